/- The G-machine, part 4: an evaluator of translated code on typed values, and that it is sound. No conditions. -/
import Derived.Test.YtnbehmbjoanfoaaGm3
import Derived.Laws.Sem
import Derived.Laws.StructEq
import Derived.KernelRfl
import Derived.Lib.Bytealg
import Derived.Laws.Strings
import Derived.Laws.BitsLemmas
import Derived.DataReads
import Derived.ChangeArms
import Derived.ChangeShapes
import Derived.ChangeMaps5
import Derived.Carry
import Derived.ChangeCalls
import Derived.RowKit3
import Derived.Shelf.Strings.OnBuilder
import Derived.Laws.Cover4
import Derived.Laws.CopyRow
import Derived.Deep.RegionLaw
import Derived.Below
import Derived.Lib.AppendZerosOnto
import Derived.Lib.Overlaps
import Derived.Sort.Row
import Derived.Sort.Grow
import Derived.Sort.EncStr
import Derived.Lib.SlicesCompact
import Derived.Handed
namespace Go.Gm
open Go
variable {wl : World} {R : Type} {P : Program} {E : Env} {w0 w w' : World} {Mf : Nat → Prop} {g : Gh} {st : St} {a : Act}
theorem ye{N M:Nat}{ps:List Nat}(hNM:N≤M):∀{c:Code},codeOk N ps c=true→codeOk M ps c=true:=by
 have ops:∀{l:List Oper},ub N ps l=true→ub M ps l=true:=by
  intro l h
  simp only[ub,List.all_eq_true] at h ⊢
  intro o ho
  have:=h o ho
  cases hd:o.dst with
  |none=>rfl
  |some d=>
   rw[hd] at this
   simp only[Bool.and_eq_true] at this ⊢
   refine⟨?_,this.2⟩
   have h1:=this.1
   rw[Nat.blt_eq] at h1 ⊢
   omega
 intro c
 induction c with
 |region id o d=>exact ops
 |seq a b Zx Zy=>intro h;simp only[codeOk,Bool.and_eq_true] at h ⊢;exact⟨Zx h.1,Zy h.2⟩
 |cond x a b Zx Zy=>intro h;simp only[codeOk,Bool.and_eq_true] at h ⊢;exact⟨Zx h.1,Zy h.2⟩
 |block id c ih=>intro h;simp only[codeOk] at h ⊢;exact ih h
 |loop c ih=>intro h;simp only[codeOk] at h ⊢;exact ih h
 |_=>intro h;rfl
def jF(own:Bool)(p:Bool):Am:=cond p .bX (cond own .jK .ro)
theorem iX.len:∀{l:List (Nat×Sv)}{us:List Value},iX w g st l us→us.length=l.length
 | [],[],_=>rfl
 | [],_::_,h=>h.elim
 |_::_,[],h=>h.elim
 |_::_,_::_,h=>by simp[iX.len h.2]
def l3(tmps:Array Value):ResultVar→Sem Value
 | .tmp t=>pure (tmps.getD t undef)
 | .cell x t=>do loadVar t (← asAddr (tmps.getD x undef))
theorem jW(hE:E.Ok P)(I:Inv w0 Mf g st a w){own:Bool}:∀{Mv:List ResultVar}{ps:List Bool}{Ts:List Nat}{k:List (Am×Nat×Sv)→Option R}{r:R},fT E st own Mv ps Ts k=some r→
    ∃l vs,k l=some r∧(Mv.mapM (l3 a.tmps)).run P w = .ok vs w∧iX w g st (l.map (·.2)) vs∧l.map (·.1)=ps.map (jF own)
 | [],[],[],k,r,h=>⟨[],[],h,by simp[Sem.run_pure],trivial,rfl⟩
 | .tmp t::Mv,p::ps,T::Ts,k,r,h=>by
  simp only[fT] at h
  obtain⟨s,hs,h⟩:=aR h
  obtain⟨l,vs,h1,h2,h3,h4⟩:=jW hE I h
  obtain⟨u,hu,hr⟩:=I.az t s hs
  refine⟨_,u::vs,h1,?_,⟨hr,h3⟩,by simp[h4,jF]⟩
  have lS:a.tmps.getD t undef=u:=by simp[hu]
  simp only[List.mapM_cons,Sem.run_bind,l3,Sem.run_pure,Result.andThen_ok,h2,lS]
 | .cell x T'::Mv,false::ps,_::Ts,k,r,h=>by
  simp only[fT] at h
  split at h
  case h_2=>cases h
  rename_i b hs
  obtain⟨y,hy,h⟩:=aR h
  obtain⟨t,ht,h⟩:=aR h
  obtain⟨hlen,h⟩:=bg h
  have hlen:=gB hlen
  obtain⟨c,hc,h⟩:=aR h
  obtain⟨l,vs,h1,h2,h3,h4⟩:=jW hE I h
  obtain⟨u,hu,hr⟩:=I.az x _ hs
  have hp:u = .pointer (some ⟨g.bx b,0,none⟩):=hr.2.1
  subst hp
  obtain⟨us,el,hb,fc⟩:=I.boxes b y hy
  have dQ:us.size=y.cs.length:=fc.1
  have hex:us.extract 0 (0+ao t)=us:=by
   rw[Nat.zero_add,hlen,←dQ];simp
  obtain⟨v,hv,eM⟩:=o0 (P:=P) (w:=w) hE ht (off:=0) hb (by omega) (fun j v hj=>by rw[hex] at hj;exact fc.flat j v hj)
  rw[hex] at eM
  obtain⟨v',eI,u7⟩:=Form.of hc fc
  have:=eM.uniq eI
  subst this
  refine⟨_,v::vs,h1,?_,⟨u7,h3⟩,by simp[h4,jF]⟩
  have lS:a.tmps.getD x undef = .pointer (some ⟨g.bx b,0,none⟩):=by simp[hu]
  simp only[List.mapM_cons,Sem.run_bind,l3,lS,asAddr,Sem.run_pure,Result.andThen_ok,hv,h2]
 | [],[],_::_,k,r,h=>by simp[fT] at h
 | [],_::_,_,k,r,h=>by simp[fT] at h
 | .tmp _::_,[],_,k,r,h=>by simp[fT] at h
 | .tmp _::_,_::_,[],k,r,h=>by simp[fT] at h
 | .cell _ _::_,[],_,k,r,h=>by simp[fT] at h
 | .cell _ _::_,true::_,_,k,r,h=>by simp[fT] at h
 | .cell _ _::_,false::_,[],k,r,h=>by simp[fT] at h
theorem yf{fn:Func}{tmps:Array Value}{vs:List Value}(h:(fn.results.toList.mapM (l3 tmps)).run P w = .ok vs w):(results fn tmps).run P w = .ok (qx vs) w:=by
 have e:results fn tmps=(do let vs←fn.results.mapM (l3 tmps);pure (if h:vs.size=1 then vs[0] else .tuple vs)):=by
  unfold results
  congr
 rw[e,Array.mapM_eq_mapM_toList]
 simp only[Sem.run_bind,map_eq_pure_bind,bind_assoc,h,Result.andThen_ok,pure_bind,Sem.run_pure]
 cases vs with
 |nil=>rfl
 |cons v vs=>
  cases vs with
  |nil=>rfl
  |cons v' vs=>simp[qx]
def fN:Am→Bool | .mut | .bX=>true | _=>false
def gm:List Am→List Value→List Value
 |m::ms,u::us=>if fN m then u::gm ms us else gm ms us
 |_,_=>[]
theorem jX(I:Inv w0 Mf g st a w):∀{ms:List Am}{us:List Value}{j:Nat}{k:List (Am×Nat×Sv)→Option R}{r:R},ms.length=us.length→(∀ i∈stays j ms,∀n,i=j+n→a.tmps[i]? =us[n]?)→kM st j ms k=some r→
    ∃l,k l=some r∧iX w g st (l.map (·.2)) (gm ms us)∧l.map (·.1)=ms.filter fN
 | [],us,j,k,r,hl,hs,h=>by
  cases us with
  |nil=>exact⟨[],h,trivial,rfl⟩
  |cons _ _=>simp at hl
 |m::ms,zQ,j,k,r,hl,hs,h=>by
  cases zQ with
  |nil=>simp at hl
  |cons u us=>
   have zp:ms.length=us.length:=by simpa using hl
   have skip:stays j (m::ms)=stays (j+1) ms→fN m=false→kM st (j+1) ms k=some r→∃l,k l=some r∧iX w g st (l.map (·.2)) (gm (m::ms) (u::us))∧l.map (·.1)=(m::ms).filter fN:=by
    intro e hb h
    obtain⟨l,h1,h2,h3⟩:=jX I zp (fun i hi n hn=>by
     have:=hs i (by rw[e];exact hi) (n+1) (by omega)
     simpa using this) h
    exact⟨l,h1,by simpa [gm,hb] using h2,by simpa [hb] using h3⟩
   have take:stays j (m::ms)=j::stays (j+1) ms→fN m=true→((ak st.az j).bind fun s=>kM st (j+1) ms fun l=>k ((m,0,s)::l))=some r→
     ∃l,k l=some r∧iX w g st (l.map (·.2)) (gm (m::ms) (u::us))∧l.map (·.1)=(m::ms).filter fN:=by
    intro e hb h
    obtain⟨s,VR,h⟩:=aR h
    obtain⟨l,h1,h2,h3⟩:=jX I zp (fun i hi n hn=>by
     have:=hs i (by rw[e];exact List.mem_cons_of_mem _ hi) (n+1) (by omega)
     simpa using this) h
    obtain⟨v,hv,hr⟩:=I.az j s VR
    have hu:=hs j (by rw[e];simp) 0 (by omega)
    rw[hv] at hu
    have hvu:v=u:=by simpa using hu
    subst hvu
    exact⟨_,h1,by simpa [gm,hb,iX] using ⟨hr,h2⟩,by simp[hb,h3]⟩
   cases m with
   |ro=>exact skip rfl rfl h
   |jK=>exact skip rfl rfl h
   |sG=>exact skip rfl rfl h
   |fn=>exact skip rfl rfl h
   |Mz=>exact skip rfl rfl h
   |kp=>exact skip rfl rfl h
   | «mut» =>exact take rfl rfl h
   |bX=>exact take rfl rfl h
theorem cE.split{Pr:Nat→Prop}:∀{m1 m2:List Am}{ds:List Dt}{us:List Value}{Fs:List (Nat→Prop)},cE wl w Pr (m1++m2) ds us Fs→
    cE wl w Pr m1 (ds.take m1.length) (us.take m1.length) (Fs.take m1.length)∧cE wl w Pr m2 (ds.drop m1.length) (us.drop m1.length) (Fs.drop m1.length)
 | [],m2,ds,us,Fs,h=>⟨by simpa using cE.nil,by simpa using h⟩
 |m::m1,m2,_,_,_,h=>by
  cases h with
  |cons h hs=>
   obtain⟨h1,h2⟩:=cE.split hs
   exact⟨.cons h h1,h2⟩
theorem rC{Pr:Nat→Prop}:∀{ps:List Bool}{ds:List Dt}{us:List Value}{Fs:List (Nat→Prop)},cE wl w Pr (ps.map (jF true)) ds us Fs→gl wl w true ps ds us Fs
 | [],_,_,_,h=>by cases h;exact .nil
 |p::ps,_,_,_,h=>by
  cases h with
  |cons h hs=>
   rename_i d ds u us F Fs
   cases p with
   |true=>
    cases d with
    |fq _ _=>cases h
    |d t x=>exact .ptr ⟨rfl,h⟩ (rC hs)
   |false=>
    cases d with
    |fq _ _=>cases h
    |d t x=>exact .val (by simpa using (show gk w F t x u from h)) (rC hs)
theorem Cw{Pr:Nat→Prop}:∀{ps:List Bool}{ds:List Dt}{us:List Value}{Fs:List (Nat→Prop)},ps.all (fun p=> !p)=true→cE wl w Pr (ps.map (jF false)) ds us Fs→gl wl w false ps ds us (ps.map fun _=>Pr)
 | [],_,_,_,_,h=>by cases h;exact .nil
 |p::ps,_,_,_,hp,h=>by
  simp only[List.all_cons,Bool.and_eq_true] at hp
  cases h with
  |cons h hs=>
   rename_i d ds u us F Fs
   cases p with
   |true=>cases hp.1
   |false=>
    cases d with
    |fq _ _=>cases h
    |d t x=>exact .val (by simpa using (show lh w Pr t x u from h)) (Cw hp.2 hs)
theorem gP{Pr:Nat→Prop}:∀{ms:List Am}{mF ds:List Dt}{us:List Value}{Fs:List (Nat→Prop)},ms.length=us.length→ct ms mF ds=true→cE wl w Pr (ms.filter fN) ds (gm ms us) Fs→ey wl w ms mF us ds Fs
 | [],mF,ds,us,Fs,hl,hc,h=>by
  cases us with
  |cons _ _=>simp at hl
  |nil=>
   cases h
   cases mF with
   |nil=>exact .nil
   |cons _ _=>simp[ct] at hc
 |m::ms,mF,ds,zQ,Fs,hl,hc,h=>by
  cases zQ with
  |nil=>simp at hl
  |cons u us=>
   have zp:ms.length=us.length:=by simpa using hl
   cases m with
   |ro=>cases mF with
    |nil=>simp[ct] at hc
    |cons d0 Af=>exact .skip trivial (gP zp (by simpa [ct] using hc) h)
   |jK=>cases mF with
    |nil=>simp[ct] at hc
    |cons d0 Af=>exact .skip trivial (gP zp (by simpa [ct] using hc) h)
   |sG=>cases mF with
    |nil=>simp[ct] at hc
    |cons d0 Af=>exact .skip trivial (gP zp (by simpa [ct] using hc) h)
   |fn=>cases mF with
    |nil=>simp[ct] at hc
    |cons d0 Af=>exact .skip trivial (gP zp (by simpa [ct] using hc) h)
   |Mz=>cases mF with
    |nil=>simp[ct] at hc
    |cons d0 Af=>exact .skip trivial (gP zp (by simpa [ct] using hc) h)
   |kp=>cases mF with
    |nil=>simp[ct] at hc
    |cons d0 Af=>exact .skip trivial (gP zp (by simpa [ct] using hc) h)
   | «mut» =>
    have h:cE wl w Pr (.mut::ms.filter fN) ds (u::gm ms us) Fs:=h
    cases h with
    |cons h1 hs=>
     rename_i d ds F Fs
     cases d with
     |fq _ _=>cases h1
     |d t x=>
      obtain⟨e,xs,heq,hO⟩:=h1
      cases heq
      cases mF with
      |nil=>simp[ct] at hc
      |cons d0 Af=>exact .mut hO (gP zp (by simpa [ct] using hc) hs)
   |bX=>
    have h:cE wl w Pr (.bX::ms.filter fN) ds (u::gm ms us) Fs:=h
    cases h with
    |cons h1 hs=>
     rename_i d ds F Fs
     cases d with
     |fq _ _=>cases h1
     |d t x=>
      cases mF with
      |nil=>simp[ct] at hc
      |cons d0 Af=>
       cases d0 with
       |fq _ _=>simp[ct] at hc
       |d t0 x0=>
        simp only[ct,Bool.and_eq_true] at hc
        exact .bX h1 (gB hc.1) (gP zp hc.2 hs)
theorem Kept.mono{M N:Nat→Prop}(h:Kept w w' M)(hMN:∀k,M k→N k):Kept w w' N:=
 ⟨h.os,h.tape,h.output,⟨h.same.1,fun b hb hx=>h.same.2 b hb fun hm=>hx (hMN b hm)⟩⟩
theorem cE.len{ROa:Nat→Prop}{ms:List Am}{ds:List Dt}{us:List Value}{Fs:List (Nat→Prop)}(h:cE wl w ROa ms ds us Fs):ms.length=us.length∧ds.length=us.length∧Fs.length=us.length:=by
 induction h with
 |nil=>exact⟨rfl,rfl,rfl⟩
 |cons h hs ih=>exact⟨by simp[ih.1],by simp[ih.2.1],by simp[ih.2.2]⟩
theorem iX.Cx:∀{l m:List (Nat×Sv)}{us vs:List Value},iX w g st l us→iX w g st m vs→iX w g st (l++m) (us++vs)
 | [],_,[],_,_,h=>h
 | [],_,_::_,_,h,_=>h.elim
 |_::_,_,[],_,h,_=>h.elim
 |_::_,_,_::_,_,h,h'=>⟨h.1,iX.Cx h.2 h'⟩
theorem iX.arg:∀{l:List (Am×Nat×Sv)}{us:List Value},iX w g st (l.map (·.2)) us→ArgRel w g st l us
  | [],[],_=>trivial
  | [],_::_,h=>h.elim
  |_::_,[],h=>h.elim
  | (_,_,_)::_,_::_,h=>⟨h.1,iX.arg h.2⟩
theorem D9(hE:E.Ok P){R1 ROa:Nat→Prop}(I:Inv w R1 g st a w')(hn:g.n.r0=ROa∧g.n.wl=wl){s:Spec}{fn:Func}{ds:List Dt}{us:List Value}(hl:s.bL.length=us.length)
 (hM:∀k,R1 k→Mf k) (Yw:s.bL.all Am.reads=true→∀k,¬R1 k) {k:Kt R} {r:R} {l1 l2:List (Am×Nat×Sv)} {vs:List Value}
 (dM:(fn.results.toList.mapM (l3 a.tmps)).run P w' = .ok vs w') (Yx:iX w' g st (l1.map (·.2)) vs) (UE:l1.map (·.1)=s.res.map (jF s.own)) (Zz:iX w' g st (l2.map (·.2)) (gm s.bL us)) (PY:l2.map (·.1)=s.bL.filter fN)
 (h:(cond (s.own||(s.bL.all Am.reads&&((s.res.all fun p=> !p)&&l1.all fun a=>a.2.2.cells.all fun c=>c.names.1.isEmpty)))
 (Gm.dL E (l1++l2) st fun outs _ _ _=>cond (ct s.bL ds (outs.drop l1.length)) (k outs) none) none)=some r):
    ∃v,(results fn a.tmps).run P w' = .ok v w'∧∃outs,k outs=some r∧jy wl w w' Mf ROa s ds us outs (.returned v):=by
 obtain⟨hn,hwl⟩:=hn
 subst hwl
 obtain⟨ji,h⟩:=bg h
 simp only[Bool.or_eq_true,Bool.and_eq_true] at ji
 refine⟨qx vs,yf dM,?_⟩
 have hS:iX w' g st ((l1++l2).map (·.2)) (vs++gm s.bL us):=by rw[List.map_append];exact Yx.Cx Zz
 have Nd:(l1++l2).map (·.1)=s.res.map (jF s.own)++s.bL.filter fN:=by rw[List.map_append,UE,PY]
 obtain⟨br,I1,hh⟩:=I.dL (E:=E) (iX.arg hS) h
 let ids:=tO ((l1++l2).map (·.2))
 have R4:s.own=false→l2=[]:=fun ho=>by
  have:=(ji.resolve_left (by simp[ho])).1
  have hf:s.bL.filter fN=[]:=by
   rw[List.filter_eq_nil_iff]
   intro m hm hb
   have:=List.all_eq_true.1 this m hm
   cases m<;>simp[Am.reads,fN] at this hb
  rw[hf] at PY
  exact List.map_eq_nil_iff.1 PY
 obtain⟨outs,bs,d,Fs,Hs,h,hA,hH,L,FL,pI⟩:=hh (Reach g br s.own ids) (fun x hx _=>by
  refine xQ (args:=(l1++l2).map (·.2)) ?_ (List.mem_map.2 ⟨x,hx,rfl⟩)
  cases ho:s.own with
  |true=>exact .inl rfl
  |false=>
   refine .inr fun y hy c hc=> ?_
   rw[R4 ho,List.append_nil] at hy
   obtain⟨z,hz,rfl⟩:=List.mem_map.1 hy
   have:=(ji.resolve_left (by simp[ho])).2.2
   simp only[List.all_eq_true,List.isEmpty_iff] at this
   exact this z hz c hc)
 rw[Nd] at hA hH
 obtain⟨M7,dp,_⟩:=hH.sub FL
 obtain⟨VS,h⟩:=bg h
 refine⟨outs,h,?_⟩
 obtain⟨qT,Ms⟩:=hA.split
 have zi:(s.res.map (jF s.own)).length=s.res.length:=by simp
 have Mr:vs.length=s.res.length:=by
  have h1:=Yx.len
  have h2:=congrArg List.length UE
  simp only[List.length_map] at h1 h2
  omega
 have Mu:l1.length=s.res.length:=by
  have:=congrArg List.length UE
  simpa using this
 rw[zi] at qT Ms
 rw[Mu] at VS
 have RB:(vs++gm s.bL us).take s.res.length=vs:=by rw[← Mr];simp
 have hu2:(vs++gm s.bL us).drop s.res.length=gm s.bL us:=by rw[← Mr];simp
 rw[RB] at qT
 rw[hu2] at Ms
 have hB:=gP hl VS Ms
 have kZ:∀F∈Fs,∀n,F n→Any Hs n:=fun F hF n hn=>dp n ⟨F,hF,hn⟩
 have nE:∀F∈Fs.drop s.res.length,F∈Fs:=fun F hF=>List.mem_of_mem_drop hF
 have Qb:∀F∈Fs.take s.res.length,F∈Fs:=fun F hF=>List.mem_of_mem_take hF
 have ZA:bH (Fs.take s.res.length++Fs.drop s.res.length):=by rw[List.take_append_drop];exact M7
 obtain⟨xJ,tI,hp3⟩:=List.pairwise_append.1 ZA
 have gW:∀F∈Fs,∀n,F n→Mf n∨w.heap.size≤n:=fun F hF n hn=>((I.fL L (kZ F hF n hn)).1.fV).elim .inr fun h=> .inl (hM n h)
 have R5:∀F∈Fs,∀n,F n→n<w'.heap.size:=fun F hF n hn=>(I.fL L (kZ F hF n hn)).2
 have kept:Kept w w' Mf:=I.kept.mono hM
 cases ho:s.own with
 |true=>
  rw[ho] at qT
  refine⟨⟨vs,Fs.take s.res.length,Fs.drop s.res.length,rfl,by rw[ho];exact rC qT,hB,tI,fun B zP=>gW B (nE B zP),fun _=>⟨xJ,fun G hG=>gW G (Qb G hG)⟩,fun e=>by simp[ho] at e,
   fun G hG B zP n hg hb=>hp3 G hG B zP n hg hb,fun G hG=>R5 G (Qb G hG),fun B zP=>R5 B (nE B zP)⟩,kept⟩
 |false=>
  rw[ho] at qT
  obtain⟨Qc,ZB,_⟩:=ji.resolve_left (by simp[ho])
  have hG:∀G∈s.res.map (fun _=>Reach g br false ids),∀n,G n→Reach g br false ids n:=fun G hG n hn=>by
   obtain⟨_,_,rfl⟩:=List.mem_map.1 hG;exact hn
  refine⟨⟨vs,s.res.map (fun _=>Reach g br false ids),Fs.drop s.res.length,rfl,?_,hB,tI,fun B zP=>gW B (nE B zP),fun e=>by simp[ho] at e,fun _ G mf n YT=> ?_,
   fun G mf B zP n hg hb=>(I.reach I1 L (hG G mf n hg)).1 (kZ B (nE B zP) n hb),fun G mf n hg=>(I.reach I1 L (hG G mf n hg)).2,fun B zP=>R5 B (nE B zP)⟩,kept⟩
  ·rw[ho]
   exact Cw ZB qT
  ·rcases hG G mf n (by assumption) with h1 | ⟨_,id,_,h2,h3⟩ | ⟨e,_⟩
   ·rcases I.apart.bM n h1 with h4 | h4 | h4
    ·rw[hn] at h4;exact .inl h4
    ·exact .inr h4
    ·exact (Yw Qc n h4).elim
   ·rcases I1.apart.cj id n h2 h3 with h4 | h4
    ·exact .inr h4
    ·exact (Yw Qc n h4).elim
   ·cases e
theorem Ah(hE:E.Ok P){R1 ROa:Nat→Prop}(I:Inv w R1 g st a w')(hn:g.n.r0=ROa∧g.n.wl=wl){s:Spec}{fn:Func}{Ts:List Nat}{ds:List Dt}{us:List Value}(hl:s.bL.length=us.length)
 (VT:∀j∈stays 0 s.bL,a.tmps[j]? =us[j]?) (hM:∀k,R1 k→Mf k) (Yw:s.bL.all Am.reads=true→∀k,¬R1 k) {k:Kt R} {r:R}
 (h:rA E s.bL s.res s.own fn.results.toList Ts ds st k=some r):
    ∃v,(results fn a.tmps).run P w' = .ok v w'∧∃outs,k outs=some r∧jy wl w w' Mf ROa s ds us outs (.returned v):=by
 unfold rA at h
 obtain⟨l1,vs,h,dM,Yx,UE⟩:=jW hE I h
 obtain⟨l2,h,Zz,PY⟩:=jX I (us:=us) hl (fun i hi n kZ=>by rw[VT i hi];congr 1;omega) h
 exact D9 hE I hn hl hM Yw dM Yx UE Zz PY h
theorem fn_sound(hE:E.Ok P)(hN:E.jV){f:Nat}{fn:Func}{c:Code}(hf:P.funcs[f]? =some fn)(hb:fn.body=some c)(s:Spec)(ke:s.shape=[])(Ts:List Nat)(n5:codeOk fn.ntmps (stays 0 s.bL) c=true)
 (dM:∀{R:Type}(ds:List Dt)(k:Kt R)(r:R),s.fn ds k=some r→∃keep rounds,aO E keep rounds c s.bL s.res s.own fn.results.toList Ts ds k=some r):fb P f s:=by
  intro R ds k r h wl w us Mf ROa Fs Hg No hA hp Cy Mw tg mj
  obtain⟨keep,rounds,h⟩:=dM ds k r h
  unfold aO at h
  obtain⟨Mu,_,_⟩:=hA.len
  rw[ke]
  show Calls P f us.toArray w _
  refine calls_of_wp hf hb ?_
  let a0:Act:={ tmps:=us.toArray++Array.replicate (fn.ntmps-us.toArray.size) undef,defers:=[] }
  let F0:Fx:=⟨a0.tmps.size,ROa,wl⟩
  let g0:Gh:={ rv:=fun _ _=>undef,rf:=fun _ _=>False,bx:=fun _=>0,ro:=ROa,n:=F0 }
  have dQ:fn.ntmps≤F0.sz:=by
    show fn.ntmps≤(us.toArray++Array.replicate (fn.ntmps-us.toArray.size) undef).size
    simp;omega
  have Cz:∀n,lC s.bL Fs n→Mf n:=fun n hg=>by obtain⟨F,hF,h⟩:=hg.any;exact Cy F hF n h
  have UF:∀id,¬aT ⟨[],[],[]⟩ id:=fun id ⟨r,h,_⟩=>by simp[ak] at h
  have Yy:∀b,¬bz ⟨[],[],[]⟩ b:=fun b h=>by simp[bz,ak] at h
  have I0:Inv w (lC s.bL Fs) g0 ⟨[],[],[]⟩ a0 w:=
    { az:=fun s sv h=>by simp[ak] at h
      boxes:=fun b x h=>by simp[ak] at h
      roots:=fun id r h=>by simp[ak] at h
      apart:={
        rr:=fun id aK k h=>(UF id h).elim
        rb:=fun id b h=>(UF id h).elim
        bb:=fun b b' h=>(Yy b h).elim
        ew:=fun id k h=>(UF id h).elim
        fI:=fun b h=>(Yy b h).elim
        cj:=fun id k h=>(UF id h).elim
        dN:=fun b h=>(Yy b h).elim
        er:=fun id k h=>(UF id h).elim
        da:=tg
        bM:=fun k h=> .inl h }
      kept:=⟨rfl,rfl,rfl,Nat.le_refl _,fun _ _ _=>rfl⟩
      defers:=rfl
      size:=rfl
      base:=⟨No,fun k h hg=>Mw k h (Cz k hg),fun k h=>h⟩ }
  have oZ:∀(i:Nat) u,us[i]? =some u→a0.tmps[0+i]? =some u:=fun i u hu=>by
    have hi:i<us.length:=by
      rcases Nat.lt_or_ge i us.length with h' | h'
      · exact h'
      · simp[List.getElem?_eq_none h'] at hu
    show (us.toArray++Array.replicate (fn.ntmps-us.toArray.size) undef)[0+i]? =some u
    rw[Nat.zero_add,Array.getElem?_append_left (by simpa using hi)]
    simpa using hu
  obtain⟨g1,br,h,Np,I1⟩:=lD (ROa:=ROa) I0 oZ hA hp (fun n hg=>⟨⟨fun id h=>(UF id h).elim,fun h=>Mw n h (Cz n hg),fun b h=>(Yy b h).elim,.inr hg⟩,mj n (Cz n hg)⟩) rfl h
  have R6:Hc (stays 0 s.bL) (fun j=>us[j]?) a0.tmps:=by
    have s8:∀{ms:List Am}{j:Nat}{x:Nat},x∈stays j ms→x<j+ms.length:=by
      intro ms
      induction ms with
      |nil=>intro j x h;simp[stays] at h
      |cons m ms ih=>
        intro j x h
        cases m<;>simp only[stays,List.mem_cons] at h<;>first
          | (have:=ih h;simp only[List.length_cons];omega)
          | (rcases h with rfl | h
             · simp
             · have:=ih h;simp only[List.length_cons];omega)
    intro j hj
    have sR:=s8 hj
    have cc:j<us.length:=by omega
    have:=oZ j us[j] (by simp[cc])
    rw[Nat.zero_add] at this
    rw[this];simp[cc]
  refine Hd hE hN (F:=F0) Hg c (ye dQ n5) h Np I1 R6 fun e g' aI a' w' hk mw I' pT=> ?_
  have fin:rA E s.bL s.res s.own fn.results.toList Ts ds aI k=some r→a'.defers=[]∧∃v,(results fn a'.tmps).run P w' = .ok v w'∧∃outs,k outs=some r∧jy wl w w' Mf ROa s ds us outs (.returned v):=fun hk=>
    ⟨I'.defers,Ah hE I' ⟨by rw[mw],by rw[mw]⟩ Mu pT Cz (fun dm n hn=>lC.none dm hn) hk⟩
  cases e with
  |normal=>exact fin hk
  |ret=>exact fin hk
  |exit id=>cases hk
end Go.Gm
namespace Go.Gm
open Go
section
variable {R : Type}
def gd(E:Env)(keep:Nat→Kp)(n:Nat)(b:Code)(k:Kx R):Kx R:=fun e st=>match e with
 | .normal=>ev E keep n b st k
 |e=>k e st
def cL(id:Nat)(k:Kx R):Kx R:=fun e st=>match e with
 | .exit aK=>cond (Nat.beq aK id) (k .normal st) (k (.exit aK) st)
 |e=>k e st
def bt(E:Env)(bL:List Am)(res:List Bool)(own:Bool)(Mv:List ResultVar)(Ts:List Nat)(ds:List Dt)(k:Kt R):Kx R:=fun e st=>match e with
 | .exit _=>none
 |_=>rA E bL res own Mv Ts ds st k
end
def cM:List Nat→Code→Code
 | [],c=>c
 |i::p,.seq a b=>cond (Nat.beq i 0) (cM p a) (cM p b)
 |i::p,.cond _ a b=>cond (Nat.beq i 0) (cM p a) (cM p b)
 |_::p,.block _ a=>cM p a
 |_::p,.loop a=>cM p a
 |_,c=>c
def fF:List Kp→Nat→Kp
 | [],_=>⟨[],[],[],[]⟩
 |a::r,n=>cond (Nat.beq n 0) a (fF r (n-1))
def bs(l:List Nat):BA:=⟨(l.map UInt8.ofNat).toArray⟩
def Spec.of(bL:List Am)(res:List Bool)(own:Bool)(q:Qt):Spec:=
  { bL,res,own,fn:=fun ds k=>match q ds with | some (g,outs)=>cond g (k outs) none | none=>none }
theorem Spec.aG(bL:List Am)(res:List Bool)(own:Bool)(q:Qt):(Spec.of bL res own q).jV:=by
 intro ds
 show ∃q':Option (List Dt),∀(R:Type)(k:Kt R),(match q ds with | some (g,outs)=>cond g (k outs) none | none=>none)=q'.bind k
 cases q ds with
 |none=>exact⟨none,fun _ _=>rfl⟩
 |some go=>
  obtain⟨g,outs⟩:=go
  cases g with
  |true=>exact⟨some outs,fun _ _=>rfl⟩
  |false=>exact⟨none,fun _ _=>rfl⟩
theorem Spec.nF{bL:List Am}{res:List Bool}{own:Bool}{q:Qt}{R:Type}{ds:List Dt}{k:Kt R}{r:R}(h:(Spec.of bL res own q).fn ds k=some r):
    ∃outs,q ds=some (true,outs)∧k outs=some r:=by
 have h:(match q ds with | some (g,outs)=>cond g (k outs) none | none=>none)=some r:=h
 cases hq:q ds with
 |none=>rw[hq] at h;cases h
 |some go=>
  obtain⟨g,outs⟩:=go
  rw[hq] at h
  obtain⟨h1,h2⟩:=bg h
  exact⟨outs,by rw[h1],h2⟩
theorem aM{P:Program}{E:Env}(hE:E.Ok P)(hN:E.jV){f:Nat}{fn:Func}(hf:P.funcs[f]? =some fn){c:Code}(hb:fn.body=some c){bL:List Am}{res:List Bool}{own:Bool}{q:Qt}(Ts:List Nat)
 (n5:codeOk fn.ntmps (stays 0 bL) c=true)
 (dM:∀ds outs,q ds=some (true,outs)→∃keep rounds,∀{R:Type}(k:Kt R),aO E keep rounds c bL res own fn.results.toList Ts ds k=k outs):fb P f (Spec.of bL res own q):=by
 refine fn_sound hE hN hf hb _ rfl Ts n5 fun ds k r h=> ?_
 obtain⟨outs,hq,hk⟩:=Spec.nF h
 obtain⟨keep,rounds,he⟩:=dM ds outs hq
 exact⟨keep,rounds,(he k).trans hk⟩
structure yg where
 code:List (Nat×Ty)
 eqs:List (Nat×List Ty)
 pL:List (Nat×List (Nat×Nat))
def Nq:List (Nat×Spec)→Nat→Option Spec
  | [],_=>none
  | (k,v)::r,n=>cond (Nat.beq n k) (some v) (Nq r n)
def yg.env(t:yg)(l:List (Nat×Spec)):Env:=
  { code:=fun T=>ak t.code T,eq:=fun T=>ak t.eqs T,pL:=fun T f=>(ak t.pL T).bind fun l=>l[f]?,spec:=fun f=>Nq l f }
theorem rD:∀{l:List (Nat×Spec)}{f:Nat}{s:Spec},Nq l f=some s→(f,s)∈l
  | (k,v)::r,f,s,h=>by
    simp only[Nq] at h
    cases hb:Nat.beq f k with
    |true=>rw[hb] at h;cases h;rw[gB hb];simp
    |false=>rw[hb] at h;exact List.mem_cons_of_mem _ (rD h)
def Good(P : Program)(x : Nat × Spec): Prop := (fb P x.1 x.2 ∧ ∃ fn, P.funcs[x.1]? = some fn ∧ fn.body.isSome ∧ fn.name ≠ "runtime.NumGoroutine") ∧ x.2.jV
theorem yg.cz(t:yg){P:Program}{l:List (Nat×Spec)}(h:∀x∈l,Good P x):(t.env l).jV:=fun _ _ hs=>(h _ (rD hs)).2
structure yg.Ok (t:yg) (P:Program):Prop where
 info:∀x∈t.code,∃i zv,P.info? x.1=some i∧i.size=ao x.2∧i.bytes≤1024∧i.zero=some zv∧zv.cells=(dY x.2).toArray
 pN:∀x∈t.code,bl (t.env []) P x.1 x.2
 pL:∀x∈t.pL,∃fs:Array Field,P.underlying x.1=some (.struct fs)∧x.2=fs.toList.map (fun f=>(f.offset,f.type))∧(∀ y∈x.2,(ak t.code y.2).isSome)∧(fs.toList.mapM (fun f=>(P.info? f.type).map fun i=>(f.offset,i.size))).isSome
 Uk:∀x∈t.code,e8 x.2=true→x.1∈t.pL.map (·.1)
 eqs:∀x∈t.eqs,∀(us vs:Array Value)(e:Bool),et x.2 us.toList vs.toList=some e→∀w,
  (Op.equal x.1 (.agg us) (.agg vs)).run P w = .ok e w∧(∀ op a b,(eqGuard op x.1 a b (.agg us) (.agg vs)).run P w = .ok () w)
 ord:P.follows .mixedOrders=true
theorem bl.env{t:yg}{l:List (Nat×Spec)}{P:Program}{T:Nat}{ty:Ty}(h:bl (t.env []) P T ty):bl (t.env l) P T ty:=by
 unfold bl at *
 cases ty<;>exact h
theorem yg.Ok.env{t:yg}{P:Program}(h:t.Ok P){l:List (Nat×Spec)}(hl:∀x∈l,Good P x):(t.env l).Ok P:={
 info:=fun T ty hT=>h.info (T,ty) (eV hT)
 pN:=fun T ty hT=>(h.pN (T,ty) (eV hT)).env
 pL:=fun T f off ft hf=>by
  have hf:(ak t.pL T).bind (fun l=>l[f]?)=some (off,ft):=hf
  obtain⟨L,hL,hf⟩:=Option.bind_eq_some_iff.1 hf
  obtain⟨fs,h1,h2,h3,_⟩:=h.pL (T,L) (eV hL)
  have h2:L=fs.toList.map (fun f=>(f.offset,f.type)):=h2
  have hc:=h3 (off,ft) (List.mem_of_getElem? hf)
  obtain⟨ty,ZC⟩:=Option.isSome_iff_exists.1 hc
  rw[h2] at hf
  obtain⟨fd,Ri,he⟩:∃fd,fs.toList[f]? =some fd∧(fd.offset,fd.type)=(off,ft):=by simpa using hf
  cases he
  exact⟨fs,fd,ty,h1,by simpa using Ri,rfl,rfl,ZC⟩
 Uk:=fun T fs hu hT=>by
  obtain⟨ty,ZC⟩:=Option.isSome_iff_exists.1 hT
  have hm:=eV (l:=t.code) ZC
  have vi:=h.pN (T,ty) hm
  cases hs:e8 ty with
  |false=>
   exfalso
   cases ty with
   |i k=>have h1:P.underlying T=some (.int k):=vi;rw[hu] at h1;cases h1
   |bool=>have h1:P.underlying T=some .bool:=vi;rw[hu] at h1;cases h1
   |str=>have h1:P.underlying T=some .string:=vi;rw[hu] at h1;cases h1
   |sl e=>obtain⟨el,h1,_⟩:=(vi:∃el,P.underlying T=some (.slice el)∧(t.env []).code el=some e);rw[hu] at h1;cases h1
   |_=>cases hs
  |true=>
   have hk:=h.Uk (T,ty) hm hs
   obtain⟨x,hx,he⟩:=List.mem_map.1 hk
   obtain⟨fs',h1,_,_,h4⟩:=h.pL x hx
   have he:x.1=T:=he
   rw[he,hu] at h1
   cases h1
   exact Option.isSome_iff_exists.1 h4
 spec:=fun f s hs=>(hl (f,s) (rD hs)).1
 eqs:=fun T ts hT=>h.eqs (T,ts) (eV hT)
 ord:=h.ord }
def D'(P:Program):Nat→List Field→List Ty→Bool
 |_,[],[]=>true
 |o, f :: fs, t :: ts => (f.name != "_") && ((f.offset == o) && (P.plainKey f.type && ((match t, P.underlying f.type with
   | .i q,some (.int q')=>decide (q=q') | .str,some .string=>true | .bool,some .bool=>true | _,_=>false)&&D' P (o+1) fs ts)))
 |_,_,_=>false
theorem ib{P:Program}{T:Nat}{ts:List Ty}(ht:P.underlying T=some (.struct (P.fieldsOf T)))(hp:P.stoodInHeld T=false)(hm:P.eqGuardType P.depth T=false)(hf:D' P 0 (P.fieldsOf T).toList ts=true):
    ∀(us vs:Array Value)(e:Bool),et ts us.toList vs.toList=some e→∀w,
 (Op.equal T (.agg us) (.agg vs)).run P w = .ok e w∧(∀ op a b,(eqGuard op T a b (.agg us) (.agg vs)).run P w = .ok () w):=by
 intro us vs e he w
 refine⟨?_,fun op a b=>run_eqGuard_agg w op T a b us vs hm⟩
 have key:∀(d:Nat)(fs:List Field)(ts:List Ty)(o:Nat)(us' Nr:List Value)(e:Bool),D' P o fs ts=true→us.toList.drop o=us'→vs.toList.drop o=Nr→et ts us' Nr=some e→(Op.eqFields (d+1) us vs fs).run P w = .ok e w:=by
  intro d fs
  induction fs with
  |nil=>
   intro ts o us' Nr e hf hu hv he
   cases ts with
   |cons _ _=>simp[D'] at hf
   |nil=>
    cases us' with
    |cons _ _=>simp[et] at he
    |nil=>
     cases Nr with
     |cons _ _=>simp[et] at he
     |nil=>cases he;simp[Op.eqFields]
  |cons f fs ih=>
   intro ts o us' Nr e hf hu hv he
   cases ts with
   |nil=>simp[D'] at hf
   |cons t ts=>
    simp only[D',Bool.and_eq_true,bne_iff_ne,ne_eq,beq_iff_eq] at hf
    obtain⟨hn,ho,hk,CA,hf⟩:=hf
    have cell:∀{xs:Array Value}{x:Value}{r:List Value},xs.toList.drop o=x::r→xs[f.offset]? =some x∧xs.toList.drop (o+1)=r:=by
     intro xs x r h
     have h0:=congrArg (·[0]?) h
     simp only[List.getElem?_drop,Nat.add_zero,List.getElem?_cons_zero] at h0
     refine⟨by rw[ho];simpa using h0,?_⟩
     rw[← List.drop_drop,h];rfl
    have step:∀(x y:Value)(r s:List Value)(b e':Bool),us'=x::r→Nr=y::s→(Op.equalIn (d+1) f.type x y).run P w = .ok b w→et ts r s=some e'→e=(b&&e')→(Op.eqFields (d+1) us vs (f::fs)).run P w = .ok e w:=by
     intro x y r s b e' e1 e2 hr DI Ul
     subst e1;subst e2
     obtain⟨c1,c2⟩:=cell hu
     obtain⟨c3,c4⟩:=cell hv
     have:=ih ts (o+1) r s e' hf c2 c4 DI
     simp only[Op.eqFields,hn,ne_eq,not_false_eq_true,if_true,Sem.run_bind,run_part_plain w hk c1,run_part_plain w hk c3,hr,Result.andThen_ok]
     cases b
     ·simp[Ul]
     ·simpa [Ul] using this
    cases t<;>try (simp[et] at he;done)
    all_goals
     rcases us' with _ | ⟨x,r⟩
     ·simp[et] at he
     rcases Nr with _ | ⟨y,s⟩
     ·cases x<;>simp[et] at he
     cases x<;>cases y<;>try (simp[et] at he;done)
    ·rename_i q k a k' b
     simp only[et] at he
     obtain⟨hq,he2⟩:(decide (k=q)&&decide (k'=q))=true∧((et ts r s).bind fun e=>some ((a==b)&&e))=some e:=bg he
     simp only[Bool.and_eq_true,decide_eq_true_eq] at hq
     clear he
     obtain⟨e1,e2⟩:=hq
     subst e1;subst e2
     obtain⟨e',DI,he⟩:=aR he2
     cases lS:P.underlying f.type with
     |none=>rw[lS] at CA;cases CA
     |some td=>
      rw[lS] at CA
      cases td<;>try cases CA
      rename_i q'
      exact step _ _ _ _ _ e' rfl rfl (run_equalIn_int w d f.type _ _ a b lS) DI (Option.some.inj he).symm
    ·rename_i a b
     simp only[et] at he
     obtain⟨e',DI,he⟩:=aR he
     cases lS:P.underlying f.type with
     |none=>rw[lS] at CA;cases CA
     |some td=>
      rw[lS] at CA
      cases td<;>try cases CA
      exact step _ _ _ _ _ e' rfl rfl (run_equalIn_bool w d f.type a b lS) DI (Option.some.inj he).symm
    ·rename_i a b
     simp only[et] at he
     obtain⟨e',DI,he⟩:=aR he
     cases lS:P.underlying f.type with
     |none=>rw[lS] at CA;cases CA
     |some td=>
      rw[lS] at CA
      cases td<;>try cases CA
      exact step _ _ _ _ _ e' rfl rfl (run_equalIn_string w d f.type a b lS) DI (by rw[← beq_toListBytes];exact (Option.some.inj he).symm)
 have:=run_equalIn_struct w 9999 T us vs ht hp
 show (Op.equalIn (9999+1) T (.agg us) (.agg vs)).run P w = .ok e w
 rw[this]
 exact key 9998 _ ts 0 _ _ e hf rfl rfl he
def Hh:Value→Value→Bool
 | .int k n,.int k' n'=>decide (k=k')&&decide (n=n')
 | .bool a,.bool b=>decide (a=b)
 | .string a,.string b=>decide (a.data=b.data)
 | .slice none 0 0,.slice none 0 0=>true
 |_,_=>false
theorem Hi{u v:Value}(h:Hh u v=true):u=v:=by
 unfold Hh at h
 split at h
 ·simp only[Bool.and_eq_true,decide_eq_true_eq] at h;rw[h.1,h.2]
 ·simp only[decide_eq_true_eq] at h;rw[h]
 ·rename_i a b
  simp only[decide_eq_true_eq] at h
  cases a;cases b;cases h;rfl
 ·rfl
 ·cases h
def vG:List Value→List Value→Bool
 | [],[]=>true
 |u::us,v::vs=>Hh u v&&vG us vs
 |_,_=>false
theorem uc:∀{us vs:List Value},vG us vs=true→us=vs
 | [],[],_=>rfl
 | [],_::_,h=>by cases h
 |_::_,[],h=>by cases h
 |u::us,v::vs,h=>by
  simp only[vG,Bool.and_eq_true] at h
  rw[Hi h.1,uc h.2]
def CB(P:Program)(x:Nat×Ty):Bool:=
  match P.info? x.1 with
 |some i=>Nat.beq i.size (ao x.2)&&(Nat.ble i.bytes 1024&&(match i.zero with | some zv=>vG zv.cells.toList (dY x.2) | none=>false))
 |none=>false
theorem rE{P:Program}{l:List (Nat×Ty)}(h:l.all (CB P)=true):∀x∈l,∃i zv,P.info? x.1=some i∧i.size=ao x.2∧i.bytes≤1024∧i.zero=some zv∧zv.cells=(dY x.2).toArray:=by
 intro x hx
 have h:=List.all_eq_true.1 h x hx
 unfold CB at h
 split at h
 ·rename_i i hi
  simp only[Bool.and_eq_true] at h
  obtain⟨h1,h2,h3⟩:=h
  split at h3
  ·rename_i zv hz
   exact⟨i,zv,hi,gB h1,gT h2,hz,by have:=uc h3;apply Array.ext';simpa using this⟩
  ·cases h3
 ·cases h
theorem Hj(i b j:Nat):ld i b i j=Nat.ble b j:=by
 rw[Bool.eq_iff_iff,fD,Nat.ble_eq];omega
theorem VU{a i j:Nat}(h:a≤i):ld a 0 i j=true:=fD.2 (by omega)
end Go.Gm
namespace Go.Gm
open Go
variable {wl : World} {w w' : World} {Mf ROa : Nat → Prop}
theorem nG{Pr:Nat→Prop}{t:Ty}{x:El t}{v u:Value}(he:enc t x=[.v v])(hs:e8 t=false)(h:lh w Pr t x u):u=v:=by
 obtain⟨us,hf,hr⟩:=h
 obtain⟨e,_⟩:=hf.size hs
 subst e
 rw[he] at hr
 obtain⟨z,hz,hc⟩:=hr.2 0 (.v v) rfl
 have hz:u=z:=by simpa using hz
 rw[hz];exact hc
theorem Hk{F:Nat→Prop}{t:Ty}{x:El t}{v:Value}(he:enc t x=[.v v])(hs:e8 t=false)(hf:cO v=true):gk w F t x v:=by
 refine⟨#[v],by simp[Form,hs,hf],fun _ _=>False,fun _ _ h=>h.elim,fun _ _ _ h=>h.elim,by simp[he],fun j c hc=> ?_⟩
 rw[he] at hc
 cases j with
 |zero=>simp only[List.getElem?_cons_zero,Option.some.injEq] at hc;subst hc;exact⟨v,rfl,rfl⟩
 |succ j=>simp at hc
theorem rF:∀{ms:List Am}{ds:List Dt}{us:List Value},ms.all Am.reads=true→ms.length=us.length→ds.length=us.length→ey wl w ms ds us [] []
 | [],[],[],_,_,_=> .nil
 |m::ms,d::ds,u::us,h,h1,h2=>by
  simp only[List.all_cons,Bool.and_eq_true] at h
  refine .skip ?_ (rF h.2 (by simpa using h1) (by simpa using h2))
  cases m<;>first | trivial | exact absurd h.1 (by simp[Am.reads])
 | [],_::_,[],_,_,h=>by simp at h
 | [],_,_::_,_,h,_=>by simp at h
 |_::_,_,[],_,h,_=>by simp at h
 |_::_,[],_::_,_,_,h=>by simp at h
theorem jy.one{s:Spec}(dO:s.own=true)(oq:s.res=[false])(hm:s.bL.all Am.reads=true){ds:List Dt}{us:List Value}(h1:s.bL.length=us.length)(h2:ds.length=us.length){t:Ty}{x:El t}{v:Value}(he:enc t x=[.v v])
 (hs:e8 t=false) (hf:cO v=true):jy wl w w Mf ROa s ds us [.d t x] (.returned v):=by
 refine⟨⟨[v],[fun _=>False],[],rfl,?_,?_,List.Pairwise.nil,fun B hB=>by simp at hB,fun _=>⟨by unfold bH;simp,fun G hG k hk=> ?_⟩,fun e=>absurd (dO.symm.trans e) (by simp),fun G hG B hB=>by simp at hB,fun G hG k hk=> ?_,fun B hB=>by simp at hB⟩,⟨rfl,rfl,rfl,Nat.le_refl _,fun _ _ _=>rfl⟩⟩
 ·rw[dO,oq];exact .val (by simpa using Hk he hs hf) .nil
 ·rw[oq];exact rF hm h1 h2
 ·have:G=fun _=>False:=by simpa using hG
  subst this;exact hk.elim
 ·have:G=fun _=>False:=by simpa using hG
  subst this;exact hk.elim
theorem Ai{P:Program}{f:Nat}{bL:List Am}{q:Qt}(hm:bL.all Am.reads=true)
 (h:∀ds outs,q ds=some (true,outs)→∃t x v,outs=[.d t x]∧enc t x=[.v v]∧e8 t=false∧cO v=true∧
      ∀{wl:World} w us ROa Fs,cE wl w ROa bL ds us Fs→Calls P f us.toArray w fun e w'=>e = .returned v∧w'=w):fb P f (Spec.of bL [false] true q):=by
 intro R ds k r hr wl w us Mf ROa Fs Hg No hA hp Cy Mw tg mj
 obtain⟨outs,hq,hk⟩:=Spec.nF hr
 obtain⟨t,x,v,rfl,he,hs,hf,hc⟩:=h ds outs hq
 refine Calls.mono (hc w us ROa Fs hA) ?_
 rintro e w' ⟨rfl,rfl⟩
 obtain⟨h1,h2,_⟩:=hA.len
 exact⟨_,hk,jy.one rfl rfl hm h1 h2 he hs hf⟩
end Go.Gm
namespace Go.Gm
open Go
theorem cC{x:Int}(h : -9223372036854775808≤x)(h':x<9223372036854775808):IntKind.wrap .i64 x=x:=by
 rw[IntKind.wrap_i64];omega
theorem nH{x y:BA}:fX x y=true↔x=y:=by
 unfold fX
 constructor
 ·intro h
  have h:=(beq_iff_eq.1 h)
  rw[ByteArray.toList_eq,ByteArray.toList_eq] at h
  cases x;cases y
  simp at h
  rw[h]
 ·rintro rfl;simp
theorem jn(x:BA):fX x x=true:=nH.2 rfl
theorem idx{n j:Nat}(h:j<n)(hb:n≤9223372036854775807):decide ((j:Int)<(n:Int))=true∧decide ((0:Int)≤(j:Int))=true∧IntKind.wrap .i64 ((j:Int)+(1:Int))=((j+1:Nat):Int)∧Int.toNat (j:Int)=j:=
 ⟨by simp;omega,by simp,by rw[cC (by omega) (by omega)];omega,by simp⟩
theorem kn(n:Nat):decide ((n:Int)<(n:Int))=false:=by simp
def ic(p:Nat→Bool):Nat→Nat→Bool
 |_,0=>true
 |j,d+1=>p j&&ic p (j+1) d
theorem eW{R:Type}{F:Nat→Int→Option R}{n:Nat}{p:Nat→Bool}{good bad:Option R}(hs:∀m j,j<n→F (m+1) (j:Int)=cond (p j) (F m ((j+1:Nat):Int)) bad)(he:∀m,F (m+1) (n:Int)=good):
    ∀d j m,j+d=n→d<m→F m (j:Int)=cond (ic p j d) good bad:=by
 intro d
 induction d with
 |zero=>
  intro j m hj hm
  obtain⟨m,rfl⟩:∃m',m=m'+1:=⟨m-1,by omega⟩
  have:j=n:=by omega
  subst this
  rw[he];rfl
 |succ d ih=>
  intro j m hj hm
  obtain⟨m,rfl⟩:∃m',m=m'+1:=⟨m-1,by omega⟩
  rw[hs m j (by omega),ih (j+1) m (by omega) (by omega)]
  simp only[ic]
  cases p j<;>rfl
theorem nI{p:Nat→Bool}:∀{d j:Nat},ic p j d=true↔∀i,j≤i→i<j+d→p i=true
 |0,j=>by simp only[ic,true_iff];intro i h1 h2;omega
 |d+1,j=>by
  simp only[ic,Bool.and_eq_true,nI]
  constructor
  ·rintro⟨h1,h2⟩ i h3 h4
   by_cases e:i=j
   ·subst e;exact h1
   ·exact h2 i (by omega) (by omega)
  ·intro h
   exact⟨h j (Nat.le_refl _) (by omega),fun i h1 h2=>h i (by omega) (by omega)⟩
theorem l4{α:Type}{xs:List α}{j:Nat}{x:α}(h:xs[j]? =some x):j<xs.length:=by
 rcases Nat.lt_or_ge j xs.length with h' | h'
 ·exact h'
 ·simp[List.getElem?_eq_none h'] at h
theorem rG{α:Type}{xs:List α}{j:Nat}(h:j<xs.length):∃x,xs[j]? =some x∧xs.drop j=x::xs.drop (j+1):=
 ⟨xs[j],by simp[h],by simp⟩
def VV:Nat:=9223372036854775807
def eD(s:BA):Bool:=Nat.ble s.size VV
def R7:Cv→Ty
 | .v (.int k _)=> .i k
 | .v (.bool _)=> .bool
 | .v (.string _)=> .str
 | .l t _=> .sl t
 | .v (.slice _ _ _)=> .ed
 |_=> .bool
def sig(t:Ty):List Ty:=(enc t (zero t)).map R7
def CTy:Ty→Cv→Prop
 | .i k,c=>∃n,c = .v (.int k n)
 | .bool,c=>∃b,c = .v (.bool b)
 | .str,c=>∃s,c = .v (.string s)
 | .sl e,c=>∃xs,c = .l e xs
 | .ed,c=>∃a n m,c = .v (.slice a n m)
 |_,_=>False
def cN:List Ty→List Cv→Prop
 | [],[]=>True
 |a::l,c::cs=>CTy a c∧cN l cs
 |_,_=>False
theorem cN.cons{a:Ty}{l:List Ty}:∀{cs:List Cv},cN (a::l) cs→∃c m0,cs=c::m0∧CTy a c∧cN l m0
 |c::cs,h=>⟨c,cs,rfl,h.1,h.2⟩
theorem cN.nil:∀{cs:List Cv},cN [] cs→cs=[]
 | [],_=>rfl
theorem cN.append:∀{l m:List Ty}{cs ds:List Cv},cN l cs→cN m ds→cN (l++m) (cs++ds)
 | [],_,[],_,_,h=>h
 | [],_,_::_,_,h,_=>h.elim
 |_::_,_,[],_,h,_=>h.elim
 |_::_,_,_::_,_,h,h'=>⟨h.1,cN.append h.2 h'⟩
theorem cN.len:∀{l:List Ty}{cs:List Cv},cN l cs→cs.length=l.length
 | [],[],_=>rfl
 | [],_::_,h=>h.elim
 |_::_,[],h=>h.elim
 |_::_,_::_,h=>by simp[cN.len h.2]
theorem th(x:aj):cN (sig .aw) (enc .aw x):=⟨⟨_,rfl⟩,⟨_,rfl⟩,⟨_,rfl⟩,trivial⟩
theorem yh{cs:List Cv}(h0:cN (sig .aw) cs):∃x:aj,enc .aw x=cs:=by
 obtain⟨_,_,rfl,⟨a0,rfl⟩,h1⟩:=cN.cons h0
 obtain⟨_,_,rfl,⟨a1,rfl⟩,h2⟩:=cN.cons h1
 obtain⟨_,_,rfl,⟨a2,rfl⟩,h3⟩:=cN.cons h2
 cases cN.nil h3
 exact⟨⟨a0,a1,a2⟩,rfl⟩
theorem yi(x:aB):cN (sig .aD) (enc .aD x):=⟨⟨_,rfl⟩,⟨_,rfl⟩,⟨_,rfl⟩,⟨_,rfl⟩,trivial⟩
theorem Ea{cs:List Cv}(h0:cN (sig .aD) cs):∃x:aB,enc .aD x=cs:=by
 obtain⟨_,_,rfl,⟨a0,rfl⟩,h1⟩:=cN.cons h0
 obtain⟨_,_,rfl,⟨a1,rfl⟩,h2⟩:=cN.cons h1
 obtain⟨_,_,rfl,⟨a2,rfl⟩,h3⟩:=cN.cons h2
 obtain⟨_,_,rfl,⟨a3,rfl⟩,h4⟩:=cN.cons h3
 cases cN.nil h4
 exact⟨⟨a0,a1,a2,a3⟩,rfl⟩
theorem yj(x:aF):cN (sig .note) (enc .note x):=⟨⟨_,rfl⟩,⟨_,rfl⟩,trivial⟩
theorem Eb{cs:List Cv}(h0:cN (sig .note) cs):∃x:aF,enc .note x=cs:=by
 obtain⟨_,_,rfl,⟨a0,rfl⟩,h1⟩:=cN.cons h0
 obtain⟨_,_,rfl,⟨a1,rfl⟩,h2⟩:=cN.cons h1
 cases cN.nil h2
 exact⟨⟨a0,a1⟩,rfl⟩
theorem vH(x:ae):cN (sig .order) (enc .order x):=⟨⟨_,rfl⟩,⟨_,rfl⟩,⟨_,rfl⟩,⟨_,rfl⟩,⟨_,rfl⟩,⟨_,rfl⟩,⟨_,rfl⟩,⟨_,rfl⟩,⟨_,rfl⟩,⟨_,rfl⟩,trivial⟩
theorem Aj{cs:List Cv}(h0:cN (sig .order) cs):∃x:ae,enc .order x=cs:=by
 obtain⟨_,_,rfl,⟨a0,rfl⟩,h1⟩:=cN.cons h0
 obtain⟨_,_,rfl,⟨a1,rfl⟩,h2⟩:=cN.cons h1
 obtain⟨_,_,rfl,⟨a2,rfl⟩,h3⟩:=cN.cons h2
 obtain⟨_,_,rfl,⟨a3,rfl⟩,h4⟩:=cN.cons h3
 obtain⟨_,_,rfl,⟨a4,rfl⟩,h5⟩:=cN.cons h4
 obtain⟨_,_,rfl,⟨a5,rfl⟩,h6⟩:=cN.cons h5
 obtain⟨_,_,rfl,⟨a6,rfl⟩,h7⟩:=cN.cons h6
 obtain⟨_,_,rfl,⟨a7,rfl⟩,h8⟩:=cN.cons h7
 obtain⟨_,_,rfl,⟨a8,rfl⟩,h9⟩:=cN.cons h8
 obtain⟨_,_,rfl,⟨a9,rfl⟩,nZ⟩:=cN.cons h9
 cases cN.nil nZ
 exact⟨⟨a0,a1,a2,a3,a4,⟨a5,a6,a7,a8⟩,a9⟩,rfl⟩
theorem yk(x:af):cN (sig .item) (enc .item x):=⟨⟨_,rfl⟩,⟨_,rfl⟩,⟨_,rfl⟩,⟨_,rfl⟩,⟨_,rfl⟩,⟨_,rfl⟩,⟨_,rfl⟩,⟨_,rfl⟩,⟨_,rfl⟩,⟨_,rfl⟩,⟨_,rfl⟩,trivial⟩
theorem Ec{cs:List Cv}(h0:cN (sig .item) cs):∃x:af,enc .item x=cs:=by
 obtain⟨_,_,rfl,⟨a0,rfl⟩,h1⟩:=cN.cons h0
 obtain⟨_,_,rfl,⟨a1,rfl⟩,h2⟩:=cN.cons h1
 obtain⟨_,_,rfl,⟨a2,rfl⟩,h3⟩:=cN.cons h2
 obtain⟨_,_,rfl,⟨a3,rfl⟩,h4⟩:=cN.cons h3
 obtain⟨_,_,rfl,⟨a4,rfl⟩,h5⟩:=cN.cons h4
 obtain⟨_,_,rfl,⟨a5,rfl⟩,h6⟩:=cN.cons h5
 obtain⟨_,_,rfl,⟨a6,rfl⟩,h7⟩:=cN.cons h6
 obtain⟨_,_,rfl,⟨a7,rfl⟩,h8⟩:=cN.cons h7
 obtain⟨_,_,rfl,⟨a8,rfl⟩,h9⟩:=cN.cons h8
 obtain⟨_,_,rfl,⟨a9,rfl⟩,nZ⟩:=cN.cons h9
 obtain⟨_,_,rfl,⟨BO,rfl⟩,uR⟩:=cN.cons nZ
 cases cN.nil uR
 exact⟨⟨⟨a0,a1,a2,a3,a4,⟨a5,a6,a7,a8⟩,a9⟩,BO⟩,rfl⟩
theorem vI(x:ai):cN (sig .store) (enc .store x):=⟨⟨_,rfl⟩,⟨_,rfl⟩,trivial⟩
theorem Ak{cs:List Cv}(h0:cN (sig .store) cs):∃x:ai,enc .store x=cs:=by
 obtain⟨_,_,rfl,⟨a0,rfl⟩,h1⟩:=cN.cons h0
 obtain⟨_,_,rfl,⟨a1,rfl⟩,h2⟩:=cN.cons h1
 cases cN.nil h2
 exact⟨⟨a0,a1⟩,rfl⟩
theorem vJ(x:ag):cN (sig .event) (enc .event x):=⟨⟨_,rfl⟩,⟨_,rfl⟩,⟨_,rfl⟩,⟨_,rfl⟩,⟨_,rfl⟩,⟨_,rfl⟩,⟨_,rfl⟩,⟨_,rfl⟩,⟨_,rfl⟩,⟨_,rfl⟩,⟨_,rfl⟩,⟨_,rfl⟩,⟨_,rfl⟩,trivial⟩
theorem Al{cs:List Cv}(h0:cN (sig .event) cs):∃x:ag,enc .event x=cs:=by
 obtain⟨_,_,rfl,⟨a0,rfl⟩,h1⟩:=cN.cons h0
 obtain⟨_,_,rfl,⟨a1,rfl⟩,h2⟩:=cN.cons h1
 obtain⟨_,_,rfl,⟨a2,rfl⟩,h3⟩:=cN.cons h2
 obtain⟨_,_,rfl,⟨a3,rfl⟩,h4⟩:=cN.cons h3
 obtain⟨_,_,rfl,⟨a4,rfl⟩,h5⟩:=cN.cons h4
 obtain⟨_,_,rfl,⟨a5,rfl⟩,h6⟩:=cN.cons h5
 obtain⟨_,_,rfl,⟨a6,rfl⟩,h7⟩:=cN.cons h6
 obtain⟨_,_,rfl,⟨a7,rfl⟩,h8⟩:=cN.cons h7
 obtain⟨_,_,rfl,⟨a8,rfl⟩,h9⟩:=cN.cons h8
 obtain⟨_,_,rfl,⟨a9,rfl⟩,nZ⟩:=cN.cons h9
 obtain⟨_,_,rfl,⟨BO,rfl⟩,uR⟩:=cN.cons nZ
 obtain⟨_,_,rfl,⟨X3,rfl⟩,Ra⟩:=cN.cons uR
 obtain⟨_,_,rfl,⟨a12,rfl⟩,Y9⟩:=cN.cons Ra
 cases cN.nil Y9
 exact⟨⟨a0,a1,⟨⟨a2,a3,a4,a5,a6,⟨a7,a8,a9,BO⟩,X3⟩,a12⟩⟩,rfl⟩
theorem yl(x:au):cN (sig .cZ) (enc .cZ x):=⟨⟨_,rfl⟩,⟨_,rfl⟩,trivial⟩
theorem Ed{cs:List Cv}(h0:cN (sig .cZ) cs):∃x:au,enc .cZ x=cs:=by
 obtain⟨_,_,rfl,⟨a0,rfl⟩,h1⟩:=cN.cons h0
 obtain⟨_,_,rfl,⟨a1,rfl⟩,h2⟩:=cN.cons h1
 cases cN.nil h2
 exact⟨⟨a0,a1⟩,rfl⟩
theorem An(x:zr):cN (sig .cur) (enc .cur x):=⟨⟨_,rfl⟩,⟨_,rfl⟩,⟨_,rfl⟩,trivial⟩
theorem Hl{cs:List Cv}(h0:cN (sig .cur) cs):∃x:zr,enc .cur x=cs:=by
 obtain⟨_,_,rfl,⟨a0,rfl⟩,h1⟩:=cN.cons h0
 obtain⟨_,_,rfl,⟨a1,rfl⟩,h2⟩:=cN.cons h1
 obtain⟨_,_,rfl,⟨a2,rfl⟩,h3⟩:=cN.cons h2
 cases cN.nil h3
 exact⟨⟨a0,a1,a2⟩,rfl⟩
theorem Ao(x:ay):cN (sig .cp) (enc .cp x):=⟨⟨_,rfl⟩,⟨_,rfl⟩,⟨_,rfl⟩,trivial⟩
theorem Hm{cs:List Cv}(h0:cN (sig .cp) cs):∃x:ay,enc .cp x=cs:=by
 obtain⟨_,_,rfl,⟨a0,rfl⟩,h1⟩:=cN.cons h0
 obtain⟨_,_,rfl,⟨a1,rfl⟩,h2⟩:=cN.cons h1
 obtain⟨_,_,rfl,⟨a2,rfl⟩,h3⟩:=cN.cons h2
 cases cN.nil h3
 exact⟨⟨a0,a1,a2⟩,rfl⟩
theorem ym(x:j4):cN (sig .jJ) (enc .jJ x):=⟨⟨_,rfl⟩,⟨_,rfl⟩,⟨_,rfl⟩,⟨_,rfl⟩,⟨_,_,_,rfl⟩,⟨_,rfl⟩,⟨_,rfl⟩,⟨_,rfl⟩,⟨_,rfl⟩,⟨_,_,_,rfl⟩,trivial⟩
theorem Ee{cs:List Cv}(h0:cN (sig .jJ) cs):∃x:j4,enc .jJ x=cs:=by
 obtain⟨_,_,rfl,⟨a0,rfl⟩,h1⟩:=cN.cons h0
 obtain⟨_,_,rfl,⟨a1,rfl⟩,h2⟩:=cN.cons h1
 obtain⟨_,_,rfl,⟨a2,rfl⟩,h3⟩:=cN.cons h2
 obtain⟨_,_,rfl,⟨a3,rfl⟩,h4⟩:=cN.cons h3
 obtain⟨_,_,rfl,⟨a4,b4,c4,rfl⟩,h5⟩:=cN.cons h4
 obtain⟨_,_,rfl,⟨a5,rfl⟩,h6⟩:=cN.cons h5
 obtain⟨_,_,rfl,⟨a6,rfl⟩,h7⟩:=cN.cons h6
 obtain⟨_,_,rfl,⟨a7,rfl⟩,h8⟩:=cN.cons h7
 obtain⟨_,_,rfl,⟨a8,rfl⟩,h9⟩:=cN.cons h8
 obtain⟨_,_,rfl,⟨a9,b9,c9,rfl⟩,nZ⟩:=cN.cons h9
 cases cN.nil nZ
 exact⟨⟨a0,a1,a2,a3,⟨a4,b4,c4⟩,⟨a5,a6,a7,a8⟩,⟨a9,b9,c9⟩⟩,rfl⟩
theorem Ap(x:cr):cN (sig .ed) (enc .ed x):=⟨⟨_,rfl⟩,⟨_,rfl⟩,⟨_,rfl⟩,⟨_,rfl⟩,⟨_,_,_,rfl⟩,⟨_,rfl⟩,⟨_,rfl⟩,⟨_,rfl⟩,⟨_,rfl⟩,⟨_,_,_,rfl⟩,⟨_,rfl⟩,trivial⟩
theorem Hn{cs:List Cv}(h0:cN (sig .ed) cs):∃x:cr,enc .ed x=cs:=by
 obtain⟨_,_,rfl,⟨a0,rfl⟩,h1⟩:=cN.cons h0
 obtain⟨_,_,rfl,⟨a1,rfl⟩,h2⟩:=cN.cons h1
 obtain⟨_,_,rfl,⟨a2,rfl⟩,h3⟩:=cN.cons h2
 obtain⟨_,_,rfl,⟨a3,rfl⟩,h4⟩:=cN.cons h3
 obtain⟨_,_,rfl,⟨a4,b4,c4,rfl⟩,h5⟩:=cN.cons h4
 obtain⟨_,_,rfl,⟨a5,rfl⟩,h6⟩:=cN.cons h5
 obtain⟨_,_,rfl,⟨a6,rfl⟩,h7⟩:=cN.cons h6
 obtain⟨_,_,rfl,⟨a7,rfl⟩,h8⟩:=cN.cons h7
 obtain⟨_,_,rfl,⟨a8,rfl⟩,h9⟩:=cN.cons h8
 obtain⟨_,_,rfl,⟨a9,b9,c9,rfl⟩,nZ⟩:=cN.cons h9
 obtain⟨_,_,rfl,⟨BO,rfl⟩,uR⟩:=cN.cons nZ
 cases cN.nil uR
 exact⟨⟨⟨a0,a1,a2,a3,⟨a4,b4,c4⟩,⟨a5,a6,a7,a8⟩,⟨a9,b9,c9⟩⟩,BO⟩,rfl⟩
theorem Ho:∀(t:Ty)(x:El t),cN (sig t) (enc t x)
 | .i _,_=>⟨⟨_,rfl⟩,trivial⟩
 | .bool,_=>⟨⟨_,rfl⟩,trivial⟩
 | .str,_=>⟨⟨_,rfl⟩,trivial⟩
 | .sl _,_=>⟨⟨_,rfl⟩,trivial⟩
 | .aw,x=>th x
 | .aD,x=>yi x
 | .note,x=>yj x
 | .order,x=>vH x
 | .item,x=>yk x
 | .store,x=>vI x
 | .event,x=>vJ x
 | .cZ,x=>yl x
 | .cur,x=>An x
 | .cp,x=>Ao x
 | .jJ,x=>ym x
 | .ed,x=>Ap x
theorem full:∀(t:Ty){cs:List Cv},cN (sig t) cs→∃x:El t,enc t x=cs
 | .i k,_,h=>by obtain⟨_,_,rfl,⟨a,rfl⟩,h2⟩:=cN.cons h;cases cN.nil h2;exact⟨a,rfl⟩
 | .bool,_,h=>by obtain⟨_,_,rfl,⟨a,rfl⟩,h2⟩:=cN.cons h;cases cN.nil h2;exact⟨a,rfl⟩
 | .str,_,h=>by obtain⟨_,_,rfl,⟨a,rfl⟩,h2⟩:=cN.cons h;cases cN.nil h2;exact⟨a,rfl⟩
 | .sl e,_,h=>by obtain⟨_,_,rfl,⟨a,rfl⟩,h2⟩:=cN.cons h;cases cN.nil h2;exact⟨a,rfl⟩
 | .aw,_,h=>yh h
 | .aD,_,h=>Ea h
 | .note,_,h=>Eb h
 | .order,_,h=>Aj h
 | .item,_,h=>Ec h
 | .store,_,h=>Ak h
 | .event,_,h=>Al h
 | .cZ,_,h=>Ed h
 | .cur,_,h=>Hl h
 | .cp,_,h=>Hm h
 | .jJ,_,h=>Ee h
 | .ed,_,h=>Hn h
inductive ko:Cv→Prop
 | int {k:IntKind} {n:Int} (h:(Lit.int k n).wf=true):ko (.v (.int k n))
 | bool {b:Bool}:ko (.v (.bool b))
 | str {s:BA} (h:s.size≤maxLen):ko (.v (.string s))
 | ZD {t:Ty} {xs:List (El t)} (h:xs.length≤maxLen) (hx:∀x∈xs,∀c∈enc t x,ko c):ko (.l t xs)
def yn(code:List (Nat×Ty)):Nat→List (Nat×Nat)→Option (List Ty)
 |_,[]=>some []
 |o,(off,ft)::r=>(ak code ft).bind fun t=>cond (Nat.beq off o) ((yn code (o+ao t) r).bind fun l=>some (sig t++l)) none
def pU(t:yg):Bool:=t.code.all fun x=> !e8 x.2||(match ak t.pL x.1 with | some L=>decide (yn t.code 0 L=some (sig x.2)) | none=>false)
variable {H : Type} {en : TypeId × Value → H} {P : Program} {w : World} {tb : yg}
theorem yg.Ok.cells(h:tb.Ok P){T:Nat}{t:Ty}(hT:ak tb.code T=some t):P.cellsOf T=ao t:=by
 obtain⟨i,zv,h1,h2,_⟩:=h.info (T,t) (eV hT)
 simp[Program.cellsOf,h1,h2]
def la(w:World)(k:Nat):Prop:=k<w.heap.size
theorem gK.append{Pr:Nat→Prop}:∀{cs ds:List Cv}{us vs:List Value},gK w Pr cs us→gK w Pr ds vs→gK w Pr (cs++ds) (us++vs)
 | [],_,[],_,_,h=>h
 | [],_,_::_,_,h,_=>h.elim
 |_::_,_,[],_,h,_=>h.elim
 |_::_,_,_::_,_,h,h'=>⟨h.1,gK.append h.2 h'⟩
theorem ud{fuel:Nat}(zq:tb.Ok P) (IH:∀(T:Nat)(t:Ty)(cs:List Value)(y:DataW H×List MemPlace),ak tb.code T=some t→DataW.trod en P w 0 (fun _=>true) true fuel T cs=some y→
      ∃x:El t,gK w (la w) (enc t x) cs∧∀c∈enc t x,ko c) (cs:List Value):
    ∀(fs:List Field)(o:Nat)(l:List Ty),yn tb.code o (fs.map fun f=>(f.offset,f.type))=some l→(∀ f∈fs,∃y,DataW.trod en P w 0 (fun _=>true) true fuel f.type ((cs.drop f.offset).take (P.cellsOf f.type))=some y)→
      cs.length=o+l.length→∃xy,cN l xy∧gK w (la w) xy (cs.drop o)∧∀c∈xy,ko c
 | [],o,l,ht,_,hl=>by
  simp only[List.map_nil,yn,Option.some.injEq] at ht
  subst ht
  refine⟨[],trivial,?_,fun c h=>by cases h⟩
  rw[List.drop_of_length_le (by simpa using Nat.le_of_eq hl)]
  trivial
 |f::fs,o,l,ht,hm,hl=>by
  simp only[List.map_cons,yn] at ht
  obtain⟨t,hft,ht⟩:=aR ht
  obtain⟨ho,ht⟩:=bg ht
  obtain⟨l',ht3,zp⟩:=aR ht
  have ho:=gB ho
  simp only[Option.some.injEq] at zp
  subst zp
  obtain⟨y,hy⟩:=hm f (by simp)
  rw[zq.cells hft,ho] at hy
  obtain⟨x,MW,pD⟩:=IH f.type t _ y hft hy
  have dQ:(sig t).length=ao t:=by
   have:=(Ho t x).len
   rw[← this,aS]
  obtain⟨xy,h1,h2,h3⟩:=ud zq IH cs fs (o+ao t) l' ht3 (fun f h=>hm f (by simp[h])) (by simp at hl;omega)
  refine⟨enc t x++xy,(Ho t x).append h1,?_,fun c hc=>(List.mem_append.1 hc).elim (pD c) (h3 c)⟩
  have e:cs.drop o=(cs.drop o).take (ao t)++cs.drop (o+ao t):=by
   rw[← List.drop_drop,List.take_append_drop]
  rw[e]
  exact MW.append h2
end Go.Gm
namespace Go.Gm
open Go
variable {H : Type} {en : TypeId × Value → H} {P : Program} {w : World} {tb : yg}
open Classical in
theorem fk.mk{Pr:Nat→Prop}{t:Ty}{xs:List (El t)}{b o cap:Nat}{cs:Array Value}{el:Nat}{fz:Nat×Nat}(dJ:xs.length≤cap)(hP:Pr b)(hb:w.heap[b]? =some (.cells cs el fz))
 (hr:∀(i:Nat) x (j:Nat) c,xs[i]? =some x→(enc t x)[j]? =some c→∃u,cs[o+i*ao t+j]? =some u∧lQ w Pr c u):fk w Pr t xs (.slice (some ⟨b,o,none⟩) xs.length cap):=by
  let Good:Nat→Nat→(Path→Value)→Prop:=fun i j f=>∀x (t':Ty) (ys:List (El t')),xs[i]? =some x→(enc t x)[j]? =some (.l t' ys)→cs[o+i*ao t+j]? =some (f [])∧ep w Pr t' ys f
  have Qd:∀i j,∃f,Good i j f:=by
    intro i j
    by_cases h:∃(x:El t)(t':Ty)(ys:List (El t')),xs[i]? =some x∧(enc t x)[j]? =some (.l t' ys)
    · obtain⟨x,t',ys,hx,hc⟩:=h
      obtain⟨u,hu,Ns⟩:=hr i x j _ hx hc
      obtain⟨av,h0,h1⟩:=Ns
      refine⟨av,fun x2 t2 YL pD xG=> ?_⟩
      rw[hx] at pD;cases pD
      rw[hc] at xG;cases xG
      exact⟨by rw[h0];exact hu,h1⟩
    · exact⟨fun _=> .nilFunc,fun x t' ys hx hc=>(h ⟨x,t',ys,hx,hc⟩).elim⟩
  let kid:Nat→Nat→Path→Value:=fun i j=>Classical.choose (Qd i j)
  have Hp:∀i j,Good i j (kid i j):=fun i j=>Classical.choose_spec (Qd i j)
  let av:Path→Value
    | []=> .slice (some ⟨b,o,none⟩) xs.length cap
    | (i,j)::q=>kid i j q
  refine⟨av,rfl,fun p s hs=> ?_⟩
  cases p with
  |nil=>
    simp only[aQ,Option.some.injEq] at hs
    subst hs
    refine⟨_,cap,rfl,dJ,fun _=>⟨b,o,cs,el,fz,rfl,hP,hb,fun i x j c hx hc=> ?_⟩⟩
    obtain⟨u,hu,Ns⟩:=hr i x j c hx hc
    refine⟨u,hu,?_⟩
    cases c with
    |v y=>exact Ns
    |l t' ys=>
      have:=(Hp i j x t' ys hx hc).1
      rw[hu] at this
      show u=kid i j []
      exact (Option.some.inj this)
  |cons ij q=>
    obtain⟨i,j⟩:=ij
    simp only[aQ] at hs
    split at hs
    · rename_i x hx
      split at hs
      · rename_i t' ys hc
        exact (Hp i j x t' ys hx hc).2 q s hs
      · cases hs
    · cases hs
theorem fk.nil{Pr:Nat→Prop}(t:Ty)(a:Option Addr)(cap:Nat):fk w Pr t [] (.slice a 0 cap):=by
 refine⟨fun _=> .slice a 0 cap,rfl,fun p s hs=> ?_⟩
 cases p with
 |nil=>simp only[aQ,Option.some.injEq] at hs;subst hs;exact⟨a,cap,rfl,Nat.zero_le _,fun h=>(h rfl).elim⟩
 |cons ij q=>simp[aQ] at hs
theorem rH{α:Type}{xs:List α}{j:Nat}{x:α}(h:xs[j]? =some x):j<xs.length:=by
 rcases Nat.lt_or_ge j xs.length with h' | h'
 ·exact h'
 ·simp[List.getElem?_eq_none h'] at h
theorem Hq(zq:tb.Ok P)(hT:pU tb=true):∀(fuel:Nat)(T:Nat)(t:Ty)(cs:List Value)(y:DataW H×List MemPlace),ak tb.code T=some t→DataW.trod en P w 0 (fun _=>true) true fuel T cs=some y→
    ∃x:El t,gK w (la w) (enc t x) cs∧∀c∈enc t x,ko c:=by
  intro fuel
  induction fuel with
  |zero=>intro T t cs y _ h;simp[DataW.trod] at h
  |succ fuel IH=>
    intro T t cs y hc h
    have hu:=zq.pN (T,t) (eV hc)
    have str:e8 t=true→∃x:El t,gK w (la w) (enc t x) cs∧∀c∈enc t x,ko c:=by
      intro hs
      have h1:=List.all_eq_true.1 hT (T,t) (eV hc)
      simp only[hs,Bool.not_true,Bool.false_or] at h1
      split at h1
      · rename_i L hL
        have h1:=of_decide_eq_true h1
        obtain⟨fs,YP,ZE,_,_⟩:=zq.pL (T,L) (eV hL)
        have ZE:L=fs.toList.map (fun f=>(f.offset,f.type)):=ZE
        obtain⟨xs,n,hn,_,hlen,pO,dm⟩:=DataW.trod_struct YP h
        have hn:fuel=n:=by omega
        subst hn
        rw[zq.cells hc] at hlen
        have adN:(sig t).length=ao t:=by simp[sig,aS]
        obtain⟨xy,h2,h3,h4⟩:=ud zq IH cs fs.toList 0 (sig t) (by rw[← ZE];exact h1) (fun f hf=>by
          obtain⟨i,hi⟩:=List.mem_iff_getElem?.1 hf
          have lf:fs[i]? =some f:=by simpa using hi
          have cc:i<xs.length:=by
            rw[pO]
            rcases Nat.lt_or_ge i fs.size with h' | h'
            · exact h'
            · simp[Array.getElem?_eq_none h'] at lf
          exact⟨xs[i],by rw[dm i f lf];simp[cc]⟩) (by omega)
        obtain⟨x,hx⟩:=full t h2
        subst hx
        exact⟨x,by simpa using h3,h4⟩
      · cases h1
    cases t with
    |i k=>
      have hu:P.underlying T=some (.int k):=hu
      obtain⟨n,rfl,_,hw⟩:=DataW.trod_int hu h
      exact⟨n,⟨rfl,trivial⟩,fun c hc=>by (have:c = .v (.int k n):=by simpa [enc] using hc);subst this;exact .int hw⟩
    |bool=>
      have hu:P.underlying T=some .bool:=hu
      obtain⟨b,rfl,_⟩:=DataW.trod_bool hu h
      exact⟨b,⟨rfl,trivial⟩,fun c hc=>by (have:c = .v (.bool b):=by simpa [enc] using hc);subst this;exact .bool⟩
    |str=>
      have hu:P.underlying T=some .string:=hu
      obtain⟨s,rfl,_,hs⟩:=DataW.trod_string hu h
      exact⟨s,⟨rfl,trivial⟩,fun c hc=>by (have:c = .v (.string s):=by simpa [enc] using hc);subst this;exact .str hs⟩
    |sl e=>
      obtain⟨el,hu,lR⟩:=(hu:∃el,P.underlying T=some (.slice el)∧(tb.env []).code el=some e)
      have lR:ak tb.code el=some e:=lR
      rcases DataW.trod_slice hu h with ⟨rfl,_⟩ | ⟨a,len,cap,elems,rest,n,hn,rfl,_,_,hl,hm,hlen,dm,_,_⟩
      · exact⟨[],⟨fk.nil e none 0,trivial⟩,fun c hc=>by
          have:c = .l e []:=by simpa [enc] using hc
          subst this;exact .ZD (by simp) (fun x hx=>by cases hx)⟩
      · have hn:fuel=n:=by omega
        subst hn
        rw[zq.cells lR] at dm
        have zL:∀i,i<len→∃(x:El e)(us:List Value),w.cells? 0 (a.add (i*ao e)) (ao e)=some us∧gK w (la w) (enc e x) us∧∀c∈enc e x,ko c:=by
          intro i hi
          have h1:=dm i hi
          have:elems[i]? =some (elems[i]'(by omega)):=by simp
          rw[this] at h1
          obtain⟨us,oZ,hy⟩:=Option.bind_eq_some_iff.1 h1
          obtain⟨x,MW,pD⟩:=IH el e us _ lR hy
          exact⟨x,us,oZ,MW,pD⟩
        have hch:∃f:Nat→El e,∀i,i<len→∃us:List Value,w.cells? 0 (a.add (i*ao e)) (ao e)=some us∧gK w (la w) (enc e (f i)) us∧∀c∈enc e (f i),ko c:=
          ⟨fun i=>if h:i<len then Classical.choose (zL i h) else zero e,fun i hi=>by
            simp only[dif_pos hi];exact Classical.choose_spec (zL i hi)⟩
        obtain⟨f,hf⟩:=hch
        let xs:List (El e):=(List.range len).map f
        have Qe:xs.length=len:=by simp[xs]
        have UA:∀(i:Nat) x,xs[i]? =some x→i<len∧x=f i:=fun i x hx=>by
          have hi:i<len:=by have:=rH hx;omega
          refine⟨hi,?_⟩
          simp only[xs,List.getElem?_map,List.getElem?_range hi,Option.map_some,Option.some.injEq] at hx
          exact hx.symm
        refine⟨xs,⟨?_,trivial⟩,fun c hc=> ?_⟩
        · show fk w (la w) e xs (.slice (some a) len cap)
          by_cases h0:len=0
          · have:xs=[]:=List.length_eq_zero_iff.1 (by omega)
            rw[this,h0];exact fk.nil e _ _
          · have he:0<ao e:=eN e
            have iP:∀i j,i<len→j<ao e→∀us:List Value,w.cells? 0 (a.add (i*ao e)) (ao e)=some us→w.cell? ((a.add (i*ao e)).add j)=us[j]? :=fun i j _ hj us oZ=>(World.cells?_some oZ).2.2 j hj
            obtain⟨zQ,VW,Yi,_⟩:=hf 0 (by omega)
            have zC:∃c,w.cell? a=some c:=by
              have h1:=iP 0 0 (by omega) he zQ VW
              have hl0:=(World.cells?_some VW).2.1
              have:zQ[0]? =some (zQ[0]'(by omega)):=by simp
              rw[this] at h1
              exact⟨_,by simpa [Addr.add] using h1⟩
            obtain⟨c0,PI⟩:=zC
            obtain⟨b,o,sp⟩:=a
            have hb:∃cs mc fz,w.heap[b]? =some (.cells cs mc fz)∧sp=none:=by
              unfold World.cell? at PI
              simp only at PI
              split at PI
              · rename_i cs mc fz yo
                split at PI
                · cases PI
                · rename_i FZ
                  exact⟨cs,mc,fz,yo,by cases sp<;>simp_all⟩
              · cases PI
            obtain⟨cs,mc,fz,yo,rfl⟩:=hb
            have MN:b<w.heap.size:=(Array.getElem?_eq_some_iff.1 yo).1
            have:=fk.mk (w:=w) (Pr:=la w) (t:=e) (xs:=xs) (b:=b) (o:=o) (cap:=cap) (cs:=cs) (el:=mc) (fz:=fz) (by omega) MN yo (fun i x j c hx xl=>by
              obtain⟨hi,rfl⟩:=UA i x hx
              obtain⟨us,oZ,fy,_⟩:=hf i hi
              obtain⟨z,hz,Ns⟩:=fy.get j c xl
              have hj:j<ao e:=by
                have:=rH xl
                rw[aS] at this;exact this
              have h1:=iP i j hi hj us oZ
              rw[hz] at h1
              refine⟨z,?_,Ns⟩
              have ha:((⟨b,o,none⟩:Addr).add (i*ao e)).add j=⟨b,o+i*ao e+j,none⟩:=by rw[ez,ez]
              rw[ha,jO yo] at h1
              exact h1)
            rw[Qe] at this
            exact this
        · have:c = .l e xs:=by simpa [enc] using hc
          subst this
          refine .ZD (by omega) (fun x hx c hc=> ?_)
          obtain⟨i,hi⟩:=List.mem_iff_getElem?.1 hx
          obtain⟨cc,rfl⟩:=UA i x hi
          obtain⟨_,_,_,h3⟩:=hf i cc
          exact h3 c hc
    |_=>exact str rfl
end Go.Gm
namespace Go.Gm
open Go Go.ChangeShapes Go.WideShapes Go.RowKit
variable {H : Type} {en : TypeId × Value → H} {P : Program} {w : World} {tb : yg}
inductive Hr:List Ty→List Dt→Prop
 | nil:Hr [] []
 | cons {t:Ty} {ts:List Ty} {x:El t} {ds:List Dt} (hx:∀c∈enc t x,ko c) (h:Hr ts ds):Hr (t::ts) (.d t x::ds)
def Ht(tb:yg):List Nat→List Ty→Prop
 | [],[]=>True
 |T::Ts,t::ts=>ak tb.code T=some t∧Ht tb Ts ts
 |_,_=>False
theorem Nt(zq:tb.Ok P){T:Nat}{t:Ty}(hc:ak tb.code T=some t){base:Nat}{v:Value}(hv:Value.okWide P w .any base T v){us:List Value}(oZ:v.cells.toList=us){x:El t}(hr:gK w (la w) (enc t x) us):lh w (la w) t x v:=by
 have fy:xw w (la w) (enc t x) us.toArray:=⟨by simpa using hr.len,fun j c hj=>by simpa using hr.get j c hj⟩
 have hu:=zq.pN (T,t) (eV hc)
 refine⟨us.toArray,?_,fy⟩
 have ea:v.cells=us.toArray:=by rw[← oZ]
 have str:e8 t=true→(∃ fs,P.underlying T=some (.struct fs))→Form t v us.toArray:=by
  intro hs ⟨fs,U3⟩
  simp only[Value.okWide,U3] at hv
  obtain⟨cs,rfl,_,_⟩:=hv
  simp only[Form,hs,if_true]
  rw[← ea];rfl
 have one:e8 t=false→(∀ c∈enc t x,∀z,lQ w (la w) c z→cO z=true)→us.length=1→(∀ cs,v≠ .agg cs)→Form t v us.toArray:=by
  intro hs j3 hl xk
  have hv1:v.cells = #[v]:=by cases v<;>first | rfl | exact absurd rfl (xk _)
  rw[hv1] at ea
  simp only[Form,hs,Bool.false_eq_true,if_false]
  refine⟨ea.symm,?_⟩
  cases us with
  |nil=>simp at hl
  |cons u us=>
   have hlen:=hr.len
   obtain⟨c,j0⟩:∃c,(enc t x)[0]? =some c:=by
    cases he:enc t x with
    |nil=>rw[he] at hlen;simp at hlen
    |cons c cs=>exact⟨c,rfl⟩
   obtain⟨z,hz,Ns⟩:=hr.get 0 c j0
   simp only[List.getElem?_cons_zero,Option.some.injEq] at hz
   subst hz
   have:v=u:=by
    have:=congrArg (fun a=>a[0]?) ea
    simpa using this
   rw[this]
   exact j3 c (List.mem_of_getElem? j0) u Ns
 have hlen:=hr.len
 cases t with
 |i k=>
  have hu:P.underlying T=some (.int k):=hu
  refine one rfl (fun c hc z hz=> ?_) (by simpa [enc] using hlen) (fun cs e=> ?_)
  ·have:c = .v (.int k x):=by simpa [enc] using hc
   subst this;cases hz;rfl
  ·subst e;simp[Value.okWide,hu,Cell.okWide,Cell.ok] at hv
 |bool=>
  have hu:P.underlying T=some .bool:=hu
  refine one rfl (fun c hc z hz=> ?_) (by simpa [enc] using hlen) (fun cs e=> ?_)
  ·have:c = .v (.bool x):=by simpa [enc] using hc
   subst this;cases hz;rfl
  ·subst e;simp[Value.okWide,hu,Cell.okWide,Cell.ok] at hv
 |str=>
  have hu:P.underlying T=some .string:=hu
  refine one rfl (fun c hc z hz=> ?_) (by simpa [enc] using hlen) (fun cs e=> ?_)
  ·have:c = .v (.string x):=by simpa [enc] using hc
   subst this;cases hz;rfl
  ·subst e;simp[Value.okWide,hu,Cell.okWide,Cell.ok] at hv
 |sl e=>
  obtain⟨el,hu,_⟩:=(hu:∃el,P.underlying T=some (.slice el)∧(tb.env []).code el=some e)
  refine one rfl (fun c hc z hz=> ?_) (by simpa [enc] using hlen) (fun cs e'=> ?_)
  ·have:c = .l e x:=by simpa [enc] using hc
   subst this
   obtain⟨av,h0,h1⟩:=hz
   obtain⟨a,cap,e1,_⟩:=h1 [] _ rfl
   rw[← h0,e1];rfl
  ·subst e';simp[Value.okWide,hu,Cell.okWide,Cell.ok] at hv
 |_=>exact str rfl hu
theorem uf{wl:World}(zq:tb.Ok P)(hT:pU tb=true){base:Nat}:∀{Ts:List Nat}{ts:List Ty}{vs:List Value}{dd:List (DataW H)}{ps:List MemPlace},Ht tb Ts ts→(∀(j:Nat) T v,Ts[j]? =some T→vs[j]? =some v→Value.okWide P w .any base T v)→
    DataW.TrodAll en P w 0 (fun _=>true) true Ts vs dd ps→∃ds:List Dt,cE wl w (la w) (ts.map fun _=> .ro) ds vs (ts.map fun _ _=>False)∧Hr ts ds
 | [],[],vs,dd,ps,_,_,h=>by
  obtain⟨rfl,_,_⟩:=trodAll_nil h
  exact⟨[],.nil,.nil⟩
 | [],_::_,_,_,_,h,_,_=>h.elim
 |_::_,[],_,_,_,h,_,_=>h.elim
 |T::Ts,t::ts,vs,dd,ps,hc,hv,h=>by
  obtain⟨v,Nr,d,ds',p,q,rfl,rfl,rfl,h1,h2⟩:=trodAll_cons h
  obtain⟨fuel,hf⟩:=h1
  obtain⟨x,MW,pD⟩:=Hq zq hT fuel T t _ _ hc.1 hf
  obtain⟨ds,h3,h4⟩:=uf zq hT hc.2 (fun j T' v' hj sR=>hv (j+1) T' v' (by simpa using hj) (by simpa using sR)) h2
  exact⟨.d t x::ds,cE.cons (m:= .ro) (F:=fun _=>False) (show qw wl w (la w) .ro (.d t x) v _ from Nt zq hc.1 (hv 0 T v rfl rfl) rfl MW) h3,.cons pD h4⟩
theorem my(hl:laidOutB P=true){W W':World}(hb:Below W.heap.size W W'):∀{Ts:List Nat}{vs:List Value}{dd:List (DataW H)}{ps:List MemPlace},(∀ T∈Ts,P.readableRec T=true∧T<P.types.size)→
    DataW.TrodAll en P W 0 (fun _=>true) true Ts vs dd ps→(∀ x∈ps,x.block<W.heap.size)→DataW.TrodAll en P W' 0 (fun b=>decide (b<W.heap.size)) true Ts vs dd ps
 | [],vs,dd,ps,_,h,_=>by
  obtain⟨rfl,rfl,rfl⟩:=trodAll_nil h
  exact trodAll_mk0
 |T::Ts,vs,dd,ps,hr,h,cc=>by
  obtain⟨v,Nr,d,ds',p,q,rfl,rfl,rfl,h1,h2⟩:=trodAll_cons h
  exact⟨p,q,Below.trod hl (hr T (by simp)).1 (hr T (by simp)).2 h1 hb (fun x hx=>cc x (by simp[hx])),my hl hb (fun T' BY=>hr T' (by simp[BY])) h2 (fun x hx=>cc x (by simp[hx])),rfl⟩
theorem cE.kept{w:World}:∀{ts:List Ty}{ds:List Dt}{us:List Value}{Fs:List (Nat→Prop)},cE w w (la w) (ts.map fun _=> .ro) ds us Fs→cE w w (la w) (ts.map fun _=> .kp) ds us Fs
 | [],_,_,_,h=>by cases h;exact .nil
 |t::ts,_,_,_,h=>by
  cases h with
  |cons h hs=>
   rename_i d ds u us F Fs
   refine cE.cons (m:= .kp) ?_ (cE.kept hs)
   cases d with
   |fq _ _=>exact h
   |d t x=>
    obtain⟨us,hf,hr⟩:=h
    refine⟨us,hf,hr.1,fun j c hj=> ?_⟩
    obtain⟨z,hz,hc⟩:=hr.2 j c hj
    refine⟨z,hz,?_⟩
    cases c with
    |v x=>exact hc
    |l t xs=>exact fk.mono (fun _ _=>trivial) hc
theorem vK(zq:tb.Ok P)(hT:pU tb=true)(hl:laidOutB P=true){f:Nat}{fn:Func}{Ts:List Nat}{ts:List Ty}(hp:fn.params.toList=Ts)(hc:Ht tb Ts ts){q:Qt}{m:Am}(hm:m = .ro∨m = .kp)
 (hs:fb P f (Spec.of (ts.map fun _=>m) [false] true q)) (hq:∀ds,Hr ts ds→q ds=some (true,[.d .bool true])) {Tb:Nat} (oq:fn.resultTypes = #[Tb]) (hTb:P.underlying Tb=some .bool)
    (Ns:Ts.all (fun T=>P.readableRec T&&decide (T<P.types.size))=true) {s:ChangeSpec} (Qf:s.vars=[]) (ZF:∀ds:List (DataW H),ds.length=Ts.length→s.fn H ds={ results:=[.lit (.bool true)],args:=ds })
    {apart:Bool} (W:World) (base:Nat) (args:Array Value) (dd gs:List (DataW H)) (before:List MemPlace)
 (Hu:∀(j:Nat) t v,fn.params[j]? =some t→args[j]? =some v→Value.okWide P W .any base t v) (hW:DataW.Whole en P fn.params.toList s.vars apart W args.toList dd gs before) (Hg:W.ShapedOpen P):
    Calls P f args W fun e W'=>∃v,e = .returned v∧s.post en P fn apart true false false W args v W':=by
 have Nu:=hW
 obtain⟨p,q',hA,hV,Gl,sJ,Mm⟩:=hW
 rw[Qf] at hV
 obtain⟨Ut,U5⟩:=trodVars_none hV
 subst Ut U5
 rw[hp] at hA
 obtain⟨ds,fZ,hds⟩:=uf zq hT (base:=base) hc (fun j T v hj sR=>Hu j T v (by
  have:fn.params.toList[j]? =some T:=by rw[hp];exact hj
  simpa using this) (by simpa using sR)) hA
 replace fZ:cE W W (la W) (ts.map fun _=>m) ds args.toList (ts.map fun _ _=>False):=by
  rcases hm with rfl | rfl
  ·exact fZ
  ·exact fZ.kept
 have hap:bH (ts.map fun _ _=>False:List (Nat→Prop)):=by
  unfold bH
  rw[List.pairwise_map]
  exact List.pairwise_iff_getElem.2 fun _ _ _ _ _ k h=>h.elim
 have sV:=hs (R:=List Dt) ds some [.d .bool true] (by
  show (match q ds with | some (g,outs)=>cond g (some outs) none | none=>none)=some [.d .bool true]
  rw[hq ds hds];rfl) W W args.toList (fun _=>False) (la W) _ Hg (fun b o hb=>⟨Array.getElem?_eq_some_iff.1 hb |>.1,hb⟩) fZ hap (fun F hF k hk=>by
   obtain⟨_,_,rfl⟩:=List.mem_map.1 hF;exact hk) (fun k _ h=>h) (fun k hk=>hk) (fun k hk=>hk.elim)
 have hI:args.toList.toArray=args:=by simp
 replace sV:Calls P f args.toList.toArray W _:=sV
 rw[hI] at sV
 refine sV.mono ?_
 rintro e W' ⟨outs,ho,Qg⟩
 have ho:outs=[.d .bool true]:=Option.some.inj ho
 subst ho
 obtain⟨rs,Gs,Bs,he,ta,_⟩:=Qg.out
 have hv:e = .returned (.bool true):=by
  have ta:gl W W' true [false] [.d .bool true] rs Gs:=ta
  cases ta with
  |val h eZ=>
   rename_i u us F Fs
   cases eZ
   simp only[if_true] at h
   obtain⟨us,eM,fy⟩:=h
   obtain⟨e1,_⟩:=eM.size rfl
   obtain⟨Us,_,_,_,hr⟩:=fy
   obtain⟨z,hz,iO⟩:=hr 0 (.v (.bool true)) rfl
   subst e1
   have iO:z = .bool true:=iO
   subst iO
   have hz:=(Option.some.inj hz)
   rw[he]
   show Ending.returned (qx [_])=_
   rw[show qx [_]=_ from rfl]
   exact congrArg Ending.returned hz
 have hB:Below W.heap.size W W':=⟨Qg.kept.os,Qg.kept.tape,Qg.kept.output,Qg.kept.same.1,fun k hk=>Qg.kept.same.2 k hk (fun h=>h)⟩
 refine⟨_,hv,?_⟩
 have hlen:dd.length=Ts.length:=(trodAll_length hA).2
 have Hv:=ZF (dd++[]) (by simpa using hlen)
 refine⟨dd,[],before,[],p,[],Nu,?_,?_,?_,hB.frame _,fun h=>by cases h⟩
 ·rw[Hv,oq]
  exact trodAll_mk1 ⟨1,by simp[DataW.trod,Value.cells,hTb]⟩
 ·rw[Hv,hp]
  simp only[List.append_nil]
  exact my hl hB (fun T BY=>by simpa using List.all_eq_true.1 Ns T BY) hA (fun x hx=>Nu.lt x (by rw[Gl];simp[hx]))
 ·rw[Qf,Hv]
  exact rfl
end Go.Gm
namespace Go.Gm
open Go
def du(x lo hi:Int):Bool:=decide (x≥lo)&&decide (x≤hi)
def ie(c:Int):Bool:=(decide (c≥(97:Int))&&decide (c≤(122:Int)))||(decide (c≥(65:Int))&&decide (c≤(90:Int)))
def digit(c:Int):Bool:=decide (c≥(48:Int))&&decide (c≤(57:Int))
def ti(s:BA)(c:Int):Int:=Lib.indexByte s.data.toList c.toNat.toUInt8
def eL(s:BA)(j:Nat):Int:=(((ByteArray.data s).getD j 0).toNat:Int)
def kN(i c:Int):Bool:=ie c||(!(i==(0:Int))&&(digit c||((c==(95:Int))||((c==(46:Int))||((c==(47:Int))||(c==(45:Int)))))))
noncomputable def fi(s:BA):Bool:=
  ic (fun j=>kN (j:Int) (eL s j)) 0 s.size&&(du (s.size:Int) 1 60&&(!(fX s (bs [110,117,108,108]))&&(!(fX s (bs [116,114,117,101]))&& !(fX s (bs [102,97,108,115,101])))))
theorem ZG{n:Nat}(h:n<256):decide (ti (bs [95,46,47,45]) (n:Int)<0) = !(((n:Int)==(95:Int))||(((n:Int)==(46:Int))||(((n:Int)==(47:Int))||((n:Int)==(45:Int))))):=by
 have h1:(List.range 256).all (fun n=>decide (ti (bs [95,46,47,45]) (n:Int)<0)== !(((n:Int)==(95:Int))||(((n:Int)==(46:Int))||(((n:Int)==(47:Int))||((n:Int)==(45:Int))))))=true:=by kernel_rfl
 exact beq_iff_eq.1 (List.all_eq_true.1 h1 n (List.mem_range.2 h))
theorem Hw{n j:Nat}(h:j<n)(h0:0<j)(hb:n≤9223372036854775807):IntKind.wrap .i64 ((j:Int)-(1:Int))=((j-1:Nat):Int):=by
 rw[cC (by omega) (by omega)];omega
def oF(n:Int):Bool:=decide (-9223372036854775808≤n)&&decide (n≤9223372036854775807)
theorem vL{n:Int}:oF n=true↔ -9223372036854775808≤n∧n≤9223372036854775807:=by simp[oF]
def gx(s:BA):Bool:=Nat.ble s.size 1048576
def gC{α:Type}(f:α→Bool)(xs:List α):Bool:=Nat.ble xs.length 1048576&&xs.all f
theorem gf{s:BA}(h:gx s=true):eD s=true:=Nat.ble_eq_true_of_le (Nat.le_trans (gT h) (by decide))
theorem dU{α:Type}{f:α→Bool}{xs:List α}(h:gC f xs=true):xs.length≤1048576:=by
 simp only[gC,Bool.and_eq_true] at h;exact gT h.1
theorem gQ{α:Type}{f:α→Bool}{xs:List α}(h:gC f xs=true):xs.all f=true:=by
 simp only[gC,Bool.and_eq_true] at h;exact h.2
def same{α:Type}(x:α):α:=x
def sm2{α:Type}(f:α→Bool)(x y:α):Bool:=f x&&f y
theorem mM{t:Ty}{f:El t→Bool}{xs:List (El t)}(h:gC f xs=true){j:Nat}(hj:j<xs.length):f (ax xs j)=true:=by
 obtain⟨x,hx,_⟩:=rG hj
 rw[dG hx];exact List.all_eq_true.1 (gQ h) x (List.mem_of_getElem? hx)
def aY(x:aj):Bool:=(gx x.name&&(oF x.kind&&oF x.goal))
def dV(x:aB):Bool:=(oF x.up&&(oF x.down&&(oF x.bU&&oF x.bm)))
def cD(x:aF):Bool:=(gx x.key&&gx x.text)
def aL(x:ae):Bool:=(gx x.name&&(gx x.target&&(oF x.low&&(oF x.high&&(gC aY x.aq&&(dV x.aD&&gC cD x.notes))))))
def bn(x:af):Bool:=(aL x.order&&oF x.ver)
def bD(x:ai):Bool:=(gC bn x.items&&oF x.next)
def fp(x:ag):Bool:=(oF x.seq&&(oF x.kind&&bn x.item))
def bI(x:au):Bool:=(oF x.base&&gC fp x.list)
def fj(p:Nat→Bool):Nat→Nat→Option Nat
 |_,0=>none
 |j,d+1=>cond (p j) (some j) (fj p (j+1) d)
theorem l5{R:Type}{F:Nat→Int→Option R}{n:Nat}{p:Nat→Bool}{hit:Int→Option R}{miss:Option R}(hs:∀m j,j<n→F (m+1) (j:Int)=cond (p j) (hit (j:Int)) (F m ((j+1:Nat):Int)))
 (he:∀m,F (m+1) (n:Int)=miss):∀d j m,j+d=n→d<m→F m (j:Int)=(fj p j d).elim miss (fun i=>hit (i:Int)):=by
 intro d
 induction d with
 |zero=>
  intro j m hj hm
  obtain⟨m,rfl⟩:∃m',m=m'+1:=⟨m-1,by omega⟩
  have:j=n:=by omega
  subst this
  rw[he];rfl
 |succ d ih=>
  intro j m hj hm
  obtain⟨m,rfl⟩:∃m',m=m'+1:=⟨m-1,by omega⟩
  rw[hs m j (by omega),ih (j+1) m (by omega) (by omega)]
  simp only[fj]
  cases p j<;>rfl
theorem lE{p:Nat→Bool}:∀{d j i:Nat},fj p j d=some i→j≤i∧i<j+d∧p i=true∧∀k,j≤k→k<i→p k=false
 |0,_,_,h=>by cases h
 |d+1,j,i,h=>by
  simp only[fj] at h
  cases hp:p j with
  |true=>rw[hp] at h;cases h;exact⟨Nat.le_refl _,by omega,hp,fun k h1 h2=>by omega⟩
  |false=>
   rw[hp] at h
   obtain⟨h1,h2,h3,h4⟩:=lE h
   refine⟨by omega,by omega,h3,fun k hk mb=> ?_⟩
   by_cases e:k=j
   ·subst e;exact hp
   ·exact h4 k (by omega) mb
theorem lF{p:Nat→Bool}:∀{d j:Nat},fj p j d=none→∀k,j≤k→k<j+d→p k=false
 |0,_,_,k,h1,h2=>by omega
 |d+1,j,h,k,h1,h2=>by
  simp only[fj] at h
  cases hp:p j with
  |true=>rw[hp] at h;cases h
  |false=>
   rw[hp] at h
   by_cases e:k=j
   ·subst e;exact hp
   ·exact lF h k (by omega) (by omega)
def R8(o:Option Nat):Int:=o.elim (-1) fun i=>(i:Int)
end Go.Gm
namespace Go.Gm
open Go
variable {wl : World} {w w' : World} {Mf ROa : Nat → Prop}
end Go.Gm
namespace Go.Gm
open Go
abbrev Q:=Qt
theorem ug{P:Program}{f:Nat}{bL:List Am}{res:List Bool}{own:Bool}{q:Q}(h:∀ds outs,q ds=some (true,outs)→∃q0:Q,fb P f (Spec.of bL res own q0)∧q0 ds=some (true,outs)):fb P f (Spec.of bL res own q):=by
 intro R ds k r hr
 obtain⟨outs,hq,hk⟩:=Spec.nF hr
 obtain⟨q0,hs,h0⟩:=h ds outs hq
 have Yi:(Spec.of bL res own q0).fn ds k=some r:=by
  show (match q0 ds with | some (g,outs)=>cond g (k outs) none | none=>none)=some r
  rw[h0];exact hk
 intro wl w us Mf ROa Fs Hg No hA hp Cy Mw tg mj
 exact Calls.mono (hs ds k r Yi wl w us Mf ROa Fs Hg No hA hp Cy Mw tg mj) fun e w' ⟨outs,h1,h2⟩=>⟨outs,h1,⟨h2.out,h2.kept⟩⟩
theorem yp{α A R:Type}{xs:List α}{F:Nat→Nat→A→Option R}{f:A→α→A}{good:A→Option R}(inv:Nat→A→Prop)
 (hi:∀(j:Nat) a x,xs[j]? =some x→inv j a→inv (j+1) (f a x))
 (hs:∀m (j:Nat) a x,xs[j]? =some x→inv j a→F (m+1) j a=F m (j+1) (f a x)) (he:∀m a,inv xs.length a→F (m+1) xs.length a=good a):
    ∀(d j m:Nat)(a:A),j+d=xs.length→d<m→inv j a→F m j a=good ((xs.drop j).foldl f a):=by
 intro d
 induction d with
 |zero=>
  intro j m a hj hm Yz
  obtain⟨m,rfl⟩:∃m',m=m'+1:=⟨m-1,by omega⟩
  have:j=xs.length:=by omega
  subst this
  rw[he m a Yz,List.drop_length];rfl
 |succ d ih=>
  intro j m a hj hm Yz
  obtain⟨m,rfl⟩:∃m',m=m'+1:=⟨m-1,by omega⟩
  obtain⟨x,hx,hd⟩:=rG (show j<xs.length by omega)
  rw[hs m j a x hx Yz,hd,List.foldl_cons]
  exact ih (j+1) m _ (by omega) (by omega) (hi j a x hx Yz)
theorem gh{c l h:Int}:du c l h=true↔l≤c∧c≤h:=by unfold du;simp
def ec{α:Type}(x:List α):Bool:=Nat.ble x.length VV
theorem kq{α:Type}{x:List α}(h:ec x=true):x.length≤9223372036854775807:=gT h
theorem kr{α:Type}{x:List α}(h:x.length≤9223372036854775807):ec x=true:=Nat.ble_eq_true_of_le h
theorem pa{t:Ty}{q:El t→Bool}{xs:List (El t)}:∀(d j:Nat),j+d=xs.length→
 (fj (fun j=>q (ax xs j)) j d).isSome=(xs.drop j).any q∧(∀ i,fj (fun j=>q (ax xs j)) j d=some i→(xs.drop j).find? q=some (ax xs i))∧(fj (fun j=>q (ax xs j)) j d=none→(xs.drop j).find? q=none)
 |0,j,h=>by
  have:j=xs.length:=by omega
  subst this
  rw[List.drop_length]
  refine⟨rfl,?_,fun _=>rfl⟩
  intro i h;cases h
 |d+1,j,h=>by
  obtain⟨x,hx,hd⟩:=rG (show j<xs.length by omega)
  obtain⟨h1,h2,h3⟩:=pa (q:=q) (xs:=xs) d (j+1) (by omega)
  rw[hd]
  simp only[fj,dG hx,List.any_cons,List.find?_cons]
  cases hq:q x with
  |true=>exact⟨rfl,fun i hi=>by cases hi;rw[dG hx],fun h=>by cases h⟩
  |false=>exact⟨by simpa using h1,h2,h3⟩
theorem Aq{t:Ty}(q:El t→Bool)(xs:List (El t)):(fj (fun j=>q (ax xs j)) 0 xs.length).isSome=xs.any q:=by
 have:=(pa (q:=q) (xs:=xs) xs.length 0 (by omega)).1
 rwa [List.drop_zero] at this
theorem R9(o:Option Nat):decide (R8 o≥0)=o.isSome:=by
 cases o with
 |none=>rfl
 |some i=>simp[R8]
def mz{t:Ty}(q:El t→Bool)(xs:List (El t)):Int:=R8 (fj (fun j=>q (ax xs j)) 0 xs.length)
theorem Hx{t:Ty}(q:El t→Bool)(xs:List (El t)):decide (mz q xs≥0)=xs.any q:=by
 unfold mz;rw[R9,Aq]
theorem rI(x y:BA):fX x y=fX y x:=by rw[Bool.eq_iff_iff,nH,nH,eq_comm]
theorem Hy{n:Int}(h0 : -9223372036854775808≤n)(h:n≤9223372036854775807):oF n=true:=vL.2 ⟨h0,h⟩
def nJ(i c:Int):Bool:=(decide (c≥(97:Int))&&decide (c≤(122:Int)))||(!(i==(0:Int))&&(digit c||(c==(45:Int))))
def dK(s:BA):Bool:=ic (fun j=>nJ (j:Int) (eL s j)) 0 s.size&&du (s.size:Int) 1 20
structure Rc where
 f:Nat
 ms:List Am
 rs:List Bool
 ow:Bool
 mu:List Dt→Nat
 q:Q
def gn(s:BA):Bool:=ic (fun j=>du (eL s j) 32 126) 0 s.size&&decide ((s.size:Int)≤400)
section ev
variable {wl : World} {R : Type}
end ev
variable {R : Type} {P : Program} {E : Env} {w0 w w' : World} {Mf : Nat → Prop} {g : Gh} {st : St} {a : Act}
end Go.Gm
namespace Go.Gm
open Go
variable {wl : World} {P : Program} {w w' : World} {Mf ROa : Nat → Prop}
theorem rJ:∀{ms:List Am}{ds:List Dt}{us:List Value},ms.all (fun m=> !(fN m))=true→ms.length=us.length→ds.length=us.length→ey wl w ms ds us [] []
 | [],[],[],_,_,_=> .nil
 |m::ms,d::ds,u::us,h,h1,h2=>by
  simp only[List.all_cons,Bool.and_eq_true] at h
  refine .skip ?_ (rJ h.2 (by simpa using h1) (by simpa using h2))
  cases m<;>first | trivial | exact absurd h.1 (by simp[fN])
 | [],_::_,[],_,_,h=>by simp at h
 | [],_,_::_,_,h,_=>by simp at h
 |_::_,_,[],_,h,_=>by simp at h
 |_::_,[],_::_,_,_,h=>by simp at h
theorem jy.VX{s:Spec}(dO:s.own=true)(oq:s.res=[false])(hm:s.bL.all (fun m=> !(fN m))=true){ds:List Dt}{us:List Value}(h1:s.bL.length=us.length)(h2:ds.length=us.length){t:Ty}{x:El t}{v:Value}
    {G:Nat→Prop} (hv:gk w' G t x v) (hG:∀k,G k→(Mf k∨w.heap.size≤k)∧k<w'.heap.size) (hk:Kept w w' Mf):jy wl w w' Mf ROa s ds us [.d t x] (.returned v):=by
 refine⟨⟨[v],[G],[],rfl,?_,?_,List.Pairwise.nil,fun B hB=>by simp at hB,fun _=>⟨List.pairwise_singleton _ _,fun G' mf k hk=> ?_⟩,fun e=>absurd (dO.symm.trans e) (by simp),fun G hG B hB=>by simp at hB,fun G' mf k hk=> ?_,fun B hB=>by simp at hB⟩,hk⟩
 ·rw[dO,oq];exact .val (by simpa using hv) .nil
 ·rw[oq];exact rJ hm h1 h2
 ·have:G'=G:=by simpa using mf
  subst this;exact (hG k hk).1
 ·have:G'=G:=by simpa using mf
  subst this;exact (hG k hk).2
theorem oG{f:Nat}{bL:List Am}{q:Qt}(hm:bL.all (fun m=> !(fN m))=true)
 (h:∀ds outs,q ds=some (true,outs)→∃t x,outs=[.d t x]∧∀{wl:World}(w:World)(us:List Value)(Mf ROa:Nat→Prop)(Fs:List (Nat→Prop)),cE wl w ROa bL ds us Fs→bH Fs→(∀ F∈Fs,∀k,F k→Mf k)→
 (∀ k,ROa k→ ¬Mf k)→(∀ k,ROa k→k<w.heap.size)→(∀ k,Mf k→k<w.heap.size)→
      Calls P f us.toArray w fun e w'=>∃v G,e = .returned v∧Kept w w' Mf∧gk w' G t x v∧∀k,G k→(Mf k∨w.heap.size≤k)∧k<w'.heap.size):fb P f (Spec.of bL [false] true q):=by
 intro R ds k r hr wl w us Mf ROa Fs Hg No hA hp Cy Mw tg mj
 obtain⟨outs,hq,hk⟩:=Spec.nF hr
 obtain⟨t,x,rfl,hc⟩:=h ds outs hq
 refine Calls.mono (hc w us Mf ROa Fs hA hp Cy Mw tg mj) ?_
 rintro e w' ⟨v,G,rfl,h1,h2,h3⟩
 obtain⟨Mu,VL,_⟩:=hA.len
 exact⟨_,hk,jy.VX rfl rfl hm Mu VL h2 h3 h1⟩
theorem ig{G:Nat→Prop}{t:Ty}{xs:List (El t)}{v:Value}(h:gX w G t xs v):gk w G (.sl t) xs v:=by
 refine⟨#[v],by simp[Form,e8,h.flat],fun j=>if j=0 then G else fun _=>False,fun j k hk=> ?_,fun j j' k hk mb=> ?_,by simp[enc],fun j c hc=> ?_⟩
 ·dsimp only at hk
  split at hk
  ·exact hk
  ·exact hk.elim
 ·dsimp only at hk mb
  by_cases e1:j=0
  ·by_cases e2:j'=0
   ·omega
   ·simp[e2] at mb
  ·simp[e1] at hk
 ·cases j with
  |zero=>
   simp only[enc,List.getElem?_cons_zero,Option.some.injEq] at hc
   subst hc
   exact⟨v,rfl,by simpa [fP] using h⟩
  |succ j=>simp[enc] at hc
theorem Hz{Pr:Nat→Prop}{t:Ty}{xs:List (El t)}{u:Value}(h:lh w Pr (.sl t) xs u):fk w Pr t xs u:=by
 obtain⟨us,hf,hr⟩:=h
 obtain⟨e,_⟩:=hf.size rfl
 subst e
 obtain⟨z,hz,hc⟩:=hr.2 0 (.l t xs) rfl
 have hz:u=z:=by simpa using hz
 subst hz;exact hc
theorem jo{F:Nat→Prop}{t:Ty}{xs:List (El t)}{u:Value}(h:gk w F (.sl t) xs u):∃G,(∀ k,G k→F k)∧gX w G t xs u:=by
 obtain⟨us,hf,Fs,h1,h2,h3,h4⟩:=h
 obtain⟨e,_⟩:=hf.size rfl
 subst e
 obtain⟨z,hz,hc⟩:=h4 0 (.l t xs) rfl
 have hz:u=z:=by simpa using hz
 subst hz
 exact⟨Fs 0,h1 0,hc⟩
def Ar(P:Program)(f:Nat):Prop:=∀(a:Option Addr)(c:Nat)(w:World),Calls P f #[.slice a 0 c] w fun e w'=>
 (e = .returned (.slice none 0 0)∧w'=w)∨∃el,e = .returned (.slice (some ⟨w.heap.size,0,none⟩) 0 0)∧w'=w.alloc (.cells #[] el)
theorem Ef(w:World)(F:Nat→Prop)(t:Ty){v:Value}(h:bp w F t [] v fun _ _=>v):gX w F t [] v:=by
 refine⟨fun _=>v,rfl,fun p s hs=> ?_,fun p q s s' b hp hq _ _=> ?_⟩
 ·cases p with
  |nil=>simp only[aQ,Option.some.injEq] at hs;subst hs;exact h
  |cons ij p=>simp[aQ] at hs
 ·cases p with
  |nil=>cases q with
   |nil=>rfl
   |cons ij q=>simp[aQ] at hq
  |cons ij p=>simp[aQ] at hp
theorem pb{f:Nat}{t:Ty}(h:Ar P f){q:Qt}(hq:∀ds outs,q ds=some (true,outs)→ds=[.d (.sl t) []]∧outs=[.d (.sl t) []]):fb P f (Spec.of [.ro] [false] true q):=by
 refine oG rfl fun ds outs Sb=> ?_
 obtain⟨rfl,rfl⟩:=hq ds outs Sb
 refine⟨_,_,rfl,fun w us Mf ROa Fs hA _ _ _ _ _=> ?_⟩
 cases hA with
 |cons h1 hA=>
  cases hA
  obtain⟨av,h0,fw⟩:=Hz h1
  obtain⟨a,cap,e1,_,_⟩:=fw [] ⟨t,[]⟩ rfl
  rw[h0] at e1
  subst e1
  refine Calls.mono (h a cap w) ?_
  rintro e w' (⟨rfl,rfl⟩ | ⟨el,rfl,rfl⟩)
  ·exact⟨_,fun _=>False,rfl,⟨rfl,rfl,rfl,Nat.le_refl _,fun _ _ _=>rfl⟩,ig (vf _ _ _),fun _ h=>h.elim⟩
  ·refine⟨_,fun k=>k=w.heap.size,rfl,⟨rfl,rfl,rfl,by simp,fun b hb _=>heap_alloc_old w _ hb⟩,ig (Ef _ _ _ ?_),fun k hk=> ?_⟩
   ·exact .inr ⟨w.heap.size,0,0,#[],el,rfl,rfl,heap_alloc_new w _,Nat.le_refl _,by simp,fun i y j c h=>by simp at h⟩
   ·subst hk;exact⟨.inr (Nat.le_refl _),by simp⟩
theorem rK{f:Nat}{q qa qb:Qt}(ha:fb P f (Spec.of [.ro] [false] true qa))(hb:fb P f (Spec.of [.ro] [false] true qb))(h:∀ds outs,q ds=some (true,outs)→qa ds=some (true,outs)∨qb ds=some (true,outs)):
    fb P f (Spec.of [.ro] [false] true q):=
  ug fun ds outs hq=>(h ds outs hq).elim (fun h=>⟨qa,ha,h⟩) fun h=>⟨qb,hb,h⟩
end Go.Gm
namespace Go.Gm
open Go
theorem Qh{α:Type}{xs:List α}(h:xs.length≤1048576):Nat.ble xs.length fO=true:=Nat.ble_eq_true_of_le (by have:(fO:Nat)=4294967296:=rfl;omega)
theorem Sd{α:Type}{xs:List α}(h:xs.length≤1048576):Nat.ble (xs.length+1) fO=true:=Nat.ble_eq_true_of_le (by have:(fO:Nat)=4294967296:=rfl;omega)
theorem lG{α:Type}{f:α→Bool}{x:α}{r:List α}(h:gC f r=true)(hx:f x=true)(hl:r.length<1048576):gC f (r++[x])=true:=by
 simp only[gC,Bool.and_eq_true,List.all_append,List.all_cons,List.all_nil,List.length_append,List.length_cons,List.length_nil] at h ⊢
 exact⟨Nat.ble_eq_true_of_le (by omega),h.2,hx,trivial⟩
theorem CC{α:Type}{f:α→Bool}{xs ys:List α}(h:gC f ys=true)(hs:∀x∈xs,x∈ys)(hl:xs.length≤ys.length):gC f xs=true:=by
 simp only[gC,Bool.and_eq_true] at h ⊢
 exact⟨Nat.ble_eq_true_of_le (Nat.le_trans hl (gT h.1)),List.all_eq_true.2 fun x hx=>List.all_eq_true.1 h.2 x (hs x hx)⟩
def gp(a b:BA):Bool:=decide ((a.size:Int)≥(b.size:Int))&&fX (a.extract 0 b.size) b
def ours(a:BA):Bool:=gp a (bs [113,117,97,121,47])
def oH(n:Int):Bool:=du n 0 1000
def ik(p:aB):Bool:=du p.up 0 1000&&(du p.down 0 1000&&(du p.bU 0 3600&&du p.bm 0 3600))
def ei(m:aj):Bool:=dK m.name&&(du m.kind 1 3&&du m.goal 1 1000000)
noncomputable def rL(xs:List aF)(j:Nat):Bool:=
  fi (ax (t:= .note) xs j).key&&(!(gp (ax (t:= .note) xs j).key (bs [113,117,97,121,47]))&&(gn (ax (t:= .note) xs j).text&&(!(decide (((ax (t:= .note) xs j).text.size:Int)>40))&&
 (!(decide ((j:Int)>0))||gS (ax (t:= .note) xs (j-1)).key (ax (t:= .note) xs j).key))))
noncomputable def gR(xs:List aF):Bool:=ic (rL xs) 0 xs.length&&decide ((xs.length:Int)≤4)
def As(xs:List aj)(j:Nat):Bool:=ei (ax (t:= .aw) xs j)&&(!(decide ((j:Int)>0))||gS (ax (t:= .aw) xs (j-1)).name (ax (t:= .aw) xs j).name)
def mN(xs:List aj):Bool:=ic (As xs) 0 xs.length&&decide ((xs.length:Int)≤4)
noncomputable def cS(o:ae):Bool:=
  dK o.name&&(dK o.target&&(du o.low 1 o.high&&(decide (o.high≤1000)&&(mN o.aq&&(ik o.aD&&gR o.notes)))))
theorem HA(x:aB):(⟨x.up,x.down,x.bU,x.bm⟩:aB)=x:=rfl
theorem rN(x:aj):(⟨x.name,x.kind,x.goal⟩:aj)=x:=rfl
theorem il(x:ae):(⟨x.name,x.target,x.low,x.high,x.aq,x.aD,x.notes⟩:ae)=x:=rfl
theorem gq(x:ae):(⟨x.name,x.target,x.low,x.high,x.aq,⟨x.aD.up,x.aD.down,x.aD.bU,x.aD.bm⟩,x.notes⟩:ae)=x:=rfl
theorem nK(x:af):(⟨x.order,x.ver⟩:af)=x:=rfl
theorem uh(x:ag):(⟨x.seq,x.kind,x.item⟩:ag)=x:=rfl
noncomputable def jq(h:au)(j:Nat):Bool:=
 ((ax (t:= .event) h.list j).seq==h.base+1+(j:Int))&&(du (ax (t:= .event) h.list j).kind 1 2&&(cS (ax (t:= .event) h.list j).item.order&&du (ax (t:= .event) h.list j).item.ver 1 100000))
noncomputable def cA(h:au):Bool:=du h.base 0 100000&&(!(decide ((h.list.length:Int)>60))&&ic (jq h) 0 h.list.length)
theorem kt{h:au}(hh:cA h=true):0≤h.base∧h.base≤100000∧h.list.length≤60∧∀j,j<h.list.length→jq h j=true:=by
 simp only[cA,Bool.and_eq_true,gh,Bool.not_eq_true',decide_eq_false_iff_not,nI] at hh
 exact⟨hh.1.1,hh.1.2,by omega,fun j hj=>hh.2.2 j (Nat.zero_le _) (by omega)⟩
def di(h:au)(k:Int)(x:af):ag:=⟨h.base+1+(h.list.length:Int),k,x⟩
noncomputable def bY(h:au)(k:Int)(x:af):au:=
  cond (cA h) (cond (decide (h.list.length≥60))
 (cond (cA ⟨h.base+1,(h.list++[di h k x]).drop 1⟩) ⟨h.base+1,(h.list++[di h k x]).drop 1⟩ h)
 (cond (cA ⟨h.base,h.list++[di h k x]⟩) ⟨h.base,h.list++[di h k x]⟩ h)) h
def eX(h:au)(k:Int)(x:af):Bool:=bI h&&(oF k&&bn x)
noncomputable def since(h:au)(n:Int):List ag×Bool:=cond (cA h&&du n h.base (h.base+(h.list.length:Int))) (h.list.drop (n-h.base).toNat,true) ([],false)
def mO(h:au)(n:Int):Bool:=bI h&&oF n
theorem nL{α:Type}{f:α→Bool}{xs:List α}(h:gC f xs=true)(n:Nat):gC f (xs.drop n)=true:=
  CC h (fun _ hx=>List.mem_of_mem_drop hx) (by rw[List.length_drop];omega)
theorem ZH(k:Int):du k 1 2=((k==(1:Int))||(k==(2:Int))):=by
 rw[Bool.eq_iff_iff];simp only[gh,Bool.or_eq_true,beq_iff_eq];omega
theorem rO{α:Type}(xs out:List α):xs.foldl (fun o x=>o++[x]) out=out++xs:=by
 induction xs generalizing out with
 |nil=>simp
 |cons x r ih=>rw[List.foldl_cons,ih];simp
theorem ku{n:Int}(h1:0≤n)(h2:n≤1000000):oF n=true:=vL.2 (by omega)
theorem yq{h:au}{k:Int}{x:af}(hk:oF k=true)(hx:bn x=true)(hh:cA h=true):fp (di h k x)=true:=by
 obtain⟨h1,h2,h3,_⟩:=kt hh
 simp only[di,fp,Bool.and_eq_true]
 exact⟨ku (by omega) (by omega),hk,hx⟩
theorem At{h:au}{k:Int}{x:af}(hh:bI h=true)(hk:oF k=true)(hx:bn x=true):bI (bY h k x)=true:=by
 unfold bY
 cases ho:cA h with
 |false=>exact hh
 |true=>
  obtain⟨h1,h2,h3,_⟩:=kt ho
  have h0:=hh
  simp only[bI,Bool.and_eq_true] at hh
  have hl:=lG hh.2 (yq hk hx ho) (by omega)
  have s1:bI ⟨h.base+1,(h.list++[di h k x]).drop 1⟩=true:=by
   simp only[bI,Bool.and_eq_true];exact⟨ku (by omega) (by omega),nL hl 1⟩
  have s2:bI ⟨h.base,h.list++[di h k x]⟩=true:=by
   simp only[bI,Bool.and_eq_true];exact⟨hh.1,hl⟩
  rw[cond_true]
  cases decide (h.list.length≥60)<;>cases cA ⟨h.base+1,(h.list++[di h k x]).drop 1⟩<;>cases cA ⟨h.base,h.list++[di h k x]⟩<;>assumption
def pc(x y:af):Bool:=x.ver==y.ver
def CD(xs:List af)(y:af):Int:=mz (t:= .item) (fun x=>pc x y) xs
def nM(xs:List af)(y:af):Bool:=xs.any fun x=>pc x y
noncomputable def ui(xs:List af)(next:Int)(j:Nat):Bool:=
  cS (ax (t:= .item) xs j).order&&(du (ax (t:= .item) xs j).ver 1 (next-1)&&((!(decide ((j:Int)>0))||gS (ax (t:= .item) xs (j-1)).order.name (ax (t:= .item) xs j).order.name)&&
    !(nM (xs.take j) (ax (t:= .item) xs j))))
noncomputable def cT(s:ai):Bool:=du s.next 1 100000&&(decide ((s.items.length:Int)≤6)&&ic (ui s.items s.next) 0 s.items.length)
theorem tj{s:ai}(h:cT s=true):du s.next 1 100000=true∧∀j,j<s.items.length→ui s.items s.next j=true:=by
 simp only[cT,Bool.and_eq_true] at h
 exact⟨h.1,fun j hj=>nI.1 h.2.2 j (by omega) (by omega)⟩
end Go.Gm
namespace Go.Gm
open Go
variable {wl : World} {P : Program} {E : Env} {w w' : World}
theorem tk(t ty e:TypeId)(i:TypeInfo)(ht:P.underlying t=some (.slice e))(hi:P.info? e=some i)(b off n cap:Nat)(a:Addr)(m c:Nat)(news:List Value)(hl:news.length=m*i.size)
 (VY:∀j u,news[j]? =some u→w.cell? (a.add j)=some u) (h1:∀u∈news,u.oneCell'=true) (jz:n+m≤cap) (cs:Array Value) (el:TypeId) (hb:w.heap[b]? =some (.cells cs el (0,0))) (ek:off+n*i.size+news.length≤cs.size):
 (Builtin.append_ #[t,t] ty #[.slice (some ⟨b,off,none⟩) n cap,.slice (some a) m c]).run P w = .ok (.slice (some ⟨b,off,none⟩) (n+m) cap) (w.setRow b (putAt cs (off+n*i.size) news.toArray)):=by
 have hfc:=run_firstCells_some (P:=P) w i.size m a m c news hl VY
 have ix:=run_storeCells_at P b (off+n*i.size) el news 0 cs w hb (by simpa using ek) h1
 simp only[Nat.add_zero] at ix
 rw[← iW (by simpa using ek)]
 simp[Builtin.append_,run_underlying ht,sizeOf,typeInfo,hi,Builtin.lenOf,jz,hfc,ez,ix]
theorem rP{ops:Array Oper}{o:Oper}{a:Act}{K:Act→World→Prop}{Q:Exit→Act→World→Prop}{R:Prop}
    (hg:o.guard=none) (s x:Operand) (t:TypeId) (bZ:o.op=Op.call { callee:=Callee.builtin Builtin.append,args:= #[s,x],argTypes:= #[t,t] })
 (e:TypeId) (i:TypeInfo) (size:Nat) (h1:P.underlying t=some (.slice e)) (h2:P.info? e=some i) (h4:i.size=size)
 (b off n cap:Nat) (hs:a.eval s = .slice (some ⟨b,off,none⟩) n cap)
 (ad:Addr) (m c:Nat) (news:List Value) (hx:a.eval x = .slice (some ad) m c) (hn:news.length=m*size) (hc:∀j u,news[j]? =some u→w.cell? (ad.add j)=some u) (h1c:∀u∈news,u.oneCell'=true)
 (jz:n+m≤cap) (cs:Array Value) (el:TypeId) (hb:w.heap[b]? =some (.cells cs el (0,0))) (ek:off+n*size+news.length≤cs.size)
 (hK:K (a.put o.dst (.slice (some ⟨b,off,none⟩) (n+m) cap)) (w.setRow b (putAt cs (off+n*size) news.toArray))):
    if Region.wanted o (yielded ops a.tmps)=true then Oper.wp P o a w K Q else R:=by
 have hw:Region.wanted o (yielded ops a.tmps)=true:=by simp[Region.wanted,hg]
 rw[if_pos hw]
 subst h4
 have dM:=tk (P:=P) (w:=w) t o.type e i h1 h2 b off n cap ad m c news hn hc h1c jz cs el hb ek
 unfold Oper.wp
 simp[execOp,bZ,resolve,invoke,builtin,hs,hx,dM,Result.andThen]
 exact hK
def Au(w w':World)(b o n i j sz:Nat)(cs:Array Value)(el:TypeId):Prop:=
  Kept w w' (fun k=>k=b)∧∃m0,w'.heap[b]? =some (.cells m0 el (0,0))∧m0.size=cs.size∧∀k,k<(n-(j-i))*sz→m0[o+k]? =cs[o+if k<i*sz then k else k+(j-i)*sz]?
def VZ(P:Program)(f sz:Nat):Prop:=
 (∀(a:Option Addr)(n cap i:Nat)(w:World),i≤n→n≤cap→Calls P f #[.slice a n cap,.int .i64 i,.int .i64 i] w fun e w'=>e = .returned (.slice a n cap)∧w'=w)∧
  ∀(b o n cap i j:Nat)(cs:Array Value)(el:TypeId)(w:World),i<j→j≤n→n≤cap→w.heap[b]? =some (.cells cs el (0,0))→o+cap*sz≤cs.size→(∀ k u,k<n*sz→cs[o+k]? =some u→u.oneCell'=true)→
    Calls P f #[.slice (some ⟨b,o,none⟩) n cap,.int .i64 i,.int .i64 j] w fun e w'=>e = .returned (.slice (some ⟨b,o,none⟩) (n-(j-i)) cap)∧Au w w' b o n i j sz cs el
theorem HB(hE:E.Ok P){T:TypeId}{e:Ty}(hT:E.code T=some (.sl e)){sz:Nat}(dQ:ao e=sz){b o n cap i j:Nat}{cs:Array Value}{el:TypeId}(vl:i<j)(hj:j≤n)(hn:n≤cap)
 (hb:w.heap[b]? =some (.cells cs el (0,0))) (hs:o+cap*sz≤cs.size) (h1:∀k u,k<n*sz→cs[o+k]? =some u→u.oneCell'=true):
    ∃(eT:TypeId)(ii:TypeInfo)(news:List Value)(W1 W2:World),P.underlying T=some (.slice eT)∧P.info? eT=some ii∧ii.size=sz∧news.length=(n-j)*sz∧(∀ u∈news,u.oneCell'=true)∧
 (∀ A:Addr,A=⟨b,o+j*sz,none⟩∨n=j→∀t u,news[t]? =some u→w.drew.cell? (A.add t)=some u)∧o+i*sz+news.length≤cs.size∧W1=w.drew.setRow b (putAt cs (o+i*sz) news.toArray)∧
 (∀ ty,(Builtin.clear_ #[T] ty #[.slice (some ⟨b,o+(i+(n-j))*sz,none⟩) (n-(i+(n-j))) (cap-(i+(n-j)))]).run P W1 = .ok (.tuple #[]) W2)∧Au w W2 b o n i j sz cs el:=by
 subst dQ
 obtain⟨eT,hu,lR⟩:=hE.slice hT
 obtain⟨ii,zv,hi,dQ,Rm,hz,qG⟩:=hE.info eT e lR
 have me:=eN e
 have DG:zv.cells.size=ao e:=by rw[qG];simp[dY,aS]
 have hzf:∀v∈zv.cells.toList,v.oneCell'=true:=by
  rw[qG]
  intro v hv
  simp only[dY] at hv
  obtain⟨c,hc,rfl⟩:=List.mem_map.1 (by simpa using hv)
  obtain⟨m,hm⟩:=List.getElem?_of_mem hc
  cases c with
  |v x=>exact lp (ff (P':=fun _=>True) (w:=w) hm rfl)
  |l t ys=>rfl
 have UE:j*ao e≤n*ao e:=Nat.mul_le_mul_right _ hj
 have PY:n*ao e≤cap*ao e:=Nat.mul_le_mul_right _ hn
 have hm3:i*ao e≤j*ao e:=Nat.mul_le_mul_right _ (Nat.le_of_lt vl)
 have hm4:(n-j)*ao e=n*ao e-j*ao e:=Nat.sub_mul _ _ _
 have hm5:(j-i)*ao e=j*ao e-i*ao e:=Nat.sub_mul _ _ _
 have hm6:(i+(n-j))*ao e=i*ao e+(n*ao e-j*ao e):=by rw[Nat.add_mul,hm4]
 have hm7:(n-(i+(n-j)))*ao e=j*ao e-i*ao e:=by rw[show n-(i+(n-j))=j-i by omega,hm5]
 have Y5:(n-(j-i))*ao e=i*ao e+(n*ao e-j*ao e):=by rw[show n-(j-i)=i+(n-j) by omega,hm6]
 have hlen:((cs.toList.drop (o+j*ao e)).take ((n-j)*ao e)).length=(n-j)*ao e:=by simp;omega
 have jP:∀t,t<(n-j)*ao e→((cs.toList.drop (o+j*ao e)).take ((n-j)*ao e))[t]? =cs[o+j*ao e+t]? :=by
  intro t ht
  rw[List.getElem?_take,if_pos ht,List.getElem?_drop,Array.getElem?_toList]
 generalize (cs.toList.drop (o+j*ao e)).take ((n-j)*ao e)=news at hlen jP
 have PQ:∀t u,news[t]? =some u→t<(n-j)*ao e:=fun t u hu=>by
  have:=(List.getElem?_eq_some_iff.1 hu).1
  omega
 have ek:o+i*ao e+news.length≤cs.size:=by omega
 have xR:(w.drew.setRow b (putAt cs (o+i*ao e) news.toArray)).heap[b]? =some (.cells (putAt cs (o+i*ao e) news.toArray) el (0,0)):=setRow_heap w.drew b cs _ el (0,0) hb
 have vM:(putAt cs (o+i*ao e) news.toArray).size=cs.size:=cF (by simpa using ek)
 have qz:=fun ty=>nk (P:=P) T eT ty zv hu (fun w=>by simp[zeroValue,typeInfo,hi,hz]) hzf (by omega) b (o+(i+(n-j))*ao e) (n-(i+(n-j))) (cap-(i+(n-j))) (by omega) _ el xR (by rw[vM,DG,hm7];omega)
 have PV:(Builtin.zeroCells zv.cells (n-(i+(n-j)))).size=j*ao e-i*ao e:=by rw[size_zeroCells,DG,hm7]
 have Se:(putAt (putAt cs (o+i*ao e) news.toArray) (o+(i+(n-j))*ao e) (Builtin.zeroCells zv.cells (n-(i+(n-j))))).size=cs.size:=by rw[cF (by rw[vM,PV];omega),vM]
 refine⟨eT,ii,news,_,_,hu,hi,dQ,hlen,fun u hu=> ?_,fun A hA t u hu=> ?_,ek,rfl,qz,⟨rfl,rfl,rfl,?_⟩,_,setRow_heap _ b _ _ el (0,0) xR,Se,fun k hk=> ?_⟩
 ·obtain⟨t,ht⟩:=List.getElem?_of_mem hu
  have cc:=PQ t u ht
  rw[jP t cc] at ht
  exact h1 (j*ao e+t) u (by omega) (by rw[← Nat.add_assoc];exact ht)
 ·have cc:=PQ t u hu
  rcases hA with rfl | h
  ·rw[jP t cc] at hu
   rw[ez,jO (w:=w.drew) hb]
   exact hu
  ·subst h;simp at cc
 ·exact bw.trans (Y:=fun k=>k=b) (Z:=fun k=>k=b) (dZ w.drew b _) (dZ _ b _) (fun _ h=>h) (fun _ _ h=>h)
 ·rw[Y5] at hk
  rw[eU (by rw[vM,PV];omega),if_neg (by omega),eU (by simpa using ek)]
  have xk:news.toArray.size=news.length:=by simp
  by_cases h:k<i*ao e
  ·rw[if_neg (by omega),if_pos h]
  ·rw[if_pos (by omega),if_neg h,List.getElem?_toArray,show o+k-(o+i*ao e)=k-i*ao e by omega,jP _ (by omega),hm5]
   congr 1
   omega
theorem aW.pick{F:Nat→Prop}{t:Ty}{xs ys:List (El t)}{av:Path→Value}(h:aW w F t xs av)(σ:Nat→Nat)(hσ:∀i y,ys[i]? =some y→xs[σ i]? =some y)(hinj:∀i i',σ i=σ i'→i=i')
 (bR:bw (fun k=>j8 (av [])=some k) w w') {v:Value} (lq:∀k,j8 v=some k→j8 (av [])=some k) (hn:bp w' F t ys v fun i j=>av [(σ i,j)]):gX w' F t ys v:=by
 have dp:∀i j p s,aQ t ys ((i,j)::p)=some s→aQ t xs ((σ i,j)::p)=some s:=by
  intro i j p s hs
  simp only[aQ] at hs ⊢
  split at hs
  ·rename_i y hy
   rw[hσ i y hy];exact hs
  ·cases hs
 refine⟨fun p=>match p with | []=>v | (i,j)::p=>av ((σ i,j)::p),rfl,fun p s hs=> ?_,fun p q s s' k hp hq hk mb=> ?_⟩
 ·cases p with
  |nil=>simp only[aQ,Option.some.injEq] at hs;subst hs;exact hn
  |cons x p=>
   obtain⟨i,j⟩:=x
   have eZ:=dp i j p s hs
   exact (h.1 _ s eZ).here bR fun k hk e=>by have:=h.2 _ [] s ⟨t,xs⟩ k eZ rfl hk e;cases this
 ·cases p with
  |nil=>cases q with
   |nil=>rfl
   |cons y q=>
    obtain⟨i,j⟩:=y
    have:=h.2 [] _ ⟨t,xs⟩ s' k rfl (dp i j q s' hq) (lq k hk) mb
    cases this
  |cons x p=>
   obtain⟨i,j⟩:=x
   cases q with
   |nil=>
    have:=h.2 _ [] s ⟨t,xs⟩ k (dp i j p s hp) rfl hk (lq k mb)
    cases this
   |cons y q=>
    obtain⟨i',j'⟩:=y
    have:=h.2 _ _ s s' k (dp i j p s hp) (dp i' j' q s' hq) hk mb
    simp only[List.cons.injEq,Prod.mk.injEq] at this
    obtain⟨⟨h1,rfl⟩,rfl⟩:=this
    rw[hinj _ _ h1]
theorem aW.CF{F:Nat→Prop}{t:Ty}{xs:List (El t)}{av:Path→Value}(h:aW w F t xs av){cs:Array Value}{o:Nat}(hr:RowsIn t xs cs o fun i j=>av [(i,j)]):∀k u,k<xs.length*ao t→cs[o+k]? =some u→u.oneCell'=true:=by
 intro k u hk hu
 have me:=eN t
 have hi:k/ao t<xs.length:=Nat.div_lt_of_lt_mul (by rw[Nat.mul_comm];exact hk)
 have hj:k%ao t<ao t:=Nat.mod_lt _ me
 have hc:=List.getElem?_eq_getElem (l:=enc t xs[k/ao t]) (i:=k%ao t) (by rw[aS];exact hj)
 obtain⟨z,hz,iO⟩:=hr (k/ao t) xs[k/ao t] (k%ao t) _ (List.getElem?_eq_getElem hi) hc
 have:k/ao t*ao t+k%ao t=k:=by rw[Nat.mul_comm];exact Nat.div_add_mod k (ao t)
 rw[Nat.add_assoc,this,hu] at hz;cases hz
 generalize (enc t xs[k/ao t])[k%ao t]'(by rw[aS];exact hj)=c at hc iO
 cases c with
 |v x=>exact lp (ff (P':=fun _=>True) (w:=w) hc iO)
 |l t' ys=>
  have hs:=h.1 [(k/ao t,k%ao t)] ⟨t',ys⟩ (gb (List.getElem?_eq_getElem hi) hc)
  simp only[dH] at iO
  subst iO
  rcases hs with ⟨_,e⟩ | ⟨b,o,cap,cs,el,e,_⟩<;>rw[e]<;>rfl
theorem HC{f:Nat}{t:Ty}{sz:Nat}(dQ:ao t=sz)(h:VZ P f sz){q:Qt}
 (hq:∀ds outs,q ds=some (true,outs)→∃(xs:List (El t))(i j:Nat),ds=[.d (.sl t) xs,.d (.i .i64) (i:Int),.d (.i .i64) (j:Int)]∧i≤j∧j≤xs.length∧outs=[.d (.sl t) (xs.take i++xs.drop j)]):
    fb P f (Spec.of [.jK,.ro,.ro] [false] true q):=by
 subst dQ
 refine oG rfl fun ds outs Sb=> ?_
 obtain⟨xs,i,j,rfl,vl,hj,rfl⟩:=hq ds outs Sb
 refine⟨_,_,rfl,fun w us Mf ROa Fs hA _ Cy _ _ mj=> ?_⟩
 cases hA with
 | @cons _ _ _ _ u1 us F Fs h1 hA=>
  cases hA with
  |cons h2 hA=>
   cases hA with
   |cons h3 hA=>
    cases hA
    have e2:=nG (t:= .i .i64) (v:= .int .i64 i) rfl rfl h2
    have e3:=nG (t:= .i .i64) (v:= .int .i64 j) rfl rfl h3
    subst e2;subst e3
    obtain⟨G,hG,dO⟩:=jo h1
    have Nv:∀k,G k→Mf k:=fun k hk=>Cy F (by simp) k (hG k hk)
    have same:i=j→∀(a:Option Addr)(cap:Nat),u1 = .slice a xs.length cap→xs.length≤cap→Calls P f #[u1,.int .i64 i,.int .i64 j] w fun e w'=>∃v G,e = .returned v∧Kept w w' Mf∧gk w' G (.sl t) (xs.take i++xs.drop j) v∧∀k,G k→(Mf k∨w.heap.size≤k)∧k<w'.heap.size:=by
     rintro rfl a cap rfl dJ
     refine Calls.mono (h.1 a xs.length cap i w hj dJ) ?_
     rintro e w' ⟨rfl,rfl⟩
     rw[List.take_append_drop]
     exact⟨_,G,rfl,⟨rfl,rfl,rfl,Nat.le_refl _,fun _ _ _=>rfl⟩,ig dO,fun k hk=>⟨.inl (Nv k hk),mj k (Nv k hk)⟩⟩
    obtain⟨av,h0,hT⟩:=dO
    have dz:=hT.1 [] ⟨t,xs⟩ rfl
    rw[h0] at dz
    rcases dz with ⟨e,rfl⟩ | ⟨b,o,cap,cs,el,rfl,hF,hb,dJ,dy,db⟩
    ·have e:xs=[]:=e
     subst e
     exact same (by simp at hj;omega) none 0 rfl (Nat.le_refl _)
    ·have dJ:xs.length≤cap:=dJ
     have dy:o+cap*ao t≤cs.size:=dy
     have db:RowsIn t xs cs o fun i j=>av [(i,j)]:=db
     by_cases dP:i=j
     ·exact same dP _ cap rfl dJ
     ·have cc:i<j:=by omega
      refine Calls.mono (h.2 b o xs.length cap i j cs el w cc hj dJ hb dy (hT.CF db)) ?_
      rintro e w' ⟨rfl,hk,m0,fl,fc,jP⟩
      have hlen:(xs.take i++xs.drop j).length=xs.length-(j-i):=by simp;omega
      refine⟨_,G,rfl,⟨hk.os,hk.tape,hk.output,hk.same.1,fun k sX vm=>hk.same.2 k sX fun e=>by subst e;exact vm (Nv _ hF)⟩,?_,fun k mb=>⟨.inl (Nv k mb),Nat.lt_of_lt_of_le (mj k (Nv k mb)) hk.same.1⟩⟩
      have hσ:∀m y,(xs.take i++xs.drop j)[m]? =some y→xs[if m<i then m else m+(j-i)]? =some y:=by
       intro m y hy
       by_cases hm:m<i
       ·rw[List.getElem?_append_left (by simp;omega),List.getElem?_take,if_pos hm] at hy
        rw[if_pos hm];exact hy
       ·rw[List.getElem?_append_right (by simp;omega),List.getElem?_drop] at hy
        rw[if_neg hm,←hy]
        congr 1
        simp;omega
      refine ig (hT.pick (fun m=>if m<i then m else m+(j-i)) hσ (fun m m' e=>by split at e<;>split at e<;>omega) ⟨hk.same.1,fun k sX vm=>hk.same.2 k sX fun e=>by subst e;exact vm (by rw[h0];rfl)⟩ (fun k hk=>by rw[h0];exact hk) (.inr ⟨b,o,cap,m0,el,?_,hF,fl,?_,by omega,?_⟩))
      ·rw[hlen]
      ·rw[hlen];omega
      ·intro m y c z hy hc
       obtain⟨u,hu,gu⟩:=db _ y c z (hσ m y hy) hc
       refine⟨u,?_,gu⟩
       have Nj:=jA hy
       have qz:=hQ hc
       have h1:m*ao t+ao t≤(xs.length-(j-i))*ao t:=by
        have:(m+1)*ao t≤(xs.length-(j-i))*ao t:=Nat.mul_le_mul_right _ (by omega)
        rw[Nat.add_mul] at this;omega
       rw[Nat.add_assoc,jP (m*ao t+c) (by omega),←hu]
       congr 1
       by_cases hm:m<i
       ·have:m*ao t+ao t≤i*ao t:=by
         have:(m+1)*ao t≤i*ao t:=Nat.mul_le_mul_right _ (by omega)
         rw[Nat.add_mul] at this;omega
        rw[if_pos (by omega),if_pos hm];omega
       ·have:i*ao t≤m*ao t:=Nat.mul_le_mul_right _ (by omega)
        rw[if_neg (by omega),if_neg hm,Nat.add_mul (m) (j-i)];omega
end Go.Gm
namespace Go.Gm
open Go
def HD{α:Type}(xs:List α)(i j:Int):List α:=xs.take i.toNat++xs.drop j.toNat
def HE{α:Type}(xs:List α)(i j:Int):Bool:=decide (0≤i)&&decide (i≤j)&&decide (j≤(xs.length:Int))
theorem vN{α:Type}{xs ys:List α}{j:Nat}(h:ys.drop j=xs.drop j):ys[j]? =xs[j]? :=by
 have:=congrArg (fun l=>l[0]?) h
 simpa [List.getElem?_drop] using this
theorem Eg{t:Ty}{R:Type}{xs:List (El t)}{p:El t→Bool}{F:Nat→Int→Int→List (El t)→Option R}{good:Option R}
 (hs:∀(m i j:Nat)(vr:List (El t)),i<j→j<xs.length→vr.length=xs.length→F (m+1) (i:Int) (j:Int) vr=cond (!(p (ax vr j))) (F m ((i+1:Nat):Int) ((j+1:Nat):Int) (vr.set i (ax vr j))) (F m (i:Int) ((j+1:Nat):Int) vr))
 (he:∀(m i:Nat)(vr:List (El t)),vr.length=xs.length→i<xs.length→vr.take i=xs.filter (fun x=> !(p x))→F (m+1) (i:Int) (xs.length:Int) vr=good):
    ∀(d i j m:Nat)(vr:List (El t)),j+d=xs.length→d<m→i<j→vr.length=xs.length→vr.take i=(xs.take j).filter (fun x=> !(p x))→vr.drop j=xs.drop j→F m (i:Int) (j:Int) vr=good:=by
 intro d
 induction d with
 |zero=>
  intro i j m vr hj hm vl hl ht hd
  obtain⟨m,rfl⟩:∃m',m=m'+1:=⟨m-1,by omega⟩
  have:j=xs.length:=by omega
  subst this
  exact he m i vr hl vl (by rw[ht,List.take_length])
 |succ d ih=>
  intro i j m vr hj hm vl hl ht hd
  obtain⟨m,rfl⟩:∃m',m=m'+1:=⟨m-1,by omega⟩
  have Mx:j<xs.length:=by omega
  rw[hs m i j vr vl Mx hl]
  have hx:=eo Mx
  have hv:vr[j]? =some (ax xs j):=by rw[vN hd,hx]
  rw[dG hv]
  have htk:xs.take (j+1)=xs.take j++[ax xs j]:=by rw[List.take_add_one,hx];rfl
  have X9:vr.drop (j+1)=xs.drop (j+1):=by
   have:=congrArg (List.drop 1) hd
   simpa [List.drop_drop,Nat.add_comm] using this
  cases hp:p (ax xs j) with
  |true=>exact ih i (j+1) m vr (by omega) (by omega) (by omega) hl (by rw[htk,List.filter_append,ht];simp[hp]) X9
  |false=>
   refine ih (i+1) (j+1) m _ (by omega) (by omega) (by omega) (by simpa using hl) ?_ ?_
   ·rw[htk,List.filter_append,←ht,List.take_add_one,List.getElem?_set_self (by omega),List.take_set_of_le (by omega)]
    simp[hp]
   ·rw[List.drop_set_of_lt (by omega)];exact X9
theorem Av{t:Ty}{xs:List (El t)}{p:El t→Bool}{i:Nat}(hi:i<xs.length)(hp:p (ax xs i)=true)(dm:∀k,0≤k→k<i→p (ax xs k)=false):xs.take i=(xs.take (i+1)).filter fun x=> !(p x):=by
 rw[List.take_add_one,eo hi,List.filter_append]
 have h1:(xs.take i).filter (fun x=> !(p x))=xs.take i:=by
  rw[List.filter_eq_self]
  intro x hx
  obtain⟨k,hk⟩:=List.getElem?_of_mem hx
  rw[List.getElem?_take] at hk
  split at hk
  ·rename_i mb
   rw[← dG hk,dm k (by omega) mb];rfl
  ·cases hk
 rw[h1];simp[hp]
theorem Eh{t:Ty}{xs:List (El t)}{p:El t→Bool}(dm:∀k,0≤k→k<0+xs.length→p (ax xs k)=false):xs.filter (fun x=> !(p x))=xs:=by
 rw[List.filter_eq_self]
 intro x hx
 obtain⟨k,hk⟩:=List.getElem?_of_mem hx
 rw[← dG hk,dm k (by omega) (by have:=jA hk;omega)];rfl
theorem Ei{α:Type}(z:α){xs:List α}{lo hi:Nat}(h:lo≤xs.length):(oi z xs lo hi).take lo=xs.take lo:=by
 unfold oi
 rw[List.append_assoc,List.take_append_of_le_length (by simp;omega),List.take_take,Nat.min_self]
def mP(x y:cr):Bool:=fX x.order.name y.order.name
def vO(xs:List cr)(y:cr):Int:=mz (t:= .ed) (fun x=>mP x y) xs
def lH(xs:List cr)(y:cr):List cr:=xs.filter fun x=> !(mP x y)
def V0(x y:af):Bool:=fX x.order.name y.order.name
def dn(xs:List af)(y:af):List af:=xs.filter fun x=> !(V0 x y)
end Go.Gm
namespace Go.Gm
open Go
variable {wl : World} {P : Program} {E : Env} {w w' : World}
theorem jG(dT sT ty e:TypeId)(ii:TypeInfo)(hu:P.underlying dT=some (.slice e))(hi:P.info? e=some ii)(g o V1 ZI:Nat)(a:Addr)(Sf V2 n:Nat)(cur:Array Value)(el:TypeId)(vs:List Value)
 (hn:Nat.min Sf V1=n) (hl:vs.length=n*ii.size) (hg:w.heap[g]? =some (.cells cur el (0,0))) (gW:∀j v,vs[j]? =some v→w.cell? (a.add j)=some v) (ek:o+vs.length≤cur.size) (h1:∀v∈vs,v.oneCell'=true):
 (Builtin.copy_ #[dT,sT] ty #[.slice (some ⟨g,o,none⟩) V1 ZI,.slice (some a) Sf V2]).run P w = .ok (goInt n) (w.setRow g (putAt cur o vs.toArray)):=by
 have zp:=run_firstCells_some (P:=P) w ii.size n a Sf V2 vs hl gW
 have ix:=run_storeCells_at P g o el vs 0 cur w hg (by simpa using ek) h1
 simp only[Nat.add_zero] at ix
 rw[← iW (by simpa using ek)]
 simp[Builtin.copy_,run_underlying hu,Builtin.lenOf,sizeOf,typeInfo,hi,hn,zp,ix]
theorem nN{ops:Array Oper}{o:Oper}{a:Act}{K:Act→World→Prop}{Q:Exit→Act→World→Prop}{R:Prop}
    (hg:o.guard=none) (d x:Operand) (dT sT:TypeId) (bZ:o.op=Op.call { callee:=Callee.builtin Builtin.copy,args:= #[d,x],argTypes:= #[dT,sT] })
 (v u:Value) (hd:a.eval d=v) (hx:a.eval x=u) {v':Value} (hr:(Builtin.copy_ #[dT,sT] o.type #[v,u]).run P w = .ok v' w') (hK:K (a.put o.dst v') w'):
    if Region.wanted o (yielded ops a.tmps)=true then Oper.wp P o a w K Q else R:=by
 have hw:Region.wanted o (yielded ops a.tmps)=true:=by simp[Region.wanted,hg]
 rw[if_pos hw]
 unfold Oper.wp
 simp[execOp,bZ,resolve,invoke,builtin,hd,hx,hr,Result.andThen]
 exact hK
theorem jr{ops:Array Oper}{rest:List Oper}{o:Oper}{a:Act}{Q:Exit→Act→World→Prop}(VF:o.guard=none)(d s:Operand)(t t':TypeId)
    (ho:o.op = .call { callee:= .builtin .copy,args:= #[d,s],argTypes:= #[t,t'] }) (v u:Value) (hd:a.eval d=v) (hs:a.eval s=u) {v':Value}
 (hr:(Builtin.copy_ #[t,t'] o.type #[v,u]).run P w = .ok v' w') (h:wpList P ops Q rest (a.put o.dst v') w'):wpList P ops Q (o::rest) a w:=by
 refine wpList_plain VF fun _ hK=> ?_
 unfold Oper.wp execOp
 simp only[ho,resolve,invoke,builtin,Sem.run_bind,Sem.run_pure,Result.andThen_ok,List.map_toArray,List.map_cons,List.map_nil,hd,hs,hr]
 exact hK _ _ h
def mQ(w w':World)(base:Option Addr)(b' o' n' gU sz:Nat)(ZJ:List Value):Prop:=
  Kept w w' (fun k=>∃o,base=some ⟨k,o,none⟩)∧n'≤gU∧((∃ o,base=some ⟨b',o,none⟩)∨w.heap.size≤b')∧
  ∃m0 el,w'.heap[b']? =some (.cells m0 el (0,0))∧o'+gU*sz≤m0.size∧∀k v,ZJ[k]? =some v→m0[o'+k]? =some v
structure CG (w:World) (base:Option Addr) (n cap i vb vo m sz:Nat) (ca news:List Value):Prop where
 hi:i≤n
 hn:n≤cap
 hm:0<m
 ZK:n+m≤fO
 lo:ca.length=n*sz
 ln:news.length=m*sz
 oo:∀v∈ca,v.oneCell'=true
 on:∀v∈news,v.oneCell'=true
 nil:base=none→n=0∧cap=0
 is:∀a,base=some a→∃b o cs el,a=⟨b,o,none⟩∧b≠vb∧w.heap[b]? =some (.cells cs el (0,0))∧o+cap*sz≤cs.size∧∀k v,ca[k]? =some v→cs[o+k]? =some v
 v:∃vcs My,w.heap[vb]? =some (.cells vcs My (0,0))∧∀k v,news[k]? =some v→vcs[vo+k]? =some v
def Sg(w:World)(base:Option Addr)(n m i sz:Nat)(ca news:List Value)(e:Ending)(w':World):Prop:=
  ∃b' o' gU,e = .returned (.slice (some ⟨b',o',none⟩) (n+m) gU)∧mQ w w' base b' o' (n+m) gU sz (ca.take (i*sz)++news++ca.drop (i*sz))
def V3(P:Program)(f sz:Nat):Prop:=∀(base:Option Addr)(n cap i vb vo m vc:Nat)(ca news:List Value)(w:World),CG w base n cap i vb vo m sz ca news→
  Calls P f #[.slice base n cap,.int .i64 i,.slice (some ⟨vb,vo,none⟩) m vc] w fun e w'=>Sg w base n m i sz ca news e w'
theorem Nw(hE:E.Ok P){T:TypeId}{e:Ty}(hT:E.code T=some (.sl e)){sz:Nat}(dQ:ao e=sz){base:Option Addr}{n cap vb vo m:Nat}{ca news:List Value}(h:CG w base n cap n vb vo m sz ca news)(vc:Nat):
    ∃(b' o' gU:Nat)(W:World),(∀ ty,(Builtin.append_ #[T,T] ty #[.slice base n cap,.slice (some ⟨vb,vo,none⟩) m vc]).run P w = .ok (.slice (some ⟨b',o',none⟩) (n+m) gU) W)∧
      mQ w W base b' o' (n+m) gU sz (ca.take (n*sz)++news++ca.drop (n*sz)):=by
 subst dQ
 obtain⟨vcs,My,Nx,V4⟩:=h.v
 obtain⟨v',w',dM,UY,CA,sV,oq⟩:=qH (ty:=0) hE hT hT (sa:=base) (n:=n) (cap:=cap) (xa:=some ⟨vb,vo,none⟩) (m:=m) (c:=vc) (w:=w) h.lo (by
   cases base with
   |none=>left;have:=(h.nil rfl).1;exact List.eq_nil_of_length_eq_zero (by rw[h.lo,this,Nat.zero_mul])
   |some a=>obtain⟨b,o,cs,el,rfl,_,hb,_,hc⟩:=h.is a rfl;exact .inr ⟨b,o,cs,el,_,rfl,hb,hc⟩) h.ln (.inr ⟨vb,vo,vcs,My,_,rfl,Nx,V4⟩) h.on h.hn (fun b o e=>by
    obtain⟨b2,o2,cs,el,e2,_,hb,hs,_⟩:=h.is _ e
    simp only[Addr.mk.injEq,and_true] at e2
    obtain⟨rfl,rfl⟩:=e2
    exact⟨cs,el,hb,hs⟩) (fun e=>(h.nil e).2) (fun a e=>by obtain⟨b,o,cs,el,rfl,_⟩:=h.is a e;rfl) h.ZK
 have hm:=h.hm
 rcases oq with ⟨_,_,_,h0,_⟩ | ⟨b',o',gU,m0,mc,rfl,fl,xH,eZ,FK,bR,HF⟩
 ·omega
 ·refine⟨b',o',gU,w',fun ty=>dM,⟨UY,CA,sV,bR.1,fun k hk hx=> ?_⟩,xH,?_,m0,mc,fl,eZ,?_⟩
  ·rcases HF with ⟨o2,Ys⟩ | hh
   ·exact bR.2 k hk fun e=>hx ⟨o2,by rw[e];exact Ys⟩
   ·exact bR.2 k hk fun e=>by omega
  ·rcases HF with h' | h'
   ·exact .inl h'
   ·exact .inr (Nat.le_of_eq h'.symm)
  ·rw[List.take_of_length_le (by rw[h.lo];exact Nat.le_refl _),List.drop_of_length_le (by rw[h.lo];exact Nat.le_refl _),List.append_nil]
   exact FK
theorem l6{cells:Array Value}{off:Nat}{vs:List Value}(h:off+vs.length≤cells.size)(k:Nat)(hk:k<vs.length):(putAt cells off vs.toArray)[off+k]? =vs[k]? :=by
 rw[eU (by simpa using h),if_pos ⟨by omega,by simp;omega⟩,List.getElem?_toArray]
 congr 1;omega
theorem im{cells:Array Value}{off:Nat}{vs:List Value}(h:off+vs.length≤cells.size)(k:Nat)(hk:k<off∨off+vs.length≤k):(putAt cells off vs.toArray)[k]? =cells[k]? :=by
 rw[eU (by simpa using h),if_neg (by simp;omega)]
theorem HG(hE:E.Ok P){T:TypeId}{e:Ty}(hT:E.code T=some (.sl e)){sz:Nat}(dQ:ao e=sz){b o n cap i vb vo m:Nat}{ca news:List Value}(h:CG w (some ⟨b,o,none⟩) n cap i vb vo m sz ca news)(kZ:i<n)(jz:n+m≤cap):
    ∃(W1:World)(V5:Array Value),
 (∀ tR A lb cb vc,A=(⟨b,o+(i+m)*sz,none⟩:Addr)→(Extern.SlicesOverlaps.overlaps #[T,T] #[tR] #[.slice (some ⟨vb,vo,none⟩) m vc,.slice (some A) lb cb]).run P w = .ok (.bool false) w)∧
 (∀ ty dc sc,(Builtin.copy_ #[T,T] ty #[.slice (some ⟨b,o+(i+m)*sz,none⟩) (n+m-(i+m)) dc,.slice (some ⟨b,o+i*sz,none⟩) (n+m-i) sc]).run P w.drew = .ok (goInt (n-i:Nat)) W1)∧
 (∀ W:World,W.heap=W1.heap→∀ty dc vc,(Builtin.copy_ #[T,T] ty #[.slice (some ⟨b,o+i*sz,none⟩) (n+m-i) dc,.slice (some ⟨vb,vo,none⟩) m vc]).run P W = .ok (goInt m) (W.setRow b (putAt V5 (o+i*sz) news.toArray)))∧
 (∀ W:World,W.heap=W1.heap→W.os=w.os→W.tape=w.tape→W.output=w.output→mQ w (W.setRow b (putAt V5 (o+i*sz) news.toArray)) (some ⟨b,o,none⟩) b o (n+m) cap sz (ca.take (i*sz)++news++ca.drop (i*sz)))∧
      W1.os=w.os∧W1.tape=w.tape∧W1.output=w.output:=by
 subst dQ
 obtain⟨eT,hu,lR⟩:=hE.slice hT
 obtain⟨ii,zv,hi,dQ,Rm,hz,qG⟩:=hE.info eT e lR
 have me:=eN e
 obtain⟨vcs,My,Nx,V4⟩:=h.v
 obtain⟨b2,o2,cs,el,e2,dP,hb,hs,hc⟩:=h.is _ rfl
 simp only[Addr.mk.injEq,and_true] at e2
 obtain⟨rfl,rfl⟩:=e2
 have hm:=h.hm
 have qB:=h.lo
 have Mn:=h.ln
 have m1:(n+m)*ao e≤cap*ao e:=Nat.mul_le_mul_right _ jz
 have m2:(n+m)*ao e=n*ao e+m*ao e:=Nat.add_mul _ _ _
 have m3:(i+m)*ao e=i*ao e+m*ao e:=Nat.add_mul _ _ _
 have m4:i*ao e+ao e≤n*ao e:=by
  have:(i+1)*ao e≤n*ao e:=Nat.mul_le_mul_right _ kZ
  rw[Nat.add_mul] at this;omega
 have m5:(n-i)*ao e=n*ao e-i*ao e:=Nat.sub_mul _ _ _
 have V6:(ca.drop (i*ao e)).length=(n-i)*ao e:=by rw[List.length_drop,qB,m5]
 have kc:o+(i+m)*ao e+(ca.drop (i*ao e)).length≤cs.size:=by rw[V6];omega
 have lI:o+i*ao e+news.length≤(putAt cs (o+(i+m)*ao e) (ca.drop (i*ao e)).toArray).size:=by
  rw[cF (by simpa using kc)];omega
 have xR:(w.drew.setRow b (putAt cs (o+(i+m)*ao e) (ca.drop (i*ao e)).toArray)).heap[b]? =some (.cells (putAt cs (o+(i+m)*ao e) (ca.drop (i*ao e)).toArray) el (0,0)):=setRow_heap w.drew b cs _ el (0,0) hb
 refine⟨w.drew.setRow b (putAt cs (o+(i+m)*ao e) (ca.drop (i*ao e)).toArray),putAt cs (o+(i+m)*ao e) (ca.drop (i*ao e)).toArray,fun tR A lb cb vc hA=> ?_,fun ty dc sc=> ?_,fun W hW ty dc vc=> ?_,fun W hW h1 h2 h3=> ?_,rfl,rfl,rfl⟩
 ·subst hA
  have ZL:∀w:World,(Go.sizeOf eT).run P w = .ok (ao e) w:=fun w=>by simp[sizeOf,typeInfo,hi,dQ]
  refine Lib.run_overlaps_apart w T tR eT hu (ao e) ZL ⟨vb,vo,none⟩ ⟨b,o+(i+m)*ao e,none⟩ m vc lb cb (fun e=>dP e.symm) My el vcs.size cs.size ?_ ?_ (by omega) ?_ ?_
  ·simp[World.shape?,Nx]
  ·simp[World.shape?,hb]
  ·simp[World.frozen?,Nx]
  ·simp[World.frozen?,Nx]
 ·refine jG T T ty eT ii hu hi b _ _ dc ⟨b,o+i*ao e,none⟩ _ sc (n-i) cs el (ca.drop (i*ao e)) (by simp only[Nat.min_def];split<;>omega) (by rw[V6,dQ]) hb (fun j v hj=> ?_) kc (fun v hv=>h.oo v (List.mem_of_mem_drop hv))
  rw[List.getElem?_drop] at hj
  rw[ez,jO (w:=w.drew) hb,Nat.add_assoc]
  exact hc _ v hj
 ·refine jG T T ty eT ii hu hi b _ _ dc ⟨vb,vo,none⟩ _ vc m _ el news (by simp only[Nat.min_def];split<;>omega) (by rw[Mn,dQ]) (by rw[hW];exact xR) (fun j v hj=> ?_) lI h.on
  have Sh:W.heap[vb]? =some (.cells vcs My (0,0)):=by
   rw[hW,setRow_other w.drew b vb _ (fun e=>dP e.symm)];exact Nx
  rw[ez,jO Sh]
  exact V4 _ v hj
 ·have mh:=setRow_heap W b _ (putAt (putAt cs (o+(i+m)*ao e) (ca.drop (i*ao e)).toArray) (o+i*ao e) news.toArray) el (0,0) (by rw[hW];exact xR)
  refine⟨⟨h1,h2,h3,?_,fun k hk hx=> ?_⟩,jz,.inl ⟨o,rfl⟩,_,el,mh,?_,fun k v hk=> ?_⟩
  ·simp[hW]
  ·have hkb:k≠b:=fun e=>hx ⟨o,by rw[e]⟩
   rw[setRow_other W b k _ hkb,hW,setRow_other w.drew b k _ hkb];rfl
  ·rw[cF (by simpa using lI),cF (by simpa using kc)];exact hs
  ·have Aw:(ca.take (i*ao e)).length=i*ao e:=by rw[List.length_take,qB];omega
   rcases Nat.lt_or_ge k (i*ao e) with sX | sX
   ·rw[List.append_assoc,List.getElem?_append_left (by omega),List.getElem?_take,if_pos sX] at hk
    rw[im lI _ (.inl (by omega)),im kc _ (.inl (by omega))]
    exact hc k v hk
   ·rcases Nat.lt_or_ge k (i*ao e+news.length) with vm | vm
    ·rw[List.append_assoc,List.getElem?_append_right (by omega),List.getElem?_append_left (by omega),Aw] at hk
     have:=l6 lI (k-i*ao e) (by omega)
     rw[show o+k=o+i*ao e+(k-i*ao e) by omega,this]
     exact hk
    ·rw[List.getElem?_append_right (by rw[List.length_append,Aw];omega),List.length_append,Aw] at hk
     have CH:=(List.getElem?_eq_some_iff.1 hk).1
     rw[im lI _ (.inr (by omega))]
     have:=l6 kc (k-(i*ao e+news.length)) CH
     rw[show o+k=o+(i+m)*ao e+(k-(i*ao e+news.length)) by omega,this]
     exact hk
theorem HH(hE:E.Ok P){T Ti:TypeId}{e:Ty}(hT:E.code T=some (.sl e))(hTi:P.underlying Ti=some (.int .i64)){sz:Nat}(dQ:ao e=sz){b o n cap i vb vo m:Nat}{ca news:List Value}(h:CG w (some ⟨b,o,none⟩) n cap i vb vo m sz ca news)(kZ:i<n)(jz:cap<n+m):
    ∃(W1:World)(G:Nat)(row:Array Value),
 (∀ ty,(Builtin.append_ #[T,Ti] ty #[.slice (some ⟨b,o,none⟩) i cap,.int .i64 ((n:Int)+(m:Int)-(i:Int))]).run P w = .ok (.slice (some ⟨w.heap.size,0,none⟩) (n+m) G) W1)∧n+m≤G∧
 (∀ W:World,W.heap=W1.heap→∀ty dc vc,(Builtin.copy_ #[T,T] ty #[.slice (some ⟨w.heap.size,i*sz,none⟩) (n+m-i) dc,.slice (some ⟨vb,vo,none⟩) m vc]).run P W = .ok (goInt m) (W.setRow w.heap.size (putAt row (i*sz) news.toArray)))∧
 (∀ W0 W:World,W0.heap=W1.heap→W.heap=(W0.setRow w.heap.size (putAt row (i*sz) news.toArray)).heap→∀ty dc sc,(Builtin.copy_ #[T,T] ty #[.slice (some ⟨w.heap.size,(i+m)*sz,none⟩) (n+m-(i+m)) dc,.slice (some ⟨b,o+i*sz,none⟩) (n-i) sc]).run P W=
        .ok (goInt (n-i:Nat)) (W.setRow w.heap.size (putAt (putAt row (i*sz) news.toArray) ((i+m)*sz) (ca.drop (i*sz)).toArray)))∧
 (∀ W0 W:World,W0.heap=W1.heap→W.heap=(W0.setRow w.heap.size (putAt row (i*sz) news.toArray)).heap→W.os=w.os→W.tape=w.tape→W.output=w.output→
        mQ w (W.setRow w.heap.size (putAt (putAt row (i*sz) news.toArray) ((i+m)*sz) (ca.drop (i*sz)).toArray)) (some ⟨b,o,none⟩) w.heap.size 0 (n+m) G sz (ca.take (i*sz)++news++ca.drop (i*sz)))∧
      W1.os=w.os∧W1.tape=w.tape∧W1.output=w.output:=by
 subst dQ
 obtain⟨eT,hu,lR⟩:=hE.slice hT
 obtain⟨ii,zv,hi,dQ,Rm,hz,qG⟩:=hE.info eT e lR
 have me:=eN e
 have DG:zv.cells.size=ao e:=by rw[qG];simp[dY,aS]
 obtain⟨vcs,My,Nx,V4⟩:=h.v
 obtain⟨b2,o2,cs,el,e2,dP,hb,hs,hc⟩:=h.is _ rfl
 simp only[Addr.mk.injEq,and_true] at e2
 obtain⟨rfl,rfl⟩:=e2
 have hm:=h.hm
 have qB:=h.lo
 have Mn:=h.ln
 have hnc:=h.hn
 have iC:=h.ZK
 have m2:(n+m)*ao e=n*ao e+m*ao e:=Nat.add_mul _ _ _
 have m3:(i+m)*ao e=i*ao e+m*ao e:=Nat.add_mul _ _ _
 have m4:i*ao e+ao e≤n*ao e:=by
  have:(i+1)*ao e≤n*ao e:=Nat.mul_le_mul_right _ kZ
  rw[Nat.add_mul] at this;omega
 have m5:(n-i)*ao e=n*ao e-i*ao e:=Nat.sub_mul _ _ _
 have hik:i+(n+m-i)=n+m:=by omega
 have hkk:(n:Int)+(m:Int)-(i:Int)=((n+m-i:Nat):Int):=by omega
 have om:(n+m)*ii.bytes≤140737488355328:=by
  have:(n+m)*ii.bytes≤fO*1024:=Nat.mul_le_mul iC Rm
  unfold fO at this;omega
 have YA:(n+m-i)*ii.bytes≤(n+m)*ii.bytes:=Nat.mul_le_mul_right _ (by omega)
 have Aw:(ca.take (i*ao e)).length=i*ao e:=by rw[List.length_take,qB];omega
 have hold:(Builtin.firstCells ii.size i (.slice (some ⟨b,o,none⟩) i cap)).run P w.drew = .ok (ca.take (i*ao e)).toArray w.drew:=by
  refine run_firstCells_some w.drew ii.size i ⟨b,o,none⟩ i cap (ca.take (i*ao e)) (by rw[Aw,dQ]) fun j v hj=> ?_
  rw[List.getElem?_take] at hj
  split at hj
  ·rw[ez,jO (w:=w.drew) hb];exact hc j v hj
  ·cases hj
 have ad2:n+m≤4294967296:=by unfold fO at iC;exact iC
 have UG:=fun ty=>Lib.run_append_grow_zeros w T Ti ty eT ii zv .i64 .i64 hu hTi hi hz (some ⟨b,o,none⟩) i cap (ca.take (i*ao e)) hold (n+m-i) (by omega) (by rw[dQ];exact me) (by omega) (by omega) (by omega)
  (by rw[hik];have:=growslice_fits (need:=n+m) (old:=cap) (by omega) om;omega)
 rw[hik] at UG
 have PJ:=grownCap_ge w (n+m) cap eT
 have V6:(ca.drop (i*ao e)).length=(n-i)*ao e:=by rw[List.length_drop,qB,m5]
 have Qa:((ca.take (i*ao e)).toArray++Builtin.zeroCells zv.cells (n+m-i)++Builtin.zeroCells zv.cells (grownCap w (n+m) cap eT-(n+m))).size=grownCap w (n+m) cap eT*ao e:=by
  simp only[Array.size_append,List.size_toArray,size_zeroCells,DG,Aw,←Nat.add_mul]
  congr 1;omega
 have hrt:∀k,k<i*ao e→((ca.take (i*ao e)).toArray++Builtin.zeroCells zv.cells (n+m-i)++Builtin.zeroCells zv.cells (grownCap w (n+m) cap eT-(n+m)))[k]? =ca[k]? :=fun k hk=>by
  rw[Array.getElem?_append_left (by simp only[Array.size_append,List.size_toArray,Aw];omega),Array.getElem?_append_left (by simp only[List.size_toArray,Aw];omega),List.getElem?_toArray,List.getElem?_take,if_pos hk]
 generalize hR:(ca.take (i*ao e)).toArray++Builtin.zeroCells zv.cells (n+m-i)++Builtin.zeroCells zv.cells (grownCap w (n+m) cap eT-(n+m))=row at Qa hrt UG
 generalize grownCap w (n+m) cap eT=G at PJ Qa UG
 have hGm:(n+m)*ao e≤G*ao e:=Nat.mul_le_mul_right _ PJ
 have ZM:b<w.heap.size:=by
  rcases Nat.lt_or_ge b w.heap.size with h' | h'
  ·exact h'
  ·simp[Array.getElem?_eq_none h'] at hb
 have UH:vb<w.heap.size:=by
  rcases Nat.lt_or_ge vb w.heap.size with h' | h'
  ·exact h'
  ·simp[Array.getElem?_eq_none h'] at Nx
 have hN:(w.drew.alloc (.cells row eT)).heap[w.heap.size]? =some (.cells row eT (0,0)):=heap_alloc_new w.drew _
 have hO:∀k,k<w.heap.size→(w.drew.alloc (.cells row eT)).heap[k]? =w.heap[k]? :=fun k hk=>by first | exact heap_alloc_old w.drew _ hk | exact heap_alloc_old w.drew _ k hk
 have kc:i*ao e+news.length≤row.size:=by rw[Qa];omega
 have lI:(i+m)*ao e+(ca.drop (i*ao e)).length≤(putAt row (i*ao e) news.toArray).size:=by rw[cF (by simpa using kc),Qa,V6];omega
 refine⟨w.drew.alloc (.cells row eT),G,row,fun ty=>by rw[hkk];exact UG ty,PJ,fun W hW ty dc vc=> ?_,fun W0 W Nu hW ty dc sc=> ?_,fun W0 W Nu hW h1 h2 h3=> ?_,rfl,rfl,rfl⟩
 ·refine jG T T ty eT ii hu hi w.heap.size _ _ dc ⟨vb,vo,none⟩ _ vc m row eT news (by simp only[Nat.min_def];split<;>omega) (by rw[Mn,dQ]) (by rw[hW];exact hN) (fun j v hj=> ?_) kc h.on
  have Sh:W.heap[vb]? =some (.cells vcs My (0,0)):=by rw[hW,hO vb UH];exact Nx
  rw[ez,jO Sh]
  exact V4 _ v hj
 ·have ZN:=setRow_heap W0 w.heap.size row (putAt row (i*ao e) news.toArray) eT (0,0) (by rw[Nu];exact hN)
  refine jG T T ty eT ii hu hi w.heap.size _ _ dc ⟨b,o+i*ao e,none⟩ _ sc (n-i) _ eT (ca.drop (i*ao e)) (by simp only[Nat.min_def];split<;>omega) (by rw[V6,dQ]) (by rw[hW];exact ZN) (fun j v hj=> ?_) lI (fun v hv=>h.oo v (List.mem_of_mem_drop hv))
  have xR:W.heap[b]? =some (.cells cs el (0,0)):=by rw[hW,setRow_other W0 _ b _ (by omega),Nu,hO b ZM];exact hb
  rw[List.getElem?_drop] at hj
  rw[ez,jO xR,Nat.add_assoc]
  exact hc _ v hj
 ·have ZN:=setRow_heap W0 w.heap.size row (putAt row (i*ao e) news.toArray) eT (0,0) (by rw[Nu];exact hN)
  have mh:=setRow_heap W w.heap.size _ (putAt (putAt row (i*ao e) news.toArray) ((i+m)*ao e) (ca.drop (i*ao e)).toArray) eT (0,0) (by rw[hW];exact ZN)
  refine⟨⟨h1,h2,h3,?_,fun k hk hx=> ?_⟩,PJ,.inr (Nat.le_refl _),_,eT,mh,?_,fun k v hk=> ?_⟩
  ·have hz:(w.drew.alloc (.cells row eT)).heap.size=w.heap.size+1:=by simp
   simp[hW,Nu]
  ·rw[setRow_other W _ k _ (by omega),hW,setRow_other W0 _ k _ (by omega),Nu,hO k hk]
  ·rw[cF (by simpa using lI),cF (by simpa using kc),Qa];omega
  ·rw[Nat.zero_add]
   rcases Nat.lt_or_ge k (i*ao e) with sX | sX
   ·rw[List.append_assoc,List.getElem?_append_left (by omega),List.getElem?_take,if_pos sX] at hk
    rw[im lI _ (.inl (by omega)),im kc _ (.inl (by omega)),hrt k sX]
    exact hk
   ·rcases Nat.lt_or_ge k (i*ao e+news.length) with vm | vm
    ·rw[List.append_assoc,List.getElem?_append_right (by omega),List.getElem?_append_left (by omega),Aw] at hk
     have:=l6 kc (k-i*ao e) (by omega)
     rw[im lI _ (.inl (by omega)),show k=i*ao e+(k-i*ao e) by omega,this]
     exact hk
    ·rw[List.getElem?_append_right (by rw[List.length_append,Aw];omega),List.length_append,Aw] at hk
     have CH:=(List.getElem?_eq_some_iff.1 hk).1
     have:=l6 lI (k-(i*ao e+news.length)) CH
     rw[show k=(i+m)*ao e+(k-(i*ao e+news.length)) by omega,this]
     exact hk
theorem aW.yr{F:Nat→Prop}{t:Ty}{xs:List (El t)}{av:Path→Value}(h:aW w F t xs av):∃(base:Option Addr)(cap:Nat)(ca:List Value),av [] = .slice base xs.length cap∧xs.length≤cap∧ca.length=xs.length*ao t∧
 (∀ v∈ca,v.oneCell'=true)∧(base=none→xs.length=0∧cap=0)∧
 (∀ a,base=some a→∃b o cs el,a=⟨b,o,none⟩∧F b∧w.heap[b]? =some (.cells cs el (0,0))∧o+cap*ao t≤cs.size∧∀k v,ca[k]? =some v→cs[o+k]? =some v)∧
    ∀k x j c,xs[k]? =some x→(enc t x)[j]? =some c→∃u,ca[k*ao t+j]? =some u∧fP w (eb t xs av [(k,j)]) c u:=by
 have dz:=h.1 [] ⟨t,xs⟩ rfl
 rcases dz with ⟨e,e2⟩ | ⟨b,o,cap,cs,el,e,hF,hb,dJ,dy,db⟩
 ·have e:xs=[]:=e
  subst e
  exact⟨none,0,[],e2,Nat.le_refl _,by simp,by simp,(fun _=>⟨rfl,rfl⟩),(fun a e=>by cases e),fun k x j c hk=>by simp at hk⟩
 ·have dJ:xs.length≤cap:=dJ
  have dy:o+cap*ao t≤cs.size:=dy
  have db:RowsIn t xs cs o fun i j=>av [(i,j)]:=db
  have hm:xs.length*ao t≤cap*ao t:=Nat.mul_le_mul_right _ dJ
  have hlen:((cs.toList.drop o).take (xs.length*ao t)).length=xs.length*ao t:=by simp;omega
  have jP:∀k v,((cs.toList.drop o).take (xs.length*ao t))[k]? =some v→k<xs.length*ao t∧cs[o+k]? =some v:=fun k v hk=>by
   have CH:=(List.getElem?_eq_some_iff.1 hk).1
   rw[hlen] at CH
   rw[List.getElem?_take,if_pos CH,List.getElem?_drop,Array.getElem?_toList] at hk
   exact⟨CH,hk⟩
  refine⟨some ⟨b,o,none⟩,cap,(cs.toList.drop o).take (xs.length*ao t),e,dJ,hlen,fun v hv=> ?_,(fun e=>by cases e),fun a ha=> ?_,fun k x j c hx xl=> ?_⟩
  ·obtain⟨k,hk⟩:=List.getElem?_of_mem hv
   obtain⟨CH,hk⟩:=jP k v hk
   exact h.CF db k v CH hk
  ·cases ha
   exact⟨b,o,cs,el,rfl,hF,hb,dy,fun k v hk=>(jP k v hk).2⟩
  ·obtain⟨u,hu,_,ho⟩:=(h.pieces (ro:=fun _=>False) db).rows k x j c hx xl
   have hk:=jA hx
   have hj:=hQ xl
   have hmul:k*ao t+ao t≤xs.length*ao t:=by
    have:(k+1)*ao t≤xs.length*ao t:=Nat.mul_le_mul_right _ hk
    rw[Nat.add_mul] at this;omega
   exact⟨u,by rw[List.getElem?_take,if_pos (by omega),List.getElem?_drop,Array.getElem?_toList,←Nat.add_assoc];exact hu,ho rfl⟩
theorem aW.rQ{F:Nat→Prop}{t:Ty}{xs:List (El t)}{av:Path→Value}(h:aW w F t xs av){k j n:Nat}(hu:eb t xs av [(k,j)] n):j8 (av [])≠some n:=by
 intro hb
 obtain⟨q,s,hs,hbq⟩:=hu
 have:=h.2 _ [] s ⟨t,xs⟩ n hs rfl hbq hb
 simp at this
theorem aW.uj{F:Nat→Prop}{t:Ty}{xs:List (El t)}{av:Path→Value}(h:aW w F t xs av){k j k' j' n:Nat}(h1:eb t xs av [(k,j)] n)(h2:eb t xs av [(k',j')] n):k=k'∧j=j':=by
 obtain⟨q,s,hs,hb⟩:=h1
 obtain⟨q',s',eZ,fl⟩:=h2
 have:=h.2 _ _ s s' n hs eZ hb fl
 simp only[List.singleton_append,List.cons.injEq,Prod.mk.injEq] at this
 exact this.1
theorem HI{f:Nat}{t:Ty}{sz:Nat}(dQ:ao t=sz)(h:V3 P f sz){q:Qt}
 (hq:∀ds outs,q ds=some (true,outs)→∃(xs ys:List (El t))(i:Nat),ds=[.d (.sl t) xs,.d (.i .i64) (i:Int),.d (.sl t) ys]∧i≤xs.length∧0<ys.length∧xs.length+ys.length≤fO∧outs=[.d (.sl t) (xs.take i++ys++xs.drop i)]):
    fb P f (Spec.of [.jK,.ro,.jK] [false] true q):=by
 subst dQ
 refine oG rfl fun ds outs Sb=> ?_
 obtain⟨xs,ys,i,rfl,hi,hy,iC,rfl⟩:=hq ds outs Sb
 refine⟨_,_,rfl,fun w us Mf ROa Fs hA hp Cy _ _ mj=> ?_⟩
 cases hA with
 | @cons _ _ _ _ u1 us F1 Fs h1 hA=>
  cases hA with
  | @cons _ _ _ _ u2 us F2 Fs h2 hA=>
   cases hA with
   | @cons _ _ _ _ u3 us F3 Fs h3 hA=>
    cases hA
    have e2:=nG (t:= .i .i64) (v:= .int .i64 i) rfl rfl h2
    subst e2
    obtain⟨G1,PO,av,h0,hT⟩:=jo h1
    obtain⟨G3,hG3,ZO,h03,UI⟩:=jo h3
    have ZP:∀k,G1 k→Mf k:=fun k hk=>Cy F1 (by simp) k (PO k hk)
    have hM3:∀k,G3 k→Mf k:=fun k hk=>Cy F3 (by simp) k (hG3 k hk)
    have sW:∀k,G1 k→G3 k→False:=fun k hk hk3=>by
     have:=(List.pairwise_cons.1 hp).1 F3 (by simp)
     exact this k (PO k hk) (hG3 k hk3)
    obtain⟨base,cap,ca,e1,dJ,qB,X6,mG,his,iP⟩:=hT.yr
    obtain⟨V7,ZQ,news,e3,abL,Mn,RT,V8,ZR,Si⟩:=UI.yr
    rw[h0] at e1;rw[h03] at e3
    subst e1;subst e3
    cases V7 with
    |none=>have:=(V8 rfl).1;omega
    |some a3=>
    obtain⟨vb,vo,vcs,My,rfl,hF3,Gt,DM,Y'⟩:=ZR _ rfl
    refine Calls.mono (h base xs.length cap i vb vo ys.length ZQ ca news w ⟨hi,dJ,hy,iC,qB,Mn,X6,RT,mG,fun a ha=> ?_,vcs,My,Gt,Y'⟩) ?_
    ·obtain⟨b,o,cs,el,rfl,hF,hb,hs,hc⟩:=his a ha
     exact⟨b,o,cs,el,rfl,fun e=>sW b hF (e▸hF3),hb,hs,hc⟩
    ·rintro e w' ⟨b',o',gU,rfl,hk,xH,HF,m0,mc,fl,eZ,FK⟩
     have hlen:(xs.take i++ys++xs.drop i).length=xs.length+ys.length:=by simp;omega
     have Aw:(ca.take (i*ao t)).length=i*ao t:=by
      have:i*ao t≤xs.length*ao t:=Nat.mul_le_mul_right _ hi
      rw[List.length_take,qB];omega
     have Sj:∀b o,base=some ⟨b,o,none⟩→j8 (av [])=some b:=fun b o e=>by rw[h0,e];rfl
     have hX:∀k,(∃ o,base=some ⟨k,o,none⟩)→G1 k:=fun k ⟨o,e⟩=>by
      obtain⟨b,o2,cs,el,e2,hF,_⟩:=his _ e
      cases e2;exact hF
     have RB:∀k j n,eb t xs av [(k,j)] n→ ¬∃o,base=some ⟨n,o,none⟩:=fun k j n hu ⟨o,e⟩=>hT.rQ hu (Sj n o e)
     have hu3:∀k j n,eb t ys ZO [(k,j)] n→ ¬∃o,base=some ⟨n,o,none⟩:=fun k j n hu he=>sW n (hX n he) (UI.gL hu)
     let G:Nat→Nat→Nat→Prop:=fun k j=>if k<i then eb t xs av [(k,j)] else if k<i+ys.length then eb t ys ZO [(k-i,j)] else eb t xs av [(k-ys.length,j)]
     have Ny:∀k j n,G k j n→(∃ k',eb t xs av [(k',j)] n∧(k'=if k<i then k else k-ys.length)∧ ¬(i≤k∧k<i+ys.length))∨(eb t ys ZO [(k-i,j)] n∧i≤k∧k<i+ys.length):=by
      intro k j n hg
      simp only[G] at hg
      by_cases c1:k<i
      ·rw[if_pos c1] at hg;exact .inl ⟨k,hg,by rw[if_pos c1],by omega⟩
      ·rw[if_neg c1] at hg
       by_cases c2:k<i+ys.length
       ·rw[if_pos c2] at hg;exact .inr ⟨hg,by omega,c2⟩
       ·rw[if_neg c2] at hg;exact .inl ⟨_,hg,by rw[if_neg c1],by omega⟩
     have Nv:∀k j n,G k j n→Mf n:=fun k j n hg=>by
      rcases Ny k j n hg with ⟨k',h',_⟩ | ⟨h',_⟩
      ·exact ZP n (hT.gL h')
      ·exact hM3 n (UI.gL h')
     have hP:dS w' (fun _=>False) true t (xs.take i++ys++xs.drop i) m0 o' G:=by
      refine⟨fun k x j c hx xl=> ?_,fun k j k' j' n hg mw=> ?_⟩
      ·have hj:=hQ xl
       have fin:∀(H:Nat→Prop) u,fP w H c u→(∀ n,H n→ ¬∃o,base=some ⟨n,o,none⟩)→(ca.take (i*ao t)++news++ca.drop (i*ao t))[k*ao t+j]? =some u→(∀ n,H n↔G k j n)→
         ∃u,m0[o'+k*ao t+j]? =some u∧lQ w' (fun n=>G k j n∨False) c u∧(true=true→fP w' (G k j) c u):=by
        intro H u ho hn hu hHG
        have sH:fP w' (G k j) c u:=(ho.same hk.same hn).mono fun n hn=>(hHG n).1 hn
        exact⟨u,by rw[Nat.add_assoc];exact FK _ u hu,sH.rd.mono fun n hn=> .inl hn,fun _=>sH⟩
       by_cases c1:k<i
       ·rw[List.append_assoc,List.getElem?_append_left (by simp;omega),List.getElem?_take,if_pos c1] at hx
        obtain⟨u,hu,ho⟩:=iP k x j c hx xl
        have hmul:k*ao t+ao t≤i*ao t:=by
         have:(k+1)*ao t≤i*ao t:=Nat.mul_le_mul_right _ c1
         rw[Nat.add_mul] at this;omega
        refine fin _ u ho (RB k j) ?_ (fun n=>by simp only[G,if_pos c1])
        rw[List.append_assoc,List.getElem?_append_left (by omega),List.getElem?_take,if_pos (by omega)];exact hu
       ·have hmi:i*ao t≤k*ao t:=Nat.mul_le_mul_right _ (by omega)
        by_cases c2:k<i+ys.length
        ·rw[List.append_assoc,List.getElem?_append_right (by simp;omega),List.getElem?_append_left (by simp;omega)] at hx
         have ZS:k-(xs.take i).length=k-i:=by rw[List.length_take,Nat.min_eq_left hi]
         rw[ZS] at hx
         obtain⟨u,hu,ho⟩:=Si (k-i) x j c hx xl
         have hul:=(List.getElem?_eq_some_iff.1 hu).1
         refine fin _ u ho (hu3 (k-i) j) ?_ (fun n=>by simp only[G,if_neg c1,if_pos c2])
         have e4:(k-i)*ao t=k*ao t-i*ao t:=Nat.sub_mul _ _ _
         rw[List.append_assoc,List.getElem?_append_right (by omega),Aw,show k*ao t+j-i*ao t=(k-i)*ao t+j by omega,List.getElem?_append_left hul];exact hu
        ·rw[List.getElem?_append_right (by simp;omega),List.length_append,List.length_take,Nat.min_eq_left hi,List.getElem?_drop] at hx
         have ZS:i+(k-(i+ys.length))=k-ys.length:=by omega
         rw[ZS] at hx
         obtain⟨u,hu,ho⟩:=iP (k-ys.length) x j c hx xl
         refine fin _ u ho (RB (k-ys.length) j) ?_ (fun n=>by simp only[G,if_neg c1,if_neg c2])
         have e4:(k-ys.length)*ao t=k*ao t-ys.length*ao t:=Nat.sub_mul _ _ _
         have e5:(i+ys.length)*ao t≤k*ao t:=Nat.mul_le_mul_right _ (by omega)
         rw[Nat.add_mul] at e5
         rw[List.getElem?_append_right (by rw[List.length_append,Aw,Mn];omega),List.length_append,Aw,Mn,List.getElem?_drop,←hu]
         congr 1
         omega
      ·rcases Ny k j n hg with ⟨a,h1,e1,n1⟩ | ⟨h1,l1,l2⟩<;>rcases Ny k' j' n mw with ⟨a',sI,e1',n1'⟩ | ⟨sI,l1',l2'⟩
       ·obtain⟨e,ej⟩:=hT.uj h1 sI
        refine⟨?_,ej⟩
        rw[e1,e1'] at e
        split at e<;>split at e<;>omega
       ·exact (sW n (hT.gL h1) (UI.gL sI)).elim
       ·exact (sW n (hT.gL sI) (UI.gL h1)).elim
       ·obtain⟨e,ej⟩:=UI.uj h1 sI
        exact⟨by omega,ej⟩
     have MT:∀k j,¬G k j b':=fun k j hg=>by
      rcases HF with he | he
      ·rcases Ny k j b' hg with ⟨a,h',_⟩ | ⟨h',_⟩
       ·exact RB _ _ _ h' he
       ·exact hu3 _ _ _ h' he
      ·have:=mj b' (Nv k j b' hg);omega
     obtain⟨mq,P7,BY⟩:=hP.own fl (by rw[hlen];exact xH) eZ MT
     rw[hlen] at P7
     have hKM:Kept w w' Mf:=⟨hk.os,hk.tape,hk.output,hk.same.1,fun n h1 h2=>hk.same.2 n h1 fun he=>h2 (ZP n (hX n he))⟩
     refine⟨_,fun n=>n=b'∨∃i j,G i j n,rfl,hKM,ig ⟨mq,P7,BY⟩,fun n hn=> ?_⟩
     have ZM:b'<w'.heap.size:=by
      rcases Nat.lt_or_ge b' w'.heap.size with h' | h'
      ·exact h'
      ·simp[Array.getElem?_eq_none h'] at fl
     rcases hn with rfl | ⟨k,j,hg⟩
     ·refine⟨?_,ZM⟩
      rcases HF with he | he
      ·exact .inl (ZP _ (hX _ he))
      ·exact .inr he
     ·exact⟨.inl (Nv k j n hg),Nat.lt_of_lt_of_le (mj n (Nv k j n hg)) hk.same.1⟩
end Go.Gm
namespace Go.Gm
open Go
def yt{α:Type}(xs:List α)(i:Int)(ys:List α):List α:=xs.take i.toNat++ys++xs.drop i.toNat
def Ax{α:Type}(xs:List α)(i:Int)(ys:List α):Bool:=decide (0≤i)&&(decide (i≤(xs.length:Int))&&(Nat.blt 0 ys.length&&Nat.ble (xs.length+ys.length) fO))
theorem HJ{α:Type}{xs ys:List α}{i:Int}:Ax xs i ys=true↔0≤i∧i≤(xs.length:Int)∧0<ys.length∧xs.length+ys.length≤fO:=by
 simp only[Ax,Bool.and_eq_true,decide_eq_true_eq,Nat.blt_eq,Nat.ble_eq]
def HK(xs:List Int):Bool:=decide ((xs.length:Int)>(1048576:Int))
def ar(xs:List Int)(i:Int):Int:=cond (decide (i<(xs.length:Int))) (IntKind.wrap .i64 (ax (t:= .i .u8) xs (Int.toNat i))) (Int.tmod (IntKind.wrap .i64 ((IntKind.wrap .i64 (i*(7:Int)))+(xs.length:Int))) (256:Int))
end Go.Gm
namespace Go.Gm
def gy(b:List Int):Bool:=Nat.ble b.length 1048576
theorem Sk(A:Int):0≤((BitVec.toNat (BitVec.ofInt (IntKind.bits .i64) A &&& BitVec.ofInt (IntKind.bits .i64) (255:Int)):Nat):Int)∧
 ((BitVec.toNat (BitVec.ofInt (IntKind.bits .i64) A &&& BitVec.ofInt (IntKind.bits .i64) (255:Int)):Nat):Int)≤255:=by
 refine⟨Int.natCast_nonneg _,?_⟩
 have h:BitVec.toNat (BitVec.ofInt (IntKind.bits .i64) A &&& BitVec.ofInt (IntKind.bits .i64) (255:Int))≤255:=by
  rw[BitVec.toNat_and]
  exact Nat.le_trans Nat.and_le_right (by decide)
 omega
theorem CI(A:Int):0≤IntKind.wrap .i64 ((BitVec.toNat (BitVec.ofInt (IntKind.bits .i64) A &&& BitVec.ofInt (IntKind.bits .i64) (255:Int)):Nat):Int)∧
    IntKind.wrap .i64 ((BitVec.toNat (BitVec.ofInt (IntKind.bits .i64) A &&& BitVec.ofInt (IntKind.bits .i64) (255:Int)):Nat):Int)≤255:=by
 have:=Sk A
 rw[cC (by omega) (by omega)];exact this
theorem CJ{x n:Int}(h:0≤x)(hn:0<n):0≤Int.tmod x n∧Int.tmod x n<n:=⟨Int.tmod_nonneg n h,Int.tmod_lt_of_pos x hn⟩
theorem Sm{x y z w:Int}(hx:0≤x∧x≤255)(hy:0≤y∧y≤255)(hz:0≤z∧z≤255)(hw:0≤w∧w≤255):
    0≤IntKind.wrap .i64 ((IntKind.wrap .i64 ((IntKind.wrap .i64 ((IntKind.wrap .i64 (x*(16777216:Int)))+(IntKind.wrap .i64 (y*(65536:Int)))))+(IntKind.wrap .i64 (z*(256:Int)))))+w):=by
 rw[cC (x:=x*16777216) (by omega) (by omega),cC (x:=y*65536) (by omega) (by omega),cC (x:=z*256) (by omega) (by omega),cC (x:=x*16777216+y*65536) (by omega) (by omega),
  cC (x:=x*16777216+y*65536+z*256) (by omega) (by omega),cC (by omega) (by omega)]
 omega
theorem CK{t:Ty}{xs:List (El t)}{i:Int}(h0:0≤i)(h:i<(xs.length:Int)):ax xs (Int.toNat i)∈xs:=
  List.mem_of_getElem? (eo (by omega))
theorem Qi{α:Type}{xs:List α}{i:Int}(h0:0≤i)(h:i<(xs.length:Int)):(decide ((0:Int)≤i)&&decide (i<(xs.length:Int)))=true:=by
 rw[decide_eq_true h0,decide_eq_true h];rfl
theorem HL{α:Type}{xs:List α}(h:(!xs.isEmpty)=true):0<(xs.length:Int):=by
 cases xs with
 |nil=>cases h
 |cons x r=>simp
open Classical in
noncomputable def ZT{α:Type}(a b:α):Bool:=decide (a=b)
theorem Nz{α:Type}{a b:α}:ZT a b=true↔a=b:=by unfold ZT;simp
noncomputable def kx{α:Type}(f:α→Bool)(a b:α):Bool:=f a&&ZT a b
theorem l7{α:Type}{f:α→Bool}{a b:α}:kx f a b=true↔f a=true∧a=b:=by unfold kx;rw[Bool.and_eq_true,Nz]
theorem Ay{α:Type}{f:α→Bool}{a:α}(h:f a=true):kx f a a=true:=l7.2 ⟨h,rfl⟩
theorem rT(a:BA):(a==a)=true:=by rw[beq_toListBytes];exact beq_self_eq_true _
theorem rU{l:List BA}{s:BA}(h:s∈l)(hl:(l.all gx)=true):gx s=true:=List.all_eq_true.1 hl s h
theorem NA(x:Int): -9223372036854775808≤IntKind.wrap .i64 x∧IntKind.wrap .i64 x≤9223372036854775807:=by
 have h0:=Int.emod_nonneg x (show (18446744073709551616:Int)≠0 by decide)
 have h1:=Int.emod_lt_of_pos x (show (0:Int)<18446744073709551616 by decide)
 have e:IntKind.wrap .i64 x=if (true&&decide (x%18446744073709551616≥9223372036854775808))=true then x%18446744073709551616-18446744073709551616 else x%18446744073709551616:=rfl
 rw[e]
 split
 ·rename_i h
  have:=of_decide_eq_true (show decide (x%18446744073709551616≥9223372036854775808)=true by simpa using h)
  omega
 ·rename_i h
  have : ¬(x%18446744073709551616≥9223372036854775808):=fun hh=>h (by simp[hh])
  omega
def vP:aB:=⟨0,0,0,300⟩
theorem dv(x:Int):oF (IntKind.wrap .i64 x)=true:=by
 have:=NA x
 exact Hy this.1 this.2
theorem pV{n:Nat}(h:n≤1048576):Nat.ble (n+1) fO=true:=Nat.ble_eq_true_of_le (by have:(fO:Nat)=4294967296:=rfl;omega)
def dj(x:af)(s:Bool×List af)(o:af):Bool×List af:=
  cond (!(fX o.order.name x.order.name))
 ((cond (!s.1) (cond (!(gS o.order.name x.order.name)) (true,s.2++[x]) s) s).1,(cond (!s.1) (cond (!(gS o.order.name x.order.name)) (true,s.2++[x]) s) s).2++[o])
 (cond (!s.1) (cond (!(gS o.order.name x.order.name)) (true,s.2++[x]) s) s)
def kO(x:af)(s:Bool×List af):List af:=cond (!s.1) (s.2++[x]) s.2
def lJ(out:List af)(e:ag):List af:=kO e.item (out.foldl (dj e.item) (e.kind !=(1:Int),[]))
def gi(items:List af)(list:List ag):List af:=list.foldl lJ items
def oI(s:Bool×List af):Nat:=s.2.length+cond s.1 0 1
theorem yu(x:af)(s:Bool×List af)(o:af):oI (dj x s o)≤oI s+1:=by
 obtain⟨p,l⟩:=s
 unfold dj oI
 cases p<;>cases gS o.order.name x.order.name<;>cases fX o.order.name x.order.name<;>simp<;>omega
theorem pd(x:af):∀(out:List af)(s:Bool×List af),oI (out.foldl (dj x) s)≤oI s+out.length
 | [],s=>Nat.le_refl _
 |o::r,s=>by
  have h1:=pd x r (dj x s o)
  have h2:=yu x s o
  simp only[List.foldl_cons,List.length_cons];omega
theorem Az(x:af)(s:Bool×List af):(kO x s).length=oI s:=by
 obtain⟨p,l⟩:=s
 unfold kO oI
 cases p<;>simp
theorem NB{n:Nat}(h:n≤2000000):Nat.ble n fO=true:=Nat.ble_eq_true_of_le (by have:(fO:Nat)=4294967296:=rfl;omega)
def jH(items:List af)(list:List ag):Bool:=gC bn items&&(gC fp list&&Nat.ble (items.length+list.length) 1048576)
end Go.Gm
namespace Go.Gm.Od
open Go Go.Gm
theorem yv:∀l:List UInt8,Op.bytesLess l l=false
 | []=>rfl
 |a::l=>by
  have h:decide (a<a)=false:=decide_eq_false (by simp)
  simp[Op.bytesLess,yv l,h]
theorem CL:∀{a b c:List UInt8},Op.bytesLess a b=true→Op.bytesLess b c=true→Op.bytesLess a c=true
 |_,[],_,h,_=>by cases ‹List UInt8› <;>simp[Op.bytesLess] at h
 |_,_::_,[],_,h=>by simp[Op.bytesLess] at h
 | [],_::_,_::_,_,_=>rfl
 |x::a,y::b,z::c,h1,h2=>by
  simp only[Op.bytesLess,Bool.or_eq_true,Bool.and_eq_true,decide_eq_true_eq,beq_iff_eq] at h1 h2 ⊢
  rcases h1 with h1 | ⟨rfl,h1⟩<;>rcases h2 with h2 | ⟨rfl,h2⟩
  ·exact .inl (UInt8.lt_trans h1 h2)
  ·exact .inl h1
  ·exact .inl h2
  ·exact .inr ⟨rfl,CL h1 h2⟩
theorem yw:∀{a b:List UInt8},Op.bytesLess a b=false→a≠b→Op.bytesLess b a=true
 | [],[],_,h=>absurd rfl h
 | [],_::_,h,_=>by simp[Op.bytesLess] at h
 |_::_,[],_,_=>rfl
 |x::a,y::b,h,hn=>by
  simp only[Op.bytesLess,Bool.or_eq_false_iff,Bool.and_eq_false_iff,decide_eq_false_iff_not,beq_eq_false_iff_ne] at h
  simp only[Op.bytesLess,Bool.or_eq_true,Bool.and_eq_true,decide_eq_true_eq,beq_iff_eq]
  by_cases e:x=y
  ·subst e
   refine .inr ⟨rfl,yw (h.2.resolve_left (fun h=>h rfl)) fun e=>hn (by rw[e])⟩
  ·have h1:=h.1
   have h1 : ¬x.toNat<y.toNat:=h1
   have h2:x.toNat≠y.toNat:=fun h=>e (UInt8.toNat_inj.1 h)
   exact .inl (show y.toNat<x.toNat by omega)
theorem HM{a b:BA}(h:a≠b):a.toList≠b.toList:=fun e=>h (by
  apply nH.1;unfold fX;rw[e];exact beq_self_eq_true _)
theorem vQ(a:BA):gS a a=false:=yv _
theorem AA{a b c:BA}(h1:gS a b=true)(h2:gS b c=true):gS a c=true:=CL h1 h2
theorem NC{a b:BA}(h:gS a b=false)(hn:a≠b):gS b a=true:=yw h (HM hn)
theorem yx{a b:BA}(h:gS a b=true):gS b a=false:=by
 cases hb:gS b a with
 |false=>rfl
 |true=>have:=AA h hb;rw[vQ] at this;cases this
end Go.Gm.Od
namespace Go.Gm
open Go
def iF:ai:=⟨[],1⟩
theorem eE{s:ai}(h:bD s=true):gC bn s.items=true∧oF s.next=true:=by
 simpa only[bD,Bool.and_eq_true] using h
theorem ND{xs:List af}(h:gC bn xs=true)(i:Nat):bn (ax (t:= .item) xs i)=true:=by
 by_cases hi:i<xs.length
 ·exact List.all_eq_true.1 (gQ h) _ (List.mem_of_getElem? (eo (t:= .item) hi))
 ·simp only[ax,List.getD_eq_getElem?_getD,List.getElem?_eq_none (Nat.le_of_not_lt hi),Option.getD_none];rfl
end Go.Gm
namespace Go.Gm
open Go Od
def js(x:af)(s:BA):Bool:=fX x.order.name s
def oJ(x y:af):Bool:= !(gS x.order.name y.order.name||fX x.order.name y.order.name)
def dw(xs:List af)(s:BA):Int:=mz (t:= .item) (fun x=>js x s) xs
def Ej(xs:List af)(y:af):Int:=mz (t:= .item) (fun x=>oJ x y) xs
def NF(xs:List af)(x:af):Int:=cond (decide (Ej (dn xs x) x<(0:Int))) ((dn xs x).length:Int) (Ej (dn xs x) x)
def oK(xs:List af)(x:af):List af:=yt (dn xs x) (NF xs x) [x]
def uk(xs:List af)(x:af):Bool:=gC bn xs&&bn x
def fndI(s:ai)(n:BA):af×Bool:=cond (decide (dw s.items n<(0:Int))) (n9,false) (ax (t:= .item) s.items (Int.toNat (dw s.items n)),true)
def mR(s:ai)(o:ae):ai:=⟨oK s.items ⟨o,s.next⟩,IntKind.wrap .i64 (s.next+(1:Int))⟩
noncomputable def cg(s:ai)(o:ae):ai×Bool:=cond (!(cT s)) (s,false) (cond (!(cT (mR s o))) (s,false) (mR s o,true))
def k6(s:ai)(o:ae):Bool:=bD s&&(aL o&&Nat.ble s.items.length 1000)
noncomputable def bO(s:ai)(n:BA):ai×Bool:=
  cond (!(cT s)) (s,false) (cond (decide (dw s.items n<(0:Int))) (s,false) (⟨HD s.items (dw s.items n) (IntKind.wrap .i64 (dw s.items n+(1:Int))),s.next⟩,true))
theorem jI{t:Ty}(q:El t→Bool)(xs:List (El t)):(mz q xs = -1∧∀k,k<xs.length→q (ax xs k)=false)∨∃i:Nat,mz q xs=(i:Int)∧i<xs.length∧q (ax xs i)=true∧∀k,k<i→q (ax xs k)=false:=by
 unfold mz
 cases h:fj (fun j=>q (ax xs j)) 0 xs.length with
 |none=>exact .inl ⟨rfl,fun k hk=>lF h k (by omega) (by omega)⟩
 |some i=>
  obtain⟨_,hi,hp,dm⟩:=lE h
  exact .inr ⟨i,rfl,by omega,hp,fun k hk=>dm k (by omega) hk⟩
theorem V9(xs:List af)(y:af):Ej xs y = -1∨∃i:Nat,Ej xs y=(i:Int)∧i<xs.length:=by
 rcases jI (t:= .item) (fun x=>oJ x y) xs with ⟨h,_⟩ | ⟨i,h,hi,_⟩
 ·exact .inl h
 ·exact .inr ⟨i,h,hi⟩
theorem nO(xs:List af)(s:BA):dw xs s = -1∨∃i:Nat,dw xs s=(i:Int)∧i<xs.length:=by
 rcases jI (t:= .item) (fun x=>js x s) xs with ⟨h,_⟩ | ⟨i,h,hi,_⟩
 ·exact .inl h
 ·exact .inr ⟨i,h,hi⟩
theorem um(xs:List af)(x:af):(dn xs x).length≤xs.length:=List.length_filter_le _ _
theorem HN{xs:List af}{x y:af}(h:y∈oK xs x):y∈xs∨y=x:=by
 unfold oK yt at h
 simp only[List.mem_append,List.mem_singleton] at h
 rcases h with (h | h) | h
 ·exact .inl ((List.mem_filter.1 (List.mem_of_mem_take h)).1)
 ·exact .inr h
 ·exact .inl ((List.mem_filter.1 (List.mem_of_mem_drop h)).1)
theorem HO(xs:List af)(x:af):(oK xs x).length≤xs.length+1:=by
 have:=um xs x
 unfold oK yt
 simp only[List.length_append,List.length_take,List.length_drop,List.length_cons,List.length_nil]
 omega
theorem CM{xs:List af}{i:Nat}{x:af}(hi:i≤xs.length)(hl:xs.length≤1048576):Ax xs (i:Int) [x]=true:=by
 unfold Ax
 simp only[Bool.and_eq_true,decide_eq_true_eq]
 exact⟨by omega,by omega,rfl,Nat.ble_eq_true_of_le (by have:(fO:Nat)=4294967296:=rfl;simp only[List.length_cons,List.length_nil];omega)⟩
theorem CN{s:ai}{o:ae}(h:k6 s o=true):bD (mR s o)=true:=by
 simp only[k6,Bool.and_eq_true] at h
 obtain⟨hs,ho,hl⟩:=h
 have hl:=gT hl
 obtain⟨h1,h2⟩:=eE hs
 simp only[bD,mR,Bool.and_eq_true]
 refine⟨?_,dv _⟩
 have hlen:=HO s.items ⟨o,s.next⟩
 unfold gC
 rw[Bool.and_eq_true]
 refine⟨Nat.ble_eq_true_of_le (by omega),List.all_eq_true.2 fun y hy=> ?_⟩
 rcases HN hy with hy | rfl
 ·exact List.all_eq_true.1 (gQ h1) y hy
 ·simp only[bn,Bool.and_eq_true];exact⟨ho,h2⟩
theorem AB{xs:List af}{i:Nat}(hi:i<xs.length)(hl:xs.length≤1048576):HE xs (i:Int) (IntKind.wrap .i64 ((i:Int)+1))=true:=by
 rw[cC (by omega) (by omega)]
 unfold HE
 simp only[Bool.and_eq_true,decide_eq_true_eq]
 exact⟨⟨by omega,by omega⟩,by omega⟩
theorem fndI_sm{s:ai}{n:BA}(h:bD s=true):bn (fndI s n).1=true:=by
 unfold fndI
 obtain⟨h1,_⟩:=eE h
 rcases nO s.items n with e | ⟨i,e,hi⟩
 ·rw[e];rfl
 ·rw[e,decide_eq_false (by omega),cond_false]
  show bn (ax (t:= .item) s.items i)=true
  have:=eo (t:= .item) hi
  exact List.all_eq_true.1 (gQ h1) _ (List.mem_of_getElem? this)
def HP(xs:List af):Prop:=xs.Pairwise fun a b=>gS a.order.name b.order.name=true
theorem oL{a b:BA}(h:gS a b=true):fX a b=false:=by
 cases he:fX a b with
 |false=>rfl
 |true=>rw[nH.1 he,vQ] at h;cases h
theorem uo(n:BA):∀{xs:List af},HP xs→∃L M G:List af,xs=L++M++G∧(∀ o∈L,gS o.order.name n=true)∧(M=[]∨∃m,M=[m]∧m.order.name=n)∧∀o∈G,gS n o.order.name=true
 | [],_=>⟨[],[],[],rfl,by simp,.inl rfl,by simp⟩
 |x::r,h=>by
  have h:List.Pairwise (fun a b:af=>gS a.order.name b.order.name=true) (x::r):=h
  obtain⟨h1,h2⟩:=List.pairwise_cons.1 h
  by_cases he:x.order.name=n
  ·exact⟨[],[x],r,rfl,by simp,.inr ⟨x,rfl,he⟩,fun o ho=>by rw[← he];exact h1 o ho⟩
  ·cases cc:gS x.order.name n with
   |true=>
    obtain⟨L,M,G,rfl,hL,hM,hG⟩:=uo n (xs:=r) h2
    refine⟨x::L,M,G,rfl,fun o ho=> ?_,hM,hG⟩
    rcases List.mem_cons.1 ho with rfl | ho
    ·exact cc
    ·exact hL o ho
   |false=>
    have hgt:=NC cc he
    refine⟨[],[],x::r,rfl,by simp,.inl rfl,fun o ho=> ?_⟩
    rcases List.mem_cons.1 ho with rfl | ho
    ·exact hgt
    ·exact AA hgt (h1 o ho)
theorem CO{xs:List af}{x:af}(h:∀o∈xs,fX o.order.name x.order.name=false):dn xs x=xs:=
  List.filter_eq_self.2 fun o ho=>by show (!(fX o.order.name x.order.name))=true;rw[h o ho];rfl
theorem uq{L M G:List af}{x:af}(hL:∀o∈L,gS o.order.name x.order.name=true)(hM:M=[]∨∃m,M=[m]∧m.order.name=x.order.name)(hG:∀o∈G,gS x.order.name o.order.name=true):
    dn (L++M++G) x=L++G:=by
 have h1:dn L x=L:=CO fun o ho=>oL (hL o ho)
 have h2:dn G x=G:=CO fun o ho=>by rw[rI];exact oL (hG o ho)
 have h3:dn M x=[]:=by
  rcases hM with rfl | ⟨m,rfl,hm⟩
  ·rfl
  ·show List.filter _ [m]=[]
   rw[List.filter_cons_of_neg (by show ¬(!(fX m.order.name x.order.name))=true;rw[hm,jn];simp)];rfl
 show List.filter _ _=_
 rw[List.filter_append,List.filter_append]
 show dn L x++dn M x++dn G x=_
 rw[h1,h2,h3,List.append_nil]
theorem Ek{L G:List af}{x:af}(hL:∀o∈L,gS o.order.name x.order.name=true)(hG:∀o∈G,gS x.order.name o.order.name=true):
    cond (decide (Ej (L++G) x<(0:Int))) ((L++G).length:Int) (Ej (L++G) x)=(L.length:Int):=by
 have hl:∀k,k<L.length→oJ (ax (t:= .item) (L++G) k) x=false:=by
  intro k hk
  have:=List.getElem?_append_left (l₂:=G) hk
  rw[List.getElem?_eq_getElem hk] at this
  rw[dG (t:= .item) this]
  unfold oJ
  rw[hL _ (List.getElem_mem hk)];rfl
 have hg:∀(h:G≠[]),oJ (ax (t:= .item) (L++G) L.length) x=true:=by
  intro h
  obtain⟨g,r,rfl⟩:=List.exists_cons_of_ne_nil h
  have:(L++g::r)[L.length]? =some g:=by rw[List.getElem?_append_right (Nat.le_refl _)];simp
  rw[dG (t:= .item) this]
  unfold oJ
  have h1:=hG g (by simp)
  rw[yx h1,rI,oL h1];rfl
 rcases jI (t:= .item) (fun y=>oJ y x) (L++G) with ⟨h,dm⟩ | ⟨i,h,hi,hp,dm⟩
 ·have e:G=[]:=Classical.byContradiction fun e=>by
   have hlen:L.length<(L++G).length:=by
    have:=List.length_pos_iff.2 e
    simp only[List.length_append];omega
   have:=dm L.length hlen
   rw[hg e] at this;cases this
  subst e
  rw[show Ej (L++[]) x = -1 from h,List.append_nil];rfl
 ·have PJ:L.length≤i:=Classical.byContradiction fun e=>by rw[hl i (by omega)] at hp;cases hp
  have e:G≠[]:=fun e=>by subst e;simp at hi;omega
  have hle:i≤L.length:=Classical.byContradiction fun e2=>by have:=dm L.length (by omega);rw[hg e] at this;cases this
  have:i=L.length:=by omega
  rw[show Ej (L++G) x=(i:Int) from h,decide_eq_false (by omega),cond_false,this]
theorem AE{L M G:List af}{x:af}(hL:∀o∈L,gS o.order.name x.order.name=true)(hM:M=[]∨∃m,M=[m]∧m.order.name=x.order.name)(hG:∀o∈G,gS x.order.name o.order.name=true):
    oK (L++M++G) x=L++[x]++G:=by
 unfold oK NF
 rw[uq hL hM hG,Ek hL hG]
 unfold yt
 rw[Int.toNat_natCast,List.take_left',List.drop_left']<;>rfl
theorem HQ{x:af}:∀{L:List af}(acc:List af),(∀ o∈L,gS o.order.name x.order.name=true)→L.foldl (dj x) (false,acc)=(false,acc++L)
 | [],acc,_=>by simp
 |o::r,acc,h=>by
  have h1:=h o (by simp)
  rw[List.foldl_cons,show dj x (false,acc) o=(false,acc++[o]) from by unfold dj;rw[h1,oL h1];rfl,HQ (acc++[o]) fun o' ho=>h o' (by simp[ho])]
  simp
theorem rV{x:af}:∀{G:List af}(acc:List af),(∀ o∈G,fX o.order.name x.order.name=false)→G.foldl (dj x) (true,acc)=(true,acc++G)
 | [],acc,_=>by simp
 |o::r,acc,h=>by
  have h1:=h o (by simp)
  rw[List.foldl_cons,show dj x (true,acc) o=(true,acc++[o]) from by unfold dj;rw[h1];rfl,rV (acc++[o]) fun o' ho=>h o' (by simp[ho])]
  simp
theorem rW{x:af}:∀(xs acc:List af),xs.foldl (dj x) (true,acc)=(true,acc++dn xs x)
 | [],acc=>by simp[dn]
 |o::r,acc=>by
  rw[List.foldl_cons]
  cases h:fX o.order.name x.order.name with
  |true=>
   rw[show dj x (true,acc) o=(true,acc) from by unfold dj;rw[h];rfl,rW r acc]
   show _=(true,acc++List.filter _ (o::r))
   rw[List.filter_cons_of_neg (by show ¬(!(fX o.order.name x.order.name))=true;rw[h];simp)];rfl
  |false=>
   rw[show dj x (true,acc) o=(true,acc++[o]) from by unfold dj;rw[h];rfl,rW r (acc++[o])]
   show _=(true,acc++List.filter _ (o::r))
   rw[List.filter_cons_of_pos (by show (!(fX o.order.name x.order.name))=true;rw[h];rfl)]
   simp[dn]
theorem NG{L M G:List af}{e:ag}(hk:e.kind=1)(hL:∀o∈L,gS o.order.name e.item.order.name=true)(hM:M=[]∨∃m,M=[m]∧m.order.name=e.item.order.name)(hG:∀o∈G,gS e.item.order.name o.order.name=true):
    lJ (L++M++G) e=L++[e.item]++G:=by
 have ZU:∀o∈G,fX o.order.name e.item.order.name=false:=fun o ho=>by rw[rI];exact oL (hG o ho)
 unfold lJ
 rw[show (e.kind !=(1:Int))=false from by rw[hk];rfl,List.foldl_append,List.foldl_append,HQ [] hL,List.nil_append]
 rcases hM with rfl | ⟨m,rfl,hm⟩
 ·cases G with
  |nil=>simp[kO]
  |cons g r=>
   have h1:=hG g (by simp)
   rw[List.foldl_nil,List.foldl_cons,show dj e.item (false,L) g=(true,L++[e.item]++[g]) from by unfold dj;rw[ZU g (by simp),yx h1];rfl,rV _ fun o ho=>ZU o (by simp[ho])]
   simp[kO]
 ·rw[List.foldl_cons,List.foldl_nil,show dj e.item (false,L) m=(true,L++[e.item]) from by unfold dj;rw[hm,jn,vQ];rfl,rV _ ZU]
  simp[kO]
theorem HR{xs:List af}{e:ag}(hk:e.kind=2):lJ xs e=dn xs e.item:=by
 unfold lJ
 rw[show (e.kind !=(1:Int))=true from by rw[hk];rfl,rW]
 simp[kO]
end Go.Gm
namespace Go.Gm
open Go Go.Sort Go.Proofs
variable {wl : World} {P : Program} {w w' : World}
theorem NH{b:Nat}{x:Obj}(h:w.heap[b]? =some x):b<w.heap.size:=(Array.getElem?_eq_some_iff.1 h).1
end Go.Gm
namespace Go.Gm
open Go
variable {wl : World} {P : Program} {w w' : World} {Mf ROa : Nat → Prop}
theorem jy.HS{s:Spec}(dO:s.own=true)(oq:s.res=[false]){ds:List Dt}{us:List Value}{t:Ty}{x:El t}{e:Ending}(h:jy wl w w' Mf ROa s ds us [.d t x] e):
    ∃v G,e = .returned v∧gk w' G t x v∧∀k,G k→(Mf k∨w.heap.size≤k)∧k<w'.heap.size:=by
 obtain⟨rs,Gs,Bs,he,hr,_,_,_,h5,_,_,h8,_⟩:=h.out
 rw[dO,oq] at hr
 cases hr with
 | @val _ _ _ _ u0 _ F0 _ hv hs=>
  cases hs
  exact⟨u0,F0,he,by simpa using hv,fun k hk=>⟨(h5 dO).2 _ (List.mem_singleton.2 rfl) k hk,h8 _ (List.mem_singleton.2 rfl) k hk⟩⟩
def Tw(cs m0:List Cv)(kid:Nat→Value):Prop:=∀j c,cs[j]? =some c→∃u,m0[j]? =some (.v u)∧dH c u (kid j)
def pf(v:Value):Prop:=∃a n c,v = .slice a n c
def yz:Value→p5 | .slice a n c=>⟨a,n,c⟩ | _=>⟨none,0,0⟩
theorem yA{v:Value}(h:pf v):v = .slice (yz v).a (yz v).n (yz v).c:=by obtain⟨a,n,c,rfl⟩:=h;rfl
def Em(x:af)(kid:Nat→Value):cr:=⟨⟨x.order.name,x.order.target,x.order.low,x.order.high,yz (kid 4),x.order.aD,yz (kid 9)⟩,x.ver⟩
theorem HT(x:af){kid:Nat→Value}(h4:pf (kid 4))(h9:pf (kid 9)):Tw (enc .item x) (enc .ed (Em x kid)) kid:=by
 intro j c h
 match j,h with
 |0,h | 1,h | 2,h | 3,h | 5,h | 6,h | 7,h | 8,h | 10,h=>
  simp only[enc,iY,List.getElem?_cons_zero,List.getElem?_cons_succ,Option.some.injEq] at h
  subst h;exact⟨_,rfl,rfl⟩
 |4,h=>
  simp only[enc,iY,List.getElem?_cons_zero,List.getElem?_cons_succ,Option.some.injEq] at h
  subst h;exact⟨_,rfl,(yA h4).symm⟩
 |9,h=>
  simp only[enc,iY,List.getElem?_cons_zero,List.getElem?_cons_succ,Option.some.injEq] at h
  subst h;exact⟨_,rfl,(yA h9).symm⟩
 |j+11,h=>simp[enc,iY] at h
theorem ur(x:af):(enc .item x)[4]? =some (.l .aw x.order.aq):=rfl
theorem uu(x:af):(enc .item x)[9]? =some (.l .note x.order.notes):=rfl
theorem aW.YB{F:Nat→Prop}{t:Ty}{xs:List (El t)}{av:Path→Value}(h:aW w F t xs av){p:Path}{s:Sl}(hs:aQ t xs p=some s):pf (av p):=by
 rcases h.1 p s hs with ⟨_,e⟩ | ⟨b,o,cap,cs,el,e,_⟩<;>exact⟨_,_,_,e⟩
theorem fk.YB{Q:Nat→Prop}{t:Ty}{xs:List (El t)}{v:Value}(h:fk w Q t xs v):pf v:=by
 obtain⟨av,rfl,hT⟩:=h
 obtain⟨a,cap,e,_⟩:=hT [] ⟨t,xs⟩ rfl
 exact⟨_,_,_,e⟩
theorem aW.V'{F G:Nat→Prop}{t:Ty}{xs ys:List (El t)}{av:Path→Value}(h:aW w F t xs av)(σ:Nat→Nat)(hσ:∀i y,ys[i]? =some y→xs[σ i]? =some y)(hinj:∀i i',σ i=σ i'→i=i')
 (bR:bw (fun k=>j8 (av [])=some k) w w') {v:Value} (lq:∀k,j8 v=some k→j8 (av [])=some k∨w.heap.size≤k) (hn:bp w' G t ys v fun i j=>av [(σ i,j)]):gX w' (fun k=>F k∨G k) t ys v:=by
 have dp:∀i j p s,aQ t ys ((i,j)::p)=some s→aQ t xs ((σ i,j)::p)=some s:=by
  intro i j p s hs
  simp only[aQ] at hs ⊢
  split at hs
  ·rename_i y hy
   rw[hσ i y hy];exact hs
  ·cases hs
 have cc:∀p s k,aQ t xs p=some s→j8 (av p)=some k→k<w.heap.size:=by
  intro p s k hs hk
  rcases h.1 p s hs with ⟨_,e⟩ | ⟨b,o,cap,cs,el,e,_,hb,_⟩
  ·rw[e] at hk;cases hk
  ·rw[e] at hk;cases hk;exact NH hb
 refine⟨fun p=>match p with | []=>v | (i,j)::p=>av ((σ i,j)::p),rfl,fun p s hs=> ?_,fun p q s s' k hp hq hk mb=> ?_⟩
 ·cases p with
  |nil=>simp only[aQ,Option.some.injEq] at hs;subst hs;exact hn.mono fun k=> .inr
  |cons x p=>
   obtain⟨i,j⟩:=x
   have eZ:=dp i j p s hs
   exact ((h.1 _ s eZ).here bR fun k hk e=>by have:=h.2 _ [] s ⟨t,xs⟩ k eZ rfl hk e;cases this).mono fun k=> .inl
 ·cases p with
  |nil=>cases q with
   |nil=>rfl
   |cons y q=>
    obtain⟨i,j⟩:=y
    rcases lq k hk with Wa | Wa
    ·have:=h.2 [] _ ⟨t,xs⟩ s' k rfl (dp i j q s' hq) Wa mb
     cases this
    ·have:=cc _ s' k (dp i j q s' hq) mb
     omega
  |cons x p=>
   obtain⟨i,j⟩:=x
   cases q with
   |nil=>
    rcases lq k mb with Wa | Wa
    ·have:=h.2 _ [] s ⟨t,xs⟩ k (dp i j p s hp) rfl hk Wa
     cases this
    ·have:=cc _ s k (dp i j p s hp) hk
     omega
   |cons y q=>
    obtain⟨i',j'⟩:=y
    have:=h.2 _ _ s s' k (dp i j p s hp) (dp i' j' q s' hq) hk mb
    simp only[List.cons.injEq,Prod.mk.injEq] at this
    obtain⟨⟨h1,rfl⟩,rfl⟩:=this
    rw[hinj _ _ h1]
theorem uv{α β:Type}(p:α→Bool)(p':β→Bool):∀(xs:List α)(qp:List β),xs.length=qp.length→(∀(i:Nat)(x:α)(x':β),xs[i]? =some x→qp[i]? =some x'→p x=p' x')→
    ∃σ:Nat→Nat,(∀ i j,σ i=σ j→i=j)∧(∀(i:Nat)(y:α),(xs.filter p)[i]? =some y→xs[σ i]? =some y)∧(∀(i:Nat)(y:β),(qp.filter p')[i]? =some y→qp[σ i]? =some y)∧(xs.filter p).length=(qp.filter p').length
 | [],[],_,_=>⟨fun i=>i,fun _ _ h=>h,fun _ _ h=>h,fun _ _ h=>h,rfl⟩
 | [],_::_,h,_=>by simp at h
 |_::_,[],h,_=>by simp at h
 |x::xs,x'::qp,hl,h=>by
  obtain⟨σ,h1,h2,h3,h4⟩:=uv p p' xs qp (by simpa using hl) fun i y y' hy PC=>h (i+1) y y' (by simpa using hy) (by simpa using PC)
  have h0:=h 0 x x' rfl rfl
  cases hp:p x with
  |false=>
   rw[hp] at h0
   refine⟨fun i=>σ i+1,fun i j e=>h1 i j (Nat.succ.inj e),fun i y hy=> ?_,fun i y hy=> ?_,?_⟩
   ·rw[List.filter_cons_of_neg (by simp[hp])] at hy
    simpa using h2 i y hy
   ·rw[List.filter_cons_of_neg (by simp[← h0])] at hy
    simpa using h3 i y hy
   ·rw[List.filter_cons_of_neg (by simp[hp]),List.filter_cons_of_neg (by simp[← h0])];exact h4
  |true=>
   rw[hp] at h0
   refine⟨fun i=>match i with | 0=>0 | i+1=>σ i+1,fun i j e=> ?_,fun i y hy=> ?_,fun i y hy=> ?_,?_⟩
   ·cases i<;>cases j<;>simp only at e
    ·rfl
    ·omega
    ·omega
    ·exact congrArg Nat.succ (h1 _ _ (Nat.succ.inj e))
   ·rw[List.filter_cons_of_pos hp] at hy
    cases i with
    |zero=>simpa using hy
    |succ i=>simpa using h2 i y (by simpa using hy)
   ·rw[List.filter_cons_of_pos h0.symm] at hy
    cases i with
    |zero=>simpa using hy
    |succ i=>simpa using h3 i y (by simpa using hy)
   ·rw[List.filter_cons_of_pos hp,List.filter_cons_of_pos h0.symm];simp[h4]
theorem yB{F:Nat→Prop}{t:Ty}(j3:(kinds t).all (fun q=>q.isNone)=true){xs:List (El t)}{v:Value}(h:bp w F t xs v fun _ _=> .slice none 0 0):gX w F t xs v:=by
 have one:∀p s,aQ t xs p=some s→p=[]:=fun p s hs=>Classical.byContradiction fun e=>by rw[kf j3 xs e] at hs;cases hs
 refine⟨fun p=>match p with | []=>v | _::_=> .slice none 0 0,rfl,fun p s hs=> ?_,fun p q s s' k hp hq _ _=>(one p s hp).trans (one q s' hq).symm⟩
 have:=one p s hs
 subst this
 simp only[aQ,Option.some.injEq] at hs
 subst hs
 exact h
theorem En{f g:Nat}{qf:Qt}(h:fb P f (Spec.of [.jK,.fn] [false] true qf))
 (hqf:∀(xs:List cr)(y:cr),qf [.d (.sl .ed) xs,.fq g [⟨.ed,y⟩]]=some (ec xs,[.d (.sl .ed) (lH xs y)])) {q:Qt}
 (hq:∀ds outs,q ds=some (true,outs)→∃(xs:List af)(y:af),ds=[.d (.sl .item) xs,.fq g [⟨.item,y⟩]]∧ec xs=true∧outs=[.d (.sl .item) (dn xs y)]):
    fb P f (Spec.of [.jK,.fn] [false] true q):=by
 intro R ds k r hr wl w us Mf ROa Fs Hg No hA hp Cy Mw tg mj
 obtain⟨outs,Sb,hk⟩:=Spec.nF hr
 obtain⟨xs,y,rfl,hlen,rfl⟩:=hq ds outs Sb
 cases hA with
 |cons h1 hA=>
  cases hA with
  |cons h2 hA=>
   cases hA
   rename_i u1 F1 u2 F2
   obtain⟨F,Yr,dO⟩:=jo h1
   have Eo:∀k,F k→Mf k:=fun k hk=>Cy F1 (by simp) k (Yr k hk)
   obtain⟨av,h0,hT⟩:=dO
   -- the elements by their headers
   have Wb:∀i x,xs[i]? =some x→pf (av [(i,4)])∧pf (av [(i,9)]):=fun i x hx=>⟨hT.YB (gb hx (ur x)),hT.YB (gb hx (uu x))⟩
   have Qe:(xs.mapIdx fun i x=>Em x fun j=>av [(i,j)]).length=xs.length:=by simp
   have YC:∀i x',(xs.mapIdx fun i x=>Em x fun j=>av [(i,j)])[i]? =some x'→∃x,xs[i]? =some x∧x'=Em x fun j=>av [(i,j)]:=by
    intro i x' kF
    rw[List.getElem?_mapIdx] at kF
    obtain⟨x,hx,rfl⟩:=Option.map_eq_some_iff.1 kF
    exact⟨x,hx,rfl⟩
   generalize aec:(xs.mapIdx fun i x=>Em x fun j=>av [(i,j)])=qp at Qe YC
   have Hf:bp w (fun k=>j8 u1=some k) .ed qp u1 fun _ _=> .slice none 0 0:=by
    have dz:=hT.1 [] ⟨.item,xs⟩ rfl
    rw[h0] at dz
    rcases dz with ⟨e,e2⟩ | ⟨b,o,cap,cs,el,e,hF,hb,dJ,dy,db⟩
    ·have e:xs=[]:=e
     exact .inl ⟨List.length_eq_zero_iff.1 (by rw[Qe,e];rfl),e2⟩
    ·refine .inr ⟨b,o,cap,cs,el,by rw[Qe];exact e,by rw[e];rfl,hb,by rw[Qe];exact dJ,dy,fun i x' j c' kF mZ=> ?_⟩
     obtain⟨x,hx,rfl⟩:=YC i x' kF
     have hj:j<11:=by have:=(List.getElem?_eq_some_iff.1 mZ).1;rwa [aS] at this
     have hc:=List.getElem?_eq_getElem (l:=enc .item x) (i:=j) (by rw[aS];exact hj)
     obtain⟨z,hz,iO⟩:=db i x j _ hx hc
     obtain⟨s4,s9⟩:=Wb i x hx
     obtain⟨u,hu,gu⟩:=HT x (kid:=fun j=>av [(i,j)]) s4 s9 j _ hc
     rw[hu] at mZ
     cases mZ
     refine⟨z,hz,?_⟩
     generalize (enc Ty.item x)[j]'(by rw[aS];exact hj)=c at iO gu
     cases c<;>simp only[dH] at iO gu ⊢ <;>rw[iO,gu]<;>rfl
   -- the closure, its item by its headers
   obtain⟨ps,rfl,PS,hps⟩:=h2
   obtain⟨pq,rfl⟩:∃pq,ps=[pq]:=List.length_eq_one_iff.1 (by rw[PS];rfl)
   obtain⟨b2,o2,YD,MJ,fz2,Yn,hR2,mh,HU⟩:=hps 0 ⟨.item,y⟩ pq rfl rfl
   have Hp:∀j t' (ys:List (El t')),(enc .item y)[j]? =some (.l t' ys)→pf ((YD[o2+j]?).getD default):=by
    intro j t' ys hj
    obtain⟨z,hz,iO⟩:=HU j _ hj
    rw[hz];exact fk.YB iO
   have htw:=HT y (kid:=fun j=>(YD[o2+j]?).getD default) (Hp 4 _ _ (ur y)) (Hp 9 _ _ (uu y))
   generalize PC:Em y (fun j=>(YD[o2+j]?).getD default)=y' at htw
   have Wc:y'.order.name=y.order.name:=by rw[← PC];rfl
   have BV:gG w ROa .ed y' 0 pq:=by
    refine⟨b2,o2,YD,MJ,fz2,Yn,hR2,mh,fun j c' mZ=> ?_⟩
    have hj:j<11:=by have:=(List.getElem?_eq_some_iff.1 mZ).1;rwa [aS] at this
    have hc:=List.getElem?_eq_getElem (l:=enc .item y) (i:=j) (by rw[aS];exact hj)
    obtain⟨z,hz,iO⟩:=HU j _ hc
    obtain⟨u,hu,gu⟩:=htw j _ hc
    rw[hu] at mZ
    cases mZ
    refine⟨z,hz,?_⟩
    simp only[hz,Option.getD_some] at gu
    generalize (enc Ty.item y)[j]'(by rw[aS];exact hj)=c at iO gu
    cases c<;>simp only[dH,lQ] at iO gu ⊢
    ·rw[iO,gu]
    ·exact gu.symm
   have Qg:cE wl w ROa [.jK,.fn] [.d (.sl .ed) qp,.fq g [⟨.ed,y'⟩]] [u1,.func (.func g) #[] [pq].toArray] [fun k=>j8 u1=some k,fun _=>False]:=
    .cons (ig (yB rfl Hf)) (.cons ⟨[pq],rfl,rfl,fun i yy qq ZV hqq=>by
     cases i with
     |zero=>cases ZV;cases hqq;exact BV
     |succ i=>simp at ZV⟩ .nil)
   have lq:∀k,j8 u1=some k→F k:=by
    intro k hk
    have dz:=hT.1 [] ⟨.item,xs⟩ rfl
    rw[h0] at dz
    rcases dz with ⟨_,e⟩ | ⟨b,o,cap,cs,el,e,hF,_⟩
    ·rw[e] at hk;cases hk
    ·rw[e] at hk;cases hk;exact hF
   have GA:=h [.d (.sl .ed) qp,.fq g [⟨.ed,y'⟩]] (fun outs=>some outs) [.d (.sl .ed) (lH qp y')]
    (by show (match qf _ with | some (g,outs)=>cond g (some outs) none | none=>none)=_;rw[hqf,kr (by rw[Qe];exact kq hlen)];rfl)
    wl w _ (fun k=>j8 u1=some k) ROa _ Hg No Qg (by simp[bH]) (fun F hF k hk=>by
     simp only[List.mem_cons,List.not_mem_nil,or_false] at hF
     rcases hF with rfl | rfl
     ·exact hk
     ·exact hk.elim) (fun k hk vm=>Mw k hk (Eo k (lq k vm))) tg (fun k hk=>mj k (Eo k (lq k hk)))
   refine Calls.mono GA ?_
   rintro e w' ⟨outs,ho,hAf⟩
   cases ho
   obtain⟨v,G,rfl,hv,hG⟩:=jy.HS rfl rfl hAf
   obtain⟨G',mf,avf,Yq,hTf⟩:=jo hv
   have hnf:=hTf.1 [] ⟨.ed,lH qp y'⟩ rfl
   rw[Yq] at hnf
   obtain⟨σ,hinj,hσ,hσ',j3⟩:=uv (fun x:af=> !(V0 x y)) (fun x:cr=> !(mP x y')) xs qp Qe.symm fun i x x' hx kF=>by
    obtain⟨x2,pD,rfl⟩:=YC i x' kF
    rw[hx] at pD;cases pD
    show (!(fX x.order.name y.order.name)) = !(fX x.order.name y'.order.name)
    rw[Wc]
   have j3:(dn xs y).length=(lH qp y').length:=j3
   have hK:=hAf.kept
   have dz:bp w' G' .item (dn xs y) v fun i j=>av [(σ i,j)]:=by
    rcases hnf with ⟨e,e2⟩ | ⟨b,o,cap,cs,el,e,hF,hb,dJ,dy,db⟩
    ·have e:lH qp y'=[]:=e
     exact .inl ⟨List.length_eq_zero_iff.1 (by rw[j3,e];rfl),e2⟩
    ·refine .inr ⟨b,o,cap,cs,el,by rw[j3];exact e,hF,hb,by rw[j3];exact dJ,dy,fun i x j c hx hc=> ?_⟩
     have cc:i<(lH qp y').length:=by rw[← j3];exact (List.getElem?_eq_some_iff.1 hx).1
     have hxf:=List.getElem?_eq_getElem cc
     obtain⟨x2,pD,ZW⟩:=YC _ _ (hσ' i _ hxf)
     have Ur:=hσ i x hx
     rw[Ur] at pD;cases pD
     obtain⟨s4,s9⟩:=Wb _ x Ur
     obtain⟨u,hu,gu⟩:=HT x (kid:=fun j=>av [(σ i,j)]) s4 s9 j _ hc
     obtain⟨z,hz,iO⟩:=db i _ j (.v u) hxf (by rw[ZW];exact hu)
     exact⟨z,hz,by simp only[dH] at iO;rw[iO];exact gu⟩
   have bR:bw (fun k=>j8 (av [])=some k) w w':=by rw[h0];exact hK.same
   have o3:=hT.V' σ hσ hinj bR (v:=v) (fun k hk=>by
    rw[h0]
    rcases dz with ⟨_,e⟩ | ⟨b,o,cap,cs,el,e,hF,_⟩
    ·rw[e] at hk;cases hk
    ·rw[e] at hk;cases hk;exact (hG _ (mf _ hF)).1) dz
   refine⟨_,hk,jy.VX rfl rfl rfl rfl rfl (ig o3) (fun k hk=> ?_) ⟨hK.os,hK.tape,hK.output,hK.same.1,fun k sX vm=>hK.same.2 k sX fun e=>vm (Eo k (lq k e))⟩⟩
   rcases hk with hk | hk
   ·exact⟨.inl (Eo k hk),Nat.lt_of_lt_of_le (mj k (Eo k hk)) hK.same.1⟩
   ·have:=hG k (mf k hk)
    exact⟨this.1.imp (fun e=>Eo k (lq k e)) id,this.2⟩
end Go.Gm
namespace Go.Gm
open Go
def aZ(c:ay):Bool:=decide (0≤c.i)&&Nat.ble c.b.length 1048576
theorem nP{c:ay}:aZ c=true↔0≤c.i∧c.b.length≤1048576:=by
 unfold aZ
 rw[Bool.and_eq_true,decide_eq_true_eq,Nat.ble_eq]
def gZ(c:ay)(l:List BA):Bool:=aZ c&&(!l.isEmpty&&Nat.ble l.length 1048576)
def fU(c:ay)(l:List Int):Bool:=aZ c&&(!l.isEmpty&&Nat.ble l.length 1048576)
theorem bP{c:ay}{l:List BA}(h:aZ c=true)(hl:(!l.isEmpty&&Nat.ble l.length 1048576)=true):gZ c l=true:=by
 unfold gZ;rw[h,hl];rfl
theorem bW{c:ay}{l:List Int}(h:aZ c=true)(hl:(!l.isEmpty&&Nat.ble l.length 1048576)=true):fU c l=true:=by
 unfold fU;rw[h,hl];rfl
theorem pW(c:ay):(⟨c.b,c.i,c.h⟩:ay)=c:=by cases c;rfl
theorem dB{α:Type}{f:α→Bool}{xs:List α}{i:Nat}{y:α}(h:gC f xs=true)(hy:f y=true):gC f (xs.set i y)=true:=by
 unfold gC at *
 simp only[Bool.and_eq_true,List.all_eq_true,List.length_set] at *
 refine⟨h.1,fun x hx=> ?_⟩
 rcases List.mem_or_eq_of_mem_set hx with hx | rfl
 ·exact h.2 x hx
 ·exact hy
theorem dC{α:Type}{f:α→Bool}{r:List α}{x:α}(h:gC f r=true)(hx:f x=true)(hl:Nat.blt r.length 1048576=true):gC f (r++[x])=true:=
  lG h hx (by rw[Nat.blt_eq] at hl;exact hl)
theorem HV{xs:List aj}(h:gC aY xs=true)(i:Nat):aY (ax (t:= .aw) xs i)=true:=by
 by_cases hi:i<xs.length
 ·exact List.all_eq_true.1 (gQ h) _ (List.mem_of_getElem? (eo (t:= .aw) hi))
 ·simp only[ax,List.getD_eq_getElem?_getD,List.getElem?_eq_none (Nat.le_of_not_lt hi),Option.getD_none];rfl
theorem bS{xs:List aj}(h:gC aY xs=true)(i:Nat):gx (ax (t:= .aw) xs i).name=true:=by
 have:=HV h i;simp only[aY,Bool.and_eq_true] at this;exact this.1
theorem bT{xs:List aj}(h:gC aY xs=true)(i:Nat):oF (ax (t:= .aw) xs i).kind=true:=by
 have:=HV h i;simp only[aY,Bool.and_eq_true] at this;exact this.2.1
theorem HW{n m:Nat}(h:n<m):Nat.blt n m=true:=by rw[Nat.blt_eq];exact h
end Go.Gm
namespace Go.Gm
open Go Od
theorem fnd_split{L G:List af}{x:af}{nx:Int}(hL:∀o∈L,gS o.order.name x.order.name=true):fndI ⟨L++[x]++G,nx⟩ x.order.name=(x,true):=by
 have hx:(L++[x]++G)[L.length]? =some x:=by
  rw[List.append_assoc,List.getElem?_append_right (Nat.le_refl _)];simp
 have hxp:js (ax (t:= .item) (L++[x]++G) L.length) x.order.name=true:=by
  rw[dG (t:= .item) hx];exact jn _
 have cc:L.length<(L++[x]++G).length:=by simp
 have hl:∀k,k<L.length→js (ax (t:= .item) (L++[x]++G) k) x.order.name=false:=by
  intro k hk
  have:=List.getElem?_append_left (l₂:=[x]++G) hk
  rw[← List.append_assoc,List.getElem?_eq_getElem hk] at this
  rw[dG (t:= .item) this]
  exact oL (hL _ (List.getElem_mem hk))
 unfold fndI
 rcases jI (t:= .item) (fun y=>js y x.order.name) (L++[x]++G) with ⟨h,dm⟩ | ⟨i,h,hi,hp,dm⟩
 ·have:=dm _ cc
  rw[hxp] at this;cases this
 ·have PJ:L.length≤i:=Classical.byContradiction fun e=>by rw[hl i (by omega)] at hp;cases hp
  have hle:i≤L.length:=Classical.byContradiction fun e2=>by have:=dm L.length (by omega);rw[hxp] at this;cases this
  have:i=L.length:=by omega
  subst this
  show cond (decide (dw (L++[x]++G) x.order.name<(0:Int))) _ _=_
  rw[show dw (L++[x]++G) x.order.name=(L.length:Int) from h,decide_eq_false (by omega),cond_false,Int.toNat_natCast,dG (t:= .item) hx]
theorem yC{s:ai}(h:cT s=true):s.items.length≤6:=by
 simp only[cT,Bool.and_eq_true,decide_eq_true_eq] at h;omega
theorem AF{s:ai}(h:cT s=true):∀x∈s.items,cS x.order=true∧du x.ver 1 100000=true:=by
 obtain⟨h1,h2⟩:=tj h
 intro x hx
 obtain⟨j,hj⟩:=List.getElem?_of_mem hx
 have h3:=h2 j (List.getElem?_eq_some_iff.1 hj).1
 simp only[ui,Bool.and_eq_true] at h3
 rw[dG (t:= .item) hj] at h3
 refine⟨h3.1,gh.2 ?_⟩
 have h4:=gh.1 h3.2.1
 have h5:=gh.1 h1
 omega
structure uw (s:ai) (h:au) (seen:List (List af)) (i:Nat):Prop where
 sm:bD s=true
 Wd:HP s.items
 len:s.items.length≤6
 it:∀x∈s.items,cS x.order=true∧du x.ver 1 100000=true
 hb:h.base=0
 hs:bI h=true
 ho:cA h=true
 hl:h.list.length≤i
 sl:seen.length=h.list.length+1
 ss:∀y∈seen,gC bn y=true∧y.length≤6
 re:∀k,k≤h.list.length→gi (ax (t:= .sl .item) seen k) (h.list.drop k)=s.items
theorem AG{h:au}{kd:Int}{x:af}(ho:cA h=true)(hl:h.list.length<60)(hk:du kd 1 2=true)(hx:cS x.order=true∧du x.ver 1 100000=true):
    bY h kd x=⟨h.base,h.list++[di h kd x]⟩∧cA ⟨h.base,h.list++[di h kd x]⟩=true:=by
 have n5:cA ⟨h.base,h.list++[di h kd x]⟩=true:=by
  obtain⟨b0,b1,_,UC⟩:=kt ho
  simp only[cA,Bool.and_eq_true,gh,Bool.not_eq_true',decide_eq_false_iff_not,nI]
  refine⟨⟨b0,b1⟩,?_,fun j _ hj=> ?_⟩
  ·simp only[List.length_append,List.length_cons,List.length_nil];omega
  ·simp only[List.length_append,List.length_cons,List.length_nil] at hj
   by_cases cc:j<h.list.length
   ·have h1:=UC j cc
    have h2:=List.getElem?_append_left (l₂:=[di h kd x]) cc
    have h3:=eo (t:= .event) cc
    rw[h3] at h2
    unfold jq at h1 ⊢
    rw[dG (t:= .event) h2]
    exact h1
   ·have e:j=h.list.length:=by omega
    subst e
    have h2:(h.list++[di h kd x])[h.list.length]? =some (di h kd x):=by rw[List.getElem?_append_right (Nat.le_refl _)];simp
    unfold jq
    rw[dG (t:= .event) h2]
    simp only[di,Bool.and_eq_true,beq_self_eq_true,hk,hx.1,hx.2,and_self]
 refine⟨?_,n5⟩
 unfold bY
 rw[ho,cond_true,decide_eq_false (by omega),cond_false,n5,cond_true]
theorem uw.event{s:ai}{h:au}{seen:List (List af)}{i:Nat}(I:uw s h seen i)(hi:i<60){s':ai}{kd:Int}{x:af}(hk:du kd 1 2=true)(hx:cS x.order=true∧du x.ver 1 100000=true)(pO:bn x=true)
 (sm:bD s'=true) (Wd:HP s'.items) (len:s'.items.length≤6) (it:∀x∈s'.items,cS x.order=true∧du x.ver 1 100000=true) (ZX:lJ s.items (di h kd x)=s'.items):
 (bY h kd x).list.length=h.list.length+1∧uw s' (bY h kd x) (seen++[s'.items]) (i+1):=by
 obtain⟨e,n5⟩:=AG I.ho (Nat.lt_of_le_of_lt I.hl hi) hk hx
 have Ep:=At (k:=kd) I.hs (by have:=gh.1 hk;exact ku (by omega) (by omega)) pO
 rw[e] at Ep ⊢
 have hlen:(h.list++[di h kd x]).length=h.list.length+1:=by simp
 refine⟨hlen,sm,Wd,len,it,I.hb,Ep,n5,?_,?_,fun y hy=> ?_,fun k hk=> ?_⟩
 ·show (h.list++[di h kd x]).length≤i+1
  rw[hlen];have:=I.hl;omega
 ·show _=(h.list++[di h kd x]).length+1
  rw[hlen,List.length_append,I.sl];rfl
 ·rcases List.mem_append.1 hy with hy | hy
  ·exact I.ss y hy
  ·have:y=s'.items:=by simpa using hy
   subst this;exact⟨(eE sm).1,len⟩
 ·have hk:k≤(h.list++[di h kd x]).length:=hk
  rw[hlen] at hk
  show gi _ ((h.list++[di h kd x]).drop k)=_
  by_cases cc:k≤h.list.length
  ·have hks:k<seen.length:=by rw[I.sl];omega
   have h1:=List.getElem?_append_left (l₂:=[s'.items]) hks
   rw[eo (t:= .sl .item) hks] at h1
   rw[dG (t:= .sl .item) h1,List.drop_append_of_le_length cc]
   unfold gi
   rw[List.foldl_append]
   have:=I.re k cc
   unfold gi at this
   rw[this]
   exact ZX
  ·have vm:k=seen.length:=by rw[I.sl];omega
   subst vm
   have h1:(seen++[s'.items])[seen.length]? =some s'.items:=by rw[List.getElem?_append_right (Nat.le_refl _)];simp
   rw[dG (t:= .sl .item) h1,List.drop_eq_nil_of_le (by rw[hlen,I.sl];exact Nat.le_refl _)]
   rfl
theorem uw.put{s:ai}{h:au}{seen:List (List af)}{i:Nat}(I:uw s h seen i)(hi:i<60){o:ae}(ho:aL o=true)(n5:(cg s o).2=true):
 (bY h 1 (fndI (cg s o).1 o.name).1).list.length=h.list.length+1∧uw (cg s o).1 (bY h 1 (fndI (cg s o).1 o.name).1) (seen++[(cg s o).1.items]) (i+1):=by
 have hg:k6 s o=true:=by
  simp only[k6,Bool.and_eq_true];exact⟨I.sm,ho,Nat.ble_eq_true_of_le (Nat.le_trans I.len (by decide))⟩
 have Ep:=CN hg
 have ix:cT (mR s o)=true∧(cg s o).1=mR s o:=by
  unfold cg at n5 ⊢
  cases h1:cT s<;>rw[h1] at n5
  ·cases n5
  ·cases h2:cT (mR s o)<;>rw[h2] at n5
   ·cases n5
   ·exact⟨rfl,rfl⟩
 obtain⟨ix,e⟩:=ix
 rw[e]
 obtain⟨L,M,G,hs,hL,hM,hG⟩:=uo o.name I.Wd
 have vR:=I.Wd
 rw[hs] at vR
 have vS:(mR s o).items=L++[⟨o,s.next⟩]++G:=by
  show oK s.items ⟨o,s.next⟩=_
  rw[hs];exact AE (x:=⟨o,s.next⟩) hL hM hG
 have Sn:fndI (mR s o) o.name=(⟨o,s.next⟩,true):=by
  have:=fnd_split (L:=L) (G:=G) (x:=⟨o,s.next⟩) (nx:=(mR s o).next) hL
  rw[← vS] at this;exact this
 rw[Sn]
 have hit:=AF ix
 have hx:(⟨o,s.next⟩:af)∈(mR s o).items:=by rw[vS];simp
 refine I.event hi (by decide) (hit _ hx) (List.all_eq_true.1 (gQ (eE Ep).1) _ hx) Ep ?_ (yC ix) hit ?_
 ·rw[vS]
  unfold HP at vR ⊢
  rw[List.append_assoc,List.pairwise_append] at vR ⊢
  obtain⟨p1,p2,_⟩:=vR
  rw[List.pairwise_append] at p2
  refine⟨p1,?_,fun a ha b hb=> ?_⟩
  ·rw[List.singleton_append,List.pairwise_cons]
   exact⟨fun b hb=>hG b hb,p2.2.1⟩
  ·rcases List.mem_append.1 hb with hb | hb
   ·have:b=⟨o,s.next⟩:=by simpa using hb
    subst this;exact hL a ha
   ·exact AA (hL a ha) (hG b hb)
 ·rw[vS,hs]
  exact NG (e:=di h 1 ⟨o,s.next⟩) rfl hL hM hG
theorem uw.drop{s:ai}{h:au}{seen:List (List af)}{i:Nat}(I:uw s h seen i)(hi:i<60){n:BA}(n5:(bO s n).2=true):
 (fndI s n).2=true∧(bY h 2 (fndI s n).1).list.length=h.list.length+1∧uw (bO s n).1 (bY h 2 (fndI s n).1) (seen++[(bO s n).1.items]) (i+1):=by
 have ix:∃k:Nat,k<s.items.length∧dw s.items n=(k:Int)∧(bO s n).1=⟨s.items.take k++s.items.drop (k+1),s.next⟩:=by
  unfold bO at n5 ⊢
  cases h1:cT s<;>rw[h1] at n5
  ·cases n5
  ·rcases nO s.items n with e | ⟨k,e,hk⟩
   ·rw[e] at n5;cases n5
   ·have hl:=I.len
    refine⟨k,hk,e,?_⟩
    rw[e,cC (by omega) (by omega),decide_eq_false (show ¬(k:Int)<0 by omega)]
    show (⟨HD s.items (k:Int) ((k:Int)+1),s.next⟩:ai)=_
    unfold HD
    rw[Int.toNat_natCast,show ((k:Int)+1).toNat=k+1 by omega]
 obtain⟨k,hk,e,e2⟩:=ix
 rw[e2]
 have hy:=eo (t:= .item) hk
 have Sn:fndI s n=(ax (t:= .item) s.items k,true):=by
  unfold fndI
  rw[e,decide_eq_false (show ¬(k:Int)<0 by omega)];rfl
 rw[Sn]
 refine⟨rfl,?_⟩
 generalize ZV:ax (t:= .item) s.items k=y at hy
 have s8:=List.mem_of_getElem? hy
 have HX:s.items=s.items.take k++[y]++s.items.drop (k+1):=by
  have h1:=List.take_append_drop k s.items
  rw[List.drop_eq_getElem_cons hk] at h1
  rw[List.getElem?_eq_getElem hk] at hy
  rw[Option.some.inj hy] at h1
  rw[List.append_assoc];exact h1.symm
 have vR:=I.Wd
 rw[HX] at vR
 unfold HP at vR
 rw[List.append_assoc,List.pairwise_append] at vR
 obtain⟨p1,p2,p3⟩:=vR
 rw[List.singleton_append,List.pairwise_cons] at p2
 have dp:∀x∈s.items.take k++s.items.drop (k+1),x∈s.items:=fun x hx=>(List.mem_append.1 hx).elim List.mem_of_mem_take List.mem_of_mem_drop
 have hlen:(s.items.take k++s.items.drop (k+1)).length≤s.items.length:=by simp;omega
 have hi1:=I.it
 obtain⟨sm1,sm2⟩:=eE I.sm
 refine I.event (s':=⟨s.items.take k++s.items.drop (k+1),s.next⟩) hi (by decide) (hi1 y s8) (List.all_eq_true.1 (gQ sm1) y s8) ?_ ?_ (Nat.le_trans hlen I.len) (fun x hx=>hi1 x (dp x hx)) ?_
 ·simp only[bD,Bool.and_eq_true]
  exact⟨CC sm1 dp hlen,sm2⟩
 ·show List.Pairwise _ (s.items.take k++s.items.drop (k+1))
  rw[List.pairwise_append]
  exact⟨p1,p2.2,fun a ha b hb=>p3 a ha b (by simp[hb])⟩
 ·rw[HR (e:=di h 2 y) rfl]
  show dn s.items y=s.items.take k++s.items.drop (k+1)
  have:=uq (L:=s.items.take k) (M:=[y]) (G:=s.items.drop (k+1)) (x:=y) (fun o ho=>p3 o ho y (by simp)) (.inr ⟨y,rfl,rfl⟩) (fun o ho=>p2.1 o ho)
  rwa [← HX] at this
theorem Er{s:ai}{n:BA}(h:(bO s n).2=false):(bO s n).1=s:=by
 unfold bO at h ⊢
 cases h1:cT s<;>rw[h1] at h
 ·rfl
 ·cases h2:decide (dw s.items n<(0:Int))<;>rw[h2] at h
  ·cases h
  ·rfl
theorem HY{s:ai}{o:ae}(h:(cg s o).2=false):(cg s o).1=s:=by
 unfold cg at h ⊢
 cases h1:cT s<;>rw[h1] at h
 ·rfl
 ·cases h2:cT (mR s o)<;>rw[h2] at h
  ·rfl
  ·cases h
theorem uw.up{s:ai}{h:au}{seen:List (List af)}{i:Nat}(I:uw s h seen i):uw s h seen (i+1):={ I with hl:=Nat.le_succ_of_le I.hl }
theorem uw.new:uw iF ⟨0,[]⟩ [[]] 0:=by
 refine⟨rfl,List.Pairwise.nil,Nat.zero_le _,fun x hx=>absurd hx (by simp[iF]),rfl,rfl,?_,Nat.le_refl _,rfl,fun y hy=> ?_,fun k hk=> ?_⟩
 ·simp[cA,du,ic]
 ·have:y=[]:=by simpa using hy
  subst this;exact⟨rfl,Nat.zero_le _⟩
 ·have:k=0:=by simpa using hk
  subst this;rfl
theorem uw.all{s:ai}{h:au}{seen:List (List af)}{i:Nat}(I:uw s h seen i){k:Nat}(hk:k<seen.length):
    since h (k:Int)=(h.list.drop k,true)∧mO h (k:Int)=true∧jH (ax (t:= .sl .item) seen k) (h.list.drop k)=true∧gi (ax (t:= .sl .item) seen k) (h.list.drop k)=s.items:=by
 have vm:k≤h.list.length:=by have:=I.sl;omega
 obtain⟨b0,b1,b2,_⟩:=kt I.ho
 have hb:=I.hb
 have Ep:=I.hs
 simp only[bI,Bool.and_eq_true] at Ep
 have qC:=I.ss _ (List.mem_of_getElem? (eo (t:= .sl .item) hk))
 refine⟨?_,?_,?_,I.re k vm⟩
 ·unfold since
  rw[I.ho,hb,show du (k:Int) 0 (0+(h.list.length:Int))=true from gh.2 (by omega)]
  simp
 ·simp only[mO,Bool.and_eq_true];exact⟨I.hs,ku (by omega) (by omega)⟩
 ·simp only[jH,Bool.and_eq_true]
  refine⟨qC.1,nL Ep.2 k,Nat.ble_eq_true_of_le ?_⟩
  have:=qC.2
  rw[List.length_drop];omega
def Wf(xs:List Int):Bool:=xs.all fun x=>decide (0≤x)&&decide (x≤255)
theorem So{xs:List Int}(h:Wf xs=true)(hl:xs.length≤1048576){i:Int}(h0:0≤i)(hi:i≤1048576):0≤ar xs i∧ar xs i≤255:=by
 unfold ar
 by_cases cc:i<(xs.length:Int)
 ·rw[decide_eq_true cc]
  have:=List.all_eq_true.1 h _ (List.mem_of_getElem? (eo (t:= .i .u8) (xs:=xs) (i:=Int.toNat i) (by omega)))
  simp only[Bool.and_eq_true,decide_eq_true_eq] at this
  simp only[cond_true]
  rw[cC (by omega) (by omega)]
  exact this
 ·rw[decide_eq_false cc]
  simp only[cond_false]
  rw[cC (x:=i*7) (by omega) (by omega),cC (x:=i*7+(xs.length:Int)) (by omega) (by omega)]
  have h1:=Int.tmod_nonneg 256 (show 0≤i*7+(xs.length:Int) by omega)
  have h2:=Int.tmod_lt_of_pos (i*7+(xs.length:Int)) (b:=256) (by decide)
  omega
theorem Wg{xs:List Int}(h:∀c∈enc (.sl (.i .u8)) xs,ko c):Wf xs=true:=by
 have h:=h (.l (.i .u8) xs) (by simp[enc])
 cases h with
 |ZD hl hx=>
  unfold Wf
  rw[List.all_eq_true]
  intro x hm
  have h:=hx x hm (.v (.int .u8 x)) (by simp[enc])
  cases h with
  |int h2=>
   simp only[Lit.wf,Bool.and_eq_true,decide_eq_true_eq] at h2
   have e1:IntKind.u8.min=0:=rfl
   have e2:IntKind.u8.max=255:=rfl
   simp only[Bool.and_eq_true,decide_eq_true_eq]
   omega
theorem fP.ZY{w:World}{F:Nat→Prop}{c:Cv}{u:Value}(h:fP w F c u):lQ w F c u:=by
 cases c with
 |v x=>exact h
 |l t xs=>obtain⟨av,h0,h1⟩:=h;exact⟨av,h0,h1.rd⟩
theorem gk.ZY{w:World}{F:Nat→Prop}{t:Ty}{x:El t}{u:Value}(h:gk w F t x u):lh w F t x u:=by
 obtain⟨us,hf,Fs,h1,_,h3,h4⟩:=h
 refine⟨us,hf,h3,fun j c hc=> ?_⟩
 obtain⟨z,hz,iO⟩:=h4 j c hc
 exact⟨z,hz,iO.ZY.mono fun k hk=>h1 j k hk⟩
theorem CP{wl w:World}{ROa:Nat→Prop}:∀{ms:List Am}{ds:List Dt}{us:List Value}{Fs:List (Nat→Prop)},(∀ m∈ms,m = .ro)→cE wl w ROa ms ds us Fs→cE wl w ROa ms ds us (Fs.map fun _ _=>False)
 |_,_,_,_,_,.nil=> .nil
 |m::_,d::_,_,_,hm,.cons h hs=>by
  have:=hm m (by simp)
  subst this
  refine .cons ?_ (CP (fun m BW=>hm m (by simp[BW])) hs)
  cases d with
  |d t x=>exact h
  |fq fn ys=>exact h
theorem uy{wl w:World}:∀{ps:List Bool}{ds:List Dt}{us:List Value}{Gs:List (Nat→Prop)},(∀ b∈ps,b=false)→gl wl w true ps ds us Gs→gl wl w false ps ds us Gs
 |_,_,_,_,_,.nil=> .nil
 |_,_,_,_,hb,.val h hs=> .val (show lh w _ _ _ _ from gk.ZY h) (uy (fun b fl=>hb b (by simp[fl])) hs)
 |_,_,_,_,hb,.ptr _ _=>by have:=hb true (by simp);cases this
theorem ky{P:Program}{f:Nat}{bL:List Am}{res:List Bool}{q:Qt}(hm:∀m∈bL,m = .ro)(hb:∀b∈res,b=false)(hs:fb P f (Spec.of bL res true q)):fb P f (Spec.of bL res false q):=by
 intro R ds k r hr wl w us Mf ROa Fs Hg No hA hp Cy Mw tg mj
 have jf:(Spec.of bL res true q).fn ds k=some r:=hr
 refine Calls.mono (hs ds k r jf wl w us (fun _=>False) ROa (Fs.map fun _ _=>False) Hg No (CP hm hA) ?_ ?_ (fun _ _ h=>h) tg (fun _ h=>h.elim)) fun e w' ⟨outs,h1,h2⟩=>⟨outs,h1,?_⟩
 ·unfold bH
  rw[List.pairwise_map]
  exact List.Pairwise.imp (fun _ k hk=>hk.elim) hp
 ·intro F hF k hk
  obtain⟨_,_,rfl⟩:=List.mem_map.1 hF
  exact hk.elim
 ·obtain⟨rs,Gs,Bs,he,ta,hB,Yv,hB2,hG,_,Yk,DL,Gy⟩:=h2.out
  obtain⟨_,hG2⟩:=hG rfl
  refine⟨⟨rs,Gs,Bs,he,uy hb ta,hB,Yv,fun B hB k hk=>(hB2 B hB k hk).imp (fun h=>h.elim) id,fun h=>(by cases h),fun _ G hG k hk=> .inr ((hG2 G hG k hk).resolve_left id),Yk,DL,Gy⟩,?_⟩
  have hk:=h2.kept
  exact⟨hk.os,hk.tape,hk.output,hk.same.1,fun b h1 _=>hk.same.2 b h1 id⟩
theorem tn{H:Type}{enc:TypeId×Value→H}{a:Assume}{C:Checked}{os:Os}{f:FuncId}{fn:Func}{s:ChangeSpec}{conds:List PathCond}{apart fresh handsOn again:Bool}
 (own:ownKnob C.prog.godebug=none) (started:os.Started) (Sp:C.prog.inits.idxOf? f=none) (ZF:C.prog.funcs[f]? =some fn)
 (witness:∃(w:World)(tape:Tape)(i:Input),w.os=os∧(w.forCall tape i).Shaped C.prog∧i.vars=[]∧Input.okWide C.prog (w.forCall tape i) .any w.heap.size f i∧
      s.pre6 enc C.prog fn conds apart (w.forCall tape i).memory i.args∧a.holds C.prog (lone (Frame.enter C.prog f i.args .normal) [] (w.forCall tape i)))
 (HZ:∀(W:World)(base:Nat)(args:Array Value)(ds gs:List (DataW H))(before:List MemPlace),W.ShapedOpen C.prog→
 (∀(j:Nat) t v,fn.params[j]? =some t→args[j]? =some v→Value.okWide C.prog W .any base t v)→
      DataW.Whole enc C.prog fn.params.toList s.vars apart W args.toList ds gs before→
      Calls C.prog f args W fun e W'=>∃v,e = .returned v∧s.post enc C.prog fn apart fresh handsOn again W args v W'):
    ReturnsInHanded a C os f .any (s.pre6 enc C.prog fn conds apart) (s.post enc C.prog fn apart fresh handsOn again):=by
 refine returnsInHanded_of_calls own started Sp witness ?_
 intro w tape i _ ke _ n5 ZZ _
 obtain⟨_,_,_,fn',Hv,_,_,_,_,Hu⟩:=n5
 have e:fn'=fn:=Option.some.inj (Hv.symm.trans ZF)
 subst e
 obtain⟨⟨ds,gs,before,hw,_⟩,_⟩:=ZZ
 have Z0:=DataW.Whole.of_heap (w':=w.forCall tape i) (by rfl) hw
 refine (HZ (w.forCall tape i) w.heap.size i.args ds gs before ke Hu Z0).mono fun e W' ⟨v,he,hp⟩=> ?_
 subst he
 exact ChangeSpec.post_blind hp
end Go.Gm
