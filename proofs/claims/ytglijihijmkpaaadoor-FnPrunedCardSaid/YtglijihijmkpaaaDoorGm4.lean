/- The G-machine, part 4: an evaluator of translated code on typed values, and that it is sound. No conditions. -/
import Derived.Test.YtglijihijmkpaaaDoorGm3
import Derived.Laws.Sem
import Derived.Laws.StructEq
import Derived.KernelRfl
import Derived.Lib.Bytealg
import Derived.Laws.Strings
import Derived.Laws.BitsLemmas
import Derived.DataReads
import Derived.ChangeArms
import Derived.ChangeShapes
import Derived.ChangeMaps5
import Derived.Carry
import Derived.ChangeCalls
import Derived.RowKit3
import Derived.Shelf.Strings.OnBuilder
import Derived.Laws.CopyRow
import Derived.Deep.RegionLaw
import Derived.Below
import Derived.Laws.Cover4
import Derived.Lib.AppendZerosOnto
import Derived.Lib.Overlaps
import Derived.Lib.Replace
import Derived.Lib.SplitLaws
import Derived.Handed
namespace Go.Gm
open Go
variable {wl : World} {R : Type} {P : Program} {E : Env} {w0 w w' : World} {Mf : Nat → Prop} {g : Gh} {st : St} {a : Act}
theorem Bm {N M:Nat} {ps:List Nat} (hNM:N≤M):∀ {c:Code},codeOk N ps c=true→codeOk M ps c=true:=by
 have ops:∀ {l:List Oper},x6 N ps l=true→x6 M ps l=true:=by
  intro l h
  simp only [x6,List.all_eq_true] at h ⊢
  intro o ho
  have:=h o ho
  cases hd:o.dst with
  | none=>rfl
  | some d=>
   rw [hd] at this
   simp only [Bool.and_eq_true] at this ⊢
   refine ⟨?_,this.2⟩
   have h1:=this.1
   rw [Nat.blt_eq] at h1 ⊢
   omega
 intro c
 induction c with
 | region id o d=>exact ops
 | seq a b iha ihb=>intro h;simp only [codeOk,Bool.and_eq_true] at h ⊢;exact ⟨iha h.1,ihb h.2⟩
 | cond x a b iha ihb=>intro h;simp only [codeOk,Bool.and_eq_true] at h ⊢;exact ⟨iha h.1,ihb h.2⟩
 | block id c ih=>intro h;simp only [codeOk] at h ⊢;exact ih h
 | loop c ih=>intro h;simp only [codeOk] at h ⊢;exact ih h
 | _=>intro h;rfl
def kP (own:Bool) (p:Bool):Am:=cond p .bj (cond own .CO .ro)
theorem j4.len:∀ {l:List (Nat×Sv)} {us:List Value},j4 w g st l us→us.length=l.length
 | [],[],_=>rfl
 | [],_::_,h=>h.elim
 | _::_,[],h=>h.elim
 | _::_,_::_,h=>by simp [j4.len h.2]
def oJ (tmps:Array Value):ResultVar→Sem Value
 | .tmp t=>pure (tmps.getD t undef)
 | .cell x t=>do loadVar t (← asAddr (tmps.getD x undef))
theorem lD (hE:E.Ok P) (I:Inv w0 Mf g st a w) {own:Bool}:∀ {Pw:List ResultVar} {ps:List Bool} {Ts:List Nat} {k:List (Am×Nat×Sv)→Option R} {r:R},gg E st own Pw ps Ts k=some r→
    ∃l vs,k l=some r∧(Pw.mapM (oJ a.tmps)).run P w = .ok vs w∧j4 w g st (l.map (·.2)) vs∧l.map (·.1)=ps.map (kP own)
 | [],[],[],k,r,h=>⟨[],[],h,by simp [Sem.run_pure],trivial,rfl⟩
 | .tmp t::Pw,p::ps,T::Ts,k,r,h=>by
  simp only [gg] at h
  obtain ⟨s,hs,h⟩:=aQ h
  obtain ⟨l,vs,h1,h2,h3,h4⟩:=lD hE I h
  obtain ⟨u,hu,hr⟩:=I.aA t s hs
  refine ⟨_,u::vs,h1,?_,⟨hr,h3⟩,by simp [h4,kP]⟩
  have wz:a.tmps.getD t undef=u:=by simp [hu]
  simp only [List.mapM_cons,Sem.run_bind,oJ,Sem.run_pure,Result.andThen_ok,h2,wz]
 | .cell x T'::Pw,false::ps,_::Ts,k,r,h=>by
  simp only [gg] at h
  split at h
  case h_2=>cases h
  rename_i b hs
  obtain ⟨y,hy,h⟩:=aQ h
  obtain ⟨t,ht,h⟩:=aQ h
  obtain ⟨hlen,h⟩:=a8 h
  have hlen:=gX hlen
  obtain ⟨c,hc,h⟩:=aQ h
  obtain ⟨l,vs,h1,h2,h3,h4⟩:=lD hE I h
  obtain ⟨u,hu,hr⟩:=I.aA x _ hs
  have hp:u = .pointer (some ⟨g.bx b,0,none⟩):=hr.2.1
  subst hp
  obtain ⟨us,el,hb,fe⟩:=I.boxes b y hy
  have ff:us.size=y.cs.length:=fe.1
  have hex:us.extract 0 (0+aD t)=us:=by
   rw [Nat.zero_add,hlen,←ff];simp
  obtain ⟨v,hv,eA⟩:=r9 (P:=P) (w:=w) hE ht (off:=0) hb (by omega) (fun j v hj=>by rw [hex] at hj;exact fe.flat j v hj)
  rw [hex] at eA
  obtain ⟨v',et,yT⟩:=Form.of hc fe
  have:=eA.uniq et
  subst this
  refine ⟨_,v::vs,h1,?_,⟨yT,h3⟩,by simp [h4,kP]⟩
  have wz:a.tmps.getD x undef = .pointer (some ⟨g.bx b,0,none⟩):=by simp [hu]
  simp only [List.mapM_cons,Sem.run_bind,oJ,wz,asAddr,Sem.run_pure,Result.andThen_ok,hv,h2]
 | [],[],_::_,k,r,h=>by simp [gg] at h
 | [],_::_,_,k,r,h=>by simp [gg] at h
 | .tmp _::_,[],_,k,r,h=>by simp [gg] at h
 | .tmp _::_,_::_,[],k,r,h=>by simp [gg] at h
 | .cell _ _::_,[],_,k,r,h=>by simp [gg] at h
 | .cell _ _::_,true::_,_,k,r,h=>by simp [gg] at h
 | .cell _ _::_,false::_,[],k,r,h=>by simp [gg] at h
theorem Bn {fn:Func} {tmps:Array Value} {vs:List Value} (h:(fn.results.toList.mapM (oJ tmps)).run P w = .ok vs w):(results fn tmps).run P w = .ok (tG vs) w:=by
 have e:results fn tmps=(do let vs←fn.results.mapM (oJ tmps);pure (if h:vs.size=1 then vs[0] else .tuple vs)):=by
  unfold results
  congr
 rw [e,Array.mapM_eq_mapM_toList]
 simp only [Sem.run_bind,map_eq_pure_bind,bind_assoc,h,Result.andThen_ok,pure_bind,Sem.run_pure]
 cases vs with
 | nil=>rfl
 | cons v vs=>
  cases vs with
  | nil=>rfl
  | cons v' vs=>simp [tG]
def fQ:Am→Bool | .mut | .bj=>true | _=>false
def gY:List Am→List Value→List Value
 | m::ms,u::us=>if fQ m then u::gY ms us else gY ms us
 | _,_=>[]
theorem lE (I:Inv w0 Mf g st a w):∀ {ms:List Am} {us:List Value} {j:Nat} {k:List (Am×Nat×Sv)→Option R} {r:R},ms.length=us.length→(∀ i∈stays j ms,∀n,i=j+n→a.tmps[i]? =us[n]?)→mK st j ms k=some r→
    ∃l,k l=some r∧j4 w g st (l.map (·.2)) (gY ms us)∧l.map (·.1)=ms.filter fQ
 | [],us,j,k,r,hl,hs,h=>by
  cases us with
  | nil=>exact ⟨[],h,trivial,rfl⟩
  | cons _ _=>simp at hl
 | m::ms,C',j,k,r,hl,hs,h=>by
  cases C' with
  | nil=>simp at hl
  | cons u us=>
   have E6:ms.length=us.length:=by simpa using hl
   have skip:stays j (m::ms)=stays (j+1) ms→fQ m=false→mK st (j+1) ms k=some r→∃l,k l=some r∧j4 w g st (l.map (·.2)) (gY (m::ms) (u::us))∧l.map (·.1)=(m::ms).filter fQ:=by
    intro e hb h
    obtain ⟨l,h1,h2,h3⟩:=lE I E6 (fun i hi n hn=>by
     have:=hs i (by rw [e];exact hi) (n+1) (by omega)
     simpa using this) h
    exact ⟨l,h1,by simpa [gY,hb] using h2,by simpa [hb] using h3⟩
   have take:stays j (m::ms)=j::stays (j+1) ms→fQ m=true→((ax st.aA j).bind fun s=>mK st (j+1) ms fun l=>k ((m,0,s)::l))=some r→
     ∃l,k l=some r∧j4 w g st (l.map (·.2)) (gY (m::ms) (u::us))∧l.map (·.1)=(m::ms).filter fQ:=by
    intro e hb h
    obtain ⟨s,Zn,h⟩:=aQ h
    obtain ⟨l,h1,h2,h3⟩:=lE I E6 (fun i hi n hn=>by
     have:=hs i (by rw [e];exact List.mem_cons_of_mem _ hi) (n+1) (by omega)
     simpa using this) h
    obtain ⟨v,hv,hr⟩:=I.aA j s Zn
    have hu:=hs j (by rw [e];simp) 0 (by omega)
    rw [hv] at hu
    have hvu:v=u:=by simpa using hu
    subst hvu
    exact ⟨_,h1,by simpa [gY,hb,j4] using ⟨hr,h2⟩,by simp [hb,h3]⟩
   cases m with
   | ro=>exact skip rfl rfl h
   | CO=>exact skip rfl rfl h
   | CA=>exact skip rfl rfl h
   | fn=>exact skip rfl rfl h
   | PB=>exact skip rfl rfl h
   | kp=>exact skip rfl rfl h
   | «mut» =>exact take rfl rfl h
   | bj=>exact take rfl rfl h
theorem cS.split {Pr:Nat→Prop}:∀ {m1 m2:List Am} {ds:List Dt} {us:List Value} {Fs:List (Nat→Prop)},cS wl w Pr (m1++m2) ds us Fs→
    cS wl w Pr m1 (ds.take m1.length) (us.take m1.length) (Fs.take m1.length)∧cS wl w Pr m2 (ds.drop m1.length) (us.drop m1.length) (Fs.drop m1.length)
 | [],m2,ds,us,Fs,h=>⟨by simpa using cS.nil,by simpa using h⟩
 | m::m1,m2,_,_,_,h=>by
  cases h with
  | cons h hs=>
   obtain ⟨h1,h2⟩:=cS.split hs
   exact ⟨.cons h h1,h2⟩
theorem uZ {Pr:Nat→Prop}:∀ {ps:List Bool} {ds:List Dt} {us:List Value} {Fs:List (Nat→Prop)},cS wl w Pr (ps.map (kP true)) ds us Fs→iU wl w true ps ds us Fs
 | [],_,_,_,h=>by cases h;exact .nil
 | p::ps,_,_,_,h=>by
  cases h with
  | cons h hs=>
   rename_i d ds u us F Fs
   cases p with
   | true=>
    cases d with
    | fH _ _=>cases h
    | d t x=>exact .ptr ⟨rfl,h⟩ (uZ hs)
   | false=>
    cases d with
    | fH _ _=>cases h
    | d t x=>exact .val (by simpa using (show mA w F t x u from h)) (uZ hs)
theorem E7 {Pr:Nat→Prop}:∀ {ps:List Bool} {ds:List Dt} {us:List Value} {Fs:List (Nat→Prop)},ps.all (fun p=> !p)=true→cS wl w Pr (ps.map (kP false)) ds us Fs→iU wl w false ps ds us (ps.map fun _=>Pr)
 | [],_,_,_,_,h=>by cases h;exact .nil
 | p::ps,_,_,_,hp,h=>by
  simp only [List.all_cons,Bool.and_eq_true] at hp
  cases h with
  | cons h hs=>
   rename_i d ds u us F Fs
   cases p with
   | true=>cases hp.1
   | false=>
    cases d with
    | fH _ _=>cases h
    | d t x=>exact .val (by simpa using (show qd w Pr t x u from h)) (E7 hp.2 hs)
theorem iF {Pr:Nat→Prop}:∀ {ms:List Am} {pG ds:List Dt} {us:List Value} {Fs:List (Nat→Prop)},ms.length=us.length→cz ms pG ds=true→cS wl w Pr (ms.filter fQ) ds (gY ms us) Fs→ec wl w ms pG us ds Fs
 | [],pG,ds,us,Fs,hl,hc,h=>by
  cases us with
  | cons _ _=>simp at hl
  | nil=>
   cases h
   cases pG with
   | nil=>exact .nil
   | cons _ _=>simp [cz] at hc
 | m::ms,pG,ds,C',Fs,hl,hc,h=>by
  cases C' with
  | nil=>simp at hl
  | cons u us=>
   have E6:ms.length=us.length:=by simpa using hl
   cases m with
   | ro=>cases pG with
    | nil=>simp [cz] at hc
    | cons d0 Du=>exact .skip trivial (iF E6 (by simpa [cz] using hc) h)
   | CO=>cases pG with
    | nil=>simp [cz] at hc
    | cons d0 Du=>exact .skip trivial (iF E6 (by simpa [cz] using hc) h)
   | CA=>cases pG with
    | nil=>simp [cz] at hc
    | cons d0 Du=>exact .skip trivial (iF E6 (by simpa [cz] using hc) h)
   | fn=>cases pG with
    | nil=>simp [cz] at hc
    | cons d0 Du=>exact .skip trivial (iF E6 (by simpa [cz] using hc) h)
   | PB=>cases pG with
    | nil=>simp [cz] at hc
    | cons d0 Du=>exact .skip trivial (iF E6 (by simpa [cz] using hc) h)
   | kp=>cases pG with
    | nil=>simp [cz] at hc
    | cons d0 Du=>exact .skip trivial (iF E6 (by simpa [cz] using hc) h)
   | «mut» =>
    have h:cS wl w Pr (.mut::ms.filter fQ) ds (u::gY ms us) Fs:=h
    cases h with
    | cons h1 hs=>
     rename_i d ds F Fs
     cases d with
     | fH _ _=>cases h1
     | d t x=>
      obtain ⟨e,xs,heq,hO⟩:=h1
      cases heq
      cases pG with
      | nil=>simp [cz] at hc
      | cons d0 Du=>exact .mut hO (iF E6 (by simpa [cz] using hc) hs)
   | bj=>
    have h:cS wl w Pr (.bj::ms.filter fQ) ds (u::gY ms us) Fs:=h
    cases h with
    | cons h1 hs=>
     rename_i d ds F Fs
     cases d with
     | fH _ _=>cases h1
     | d t x=>
      cases pG with
      | nil=>simp [cz] at hc
      | cons d0 Du=>
       cases d0 with
       | fH _ _=>simp [cz] at hc
       | d t0 x0=>
        simp only [cz,Bool.and_eq_true] at hc
        exact .bj h1 (gX hc.1) (iF E6 hc.2 hs)
theorem Kept.mono {M N:Nat→Prop} (h:Kept w w' M) (hMN:∀k,M k→N k):Kept w w' N:=
 ⟨h.os,h.tape,h.output,⟨h.same.1,fun b hb hx=>h.same.2 b hb fun hm=>hx (hMN b hm)⟩⟩
theorem cS.len {ROa:Nat→Prop} {ms:List Am} {ds:List Dt} {us:List Value} {Fs:List (Nat→Prop)} (h:cS wl w ROa ms ds us Fs):ms.length=us.length∧ds.length=us.length∧Fs.length=us.length:=by
 induction h with
 | nil=>exact ⟨rfl,rfl,rfl⟩
 | cons h hs ih=>exact ⟨by simp [ih.1],by simp [ih.2.1],by simp [ih.2.2]⟩
theorem j4.E8:∀ {l m:List (Nat×Sv)} {us vs:List Value},j4 w g st l us→j4 w g st m vs→j4 w g st (l++m) (us++vs)
 | [],_,[],_,_,h=>h
 | [],_,_::_,_,h,_=>h.elim
 | _::_,_,[],_,h,_=>h.elim
 | _::_,_,_::_,_,h,h'=>⟨h.1,j4.E8 h.2 h'⟩
theorem j4.arg:∀ {l:List (Am×Nat×Sv)} {us:List Value},j4 w g st (l.map (·.2)) us→ArgRel w g st l us
  | [],[],_=>trivial
  | [],_::_,h=>h.elim
  | _::_,[],h=>h.elim
  | (_,_,_)::_,_::_,h=>⟨h.1,j4.arg h.2⟩
theorem G8 (hE:E.Ok P) {Vu ROa:Nat→Prop} (I:Inv w Vu g st a w') (hn:g.n.r0=ROa∧g.n.wl=wl) {s:Spec} {fn:Func} {ds:List Dt} {us:List Value} (hl:s.bO.length=us.length)
 (hM:∀k,Vu k→Mf k) (hM0:s.bO.all Am.reads=true→∀k,¬Vu k) {k:Kt R} {r:R} {l1 l2:List (Am×Nat×Sv)} {vs:List Value}
 (er:(fn.results.toList.mapM (oJ a.tmps)).run P w' = .ok vs w') (hS1:j4 w' g st (l1.map (·.2)) vs) (JN:l1.map (·.1)=s.res.map (kP s.own)) (hS2:j4 w' g st (l2.map (·.2)) (gY s.bO us)) (Vb:l2.map (·.1)=s.bO.filter fQ)
 (h:(cond (s.own||(s.bO.all Am.reads&&((s.res.all fun p=> !p)&&l1.all fun a=>a.2.2.cells.all fun c=>c.names.1.isEmpty)))
 (Gm.dx E (l1++l2) st fun outs _ _ _=>cond (cz s.bO ds (outs.drop l1.length)) (k outs) none) none)=some r):
    ∃v,(results fn a.tmps).run P w' = .ok v w'∧∃outs,k outs=some r∧nB wl w w' Mf ROa s ds us outs (.returned v):=by
 obtain ⟨hn,hwl⟩:=hn
 subst hwl
 obtain ⟨ki,h⟩:=a8 h
 simp only [Bool.or_eq_true,Bool.and_eq_true] at ki
 refine ⟨tG vs,Bn er,?_⟩
 have hS:j4 w' g st ((l1++l2).map (·.2)) (vs++gY s.bO us):=by rw [List.map_append];exact hS1.E8 hS2
 have Qg:(l1++l2).map (·.1)=s.res.map (kP s.own)++s.bO.filter fQ:=by rw [List.map_append,JN,Vb]
 obtain ⟨bt,I1,hh⟩:=I.dx (E:=E) (j4.arg hS) h
 let ids:=xQ ((l1++l2).map (·.2))
 have Vv:s.own=false→l2=[]:=fun ho=>by
  have:=(ki.resolve_left (by simp [ho])).1
  have hf:s.bO.filter fQ=[]:=by
   rw [List.filter_eq_nil_iff]
   intro m hm hb
   have:=List.all_eq_true.1 this m hm
   cases m<;>simp [Am.reads,fQ] at this hb
  rw [hf] at Vb
  exact List.map_eq_nil_iff.1 Vb
 obtain ⟨outs,bs,d,Fs,Hs,h,hA,hH,L,Io,sY⟩:=hh (Reach g bt s.own ids) (fun x hx _=>by
  refine A2 (args:=(l1++l2).map (·.2)) ?_ (List.mem_map.2 ⟨x,hx,rfl⟩)
  cases ho:s.own with
  | true=>exact .inl rfl
  | false=>
   refine .inr fun y hy c hc=> ?_
   rw [Vv ho,List.append_nil] at hy
   obtain ⟨z,hz,rfl⟩:=List.mem_map.1 hy
   have:=(ki.resolve_left (by simp [ho])).2.2
   simp only [List.all_eq_true,List.isEmpty_iff] at this
   exact this z hz c hc)
 rw [Qg] at hA hH
 obtain ⟨P9,dy,_⟩:=hH.sub Io
 obtain ⟨Zo,h⟩:=a8 h
 refine ⟨outs,h,?_⟩
 obtain ⟨uc,Pu⟩:=hA.split
 have CC:(s.res.map (kP s.own)).length=s.res.length:=by simp
 have Ps:vs.length=s.res.length:=by
  have h1:=hS1.len
  have h2:=congrArg List.length JN
  simp only [List.length_map] at h1 h2
  omega
 have si:l1.length=s.res.length:=by
  have:=congrArg List.length JN
  simpa using this
 rw [CC] at uc Pu
 rw [si] at Zo
 have hu1:(vs++gY s.bO us).take s.res.length=vs:=by rw [← Ps];simp
 have hu2:(vs++gY s.bO us).drop s.res.length=gY s.bO us:=by rw [← Ps];simp
 rw [hu1] at uc
 rw [hu2] at Pu
 have hB:=iF hl Zo Pu
 have na:∀F∈Fs,∀n,F n→Any Hs n:=fun F hF n hn=>dy n ⟨F,hF,hn⟩
 have Bo:∀F∈Fs.drop s.res.length,F∈Fs:=fun F hF=>List.mem_of_mem_drop hF
 have TM:∀F∈Fs.take s.res.length,F∈Fs:=fun F hF=>List.mem_of_mem_take hF
 have ac6:bR (Fs.take s.res.length++Fs.drop s.res.length):=by rw [List.take_append_drop];exact P9
 obtain ⟨AU,w5,hp3⟩:=List.pairwise_append.1 ac6
 have kH:∀F∈Fs,∀n,F n→Mf n∨w.heap.size≤n:=fun F hF n hn=>((I.fO L (na F hF n hn)).1.gy).elim .inr fun h=> .inl (hM n h)
 have Vw:∀F∈Fs,∀n,F n→n<w'.heap.size:=fun F hF n hn=>(I.fO L (na F hF n hn)).2
 have kept:Kept w w' Mf:=I.kept.mono hM
 cases ho:s.own with
 | true=>
  rw [ho] at uc
  refine ⟨⟨vs,Fs.take s.res.length,Fs.drop s.res.length,rfl,by rw [ho];exact uZ uc,hB,w5,fun B A1=>kH B (Bo B A1),fun _=>⟨AU,fun G hG=>kH G (TM G hG)⟩,fun e=>by simp [ho] at e,
   fun G hG B A1 n hg hb=>hp3 G hG B A1 n hg hb,fun G hG=>Vw G (TM G hG),fun B A1=>Vw B (Bo B A1)⟩,kept⟩
 | false=>
  rw [ho] at uc
  obtain ⟨TN,ac7,_⟩:=ki.resolve_left (by simp [ho])
  have hG:∀G∈s.res.map (fun _=>Reach g bt false ids),∀n,G n→Reach g bt false ids n:=fun G hG n hn=>by
   obtain ⟨_,_,rfl⟩:=List.mem_map.1 hG;exact hn
  refine ⟨⟨vs,s.res.map (fun _=>Reach g bt false ids),Fs.drop s.res.length,rfl,?_,hB,w5,fun B A1=>kH B (Bo B A1),fun e=>by simp [ho] at e,fun _ G p5 n hgn=> ?_,
   fun G p5 B A1 n hg hb=>(I.reach I1 L (hG G p5 n hg)).1 (na B (Bo B A1) n hb),fun G p5 n hg=>(I.reach I1 L (hG G p5 n hg)).2,fun B A1=>Vw B (Bo B A1)⟩,kept⟩
  ·rw [ho]
   exact E7 ac7 uc
  ·rcases hG G p5 n (by assumption) with h1 | ⟨_,id,_,h2,h3⟩ | ⟨e,_⟩
   ·rcases I.apart.bU n h1 with h4 | h4 | h4
    ·rw [hn] at h4;exact .inl h4
    ·exact .inr h4
    ·exact (hM0 TN n h4).elim
   ·rcases I1.apart.ck id n h2 h3 with h4 | h4
    ·exact .inr h4
    ·exact (hM0 TN n h4).elim
   ·cases e
theorem Dv (hE:E.Ok P) {Vu ROa:Nat→Prop} (I:Inv w Vu g st a w') (hn:g.n.r0=ROa∧g.n.wl=wl) {s:Spec} {fn:Func} {Ts:List Nat} {ds:List Dt} {us:List Value} (hl:s.bO.length=us.length)
 (Zp:∀j∈stays 0 s.bO,a.tmps[j]? =us[j]?) (hM:∀k,Vu k→Mf k) (hM0:s.bO.all Am.reads=true→∀k,¬Vu k) {k:Kt R} {r:R}
 (h:uY E s.bO s.res s.own fn.results.toList Ts ds st k=some r):
    ∃v,(results fn a.tmps).run P w' = .ok v w'∧∃outs,k outs=some r∧nB wl w w' Mf ROa s ds us outs (.returned v):=by
 unfold uY at h
 obtain ⟨l1,vs,h,er,hS1,JN⟩:=lD hE I h
 obtain ⟨l2,h,hS2,Vb⟩:=lE I (us:=us) hl (fun i hi n na=>by rw [Zp i hi];congr 1;omega) h
 exact G8 hE I hn hl hM hM0 er hS1 JN hS2 Vb h
theorem fn_sound (hE:E.Ok P) (hN:E.lC) {f:Nat} {fn:Func} {c:Code} (hf:P.funcs[f]? =some fn) (hb:fn.body=some c) (s:Spec) (mD:s.shape=[]) (Ts:List Nat) (X3:codeOk fn.ntmps (stays 0 s.bO) c=true)
 (er:∀ {R:Type} (ds:List Dt) (k:Kt R) (r:R),s.fn ds k=some r→∃aJ rounds,aM E aJ rounds c s.bO s.res s.own fn.results.toList Ts ds k=some r):bV P f s:=by
  intro R ds k r h wl w us Mf ROa Fs TO X4 hA hp X5 Vy Dw G9
  obtain ⟨aJ,rounds,h⟩:=er ds k r h
  unfold aM at h
  obtain ⟨si,_,_⟩:=hA.len
  rw [mD]
  show Calls P f us.toArray w _
  refine calls_of_wp hf hb ?_
  let a0:Act:={ tmps:=us.toArray++Array.replicate (fn.ntmps-us.toArray.size) undef,defers:=[] }
  let F0:Fx:=⟨a0.tmps.size,ROa,wl⟩
  let g0:Gh:={ rv:=fun _ _=>undef,rf:=fun _ _=>False,bx:=fun _=>0,ro:=ROa,n:=F0 }
  have ff:fn.ntmps≤F0.sz:=by
    show fn.ntmps≤(us.toArray++Array.replicate (fn.ntmps-us.toArray.size) undef).size
    simp;omega
  have E9:∀n,nO s.bO Fs n→Mf n:=fun n hg=>by obtain ⟨F,hF,h⟩:=hg.any;exact X5 F hF n h
  have X6:∀id,¬aP ⟨[],[],[]⟩ id:=fun id ⟨r,h,_⟩=>by simp [ax] at h
  have noB:∀b,¬bA ⟨[],[],[]⟩ b:=fun b h=>by simp [bA,ax] at h
  have I0:Inv w (nO s.bO Fs) g0 ⟨[],[],[]⟩ a0 w:=
    { aA:=fun s sv h=>by simp [ax] at h
      boxes:=fun b x h=>by simp [ax] at h
      roots:=fun id r h=>by simp [ax] at h
      apart:={
        rr:=fun id aH k h=>(X6 id h).elim
        rb:=fun id b h=>(X6 id h).elim
        bb:=fun b b' h=>(noB b h).elim
        dZ:=fun id k h=>(X6 id h).elim
        fL:=fun b h=>(noB b h).elim
        ck:=fun id k h=>(X6 id h).elim
        dA:=fun b h=>(noB b h).elim
        eb:=fun id k h=>(X6 id h).elim
        c7:=Dw
        bU:=fun k h=> .inl h }
      kept:=⟨rfl,rfl,rfl,Nat.le_refl _,fun _ _ _=>rfl⟩
      defers:=rfl
      size:=rfl
      base:=⟨X4,fun k h hg=>Vy k h (E9 k hg),fun k h=>h⟩ }
  have r8:∀(i:Nat) u,us[i]? =some u→a0.tmps[0+i]? =some u:=fun i u hu=>by
    have hi:i<us.length:=by
      rcases Nat.lt_or_ge i us.length with h' | h'
      · exact h'
      · simp [List.getElem?_eq_none h'] at hu
    show (us.toArray++Array.replicate (fn.ntmps-us.toArray.size) undef)[0+i]? =some u
    rw [Nat.zero_add,Array.getElem?_append_left (by simpa using hi)]
    simpa using hu
  obtain ⟨g1,bt,h,hg1,I1⟩:=nP (ROa:=ROa) I0 r8 hA hp (fun n hg=>⟨⟨fun id h=>(X6 id h).elim,fun h=>Vy n h (E9 n hg),fun b h=>(noB b h).elim,.inr hg⟩,G9 n (E9 n hg)⟩) rfl h
  have Vz:JK (stays 0 s.bO) (fun j=>us[j]?) a0.tmps:=by
    have zl:∀ {ms:List Am} {j:Nat} {x:Nat},x∈stays j ms→x<j+ms.length:=by
      intro ms
      induction ms with
      | nil=>intro j x h;simp [stays] at h
      | cons m ms ih=>
        intro j x h
        cases m<;>simp only [stays,List.mem_cons] at h<;>first
          | (have:=ih h;simp only [List.length_cons];omega)
          | (rcases h with rfl | h
             · simp
             · have:=ih h;simp only [List.length_cons];omega)
    intro j hj
    have CQ:=zl hj
    have ct:j<us.length:=by omega
    have:=r8 j us[j] (by simp [ct])
    rw [Nat.zero_add] at this
    rw [this];simp [ct]
  refine JL hE hN (F:=F0) TO c (Bm ff X3) h hg1 I1 Vz fun e g' aE a' w' hk p7 I' tj=> ?_
  have fin:uY E s.bO s.res s.own fn.results.toList Ts ds aE k=some r→a'.defers=[]∧∃v,(results fn a'.tmps).run P w' = .ok v w'∧∃outs,k outs=some r∧nB wl w w' Mf ROa s ds us outs (.returned v):=fun hk=>
    ⟨I'.defers,Dv hE I' ⟨by rw [p7],by rw [p7]⟩ si tj E9 (fun eO n hn=>nO.none eO hn) hk⟩
  cases e with
  | normal=>exact fin hk
  | ret=>exact fin hk
  | exit id=>cases hk
end Go.Gm
namespace Go.Gm
open Go
section
variable {R : Type}
def dS (E:Env) (aJ:Nat→Kp) (n:Nat) (b:Code) (k:Kx R):Kx R:=fun e st=>match e with
 | .normal=>ev E aJ n b st k
 | e=>k e st
def bZ (id:Nat) (k:Kx R):Kx R:=fun e st=>match e with
 | .exit aH=>cond (Nat.beq aH id) (k .normal st) (k (.exit aH) st)
 | e=>k e st
def aC (E:Env) (bO:List Am) (res:List Bool) (own:Bool) (Pw:List ResultVar) (Ts:List Nat) (ds:List Dt) (k:Kt R):Kx R:=fun e st=>match e with
 | .exit _=>none
 | _=>uY E bO res own Pw Ts ds st k
end
def bl:List Nat→Code→Code
 | [],c=>c
 | i::p,.seq a b=>cond (Nat.beq i 0) (bl p a) (bl p b)
 | i::p,.cond _ a b=>cond (Nat.beq i 0) (bl p a) (bl p b)
 | _::p,.block _ a=>bl p a
 | _::p,.loop a=>bl p a
 | _,c=>c
def fT:List Kp→Nat→Kp
 | [],_=>⟨[],[],[],[]⟩
 | a::r,n=>cond (Nat.beq n 0) a (fT r (n-1))
def bs (l:List Nat):BA:=⟨(l.map UInt8.ofNat).toArray⟩
def Spec.of (bO:List Am) (res:List Bool) (own:Bool) (q:Qt):Spec:=
  { bO,res,own,fn:=fun ds k=>match q ds with | some (g,outs)=>cond g (k outs) none | none=>none }
theorem Spec.aB (bO:List Am) (res:List Bool) (own:Bool) (q:Qt):(Spec.of bO res own q).lC:=by
 intro ds
 show ∃q':Option (List Dt),∀(R:Type) (k:Kt R),(match q ds with | some (g,outs)=>cond g (k outs) none | none=>none)=q'.bind k
 cases q ds with
 | none=>exact ⟨none,fun _ _=>rfl⟩
 | some go=>
  obtain ⟨g,outs⟩:=go
  cases g with
  | true=>exact ⟨some outs,fun _ _=>rfl⟩
  | false=>exact ⟨none,fun _ _=>rfl⟩
theorem Spec.qv {bO:List Am} {res:List Bool} {own:Bool} {q:Qt} {R:Type} {ds:List Dt} {k:Kt R} {r:R} (h:(Spec.of bO res own q).fn ds k=some r):
    ∃outs,q ds=some (true,outs)∧k outs=some r:=by
 have h:(match q ds with | some (g,outs)=>cond g (k outs) none | none=>none)=some r:=h
 cases hq:q ds with
 | none=>rw [hq] at h;cases h
 | some go=>
  obtain ⟨g,outs⟩:=go
  rw [hq] at h
  obtain ⟨h1,h2⟩:=a8 h
  exact ⟨outs,by rw [h1],h2⟩
theorem aK {P:Program} {E:Env} (hE:E.Ok P) (hN:E.lC) {f:Nat} {fn:Func} (hf:P.funcs[f]? =some fn) {c:Code} (hb:fn.body=some c) {bO:List Am} {res:List Bool} {own:Bool} {q:Qt} (Ts:List Nat)
 (X3:codeOk fn.ntmps (stays 0 bO) c=true)
 (er:∀ds outs,q ds=some (true,outs)→∃aJ rounds,∀ {R:Type} (k:Kt R),aM E aJ rounds c bO res own fn.results.toList Ts ds k=k outs):bV P f (Spec.of bO res own q):=by
 refine fn_sound hE hN hf hb _ rfl Ts X3 fun ds k r h=> ?_
 obtain ⟨outs,hq,hk⟩:=Spec.qv h
 obtain ⟨aJ,rounds,he⟩:=er ds outs hq
 exact ⟨aJ,rounds,(he k).trans hk⟩
structure CL where
 code:List (Nat×Ty)
 eqs:List (Nat×List Ty)
 wx:List (Nat×List (Nat×Nat))
def Qo:List (Nat×Spec)→Nat→Option Spec
  | [],_=>none
  | (k,v)::r,n=>cond (Nat.beq n k) (some v) (Qo r n)
def CL.env (t:CL) (l:List (Nat×Spec)):Env:=
  { code:=fun T=>ax t.code T,eq:=fun T=>ax t.eqs T,wx:=fun T f=>(ax t.wx T).bind fun l=>l[f]?,spec:=fun f=>Qo l f }
theorem u3:∀ {l:List (Nat×Spec)} {f:Nat} {s:Spec},Qo l f=some s→(f,s)∈l
  | (k,v)::r,f,s,h=>by
    simp only [Qo] at h
    cases hb:Nat.beq f k with
    | true=>rw [hb] at h;cases h;rw [gX hb];simp
    | false=>rw [hb] at h;exact List.mem_cons_of_mem _ (u3 h)
def Good (P : Program) (x : Nat × Spec) : Prop := (bV P x.1 x.2 ∧ ∃ fn, P.funcs[x.1]? = some fn ∧ fn.body.isSome ∧ fn.name ≠ "runtime.NumGoroutine") ∧ x.2.lC
theorem CL.cF (t:CL) {P:Program} {l:List (Nat×Spec)} (h:∀x∈l,Good P x):(t.env l).lC:=fun _ _ hs=>(h _ (u3 hs)).2
structure CL.Ok (t:CL) (P:Program):Prop where
 info:∀x∈t.code,∃i zv,P.info? x.1=some i∧i.size=aD x.2∧i.bytes≤1024∧i.zero=some zv∧zv.cells=(ef x.2).toArray
 tK:∀x∈t.code,dg (t.env []) P x.1 x.2
 wx:∀x∈t.wx,∃fs:Array Field,P.underlying x.1=some (.struct fs)∧x.2=fs.toList.map (fun f=>(f.offset,f.type))∧(∀ y∈x.2,(ax t.code y.2).isSome)∧(fs.toList.mapM (fun f=>(P.info? f.type).map fun i=>(f.offset,i.size))).isSome
 Yi:∀x∈t.code,ik x.2=true→x.1∈t.wx.map (·.1)
 eqs:∀x∈t.eqs,∀(us vs:Array Value) (e:Bool),mC x.2 us.toList vs.toList=some e→∀w,
  (Op.equal x.1 (.agg us) (.agg vs)).run P w = .ok e w∧(∀ op a b,(eqGuard op x.1 a b (.agg us) (.agg vs)).run P w = .ok () w)
 ord:P.follows .mixedOrders=true
theorem dg.env {t:CL} {l:List (Nat×Spec)} {P:Program} {T:Nat} {ty:Ty} (h:dg (t.env []) P T ty):dg (t.env l) P T ty:=by
 unfold dg at *
 cases ty<;>exact h
theorem CL.Ok.env {t:CL} {P:Program} (h:t.Ok P) {l:List (Nat×Spec)} (hl:∀x∈l,Good P x):(t.env l).Ok P:={
 info:=fun T ty hT=>h.info (T,ty) (eH hT)
 tK:=fun T ty hT=>(h.tK (T,ty) (eH hT)).env
 wx:=fun T f off ft hf=>by
  have hf:(ax t.wx T).bind (fun l=>l[f]?)=some (off,ft):=hf
  obtain ⟨L,hL,hf⟩:=Option.bind_eq_some_iff.1 hf
  obtain ⟨fs,h1,h2,h3,_⟩:=h.wx (T,L) (eH hL)
  have h2:L=fs.toList.map (fun f=>(f.offset,f.type)):=h2
  have hc:=h3 (off,ft) (List.mem_of_getElem? hf)
  obtain ⟨ty,hty⟩:=Option.isSome_iff_exists.1 hc
  rw [h2] at hf
  obtain ⟨fd,UK,he⟩:∃fd,fs.toList[f]? =some fd∧(fd.offset,fd.type)=(off,ft):=by simpa using hf
  cases he
  exact ⟨fs,fd,ty,h1,by simpa using UK,rfl,rfl,hty⟩
 Yi:=fun T fs hu hT=>by
  obtain ⟨ty,hty⟩:=Option.isSome_iff_exists.1 hT
  have hm:=eH (l:=t.code) hty
  have ze:=h.tK (T,ty) hm
  cases hs:ik ty with
  | false=>
   exfalso
   cases ty with
   | i k=>have h1:P.underlying T=some (.int k):=ze;rw [hu] at h1;cases h1
   | bool=>have h1:P.underlying T=some .bool:=ze;rw [hu] at h1;cases h1
   | str=>have h1:P.underlying T=some .string:=ze;rw [hu] at h1;cases h1
   | sl e=>obtain ⟨el,h1,_⟩:=(ze:∃el,P.underlying T=some (.slice el)∧(t.env []).code el=some e);rw [hu] at h1;cases h1
   | _=>cases hs
  | true=>
   have hk:=h.Yi (T,ty) hm hs
   obtain ⟨x,hx,he⟩:=List.mem_map.1 hk
   obtain ⟨fs',h1,_,_,h4⟩:=h.wx x hx
   have he:x.1=T:=he
   rw [he,hu] at h1
   cases h1
   exact Option.isSome_iff_exists.1 h4
 spec:=fun f s hs=>(hl (f,s) (u3 hs)).1
 eqs:=fun T ts hT=>h.eqs (T,ts) (eH hT)
 ord:=h.ord }
def JO:Value→Value→Bool
 | .int k n,.int k' n'=>decide (k=k')&&decide (n=n')
 | .bool a,.bool b=>decide (a=b)
 | .string a,.string b=>decide (a.data=b.data)
 | .slice none 0 0,.slice none 0 0=>true
 | _,_=>false
theorem JP {u v:Value} (h:JO u v=true):u=v:=by
 unfold JO at h
 split at h
 ·simp only [Bool.and_eq_true,decide_eq_true_eq] at h;rw [h.1,h.2]
 ·simp only [decide_eq_true_eq] at h;rw [h]
 ·rename_i a b
  simp only [decide_eq_true_eq] at h
  cases a;cases b;cases h;rfl
 ·rfl
 ·cases h
def zB:List Value→List Value→Bool
 | [],[]=>true
 | u::us,v::vs=>JO u v&&zB us vs
 | _,_=>false
theorem x7:∀ {us vs:List Value},zB us vs=true→us=vs
 | [],[],_=>rfl
 | [],_::_,h=>by cases h
 | _::_,[],h=>by cases h
 | u::us,v::vs,h=>by
  simp only [zB,Bool.and_eq_true] at h
  rw [JP h.1,x7 h.2]
def E' (P:Program) (x:Nat×Ty):Bool:=
  match P.info? x.1 with
 | some i=>Nat.beq i.size (aD x.2)&&(Nat.ble i.bytes 1024&&(match i.zero with | some zv=>zB zv.cells.toList (ef x.2) | none=>false))
 | none=>false
theorem Dx {P:Program} {l:List (Nat×Ty)} (h:l.all (E' P)=true):∀x∈l,∃i zv,P.info? x.1=some i∧i.size=aD x.2∧i.bytes≤1024∧i.zero=some zv∧zv.cells=(ef x.2).toArray:=by
 intro x hx
 have h:=List.all_eq_true.1 h x hx
 unfold E' at h
 split at h
 ·rename_i i hi
  simp only [Bool.and_eq_true] at h
  obtain ⟨h1,h2,h3⟩:=h
  split at h3
  ·rename_i zv hz
   exact ⟨i,zv,hi,gX h1,gw h2,hz,by have:=x7 h3;apply Array.ext';simpa using this⟩
  ·cases h3
 ·cases h
theorem u4 (i b:Nat):rY i b i b=true:=gb.2 (.inr ⟨rfl,Nat.le_refl _⟩)
end Go.Gm
namespace Go.Gm
open Go
variable {wl : World} {w w' : World} {Mf ROa : Nat → Prop}
theorem zC {Pr:Nat→Prop} {t:Ty} {x:El t} {v u:Value} (he:enc t x=[.v v]) (hs:ik t=false) (h:qd w Pr t x u):u=v:=by
 obtain ⟨us,hf,hr⟩:=h
 obtain ⟨e,_⟩:=hf.size hs
 subst e
 rw [he] at hr
 obtain ⟨z,hz,hc⟩:=hr.2 0 (.v v) rfl
 have hz:u=z:=by simpa using hz
 rw [hz];exact hc
theorem JQ {F:Nat→Prop} {t:Ty} {x:El t} {v:Value} (he:enc t x=[.v v]) (hs:ik t=false) (hf:cR v=true):mA w F t x v:=by
 refine ⟨#[v],by simp [Form,hs,hf],fun _ _=>False,fun _ _ h=>h.elim,fun _ _ _ h=>h.elim,by simp [he],fun j c hc=> ?_⟩
 rw [he] at hc
 cases j with
 | zero=>simp only [List.getElem?_cons_zero,Option.some.injEq] at hc;subst hc;exact ⟨v,rfl,rfl⟩
 | succ j=>simp at hc
theorem u5:∀ {ms:List Am} {ds:List Dt} {us:List Value},ms.all Am.reads=true→ms.length=us.length→ds.length=us.length→ec wl w ms ds us [] []
 | [],[],[],_,_,_=> .nil
 | m::ms,d::ds,u::us,h,h1,h2=>by
  simp only [List.all_cons,Bool.and_eq_true] at h
  refine .skip ?_ (u5 h.2 (by simpa using h1) (by simpa using h2))
  cases m<;>first | trivial | exact absurd h.1 (by simp [Am.reads])
 | [],_::_,[],_,_,h=>by simp at h
 | [],_,_::_,_,h,_=>by simp at h
 | _::_,_,[],_,h,_=>by simp at h
 | _::_,[],_::_,_,_,h=>by simp at h
theorem nB.one {s:Spec} (eG:s.own=true) (yZ:s.res=[false]) (hm:s.bO.all Am.reads=true) {ds:List Dt} {us:List Value} (h1:s.bO.length=us.length) (h2:ds.length=us.length) {t:Ty} {x:El t} {v:Value} (he:enc t x=[.v v])
 (hs:ik t=false) (hf:cR v=true):nB wl w w Mf ROa s ds us [.d t x] (.returned v):=by
 refine ⟨⟨[v],[fun _=>False],[],rfl,?_,?_,List.Pairwise.nil,fun B hB=>by simp at hB,fun _=>⟨by unfold bR;simp,fun G hG k hk=> ?_⟩,fun e=>absurd (eG.symm.trans e) (by simp),fun G hG B hB=>by simp at hB,fun G hG k hk=> ?_,fun B hB=>by simp at hB⟩,⟨rfl,rfl,rfl,Nat.le_refl _,fun _ _ _=>rfl⟩⟩
 ·rw [eG,yZ];exact .val (by simpa using JQ he hs hf) .nil
 ·rw [yZ];exact u5 hm h1 h2
 ·have:G=fun _=>False:=by simpa using hG
  subst this;exact hk.elim
 ·have:G=fun _=>False:=by simpa using hG
  subst this;exact hk.elim
end Go.Gm
namespace Go.Gm
open Go
theorem cu {x:Int} (h : -9223372036854775808≤x) (h':x<9223372036854775808):IntKind.wrap .i64 x=x:=by
 rw [IntKind.wrap_i64];omega
theorem kQ {x y:BA}:eC x y=true↔x=y:=by
 unfold eC
 constructor
 ·intro h
  have h:=(beq_iff_eq.1 h)
  rw [ByteArray.toList_eq,ByteArray.toList_eq] at h
  cases x;cases y
  simp at h
  rw [h]
 ·rintro rfl;simp
theorem u6 (x:BA):eC x x=true:=kQ.2 rfl
theorem idx {n j:Nat} (h:j<n) (hb:n≤9223372036854775807):decide ((j:Int)<(n:Int))=true∧decide ((0:Int)≤(j:Int))=true∧IntKind.wrap .i64 ((j:Int)+(1:Int))=((j+1:Nat):Int)∧Int.toNat (j:Int)=j:=
 ⟨by simp;omega,by simp,by rw [cu (by omega) (by omega)];omega,by simp⟩
theorem gG (n:Nat):decide ((n:Int)<(n:Int))=false:=by simp
def oY (p:Nat→Bool):Nat→Nat→Bool
 | _,0=>true
 | j,d+1=>p j&&oY p (j+1) d
theorem iG {R:Type} {F:Nat→Int→Option R} {n:Nat} {p:Nat→Bool} {good bad:Option R} (hs:∀m j,j<n→F (m+1) (j:Int)=cond (p j) (F m ((j+1:Nat):Int)) bad) (he:∀m,F (m+1) (n:Int)=good):
    ∀d j m,j+d=n→d<m→F m (j:Int)=cond (oY p j d) good bad:=by
 intro d
 induction d with
 | zero=>
  intro j m hj hm
  obtain ⟨m,rfl⟩:∃m',m=m'+1:=⟨m-1,by omega⟩
  have:j=n:=by omega
  subst this
  rw [he];rfl
 | succ d ih=>
  intro j m hj hm
  obtain ⟨m,rfl⟩:∃m',m=m'+1:=⟨m-1,by omega⟩
  rw [hs m j (by omega),ih (j+1) m (by omega) (by omega)]
  simp only [oY]
  cases p j<;>rfl
theorem nQ {p:Nat→Bool}:∀ {d j:Nat},oY p j d=true↔∀i,j≤i→i<j+d→p i=true
 | 0,j=>by simp only [oY,true_iff];intro i h1 h2;omega
 | d+1,j=>by
  simp only [oY,Bool.and_eq_true,nQ]
  constructor
  ·rintro ⟨h1,h2⟩ i h3 h4
   by_cases e:i=j
   ·subst e;exact h1
   ·exact h2 i (by omega) (by omega)
  ·intro h
   exact ⟨h j (Nat.le_refl _) (by omega),fun i h1 h2=>h i (by omega) (by omega)⟩
theorem aY {α:Type} {xs:List α} {j:Nat} {x:α} (h:xs[j]? =some x):j<xs.length:=by
 rcases Nat.lt_or_ge j xs.length with h' | h'
 ·exact h'
 ·simp [List.getElem?_eq_none h'] at h
theorem cL {α:Type} {xs:List α} {j:Nat} (h:j<xs.length):∃x,xs[j]? =some x∧xs.drop j=x::xs.drop (j+1):=
 ⟨xs[j],by simp [h],by simp⟩
open Classical in
noncomputable def pa {α:Type} (x y:α):Bool:=decide (x=y)
theorem qw {α:Type} {x y:α}:pa x y=true↔x=y:=by simp [pa]
theorem u7 {α:Type} (x:α):pa x x=true:=qw.2 rfl
theorem JR {α:Type} {x y:α} (h:x≠y):pa x y=false:=by simp [pa,h]
theorem Qp (x y:BA):pa x y=eC x y:=by rw [Bool.eq_iff_iff,kQ,qw]
theorem JS {α:Type} {xs:List α} {p:Nat→Bool} {q:α→Bool} (h:∀(j:Nat) x,xs[j]? =some x→p j=q x):oY p 0 xs.length=xs.all q:=by
 rw [Bool.eq_iff_iff,nQ,List.all_eq_true]
 constructor
 ·intro h1 x hx
  obtain ⟨j,hj⟩:=List.mem_iff_getElem?.1 hx
  rw [← h j x hj];exact h1 j (Nat.zero_le _) (by have:=aY hj;omega)
 ·intro h1 j _ hj
  obtain ⟨x,hx,_⟩:=cL (show j<xs.length by omega)
  rw [h j x hx];exact h1 x (List.mem_of_getElem? hx)
theorem Fa {α:Type} {xs ys:List α} (hl:xs.length=ys.length) {p:Nat→Bool} (h:∀(j:Nat) x y,xs[j]? =some x→ys[j]? =some y→p j=pa x y):oY p 0 xs.length=pa xs ys:=by
 rw [Bool.eq_iff_iff,nQ,qw]
 constructor
 ·intro h1
  apply List.ext_getElem?
  intro j
  rcases Nat.lt_or_ge j xs.length with hj | hj
  ·obtain ⟨x,hx,_⟩:=cL hj
   obtain ⟨y,hy,_⟩:=cL (show j<ys.length by omega)
   have:=h1 j (Nat.zero_le _) (by omega)
   rw [h j x y hx hy,qw] at this
   rw [hx,hy,this]
  ·simp [List.getElem?_eq_none hj,List.getElem?_eq_none (show ys.length≤j by omega)]
 ·rintro rfl j _ hj
  obtain ⟨x,hx,_⟩:=cL (show j<xs.length by omega)
  rw [h j x x hx hx];exact u7 x
def Qq:Nat:=9223372036854775807
def iH (s:BA):Bool:=Nat.ble s.size Qq
def VA {α:Type} (f:α→Bool) (xs:List α):Bool:=Nat.ble xs.length Qq&&xs.all f
theorem JT {m n:Nat} (h:m≠n):((m:Int) !=(n:Int))=true:=by rw [bne_iff_ne];omega
def dw {α:Type} (f:α→Nat) (xs:List α):Nat:=xs.length+(xs.map f).sum
theorem lF {α:Type} (f:α→Nat) (xs:List α):xs.length≤dw f xs:=Nat.le_add_right _ _
def VB:Cv→Ty
 | .v (.int k _)=> .i k
 | .v (.bool _)=> .bool
 | .v (.string _)=> .str
 | .l t _=> .sl t
 | _=> .bool
def sig (t:Ty):List Ty:=(enc t (zero t)).map VB
def CTy:Ty→Cv→Prop
 | .i k,c=>∃n,c = .v (.int k n)
 | .bool,c=>∃b,c = .v (.bool b)
 | .str,c=>∃s,c = .v (.string s)
 | .sl e,c=>∃xs,c = .l e xs
 | _,_=>False
def j5:List Ty→List Cv→Prop
 | [],[]=>True
 | a::l,c::cs=>CTy a c∧j5 l cs
 | _,_=>False
theorem j5.cons {a:Ty} {l:List Ty}:∀ {cs:List Cv},j5 (a::l) cs→∃c Gz,cs=c::Gz∧CTy a c∧j5 l Gz
 | c::cs,h=>⟨c,cs,rfl,h.1,h.2⟩
theorem j5.nil:∀ {cs:List Cv},j5 [] cs→cs=[]
 | [],_=>rfl
theorem j5.append:∀ {l m:List Ty} {cs ds:List Cv},j5 l cs→j5 m ds→j5 (l++m) (cs++ds)
 | [],_,[],_,_,h=>h
 | [],_,_::_,_,h,_=>h.elim
 | _::_,_,[],_,h,_=>h.elim
 | _::_,_,_::_,_,h,h'=>⟨h.1,j5.append h.2 h'⟩
theorem j5.len:∀ {l:List Ty} {cs:List Cv},j5 l cs→cs.length=l.length
 | [],[],_=>rfl
 | [],_::_,h=>h.elim
 | _::_,[],h=>h.elim
 | _::_,_::_,h=>by simp [j5.len h.2]
theorem Bp (x:ae):j5 (sig .node) (enc .node x):=⟨⟨_,rfl⟩,⟨_,rfl⟩,⟨_,rfl⟩,⟨_,rfl⟩,⟨_,rfl⟩,trivial⟩
theorem Ha {cs:List Cv} (h0:j5 (sig .node) cs):∃x:ae,enc .node x=cs:=by
 obtain ⟨_,_,rfl,⟨a0,rfl⟩,h1⟩:=j5.cons h0
 obtain ⟨_,_,rfl,⟨a1,rfl⟩,h2⟩:=j5.cons h1
 obtain ⟨_,_,rfl,⟨a2,rfl⟩,h3⟩:=j5.cons h2
 obtain ⟨_,_,rfl,⟨a3,rfl⟩,h4⟩:=j5.cons h3
 obtain ⟨_,_,rfl,⟨a4,rfl⟩,h5⟩:=j5.cons h4
 cases j5.nil h5
 exact ⟨⟨a0,a1,a2,a3,a4⟩,rfl⟩
theorem Bq (x:af):j5 (sig .aq) (enc .aq x):=⟨⟨_,rfl⟩,⟨_,rfl⟩,⟨_,rfl⟩,⟨_,rfl⟩,⟨_,rfl⟩,⟨_,rfl⟩,trivial⟩
theorem Hb {cs:List Cv} (h0:j5 (sig .aq) cs):∃x:af,enc .aq x=cs:=by
 obtain ⟨_,_,rfl,⟨a0,rfl⟩,h1⟩:=j5.cons h0
 obtain ⟨_,_,rfl,⟨a1,rfl⟩,h2⟩:=j5.cons h1
 obtain ⟨_,_,rfl,⟨a2,rfl⟩,h3⟩:=j5.cons h2
 obtain ⟨_,_,rfl,⟨a3,rfl⟩,h4⟩:=j5.cons h3
 obtain ⟨_,_,rfl,⟨a4,rfl⟩,h5⟩:=j5.cons h4
 obtain ⟨_,_,rfl,⟨a5,rfl⟩,h6⟩:=j5.cons h5
 cases j5.nil h6
 exact ⟨⟨a0,a1,a2,a3,a4,a5⟩,rfl⟩
theorem Dy (x:ai):j5 (sig .cur) (enc .cur x):=⟨⟨_,rfl⟩,⟨_,rfl⟩,⟨_,rfl⟩,trivial⟩
theorem JU {cs:List Cv} (h0:j5 (sig .cur) cs):∃x:ai,enc .cur x=cs:=by
 obtain ⟨_,_,rfl,⟨a0,rfl⟩,h1⟩:=j5.cons h0
 obtain ⟨_,_,rfl,⟨a1,rfl⟩,h2⟩:=j5.cons h1
 obtain ⟨_,_,rfl,⟨a2,rfl⟩,h3⟩:=j5.cons h2
 cases j5.nil h3
 exact ⟨⟨a0,a1,a2⟩,rfl⟩
theorem JV:∀(t:Ty) (x:El t),j5 (sig t) (enc t x)
 | .i _,_=>⟨⟨_,rfl⟩,trivial⟩
 | .bool,_=>⟨⟨_,rfl⟩,trivial⟩
 | .str,_=>⟨⟨_,rfl⟩,trivial⟩
 | .sl _,_=>⟨⟨_,rfl⟩,trivial⟩
 | .node,x=>Bp x
 | .aq,x=>Bq x
 | .cur,x=>Dy x
theorem full:∀(t:Ty) {cs:List Cv},j5 (sig t) cs→∃x:El t,enc t x=cs
 | .i k,_,h=>by obtain ⟨_,_,rfl,⟨a,rfl⟩,h2⟩:=j5.cons h;cases j5.nil h2;exact ⟨a,rfl⟩
 | .bool,_,h=>by obtain ⟨_,_,rfl,⟨a,rfl⟩,h2⟩:=j5.cons h;cases j5.nil h2;exact ⟨a,rfl⟩
 | .str,_,h=>by obtain ⟨_,_,rfl,⟨a,rfl⟩,h2⟩:=j5.cons h;cases j5.nil h2;exact ⟨a,rfl⟩
 | .sl e,_,h=>by obtain ⟨_,_,rfl,⟨a,rfl⟩,h2⟩:=j5.cons h;cases j5.nil h2;exact ⟨a,rfl⟩
 | .node,_,h=>Ha h
 | .aq,_,h=>Hb h
 | .cur,_,h=>JU h
inductive nf:Cv→Prop
 | int {k:IntKind} {n:Int} (h:(Lit.int k n).wf=true):nf (.v (.int k n))
 | bool {b:Bool}:nf (.v (.bool b))
 | str {s:BA} (h:s.size≤maxLen):nf (.v (.string s))
 | lst {t:Ty} {xs:List (El t)} (h:xs.length≤maxLen) (hx:∀x∈xs,∀c∈enc t x,nf c):nf (.l t xs)
def Br (code:List (Nat×Ty)):Nat→List (Nat×Nat)→Option (List Ty)
 | _,[]=>some []
 | o,(off,ft)::r=>(ax code ft).bind fun t=>cond (Nat.beq off o) ((Br code (o+aD t) r).bind fun l=>some (sig t++l)) none
def tk (t:CL):Bool:=t.code.all fun x=> !ik x.2||(match ax t.wx x.1 with | some L=>decide (Br t.code 0 L=some (sig x.2)) | none=>false)
variable {H : Type} {en : TypeId × Value → H} {P : Program} {w : World} {tb : CL}
theorem CL.Ok.cells (h:tb.Ok P) {T:Nat} {t:Ty} (hT:ax tb.code T=some t):P.cellsOf T=aD t:=by
 obtain ⟨i,zv,h1,h2,_⟩:=h.info (T,t) (eH hT)
 simp [Program.cellsOf,h1,h2]
def nw (w:World) (k:Nat):Prop:=k<w.heap.size
theorem iA.append {Pr:Nat→Prop}:∀ {cs ds:List Cv} {us vs:List Value},iA w Pr cs us→iA w Pr ds vs→iA w Pr (cs++ds) (us++vs)
 | [],_,[],_,_,h=>h
 | [],_,_::_,_,h,_=>h.elim
 | _::_,_,[],_,h,_=>h.elim
 | _::_,_,_::_,_,h,h'=>⟨h.1,iA.append h.2 h'⟩
theorem x8 {fuel:Nat} (CM:tb.Ok P) (IH:∀(T:Nat) (t:Ty) (cs:List Value) (y:DataW H×List MemPlace),ax tb.code T=some t→DataW.trod en P w 0 (fun _=>true) true fuel T cs=some y→
      ∃x:El t,iA w (nw w) (enc t x) cs∧∀c∈enc t x,nf c) (cs:List Value):
    ∀(fs:List Field) (o:Nat) (l:List Ty),Br tb.code o (fs.map fun f=>(f.offset,f.type))=some l→(∀ f∈fs,∃y,DataW.trod en P w 0 (fun _=>true) true fuel f.type ((cs.drop f.offset).take (P.cellsOf f.type))=some y)→
      cs.length=o+l.length→∃AI,j5 l AI∧iA w (nw w) AI (cs.drop o)∧∀c∈AI,nf c
 | [],o,l,ht,_,hl=>by
  simp only [List.map_nil,Br,Option.some.injEq] at ht
  subst ht
  refine ⟨[],trivial,?_,fun c h=>by cases h⟩
  rw [List.drop_of_length_le (by simpa using Nat.le_of_eq hl)]
  trivial
 | f::fs,o,l,ht,hm,hl=>by
  simp only [List.map_cons,Br] at ht
  obtain ⟨t,hft,ht⟩:=aQ ht
  obtain ⟨ho,ht⟩:=a8 ht
  obtain ⟨l',ht3,E6⟩:=aQ ht
  have ho:=gX ho
  simp only [Option.some.injEq] at E6
  subst E6
  obtain ⟨y,hy⟩:=hm f (by simp)
  rw [CM.cells hft,ho] at hy
  obtain ⟨x,Ik,o7⟩:=IH f.type t _ y hft hy
  have ff:(sig t).length=aD t:=by
   have:=(JV t x).len
   rw [← this,br]
  obtain ⟨AI,h1,h2,h3⟩:=x8 CM IH cs fs (o+aD t) l' ht3 (fun f h=>hm f (by simp [h])) (by simp at hl;omega)
  refine ⟨enc t x++AI,(JV t x).append h1,?_,fun c hc=>(List.mem_append.1 hc).elim (o7 c) (h3 c)⟩
  have e:cs.drop o=(cs.drop o).take (aD t)++cs.drop (o+aD t):=by
   rw [← List.drop_drop,List.take_append_drop]
  rw [e]
  exact Ik.append h2
end Go.Gm
namespace Go.Gm
open Go
variable {H : Type} {en : TypeId × Value → H} {P : Program} {w : World} {tb : CL}
open Classical in
theorem fK.mk {Pr:Nat→Prop} {t:Ty} {xs:List (El t)} {b o cap:Nat} {cs:Array Value} {el:Nat} {fz:Nat×Nat} (gx:xs.length≤cap) (hP:Pr b) (hb:w.heap[b]? =some (.cells cs el fz))
 (hr:∀(i:Nat) x (j:Nat) c,xs[i]? =some x→(enc t x)[j]? =some c→∃u,cs[o+i*aD t+j]? =some u∧pF w Pr c u):fK w Pr t xs (.slice (some ⟨b,o,none⟩) xs.length cap):=by
  let Good:Nat→Nat→(Path→Value)→Prop:=fun i j f=>∀x (t':Ty) (ys:List (El t')),xs[i]? =some x→(enc t x)[j]? =some (.l t' ys)→cs[o+i*aD t+j]? =some (f [])∧dR w Pr t' ys f
  have TP:∀i j,∃f,Good i j f:=by
    intro i j
    by_cases h:∃(x:El t) (t':Ty) (ys:List (El t')),xs[i]? =some x∧(enc t x)[j]? =some (.l t' ys)
    · obtain ⟨x,t',ys,hx,hc⟩:=h
      obtain ⟨u,hu,Qr⟩:=hr i x j _ hx hc
      obtain ⟨av,h0,h1⟩:=Qr
      refine ⟨av,fun x2 t2 ys2 o7 CY=> ?_⟩
      rw [hx] at o7;cases o7
      rw [hc] at CY;cases CY
      exact ⟨by rw [h0];exact hu,h1⟩
    · exact ⟨fun _=> .nilFunc,fun x t' ys hx hc=>(h ⟨x,t',ys,hx,hc⟩).elim⟩
  let eW:Nat→Nat→Path→Value:=fun i j=>Classical.choose (TP i j)
  have Zq:∀i j,Good i j (eW i j):=fun i j=>Classical.choose_spec (TP i j)
  let av:Path→Value
    | []=> .slice (some ⟨b,o,none⟩) xs.length cap
    | (i,j)::q=>eW i j q
  refine ⟨av,rfl,fun p s hs=> ?_⟩
  cases p with
  | nil=>
    simp only [aR,Option.some.injEq] at hs
    subst hs
    refine ⟨_,cap,rfl,gx,fun _=>⟨b,o,cs,el,fz,rfl,hP,hb,fun i x j c hx hc=> ?_⟩⟩
    obtain ⟨u,hu,Qr⟩:=hr i x j c hx hc
    refine ⟨u,hu,?_⟩
    cases c with
    | v y=>exact Qr
    | l t' ys=>
      have:=(Zq i j x t' ys hx hc).1
      rw [hu] at this
      show u=eW i j []
      exact (Option.some.inj this)
  | cons ij q=>
    obtain ⟨i,j⟩:=ij
    simp only [aR] at hs
    split at hs
    · rename_i x hx
      split at hs
      · rename_i t' ys hc
        exact (Zq i j x t' ys hx hc).2 q s hs
      · cases hs
    · cases hs
theorem fK.nil {Pr:Nat→Prop} (t:Ty) (a:Option Addr) (cap:Nat):fK w Pr t [] (.slice a 0 cap):=by
 refine ⟨fun _=> .slice a 0 cap,rfl,fun p s hs=> ?_⟩
 cases p with
 | nil=>simp only [aR,Option.some.injEq] at hs;subst hs;exact ⟨a,cap,rfl,Nat.zero_le _,fun h=>(h rfl).elim⟩
 | cons ij q=>simp [aR] at hs
theorem u9 {α:Type} {xs:List α} {j:Nat} {x:α} (h:xs[j]? =some x):j<xs.length:=by
 rcases Nat.lt_or_ge j xs.length with h' | h'
 ·exact h'
 ·simp [List.getElem?_eq_none h'] at h
theorem JW (CM:tb.Ok P) (hT:tk tb=true):∀(fuel:Nat) (T:Nat) (t:Ty) (cs:List Value) (y:DataW H×List MemPlace),ax tb.code T=some t→DataW.trod en P w 0 (fun _=>true) true fuel T cs=some y→
    ∃x:El t,iA w (nw w) (enc t x) cs∧∀c∈enc t x,nf c:=by
  intro fuel
  induction fuel with
  | zero=>intro T t cs y _ h;simp [DataW.trod] at h
  | succ fuel IH=>
    intro T t cs y hc h
    have hu:=CM.tK (T,t) (eH hc)
    have str:ik t=true→∃x:El t,iA w (nw w) (enc t x) cs∧∀c∈enc t x,nf c:=by
      intro hs
      have h1:=List.all_eq_true.1 hT (T,t) (eH hc)
      simp only [hs,Bool.not_true,Bool.false_or] at h1
      split at h1
      · rename_i L hL
        have h1:=of_decide_eq_true h1
        obtain ⟨fs,hf1,hf2,_,_⟩:=CM.wx (T,L) (eH hL)
        have hf2:L=fs.toList.map (fun f=>(f.offset,f.type)):=hf2
        obtain ⟨xs,n,hn,_,hlen,wy,eO⟩:=DataW.trod_struct hf1 h
        have hn:fuel=n:=by omega
        subst hn
        rw [CM.cells hc] at hlen
        have agT:(sig t).length=aD t:=by simp [sig,br]
        obtain ⟨AI,h2,h3,h4⟩:=x8 CM IH cs fs.toList 0 (sig t) (by rw [← hf2];exact h1) (fun f hf=>by
          obtain ⟨i,hi⟩:=List.mem_iff_getElem?.1 hf
          have mZ:fs[i]? =some f:=by simpa using hi
          have ct:i<xs.length:=by
            rw [wy]
            rcases Nat.lt_or_ge i fs.size with h' | h'
            · exact h'
            · simp [Array.getElem?_eq_none h'] at mZ
          exact ⟨xs[i],by rw [eO i f mZ];simp [ct]⟩) (by omega)
        obtain ⟨x,hx⟩:=full t h2
        subst hx
        exact ⟨x,by simpa using h3,h4⟩
      · cases h1
    cases t with
    | i k=>
      have hu:P.underlying T=some (.int k):=hu
      obtain ⟨n,rfl,_,hw⟩:=DataW.trod_int hu h
      exact ⟨n,⟨rfl,trivial⟩,fun c hc=>by (have:c = .v (.int k n):=by simpa [enc] using hc);subst this;exact .int hw⟩
    | bool=>
      have hu:P.underlying T=some .bool:=hu
      obtain ⟨b,rfl,_⟩:=DataW.trod_bool hu h
      exact ⟨b,⟨rfl,trivial⟩,fun c hc=>by (have:c = .v (.bool b):=by simpa [enc] using hc);subst this;exact .bool⟩
    | str=>
      have hu:P.underlying T=some .string:=hu
      obtain ⟨s,rfl,_,hs⟩:=DataW.trod_string hu h
      exact ⟨s,⟨rfl,trivial⟩,fun c hc=>by (have:c = .v (.string s):=by simpa [enc] using hc);subst this;exact .str hs⟩
    | sl e=>
      obtain ⟨el,hu,q7⟩:=(hu:∃el,P.underlying T=some (.slice el)∧(tb.env []).code el=some e)
      have q7:ax tb.code el=some e:=q7
      rcases DataW.trod_slice hu h with ⟨rfl,_⟩ | ⟨a,len,cap,elems,rest,n,hn,rfl,_,_,hl,hm,hlen,eO,_,_⟩
      · exact ⟨[],⟨fK.nil e none 0,trivial⟩,fun c hc=>by
          have:c = .l e []:=by simpa [enc] using hc
          subst this;exact .lst (by simp) (fun x hx=>by cases hx)⟩
      · have hn:fuel=n:=by omega
        subst hn
        rw [CM.cells q7] at eO
        have P0:∀i,i<len→∃(x:El e) (us:List Value),w.cells? 0 (a.add (i*aD e)) (aD e)=some us∧iA w (nw w) (enc e x) us∧∀c∈enc e x,nf c:=by
          intro i hi
          have h1:=eO i hi
          have:elems[i]? =some (elems[i]'(by omega)):=by simp
          rw [this] at h1
          obtain ⟨us,r8,hy⟩:=Option.bind_eq_some_iff.1 h1
          obtain ⟨x,Ik,o7⟩:=IH el e us _ q7 hy
          exact ⟨x,us,r8,Ik,o7⟩
        have hch:∃f:Nat→El e,∀i,i<len→∃us:List Value,w.cells? 0 (a.add (i*aD e)) (aD e)=some us∧iA w (nw w) (enc e (f i)) us∧∀c∈enc e (f i),nf c:=
          ⟨fun i=>if h:i<len then Classical.choose (P0 i h) else zero e,fun i hi=>by
            simp only [dif_pos hi];exact Classical.choose_spec (P0 i hi)⟩
        obtain ⟨f,hf⟩:=hch
        let xs:List (El e):=(List.range len).map f
        have hxl:xs.length=len:=by simp [xs]
        have XZ:∀(i:Nat) x,xs[i]? =some x→i<len∧x=f i:=fun i x hx=>by
          have hi:i<len:=by have:=u9 hx;omega
          refine ⟨hi,?_⟩
          simp only [xs,List.getElem?_map,List.getElem?_range hi,Option.map_some,Option.some.injEq] at hx
          exact hx.symm
        refine ⟨xs,⟨?_,trivial⟩,fun c hc=> ?_⟩
        · show fK w (nw w) e xs (.slice (some a) len cap)
          by_cases h0:len=0
          · have:xs=[]:=List.length_eq_zero_iff.1 (by omega)
            rw [this,h0];exact fK.nil e _ _
          · have he:0<aD e:=gK e
            have lX:∀i j,i<len→j<aD e→∀us:List Value,w.cells? 0 (a.add (i*aD e)) (aD e)=some us→w.cell? ((a.add (i*aD e)).add j)=us[j]? :=fun i j _ hj us r8=>(World.cells?_some r8).2.2 j hj
            obtain ⟨C',Zr,xR,_⟩:=hf 0 (by omega)
            have CU:∃c,w.cell? a=some c:=by
              have h1:=lX 0 0 (by omega) he C' Zr
              have hl0:=(World.cells?_some Zr).2.1
              have:C'[0]? =some (C'[0]'(by omega)):=by simp
              rw [this] at h1
              exact ⟨_,by simpa [Addr.add] using h1⟩
            obtain ⟨c0,Tk⟩:=CU
            obtain ⟨b,o,sp⟩:=a
            have hb:∃cs p3 fz,w.heap[b]? =some (.cells cs p3 fz)∧sp=none:=by
              unfold World.cell? at Tk
              simp only at Tk
              split at Tk
              · rename_i cs p3 fz Bt
                split at Tk
                · cases Tk
                · rename_i IB
                  exact ⟨cs,p3,fz,Bt,by cases sp<;>simp_all⟩
              · cases Tk
            obtain ⟨cs,p3,fz,Bt,rfl⟩:=hb
            have PQ:b<w.heap.size:=(Array.getElem?_eq_some_iff.1 Bt).1
            have:=fK.mk (w:=w) (Pr:=nw w) (t:=e) (xs:=xs) (b:=b) (o:=o) (cap:=cap) (cs:=cs) (el:=p3) (fz:=fz) (by omega) PQ Bt (fun i x j c hx Po=>by
              obtain ⟨hi,rfl⟩:=XZ i x hx
              obtain ⟨us,r8,fy,_⟩:=hf i hi
              obtain ⟨z,hz,Qr⟩:=fy.get j c Po
              have hj:j<aD e:=by
                have:=u9 Po
                rw [br] at this;exact this
              have h1:=lX i j hi hj us r8
              rw [hz] at h1
              refine ⟨z,?_,Qr⟩
              have ha:((⟨b,o,none⟩:Addr).add (i*aD e)).add j=⟨b,o+i*aD e+j,none⟩:=by rw [jk,jk]
              rw [ha,yU Bt] at h1
              exact h1)
            rw [hxl] at this
            exact this
        · have:c = .l e xs:=by simpa [enc] using hc
          subst this
          refine .lst (by omega) (fun x hx c hc=> ?_)
          obtain ⟨i,hi⟩:=List.mem_iff_getElem?.1 hx
          obtain ⟨ct,rfl⟩:=XZ i x hi
          obtain ⟨_,_,_,h3⟩:=hf i ct
          exact h3 c hc
    | _=>exact str rfl
end Go.Gm
namespace Go.Gm
open Go Go.ChangeShapes Go.WideShapes Go.RowKit
variable {H : Type} {en : TypeId × Value → H} {P : Program} {w : World} {tb : CL}
inductive JX:List Ty→List Dt→Prop
 | nil:JX [] []
 | cons {t:Ty} {ts:List Ty} {x:El t} {ds:List Dt} (hx:∀c∈enc t x,nf c) (h:JX ts ds):JX (t::ts) (.d t x::ds)
def JY (tb:CL):List Nat→List Ty→Prop
 | [],[]=>True
 | T::Ts,t::ts=>ax tb.code T=some t∧JY tb Ts ts
 | _,_=>False
theorem Qs (CM:tb.Ok P) {T:Nat} {t:Ty} (hc:ax tb.code T=some t) {base:Nat} {v:Value} (hv:Value.okWide P w .any base T v) {us:List Value} (r8:v.cells.toList=us) {x:El t} (hr:iA w (nw w) (enc t x) us):qd w (nw w) t x v:=by
 have fy:AG w (nw w) (enc t x) us.toArray:=⟨by simpa using hr.len,fun j c hj=>by simpa using hr.get j c hj⟩
 have hu:=CM.tK (T,t) (eH hc)
 refine ⟨us.toArray,?_,fy⟩
 have ea:v.cells=us.toArray:=by rw [← r8]
 have str:ik t=true→(∃ fs,P.underlying T=some (.struct fs))→Form t v us.toArray:=by
  intro hs ⟨fs,YC⟩
  simp only [Value.okWide,YC] at hv
  obtain ⟨cs,rfl,_,_⟩:=hv
  simp only [Form,hs,if_true]
  rw [← ea];rfl
 have one:ik t=false→(∀ c∈enc t x,∀z,pF w (nw w) c z→cR z=true)→us.length=1→(∀ cs,v≠ .agg cs)→Form t v us.toArray:=by
  intro hs oV hl AO
  have hv1:v.cells = #[v]:=by cases v<;>first | rfl | exact absurd rfl (AO _)
  rw [hv1] at ea
  simp only [Form,hs,Bool.false_eq_true,if_false]
  refine ⟨ea.symm,?_⟩
  cases us with
  | nil=>simp at hl
  | cons u us=>
   have hlen:=hr.len
   obtain ⟨c,lR⟩:∃c,(enc t x)[0]? =some c:=by
    cases he:enc t x with
    | nil=>rw [he] at hlen;simp at hlen
    | cons c cs=>exact ⟨c,rfl⟩
   obtain ⟨z,hz,Qr⟩:=hr.get 0 c lR
   simp only [List.getElem?_cons_zero,Option.some.injEq] at hz
   subst hz
   have:v=u:=by
    have:=congrArg (fun a=>a[0]?) ea
    simpa using this
   rw [this]
   exact oV c (List.mem_of_getElem? lR) u Qr
 have hlen:=hr.len
 cases t with
 | i k=>
  have hu:P.underlying T=some (.int k):=hu
  refine one rfl (fun c hc z hz=> ?_) (by simpa [enc] using hlen) (fun cs e=> ?_)
  ·have:c = .v (.int k x):=by simpa [enc] using hc
   subst this;cases hz;rfl
  ·subst e;simp [Value.okWide,hu,Cell.okWide,Cell.ok] at hv
 | bool=>
  have hu:P.underlying T=some .bool:=hu
  refine one rfl (fun c hc z hz=> ?_) (by simpa [enc] using hlen) (fun cs e=> ?_)
  ·have:c = .v (.bool x):=by simpa [enc] using hc
   subst this;cases hz;rfl
  ·subst e;simp [Value.okWide,hu,Cell.okWide,Cell.ok] at hv
 | str=>
  have hu:P.underlying T=some .string:=hu
  refine one rfl (fun c hc z hz=> ?_) (by simpa [enc] using hlen) (fun cs e=> ?_)
  ·have:c = .v (.string x):=by simpa [enc] using hc
   subst this;cases hz;rfl
  ·subst e;simp [Value.okWide,hu,Cell.okWide,Cell.ok] at hv
 | sl e=>
  obtain ⟨el,hu,_⟩:=(hu:∃el,P.underlying T=some (.slice el)∧(tb.env []).code el=some e)
  refine one rfl (fun c hc z hz=> ?_) (by simpa [enc] using hlen) (fun cs e'=> ?_)
  ·have:c = .l e x:=by simpa [enc] using hc
   subst this
   obtain ⟨av,h0,h1⟩:=hz
   obtain ⟨a,cap,e1,_⟩:=h1 [] _ rfl
   rw [← h0,e1];rfl
  ·subst e';simp [Value.okWide,hu,Cell.okWide,Cell.ok] at hv
 | _=>exact str rfl hu
theorem x9 {wl:World} (CM:tb.Ok P) (hT:tk tb=true) {base:Nat}:∀ {Ts:List Nat} {ts:List Ty} {vs:List Value} {dd:List (DataW H)} {ps:List MemPlace},JY tb Ts ts→(∀ (j:Nat) T v,Ts[j]? =some T→vs[j]? =some v→Value.okWide P w .any base T v)→
    DataW.TrodAll en P w 0 (fun _=>true) true Ts vs dd ps→∃ds:List Dt,cS wl w (nw w) (ts.map fun _=> .ro) ds vs (ts.map fun _ _=>False)∧JX ts ds
 | [],[],vs,dd,ps,_,_,h=>by
  obtain ⟨rfl,_,_⟩:=trodAll_nil h
  exact ⟨[],.nil,.nil⟩
 | [],_::_,_,_,_,h,_,_=>h.elim
 | _::_,[],_,_,_,h,_,_=>h.elim
 | T::Ts,t::ts,vs,dd,ps,hc,hv,h=>by
  obtain ⟨v,vs',d,ds',p,q,rfl,rfl,rfl,h1,h2⟩:=trodAll_cons h
  obtain ⟨fuel,hf⟩:=h1
  obtain ⟨x,Ik,o7⟩:=JW CM hT fuel T t _ _ hc.1 hf
  obtain ⟨ds,h3,h4⟩:=x9 CM hT hc.2 (fun j T' v' hj CQ=>hv (j+1) T' v' (by simpa using hj) (by simpa using CQ)) h2
  exact ⟨.d t x::ds,cS.cons (m:= .ro) (F:=fun _=>False) (show tF wl w (nw w) .ro (.d t x) v _ from Qs CM hc.1 (hv 0 T v rfl rfl) rfl Ik) h3,.cons o7 h4⟩
theorem pb (hl:laidOutB P=true) {W W':World} (hb:Below W.heap.size W W'):∀ {Ts:List Nat} {vs:List Value} {dd:List (DataW H)} {ps:List MemPlace},(∀ T∈Ts,P.readableRec T=true∧T<P.types.size)→
    DataW.TrodAll en P W 0 (fun _=>true) true Ts vs dd ps→(∀ x∈ps,x.block<W.heap.size)→DataW.TrodAll en P W' 0 (fun b=>decide (b<W.heap.size)) true Ts vs dd ps
 | [],vs,dd,ps,_,h,_=>by
  obtain ⟨rfl,rfl,rfl⟩:=trodAll_nil h
  exact trodAll_mk0
 | T::Ts,vs,dd,ps,hr,h,ct=>by
  obtain ⟨v,vs',d,ds',p,q,rfl,rfl,rfl,h1,h2⟩:=trodAll_cons h
  exact ⟨p,q,Below.trod hl (hr T (by simp)).1 (hr T (by simp)).2 h1 hb (fun x hx=>ct x (by simp [hx])),pb hl hb (fun T' Ih=>hr T' (by simp [Ih])) h2 (fun x hx=>ct x (by simp [hx])),rfl⟩
theorem cS.kept {w:World}:∀ {ts:List Ty} {ds:List Dt} {us:List Value} {Fs:List (Nat→Prop)},cS w w (nw w) (ts.map fun _=> .ro) ds us Fs→cS w w (nw w) (ts.map fun _=> .kp) ds us Fs
 | [],_,_,_,h=>by cases h;exact .nil
 | t::ts,_,_,_,h=>by
  cases h with
  | cons h hs=>
   rename_i d ds u us F Fs
   refine cS.cons (m:= .kp) ?_ (cS.kept hs)
   cases d with
   | fH _ _=>exact h
   | d t x=>
    obtain ⟨us,hf,hr⟩:=h
    refine ⟨us,hf,hr.1,fun j c hj=> ?_⟩
    obtain ⟨z,hz,hc⟩:=hr.2 j c hj
    refine ⟨z,hz,?_⟩
    cases c with
    | v x=>exact hc
    | l t xs=>exact fK.mono (fun _ _=>trivial) hc
theorem zD (CM:tb.Ok P) (hT:tk tb=true) (hl:laidOutB P=true) {f:Nat} {fn:Func} {Ts:List Nat} {ts:List Ty} (hp:fn.params.toList=Ts) (hc:JY tb Ts ts) {q:Qt} {m:Am} (hm:m = .ro∨m = .kp)
 (hs:bV P f (Spec.of (ts.map fun _=>m) [false] true q)) (hq:∀ds,JX ts ds→q ds=some (true,[.d .bool true])) {Tb:Nat} (yZ:fn.resultTypes = #[Tb]) (hTb:P.underlying Tb=some .bool)
    (Qr:Ts.all (fun T=>P.readableRec T&&decide (T<P.types.size))=true) {s:ChangeSpec} (TQ:s.vars=[]) (hfn:∀ds:List (DataW H),ds.length=Ts.length→s.fn H ds={ results:=[.lit (.bool true)],args:=ds })
    {apart:Bool} (W:World) (base:Nat) (args:Array Value) (dd gs:List (DataW H)) (before:List MemPlace)
 (VC:∀(j:Nat) t v,fn.params[j]? =some t→args[j]? =some v→Value.okWide P W .any base t v) (hW:DataW.Whole en P fn.params.toList s.vars apart W args.toList dd gs before) (TO:W.ShapedOpen P):
    Calls P f args W fun e W'=>∃v,e = .returned v∧s.post en P fn apart true false false W args v W':=by
 have hW0:=hW
 obtain ⟨p,q',hA,hV,IW,w3,GB⟩:=hW
 rw [TQ] at hV
 obtain ⟨EI,YE⟩:=trodVars_none hV
 subst EI YE
 rw [hp] at hA
 obtain ⟨ds,gD,hds⟩:=x9 CM hT (base:=base) hc (fun j T v hj CQ=>VC j T v (by
  have:fn.params.toList[j]? =some T:=by rw [hp];exact hj
  simpa using this) (by simpa using CQ)) hA
 replace gD:cS W W (nw W) (ts.map fun _=>m) ds args.toList (ts.map fun _ _=>False):=by
  rcases hm with rfl | rfl
  ·exact gD
  ·exact gD.kept
 have hap:bR (ts.map fun _ _=>False:List (Nat→Prop)):=by
  unfold bR
  rw [List.pairwise_map]
  exact List.pairwise_iff_getElem.2 fun _ _ _ _ _ k h=>h.elim
 have AS:=hs (R:=List Dt) ds some [.d .bool true] (by
  show (match q ds with | some (g,outs)=>cond g (some outs) none | none=>none)=some [.d .bool true]
  rw [hq ds hds];rfl) W W args.toList (fun _=>False) (nw W) _ TO (fun b o hb=>⟨Array.getElem?_eq_some_iff.1 hb |>.1,hb⟩) gD hap (fun F hF k hk=>by
   obtain ⟨_,_,rfl⟩:=List.mem_map.1 hF;exact hk) (fun k _ h=>h) (fun k hk=>hk) (fun k hk=>hk.elim)
 have iV:args.toList.toArray=args:=by simp
 replace AS:Calls P f args.toList.toArray W _:=AS
 rw [iV] at AS
 refine AS.mono ?_
 rintro e W' ⟨outs,ho,TR⟩
 have ho:outs=[.d .bool true]:=Option.some.inj ho
 subst ho
 obtain ⟨rs,Gs,Bs,he,A4,_⟩:=TR.out
 have hv:e = .returned (.bool true):=by
  have A4:iU W W' true [false] [.d .bool true] rs Gs:=A4
  cases A4 with
  | val h fv=>
   rename_i u us F Fs
   cases fv
   simp only [if_true] at h
   obtain ⟨us,eA,fy⟩:=h
   obtain ⟨e1,_⟩:=eA.size rfl
   obtain ⟨XR,_,_,_,hr⟩:=fy
   obtain ⟨z,hz,p4⟩:=hr 0 (.v (.bool true)) rfl
   subst e1
   have p4:z = .bool true:=p4
   subst p4
   have hz:=(Option.some.inj hz)
   rw [he]
   show Ending.returned (tG [_])=_
   rw [show tG [_]=_ from rfl]
   exact congrArg Ending.returned hz
 have hB:Below W.heap.size W W':=⟨TR.kept.os,TR.kept.tape,TR.kept.output,TR.kept.same.1,fun k hk=>TR.kept.same.2 k hk (fun h=>h)⟩
 refine ⟨_,hv,?_⟩
 have hlen:dd.length=Ts.length:=(trodAll_length hA).2
 have VD:=hfn (dd++[]) (by simpa using hlen)
 refine ⟨dd,[],before,[],p,[],hW0,?_,?_,?_,hB.frame _,fun h=>by cases h⟩
 ·rw [VD,yZ]
  exact trodAll_mk1 ⟨1,by simp [DataW.trod,Value.cells,hTb]⟩
 ·rw [VD,hp]
  simp only [List.append_nil]
  exact pb hl hB (fun T Ih=>by simpa using List.all_eq_true.1 Qr T Ih) hA (fun x hx=>hW0.lt x (by rw [IW];simp [hx]))
 ·rw [TQ,VD]
  exact rfl
end Go.Gm
namespace Go.Gm
open Go
def gZ (x lo hi:Int):Bool:=decide (x≥lo)&&decide (x≤hi)
def ko (s:BA) (j:Nat):Int:=(((ByteArray.data s).getD j 0).toNat:Int)
theorem VE {n j:Nat} (h:j<n) (h0:0<j) (hb:n≤9223372036854775807):IntKind.wrap .i64 ((j:Int)-(1:Int))=((j-1:Nat):Int):=by
 rw [cu (by omega) (by omega)];omega
theorem va {xs:List BA} (h:xs.all iH=true) {j:Nat} (hj:j<xs.length):iH (ar (t:= .str) xs j)=true:=by
 obtain ⟨x,hx,_⟩:=cL hj
 rw [bz (t:= .str) hx];exact List.all_eq_true.1 h x (List.mem_of_getElem? hx)
def gL (n:Int):Bool:=decide (-9223372036854775808≤n)&&decide (n≤9223372036854775807)
theorem kR {n:Int}:gL n=true↔ -9223372036854775808≤n∧n≤9223372036854775807:=by simp [gL]
def c8 (s:BA):Bool:=Nat.ble s.size 1048576
def gh {α:Type} (f:α→Bool) (xs:List α):Bool:=Nat.ble xs.length 1048576&&xs.all f
theorem kq {s:BA} (h:s.size≤1048576):c8 s=true:=Nat.ble_eq_true_of_le h
theorem rC {α:Type} (g:α→Nat):∀ {xs:List α} {x:α},x∈xs→g x≤(xs.map g).sum
 | y::ys,x,h=>by
  simp only [List.map_cons,List.sum_cons]
  rcases List.mem_cons.1 h with rfl | h
  ·exact Nat.le_add_right _ _
  ·exact Nat.le_trans (rC g h) (Nat.le_add_left _ _)
theorem Bu {s:BA} (h:c8 s=true):iH s=true:=Nat.ble_eq_true_of_le (Nat.le_trans (gw h) (by decide))
theorem VF {α:Type} {f g:α→Bool} {xs:List α} (h:gh f xs=true) (hf:∀x,f x=true→g x=true):VA g xs=true:=by
 simp only [gh,Bool.and_eq_true] at h
 unfold VA
 rw [Nat.ble_eq_true_of_le (Nat.le_trans (gw h.1) (by decide:1048576≤Qq)),Bool.true_and,List.all_eq_true]
 exact fun x hx=>hf x (List.all_eq_true.1 h.2 x hx)
theorem bp {α:Type} {f:α→Bool} {xs:List α} (h:gh f xs=true):xs.length≤1048576:=by
 simp only [gh,Bool.and_eq_true] at h;exact gw h.1
theorem kS {α:Type} {f:α→Bool} {xs:List α} (h:gh f xs=true):xs.all f=true:=by
 simp only [gh,Bool.and_eq_true] at h;exact h.2
def same {α:Type} (x:α):α:=x
def Av {α:Type} (f:α→Bool) (x y:α):Bool:=f x&&f y
theorem vd {t:Ty} {f:El t→Bool} {xs:List (El t)} (h:gh f xs=true) {j:Nat} (hj:j<xs.length):f (ar xs j)=true:=by
 obtain ⟨x,hx,_⟩:=cL hj
 rw [bz hx];exact List.all_eq_true.1 (kS h) x (List.mem_of_getElem? hx)
def cC (p:Nat→Bool):Nat→Nat→Option Nat
 | _,0=>none
 | j,d+1=>cond (p j) (some j) (cC p (j+1) d)
theorem gi {R:Type} {F:Nat→Int→Option R} {n:Nat} {p:Nat→Bool} {hit:Int→Option R} {miss:Option R} (hs:∀m j,j<n→F (m+1) (j:Int)=cond (p j) (hit (j:Int)) (F m ((j+1:Nat):Int)))
 (he:∀m,F (m+1) (n:Int)=miss):∀d j m,j+d=n→d<m→F m (j:Int)=(cC p j d).elim miss (fun i=>hit (i:Int)):=by
 intro d
 induction d with
 | zero=>
  intro j m hj hm
  obtain ⟨m,rfl⟩:∃m',m=m'+1:=⟨m-1,by omega⟩
  have:j=n:=by omega
  subst this
  rw [he];rfl
 | succ d ih=>
  intro j m hj hm
  obtain ⟨m,rfl⟩:∃m',m=m'+1:=⟨m-1,by omega⟩
  rw [hs m j (by omega),ih (j+1) m (by omega) (by omega)]
  simp only [cC]
  cases p j<;>rfl
theorem nR {p:Nat→Bool}:∀ {d j i:Nat},cC p j d=some i→j≤i∧i<j+d∧p i=true∧∀k,j≤k→k<i→p k=false
 | 0,_,_,h=>by cases h
 | d+1,j,i,h=>by
  simp only [cC] at h
  cases hp:p j with
  | true=>rw [hp] at h;cases h;exact ⟨Nat.le_refl _,by omega,hp,fun k h1 h2=>by omega⟩
  | false=>
   rw [hp] at h
   obtain ⟨h1,h2,h3,h4⟩:=nR h
   refine ⟨by omega,by omega,h3,fun k hk pH=> ?_⟩
   by_cases e:k=j
   ·subst e;exact hp
   ·exact h4 k (by omega) pH
theorem kT {p:Nat→Bool}:∀ {d j:Nat},cC p j d=none→∀k,j≤k→k<j+d→p k=false
 | 0,_,_,k,h1,h2=>by omega
 | d+1,j,h,k,h1,h2=>by
  simp only [cC] at h
  cases hp:p j with
  | true=>rw [hp] at h;cases h
  | false=>
   rw [hp] at h
   by_cases e:k=j
   ·subst e;exact hp
   ·exact kT h k (by omega) (by omega)
def zE (o:Option Nat):Int:=o.elim (-1) fun i=>(i:Int)
end Go.Gm
namespace Go.Gm
open Go
variable {wl : World} {w w' : World} {Mf ROa : Nat → Prop}
end Go.Gm
namespace Go.Gm
open Go
abbrev Q:=Qt
def nS (μ:List Dt→Nat) (N:Nat) (q:Q):Q:=fun ds=>match q ds with | some (g,outs)=>some (g&&Nat.blt (μ ds) N,outs) | none=>none
def w8 (μ:List Dt→Nat) (N:Nat) (q:Q):Q:=fun ds=>match q ds with | some (g,outs)=>some (g&&Nat.beq (μ ds) N,outs) | none=>none
theorem j6 {P:Program} {f:Nat} {bO:List Am} {res:List Bool} {own:Bool} {q:Q} (h:∀ds outs,q ds=some (true,outs)→∃q0:Q,bV P f (Spec.of bO res own q0)∧q0 ds=some (true,outs)):bV P f (Spec.of bO res own q):=by
 intro R ds k r hr
 obtain ⟨outs,hq,hk⟩:=Spec.qv hr
 obtain ⟨q0,hs,h0⟩:=h ds outs hq
 have xR:(Spec.of bO res own q0).fn ds k=some r:=by
  show (match q0 ds with | some (g,outs)=>cond g (k outs) none | none=>none)=some r
  rw [h0];exact hk
 intro wl w us Mf ROa Fs TO X4 hA hp X5 Vy Dw G9
 exact Calls.mono (hs ds k r xR wl w us Mf ROa Fs TO X4 hA hp X5 Vy Dw G9) fun e w' ⟨outs,h1,h2⟩=>⟨outs,h1,⟨h2.out,h2.kept⟩⟩
theorem cT {μ:List Dt→Nat} {N:Nat} {q:Q} {ds:List Dt} {outs:List Dt} (h:w8 μ N q ds=some (true,outs)):q ds=some (true,outs)∧μ ds=N:=by
 unfold w8 at h
 cases hq:q ds with
 | none=>rw [hq] at h;cases h
 | some go=>
  obtain ⟨g,o⟩:=go
  rw [hq] at h
  simp only [Option.some.injEq,Prod.mk.injEq,Bool.and_eq_true] at h
  obtain ⟨⟨h1,h2⟩,h3⟩:=h
  exact ⟨by rw [h1,h3],gX h2⟩
theorem Bv {μ:List Dt→Nat} {N:Nat} {q:Q} {ds:List Dt} {outs:List Dt} (h:nS μ N q ds=some (true,outs)):q ds=some (true,outs)∧μ ds<N:=by
 unfold nS at h
 cases hq:q ds with
 | none=>rw [hq] at h;cases h
 | some go=>
  obtain ⟨g,o⟩:=go
  rw [hq] at h
  simp only [Option.some.injEq,Prod.mk.injEq,Bool.and_eq_true] at h
  obtain ⟨⟨h1,h2⟩,h3⟩:=h
  rw [Nat.blt_eq] at h2
  exact ⟨by rw [h1,h3],h2⟩
theorem qx {μ:List Dt→Nat} {q:Q} {ds:List Dt} {outs:List Dt} (h:q ds=some (true,outs)):w8 μ (μ ds) q ds=some (true,outs):=by
 unfold w8;rw [h];simp
theorem fU {P:Program} {f:Nat} {bO:List Am} {res:List Bool} {own:Bool} {q:Q} (μ:List Dt→Nat)
 (h:∀N,bV P f (Spec.of bO res own (nS μ N q))→bV P f (Spec.of bO res own (w8 μ N q))):bV P f (Spec.of bO res own q):=by
 have all:∀N,bV P f (Spec.of bO res own (w8 μ N q)):=by
  intro N
  induction N using Nat.strongRecOn with
  | _ N ih=>
   refine h N (j6 fun ds outs hq=> ?_)
   obtain ⟨h1,h2⟩:=Bv hq
   exact ⟨w8 μ (μ ds) q,ih (μ ds) h2,qx h1⟩
 intro R
 exact j6 fun ds outs hq=>⟨w8 μ (μ ds) q,all (μ ds),qx hq⟩
structure Rc where
 f:Nat
 ms:List Am
 rs:List Bool
 ow:Bool
 mu:List Dt→Nat
 q:Q
theorem rD {P:Program} (L:List Rc)
 (h:∀N,(∀ x∈L,bV P x.f (Spec.of x.ms x.rs x.ow (nS x.mu N x.q)))→∀x∈L,bV P x.f (Spec.of x.ms x.rs x.ow (w8 x.mu N x.q))):
    ∀x∈L,bV P x.f (Spec.of x.ms x.rs x.ow x.q):=by
 have all:∀N,∀x∈L,bV P x.f (Spec.of x.ms x.rs x.ow (w8 x.mu N x.q)):=by
  intro N
  induction N using Nat.strongRecOn with
  | _ N ih=>
   refine h N fun x hx=>j6 fun ds outs hq=> ?_
   obtain ⟨h1,h2⟩:=Bv hq
   exact ⟨w8 x.mu (x.mu ds) x.q,ih (x.mu ds) h2 x hx,qx h1⟩
 intro x hx R
 exact j6 fun ds outs hq=>⟨w8 x.mu (x.mu ds) x.q,all (x.mu ds) x hx,qx hq⟩
section ev
variable {wl : World} {R : Type}
end ev
variable {R : Type} {P : Program} {E : Env} {w0 w w' : World} {Mf : Nat → Prop} {g : Gh} {st : St} {a : Act}
end Go.Gm
namespace Go.Gm
open Go
variable {wl : World} {P : Program} {w w' : World} {Mf ROa : Nat → Prop}
theorem ve:∀ {ms:List Am} {ds:List Dt} {us:List Value},ms.all (fun m=> !(fQ m))=true→ms.length=us.length→ds.length=us.length→ec wl w ms ds us [] []
 | [],[],[],_,_,_=> .nil
 | m::ms,d::ds,u::us,h,h1,h2=>by
  simp only [List.all_cons,Bool.and_eq_true] at h
  refine .skip ?_ (ve h.2 (by simpa using h1) (by simpa using h2))
  cases m<;>first | trivial | exact absurd h.1 (by simp [fQ])
 | [],_::_,[],_,_,h=>by simp at h
 | [],_,_::_,_,h,_=>by simp at h
 | _::_,_,[],_,h,_=>by simp at h
 | _::_,[],_::_,_,_,h=>by simp at h
theorem nB.ade {s:Spec} (eG:s.own=true) (yZ:s.res=[false]) (hm:s.bO.all (fun m=> !(fQ m))=true) {ds:List Dt} {us:List Value} (h1:s.bO.length=us.length) (h2:ds.length=us.length) {t:Ty} {x:El t} {v:Value}
    {G:Nat→Prop} (hv:mA w' G t x v) (hG:∀k,G k→(Mf k∨w.heap.size≤k)∧k<w'.heap.size) (hk:Kept w w' Mf):nB wl w w' Mf ROa s ds us [.d t x] (.returned v):=by
 refine ⟨⟨[v],[G],[],rfl,?_,?_,List.Pairwise.nil,fun B hB=>by simp at hB,fun _=>⟨List.pairwise_singleton _ _,fun G' p5 k hk=> ?_⟩,fun e=>absurd (eG.symm.trans e) (by simp),fun G hG B hB=>by simp at hB,fun G' p5 k hk=> ?_,fun B hB=>by simp at hB⟩,hk⟩
 ·rw [eG,yZ];exact .val (by simpa using hv) .nil
 ·rw [yZ];exact ve hm h1 h2
 ·have:G'=G:=by simpa using p5
  subst this;exact (hG k hk).1
 ·have:G'=G:=by simpa using p5
  subst this;exact (hG k hk).2
theorem Hc {f:Nat} {bO:List Am} {q:Qt} (hm:bO.all (fun m=> !(fQ m))=true)
 (h:∀ds outs,q ds=some (true,outs)→∃t x,outs=[.d t x]∧∀ {wl:World} (w:World) (us:List Value) (Mf ROa:Nat→Prop) (Fs:List (Nat→Prop)),cS wl w ROa bO ds us Fs→bR Fs→(∀ F∈Fs,∀k,F k→Mf k)→
 (∀ k,ROa k→ ¬Mf k)→(∀ k,ROa k→k<w.heap.size)→(∀ k,Mf k→k<w.heap.size)→
      Calls P f us.toArray w fun e w'=>∃v G,e = .returned v∧Kept w w' Mf∧mA w' G t x v∧∀k,G k→(Mf k∨w.heap.size≤k)∧k<w'.heap.size):bV P f (Spec.of bO [false] true q):=by
 intro R ds k r hr wl w us Mf ROa Fs TO X4 hA hp X5 Vy Dw G9
 obtain ⟨outs,hq,hk⟩:=Spec.qv hr
 obtain ⟨t,x,rfl,hc⟩:=h ds outs hq
 refine Calls.mono (hc w us Mf ROa Fs hA hp X5 Vy Dw G9) ?_
 rintro e w' ⟨v,G,rfl,h1,h2,h3⟩
 obtain ⟨si,X1,_⟩:=hA.len
 exact ⟨_,hk,nB.ade rfl rfl hm si X1 h2 h3 h1⟩
theorem ya {G:Nat→Prop} {t:Ty} {xs:List (El t)} {v:Value} (h:kb w G t xs v):mA w G (.sl t) xs v:=by
 refine ⟨#[v],by simp [Form,ik,h.flat],fun j=>if j=0 then G else fun _=>False,fun j k hk=> ?_,fun j j' k hk pH=> ?_,by simp [enc],fun j c hc=> ?_⟩
 ·dsimp only at hk
  split at hk
  ·exact hk
  ·exact hk.elim
 ·dsimp only at hk pH
  by_cases e1:j=0
  ·by_cases e2:j'=0
   ·omega
   ·simp [e2] at pH
  ·simp [e1] at hk
 ·cases j with
  | zero=>
   simp only [enc,List.getElem?_cons_zero,Option.some.injEq] at hc
   subst hc
   exact ⟨v,rfl,by simpa [iO] using h⟩
  | succ j=>simp [enc] at hc
theorem JZ {Pr:Nat→Prop} {t:Ty} {xs:List (El t)} {u:Value} (h:qd w Pr (.sl t) xs u):fK w Pr t xs u:=by
 obtain ⟨us,hf,hr⟩:=h
 obtain ⟨e,_⟩:=hf.size rfl
 subst e
 obtain ⟨z,hz,hc⟩:=hr.2 0 (.l t xs) rfl
 have hz:u=z:=by simpa using hz
 subst hz;exact hc
def J0 (P:Program) (f:Nat):Prop:=∀(a:Option Addr) (c:Nat) (w:World),Calls P f #[.slice a 0 c] w fun e w'=>
 (e = .returned (.slice none 0 0)∧w'=w)∨∃el,e = .returned (.slice (some ⟨w.heap.size,0,none⟩) 0 0)∧w'=w.alloc (.cells #[] el)
theorem Hd (w:World) (F:Nat→Prop) (t:Ty) {v:Value} (h:bB w F t [] v fun _ _=>v):kb w F t [] v:=by
 refine ⟨fun _=>v,rfl,fun p s hs=> ?_,fun p q s s' b hp hq _ _=> ?_⟩
 ·cases p with
  | nil=>simp only [aR,Option.some.injEq] at hs;subst hs;exact h
  | cons ij p=>simp [aR] at hs
 ·cases p with
  | nil=>cases q with
   | nil=>rfl
   | cons ij q=>simp [aR] at hq
  | cons ij p=>simp [aR] at hp
theorem Bw {f:Nat} {t:Ty} (h:J0 P f) {q:Qt} (hq:∀ds outs,q ds=some (true,outs)→ds=[.d (.sl t) []]∧outs=[.d (.sl t) []]):bV P f (Spec.of [.ro] [false] true q):=by
 refine Hc rfl fun ds outs hqs=> ?_
 obtain ⟨rfl,rfl⟩:=hq ds outs hqs
 refine ⟨_,_,rfl,fun w us Mf ROa Fs hA _ _ _ _ _=> ?_⟩
 cases hA with
 | cons h1 hA=>
  cases hA
  obtain ⟨av,h0,fw⟩:=JZ h1
  obtain ⟨a,cap,e1,_,_⟩:=fw [] ⟨t,[]⟩ rfl
  rw [h0] at e1
  subst e1
  refine Calls.mono (h a cap w) ?_
  rintro e w' (⟨rfl,rfl⟩ | ⟨el,rfl,rfl⟩)
  ·exact ⟨_,fun _=>False,rfl,⟨rfl,rfl,rfl,Nat.le_refl _,fun _ _ _=>rfl⟩,ya (zc _ _ _),fun _ h=>h.elim⟩
  ·refine ⟨_,fun k=>k=w.heap.size,rfl,⟨rfl,rfl,rfl,by simp,fun b hb _=>heap_alloc_old w _ hb⟩,ya (Hd _ _ _ ?_),fun k hk=> ?_⟩
   ·exact .inr ⟨w.heap.size,0,0,#[],el,rfl,rfl,heap_alloc_new w _,Nat.le_refl _,by simp,fun i y j c h=>by simp at h⟩
   ·subst hk;exact ⟨.inr (Nat.le_refl _),by simp⟩
theorem Dz {f:Nat} {q qa qb:Qt} (ha:bV P f (Spec.of [.ro] [false] true qa)) (hb:bV P f (Spec.of [.ro] [false] true qb)) (h:∀ds outs,q ds=some (true,outs)→qa ds=some (true,outs)∨qb ds=some (true,outs)):
    bV P f (Spec.of [.ro] [false] true q):=
  j6 fun ds outs hq=>(h ds outs hq).elim (fun h=>⟨qa,ha,h⟩) fun h=>⟨qb,hb,h⟩
end Go.Gm
namespace Go.Gm
open Go
variable {wl : World} {P : Program} {E : Env} {w w' : World}
theorem bo.pick {F:Nat→Prop} {t:Ty} {xs ys:List (El t)} {av:Path→Value} (h:bo w F t xs av) (σ:Nat→Nat) (hσ:∀i y,ys[i]? =some y→xs[σ i]? =some y) (hinj:∀i i',σ i=σ i'→i=i')
 (cq:bH (fun k=>q6 (av [])=some k) w w') {v:Value} (yW:∀k,q6 v=some k→q6 (av [])=some k) (hn:bB w' F t ys v fun i j=>av [(σ i,j)]):kb w' F t ys v:=by
 have dy:∀i j p s,aR t ys ((i,j)::p)=some s→aR t xs ((σ i,j)::p)=some s:=by
  intro i j p s hs
  simp only [aR] at hs ⊢
  split at hs
  ·rename_i y hy
   rw [hσ i y hy];exact hs
  ·cases hs
 refine ⟨fun p=>match p with | []=>v | (i,j)::p=>av ((σ i,j)::p),rfl,fun p s hs=> ?_,fun p q s s' k hp hq hk pH=> ?_⟩
 ·cases p with
  | nil=>simp only [aR,Option.some.injEq] at hs;subst hs;exact hn
  | cons x p=>
   obtain ⟨i,j⟩:=x
   have fv:=dy i j p s hs
   exact (h.1 _ s fv).here cq fun k hk e=>by have:=h.2 _ [] s ⟨t,xs⟩ k fv rfl hk e;cases this
 ·cases p with
  | nil=>cases q with
   | nil=>rfl
   | cons y q=>
    obtain ⟨i,j⟩:=y
    have:=h.2 [] _ ⟨t,xs⟩ s' k rfl (dy i j q s' hq) (yW k hk) pH
    cases this
  | cons x p=>
   obtain ⟨i,j⟩:=x
   cases q with
   | nil=>
    have:=h.2 _ [] s ⟨t,xs⟩ k (dy i j p s hp) rfl hk (yW k pH)
    cases this
   | cons y q=>
    obtain ⟨i',j'⟩:=y
    have:=h.2 _ _ s s' k (dy i j p s hp) (dy i' j' q s' hq) hk pH
    simp only [List.cons.injEq,Prod.mk.injEq] at this
    obtain ⟨⟨h1,rfl⟩,rfl⟩:=this
    rw [hinj _ _ h1]
end Go.Gm
namespace Go.Gm
open Go
theorem nT {α A R:Type} {xs:List α} {F:Nat→Nat→A→Option R} {f:A→α→A} {good:A→Option R} (inv:Nat→A→Prop)
 (hi:∀(j:Nat) a x,xs[j]? =some x→inv j a→inv (j+1) (f a x))
 (hs:∀m (j:Nat) a x,xs[j]? =some x→inv j a→F (m+1) j a=F m (j+1) (f a x)) (he:∀m a,inv xs.length a→F (m+1) xs.length a=good a):
    ∀(d j m:Nat) (a:A),j+d=xs.length→d<m→inv j a→F m j a=good ((xs.drop j).foldl f a):=by
 intro d
 induction d with
 | zero=>
  intro j m a hj hm hia
  obtain ⟨m,rfl⟩:∃m',m=m'+1:=⟨m-1,by omega⟩
  have:j=xs.length:=by omega
  subst this
  rw [he m a hia,List.drop_length];rfl
 | succ d ih=>
  intro j m a hj hm hia
  obtain ⟨m,rfl⟩:∃m',m=m'+1:=⟨m-1,by omega⟩
  obtain ⟨x,hx,hd⟩:=cL (show j<xs.length by omega)
  rw [hs m j a x hx hia,hd,List.foldl_cons]
  exact ih (j+1) m _ (by omega) (by omega) (hi j a x hx hia)
def fV (n:Nat):List UInt8:=if n<10 then [UInt8.ofNat (48+n)] else fV (n/10)++[UInt8.ofNat (48+n%10)]
termination_by n
decreasing_by omega
theorem jb {n:Nat} (h:n<10):fV n=[UInt8.ofNat (48+n)]:=by rw [fV,if_pos h]
theorem mf {n:Nat} (h : ¬n<10):fV n=fV (n/10)++[UInt8.ofNat (48+n%10)]:=by rw [fV,if_neg h]
theorem vf:∀(k n:Nat),n<10^(k+1)→(fV n).length≤k+1
 | 0,n,h=>by rw [jb (by omega)];simp
 | k+1,n,h=>by
  by_cases h1:n<10
  ·rw [jb h1];simp
  ·rw [mf h1,List.length_append]
   have:=vf k (n/10) (by rw [Nat.pow_succ] at h;omega)
   simp only [List.length_cons,List.length_nil];omega
def cj (n:Int):BA:=⟨((if n<0 then [(45:UInt8)] else [])++fV n.natAbs).toArray⟩
theorem ib {n:Int} (h:gL n=true):(cj n).size≤20:=by
 rw [kR] at h
 have h1:=vf 18 n.natAbs (by have:(10:Nat)^(18+1)=10000000000000000000:=rfl;omega)
 show ((if n<0 then [(45:UInt8)] else [])++fV n.natAbs).toArray.size≤20
 rw [List.size_toArray,List.length_append]
 split<;>simp<;>omega
theorem rE {x y:BA} (h:x.data.toList=y.data.toList):x=y:=by
 cases x;cases y
 congr
 exact Array.toList_inj.1 h
theorem vg (x y:BA):(x++y).data.toList=x.data.toList++y.data.toList:=by simp
theorem Fb:∀d:Nat,d<10→Utf8.encode (IntKind.wrap .i32 (IntKind.wrap .i64 ((48:Int)+(d:Int))))=⟨#[UInt8.ofNat (48+d)]⟩
 | 0,_=>rfl | 1,_=>rfl | 2,_=>rfl | 3,_=>rfl | 4,_=>rfl | 5,_=>rfl | 6,_=>rfl | 7,_=>rfl | 8,_=>rfl | 9,_=>rfl
 | d+10,h=>by omega
theorem By {n:Int} (h:0≤n):Int.tmod n 10=((n.natAbs%10:Nat):Int):=by
 obtain ⟨m,rfl⟩:=Int.eq_ofNat_of_zero_le h
 rfl
theorem nU {n:Int} (h:0≤n):Int.tdiv n 10=((n.natAbs/10:Nat):Int):=by
 obtain ⟨m,rfl⟩:=Int.eq_ofNat_of_zero_le h
 rfl
theorem tmod_neg {n:Int} (h:n<0):Int.tmod n 10 = -((n.natAbs%10:Nat):Int):=by
 obtain ⟨m,rfl⟩:∃m:Nat,n = -(m:Int):=⟨n.natAbs,by omega⟩
 rw [Int.neg_tmod]
 have:(-(m:Int)).natAbs=m:=by omega
 rw [this];rfl
theorem tdiv_neg {n:Int} (h:n<0):Int.tdiv n 10 = -((n.natAbs/10:Nat):Int):=by
 obtain ⟨m,rfl⟩:∃m:Nat,n = -(m:Int):=⟨n.natAbs,by omega⟩
 rw [Int.neg_tdiv]
 have:(-(m:Int)).natAbs=m:=by omega
 rw [this];rfl
theorem kr (m:Nat):cj (m:Int)=⟨(fV m).toArray⟩:=by
 unfold cj
 rw [if_neg (by omega)];simp
theorem J1 {n:Int} (h0:0≤n) (h:n<10):cj n=Utf8.encode (IntKind.wrap .i32 (IntKind.wrap .i64 ((48:Int)+n))):=by
 obtain ⟨m,rfl⟩:=Int.eq_ofNat_of_zero_le h0
 rw [Fb m (by omega),kr,jb (by omega)]
theorem Bz {n:Int} (h0:n<0) (h:n > -10):bs [45]++cj (IntKind.wrap .i64 (0-n))=cj n:=by
 obtain ⟨m,rfl⟩:∃m:Nat,n = -(m:Int):=⟨n.natAbs,by omega⟩
 rw [cu (by omega) (by omega),show (0:Int) - -(m:Int)=(m:Int) by omega,kr]
 unfold cj
 rw [if_pos h0]
 apply rE
 rw [vg];simp [bs]
theorem Qu {n:Int} (h : ¬n<10):cj (Int.tdiv n 10)++Utf8.encode (IntKind.wrap .i32 (IntKind.wrap .i64 ((48:Int)+(Int.tmod n 10))))=cj n:=by
 rw [nU (by omega),By (by omega),Fb _ (by omega),kr]
 obtain ⟨m,rfl⟩:∃m:Nat,n=(m:Int):=⟨n.natAbs,by omega⟩
 rw [kr]
 apply rE
 rw [vg]
 simp only [Int.natAbs_natCast]
 rw [mf (n:=m) (by omega)]
theorem Qv {n:Int} (h : ¬n > -10):cj (Int.tdiv n 10)++cj (IntKind.wrap .i64 (0-(Int.tmod n 10)))=cj n:=by
 rw [tdiv_neg (by omega),tmod_neg (by omega)]
 rw [show (0:Int) - -((n.natAbs%10:Nat):Int)=((n.natAbs%10:Nat):Int) by omega,cu (by omega) (by omega),kr]
 obtain ⟨m,rfl⟩:∃m:Nat,n = -(m:Int):=⟨n.natAbs,by omega⟩
 have e:(-(m:Int)).natAbs=m:=by omega
 rw [e]
 unfold cj
 rw [if_pos (by omega),if_pos (by omega)]
 apply rE
 rw [vg]
 have e2:(-((m/10:Nat):Int)).natAbs=m/10:=by omega
 rw [e,e2,mf (n:=m) (by omega),jb (n:=m%10) (by omega)]
 simp
def gH (n:Int):Nat:=2*n.natAbs+if n<0 then 1 else 0
theorem J2:∀d:Nat,d<10→bytesOf [IntKind.wrap .u8 (IntKind.wrap .i64 ((48:Int)+(d:Int)))]=⟨#[UInt8.ofNat (48+d)]⟩
 | 0,_=>rfl | 1,_=>rfl | 2,_=>rfl | 3,_=>rfl | 4,_=>rfl | 5,_=>rfl | 6,_=>rfl | 7,_=>rfl | 8,_=>rfl | 9,_=>rfl
 | d+10,h=>by omega
def He (n:Nat) (out:BA):BA:=if n=0 then out else ⟨(fV n).toArray⟩++out
theorem yb {n:Nat} (h:n≠0) (out:BA):He (n/10) (⟨#[UInt8.ofNat (48+n%10)]⟩++out)=He n out:=by
 unfold He
 rw [if_neg h]
 by_cases h1:n<10
 ·rw [if_pos (by omega),jb h1,Nat.mod_eq_of_lt h1]
 ·rw [if_neg (by omega),mf h1]
  apply rE
  simp only [vg];simp
theorem rF {a b:BA} (h:a.size+b.size≤9223372036854775807):decide (ByteArray.size a+ByteArray.size b≤9223372036854775807)=true:=decide_eq_true h
def fW {α:Type} (x:List α):Bool:=Nat.ble x.length Qq
theorem vh {α:Type} {x:List α} (h:fW x=true):x.length≤9223372036854775807:=gw h
theorem BB {α:Type} {x:List α} (h:x.length≤9223372036854775807):fW x=true:=Nat.ble_eq_true_of_le h
theorem vi {α:Type} {f:α→Bool} {x:List α} (h:gh f x=true):fW x=true:=BB (Nat.le_trans (bp h) (by decide))
theorem sk {t:Ty} {q:El t→Bool} {xs:List (El t)}:∀(d j:Nat),j+d=xs.length→
 (cC (fun j=>q (ar xs j)) j d).isSome=(xs.drop j).any q∧(∀ i,cC (fun j=>q (ar xs j)) j d=some i→(xs.drop j).find? q=some (ar xs i))∧(cC (fun j=>q (ar xs j)) j d=none→(xs.drop j).find? q=none)
 | 0,j,h=>by
  have:j=xs.length:=by omega
  subst this
  rw [List.drop_length]
  refine ⟨rfl,?_,fun _=>rfl⟩
  intro i h;cases h
 | d+1,j,h=>by
  obtain ⟨x,hx,hd⟩:=cL (show j<xs.length by omega)
  obtain ⟨h1,h2,h3⟩:=sk (q:=q) (xs:=xs) d (j+1) (by omega)
  rw [hd]
  simp only [cC,bz hx,List.any_cons,List.find?_cons]
  cases hq:q x with
  | true=>exact ⟨rfl,fun i hi=>by cases hi;rw [bz hx],fun h=>by cases h⟩
  | false=>exact ⟨by simpa using h1,h2,h3⟩
theorem vj {t:Ty} (q:El t→Bool) (xs:List (El t)):(cC (fun j=>q (ar xs j)) 0 xs.length).isSome=xs.any q:=by
 have:=(sk (q:=q) (xs:=xs) xs.length 0 (by omega)).1
 rwa [List.drop_zero] at this
theorem VG (o:Option Nat):decide (zE o≥0)=o.isSome:=by
 cases o with
 | none=>rfl
 | some i=>simp [zE]
def yc {t:Ty} (q:El t→Bool) (xs:List (El t)):Int:=zE (cC (fun j=>q (ar xs j)) 0 xs.length)
theorem vk {t:Ty} (q:El t→Bool) (xs:List (El t)):decide (yc q xs≥0)=xs.any q:=by
 unfold yc;rw [VG,vj]
def rG (xs:List BA) (s:BA):Bool:=xs.any fun x=>eC x s
theorem BD (x y:BA):eC x y=eC y x:=by rw [Bool.eq_iff_iff,kQ,kQ,eq_comm]
def s5 (xs:List BA) (s:BA):Int:=yc (t:= .str) (fun x=>eC s x) xs
theorem Hf (xs:List BA) (s:BA):decide (s5 xs s≥0)=rG xs s:=by
 unfold s5 rG
 rw [vk]
 congr 1;funext x;exact BD s x
theorem Fc {α:Type} (q:α→Bool) (xs:List α):(!(xs.any fun x=> !(q x)))=xs.all q:=by
 induction xs with
 | nil=>rfl
 | cons x r ih=>rw [List.any_cons,List.all_cons,←ih];cases q x<;>simp
theorem kt {n:Int} (h0 : -9223372036854775808≤n) (h:n≤9223372036854775807):gL n=true:=kR.2 ⟨h0,h⟩
def jc (xs:List BA):Bool:=VA iH xs
theorem tm {xs:List BA} (h:gh c8 xs=true):VA iH xs=true:=VF h fun _ h=>Bu h
def oZ {α:Type} (f:α→Nat) (xs:List α):Nat:=(xs.map f).sum
theorem oK {α:Type} {f:α→Nat} {xs:List α} {x:α} (h:x∈xs):f x≤oZ f xs:=rC f h
mutual
def ak:ae→Bool
 | ⟨kind,n,s,keys,kids⟩=>(gL kind&&(gL n&&(c8 s&&(gh c8 keys&&(Nat.ble kids.length 1048576&&mg kids)))))
def mg:List ae→Bool
 | []=>true
 | x::xs=>ak x&&mg xs
end
theorem nV:∀xs:List ae,mg xs=xs.all ak
 | []=>by simp [mg]
 | x::xs=>by rw [mg,nV xs,List.all_cons]
theorem bY (x:ae):ak x=(gL x.kind&&(gL x.n&&(c8 x.s&&(gh c8 x.keys&&gh ak x.kids)))):=by
 cases x;rw [ak,nV];rfl
mutual
def aw:ae→Nat
 | ⟨_,_,s,keys,kids⟩=>s.size+dw ByteArray.size keys+(kids.length+nW kids)
def nW:List ae→Nat
 | []=>0
 | x::xs=>aw x+nW xs
end
theorem sm:∀xs:List ae,nW xs=(xs.map aw).sum
 | []=>by simp [nW]
 | x::xs=>by rw [nW,sm xs,List.map_cons,List.sum_cons]
theorem aW (x:ae):aw x=x.s.size+dw ByteArray.size x.keys+dw aw x.kids:=by
 cases x;rw [aw,sm];rfl
mutual
def ao:ae→Nat
 | ⟨_,_,_,_,kids⟩=>1+nX kids
def nX:List ae→Nat
 | []=>0
 | x::xs=>ao x+nX xs
end
theorem sn:∀xs:List ae,nX xs=oZ ao xs
 | []=>by simp [nX,oZ]
 | x::xs=>by rw [nX,sn xs];simp [oZ]
theorem dE (x:ae):ao x=1+oZ ao x.kids:=by
 cases x;rw [ao,sn]
theorem bD {x y:ae} (h:y∈x.kids):ao y<ao x:=by
 have:=oK (f:=ao) h
 rw [dE x];omega
theorem J3 (a b:ae):pa a b=((a.kind==b.kind)&&((a.n==b.n)&&(eC a.s b.s&&(pa a.keys b.keys&&pa a.kids b.kids)))):=by
 cases a;cases b
 rw [Bool.eq_iff_iff];simp [qw,kQ]
theorem aT (x:ae):(⟨x.kind,x.n,x.s,x.keys,x.kids⟩:ae)=x:=by cases x;rfl
abbrev eN (x:ae):ae:=⟨x.kind,x.n,x.s,x.keys,x.kids⟩
theorem bu (x:ae):eN x=x:=aT x
def kU (x:ae) (_:ae):Nat:=2*ao x
def js (x:List ae) (_:List ae):Nat:=2*oZ ao x+1
mutual
def bm:af→Bool
 | ⟨kind,keys,kids,need,low,high⟩=>(gL kind&&(gh c8 keys&&((Nat.ble kids.length 1048576&&nY kids)&&(gh (fun _=>true) need&&(gL low&&gL high)))))
def nY:List af→Bool
 | []=>true
 | x::xs=>bm x&&nY xs
end
theorem so:∀xs:List af,nY xs=xs.all bm
 | []=>by simp [nY]
 | x::xs=>by rw [nY,so xs,List.all_cons]
theorem bL (x:af):bm x=(gL x.kind&&(gh c8 x.keys&&(gh bm x.kids&&(gh (fun _=>true) x.need&&(gL x.low&&gL x.high))))):=by
 cases x;rw [bm,so];rfl
mutual
def bP:af→Nat
 | ⟨_,keys,kids,need,_,_⟩=>dw ByteArray.size keys+(kids.length+nZ kids)+dw (fun _=>0) need
def nZ:List af→Nat
 | []=>0
 | x::xs=>bP x+nZ xs
end
theorem su:∀xs:List af,nZ xs=(xs.map bP).sum
 | []=>by simp [nZ]
 | x::xs=>by rw [nZ,su xs,List.map_cons,List.sum_cons]
theorem bQ (x:af):bP x=dw ByteArray.size x.keys+dw bP x.kids+dw (fun _=>0) x.need:=by
 cases x;rw [bP,su];rfl
mutual
def di:af→Nat
 | ⟨_,_,kids,_,_,_⟩=>1+n0 kids
def n0:List af→Nat
 | []=>0
 | x::xs=>di x+n0 xs
end
theorem sw:∀xs:List af,n0 xs=oZ di xs
 | []=>by simp [n0,oZ]
 | x::xs=>by rw [n0,sw xs];simp [oZ]
theorem sx (x:af):di x=1+oZ di x.kids:=by
 cases x;rw [di,sw]
theorem n3 {x y:af} (h:y∈x.kids):di y<di x:=by
 have:=oK (f:=di) h
 rw [sx x];omega
theorem bN (x:af):(⟨x.kind,x.keys,x.kids,x.need,x.low,x.high⟩:af)=x:=by cases x;rfl
abbrev eR (x:af):af:=⟨x.kind,x.keys,x.kids,x.need,x.low,x.high⟩
theorem cM (x:af):eR x=x:=bN x
def dU (s:BA):Bool:=oY (fun j=>gZ (ko s j) 32 126) 0 s.size&&decide ((s.size:Int)≤400)
def rH (xs:List BA) (j:Nat):Bool:=dU (ar (t:= .str) xs j)&&(!(decide ((j:Int)>(0:Int)))||lq (ar (t:= .str) xs (j-1)) (ar (t:= .str) xs j))
def dK (xs:List BA):Bool:=oY (rH xs) 0 xs.length
def o3 (b:Bool):Int:=cond b 1 0
def j7 (r:af):Bool:=
 ((r.kind==(2:Int))||((r.kind==(3:Int))||((r.kind==(4:Int))||((r.low==(0:Int))&&(r.high==(0:Int))))))&&
    cond (r.kind==(5:Int)) (((r.keys.length:Int)==(r.kids.length:Int))&&(((r.need.length:Int)==(r.kids.length:Int))&&dK r.keys))
 (((r.keys.length:Int)==(0:Int))&&(((r.need.length:Int)==(0:Int))&&((r.kids.length:Int)==o3 (r.kind==(4:Int)))))
def n5 (r:af) (d:Int):Bool:=gZ r.kind (-1) 5&&(!(decide (r.low>r.high))&& !(decide (d≤0)))
mutual
def bS:af→Int→Bool
 | ⟨kind,keys,kids,need,low,high⟩,d=>n5 ⟨kind,keys,kids,need,low,high⟩ d&&(ku kids (d-1)&&j7 ⟨kind,keys,kids,need,low,high⟩)
def ku:List af→Int→Bool
 | [],_=>true
 | x::xs,d=>bS x d&&ku xs d
end
theorem pc (d:Int):∀xs:List af,ku xs d=xs.all fun x=>bS x d
 | []=>by simp [ku]
 | x::xs=>by rw [ku,pc d xs,List.all_cons]
theorem jm (r:af) (d:Int):bS r d=(n5 r d&&((r.kids.all fun x=>bS x (d-1))&&j7 r)):=by
 cases r;rw [bS,pc]
def iI (r:af) (d:Int):Bool:=bm r&&(decide (0≤d)&&decide (d≤100))
def pO (r:af) (d:Int):Bool:=bm r&&(decide (1≤d)&&decide (d≤100))
def dV (r:List af) (d:Int):Bool:=gh bm r&&(decide (1≤d)&&decide (d≤100))
def kV (r:af) (d:Int):Bool:= !(bS r (d-1))
def oL (rs:List af) (d:Int):Int:=yc (t:= .aq) (fun r=>kV r d) rs
def cw (rs:List af) (d:Int):Bool:=rs.any fun r=>kV r d
def Px (r:af) (_:Int):Nat:=4*di r
def TS (r:af) (_:Int):Nat:=4*di r+1
def TT (r:List af) (_:Int):Nat:=4*oZ di r+2
def yd (r:List af) (_:Int):Nat:=4*oZ di r+3
def e9 (r:af):Bool:=bS r 8
theorem xl (rs:List af) (d:Int):(!(cw rs d))=rs.all fun x=>bS x (d-1):=by
 unfold cw
 rw [← Fc];rfl
theorem Hg (a b:Int):(a==b)=(b==a):=by rw [Bool.eq_iff_iff];simp;exact eq_comm
theorem DA {xs:List BA} (h:(xs.length:Int)=0):dK xs=true:=by
 have:xs=[]:=List.length_eq_zero_iff.1 (by omega)
 subst this;rfl
theorem TU {α:Type} {xs:List α} (h:xs.length≤1048576):Nat.ble xs.length bT=true:=Nat.ble_eq_true_of_le (by have:(bT:Nat)=4294967296:=rfl;omega)
theorem J4 {α:Type} {xs:List α} (h:xs.length≤1048576):Nat.ble (xs.length+1) bT=true:=Nat.ble_eq_true_of_le (by have:(bT:Nat)=4294967296:=rfl;omega)
theorem BE {α:Type} {f:α→Bool} {x:α} {r:List α} (h:gh f (x::r)=true):gh f r=true:=by
 simp only [gh,Bool.and_eq_true,List.all_cons] at h ⊢
 have:=gw h.1
 rw [List.length_cons] at this
 exact ⟨Nat.ble_eq_true_of_le (by omega),h.2.2⟩
theorem BF {α:Type} {f:α→Bool} {x:α} {r:List α} (h:gh f (x::r)=true):f x=true:=by
 simp only [gh,Bool.and_eq_true,List.all_cons] at h;exact h.2.1
theorem qy {α:Type} {f:α→Bool} {x:α} {r:List α} (h:gh f r=true) (hx:f x=true) (hl:r.length<1048576):gh f (r++[x])=true:=by
 simp only [gh,Bool.and_eq_true,List.all_append,List.all_cons,List.all_nil,List.length_append,List.length_cons,List.length_nil] at h ⊢
 exact ⟨Nat.ble_eq_true_of_le (by omega),h.2,hx,trivial⟩
def VH (a b:BA):Bool:=decide ((a.size:Int)≥(b.size:Int))&&eC (a.extract 0 b.size) b
def ours (a:BA):Bool:=VH a (bs [113,117,97,121,47])
theorem vl {α:Type} (xs out:List α):xs.foldl (fun o x=>o++[x]) out=out++xs:=by
 induction xs generalizing out with
 | nil=>simp
 | cons x r ih=>rw [List.foldl_cons,ih];simp
def DB (xs:List Int):Bool:=decide ((xs.length:Int)>(1048576:Int))
end Go.Gm
namespace Go.Gm
def ay (c:ai):Bool:=decide (0≤c.i)&&Nat.ble c.b.length 1048576
theorem qz {c:ai}:ay c=true↔0≤c.i∧c.b.length≤1048576:=by
 unfold ay
 rw [Bool.and_eq_true,decide_eq_true_eq,Nat.ble_eq]
def iJ (b:List Int):Bool:=Nat.ble b.length 1048576
def ey (c:ai) (l:List BA):Bool:=ay c&&(!l.isEmpty&&Nat.ble l.length 1048576)
def dW (c:ai) (l:List Int):Bool:=ay c&&(!l.isEmpty&&Nat.ble l.length 1048576)
theorem VI (A:Int):0≤((BitVec.toNat (BitVec.ofInt (IntKind.bits .i64) A &&& BitVec.ofInt (IntKind.bits .i64) (255:Int)):Nat):Int)∧
 ((BitVec.toNat (BitVec.ofInt (IntKind.bits .i64) A &&& BitVec.ofInt (IntKind.bits .i64) (255:Int)):Nat):Int)≤255:=by
 refine ⟨Int.natCast_nonneg _,?_⟩
 have h:BitVec.toNat (BitVec.ofInt (IntKind.bits .i64) A &&& BitVec.ofInt (IntKind.bits .i64) (255:Int))≤255:=by
  rw [BitVec.toNat_and]
  exact Nat.le_trans Nat.and_le_right (by decide)
 omega
theorem Fe (A:Int):0≤IntKind.wrap .i64 ((BitVec.toNat (BitVec.ofInt (IntKind.bits .i64) A &&& BitVec.ofInt (IntKind.bits .i64) (255:Int)):Nat):Int)∧
    IntKind.wrap .i64 ((BitVec.toNat (BitVec.ofInt (IntKind.bits .i64) A &&& BitVec.ofInt (IntKind.bits .i64) (255:Int)):Nat):Int)≤255:=by
 have:=VI A
 rw [cu (by omega) (by omega)];exact this
theorem Ff {x n:Int} (h:0≤x) (hn:0<n):0≤Int.tmod x n∧Int.tmod x n<n:=⟨Int.tmod_nonneg n h,Int.tmod_lt_of_pos x hn⟩
theorem VJ {x y z w:Int} (hx:0≤x∧x≤255) (hy:0≤y∧y≤255) (hz:0≤z∧z≤255) (hw:0≤w∧w≤255):
    0≤IntKind.wrap .i64 ((IntKind.wrap .i64 ((IntKind.wrap .i64 ((IntKind.wrap .i64 (x*(16777216:Int)))+(IntKind.wrap .i64 (y*(65536:Int)))))+(IntKind.wrap .i64 (z*(256:Int)))))+w):=by
 rw [cu (x:=x*16777216) (by omega) (by omega),cu (x:=y*65536) (by omega) (by omega),cu (x:=z*256) (by omega) (by omega),cu (x:=x*16777216+y*65536) (by omega) (by omega),
  cu (x:=x*16777216+y*65536+z*256) (by omega) (by omega),cu (by omega) (by omega)]
 omega
theorem tn {t:Ty} {xs:List (El t)} {i:Int} (h0:0≤i) (h:i<(xs.length:Int)):ar xs (Int.toNat i)∈xs:=
  List.mem_of_getElem? (c9 (by omega))
theorem J5 {α:Type} {xs:List α} {i:Int} (h0:0≤i) (h:i<(xs.length:Int)):(decide ((0:Int)≤i)&&decide (i<(xs.length:Int)))=true:=by
 rw [decide_eq_true h0,decide_eq_true h];rfl
theorem J6 {α:Type} {xs:List α} (h:(!xs.isEmpty)=true):0<(xs.length:Int):=by
 cases xs with
 | nil=>cases h
 | cons x r=>simp
theorem ca {c:ai} {l:List BA} (h:ay c=true) (hl:(!l.isEmpty&&Nat.ble l.length 1048576)=true):ey c l=true:=by
 unfold ey;rw [h,hl];rfl
theorem cn {c:ai} {l:List Int} (h:ay c=true) (hl:(!l.isEmpty&&Nat.ble l.length 1048576)=true):dW c l=true:=by
 unfold dW;rw [h,hl];rfl
theorem dQ (c:ai):(⟨c.b,c.i,c.h⟩:ai)=c:=by cases c;rfl
theorem J7 {b:List Int} (h:DB b=false):iJ b=true:=by
 unfold DB at h
 have:=of_decide_eq_false h
 exact Nat.ble_eq_true_of_le (by omega)
theorem J8 {l:List BA} {s:BA} (h:s∈l) (hl:(l.all c8)=true):c8 s=true:=List.all_eq_true.1 hl s h
theorem Qw (x:Int) : -9223372036854775808≤IntKind.wrap .i64 x∧IntKind.wrap .i64 x≤9223372036854775807:=by
 have h0:=Int.emod_nonneg x (show (18446744073709551616:Int)≠0 by decide)
 have h1:=Int.emod_lt_of_pos x (show (0:Int)<18446744073709551616 by decide)
 have e:IntKind.wrap .i64 x=if (true&&decide (x%18446744073709551616≥9223372036854775808))=true then x%18446744073709551616-18446744073709551616 else x%18446744073709551616:=rfl
 rw [e]
 split
 ·rename_i h
  have:=of_decide_eq_true (show decide (x%18446744073709551616≥9223372036854775808)=true by simpa using h)
  omega
 ·rename_i h
  have : ¬(x%18446744073709551616≥9223372036854775808):=fun hh=>h (by simp [hh])
  omega
theorem gI (x:Int):gL (IntKind.wrap .i64 x)=true:=by
 have:=Qw x
 exact kt this.1 this.2
def dL (t:ae) (s:BA):Int:=cond (t.kind==(5:Int)) (zE (cC (fun j=>eC (ar (t:= .str) t.keys j) s) 0 (min t.keys.length t.kids.length))) (-1)
def dq (t:ae) (s:BA):Int:=cond (t.kind==(5:Int)) (dL t s) (cond (t.kind==(4:Int)) (zE (cC (fun j=>eC (cj (j:Int)) s) 0 t.kids.length)) (-1))
theorem zF {p:Nat→Bool} {n:Nat} : -1≤zE (cC p 0 n)∧zE (cC p 0 n)<(n:Int)∨zE (cC p 0 n) = -1:=by
 cases h:cC p 0 n with
 | none=>exact .inr rfl
 | some i=>
  obtain ⟨_,h2,_⟩:=nR h
  exact .inl (by show -1≤(i:Int)∧(i:Int)<n;omega)
theorem J9 {t:ae} {s:BA} (h : ¬dq t s<0):dq t s<(t.kids.length:Int):=by
 revert h
 unfold dq dL
 cases t.kind==(5:Int)
 ·cases t.kind==(4:Int)
  ·intro h;exact (h (by simp only [cond_false];omega)).elim
  ·intro h
   rcases zF (p:=fun j=>eC (cj (j:Int)) s) (n:=t.kids.length) with h1 | h1
   ·exact h1.2
   ·exact (h (by simp only [cond_true,cond_false];omega)).elim
 ·intro h
  rcases zF (p:=fun j=>eC (ar (t:= .str) t.keys j) s) (n:=min t.keys.length t.kids.length) with h1 | h1
  ·simp only [cond_true];omega
  ·exact (h (by simp only [cond_true];omega)).elim
theorem Fg {t x:ae} (h:x∈t.kids):aw x≤aw t:=by
 rw [aW t]
 have h1:=rC aw h
 have:dw aw t.kids=t.kids.length+(t.kids.map aw).sum:=rfl
 omega
theorem iK {t x:ae} (hs:ak t=true) (h:x∈t.kids):ak x=true:=by
 rw [bY] at hs
 simp only [Bool.and_eq_true] at hs
 exact List.all_eq_true.1 (kS hs.2.2.2.2) x h
def eI:ae:=⟨(0:Int),(0:Int),ByteArray.empty,([]:List BA),([]:List ae)⟩
def sy (kind:Int) (keys:List BA) (j:Nat):BA:=cond (kind==(5:Int)) (cond (decide ((j:Int)<(keys.length:Int))) (ar (t:= .str) keys j) (cj (j:Int))) (cj (j:Int))
mutual
def aN:ae→List (List BA)
 | ⟨kind,_,_,keys,kids⟩=>[]::kW kind keys 0 kids
def kW (kind:Int) (keys:List BA):Nat→List ae→List (List BA)
 | _,[]=>[]
 | j,x::r=>(aN x).map (fun p=>sy kind keys j::p)++kW kind keys (j+1) r
end
theorem fX (x:ae):aN x=[]::kW x.kind x.keys 0 x.kids:=by cases x;rw [aN]
theorem ye (kind:Int) (keys:List BA):∀(r:List ae) (j:Nat),(∀ x∈r,(aN x).length=ao x)→(kW kind keys j r).length=oZ ao r
 | [],_,_=>by simp [kW,oZ]
 | x::r,j,h=>by
  rw [kW,List.length_append,List.length_map,h x (by simp),ye kind keys r (j+1) fun y hy=>h y (by simp [hy])]
  simp [oZ]
theorem n6 (x:ae):(aN x).length=ao x:=by
 rw [fX,dE,List.length_cons,ye _ _ _ _ fun y yf=>n6 y];omega
termination_by ao x
decreasing_by exact bD yf
theorem J' (x:ae):ao x≤aw x+1:=by
 rw [dE,aW]
 have h:∀l:List ae,(∀ y∈l,ao y≤aw y+1)→oZ ao l≤dw aw l:=by
  intro l
  induction l with
  | nil=>intro _;simp [oZ]
  | cons y r ih=>
   intro h
   have h1:=h y (by simp)
   have h2:=ih fun z hz=>h z (by simp [hz])
   have e1:oZ ao (y::r)=ao y+oZ ao r:=by simp [oZ]
   have e2:dw aw (y::r)=1+aw y+dw aw r:=by simp [dw];omega
   omega
 have:=h x.kids fun y yf=>J' y
 omega
termination_by ao x
decreasing_by exact bD yf
theorem oM {Q:List BA→Prop} (kind:Int) (keys:List BA):∀(r:List ae) (j:Nat),(∀ i x,r[i]? =some x→∀p∈aN x,Q (sy kind keys (j+i)::p))→∀p∈kW kind keys j r,Q p
 | [],_,_,p,hp=>by simp [kW] at hp
 | x::r,j,h,p,hp=>by
  rw [kW] at hp
  rcases List.mem_append.1 hp with hp | hp
  ·obtain ⟨q,hq,rfl⟩:=List.mem_map.1 hp
   exact h 0 x rfl q hq
  ·exact oM kind keys r (j+1) (fun i y hy q hq=>by have:=h (i+1) y hy q hq;rwa [show j+(i+1)=j+1+i by omega] at this) p hp
theorem sA (x:ae):∀p∈aN x,p.length+1≤ao x:=by
 rw [fX,dE]
 intro p hp
 rcases List.mem_cons.1 hp with rfl | hp
 ·simp
 ·refine oM (Q:=fun p=>p.length+1≤1+oZ ao x.kids) _ _ _ _ (fun i y hy q hq=> ?_) p hp
  have yf:y∈x.kids:=List.mem_of_getElem? hy
  have h1:=sA y q hq
  have h2:=oK (f:=ao) yf
  simp only [List.length_cons];omega
termination_by ao x
decreasing_by exact bD yf
theorem pd (x:ae) (hs:ak x=true):∀p∈aN x,p.all c8=true:=by
 rw [fX]
 have fv:=hs
 rw [bY] at fv
 simp only [Bool.and_eq_true] at fv
 obtain ⟨_,_,_,ng,mL⟩:=fv
 intro p hp
 rcases List.mem_cons.1 hp with rfl | hp
 ·rfl
 ·refine oM (Q:=fun p=>p.all c8=true) _ _ _ _ (fun i y hy q hq=> ?_) p hp
  have yf:y∈x.kids:=List.mem_of_getElem? hy
  have h1:=pd y (iK hs yf) q hq
  rw [List.all_cons,h1,Bool.and_true]
  have hi:=aY hy
  have xm:=bp mL
  have hd:c8 (cj ((0+i:Nat):Int))=true:=by
   have:=ib (n:=((0+i:Nat):Int)) (kt (by omega) (by omega))
   exact kq (by omega)
  unfold sy
  cases x.kind==(5:Int)
  ·exact hd
  by_cases hl:((0+i:Nat):Int)<(x.keys.length:Int)
  ·rw [decide_eq_true hl]
   exact List.all_eq_true.1 (kS ng) _ (List.mem_of_getElem? (c9 (t:= .str) (by omega)))
  ·rw [decide_eq_false hl];exact hd
termination_by ao x
decreasing_by exact bD yf
def Aw (t:ae):Bool:=ak t&&Nat.ble (ao t) 1048577
theorem Qx {t x:ae} (h:Aw t=true) (hx:x∈t.kids):Aw x=true:=by
 simp only [Aw,Bool.and_eq_true] at h ⊢
 have:=gw h.2
 have:=bD hx
 exact ⟨iK h.1 hx,Nat.ble_eq_true_of_le (by omega)⟩
theorem Ka {R:Type} {kids:List ae} {kind:Int} {keys:List BA} {B:Nat} {F:Nat→Nat→List (List BA)→Option R} {good:List (List BA)→Option R}
 (hs:∀m (j:Nat) out x,kids[j]? =some x→out.length+(aN x).length≤B→F (m+1) j out=F m (j+1) (out++(aN x).map fun p=>sy kind keys j::p)) (he:∀m out,F (m+1) kids.length out=good out):
    ∀(d j m:Nat) (out:List (List BA)),j+d=kids.length→d<m→out.length+(kW kind keys j (kids.drop j)).length≤B→F m j out=good (out++kW kind keys j (kids.drop j)):=by
 intro d
 induction d with
 | zero=>
  intro j m out hj hm _
  obtain ⟨m,rfl⟩:∃m',m=m'+1:=⟨m-1,by omega⟩
  have:j=kids.length:=by omega
  subst this
  rw [he,List.drop_length,kW,List.append_nil]
 | succ d ih=>
  intro j m out hj hm hB
  obtain ⟨m,rfl⟩:∃m',m=m'+1:=⟨m-1,by omega⟩
  obtain ⟨x,hx,hd⟩:=cL (show j<kids.length by omega)
  rw [hd,kW,List.length_append,List.length_map] at hB
  rw [hs m j out x hx (by omega),ih (j+1) m _ (by omega) (by omega) (by rw [List.length_append,List.length_map];omega),hd,kW,List.append_assoc]
theorem dM {α:Type} (f:α→Nat) (xs ys:List α):dw f (xs++ys)=dw f xs+dw f ys:=by
 simp only [dw,List.length_append,List.map_append,List.sum_append];omega
theorem cN {α:Type} (f:α→Nat) (x:α) (ys:List α):dw f (x::ys)=1+f x+dw f ys:=by
 simp only [dw,List.length_cons,List.map_cons,List.sum_cons];omega
theorem vm {α:Type} {xs:List α} {i:Nat} {x:α} (h:xs[i]? =some x):xs=xs.take i++x::xs.drop (i+1):=by
 obtain ⟨y,hy,hd⟩:=cL (aY h)
 rw [h] at hy;cases hy
 conv=>lhs;rw [← List.take_append_drop i xs,hd]
theorem zG {α:Type} {f:α→Bool} {xs:List α} (h:gh f xs=true) (i:Nat) {y:α} (hy:f y=true):gh f (xs.set i y)=true:=by
 simp only [gh,Bool.and_eq_true] at h ⊢
 refine ⟨by rw [List.length_set];exact h.1,List.all_eq_true.2 fun x hx=> ?_⟩
 rcases List.mem_or_eq_of_mem_set hx with hm | rfl
 ·exact List.all_eq_true.1 h.2 x hm
 ·exact hy
def bM (t:ae):Bool:=cond (t.kind==(5:Int)) ((t.keys.length:Int)==(t.kids.length:Int)) false
def pP (t:ae) (k:Int) (x:ae):ae:=⟨t.kind,t.n,t.s,t.keys,t.kids.set (Int.toNat k) x⟩
theorem gj {t:ae} (h:bM t=true):(t.kind==(5:Int))=true∧t.keys.length=t.kids.length:=by
 unfold bM at h
 cases h5:t.kind==(5:Int)
 ·rw [h5] at h;cases h
 ·rw [h5] at h
  have:=eq_of_beq (show ((t.keys.length:Int)==(t.kids.length:Int))=true from h)
  exact ⟨rfl,by omega⟩
theorem BG (t:ae) (s:BA) (h : ¬dL t s<0):∃i:Nat,dL t s=(i:Int)∧i<t.keys.length∧i<t.kids.length:=by
 revert h
 unfold dL
 cases t.kind==(5:Int)
 ·intro h;exact (h (by simp only [cond_false];omega)).elim
 ·simp only [cond_true]
  intro h
  rcases zF (p:=fun j=>eC (ar (t:= .str) t.keys j) s) (n:=min t.keys.length t.kids.length) with h1 | h1
  ·exact ⟨Int.toNat (zE (cC (fun j=>eC (ar (t:= .str) t.keys j) s) 0 (min t.keys.length t.kids.length))),by omega,by omega,by omega⟩
  ·omega
theorem BH {t:ae} {s:BA} (h : ¬dq t s<0):∃i:Nat,dq t s=(i:Int)∧i<t.kids.length:=by
 have:=J9 h
 exact ⟨Int.toNat (dq t s),by omega,by omega⟩
theorem dr {t:ae} (h:ak t=true):gL t.kind=true∧gL t.n=true∧c8 t.s=true∧gh c8 t.keys=true∧gh ak t.kids=true:=by
 rw [bY] at h
 simpa only [Bool.and_eq_true] using h
theorem rI (t:ae):ak eI=true∧aw eI≤aw t:=⟨by decide,Nat.zero_le _⟩
theorem Hh {α:Type} {xs:List α} (h:xs.length≤1048576) (i:Nat):Nat.ble (0+(xs.take i).length) bT=true:=Nat.ble_eq_true_of_le (by
  have:(bT:Nat)=4294967296:=rfl
  rw [List.length_take];omega)
end Go.Gm
namespace Go.Gm
open Go
variable {wl : World} {P : Program} {E : Env} {w w' : World}
structure afb (w:World) (base:Option Addr) (n cap i vb vo m sz:Nat) (iW news:List Value):Prop where
 hi:i≤n
 hn:n≤cap
 hm:0<m
 lim:n+m≤bT
 lo:iW.length=n*sz
 ln:news.length=m*sz
 oo:∀v∈iW,v.oneCell'=true
 on:∀v∈news,v.oneCell'=true
 nil:base=none→n=0∧cap=0
 is:∀a,base=some a→∃b o cs el,a=⟨b,o,none⟩∧b≠vb∧w.heap[b]? =some (.cells cs el (0,0))∧o+cap*sz≤cs.size∧∀k v,iW[k]? =some v→cs[o+k]? =some v
 v:∃vcs vel,w.heap[vb]? =some (.cells vcs vel (0,0))∧∀k v,news[k]? =some v→vcs[vo+k]? =some v
end Go.Gm
namespace Go.Gm
open Go
def lG {α:Type} (xs:List α) (i:Int) (ys:List α):List α:=xs.take i.toNat++ys++xs.drop i.toNat
def adf (n:Nat) (o:Option Nat):Int:=o.elim (n:Int) fun i=>(i:Int)
def oN (keys:List BA) (key:BA):Int:=adf keys.length (cC (fun j=> !(lq (ar (t:= .str) keys j) key)) 0 keys.length)
def putKey (t:ae) (k:Int) (key:BA) (x:ae):ae:=⟨t.kind,t.n,t.s,lG t.keys k [key],lG t.kids k [x]⟩
def dt (t:ae) (k:Int) (x:ae):ae:=⟨t.kind,t.n,t.s,t.keys,lG t.kids k [x]⟩
def fa (t:ae) (key:BA) (x:ae):ae:=cond (bM t) (cond (decide (dL t key<(0:Int))) (putKey t (oN t.keys key) key x) (pP t (dL t key) x)) t
def dash:BA:=bs [45]
def Fh (p:BA) (n j:Nat):Bool:=cond (eC (cj (j:Int)) p) true (cond (eC p dash) ((j:Int)==(n:Int)) false)
def vn (t:ae) (p:BA):Int:=zE (cC (Fh p t.kids.length) 0 (t.kids.length+1))
def kX (t:ae) (p:BA) (x:ae):ae×Bool:=
  cond (bM t) (fa t p x,true) (cond (t.kind==(4:Int)) (cond (decide (vn t p<(0:Int))) (eI,false) (dt t (vn t p) x,true)) (eI,false))
def kY:ae→List BA→ae→ae×Bool
 | _,[],_=>(eI,false)
 | t,[p],x=>kX t p x
 | t,p::q::r,x=>cond (decide (dq t p<(0:Int))) (eI,false)
   (cond (!((kY (ar (t:= .node) t.kids (Int.toNat (dq t p))) (q::r) x).2)) (eI,false) (pP t (dq t p) (kY (ar (t:= .node) t.kids (Int.toNat (dq t p))) (q::r) x).1,true))
def rJ (t:ae) (path:List BA) (x:ae):ae×Bool:=cond (!((kY t path x).2)) (t,false) ((kY t path x).1,true)
def dC (t:ae) (path:List BA) (x:ae):ae×Bool:=cond ((path.length:Int)==(0:Int)) (x,true) (rJ t path x)
theorem jt (t:ae) (p:BA) (r:List BA) (x:ae):dC t (p::r) x=rJ t (p::r) x:=by
 have:(((p::r).length:Int)==(0:Int))=false:=by rw [beq_eq_false_iff_ne,List.length_cons];omega
 unfold dC;rw [this];rfl
theorem DC (t:ae) (p:BA) (x:ae):dC t [p] x=cond ((kX t p x).2) ((kX t p x).1,true) (t,false):=by
 rw [jt]
 unfold rJ
 rw [kY]
 cases (kX t p x).2<;>rfl
theorem Hi (t:ae) (p q:BA) (r:List BA) (x:ae) (h:dq t p<0):dC t (p::q::r) x=(t,false):=by
 rw [jt]
 unfold rJ
 rw [kY,decide_eq_true h];rfl
theorem BI (t:ae) (p q:BA) (r:List BA) (x:ae) (h : ¬dq t p<0):
    dC t (p::q::r) x=cond ((dC (ar (t:= .node) t.kids (Int.toNat (dq t p))) (q::r) x).2) (pP t (dq t p) (dC (ar (t:= .node) t.kids (Int.toNat (dq t p))) (q::r) x).1,true) (t,false):=by
 rw [jt,jt]
 unfold rJ
 rw [kY,decide_eq_false h]
 simp only [cond_false]
 cases (kY (ar (t:= .node) t.kids (Int.toNat (dq t p))) (q::r) x).2<;>rfl
theorem vp {t:ae} {s:BA} {x:ae} (hm:bM t=true) (h:dL t s<0):fa t s x=putKey t (oN t.keys s) s x:=by
 unfold fa;rw [hm,decide_eq_true h];rfl
theorem vq {t:ae} {s:BA} {x:ae} (hm:bM t=true) (h : ¬dL t s<0):fa t s x=pP t (dL t s) x:=by
 unfold fa;rw [hm,decide_eq_false h];rfl
theorem zH {α:Type} (f:α→Nat) (xs:List α) (i:Int) (y:α):dw f (lG xs i [y])=dw f xs+1+f y:=by
 unfold lG
 conv=>rhs;rw [← List.take_append_drop i.toNat xs]
 rw [dM,dM,dM,cN]
 simp only [dw,List.length_nil,List.map_nil,List.sum_nil];omega
theorem zI {α:Type} {f:α→Bool} {xs:List α} (h:gh f xs=true) (i:Int) {y:α} (hy:f y=true) (hl:xs.length+1≤1048576):gh f (lG xs i [y])=true:=by
  have h':=h
  simp only [gh,Bool.and_eq_true] at h' ⊢
  refine ⟨?_,List.all_eq_true.2 fun x hx=> ?_⟩
  · have hlen:(lG xs i [y]).length=xs.length+1:=by
      unfold lG
      conv=>rhs;rw [← List.take_append_drop i.toNat xs]
      simp only [List.length_append,List.length_cons,List.length_nil];omega
    rw [hlen]
    first | exact decide_eq_true hl | exact Nat.ble_eq_true_of_le hl
  · unfold lG at hx
    rcases List.mem_append.1 hx with hx | hx
    · rcases List.mem_append.1 hx with hx | hx
      · exact List.all_eq_true.1 h'.2 x (List.mem_of_mem_take hx)
      · have:x=y:=by simpa using hx
        rw [this];exact hy
    · exact List.all_eq_true.1 h'.2 x (List.mem_of_mem_drop hx)
theorem Hj {t x:ae} {k:Int} {s:BA} (h:ak t=true) (hs:c8 s=true) (hx:ak x=true) (hk:t.keys.length+1≤1048576) (hd:t.kids.length+1≤1048576):
    ak (putKey t k s x)=true∧aw (putKey t k s x)=aw t+2+s.size+aw x:=by
 obtain ⟨h1,h2,h3,h4,h5⟩:=dr h
 constructor
 ·rw [bY]
  simp only [Bool.and_eq_true]
  exact ⟨h1,h2,h3,zI h4 k hs hk,zI h5 k hx hd⟩
 ·rw [aW,aW t]
  have e1:=zH ByteArray.size t.keys k s
  have e2:=zH aw t.kids k x
  show t.s.size+dw ByteArray.size (lG t.keys k [s])+dw aw (lG t.kids k [x])=_
  omega
theorem Hk {t x:ae} {k:Int} (h:ak t=true) (hx:ak x=true) (hd:t.kids.length+1≤1048576):
    ak (dt t k x)=true∧aw (dt t k x)=aw t+1+aw x:=by
 obtain ⟨h1,h2,h3,h4,h5⟩:=dr h
 constructor
 ·rw [bY]
  simp only [Bool.and_eq_true]
  exact ⟨h1,h2,h3,h4,zI h5 k hx hd⟩
 ·rw [aW,aW t]
  have e2:=zH aw t.kids k x
  show t.s.size+dw ByteArray.size t.keys+dw aw (lG t.kids k [x])=_
  omega
theorem Kb {α:Type} {f:α→Nat} {xs:List α} {i:Nat} {x y:α} (h:xs[i]? =some x):dw f (xs.set i y)+f x=dw f xs+f y:=by
 rw [List.set_eq_take_append_cons_drop,if_pos (aY h)]
 conv=>rhs;rw [vm h]
 rw [dM,dM,cN,cN];omega
theorem vt {t x y:ae} {i:Nat} (h:ak t=true) (hx:t.kids[i]? =some x) (hy:ak y=true):ak (pP t (i:Int) y)=true∧aw (pP t (i:Int) y)+aw x=aw t+aw y:=by
 obtain ⟨h1,h2,h3,h4,h5⟩:=dr h
 constructor
 ·rw [bY]
  simp only [Bool.and_eq_true]
  exact ⟨h1,h2,h3,h4,zG h5 _ hy⟩
 ·rw [aW (pP t (i:Int) y),aW t]
  have e2:=Kb (f:=aw) (y:=y) hx
  show t.s.size+dw ByteArray.size t.keys+dw aw (t.kids.set (Int.toNat (i:Int)) y)+_=_
  rw [Int.toNat_natCast]
  omega
theorem jd {t:ae}:t.keys.length≤aw t∧t.kids.length≤aw t:=by
 rw [aW t]
 have e1:dw ByteArray.size t.keys=t.keys.length+(t.keys.map ByteArray.size).sum:=rfl
 have e2:dw aw t.kids=t.kids.length+(t.kids.map aw).sum:=rfl
 omega
theorem zJ {t x:ae} {s:BA} (h:ak t=true) (hs:c8 s=true) (hx:ak x=true) (hz:aw t+1≤1048576):
    ak (fa t s x)=true∧aw (fa t s x)≤aw t+2+s.size+aw x:=by
 have hl:= @jd t
 cases hm:bM t
 ·unfold fa;rw [hm];exact ⟨h,by simp only [cond_false];omega⟩
 by_cases hk:dL t s<0
 ·rw [vp hm hk]
  have:=Hj (k:=oN t.keys s) h hs hx (by omega) (by omega)
  exact ⟨this.1,by omega⟩
 ·rw [vq hm hk]
  obtain ⟨i,e,h1,h2⟩:=BG t s hk
  rw [e]
  have:=vt h (List.getElem?_eq_getElem h2) hx
  exact ⟨this.1,by omega⟩
theorem DD {t x:ae} {s:BA} (h:ak t=true) (hs:c8 s=true) (hx:ak x=true) (hz:aw t+1≤1048576):
    ak (kX t s x).1=true∧aw (kX t s x).1≤aw t+2+s.size+aw x:=by
 have hl:= @jd t
 have tR:ak eI=true∧aw eI≤aw t+2+s.size+aw x:=⟨by decide,by have:=(rI t).2;omega⟩
 unfold kX
 cases bM t
 ·cases t.kind==(4:Int)
  ·exact tR
  ·by_cases hk:vn t s<0
   ·rw [decide_eq_true hk];exact tR
   ·rw [decide_eq_false hk]
    have:=Hk (k:=vn t s) h hx (by omega)
    exact ⟨this.1,by simp only [cond_true,cond_false];omega⟩
 ·exact zJ h hs hx hz
theorem BJ:∀(path:List BA) (t x:ae),ak t=true→gh c8 path=true→ak x=true→aw t+1≤1048576→ak (kY t path x).1=true∧aw (kY t path x).1≤aw t+1+dw ByteArray.size path+aw x
 | [],t,x,_,_,_,_=>⟨(by decide:ak eI=true),by have:=(rI t).2;show aw eI≤_;omega⟩
 | [p],t,x,h,hp,hx,hz=>by
  rw [kY]
  have:=DD h (BF hp) hx hz
  have e:dw ByteArray.size [p]=1+p.size:=by rw [cN];rfl
  exact ⟨this.1,by omega⟩
 | p::q::r,t,x,h,hp,hx,hz=>by
  rw [kY]
  have e:dw ByteArray.size (p::q::r)=1+p.size+dw ByteArray.size (q::r):=cN _ _ _
  have tR:ak eI=true∧aw eI≤aw t+1+dw ByteArray.size (p::q::r)+aw x:=⟨by decide,by have:=(rI t).2;omega⟩
  by_cases hk:dq t p<0
  ·rw [decide_eq_true hk];exact tR
  ·rw [decide_eq_false hk]
   simp only [cond_false]
   obtain ⟨i,e1,hi⟩:=BH hk
   rw [e1,Int.toNat_natCast]
   have Ik:=c9 (t:= .node) hi
   have hm:=List.mem_of_getElem? Ik
   have ff:=Fg hm
   have ih:=BJ (q::r) (ar (t:= .node) t.kids i) x (iK h hm) (BE hp) hx (by omega)
   cases (kY (ar (t:= .node) t.kids i) (q::r) x).2
   ·exact tR
   ·have:=vt h Ik ih.1
    exact ⟨this.1,by simp only [Bool.not_true,cond_false];omega⟩
theorem Hl {t x:ae} {path:List BA} (h:ak t=true) (hp:gh c8 path=true) (hx:ak x=true) (hz:aw t+dw ByteArray.size path≤1048576):
    ak (dC t path x).1=true∧aw (dC t path x).1≤aw t+1+dw ByteArray.size path+aw x:=by
 cases path with
 | nil=>exact ⟨hx,by show aw x≤_;omega⟩
 | cons p r=>
  rw [jt]
  unfold rJ
  have e:dw ByteArray.size (p::r)=1+p.size+dw ByteArray.size r:=cN _ _ _
  have:=BJ (p::r) t x h hp hx (by omega)
  cases (kY t (p::r) x).2
  ·exact ⟨h,by simp only [Bool.not_false,cond_true];omega⟩
  ·exact this
def gP (t:ae) (path:List BA) (x:ae):Bool:=ak t&&(gh c8 path&&ak x)
def zK (t:ae) (s:BA) (x:ae):Bool:=ak t&&(c8 s&&ak x)
def qA (t:ae) (k:Int) (x:ae):Bool:=ak t&&(ak x&&(decide (0≤k)&&decide (k≤(t.kids.length:Int))))
def qB (t:ae) (p:BA) (x:ae):ae×Bool:=dC t [p] x
theorem yg {α:Type} {xs:List α} (h:xs.length≤1048576) (i:Nat):Nat.ble ((xs.take i).length+1) bT=true:=Nat.ble_eq_true_of_le (by
  have:(bT:Nat)=4294967296:=rfl
  rw [List.length_take];omega)
theorem rK {α:Type} {xs:List α} (h:xs.length≤1048576) (i j:Nat) (y:α):Nat.ble ((xs.take i++[y]).length+(xs.drop j).length) bT=true:=Nat.ble_eq_true_of_le (by
  have:(bT:Nat)=4294967296:=rfl
  simp only [List.length_append,List.length_take,List.length_drop,List.length_cons,List.length_nil];omega)
theorem adg {n:Int} (h:(n==(5:Int))=true):(n !=(4:Int))=true∧(n==(4:Int))=false:=by
 have:=eq_of_beq h
 subst this;exact ⟨rfl,rfl⟩
theorem BK:∀l:List UInt8,Op.bytesLess l l=false
 | []=>rfl
 | a::l=>by
  have h:decide (a<a)=false:=decide_eq_false (by simp)
  simp [Op.bytesLess,BK l,h]
theorem Fi:∀ {a b c:List UInt8},Op.bytesLess a b=true→Op.bytesLess b c=true→Op.bytesLess a c=true
 | _,[],_,h,_=>by cases ‹List UInt8› <;>simp [Op.bytesLess] at h
 | _,_::_,[],_,h=>by simp [Op.bytesLess] at h
 | [],_::_,_::_,_,_=>rfl
 | x::a,y::b,z::c,h1,h2=>by
  simp only [Op.bytesLess,Bool.or_eq_true,Bool.and_eq_true,decide_eq_true_eq,beq_iff_eq] at h1 h2 ⊢
  rcases h1 with h1 | ⟨rfl,h1⟩<;>rcases h2 with h2 | ⟨rfl,h2⟩
  ·exact .inl (UInt8.lt_trans h1 h2)
  ·exact .inl h1
  ·exact .inl h2
  ·exact .inr ⟨rfl,Fi h1 h2⟩
theorem BL:∀ {a b:List UInt8},Op.bytesLess a b=false→a≠b→Op.bytesLess b a=true
 | [],[],_,h=>absurd rfl h
 | [],_::_,h,_=>by simp [Op.bytesLess] at h
 | _::_,[],_,_=>rfl
 | x::a,y::b,h,hn=>by
  simp only [Op.bytesLess,Bool.or_eq_false_iff,Bool.and_eq_false_iff,decide_eq_false_iff_not,beq_eq_false_iff_ne] at h
  simp only [Op.bytesLess,Bool.or_eq_true,Bool.and_eq_true,decide_eq_true_eq,beq_iff_eq]
  by_cases e:x=y
  ·subst e
   refine .inr ⟨rfl,BL (h.2.resolve_left (fun h=>h rfl)) fun e=>hn (by rw [e])⟩
  ·have h1:=h.1
   have h1 : ¬x.toNat<y.toNat:=h1
   have h2:x.toNat≠y.toNat:=fun h=>e (UInt8.toNat_inj.1 h)
   exact .inl (show y.toNat<x.toNat by omega)
theorem Kc {a b:BA} (h:a≠b):a.toList≠b.toList:=fun e=>h (by
  apply kQ.1;unfold eC;rw [e];exact beq_self_eq_true _)
theorem Fj (a:BA):lq a a=false:=BK _
theorem DE {a b c:BA} (h1:lq a b=true) (h2:lq b c=true):lq a c=true:=Fi h1 h2
theorem Qy {a b:BA} (h:lq a b=false) (hn:a≠b):lq b a=true:=BL h (Kc hn)
def Fk (ks:List BA):Prop:=ks.Pairwise fun a b=>lq a b=true
theorem Fk.inj {ks:List BA} (h:Fk ks) {i j:Nat} {a:BA} (hi:ks[i]? =some a) (hj:ks[j]? =some a):i=j:=by
 have hp:=List.pairwise_iff_getElem.1 h
 obtain ⟨h1,e1⟩:=List.getElem?_eq_some_iff.1 hi
 obtain ⟨h2,e2⟩:=List.getElem?_eq_some_iff.1 hj
 rcases Nat.lt_trichotomy i j with ct | heq | ct
 ·have:=hp i j h1 h2 ct
  rw [e1,e2,Fj] at this;cases this
 ·exact heq
 ·have:=hp j i h2 h1 ct
  rw [e1,e2,Fj] at this;cases this
inductive Wf:ae→Prop where
 | mk {t:ae} (h5:t.kind=5→t.keys.length=t.kids.length∧Fk t.keys) (h0:t.kind≠4→t.kind≠5→t.kids=[]) (hk:t.kind≠5→t.keys=[]) (hs:∀x∈t.kids,Wf x):Wf t
theorem Wf.map {t:ae} (h:Wf t):t.kind=5→t.keys.length=t.kids.length∧Fk t.keys:=by cases h;assumption
theorem Wf.VK {t:ae} (h:Wf t):t.kind≠5→t.keys=[]:=by cases h;assumption
theorem Wf.kids {t:ae} (h:Wf t):∀x∈t.kids,Wf x:=by cases h;assumption
theorem Wf.Fl (t:ae) (h:t.kids=[]) (h':t.keys=[]):Wf t:= .mk (fun _=>by rw [h,h'];exact ⟨rfl,List.Pairwise.nil⟩) (fun _ _=>h) (fun _=>h') (by rw [h];simp)
theorem Wf.Zs {t:ae} (h:Wf t) (hk:t.kind=5):bM t=true:=by
 unfold bM
 rw [hk]
 have:=(h.map hk).1
 simp [this]
theorem zL (keys:List BA) (key:BA):∃i:Nat,oN keys key=(i:Int)∧i≤keys.length∧(∀ j a,j<i→keys[j]? =some a→lq a key=true)∧∀a,keys[i]? =some a→lq a key=false:=by
 unfold oN
 cases hf:cC (fun j=> !(lq (ar (t:= .str) keys j) key)) 0 keys.length with
 | none=>
  refine ⟨keys.length,rfl,Nat.le_refl _,fun j a hj ha=> ?_,fun a ha=>by simp at ha⟩
  have:=kT hf j (by omega) (by omega)
  rw [bz (t:= .str) ha] at this
  simpa using this
 | some i=>
  obtain ⟨h1,h2,h3,h4⟩:=nR hf
  refine ⟨i,rfl,by omega,fun j a hj ha=> ?_,fun a ha=> ?_⟩
  ·have:=h4 j (by omega) hj
   rw [bz (t:= .str) ha] at this
   simpa using this
  ·rw [bz (t:= .str) ha] at h3
   simpa using h3
theorem Fk.ins {keys:List BA} {key:BA} (h:Fk keys) (hn:key ∉ keys) {i:Nat} (h1:∀j a,j<i→keys[j]? =some a→lq a key=true) (h2:∀a,keys[i]? =some a→lq a key=false):
    Fk (keys.take i++[key]++keys.drop i):=by
 unfold Fk at *
 rw [List.append_assoc,List.pairwise_append]
 have hd:(keys.drop i).Pairwise fun a b=>lq a b=true:=h.sublist (List.drop_sublist _ _)
 have ht:(keys.take i).Pairwise fun a b=>lq a b=true:=h.sublist (List.take_sublist _ _)
 have ct:∀a∈keys.take i,lq a key=true:=fun a ha=>by
  obtain ⟨j,hj⟩:=List.getElem?_of_mem ha
  rw [List.getElem?_take] at hj
  split at hj
  ·exact h1 j a (by assumption) hj
  ·cases hj
 have Ey:∀b∈keys.drop i,lq key b=true:=fun b hb=>by
  obtain ⟨j,hj⟩:=List.getElem?_of_mem hb
  rw [List.getElem?_drop] at hj
  have ct:i<keys.length:=by
   have:=(List.getElem?_eq_some_iff.1 hj).1
   omega
  have hi:=List.getElem?_eq_getElem ct
  have mL:lq key keys[i]=true:=Qy (h2 _ hi) fun e=>hn (e▸List.getElem_mem ct)
  cases j with
  | zero=>rw [Nat.add_zero,hi] at hj;cases hj;exact mL
  | succ j=>
   obtain ⟨h3,e3⟩:=List.getElem?_eq_some_iff.1 hj
   have:=List.pairwise_iff_getElem.1 h i (i+(j+1)) ct h3 (by omega)
   rw [e3] at this
   exact DE mL this
 refine ⟨ht,List.pairwise_append.2 ⟨List.pairwise_singleton _ _,hd,fun a ha b hb=> ?_⟩,fun a ha b hb=> ?_⟩
 ·simp only [List.mem_singleton] at ha;subst ha;exact Ey b hb
 ·rcases List.mem_append.1 hb with hb | hb
  ·simp only [List.mem_singleton] at hb;subst hb;exact ct a ha
  ·exact DE (ct a ha) (Ey b hb)
theorem DF {t:ae} {s:BA} (hm:bM t=true) (h:dL t s<0):s ∉ t.keys:=by
 intro hs
 obtain ⟨h5,hl⟩:=gj hm
 obtain ⟨j,hj⟩:=List.getElem?_of_mem hs
 have hjl:=aY hj
 unfold dL at h
 rw [h5,cond_true,hl,Nat.min_self] at h
 cases hf:cC (fun j=>eC (ar (t:= .str) t.keys j) s) 0 t.kids.length with
 | none=>
  have:=kT hf j (by omega) (by omega)
  rw [bz (t:= .str) hj,u6] at this
  cases this
 | some i=>rw [hf] at h;simp [zE] at h;omega
theorem Kd {α:Type} {xs:List α} {i:Int} {y x:α} (h:x∈lG xs i [y]):x=y∨x∈xs:=by
 unfold lG at h
 simp only [List.append_assoc,List.mem_append,List.mem_singleton] at h
 rcases h with h | h | h
 ·exact .inr (List.mem_of_mem_take h)
 ·exact .inl h
 ·exact .inr (List.mem_of_mem_drop h)
theorem BM {α:Type} (xs:List α) (i:Int) (y:α):(lG xs i [y]).length=xs.length+1:=by
 unfold lG
 simp only [List.length_append,List.length_take,List.length_drop,List.length_cons,List.length_nil];omega
theorem Qz {t x:ae} {s:BA} (h:Wf t) (hx:Wf x) (hk:t.kind=5):Wf (fa t s x)∧(fa t s x).kind=5:=by
 have hm:=h.Zs hk
 obtain ⟨hl,ha⟩:=h.map hk
 by_cases hs:dL t s<0
 ·rw [vp hm hs]
  obtain ⟨i,e,hi,h1,h2⟩:=zL t.keys s
  rw [e]
  refine ⟨.mk (fun _=>⟨?_,?_⟩) (fun _ h5=>absurd hk h5) (fun h5=>absurd hk h5) fun y hy=> ?_,hk⟩
  ·show (lG t.keys (i:Int) [s]).length=(lG t.kids (i:Int) [x]).length
   rw [BM,BM,hl]
  ·show Fk (lG t.keys (i:Int) [s])
   unfold lG
   rw [Int.toNat_natCast]
   exact ha.ins (DF hm hs) h1 h2
  ·rcases Kd hy with rfl | hy
   ·exact hx
   ·exact h.kids y hy
 ·rw [vq hm hs]
  refine ⟨.mk (fun _=>⟨?_,ha⟩) (fun _ h5=>absurd hk h5) (fun h5=>absurd hk h5) fun y hy=> ?_,hk⟩
  ·show t.keys.length=(t.kids.set _ x).length
   rw [List.length_set];exact hl
  ·rcases List.mem_or_eq_of_mem_set hy with hy | rfl
   ·exact h.kids y hy
   ·exact hx
theorem QA {t x:ae} (h:Wf t) (hx:Wf x) (hk:t.kind=4):Wf ⟨t.kind,t.n,t.s,t.keys,t.kids++[x]⟩:=
  .mk (fun h5=>absurd (hk.symm.trans h5) (by decide)) (fun h4 _=>absurd hk h4) (fun h5=>h.VK h5) fun y hy=>by
    rcases List.mem_append.1 hy with hy | hy
    · exact h.kids y hy
    · simp only [List.mem_singleton] at hy;subst hy;exact hx
def GT (k:Nat) (t:ae):Prop:=ak t=true∧aw t≤100*4^k∧Wf t
theorem GT.mono {k m:Nat} (h:k≤m) {t:ae} (hg:GT k t):GT m t:=
 ⟨hg.1,Nat.le_trans hg.2.1 (Nat.mul_le_mul_left _ (Nat.pow_le_pow_right (by decide) h)),hg.2.2⟩
theorem oO (k:Nat) {kind n:Int} {s:BA} (hk:gL kind=true) (hn:gL n=true) (hs:s.size≤100):GT k ⟨kind,n,s,[],[]⟩:=by
 refine ⟨?_,?_,Wf.Fl _ rfl rfl⟩
 ·simp only [ak,hk,hn,kq (show s.size≤1048576 by omega),gh,mg,List.length_nil,List.all_nil,Bool.true_and];rfl
 ·have:100*1≤100*4^k:=Nat.mul_le_mul_left _ (Nat.one_le_pow _ _ (by decide))
  rw [aW]
  simp only [dw,List.map_nil,List.sum_nil,List.length_nil];omega
theorem vu {t:ae} (h1:gL t.kind=true) (h2:gL t.n=true) (h3:c8 t.s=true) (h4:gh c8 t.keys=true) (h5:gh ak t.kids=true):ak t=true:=by
 obtain ⟨kind,n,s,keys,kids⟩:=t
 unfold gh at h5
 simp only [Bool.and_eq_true] at h5
 simp only [ak,Bool.and_eq_true]
 exact ⟨h1,h2,h3,h4,h5.1,by rw [nV];exact h5.2⟩
theorem QB {t x:ae} (h:ak t=true) (hx:ak x=true) (hz:t.kids.length+1≤1048576):
    ak ⟨t.kind,t.n,t.s,t.keys,t.kids++[x]⟩=true∧aw ⟨t.kind,t.n,t.s,t.keys,t.kids++[x]⟩=aw t+1+aw x:=by
 obtain ⟨h1,h2,h3,h4,h5⟩:=dr h
 refine ⟨vu h1 h2 h3 h4 (qy h5 hx (by omega)),?_⟩
 rw [aW,aW t,dM]
 simp only [dw,List.map_cons,List.map_nil,List.sum_cons,List.sum_nil,List.length_cons,List.length_nil];omega
def vv (b:Bool):ae:=⟨1,o3 b,ByteArray.empty,[],[]⟩
def DG (n:Int):ae:=⟨2,n,ByteArray.empty,[],[]⟩
def vx (s:BA):ae:=⟨3,0,s,[],[]⟩
theorem BN (k:Nat) (b:Bool):GT k (vv b):=oO k rfl (by cases b<;>rfl) (by decide)
theorem Fm (k:Nat) {n:Int} (h:gL n=true):GT k (DG n):=oO k rfl h (by decide)
theorem BO (k:Nat) {s:BA} (h:s.size≤8):GT k (vx s):=oO k rfl rfl (by omega)
def n7 (t:ae) (x:Int):ae:=⟨x,t.n,t.s,t.keys,t.kids⟩
def wN (t:ae) (x:Int):ae:=⟨t.kind,x,t.s,t.keys,t.kids⟩
def wS (t:ae) (x:BA):ae:=⟨t.kind,t.n,x,t.keys,t.kids⟩
def n8 (t:ae) (x:List BA):ae:=⟨t.kind,t.n,t.s,x,t.kids⟩
def wK (t:ae) (x:List ae):ae:=⟨t.kind,t.n,t.s,t.keys,x⟩
def rL (t:ae):Bool:=ak t&&Nat.ble (aw t) 6400
def nh (d:Nat) (t:ae):Bool:=ak t&&Nat.ble (aw t) (6500*(d+1))
theorem gM {t:ae}:rL t=true↔ak t=true∧aw t≤6400:=by unfold rL;rw [Bool.and_eq_true,Nat.ble_eq]
theorem ek {d:Nat} {t:ae}:nh d t=true↔ak t=true∧aw t≤6500*(d+1):=by unfold nh;rw [Bool.and_eq_true,Nat.ble_eq]
theorem GT.rL {t:ae} (h:GT 3 t):rL t=true:=gM.2 ⟨h.1,h.2.1⟩
theorem ju (p:Path):xy p p=true:=yO.2 rfl
theorem jv {t:ae} (h:rL t=true):Nat.ble (t.keys.length+1) bT=true:=Nat.ble_eq_true_of_le (by
  have h1:=(gM.1 h).2;have:=(@jd t).1;have:(bT:Nat)=4294967296:=rfl;omega)
theorem jx {t:ae} (h:rL t=true):Nat.ble (t.kids.length+1) bT=true:=Nat.ble_eq_true_of_le (by
  have h1:=(gM.1 h).2;have:=(@jd t).2;have:(bT:Nat)=4294967296:=rfl;omega)
theorem kZ {α:Type} (xs:List α) (x:α):(decide ((0:Int)≤(xs.length:Int))&&decide ((xs.length:Int)<((xs++[x]).length:Int)))=true:=by
 rw [decide_eq_true (by omega),decide_eq_true (by simp;omega)];rfl
theorem pQ {α:Type} (f:α→Nat):∀(xs:List α) (i:Nat) (y:α),dw f (xs.set i y)≤dw f xs+f y
 | [],i,y=>by simp [dw]
 | x::xs,0,y=>by simp only [List.set_cons_zero,cN];omega
 | x::xs,i+1,y=>by have:=pQ f xs i y;simp only [List.set_cons_succ,cN];omega
theorem n9 {d:Nat} {t:ae} (h:rL t=true):nh d t=true:=by
 obtain ⟨h1,h2⟩:=gM.1 h
 exact ek.2 ⟨h1,by omega⟩
theorem k6 {d:Nat} {t y:ae} {i:Nat} (h:rL t=true) (hy:nh d y=true):nh (d+1) ⟨t.kind,t.n,t.s,t.keys,t.kids.set i y⟩=true:=by
 obtain ⟨h1,h2⟩:=gM.1 h
 obtain ⟨h3,h4⟩:=ek.1 hy
 obtain ⟨a1,a2,a3,a4,a5⟩:=dr h1
 refine ek.2 ⟨vu a1 a2 a3 a4 (zG a5 i h3),?_⟩
 have:=pQ aw t.kids i y
 rw [aW] at h2 ⊢
 simp only at this ⊢
 omega
theorem jy {d:Nat} {t:ae} {k:Int} (h:rL t=true) (hk:gL k=true):nh d ⟨k,t.n,t.s,t.keys,t.kids⟩=true:=by
 obtain ⟨h1,h2⟩:=gM.1 h
 obtain ⟨a1,a2,a3,a4,a5⟩:=dr h1
 refine ek.2 ⟨vu hk a2 a3 a4 a5,?_⟩
 rw [aW] at h2 ⊢
 simp only at h2 ⊢;omega
theorem sB {d:Nat} {t:ae} {k:Int} (h:rL t=true) (hk:gL k=true):nh d ⟨t.kind,k,t.s,t.keys,t.kids⟩=true:=by
 obtain ⟨h1,h2⟩:=gM.1 h
 obtain ⟨a1,a2,a3,a4,a5⟩:=dr h1
 refine ek.2 ⟨vu a1 hk a3 a4 a5,?_⟩
 rw [aW] at h2 ⊢
 simp only at h2 ⊢;omega
theorem sC {d:Nat} {t:ae} {s:BA} (h:rL t=true) (hs:Nat.ble s.size 50=true):nh d ⟨t.kind,t.n,s,t.keys,t.kids⟩=true:=by
 obtain ⟨h1,h2⟩:=gM.1 h
 obtain ⟨a1,a2,a3,a4,a5⟩:=dr h1
 have hs:=gw hs
 refine ek.2 ⟨vu a1 a2 (kq (show s.size≤1048576 by omega)) a4 a5,?_⟩
 rw [aW] at h2 ⊢
 simp only at h2 ⊢;omega
theorem jz {d:Nat} {t:ae} (h:rL t=true):nh d ⟨t.kind,t.n,t.s,t.keys++[bs [97]],t.kids⟩=true:=by
 obtain ⟨h1,h2⟩:=gM.1 h
 obtain ⟨a1,a2,a3,a4,a5⟩:=dr h1
 have:=(@jd t).1
 refine ek.2 ⟨vu a1 a2 a3 (qy a4 rfl (by omega)) a5,?_⟩
 rw [aW] at h2 ⊢
 simp only [dM,cN] at h2 ⊢
 have:dw ByteArray.size []=0:=rfl
 have:(bs [97]).size=1:=rfl
 omega
theorem jA {d:Nat} {t:ae} {i:Nat} (h:rL t=true):nh d ⟨t.kind,t.n,t.s,t.keys,(t.kids++[(⟨0,0,ByteArray.empty,[],[]⟩:ae)]).set i ⟨0,0,ByteArray.empty,[],[]⟩⟩=true:=by
 obtain ⟨h1,h2⟩:=gM.1 h
 obtain ⟨a1,a2,a3,a4,a5⟩:=dr h1
 have:=(@jd t).2
 have hz:ak ⟨0,0,ByteArray.empty,[],[]⟩=true:=by decide
 refine ek.2 ⟨vu a1 a2 a3 a4 (zG (qy a5 hz (by omega)) i hz),?_⟩
 have:=pQ aw (t.kids++[(⟨0,0,ByteArray.empty,[],[]⟩:ae)]) i ⟨0,0,ByteArray.empty,[],[]⟩
 have h0:aw ⟨0,0,ByteArray.empty,[],[]⟩=0:=rfl
 have e:dw aw []=0:=rfl
 rw [dM,cN,h0,e] at this
 rw [aW] at h2 ⊢
 simp only at this ⊢
 omega
end Go.Gm
namespace Go.Gm
open Go
variable {R : Type} {E : Env} {aJ : Nat → Kp} {n : Nat}
theorem mM (a b:Code) (st:St) (k:Kx R):ev E aJ n (.seq a b) st k=ev E aJ n a st (dS E aJ n b k):=rfl
theorem mN (b:Code) (k:Kx R) (st:St):dS E aJ n b k .normal st=ev E aJ n b st k:=rfl
theorem mO (b:Code) (k:Kx R) (st:St):dS E aJ n b k .ret st=k .ret st:=rfl
end Go.Gm
namespace Go.Gm
open Go
theorem Fk.lt {ks:List BA} (h:Fk ks) {i j:Nat} {a b:BA} (Im:i<j) (hi:ks[i]? =some a) (hj:ks[j]? =some b):lq a b=true:=by
 obtain ⟨h1,e1⟩:=List.getElem?_eq_some_iff.1 hi
 obtain ⟨h2,e2⟩:=List.getElem?_eq_some_iff.1 hj
 have:=List.pairwise_iff_getElem.1 h i j h1 h2 Im
 rw [e1,e2] at this;exact this
theorem qC (n:Nat):(fV n).length≤n+1:=by
 by_cases h:n<10
 ·rw [jb h];simp
 ·rw [mf h,List.length_append]
  have:=qC (n/10)
  simp only [List.length_cons,List.length_nil];omega
theorem DH (n:Nat):(cj (n:Int)).size≤n+1:=by
 rw [kr]
 show (fV n).toArray.size≤n+1
 rw [List.size_toArray];exact qC n
theorem Ke (x:ae):∀p∈aN x,dw ByteArray.size p≤2*aw x:=by
 rw [fX,aW]
 intro p hp
 rcases List.mem_cons.1 hp with rfl | hp
 ·show 0+0≤_;omega
 ·refine oM (Q:=fun p=>dw ByteArray.size p≤2*(x.s.size+dw ByteArray.size x.keys+dw aw x.kids)) _ _ _ _ (fun i y hy q hq=> ?_) p hp
  have yf:y∈x.kids:=List.mem_of_getElem? hy
  have h1:=Ke y q hq
  have hi:=aY hy
  have h2:x.kids.length+aw y≤dw aw x.kids:=by
   have:=vm hy
   have e:x.kids.length=(x.kids.take i).length+1+(x.kids.drop (i+1)).length:=by
    conv=>lhs;rw [this]
    rw [List.length_append,List.length_cons];omega
   rw [e,this,dM,cN]
   have a:=lF aw (x.kids.take i)
   have b:=lF aw (x.kids.drop (i+1))
   rw [← this]
   omega
  rw [cN]
  have hd:=DH (0+i)
  have hw:(sy x.kind x.keys (0+i)).size+1≤x.kids.length+1∨(sy x.kind x.keys (0+i)).size+1≤dw ByteArray.size x.keys:=by
   unfold sy
   cases x.kind==(5:Int)
   ·left;simp only [cond_false];omega
   by_cases hl:((0+i:Nat):Int)<(x.keys.length:Int)
   ·right
    rw [decide_eq_true hl]
    simp only [cond_true]
    have hg:=c9 (t:= .str) (xs:=x.keys) (i:=0+i) (by omega)
    have h3:=vm hg
    have h4:dw ByteArray.size x.keys=dw ByteArray.size (x.keys.take (0+i))+(1+(ar (t:= .str) x.keys (0+i)).size+dw ByteArray.size (x.keys.drop (0+i+1))):=by
     conv=>lhs;rw [h3]
     rw [dM,cN]
    omega
   ·left;rw [decide_eq_false hl];simp only [cond_true,cond_false];omega
  omega
termination_by ao x
decreasing_by exact bD yf
def BP (p:List BA):Bool:=gh c8 p&&Nat.ble (dw ByteArray.size p) 52200
theorem vy {p:List BA}:BP p=true↔gh c8 p=true∧dw ByteArray.size p≤52200:=by unfold BP;rw [Bool.and_eq_true,Nat.ble_eq]
theorem QC {t:ae} (h:nh 3 t=true):Aw t=true:=by
 obtain ⟨h1,h2⟩:=ek.1 h
 have:=J' t
 simp only [Aw,h1,Bool.true_and]
 exact Nat.ble_eq_true_of_le (by omega)
theorem BQ (t:ae):0<((aN t).length:Int):=by rw [fX,List.length_cons];omega
theorem VL {t:ae} {p:List BA} (h:nh 3 t=true) (hp:p∈aN t):gh c8 p=true∧dw ByteArray.size p≤52000:=by
 obtain ⟨h1,h2⟩:=ek.1 h
 have h3:=Ke t p hp
 have h4:=lF ByteArray.size p
 refine ⟨?_,by omega⟩
 simp only [gh,pd t h1 p hp,Bool.and_true]
 exact Nat.ble_eq_true_of_le (by omega)
theorem QD {p:List BA} (h:gh c8 p=true∧dw ByteArray.size p≤52000):BP p=true:=vy.2 ⟨h.1,by omega⟩
theorem yh {p:List BA} {s:BA} (h:gh c8 p=true∧dw ByteArray.size p≤52000) (hs:s.size≤100):BP (p++[s])=true:=by
 refine vy.2 ⟨qy h.1 (kq (by omega)) (by have:=lF ByteArray.size p;omega),?_⟩
 rw [dM,cN]
 have:dw ByteArray.size []=0:=rfl
 omega
def bg (r:af) (s:BA):Int:=s5 r.keys s
def VM:af:=⟨(0:Int),([]:List BA),([]:List af),([]:List Bool),(0:Int),(0:Int)⟩
def bI (r:af) (s:BA):af×Bool:=cond (decide (bg r s<(0:Int))) (VM,false) (ar (t:= .aq) r.kids (Int.toNat (bg r s)),true)
theorem mP (r:af) (s:BA):bg r s=zE (cC (fun j=>eC (ar (t:= .str) r.keys j) s) 0 r.keys.length):=by
 unfold bg s5 yc
 congr 2
 funext j
 exact BD _ _
theorem je {r:af} {s:BA} (h : ¬bg r s<0):∃i:Nat,bg r s=(i:Int)∧i<r.keys.length:=by
 rw [mP] at h ⊢
 rcases zF (p:=fun j=>eC (ar (t:= .str) r.keys j) s) (n:=r.keys.length) with h1 | h1
 ·exact ⟨Int.toNat (zE (cC (fun j=>eC (ar (t:= .str) r.keys j) s) 0 r.keys.length)),by omega,by omega⟩
 ·omega
def jB (r:af):Bool:=cond (r.kind==(5:Int)) ((r.keys.length:Int)==(r.kids.length:Int)) (cond (r.kind==(4:Int)) (decide ((1:Int)≤(r.kids.length:Int))) true)
mutual
def rN:af→Bool
 | ⟨kind,keys,kids,need,low,high⟩=>jB ⟨kind,keys,kids,need,low,high⟩&&BR kids
def BR:List af→Bool
 | []=>true
 | x::xs=>rN x&&BR xs
end
theorem BS:∀xs:List af,BR xs=xs.all rN
 | []=>by simp [BR]
 | x::xs=>by rw [BR,BS xs,List.all_cons]
theorem kx (r:af):rN r=(jB r&&r.kids.all rN):=by cases r;rw [rN,BS]
theorem fl (r:af) (d:Int) (h:bS r d=true):rN r=true:=by
 rw [jm] at h
 simp only [Bool.and_eq_true] at h
 obtain ⟨_,hk,hs⟩:=h
 rw [kx,Bool.and_eq_true,List.all_eq_true]
 refine ⟨?_,fun x yf=>fl x (d-1) (List.all_eq_true.1 hk x yf)⟩
 unfold j7 at hs
 rw [Bool.and_eq_true] at hs
 have hs:=hs.2
 unfold jB
 cases h5:r.kind==(5:Int)
 ·rw [h5] at hs
  simp only [cond_false,Bool.and_eq_true] at hs ⊢
  cases h4:r.kind==(4:Int)
  ·rfl
  ·rw [h4] at hs
   have:=eq_of_beq hs.2.2
   have hb:o3 true=1:=rfl
   rw [hb] at this
   simp only [cond_true]
   exact decide_eq_true (by omega)
 ·rw [h5] at hs
  simp only [cond_true,Bool.and_eq_true] at hs ⊢
  exact hs.1
termination_by di r
decreasing_by exact n3 yf
mutual
def prune:ae→af→ae
 | ⟨kind,n,s,keys,kids⟩,r=>cond (bM ⟨kind,n,s,keys,kids⟩&&(r.kind==(5:Int))) ⟨kind,n,s,(bn r keys kids).1,(bn r keys kids).2⟩
   (cond ((kind==(4:Int))&&(r.kind==(4:Int))) ⟨kind,n,s,keys,gA (ar (t:= .aq) r.kids 0) kids⟩ ⟨kind,n,s,keys,kids⟩)
def gA (r:af):List ae→List ae
 | []=>[]
 | x::xs=>prune x r::gA r xs
def bn (r:af) (keys:List BA):List ae→List BA×List ae
 | []=>([],[])
 | x::xs=>cond (decide (bg r (ar (t:= .str) keys 0)<(0:Int))) (bn r (keys.drop 1) xs)
   (ar (t:= .str) keys 0::(bn r (keys.drop 1) xs).1,prune x (ar (t:= .aq) r.kids (Int.toNat (bg r (ar (t:= .str) keys 0))))::(bn r (keys.drop 1) xs).2)
end
theorem fm (t:ae) (r:af):prune t r=cond (bM t&&(r.kind==(5:Int))) ⟨t.kind,t.n,t.s,(bn r t.keys t.kids).1,(bn r t.keys t.kids).2⟩
 (cond ((t.kind==(4:Int))&&(r.kind==(4:Int))) ⟨t.kind,t.n,t.s,t.keys,gA (ar (t:= .aq) r.kids 0) t.kids⟩ t):=by
 cases t;rw [prune]
theorem ic (r:af):∀xs:List ae,gA r xs=xs.map fun x=>prune x r
 | []=>by rw [gA];rfl
 | x::xs=>by rw [gA,ic r xs,List.map_cons]
theorem BT {t:ae} (h:bM t=true):(t.kind==(4:Int))=false:=by
 have:=eq_of_beq (gj h).1
 rw [this];rfl
theorem sD {α R:Type} {xs:List α} {f:α→α} {F:Nat→Nat→List α→Option R} {good:List α→Option R}
 (hs:∀m (j:Nat) vr x,xs[j]? =some x→vr.length=xs.length→vr[j]? =some x→F (m+1) j vr=F m (j+1) (vr.set j (f x))) (he:∀m vr,vr.length=xs.length→F (m+1) xs.length vr=good vr):
    ∀(d j m:Nat),j+d=xs.length→d<m→F m j ((xs.take j).map f++xs.drop j)=good (xs.map f):=by
 intro d
 induction d with
 | zero=>
  intro j m hj hm
  obtain ⟨m,rfl⟩:∃m',m=m'+1:=⟨m-1,by omega⟩
  have:j=xs.length:=by omega
  subst this
  rw [List.drop_length,List.append_nil,List.take_length]
  exact he m _ (by simp)
 | succ d ih=>
  intro j m hj hm
  obtain ⟨m,rfl⟩:∃m',m=m'+1:=⟨m-1,by omega⟩
  obtain ⟨x,hx,hd⟩:=cL (show j<xs.length by omega)
  have hlen:((xs.take j).map f).length=j:=by simp;omega
  rw [hs m j _ x hx (by simp;omega) (by rw [List.getElem?_append_right (by omega),hlen,Nat.sub_self,hd];rfl)]
  rw [← ih (j+1) m (by omega) (by omega)]
  congr 1
  rw [hd,List.set_append_right _ _ (by omega),hlen,Nat.sub_self,List.set_cons_zero,List.take_add_one,hx]
  simp
theorem vz {R:Type} {r:af} {keys:List BA} {kids:List ae} (hl:keys.length=kids.length) {F:Nat→Nat→List BA→List ae→Option R} {good:List BA→List ae→Option R}
 (hs:∀m (j:Nat) a b key x,keys[j]? =some key→kids[j]? =some x→a.length≤j→b.length≤j→F (m+1) j a b=cond (decide (bg r key<(0:Int))) (F m (j+1) a b) (F m (j+1) (a++[key]) (b++[prune x (ar (t:= .aq) r.kids (Int.toNat (bg r key)))])))
 (he:∀m a b,F (m+1) keys.length a b=good a b):
    ∀(d j m:Nat) (a:List BA) (b:List ae),j+d=keys.length→d<m→a.length≤j→b.length≤j→F m j a b=good (a++(bn r (keys.drop j) (kids.drop j)).1) (b++(bn r (keys.drop j) (kids.drop j)).2):=by
 intro d
 induction d with
 | zero=>
  intro j m a b hj hm _ _
  obtain ⟨m,rfl⟩:∃m',m=m'+1:=⟨m-1,by omega⟩
  have:j=keys.length:=by omega
  subst this
  rw [he,hl,List.drop_length,bn,List.append_nil,List.append_nil]
 | succ d ih=>
  intro j m a b hj hm ha hb
  obtain ⟨m,rfl⟩:∃m',m=m'+1:=⟨m-1,by omega⟩
  obtain ⟨key,hk,hkd⟩:=cL (show j<keys.length by omega)
  obtain ⟨x,hx,hd⟩:=cL (show j<kids.length by omega)
  have e0:ar (t:= .str) (key::keys.drop (j+1)) 0=key:=rfl
  rw [hs m j a b key x hk hx ha hb,hd,hkd,bn,e0]
  cases decide (bg r key<(0:Int))
  ·simp only [cond_false]
   rw [ih (j+1) m _ _ (by omega) (by omega) (by simp;omega) (by simp;omega)]
   simp
  ·simp only [cond_true]
   rw [ih (j+1) m _ _ (by omega) (by omega) (by omega) (by omega)]
   rfl
theorem yi (r:af):∀(kids:List ae) (keys:List BA),(∀ x∈kids,∀q,ak (prune x q)=true∧aw (prune x q)≤aw x)→keys.length=kids.length→keys.all c8=true→
 (bn r keys kids).1.length≤keys.length∧(bn r keys kids).2.length≤kids.length∧(bn r keys kids).1.all c8=true∧(bn r keys kids).2.all ak=true∧
      dw ByteArray.size (bn r keys kids).1≤dw ByteArray.size keys∧dw aw (bn r keys kids).2≤dw aw kids
 | [],keys,_,_,_=>by simp [bn,dw]
 | x::xs,keys,h,hl,ha=>by
  obtain ⟨key,keys,rfl⟩:∃k r,keys=k::r:=by
   cases keys with
   | nil=>simp at hl
   | cons k r=>exact ⟨k,r,rfl⟩
  have e0:ar (t:= .str) (key::keys) 0=key:=rfl
  rw [List.all_cons,Bool.and_eq_true] at ha
  obtain ⟨i1,i2,i3,i4,i5,i6⟩:=yi r xs keys (fun y hy=>h y (by simp [hy])) (by simpa using hl) ha.2
  rw [bn,e0,List.drop_one,List.tail_cons]
  cases decide (bg r key<(0:Int))
  ·obtain ⟨h1,h2⟩:=h x (by simp) (ar (t:= .aq) r.kids (Int.toNat (bg r key)))
   simp only [cond_false,List.length_cons,List.all_cons,Bool.and_eq_true,cN]
   exact ⟨by omega,by omega,⟨ha.1,i3⟩,⟨h1,i4⟩,by omega,by omega⟩
  ·simp only [cond_true,List.length_cons,cN]
   exact ⟨by omega,by omega,i3,i4,by omega,by omega⟩
theorem BU (t:ae) (r:af) (h:ak t=true):ak (prune t r)=true∧aw (prune t r)≤aw t:=by
 have ih:∀x∈t.kids,∀q,ak (prune x q)=true∧aw (prune x q)≤aw x:=fun x yf q=>BU x q (iK h yf)
 obtain ⟨h1,h2,h3,h4,h5⟩:=dr h
 rw [fm]
 cases hm:bM t&&(r.kind==(5:Int))
 ·simp only [cond_false]
  cases (t.kind==(4:Int))&&(r.kind==(4:Int))
  ·exact ⟨h,Nat.le_refl _⟩
  ·simp only [cond_true]
   have hl:=bp h5
   have e:∀l:List ae,(∀ x∈l,∀q,ak (prune x q)=true∧aw (prune x q)≤aw x)→(gA (ar (t:= .aq) r.kids 0) l).all ak=true∧dw aw (gA (ar (t:= .aq) r.kids 0) l)≤dw aw l:=by
    intro l
    induction l with
    | nil=>intro _;rw [gA];exact ⟨rfl,Nat.le_refl _⟩
    | cons x xs ihl=>
     intro hx
     obtain ⟨a1,a2⟩:=hx x (by simp) (ar (t:= .aq) r.kids 0)
     obtain ⟨b1,b2⟩:=ihl fun y hy=>hx y (by simp [hy])
     rw [gA,List.all_cons,a1,b1,cN,cN]
     exact ⟨rfl,by omega⟩
   obtain ⟨e1,e2⟩:=e t.kids ih
   constructor
   ·rw [bY]
    simp only [Bool.and_eq_true,gh]
    exact ⟨h1,h2,h3,by simpa only [gh,Bool.and_eq_true] using h4,Nat.ble_eq_true_of_le (by rw [ic,List.length_map];exact hl),e1⟩
   ·rw [aW,aW t];simp only;omega
 ·rw [Bool.and_eq_true] at hm
  have hlen:=(gj hm.1).2
  obtain ⟨i1,i2,i3,i4,i5,i6⟩:=yi r t.kids t.keys ih hlen (kS h4)
  have l1:=bp h4
  have l2:=bp h5
  simp only [cond_true]
  constructor
  ·rw [bY]
   simp only [Bool.and_eq_true,gh]
   exact ⟨h1,h2,h3,⟨Nat.ble_eq_true_of_le (by omega),i3⟩,Nat.ble_eq_true_of_le (by omega),i4⟩
  ·rw [aW,aW t];simp only;omega
termination_by ao t
decreasing_by exact bD yf
def aG (t:ae) (r:af):ae:=cond (e9 r) (prune t r) t
theorem Hm {t:ae} {r:af} (h:ak t=true):ak (aG t r)=true∧aw (aG t r)≤aw t:=by
 unfold aG
 cases e9 r
 ·exact ⟨h,Nat.le_refl _⟩
 ·exact BU t r h
def BV (r:af) (_:BA):Bool:=bm r&&decide ((r.keys.length:Int)≤(r.kids.length:Int))
def tp (t:ae) (r:af):Bool:=ak t&&(bm r&&rN r)
theorem zM {r x:af} (hs:bm r=true) (h:x∈r.kids):bm x=true:=by
 rw [bL] at hs
 simp only [Bool.and_eq_true] at hs
 exact List.all_eq_true.1 (kS hs.2.2.1) x h
theorem qD {r x:af} (hs:rN r=true) (h:x∈r.kids):rN x=true:=by
 rw [kx,Bool.and_eq_true] at hs
 exact List.all_eq_true.1 hs.2 x h
section
variable (pt : List BA → BA)
def within (n low high:Int):Bool:=decide (low≤n)&&decide (n≤high)
def gN (kind n:Int) (s:BA) (len:Nat) (r:af):Bool:=
  cond (kind==(2:Int)) (!(within n r.low r.high)) (cond (kind==(3:Int)) (!(within (s.size:Int) r.low r.high)) (cond (kind==(4:Int)) (!(within (len:Int) r.low r.high)) false))
def qE (keys:List BA) (k:BA):Bool:=keys.any fun x=>eC x k
def oa (path keys:List BA):List BA→List Bool→List BA
 | [],_=>[]
 | k::ks,nd=>cond (nd.headD false&& !(qE keys k)) [pt (path++[k])] []++oa path keys ks (nd.drop 1)
mutual
def cO:ae→af→List BA→List BA
 | ⟨kind,n,s,keys,kids⟩,r,path=>cond (r.kind==(-1:Int)) [] (cond (kind !=r.kind) [pt path]
   (cond (gN kind n s kids.length r) [pt path] []++(cond (kind==(4:Int)) (iL (ar (t:= .aq) r.kids 0) path 0 kids) (cond (kind==(5:Int)) (hC r path keys kids) [])++oa pt path keys r.keys r.need)))
def iL (r:af) (path:List BA):Nat→List ae→List BA
 | _,[]=>[]
 | i,x::xs=>cO x r (path++[cj (i:Int)])++iL r path (i+1) xs
def hC (r:af) (path keys:List BA):List ae→List BA
 | []=>[]
 | x::xs=>cond keys.isEmpty [] (cond (decide (bg r (ar (t:= .str) keys 0)<(0:Int))) [pt (path++[ar (t:= .str) keys 0])] (cO x (ar (t:= .aq) r.kids (Int.toNat (bg r (ar (t:= .str) keys 0)))) (path++[ar (t:= .str) keys 0])))
   ++hC r path (keys.drop 1) xs
end
theorem ie (t:ae) (r:af) (path:List BA):cO pt t r path=cond (r.kind==(-1:Int)) [] (cond (t.kind !=r.kind) [pt path]
 (cond (gN t.kind t.n t.s t.kids.length r) [pt path] []++(cond (t.kind==(4:Int)) (iL pt (ar (t:= .aq) r.kids 0) path 0 t.kids) (cond (t.kind==(5:Int)) (hC pt r path t.keys t.kids) [])++oa pt path t.keys r.keys r.need))):=by
 cases t;rw [cO]
inductive QE:ae→Prop where
 | mk {t:ae} (h:t.kind=5→t.keys.length=t.kids.length) (hk:∀x∈t.kids,QE x):QE t
theorem QE.kids {t:ae} (h:QE t):∀x∈t.kids,QE x:=by cases h;assumption
theorem QE.map {t:ae} (h:QE t):t.kind=5→t.keys.length=t.kids.length:=by cases h;assumption
theorem sE {path keys TV:List BA}:∀(ks:List BA) (nd:List Bool),(∀ k∈ks,qE TV k=qE keys k)→oa pt path TV ks nd=oa pt path keys ks nd
 | [],_,_=>rfl
 | k::ks,nd,h=>by
  simp only [oa]
  rw [h k (by simp),sE ks (nd.drop 1) fun x hx=>h x (by simp [hx])]
theorem vA {r:af} {path:List BA} {f:ae→ae}:∀(xs:List ae) (i:Nat),(∀ x∈xs,∀p,(cO pt (f x) r p).Sublist (cO pt x r p))→(iL pt r path i (xs.map f)).Sublist (iL pt r path i xs)
 | [],_,_=>by simp [iL]
 | x::xs,i,h=>by
  simp only [List.map_cons,iL]
  exact (h x (by simp) _).append (vA xs (i+1) fun y hy=>h y (by simp [hy]))
theorem vB {r:af} {path:List BA}:∀(xs:List ae) (keys:List BA),keys.length=xs.length→(∀ x∈xs,∀q∈r.kids,∀p,(cO pt (prune x q) q p).Sublist (cO pt x q p))→r.keys.length=r.kids.length→
 (hC pt r path (bn r keys xs).1 (bn r keys xs).2).Sublist (hC pt r path keys xs)
 | [],_,_,_,_=>by simp [bn,hC]
 | x::xs,[],hl,_,_=>by simp at hl
 | x::xs,k::ks,hl,h,hr=>by
  have hk:ar (t:= .str) (k::ks) 0=k:=rfl
  have ih:=vB (r:=r) (path:=path) xs ks (by simpa using hl) (fun y hy=>h y (by simp [hy])) hr
  rw [bn,hC,hk]
  simp only [List.isEmpty_cons,List.drop_one,List.tail_cons,cond_false]
  by_cases hq:bg r k<0
  ·rw [decide_eq_true hq]
   simp only [cond_true]
   exact ih.trans (List.sublist_append_right _ _)
  ·rw [decide_eq_false hq]
   simp only [cond_false]
   obtain ⟨i,e,hi⟩:=je hq
   rw [hC]
   simp only [List.isEmpty_cons,List.drop_one,List.tail_cons,cond_false,show ar (t:= .str) (k::(bn r ks xs).1) 0=k from rfl,decide_eq_false hq]
   refine List.Sublist.append (h x (by simp) _ ?_ _) ih
   rw [e,Int.toNat_natCast]
   exact List.mem_of_getElem? (c9 (t:= .aq) (by omega))
theorem vC {r:af} {k:BA} (hk : ¬bg r k<0):∀(xs:List ae) (keys:List BA),keys.length=xs.length→qE (bn r keys xs).1 k=qE keys k
 | [],[],_=>rfl
 | [],_::_,h=>by simp at h
 | x::xs,[],h=>by simp at h
 | x::xs,a::ks,h=>by
  have ih:=vC hk xs ks (by simpa using h)
  rw [bn,show ar (t:= .str) (a::ks) 0=a from rfl]
  simp only [List.drop_one,List.tail_cons]
  by_cases hq:bg r a<0
  ·rw [decide_eq_true hq]
   simp only [cond_true,ih]
   unfold qE
   rw [List.any_cons]
   cases hs:eC a k
   ·rfl
   ·rw [kQ.1 hs] at hq;exact absurd hq hk
  ·rw [decide_eq_false hq]
   simp only [cond_false]
   unfold qE at ih ⊢
   rw [List.any_cons,List.any_cons,ih]
theorem Hn {r:af} {k:BA} (h:k∈r.keys) : ¬bg r k<0:=by
 rw [mP]
 intro hn
 cases hf:cC (fun j=>eC (ar (t:= .str) r.keys j) k) 0 r.keys.length with
 | some j=>rw [hf] at hn;exact absurd hn (by show ¬((j:Int)<0);omega)
 | none=>
  obtain ⟨j,hj⟩:=List.getElem?_of_mem h
  have:=kT hf j (Nat.zero_le _) (by have:=aY hj;omega)
  simp only [bz (t:= .str) hj] at this
  rw [kQ.2 rfl] at this;cases this
theorem ob (t:ae) (r:af) (path:List BA) (hs:QE t) (hf:rN r=true):(cO pt (prune t r) r path).Sublist (cO pt t r path):=by
 have Zt:∀q∈r.kids,rN q=true:=fun q hq=>qD hf hq
 have hd:jB r=true:=by rw [kx,Bool.and_eq_true] at hf;exact hf.1
 rw [fm,ie pt t]
 cases h5:bM t&&(r.kind==(5:Int))
 ·simp only [cond_false]
  cases h4:(t.kind==(4:Int))&&(r.kind==(4:Int))
  ·simp only [cond_false]
   rw [ie];exact List.Sublist.refl _
  ·simp only [cond_true]
   simp only [Bool.and_eq_true,beq_iff_eq] at h4
   rw [ie]
   simp only [h4.1,h4.2,ic,List.length_map]
   have e1:((4:Int)==(-1:Int))=false:=rfl
   have e2:((4:Int) !=(4:Int))=false:=rfl
   have e3:((4:Int)==(4:Int))=true:=rfl
   simp only [e1,e2,e3,cond_true,cond_false]
   have h1:0<r.kids.length:=by
    unfold jB at hd
    rw [h4.2] at hd
    have:((4:Int)==(5:Int))=false:=rfl
    simp only [this,e3,cond_true,cond_false,decide_eq_true_eq] at hd;omega
   have hm:ar (t:= .aq) r.kids 0∈r.kids:=List.mem_of_getElem? (c9 (t:= .aq) h1)
   refine (List.Sublist.refl _).append ((vA pt t.kids 0 fun x Ax p=> ?_).append (List.Sublist.refl _))
   exact ob x _ p (hs.kids x Ax) (Zt _ hm)
 ·simp only [cond_true]
  simp only [Bool.and_eq_true,beq_iff_eq] at h5
  obtain ⟨Py,hl⟩:=gj h5.1
  have Py:=eq_of_beq Py
  rw [ie]
  simp only [Py,h5.2]
  have e1:((5:Int)==(-1:Int))=false:=rfl
  have e2:((5:Int) !=(5:Int))=false:=rfl
  have e3:((5:Int)==(4:Int))=false:=rfl
  have e4:((5:Int)==(5:Int))=true:=rfl
  have e5:∀n:Nat,gN 5 t.n t.s n r=false:=fun _=>rfl
  simp only [e1,e2,e3,e4,e5,cond_true,cond_false,List.nil_append]
  have Tq:r.keys.length=r.kids.length:=by
   unfold jB at hd
   rw [h5.2] at hd
   simp only [e4,cond_true,beq_iff_eq] at hd;omega
  rw [sE pt r.keys r.need fun k hk=>vC (Hn hk) t.kids t.keys hl]
  exact (vB pt t.kids t.keys hl (fun x Ax q hq p=>ob x q p (hs.kids x Ax) (Zt q hq)) Tq).append (List.Sublist.refl _)
termination_by ao t
decreasing_by all_goals exact bD Ax
end
theorem pR (r:af):∀(xs:List ae) (keys:List BA),(bn r keys xs).1.length=(bn r keys xs).2.length
 | [],_=>rfl
 | x::xs,keys=>by
  have ih:=pR r xs (keys.drop 1)
  rw [bn]
  cases decide (bg r (ar (t:= .str) keys 0)<(0:Int))
  ·simp only [cond_false,List.length_cons,ih]
  ·simp only [cond_true,ih]
theorem sF {r:af}:∀(xs:List ae) (keys:List BA),keys.length=xs.length→(∀ x∈xs,∀q∈r.kids,prune (prune x q) q=prune x q)→r.keys.length=r.kids.length→
    bn r (bn r keys xs).1 (bn r keys xs).2=bn r keys xs
 | [],_,_,_,_=>rfl
 | x::xs,[],hl,_,_=>by simp at hl
 | x::xs,k::ks,hl,h,hr=>by
  have ih:=sF (r:=r) xs ks (by simpa using hl) (fun y hy=>h y (by simp [hy])) hr
  have e:bn r (k::ks) (x::xs)=cond (decide (bg r k<(0:Int))) (bn r ks xs) (k::(bn r ks xs).1,prune x (ar (t:= .aq) r.kids (Int.toNat (bg r k)))::(bn r ks xs).2):=by rw [bn];rfl
  rw [e]
  by_cases hq:bg r k<0
  ·rw [decide_eq_true hq]
   exact ih
  ·rw [decide_eq_false hq]
   simp only [cond_false]
   obtain ⟨i,ei,hi⟩:=je hq
   rw [bn,show ar (t:= .str) (k::(bn r ks xs).1) 0=k from rfl,decide_eq_false hq]
   simp only [List.drop_one,List.tail_cons,cond_false,ih]
   rw [h x (by simp) _ (by rw [ei,Int.toNat_natCast];exact List.mem_of_getElem? (c9 (t:= .aq) (by omega)))]
theorem pS (t:ae) (r:af) (hf:rN r=true):prune (prune t r) r=prune t r:=by
 have Zt:∀q∈r.kids,rN q=true:=fun q hq=>qD hf hq
 have hd:jB r=true:=by rw [kx,Bool.and_eq_true] at hf;exact hf.1
 rw [fm t r]
 cases h5:bM t&&(r.kind==(5:Int))
 ·simp only [cond_false]
  cases h4:(t.kind==(4:Int))&&(r.kind==(4:Int))
  ·simp only [cond_false]
   rw [fm t r,h5,h4];rfl
  ·simp only [cond_true]
   have hk:=h4
   simp only [Bool.and_eq_true,beq_iff_eq] at hk
   have h1:0<r.kids.length:=by
    unfold jB at hd
    rw [hk.2] at hd
    have e1:((4:Int)==(5:Int))=false:=rfl
    have e2:((4:Int)==(4:Int))=true:=rfl
    simp only [e1,e2,cond_true,cond_false,decide_eq_true_eq] at hd;omega
   have hm:ar (t:= .aq) r.kids 0∈r.kids:=List.mem_of_getElem? (c9 (t:= .aq) h1)
   have hn:bM (⟨t.kind,t.n,t.s,t.keys,gA (ar (t:= .aq) r.kids 0) t.kids⟩:ae)=false:=by
    unfold bM
    rw [show ((⟨t.kind,t.n,t.s,t.keys,gA (ar (t:= .aq) r.kids 0) t.kids⟩:ae).kind==(5:Int))=(t.kind==(5:Int)) from rfl,hk.1];rfl
   rw [fm,hn]
   simp only [Bool.false_and,cond_false,h4,cond_true]
   simp only [ic,List.map_map]
   congr 1
   refine List.map_congr_left fun x Ax=> ?_
   exact pS x _ (Zt _ hm)
 ·simp only [cond_true]
  have hk:=h5
  simp only [Bool.and_eq_true,beq_iff_eq] at hk
  obtain ⟨Py,hl⟩:=gj hk.1
  have Tq:r.keys.length=r.kids.length:=by
   unfold jB at hd
   rw [hk.2] at hd
   have e4:((5:Int)==(5:Int))=true:=rfl
   simp only [e4,cond_true,beq_iff_eq] at hd;omega
  have hn:bM (⟨t.kind,t.n,t.s,(bn r t.keys t.kids).1,(bn r t.keys t.kids).2⟩:ae)=true:=by
   unfold bM
   rw [show ((⟨t.kind,t.n,t.s,(bn r t.keys t.kids).1,(bn r t.keys t.kids).2⟩:ae).kind==(5:Int))=(t.kind==(5:Int)) from rfl,Py]
   simp only [cond_true,pR,beq_self_eq_true]
  rw [fm,hn,show (r.kind==(5:Int))=true by rw [hk.2];rfl]
  simp only [Bool.and_self,cond_true]
  rw [sF t.kids t.keys hl (fun x Ax q hq=>pS x q (Zt q hq)) Tq]
termination_by ao t
decreasing_by all_goals exact bD Ax
end Go.Gm
namespace Go.Gm
open Go
def bG (f:ae→Int×Int) (a:Int×Int) (k:ae):Int×Int:=(min (a.1+(f k).1) 201,max a.2 (f k).2)
def eJ:Nat→ae→Int×Int
 | 0,_=>(201,9)
 | d+1,t=>((t.kids.foldl (bG (eJ d)) (1,0)).1,(t.kids.foldl (bG (eJ d)) (1,0)).2+1)
theorem Fo {f:ae→Int×Int} (hf:∀x,0≤(f x).1):∀(xs:List ae) (a:Int×Int),a.1≤201→a.1≤(xs.foldl (bG f) a).1∧a.2≤(xs.foldl (bG f) a).2
 | [],a,_=>⟨Int.le_refl _,Int.le_refl _⟩
 | x::xs,a,h=>by
  have hx:=hf x
  have ih:=Fo hf xs (bG f a x) (by unfold bG;simp only;omega)
  have h1:a.1≤(bG f a x).1:=by unfold bG;simp only;omega
  have h2:a.2≤(bG f a x).2:=by unfold bG;simp only;omega
  simp only [List.foldl_cons]
  exact ⟨by omega,by omega⟩
theorem yj:∀(d:Nat) (t:ae),0≤(eJ d t).1
 | 0,_=>by show (0:Int)≤201;omega
 | d+1,t=>by
  have:=(Fo (yj d) t.kids (1,0) (by show (1:Int)≤201;omega)).1
  simp only [eJ]
  have h1:((1,0):Int×Int).1=1:=rfl
  omega
theorem yk {f:ae→Int×Int} {a b:Int×Int} {x y:ae} (h1:a.1≤b.1) (h2:a.2≤b.2) (h3:(f x).1≤(f y).1) (h4:(f x).2≤(f y).2):(bG f a x).1≤(bG f b y).1∧(bG f a x).2≤(bG f b y).2:=by
 unfold bG;simp only;exact ⟨by omega,by omega⟩
theorem fold_map {f:ae→Int×Int} {g:ae→ae} (hg:∀x,(f (g x)).1≤(f x).1∧(f (g x)).2≤(f x).2):∀(xs:List ae) (a b:Int×Int),a.1≤b.1→a.2≤b.2→
 ((xs.map g).foldl (bG f) a).1≤(xs.foldl (bG f) b).1∧((xs.map g).foldl (bG f) a).2≤(xs.foldl (bG f) b).2
 | [],a,b,h1,h2=>⟨h1,h2⟩
 | x::xs,a,b,h1,h2=>by
  have:=yk (f:=f) (x:=g x) (y:=x) h1 h2 (hg x).1 (hg x).2
  simp only [List.map_cons,List.foldl_cons]
  exact fold_map hg xs _ _ this.1 this.2
theorem oc {f:ae→Int×Int} (hf:∀x,0≤(f x).1) {r:af} (hg:∀x q,(f (prune x q)).1≤(f x).1∧(f (prune x q)).2≤(f x).2):∀(xs:List ae) (keys:List BA) (a b:Int×Int),a.1≤b.1→a.2≤b.2→b.1≤201→
 ((bn r keys xs).2.foldl (bG f) a).1≤(xs.foldl (bG f) b).1∧((bn r keys xs).2.foldl (bG f) a).2≤(xs.foldl (bG f) b).2
 | [],_,a,b,h1,h2,_=>⟨h1,h2⟩
 | x::xs,keys,a,b,h1,h2,h3=>by
  have hb:(bG f b x).1≤201:=by unfold bG;simp only;omega
  rw [bn]
  cases decide (bg r (ar (t:= .str) keys 0)<(0:Int))
  ·have:=yk (f:=f) (x:=prune x (ar (t:= .aq) r.kids (Int.toNat (bg r (ar (t:= .str) keys 0))))) (y:=x) h1 h2 (hg x _).1 (hg x _).2
   simp only [cond_false,List.foldl_cons]
   exact oc hf hg xs (keys.drop 1) _ _ this.1 this.2 hb
  ·have hx:=hf x
   simp only [cond_true,List.foldl_cons]
   exact oc hf hg xs (keys.drop 1) _ _ (by unfold bG;simp only;omega) (by unfold bG;simp only;omega) hb
theorem pT:∀(d:Nat) (t:ae) (r:af),(eJ d (prune t r)).1≤(eJ d t).1∧(eJ d (prune t r)).2≤(eJ d t).2
 | 0,_,_=>⟨Int.le_refl _,Int.le_refl _⟩
 | d+1,t,r=>by
  rw [fm]
  cases bM t&&(r.kind==(5:Int))
  ·cases (t.kind==(4:Int))&&(r.kind==(4:Int))
   ·exact ⟨Int.le_refl _,Int.le_refl _⟩
   ·have:=fold_map (f:=eJ d) (g:=fun x=>prune x (ar (t:= .aq) r.kids 0)) (fun x=>pT d x _) t.kids (1,0) (1,0) (Int.le_refl _) (Int.le_refl _)
    simp only [cond_true,cond_false,eJ,ic]
    exact ⟨this.1,by omega⟩
  ·have:=oc (yj d) (fun x q=>pT d x q) (r:=r) t.kids t.keys (1,0) (1,0) (Int.le_refl _) (Int.le_refl _) (by show (1:Int)≤201;omega)
   simp only [cond_true,eJ]
   exact ⟨this.1,by omega⟩
theorem vD {xs:List BA}:dK xs=true↔(∀ x∈xs,dU x=true)∧Fk xs:=by
 unfold dK Fk
 rw [nQ]
 constructor
 ·intro h
  have ht:∀(i:Nat) x,xs[i]? =some x→dU x=true:=fun i x hx=>by
   have:=h i (Nat.zero_le _) (by have:=aY hx;omega)
   simp only [rH,bz (t:= .str) hx,Bool.and_eq_true] at this
   exact this.1
  have hs:∀(i:Nat) x y,xs[i]? =some x→xs[i+1]? =some y→lq x y=true:=fun i x y hx hy=>by
   have:=h (i+1) (Nat.zero_le _) (by have:=aY hy;omega)
   simp only [rH,bz (t:= .str) hy,Nat.add_sub_cancel,bz (t:= .str) hx,Bool.and_eq_true,Bool.or_eq_true,Bool.not_eq_true'] at this
   exact this.2.resolve_left (by rw [decide_eq_true (by omega)];simp)
  refine ⟨fun x hx=>let ⟨i,hi⟩:=List.getElem?_of_mem hx;ht i x hi,?_⟩
  have key:∀(d i:Nat) x y,xs[i]? =some x→xs[i+d+1]? =some y→lq x y=true:=by
   intro d
   induction d with
   | zero=>intro i x y hx hy;exact hs i x y hx hy
   | succ d ih=>
    intro i x y hx hy
    have hm:i+d+1<xs.length:=by have:=aY hy;omega
    have hz:=c9 (t:= .str) (xs:=xs) hm
    exact DE (ih i x _ hx hz) (hs (i+d+1) _ y hz (by rw [show i+d+1+1=i+(d+1)+1 by omega];exact hy))
  rw [List.pairwise_iff_getElem]
  intro i j hi hj Im
  obtain ⟨d,rfl⟩:∃d,j=i+d+1:=⟨j-i-1,by omega⟩
  exact key d i _ _ (List.getElem?_eq_getElem hi) (List.getElem?_eq_getElem hj)
 ·rintro ⟨h1,h2⟩ i _ hi
  have mZ:i<xs.length:=by omega
  have hx:=c9 (t:= .str) (xs:=xs) mZ
  simp only [rH,Bool.and_eq_true,Bool.or_eq_true,Bool.not_eq_true']
  refine ⟨h1 _ (List.mem_of_getElem? hx),?_⟩
  by_cases h0:i=0
  ·left;exact decide_eq_false (by omega)
  ·right
   have hp:=c9 (t:= .str) (xs:=xs) (i:=i-1) (by omega)
   exact Fk.lt h2 (show i-1<i by omega) hp hx
theorem sG (r:af):∀(xs:List ae) (keys:List BA),keys.length=xs.length→(bn r keys xs).1.Sublist keys
 | [],_,_=>by simp [bn]
 | x::xs,[],h=>by simp at h
 | x::xs,k::ks,h=>by
  have ih:=sG r xs ks (by simpa using h)
  rw [bn,show ar (t:= .str) (k::ks) 0=k from rfl]
  simp only [List.drop_one,List.tail_cons]
  cases decide (bg r k<(0:Int))
  ·exact ih.cons_cons k
  ·exact ih.cons k
def Pz (t:ae):Bool:=eC t.s ByteArray.empty
def Zu (t:ae):Bool:=t.keys.isEmpty&&t.kids.isEmpty
def gO (t:ae):Bool:=
  cond (t.kind==(0:Int)) ((t.n==(0:Int))&&(Pz t&&Zu t))
 (cond (t.kind==(1:Int)) (gZ t.n 0 1&&(Pz t&&Zu t))
 (cond (t.kind==(2:Int)) (gZ t.n (-1000000000000) 1000000000000&&(Pz t&&Zu t))
 (cond (t.kind==(3:Int)) (dU t.s&&((t.n==(0:Int))&&Zu t))
 (cond (t.kind==(4:Int)) ((t.n==(0:Int))&&(Pz t&&t.keys.isEmpty))
 (cond (t.kind==(5:Int)) (((t.keys.length:Int)==(t.kids.length:Int))&&(dK t.keys&&((t.n==(0:Int))&&Pz t))) false)))))
theorem DI {t:ae} (h:t.kind=5):gO t=(((t.keys.length:Int)==(t.kids.length:Int))&&(dK t.keys&&((t.n==(0:Int))&&Pz t))):=by
 unfold gO;rw [h];rfl
mutual
def dN:ae→Bool
 | ⟨kind,n,s,keys,kids⟩=>gO ⟨kind,n,s,keys,kids⟩&&qF kids
def qF:List ae→Bool
 | []=>true
 | x::xs=>dN x&&qF xs
end
theorem vE:∀xs:List ae,qF xs=xs.all dN
 | []=>by simp [qF]
 | x::xs=>by rw [qF,vE xs,List.all_cons]
theorem ky (t:ae):dN t=(gO t&&t.kids.all dN):=by cases t;rw [dN,vE]
theorem dN.shp (t:ae) (h:dN t=true):QE t:=by
 rw [ky,Bool.and_eq_true] at h
 refine .mk (fun h5=> ?_) fun x Ax=>dN.shp x (List.all_eq_true.1 h.2 x Ax)
 have h1:=h.1
 rw [DI h5,Bool.and_eq_true,beq_iff_eq] at h1
 have:=h1.1
 omega
termination_by ao t
decreasing_by exact bD Ax
theorem Kf {t:ae} (h:t.kind=4):gO t=((t.n==(0:Int))&&(Pz t&&t.keys.isEmpty)):=by
 unfold gO;rw [h];rfl
theorem vF {r:af}:∀(xs:List ae) (keys:List BA),(∀ x∈xs,∀q,dN (prune x q)=true)→(bn r keys xs).2.all dN=true
 | [],_,_=>rfl
 | x::xs,keys,h=>by
  have ih:=vF (r:=r) xs (keys.drop 1) fun y hy=>h y (by simp [hy])
  rw [bn]
  cases decide (bg r (ar (t:= .str) keys 0)<(0:Int))
  ·simp only [cond_false,List.all_cons,h x (by simp),ih,Bool.and_self]
  ·exact ih
theorem yl (t:ae) (r:af) (h:dN t=true):dN (prune t r)=true:=by
 have h0:=h
 rw [ky,Bool.and_eq_true] at h
 obtain ⟨h1,h2⟩:=h
 have ih:∀x∈t.kids,∀q,dN (prune x q)=true:=fun x Ax q=>yl x q (List.all_eq_true.1 h2 x Ax)
 rw [fm]
 cases h5:bM t&&(r.kind==(5:Int))
 ·simp only [cond_false]
  cases h4:(t.kind==(4:Int))&&(r.kind==(4:Int))
  ·exact h0
  ·simp only [cond_true]
   simp only [Bool.and_eq_true,beq_iff_eq] at h4
   rw [Kf h4.1] at h1
   rw [ky,Kf (t:=⟨t.kind,t.n,t.s,t.keys,gA (ar (t:= .aq) r.kids 0) t.kids⟩) h4.1]
   show ((t.n==(0:Int))&&(Pz t&&t.keys.isEmpty)&&(gA (ar (t:= .aq) r.kids 0) t.kids).all dN)=true
   rw [h1,ic,List.all_map]
   exact List.all_eq_true.2 fun x hx=>ih x hx _
 ·simp only [cond_true]
  simp only [Bool.and_eq_true,beq_iff_eq] at h5
  obtain ⟨Py,hl⟩:=gj h5.1
  have Py:=eq_of_beq Py
  rw [DI Py] at h1
  simp only [Bool.and_eq_true] at h1
  obtain ⟨_,hko,Zv⟩:=h1
  obtain ⟨k1,k2⟩:=vD.1 hko
  have dy:=sG r t.kids t.keys hl
  have hk:dK (bn r t.keys t.kids).1=true:=vD.2 ⟨fun x hx=>k1 x (dy.subset hx),List.Pairwise.sublist dy k2⟩
  rw [ky,DI (t:=⟨t.kind,t.n,t.s,(bn r t.keys t.kids).1,(bn r t.keys t.kids).2⟩) Py]
  show (((((bn r t.keys t.kids).1.length:Int)==((bn r t.keys t.kids).2.length:Int))&&(dK (bn r t.keys t.kids).1&&((t.n==(0:Int))&&Pz t)))&&(bn r t.keys t.kids).2.all dN)=true
  rw [pR,hk,vF t.kids t.keys ih]
  simp only [beq_self_eq_true,Bool.true_and,Bool.and_true,Bool.and_eq_true]
  exact Zv
termination_by ao t
decreasing_by exact bD Ax
def hQ (t:ae):Bool:=decide ((eJ 9 t).1≤(200:Int))&&(decide ((eJ 9 t).2≤(8:Int))&&dN t)
theorem zN {t:ae} {r:af} (h:hQ t=true):hQ (prune t r)=true:=by
 simp only [hQ,Bool.and_eq_true,decide_eq_true_eq] at h ⊢
 have:=pT 9 t r
 exact ⟨by omega,by omega,yl t r h.2.2⟩
theorem ym {α:Type} {f:α→Nat} {x:α} {xs:List α}:oZ f (x::xs)=f x+oZ f xs:=by simp [oZ]
theorem BW {r x:af} (h:x∈r.kids):bP x+1≤bP r:=by
 have:=rC bP h
 have e:dw bP r.kids=r.kids.length+(r.kids.map bP).sum:=rfl
 have:=List.length_pos_of_mem h
 rw [bQ r];omega
theorem Fp (r:af) (i:Nat):bP (ar (t:= .aq) r.kids i)≤bP r:=by
 by_cases h:i<r.kids.length
 ·have:=BW (List.mem_of_getElem? (c9 (t:= .aq) h));omega
 ·have e:ar (t:= .aq) r.kids i=zero .aq:=by
   unfold ar
   rw [List.getD_eq_getElem?_getD,List.getElem?_eq_none (by omega:r.kids.length≤i)];rfl
  rw [e]
  have:bP (zero .aq)=0:=by decide
  omega
section
variable (pt : List BA → BA)
theorem yn {path keys:List BA}:∀(ks:List BA) (nd:List Bool),(oa pt path keys ks nd).length≤ks.length
 | [],_=>by simp [oa]
 | k::ks,nd=>by
  have ih:=yn (path:=path) (keys:=keys) ks (nd.drop 1)
  simp only [oa,List.length_append,List.length_cons]
  cases nd.headD false&& !(qE keys k)
  ·simp only [cond_false,List.length_nil];omega
  ·simp only [cond_true,List.length_cons,List.length_nil];omega
theorem vG {r:af} {path:List BA} {M:Nat}:∀(xs:List ae) (i:Nat),(∀ x∈xs,∀p,(cO pt x r p).length≤ao x*M)→(iL pt r path i xs).length≤oZ ao xs*M
 | [],_,_=>by simp [iL]
 | x::xs,i,h=>by
  have h1:=h x (by simp) (path++[cj (i:Int)])
  have ih:=vG (path:=path) xs (i+1) fun y hy=>h y (by simp [hy])
  rw [iL,List.length_append,ym,Nat.add_mul];omega
theorem vH {r:af} {path:List BA} {M:Nat} (hM:1≤M):∀(xs:List ae) (keys:List BA),(∀ x∈xs,∀i p,(cO pt x (ar (t:= .aq) r.kids i) p).length≤ao x*M)→(hC pt r path keys xs).length≤oZ ao xs*M
 | [],_,_=>by simp [hC]
 | x::xs,keys,h=>by
  have h1:=h x (by simp) (Int.toNat (bg r (ar (t:= .str) keys 0))) (path++[ar (t:= .str) keys 0])
  have ih:=vH hM (path:=path) xs (keys.drop 1) fun y hy=>h y (by simp [hy])
  have hp:M≤ao x*M:=by
   have:1*M≤ao x*M:=Nat.mul_le_mul_right M (by rw [dE];omega)
   omega
  rw [hC,List.length_append,ym,Nat.add_mul]
  have:(cond keys.isEmpty [] (cond (decide (bg r (ar (t:= .str) keys 0)<(0:Int))) [pt (path++[ar (t:= .str) keys 0])] (cO pt x (ar (t:= .aq) r.kids (Int.toNat (bg r (ar (t:= .str) keys 0)))) (path++[ar (t:= .str) keys 0])))).length≤ao x*M:=by
   cases keys.isEmpty
   ·cases decide (bg r (ar (t:= .str) keys 0)<(0:Int))
    ·exact h1
    ·show 1≤_;omega
   ·show 0≤_;omega
  omega
theorem yo (t:ae) (r:af) (p:List BA) (M:Nat) (hM:bP r+1≤M):(cO pt t r p).length≤ao t*M:=by
 have ih:∀x∈t.kids,∀(q:af) p,bP q+1≤M→(cO pt x q p).length≤ao x*M:=fun x Ax q p h=>yo x q p M h
 rw [ie,dE,Nat.add_mul]
 have h0:1≤M:=by omega
 cases r.kind==(-1:Int)
 ·cases t.kind !=r.kind
  ·simp only [cond_false,List.length_append]
   have hn:=yn pt (path:=p) (keys:=t.keys) r.keys r.need
   have hk:=lF ByteArray.size r.keys
   have hz:=bQ r
   have hb:(cond (gN t.kind t.n t.s t.kids.length r) [pt p] ([]:List BA)).length≤1:=by cases gN t.kind t.n t.s t.kids.length r<;>simp
   have hm:(cond (t.kind==(4:Int)) (iL pt (ar (t:= .aq) r.kids 0) p 0 t.kids) (cond (t.kind==(5:Int)) (hC pt r p t.keys t.kids) [])).length≤oZ ao t.kids*M:=by
    cases t.kind==(4:Int)
    ·cases t.kind==(5:Int)
     ·simp
     ·exact vH pt h0 _ _ fun x hx i p=>ih x hx _ p (by have:=Fp r i;omega)
    ·exact vG pt _ _ fun x hx p=>ih x hx _ p (by have:=Fp r 0;omega)
   omega
  ·simp only [cond_false,cond_true,List.length_cons,List.length_nil];omega
 ·simp only [cond_true,List.length_nil];omega
termination_by ao t
decreasing_by exact bD Ax
end
end Go.Gm
namespace Go.Gm
open Go
def mh (c:UInt8) (new:List UInt8) (s:List UInt8):List UInt8:=s.flatMap fun b=>if b=c then new else [b]
theorem xn {c b:UInt8} {l:List UInt8} (h:b≠c) {i:Nat} (hi:Lib.index l [c]=i):Lib.index (b::l) [c]=((i+1:Nat):Int):=by
 have hp:[c].isPrefixOf (b::l)=false:=by
  have:(c==b)=false:=by rw [beq_eq_false_iff_ne];exact fun e=>h e.symm
  simp [List.isPrefixOf,this]
 have hn:(Lib.index l [c]== -1)=false:=by rw [beq_eq_false_iff_ne];omega
 unfold Lib.index
 rw [hp,hn,hi];simp
theorem qG (c:UInt8) (new:List UInt8):∀(s:List UInt8),Lib.replaceK [c] new (s.count c) s=mh c new s
 | []=>rfl
 | b::l=>by
  have ih:=qG c new l
  by_cases h:b=c
  ·subst h
   have hi:Lib.index (b::l) [b]=((0:Nat):Int):=by unfold Lib.index;simp [List.isPrefixOf]
   rw [List.count_cons_self,Lib.replaceK_hit _ _ _ _ 0 hi]
   simp only [mh,List.flatMap_cons,if_true,List.take_zero,List.nil_append,Nat.zero_add,List.length_cons,List.length_nil,List.drop_succ_cons,List.drop_zero]
   rw [ih];rfl
  ·have hc:(b::l).count c=l.count c:=List.count_cons_of_ne (by simpa using h)
   rw [hc]
   simp only [mh,List.flatMap_cons,if_neg h]
   show _=b::mh c new l
   rw [← ih]
   cases hk:l.count c with
   | zero=>rfl
   | succ k=>
    obtain ⟨i,hi⟩:=Lib.index_of_count (s:=l) (old:=[c]) (by rw [Lib.count_one];omega)
    rw [Lib.replaceK_hit _ _ _ _ (i+1) (xn h hi),Lib.replaceK_hit _ _ _ _ i hi]
    simp
theorem od (c:UInt8) (new s:List UInt8):Lib.replaceAll s [c] new=mh c new s:=by
 unfold Lib.replaceAll Lib.replace
 split
 ·rename_i h
  have h:=beq_iff_eq.1 h
  subst h
  unfold mh
  induction s with
  | nil=>rfl
  | cons b l ih=>
   rw [List.flatMap_cons,←ih]
   by_cases hb:b=c
   ·subst hb;simp
   ·simp [hb]
 ·have e:Lib.replaceNum s [c] (-1)=s.count c:=by
   unfold Lib.replaceNum
   rw [if_pos (.inl (by decide)),Lib.count_one]
  rw [e]
  exact qG c new s
def zO (b:UInt8):List UInt8:=if b=126 then [126,48] else if b=47 then [126,49] else [b]
theorem QF (s:List UInt8):mh 47 [126,49] (mh 126 [126,48] s)=s.flatMap zO:=by
 induction s with
 | nil=>rfl
 | cons b l ih=>
  have e:mh 47 [126,49] (mh 126 [126,48] (b::l))=mh 47 [126,49] (if b=126 then [126,48] else [b])++mh 47 [126,49] (mh 126 [126,48] l):=by
   simp only [mh,List.flatMap_cons,List.flatMap_append]
  rw [e,ih,List.flatMap_cons]
  congr 1
  unfold zO
  by_cases h1:b=126
  ·subst h1;rfl
  ·rw [if_neg h1,if_neg h1]
   by_cases h2:b=47
   ·subst h2;rfl
   ·rw [if_neg h2];simp [mh,h2]
end Go.Gm
namespace Go.Gm
open Go
variable {wl w w' : World} {Mf ROa : Nat → Prop}
theorem DJ {P:Program} {f:Nat} {bO:List Am} {q:Qt} (hm:bO.all Am.reads=true)
 (h:∀ds outs,q ds=some (true,outs)→∃t x v,outs=[.d t x]∧enc t x=[.v v]∧ik t=false∧cR v=true∧
      ∀ {wl:World} w us ROa Fs,tH P wl→yP wl w ROa→cS wl w ROa bO ds us Fs→(∀ k,ROa k→k<w.heap.size)→Calls P f us.toArray w fun e w'=>e = .returned v∧RowKit.Below w.heap.size w w'):bV P f (Spec.of bO [false] true q):=by
 intro R ds k r hr wl w us Mf ROa Fs TO X4 hA hp X5 Vy Dw G9
 obtain ⟨outs,hq,hk⟩:=Spec.qv hr
 obtain ⟨t,x,v,rfl,he,hs,hf,hc⟩:=h ds outs hq
 refine Calls.mono (hc w us ROa Fs TO X4 hA Dw) ?_
 rintro e w' ⟨rfl,hB⟩
 obtain ⟨h1,h2,_⟩:=hA.len
 have TR:nB wl w' w' Mf ROa (Spec.of bO [false] true q) ds us [.d t x] (.returned v):=nB.one rfl rfl hm h1 h2 he hs hf
 obtain ⟨⟨rs,Gs,Bs,e1,hR,hBk,a1,a2,a3,a4,a5,a6,a7⟩,_⟩:=TR
 refine ⟨_,hk,⟨⟨rs,Gs,Bs,e1,hR,hBk,a1,fun B A1 k hk=> ?_,fun ho=>⟨(a3 ho).1,fun G hG k hk=> ?_⟩,fun ho=>absurd ho (by simp [Spec.of]),a5,a6,a7⟩,?_⟩⟩
 ·rcases a2 B A1 k hk with h | h
  ·exact .inl h
  ·exact .inr (Nat.le_trans hB.size h)
 ·rcases (a3 ho).2 G hG k hk with h | h
  ·exact .inl h
  ·exact .inr (Nat.le_trans hB.size h)
 ·exact ⟨hB.os,hB.tape,hB.output,hB.size,fun b hb _=>hB.block b hb⟩
theorem yP.cell (h:yP wl w ROa) {b o:Nat} {v:Value} (hc:wl.cell? ⟨b,o,none⟩=some v):w.cell? ⟨b,o,none⟩=some v:=by
 cases hb:wl.heap[b]? with
 | none=>simp [World.cell?,hb] at hc
 | some x=>
  have:=(h b x hb).2
  simpa [World.cell?,hb,this] using hc
end Go.Gm
namespace Go.Gm
open Go
def gu (s old new:BA):BA:=⟨(Lib.replaceAll s.data.toList old.data.toList new.data.toList).toArray⟩
def og (s old new:BA):Bool:=Nat.ble s.size 2147483648&&(Nat.ble 1 old.size&&Nat.ble new.size 1000)
theorem Ho {s old new:BA} (h:og s old new=true):s.size<4294967281∧1≤old.size∧s.size+Lib.countB s old*new.size≤140737488355328:=by
 simp only [og,Bool.and_eq_true,Nat.ble_eq] at h
 obtain ⟨h1,h2,h3⟩:=h
 have hc:=Lib.countB_le old h2 s.size s (Nat.le_refl _)
 refine ⟨by omega,h2,?_⟩
 have:Lib.countB s old*new.size≤2147483648*1000:=Nat.mul_le_mul (by omega) h3
 omega
def qH (s:BA):List UInt8:=47::s.data.toList.flatMap zO
def vI (l:List UInt8):BA:=⟨l.toArray⟩
def aL (xs:List BA):BA:=vI (xs.flatMap qH)
def k7 (xs:List BA):Bool:=Nat.ble (dw ByteArray.size xs) 2097152
theorem Fq (l m:List UInt8):vI l++vI m=vI (l++m):=by
 apply ByteArray.ext
 simp [vI]
theorem qI (l:List UInt8):(vI l).size=l.length:=by simp [vI,ByteArray.size]
theorem Kg (b:UInt8):(zO b).length≤2:=by
 unfold zO
 split
 ·exact Nat.le_refl _
 ·split
  ·exact Nat.le_refl _
  ·exact Nat.le_succ _
theorem Ft (l:List UInt8):(l.flatMap zO).length≤2*l.length:=by
 induction l with
 | nil=>simp
 | cons b r ih=>have:=Kg b;simp only [List.flatMap_cons,List.length_append,List.length_cons];omega
theorem DK (l:List UInt8):(mh 126 [126,48] l).length≤2*l.length:=by
 unfold mh
 induction l with
 | nil=>simp
 | cons b r ih=>
  simp only [List.flatMap_cons,List.length_append,List.length_cons]
  split<;>simp only [List.length_cons,List.length_nil]<;>omega
theorem Fu (s:BA):gu s (bs [126]) (bs [126,48])=vI (mh 126 [126,48] s.data.toList):=by
 unfold gu vI
 rw [show (bs [126]).data.toList=[126] from rfl,show (bs [126,48]).data.toList=[126,48] from rfl,od]
theorem QG (s:BA):gu (gu s (bs [126]) (bs [126,48])) (bs [47]) (bs [126,49])=vI (s.data.toList.flatMap zO):=by
 rw [Fu]
 unfold gu
 rw [show (bs [47]).data.toList=[47] from rfl,show (bs [126,49]).data.toList=[126,49] from rfl,od]
 have:(vI (mh 126 [126,48] s.data.toList)).data.toList=mh 126 [126,48] s.data.toList:=by simp [vI]
 rw [this,QF];rfl
theorem BX {xs:List BA} {j:Nat} {x:BA} (h:xs[j]? =some x):x.size+1≤dw ByteArray.size xs:=by
 have hm:=List.mem_of_getElem? h
 unfold dw
 have:x.size≤(xs.map ByteArray.size).sum:=by
  clear h
  induction xs with
  | nil=>cases hm
  | cons y r ih=>
   simp only [List.map_cons,List.sum_cons]
   rcases List.mem_cons.1 hm with rfl | hm
   ·omega
   ·have:=ih hm;omega
 have:0<xs.length:=List.length_pos_of_mem hm
 omega
theorem Zw (s:BA):s.data.toList.length=s.size:=by show s.data.toList.length=s.data.size;simp
def dF {α β:Type} (g:Nat→α→List β):Nat→List α→List β
 | _,[]=>[]
 | j,x::xs=>g j x++dF g (j+1) xs
theorem oP {α β R:Type} {xs:List α} {g:Nat→α→List β} {F:Nat→Nat→List β→Option R} {good:List β→Option R}
 (hs:∀m (j:Nat) out x,xs[j]? =some x→out.length+(g j x).length≤bT→F (m+1) j out=F m (j+1) (out++g j x)) (he:∀m out,F (m+1) xs.length out=good out):
    ∀(d j m:Nat) (out:List β),j+d=xs.length→d<m→out.length+(dF g j (xs.drop j)).length≤bT→F m j out=good (out++dF g j (xs.drop j)):=by
 intro d
 induction d with
 | zero=>
  intro j m out hj hm _
  obtain ⟨m,rfl⟩:∃m',m=m'+1:=⟨m-1,by omega⟩
  have:j=xs.length:=by omega
  subst this
  rw [he,List.drop_length,dF,List.append_nil]
 | succ d ih=>
  intro j m out hj hm hl
  obtain ⟨m,rfl⟩:∃m',m=m'+1:=⟨m-1,by omega⟩
  obtain ⟨x,hx,hd⟩:=cL (show j<xs.length by omega)
  rw [hd,dF,List.length_append] at hl
  rw [hs m j out x hx (by omega),hd,dF,←List.append_assoc]
  exact ih (j+1) m _ (by omega) (by omega) (by rw [List.length_append];omega)
section
variable (pt : List BA → BA)
def fC (r:af) (path keys:List BA) (kind:Int) (j:Nat) (x:ae):List BA:=
  cond (kind==(4:Int)) (cO pt x (ar (t:= .aq) r.kids 0) (path++[cj (j:Int)]))
 (cond (kind==(5:Int)) (cond (decide ((j:Int)≥(keys.length:Int))) [] (cond (decide (bg r (ar (t:= .str) keys j)<(0:Int))) [pt (path++[ar (t:= .str) keys j])]
 (cO pt x (ar (t:= .aq) r.kids (Int.toNat (bg r (ar (t:= .str) keys j)))) (path++[ar (t:= .str) keys j])))) [])
def k8 (path keys:List BA) (need:List Bool) (j:Nat) (k:BA):List BA:=
  cond (ar (t:= .bool) need j) (cond (!(rG keys k)) [pt (path++[k])] []) []
theorem yp {α β:Type} {g:Nat→α→List β} (h:∀j x,g j x=[]):∀(xs:List α) (j:Nat),dF g j xs=[]
 | [],_=>rfl
 | x::xs,j=>by rw [dF,h,yp h xs];rfl
theorem sH {r:af} {path:List BA}:∀(xs:List ae) (i:Nat),iL pt r path i xs=dF (fun j x=>cO pt x r (path++[cj (j:Int)])) i xs
 | [],_=>rfl
 | x::xs,i=>by rw [iL,dF,sH xs]
theorem BY {t:Ty} (xs:List (El t)) (j:Nat):ar (t:=t) (xs.drop j) 0=ar (t:=t) xs j:=by
 unfold ar
 rw [List.getD_eq_getElem?_getD,List.getD_eq_getElem?_getD,List.getElem?_drop];rfl
theorem Hp (r:af) (path keys:List BA) (kind:Int) (xs:List ae):
    cond (kind==(4:Int)) (iL pt (ar (t:= .aq) r.kids 0) path 0 xs) (cond (kind==(5:Int)) (hC pt r path keys xs) [])=dF (fC pt r path keys kind) 0 xs:=by
 cases h4:kind==(4:Int)
 ·cases h5:kind==(5:Int)
  ·simp only [cond_false]
   exact (yp (fun j x=>by unfold fC;rw [h4,h5];rfl) xs 0).symm
  ·simp only [cond_true,cond_false]
   have key:∀(xs:List ae) (j:Nat),hC pt r path (keys.drop j) xs=dF (fC pt r path keys kind) j xs:=by
    intro xs
    induction xs with
    | nil=>intro j;rfl
    | cons x xs ih=>
     intro j
     rw [hC,dF,List.drop_drop,ih (j+1),BY (t:= .str)]
     congr 1
     unfold fC
     rw [h4,h5]
     simp only [cond_true,cond_false]
     by_cases hj:j<keys.length
     ·rw [decide_eq_false (show ¬((j:Int)≥(keys.length:Int)) by omega)]
      have:(keys.drop j).isEmpty=false:=by
       rw [List.isEmpty_eq_false_iff]
       intro e
       have:=congrArg List.length e
       rw [List.length_drop,List.length_nil] at this;omega
      rw [this]
     ·rw [decide_eq_true (show (j:Int)≥(keys.length:Int) by omega),List.drop_eq_nil_of_le (by omega)];rfl
   exact key xs 0
 ·simp only [cond_true]
  rw [sH]
  congr 1
  funext j x
  unfold fC
  rw [h4];rfl
theorem BZ (path keys:List BA) (need:List Bool):∀(ks:List BA) (j:Nat),oa pt path keys ks (need.drop j)=dF (k8 pt path keys need) j ks
 | [],_=>rfl
 | k::ks,j=>by
  rw [oa,dF,List.drop_drop,BZ path keys need ks (j+1)]
  congr 1
  have e:(need.drop j).headD false=ar (t:= .bool) need j:=by
   rw [← BY (t:= .bool)]
   cases need.drop j<;>rfl
  unfold k8
  rw [e]
  show cond (ar (t:= .bool) need j&& !(rG keys k)) _ _=_
  cases ar (t:= .bool) need j<;>cases rG keys k<;>rfl
theorem DL (t:ae) (r:af) (path:List BA) (h1:(r.kind==(-1:Int))=false) (h2:(t.kind !=r.kind)=false):
    cO pt t r path=cond (gN t.kind t.n t.s t.kids.length r) [pt path] []++dF (fC pt r path t.keys t.kind) 0 t.kids++dF (k8 pt path t.keys r.need) 0 r.keys:=by
 rw [ie,h1,h2]
 simp only [cond_false]
 rw [Hp,show r.need=r.need.drop 0 from rfl,BZ]
 simp only [List.drop_zero,List.append_assoc]
end
mutual
def qJ:af→Bool
 | ⟨kind,keys,kids,need,low,high⟩=>(jB ⟨kind,keys,kids,need,low,high⟩&&decide ((keys.length:Int)≤(need.length:Int)))&&vJ kids
def vJ:List af→Bool
 | []=>true
 | x::xs=>qJ x&&vJ xs
end
theorem yq:∀xs:List af,vJ xs=xs.all qJ
 | []=>by simp [vJ]
 | x::xs=>by rw [vJ,yq xs,List.all_cons]
theorem rO (r:af):qJ r=((jB r&&decide ((r.keys.length:Int)≤(r.need.length:Int)))&&r.kids.all qJ):=by cases r;rw [qJ,yq]
theorem oh (r:af) (d:Int) (h:bS r d=true):qJ r=true:=by
 have hf:=fl r d h
 rw [kx,Bool.and_eq_true] at hf
 rw [jm] at h
 simp only [Bool.and_eq_true] at h
 obtain ⟨_,hk,hs⟩:=h
 rw [rO,Bool.and_eq_true,Bool.and_eq_true,List.all_eq_true]
 refine ⟨⟨hf.1,?_⟩,fun x yf=>oh x (d-1) (List.all_eq_true.1 hk x yf)⟩
 unfold j7 at hs
 rw [Bool.and_eq_true] at hs
 have hs:=hs.2
 cases h5:r.kind==(5:Int)
 ·rw [h5] at hs
  simp only [cond_false,Bool.and_eq_true,beq_iff_eq] at hs
  exact decide_eq_true (by omega)
 ·rw [h5] at hs
  simp only [cond_true,Bool.and_eq_true,beq_iff_eq] at hs
  exact decide_eq_true (by omega)
termination_by di r
decreasing_by exact n3 yf
def fD (t:ae) (r:af) (path:List BA):Bool:=
  ak t&&(bm r&&(qJ r&&(Nat.ble (dw ByteArray.size path+21*aw t+bP r) 2000000&&Nat.ble ((aw t+1)*(bP r+1)) bT)))
theorem jf {t:ae} {r:af} {path:List BA}:fD t r path=true↔ak t=true∧bm r=true∧qJ r=true∧dw ByteArray.size path+21*aw t+bP r≤2000000∧(aw t+1)*(bP r+1)≤bT:=by
 unfold fD;simp only [Bool.and_eq_true,Nat.ble_eq]
theorem B0 {t x:ae} (h:x∈t.kids):aw x+1+dw ByteArray.size t.keys≤aw t:=by
 have:=rC aw h
 have e:dw aw t.kids=t.kids.length+(t.kids.map aw).sum:=rfl
 have:=List.length_pos_of_mem h
 rw [aW t];omega
theorem zP {xs:List BA} {s:BA} (h:s∈xs):s.size+1≤dw ByteArray.size xs:=by
 have:=rC ByteArray.size h
 have e:dw ByteArray.size xs=xs.length+(xs.map ByteArray.size).sum:=rfl
 have:=List.length_pos_of_mem h
 omega
theorem B1 (xs:List BA) (s:BA):dw ByteArray.size (xs++[s])=dw ByteArray.size xs+s.size+1:=by
 unfold dw
 simp only [List.length_append,List.map_append,List.sum_append,List.length_cons,List.length_nil,List.map_cons,List.map_nil,List.sum_cons,List.sum_nil];omega
theorem mQ {t x:ae} {r q:af} {path:List BA} {s:BA} (h:fD t r path=true) (hx:x∈t.kids) (hq:q∈r.kids) (hs:s∈t.keys∨s.size≤20):fD x q (path++[s])=true:=by
 obtain ⟨h1,h2,h3,h4,h5⟩:=jf.1 h
 have a:=B0 hx
 have b:=BW hq
 have hf:qJ q=true:=by
  rw [rO,Bool.and_eq_true] at h3
  exact List.all_eq_true.1 h3.2 q hq
 refine jf.2 ⟨iK h1 hx,zM h2 hq,hf,?_,Nat.le_trans (Nat.mul_le_mul (by omega) (by omega)) h5⟩
 rw [B1]
 rcases hs with hs | hs
 ·have:=zP hs;omega
 ·omega
theorem oQ {t:ae} {r:af} {path:List BA} {s:BA} (h:fD t r path=true) (hs:s∈t.keys∨s∈r.keys):k7 (path++[s])=true:=by
 obtain ⟨h1,h2,h3,h4,h5⟩:=jf.1 h
 refine Nat.ble_eq_true_of_le ?_
 rw [B1]
 have:=aW t
 have:=bQ r
 rcases hs with hs | hs
 ·have:=zP hs;omega
 ·have:=zP hs;omega
theorem vK {t:ae} {r:af} {path:List BA} (h:fD t r path=true) (pt:List BA→BA):(cO pt t r path).length≤bT:=by
 obtain ⟨_,_,_,_,h5⟩:=jf.1 h
 have:=yo pt t r path (bP r+1) (Nat.le_refl _)
 exact Nat.le_trans (Nat.le_trans this (Nat.mul_le_mul_right _ (J' t))) h5
def db (t:ae) (r:af):List BA:=cond (e9 r) (cO aL t r []) []
def oi (t:ae) (r:af):Bool:=ak t&&(bm r&&(Nat.ble (21*aw t+bP r) 2000000&&Nat.ble ((aw t+1)*(bP r+1)) bT))
theorem sI {t:ae} {r:af} (h:oi t r=true) (hr:e9 r=true):fD t r []=true:=by
 simp only [oi,Bool.and_eq_true,Nat.ble_eq] at h
 exact jf.2 ⟨h.1,h.2.1,oh r 8 hr,by have:dw ByteArray.size []=0:=rfl;omega,h.2.2.2⟩
def iM (t:ae) (d:Int):Int×Int:=eJ (Int.toNat d) t
def pf (t:ae) (d:Int):Bool:=ak t&&(decide (0≤d)&&decide (d≤9))
theorem Fv {f:ae→Int×Int} {B:Int} (hf:∀x,0≤(f x).1∧(f x).1≤201∧0≤(f x).2∧(f x).2≤B):∀(xs:List ae) (a:Int×Int),0≤a.1∧a.1≤201∧0≤a.2∧a.2≤B→
    0≤(xs.foldl (bG f) a).1∧(xs.foldl (bG f) a).1≤201∧0≤(xs.foldl (bG f) a).2∧(xs.foldl (bG f) a).2≤B
 | [],a,h=>h
 | x::xs,a,h=>by
  have:=hf x
  exact Fv hf xs _ (by unfold bG;simp only;omega)
theorem qK:∀(d:Nat) (t:ae),0≤(eJ d t).1∧(eJ d t).1≤201∧0≤(eJ d t).2∧(eJ d t).2≤9+d
 | 0,_=>by
  show (0:Int)≤201∧(201:Int)≤201∧(0:Int)≤9∧(9:Int)≤9+((0:Nat):Int)
  omega
 | d+1,t=>by
  have:=Fv (B:=9+d) (qK d) t.kids (1,0) ⟨by decide,by decide,by decide,by show (0:Int)≤_;omega⟩
  simp only [eJ]
  omega
theorem B2 (f:ae→Int×Int) (a:Int×Int) (x:ae) (h:0≤a.1∧a.1≤201) (h':0≤(f x).1∧(f x).1≤201):
 ((if (201:Int)<IntKind.wrap .i64 (a.1+(f x).1) then (201:Int) else IntKind.wrap .i64 (a.1+(f x).1)),(if (f x).2>a.2 then (f x).2 else a.2))=bG f a x:=by
 rw [cu (by omega) (by omega)]
 unfold bG
 congr 1
 ·split<;>omega
 ·split<;>omega
theorem Kh {α:Type} (xs:List α):((xs.length:Int)==(0:Int))=xs.isEmpty:=by
 cases xs with
 | nil=>rfl
 | cons x xs=>exact beq_eq_false_iff_ne.2 (by rw [List.length_cons];omega)
def om (t:ae):Bool:= !(dN t)
def qL (xs:List ae):Int:=yc (t:= .node) om xs
def mj (xs:List ae):Bool:=xs.any om
theorem zQ (xs:List ae):(!(mj xs))=xs.all dN:=by
 unfold mj
 rw [← Fc];rfl
def VN (t:ae):Nat:=4*ao t
def TW (t:ae):Nat:=4*ao t+1
def TX (t:List ae):Nat:=4*oZ ao t+2
def VO (t:List ae):Nat:=4*oZ ao t+3
end Go.Gm
namespace Go.Gm
open Go
section
variable (on : ai → Int → Bool × ai)
def DM:af:=⟨(-1:Int),[],[],[],0,0⟩
mutual
def dh:ae→ai→af×ai
 | ⟨kind,n,s,keys,kids⟩,c=>cond (on c 6).1 (DM,(on c 6).2)
   (cond (kind==(2:Int)) (⟨kind,[],[],[],n,n⟩,(on c 6).2)
   (cond (kind==(3:Int)) (⟨kind,[],[],[],0,(s.size:Int)⟩,(on c 6).2)
   (cond (kind==(4:Int)) (cond ((kids.length:Int)==(1:Int)) (⟨kind,[],[(rP kids (on c 6).2).1],[],0,(kids.length:Int)⟩,(rP kids (on c 6).2).2) (⟨kind,[],[DM],[],0,(kids.length:Int)⟩,(on c 6).2))
   (cond (kind==(5:Int)) (⟨kind,(cy kids keys (on c 6).2).1.1,(cy kids keys (on c 6).2).1.2.1,(cy kids keys (on c 6).2).1.2.2,0,0⟩,(cy kids keys (on c 6).2).2)
    (⟨kind,[],[],[],0,0⟩,(on c 6).2)))))
def rP:List ae→ai→af×ai
 | [],c=>(DM,c)
 | x::_,c=>dh x c
def cy:List ae→List BA→ai→(List BA×List af×List Bool)×ai
 | [],_,c=>(([],[],[]),c)
 | _::_,[],c=>(([],[],[]),c)
 | x::xs,k::ks,c=>((k::(cy xs ks (on (dh x c).2 2).2).1.1,(dh x c).1::(cy xs ks (on (dh x c).2 2).2).1.2.1,(on (dh x c).2 2).1::(cy xs ks (on (dh x c).2 2).2).1.2.2),(cy xs ks (on (dh x c).2 2).2).2)
end
theorem vL (t:ae) (c:ai):dh on t c=cond (on c 6).1 (DM,(on c 6).2)
 (cond (t.kind==(2:Int)) (⟨t.kind,[],[],[],t.n,t.n⟩,(on c 6).2)
 (cond (t.kind==(3:Int)) (⟨t.kind,[],[],[],0,(t.s.size:Int)⟩,(on c 6).2)
 (cond (t.kind==(4:Int)) (cond ((t.kids.length:Int)==(1:Int)) (⟨t.kind,[],[(rP on t.kids (on c 6).2).1],[],0,(t.kids.length:Int)⟩,(rP on t.kids (on c 6).2).2) (⟨t.kind,[],[DM],[],0,(t.kids.length:Int)⟩,(on c 6).2))
 (cond (t.kind==(5:Int)) (⟨t.kind,(cy on t.kids t.keys (on c 6).2).1.1,(cy on t.kids t.keys (on c 6).2).1.2.1,(cy on t.kids t.keys (on c 6).2).1.2.2,0,0⟩,(cy on t.kids t.keys (on c 6).2).2)
 (⟨t.kind,[],[],[],0,0⟩,(on c 6).2))))):=by
 cases t;rw [dh]
theorem vM {xs:List ae} (c:ai) (h:0<xs.length):rP on xs c=dh on (ar (t:= .node) xs 0) c:=by
 cases xs with
 | nil=>simp at h
 | cons x xs=>rw [rP];rfl
theorem DN {xs:List ae} {ks:List BA} (c:ai) (h:xs.length=0∨ks.length=0):cy on xs ks c=(([],[],[]),c):=by
 cases xs with
 | nil=>rw [cy]
 | cons x xs=>
  cases ks with
  | nil=>rw [cy]
  | cons k ks=>simp at h
theorem Hq {R:Type} {kids:List ae} {keys:List BA} {F:Nat→Nat→ai→List BA→List af→List Bool→Option R} {good:ai→List BA→List af→List Bool→Option R} (P:ai→Prop)
 (hs:∀m (j:Nat) c a b e x key,kids[j]? =some x→keys[j]? =some key→P c→a.length=j→b.length=j→e.length=j→P (on (dh on x c).2 2).2∧F (m+1) j c a b e=F m (j+1) (on (dh on x c).2 2).2 (a++[key]) (b++[(dh on x c).1]) (e++[(on (dh on x c).2 2).1]))
 (he:∀m (j:Nat) c a b e,kids.length≤j∨keys.length≤j→j≤kids.length→j≤keys.length→F (m+1) j c a b e=good c a b e):
    ∀(d j m:Nat) (c:ai) (a:List BA) (b:List af) (e:List Bool),j+d=min kids.length keys.length→d<m→P c→a.length=j→b.length=j→e.length=j→
      F m j c a b e=good (cy on (kids.drop j) (keys.drop j) c).2 (a++(cy on (kids.drop j) (keys.drop j) c).1.1) (b++(cy on (kids.drop j) (keys.drop j) c).1.2.1) (e++(cy on (kids.drop j) (keys.drop j) c).1.2.2):=by
 intro d
 induction d with
 | zero=>
  intro j m c a b e hj hm _ _ _ _
  obtain ⟨m,rfl⟩:∃m',m=m'+1:=⟨m-1,by omega⟩
  rw [he m j c a b e (by omega) (by omega) (by omega),DN on c (by simp only [List.length_drop];omega)]
  simp only [List.append_nil]
 | succ d ih=>
  intro j m c a b e hj hm hp h1 h2 h3
  obtain ⟨m,rfl⟩:∃m',m=m'+1:=⟨m-1,by omega⟩
  obtain ⟨x,hx,hd⟩:=cL (show j<kids.length by omega)
  obtain ⟨key,hk,hkd⟩:=cL (show j<keys.length by omega)
  obtain ⟨w5,hf⟩:=hs m j c a b e x key hx hk hp h1 h2 h3
  rw [hf,ih (j+1) m _ _ _ _ (by omega) (by omega) w5 (by simp [h1]) (by simp [h2]) (by simp [h3]),hd,hkd,cy]
  simp only [List.append_assoc,List.cons_append,List.nil_append]
variable {on}
theorem yr (CI:∀c n,ay c=true→ay (on c n).2=true):∀(xs:List ae) (ks:List BA) (c:ai),ay c=true→ks.all c8=true→
 (∀ x∈xs,∀c,ay c=true→ay (dh on x c).2=true∧bm (dh on x c).1=true∧bP (dh on x c).1≤2*aw x+1)→
    ay (cy on xs ks c).2=true∧(cy on xs ks c).1.1.all c8=true∧(cy on xs ks c).1.2.1.all bm=true∧(cy on xs ks c).1.1.length≤xs.length∧
 (cy on xs ks c).1.2.1.length=(cy on xs ks c).1.1.length∧(cy on xs ks c).1.2.2.length=(cy on xs ks c).1.1.length∧
    dw ByteArray.size (cy on xs ks c).1.1+dw bP (cy on xs ks c).1.2.1+(cy on xs ks c).1.2.2.length≤2*dw ByteArray.size ks+2*dw aw xs
 | [],ks,c,hc,hk,_=>by rw [cy];simp [hc,dw]
 | x::xs,[],c,hc,hk,_=>by rw [cy];simp [hc,dw]
 | x::xs,k::ks,c,hc,hk,h=>by
  obtain ⟨a1,a2,a3⟩:=h x (by simp) c hc
  rw [List.all_cons,Bool.and_eq_true] at hk
  obtain ⟨b1,b2,b3,b4,b5,b6,b7⟩:=yr CI xs ks (on (dh on x c).2 2).2 (CI _ _ a1) hk.2 fun y hy=>h y (by simp [hy])
  rw [cy]
  simp only [List.all_cons,List.length_cons,cN,a2,b1,b2,b3,hk.1,Bool.and_self,true_and]
  exact ⟨by omega,by omega,by omega,by omega⟩
theorem oR (CI:∀c n,ay c=true→ay (on c n).2=true) (t:ae) (c:ai) (hc:ay c=true) (hs:ak t=true):
    ay (dh on t c).2=true∧bm (dh on t c).1=true∧bP (dh on t c).1≤2*aw t+1:=by
 have ih:∀x∈t.kids,∀c,ay c=true→ay (dh on x c).2=true∧bm (dh on x c).1=true∧bP (dh on x c).1≤2*aw x+1:=fun x Ax c hc=>oR CI x c hc (iK hs Ax)
 obtain ⟨h1,h2,h3,h4,h5⟩:=dr hs
 have hl:=bp h5
 have hz:=aW t
 have h3':t.s.size≤1048576:=gw h3
 have g6:=CI c 6 hc
 have o1:gL (t.s.size:Int)=true:=kt (by omega) (by omega)
 have o2:gL (t.kids.length:Int)=true:=kt (by omega) (by omega)
 have o0:gL 0=true:=rfl
 have Ki:gh c8 []=true:=rfl
 have VP:gh bm []=true:=rfl
 have Kj:gh (fun _:Bool=>true) []=true:=rfl
 have an:bm DM=true:=by decide
 have az:bP DM=0:=by decide
 rw [vL]
 cases (on c 6).1
 rotate_left
 ·exact ⟨g6,an,by rw [cond_true,az];omega⟩
 cases t.kind==(2:Int)
 rotate_left
 ·refine ⟨g6,by simp only [cond_true,cond_false,bL,h1,h2,Ki,VP,Kj,Bool.and_self],?_⟩
  simp only [cond_true,cond_false,bQ]
  show 0+0+0≤_;omega
 cases t.kind==(3:Int)
 rotate_left
 ·refine ⟨g6,by simp only [cond_true,cond_false,bL,h1,o0,o1,Ki,VP,Kj,Bool.and_self],?_⟩
  simp only [cond_true,cond_false,bQ]
  show 0+0+0≤_;omega
 cases t.kind==(4:Int)
 rotate_left
 ·cases h1l:((t.kids.length:Int)==(1:Int))
  ·refine ⟨g6,?_,?_⟩
   ·simp only [cond_true,cond_false,bL,h1,o0,o2,Ki,Kj,Bool.and_self,Bool.and_true,Bool.true_and]
    decide
   ·simp only [cond_true,cond_false,bQ]
    show 0+1+0≤_;omega
  ·have hle:0<t.kids.length:=by have:=eq_of_beq h1l;omega
   have hm:ar (t:= .node) t.kids 0∈t.kids:=List.mem_of_getElem? (c9 (t:= .node) hle)
   obtain ⟨a1,a2,a3⟩:=ih _ hm _ g6
   simp only [cond_true,cond_false,vM on _ hle]
   refine ⟨a1,?_,?_⟩
   ·have:gh bm [(dh on (ar (t:= .node) t.kids 0) (on c 6).2).1]=true:=by
     unfold gh
     simp only [List.all_cons,List.all_nil,a2,Bool.and_self];rfl
    simp only [bL,h1,o0,o2,Ki,Kj,this,Bool.and_self]
   ·have hk:=B0 hm
    rw [bQ]
    simp only [cN]
    have e1:dw ByteArray.size []=0:=rfl
    have e2:dw bP []=0:=rfl
    have e3:dw (fun _:Bool=>0) []=0:=rfl
    omega
 cases t.kind==(5:Int)
 ·refine ⟨g6,by simp only [cond_false,bL,h1,o0,Ki,VP,Kj,Bool.and_self],?_⟩
  simp only [cond_false,bQ]
  show 0+0+0≤_;omega
 obtain ⟨b1,b2,b3,b4,b5,b6,b7⟩:=yr CI t.kids t.keys _ g6 (kS h4) ih
 simp only [cond_true,cond_false]
 refine ⟨b1,?_,?_⟩
 ·rw [bL]
  simp only [gh,h1,o0,b2,b3,Nat.ble_eq_true_of_le (show (cy on t.kids t.keys (on c 6).2).1.1.length≤1048576 by omega),Nat.ble_eq_true_of_le (show (cy on t.kids t.keys (on c 6).2).1.2.1.length≤1048576 by omega),Nat.ble_eq_true_of_le (show (cy on t.kids t.keys (on c 6).2).1.2.2.length≤1048576 by omega),Bool.and_self,Bool.true_and,List.all_eq_true]
  simp
 ·rw [bQ]
  have e:dw (fun _=>0) (cy on t.kids t.keys (on c 6).2).1.2.2=(cy on t.kids t.keys (on c 6).2).1.2.2.length:=by
   unfold dw
   have:∀l:List Bool,(l.map fun _=>0).sum=0:=fun l=>by
    induction l with
    | nil=>rfl
    | cons x l ih=>simp [ih]
   rw [this];rfl
  simp only [e];omega
termination_by ao t
decreasing_by exact bD Ax
end
def aI (on:ai→Int→Bool×ai) (c:ai) (t:ae):af×ai:=dh on t c
def B3 (r:af):Bool:=bm r&&Nat.ble (bP r) 52100
def zR (r:af):Bool:=bm r&&Nat.ble (bP r) 52001
theorem k9 {r:af}:B3 r=true↔bm r=true∧bP r≤52100:=by unfold B3;rw [Bool.and_eq_true,Nat.ble_eq]
theorem kz {r:af}:zR r=true↔bm r=true∧bP r≤52001:=by unfold zR;rw [Bool.and_eq_true,Nat.ble_eq]
theorem jg {r:af} (h:zR r=true):B3 r=true:=by
 obtain ⟨h1,h2⟩:=kz.1 h
 exact k9.2 ⟨h1,by omega⟩
theorem fh {r:af} {k:Int} (h:zR r=true) (hk:gL k=true):B3 ⟨k,r.keys,r.kids,r.need,r.low,r.high⟩=true:=by
 obtain ⟨h1,h2⟩:=kz.1 h
 rw [bL] at h1;rw [bQ] at h2
 simp only [Bool.and_eq_true] at h1
 refine k9.2 ⟨?_,by rw [bQ];simp only;omega⟩
 rw [bL];simp only [Bool.and_eq_true]
 exact ⟨hk,h1.2⟩
theorem gQ {r:af} {k:Int} (h:zR r=true) (hk:gL k=true):B3 ⟨r.kind,r.keys,r.kids,r.need,k,r.high⟩=true:=by
 obtain ⟨h1,h2⟩:=kz.1 h
 rw [bL] at h1;rw [bQ] at h2
 simp only [Bool.and_eq_true] at h1
 refine k9.2 ⟨?_,by rw [bQ];simp only;omega⟩
 rw [bL];simp only [Bool.and_eq_true]
 exact ⟨h1.1,h1.2.1,h1.2.2.1,h1.2.2.2.1,hk,h1.2.2.2.2.2⟩
theorem fi {r:af} (h:zR r=true):B3 ⟨r.kind,r.keys,r.kids,r.need++[true],r.low,r.high⟩=true:=by
 obtain ⟨h1,h2⟩:=kz.1 h
 rw [bL] at h1;rw [bQ] at h2
 simp only [Bool.and_eq_true] at h1
 have e:dw (fun _=>0) (r.need++[true])=dw (fun _=>0) r.need+1:=by unfold dw;simp;omega
 have hl:=lF (fun _=>0) r.need
 refine k9.2 ⟨?_,by rw [bQ];simp only [e];omega⟩
 rw [bL];simp only [Bool.and_eq_true]
 refine ⟨h1.1,h1.2.1,h1.2.2.1,?_,h1.2.2.2.2⟩
 unfold gh
 rw [Nat.ble_eq_true_of_le (by rw [List.length_append];simp only [List.length_cons,List.length_nil];omega)]
 simp
theorem gR {r:af} (h:zR r=true):Nat.ble (r.need.length+1) bT=true:=by
 obtain ⟨h1,h2⟩:=kz.1 h
 rw [bQ] at h2
 have hl:=lF (fun _=>0) r.need
 exact Nat.ble_eq_true_of_le (by have:(bT:Nat)=4294967296:=rfl;omega)
theorem gS {r:af} {s:BA} (h:zR r=true) (hs:Nat.ble s.size 50=true):B3 ⟨r.kind,r.keys.set 0 s,r.kids,r.need,r.low,r.high⟩=true:=by
 obtain ⟨h1,h2⟩:=kz.1 h
 have hs:=gw hs
 rw [bL] at h1;rw [bQ] at h2
 simp only [Bool.and_eq_true] at h1
 cases hk:r.keys with
 | nil=>
  rw [hk] at h1 h2
  refine k9.2 ⟨?_,by rw [bQ];simp only [List.set_nil];omega⟩
  rw [bL]
  simp only [List.set_nil,Bool.and_eq_true]
  exact h1
 | cons k ks=>
  rw [hk] at h1 h2
  have h3:=h1.2.1
  simp only [gh,List.all_cons,Bool.and_eq_true,List.length_cons] at h3
  simp only [cN] at h2
  refine k9.2 ⟨?_,by rw [bQ];simp only [List.set_cons_zero,cN];omega⟩
  rw [bL]
  simp only [List.set_cons_zero,Bool.and_eq_true]
  refine ⟨h1.1,?_,h1.2.2⟩
  simp only [gh,List.all_cons,Bool.and_eq_true,List.length_cons]
  exact ⟨h3.1,kq (by omega),h3.2.2⟩
def okB (t:ae):Bool:=ak t&&Nat.ble (aw t) 79000
theorem ld {t:ae}:okB t=true↔ak t=true∧aw t≤79000:=by unfold okB;rw [Bool.and_eq_true,Nat.ble_eq]
theorem Kk {t:ae} (h:nh 3 t=true):okB t=true:=by
 obtain ⟨h1,h2⟩:=ek.1 h
 exact ld.2 ⟨h1,by omega⟩
theorem QH {t x:ae} {w:List BA} (h:nh 3 t=true) (hw:BP w=true) (hx:GT 1 x):okB (dC t w x).1=true∧gP t w x=true:=by
 obtain ⟨h1,h2⟩:=ek.1 h
 obtain ⟨w1,w2⟩:=vy.1 hw
 have h3:=hx.2.1
 have:=Hl h1 w1 hx.1 (by omega)
 exact ⟨ld.2 ⟨this.1,by have:100*4^1=400:=rfl;omega⟩,by simp only [gP,h1,w1,hx.1,Bool.and_self]⟩
theorem B4 {t:ae} {r:af} (h:okB t=true) (hr:B3 r=true):oi t r=true:=by
 obtain ⟨h1,h2⟩:=ld.1 h
 obtain ⟨r1,r2⟩:=k9.1 hr
 have:(aw t+1)*(bP r+1)≤79001*52101:=Nat.mul_le_mul (by omega) (by omega)
 have hl:(bT:Nat)=4294967296:=rfl
 simp only [oi,Bool.and_eq_true,Nat.ble_eq]
 exact ⟨h1,r1,by omega,by omega⟩
theorem yt {t:ae} {r:af} (h:okB t=true):okB (aG t r)=true:=by
 obtain ⟨h1,h2⟩:=ld.1 h
 have:=Hm (r:=r) h1
 exact ld.2 ⟨this.1,by omega⟩
theorem mR {t:ae} {r:af} (h:e9 r=true):aG t r=prune t r:=by unfold aG;rw [h];rfl
theorem B5 {t:ae} {r:af} (h:e9 r=true) (ht:hQ t=true):(db (aG t r) r).Sublist (db t r):=by
 unfold db
 rw [h,mR h]
 simp only [cond_true]
 simp only [hQ,Bool.and_eq_true] at ht
 exact ob aL t r [] (dN.shp t ht.2.2) (fl r 8 h)
theorem Km {l:List BA} {s:BA} (h:s∈l):qE l s=true:=by
 unfold qE
 rw [List.any_eq_true]
 exact ⟨s,h,u6 s⟩
end Go.Gm
namespace Go.Gm
open Go
end Go.Gm
