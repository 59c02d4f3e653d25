/- The G-machine, part 5: an evaluator of translated code on typed values, and that it is sound. No conditions. -/
import Derived.Test.YtalnkjjnohgjkaaGreatGm4
import Derived.Lib.Replace
import Derived.Lib.SplitLaws
import Derived.Handed
namespace Go.Gm
open Go
theorem Dz{t:ae}{p:BA}{r:List BA}(h:aw t p<0):(br t (p::r)).2=false:=by
 unfold br
 simp only[fj]
 rw[show fC p t = .inl () by unfold fC;rw[decide_eq_true h];rfl]
 rfl
theorem xF{t:ae}{p:BA}{r:List BA}(h : ¬aw t p<0):br t (p::r)=br (al (t:= .node) t.kids (Int.toNat (aw t p))) r:=by
 unfold br
 simp only[fj]
 rw[show fC p t = .inr (al (t:= .node) t.kids (Int.toNat (aw t p))) by unfold fC;rw[decide_eq_false h];rfl]
 rfl
theorem Bp{α:Type}{xs:List α}{i:Nat}{x:α}(h:xs[i]? =some x):fN (gv xs (i:Int) ((i:Int)+1)) (i:Int) [x]=xs:=by
 have hi:=aP h
 unfold fN gv
 rw[Int.toNat_natCast,show Int.toNat ((i:Int)+1)=i+1 by omega]
 rw[List.take_append_of_le_length (by rw[List.length_take];omega),List.take_take,Nat.min_self,List.drop_append_of_le_length (by rw[List.length_take];omega),List.drop_eq_nil_of_le (by rw[List.length_take];omega),List.nil_append]
 conv=>rhs;rw[nj h]
 simp
theorem vd{α:Type}{xs:List α}{i:Nat}(h:i<xs.length):(gv xs (i:Int) ((i:Int)+1)).length+1=xs.length:=by
 unfold gv
 rw[Int.toNat_natCast,show Int.toNat ((i:Int)+1)=i+1 by omega,List.length_append,List.length_take,List.length_drop];omega
theorem Bq{α:Type}{xs:List α}{i j:Nat}(h:i<xs.length):(gv xs (i:Int) ((i:Int)+1))[j]? =if j<i then xs[j]? else xs[j+1]? :=by
 unfold gv
 rw[Int.toNat_natCast,show Int.toNat ((i:Int)+1)=i+1 by omega,List.getElem?_append,List.length_take,Nat.min_eq_left (by omega)]
 split
 ·rw[List.getElem?_take];simp[*]
 ·rw[List.getElem?_drop];congr 1;omega
theorem zW{t:ae}{s:BA}(hl:t.keys.length=t.kids.length)(h:s ∉ t.keys):bj t s<0:=by
 unfold bj
 cases t.kind==(5:Int)
 ·simp only[cond_false];omega
 ·simp only[cond_true]
  cases hf:aZ (fun j=>cy (al (t:= .str) t.keys j) s) 0 (min t.keys.length t.kids.length) with
  |none=>show (-1:Int)<0;omega
  |some i=>
   obtain⟨_,h2,h3,_⟩:=ct hf
   have e:=c9.1 h3
   exact absurd (e▸List.mem_of_getElem? (dm (t:= .str) (xs:=t.keys) (i:=i) (by omega))) h
theorem oq.lt{ks:List BA}(h:oq ks){i j:Nat}{a b:BA}(zq:i<j)(hi:ks[i]? =some a)(hj:ks[j]? =some b):dE a b=true:=by
 obtain⟨h1,e1⟩:=List.getElem?_eq_some_iff.1 hi
 obtain⟨h2,e2⟩:=List.getElem?_eq_some_iff.1 hj
 have:=List.pairwise_iff_getElem.1 h i j h1 h2 zq
 rw[e1,e2] at this;exact this
theorem JH{ks:List BA}{s:BA}{i:Nat}(h:oq ks)(hi:ks[i]? =some s):fE (gv ks (i:Int) ((i:Int)+1)) s=(i:Int):=by
 have hil:=aP hi
 have hd:=vd hil
 obtain⟨k,e,hk,h1,h2⟩:=kU (gv ks (i:Int) ((i:Int)+1)) s
 rw[e]
 rcases Nat.lt_trichotomy k i with bU | rfl | bU
 ·have hg:ks[k]? =some (ks[k]'(by omega)):=List.getElem?_eq_getElem (by omega)
  have h3:=h2 (ks[k]'(by omega)) (by rw[Bq hil,if_pos bU];exact hg)
  rw[h.lt bU hg hi] at h3;cases h3
 ·rfl
 ·have hg:ks[i+1]? =some (ks[i+1]'(by omega)):=List.getElem?_eq_getElem (by omega)
  have h3:=h1 i (ks[i+1]'(by omega)) bU (by rw[Bq hil,if_neg (by omega)];exact hg)
  rw[xx (h.lt (Nat.lt_succ_self i) hi hg)] at h3;cases h3
theorem T9{ks:List BA}{s:BA}{i:Nat}(h:oq ks)(hi:ks[i]? =some s):s ∉ gv ks (i:Int) ((i:Int)+1):=by
 intro hm
 obtain⟨j,hj⟩:=List.getElem?_of_mem hm
 rw[Bq (aP hi)] at hj
 split at hj
 ·have:=h.inj hi hj;omega
 ·have:=h.inj hi hj;omega
theorem xG{t u:ae}(h1:u.kind=t.kind)(h2:u.keys=t.keys)(h3:u.kids.length=t.kids.length)(s:BA):aw u s=aw t s:=by
 unfold aw bj
 rw[h1,h2,h3]
theorem HH:∀(path:List BA)(t:ae),Wf t→path≠[]→(br t path).2=true→(aC t path).2=true∧aW (aC t path).1 path (br t path).1=(t,true)
 | [],_,_,h,_=>absurd rfl h
 | [p],t,hw,_,ha=>by
  by_cases hk:aw t p<0
  ·rw[Dz hk] at ha;cases ha
  rw[xF hk,lI t p hk]
  show _∧aW _ [p] (al (t:= .node) t.kids (Int.toNat (aw t p)))=_
  obtain⟨i,e,hi⟩:=fM hk
  rw[e,Int.toNat_natCast]
  have hx:=dm (t:= .node) hi
  cases h5:t.kind==(5:Int)
  ·cases h4:t.kind==(4:Int)
   ·exact absurd (show aw t p<0 by unfold aw;rw[h5,h4];simp only[cond_false];omega) hk
   simp only[cond_false]
   refine⟨trivial,?_⟩
   have hd:=vd hi
   have e':oP (aZ (fun j=>cy (bw (j:Int)) p) 0 t.kids.length)=(i:Int):=by
    rw[← e];unfold aw;rw[h5,h4];rfl
   have hp:cy p dash=false:=by
    cases hf:aZ (fun j=>cy (bw (j:Int)) p) 0 t.kids.length with
    |none=>rw[hf] at e';exact absurd e' (by show ¬((-1:Int)=i);omega)
    |some j=>
     obtain⟨_,_,h3,_⟩:=ct hf
     rw[← c9.1 h3];exact xu j
   have hs:kD (mD t (i:Int)) p=(i:Int):=by
    unfold kD
    rw[Dm hp,show (mD t (i:Int)).kids.length+1=t.kids.length from hd]
    exact e'
   have hm:aE (mD t (i:Int))=false:=by unfold aE mD;simp only[h5,cond_false]
   have hk4:((mD t (i:Int)).kind==(4:Int))=true:=h4
   rw[nJ]
   unfold dx
   rw[hm,hk4,hs,decide_eq_false (show ¬((i:Int)<0) by omega)]
   simp only[cond_true,cond_false]
   refine Prod.ext ?_ rfl
   show (⟨t.kind,t.n,t.s,t.keys,fN (gv t.kids (i:Int) ((i:Int)+1)) (i:Int) [_]⟩:ae)=t
   rw[Bp hx,az]
  ·simp only[cond_true]
   refine⟨trivial,?_⟩
   have hk5:t.kind=5:=eq_of_beq h5
   have hmp:=hw.MJ hk5
   obtain⟨hl,ad4⟩:=hw.map hk5
   have ek:bj t p=(i:Int):=by rw[← e];unfold aw;rw[h5];rfl
   have ob:t.keys[i]? =some p:=by
    unfold bj at ek
    rw[h5,cond_true] at ek
    cases hf:aZ (fun j=>cy (al (t:= .str) t.keys j) p) 0 (min t.keys.length t.kids.length) with
    |none=>rw[hf] at ek;exact absurd ek (by show ¬((-1:Int)=i);omega)
    |some j=>
     rw[hf] at ek
     have:j=i:=by have:(j:Int)=i:=ek;omega
     subst this
     obtain⟨_,_,h3,_⟩:=ct hf
     have:=dm (t:= .str) (xs:=t.keys) (i:=j) (by omega)
     rw[c9.1 h3] at this;exact this
   have hu:fL t p=jR t (i:Int):=by
    unfold fL
    rw[hmp,ek,decide_eq_false (show ¬((i:Int)<0) by omega)];rfl
   rw[hu]
   have yO:(jR t (i:Int)).keys.length=(jR t (i:Int)).kids.length:=by
    have h1:=vd (xs:=t.keys) (i:=i) (by omega)
    have h2:=vd hi
    show (gv t.keys (i:Int) ((i:Int)+1)).length=(gv t.kids (i:Int) ((i:Int)+1)).length
    omega
   have hm:aE (jR t (i:Int))=true:=by
    unfold aE
    rw[show ((jR t (i:Int)).kind==(5:Int))=true from h5,yO];simp
   have hkn:bj (jR t (i:Int)) p<0:=zW yO (T9 ad4 ob)
   rw[nJ]
   unfold dx
   rw[hm]
   simp only[cond_true]
   rw[lJ hm hkn]
   refine Prod.ext ?_ rfl
   show (⟨t.kind,t.n,t.s,fN (gv t.keys (i:Int) ((i:Int)+1)) (fE (gv t.keys (i:Int) ((i:Int)+1)) p) [p],fN (gv t.kids (i:Int) ((i:Int)+1)) (fE (gv t.keys (i:Int) ((i:Int)+1)) p) [_]⟩:ae)=t
   rw[JH ad4 ob,Bp ob,Bp hx,az]
 |p::q::r,t,hw,_,ha=>by
  by_cases hk:aw t p<0
  ·rw[Dz hk] at ha;cases ha
  rw[xF hk] at ha ⊢
  obtain⟨i,e,hi⟩:=fM hk
  have hx:=dm (t:= .node) hi
  rw[kj t p q r hk]
  rw[e,Int.toNat_natCast] at ha ⊢
  obtain⟨h1,h2⟩:=HH (q::r) (al (t:= .node) t.kids i) (hw.kids _ (List.mem_of_getElem? hx)) (by simp) ha
  rw[h1]
  simp only[cond_true]
  refine⟨trivial,?_⟩
  generalize hc:(aC (al (t:= .node) t.kids i) (q::r)).1=c at h2
  have ek:aw (bP t (i:Int) c) p=(i:Int):=by
   rw[xG (t:=t) (u:=bP t (i:Int) c) rfl rfl (by show (t.kids.set _ _).length=_;rw[List.length_set]),e]
  rw[mb _ p q r _ (by rw[ek];omega),ek,Int.toNat_natCast]
  have ea:al (t:= .node) (bP t (i:Int) c).kids i=c:=bm (t:= .node) (by
   show (t.kids.set (Int.toNat (i:Int)) c)[i]? =some c
   rw[Int.toNat_natCast,List.getElem?_set_self hi])
  rw[ea,h2]
  simp only[cond_true]
  refine Prod.ext ?_ rfl
  show (⟨t.kind,t.n,t.s,t.keys,(t.kids.set (Int.toNat (i:Int)) c).set (Int.toNat (i:Int)) (al (t:= .node) t.kids i)⟩:ae)=t
  rw[Int.toNat_natCast,List.set_set]
  have:t.kids.set i (al (t:= .node) t.kids i)=t.kids:=by
   refine List.ext_getElem? fun j=> ?_
   rw[List.getElem?_set]
   split
   ·rename_i h;subst h;exact hx.symm
   ·rfl
  rw[this,az]
theorem r6(n:Nat):(ef n).length≤n+1:=by
 by_cases h:n<10
 ·rw[hU h];simp
 ·rw[jO h,List.length_append]
  have:=r6 (n/10)
  simp only[List.length_cons,List.length_nil];omega
theorem FA(n:Nat):(bw (n:Int)).size≤n+1:=by
 rw[im]
 show (ef n).toArray.size≤n+1
 rw[List.size_toArray];exact r6 n
theorem MP(x:ae):∀p∈aN x,fT ByteArray.size p≤2*ak x:=by
 rw[iO,aX]
 intro p hp
 rcases List.mem_cons.1 hp with rfl | hp
 ·show 0+0≤_;omega
 ·refine tj (Q:=fun p=>fT ByteArray.size p≤2*(x.s.size+fT ByteArray.size x.keys+fT ak x.kids)) _ _ _ _ (fun i y hy q hq=> ?_) p hp
  have XB:y∈x.kids:=List.mem_of_getElem? hy
  have h1:=MP y q hq
  have hi:=aP hy
  have h2:x.kids.length+ak y≤fT ak x.kids:=by
   have:=nj hy
   have e:x.kids.length=(x.kids.take i).length+1+(x.kids.drop (i+1)).length:=by
    conv=>lhs;rw[this]
    rw[List.length_append,List.length_cons];omega
   rw[e,this,dh,dI]
   have a:=qz ak (x.kids.take i)
   have b:=qz ak (x.kids.drop (i+1))
   rw[← this]
   omega
  rw[dI]
  have hd:=FA (0+i)
  have hw:(xm x.kind x.keys (0+i)).size+1≤x.kids.length+1∨(xm x.kind x.keys (0+i)).size+1≤fT ByteArray.size x.keys:=by
   unfold xm
   cases x.kind==(5:Int)
   ·left;simp only[cond_false];omega
   by_cases hl:((0+i:Nat):Int)<(x.keys.length:Int)
   ·right
    rw[decide_eq_true hl]
    simp only[cond_true]
    have hg:=dm (t:= .str) (xs:=x.keys) (i:=0+i) (by omega)
    have h3:=nj hg
    have h4:fT ByteArray.size x.keys=fT ByteArray.size (x.keys.take (0+i))+(1+(al (t:= .str) x.keys (0+i)).size+fT ByteArray.size (x.keys.drop (0+i+1))):=by
     conv=>lhs;rw[h3]
     rw[dh,dI]
    omega
   ·left;rw[decide_eq_false hl];simp only[cond_true,cond_false];omega
  omega
termination_by ao x
decreasing_by exact bN XB
theorem DA(t:ae):0<((aN t).length:Int):=by rw[iO,List.length_cons];omega
theorem FB{xs:List BA}:xc xs=true↔(∀ x∈xs,jP x=true)∧oq xs:=by
 unfold xc oq
 rw[rF]
 constructor
 ·intro h
  have ht:∀(i:Nat) x,xs[i]? =some x→jP x=true:=fun i x hx=>by
   have:=h i (Nat.zero_le _) (by have:=aP hx;omega)
   simp only[Fg,bm (t:= .str) hx,Bool.and_eq_true] at this
   exact this.1
  have hs:∀(i:Nat) x y,xs[i]? =some x→xs[i+1]? =some y→dE x y=true:=fun i x y hx hy=>by
   have:=h (i+1) (Nat.zero_le _) (by have:=aP hy;omega)
   simp only[Fg,bm (t:= .str) hy,Nat.add_sub_cancel,bm (t:= .str) hx,Bool.and_eq_true,Bool.or_eq_true,Bool.not_eq_true'] at this
   exact this.2.resolve_left (by rw[decide_eq_true (by omega)];simp)
  refine⟨fun x hx=>let ⟨i,hi⟩:=List.getElem?_of_mem hx;ht i x hi,?_⟩
  have key:∀(d i:Nat) x y,xs[i]? =some x→xs[i+d+1]? =some y→dE x y=true:=by
   intro d
   induction d with
   |zero=>intro i x y hx hy;exact hs i x y hx hy
   |succ d ih=>
    intro i x y hx hy
    have hm:i+d+1<xs.length:=by have:=aP hy;omega
    have hz:=dm (t:= .str) (xs:=xs) hm
    exact qG (ih i x _ hx hz) (hs (i+d+1) _ y hz (by rw[show i+d+1+1=i+(d+1)+1 by omega];exact hy))
  rw[List.pairwise_iff_getElem]
  intro i j hi hj zq
  obtain⟨d,rfl⟩:∃d,j=i+d+1:=⟨j-i-1,by omega⟩
  exact key d i _ _ (List.getElem?_eq_getElem hi) (List.getElem?_eq_getElem hj)
 ·rintro⟨h1,h2⟩ i _ hi
  have nz:i<xs.length:=by omega
  have hx:=dm (t:= .str) (xs:=xs) nz
  simp only[Fg,Bool.and_eq_true,Bool.or_eq_true,Bool.not_eq_true']
  refine⟨h1 _ (List.mem_of_getElem? hx),?_⟩
  by_cases h0:i=0
  ·left;exact decide_eq_false (by omega)
  ·right
   have hp:=dm (t:= .str) (xs:=xs) (i:=i-1) (by omega)
   exact oq.lt h2 (show i-1<i by omega) hp hx
def SL(t:ae):Bool:=cy t.s ByteArray.empty
def Zv(t:ae):Bool:=t.keys.isEmpty&&t.kids.isEmpty
def gm(t:ae):Bool:=
  cond (t.kind==(0:Int)) ((t.n==(0:Int))&&(SL t&&Zv t))
 (cond (t.kind==(1:Int)) (om t.n 0 1&&(SL t&&Zv t))
 (cond (t.kind==(2:Int)) (om t.n (-1000000000000) 1000000000000&&(SL t&&Zv t))
 (cond (t.kind==(3:Int)) (jP t.s&&((t.n==(0:Int))&&Zv t))
 (cond (t.kind==(4:Int)) ((t.n==(0:Int))&&(SL t&&t.keys.isEmpty))
 (cond (t.kind==(5:Int)) (((t.keys.length:Int)==(t.kids.length:Int))&&(xc t.keys&&((t.n==(0:Int))&&SL t))) false)))))
theorem FC{t:ae}(h:t.kind=5):gm t=(((t.keys.length:Int)==(t.kids.length:Int))&&(xc t.keys&&((t.n==(0:Int))&&SL t))):=by
 unfold gm;rw[h];rfl
mutual
def gd:ae→Bool
 |⟨kind,n,s,keys,kids⟩=>gm ⟨kind,n,s,keys,kids⟩&&r7 kids
def r7:List ae→Bool
 | []=>true
 |x::xs=>gd x&&r7 xs
end
theorem xH:∀xs:List ae,r7 xs=xs.all gd
 | []=>by simp[r7]
 |x::xs=>by rw[r7,xH xs,List.all_cons]
theorem lL(t:ae):gd t=(gm t&&t.kids.all gd):=by cases t;rw[gd,xH]
theorem MQ{t:ae}(h:t.kind=4):gm t=((t.n==(0:Int))&&(SL t&&t.keys.isEmpty)):=by
 unfold gm;rw[h];rfl
def ju(t:ae):Bool:=decide ((jE 9 t).1≤(200:Int))&&(decide ((jE 9 t).2≤(8:Int))&&gd t)
theorem DB:∀(x y:List UInt8),Op.bytesLess x y=decide (x<y)
 | [],[]=>by simp[Op.bytesLess]
 | [],_::_=>by simp[Op.bytesLess]
 |_::_,[]=>by simp[Op.bytesLess]
 |a::x,b::y=>by
  rw[Bool.eq_iff_iff]
  simp only[Op.bytesLess,DB x y,Bool.or_eq_true,Bool.and_eq_true,decide_eq_true_eq,beq_iff_eq,List.cons_lt_cons_iff]
theorem Br(a b:BA):dE a b=decide (bL a<bL b):=by
 unfold dE
 rw[DB]
 have e:∀s:BA,s.toList=bL s:=fun s=>ByteArray.toList_eq s
 rw[e,e]
theorem MR{a b:BA}(h:bL a=bL b):a=b:=by rw[← zU a,←zU b,h]
theorem Bt(l:List (List UInt8)):(l.mergeSort fun x y=>decide (x≤y)).Pairwise fun x y=>x≤y:=by
 have:=List.pairwise_mergeSort (le:=fun x y:List UInt8=>decide (x≤y)) (fun a b c h1 h2=>by simp only[decide_eq_true_eq] at *;exact List.le_trans h1 h2) (fun a b=>by simp only[Bool.or_eq_true,decide_eq_true_eq];exact List.le_total a b) l
 exact this.imp fun h=>by simpa using h
theorem MS(xs:List BA):(fO xs).Pairwise fun a b=>dE b a=false:=by
 have h:=Bt (xs.map bL)
 rw[← Dw,List.pairwise_map] at h
 refine h.imp fun {a b} h=> ?_
 rw[Br]
 exact decide_eq_false (List.not_lt.2 h)
theorem JI{xs:List BA}{s:BA}:s∈fO xs↔s∈xs:=by
 unfold fO
 rw[List.mem_map]
 constructor
 ·rintro⟨l,hl,rfl⟩
  rw[List.mem_mergeSort,List.mem_map] at hl
  obtain⟨x,hx,rfl⟩:=hl
  rw[zU];exact hx
 ·intro h
  exact⟨bL s,by rw[List.mem_mergeSort];exact List.mem_map_of_mem h,zU s⟩
theorem JJ{xs:List BA}(h:oq xs):fO xs=xs:=by
 unfold fO
 have hp:(xs.map bL).Pairwise fun x y=>decide (x≤y)=true:=by
  rw[List.pairwise_map]
  refine List.Pairwise.imp (fun {a b} h=> ?_) h
  rw[Br] at h
  exact decide_eq_true (List.le_of_lt (of_decide_eq_true h))
 rw[List.mergeSort_of_pairwise hp,List.map_map]
 exact (List.map_congr_left fun s _=>zU s).trans (List.map_id _)
theorem DC(d:Array (List UInt8))(hs:∀i j:Nat,i≤j→j<d.size→d[i]! ≤d[j]!):∀m:Nat,m≤d.size→(Lib.compactUpTo d m).Pairwise (fun x y=>x<y)∧∀x,x∈Lib.compactUpTo d m↔∃j,j<m∧d[j]! =x
 |0,_=>by
  have:Lib.compactUpTo d 0=[]:=rfl
  rw[this];simp
 |m+1,hm=>by
  obtain⟨h1,h2⟩:=DC d hs m (by omega)
  rw[Lib.compactUpTo_succ]
  by_cases hk:Lib.keeps d m=true
  ·rw[if_pos hk]
   refine⟨List.pairwise_append.2 ⟨h1,List.pairwise_singleton _ _,fun x hx y hy=> ?_⟩,fun x=> ?_⟩
   ·have hy:y=d[m]! :=by simpa using hy
    subst hy
    obtain⟨j,hj,rfl⟩:=(h2 x).1 hx
    have h0:m≠0:=by omega
    have dn:d[m]! ≠d[m-1]! :=by
     intro e
     rw[Lib.keeps_neg (by omega) e] at hk;cases hk
    have a:=hs j (m-1) (by omega) (by omega)
    have b:=hs (m-1) m (by omega) (by omega)
    by_cases bU:d[j]! <d[m]!
    ·exact bU
    ·exact absurd (List.le_antisymm (List.le_trans (List.not_lt.1 bU) a) b) dn
   ·rw[List.mem_append,h2,List.mem_singleton]
    constructor
    ·rintro (⟨j,hj,e⟩ | rfl)
     ·exact⟨j,by omega,e⟩
     ·exact⟨m,by omega,rfl⟩
    ·rintro⟨j,hj,e⟩
     by_cases hjm:j=m
     ·subst hjm;exact .inr e.symm
     ·exact .inl ⟨j,by omega,e⟩
  ·rw[if_neg hk,List.append_nil]
   refine⟨h1,fun x=> ?_⟩
   rw[h2]
   have hm0:m≠0:=by
    intro e
    subst e
    exact hk (Lib.keeps_lt_one d 0 (by omega))
   have he:d[m]! =d[m-1]! :=by
    by_cases e:d[m]! =d[m-1]!
    ·exact e
    ·exact absurd (Lib.keeps_pos e) hk
   constructor
   ·rintro⟨j,hj,e⟩;exact⟨j,by omega,e⟩
   ·rintro⟨j,hj,e⟩
    by_cases hjm:j=m
    ·subst hjm;exact⟨j-1,by omega,by rw[← he];exact e⟩
    ·exact⟨j,by omega,e⟩
theorem Bu{xs:List BA}(h:xs.Pairwise fun a b=>dE b a=false):oq (js xs)∧∀s,s∈js xs↔s∈xs:=by
 have hs:∀i j:Nat,i≤j→j<(xs.map bL).toArray.size→(xs.map bL).toArray[i]! ≤(xs.map bL).toArray[j]! :=by
  intro i j zq hj
  have hj:j<xs.length:=by simpa using hj
  rw[getElem!_pos _ i (by simp;omega),getElem!_pos _ j (by simpa using hj)]
  simp only[List.getElem_toArray,List.getElem_map]
  by_cases e:i=j
  ·subst e;exact List.le_refl _
  ·have:=List.pairwise_iff_getElem.1 h i j (by omega) hj (by omega)
   rw[Br] at this
   exact List.not_lt.1 (of_decide_eq_false this)
 obtain⟨h1,h2⟩:=DC (xs.map bL).toArray hs xs.length (by simp)
 have e:Lib.compactUpTo (xs.map bL).toArray xs.length=Lib.compact (xs.map bL):=by unfold Lib.compact;rw[List.length_map]
 rw[e] at h1 h2
 constructor
 ·unfold oq
  have h3:=h1
  rw[← r4,List.pairwise_map] at h3
  exact h3.imp fun {a b} h=>by rw[Br];exact decide_eq_true h
 ·intro s
  constructor
  ·intro hm
   have hb:bL s∈Lib.compact (xs.map bL):=by rw[← r4];exact List.mem_map_of_mem hm
   obtain⟨j,hj,e⟩:=(h2 _).1 hb
   rw[getElem!_pos _ j (by simpa using hj)] at e
   simp only[List.getElem_toArray,List.getElem_map] at e
   rw[← MR e]
   exact List.getElem_mem _
  ·intro hm
   obtain⟨j,hj,e⟩:=List.getElem_of_mem hm
   have hb:bL s∈Lib.compact (xs.map bL):=(h2 _).2 ⟨j,hj,by
    rw[getElem!_pos _ j (by simpa using hj)]
    simp only[List.getElem_toArray,List.getElem_map,e]⟩
   rw[← r4] at hb
   obtain⟨x,hx,ex⟩:=List.mem_map.1 hb
   rw[← MR ex];exact hx
theorem ve:∀{xs ys:List BA},oq xs→oq ys→(∀ s,s∈xs↔s∈ys)→xs=ys
 | [],[],_,_,_=>rfl
 | [],y::ys,_,_,h=>absurd ((h y).2 (by simp)) (by simp)
 |x::xs,[],_,_,h=>absurd ((h x).1 (by simp)) (by simp)
 |x::xs,y::ys,hx,hy,h=>by
  have oi:=List.pairwise_cons.1 hx
  have WZ:=List.pairwise_cons.1 hy
  have e:x=y:=by
   rcases List.mem_cons.1 ((h x).1 (by simp)) with e | hm
   ·exact e
   ·rcases List.mem_cons.1 ((h y).2 (by simp)) with e | G7
    ·exact e.symm
    ·have a:=WZ.1 x hm
     have b:=oi.1 y G7
     have a:dE y x=true:=a
     have b:dE x y=true:=b
     rw[xx a] at b;cases b
  subst e
  congr 1
  refine ve oi.2 WZ.2 fun s=> ?_
  have hn:∀{zs:List BA},(∀ b∈zs,dE x b=true)→x ∉ zs:=fun hz hm=>by
   have:=hz x hm
   rw[mc] at this;cases this
  constructor
  ·intro hs
   rcases List.mem_cons.1 ((h s).1 (by simp[hs])) with e | hm
   ·exact absurd (e▸hs) (hn oi.1)
   ·exact hm
  ·intro hs
   rcases List.mem_cons.1 ((h s).2 (by simp[hs])) with e | hm
   ·exact absurd (e▸hs) (hn WZ.1)
   ·exact hm
def gg(xs ys:List BA):List BA:=js (fO (xs++ys))
theorem dY(xs ys:List BA):oq (gg xs ys)∧∀s,s∈gg xs ys↔s∈xs∨s∈ys:=by
 obtain⟨h1,h2⟩:=Bu (MS (xs++ys))
 exact⟨h1,fun s=>by unfold gg;rw[h2,JI,List.mem_append]⟩
theorem iP{α:Type}{f:α→Nat}{x:α}{xs:List α}:p5 f (x::xs)=f x+p5 f xs:=by simp[p5]
section
variable (pt : List BA → BA)
end
end Go.Gm
namespace Go.Gm
open Go
end Go.Gm
namespace Go.Gm
open Go
variable {wl w w' : World} {Mf ROa : Nat → Prop}
theorem Er.cell(h:Er wl w ROa){b o:Nat}{v:Value}(hc:wl.cell? ⟨b,o,none⟩=some v):w.cell? ⟨b,o,none⟩=some v:=by
 cases hb:wl.heap[b]? with
 |none=>simp[World.cell?,hb] at hc
 |some x=>
  have:=(h b x hb).2
  simpa [World.cell?,hb,this] using hc
end Go.Gm
namespace Go.Gm
open Go
def gn{α β:Type}(g:Nat→α→List β):Nat→List α→List β
 |_,[]=>[]
 |j,x::xs=>g j x++gn g (j+1) xs
theorem pF{α β R:Type}{xs:List α}{g:Nat→α→List β}{F:Nat→Nat→List β→Option R}{good:List β→Option R}
 (hs:∀m (j:Nat) out x,xs[j]? =some x→out.length+(g j x).length≤bT→F (m+1) j out=F m (j+1) (out++g j x)) (he:∀m out,F (m+1) xs.length out=good out):
    ∀(d j m:Nat)(out:List β),j+d=xs.length→d<m→out.length+(gn g j (xs.drop j)).length≤bT→F m j out=good (out++gn g j (xs.drop j)):=by
 intro d
 induction d with
 |zero=>
  intro j m out hj hm _
  obtain⟨m,rfl⟩:∃m',m=m'+1:=⟨m-1,by omega⟩
  have:j=xs.length:=by omega
  subst this
  rw[he,List.drop_length,gn,List.append_nil]
 |succ d ih=>
  intro j m out hj hm hl
  obtain⟨m,rfl⟩:∃m',m=m'+1:=⟨m-1,by omega⟩
  obtain⟨x,hx,hd⟩:=cH (show j<xs.length by omega)
  rw[hd,gn,List.length_append] at hl
  rw[hs m j out x hx (by omega),hd,gn,←List.append_assoc]
  exact ih (j+1) m _ (by omega) (by omega) (by rw[List.length_append];omega)
section
variable (pt : List BA → BA)
end
theorem r8{t x:ae}(h:x∈t.kids):ak x+1+fT ByteArray.size t.keys≤ak t:=by
 have:=w4 ak h
 have e:fT ak t.kids=t.kids.length+(t.kids.map ak).sum:=rfl
 have:=List.length_pos_of_mem h
 rw[aX t];omega
theorem MT(xs:List BA)(s:BA):fT ByteArray.size (xs++[s])=fT ByteArray.size xs+s.size+1:=by
 unfold fT
 simp only[List.length_append,List.map_append,List.sum_append,List.length_cons,List.length_nil,List.map_cons,List.map_nil,List.sum_cons,List.sum_nil];omega
def jv(t:ae)(d:Int):Int×Int:=jE (Int.toNat d) t
def p7(t:ae)(d:Int):Bool:=ag t&&(decide (0≤d)&&decide (d≤9))
theorem HI{f:ae→Int×Int}{B:Int}(hf:∀x,0≤(f x).1∧(f x).1≤201∧0≤(f x).2∧(f x).2≤B):∀(xs:List ae)(a:Int×Int),0≤a.1∧a.1≤201∧0≤a.2∧a.2≤B→
    0≤(xs.foldl (gN f) a).1∧(xs.foldl (gN f) a).1≤201∧0≤(xs.foldl (gN f) a).2∧(xs.foldl (gN f) a).2≤B
 | [],a,h=>h
 |x::xs,a,h=>by
  have:=hf x
  exact HI hf xs _ (by unfold gN;simp only;omega)
theorem r9:∀(d:Nat)(t:ae),0≤(jE d t).1∧(jE d t).1≤201∧0≤(jE d t).2∧(jE d t).2≤9+d
 |0,_=>by
  show (0:Int)≤201∧(201:Int)≤201∧(0:Int)≤9∧(9:Int)≤9+((0:Nat):Int)
  omega
 |d+1,t=>by
  have:=HI (B:=9+d) (r9 d) t.kids (1,0) ⟨by decide,by decide,by decide,by show (0:Int)≤_;omega⟩
  simp only[jE]
  omega
theorem DD(f:ae→Int×Int)(a:Int×Int)(x:ae)(h:0≤a.1∧a.1≤201)(h':0≤(f x).1∧(f x).1≤201):
 ((if (201:Int)<IntKind.wrap .i64 (a.1+(f x).1) then (201:Int) else IntKind.wrap .i64 (a.1+(f x).1)),(if (f x).2>a.2 then (f x).2 else a.2))=gN f a x:=by
 rw[cn (by omega) (by omega)]
 unfold gN
 congr 1
 ·split<;>omega
 ·split<;>omega
theorem MU{α:Type}(xs:List α):((xs.length:Int)==(0:Int))=xs.isEmpty:=by
 cases xs with
 |nil=>rfl
 |cons x xs=>exact beq_eq_false_iff_ne.2 (by rw[List.length_cons];omega)
def o3(t:ae):Bool:= !(gd t)
def sd(xs:List ae):Int:=rJ (t:= .node) o3 xs
def nm(xs:List ae):Bool:=xs.any o3
theorem Bv(xs:List ae):(!(nm xs))=xs.all gd:=by
 unfold nm
 rw[← TP];rfl
def Zw(t:ae):Nat:=4*ao t
def XF(t:ae):Nat:=4*ao t+1
def XG(t:List ae):Nat:=4*p5 ao t+2
def Zx(t:List ae):Nat:=4*p5 ao t+3
end Go.Gm
namespace Go.Gm
open Go
noncomputable def kn(t0:ae):ae→Nat→List ai→ae×Int
 |t,_,[]=>(t,-1)
 |t,i,p::r=>cond (aU t p).2 (kn t0 (aU t p).1 (i+1) r) (t0,(i:Int))
noncomputable def fe(t:ae)(l:List ai):ae×Int:=cond (decide ((l.length:Int)>(200:Int))) (t,0) (kn t t 0 l)
noncomputable def FD:ae→List ai→Bool
 |t,[]=>ag t
 |t,p::r=>B9 t p&&cond (aU t p).2 (FD (aU t p).1 r) true
noncomputable def XH(t:ae)(l:List ai):Bool:=ag t&&cond (decide ((l.length:Int)>(200:Int))) true (FD t l)
def MV(k:BA):ai:=⟨(2:Int),[k],[],⟨(0:Int),(0:Int),ByteArray.empty,[],[]⟩⟩
def JK(k:BA)(y:ae):ai:=⟨(1:Int),[k],[],y⟩
def opX(y:ae):ai:=⟨(3:Int),[],[],y⟩
def o4(s:BA)(p:ai):ai:=⟨p.kind,[s]++p.path,p.src,p.x⟩
def bK(s:BA)(l:List ai):List ai:=l.map (o4 s)
abbrev pR:=BA×ae
def bF(rec:ae→ae→List ai):List pR→List pR→List ai
 | [],[]=>[]
 |k::r,[]=>MV k.1::bF rec r []
 | [],l::s=>JK l.1 l.2::bF rec [] s
 |k::r,l::s=>cond (dE k.1 l.1) (MV k.1::bF rec r (l::s)) (cond (dE l.1 k.1) (JK l.1 l.2::bF rec (k::r) s) (bK k.1 (rec k.2 l.2)++bF rec r s))
termination_by r s=>r.length+s.length
def dZ(t:ae):List pR:=t.keys.zip t.kids
noncomputable def o5:Nat→ae→ae→List ai
 |0,_,_=>[]
 |d+1,a,b=>cond (iM a b) [] (cond (aE a&&aE b) (bF (o5 d) (dZ a) (dZ b))
   (cond ((a.kind==(4:Int))&&((b.kind==(4:Int))&&((a.kids.length:Int)==(b.kids.length:Int)))) (gn (fun i x=>bK (bw (i:Int)) (o5 d x (al (t:= .node) b.kids i))) 0 a.kids) [opX b]))
theorem fF{f g:ae→ae→List ai}:∀(r s:List pR),(∀ k∈r,∀y,f k.2 y=g k.2 y)→bF f r s=bF g r s
 | [],[],_=>by rw[bF,bF]
 |k::r,[],h=>by rw[bF,bF,fF r [] fun x hx=>h x (by simp[hx])]
 | [],l::s,h=>by rw[bF,bF,fF [] s h]
 |k::r,l::s,h=>by
  rw[bF,bF,fF r (l::s) fun x hx=>h x (by simp[hx]),fF (k::r) s h,fF r s fun x hx=>h x (by simp[hx]),h k (by simp)]
termination_by r s=>r.length+s.length
theorem o6{α β:Type}{f g:Nat→α→List β}:∀(xs:List α)(j:Nat),(∀ i,∀x∈xs,f i x=g i x)→gn f j xs=gn g j xs
 | [],_,_=>rfl
 |x::xs,j,h=>by rw[gn,gn,h j x (by simp),o6 xs (j+1) fun i y hy=>h i y (by simp[hy])]
theorem dJ{t:ae}{k:pR}(h:k∈dZ t):k.1∈t.keys∧k.2∈t.kids:=⟨(List.of_mem_zip (a:=k.1) (b:=k.2) h).1,(List.of_mem_zip (a:=k.1) (b:=k.2) h).2⟩
theorem xI:∀(d e:Nat)(a b:ae),ao a≤d→ao a≤e→o5 d a b=o5 e a b
 |0,_,a,_,h,_=>by rw[bV] at h;omega
 |_+1,0,a,_,_,h=>by rw[bV] at h;omega
 |d+1,e+1,a,b,h1,h2=>by
  have ih:∀x∈a.kids,∀y,o5 d x y=o5 e x y:=fun x hx y=>by
   have:=bN hx
   exact xI d e x y (by omega) (by omega)
  simp only[o5]
  rw[fF (dZ a) (dZ b) fun k hk y=>ih k.2 (dJ hk).2 y,o6 a.kids 0 fun i x hx=>by rw[ih x hx]]
noncomputable def aM(a b:ae):List ai:=o5 (ao a) a b
theorem lh(a b:ae):aM a b=cond (iM a b) [] (cond (aE a&&aE b) (bF aM (dZ a) (dZ b))
 (cond ((a.kind==(4:Int))&&((b.kind==(4:Int))&&((a.kids.length:Int)==(b.kids.length:Int)))) (gn (fun i x=>bK (bw (i:Int)) (aM x (al (t:= .node) b.kids i))) 0 a.kids) [opX b])):=by
 have e:ao a=(ao a-1)+1:=by rw[bV];omega
 have ih:∀x∈a.kids,∀y,o5 (ao a-1) x y=aM x y:=fun x hx y=>by
  have:=bN hx
  exact xI _ _ x y (by omega) (Nat.le_refl _)
 have e2:aM a b=o5 (ao a-1+1) a b:=by unfold aM;rw[← e]
 rw[e2]
 simp only[o5]
 rw[fF (g:=aM) (dZ a) (dZ b) fun k hk y=>ih k.2 (dJ hk).2 y,o6 (g:=fun i x=>bK (bw (i:Int)) (aM x (al (t:= .node) b.kids i))) a.kids 0 fun i x hx=>by rw[ih x hx]]
theorem iG{f:ae→ae→List ai}:∀(r s:List pR),(∀ k∈r,∀l∈s,(f k.2 l.2).length≤ao k.2+ao l.2)→(bF f r s).length≤p5 (fun k:pR=>ao k.2) r+p5 (fun k:pR=>ao k.2) s
 | [],[],_=>by rw[bF];simp
 |k::r,[],h=>by
  have:=iG (f:=f) r [] fun x _ y hy=>by simp at hy
  have hp:1≤ao k.2:=by rw[bV];omega
  rw[bF,List.length_cons,iP];omega
 | [],l::s,h=>by
  have:=iG (f:=f) [] s fun x hx=>by simp at hx
  have hp:1≤ao l.2:=by rw[bV];omega
  rw[bF,List.length_cons,iP];omega
 |k::r,l::s,h=>by
  have h1:=iG r (l::s) fun x hx y hy=>h x (by simp[hx]) y hy
  have h2:=iG (k::r) s fun x hx y hy=>h x hx y (by simp[hy])
  have h3:=iG r s fun x hx y hy=>h x (by simp[hx]) y (by simp[hy])
  have h4:=h k (by simp) l (by simp)
  have hp:1≤ao k.2:=by rw[bV];omega
  have hq:1≤ao l.2:=by rw[bV];omega
  rw[iP,iP] at *
  rw[bF]
  cases dE k.1 l.1
  ·cases dE l.1 k.1
   ·simp only[cond_false,List.length_append,bK,List.length_map];omega
   ·simp only[cond_true,cond_false,List.length_cons];omega
  ·simp only[cond_true,List.length_cons];omega
termination_by r s=>r.length+s.length
theorem se:∀(ks:List BA)(xs:List ae),p5 (fun k:pR=>ao k.2) (ks.zip xs)≤p5 ao xs
 | [],xs=>by simp[p5]
 |_::_,[]=>by simp[p5]
 |k::ks,x::xs=>by
  have:=se ks xs
  rw[List.zip_cons_cons,iP,iP]
  show ao x+_≤_
  omega
theorem zX{g:Nat→ae→List ai}:∀(xs ys:List ae)(j:Nat),xs.length=ys.length→(∀ i x y,xs[i]? =some x→ys[i]? =some y→(g (j+i) x).length≤ao x+ao y)→(gn g j xs).length≤p5 ao xs+p5 ao ys
 | [],[],_,_,_=>by simp[gn]
 | [],_::_,_,h,_=>by simp at h
 |_::_,[],_,h,_=>by simp at h
 |x::xs,y::ys,j,hl,h=>by
  have h1:=h 0 x y rfl rfl
  have h2:=zX (g:=g) xs ys (j+1) (by simpa using hl) fun i x y hx hy=>by
   have:=h (i+1) x y hx hy
   rwa [show j+(i+1)=j+1+i by omega] at this
  rw[gn,List.length_append,iP,iP]
  rw[Nat.add_zero] at h1;omega
theorem tq(a b:ae):(aM a b).length≤ao a+ao b:=by
 have ih:∀x∈a.kids,∀y,(aM x y).length≤ao x+ao y:=fun x HJ y=>tq x y
 rw[lh,bV a,bV b]
 cases iM a b
 ·cases aE a&&aE b
  ·cases h4:(a.kind==(4:Int))&&((b.kind==(4:Int))&&((a.kids.length:Int)==(b.kids.length:Int)))
   ·simp only[cond_false,List.length_cons,List.length_nil];omega
   ·simp only[Bool.and_eq_true,beq_iff_eq] at h4
    simp only[cond_true,cond_false]
    have:=zX (g:=fun i x=>bK (bw (i:Int)) (aM x (al (t:= .node) b.kids i))) a.kids b.kids 0 (by omega) fun i x y hx hy=>by
     simp only[bK,List.length_map,Nat.zero_add,bm (t:= .node) hy]
     exact ih x (List.mem_of_getElem? hx) y
    omega
  ·have:=iG (f:=aM) (dZ a) (dZ b) fun k hk l _=>ih k.2 (dJ hk).2 l.2
   have h1:=se a.keys a.kids
   have h2:=se b.keys b.kids
   simp only[cond_true,cond_false]
   unfold dZ at this ⊢
   omega
 ·simp
termination_by ao a
decreasing_by exact bN HJ
theorem zY{x:BA}{ks ls:List BA}(hk:∀y∈ks,dE x y=true)(hl:∀y∈ls,dE x y=true):gg (x::ks) ls=x::gg ks ls:=by
 obtain⟨a1,a2⟩:=dY (x::ks) ls
 obtain⟨b1,b2⟩:=dY ks ls
 refine ve a1 (List.pairwise_cons.2 ⟨fun y hy=> ?_,b1⟩) fun s=> ?_
 ·rcases (b2 y).1 hy with h | h
  ·exact hk y h
  ·exact hl y h
 ·rw[a2,List.mem_cons,List.mem_cons,b2,or_assoc]
theorem zZ{x:BA}{ks ls:List BA}(hk:∀y∈ks,dE x y=true)(hl:∀y∈ls,dE x y=true):gg ks (x::ls)=x::gg ks ls:=by
 obtain⟨a1,a2⟩:=dY ks (x::ls)
 obtain⟨b1,b2⟩:=dY ks ls
 refine ve a1 (List.pairwise_cons.2 ⟨fun y hy=> ?_,b1⟩) fun s=> ?_
 ·rcases (b2 y).1 hy with h | h
  ·exact hk y h
  ·exact hl y h
 ·rw[a2,List.mem_cons,List.mem_cons,b2]
  constructor
  ·rintro (h | h | h)
   ·exact .inr (.inl h)
   ·exact .inl h
   ·exact .inr (.inr h)
  ·rintro (h | h | h)
   ·exact .inr (.inl h)
   ·exact .inl h
   ·exact .inr (.inr h)
theorem JL{x:BA}{ks ls:List BA}(hk:∀y∈ks,dE x y=true)(hl:∀y∈ls,dE x y=true):gg (x::ks) (x::ls)=x::gg ks ls:=by
 obtain⟨a1,a2⟩:=dY (x::ks) (x::ls)
 obtain⟨b1,b2⟩:=dY ks ls
 refine ve a1 (List.pairwise_cons.2 ⟨fun y hy=> ?_,b1⟩) fun s=> ?_
 ·rcases (b2 y).1 hy with h | h
  ·exact hk y h
  ·exact hl y h
 ·rw[a2,List.mem_cons,List.mem_cons,List.mem_cons,b2]
  constructor
  ·rintro ((h | h) | h | h)
   ·exact .inl h
   ·exact .inr (.inl h)
   ·exact .inl h
   ·exact .inr (.inr h)
  ·rintro (h | h | h)
   ·exact .inl (.inl h)
   ·exact .inl (.inr h)
   ·exact .inr (.inr h)
def jF:List pR→BA→Option ae
 | [],_=>none
 |k::r,s=>cond (cy k.1 s) (some k.2) (jF r s)
def kJ(f:ae→ae→List ai)(r s:List pR)(key:BA):List ai:=
  match jF s key with
 |none=>[MV key]
 |some y=>match jF r key with
  |none=>[JK key y]
  |some x=>bK key (f x y)
def pS(r:List pR):Prop:=r.Pairwise fun a b=>dE a.1 b.1=true
theorem pS.keys{r:List pR}(h:pS r):oq (r.map Prod.fst):=List.pairwise_map.2 h
theorem xJ{r:List pR}{s:BA}(h:∀k∈r,dE s k.1=true):jF r s=none:=by
 induction r with
 |nil=>rfl
 |cons k r ih=>
  have hk:=h k (by simp)
  have:cy k.1 s=false:=by
   cases hs:cy k.1 s with
   |false=>rfl
   |true=>rw[c9.1 hs,mc] at hk;cases hk
  rw[jF,this]
  exact ih fun x hx=>h x (by simp[hx])
theorem lM{k:pR}{r:List pR}{s:BA}(h:dE k.1 s=true):jF (k::r) s=jF r s:=by
 have:cy k.1 s=false:=by
  cases hs:cy k.1 s with
  |false=>rfl
  |true=>rw[c9.1 hs,mc] at h;cases h
 rw[jF,this];rfl
theorem gO{α β:Type}{f g:α→List β}:∀{l:List α},(∀ x∈l,f x=g x)→l.flatMap f=l.flatMap g
 | [],_=>rfl
 |x::l,h=>by rw[List.flatMap_cons,List.flatMap_cons,h x (by simp),gO fun y hy=>h y (by simp[hy])]
theorem iQ(f:ae→ae→List ai):∀(r s:List pR),pS r→pS s→(gg (r.map Prod.fst) (s.map Prod.fst)).flatMap (kJ f r s)=bF f r s
 | [],[],_,_=>by
  have:gg [] []=[]:=by
   have:=(dY [] []).2
   cases h:gg [] [] with
   |nil=>rfl
   |cons x xs=>rw[h] at this;exact absurd ((this x).1 (by simp)) (by simp)
  rw[bF,List.map_nil,this];rfl
 |k::r,[],hr,hs=>by
  have j6:=List.pairwise_cons.1 hr
  have bU:∀y∈r.map Prod.fst,dE k.1 y=true:=fun y hy=>by
   obtain⟨z,hz,rfl⟩:=List.mem_map.1 hy
   exact j6.1 z hz
  rw[bF,List.map_cons,List.map_nil,zY bU (by simp),List.flatMap_cons,←iQ f r [] j6.2 hs]
  rfl
 | [],l::s,hr,hs=>by
  have eK:=List.pairwise_cons.1 hs
  have bU:∀y∈s.map Prod.fst,dE l.1 y=true:=fun y hy=>by
   obtain⟨z,hz,rfl⟩:=List.mem_map.1 hy
   exact eK.1 z hz
  have hu:∀y∈gg [] (s.map Prod.fst),dE l.1 y=true:=fun y hy=>by
   rcases ((dY _ _).2 y).1 hy with h | h
   ·simp at h
   ·exact bU y h
  rw[bF,List.map_cons,List.map_nil,zZ (by simp) bU,List.flatMap_cons,←iQ f [] s hr eK.2]
  have e:kJ f [] (l::s) l.1=[JK l.1 l.2]:=by unfold kJ;simp only[jF,jo,cond_true]
  rw[e]
  show JK l.1 l.2::_=_
  congr 1
  refine gO fun y hy=> ?_
  unfold kJ
  rw[lM (hu y hy)]
 |k::r,l::s,hr,hs=>by
  have j6:=List.pairwise_cons.1 hr
  have eK:=List.pairwise_cons.1 hs
  have JM:∀y∈r.map Prod.fst,dE k.1 y=true:=fun y hy=>by
   obtain⟨z,hz,rfl⟩:=List.mem_map.1 hy
   exact j6.1 z hz
  have JN:∀y∈s.map Prod.fst,dE l.1 y=true:=fun y hy=>by
   obtain⟨z,hz,rfl⟩:=List.mem_map.1 hy
   exact eK.1 z hz
  rw[bF]
  cases xo:dE k.1 l.1
  ·cases yO:dE l.1 k.1
   ·have e:k.1=l.1:=by
     by_cases e:k.1=l.1
     ·exact e
     ·rw[Bn xo e] at yO;cases yO
    have hu:∀y∈gg (r.map Prod.fst) (s.map Prod.fst),dE k.1 y=true∧dE l.1 y=true:=fun y hy=>by
     rcases ((dY _ _).2 y).1 hy with h | h
     ·exact⟨JM y h,e▸JM y h⟩
     ·exact⟨e▸JN y h,JN y h⟩
    simp only[cond_false]
    rw[List.map_cons,List.map_cons,←e,JL JM (fun y hy=>e▸JN y hy),List.flatMap_cons,←iQ f r s j6.2 eK.2]
    have e1:kJ f (k::r) (l::s) k.1=bK k.1 (f k.2 l.2):=by
     unfold kJ
     simp only[jF,jo,c9.2 e.symm,cond_true]
    rw[e1]
    congr 1
    refine gO fun y hy=> ?_
    unfold kJ
    rw[lM (hu y hy).1,lM (hu y hy).2]
   ·have hu:∀y∈gg ((k::r).map Prod.fst) (s.map Prod.fst),dE l.1 y=true:=fun y hy=>by
     rcases ((dY _ _).2 y).1 hy with h | h
     ·rcases List.mem_cons.1 h with rfl | h
      ·exact yO
      ·exact qG yO (JM y h)
     ·exact JN y h
    have ED:∀y∈(k::r).map Prod.fst,dE l.1 y=true:=fun y hy=>hu y (((dY _ _).2 y).2 (.inl hy))
    simp only[cond_true,cond_false]
    rw[List.map_cons (l:=s),zZ ED JN,List.flatMap_cons,←iQ f (k::r) s hr eK.2]
    have e1:kJ f (k::r) (l::s) l.1=[JK l.1 l.2]:=by
     unfold kJ
     rw[xJ (r:=k::r) fun z hz=>ED z.1 (List.mem_map_of_mem hz)]
     simp only[jF,jo,cond_true]
    rw[e1]
    show JK l.1 l.2::_=_
    congr 1
    refine gO fun y hy=> ?_
    unfold kJ
    rw[lM (hu y hy)]
  ·have hu:∀y∈gg (r.map Prod.fst) ((l::s).map Prod.fst),dE k.1 y=true:=fun y hy=>by
    rcases ((dY _ _).2 y).1 hy with h | h
    ·exact JM y h
    ·rcases List.mem_cons.1 h with rfl | h
     ·exact xo
     ·exact qG xo (JN y h)
   have ED:∀y∈(l::s).map Prod.fst,dE k.1 y=true:=fun y hy=>hu y (((dY _ _).2 y).2 (.inr hy))
   simp only[cond_true]
   rw[List.map_cons (l:=r),zY JM ED,List.flatMap_cons,←iQ f r (l::s) j6.2 hs]
   have e1:kJ f (k::r) (l::s) k.1=[MV k.1]:=by
    unfold kJ
    rw[xJ (r:=l::s) fun z hz=>ED z.1 (List.mem_map_of_mem hz)]
   rw[e1]
   show MV k.1::_=_
   congr 1
   refine gO fun y hy=> ?_
   unfold kJ
   rw[lM (hu y hy)]
termination_by r s=>r.length+s.length
theorem MW{i j:Nat}(hi:i≤1048576)(hj:j≤1048576)(h:bw (i:Int)=bw (j:Int)):i=j:=by
 have a:=xk hi
 rw[h,xk hj] at a
 have:(j:Int)=i:=congrArg (·.1) a
 omega
theorem MX{t:ae}{s:BA}{i:Nat}(hm:aE t=true)(ha:oq t.keys)(h:t.keys[i]? =some s):bj t s=(i:Int):=by
 by_cases hk:bj t s<0
 ·exact absurd (List.mem_of_getElem? h) (qH hm hk)
 obtain⟨h5,hl⟩:=cd hm
 obtain⟨j,e,h1,h2⟩:=lH t s hk
 have ob:t.keys[j]? =some s:=by
  have ek:=e
  unfold bj at ek
  rw[h5,cond_true] at ek
  cases hf:aZ (fun j=>cy (al (t:= .str) t.keys j) s) 0 (min t.keys.length t.kids.length) with
  |none=>rw[hf] at ek;exact absurd ek (by show ¬((-1:Int)=j);omega)
  |some m=>
   rw[hf] at ek
   have:m=j:=by have:(m:Int)=j:=ek;omega
   subst this
   obtain⟨_,_,h3,_⟩:=ct hf
   have:=dm (t:= .str) (xs:=t.keys) (i:=m) (by omega)
   rw[c9.1 h3] at this;exact this
 rw[e,ha.inj ob h]
theorem kV{t y:ae}{p:ai}:aU t p=(y,true)↔cB t p=(y,true):=by
 unfold aU
 constructor
 ·intro h
  cases hc:(cB t p).2
  ·rw[hc] at h;cases h
  ·rw[hc] at h
   have h:((cB t p).1,true)=(y,true):=h
   rw[← h,←hc]
 ·intro h;rw[h];rfl
theorem tr{t x:ae}{w s:List BA}:cB t ⟨3,w,s,x⟩=cond ((w.length:Int)==(0:Int)) (x,true) (cond (!((aC t w).2)) (cI,false) (aW (aC t w).1 w x)):=rfl
def JO(d:Nat)(p:ai):Prop:=lK p=true∧p.path.length≤d∧p.src=[]∧((p.kind=1∧p.path≠[])∨(p.kind=2∧p.path≠[])∨(p.kind=3∧Wf p.x))
def jx(d:Nat):ae→List ai→ae→Prop
 |t,[],u=>t=u
 |t,p::r,u=>JO d p∧∃t',aU t p=(t',true)∧ag t'=true∧Wf t'∧jx d t' r u
theorem jx.append{d:Nat}:∀{l m:List ai}{t u v:ae},jx d t l u→jx d u m v→jx d t (l++m) v
 | [],_,t,u,v,h,k=>by have:t=u:=h;subst this;exact k
 |p::l,m,t,u,v,h,k=>by
  obtain⟨h1,t',h2,h3,h4,h5⟩:=h
  exact⟨h1,t',h2,h3,h4,h5.append k⟩
theorem jx.mono{d e:Nat}(hde:d≤e):∀{l:List ai}{t u:ae},jx d t l u→jx e t l u
 | [],_,_,h=>h
 |p::l,t,u,h=>by
  obtain⟨⟨a,b,c⟩,t',h2,h3,h4,h5⟩:=h
  exact⟨⟨a,Nat.le_trans b hde,c⟩,t',h2,h3,h4,h5.mono hde⟩
theorem DE{t:ae}{i:Nat}{x:ae}(h:t.kids[i]? =some x):bP t (i:Int) x=t:=by
 unfold bP
 rw[Int.toNat_natCast]
 have:t.kids.set i x=t.kids:=by
  refine List.ext_getElem? fun j=> ?_
  rw[List.getElem?_set]
  split
  ·rename_i hj;subst hj
   split
   ·exact h.symm
   ·rename_i hn;exact absurd (aP h) hn
  ·rfl
 rw[this,az]
theorem p8(t:ae)(i:Nat)(x y:ae):bP (bP t (i:Int) x) (i:Int) y=bP t (i:Int) y:=by
 unfold bP
 simp only[Int.toNat_natCast,List.set_set]
theorem hZ(t:ae)(i:Int)(x:ae)(p:BA):aw (bP t i x) p=aw t p:=
  xG (t:=t) (u:=bP t i x) rfl rfl (by show (t.kids.set _ _).length=_;rw[List.length_set]) p
theorem qJ{t:ae}{i:Nat}{x:ae}(h:i<t.kids.length):(bP t (i:Int) x).kids[i]? =some x:=by
 show (t.kids.set (Int.toNat (i:Int)) x)[i]? =some x
 rw[Int.toNat_natCast,List.getElem?_set_self h]
theorem qK{t:ae}{i:Int}{x y:ae}(h:y∈(bP t i x).kids):y=x∨y∈t.kids:=by
 have h:y∈t.kids.set (Int.toNat i) x:=h
 rcases List.mem_or_eq_of_mem_set h with h | h
 ·exact .inr h
 ·exact .inl h
theorem z6{t:ae}{i:Int}{x:ae}(h:Wf t)(hx:Wf x)(hk:t.kids≠[]):Wf (bP t i x):=by
 have hl:(bP t i x).kids.length=t.kids.length:=by show (t.kids.set _ _).length=_;rw[List.length_set]
 refine .mk (fun h5=> ?_) (fun h4 h5=>absurd (h.leaf h4 h5) hk) (fun h5=>h.Fy h5) fun y hy=> ?_
 ·obtain⟨a,b⟩:=h.map h5
  exact⟨by rw[hl];exact a,b⟩
 ·rcases qK hy with rfl | hy
  ·exact hx
  ·exact h.kids y hy
theorem JP{t:ae}{i:Int}{x:ae}(h:ag t=true)(hx:ag x=true):ag (bP t i x)=true:=by
 obtain⟨h1,h2,h3,h4,h5⟩:=ch h
 rw[bf]
 simp only[Bool.and_eq_true]
 refine⟨h1,h2,h3,h4,?_⟩
 have hl:=aR h5
 unfold dS
 rw[Nat.ble_eq_true_of_le (by show (t.kids.set _ _).length≤_;rw[List.length_set];exact hl),Bool.true_and,List.all_eq_true]
 intro y hy
 rcases qK hy with rfl | hy
 ·exact hx
 ·exact List.all_eq_true.1 (kR h5) y hy
theorem FE{t:ae}{i:Nat}{x:ae}{p:BA}(hk:aw t p=(i:Int))(hm:t.kind=5→aE t=true):aC (bP t (i:Int) x) [p]=aC t [p]:=by
 have hd:gv (t.kids.set i x) (i:Int) ((i:Int)+1)=gv t.kids (i:Int) ((i:Int)+1):=by
  unfold gv
  rw[Int.toNat_natCast,show Int.toNat ((i:Int)+1)=i+1 by omega,List.take_set_of_le (Nat.le_refl _),List.drop_set_of_lt (Nat.lt_succ_self _)]
 rw[lI t p (by omega),lI _ p (by rw[hZ];omega),hZ,hk]
 show cond (t.kind==(5:Int)) _ _=_
 cases h5:t.kind==(5:Int)
 ·simp only[cond_false,mD,bP,Int.toNat_natCast,hd]
 ·have hk5:=eq_of_beq h5
  have KL:=hm hk5
  have G7:aE (bP t (i:Int) x)=true:=by
   obtain⟨a,b⟩:=cd KL
   unfold aE
   rw[show ((bP t (i:Int) x).kind==(5:Int))=true from h5]
   simp only[bP,List.length_set,cond_true,b,beq_self_eq_true]
  have e1:bj t p=(i:Int):=by rw[← hk];unfold aw;rw[h5];rfl
  have e2:bj (bP t (i:Int) x) p=(i:Int):=by
   have:=hZ t (i:Int) x p
   rw[hk] at this
   have h7:aw (bP t (i:Int) x) p=bj (bP t (i:Int) x) p:=by unfold aw;rw[show ((bP t (i:Int) x).kind==(5:Int))=true from h5];rfl
   rw[← h7];exact this
  simp only[cond_true]
  unfold fL
  rw[KL,G7,e1,e2,decide_eq_false (show ¬((i:Int)<0) by omega)]
  simp only[cond_true,cond_false,jR,bP,Int.toNat_natCast,hd]
theorem FF{t x y:ae}{p:BA}{i d:Nat}{q:ai}(hw:Wf t)(hk:aw t p=(i:Int))(hx:t.kids[i]? =some x)(hq:JO d q)(h:aU x q=(y,true)):aU t (o4 p q)=(bP t (i:Int) y,true):=by
 have hi:=aP hx
 have hn : ¬aw t p<0:=by omega
 have ha:al (t:= .node) t.kids (Int.toNat (aw t p))=x:=by rw[hk,Int.toNat_natCast];exact bm (t:= .node) hx
 obtain⟨_,_,_,Zy⟩:=hq
 rw[kV] at h ⊢
 obtain⟨kd,w,s,z⟩:=q
 cases w with
 |nil=>
  rcases Zy with ⟨_,h0⟩ | ⟨_,h0⟩ | ⟨h3,hz⟩
  ·exact absurd rfl h0
  ·exact absurd rfl h0
  ·have h3:kd=3:=h3
   subst h3
   have e:z=y:=by
    have h:((z,true):ae×Bool)=(y,true):=h
    exact congrArg Prod.fst h
   subst e
   show cB t ⟨3,[p],s,z⟩=_
   rw[tr]
   have hz0:((([p]:List BA).length:Int)==(0:Int))=false:=rfl
   rw[hz0]
   simp only[cond_false]
   have hm5:t.kind=5→aE t=true:=fun h5=>hw.MJ h5
   have hw2:Wf (bP t (i:Int) z):=z6 hw hz (by intro e;rw[e] at hi;simp at hi)
   have Ee:aw (bP t (i:Int) z) p=(i:Int):=by rw[hZ];exact hk
   have cQ:br (bP t (i:Int) z) [p]=(z,true):=by
    rw[xF (by omega),Ee,Int.toNat_natCast,bm (t:= .node) (qJ hi)];rfl
   obtain⟨c1,c2⟩:=HH [p] (bP t (i:Int) z) hw2 (by simp) (by rw[cQ])
   rw[cQ] at c2
   rw[FE hk hm5] at c1 c2
   rw[c1]
   exact c2
 |cons a r=>
  rcases Zy with ⟨h1,_⟩ | ⟨h2,_⟩ | ⟨h3,_⟩
  ·have h1:kd=1:=h1
   subst h1
   show aW t (p::a::r) z=_
   have h:aW x (a::r) z=(y,true):=h
   rw[mb _ _ _ _ _ hn,ha,h,hk];rfl
  ·have h2:kd=2:=h2
   subst h2
   show aC t (p::a::r)=_
   have h:aC x (a::r)=(y,true):=h
   rw[kj _ _ _ _ hn,ha,h,hk];rfl
  ·have h3:kd=3:=h3
   subst h3
   rw[tr] at h
   show cB t ⟨3,p::a::r,s,z⟩=_
   rw[tr]
   have Ep:(((a::r).length:Int)==(0:Int))=false:=by rw[beq_eq_false_iff_ne,List.length_cons];omega
   have hz2:(((p::a::r).length:Int)==(0:Int))=false:=by rw[beq_eq_false_iff_ne,List.length_cons];omega
   rw[Ep] at h
   rw[hz2]
   simp only[cond_false] at h ⊢
   rw[kj _ _ _ _ hn,ha,hk]
   cases hc:(aC x (a::r)).2
   ·rw[hc] at h;cases h
   ·rw[hc] at h
    simp only[Bool.not_true,cond_true,cond_false] at h ⊢
    have Ee:aw (bP t (i:Int) (aC x (a::r)).1) p=(i:Int):=by rw[hZ];exact hk
    rw[mb _ _ _ _ _ (by rw[Ee];omega),Ee,Int.toNat_natCast,bm (t:= .node) (qJ hi),h]
    simp only[cond_true]
    rw[p8]
theorem JQ{d:Nat}{p:BA}{q:ai}(hd:d<1048576)(hp:bH p=true)(h:JO d q):JO (d+1) (o4 p q):=by
 obtain⟨h1,h2,h3,h4⟩:=h
 refine⟨?_,?_,h3,?_⟩
 ·simp only[lK,Bool.and_eq_true] at h1 ⊢
  refine⟨h1.1,?_,h1.2.2⟩
  show dS bH (p::q.path)=true
  have:=kR h1.2.1
  unfold dS
  rw[List.length_cons,Nat.ble_eq_true_of_le (by omega:q.path.length+1≤1048576),List.all_cons,hp,this];rfl
 ·show (p::q.path).length≤d+1
  rw[List.length_cons];omega
 ·rcases h4 with ⟨a,_⟩ | ⟨a,_⟩ | ⟨a,b⟩
  ·exact .inl ⟨a,by show p::q.path≠[];simp⟩
  ·exact .inr (.inl ⟨a,by show p::q.path≠[];simp⟩)
  ·exact .inr (.inr ⟨a,b⟩)
theorem Bw{d:Nat}(hd:d<1048576){p:BA}(hp:bH p=true){i:Nat}:∀(l:List ai){t x y:ae},Wf t→ag t=true→aw t p=(i:Int)→t.kids[i]? =some x→jx d x l y→jx (d+1) t (bK p l) (bP t (i:Int) y)
 | [],t,x,y,_,_,_,hx,h=>by
  have:x=y:=h
  subst this
  show t=_
  rw[DE hx]
 |q::l,t,x,y,hw,hs,hk,hx,h=>by
  obtain⟨h1,x',h2,h3,h4,h5⟩:=h
  have hi:=aP hx
  have dn:t.kids≠[]:=by intro e;rw[e] at hi;simp at hi
  have hw':=z6 (i:=(i:Int)) hw h4 dn
  have eK:=JP (i:=(i:Int)) hs h3
  refine⟨JQ hd hp h1,bP t (i:Int) x',FF hw hk hx h1 h2,eK,hw',?_⟩
  have:=Bw hd hp l hw' eK (by rw[hZ];exact hk) (qJ hi) h5
  rw[p8] at this
  exact this
def iH(n:Int)(s:BA)(l:List pR):ae:=⟨5,n,s,l.map Prod.fst,l.map Prod.snd⟩
def GE(e:pR):Prop:=bH e.1=true∧ag e.2=true∧Wf e.2
theorem sf{n:Int}{s:BA}{l:List pR}(ha:pS l)(hg:∀e∈l,GE e):Wf (iH n s l):=by
 refine .mk (fun _=>⟨by simp[iH],ha.keys⟩) (fun _ h=>absurd rfl h) (fun h=>absurd rfl h) fun x hx=> ?_
 obtain⟨e,he,rfl⟩:=List.mem_map.1 hx
 exact (hg e he).2.2
theorem sg{n:Int}{s:BA}{l:List pR}(hn:gj n=true)(hs:bH s=true)(hl:l.length≤1048576)(hg:∀e∈l,GE e):ag (iH n s l)=true:=by
 rw[bf]
 simp only[iH,Bool.and_eq_true,dS,List.length_map,Nat.ble_eq,List.all_eq_true]
 refine⟨rfl,hn,hs,⟨hl,fun x hx=> ?_⟩,hl,fun x hx=> ?_⟩
 ·obtain⟨e,he,rfl⟩:=List.mem_map.1 hx
  exact (hg e he).1
 ·obtain⟨e,he,rfl⟩:=List.mem_map.1 hx
  exact (hg e he).2.1
theorem si(n:Int)(s:BA)(l:List pR):aE (iH n s l)=true:=by
 unfold aE iH;simp
theorem xK{n:Int}{s:BA}{pre r:List pR}{k:pR}(ha:pS (pre++k::r)):aw (iH n s (pre++k::r)) k.1=(pre.length:Int):=by
 have:bj (iH n s (pre++k::r)) k.1=(pre.length:Int):=MX (si _ _ _) ha.keys (by
  show ((pre++k::r).map Prod.fst)[pre.length]? =_
  rw[List.map_append,List.getElem?_append_right (by rw[List.length_map];exact Nat.le_refl _),List.length_map,Nat.sub_self];rfl)
 unfold aw
 exact this
theorem HK{n:Int}{s:BA}{pre r:List pR}{k:pR}(ha:pS (pre++k::r)):aU (iH n s (pre++k::r)) (MV k.1)=(iH n s (pre++r),true):=by
 have hk:=xK (n:=n) (s:=s) ha
 rw[kV]
 show aC _ [k.1]=_
 rw[lI _ _ (by omega)]
 show (fL _ _,true)=_
 have e1:bj (iH n s (pre++k::r)) k.1=(pre.length:Int):=hk
 unfold fL
 rw[si,e1,decide_eq_false (show ¬((pre.length:Int)<0) by omega)]
 simp only[cond_true,cond_false,jR,iH]
 have hd:∀{α:Type}(g:pR→α),gv ((pre++k::r).map g) (pre.length:Int) ((pre.length:Int)+1)=(pre++r).map g:=by
  intro α g
  unfold gv
  rw[Int.toNat_natCast,show Int.toNat ((pre.length:Int)+1)=pre.length+1 by omega,List.map_append,List.map_append,List.map_cons]
  rw[List.take_left' (by simp),show pre.length+1=(pre.map g).length+1 by simp,List.drop_append]
  simp
 rw[hd,hd]
theorem HL{n:Int}{s:BA}{pre r:List pR}{l:pR}(ha:pS (pre++l::r)):aU (iH n s (pre++r)) (JK l.1 l.2)=(iH n s (pre++l::r),true):=by
 have hp:=List.pairwise_append.1 ha
 have hc:=List.pairwise_cons.1 hp.2.1
 have Ua:∀e∈pre,dE e.1 l.1=true:=fun e he=>hp.2.2 e he l (by simp)
 have hr:∀e∈r,dE l.1 e.1=true:=fun e he=>hc.1 e he
 have uV:l.1 ∉ (iH n s (pre++r)).keys:=by
  intro hm
  obtain⟨e,he,e1⟩:=List.mem_map.1 hm
  rcases List.mem_append.1 he with h | h
  ·have:=Ua e h
   rw[e1,mc] at this;cases this
  ·have:=hr e h
   rw[e1,mc] at this;cases this
 rw[kV]
 show aW _ [l.1] l.2=_
 rw[nJ]
 unfold dx
 rw[si]
 simp only[cond_true]
 rw[lJ (si _ _ _) (zW (by simp[iH]) uV)]
 have hca:fE (iH n s (pre++r)).keys l.1=(pre.length:Int):=by
  obtain⟨i,e,hi,h1,h2⟩:=kU (iH n s (pre++r)).keys l.1
  rw[e]
  have kO:∀j:Nat,(iH n s (pre++r)).keys[j]? =((pre++r)[j]?).map Prod.fst:=fun j=>by show ((pre++r).map Prod.fst)[j]? =_;rw[List.getElem?_map]
  have hlen:(iH n s (pre++r)).keys.length=pre.length+r.length:=by simp[iH]
  rcases Nat.lt_trichotomy i pre.length with h | h | h
  ·have hg:(pre++r)[i]? =some pre[i]:=by rw[List.getElem?_append_left h];exact List.getElem?_eq_getElem h
   have:=h2 pre[i].1 (by rw[kO,hg];rfl)
   rw[Ua _ (List.getElem_mem h)] at this;cases this
  ·rw[h]
  ·have bU:pre.length<(pre++r).length:=by rw[List.length_append];omega
   have hg:(pre++r)[pre.length]? =some (r[0]'(by rw[List.length_append] at bU;omega)):=by
    rw[List.getElem?_append_right (Nat.le_refl _),Nat.sub_self]
    exact List.getElem?_eq_getElem (by rw[List.length_append] at bU;omega)
   have:=h1 pre.length _ h (by rw[kO,hg];rfl)
   rw[xx (hr _ (List.getElem_mem _))] at this;cases this
 rw[hca]
 have ad5:∀{α:Type}(g:pR→α),fN ((pre++r).map g) (pre.length:Int) [g l]=(pre++l::r).map g:=by
  intro α g
  unfold fN
  rw[Int.toNat_natCast,List.map_append,List.map_append,List.map_cons]
  rw[List.take_left' (by simp),List.drop_left' (by simp)]
  simp
 show (putKey (iH n s (pre++r)) _ _ _,true)=_
 simp only[putKey,iH]
 rw[ad5 Prod.fst,ad5 Prod.snd]
theorem MY{d:Nat}{k:BA}(hk:bH k=true):JO (d+1) (MV k):=by
 refine⟨?_,by show 1≤d+1;omega,rfl,.inr (.inl ⟨rfl,by show [k]≠[];simp⟩)⟩
 have h1:dS bH [k]=true:=by unfold dS;simp only[List.all_cons,List.all_nil,hk,Bool.and_self];rfl
 have h2:ag ⟨0,0,ByteArray.empty,[],[]⟩=true:=by decide
 simp only[lK,MV,h1,h2,Bool.and_true]
 rfl
theorem MZ{d:Nat}{k:BA}{y:ae}(hk:bH k=true)(hy:ag y=true):JO (d+1) (JK k y):=by
 refine⟨?_,by show 1≤d+1;omega,rfl,.inl ⟨rfl,by show [k]≠[];simp⟩⟩
 have h1:dS bH [k]=true:=by unfold dS;simp only[List.all_cons,List.all_nil,hk,Bool.and_self];rfl
 simp only[lK,JK,h1,hy,Bool.and_true]
 rfl
theorem lj{d:Nat}(hd:d<1048576){n:Int}{s:BA}(hn:gj n=true)(hs:bH s=true){f:ae→ae→List ai}:∀(r q pre:List pR),pS (pre++r)→pS (pre++q)→(∀ e∈pre,GE e)→(∀ e∈r,GE e)→(∀ e∈q,GE e)→pre.length+r.length+q.length≤1048576→
 (∀ k∈r,∀l∈q,jx d k.2 (f k.2 l.2) l.2)→jx (d+1) (iH n s (pre++r)) (bF f r q) (iH n s (pre++q))
 | [],[],pre,_,_,_,_,_,_,_=>by rw[bF];rfl
 |k::r,[],pre,h1,h2,g1,g2,g3,hl,hf=>by
  rw[bF]
  have ha:pS (pre++r):=h1.sublist ((List.Sublist.refl pre).append (List.sublist_cons_self _ _))
  have gk:=g2 k (by simp)
  have gr:∀e∈r,GE e:=fun e he=>g2 e (by simp[he])
  have xL:∀e∈pre++r,GE e:=fun e he=>(List.mem_append.1 he).elim (g1 e) (gr e)
  rw[List.length_cons] at hl
  exact⟨MY gk.1,_,HK h1,sg hn hs (by rw[List.length_append];omega) xL,sf ha xL,lj hd hn hs r [] pre ha h2 g1 gr g3 (by omega) fun k hk l hl=>by simp at hl⟩
 | [],l::q,pre,h1,h2,g1,g2,g3,hl,hf=>by
  rw[bF,List.append_nil]
  have gl:=g3 l (by simp)
  have gq:∀e∈q,GE e:=fun e he=>g3 e (by simp[he])
  have e1:pre++l::q=(pre++[l])++q:=by simp
  have ha:pS (pre++[l]):=h2.sublist ((List.Sublist.refl pre).append (by simp))
  have gp:∀e∈pre++[l],GE e:=fun e he=>by
   rcases List.mem_append.1 he with h | h
   ·exact g1 e h
   ·have:e=l:=by simpa using h
    subst this;exact gl
  rw[List.length_cons] at hl
  have IL:=HL (n:=n) (s:=s) (pre:=pre) (r:=[]) (l:=l) ha
  rw[List.append_nil] at IL
  refine⟨MZ gl.1 gl.2.1,_,IL,sg hn hs (by rw[List.length_append,List.length_cons,List.length_nil];omega) gp,sf ha gp,?_⟩
  rw[e1] at h2 ⊢
  have:=lj hd hn hs [] q (pre++[l]) (f:=f) (by rw[List.append_nil];exact ha) h2 gp (fun e he=>by simp at he) gq (by rw[List.length_append,List.length_cons,List.length_nil];omega) fun k hk=>by simp at hk
  rw[List.append_nil] at this
  exact this
 |k::r,l::q,pre,h1,h2,g1,g2,g3,hl,hf=>by
  have gk:=g2 k (by simp)
  have gl:=g3 l (by simp)
  have gr:∀e∈r,GE e:=fun e he=>g2 e (by simp[he])
  have gq:∀e∈q,GE e:=fun e he=>g3 e (by simp[he])
  have uX:=List.pairwise_append.1 h1
  have tL:=List.pairwise_append.1 h2
  have hc1:=List.pairwise_cons.1 uX.2.1
  simp only[List.length_cons] at hl
  rw[bF]
  cases xo:dE k.1 l.1
  ·have e1:pre++l::q=(pre++[l])++q:=by simp
   have gp:∀e∈pre++[l],GE e:=fun e he=>by
    rcases List.mem_append.1 he with h | h
    ·exact g1 e h
    ·have:e=l:=by simpa using h
     subst this;exact gl
   cases yO:dE l.1 k.1
   ·simp only[cond_false]
    have e:k.1=l.1:=by
     by_cases e:k.1=l.1
     ·exact e
     ·rw[Bn xo e] at yO;cases yO
    have ha2:pS ((pre++[l])++r):=by
     rw[List.append_assoc]
     refine List.pairwise_append.2 ⟨uX.1,List.pairwise_cons.2 ⟨fun x hx=>e▸hc1.1 x hx,hc1.2⟩,fun x hx y hy=> ?_⟩
     have hy:y∈l::r:=hy
     rcases List.mem_cons.1 hy with rfl | hy
     ·exact tL.2.2 x hx _ (by simp)
     ·exact uX.2.2 x hx y (by simp[hy])
    have xL:∀e∈pre++k::r,GE e:=fun x hx=>(List.mem_append.1 hx).elim (g1 x) (g2 x)
    have Jo:(iH n s (pre++k::r)).kids[pre.length]? =some k.2:=by
     show ((pre++k::r).map Prod.snd)[pre.length]? =_
     rw[List.map_append,List.getElem?_append_right (by rw[List.length_map];exact Nat.le_refl _),List.length_map,Nat.sub_self];rfl
    have df:=Bw hd gk.1 (f k.2 l.2) (sf h1 xL) (sg (n:=n) (s:=s) hn hs (by rw[List.length_append,List.length_cons];omega) xL) (xK h1) Jo (hf k (by simp) l (by simp))
    have es:bP (iH n s (pre++k::r)) (pre.length:Int) l.2=iH n s ((pre++[l])++r):=by
     unfold bP iH
     simp only[Int.toNat_natCast]
     have a:(pre++k::r).map Prod.fst=((pre++[l])++r).map Prod.fst:=by simp[e]
     have b:((pre++k::r).map Prod.snd).set pre.length l.2=((pre++[l])++r).map Prod.snd:=by
      rw[List.map_append,List.set_append_right _ _ (by simp),List.length_map,Nat.sub_self]
      simp
     rw[a,b]
    rw[es] at df
    rw[e1] at h2 ⊢
    exact df.append (lj hd hn hs r q (pre++[l]) ha2 h2 gp gr gq (by rw[List.length_append,List.length_cons,List.length_nil];omega) fun k hk l hl=>hf k (by simp[hk]) l (by simp[hl]))
   ·simp only[cond_true,cond_false]
    have ha2:pS (pre++l::k::r):=by
     refine List.pairwise_append.2 ⟨uX.1,List.pairwise_cons.2 ⟨fun x hx=> ?_,uX.2.1⟩,fun x hx y hy=> ?_⟩
     ·rcases List.mem_cons.1 hx with rfl | hx
      ·exact yO
      ·exact qG yO (hc1.1 x hx)
     ·rcases List.mem_cons.1 hy with rfl | hy
      ·exact tL.2.2 x hx _ (by simp)
      ·exact uX.2.2 x hx y hy
    have xL:∀e∈pre++l::k::r,GE e:=fun x hx=>by
     rcases List.mem_append.1 hx with h | h
     ·exact g1 x h
     ·rcases List.mem_cons.1 h with rfl | h
      ·exact gl
      ·exact g2 x h
    refine⟨MZ gl.1 gl.2.1,_,HL ha2,sg hn hs (by rw[List.length_append,List.length_cons,List.length_cons];omega) xL,sf ha2 xL,?_⟩
    have e2:pre++l::k::r=(pre++[l])++k::r:=by simp
    rw[e1] at h2 ⊢
    rw[e2] at ha2 ⊢
    exact lj hd hn hs (k::r) q (pre++[l]) ha2 h2 gp g2 gq (by simp only[List.length_append,List.length_cons,List.length_nil];omega) fun k hk l hl=>hf k hk l (by simp[hl])
  ·simp only[cond_true]
   have ha:pS (pre++r):=h1.sublist ((List.Sublist.refl pre).append (List.sublist_cons_self _ _))
   have xL:∀e∈pre++r,GE e:=fun e he=>(List.mem_append.1 he).elim (g1 e) (gr e)
   exact⟨MY gk.1,_,HK h1,sg hn hs (by rw[List.length_append];omega) xL,sf ha xL,lj hd hn hs r (l::q) pre ha h2 g1 gr g3 (by rw[List.length_cons];omega) fun k hk l hl=>hf k (by simp[hk]) l hl⟩
termination_by r q=>r.length+q.length
def nY(n:Int)(s:BA)(l:List ae):ae:=⟨4,n,s,[],l⟩
theorem M0{n:Int}{s:BA}{l:List ae}(h:∀x∈l,Wf x):Wf (nY n s l):=
  .mk (fun h=>by cases h) (fun h=>absurd rfl h) (fun _=>rfl) h
theorem M1{n:Int}{s:BA}{l:List ae}(hn:gj n=true)(hs:bH s=true)(hl:l.length≤1048576)(h:∀x∈l,ag x=true):ag (nY n s l)=true:=by
 rw[bf]
 simp only[nY,Bool.and_eq_true,dS,Nat.ble_eq,List.all_eq_true]
 exact⟨rfl,hn,hs,⟨by decide,by simp⟩,hl,h⟩
theorem JR{p:Nat→Bool}{n i:Nat}(hi:i<n)(hp:p i=true)(hq:∀j,j<n→p j=true→j=i):oP (aZ p 0 n)=(i:Int):=by
 cases h:aZ p 0 n with
 |none=>have:=dU h i (by omega) (by omega);rw[hp] at this;cases this
 |some j=>
  obtain⟨_,h2,h3,_⟩:=ct h
  rw[hq j (by omega) h3];rfl
theorem DF{n:Int}{s:BA}{l:List ae}{i:Nat}(hl:l.length≤1048576)(hi:i<l.length):aw (nY n s l) (bw (i:Int))=(i:Int):=by
 unfold aw
 show oP (aZ (fun j=>cy (bw (j:Int)) (bw (i:Int))) 0 l.length)=_
 exact JR hi (jo _) fun j hj h=>MW (by omega) (by omega) (c9.1 h)
theorem DG{d:Nat}(hd:d<1048576){n:Int}{s:BA}(hn:gj n=true)(hs:bH s=true){f:Nat→ae→List ai}:∀(xs ys pre:List ae),xs.length=ys.length→pre.length+xs.length≤1048576→(∀ x∈pre++xs,ag x=true∧Wf x)→(∀ y∈ys,ag y=true∧Wf y)→
 (∀(i:Nat) x y,xs[i]? =some x→ys[i]? =some y→jx d x (f (pre.length+i) x) y)→jx (d+1) (nY n s (pre++xs)) (gn (fun i x=>bK (bw (i:Int)) (f i x)) pre.length xs) (nY n s (pre++ys))
 | [],[],pre,_,_,_,_,_=>rfl
 | [],_::_,_,h,_,_,_,_=>by simp at h
 |_::_,[],_,h,_,_,_,_=>by simp at h
 |x::xs,y::ys,pre,hl,hm,g1,g2,hf=>by
  rw[List.length_cons] at hm
  have hsm:bH (bw (pre.length:Int))=true:=nf (by have:=ld (n:=(pre.length:Int)) (lG (by omega) (by omega));omega)
  have gx:=g1 x (by simp)
  have gy:=g2 y (by simp)
  have g1':∀z∈(pre++[y])++xs,ag z=true∧Wf z:=fun z hz=>by
   simp only[List.append_assoc,List.mem_append,List.mem_cons,List.not_mem_nil,or_false] at hz
   rcases hz with h | h | h
   ·exact g1 z (by simp[h])
   ·rw[h];exact gy
   ·exact g1 z (by simp[h])
  have Jo:(nY n s (pre++x::xs)).kids[pre.length]? =some x:=by
   show (pre++x::xs)[pre.length]? =_
   rw[List.getElem?_append_right (Nat.le_refl _),Nat.sub_self];rfl
  have df:=Bw hd hsm (f pre.length x) (M0 (n:=n) (s:=s) fun z hz=>(g1 z hz).2) (M1 (n:=n) (s:=s) hn hs (by rw[List.length_append,List.length_cons];omega) fun z hz=>(g1 z hz).1)
   (DF (by rw[List.length_append,List.length_cons];omega) (by rw[List.length_append,List.length_cons];omega)) Jo (hf 0 x y rfl rfl)
  have es:bP (nY n s (pre++x::xs)) (pre.length:Int) y=nY n s ((pre++[y])++xs):=by
   unfold bP nY
   simp only[Int.toNat_natCast]
   rw[List.set_append_right _ _ (Nat.le_refl _),Nat.sub_self]
   simp
  rw[es] at df
  rw[gn]
  refine df.append ?_
  have:=DG hd hn hs (f:=f) xs ys (pre++[y]) (by simpa using hl) (by rw[List.length_append,List.length_cons,List.length_nil];omega) g1' (fun z hz=>g2 z (by simp[hz])) fun i a b ha hb=>by
   have:=hf (i+1) a b (by simpa using ha) (by simpa using hb)
   rwa [show (pre++[y]).length+i=pre.length+(i+1) by rw[List.length_append,List.length_cons,List.length_nil];omega]
  rw[List.length_append,List.length_cons,List.length_nil] at this
  rw[show pre++y::ys=(pre++[y])++ys by simp]
  exact this
theorem xM(t:ae)(h:gd t=true):Wf t:=by
 rw[lL,Bool.and_eq_true] at h
 have hk:∀x∈t.kids,Wf x:=fun x HJ=>xM x (List.all_eq_true.1 h.2 x HJ)
 have h1:=h.1
 refine .mk (fun h5=> ?_) (fun h4 h5=> ?_) (fun h5=> ?_) hk
 ·rw[FC h5] at h1
  simp only[Bool.and_eq_true,beq_iff_eq] at h1
  exact⟨by omega,(FB.1 h1.2.1).2⟩
 ·unfold gm Zv at h1
  rw[beq_eq_false_iff_ne.2 h4,beq_eq_false_iff_ne.2 h5] at h1
  simp only[cond_false] at h1
  cases he:t.kids with
  |nil=>rfl
  |cons x xs=>
   rw[he] at h1
   revert h1
   cases t.kind==(0:Int)<;>cases t.kind==(1:Int)<;>cases t.kind==(2:Int)<;>cases t.kind==(3:Int)<;>simp
 ·unfold gm Zv at h1
  rw[beq_eq_false_iff_ne.2 h5] at h1
  cases he:t.keys with
  |nil=>rfl
  |cons x xs=>
   rw[he] at h1
   revert h1
   cases t.kind==(0:Int)<;>cases t.kind==(1:Int)<;>cases t.kind==(2:Int)<;>cases t.kind==(3:Int)<;>cases t.kind==(4:Int)<;>simp
termination_by ao t
decreasing_by exact bN HJ
theorem sj{α β:Type}:∀{xs:List α}{ys:List β},xs.length=ys.length→(xs.zip ys).map Prod.fst=xs∧(xs.zip ys).map Prod.snd=ys
 | [],[],_=>⟨rfl,rfl⟩
 | [],_::_,h=>by simp at h
 |_::_,[],h=>by simp at h
 |x::xs,y::ys,h=>by
  obtain⟨a,b⟩:=sj (xs:=xs) (ys:=ys) (by simpa using h)
  simp[a,b]
theorem M3{t:ae}(h:aE t=true):t=iH t.n t.s (dZ t):=by
 obtain⟨h5,hl⟩:=cd h
 obtain⟨a,b⟩:=sj hl
 unfold iH dZ
 rw[a,b,←eq_of_beq h5,az]
theorem sk{t:ae}(h:aE t=true)(ha:oq t.keys):pS (dZ t):=by
 obtain⟨h5,hl⟩:=cd h
 have e:t.keys=(dZ t).map Prod.fst:=((sj hl).1).symm
 rw[e] at ha
 exact List.pairwise_map.1 ha
theorem DH(t:ae):(dZ t).length≤t.kids.length:=by unfold dZ;rw[List.length_zip];omega
theorem DI(a b:ae)(ha:gd a=true)(hb:gd b=true)(sa:ag a=true)(sb:ag b=true)(hz:ak a≤500000)(hzb:ak b≤500000):jx (ao a) a (aM a b) b:=by
 have ih:∀x∈a.kids,∀y∈b.kids,jx (ao x) x (aM x y) y:=fun x HJ y hy=>by
  rw[lL,Bool.and_eq_true] at ha hb
  have h1:=r8 HJ
  have h2:=r8 hy
  exact DI x y (List.all_eq_true.1 ha.2 x HJ) (List.all_eq_true.1 hb.2 y hy) (dG sa HJ) (dG sb hy) (by omega) (by omega)
 have wa:=xM a ha
 have wb:=xM b hb
 have Eu:=rT a
 have e1:ao a=(ao a-1)+1:=by rw[bV];omega
 have ihm:∀x∈a.kids,∀y∈b.kids,jx (ao a-1) x (aM x y) y:=fun x hx y hy=>(ih x hx y hy).mono (by have:=bN hx;omega)
 obtain⟨a1,a2,a3,a4,a5⟩:=ch sa
 obtain⟨b1,b2,b3,b4,b5⟩:=ch sb
 have la:a.kids.length≤500000:=by
  have:=qz ak a.kids
  have:=aX a;omega
 have lb:b.kids.length≤500000:=by
  have:=qz ak b.kids
  have:=aX b;omega
 rw[lh]
 cases he:iM a b
 rotate_left
 ·simp only[cond_true]
  exact lY.1 he
 simp only[cond_false]
 cases hm:aE a&&aE b
 ·simp only[cond_false]
  cases h4:(a.kind==(4:Int))&&((b.kind==(4:Int))&&((a.kids.length:Int)==(b.kids.length:Int)))
  ·simp only[cond_false]
   refine⟨⟨?_,by show 0≤_;omega,rfl,.inr (.inr ⟨rfl,wb⟩)⟩,b,kV.2 rfl,sb,wb,rfl⟩
   simp only[lK,opX,sb,Bool.and_true];rfl
  ·simp only[cond_true]
   simp only[Bool.and_eq_true,beq_iff_eq] at h4
   obtain⟨ka,kb,hl⟩:=h4
   have sha:=ha
   have shb:=hb
   rw[lL,Bool.and_eq_true] at sha shb
   have s1:=sha.1
   have s2:=shb.1
   rw[MQ ka] at s1
   rw[MQ kb] at s2
   simp only[Bool.and_eq_true,beq_iff_eq,SL,List.isEmpty_iff] at s1 s2
   have ea:a=nY 0 ByteArray.empty ([]++a.kids):=by
    have h1:a=⟨a.kind,a.n,a.s,a.keys,a.kids⟩:=(az a).symm
    rw[ka,s1.1,c9.1 s1.2.1,s1.2.2] at h1
    exact h1
   have eb:b=nY 0 ByteArray.empty ([]++b.kids):=by
    have h1:b=⟨b.kind,b.n,b.s,b.keys,b.kids⟩:=(az b).symm
    rw[kb,s2.1,c9.1 s2.2.1,s2.2.2] at h1
    exact h1
   have:=DG (d:=ao a-1) (by omega) (n:=0) (s:=ByteArray.empty) rfl (by decide) (f:=fun i x=>aM x (al (t:= .node) b.kids i)) a.kids b.kids [] (by omega) (by rw[List.length_nil];omega)
    (fun x hx=>⟨dG sa hx,wa.kids x hx⟩) (fun y hy=>⟨dG sb hy,wb.kids y hy⟩) fun i x y hx hy=>by
     have e0:([]:List ae).length+i=i:=by simp
     rw[e0,bm (t:= .node) hy]
     exact ihm x (List.mem_of_getElem? hx) y (List.mem_of_getElem? hy)
   rw[← ea,←eb,←e1] at this
   exact this
 ·simp only[cond_true]
  rw[Bool.and_eq_true] at hm
  obtain⟨ka,_⟩:=cd hm.1
  obtain⟨kb,_⟩:=cd hm.2
  have ka:=eq_of_beq ka
  have kb:=eq_of_beq kb
  have sha:=ha
  have shb:=hb
  rw[lL,Bool.and_eq_true] at sha shb
  have s1:=sha.1
  have s2:=shb.1
  rw[FC ka] at s1
  rw[FC kb] at s2
  simp only[Bool.and_eq_true,beq_iff_eq,SL] at s1 s2
  have ea:=M3 hm.1
  have eb:=M3 hm.2
  rw[s1.2.2.1,c9.1 s1.2.2.2] at ea
  rw[s2.2.2.1,c9.1 s2.2.2.2] at eb
  have ga:∀e∈dZ a,GE e:=fun e he=>⟨List.all_eq_true.1 (kR a4) _ (dJ he).1,dG sa (dJ he).2,wa.kids _ (dJ he).2⟩
  have gb:∀e∈dZ b,GE e:=fun e he=>⟨List.all_eq_true.1 (kR b4) _ (dJ he).1,dG sb (dJ he).2,wb.kids _ (dJ he).2⟩
  have z1:=DH a
  have z2:=DH b
  have:=lj (d:=ao a-1) (by omega) (n:=0) (s:=ByteArray.empty) rfl (by decide) (f:=aM) (dZ a) (dZ b) [] (sk hm.1 (wa.map ka).2) (sk hm.2 (wb.map kb).2) (fun e he=>by simp at he) ga gb (by rw[List.length_nil];omega)
   fun k hk l hl=>ihm k.2 (dJ hk).2 l.2 (dJ hl).2
  rw[List.nil_append,List.nil_append,←ea,←eb,←e1] at this
  exact this
termination_by ao a
decreasing_by exact bN HJ
theorem jx.run{d:Nat}{t0:ae}:∀{l:List ai}{t u:ae}(i:Nat),ag t=true→jx d t l u→kn t0 t i l=(u,-1)∧FD t l=true
 | [],t,u,i,hs,h=>by have:t=u:=h;subst this;exact⟨rfl,hs⟩
 |p::l,t,u,i,hs,h=>by
  obtain⟨⟨h0,_⟩,t',h2,h3,_,h5⟩:=h
  obtain⟨a,b⟩:=h5.run (t0:=t0) (i+1) h3
  simp only[kn,FD,B9,h2,cond_true,hs,h0,a,b,Bool.and_self,and_self]
theorem M4{a b:ae}(ha:gd a=true)(hb:gd b=true)(sa:ag a=true)(sb:ag b=true)(hz:ak a≤500000)(hzb:ak b≤500000):
    XH a (aM a b)=true∧(¬ (((aM a b).length:Int)>200)→fe a (aM a b)=(b,-1)):=by
 obtain⟨h1,h2⟩:=(DI a b ha hb sa sb hz hzb).run (t0:=a) 0 sa
 unfold XH fe
 rw[sa,h1,h2]
 refine⟨by cases decide (((aM a b).length:Int)>200)<;>rfl,fun h=> ?_⟩
 rw[decide_eq_false h];rfl
def JS:List BA→Bool
 | []=>true
 |x::xs=>xs.all (fun y=>dE x y)&&JS xs
theorem DJ:∀{xs:List BA},JS xs=true↔oq xs
 | []=>by simp[JS,oq]
 |x::xs=>by
  unfold oq
  rw[JS,Bool.and_eq_true,List.all_eq_true,List.pairwise_cons,DJ];rfl
mutual
def w2:ae→Bool
 |⟨kind,n,s,keys,kids⟩=>(!(aE ⟨kind,n,s,keys,kids⟩)||JS keys)&&w2s kids
def w2s:List ae→Bool
 | []=>true
 |x::xs=>w2 x&&w2s xs
end
theorem M5:∀xs:List ae,w2s xs=xs.all w2
 | []=>by simp[w2s]
 |x::xs=>by rw[w2s,M5 xs,List.all_cons]
theorem gQ{t:ae}:w2 t=true↔(aE t=true→oq t.keys)∧∀x∈t.kids,w2 x=true:=by
 have:w2 t=((!(aE t)||JS t.keys)&&t.kids.all w2):=by cases t;rw[w2,M5]
 rw[this,Bool.and_eq_true,List.all_eq_true]
 refine and_congr ?_ Iff.rfl
 cases aE t<;>simp[DJ]
theorem Wf.w2(t:ae)(h:Wf t):w2 t=true:=
  gQ.2 ⟨fun hm=>(h.map (eq_of_beq (cd hm).1)).2,fun x HJ=>Wf.w2 x (h.kids x HJ)⟩
termination_by ao t
decreasing_by exact bN HJ
theorem HM{t u:ae}(h:w2 t=true)(hm:aE u=true→aE t=true∧u.keys=t.keys)(hk:∀x∈u.kids,x∈t.kids∨w2 x=true):w2 u=true:=by
 obtain⟨h1,h2⟩:=gQ.1 h
 refine gQ.2 ⟨fun h=> ?_,fun x hx=> ?_⟩
 ·obtain⟨a,b⟩:=hm h
  rw[b];exact h1 a
 ·rcases hk x hx with h | h
  ·exact h2 x h
  ·exact h
theorem tt{t x:ae}{i:Int}(h:w2 t=true)(hx:w2 x=true):w2 (bP t i x)=true:=by
 refine HM h (fun hm=>⟨?_,rfl⟩) fun y hy=> ?_
 ·obtain⟨a,b⟩:=cd hm
  have b:t.keys.length=(t.kids.set (Int.toNat i) x).length:=b
  rw[List.length_set] at b
  unfold aE
  rw[show (t.kind==(5:Int))=true from a,b];simp
 ·rcases qK hy with rfl | hy
  ·exact .inr hx
  ·exact .inl hy
theorem Ub{t x:ae}{s:BA}(h:w2 t=true)(hx:w2 x=true):w2 (gK t s x)=true:=by
 cases hm:aE t
 ·unfold gK;rw[hm];exact h
 by_cases hs:bj t s<0
 ·rw[lJ hm hs]
  obtain⟨h1,h2⟩:=gQ.1 h
  obtain⟨i,e,hi,g1,g2⟩:=kU t.keys s
  rw[e]
  refine gQ.2 ⟨fun _=> ?_,fun y hy=> ?_⟩
  ·show oq (fN t.keys (i:Int) [s])
   unfold fN
   rw[Int.toNat_natCast]
   exact (h1 hm).ins (qH hm hs) g1 g2
  ·rcases xy hy with rfl | hy
   ·exact hx
   ·exact h2 y hy
 ·rw[oY hm hs];exact tt h hx
theorem DK:w2 cI=true:=Wf.w2 _ (Wf.va _ rfl rfl)
theorem DL{x:ae}(hx:w2 x=true):∀(path:List BA)(t:ae),w2 t=true→w2 (dB t path x).1=true
 | [],_,_=>by rw[dB];exact DK
 | [p],t,h=>by
  rw[dB]
  unfold dx
  cases hm:aE t
  ·cases h4:t.kind==(4:Int)
   ·exact DK
   ·cases decide (kD t p<(0:Int))
    ·simp only[cond_true,cond_false]
     refine HM h (fun G7=> ?_) fun y hy=> ?_
     ·have h5:=(cd G7).1
      have h5:(t.kind==(5:Int))=true:=h5
      rw[eq_of_beq h4] at h5;cases h5
     ·rcases xy hy with rfl | hy
      ·exact .inr hx
      ·exact .inl hy
    ·exact DK
  ·exact Ub h hx
 |p::q::r,t,h=>by
  rw[dB]
  by_cases hk:aw t p<0
  ·rw[decide_eq_true hk];exact DK
  rw[decide_eq_false hk]
  obtain⟨i,e,hi⟩:=fM hk
  have hm:=List.mem_of_getElem? (dm (t:= .node) hi)
  have:=DL hx (q::r) (al (t:= .node) t.kids (Int.toNat (aw t p))) (by rw[e,Int.toNat_natCast];exact (gQ.1 h).2 _ hm)
  simp only[cond_false]
  cases (dB (al (t:= .node) t.kids (Int.toNat (aw t p))) (q::r) x).2
  ·exact DK
  ·exact tt h this
theorem JT{t x:ae}{w:List BA}(h:w2 t=true)(hx:w2 x=true):w2 (aW t w x).1=true:=by
 cases w with
 |nil=>exact hx
 |cons p r=>
  rw[gM]
  unfold gL
  have:=DL hx (p::r) t h
  cases (dB t (p::r) x).2
  ·exact h
  ·exact this
noncomputable def wfB(t:ae):Bool:= @decide (Wf t) (Classical.propDecidable _)
theorem Uc{t:ae}:wfB t=true↔Wf t:= @decide_eq_true_iff _ (Classical.propDecidable _)
noncomputable def jW(t:ae):Bool:=Ca t&&wfB t
def og(d:Nat)(t:ae):Bool:=JE d t&&w2 t
theorem ff{t:ae}:jW t=true↔Ca t=true∧Wf t:=by unfold jW;rw[Bool.and_eq_true,Uc]
theorem gR{d:Nat}{t:ae}:og d t=true↔JE d t=true∧w2 t=true:=by unfold og;rw[Bool.and_eq_true]
theorem GT.jW{t:ae}(h:GT 3 t):jW t=true:=ff.2 ⟨h.Ca,h.2.2⟩
theorem iR{t:ae}(h:jW t=true):Nat.ble (t.keys.length+1) bT=true:=MK (ff.1 h).1
theorem iS{t:ae}(h:jW t=true):Nat.ble (t.kids.length+1) bT=true:=ML (ff.1 h).1
theorem mf{d:Nat}{t:ae}(h:jW t=true):og d t=true:=
  gR.2 ⟨Zt (ff.1 h).1,Wf.w2 _ (ff.1 h).2⟩
theorem ko{d:Nat}{t y:ae}{i:Nat}(h:jW t=true)(hy:og d y=true):og (d+1) ⟨t.kind,t.n,t.s,t.keys,t.kids.set i y⟩=true:=by
 obtain⟨h1,h2⟩:=ff.1 h
 obtain⟨h3,h4⟩:=gR.1 hy
 refine gR.2 ⟨T7 h1 h3,?_⟩
 have:=tt (i:=(i:Int)) (Wf.w2 _ h2) h4
 unfold bP at this
 rwa [Int.toNat_natCast] at this
theorem FG{t:ae}{k:Int}(h:Wf t)(hm:aE ⟨k,t.n,t.s,t.keys,t.kids⟩=true):oq t.keys:=by
 by_cases h5:t.kind=5
 ·exact (h.map h5).2
 ·rw[h.Fy h5];exact List.Pairwise.nil
theorem iT{d:Nat}{t:ae}{k:Int}(h:jW t=true)(hk:gj k=true):og d ⟨k,t.n,t.s,t.keys,t.kids⟩=true:=by
 obtain⟨h1,h2⟩:=ff.1 h
 exact gR.2 ⟨MM h1 hk,gQ.2 ⟨fun hm=>FG (t:=t) (k:=k) h2 hm,fun x hx=>Wf.w2 _ (h2.kids x hx)⟩⟩
theorem o7{d:Nat}{t:ae}{k:Int}(h:jW t=true)(hk:gj k=true):og d ⟨t.kind,k,t.s,t.keys,t.kids⟩=true:=by
 obtain⟨h1,h2⟩:=ff.1 h
 exact gR.2 ⟨adZ h1 hk,gQ.2 ⟨fun hm=>(gQ.1 (Wf.w2 _ h2)).1 hm,fun x hx=>Wf.w2 _ (h2.kids x hx)⟩⟩
theorem o8{d:Nat}{t:ae}{s:BA}(h:jW t=true)(hs:Nat.ble s.size 50=true):og d ⟨t.kind,t.n,s,t.keys,t.kids⟩=true:=by
 obtain⟨h1,h2⟩:=ff.1 h
 exact gR.2 ⟨ad0 h1 hs,gQ.2 ⟨fun hm=>(gQ.1 (Wf.w2 _ h2)).1 hm,fun x hx=>Wf.w2 _ (h2.kids x hx)⟩⟩
theorem iU{d:Nat}{t:ae}(h:jW t=true):og d ⟨t.kind,t.n,t.s,t.keys++[bs [97]],t.kids⟩=true:=by
 obtain⟨h1,h2⟩:=ff.1 h
 refine gR.2 ⟨MN h1,gQ.2 ⟨fun hm=> ?_,fun x hx=>Wf.w2 _ (h2.kids x hx)⟩⟩
 obtain⟨h5,hl⟩:=cd hm
 have h5:t.kind=5:=eq_of_beq h5
 have hl:(t.keys++[bs [97]]).length=t.kids.length:=hl
 rw[List.length_append,(h2.map h5).1] at hl
 simp at hl
theorem iV{d:Nat}{t:ae}{i:Nat}(h:jW t=true):og d ⟨t.kind,t.n,t.s,t.keys,(t.kids++[(⟨0,0,ByteArray.empty,[],[]⟩:ae)]).set i ⟨0,0,ByteArray.empty,[],[]⟩⟩=true:=by
 obtain⟨h1,h2⟩:=ff.1 h
 refine gR.2 ⟨MO h1,gQ.2 ⟨fun hm=> ?_,fun x hx=> ?_⟩⟩
 ·obtain⟨h5,hl⟩:=cd hm
  have h5:t.kind=5:=eq_of_beq h5
  have hl:t.keys.length=((t.kids++[(⟨0,0,ByteArray.empty,[],[]⟩:ae)]).set i ⟨0,0,ByteArray.empty,[],[]⟩).length:=hl
  rw[List.length_set,List.length_append,(h2.map h5).1] at hl
  simp at hl
 ·have hz:w2 ⟨0,0,ByteArray.empty,[],[]⟩=true:=Wf.w2 _ (Wf.va _ rfl rfl)
  rcases List.mem_or_eq_of_mem_set hx with hx | rfl
  ·rcases List.mem_append.1 hx with hx | hx
   ·exact Wf.w2 _ (h2.kids x hx)
   ·rw[List.mem_singleton.1 hx];exact hz
  ·exact hz
def pT(t:ae):Bool:=ag t&&Nat.ble (ak t) 110000
theorem kW{t:ae}:pT t=true↔ag t=true∧ak t≤110000:=by unfold pT;rw[Bool.and_eq_true,Nat.ble_eq]
theorem ad9{t:ae}(h:JE 3 t=true):pT t=true:=by
 obtain⟨h1,h2⟩:=iz.1 h
 exact kW.2 ⟨h1,by omega⟩
def sm(t:ae)(w:List BA):Prop:=dS bH w=true∧fT ByteArray.size w≤2*ak t+101
theorem Ud{t:ae}(h:pT t=true):B8 t=true:=by
 obtain⟨h1,h2⟩:=kW.1 h
 have:=rT t
 simp only[B8,h1,Bool.true_and,Nat.ble_eq];omega
theorem Ue{t:ae}{p:List BA}(h:pT t=true)(hp:p∈aN t):dS bH p=true∧fT ByteArray.size p≤2*ak t:=by
 obtain⟨h1,h2⟩:=kW.1 h
 have h3:=MP t p hp
 have h4:=qz ByteArray.size p
 refine⟨?_,h3⟩
 unfold dS
 rw[Nat.ble_eq_true_of_le (by omega:p.length≤1048576),Bool.true_and,List.all_eq_true]
 intro s hs
 have:=w4 ByteArray.size hs
 have e:fT ByteArray.size p=p.length+(p.map ByteArray.size).sum:=rfl
 exact nf (by omega)
theorem M6{t:ae}{p:List BA}(h:dS bH p=true∧fT ByteArray.size p≤2*ak t):sm t p:=⟨h.1,by have:=h.2;omega⟩
theorem xN{t:ae}{p:List BA}{s:BA}(ht:pT t=true)(h:dS bH p=true∧fT ByteArray.size p≤2*ak t)(hs:s.size≤100):sm t (p++[s]):=by
 have h2:=(kW.1 ht).2
 have h4:=qz ByteArray.size p
 refine⟨?_,by rw[MT];omega⟩
 have:=kR h.1
 unfold dS
 rw[Nat.ble_eq_true_of_le (by rw[List.length_append];simp only[List.length_cons,List.length_nil];omega),List.all_append,this]
 simp only[List.all_cons,List.all_nil,nf (show s.size≤1048576 by omega),Bool.and_self]
def M7(t:ae)(p:ai):Prop:=lK p=true∧fT ByteArray.size p.path≤2*ak t+101∧ak p.x≤ak t+400
theorem By{t:ae}{p:ai}(h:pT t=true)(hp:M7 t p):ag (aU t p).1=true∧ak (aU t p).1≤4*ak t+502:=by
 obtain⟨h1,h2⟩:=kW.1 h
 obtain⟨p1,p2,p3⟩:=hp
 have p1':=p1
 simp only[lK,Bool.and_eq_true] at p1'
 obtain⟨_,pw,_,px⟩:=p1'
 have Hi:ag t=true∧ak t≤4*ak t+502:=⟨h1,by omega⟩
 have key:(cB t p).2=true→ag (cB t p).1=true∧ak (cB t p).1≤4*ak t+502:=by
  unfold cB
  cases p.kind==(1:Int)
  rotate_left
  ·intro _
   have:=pD (x:=p.x) h1 pw px (by omega)
   exact⟨this.1,by simp only[cond_true];omega⟩
  cases p.kind==(2:Int)
  rotate_left
  ·intro _
   have:=lf (path:=p.path) h1
   exact⟨this.1,by simp only[cond_true,cond_false];omega⟩
  have hc:=fun w=>lf (t:=t) (path:=w) h1
  have tL:∀w y,ag y=true→ak y≤ak t+400→ag (aW (aC t w).1 p.path y).1=true∧ak (aW (aC t w).1 p.path y).1≤4*ak t+502:=fun w y hy hz=>by
   have:=pD (x:=y) (hc w).1 pw hy (by have:=(hc w).2;omega)
   exact⟨this.1,by have:=(hc w).2;omega⟩
  have cQ:=ni (path:=p.src) h1
  have anp:=Dd t p.src
  cases p.kind==(3:Int)
  rotate_left
  ·simp only[cond_true,cond_false]
   cases (p.path.length:Int)==(0:Int)
   ·cases (aC t p.path).2
    ·intro h;cases h
    ·intro _;exact tL p.path p.x px p3
   ·intro _;exact⟨px,by simp only[cond_true];omega⟩
  cases p.kind==(4:Int)
  rotate_left
  ·intro _;exact Hi
  simp only[cond_false]
  cases (br t p.src).2
  ·intro h;cases h
  simp only[Bool.not_true,cond_false]
  cases p.kind==(5:Int)
  ·cases p.kind==(6:Int)
   ·intro h;cases h
   ·intro _
    have:=pD (x:=(br t p.src).1) h1 pw cQ (by omega)
    exact⟨this.1,by simp only[cond_true,cond_false];omega⟩
  ·simp only[cond_true]
   cases kT p.src p.path
   ·cases (aC t p.src).2
    ·intro h;cases h
    ·intro _;exact tL p.src _ cQ (by omega)
   ·intro h;cases h
 unfold aU
 cases hq:(cB t p).2
 ·exact Hi
 ·exact key hq
def cY(a b:ae):Bool:=(ag a&&ag b)&&((w2 a&&w2 b)&&Nat.ble (ak a+ak b) 1000000)
theorem fU{a b:ae}:cY a b=true↔(ag a=true∧ag b=true)∧(w2 a=true∧w2 b=true)∧ak a+ak b≤1000000:=by
 unfold cY;simp only[Bool.and_eq_true,Nat.ble_eq]
theorem pG{a b x y:ae}(h:cY a b=true)(hx:x∈a.kids)(hy:y∈b.kids):cY x y=true:=by
 obtain⟨⟨h1,h2⟩,⟨h3,h4⟩,h5⟩:=fU.1 h
 have a1:=r8 hx
 have a2:=r8 hy
 exact fU.2 ⟨⟨dG h1 hx,dG h2 hy⟩,⟨(gQ.1 h3).2 x hx,(gQ.1 h4).2 y hy⟩,by omega⟩
theorem np{a b:ae}(h:cY a b=true):(aM a b).length≤1000002:=by
 obtain⟨_,_,h5⟩:=fU.1 h
 have:=tq a b
 have:=rT a
 have:=rT b
 omega
def Uf(n:Nat)(p:ai):Prop:=gj p.kind=true∧ag p.x=true∧p.src=[]∧p.path.length≤n
theorem M8{m n:Nat}(h:m≤n){p:ai}(hp:Uf m p):Uf n p:=⟨hp.1,hp.2.1,hp.2.2.1,Nat.le_trans hp.2.2.2 h⟩
theorem DM{n:Nat}{s:BA}{p:ai}(hp:Uf n p):Uf (n+1) (o4 s p):=
 ⟨hp.1,hp.2.1,hp.2.2.1,by show (s::p.path).length≤n+1;rw[List.length_cons];have:=hp.2.2.2;omega⟩
theorem XI:ag ⟨0,0,ByteArray.empty,[],[]⟩=true:=by decide
theorem jX{n:Nat}{f:ae→ae→List ai}:∀(r s:List pR),(∀ k∈r,∀l∈s,∀p∈f k.2 l.2,Uf n p)→(∀ l∈s,ag l.2=true)→∀p∈bF f r s,Uf (n+1) p
 | [],[],_,_,p,hp=>by rw[bF] at hp;simp at hp
 |k::r,[],h,g,p,hp=>by
  rw[bF] at hp
  rcases List.mem_cons.1 hp with rfl | hp
  ·exact⟨rfl,XI,rfl,by show 1≤n+1;omega⟩
  ·exact jX (f:=f) r [] (fun _ _ l hl=>by simp at hl) g p hp
 | [],l::s,h,g,p,hp=>by
  rw[bF] at hp
  rcases List.mem_cons.1 hp with rfl | hp
  ·exact⟨rfl,g l (by simp),rfl,by show 1≤n+1;omega⟩
  ·exact jX (f:=f) [] s (fun k hk=>by simp at hk) (fun x hx=>g x (by simp[hx])) p hp
 |k::r,l::s,h,g,p,hp=>by
  have g':∀l∈s,ag l.2=true:=fun x hx=>g x (by simp[hx])
  rw[bF] at hp
  revert hp
  cases dE k.1 l.1
  ·cases dE l.1 k.1
   ·intro hp
    simp only[cond_false] at hp
    rcases List.mem_append.1 hp with hp | hp
    ·obtain⟨q,hq,rfl⟩:=List.mem_map.1 hp
     exact DM (h k (by simp) l (by simp) q hq)
    ·exact jX r s (fun x hx y hy=>h x (by simp[hx]) y (by simp[hy])) g' p hp
   ·intro hp
    simp only[cond_true,cond_false] at hp
    rcases List.mem_cons.1 hp with rfl | hp
    ·exact⟨rfl,g l (by simp),rfl,by show 1≤n+1;omega⟩
    ·exact jX (k::r) s (fun x hx y hy=>h x hx y (by simp[hy])) g' p hp
  ·intro hp
   simp only[cond_true] at hp
   rcases List.mem_cons.1 hp with rfl | hp
   ·exact⟨rfl,XI,rfl,by show 1≤n+1;omega⟩
   ·exact jX r (l::s) (fun x hx y hy=>h x (by simp[hx]) y hy) g p hp
termination_by r s=>r.length+s.length
theorem z7{α β:Type}{g:Nat→α→List β}{p:β}:∀{xs:List α}{j:Nat},p∈gn g j xs→∃i x,xs[i]? =some x∧p∈g (j+i) x
 | [],_,h=>by simp[gn] at h
 |x::xs,j,h=>by
  rw[gn] at h
  rcases List.mem_append.1 h with h | h
  ·exact⟨0,x,rfl,h⟩
  ·obtain⟨i,y,hy,hp⟩:=z7 h
   exact⟨i+1,y,hy,by rwa [show j+(i+1)=j+1+i by omega]⟩
theorem tu(a b:ae)(hb:ag b=true):∀p∈aM a b,Uf (ao a) p:=by
 have ih:∀x∈a.kids,∀y,ag y=true→∀p∈aM x y,Uf (ao x) p:=fun x HJ y hy=>tu x y hy
 have e1:ao a=(ao a-1)+1:=by rw[bV];omega
 have ih2:∀x∈a.kids,∀y,ag y=true→∀p∈aM x y,Uf (ao a-1) p:=fun x hx y hy p hp=>M8 (by have:=bN hx;omega) (ih x hx y hy p hp)
 intro p hp
 rw[lh] at hp
 revert hp
 cases iM a b
 ·cases aE a&&aE b
  ·cases h4:(a.kind==(4:Int))&&((b.kind==(4:Int))&&((a.kids.length:Int)==(b.kids.length:Int)))
   ·intro hp
    have hp:p∈[opX b]:=hp
    rw[List.mem_singleton.1 hp]
    exact⟨rfl,hb,rfl,by show 0≤_;omega⟩
   ·intro hp
    simp only[Bool.and_eq_true,beq_iff_eq] at h4
    simp only[cond_true,cond_false] at hp
    obtain⟨i,x,hx,hp⟩:=z7 hp
    obtain⟨q,hq,rfl⟩:=List.mem_map.1 hp
    rw[e1]
    have hi:=aP hx
    rw[Nat.zero_add] at hq
    exact DM (ih2 x (List.mem_of_getElem? hx) _ (dG hb (List.mem_of_getElem? (dm (t:= .node) (by omega)))) q hq)
  ·intro hp
   simp only[cond_true,cond_false] at hp
   rw[e1]
   exact jX (f:=aM) (dZ a) (dZ b) (fun k hk l hl=>ih2 k.2 (dJ hk).2 l.2 (dG hb (dJ hl).2)) (fun l hl=>dG hb (dJ hl).2) p hp
 ·intro hp;simp at hp
termination_by ao a
decreasing_by exact bN HJ
def uy(xs:List BA):Bool:=Nat.ble xs.length 4294967296
def fG(t:ae):List BA:=fO (t.keys.take (min t.keys.length t.kids.length))
def Zz(l:List ae):Bool:=l.all ag&&Nat.ble l.length 10
def dp(l:List ae):List BA:=js (fO (l.flatMap fG))
def gS(t:ae)(s:BA):ae×Bool:=cond (decide (bj t s<(0:Int))) (⟨(0:Int),(0:Int),ByteArray.empty,[],[]⟩,false) (al (t:= .node) t.kids (Int.toNat (bj t s)),true)
def nZ(_:BA)(l:List ai):Bool:=Nat.ble l.length 4000000&&l.all fun p=>Nat.ble (1+p.path.length) bT
def qL(s:BA)(l:List ai):Bool:=nZ s l&&l.all fun p=>p.src.isEmpty
noncomputable def HN(a b:ae):List ai:=bF aM (dZ a) (dZ b)
def xO(a b:ae):Bool:=cY a b&&(aE a&&aE b)
def sL(a _b:ae):Nat:=2*ao a+1
def KG(a _b:ae):Nat:=2*ao a
theorem ZA(n m:Nat):(if (m:Int)<(n:Int) then (m:Int) else (n:Int))=((min n m:Nat):Int):=by split<;>omega
theorem qM(t:ae):(fG t).length≤t.keys.length:=by unfold fG;rw[jV,List.length_take];omega
theorem xP{t:ae}(hm:aE t=true)(ha:oq t.keys):fG t=t.keys:=by
 unfold fG
 rw[(cd hm).2,Nat.min_self,←(cd hm).2,List.take_length,JJ ha]
theorem FH{a b:ae}(ha:aE a=true)(hb:aE b=true)(h1:oq a.keys)(h2:oq b.keys):dp [a,b]=gg a.keys b.keys:=by
 unfold dp gg
 simp only[List.flatMap_cons,List.flatMap_nil,List.append_nil,xP ha h1,xP hb h2]
theorem FI{p:Nat→Bool}{n m:Nat}:aZ p 0 (min n m)=match aZ p 0 n with | none=>none | some i=>if i<m then some i else none:=by
 cases h:aZ p 0 n with
 |none=>
  cases h2:aZ p 0 (min n m) with
  |none=>rfl
  |some j=>
   obtain⟨_,a,b,_⟩:=ct h2
   have:=dU h j (by omega) (by omega)
   rw[b] at this;cases this
 |some i=>
  obtain⟨_,a,b,c⟩:=ct h
  show _=if i<m then some i else none
  cases h2:aZ p 0 (min n m) with
  |none=>
   rw[if_neg]
   intro hi
   have:=dU h2 i (by omega) (by omega)
   rw[b] at this;cases this
  |some j=>
   obtain⟨_,d,e,f⟩:=ct h2
   rcases Nat.lt_trichotomy i j with bU | heq | hgt
   ·have:=f i (by omega) bU;rw[b] at this;cases this
   ·rw[if_pos (by omega),heq]
   ·have:=c j (by omega) hgt;rw[e] at this;cases this
theorem JU(t:ae)(s:BA)(h5:t.kind=5):bj t s=cond (decide (fx t.keys s<(0:Int))) (-1) (cond (decide (fx t.keys s≥(t.kids.length:Int))) (-1) (fx t.keys s)):=by
 unfold bj
 rw[h5]
 show oP (aZ _ 0 (min t.keys.length t.kids.length))=_
 rw[FI]
 have e:fx t.keys s=oP (aZ (fun j=>cy (al (t:= .str) t.keys j) s) 0 t.keys.length):=by
  unfold fx rJ
  congr 2
  funext j
  exact w9 _ _
 rw[e]
 cases aZ (fun j=>cy (al (t:= .str) t.keys j) s) 0 t.keys.length with
 |none=>rfl
 |some i=>
  show oP (if i<t.kids.length then some i else none)=cond (decide ((i:Int)<0)) (-1) (cond (decide ((i:Int)≥(t.kids.length:Int))) (-1) (i:Int))
  rw[decide_eq_false (show ¬((i:Int)<0) by omega)]
  by_cases hi:i<t.kids.length
  ·rw[if_pos hi,decide_eq_false (show ¬((i:Int)≥(t.kids.length:Int)) by omega)];rfl
  ·rw[if_neg hi,decide_eq_true (show ((i:Int)≥(t.kids.length:Int)) by omega)];rfl
theorem tY(ks:List BA)(xs:List ae)(hl:ks.length=xs.length)(s:BA):∀(d j:Nat),j+d=ks.length→jF ((ks.drop j).zip (xs.drop j)) s=(aZ (fun j=>cy (al (t:= .str) ks j) s) j d).map fun i=>al (t:= .node) xs i
 |0,j,h=>by rw[List.drop_eq_nil_of_le (by omega)];rfl
 |d+1,j,h=>by
  obtain⟨k,hk,Zy⟩:=cH (show j<ks.length by omega)
  obtain⟨x,hx,hxd⟩:=cH (show j<xs.length by omega)
  rw[Zy,hxd,List.zip_cons_cons,jF,aZ,bm (t:= .str) hk,tY ks xs hl s d (j+1) (by omega)]
  cases cy k s
  ·rfl
  ·simp only[cond_true,Option.map_some,bm (t:= .node) hx]
theorem xQ{t:ae}(hm:aE t=true)(s:BA):gS t s=match jF (dZ t) s with | none=>(⟨(0:Int),(0:Int),ByteArray.empty,[],[]⟩,false) | some x=>(x,true):=by
 obtain⟨h5,hl⟩:=cd hm
 have:=tY t.keys t.kids hl s t.keys.length 0 (by omega)
 rw[List.drop_zero,List.drop_zero] at this
 unfold dZ
 rw[this]
 unfold gS bj
 rw[h5,hl,Nat.min_self]
 simp only[cond_true]
 cases aZ (fun j=>cy (al (t:= .str) t.keys j) s) 0 t.kids.length with
 |none=>rfl
 |some i=>
  show cond (decide ((i:Int)<0)) _ _=_
  rw[decide_eq_false (show ¬((i:Int)<0) by omega)];rfl
theorem z8{r:List pR}{s:BA}{x:ae}:jF r s=some x→∃k∈r,k.2=x:=by
 induction r with
 |nil=>intro h;cases h
 |cons k r ih=>
  rw[jF]
  cases cy k.1 s
  ·intro h
   obtain⟨q,h1,h2⟩:=ih h
   exact⟨q,by simp[h1],h2⟩
  ·intro h
   exact⟨k,by simp,by simpa using h⟩
theorem kq{α β:Type}{f:α→List β}:∀(xs:List α)(j:Nat),gn (fun _ x=>f x) j xs=xs.flatMap f
 | [],_=>rfl
 |x::xs,j=>by rw[gn,kq xs,List.flatMap_cons]
theorem FJ{a b:ae}(ha:aE a=true)(hb:aE b=true)(h1:oq a.keys)(h2:oq b.keys)(f:ae→ae→List ai):(dp [a,b]).flatMap (kJ f (dZ a) (dZ b))=bF f (dZ a) (dZ b):=by
 have:=iQ f (dZ a) (dZ b) (sk ha h1) (sk hb h2)
 rw[show (dZ a).map Prod.fst=a.keys from (sj (cd ha).2).1,show (dZ b).map Prod.fst=b.keys from (sj (cd hb).2).1] at this
 rw[FH ha hb h1 h2];exact this
theorem FK{R:Type}{f:ae→ae→List ai}{ka kb:List BA}{xa xb:List ae}(hla:ka.length=xa.length)(hlb:kb.length=xb.length){F:Nat→Nat→Nat→List ai→Option R}{good:List ai→Option R}
 (hR:∀m (i j:Nat) o k,ka[i]? =some k→(kb.length≤j∨∃l,kb[j]? =some l∧dE k l=true)→o.length+1≤bT→F (m+1) i j o=F m (i+1) j (o++[MV k]))
 (hA:∀m (i j:Nat) o l y,kb[j]? =some l→xb[j]? =some y→(ka.length≤i∨∃k,ka[i]? =some k∧dE k l=false∧dE l k=true)→o.length+1≤bT→F (m+1) i j o=F m i (j+1) (o++[JK l y]))
 (hB:∀m (i j:Nat) o k x l y,ka[i]? =some k→xa[i]? =some x→kb[j]? =some l→xb[j]? =some y→dE k l=false→dE l k=false→o.length+(bK k (f x y)).length≤bT→F (m+1) i j o=F m (i+1) (j+1) (o++bK k (f x y)))
 (hE:∀m o,F (m+1) ka.length kb.length o=good o):
    ∀(d i j m:Nat)(o:List ai),i≤ka.length→j≤kb.length→(ka.length-i)+(kb.length-j)≤d→d<m→o.length+(bF f ((ka.drop i).zip (xa.drop i)) ((kb.drop j).zip (xb.drop j))).length≤bT→
      F m i j o=good (o++bF f ((ka.drop i).zip (xa.drop i)) ((kb.drop j).zip (xb.drop j))):=by
 have fin:∀(m:Nat)(o:List ai),F (m+1) ka.length kb.length o=good (o++bF f ((ka.drop ka.length).zip (xa.drop ka.length)) ((kb.drop kb.length).zip (xb.drop kb.length))):=by
  intro m o
  rw[hE,List.drop_length,List.drop_length,List.zip_nil_left,List.zip_nil_left,bF,List.append_nil]
 intro d
 induction d with
 |zero=>
  intro i j m o hi hj hd hm hl
  obtain⟨m,rfl⟩:∃m',m=m'+1:=⟨m-1,by omega⟩
  have e1:i=ka.length:=by omega
  have e2:j=kb.length:=by omega
  subst e1;subst e2
  exact fin m o
 |succ d ih=>
  intro i j m o hi hj hd hm hl
  obtain⟨m,rfl⟩:∃m',m=m'+1:=⟨m-1,by omega⟩
  by_cases hia:i<ka.length
  ·obtain⟨k,hk,Zy⟩:=cH hia
   obtain⟨x,hx,hxd⟩:=cH (show i<xa.length by omega)
   by_cases hjb:j<kb.length
   ·obtain⟨l,yO,hld⟩:=cH hjb
    obtain⟨y,hy,hyd⟩:=cH (show j<xb.length by omega)
    have em:bF f ((ka.drop i).zip (xa.drop i)) ((kb.drop j).zip (xb.drop j))=cond (dE k l) (MV k::bF f ((ka.drop (i+1)).zip (xa.drop (i+1))) ((kb.drop j).zip (xb.drop j)))
      (cond (dE l k) (JK l y::bF f ((ka.drop i).zip (xa.drop i)) ((kb.drop (j+1)).zip (xb.drop (j+1)))) (bK k (f x y)++bF f ((ka.drop (i+1)).zip (xa.drop (i+1))) ((kb.drop (j+1)).zip (xb.drop (j+1))))):=by
     rw[Zy,hxd,hld,hyd,List.zip_cons_cons,List.zip_cons_cons,bF]
    rw[em] at hl ⊢
    cases xo:dE k l
    ·cases Ug:dE l k
     ·rw[xo,Ug] at hl
      simp only[cond_false,List.length_append] at hl ⊢
      rw[hB m i j o k x l y hk hx yO hy xo Ug (by omega),ih (i+1) (j+1) m _ (by omega) (by omega) (by omega) (by omega) (by rw[List.length_append];omega),List.append_assoc]
     ·rw[xo,Ug] at hl
      simp only[cond_true,cond_false,List.length_cons] at hl ⊢
      rw[hA m i j o l y yO hy (.inr ⟨k,hk,xo,Ug⟩) (by omega),ih i (j+1) m _ (by omega) (by omega) (by omega) (by omega) (by rw[List.length_append,List.length_cons,List.length_nil];omega),List.append_assoc];rfl
    ·rw[xo] at hl
     simp only[cond_true,List.length_cons] at hl ⊢
     rw[hR m i j o k hk (.inr ⟨l,yO,xo⟩) (by omega),ih (i+1) j m _ (by omega) (by omega) (by omega) (by omega) (by rw[List.length_append,List.length_cons,List.length_nil];omega),List.append_assoc];rfl
   ·have e2:kb.drop j=[]:=List.drop_eq_nil_of_le (by omega)
    have em:bF f ((ka.drop i).zip (xa.drop i)) ((kb.drop j).zip (xb.drop j))=MV k::bF f ((ka.drop (i+1)).zip (xa.drop (i+1))) ((kb.drop j).zip (xb.drop j)):=by
     rw[Zy,hxd,e2,List.zip_nil_left,List.zip_cons_cons,bF]
    rw[em] at hl ⊢
    simp only[List.length_cons] at hl
    rw[hR m i j o k hk (.inl (by omega)) (by omega),ih (i+1) j m _ (by omega) (by omega) (by omega) (by omega) (by rw[List.length_append,List.length_cons,List.length_nil];omega),List.append_assoc];rfl
  ·by_cases hjb:j<kb.length
   ·obtain⟨l,yO,hld⟩:=cH hjb
    obtain⟨y,hy,hyd⟩:=cH (show j<xb.length by omega)
    have e1:ka.drop i=[]:=List.drop_eq_nil_of_le (by omega)
    have em:bF f ((ka.drop i).zip (xa.drop i)) ((kb.drop j).zip (xb.drop j))=JK l y::bF f ((ka.drop i).zip (xa.drop i)) ((kb.drop (j+1)).zip (xb.drop (j+1))):=by
     rw[hld,hyd,e1,List.zip_nil_left,List.zip_cons_cons,bF]
    rw[em] at hl ⊢
    simp only[List.length_cons] at hl
    rw[hA m i j o l y yO hy (.inl (by omega)) (by omega),ih i (j+1) m _ (by omega) (by omega) (by omega) (by omega) (by rw[List.length_append,List.length_cons,List.length_nil];omega),List.append_assoc];rfl
   ·have e1:i=ka.length:=by omega
    have e2:j=kb.length:=by omega
    subst e1;subst e2
    exact fin m o
theorem sn{s:BA}{a b:ae}(h:cY a b=true):nZ s (aM a b)=true∧qL s (aM a b)=true:=by
 have hl:=np h
 obtain⟨⟨_,sb⟩,_,hz⟩:=fU.1 h
 have hn:=rT a
 have ho:=tu a b sb
 have h1:nZ s (aM a b)=true:=by
  unfold nZ
  rw[Nat.ble_eq_true_of_le (by omega:(aM a b).length≤4000000),Bool.true_and,List.all_eq_true]
  intro p hp
  have:=(ho p hp).2.2.2
  exact Nat.ble_eq_true_of_le (by have:(bT:Nat)=4294967296:=rfl;omega)
 refine⟨h1,?_⟩
 unfold qL
 rw[h1,Bool.true_and,List.all_eq_true]
 intro p hp
 rw[(ho p hp).2.2.1];rfl
theorem ad'{α:Type}(a b c d:Bool)(M R:α):cond a (cond b (cond c (cond d M R) R) R) R=cond (cond a c false&&cond b d false) M R:=by
 cases a<;>cases b<;>cases c<;>cases d<;>rfl
theorem aea{α:Type}(a b c:Bool)(L R:α):cond a (cond b (cond c L R) R) R=cond (a&&(b&&c)) L R:=by
 cases a<;>cases b<;>cases c<;>rfl
theorem FL(a:ae):aM a a=[]:=by rw[lh,rG];rfl
def gXx(t x:ae):Prop:=ag x=true∧ak x≤ak t+400
theorem aec{t x:ae}(h:GT 1 x):gXx t x:=⟨h.1,Nat.le_trans h.2.1 (by show 400≤_;omega)⟩
theorem fg{t:ae}{p:List BA}(h:pT t=true):gXx t (br t p).1:=⟨ni (kW.1 h).1,by have:=Dd t p;omega⟩
theorem cZ{t:ae}:gXx t ⟨0,0,ByteArray.empty,[],[]⟩:=⟨by decide,by show 0≤_;omega⟩
theorem cD{t:ae}:sm t []:=⟨by decide,by show 0≤_;omega⟩
theorem dD{t:ae}{k:Int}{w s:List BA}{x:ae}(hk:gj k=true)(hw:sm t w)(hs:sm t s)(hx:gXx t x):M7 t ⟨k,w,s,x⟩:=
 ⟨by simp only[lK,hk,hw.1,hs.1,hx.1,Bool.and_self],hw.2,hx.2⟩
theorem nN{t:ae}(h:ju t=true):gd t=true:=by
 simp only[ju,Bool.and_eq_true] at h
 exact h.2.2
theorem DN{a b:ae}(sa:ag a=true)(sb:ag b=true)(ha:ju a=true)(hb:ju b=true)(hz:ak a+ak b≤1000000):cY a b=true:=
  fU.2 ⟨⟨sa,sb⟩,⟨Wf.w2 _ (xM a (nN ha)),Wf.w2 _ (xM b (nN hb))⟩,hz⟩
theorem qN{x y:ae}(hx:og 3 x=true)(hs:ag y=true)(hw:w2 y=true)(hz:ak y≤900000):cY x y=true:=by
 obtain⟨h1,h2⟩:=gR.1 hx
 obtain⟨h3,h4⟩:=iz.1 h1
 exact fU.2 ⟨⟨h3,hs⟩,⟨h2,hw⟩,by omega⟩
theorem gX.rdX{w:World}{F:Nat→Prop}{c:Cv}{u:Value}(h:gX w F c u):pL w F c u:=by
 cases c with
 |v x=>exact h
 |l t xs=>obtain⟨av,h0,h1⟩:=h;exact⟨av,h0,h1.rd⟩
theorem je.rdX{w:World}{F:Nat→Prop}{t:Ty}{x:El t}{u:Value}(h:je w F t x u):ox w F t x u:=by
 obtain⟨us,hf,Fs,h1,_,h3,h4⟩:=h
 refine⟨us,hf,h3,fun j c hc=> ?_⟩
 obtain⟨z,hz,n8⟩:=h4 j c hc
 exact⟨z,hz,n8.rdX.mono fun k hk=>h1 j k hk⟩
theorem HO{wl w:World}{ROa:Nat→Prop}:∀{ms:List Am}{ds:List Dt}{us:List Value}{Fs:List (Nat→Prop)},(∀ m∈ms,m = .ro)→cP wl w ROa ms ds us Fs→cP wl w ROa ms ds us (Fs.map fun _ _=>False)
 |_,_,_,_,_,.nil=> .nil
 |m::_,d::_,_,_,hm,.cons h hs=>by
  have:=hm m (by simp)
  subst this
  refine .cons ?_ (HO (fun m GM=>hm m (by simp[GM])) hs)
  cases d with
  |d t x=>exact h
  |fi fn ys=>exact h
theorem Aa{wl w:World}:∀{ps:List Bool}{ds:List Dt}{us:List Value}{Gs:List (Nat→Prop)},(∀ b∈ps,b=false)→iB wl w true ps ds us Gs→iB wl w false ps ds us Gs
 |_,_,_,_,_,.nil=> .nil
 |_,_,_,_,hb,.val h hs=> .val (show ox w _ _ _ _ from je.rdX h) (Aa (fun b fI=>hb b (by simp[fI])) hs)
 |_,_,_,_,hb,.ptr _ _=>by have:=hb true (by simp);cases this
theorem JV{P:Program}{f:Nat}{bR:List Am}{res:List Bool}{q:Qt}(hm:∀m∈bR,m = .ro)(hb:∀b∈res,b=false)(hs:bW P f (Spec.of bR res true q)):bW P f (Spec.of bR res false q):=by
 intro R ds k r hr wl w us Mf ROa Fs TE Za hA hp E' Xx C0 pP
 have j6:(Spec.of bR res true q).fn ds k=some r:=hr
 refine Calls.mono (hs ds k r j6 wl w us (fun _=>False) ROa (Fs.map fun _ _=>False) TE Za (HO hm hA) ?_ ?_ (fun _ _ h=>h) C0 (fun _ h=>h.elim)) fun e w' ⟨outs,h1,h2⟩=>⟨outs,h1,?_⟩
 ·unfold bS
  rw[List.pairwise_map]
  exact List.Pairwise.imp (fun _ k hk=>hk.elim) hp
 ·intro F hF k hk
  obtain⟨_,_,rfl⟩:=List.mem_map.1 hF
  exact hk.elim
 ·obtain⟨rs,Gs,Bs,he,yK,hB,hB1,hB2,hG,_,hGB,IQ,Ls⟩:=h2.out
  obtain⟨_,hG2⟩:=hG rfl
  refine⟨⟨rs,Gs,Bs,he,Aa hb yK,hB,hB1,fun B hB k hk=>(hB2 B hB k hk).imp (fun h=>h.elim) id,fun h=>(by cases h),fun _ G hG k hk=> .inr ((hG2 G hG k hk).resolve_left id),hGB,IQ,Ls⟩,?_⟩
  have hk:=h2.kept
  exact⟨hk.os,hk.tape,hk.output,hk.same.1,fun b h1 _=>hk.same.2 b h1 id⟩
theorem yP{H:Type}{enc:TypeId×Value→H}{a:Assume}{C:Checked}{os:Os}{f:FuncId}{fn:Func}{s:ChangeSpec}{conds:List PathCond}{apart fresh handsOn again:Bool}
 (own:ownKnob C.prog.godebug=none) (started:os.Started) (ZB:C.prog.inits.idxOf? f=none) (hfn:C.prog.funcs[f]? =some fn)
 (witness:∃(w:World)(tape:Tape)(i:Input),w.os=os∧(w.forCall tape i).Shaped C.prog∧i.vars=[]∧Input.okWide C.prog (w.forCall tape i) .any w.heap.size f i∧
      s.pre6 enc C.prog fn conds apart (w.forCall tape i).memory i.args∧a.holds C.prog (lone (Frame.enter C.prog f i.args .normal) [] (w.forCall tape i)))
 (M9:∀(W:World)(base:Nat)(args:Array Value)(ds gs:List (DataW H))(before:List MemPlace),W.ShapedOpen C.prog→
 (∀(j:Nat) t v,fn.params[j]? =some t→args[j]? =some v→Value.okWide C.prog W .any base t v)→
      DataW.Whole enc C.prog fn.params.toList s.vars apart W args.toList ds gs before→
      Calls C.prog f args W fun e W'=>∃v,e = .returned v∧s.post enc C.prog fn apart fresh handsOn again W args v W'):
    ReturnsInHanded a C os f .any (s.pre6 enc C.prog fn conds apart) (s.post enc C.prog fn apart fresh handsOn again):=by
 refine returnsInHanded_of_calls own started ZB witness ?_
 intro w tape i _ mX _ L5 Ua _
 obtain⟨_,_,_,fn',Mi,_,_,_,_,Mh⟩:=L5
 have e:fn'=fn:=Option.some.inj (Mi.symm.trans hfn)
 subst e
 obtain⟨⟨ds,gs,before,hw,_⟩,_⟩:=Ua
 have hw':=DataW.Whole.of_heap (w':=w.forCall tape i) (by rfl) hw
 refine (M9 (w.forCall tape i) w.heap.size i.args ds gs before mX Mh hw').mono fun e W' ⟨v,he,hp⟩=> ?_
 subst he
 exact ChangeSpec.post_blind hp
end Go.Gm
