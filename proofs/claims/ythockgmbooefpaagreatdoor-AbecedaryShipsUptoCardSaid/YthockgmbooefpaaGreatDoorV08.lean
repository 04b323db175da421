/- What the law rests on, part 8. No condition but those that each theorem names. -/
import Derived.Test.YthockgmbooefpaaGreatDoorV07
import Derived.Test.YthockgmbooefpaaGreatDoorV02
import Derived.Test.YthockgmbooefpaaGreatDoorV06
import Derived.BigQuiet
import Derived.Deep.QuietTactic
import Derived.Test.YthockgmbooefpaaGreatDoorV04
import Derived.Test.YthockgmbooefpaaGreatDoorV00
import Derived.Test.YthockgmbooefpaaGreatDoorV05
import Derived.Test.YthockgmbooefpaaGreatDoorV03
import Derived.RangeFuncNested
import Derived.RangeFuncBound
import Derived.RangeFuncCalls
import Derived.RangeFuncLeaves
import Derived.Shelf.Abstract
import Derived.Shelf.RegionOpen
import Derived.OwnWalkIn
import Derived.TacticsInMore
import Derived.LoopNIn
import Derived.LoopIn
import Derived.Laws.EntriesVeiled
import Derived.Deep.CutRange
import Derived.Deep.DeepCutAuto
set_option linter.unusedSectionVars false
set_option linter.unusedSimpArgs false
set_option linter.unusedVariables false
set_option maxRecDepth 100000
set_option maxHeartbeats 4000000
namespace Go.Proofs.YthockgmbooefpaaGreatDoor
open List renaming mem_map → qQa, length_map → qZa, mem_cons_of_mem → qXa, mem_cons_self → qJa, length_cons → qQb, length_nil → qXb, cons_append → qJb, flatMap_cons → qQc, length_append → qZc, nil_append → qXc, foldl_cons → qJc, getD → qQd, mem_singleton → qZd, getElem?_append_left → qXd, mem_append → qJd, pairwise_map → qQe, range → qZe, all_eq_true → qXe, append_nil → qJe, eq_nil_of_length_eq_zero → qQf, filterMap_cons → qZf, getElem_of_mem → qXf, map_congr_left → qJf, map_map → qQg, mem_cons → qZg, mem_flatMap → qXg, getElem?_concat_length → qZi, getElem?_eq_getElem → qXi, getElem?_eq_none → qJi, getElem?_eq_some_iff → qQj, getLastD_eq_getLast? → qZk, take_succ_eq_append_getElem → qXm
open Nat renaming not_lt_zero → qZb
variable{cs:Array Value}{base:Int}{s wd:List Nat}{Z:List SV}{L:List aD}{F:List aE}{sts:List cU}{b bH bR bS bX c c2 g i m n o wc:Nat}{S:Nat->Prop}{A A2 wA:Option Addr}{row:Option Nat}{z:SV}{α:Type}{v:Value}{W W' a w w1:World}
open Go.RowKit
section
variable[Inhabited jP]
theorem mK{r:Nat}(hr:r<1114112)(t:List UInt8):dD (aN r).length (aN r++t)=r:=by
 unfold aN
 split
 ·simp only[dD,qQb,qXb,UInt8.toNat_ofNat',qJb,qXc]
  omega
 ·split
  ·simp only[dD,qQb,qXb,UInt8.toNat_ofNat',qJb,qXc]
   omega
  ·split
   ·simp only[dD,qQb,qXb,UInt8.toNat_ofNat',qJb,qXc]
    omega
   ·simp only[dD,qQb,qXb,UInt8.toNat_ofNat',qJb,qXc]
    omega
theorem pJ:∀ (x:List Nat),(∀ r∈x,scal r=true)->bZ (x.flatMap aN)=some x
 | [],_=>kN
 | r :: x,h=>by
  have hs:=h r qJa
  have ih:=pJ x (λq hq=>h q (qXa _ hq))
  have hl:=oV r
  rw[qQc]
  have hit:fT (aN r++x.flatMap aN)=(r,(aN r).length):=by
   have:=vR (n:=(aN r).length) (bs:=aN r++x.flatMap aN) hl.1 hl.2 (by rw[qZc];omega) ⟨by rw[mK (fD hs)];exact hs,by rw[mK (fD hs),List.take_left]⟩
   rw[mK (fD hs)] at this
   exact this
  rw[kT (by rw[qZc];omega),hit]
  simp only
  rw[if_neg (by omega),List.drop_left,ih]
  rfl
def Nr(sts:List cU):Nat->Nat->Rs
 | 0,_=>[]
 | f+1,i=>(if (sts.getD i aY).fin=true then [([],(sts.getD i aY).out)] else [])++(sts.getD i aY).arcs.flatMap λa=>(Nr sts f a.2.2).map λr=>(a.1 :: r.1,r.2+a.2.1)
def jB(sts:List cU)(i:Nat):Rs:=Nr sts (i+1) i
def Em(sts:List cU):Prop:=∀ i,i<sts.length->∀ a∈(sts.getD i aY).arcs,a.2.2<i
theorem iC{β:Type}{f g:α->List β}:∀ {l:List α},(∀ a∈l,f a=g a)->l.flatMap f=l.flatMap g
 | [],_=>rfl
 | a :: l,h=>by rw[qQc,qQc,h a qJa,iC λb hb=>h b (qXa _ hb)]
theorem Hv(hd:Em sts):∀ (f i g:Nat),i<f->i<sts.length->f<=g->Nr sts g i=Nr sts f i
 | 0,_,_,h,_,_=>absurd h (qZb _)
 | f+1,i,g,hi,hl,hg=>by
  obtain⟨g,rfl⟩:∃ k,g=k+1:=⟨g-1,by omega⟩
  simp only[Nr]
  congr 1
  refine iC λa ha=>?_
  have:=hd i hl a ha
  rw[Hv hd f a.2.2 g (by omega) (by omega) (by omega)]
theorem xN(hd:Em sts)(hi:i<sts.length):jB sts i=(if (sts.getD i aY).fin=true then [([],(sts.getD i aY).out)] else [])++(sts.getD i aY).arcs.flatMap λa=>(jB sts a.2.2).map λr=>(a.1 :: r.1,r.2+a.2.1):=by
 have h:jB sts i=(if (sts.getD i aY).fin=true then [([],(sts.getD i aY).out)] else [])++(sts.getD i aY).arcs.flatMap λa=>(Nr sts i a.2.2).map λr=>(a.1 :: r.1,r.2+a.2.1):=rfl
 rw[h]
 congr 1
 refine iC λa ha=>?_
 have:=hd i hi a ha
 show (Nr sts i a.2.2).map _=(Nr sts (a.2.2+1) a.2.2).map _
 rw[Hv hd (a.2.2+1) a.2.2 i (by omega) (by omega) (by omega)]
theorem aHv:∀ {x y:cU},x.fin=y.fin->x.out=y.out->x.arcs=y.arcs->x=y
 | ⟨_,_,_⟩,⟨_,_,_⟩,rfl,rfl,rfl=>rfl
section
variable{sts:List cU}
theorem jS(hd:Em sts)(hi:i<sts.length){n:Int}:([],n)∈jB sts i↔(sts.getD i aY).fin=true/\n=(sts.getD i aY).out:=by
 rw[xN hd hi,qJd,qXg]
 constructor
 ·rintro (h | ⟨a,_,h⟩)
  ·split at h
   ·rename_i hf
    simp only[qZd,Prod.mk.injEq,true_and] at h
    exact⟨hf,h⟩
   ·cases h
  ·obtain⟨r,_,hr⟩:=List.mem_map.1 h
   simp at hr
 ·rintro⟨hf,rfl⟩
  left
  rw[if_pos hf]
  exact List.mem_singleton.2 rfl
theorem iS(hd:Em sts)(hi:i<sts.length){t:List Nat}{n:Int}:(c :: t,n)∈jB sts i↔∃ a∈(sts.getD i aY).arcs,a.1=c/\(t,n-a.2.1)∈jB sts a.2.2:=by
 rw[xN hd hi,qJd,qXg]
 constructor
 ·rintro (h | ⟨a,ha,h⟩)
  ·split at h<;>simp at h
  ·obtain⟨r,hr,he⟩:=List.mem_map.1 h
   simp only[Prod.mk.injEq,List.cons.injEq] at he
   obtain⟨⟨h1,h2⟩,h3⟩:=he
   refine⟨a,ha,h1,?_⟩
   rw[<-h2,show n-a.2.1=r.2 by omega]
   exact hr
 ·rintro⟨a,ha,rfl,h⟩
  right
  refine⟨a,ha,List.mem_map.2 ⟨_,h,?_⟩⟩
  simp only[Prod.mk.injEq,true_and]
  omega
structure aKh(sts:List cU)(i:Nat):Prop where
 sort:bU (jB sts i)
 ne:jB sts i≠[]
 least:bE (jB sts i)=0
theorem fG(hf:∀ i,i<sts.length->gB i (sts.getD i aY)):Em sts:=λi hi a ha=>((hf i hi).arc a ha).2.2
theorem aGi{z:cU}(h:(z.arcs.map (·.1)).Pairwise (·<·)){a b:Nat × Int × Nat}(ha:a∈z.arcs)(hb:b∈z.arcs)(e:a.1=b.1):a=b:=by
 obtain⟨i,hi,rfl⟩:=qXf ha
 obtain⟨j,hj,rfl⟩:=qXf hb
 rw[qQe] at h
 have h2:=List.pairwise_iff_getElem.1 h
 rcases Nat.lt_trichotomy i j with h3 | h3 | h3
 ·have:=h2 i j hi hj h3;omega
 ·subst h3;rfl
 ·have:=h2 j i hj hi h3;omega
theorem aCl{z:cU}(h:gB i z):(z.fin=true/\z.out=0)\/∃ a∈z.arcs,a.2.1=0:=by
 have hl:=h.low
 unfold aCk at hl
 have gen:∀ (l:List (Nat × Int × Nat)) (m:Int),l.foldl (λm a=>min m a.2.1) m=0->m=0\/∃ a∈l,a.2.1=0:=by
  intro l
  induction l with
  | nil=>intro m h;exact .inl h
  | cons a l ih =>
   intro m h
   rw[qJc] at h
   rcases ih _ h with h1 | ⟨b,hb,h1⟩
   ·by_cases hm:m<=a.2.1
    ·left;omega
    ·right;exact⟨a,qJa,by omega⟩
   ·exact .inr ⟨b,qXa _ hb,h1⟩
 rcases gen _ _ hl with h1 | h1
 ·left
  split at h1
  ·rename_i hf
   exact⟨hf,h1⟩
  ·omega
 ·exact .inr h1
theorem yX(hf:∀ i,i<sts.length->gB i (sts.getD i aY)):∀ (k i:Nat),i<k->i<sts.length->aKh sts i
 | 0,_,h,_=>absurd h (qZb _)
 | k+1,i,hk,hi=>by
  have hd:=fG hf
  have hF:=hf i hi
  have ih:∀ a∈(sts.getD i aY).arcs,aKh sts a.2.2:=λa ha=>yX hf k a.2.2 (by have:=hd i hi a ha;omega) (by have:=hd i hi a ha;omega)
  have hpos:∀ r∈jB sts i,0<=r.2:=by
   rintro⟨x,n⟩ hr
   cases x with
   | nil =>
    have:=(jS hd hi).1 hr
    have h0:=hF.out0
    simp only
    omega
   | cons c t =>
    obtain⟨a,ha,_,h⟩:=(iS hd hi).1 hr
    have h1:=dX h
    rw[(ih a ha).least] at h1
    have h2:=(hF.arc a ha).1
    simp only at h1 ⊢
    omega
  have hzero:∃ x,(x,0)∈jB sts i:=by
   rcases aCl hF with⟨h1,h2⟩ | ⟨a,ha,h2⟩
   ·exact⟨[],(jS hd hi).2 ⟨h1,h2.symm⟩⟩
   ·obtain⟨r,hr,hr0⟩:=dE (ih a ha).ne
    rw[(ih a ha).least] at hr0
    obtain⟨x,n⟩:=r
    simp only at hr0
    subst hr0
    exact⟨a.1 :: x,(iS hd hi).2 ⟨a,ha,rfl,by rw[h2];exact hr⟩⟩
  obtain⟨x0,hx0⟩:=hzero
  have hne:jB sts i≠[]:=λe=>by rw[e] at hx0;cases hx0
  refine⟨?_,hne,?_⟩
  ·rw[xN hd hi]
   unfold bU
   rw[List.pairwise_append]
   refine⟨by split<;>simp,?_,?_⟩
   ·rw[List.pairwise_flatMap]
    refine⟨λa ha=>?_,?_⟩
    ·have hs:=(ih a ha).sort
     unfold bU at hs
     rw[qQe]
     refine hs.imp λ{x y} h=>?_
     unfold Zo at h ⊢
     rw[wU]
     exact h
    ·have hl:=hF.lab
     rw[qQe] at hl
     refine hl.imp λ{a b} h=>?_
     intro x hx y hy
     obtain⟨p,_,rfl⟩:=List.mem_map.1 hx
     obtain⟨q,_,rfl⟩:=List.mem_map.1 hy
     simp only[Zo,rW]
     rw[if_neg (by omega)]
     simpa using h
   ·intro x hx y hy
    split at hx
    ·simp only[qZd] at hx
     subst hx
     obtain⟨a,_,hy⟩:=List.mem_flatMap.1 hy
     obtain⟨q,_,rfl⟩:=List.mem_map.1 hy
     rfl
    ·cases hx
  ·have h1:=dX hx0
   obtain⟨r,hr,hr0⟩:=dE hne
   have:=hpos r hr
   simp only at h1
   omega
theorem oT(hf:∀ i,i<sts.length->gB i (sts.getD i aY))(hi:i<sts.length){a:Nat × Int × Nat}(ha:a∈(sts.getD i aY).arcs) :
  aI (jB sts i) a.1≠[]/\bE (aI (jB sts i) a.1)=a.2.1/\aK (aI (jB sts i) a.1)=jB sts a.2.2:=by
 have hd:=fG hf
 have hF:=hf i hi
 have hto:=hd i hi a ha
 have ok:=yX hf (a.2.2+1) a.2.2 (by omega) (by omega)
 have oki:=yX hf (i+1) i (by omega) hi
 have hm:∀ t n,(t,n)∈aI (jB sts i) a.1↔(t,n-a.2.1)∈jB sts a.2.2:=by
  intro t n
  rw[cA,iS hd hi]
  constructor
  ·rintro⟨b,hb,he,h⟩
   rw[<-aGi hF.lab hb ha he]
   exact h
  ·intro h
   exact⟨a,ha,rfl,h⟩
 obtain⟨r,hr,hr0⟩:=dE ok.ne
 rw[ok.least] at hr0
 have hin:(r.1,a.2.1)∈aI (jB sts i) a.1:=by
  rw[hm,Int.sub_self,<-hr0]
  exact hr
 have hne:aI (jB sts i) a.1≠[]:=λe=>by rw[e] at hin;cases hin
 have hle:bE (aI (jB sts i) a.1)=a.2.1:=by
  have h1:=dX hin
  obtain⟨q,hq,hq0⟩:=dE hne
  have h2:=(hm q.1 q.2).1 hq
  have h3:=dX h2
  rw[ok.least] at h3
  simp only at h1 h3
  omega
 refine⟨hne,hle,Dn (fH (eQ _ oki.sort)) ok.sort ?_⟩
 rintro⟨t,n⟩
 rw[dY,hm,hle,show n+a.2.1-a.2.1=n by omega]
theorem Bi(hf:∀ i,i<sts.length->gB i (sts.getD i aY))(hi:i<sts.length):zF ((qZe sts.length).map (jB sts)) i (jB sts i) (sts.getD i aY):=by
 have hd:=fG hf
 have hF:=hf i hi
 have ok:=yX hf (i+1) i (by omega) hi
 have hfin:(sts.getD i aY).fin=gY (jB sts i):=by
  rw[Bool.eq_iff_iff,eY]
  constructor
  ·intro h
   exact⟨_,(jS hd hi).2 ⟨h,rfl⟩⟩
  ·rintro⟨n,h⟩
   exact ((jS hd hi).1 h).1
 refine⟨ok.sort,ok.ne,ok.least,hfin,?_,?_,?_⟩
 ·by_cases h:(sts.getD i aY).fin=true
  ·exact (iF ok.sort ((jS hd hi).2 ⟨h,rfl⟩)).symm
  ·have h2:(sts.getD i aY).fin=false:=by simpa using h
   rw[hF.fin0 h2,xG ok.sort (by rw[<-hfin];exact h2)]
 ·refine mN (lt:=λa b:Nat=>a<b) (λa h=>by omega) (λa b h g=>by omega) hF.lab (dG ok.sort) ?_
  intro c
  rw[bO]
  constructor
  ·intro h
   obtain⟨a,ha,rfl⟩:=List.mem_map.1 h
   exact (oT hf hi ha).1
  ·intro h
   obtain⟨r,hr⟩:=List.exists_mem_of_ne_nil _ h
   have h2:=(cA (t:=r.1) (n:=r.2)).1 hr
   obtain⟨a,ha,he,_⟩:=(iS hd hi).1 h2
   exact List.mem_map.2 ⟨a,ha,he⟩
 ·intro a ha
  have hto:=hd i hi a ha
  obtain⟨_,h2,h3⟩:=oT hf hi ha
  refine⟨h2.symm,hto,?_⟩
  rw[h3]
  simp[show a.2.2<sts.length by omega]
theorem Jr(hf:∀ i,i<sts.length->gB i (sts.getD i aY))(hu:∀ i j,i<sts.length->j<sts.length->sts.getD i aY=sts.getD j aY->i=j):∀ (k i j:Nat),i<k->i<sts.length->j<sts.length->jB sts i=jB sts j->i=j
 | 0,_,_,h,_,_,_=>absurd h (qZb _)
 | k+1,i,j,hk,hi,hj,e=>by
  have ci:=Bi hf hi
  have cj:=Bi hf hj
  refine hu i j hi hj ?_
  have e1:(sts.getD i aY).fin=(sts.getD j aY).fin:=by rw[ci.fin,cj.fin,e]
  have e2:(sts.getD i aY).out=(sts.getD j aY).out:=by rw[ci.out,cj.out,e]
  have e3:(sts.getD i aY).arcs=(sts.getD j aY).arcs:=by
   have hl:(sts.getD i aY).arcs.map (·.1)=(sts.getD j aY).arcs.map (·.1):=by rw[ci.labels,cj.labels,e]
   have hlen:(sts.getD i aY).arcs.length=(sts.getD j aY).arcs.length:=by have:=congrArg List.length hl;simpa using this
   refine List.ext_getElem hlen λn h1 h2=>?_
   have hlab:(sts.getD i aY).arcs[n].1=(sts.getD j aY).arcs[n].1:=by
    have:=congrArg (λl=>l[n]?) hl
    simp only[List.getElem?_map,qXi h1,qXi h2,Option.map_some,Option.some.injEq] at this
    exact this
   have ha:=List.getElem_mem h1
   have hb:=List.getElem_mem h2
   obtain⟨_,p2,p3⟩:=oT hf hi ha
   obtain⟨_,q2,q3⟩:=oT hf hj hb
   rw[hlab,e] at p2 p3
   have t1:=fG hf i hi _ ha
   have t2:=fG hf j hj _ hb
   have hto:=Jr hf hu k (sts.getD i aY).arcs[n].2.2 (sts.getD j aY).arcs[n].2.2 (by omega) (by omega) (by omega) (p3.symm.trans q3)
   exact Prod.ext hlab (Prod.ext (p2.symm.trans q2) hto)
  exact aHv e1 e2 e3
end
end
section
variable[Inhabited jP]
section
variable{sts:List cU}
theorem Oo(U:List S3):∀ (l:List (Nat × Int × Nat)) (x:S3),(∀ a∈l,(U.getD a.2.2 z3).1=(jB sts a.2.2).length/\∀ r∈jB sts a.2.2,(r.1.length:Int)<=(U.getD a.2.2 z3).2.1/\r.2<=(U.getD a.2.2 z3).2.2) ->
  (l.foldl (eC U) x).1=x.1+((l.flatMap λa=>(jB sts a.2.2).map λr=>(a.1 :: r.1,r.2+a.2.1)).length:Nat)/\x.2.1<=(l.foldl (eC U) x).2.1/\x.2.2<=(l.foldl (eC U) x).2.2 /\
  ∀ r∈l.flatMap λa=>(jB sts a.2.2).map λr=>(a.1 :: r.1,r.2+a.2.1),(r.1.length:Int)<=(l.foldl (eC U) x).2.1/\r.2<=(l.foldl (eC U) x).2.2
 | [],x,_=>⟨by simp,Int.le_refl _,Int.le_refl _,λr hr=>by cases hr⟩
 | a :: l,x,h=>by
  obtain⟨h1,h2,h3,h4⟩:=Oo U l (eC U x a) (λb hb=>h b (qXa _ hb))
  obtain⟨g1,g2⟩:=h a qJa
  rw[qJc]
  simp only[eC] at h1 h2 h3 h4 ⊢
  refine⟨?_,by omega,by omega,?_⟩
  ·rw[h1,qQc,qZc,qZa,g1]
   omega
  ·intro r hr
   rw[qQc] at hr
   rcases List.mem_append.1 hr with hr | hr
   ·obtain⟨q,hq,rfl⟩:=List.mem_map.1 hr
    have:=g2 q hq
    simp only[qQb]
    omega
   ·exact h4 r hr
theorem Ux(hf:∀ i,i<sts.length->gB i (sts.getD i aY)):∀ (k i:Nat),i<k->i<sts.length ->
  (fB (uF sts sts.length i) (sts.getD i aY) (sts.getD i aY).arcs.length).1=(jB sts i).length/\∀ r∈jB sts i,(r.1.length:Int)<=(fB (uF sts sts.length i) (sts.getD i aY) (sts.getD i aY).arcs.length).2.1/\r.2<=(fB (uF sts sts.length i) (sts.getD i aY) (sts.getD i aY).arcs.length).2.2
 | 0,_,h,_=>absurd h (qZb _)
 | k+1,i,hk,hi=>by
  have hd:=fG hf
  have ih:∀ a∈(sts.getD i aY).arcs,((uF sts sts.length i).getD a.2.2 z3).1=(jB sts a.2.2).length/\∀ r∈jB sts a.2.2,(r.1.length:Int)<=((uF sts sts.length i).getD a.2.2 z3).2.1/\r.2<=((uF sts sts.length i).getD a.2.2 z3).2.2:=λa ha=>by
   have hto:=hd i hi a ha
   rw[Ec i a.2.2 hto (by omega)]
   exact Ux hf k a.2.2 (by omega) (by omega)
  obtain⟨h1,h2,h3,h4⟩:=Oo (uF sts sts.length i) (sts.getD i aY).arcs (if (sts.getD i aY).fin=true then 1 else 0,0,(sts.getD i aY).out) ih
  have e:fB (uF sts sts.length i) (sts.getD i aY) (sts.getD i aY).arcs.length=(sts.getD i aY).arcs.foldl (eC (uF sts sts.length i)) (if (sts.getD i aY).fin=true then 1 else 0,0,(sts.getD i aY).out):=by
   unfold fB
   rw[List.take_length]
  rw[e]
  simp only at h1 h2 h3
  rw[xN hd hi]
  refine⟨?_,?_⟩
  ·rw[h1,qZc]
   split
   ·simp
   ·simp
  ·intro r hr
   rcases List.mem_append.1 hr with hr | hr
   ·split at hr
    ·simp only[qZd] at hr
     subst hr
     simp only[qXb]
     omega
    ·cases hr
   ·exact h4 r hr
theorem Ju(hf:∀ i,i<sts.length->gB i (sts.getD i aY)):∀ (k i:Nat),i<k->i<sts.length->∀ r∈jB sts i,∀ c∈r.1,scal c=true/\lU c=true
 | 0,_,h,_=>absurd h (qZb _)
 | k+1,i,hk,hi=>by
  have hd:=fG hf
  rintro⟨x,n⟩ hr c hc
  cases x with
  | nil=>cases hc
  | cons d t =>
   obtain⟨a,ha,rfl,h⟩:=(iS hd hi).1 hr
   have hto:=hd i hi a ha
   rcases List.mem_cons.1 hc with rfl | hc
   ·exact (hf i hi).run a ha
   ·exact Ju hf k a.2.2 (by omega) (by omega) _ h c hc
def pY(sts:List cU)(m:Nat):kG:=⟨((qZe sts.length).map (jB sts)).take m,sts.take m⟩
theorem aGc(hf:∀ i,i<sts.length->gB i (sts.getD i aY))(hu:∀ i j,i<sts.length->j<sts.length->sts.getD i aY=sts.getD j aY->i=j)(hi:i<m)(hm:m<=sts.length):qP (pY sts m).rests (jB sts i)=some i:=by
 unfold qP pY
 simp only
 rw[List.findIdx?_eq_some_iff_getElem]
 refine⟨by simp;omega,by simp[hi],?_⟩
 intro j hj
 simp only[List.getElem_take,List.getElem_map,List.getElem_range,decide_eq_true_eq]
 intro e
 have:=Jr hf hu (j+1) j i (by omega) (by omega) (by omega) e
 omega
theorem aGb(hf:∀ i,i<sts.length->gB i (sts.getD i aY))(hu:∀ i j,i<sts.length->j<sts.length->sts.getD i aY=sts.getD j aY->i=j)(hi:m<=i)(hil:i<sts.length):qP (pY sts m).rests (jB sts i)=none:=by
 unfold qP pY
 simp only
 rw[List.findIdx?_eq_none_iff]
 intro x hx
 obtain⟨j,hj,rfl⟩:=qXf hx
 simp only[List.length_take,qZa,List.length_range] at hj
 simp only[List.getElem_take,List.getElem_map,List.getElem_range,decide_eq_false_iff_not]
 intro e
 have:=Jr hf hu (j+1) j i (by omega) (by omega) hil e
 omega
theorem aDg(hm:m<sts.length):pY sts (m+1)=⟨(pY sts m).rests++[jB sts m],(pY sts m).states++[sts.getD m aY]⟩:=by
 unfold pY
 simp only
 rw[qXm (by simpa using hm),qXm hm]
 simp[qQd,hm]
theorem Ip(hf:∀ i,i<sts.length->gB i (sts.getD i aY))(hu:∀ i j,i<sts.length->j<sts.length->sts.getD i aY=sts.getD j aY->i=j) :
  ∀ (F f i m:Nat) (l:Rs) (s':List Bool) (n':Nat),i<sts.length->gT (jB sts i)<f->aK l=jB sts i->m<=i->gZ sts F i (jD sts.length m) m=(true,s',n') ->
   n'=i+1/\s'=jD sts.length (i+1)/\bJ f (pY sts m) l=(pY sts (i+1),i)
 | 0,_,_,_,_,_,_,_,_,_,_,h=>by simp[gZ] at h
 | F+1,0,_,_,_,_,_,_,h,_,_,_=>absurd h (qZb _)
 | F+1,f+1,i,m,l,s',n',hi,hdep,hl,hmi,hv=>by
  have hd:=fG hf
  have hc:=Bi hf hi
  simp only[gZ] at hv
  obtain⟨⟨ok,s1,n1⟩,hr⟩:∃ r,eD (gZ sts F) (sts.getD i aY).arcs (jD sts.length m) m=r:=⟨_,rfl⟩
  rw[hr] at hv
  cases ok with
  | false=>simp at hv
  | true =>
   simp only[Prod.mk.injEq,decide_eq_true_eq] at hv
   obtain⟨hv1,hv2,hv3⟩:=hv
   have hn1:n1=i:=by omega
   have arcs:∀ (xs:List (Nat × Int × Nat)),(∀ a∈xs,a∈(sts.getD i aY).arcs)->∀ (m1:Nat) (s1:List Bool) (n1:Nat),m1<=i->eD (gZ sts F) xs (jD sts.length m1) m1=(true,s1,n1) ->
     s1=jD sts.length n1/\n1<=i/\cY (bJ f) (jB sts i) (pY sts m1) (xs.map (·.1))=(pY sts n1,xs):=by
    intro xs
    induction xs with
    | nil =>
     intro _ m1 s1 n1 hm1 h
     simp only[eD,Prod.mk.injEq,true_and] at h
     obtain⟨rfl,rfl⟩:=h
     exact⟨rfl,hm1,rfl⟩
    | cons a xs ih =>
     intro hx m1 s1 n1 hm1 h
     have ha:=hx a qJa
     have hto:=hd i hi a ha
     obtain⟨u1,u2,u3⟩:=oT hf hi ha
     have hda:gT (jB sts a.2.2)<f:=by
      rw[<-u3,gC]
      have:=gD u1
      omega
     obtain⟨f',hf'⟩:∃ f',f=f'+1:=⟨f-1,by omega⟩
     simp only[eD] at h
     by_cases hs:a.2.2<m1
     ·rw[if_pos (by rw[rO (by omega)];simpa using hs)] at h
      obtain⟨e1,e2,e3⟩:=ih (λb hb=>hx b (qXa _ hb)) m1 s1 n1 hm1 h
      have hst:bJ f (pY sts m1) (aI (jB sts i) a.1)=(pY sts m1,a.2.2):=by
       rw[hf']
       refine Sq ?_
       rw[u3]
       exact aGc hf hu hs (by omega)
      refine⟨e1,e2,?_⟩
      simp only[List.map_cons,cY]
      rw[hst]
      simp only
      rw[e3,u2]
     ·rw[if_neg (by rw[rO (by omega)];simpa using hs)] at h
      obtain⟨⟨ok,s2,n2⟩,hr2⟩:∃ r,gZ sts F a.2.2 (jD sts.length m1) m1=r:=⟨_,rfl⟩
      rw[hr2] at h
      cases ok with
      | false=>simp at h
      | true =>
       simp only at h
       obtain⟨g1,g2,g3⟩:=Ip hf hu F f a.2.2 m1 (aI (jB sts i) a.1) s2 n2 (by omega) hda u3 (by omega) hr2
       subst g1
       subst g2
       obtain⟨e1,e2,e3⟩:=ih (λb hb=>hx b (qXa _ hb)) (a.2.2+1) s1 n1 (by omega) h
       refine⟨e1,e2,?_⟩
       simp only[List.map_cons,cY]
       rw[g3]
       simp only
       rw[e3,u2]
   obtain⟨e1,e2,e3⟩:=arcs _ (λa ha=>ha) m s1 n1 hmi hr
   subst hn1
   refine⟨by omega,?_,?_⟩
   ·rw[<-hv2,e1,Hy hi]
   ·simp only[bJ]
    rw[hl,aGb hf hu hmi hi]
    simp only
    rw[<-hc.labels,e3,<-hc.fin,<-hc.out,aDg hi]
    simp only[Prod.mk.injEq,kG.mk.injEq,true_and]
    simp only[pY,List.length_take]
    omega
def iJ(sts:List cU)(base:Int):List aD:=(jB sts (sts.length-1)).map λr=>⟨⟨(r.1.flatMap aN).toArray⟩,r.2+base⟩
def yC(sts:List cU)(base:Int):List aD:=if sts=[] then [] else iJ sts base
theorem aKj(h:Ap sts base):aZ (iJ sts base)/\aR (iJ sts base)=⟨base,sts⟩:=by
 have hf:=h.form
 have hN:sts.length-1<sts.length:=by have:=h.pos;omega
 have ok:=yX hf sts.length _ hN hN
 have hs:=Ux hf sts.length _ hN hN
 have hrun:=Ju hf sts.length _ hN hN
 have hsb:=h.sumB _ hN (sts.getD (sts.length-1) aY).arcs.length
 have htop:=h.top
 rw[Ec sts.length (sts.length-1) hN (Nat.le_refl _)] at htop
 have hb1:=h.base1
 have hroot:=h.root
 have hd:=fG hf
 have hbound:∀ r∈jB sts (sts.length-1),r.1.length<=24/\0<=r.2/\r.2+base<=1048576/\0<r.1.length:=by
  intro r hr
  have h1:=hs.2 r hr
  have h2:=dX hr
  rw[ok.least] at h2
  refine⟨by omega,h2,by omega,?_⟩
  obtain⟨x,n⟩:=r
  cases x with
  | nil =>
   have:=(jS hd hN).1 hr
   rw[hroot] at this
   cases this.1
  | cons c t=>simp
 have hwr:∀ r∈jB sts (sts.length-1),cZ ⟨⟨(r.1.flatMap aN).toArray⟩,r.2+base⟩=r.1:=by
  intro r hr
  unfold cZ
  simp only
  rw[lN,pJ _ (λc hc=>(hrun r hr c hc).1)]
  rfl
 have hrests:aV (iJ sts base)=jC (-base) (jB sts (sts.length-1)):=by
  unfold aV iJ jC
  rw[qQg]
  refine qJf λr hr=>?_
  simp only[Function.comp]
  rw[hwr r hr]
  simp only[Prod.mk.injEq,true_and]
  omega
 have hsort:bU (aV (iJ sts base)):=by
  rw[hrests]
  have hs:=ok.sort
  unfold bU at hs ⊢
  unfold jC
  rw[qQe]
  exact hs
 have hD:aZ (iJ sts base):=by
  refine⟨?_,?_,?_,hsort⟩
  ·unfold iJ
   rw[qZa]
   have:=hs.1
   omega
  ·intro p hp
   obtain⟨r,hr,rfl⟩:=List.mem_map.1 hp
   rw[hwr r hr]
   simp only
   rw[lN]
   have hb:=hbound r hr
   refine⟨pJ _ (λc hc=>(hrun r hr c hc).1),?_,hb.2.2.2,hb.1⟩
   rw[qXe]
   exact λc hc=>(hrun r hr c hc).2
  ·intro p hp
   obtain⟨r,hr,rfl⟩:=List.mem_map.1 hp
   have hb:=hbound r hr
   simp only
   omega
 refine⟨hD,?_⟩
 have hne:iJ sts base≠[]:=by
  unfold iJ
  intro e
  exact ok.ne (List.map_eq_nil_iff.1 e)
 have hm:aR (iJ sts base)=⟨bE (aV (iJ sts base)),(bJ 25 ⟨[],[]⟩ (aV (iJ sts base))).1.states⟩:=by unfold aR;rw[if_neg hne]
 obtain⟨F,s',hvis⟩:=h.vis
 have hdep:gT (jB sts (sts.length-1))<25:=zW (by omega) (λr hr=>by have:=(hbound r hr).1;omega)
 have hlev:aK (aV (iJ sts base))=jB sts (sts.length-1):=by rw[hrests,mC,Ez ok.least]
 rw[<-Dk] at hvis
 obtain⟨_,_,g3⟩:=Ip hf h.unalike F 25 (sts.length-1) 0 (aV (iJ sts base)) s' sts.length hN hdep hlev (Nat.zero_le _) hvis
 have e0:pY sts 0=⟨[],[]⟩:=by simp[pY]
 rw[e0] at g3
 rw[hm,g3,hrests,mX _ ok.ne,ok.least]
 simp only[aKf.mk.injEq]
 refine⟨by omega,?_⟩
 unfold pY
 simp only
 rw[List.take_of_length_le (by omega)]
theorem Yr(h:Am sts base):aZ (yC sts base)/\aR (yC sts base)=⟨base,sts⟩:=by
 unfold yC
 rcases h with⟨rfl,rfl⟩ | h
 ·exact⟨⟨by simp,by simp,by simp,List.Pairwise.nil⟩,rfl⟩
 ·have:=h.pos
  rw[if_neg (λe=>by rw[e] at this;simp at this)]
  exact aKj h
end
end
theorem Dr(r o:Nat):∀ (wd:List Nat) (t:Nat) (s:List Nat),o<=t+1->(∀ x∈s,o<=x)->∀ x∈mO r t wd s,o<=x
 | [],t,s,_,_,x,hx=>by
  cases s with
  | nil=>cases hx
  | cons a s=>cases s<;>cases hx
 | c :: wd,t,[],_,_,x,hx=>by cases hx
 | c :: wd,t,[a],_,_,x,hx=>by cases hx
 | c :: wd,t,a :: b :: s,ht,h,x,hx=>by
  have ha:=h a qJa
  have hb:=h b (qXa _ qJa)
  simp only[mO,qZg] at hx
  have hm:o<=min (min (a+if c=r then 0 else 1) (b+1)) (t+1):=by omega
  rcases hx with rfl | hx
  ·exact hm
  ·exact Dr r o wd _ (b :: s) (by omega) (λy hy=>h y (qXa _ hy)) x hx
theorem St(r:Nat)(hs:s≠[])(h:∀ x∈s,o<=x):∀ x∈dP wd s r,o<=x:=by
 intro x hx
 cases s with
 | nil=>exact absurd rfl hs
 | cons a s =>
  have ha:=h a qJa
  simp only[dP,List.headD_cons,qZg] at hx
  rcases hx with rfl | hx
  ·omega
  ·exact Dr r o wd _ (a :: s) (by omega) h x hx
theorem Gj:∀ (text s:List Nat),s.length=wd.length+1->(∀ x∈s,o<=x)->∀ x∈text.foldl (dP wd) s,o<=x
 | [],s,_,h=>h
 | r :: text,s,hl,h=>Gj text _ (jV r hl) (St r (λe=>by rw[e] at hl;simp at hl) h)
theorem Xc(h:s≠[]):s.getLastD 0∈s:=by
 rw[qZk,List.getLast?_eq_some_getLast h]
 exact List.getLast_mem h
theorem iO{β:Type}{f g:α->Option β}:∀ {l:List α},(∀ a∈l,f a=g a)->l.filterMap f=l.filterMap g
 | [],_=>rfl
 | a :: l,h=>by rw[qZf,qZf,h a qJa,iO λb hb=>h b (qXa _ hb)]
abbrev yE:=List Nat × Int × Nat
def Ra(wd:List Nat)(o:Nat)(s head:List Nat)(sum:Int)(r:List Nat × Int):Option yE :=
 if (r.1.foldl (dP wd) s).getLastD 0<o then some (head++r.1,sum+r.2,(r.1.foldl (dP wd) s).getLastD 0) else none
def fzF(sts:List cU)(wd:List Nat)(o:Nat):Nat->Nat->List Nat->Int->List Nat->List yE
 | 0,_,_,_,_=>[]
 | f+1,i,head,sum,s=>if s.all (λx=>decide (o<=x))=true then [] else
   (if (sts.getD i aY).fin=true/\s.getLastD 0<o then [(head,sum+(sts.getD i aY).out,s.getLastD 0)] else []) ++
   (sts.getD i aY).arcs.flatMap λa=>fzF sts wd o f a.2.2 (head++[a.1]) (sum+a.2.1) (dP wd s a.1)
section
variable[Inhabited jP]
theorem Qz(hd:Em sts)(wd:List Nat)(o:Nat):∀ (f i:Nat) (head:List Nat) (sum:Int) (s:List Nat),i<f->i<sts.length->s.length=wd.length+1 ->
  fzF sts wd o f i head sum s=(jB sts i).filterMap (Ra wd o s head sum)
 | 0,_,_,_,_,h,_,_=>absurd h (qZb _)
 | f+1,i,head,sum,s,hi,hl,hs=>by
  have hne:s≠[]:=λe=>by rw[e] at hs;simp at hs
  simp only[fzF]
  by_cases hdead:s.all (λx=>decide (o<=x))=true
  ·rw[if_pos hdead]
   have hall:∀ x∈s,o<=x:=λx hx=>of_decide_eq_true (List.all_eq_true.1 hdead x hx)
   symm
   rw[List.filterMap_eq_nil_iff]
   intro r _
   have h1:=Gj r.1 s hs hall
   have h2:=Xc (s:=r.1.foldl (dP wd) s) (λe=>by have:=Bt r.1 s hs;rw[e] at this;simp at this)
   have:=h1 _ h2
   unfold Ra
   rw[if_neg (by omega)]
  ·rw[if_neg hdead,xN hd hl,List.filterMap_append]
   congr 1
   ·by_cases hf:(sts.getD i aY).fin=true
    ·rw[if_pos hf]
     simp only[qZf,List.filterMap_nil,Ra,List.foldl_nil,qJe]
     by_cases hlt:s.getLastD 0<o
     ·rw[if_pos ⟨hf,hlt⟩,if_pos hlt]
     ·rw[if_neg (λh=>hlt h.2),if_neg hlt]
    ·rw[if_neg hf,if_neg (λh=>hf h.1)]
     rfl
   ·rw[List.filterMap_flatMap]
    refine iC λa ha=>?_
    have hai:=hd i hl a ha
    rw[Qz hd wd o f a.2.2 (head++[a.1]) (sum+a.2.1) (dP wd s a.1) (by omega) (by omega) (jV _ hs),List.filterMap_map]
    refine iO λr _=>?_
    simp only[Function.comp,Ra,qJc,List.append_assoc,List.singleton_append]
    have e:sum+a.2.1+r.2=sum+(r.2+a.2.1):=by omega
    rw[e]
    first | done | rfl
end
def Ot(r:Nat):Nat->List Nat->List Nat->List Nat
 | t,c :: wd,a :: b :: s=>(if c=r then a else 1+min (min a b) t) :: Ot r (if c=r then a else 1+min (min a b) t) wd (b :: s)
 | _,_,_=>[]
def Lip:List Nat->Prop
 | a :: b :: s=>a<=b+1/\b<=a+1/\Lip (b :: s)
 | _=>True
theorem Ox(r:Nat):∀ (wd:List Nat) (t a:Nat) (s:List Nat),Lip (a :: s)->t<=a+1->a<=t+1->Ot r t wd (a :: s)=mO r t wd (a :: s)/\Lip (t :: mO r t wd (a :: s))
 | [],t,a,s,_,_,_=>by
  cases s<;>exact⟨rfl,trivial⟩
 | c :: wd,t,a,[],_,_,_=>⟨rfl,trivial⟩
 | c :: wd,t,a,b :: s,hl,h1,h2=>by
  obtain⟨l1,l2,l3⟩:=hl
  have e:(if c=r then a else 1+min (min a b) t)=min (min (a+if c=r then 0 else 1) (b+1)) (t+1):=by
   split<;>omega
  have hb:min (min (a+if c=r then 0 else 1) (b+1)) (t+1)<=b+1/\b<=min (min (a+if c=r then 0 else 1) (b+1)) (t+1)+1/\t<=min (min (a+if c=r then 0 else 1) (b+1)) (t+1)+1/\min (min (a+if c=r then 0 else 1) (b+1)) (t+1)<=t+1:=by
   split<;>omega
  obtain⟨g1,g2⟩:=Ox r wd (min (min (a+if c=r then 0 else 1) (b+1)) (t+1)) b s l3 hb.1 hb.2.1
  simp only[Ot,mO]
  rw[e,g1]
  exact⟨rfl,hb.2.2.1,hb.2.2.2,g2⟩
def Zb(wd:List Nat)(s:List Nat)(r:Nat):List Nat:=(s.headD 0+1) :: Ot r (s.headD 0+1) wd s
theorem aIa(wd:List Nat)(hs:s≠[])(hl:Lip s)(r:Nat):Zb wd s r=dP wd s r/\Lip (dP wd s r):=by
 cases s with
 | nil=>exact absurd rfl hs
 | cons a s =>
  obtain⟨g1,g2⟩:=Ox r wd (a+1) a s hl (by omega) (by omega)
  simp only[Zb,dP,List.headD_cons]
  exact⟨by rw[g1],g2⟩
theorem Ck:∀ (n k:Nat),Lip (List.range' k n)
 | 0,_=>trivial
 | 1,_=>trivial
 | n+2,k=>⟨by omega,by omega,Ck (n+1) (k+1)⟩
theorem Xh(n:Nat):Lip (qZe n):=by
 rw[List.range_eq_range']
 exact Ck n 0
theorem Ow:∀ (text s:List Nat),s.length=wd.length+1->Lip s->text.foldl (Zb wd) s=text.foldl (dP wd) s
 | [],_,_,_=>rfl
 | r :: text,s,hl,h=>by
  have hne:s≠[]:=λe=>by rw[e] at hl;simp at hl
  obtain⟨g1,g2⟩:=aIa wd hne h r
  rw[qJc,qJc,g1,Ow text _ (jV r hl) g2]
section
variable[Inhabited jP]
structure eU where
 i:Nat
 head:List Nat
 sum:Int
 row:List Nat
def eU.Ok(sts:List cU)(wd:List Nat)(t:eU):Prop:=t.i<sts.length/\t.row.length=wd.length+1
def sV(o:Nat)(t:eU):Bool:=t.row.all λx=>decide (o<=x)
def pR(sts:List cU)(o:Nat)(t:eU):List yE :=
 if sV o t=true then [] else if (sts.getD t.i aY).fin=true/\t.row.getLastD 0<o then [(t.head,t.sum+(sts.getD t.i aY).out,t.row.getLastD 0)] else []
def jI(sts:List cU)(wd:List Nat)(o:Nat)(t:eU):List eU :=
 if sV o t=true then [] else (sts.getD t.i aY).arcs.map λa=>⟨a.2.2,t.head++[a.1],t.sum+a.2.1,dP wd t.row a.1⟩
def fzI(sts:List cU)(wd:List Nat)(o:Nat)(t:eU):List yE:=(jB sts t.i).filterMap (Ra wd o t.row t.head t.sum)
theorem aIz(hd:Em sts){t:eU}(h:t.Ok sts wd):fzI sts wd o t=pR sts o t++(jI sts wd o t).flatMap (fzI sts wd o):=by
 have h1:=Qz hd wd o (t.i+1) t.i t.head t.sum t.row (Nat.lt_succ_self _) h.1 h.2
 unfold fzI
 rw[<-h1]
 simp only[fzF,pR,jI]
 by_cases hdead:sV o t=true
 ·have h2:t.row.all (λx=>decide (o<=x))=true:=hdead
  rw[if_pos hdead,if_pos hdead,if_pos h2]
  rfl
 ·have h2:¬ t.row.all (λx=>decide (o<=x))=true:=hdead
  rw[if_neg hdead,if_neg hdead,if_neg h2]
  congr 1
  rw[List.flatMap_map]
  refine iC λa ha=>?_
  have hai:=hd t.i h.1 a ha
  exact Qz hd wd o t.i a.2.2 _ _ _ hai (by have:=h.1;omega) (jV _ h.2)
def nzF(sts:List cU):Nat->Nat->Nat
 | 0,_=>0
 | f+1,i=>1+((sts.getD i aY).arcs.map λa=>nzF sts f a.2.2).sum
def nz(sts:List cU)(i:Nat):Nat:=nzF sts (i+1) i
theorem Nb(hd:Em sts):∀ (f i g:Nat),i<f->i<sts.length->f<=g->nzF sts g i=nzF sts f i
 | 0,_,_,h,_,_=>absurd h (qZb _)
 | f+1,i,g,hi,hl,hg=>by
  obtain⟨g,rfl⟩:∃ k,g=k+1:=⟨g-1,by omega⟩
  simp only[nzF]
  congr 2
  refine qJf λa ha=>?_
  have hai:=hd i hl a ha
  exact Nb hd f a.2.2 g (by omega) (by omega) (by omega)
theorem aCy(hd:Em sts)(hl:i<sts.length):nz sts i=1+((sts.getD i aY).arcs.map λa=>nz sts a.2.2).sum:=by
 unfold nz
 conv=>lhs;unfold nzF
 congr 2
 refine qJf λa ha=>?_
 have hai:=hd i hl a ha
 exact Nb hd (a.2.2+1) a.2.2 i (by omega) (by omega) (by omega)
def Fc(sts:List cU)(l:List eU):Nat:=(l.map λt=>nz sts t.i).sum
theorem aGz(hd:Em sts){t:eU}(h:t.Ok sts wd):Fc sts (jI sts wd o t)<nz sts t.i:=by
 rw[aCy hd h.1]
 unfold Fc jI
 split
 ·simp
  omega
 ·rw[qQg]
  have e:((sts.getD t.i aY).arcs.map ((λt:eU=>nz sts t.i) ∘ λa=>(⟨a.2.2,t.head++[a.1],t.sum+a.2.1,dP wd t.row a.1⟩:eU)))=(sts.getD t.i aY).arcs.map λa=>nz sts a.2.2:=rfl
  rw[e]
  omega
theorem Jo(sts:List cU)(l m:List eU):Fc sts (l++m)=Fc sts l+Fc sts m:=by simp[Fc]
theorem Nc(sts:List cU)(l:List eU):Fc sts l.reverse=Fc sts l:=by
 unfold Fc
 rw[List.map_reverse,List.sum_reverse]
end
structure Vo(w:World)(b:Nat)(base:Int)(A:Option Addr)(n c:Nat)(Z:List SV)(wA:Option Addr)(wc:Nat)(W:List Int):Prop where
 blk:aL w b 167 #[.int .i64 base,.slice A n c,.slice wA n wc]
 sts:eW w A n Z
 wds:gL w 3 1 wA n (W.map Cg)
 len:W.length=n
theorem Vo.quiet{w':World}{W:List Int}(h:Vo w b base A n c Z wA wc W)(T:aC (λ_=>False) w w'):Vo w' b base A n c Z wA wc W :=
 ⟨h.blk.touch T (λf=>f),h.sts.quiet T,h.wds.quiet T,h.len⟩
theorem nZ.wk{wr:World}{W:List Int}(h:nZ w wr b base A n c Z wA n wc W)(hl:Z.length=n)(hW:W.length=n):Vo wr b base A n c Z wA wc W :=
 ⟨h.blk,⟨gL.of_own h.own,hl,h.el⟩,gL.of_own h.wds,hW⟩
def lenOf(n:Nat)(W:List Int):Int:=if n=0 then 0 else W.getD (n-1) 0
theorem aAj(w:World)(b:Nat)(base:Int)(sv wv:Value)(hb:aL w b 167 #[.int .i64 base,sv,wv]) :
  Calls Tryz.prog 99 #[.pointer (some ⟨b,0,none⟩)] w λe w'=>e=.returned (.int .i64 base)/\w'=w:=by
 obtain⟨x0,x1,x2⟩:=hb.facts
 go_in
 go_wp2
 go_ret
 exact⟨rfl,rfl⟩
structure It(w:World)(b:Nat)(L:List aD)(n:Nat)(A:Option Addr)(c:Nat)(Z:List SV)(wA:Option Addr)(wc:Nat):Prop where
 wk:Vo w b (aR L).base A n c Z wA wc (sB (aR L).states n)
 st:Z.map SV.p=(aR L).states
 few:n<=1000000
theorem It.quiet{w':World}(h:It w b L n A c Z wA wc)(T:aC (λ_=>False) w w'):It w' b L n A c Z wA wc:=⟨h.wk.quiet T,h.st,h.few⟩
theorem Uk(h:L≠[]):aR L=⟨bE (aV L),(bJ 25 ⟨[],[]⟩ (aV L)).1.states⟩:=by unfold aR;rw[if_neg h]
section
variable{w:World}{b:Nat}{L:List aD}{n:Nat}{A:Option Addr}{c:Nat}{Z:List SV}{wA:Option Addr}{wc:Nat}
theorem It.n_len(h:It w b L n A c Z wA wc):(aR L).states.length=n:=by rw[<-h.st,qZa];exact h.wk.sts.len
theorem yY(h:Am sts base)(hs:Z.map SV.p=sts):aIg sts.length Z:=by
 have key:∀ z∈Z,∃ i,i<sts.length/\gB i z.p:=by
  intro z hz
  rcases h with⟨h,_⟩ | h
  ·rw[h] at hs
   have:Z=[]:=by simpa using hs
   rw[this] at hz
   cases hz
  ·obtain⟨i,hi,rfl⟩:=List.mem_iff_getElem.1 hz
   have hl:i<sts.length:=by rw[<-hs,qZa];exact hi
   refine⟨i,hl,?_⟩
   have:=h.form i hl
   rw[<-hs] at this
   simpa [qQd,hi] using this
 refine⟨λz hz=>?_,λz hz a ha=>?_,λz hz=>?_⟩
 ·obtain⟨i,hi,hf⟩:=key z hz
  exact hf.lab.imp λh=>Nat.ne_of_lt h
 ·obtain⟨i,hi,hf⟩:=key z hz
  have:=hf.arc a ha
  exact⟨this.1,this.2.1,by omega⟩
 ·obtain⟨i,hi,hf⟩:=key z hz
  exact⟨hf.out0,hf.out1⟩
theorem lG(hD:aZ L):0<=(aR L).base/\(aR L).base<=1048576:=by
 rcases eP hD with⟨_,h⟩ | h
 ·rw[h];omega
 ·have h1:=h.base1
  have h2:=h.base2
  omega
end
theorem Bm(w:World)(hL:cV w)(L:List aD)(hD:aZ L)(A:Option Addr)(n c:Nat)(Z:List SV)(hst:eW w A n Z)(hs:Z.map SV.p=(aR L).states) :
  Calls Tryz.prog 39 #[.agg #[.int .i64 (aR L).base,.slice A n c]] w λe w'=>∃ b A' c' Z' wA wc,e=.returned (.tuple #[.pointer (some ⟨b,0,none⟩),.bool true])/\It w' b L n A' c' Z' wA wc/\nZ w w' b (aR L).base A' n c' Z' wA n wc (sB (aR L).states n):=by
 have hn:(aR L).states.length=n:=by rw[<-hs,qZa];exact hst.len
 have hfew:n<=1000000:=by
  rcases eP hD with⟨h,_⟩ | h
  ·rw[h] at hn;simp at hn;omega
  ·have:=h.few;omega
 have hc:=aGs w hL (aR L).base A n c Z hst (by rw[hs];exact eP hD) hfew
 refine hc.mono ?_
 rintro e w' ⟨b,A',c',Z',wA,wc,rfl,hI,hZ⟩
 rw[hs] at hI hZ
 have hl:Z'.length=n:=by rw[<-qZa (f:=SV.p),hZ,hn]
 exact⟨b,A',c',Z',wA,wc,rfl,⟨hI.wk hl (aEv (by omega)),hZ,hfew⟩,hI⟩
theorem Pj(r:Nat):(aN r).length<=4:=by
 unfold aN
 repeat' split
 all_goals simp
theorem iP:∀ x:List Nat,(x.flatMap aN).length<=4*x.length
 | []=>by simp
 | r :: x=>by
  have h1:=Pj r
  have h2:=iP x
  simp only[qQc,qZc,qQb]
  omega
theorem lT(hD:aZ L):∀ r∈L,r.word.size<=1099511627776:=by
 intro r hr
 obtain⟨h1,_,_,h4⟩:=hD.word r hr
 have h:=(cL _ _ _ (Nat.le_refl _) h1).1
 have h2:=iP (cZ r)
 rw[<-h,ByteArray.toList_eq] at h2
 have e:r.word.size=r.word.data.toList.length:=by rw[Array.length_toList];rfl
 omega
theorem Pm(w:World)(b:Nat)(base:Int)(A:Option Addr)(n c:Nat)(Z:List SV)(wA:Option Addr)(wc:Nat)(W:List Int)(hM:Vo w b base A n c Z wA wc W)(i:Int)(hi:i<0\/(n:Int)<=i) :
  Calls Tryz.prog 90 #[.pointer (some ⟨b,0,none⟩),.int .i64 i] w λe w'=>e=.returned (.tuple #[.agg #[.bool false,.int .i64 0,.slice none 0 0],.bool false])/\aC (λ_=>False) w w':=by
 obtain⟨x0,x1,x2⟩:=hM.blk.facts
 have hcase:i<0\/(¬ i<0/\(n:Int)<=i):=by omega
 clear hM hi
 have hb:aL (w.alloc (.cells #[.bool false,.int .i64 0,.slice none 0 0] 170)) w.heap.size 170 #[.bool false,.int .i64 0,.slice none 0 0]:=aL.new _ _ _
 have HB:=aB hb
 clear hb
 rcases hcase with h0 | ⟨h0,h1⟩
 all_goals
  go_in
  go_wp2_with fail
  have f0:=HB.cell 0
  have f1:=HB.cell 1
  have f2:=HB.cell 2
  simp at f0 f1 f2
  exact bodyPost_ret (v:=.tuple #[.agg #[.bool false,.int .i64 0,.slice none 0 0],.bool false]) (by simp[results,Tryz.results90,go_sem]) rfl ⟨rfl,(aC.refl _ _).alloc _⟩
theorem Pn(w:World)(b:Nat)(base:Int)(A:Option Addr)(n c:Nat)(Z:List SV)(wA:Option Addr)(wc:Nat)(W:List Int)(hM:Vo w b base A n c Z wA wc W)(i:Nat)(hi:i<n)(z:SV)(hz:Z.getD i cH=z)(hq:z.n<=2097152) :
  Calls Tryz.prog 90 #[.pointer (some ⟨b,0,none⟩),.int .i64 i] w λe w'=>∃ A2 c2,e=.returned (.tuple #[.agg #[.bool z.fin,.int .i64 z.out,.slice A2 z.n c2],.bool true])/\Cln w w' A2 z.n c2 z.arcs:=by
 obtain⟨x0,x1,x2⟩:=hM.blk.facts
 obtain⟨g,o,hA,hgl,d0,d1,d2⟩:=jE hM.sts.rd.rd hM.sts.len i hi
 subst hA
 have hzo:=hM.sts.el _ (cJ Z cH i (by rw[hM.sts.len];exact hi))
 rw[hz] at d0 d1 d2 hzo
 obtain⟨fin,out,zA,q,zc,arcs⟩:=z
 simp only at d0 d1 d2 hq ⊢
 have y0:¬ (i:Int)<0:=by omega
 have y1:(i:Int)<(n:Int):=by omega
 have y2:(0:Int)<=(i:Int):=by omega
 obtain⟨R,hR⟩:=eX w.heap.size
 obtain⟨s,hs⟩:=eX (w.heap.size+1)
 obtain⟨wa,hwa⟩:=eX ((w.alloc (.cells #[.bool false,.int .i64 0,.slice none 0 0] 170)).alloc (.cells #[.bool fin,.int .i64 out,.slice zA q zc] 170))
 have hTa:aC (λ_=>False) w wa:=by rw[hwa];exact ((aC.refl _ _).alloc _).alloc _
 have hbR:aL wa R 170 #[.bool false,.int .i64 0,.slice none 0 0]:=by rw[hwa,hR];exact (aL.new _ _ _).alloc _
 have hbs:aL wa s 170 #[.bool fin,.int .i64 out,.slice zA q zc]:=by rw[hwa,hs];exact iA _ _ _ _
 have hcc:=Fz wa zA q zc arcs hzo.len (hzo.rd.quiet hTa) hq
 have HWA:=aB hwa
 have HR:=aB hR
 have HSD:=aB hs
 have HTA:=aB hTa
 have HBR:=aB hbR
 have HBS:=aB hbs
 have HCC:=aB hcc
 clear hM hzo hz hq hwa hR hs hTa hbR hbs hcc
 go_in
 go_wp2_with fail
 rw[<-HWA.out,<-HSD.out,<-HR.out]
 refine HCC.mono ?_
 rintro e w3 ⟨A2,c2,rfl,hcl⟩
 have hbs3:=HBS.touch hcl.touch (λf=>f)
 have hbR3:=HBR.touch hcl.touch (λf=>f)
 obtain⟨t0,t1,t2⟩:=hbs3.facts
 obtain⟨r0,r1,r2⟩:=hbR3.facts
 have hRs:¬ R=s:=by have h1:=HR.out;have h2:=HSD.out;omega
 have hsR:¬ s=R:=λe=>hRs e.symm
 have HCL:=aB hcl
 have HBR3:=aB hbR3
 have HBS3:=aB hbs3
 have HRS:=aB hRs
 clear hcl hbs3 hbR3 HCC
 go_wp2_with fail
 have hb4:=((((HBR3.far (p:=⟨s,2,none⟩) HRS (.slice A2 q c2)).set_ 0 (.bool fin)).set_ 1 (.int .i64 out)).set_ 2 (.slice A2 q c2))
 have f0:=hb4.cell 0
 have f1:=hb4.cell 1
 have f2:=hb4.cell 2
 simp at f0 f1 f2
 have hT4:aC (λy=>y=R\/y=s) w3 ((((w3.setCell ⟨s,2,none⟩ (.slice A2 q c2)).setCell ⟨R,0,none⟩ (.bool fin)).setCell ⟨R,1,none⟩ (.int .i64 out)).setCell ⟨R,2,none⟩ (.slice A2 q c2)):=by
  refine aC.setCell (aC.setCell (aC.setCell (aC.setCell (aC.refl _ _) ?_ _) ?_ _) ?_ _) ?_ _
  ·exact λ_=>.inr rfl
  ·exact λ_=>.inl rfl
  ·exact λ_=>.inl rfl
  ·exact λ_=>.inl rfl
 refine bodyPost_ret (v:=.tuple #[.agg #[.bool fin,.int .i64 out,.slice A2 q c2],.bool true]) (by simp[results,Tryz.results90,go_sem,f0,f1,f2]) rfl ⟨A2,c2,rfl,?_,?_,?_⟩
 ·refine aF HCL.own hT4 ?_
  rintro y hy (e | e)
  ·exact (aM HCL.own hy).ne (aG HBR3) (by decide) e
  ·exact (aM HCL.own hy).ne (aG HBS3) (by decide) e
 ·intro y hy
  have h1:=HCL.young y hy
  have h2:=HTA.size
  omega
 ·refine (HTA.then HCL.touch).trans hT4 λy hy e=>?_
  have h1:=HR.out
  have h2:=HSD.out
  omega
def aEq(t:TypeId):Bool:=t == 39 || t == 43 || t == 178 || t == 1
abbrev bB(b:Nat):Value:=.pointer (some ⟨b,0,none⟩)
structure zS where
 w0:World
 bW:Nat
 bL:Nat
 bF:Nat
 bT:Nat
 bV:Nat
 wb:Nat
 lb:Nat
 lA:Option Addr
 ln:Nat
 lc:Nat
 X:List Nat
 o:Nat
 wK:World
def zS.f(x:zS):Value:=.func (.func 89) #[] #[bB x.bW,bB x.bL,bB x.bF,bB x.bT,bB x.bV]
structure FzC(x:zS)(W:World):Prop where
 bw:aL W x.bW 92 #[bB x.wb]
 bl:aL W x.bL 175 #[bB x.lb]
 bv:aL W x.bV 179 #[x.f]
 lev:rV W x.lb x.lA x.ln x.lc x.X x.o
def Vk(S:Nat->Prop)(W:World):Prop:=∀ g t,bQ W g t->aEq t=false->¬ S g
def Kp(a b:World):Prop:=∃ S,aC S a b/\Vk S a
theorem Kp.refl(a:World):Kp a a:=⟨λ_=>False,aC.refl _ _,λ_ _ _ _ f=>f⟩
theorem Kp.of{b:World}(T:aC S a b)(h:Vk S a):Kp a b:=⟨S,T,h⟩
theorem Kp.quiet{b:World}(T:aC (λ_=>False) a b):Kp a b:=⟨_,T,λ_ _ _ _ f=>f⟩
theorem Kp.trans{b c:World}(h:Kp a b)(k:Kp b c):Kp a c:=by
 obtain⟨S,T,hS⟩:=h
 obtain⟨S',T',hS'⟩:=k
 refine⟨λg=>S g\/S' g,(T.mono λ_ _ e=>.inl e).trans T' (λ_ _ e=>.inr e),?_⟩
 rintro g t hg ht (e | e)
 ·exact hS g t hg ht e
 ·exact hS' g t (hg.touch T (hS g t hg ht)) ht e
section
variable{x:zS}{W W':World}{S:Nat->Prop}
theorem aL.kp{t:TypeId}(h:aL W g t cs)(k:Kp W W')(ht:aEq t=false):aL W' g t cs:=by
 obtain⟨S,T,hS⟩:=k
 exact h.touch T (hS _ _ (aG h) ht)
theorem aL.fz{t:TypeId}(h:aL W g t cs)(T:aC S W W')(hS:Vk S W)(ht:aEq t=false):aL W' g t cs:=h.touch T (hS _ _ (aG h) ht)
theorem gL.fz{t:TypeId}{size:Nat}{xs:List Value}(h:gL W t size A n xs)(T:aC S W W')(hS:Vk S W)(ht:aEq t=false):gL W' t size A n xs:=h.touch T (λg hg=>hS _ _ hg ht)
theorem FzC.fz(h:FzC x W)(T:aC S W W')(hS:Vk S W):FzC x W' :=
 ⟨h.bw.fz T hS (by decide),h.bl.fz T hS (by decide),h.bv.fz T hS (by decide),⟨h.lev.blk.fz T hS (by decide),h.lev.rd.fz T hS (by decide),h.lev.len,h.lev.few,h.lev.o1,h.lev.o2⟩⟩
end
structure Zu(x:zS)(W:World)(v:Value)(t p:eU)(a:Nat × Int × Nat)(bA bH bS bR:Nat)(A:Option Addr)(q c:Nat):Prop where
 v:v=.func (.func 95) #[] #[bB x.bV,bB bA,bB bH,bB bS,bB x.bL,bB bR]
 ba:aL W bA 173 #[.int .i32 (a.1:Int),.int .i64 a.2.1,.int .i64 (a.2.2:Int)]
 bh:aL W bH 154 #[.slice A q c]
 rd:gL W 21 1 A q (p.head.map fF)
 len:p.head.length=q
 le:q<=c
 mx:c<=maxLen
 few:q<=24
 bs:aL W bS 3 #[.int .i64 p.sum]
 br:aL W bR 181 (cB (bM x.o p.row))
 row:p.row.length=x.ln+1
 t:t=⟨a.2.2,p.head++[a.1],p.sum+a.2.1,dP x.X p.row a.1⟩
def Al(x:zS)(W:World)(v:Value)(t:eU):Prop:=∃ p a bA bH bS bR A q c,Zu x W v t p a bA bH bS bR A q c
theorem Al.fz{x:zS}{t:eU}(h:Al x W v t)(T:aC S W W')(hS:Vk S W):Al x W' v t:=by
 obtain⟨p,a,bA,bH,bS,bR,A,q,c,h⟩:=h
 exact⟨p,a,bA,bH,bS,bR,A,q,c,⟨h.v,h.ba.fz T hS (by decide),h.bh.fz T hS (by decide),h.rd.fz T hS (by decide),h.len,h.le,h.mx,h.few,h.bs.fz T hS (by decide),h.br.fz T hS (by decide),h.row,h.t⟩⟩
structure Fj(x:zS)(W:World)(F:List aE)(I:List eU)(FA:Option Addr)(fc:Nat)(TA:Option Addr)(tc:Nat)(vs:List Value):Prop where
 st:FzC x W
 old:aC (λ_=>False) x.w0 W
 f0:x.w0.heap.size<=x.bF
 t0:x.w0.heap.size<=x.bT
 fb:aL W x.bF 39 #[.slice FA F.length fc]
 fo:W.ownsRow 0 43 3 (.slice FA F.length fc) F.length (aW F)
 fy:∀ g,(Value.slice FA F.length fc).ownBlock=some g->x.w0.heap.size<=g
 tb:aL W x.bT 178 #[.slice TA I.length tc]
 tw:W.ownsRow 0 1 1 (.slice TA I.length tc) I.length vs
 ty:∀ g,(Value.slice TA I.length tc).ownBlock=some g->x.w0.heap.size<=g
 kids:∀ (i:Nat) v t,vs[i]? = some v->I[i]? = some t->Al x W v t
 kp:Kp x.wK W
def zG(x:zS)(W:World)(F:List aE)(I:List eU):Prop:=∃ FA fc TA tc vs,Fj x W F I FA fc TA tc vs
section
variable{x:zS}{W W':World}{S:Nat->Prop}{F:List aE}{I:List eU}{FA:Option Addr}{fc:Nat}{TA:Option Addr}{tc:Nat}{vs:List Value}
theorem Fj.keep(h:Fj x W F I FA fc TA tc vs)(T:aC S W W')(hS:∀ g t,bQ W g t->¬ S g)(hB:∀ g,S g->x.w0.heap.size<=g):Fj x W' F I FA fc TA tc vs :=
 have hF:Vk S W:=λg t hg _=>hS g t hg
 ⟨h.st.fz T hF,h.old.trans T (λi hi s=>by have:=hB i s;omega),h.f0,h.t0,h.fb.touch T (hS _ _ (aG h.fb)),aF h.fo T (λg hg=>hS _ _ (aM h.fo hg)),h.fy,h.tb.touch T (hS _ _ (aG h.tb)),aF h.tw T (λg hg=>hS _ _ (aM h.tw hg)),h.ty,λi v t h1 h2=>(h.kids i v t h1 h2).fz T hF,h.kp.trans (.of T hF)⟩
theorem Fj.quiet(h:Fj x W F I FA fc TA tc vs)(T:aC (λ_=>False) W W'):Fj x W' F I FA fc TA tc vs:=h.keep T (λ_ _ _ f=>f) (λ_ f=>f.elim)
theorem zG.quiet(h:zG x W F I)(T:aC (λ_=>False) W W'):zG x W' F I:=by
 obtain⟨FA,fc,TA,tc,vs,h⟩:=h
 exact⟨FA,fc,TA,tc,vs,h.quiet T⟩
theorem zG.grown(h:zG x W F I)(hg:W.grownBy W' row)(hr:∀ r,row=some r->x.w0.heap.size<=r/\∃ o:Obj,W.heap[r]? = some o/\o.isCells=false):zG x W' F I:=by
 obtain⟨FA,fc,TA,tc,vs,h⟩:=h
 refine⟨FA,fc,TA,tc,vs,h.keep (S:=λg=>row=some g) ⟨hg.os,hg.tape,hg.output,hg.size,λk hk hs=>hg.block k hk (λe=>hs e.symm)⟩ ?_ (λg e=>(hr g e).1)⟩
 rintro g t ⟨cs,_,hc⟩ e
 obtain⟨_,o,ho,hn⟩:=hr g e
 rw[hc] at ho
 injection ho with ho
 subst ho
 cases hn
theorem Fj.foundT(h:Fj x W F I FA fc TA tc vs){v':Value}(hg:W.grownBy w1 (Value.slice FA F.length fc).ownBlock):∃ S,aC S W (w1.setCell ⟨x.bF,0,none⟩ v')/\Vk S W:=by
 have T1:aC (λg=>(Value.slice FA F.length fc).ownBlock=some g) W w1:=(aC.refl _ W).grown hg (λ_ e _=>e)
 refine⟨λg=>(Value.slice FA F.length fc).ownBlock=some g\/g=x.bF,aC.setCell (T1.mono λ_ _ e=>.inl e) (p:=⟨x.bF,0,none⟩) (λ_=>.inr rfl) _,?_⟩
 rintro g t hg ht (e | e)
 ·exact hg.ne (aM h.fo e) (by rintro rfl;cases ht) rfl
 ·exact hg.ne (aG h.fb) (by rintro rfl;cases ht) e
theorem Fj.todoT(h:Fj x W F I FA fc TA tc vs){v':Value}(hg:W.grownBy w1 (Value.slice TA I.length tc).ownBlock):∃ S,aC S W (w1.setCell ⟨x.bT,0,none⟩ v')/\Vk S W:=by
 have T1:aC (λg=>(Value.slice TA I.length tc).ownBlock=some g) W w1:=(aC.refl _ W).grown hg (λ_ e _=>e)
 refine⟨λg=>(Value.slice TA I.length tc).ownBlock=some g\/g=x.bT,aC.setCell (T1.mono λ_ _ e=>.inl e) (p:=⟨x.bT,0,none⟩) (λ_=>.inr rfl) _,?_⟩
 rintro g t hg ht (e | e)
 ·exact hg.ne (aM h.tw e) (by rintro rfl;cases ht) rfl
 ·exact hg.ne (aG h.tb) (by rintro rfl;cases ht) e
theorem Fj.found(h:Fj x W F I FA fc TA tc vs)(m:aE){A':Option Addr}{c':Nat}(ho:w1.ownsRow 0 43 3 (.slice A' (F.length+1) c') (F.length+1) (aW F++m.cells))(hg:W.grownBy w1 (Value.slice FA F.length fc).ownBlock)(hf:cK W (.slice FA F.length fc) (.slice A' (F.length+1) c')) :
  Fj x (w1.setCell ⟨x.bF,0,none⟩ (.slice A' (F.length+1) c')) (F++[m]) I A' c' TA tc vs:=by
 have hl:(F++[m]).length=F.length+1:=by simp
 have hc:aW (F++[m])=aW F++m.cells:=by simp[aW]
 have hb1:aL w1 x.bF 39 #[.slice FA F.length fc]:=h.fb.grown hg (λe=>(aM h.fo e.symm).ne (aG h.fb) (by decide) rfl)
 have T1:aC (λg=>(Value.slice FA F.length fc).ownBlock=some g) W w1:=(aC.refl _ W).grown hg (λ_ e _=>e)
 have T:aC (λg=>(Value.slice FA F.length fc).ownBlock=some g\/g=x.bF) W (w1.setCell ⟨x.bF,0,none⟩ (.slice A' (F.length+1) c')) :=
  aC.setCell (T1.mono λ_ _ e=>.inl e) (p:=⟨x.bF,0,none⟩) (λ_=>.inr rfl) _
 have hne:∀ g t,bQ W g t->t ≠ 43 -> t ≠ 39 -> ¬ ((Value.slice FA F.length fc).ownBlock=some g\/g=x.bF):=by
  rintro g t hg h1 h2 (e | e)
  ·exact hg.ne (aM h.fo e) h1 rfl
  ·exact hg.ne (aG h.fb) h2 e
 have hF:Vk (λg=>(Value.slice FA F.length fc).ownBlock=some g\/g=x.bF) W:=λg t hg ht=>hne g t hg (by rintro rfl;cases ht) (by rintro rfl;cases ht)
 refine⟨h.st.fz T hF,?_,h.f0,h.t0,?_,?_,?_,h.tb.touch T (hne _ _ (aG h.tb) (by decide) (by decide)),aF h.tw T (λg hg=>hne _ _ (aM h.tw hg) (by decide) (by decide)),h.ty,λi v t h1 h2=>(h.kids i v t h1 h2).fz T hF,h.kp.trans (.of T hF)⟩
 ·refine h.old.trans T (λi hi e=>?_)
  rcases e with e | e
  ·have:=h.fy i e;omega
  ·have:=h.f0;omega
 ·rw[hl]
  have:=hb1.set_ 0 (.slice A' (F.length+1) c')
  simpa using this
 ·rw[hl,hc]
  exact cO ho (λe=>(aM ho e).ne (aG hb1) (by decide) rfl) _
 ·rw[hl]
  intro g hg
  rcases hf with e | ⟨g2,e,hle⟩
  ·rw[e] at hg;exact h.fy g hg
  ·rw[e] at hg
   injection hg with hg
   have:=h.old.size
   omega
theorem Fj.todo(h:Fj x W F I FA fc TA tc vs)(v:Value)(t:eU)(hk:Al x W v t)(hvs:vs.length=I.length){A':Option Addr}{c':Nat}(ho:w1.ownsRow 0 1 1 (.slice A' (I.length+1) c') (I.length+1) (vs++[v]))(hg:W.grownBy w1 (Value.slice TA I.length tc).ownBlock)(hf:cK W (.slice TA I.length tc) (.slice A' (I.length+1) c')) :
  Fj x (w1.setCell ⟨x.bT,0,none⟩ (.slice A' (I.length+1) c')) F (I++[t]) FA fc A' c' (vs++[v]):=by
 have hl:(I++[t]).length=I.length+1:=by simp
 have hb1:aL w1 x.bT 178 #[.slice TA I.length tc]:=h.tb.grown hg (λe=>(aM h.tw e.symm).ne (aG h.tb) (by decide) rfl)
 have T1:aC (λg=>(Value.slice TA I.length tc).ownBlock=some g) W w1:=(aC.refl _ W).grown hg (λ_ e _=>e)
 have T:aC (λg=>(Value.slice TA I.length tc).ownBlock=some g\/g=x.bT) W (w1.setCell ⟨x.bT,0,none⟩ (.slice A' (I.length+1) c')) :=
  aC.setCell (T1.mono λ_ _ e=>.inl e) (p:=⟨x.bT,0,none⟩) (λ_=>.inr rfl) _
 have hne:∀ g t,bQ W g t->t ≠ 1 -> t ≠ 178 -> ¬ ((Value.slice TA I.length tc).ownBlock=some g\/g=x.bT):=by
  rintro g t hg h1 h2 (e | e)
  ·exact hg.ne (aM h.tw e) h1 rfl
  ·exact hg.ne (aG h.tb) h2 e
 have hF:Vk (λg=>(Value.slice TA I.length tc).ownBlock=some g\/g=x.bT) W:=λg t hg ht=>hne g t hg (by rintro rfl;cases ht) (by rintro rfl;cases ht)
 refine⟨h.st.fz T hF,?_,h.f0,h.t0,h.fb.touch T (hne _ _ (aG h.fb) (by decide) (by decide)),aF h.fo T (λg hg=>hne _ _ (aM h.fo hg) (by decide) (by decide)),h.fy,?_,?_,?_,?_,h.kp.trans (.of T hF)⟩
 ·refine h.old.trans T (λi hi e=>?_)
  rcases e with e | e
  ·have:=h.ty i e;omega
  ·have:=h.t0;omega
 ·rw[hl]
  have:=hb1.set_ 0 (.slice A' (I.length+1) c')
  simpa using this
 ·rw[hl]
  exact cO ho (λe=>(aM ho e).ne (aG hb1) (by decide) rfl) _
 ·rw[hl]
  intro g hg
  rcases hf with e | ⟨g2,e,hle⟩
  ·rw[e] at hg;exact h.ty g hg
  ·rw[e] at hg
   injection hg with hg
   have:=h.old.size
   omega
 ·intro i v' t' h1 h2
  by_cases hi:i<I.length
  ·rw[qXd (by omega)] at h1
   rw[qXd hi] at h2
   exact (h.kids i v' t' h1 h2).fz T hF
  ·have hil:i<(I++[t]).length:=(List.getElem?_eq_some_iff.1 h2).1
   have hie:i=I.length:=by rw[hl] at hil;omega
   subst hie
   rw[<-hvs,qZi] at h1
   rw[qZi] at h2
   injection h1 with h1
   injection h2 with h2
   subst h1
   subst h2
   exact hk.fz T hF
theorem Nf{e:TypeId}{q:Nat}{ws:List Value}(h:W.ownsRow 0 e 1 (.slice A (q+1) c) (q+1) (ws++[v]))(hl:ws.length=q):W.ownsRow 0 e 1 (.slice A q c) q ws:=by
 refine⟨by simpa using hl,?_⟩
 rcases h.2 with⟨h0,_⟩ | ⟨g,cap,cur,hv,hge,hgg,hle,hm,hsz,ht⟩
 ·cases h0
 ·injection hv with h1 _ h3
  subst h1
  subst h3
  refine .inr ⟨g,c,cur,rfl,hge,hgg,by omega,hm,hsz,?_⟩
  have:=congrArg (List.take q) ht
  simp only[Nat.mul_one] at this ⊢
  rw[List.take_take,Nat.min_eq_left (by omega),List.take_left' hl] at this
  exact this
theorem Fj.pop{t:eU}(h:Fj x W F (I++[t]) FA fc TA tc (vs++[v]))(hvs:vs.length=I.length):Fj x (W.setCell ⟨x.bT,0,none⟩ (.slice TA I.length tc)) F I FA fc TA tc vs:=by
 have hl:(I++[t]).length=I.length+1:=by simp
 have T:aC (λg=>g=x.bT) W (W.setCell ⟨x.bT,0,none⟩ (.slice TA I.length tc)):=aC.setCell (aC.refl (λg=>g=x.bT) W) (p:=⟨x.bT,0,none⟩) (λ_=>rfl) _
 have hne:∀ g t,bQ W g t->t ≠ 178 -> ¬ (g=x.bT):=λg t hg h2 e=>hg.ne (aG h.tb) h2 e
 have hF:Vk (λg=>g=x.bT) W:=λg t hg ht=>hne g t hg (by rintro rfl;cases ht)
 have hto:=h.tw
 rw[hl] at hto
 have hb:=h.ty
 rw[hl] at hb
 refine⟨h.st.fz T hF,?_,h.f0,h.t0,h.fb.touch T (hne _ _ (aG h.fb) (by decide)),aF h.fo T (λg hg=>hne _ _ (aM h.fo hg) (by decide)),h.fy,?_,?_,?_,?_,h.kp.trans (.of T hF)⟩
 ·refine h.old.trans T (λi hi e=>?_)
  have:=h.t0;omega
 ·have:=h.tb.set_ 0 (.slice TA I.length tc)
  simpa using this
 ·refine cO (Nf hto hvs) (λe=>(aM (Nf hto hvs) e).ne (aG h.tb) (by decide) rfl) _
 ·intro g hg
  refine hb g ?_
  cases TA with
  | none=>simp[Value.ownBlock] at hg
  | some a=>simpa [Value.ownBlock] using hg
 ·intro i v' t' h1 h2
  have hi:i<I.length:=(List.getElem?_eq_some_iff.1 h2).1
  exact (h.kids i v' t' (by rw[qXd (by omega)];exact h1) (by rw[qXd hi];exact h2)).fz T hF
end
theorem Al.re{x:zS}{t:eU}(w:World):Al { x with wK:=w } W v t↔Al x W v t:=by
 constructor
 ·rintro⟨p,a,bA,bH,bS,bR,A,q,c,h⟩
  exact⟨p,a,bA,bH,bS,bR,A,q,c,⟨h.v,h.ba,h.bh,h.rd,h.len,h.le,h.mx,h.few,h.bs,h.br,h.row,h.t⟩⟩
 ·rintro⟨p,a,bA,bH,bS,bR,A,q,c,h⟩
  exact⟨p,a,bA,bH,bS,bR,A,q,c,⟨h.v,h.ba,h.bh,h.rd,h.len,h.le,h.mx,h.few,h.bs,h.br,h.row,h.t⟩⟩
theorem zG.re{x:zS}{I:List eU}(h:zG x W F I):zG { x with wK:=W } W F I/\Kp x.wK W:=by
 obtain⟨FA,fc,TA,tc,vs,h⟩:=h
 exact⟨⟨FA,fc,TA,tc,vs,⟨⟨h.st.bw,h.st.bl,h.st.bv,h.st.lev⟩,h.old,h.f0,h.t0,h.fb,h.fo,h.fy,h.tb,h.tw,h.ty,λi v t h1 h2=>(Al.re W).2 (h.kids i v t h1 h2),Kp.refl _⟩⟩,h.kp⟩
theorem zG.back{x:zS}{I:List eU}(h:zG { x with wK:=W } W' F I)(k:Kp x.wK W):zG x W' F I/\Kp W W':=by
 obtain⟨FA,fc,TA,tc,vs,h⟩:=h
 have hk:Kp W W':=h.kp
 exact⟨⟨FA,fc,TA,tc,vs,⟨⟨h.st.bw,h.st.bl,h.st.bv,h.st.lev⟩,h.old,h.f0,h.t0,h.fb,h.fo,h.fy,h.tb,h.tw,h.ty,λi v t h1 h2=>(Al.re W).1 (h.kids i v t h1 h2),k.trans hk⟩⟩,hk⟩
theorem aL.nc{t:TypeId}(h:aL W g t cs)(hg:W.grownBy W' row)(hr:∀ r,row=some r->∃ o:Obj,W.heap[r]? = some o/\o.isCells=false):aL W' g t cs:=by
 refine h.grown hg λe=>?_
 obtain⟨o,ho,hn⟩:=hr g e.symm
 unfold aL at h
 rw[h] at ho
 injection ho with ho
 subst ho
 cases hn
theorem aL.cell0{t:TypeId}(h:aL W g t #[v]):W.cell? ⟨g,0,none⟩=some v:=by rw[h.cell];rfl
theorem zG.size{x:zS}{I:List eU}(h:zG x W F I):x.w0.heap.size<=W.heap.size:=by
 obtain⟨_,_,_,_,_,h⟩:=h
 exact h.old.size
structure zJ(t:eU)(o:Nat)(z:SV)(bH bS bR bX:Nat)(A:Option Addr)(c:Nat)(A2:Option Addr)(c2:Nat)(W:World):Prop where
 bh:aL W bH 154 #[.slice A t.head.length c]
 bs:aL W bS 3 #[.int .i64 t.sum]
 br:aL W bR 181 (cB (bM o t.row))
 bx:aL W bX 170 #[.bool z.fin,.int .i64 z.out,.slice A2 z.n c2]
 ra:gL W 173 3 A2 z.n (dQ z.arcs)
 rh:gL W 21 1 A t.head.length (t.head.map fF)
theorem zJ.fz{t:eU}(h:zJ t o z bH bS bR bX A c A2 c2 W)(T:aC S W W')(hS:Vk S W):zJ t o z bH bS bR bX A c A2 c2 W' :=
 ⟨h.bh.fz T hS (by decide),h.bs.fz T hS (by decide),h.br.fz T hS (by decide),h.bx.fz T hS (by decide),h.ra.fz T hS (by decide),h.rh.fz T hS (by decide)⟩
theorem zJ.quiet{t:eU}(h:zJ t o z bH bS bR bX A c A2 c2 W)(T:aC (λ_=>False) W W'):zJ t o z bH bS bR bX A c A2 c2 W':=h.fz T (λ_ _ _ _ f=>f)
theorem zJ.grown{t:eU}(h:zJ t o z bH bS bR bX A c A2 c2 W)(hg:W.grownBy W' row)(hr:∀ r,row=some r->∃ o:Obj,W.heap[r]? = some o/\o.isCells=false):zJ t o z bH bS bR bX A c A2 c2 W':=by
 refine h.fz (S:=λg=>row=some g) ⟨hg.os,hg.tape,hg.output,hg.size,λk hk hs=>hg.block k hk (λe=>hs e.symm)⟩ ?_
 rintro g t ⟨cs,_,hc⟩ _ e
 obtain⟨o,ho,hn⟩:=hr g e
 rw[hc] at ho
 injection ho with ho
 subst ho
 cases hn
section
open Go.RowKit Go.Shelf
attribute [local go_sem] Oper.semAt_some
def nI{α:Type}(f:Nat->α)(k:Nat):List α:=(qZe k).map f
theorem Ti(f:Nat->α)(k:Nat):nI f (k+1)=nI f k++[f k]:=by simp[nI,List.range_succ]
theorem Kk(f:Nat->α)(k:Nat):(nI f k).length=k:=by simp[nI]
abbrev El:=Nat × Int × Nat
def lR(L:List El)(j:Nat):Int × El:=(((L.length-1-j:Nat):Int),L.getD (L.length-1-j) (0,0,0))
def Jb(x:Int × El):Array Value:=#[.int .i64 x.1,.agg #[.int .i32 (x.2.1:Int),.int .i64 x.2.2.1,.int .i64 (x.2.2.2:Int)]]
theorem Zd(L:List El):(nI (lR L) L.length).map (·.2)=L.reverse:=by
 apply List.ext_getElem?
 intro j
 by_cases hj:j<L.length
 ·rw[List.getElem?_reverse hj]
  simp[nI,lR,hj,qQd,show L.length-1-j<L.length by omega]
 ·rw[qJi (by simp[nI];omega),qJi (by simp;omega)]
theorem Vv(F:Fence)(n:Nat)(hf:F.fn 149)(hro:F.round=none)(hn:1<=n)(l Bs:Nat)(S:Nat->Prop)(w0:World)(A:Option Addr)(len cap:Nat)(L:List El)(hL:L.length=len)(hR:aH w0 3 A len (dQ L))(hlen:len<=maxLen)(hS:¬ S Bs)(hSA:0<len->∀ g,aJ A=some g->¬ S g)(J Jx:List (Int × El)->World->Prop)
  (hY:∀ pre x W,J pre W->pre.length<len->YieldAt F (n-1) Tryz.prog l (Jb x) W λe W' =>
    (e=.returned (.bool true)/\J (pre++[x]) W'/\aC S W W')\/(e=.returned (.bool false)/\Jx (pre++[x]) W'))
  (W:World)(hW:aC S w0 W)(hbs:Bs<W.heap.size)(hBs:W.cell? ⟨Bs,0,none⟩=some (.slice A len cap))(h0:J [] W) :
  CallsIn F n Tryz.prog 149 #[.func (.yield l) #[] #[],.pointer (some ⟨Bs,0,none⟩)] W λe W'=>(∃ v,e=.returned v) /\
   ((∃ ys,ys=nI (lR L) len/\J ys W')\/(∃ pre,(∃ k,k<=len/\pre=nI (lR L) k)/\Jx pre W')):=by
 unfold maxLen at hlen
 have HR:=aB hR
 have HL:=aB hL
 have HS:=aB hS
 have HSA:=aB hSA
 have hw:IntKind.i64.wrap ((len:Int)-1)=(len:Int)-1:=IntWalk.i64_in _ (by omega)
 have HST:((len:Int)-1 = -1/\len=0)\/∃ i:Nat,(len:Int)-1=(i:Int)/\len=i+1:=by
  by_cases h:len=0
  ·exact .inl ⟨by omega,h⟩
  ·exact .inr ⟨len-1,by omega,by omega⟩
 have HST:=aB HST
 clear hR hL hS hSA
 refine callsIn_of_wp Tryz.func149 rfl hf ?_ hro
 simp only[Tryz.ntmps149,List.size_toArray,qQb,qXb,Nat.reduceAdd,Nat.reduceSub,Array.replicate_succ,Array.replicate_zero,List.push_toArray,List.append_toArray,qXc,qJb]
 gi_wp2
 gi_loopw [3] (λiv wr=>∃ (z:Int) (k m:Nat),iv=.int .i64 z/\Hid (k+m=len)/\Hid ((z = -1/\m=0)\/∃ i:Nat,z=(i:Int)/\m=i+1)/\Hid (J (nI (lR L) k) wr)/\Hid (aC S W wr)) (λiv _=>(intOf iv+1).toNat)
 case atStart=>exact⟨_,0,len,rfl,aB (Nat.zero_add _),HST,aB h0,aB (aC.refl _ _)⟩
 case round =>
  obtain⟨z,k,m,rfl,HK,HZ,HJ,HB⟩:=hrel
  have c1:=(HB.cell (a:=⟨Bs,0,none⟩) hbs HS).trans hBs
  rcases HZ.out with⟨rfl,rfl⟩ | ⟨i,rfl,rfl⟩
  ·clear HZ
   gi_wp2
   go_end0
   have hk:k=len:=by have:=HK.out;omega
   exact⟨⟨_,rfl⟩,.inl ⟨_,rfl,by rw[<-hk];exact HJ⟩⟩
  ·clear HZ
   have y0:¬ (i:Int)<0:=by omega
   have y1:(0:Int)<=(i:Int):=by omega
   have y2:i<len:=by have:=HK.out;omega
   have y3:(i:Int)<(len:Int):=by omega
   have y4:L.length-1-k=i:=by have:=HK.out;rw[HL.out];omega
   obtain⟨g,o,hA,_,a0,a1,a2⟩:=iY (HR.touch (hW.then HB) (HSA (by omega))) HL i y2
   subst hA
   have hbf:lR L k=((i:Int),L.getD i (0,0,0)):=by unfold lR;rw[y4]
   have hus:=Ti (lR L) k
   rw[hbf] at hus
   obtain⟨⟨la,ao,ta⟩,hx⟩:∃ x,x=L.getD i (0,0,0):=⟨_,rfl⟩
   rw[<-hx] at a0 a1 a2 hus
   simp only at a0 a1 a2
   have HUS:=aB hus
   clear hx hus hbf
   obtain⟨fn,tmps,assign,body,hy,hR⟩:=hY _ ((i:Int),(la,ao,ta)) wr HJ (by rw[Kk];have:=HK.out;omega)
   simp only[Jb] at hy
   obtain⟨z2,hz2⟩:∃ z2:Int,(i:Int)-1=z2:=⟨_,rfl⟩
   have hw2:IntKind.i64.wrap z2=z2:=IntWalk.i64_in _ (by omega)
   have HZ2:=aB hz2
   gi_wp2
   refine hR.mono ?_
   rintro e W3 (⟨rfl,hJ3,hk3⟩ | ⟨rfl,hJx3⟩)
   ·have HJ3:=aB hJ3
    have HK3:=aB hk3
    clear hJ3 hk3
    gi_wp2
    go_roundw
    case rel =>
     have hz2:=HZ2.out
     refine⟨z2,k+1,i,rfl,aB (by have:=HK.out;omega),aB ?_,aB (by rw[HUS.out];exact HJ3),aB (HB.then HK3)⟩
     by_cases hi0:i=0
     ·exact .inl ⟨by omega,hi0⟩
     ·exact .inr ⟨i-1,by omega,by omega⟩
    case measure =>
     have hz2:=HZ2.out
     show (z2+1).toNat<((i:Int)+1).toNat
     omega
   ·gi_wp2
    refine bodyPost_ret (results_none rfl _ _ _) rfl ?_
    exact⟨⟨_,rfl⟩,.inr ⟨_,⟨k+1,by have:=HK.out;omega,HUS.symm⟩,hJx3⟩⟩
theorem Ew(a:Option Addr)(len cap:Nat)(w:World) :
  Calls Tryz.prog 94 #[.slice a len cap] w λe w'=>e=.returned (.func (.func 149) #[] #[.pointer (some ⟨w.heap.size,0,none⟩)])/\w'=w.alloc (.cells #[.slice a len cap] 168):=by
 go_in
 go_wp2
 go_ret
 exact⟨rfl,rfl⟩
theorem Ld(F:Fence)(n:Nat)(hf:F.fn 149)(hro:F.round=none)(hn:1<=n)(Bs:Nat)(S:Nat->Prop)(w:World)(A:Option Addr)(len cap:Nat)(L:List El)(hL:L.length=len)(hR:aH w 3 A len (dQ L))(hlen:len<=maxLen)(hS:¬ S Bs)(hSA:0<len->∀ g,aJ A=some g->¬ S g)(hbs:Bs<w.heap.size)(hc:w.cell? ⟨Bs,0,none⟩=some (.slice A len cap)) :
  SeqStopsK F n Tryz.prog 149 #[.pointer (some ⟨Bs,0,none⟩)] Jb (aC S) (λys=>ys=nI (lR L) len) (λpre=>∃ k,k<=len/\pre=nI (lR L) k) len w:=λl J Jx W hW _ _ hY h0 =>
 Vv F n hf hro hn l Bs S w A len cap L hL hR hlen hS hSA J Jx hY W (aC.of_below hW S) (Nat.lt_of_lt_of_le hbs hW.size) ((hW.cell (p:=⟨Bs,0,none⟩) hbs).trans hc) h0
theorem Js{P:Program}(w:World)(t ty:TypeId)(e:TypeId)(i:TypeInfo)(z:Value)(size bytes:Nat)(h1:P.underlying t=some (.slice e))(h2:P.info? e=some i)(h3:i.zero=some z)(h4:i.size=size)(h5:i.bytes=bytes)(h6:z.cells.size=size)(h7:0<size)
  (v:Value)(n:Nat)(xs:List Value)(hown:w.ownsRow 0 e size v n xs)
  (ao:Option Addr)(m c:Nat)(news:List Value)(hr:aH w size ao m news)(hn:ao=none->m=0/\c=0)(h1c:∀ u∈news,u.oneCell'=true)
  (b1:n+m<=maxLen)(b2:(n+m)*bytes<=140737488355328) :
  ∃ v' w',(Builtin.append_ #[t,t] ty #[v,.slice ao m c]).run P w=.ok v' w'/\w'.ownsRow 0 e size v' (n+m) (xs++news)/\w.grownBy w' v.ownBlock/\cK w v v'/\(v'=.slice none 0 0↔v=.slice none 0 0/\m=0):=by
 cases ao with
 | none =>
  obtain⟨rfl,rfl⟩:=hn rfl
  have hnews:news=[]:=qQf (by simpa using hr.1)
  subst hnews
  exact⟨v,w,run_append_owned_none (P:=P) w 0 t ty e i size h1 h2 v n xs hown,by simpa using hown,World.grownBy.refl _ _,.inl rfl,by simp⟩
 | some ad =>
  have hc:∀ j u,news[j]? = some u->w.cell? (ad.add j)=some u:=λj u hu=>by
   have hm:0<m:=by
    rcases Nat.eq_zero_or_pos m with rfl | hm
    ·have hl:news=[]:=qQf (by simpa using hr.1)
     rw[hl] at hu
     cases hu
    ·exact hm
   obtain⟨b,off,hA,_,hcell⟩:=hr.2 hm
   injection hA with hA
   subst hA
   rw[Addr.add_lit]
   exact hcell j u hu
  rcases hown.2 with⟨rfl,rfl⟩ | ⟨g,cap,cur,rfl,_,hgg,hnc,hcm,hcs,ht⟩
  ·have hx:xs=[]:=qQf (by simpa using hown.1)
   subst hx
   obtain⟨v',w',r1,r2,r3,r4⟩:=run_append_own (P:=P) w w.heap.size t ty e i z size bytes h1 h2 h3 h4 h5 h6 h7 (.slice none 0 0) 0 [] (World.ownsRow_nil w _ e size) ad m c news hr.1 hc h1c b1 b2 (Nat.le_refl _)
   refine⟨v',w',r1,⟨r2.1,?_⟩,r3,?_,r4⟩
   ·rcases r2.2 with h | ⟨g,cap,cur,h,_,hh⟩
    ·exact .inl h
    ·exact .inr ⟨g,cap,cur,h,Nat.zero_le _,hh⟩
   ·rcases r2.2 with⟨h,_⟩ | ⟨g,cap,cur,h,hge,hh⟩
    ·exact .inl (by rw[h])
    ·exact .inr ⟨g,by rw[h];rfl,hge⟩
  ·by_cases hroom:n+m<=cap
   ·obtain⟨w',r1,r2,r3⟩:=run_append_fits (P:=P) w 0 t ty e i size h1 h2 h4 g n cap xs hown ad m c news hr.1 hc h1c hroom
    exact⟨_,w',r1,r2,r3,.inl rfl,by simp⟩
   ·have holds:∀ j u,xs[j]? = some u->w.cell? ((⟨g,0,none⟩:Addr).add j)=some u:=hown.cells (g:=g) rfl
    obtain⟨v',w',r1,r2,r3⟩:=run_append_arg_grows (P:=P) w t ty e i z size bytes h1 h2 h3 h4 h5 h6 h7 ⟨g,0,none⟩ n cap xs hown.1 holds ad m c news hr.1 hc (by omega) b1 b2
    refine⟨v',w',r1,⟨r2.1,?_⟩,⟨r3.os,r3.tape,r3.output,r3.size,λk hk _=>r3.block k hk (by simp)⟩,?_,?_⟩
    ·rcases r2.2 with h | ⟨g,cap,cur,h,_,hh⟩
     ·exact .inl h
     ·exact .inr ⟨g,cap,cur,h,Nat.zero_le _,hh⟩
    ·rcases r2.2 with⟨h,hz⟩ | ⟨g,cap,cur,h,hge,hh⟩
     ·omega
     ·exact .inr ⟨g,by rw[h];rfl,hge⟩
    ·rcases r2.2 with⟨h,hz⟩ | ⟨g,cap,cur,h,hge,hh⟩
     ·omega
     ·rw[h];simp
theorem vT{F:Fence}{nF:Nat}{P:Program}(w:World){ops:Array Oper}{rest:List Oper}{o:Oper}{a:Act}{Q:Exit->Act->World->Prop}
  (hg:o.guard=none)(s x:Operand)(t:TypeId)(hop:o.op=Op.call { callee:=Callee.builtin Builtin.append,args:=#[s,x],argTypes:=#[t,t] })
  (e:TypeId)(i:TypeInfo)(z:Value)(size bytes:Nat)(h1:P.underlying t=some (.slice e))(h2:P.info? e=some i)(h3:i.zero=some z)(h4:i.size=size)(h5:i.bytes=bytes)(h6:z.cells.size=size)(h7:0<size)
  (v:Value)(n:Nat)(xs:List Value)(hs:a.eval s=v)(hown:w.ownsRow 0 e size v n xs)
  (ao:Option Addr)(m c:Nat)(news:List Value)(hx:a.eval x=.slice ao m c)(hr:aH w size ao m news)(hn:ao=none->m=0/\c=0)(h1c:∀ u∈news,u.oneCell'=true)
  (b1:n+m<=maxLen)(b2:(n+m)*bytes<=140737488355328)
  (hK:∀ v' w',w'.ownsRow 0 e size v' (n+m) (xs++news)->w.grownBy w' v.ownBlock->cK w v v'->(v'=.slice none 0 0↔v=.slice none 0 0/\m=0)->wpListIn F nF P ops Q rest (a.put o.dst v') w') :
  wpListIn F nF P ops Q (o :: rest) a w:=by
 refine wpListIn_plain hg λK hK'=>?_
 obtain⟨v',w',hrun,r2,r3,r4,r5⟩:=Js (P:=P) w t o.type e i z size bytes h1 h2 h3 h4 h5 h6 h7 v n xs hown ao m c news hr hn h1c b1 b2
 unfold Oper.wpIn
 refine⟨?_,?_⟩
 ·simp[Oper.about,hop,resolve,Target.leads,Sem.run_pure]
 ·rw[Oper.semAt_plain F _ _ (by rw[hop];intro c hc';cases hc')]
  simp[execOp,hop,resolve,invoke,builtin,hs,hx,hrun,Result.andThen]
  exact hK' _ _ (hK v' w' r2 r3 r4 r5)
end
section
open Go.RowKit Go.Shelf
attribute [local go_sem] Oper.semAt_some
theorem oU{ops:Array Oper}{rest:List Oper}{op:Oper}{a:Act}{Q:Exit->Act->World->Prop}(hw:Region.wanted op (yielded ops a.tmps)=true)(x:Operand)(ho:op.op=.load 181 x)
  (b:Nat)(hx:a.eval x=.pointer (some ⟨b,0,none⟩))(s:List Nat)(hb:aL w b 181 (cB s))(h:wpList Tryz.prog ops Q rest (a.put op.dst (.agg (cB s))) w):wpList Tryz.prog ops Q (op :: rest) a w:=by
 refine BigFrame.wpList_want hw λK hK=>wp_load_mid (P:=Tryz.prog) 181 x ho b 0 hx (cB s).toList _ hb.range Tryz.underlying181 rfl (by rw[jH];simp[eN]) (hK _ _ ?_)
 simpa using h
theorem aHz(hD:aZ L)(hs:Z.map SV.p=(aR L).states)(h:eW w A n Z):∀ z∈Z,z.n<=2097152:=by
 intro z hz
 obtain⟨i,hi,rfl⟩:=List.mem_iff_getElem.1 hz
 have hl:=(h.el _ hz).len
 rcases eP hD with⟨e,_⟩ | hR
 ·rw[e] at hs
  have:Z=[]:=by simpa using hs
  rw[this] at hi
  simp at hi
 ·have hil:i<(aR L).states.length:=by rw[<-hs,qZa];exact hi
  have hf:=oD (hR.form i hil)
  rw[<-hs] at hf
  simp[qQd,hi,SV.p] at hf
  omega
theorem yJ:(Tryz.prog.info? 43).map (λi=>(i.zero,i.size,i.bytes))=some (some (.agg #[.string ByteArray.empty,.int .i64 0,.int .i64 0]),3,32):=by kernel_rfl
theorem aBy:(Tryz.prog.info? 1).map (λi=>(i.zero,i.size,i.bytes))=some (some .nilFunc,1,8):=by kernel_rfl
def Cc(h:yE):aE:=⟨⟨(h.1.flatMap aN).toArray⟩,h.2.1,(h.2.2:Int)⟩
def AxF(x:zS)(bH bS bR Bx:Nat)(a:Act):Prop :=
 ∃ u0 u1 u2 u3 u4 u6 u9 u13 u14 u15 u16 u17 u18 u19 u21 u22 u23 u24 u25 u26 u27 u28 u29 u30 u31 u32 u33 u34 u35 u36 u37 u38 u39 u40 u41 u42 u43 u44 u45 u46 u47 u48 u49 u50 u51 u52 u53 u54 u55 u56 u57 u58 u59 u60 u61 u62 u63 u64 u65 u66 u67 u68 u69:Value,a={ tmps:=#[u0,u1,u2,u3,u4,bB x.bL,u6,bB x.bT,bB x.bV,u9,bB bH,bB bS,bB bR,u13,u14,u15,u16,u17,u18,u19,bB Bx,u21,u22,u23,u24,u25,u26,u27,u28,u29,u30,u31,u32,u33,u34,u35,u36,u37,u38,u39,u40,u41,u42,u43,u44,u45,u46,u47,u48,u49,u50,u51,u52,u53,u54,u55,u56,u57,u58,u59,u60,u61,u62,u63,u64,u65,u66,u67,u68,u69],defers:=[] }
def Mi(x:zS)(t:eU)(a:El):eU:=⟨a.2.2,t.head++[a.1],t.sum+a.2.1,dP x.X t.row a.1⟩
structure eU.Rdy(t:eU)(x:zS)(W:World)(A:Option Addr)(c n:Nat):Prop where
 i:t.i<n
 row:t.row.length=x.ln+1
 scal:∀ r∈t.head,scal r=true
 few:t.head.length<=24
 s0:0<=t.sum
 s1:t.sum<=1099511627776
 rd:gL W 21 1 A t.head.length (t.head.map fF)
 le:t.head.length<=c
 mx:c<=maxLen
theorem Ef(x:zS)(hL:cV x.w0)(hD:aZ L){dA:Option Addr}{dc:Nat}(hW:It x.w0 x.wb L n wA wc Z dA dc)(W:World)(F:List aE)(I:List eU)(hG:zG x W F I)(hFl:F.length<=1048576)(hIl:I.length<=1048576)(t:eU)(A:Option Addr)(c:Nat)(hR:t.Rdy x W A c n) :
  Calls Tryz.prog 89 #[.int .i64 (t.i:Int),.slice A t.head.length c,.int .i64 t.sum,.agg (cB (bM x.o t.row)),bB x.bW,bB x.bL,bB x.bF,bB x.bT,bB x.bV] W
   λe W'=>e=.returned (.tuple #[])/\zG x W' (F++(pR (aR L).states x.o t).map Cc) (I++(jI (aR L).states x.X x.o t).reverse):=by
 obtain⟨FA,fc,TA,tc,vs,hR0⟩:=hG
 have hrow:=hR.row
 obtain⟨wb,hwb⟩:=eX (((W.alloc (.cells #[.slice A t.head.length c] 154)).alloc (.cells #[.int .i64 t.sum] 3)).alloc (.cells (cB (bM x.o t.row)) 181))
 have hTb:aC (λ_=>False) W wb:=by rw[hwb];exact (((aC.refl _ _).alloc _).alloc _).alloc _
 have hbh:aL wb W.heap.size 154 #[.slice A t.head.length c]:=by rw[hwb];exact ((aL.new _ _ _).alloc _).alloc _
 have hbs:aL wb (W.heap.size+1) 3 #[.int .i64 t.sum]:=by rw[hwb];exact (iA _ _ _ _).alloc _
 have hbr:aL wb (W.heap.size+1+1) 181 (cB (bM x.o t.row)):=by rw[hwb];exact Ba _ _ _ _ _
 obtain⟨bH,eH⟩:=eX W.heap.size
 obtain⟨bS,eS⟩:=eX (W.heap.size+1)
 obtain⟨bR,eR⟩:=eX (W.heap.size+1+1)
 rw[<-eH] at hbh
 rw[<-eS] at hbs
 rw[<-eR] at hbr
 have hRb:=hR0.quiet hTb
 obtain⟨p0,p1,p2⟩:=hRb.st.bw.facts
 have HWB:=aB hwb
 have HTB:=aB hTb
 have HBH:=aB hbh
 have HBS:=aB hbs
 have HBR:=aB hbr
 have HEE:=aB (And.intro eH (And.intro eS eR))
 have HRB:=aB hRb
 have HR:=aB hR
 have HL:=aB hL
 have HD:=aB hD
 have hD':=hD
 have HWK:=aB hW
 have HFL:=aB hFl
 have HIL:=aB hIl
 have HRR:=aB (hR.rd.quiet hTb)
 clear hwb hTb hbh hbs hbr eH eS eR hRb hR0 hR hL hD hW hFl hIl hrow
 refine (callsIn_wide (n:=3)).1 (callsIn_of_wp_marks Tryz.func89 rfl trivial ?_ rfl)
 simp only[Tryz.ntmps89,List.size_toArray,qQb,qXb,Nat.reduceAdd,Nat.reduceSub,Array.replicate_succ,Array.replicate_zero,List.push_toArray,List.append_toArray,qXc,qJb]
 refine wpIn_wide.2 ?_
 go_upto_region 1 with fail
 rw[<-HWB.out,<-HEE.2.2,<-HEE.2.1,<-HEE.1]
 have hwk:=HWK.quiet HRB.old
 have hin:=HR.i
 have hzm:=cJ Z cH t.i (by rw[hwk.wk.sts.len];exact hin)
 have hzp:(aR L).states.getD t.i aY=(Z.getD t.i cH).p:=by
  rw[<-hwk.st]
  simp[qQd,hwk.wk.sts.len,hin]
 have hsm:=yY (eP hD') hwk.st
 have hel:=hwk.wk.sts.el _ hzm
 have hz1:=hsm.arc _ hzm
 have hz2:=hsm.out _ hzm
 obtain⟨z,hz⟩:∃ z,Z.getD t.i cH=z:=⟨_,rfl⟩
 rw[hz] at hzp hel hz1 hz2
 have hzq:z.n<=2097152:=by rw[<-hz];exact aHz hD' hwk.st hwk.wk.sts _ hzm
 have HST:=aB (Pn wb x.wb (aR L).base wA n wc Z dA dc _ hwk.wk t.i hin z hz hzq)
 go_wp2_with fail
 refine HST.mono ?_
 rintro e w1 ⟨A2,c2,rfl,hcl⟩
 have HCL:=aB hcl
 clear hcl
 go_upto_region 2 with fail
 obtain⟨w2,hw2⟩:=eX (w1.alloc (.cells #[.bool z.fin,.int .i64 z.out,.slice A2 z.n c2] 170))
 obtain⟨bX,eX⟩:=eX w1.heap.size
 rw[<-hw2,<-eX]
 have hT2:aC (λ_=>False) wb w2:=by rw[hw2];exact HCL.touch.alloc _
 have hV2:zJ t x.o z bH bS bR bX A c A2 c2 w2:=⟨HBH.touch hT2 (λf=>f),HBS.touch hT2 (λf=>f),HBR.touch hT2 (λf=>f),by rw[hw2,eX];exact aL.new _ _ _,(gL.of_own HCL.own).quiet (by rw[hw2];exact (aC.refl _ _).alloc _),HRR.quiet hT2⟩
 have HV2:=aB hV2
 have HZL:=aB hel.len
 have HZC:=aB (And.intro hel.le hel.mx)
 have HZP:=aB hzp
 have HZ1:=aB hz1
 have HZ2:=aB hz2
 have HZQ:=aB hzq
 have HB2:=aB (HRB.quiet hT2)
 have hlv:=(HRB.quiet hT2).st.lev
 have HAL:=aB (Vq w2 x.lb x.lA x.ln x.lc x.X x.o hlv t.row HR.row)
 have q1:=(HB2.st.bl).facts
 clear hw2 eX hT2 hV2 hlv hel hzp hz1 hz2 hzq hsm hwk hzm hin p0 p1 p2 HST HBH HBS HBR HRR HRB
 obtain⟨p0,p1,p2⟩:=q1
 cases hdead:t.row.all λy=>decide (x.o<=y) with
 | true =>
  rw[hdead] at HAL
  have HDEAD:=aB hdead
  clear hdead
  go_wp2_with (first | (refine oU (by kernel_rfl) (.tmp 12) rfl bR rfl _ HV2.br ?_))
  refine HAL.mono ?_
  rintro e w3 ⟨rfl,T3⟩
  have HT3:=aB T3
  clear T3
  go_wp2_with fail
  refine⟨.tuple #[],results_none rfl _ _ _,rfl,?_⟩
  have hdd:sV x.o t=true:=HDEAD.out
  have e1:pR (aR L).states x.o t=[]:=by unfold pR;rw[if_pos hdd]
  have e2:jI (aR L).states x.X x.o t=[]:=by unfold jI;rw[if_pos hdd]
  rw[e1,e2]
  simp only[List.map_nil,qJe,List.reverse_nil]
  exact⟨_,_,_,_,_,HB2.quiet HT3⟩
 | false =>
  rw[hdead] at HAL
  have HDEAD:=aB hdead
  clear hdead
  go_wp2_with (first | (refine oU (by kernel_rfl) (.tmp 12) rfl bR rfl _ HV2.br ?_))
  refine HAL.mono ?_
  rintro e w3 ⟨rfl,T3⟩
  have hb3:=HB2.quiet T3
  have HB3:=aB hb3
  have HV3:=aB (HV2.quiet T3)
  have HDI:=aB (aAx w3 x.lb x.lA x.ln x.lc x.X x.o hb3.st.lev t.row HR.row)
  clear p0 p1 p2
  obtain⟨p0,p1,p2⟩:=hb3.st.bl.facts
  clear T3 hb3 HAL
  go_wp2_with (first | (refine gK rfl (.tmp 12) rfl bR rfl _ HV3.br ?_))
  refine HDI.mono ?_
  rintro e w4 ⟨rfl,T4⟩
  have HB4:=aB (HB3.quiet T4)
  have HV4:=aB (HV3.quiet T4)
  clear T4 p0 p1 p2 HDI
  obtain⟨d,hd⟩:=eX (t.row.getD x.ln 0)
  rw[<-hd]
  have HDD:=aB hd
  clear hd
  obtain⟨nr,hnr⟩:=eX (decide (d<x.o))
  obtain⟨dd,hdd⟩:∃ y:Int,y=if d<x.o then (d:Int) else 0:=⟨_,rfl⟩
  rw[<-hnr,<-hdd]
  have HNR:=aB (And.intro hnr hdd)
  clear hnr hdd
  obtain⟨x0,x1,x2⟩:=HV4.bx.facts
  have c0:w4.cell? ⟨bX,0,none⟩=some (.bool z.fin):=x0 0
  clear x0 x1
  obtain⟨zf,hzf⟩:=eX z.fin
  rw[<-hzf] at c0 ⊢
  have HZF:=aB hzf
  clear hzf
  go_upto_region 4 with fail
  go_cut [45] from 41 to 45 (λs wx=>s=.bool (zf && nr)/\wx=w4)
  case first =>
   clear HZF
   cases zf
   ·go_wp2
    go_meet
    case rel=>exact⟨rfl,rfl⟩
   ·clear HNR
    cases nr
    ·go_wp2
     go_meet
     case rel=>exact⟨rfl,rfl⟩
    ·go_wp2
     go_meet
     case rel=>exact⟨rfl,rfl⟩
  case rest =>
   obtain⟨rfl,hcw⟩:=hcut
   obtain rfl:=hcw.symm
   clear hcw
   have hld:t.row.getLastD 0=d:=by
    rw[HDD.out,qZk,List.getLast?_eq_getElem?,HR.row]
    rfl
   have hfe:((aR L).states.getD t.i aY).fin=zf:=by rw[HZP.out,HZF.out];rfl
   have hoe:((aR L).states.getD t.i aY).out=z.out:=by rw[HZP.out];rfl
   have hnd:¬ sV x.o t=true:=by
    have:=HDEAD.out
    unfold sV
    rw[this]
    simp
   have hhit:pR (aR L).states x.o t=if (zf && nr)=true then [(t.head,t.sum+z.out,d)] else []:=by
    unfold pR
    rw[if_neg hnd,hfe,hoe,hld]
    have h1:=HNR.1
    cases zf with
    | false=>simp
    | true=>simp[h1]
   have HHIT:=aB hhit
   clear hld hfe hoe hnd hhit c0
   obtain⟨bb,hbb⟩:=eX ((zf && nr))
   rw[<-hbb] at HHIT ⊢
   have HBE:=aB hbb
   clear hbb
   go_upto_if 45 with fail
   go_cut [17,18] from 46 to 60 (λ_ _ wx=>Hid (zG x wx (F++(pR (aR L).states x.o t).map Cc) I/\zJ t x.o z bH bS bR bX A c A2 c2 wx))
   case first =>
    cases bb with
    | false =>
     clear HBE
     go_wp2_with fail
     go_meet
     case rel =>
      have h:=HHIT.out
      rw[h]
      exact aB ⟨by simp only[Bool.false_eq_true,if_false,List.map_nil,qJe];exact⟨_,_,_,_,_,HB4⟩,HV4⟩
    | true =>
     have hh:=HHIT.out
     rw[if_pos rfl] at hh
     have hdd:dd=(d:Int):=by
      have h1:=HNR.1
      have h2:=HNR.2
      have h3:nr=true:=(Bool.and_eq_true_iff.1 HBE.symm).2
      rw[h3] at h1
      rw[h2,if_pos (of_decide_eq_true h1.symm)]
     have HH:=aB hh
     have HTX:=aB (rF w4 (cV.touch HL (HB4.old)) A t.head.length c t.head HV4.rh.rd rfl (by have:=HR.few;omega) HR.scal)
     obtain⟨h0,h1,h2⟩:=HV4.bh.facts
     clear hh HNR HBE
     subst hdd
     go_wp2_with fail
     refine HTX.mono ?_
     rintro e w5 ⟨rfl,T5⟩
     have HT5:=aB T5
     have hb5:=HB4.quiet T5
     have HB5:=aB hb5
     have HV5:=aB (HV4.quiet T5)
     obtain⟨s0,s1,s2⟩:=HV5.bs.facts
     obtain⟨x0,x1,x2⟩:=HV5.bx.facts
     obtain⟨f0,f1,f2⟩:=hb5.fb.facts
     obtain⟨iM,hiM,hm0,hm1,hm2⟩:=aQ yJ
     have z1:=HZ2.1
     have z2:=HZ2.2
     have z3:=HR.s0
     have z4:=HR.s1
     have HB5a:=aB (hb5.quiet ((aC.refl _ _).alloc (.cells #[.string ⟨(t.head.flatMap aN).toArray⟩,.int .i64 (t.sum+z.out),.int .i64 (d:Int)] 43)))
     have HV5a:=aB (HV5.quiet ((aC.refl _ _).alloc (.cells #[.string ⟨(t.head.flatMap aN).toArray⟩,.int .i64 (t.sum+z.out),.int .i64 (d:Int)] 43)))
     have HBB:Hid (F.length+1<=maxLen/\(F.length+1)*32<=140737488355328):=aB (by have:=HFL.out;unfold maxLen;omega)
     clear T5 hb5 HTX h0 h1 h2
     go_wp2_with (at_builtin;refine aP _ rfl (.tmp 51) (.tmp 59) 39 rfl 43 iM _ 3 32 Tryz.underlying39 hiM hm0 hm1 hm2 rfl (by decide) (.slice FA F.length fc) F.length _ rfl HB5a.fo (some ⟨w5.heap.size,0,none⟩) 1 1 [.string ⟨(t.head.flatMap aN).toArray⟩,.int .i64 (t.sum+z.out),.int .i64 (d:Int)] rfl (aH.new _ _ _ 1 rfl) (λh=>by cases h) (List.all_eq_true.1 rfl) HBB.1 HBB.2 ?_;intro v6 w6 O6 G6 F6 _;obtain⟨A6,c6,hv,_,_⟩:=aS O6;subst hv;have hb6:=HB5a.fb.grown G6 (λe=>(aM HB5a.fo e.symm).ne (aG HB5a.fb) (by decide) rfl);have HE6:=aB (And.intro O6 (And.intro G6 F6));clear O6 G6 F6 f0 f1 f2;obtain⟨f0,f1,f2⟩:=hb6.facts;clear hb6)
     go_meet
     case rel =>
      obtain⟨O6,G6,F6⟩:=HE6.out
      rw[HH.out]
      refine aB ⟨⟨_,_,_,_,_,HB5a.found (Cc (t.head,t.sum+z.out,d)) O6 G6 F6⟩,?_⟩
      obtain⟨S,T,hS⟩:=HB5a.foundT (v':=.slice A6 (F.length+1) c6) G6
      exact HV5a.fz T hS
   case rest =>
    have HC:=hcut
    clear hcut
    obtain⟨hg5,hV5⟩:=HC.out
    have HV5:=aB hV5
    have HG5:=aB hg5
    obtain⟨x0,x1,x2⟩:=hV5.bx.facts
    obtain⟨wa,hwa⟩:=eX (wc.alloc (.cells #[.slice A2 z.n c2] 168))
    obtain⟨Bs,hBs⟩:=eX wc.heap.size
    have hTa:aC (λ_=>False) wc wa:=by rw[hwa];exact (aC.refl _ _).alloc _
    have hbs:aL wa Bs 168 #[.slice A2 z.n c2]:=by rw[hwa,hBs];exact aL.new _ _ _
    have HGA:=aB (hg5.quiet hTa)
    have HVA:=aB (hV5.quiet hTa)
    have HBSS:=aB hbs
    have HWA:=aB hwa
    have HBE:=aB hBs
    clear hg5 hV5 HC hwa hBs hTa hbs
    go_wp2_with (go_at_call 94;refine (Ew _ _ _ _).mono ?_;rintro e w' ⟨rfl,rfl⟩)
    rw[<-HWA.out,<-HBE.out]
    have hba:=HBSS.out
    have hva:=HVA.out
    have hszq:Bs<wa.heap.size:=hba.lt
    have hF1:∃ F1,F1=F++(pR (aR L).states x.o t).map Cc:=⟨_,rfl⟩
    obtain⟨F1,hF1⟩:=hF1
    rw[<-hF1] at HGA HG5
    have HF1:=aB hF1
    clear hF1
    have hSl:∀ l,wa.heap.size<=l->l≠Bs/\¬ (0<z.n/\aJ A2=some l):=λl hl=>by
     refine⟨by omega,λ⟨hn,hg⟩=>?_⟩
     have:=(hva.ra.ty hn l hg).lt
     omega
    refine (wpIn_wide (n:=3)).1 ?_
    refine wpIn_rangeFunc_ownH rfl (by omega) (gf := 149) (lb:=#[.pointer (some ⟨Bs,0,none⟩)]) rfl trivial (enters_of Tryz.func149 (by kernel_rfl) rfl)
     (Ld Fence.wide (3-1) trivial rfl (by omega) Bs (λg=>g≠Bs/\¬ (0<z.n/\aJ A2=some g)) wa A2 z.n c2 z.arcs HZL hva.ra.rd (Nat.le_trans HZC.1 HZC.2) (λh=>h.1 rfl) (λhn g hg h=>h.2 ⟨hn,hg⟩) hszq hba.cell0)
     (λh k=>aC.then h k)
     (λW1 l o o' hl ho hn _=>⟨rfl,rfl,rfl,by simp[World.putObj],λk hk hs=>World.putObj_heap_other (λe=>hs (e ▸ hSl l hl))⟩)
     (Below.refl _ _) (λ_=>rfl)
     (λpre W1=>zG x W1 F1 (I++pre.map λy=>Mi x t y.2)/\zJ t x.o z bH bS bR bX A c A2 c2 W1/\aL W1 Bs 168 #[.slice A2 z.n c2]) (λ_ _ _=>False)
     (λs X Y row hs hg hr=>⟨hs.1.grown hg (λr e=>⟨Nat.le_trans HGA.size (hr r e).1,(hr r e).2⟩),hs.2.1.grown hg (λr e=>(hr r e).2),hs.2.2.nc hg (λr e=>(hr r e).2)⟩)
     (λ_ _ _ _ _ h _ _=>h)
     ⟨by simpa using HGA.out,hva,hba⟩
     (λy a' W1=>∃ Bx,aL W1 Bx 173 #[.int .i32 (y.2.1:Int),.int .i64 y.2.2.1,.int .i64 (y.2.2.2:Int)]/\AxF x bH bS bR Bx a')
     (λy a' _ X Y row hs hg hr=>by
       obtain⟨Bx,h1,h2⟩:=hs
       exact⟨Bx,h1.nc hg (λr e=>(hr r e).2),h2⟩)
     ?assign ?body ?done ?stop
    case stop=>exact λ_ _ _ _ _ _ h _=>h.elim
    case assign =>
     rintro l pre ⟨i,la,ao,ta⟩ W1 K ⟨hG1,hV1,hbsq⟩ hK
     simp only[Jb]
     gi_wp2
     refine hK _ _ ((KeepsOthers.alloc _ _).from _) ((aC.refl _ _).alloc _) ⟨hG1.quiet ((aC.refl _ _).alloc _),hV1.quiet ((aC.refl _ _).alloc _),hbsq.alloc _⟩ ⟨W1.heap.size,aL.new _ _ _,?_⟩
     exact⟨_,_,_,_,_,_,_,_,_,_,_,_,_,_,_,_,_,_,_,_,_,_,_,_,_,_,_,_,_,_,_,_,_,_,_,_,_,_,_,_,_,_,_,_,_,_,_,_,_,_,_,_,_,_,_,_,_,_,_,_,_,_,_,rfl⟩
    case body =>
     rintro l pre ⟨i,la,ao,ta⟩ a' W1 hl ⟨r,hr⟩ ⟨hG1,hV1,hbsq⟩ ⟨Bx,hbx,hax⟩ hlt
     obtain⟨u0,u1,u2,u3,u4,u6,u9,u13,u14,u15,u16,u17,u18,u19,u21,u22,u23,u24,u25,u26,u27,u28,u29,u30,u31,u32,u33,u34,u35,u36,u37,u38,u39,u40,u41,u42,u43,u44,u45,u46,u47,u48,u49,u50,u51,u52,u53,u54,u55,u56,u57,u58,u59,u60,u61,u62,u63,u64,u65,u66,u67,u68,u69,rfl⟩:=hax
     simp only at hbx
     obtain⟨FA5,fc5,TA5,tc5,vs5,hR5⟩:=hG1
     obtain⟨T0,hT0⟩:=eX (I++pre.map λy=>Mi x t y.2)
     rw[<-hT0] at hR5
     have hTl:T0.length<=4194304:=by
      rw[hT0]
      have h1:=HIL.out
      have h2:=HZQ.out
      simp only[qZc,qZa]
      omega
     have hvl:=hR5.tw.1
     obtain⟨cv,hcv⟩:=eX (Value.func (.func 95) #[] #[bB x.bV,bB Bx,bB bH,bB bS,bB x.bL,bB bR])
     have hkid:Al x W1 cv (Mi x t (la,ao,ta)):=⟨t,(la,ao,ta),Bx,bH,bS,bR,A,t.head.length,c,⟨hcv,hbx,hV1.bh,hV1.rh,rfl,HR.le,HR.mx,HR.few,hV1.bs,hV1.br,HR.row,rfl⟩⟩
     obtain⟨iT,hiT,hm0,hm1,hm2⟩:=aQ aBy
     obtain⟨f0,f1,f2⟩:=hR5.tb.facts
     have hTq:aC (λ_=>False) W1 (W1.alloc (.cells #[cv] 1)):=(aC.refl _ _).alloc _
     have HR5:=aB (hR5.quiet hTq)
     have HV5':=aB (hV1.quiet hTq)
     have HKD:=aB (hkid.fz hTq (λ_ _ _ _ f=>f))
     have HVL:=aB hvl
     have HT0:=aB hT0
     have HRL:=aB hr
     have HBB:Hid (T0.length+1<=maxLen/\(T0.length+1)*8<=140737488355328):=aB (by unfold maxLen;omega)
     have HON:Hid (∀ u∈[cv],u.oneCell'=true):=aB (by intro u hu;simp only[qZd] at hu;subst hu;rw[hcv];rfl)
     have HCV:=aB hcv
     have HBQ:=aB hbsq
     clear hR5 hV1 hT0 hTl hvl hkid hbx hlt hr hTq hcv hbsq
     gi_wp2_with (gi_at_builtin;rw[<-HCV.out];refine vT _ rfl (.tmp 66) (.tmp 68) 178 rfl 1 iT _ 1 8 Tryz.underlying178 hiT hm0 hm1 hm2 rfl (by decide) (.slice TA5 T0.length tc5) T0.length _ rfl HR5.tw (some ⟨W1.heap.size,0,none⟩) 1 1 [cv] rfl (aH.new _ _ _ 1 rfl) (λh=>by cases h) HON HBB.1 HBB.2 ?_;intro v6 w6 O6 G6 F6 _;obtain⟨A6,c6,hv,_,_⟩:=aS O6;subst hv;have hb6:=HR5.tb.grown G6 (λe=>(aM HR5.tw e.symm).ne (aG HR5.tb) (by decide) rfl);have HE6:=aB (And.intro O6 (And.intro G6 F6));clear O6 G6 F6 f0 f1 f2;obtain⟨f0,f1,f2⟩:=hb6.facts;clear hb6)
     obtain⟨O6,G6,F6⟩:=HE6.out
     have hvl:vs5.length=T0.length:=by simpa using HVL.out
     have hap:T0++[Mi x t (la,ao,ta)]=I++(pre++[(i,la,ao,ta)]).map λy=>Mi x t y.2:=by rw[HT0.out];simp
     have hrow:∀ g,(Value.slice TA5 T0.length tc5).ownBlock=some g->bQ W1 g 1 \/ W1.heap.size<=g:=λg hg=>by
      by_cases hl:g<W1.heap.size
      ·obtain⟨cs,fr,hc⟩:=aM HR5.tw hg
       exact .inl ⟨cs,fr,(Below.heap_alloc W1 _ g hl).symm.trans hc⟩
      ·exact .inr (by omega)
     have hS:∀ g,g<W1.heap.size->(g=x.bT\/(Value.slice TA5 T0.length tc5).ownBlock=some g)->g≠Bs/\¬ (0<z.n/\aJ A2=some g):=λg hl e=>by
      have hra:=HV5'.ra
      rcases e with e | e
      ·exact⟨λe2=>HR5.tb.ne_ (HBQ.alloc _) (by decide) (e.symm.trans e2),λ⟨hn,hg⟩=>(aG HR5.tb).ne (hra.ty hn g hg) (by decide) e.symm⟩
      ·exact⟨λe2=>(aM HR5.tw e).ne (aG (HBQ.alloc _)) (by decide) e2,λ⟨hn,hg⟩=>(aM HR5.tw e).ne (hra.ty hn g hg) (by decide) rfl⟩
     refine⟨?_,?_,?_,?_,?_⟩
     ·refine (((KeepsOthers.alloc W1 _).trans (KeepsOthers.of_grownBy G6 λj o hj ho=>?_)).trans (KeepsOthers.setCell _ _ _)).from _
      obtain⟨cs,_,hc⟩:=aM HR5.tw hj
      rw[hc] at ho
      injection ho with ho
      subst ho
      rfl
     ·have hT1:aC (λg=>g=x.bT\/(Value.slice TA5 T0.length tc5).ownBlock=some g) W1 (w6.setCell ⟨x.bT,0,none⟩ (.slice A6 (T0.length+1) c6)) :=
       aC.setCell ((((aC.refl _ W1).alloc _).grown G6 (λk e _=>.inr e))) (p:=⟨x.bT,0,none⟩) (λ_=>.inl rfl) _
      exact hT1.mono hS
     ·have:=HR5.todo cv _ HKD hvl O6 G6 F6
      rw[hap] at this
      exact⟨_,_,_,_,_,this⟩
     ·obtain⟨S,T,hS2⟩:=HR5.todoT (v':=.slice A6 (T0.length+1) c6) G6
      exact HV5'.fz T hS2
     ·obtain⟨S,T,hS2⟩:=HR5.todoT (v':=.slice A6 (T0.length+1) c6) G6
      exact (HBQ.alloc _).fz T hS2 (by decide)
    case done =>
     rintro D ys W1 hDD rfl ⟨hG1,hV1,_⟩ hK
     gi_wp2
     refine⟨by simp,.inl ⟨_,_,rfl,run_takeDeferred hK,?_⟩⟩
     refine⟨.tuple #[],results_none rfl _ _ _,rfl,?_⟩
     have h1:=hG1.grown (grownBy_putObj' W1 D (.deferred none)) (λr e=>by cases e;exact⟨Nat.le_trans HGA.size hDD,_,hK,rfl⟩)
     have h2:(nI (lR z.arcs) z.n).map (λy=>Mi x t y.2)=(jI (aR L).states x.X x.o t).reverse:=by
      have h3:=Zd z.arcs
      rw[HZL.out] at h3
      rw[show (λy:Int × El=>Mi x t y.2)=(Mi x t) ∘ (·.2) from rfl,<-qQg,h3,List.map_reverse]
      unfold jI
      rw[if_neg (by have:=HDEAD.out;unfold sV;rw[this];simp),HZP.out]
      rfl
     rw[h2,HF1.out] at h1
     exact h1
end
end Go.Proofs.YthockgmbooefpaaGreatDoor
