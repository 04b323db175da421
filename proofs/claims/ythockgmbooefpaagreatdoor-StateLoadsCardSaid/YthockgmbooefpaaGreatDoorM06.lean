/- What the law rests on, part 6. No condition but those that each theorem names. -/
import Derived.Test.YthockgmbooefpaaGreatDoorM05
import Derived.Test.YthockgmbooefpaaGreatDoorM04
import Derived.StillTailTactics
import Derived.Laws.Cover3
import Derived.BigQuiet
import Derived.Deep.QuietTactic
import Derived.Deep.RegionLaw
import Derived.Deep.AppendLies
import Derived.Laws.BitsLemmas
import Derived.Test.YthockgmbooefpaaGreatDoorM01
import Derived.Test.YthockgmbooefpaaGreatDoorM00
import Derived.Test.YthockgmbooefpaaGreatDoorM02
import Derived.Maps.Keyed
set_option linter.unusedSectionVars false
set_option linter.unusedSimpArgs false
set_option linter.unusedVariables false
set_option maxRecDepth 100000
set_option maxHeartbeats 16000000
namespace Go.Proofs.YthockgmbooefpaaGreatDoor
open IntWalk renaming i64_in → qXa
open List renaming getElem?_eq_some_iff → qQa, getD → qJa, getElem?_eq_getElem → qZb, getElem?_map → qXb, map_append → qJb, getElem?_append_left → qZc, length_map → qXc, map_map → qJc, map_nil → qQd, mem_of_getElem? → qZd, mem_singleton → qXd, all_eq_true → qJd, getD_eq_getElem?_getD → qQe, mem_cons_of_mem → qZe, mem_map_of_mem → qXe, append_assoc → qQf, getElem?_append_right → qZf, getElem_inj → qXf, getElem_of_mem → qJf, map_cons → qQg, mem_cons_self → qZg, replicate → qJg, findIdx?_eq_some_iff_getElem → qZi
open Nat renaming le_refl → qZa, not_lt_zero → qQb, lt_succ_iff_lt_or_eq → qQc, zero_le → qJe
variable{fin t:Bool}{base o out x:Int}{Bk:List Nat}{Lk ks:List Value}{Z:List ZV}{L:List aE}{K:List bP}{l:Lit}{b f i j k n:Nat}{kt mt:TypeId}{v:Value}{w w':World}{s:bP}
open Go.RowKit
section
variable[Inhabited eF]
def iS.p(z:iS):bP:=⟨z.fin,z.out,z.arcs.map λa=>(a.1.toNat,a.2.1,a.2.2.toNat)⟩
theorem z_p(s:bP):s.z.p=s:=by
 obtain⟨f,o,l⟩:=s
 simp only[bP.z,iS.p,qJc,bP.mk.injEq,true_and]
 have e:((λa:Int × Int × Int=>(a.1.toNat,a.2.1,a.2.2.toNat)) ∘ fN)=id:=by
  funext a
  obtain⟨a,b,c⟩:=a
  simp[fN]
 rw[e,List.map_id]
theorem Of{num:Nat}{z:iS}(h:pY num z):z.p.z=z/\dQ num z.p:=by
 obtain⟨s,rfl,hs⟩:=h
 rw[z_p]
 exact⟨rfl,hs⟩
def qK(zs:List iS)(base:Int):Prop:=∃ sts:List bP,zs=sts.map bP.z/\jZ sts base
def cB(Z:List ZV):List bP:=Z.map λz=>z.p.p
theorem iE(Z:List ZV):(cB Z).length=Z.length:=by simp[cB]
theorem pP(h:i<Z.length):(cB Z).getD i aS=(Z.getD i bG).p.p:=by
 simp[cB,qJa,h]
theorem oQ(h:qK (Z.map ZV.p) base):jZ (cB Z) base/\∀ i,i<Z.length->(Z.getD i bG).p=((cB Z).getD i aS).z:=by
 obtain⟨sts,h1,h2⟩:=h
 have e:cB Z=sts:=by
  have h3:(Z.map ZV.p).map iS.p=(sts.map bP.z).map iS.p:=by rw[h1]
  rw[qJc,qJc] at h3
  have e2:(iS.p ∘ bP.z)=id:=by funext s;exact z_p s
  rw[e2,List.map_id] at h3
  exact h3
 rw[e]
 refine⟨h2,λi hi=>?_⟩
 have h3:=congrArg (λl=>l[i]?) h1
 simp only[qXb] at h3
 have hl:sts.length=Z.length:=by have:=congrArg List.length h1;simpa using this.symm
 have hi2:i<sts.length:=by omega
 simpa [qJa,hi,hi2] using h3
theorem uL{sts:List bP}:∀ (i j:Nat),j<i->i<=n->(uF sts n i).getD j z3=cN (uF sts n j) (sts.getD j aS) (sts.getD j aS).arcs.length
 | 0,_,h,_=>absurd h (qQb _)
 | i+1,j,h,hn=>by
  simp only[uF]
  by_cases e:j=i
  ·subst e
   rw[qQe,List.getElem?_set_self (by rw[mG];omega)]
   rfl
  ·rw[qQe,List.getElem?_set_ne (by omega),<-qQe]
   exact uL i j (by omega) (by omega)
structure Rg(Z:List ZV)(n i:Nat):Prop where
 form:∀ j,j<i->pY j (Z.getD j bG).p
 sum:∀ j,j<i->wY (uF (cB Z) n j) ((cB Z).getD j aS)
 unl:∀ j k,j<i->k<i->(cB Z).getD j aS=(cB Z).getD k aS->j=k
theorem Rg.zero(Z:List ZV)(n:Nat):Rg Z n 0:=⟨λ_ h=>absurd h (qQb _),λ_ h=>absurd h (qQb _),λ_ _ h=>absurd h (qQb _)⟩
theorem Rg.formP(h:Rg Z n i)(hl:Z.length=n)(hi:i<=n)(hj:j<i):dQ j ((cB Z).getD j aS)/\((cB Z).getD j aS).z=(Z.getD j bG).p:=by
 rw[pP (by omega)]
 have:=Of (h.form j hj)
 exact⟨this.2,this.1⟩
theorem Rg.sumE(h:Rg Z n i)(hi:i<n)(hs:dQ i s):Ui (uF (cB Z) n i) n s:=by
 intro a ha
 have h1:=hs.arc a ha
 have h2:=h.sum a.2.2 h1.2.2
 rw[uL i a.2.2 h1.2.2 (by omega)]
 exact⟨by omega,⟨h1.1,h1.2.1⟩,h2 _⟩
theorem Rg.step(h:Rg Z n i)(hf:pY i (Z.getD i bG).p)(hs:wY (uF (cB Z) n i) ((cB Z).getD i aS))(hu:∀ k,k<i->(cB Z).getD k aS≠(cB Z).getD i aS):Rg Z n (i+1):=by
 refine⟨?_,?_,?_⟩
 ·intro j hj
  rcases Nat.lt_succ_iff_lt_or_eq.1 hj with hj | rfl
  ·exact h.form j hj
  ·exact hf
 ·intro j hj
  rcases Nat.lt_succ_iff_lt_or_eq.1 hj with hj | rfl
  ·exact h.sum j hj
  ·exact hs
 ·intro j k hj hk e
  rcases Nat.lt_succ_iff_lt_or_eq.1 hj with hj | rfl
  ·rcases Nat.lt_succ_iff_lt_or_eq.1 hk with hk | rfl
   ·exact h.unl j k hj hk e
   ·exact absurd e (hu j hj)
  ·rcases Nat.lt_succ_iff_lt_or_eq.1 hk with hk | rfl
   ·exact absurd e.symm (hu k hk)
   ·rfl
theorem Ed(sts:List bP):∀ (f i:Nat) (s s':List Bool) (n n':Nat),fC sts f i s n=(true,s',n')->∀ g,f<=g->fC sts g i s n=(true,s',n')
 | 0,_,_,_,_,_,h,_,_=>by simp[fC] at h
 | f+1,i,s,s',n,n',h,g,hg=>by
  obtain⟨g,rfl⟩:∃ k,g=k+1:=⟨g-1,by omega⟩
  simp only[fC] at h ⊢
  have ih:=Ed sts f
  have hv:∀ (l:List (Nat × Int × Nat)) (s s':List Bool) (n n':Nat),dJ (fC sts f) l s n=(true,s',n')->dJ (fC sts g) l s n=(true,s',n'):=by
   intro l
   induction l with
   | nil=>intro s s' n n' h;exact h
   | cons a l ih2 =>
    intro s s' n n' h
    simp only[dJ] at h ⊢
    by_cases hs:s.getD a.2.2 false=true
    ·rw[if_pos hs] at h ⊢
     exact ih2 _ _ _ _ h
    ·rw[if_neg hs] at h ⊢
     obtain⟨⟨ok,s1,n1⟩,hr⟩:∃ r,fC sts f a.2.2 s n=r:=⟨_,rfl⟩
     rw[hr] at h
     cases ok with
     | false=>simp at h
     | true =>
      rw[ih _ _ _ _ _ hr g (by omega)]
      exact ih2 _ _ _ _ h
  obtain⟨⟨ok,s1,n1⟩,hr⟩:∃ r,dJ (fC sts f) (sts.getD i aS).arcs s n=r:=⟨_,rfl⟩
  rw[hr] at h
  cases ok with
  | false=>simp at h
  | true =>
   rw[hv _ _ _ _ _ hr]
   exact h
theorem Ec(sts:List bP)(hlt:∀ i,i<sts.length->∀ a∈(sts.getD i aS).arcs,a.2.2<i):∀ (f i:Nat) (s:List Bool) (n:Nat),i<f->i<sts.length->∀ g,f<=g->fC sts g i s n=fC sts f i s n
 | 0,_,_,_,h,_,_,_=>absurd h (qQb _)
 | f+1,i,s,n,hi,hil,g,hg=>by
  obtain⟨g,rfl⟩:∃ k,g=k+1:=⟨g-1,by omega⟩
  simp only[fC]
  have hv:∀ (l:List (Nat × Int × Nat)),(∀ a∈l,a.2.2<i)->∀ (s:List Bool) (n:Nat),dJ (fC sts g) l s n=dJ (fC sts f) l s n:=by
   intro l
   induction l with
   | nil=>intro _ s n;rfl
   | cons a l ih2 =>
    intro hl s n
    simp only[dJ]
    have ha:=hl a qZg
    rw[Ec sts hlt f a.2.2 s n (by omega) (by omega) g (by omega)]
    by_cases hs:s.getD a.2.2 false=true
    ·rw[if_pos hs,if_pos hs]
     exact ih2 (λb hb=>hl b (qZe _ hb)) _ _
    ·rw[if_neg hs,if_neg hs]
     obtain⟨⟨ok,s1,n1⟩,hr⟩:∃ r,fC sts f a.2.2 s n=r:=⟨_,rfl⟩
     rw[hr]
     cases ok with
     | false=>rfl
     | true=>exact ih2 (λb hb=>hl b (qZe _ hb)) _ _
  rw[hv _ (hlt i hil)]
theorem Rg.right(h:Rg Z n n)(hl:Z.length=n)(hpos:0<n)(hfew:n<=98305)(hb1:1<=base)(hb2:base<=1048576)(hroot:(Z.getD (n-1) bG).fin=false) :
  (base+((uF (cB Z) n n).getD (n-1) z3).2.2<=1048576/\∃ s',fC (cB Z) n (n-1) (qJg n false) 0=(true,s',n))↔qK (Z.map ZV.p) base:=by
 have hsl:(cB Z).length=n:=by rw[iE,hl]
 constructor
 ·rintro⟨htop,s',hvis⟩
  refine⟨cB Z,?_,.inr ⟨by omega,by omega,hb1,hb2,?_,?_,?_,?_,?_,?_,⟨n,s',?_⟩⟩⟩
  ·apply List.ext_getElem
   ·simp[iE]
   ·intro i h1 h2
    simp only[qXc] at h1 h2
    have:=(h.formP hl (qZa _) (j:=i) (by omega)).2
    simp only[List.getElem_map]
    have e1:(cB Z).getD i aS=(cB Z)[i]:=by simp[qJa,h2]
    have e2:Z.getD i bG=Z[i]:=by simp[qJa,h1]
    rw[e1,e2] at this
    exact this.symm
  ·rw[hsl,pP (by omega)]
   exact hroot
  ·intro i hi
   exact (h.formP hl (qZa _) (by omega)).1
  ·intro i hi
   rw[hsl]
   exact h.sum i (by omega)
  ·intro i hi a ha
   rw[hsl]
   have h1:=(h.formP hl (qZa _) (j:=i) (by omega)).1
   have hc:=h1.arc a ha
   rw[uL i a.2.2 hc.2.2 (by omega)]
   exact h.sum a.2.2 (by omega) _
  ·rw[hsl]
   exact htop
  ·intro i j hi hj e
   exact h.unl i j (by omega) (by omega) e
  ·rw[hsl]
   exact hvis
 ·intro hr
  have hr2:=(oQ hr).1
  rcases hr2 with⟨e,_⟩ | hr2
  ·rw[e] at hsl
   simp at hsl
   omega
  ·have htop:=hr2.top
   obtain⟨F,s',hvis⟩:=hr2.vis
   rw[hsl] at htop hvis
   refine⟨htop,s',?_⟩
   have h1:=Ed _ _ _ _ _ _ _ hvis (max F n) (Nat.le_max_left _ _)
   have h2:=Ec (cB Z) (λi hi a ha=>by
    have h1:=(h.formP hl (qZa _) (j:=i) (by omega)).1
    exact (h1.arc a ha).2.2) n (n-1) (qJg n false) 0 (by omega) (by omega) (max F n) (Nat.le_max_right _ _)
   rw[<-h2,h1]
theorem Xf(hl:Z.length=n)(hi:i<n)(h:¬ pY i (Z.getD i bG).p):¬ qK (Z.map ZV.p) base:=λhr=>by
 obtain⟨h1,h2⟩:=oQ hr
 rcases h1 with⟨e,_⟩ | h1
 ·have:=iE Z
  rw[e] at this
  simp at this
  omega
 ·exact h ⟨_,(h2 i (by omega)).symm,h1.form i (by rw[iE];omega)⟩
theorem aBk(hl:Z.length=n)(hi:i<n)(h:¬ wY (uF (cB Z) n i) ((cB Z).getD i aS)):¬ qK (Z.map ZV.p) base:=λhr=>by
 obtain⟨h1,h2⟩:=oQ hr
 have hsl:(cB Z).length=n:=by rw[iE,hl]
 rcases h1 with⟨e,_⟩ | h1
 ·rw[e] at hsl
  simp at hsl
  omega
 ·have:=h1.sumB i (by omega)
  rw[hsl] at this
  exact h this
theorem aBl(hl:Z.length=n)(hi:i<n)(hk:k<i)(h:(cB Z).getD i aS=(cB Z).getD k aS):¬ qK (Z.map ZV.p) base:=λhr=>by
 obtain⟨h1,h2⟩:=oQ hr
 have hsl:(cB Z).length=n:=by rw[iE,hl]
 rcases h1 with⟨e,_⟩ | h1
 ·rw[e] at hsl
  simp at hsl
  omega
 ·have:=h1.unalike i k (by omega) (by omega) h
  omega
theorem Xg(hl:Z.length=n)(hpos:0<n)(h:qK (Z.map ZV.p) base):n<=98305/\1<=base/\base<=1048576/\(Z.getD (n-1) bG).fin=false:=by
 obtain⟨h1,h2⟩:=oQ h
 have hsl:(cB Z).length=n:=by rw[iE,hl]
 rcases h1 with⟨e,_⟩ | h1
 ·rw[e] at hsl
  simp at hsl
  omega
 ·refine⟨by have:=h1.few;omega,h1.base1,h1.base2,?_⟩
  have:=h1.root
  rw[hsl,pP (by omega)] at this
  exact this
theorem aBj:qK [] base↔base=0:=by
 constructor
 ·rintro⟨sts,h1,h2⟩
  have e:sts=[]:=by simpa using h1.symm
  rw[e] at h2
  rcases h2 with⟨_,h⟩ | h
  ·exact h
  ·have:=h.pos
   simp at this
 ·intro h
  exact⟨[],rfl,.inl ⟨rfl,h⟩⟩
end
section
open Go.RowKit Go.WideElems Go.ChangeShapes Go.WideShapes Go.MapKept Go.ChangeMaps
variable[Inhabited eF]
theorem jI{P:Program}{ops:Array Oper}{C:World->Prop}{Q:Act->Prop}{o:Oper}{l:List Oper}{a:Act}:wpQuiet P ops C Q (o :: l) a=(if Region.wanted o (yielded ops a.tmps) then o.quiet P a C (wpQuiet P ops C Q l) else wpQuiet P ops C Q l (a.put o.dst undef)):=rfl
theorem Rg.all(h:Rg Z n n)(hl:Z.length=n):Z.map ZV.p=(cB Z).map bP.z:=by
 apply List.ext_getElem
 ·simp[iE]
 ·intro i h1 h2
  simp only[qXc] at h1 h2
  have:=(h.formP hl (qZa _) (j:=i) (by omega)).2
  simp only[List.getElem_map]
  have e1:(cB Z).getD i aS=(cB Z)[i]:=by simp[qJa,h2]
  have e2:Z.getD i bG=Z[i]:=by simp[qJa,h1]
  rw[e1,e2] at this
  exact this.symm
theorem yK(w:World)(hL:dN w)(base:Int)(A:Option Addr)(n c:Nat)(Z:List ZV)(hst:iT w A n Z)(hnm:n<=maxLen)(hbs:bs<=w.heap.size) :
  Calls Tryz.prog 85 #[.agg #[.int .i64 base,.slice A n c]] w λe w'=>jF (qK (Z.map ZV.p) base) e/\aC (λ_=>False) w w':=by
 obtain⟨i0,hi,hz0,hz1,hz2⟩:=aO Vu
 unfold maxLen at hnm
 have HL:=aB hL
 have hzl:=hst.len
 by_cases hn0:n=0
 ·subst hn0
  have hz:Z=[]:=List.eq_nil_of_length_eq_zero hzl
  subst hz
  have HI:Hid ((base == 0)=true↔qK (([]:List ZV).map ZV.p) base):=aB (by rw[qQd,aBj];simp)
  clear hst hL hzl
  go_in
  go_wp2_with fail
  go_step3
  go_wp2_with fail
  rw[Exit.noGoto_ret]
  go_ret
  exact⟨.mk _ HI,(aC.refl _ _).alloc _⟩
 have hpos:0<n:=by omega
 have z1:IntKind.i64.wrap ((n:Int)-1)=(n:Int)-1:=qXa _ (by omega)
 obtain⟨g,o,hA,hg,c0,c1,c2⟩:=iI hst.rd.rd hst.len (n-1) (by omega)
 subst hA
 have y1:(0:Int)<=(n:Int)-1:=by omega
 have y2:(n:Int)-1<(n:Int):=by omega
 have y3:((n:Int)-1).toNat=n-1:=by omega
 have y4:((n:Int) == 0)=false:=by simp;omega
 have y5:¬ (n:Int)=0:=by omega
 have HLEN:=aB hzl
 have HST:=aB hst
 have hhead:=λh=>Xg (base:=base) hzl hpos h
 obtain⟨Q,hQ⟩:∃ Q:Prop,qK (Z.map ZV.p) base=Q:=⟨_,rfl⟩
 rw[hQ] at hhead ⊢
 have HQ:=aB hQ
 clear hst hL hzl hQ
 have hno:(base<1\/(1<=base/\1048576<base)\/(1<=base/\base<=1048576/\(98305:Int)<=(n:Int)-1)\/(1<=base/\base<=1048576/\¬ (98305:Int)<=(n:Int)-1/\(Z.getD (n-1) bG).fin=true))\/(1<=base/\base<=1048576/\¬ (98305:Int)<=(n:Int)-1/\(Z.getD (n-1) bG).fin=false):=by
  cases (Z.getD (n-1) bG).fin with
  | true=>simp;omega
  | false=>simp;omega
 obtain⟨fl,hfl⟩:∃ fl,(Z.getD (n-1) bG).fin=fl:=⟨_,rfl⟩
 have HFL:=aB hfl
 rw[hfl] at c0 hno hhead
 clear hfl c1 c2 hn0
 rcases hno with hno | ⟨hb1,hb2,hfewI,rfl⟩
 ·have hq:¬ Q:=λh=>by
   have h1:=hhead h
   rcases hno with h2 | h2 | h2 | h2
   ·omega
   ·omega
   ·omega
   ·rw[h1.2.2.2] at h2
    simp at h2
  have HQN:=aB hq
  clear hq hhead
  go_in
  rcases hno with h2 | ⟨h2,h3⟩ | ⟨h2,h3,h4⟩ | ⟨h2,h3,h4,rfl⟩
  ·go_wp2_with fail
   go_step3
   go_wp2_with fail
   rw[Exit.noGoto_ret]
   go_ret
   exact⟨.mk false ⟨(λh=>by cases h),λh=>absurd h HQN⟩,(aC.refl _ _).alloc _⟩
  ·have h5:¬ base<1:=by omega
   go_wp2_with fail
   go_step3
   go_wp2_with fail
   rw[Exit.noGoto_ret]
   go_ret
   exact⟨.mk false ⟨(λh=>by cases h),λh=>absurd h HQN⟩,(aC.refl _ _).alloc _⟩
  ·have h5:¬ base<1:=by omega
   have h6:¬ 1048576<base:=by omega
   go_wp2_with fail
   go_step3
   go_wp2_with fail
   rw[Exit.noGoto_ret]
   go_ret
   exact⟨.mk false ⟨(λh=>by cases h),λh=>absurd h HQN⟩,(aC.refl _ _).alloc _⟩
  ·have h5:¬ base<1:=by omega
   have h6:¬ 1048576<base:=by omega
   go_wp2_with fail
   go_step3
   go_wp2_with fail
   rw[Exit.noGoto_ret]
   go_ret
   exact⟨.mk false ⟨(λh=>by cases h),λh=>absurd h HQN⟩,(aC.refl _ _).alloc _⟩
 clear hhead
 have HFEW:=aB (show n<=98305 by omega)
 have hq1:¬ base<1:=by omega
 have hq2:¬ 1048576<base:=by omega
 go_in
 go_wp2_with fail
 go_step3
 go_wp2_with (refine wpList_make_full _ rfl (.tmp 45) (.tmp 45) 240 rfl 0 243 i0 _ 3 Tryz.underlying240 hi hz0 hz1 .i64 .i64 (n:Int) (n:Int) n rfl rfl rfl rfl ?b2 ?b3 (qJe _) ?_)
 case b2=>rw[hz2];omega
 case b3=>unfold maxLen;omega
 intro w1 O1 G1
 rw[Rm] at O1
 obtain⟨M,hM⟩:=eX w.heap.size
 obtain⟨u,hu⟩:=eX (w.heap.size+1)
 obtain⟨b,hb⟩:=eX w1.heap.size
 obtain⟨w2,hw2⟩:=eX (w1.alloc (.map #[] 0))
 have hmm:(Instr.makeMap 241 none).run Tryz.prog w1=.ok (.map (some b)) w2:=by rw[hw2,hb];exact run_makeMap _ _
 have hT1:aC (λ_=>False) w w1:=((aC.refl _ _).alloc _).grown G1 (λk h=>by cases h)
 have hT12:aC (λ_=>False) w1 w2:=by rw[hw2];exact (aC.refl _ _).alloc _
 have hbM:aL w2 M 89 #[.int .i64 base,.slice (some ⟨g,o,none⟩) n c]:=by
  rw[hM]
  exact ((aL.new _ _ _).grown G1 (by simp)).touch hT12 (λf=>f)
 rw[<-hu] at O1
 have hO2:=aD O1 hT12 (λ_ _ f=>f)
 have hB2:w2.heap.size=w1.heap.size+1:=by rw[hw2];simp
 have hG2:Gf w2 w2.heap.size b 0 (λk=>Eu ((cB Z).getD k aS)) #[] 0:=by
  refine⟨⟨?_,MapKept.stamped_empty _,by simp,by simp,by simp,by simp⟩,(λk hk=>absurd hk (qQb _)),by simp,by simp⟩
  rw[hw2,hb]
  exact heap_alloc_new _ _
 have hT2:=hT1.then hT12
 have hst2:=HST.quiet hT2
 have hMu:¬ M=u:=by omega
 have hMb:¬ M=b:=by have:=(aH O1 (g:=u) rfl).lt;omega
 have hub:¬ u=b:=by have:=aH O1 (g:=u) rfl;have:=this.lt;omega
 rw[<-hu,<-hM]
 have HBM:=aB hbM
 have HO2:=aB hO2
 have HG2:=aB hG2
 have HT2:=aB hT2
 have HS2:=aB hst2
 have HU:=aB (show w.heap.size<=u by omega)
 have HB:=aB (show w.heap.size<=b by have:=hT1.size;omega)
 have HMU:=aB hMu
 have HMB:=aB hMb
 have HUB:=aB hub
 have HM:=aB hM
 obtain⟨q1,q2,q3⟩:=hbM.facts
 clear hb hw2 hT1 hT12 hbM O1 hO2 hB2 hG2 hT2 hst2 hMu hMb hub G1 hu hM
 go_wp2_with fail
 go_step3
 go_wp2_with fail
 go_loopw [5,51] (λmv iv wr=>∃ (i:Nat) (es:Array MapEntry) (clock:Nat),mv=.map (some b)/\iv=.int .i64 i/\i<=n/\Hid (Gf wr w2.heap.size b i (λk=>Eu ((cB Z).getD k aS)) es clock)/\Hid (Rg Z n i)/\Hid (wr.ownsRow 0 243 3 (.slice (some ⟨u,0,none⟩) n n) n (gW (uF (cB Z) n i)))/\Hid (aC (λx=>x=u\/x=b) w2 wr)) (λ_ iv _=>n-(intOf iv).toNat)
 case atStart=>exact⟨0,#[],0,rfl,rfl,by omega,HG2,aB (Rg.zero _ _),HO2,aB (aC.refl _ _)⟩
 case round =>
  obtain⟨i,es,clock,rfl,rfl,hin,HG,HRG,HO,HT⟩:=hrel
  have hnoS:∀ t,t ≠ 243 -> ∀ x,OT w2 x t->¬ (x=u\/x=b):=by
   intro t ht x hx hor
   have h1:=HU.out
   have h2:=HB.out
   rcases hor with e | e
   ·exact hx.ne (aH HO2 (g:=u) rfl) ht (by omega) e
   ·rcases hx with hx | hx
    ·omega
    ·exact lY hx HG2.g.blk e
  have hMr:=HBM.touch HT (hnoS _ (by decide) _ (.inr (aF HBM)))
  have hSr:iT wr (some ⟨g,o,none⟩) n Z:=⟨HS2.rd.touch HT (hnoS _ (by decide)),HS2.len,λz hz=>(HS2.el z hz).touch HT (hnoS _ (by decide))⟩
  have HMr:=aB hMr
  have HSr:=aB hSr
  clear hnoS hMr hSr
  by_cases hi2:i<n
  ·have x1:(i:Int)<(n:Int):=by omega
   have x2:(0:Int)<=(i:Int):=by omega
   have x3:IntKind.i64.wrap ((i:Int)+1)=(i:Int)+1:=qXa _ (by omega)
   obtain⟨g',o',hA,hgl,d0,d1,d2⟩:=iI HSr.rd.rd HSr.len i hi2
   obtain⟨rfl,rfl⟩:g'=g/\o'=o:=by injection hA with hA;injection hA with e1 e2;exact⟨e1.symm,e2.symm⟩
   have hzm:=aZ Z bG i (by rw[HS2.len];exact hi2)
   have hzo:=HSr.el _ hzm
   have hfz:pY i (Z.getD i bG).p->((Z.getD i bG).sv ((cB Z).getD i aS)).Od wr/\((Z.getD i bG).sv ((cB Z).getD i aS)).p=(cB Z).getD i aS/\dQ i ((cB Z).getD i aS):=λh=>by
    rw[pP (by rw[HS2.len];exact hi2)]
    have h1:=Of h
    have h2:=ZV.sv_ok hzo h1.1
    exact⟨h2.1,h2.2.1,h1.2⟩
   have hfn:¬ pY i (Z.getD i bG).p->¬ Q:=λh=>by rw[<-HQ.out];exact Xf HLEN hi2 h
   have hstep:=λhf hs hu=>HRG.step (i:=i) hf hs hu
   obtain⟨zz,hz⟩:∃ z,Z.getD i bG=z:=⟨_,rfl⟩
   obtain⟨sp,hsp⟩:∃ s,(cB Z).getD i aS=s:=⟨_,rfl⟩
   rw[hz,hsp] at hfz hstep
   rw[hz] at hfn d0 d1 d2 hzo
   have HZ:=aB hz
   have HSP:=aB hsp
   obtain⟨fin,out,zA,zn,zc,zarcs⟩:=zz
   simp only at d0 d1 d2
   obtain⟨wa,hwa⟩:=eX (wr.alloc (.cells #[.bool fin,.int .i64 out,.slice zA zn zc] 170))
   obtain⟨s,hs⟩:=eX wr.heap.size
   have hTa:aC (λ_=>False) wr wa:=by rw[hwa];exact (aC.refl _ _).alloc _
   have hbs:aL wa s 170 #[.bool fin,.int .i64 out,.slice zA zn zc]:=by rw[hwa,hs];exact aL.new _ _ _
   have hTw:aC (λ_=>False) w wr:=HT2.trans HT λx hx hor=>by
    have h1:=HU.out
    have h2:=HB.out
    omega
   have hfc:=Hm wa (dN.touch HL (hTw.then hTa)) ⟨fin,out,zA,zn,zc,zarcs⟩ (hzo.quiet hTa) i
   simp only at hfc
   have HFC:=aB hfc
   have HWA:=aB hwa
   have HSD:=aB hs
   have HTA:=aB hTa
   have HBS:=aB hbs
   have HTW:=aB hTw
   have HFZ:=aB hfz
   have HFN:=aB hfn
   have HSTEP:=aB hstep
   obtain⟨m0,m1,m2⟩:=HMr.facts
   clear hz hzm hwa hs hTa hbs hfc hzo hTw hfz hfn hstep hsp
   go_wp2_with fail
   rw[<-HWA.out,<-HSD.out]
   refine HFC.mono ?_
   rintro e w3 ⟨⟨fv,rfl,hfv⟩,T3⟩
   have hbs3:=HBS.touch T3 (λf=>f)
   obtain⟨s0,s1,s2⟩:=hbs3.facts
   have HBS3:=aB hbs3
   have HT3:=aB T3
   cases fv with
   | false =>
    have hq:¬ Q:=HFN.out (λh=>by have:=hfv.2 h;cases this)
    have HQN:=aB hq
    have HTF:=aB ((HTW.then HTA).then T3)
    clear T3 hbs3 hfv hq HFC HFZ HFN HSTEP
    go_wp2_with fail
    rw[Exit.noGoto_ret]
    go_ret
    exact⟨.mk false ⟨(λh=>by cases h),λh=>absurd h HQN⟩,HTF⟩
   | true =>
   have hform:=hfv.1 rfl
   obtain⟨hzo,hzp,hfm⟩:=HFZ.out hform
   simp only[ZV.sv] at hzo hzp
   obtain⟨z,hzz⟩:∃ z:SV,z=⟨fin,out,zA,zn,zc,sp.arcs⟩:=⟨_,rfl⟩
   rw[<-hzz] at hzo hzp
   have hz1:z.fin=fin/\z.out=out/\z.A=zA/\z.n=zn/\z.c=zc:=by rw[hzz];exact⟨rfl,rfl,rfl,rfl,rfl⟩
   obtain⟨rfl,rfl,rfl,rfl,rfl⟩:=hz1
   have hsE:=HRG.sumE hi2 hfm
   have hcs:=Vo w3 z (hzo.touch (HTA.then T3) (λ_ _ f=>f)) (uF (cB Z) n i) (some ⟨u,0,none⟩) n n (fM.of_own (aD HO (HTA.then T3) (λ_ _ f=>f))) (mG _ _ _) (by have:=HFEW.out;omega) (by have h1:=hfm.out0;have h2:=hfm.out1;rw[<-hzp] at h1 h2;exact⟨h1,h2⟩) (by rw[hzp];exact hsE)
   have hns:¬ wY (uF (cB Z) n i) sp->¬ Q:=λh=>by rw[<-HQ.out];exact aBk HLEN hi2 (by rw[HSP.out];exact h)
   have HZO:=aB hzo
   have HZP:=aB hzp
   have HFM:=aB hfm
   have HFORM:=aB hform
   have HCS3:=aB hcs
   have HNS:=aB hns
   clear T3 hbs3 HFC HFZ HFN hfv hform hzo hzp hfm hsE hcs hns hzz
   go_wp2_with fail
   refine HCS3.mono ?_
   rintro e w4 ⟨hsum,T4⟩
   clear s0 s1 s2
   have hbs4:=HBS3.touch T4 (λf=>f)
   obtain⟨s0,s1,s2⟩:=hbs4.facts
   have hT4:=(HTA.then HT3).then T4
   have hO4:=aD HO hT4 (λ_ _ f=>f)
   obtain⟨ug,uo,hA,hug,e0,e1,e2⟩:=Fv (fM.of_own hO4).rd (mG _ _ _) i hi2
   injection hA with hA
   injection hA with hA1 hA2
   subst hA1 hA2
   have f0:=qR hO4 (i*3)
   have f1:=qR hO4 (i*3+1)
   have f2:=qR hO4 (i*3+2)
   simp only[Nat.zero_add] at e0 e1 e2
   have HBS4:=aB hbs4
   have HT4:=aB hT4
   have HO4:=aB hO4
   have hsu:¬ s=u:=by
    have h1:=(aH HO (g:=u) rfl).lt
    have h2:=HSD.out
    omega
   have hus:¬ u=s:=λe=>hsu e.symm
   clear hbs4 hT4 hO4 T4 HCS3
   rw[HZP.out] at hsum
   rcases hsum with⟨hsb,rfl⟩ | ⟨hsb,q1',q2',q3',rfl⟩
   rotate_left
   ·have hq:=HNS.out hsb
    have HQN:=aB hq
    have HTF:=aB (HTW.then HT4)
    clear hsb hq HNS
    go_wp2_with fail
    rw[Exit.noGoto_ret]
    go_ret
    refine⟨.mk false ⟨(λh=>by cases h),λh=>absurd h HQN⟩,?_⟩
    iterate 3 refine aC.setCell ?_ (λh=>by have:=HU.out;simp only at h;omega) _
    exact HTF
   have HSB:=aB hsb
   clear hsb
   go_wp2_with fail
   obtain⟨x,hx⟩:∃ x,cN (uF (cB Z) n i) sp sp.arcs.length=x:=⟨_,rfl⟩
   rw[hx]
   obtain⟨w5,hw5⟩:=eX (((w4.setCell ⟨u,i*3,none⟩ (.int .i64 x.1)).setCell ⟨u,i*3+1,none⟩ (.int .i64 x.2.1)).setCell ⟨u,i*3+2,none⟩ (.int .i64 x.2.2))
   have hT45:aC (λy=>y=u) w4 w5:=by
    rw[hw5]
    exact (((aC.refl (λy=>y=u) w4).setCell (p:=⟨u,i*3,none⟩) (λ_=>rfl) _).setCell (p:=⟨u,i*3+1,none⟩) (λ_=>rfl) _).setCell (p:=⟨u,i*3+2,none⟩) (λ_=>rfl) _
   have hO5:w5.ownsRow 0 243 3 (.slice (some ⟨u,0,none⟩) n n) n (gW (uF (cB Z) n (i+1))):=by
    have h:=kC (kC (kC HO4 (i*3) (.int .i64 x.1)) (i*3+1) (.int .i64 x.2.1)) (i*3+2) (.int .i64 x.2.2)
    rw[Ng _ _ _ (by rw[mG];exact hi2),<-hw5] at h
    simp only[uF]
    rw[HSP.out,hx]
    exact h
   rw[<-hw5]
   have hnu:∀ t,t ≠ 243 -> ∀ y,OT w4 y t->¬ y=u:=λt ht y hy e=>hy.ne (aH HO4 (g:=u) rfl) ht (by have:=HU.out;omega) e
   have hzo4:=HZO.touch HT4 (λ_ _ f=>f)
   have hzo5:=hzo4.touch hT45 (hnu _ (by decide))
   have hbs5:=HBS4.touch hT45 hsu
   have hG5:=(HG.quiet HT4).far hT45 (λe=>HUB.out e.symm) (λy hy=>hnu _ (by decide) y (.inr hy))
   have hkc:=Vm w5 z hzo5 (by have h1:=HFM.out0;have h2:=HFM.out1;rw[<-HZP.out] at h1 h2;exact⟨h1,h2⟩)
   rw[HZP.out] at hkc
   have hki:=aAm sp.arcs (0,0) (by unfold mJ;simp)
   have hM5:=(HMr.touch HT4 (λf=>f)).touch hT45 HMU
   have hSt4:=HSr.quiet HT4
   have hSt5:iT w5 (some ⟨g',o',none⟩) n Z:=⟨hSt4.rd.touch hT45 (hnu _ (by decide)),hSt4.len,λz hz=>(hSt4.el z hz).touch hT45 (hnu _ (by decide))⟩
   have HO5:=aB hO5
   have HT45:=aB hT45
   have HBS5:=aB hbs5
   have HG5:=aB hG5
   have HKC:=aB hkc
   have HM5:=aB hM5
   have HS5:=aB hSt5
   have HT5:=aB ((HT4.up (λy=>y=u)).then hT45)
   have HSU:=aB hsu
   clear hx hw5 hT45 hO5 hnu hzo4 hzo5 hbs5 hG5 hkc hM5 hSt4 hSt5 s0 s1 s2 e0 e1 e2 f0 f1 f2 hsu hus d0 d1 d2 m0 m1 m2
   refine HKC.mono ?_
   rintro e w6 ⟨rfl,T6⟩
   have hsl:sp.arcs.length<=maxLen:=by
    have h1:=HZO.len
    have h2:=Nat.le_trans HZO.le HZO.mx
    have h3:z.arcs=sp.arcs:=by rw[<-HZP.out];rfl
    rw[<-h3,h1]
    exact h2
   obtain⟨key,hkey⟩:∃ key,Eu sp=key:=⟨_,rfl⟩
   have hkeyp:=hkey
   unfold Eu at hkey
   obtain⟨ka,hka⟩:∃ x,sp.out=x:=⟨_,rfl⟩
   obtain⟨kb,hkb⟩:∃ x:Int,(sp.arcs.length:Int)=x:=⟨_,rfl⟩
   obtain⟨kc,hkc⟩:∃ x,(sp.arcs.foldl Zb (0,0)).1=x:=⟨_,rfl⟩
   obtain⟨kd,hkd⟩:∃ x,(sp.arcs.foldl Zb (0,0)).2=x:=⟨_,rfl⟩
   have hI:mJ ka/\mJ kb/\mJ kc/\mJ kd:=by
    rw[hkc,hkd] at hki
    refine⟨?_,?_,hki.1,hki.2⟩
    ·have h1:=HFM.out0
     have h2:=HFM.out1
     unfold mJ
     omega
    ·unfold maxLen at hsl
     unfold mJ
     omega
   rw[hkeyp]
   rw[hka,hkb,hkc,hkd] at hkey
   subst hkey
   have HKEY:=aB hkeyp
   clear hka hkb hkc hkd hki hsl hkeyp
   obtain⟨w7,hw7⟩:=eX (w6.alloc (.cells #[.int .i64 ka,.int .i64 kb,.int .i64 kc,.int .i64 kd] 246))
   obtain⟨K,hK⟩:=eX w6.heap.size
   have hbK:aL w7 K 246 #[.int .i64 ka,.int .i64 kb,.int .i64 kc,.int .i64 kd]:=by rw[hw7,hK];exact aL.new _ _ _
   have hT7:aC (λ_=>False) w5 w7:=by rw[hw7];exact T6.alloc _
   obtain⟨kl,hkl⟩:=aAd hI.1 hI.2.1 hI.2.2.1 hI.2.2.2
   have hG7:=HG5.quiet hT7
   obtain⟨v,xs,hlk,hrow,hfull⟩:=hG7.lookup hkl
   have HFULL:=aB hfull
   clear hfull
   obtain⟨vA,vc,hv,_,_⟩:=aX hrow.1
   subst hv
   have HBK:=aB hbK
   have HT7:=aB hT7
   have HKL:=aB hkl
   have HG7:=aB hG7
   have HROW:=aB hrow
   have HW7:=aB hw7
   have HK:=aB hK
   rw[hw7] at hlk
   clear hbK hT7 hkl hG7 hrow hw7 hK T6 hI HKC
   go_wp2_with fail
   obtain⟨wo,hwo⟩:=eX wr
   subst hwo
   obtain⟨q,hq⟩:∃ q,xs.length=q:=⟨_,rfl⟩
   rw[hq]
   have HQ2:=aB hq
   have hqi:q<=i:=by rw[<-hq];exact HROW.2.1
   clear hq q1 q2 q3 x3 hlk
   go_loopw [5,77] (λmv iv wr=>∃ (j:Nat),mv=.map (some b)/\iv=.int .i64 j/\j<=q/\Hid (∀ k,k<j->(cB Z).getD (xs.getD k 0) aS≠sp)/\Hid (aC (λ_=>False) w7 wr)) (λ_ iv _=>q-(intOf iv).toNat)
   case atStart =>
    rw[<-HW7.out]
    exact⟨0,rfl,rfl,by omega,aB (λk hk=>absurd hk (qQb _)),aB (aC.refl _ _)⟩
   case round =>
    obtain⟨j,rfl,rfl,hjq,HNE,HTj⟩:=hrel
    by_cases hj2:j<q
    ·have j1:(j:Int)<(q:Int):=by omega
     have j2:(0:Int)<=(j:Int):=by omega
     have j3:IntKind.i64.wrap ((j:Int)+1)=(j:Int)+1:=qXa _ (by omega)
     have hrow:=HROW.touch HTj (λ_ _ f=>f)
     obtain⟨k,hk⟩:∃ k,xs.getD j 0=k:=⟨_,rfl⟩
     have hki:k<i:=by
      rw[<-hk]
      exact hrow.2.2 _ (aZ xs 0 j (by rw[HQ2.out];exact hj2))
     obtain⟨vb,vo,hvA,hvb,hvc⟩:=(fM.of_own hrow.1).rd.2 (by rw[HQ2.out];omega)
     subst hvA
     have v0:=hvc j (oN k) (by
      rw[qXb,kN? (d:=0) (by rw[HQ2.out];exact hj2),hk]
      rfl)
     simp only[oN] at v0
     have hT7j:=HT7.then HTj
     have hS:=HS5.quiet hT7j
     obtain⟨gk,ok,hA,_,d0,d1,d2⟩:=iI hS.rd.rd hS.len k (by omega)
     obtain⟨rfl,rfl⟩:gk=g'/\ok=o':=by injection hA with hA;injection hA with e1 e2;exact⟨e1.symm,e2.symm⟩
     have hym:=aZ Z bG k (by rw[HS2.len];omega)
     have hyo:=hS.el _ hym
     have hyf:=HRG.formP HLEN (by omega) hki
     have hyv:=ZV.sv_ok hyo hyf.2
     have hzo:z.Od w5:=(HZO.touch HT4 (λ_ _ f=>f)).touch (S:=λy=>y=u) (HT45) (λy hy e=>hy.ne (aH HO4 (g:=u) rfl) (by decide) (by have:=HU.out;omega) e)
     have hnq:(cB Z).getD k aS=sp->¬ Q:=λh=>by rw[<-HQ.out];exact aBl HLEN hi2 hki (by rw[HSP.out,h])
     obtain⟨yy,hy⟩:∃ y,Z.getD k bG=y:=⟨_,rfl⟩
     obtain⟨yp,hyp⟩:∃ y,(cB Z).getD k aS=y:=⟨_,rfl⟩
     rw[hy,hyp] at hyv
     rw[hyp] at hnq
     rw[hy] at d0 d1 d2
     obtain⟨yfin,yout,yA,yn,yc,yarcs⟩:=yy
     simp only[ZV.sv] at d0 d1 d2 hyv
     obtain⟨y,hyz⟩:∃ y:SV,y=⟨yfin,yout,yA,yn,yc,yp.arcs⟩:=⟨_,rfl⟩
     rw[<-hyz] at hyv
     have hz1:y.fin=yfin/\y.out=yout/\y.A=yA/\y.n=yn/\y.c=yc:=by rw[hyz];exact⟨rfl,rfl,rfl,rfl,rfl⟩
     obtain⟨rfl,rfl,rfl,rfl,rfl⟩:=hz1
     have HYP:=aB (show (cB Z).getD (xs.getD j 0) aS=yp by rw[hk];exact hyp)
     have HNQ:=aB hnq
     obtain⟨m0,m1,m2⟩:=(HM5.touch hT7j (λf=>f)).facts
     obtain⟨s0,s1,s2⟩:=(HBS5.touch hT7j (λf=>f)).facts
     have n1:(k:Int)<(n:Int):=by omega
     have n2:(0:Int)<=(k:Int):=by omega
     have HAL:=aB (λwx (T:aC (λ_=>False) wr wx)=>Mb wx z y ((hzo.touch hT7j (λ_ _ f=>f)).touch T (λ_ _ f=>f)) (hyv.1.touch T (λ_ _ f=>f)))
     have hpe:(z.p=y.p)=(sp=yp):=by rw[HZP.out,hyv.2.1]
     rw[hpe] at HAL
     have HTj7:=aB hT7j
     clear hrow hk hvc hT7j hS hA hym hyo hzo hy hyf hyv hnq hyp hyz hpe hki
     go_wp2_with fail
     go_still_tail 6,(by kernel_rfl)
     change wpList _ _ _ _ _ wr.drew
     have HD:=aB (show aC (λ_=>False) wr wr.drew from (aC.refl _ _).drew)
     generalize wr.drew=wd at HD ⊢
     go_wp2_with fail
     refine (HAL wd HD).mono ?_
     rintro e w9 ⟨⟨av,rfl,hav⟩,T9⟩
     have HT9:=aB T9
     cases av with
     | false =>
      have hne:yp≠sp:=λe=>by have:=hav.2 e.symm;cases this
      have HNEY:=aB hne
      clear hne hav T9 HNQ
      go_wp2_with fail
      go_roundw
      ·refine⟨j+1,rfl,by simp,by omega,aB ?_,aB (HTj.then (HD.then HT9))⟩
       intro k' hk'
       rcases Nat.lt_succ_iff_lt_or_eq.1 hk' with h | rfl
       ·exact HNE k' h
       ·rw[HYP.out]
        exact HNEY
      ·simp only[intOf];omega
     | true =>
      have hq:¬ Q:=HNQ.out (hav.1 rfl).symm
      have HQN:=aB hq
      clear hq hav T9 HNQ
      have hmn0:=λwx=>run_neq_map_nil (P:=Tryz.prog) (w:=wx) 241 246 49 none Tryz.underlying241
      go_wp2_with fail
      refine wp_region_quiet_lit (by kernel_rfl) (by kernel_rfl) ?_
      iterate 3 quiet_step (fail)
      iterate 9
       rw[jI]
       go_simp
      iterate 2 quiet_step (fail)
      iterate 2
       rw[jI]
       go_simp
      iterate 2 quiet_step (fail)
      refine wpQuiet_nil ?_
      intro nq
      go_wp2_with fail
      rw[Exit.noGoto_ret]
      go_ret
      refine⟨.mk false ⟨(λh=>by cases h),λh=>absurd h HQN⟩,?_⟩
      refine aC.drewN ?_ _
      have h1:=HT5.out
      refine (HTW.then HT4).trans (T:=λy=>y=u) ?_ (λy hy e=>by have:=HU.out;omega)
      exact ((HT45.trans (T:=λ_=>False) (HT7.then (HTj.then (HD.then HT9))) (λ_ _ f=>f.elim)))
    ·have hje:j=q:=by omega
     have hunl:∀ k,k<i->(cB Z).getD k aS≠sp:=by
      intro k hk e
      have h1:=HFULL.out k hk (by show Eu ((cB Z).getD k aS)=_;rw[e];exact HKEY)
      obtain⟨j',hj',hxj⟩:=qJf h1
      have h2:=HNE.out j' (by rw[hje,<-HQ2.out];exact hj')
      rw[show xs.getD j' 0=k by simp[qJa,hj',hxj]] at h2
      exact h2 e
     have HRG2:=aB (HSTEP HFORM HSB hunl)
     clear hunl
     subst hje
     have j4:¬ (j:Int)<(j:Int):=by omega
     have x3:IntKind.i64.wrap ((i:Int)+1)=(i:Int)+1:=qXa _ (by omega)
     obtain⟨w8,hw8⟩:=eX (wr.alloc (.cells #[.int .i64 i] 3))
     have hT78:aC (λ_=>False) w7 w8:=by rw[hw8];exact HTj.alloc _
     have hb8:aL w8 wr.heap.size 3 #[.int .i64 i]:=by rw[hw8];exact aL.new _ _ _
     have hG8:=HG7.quiet hT78
     obtain⟨es1,clock1,jj,e0,hme,hG9,hj0,hek⟩:=hG8.entry HKL
     obtain⟨w9,hw9⟩:=eX (setBlock w8 b (.map es1 clock1))
     rw[<-hw9] at hme hG9
     have hT89:aC (λy=>y=b) w8 w9:=by rw[hw9];exact dF _ _ _
     have hb9:=hb8.touch hT89 (lY (aF hb8) hG8.g.blk)
     obtain⟨ys,hrow⟩:=hG9.g.vals jj e0 hj0
     obtain⟨eA,ec,hev,_,_⟩:=aX hrow.1
     have hbk:=HBK.touch HTj (λf=>f)
     rw[HK.out] at hbk
     obtain⟨r0,r1,r2⟩:=hbk.facts
     have HROW9:=aB hrow
     have HG9:=aB hG9
     have HJ0:=aB hj0
     have HEV:=aB hev
     have HT89:=aB hT89
     have HT78:=aB hT78
     have HB9:=aB hb9
     have HW8:=aB hw8
     obtain⟨i1,hi1,hy0,hy1,hy2⟩:=aO Oi
     rw[hev] at hme
     rw[hw8] at hme
     simp only[goInt] at hme
     have hrow1:=hrow.1
     rw[hev] at hrow1
     have hrd:aI w9 1 (some ⟨wr.heap.size,0,none⟩) 1 [.int .i64 i]:=⟨by simp,λ_=>⟨wr.heap.size,0,rfl,hb9.lt,λj u hu=>by rw[hb9.cell,Nat.zero_add];simpa using hu⟩⟩
     have hone:∀ u∈[Value.int .i64 (i:Int)],u.oneCell'=true:=by
      intro u hu
      simp only[qXd] at hu
      subst hu
      rfl
     have hyl:ys.length<=i:=hrow.2.1
     have hbb1:ys.length+1<=maxLen:=by unfold maxLen;omega
     have hbb2:(ys.length+1)*8<=140737488355328:=by omega
     have hST:Hid (∀ v1 w10,w10.ownsRow 0 3 1 v1 (ys.length+1) (ys.map oN++[.int .i64 i])->w9.grownBy w10 (Value.slice eA ys.length ec).ownBlock->bJ w9 (.slice eA ys.length ec) v1 ->
       ∃ es' w11,(Instr.entryStore 241 (.map (some b)) (.int .i64 e0.born) v1).run Tryz.prog w10=.ok () w11/\Gf w11 w2.heap.size b (i+1) (λk=>Eu ((cB Z).getD k aS)) es' clock1/\w11.ownsRow 0 243 3 (.slice (some ⟨u,0,none⟩) n n) n (gW (uF (cB Z) n (i+1)))/\aC (λx=>x=u\/x=b) w2 w11):=by
      intro v1 w10 O10 G10 F10
      have hB:w2.heap.size<=w9.heap.size:=by
       have h1:=HT.size
       have h2:=HT5.size
       have h3:=HT7.size
       have h4:=hT78.size
       have h5:=hT89.size
       omega
      obtain⟨es',hes,hG11⟩:=hG9.store (hek.trans (by show _=Eu ((cB Z).getD i aS);rw[HSP.out];exact HKEY.symm)) hrow hj0 (v1:=v1) (xs:=ys++[i]) (by rw[hev];exact G10) (by rw[hev];exact F10) ⟨by simpa [oN] using O10,by simp;omega,by
       intro k hk
       rcases List.mem_append.1 hk with h | h
       ·have:=hrow.2.2 k h;omega
       ·simp at h;omega⟩ rfl hB
      refine⟨es',_,hes,hG11,?_,?_⟩
      ·have h1:=aD HO5 (HT7.then hT78) (λ_ _ f=>f)
       have h2:=aD h1 hT89 (λy hy e=>by
        injection hy with hy
        exact HUB (hy.trans e))
       have h3:=aD h2 ((aC.refl (λy=>(Value.slice eA ys.length ec).ownBlock=some y) w9).grown G10 (λk hk _=>hk)) (λy hy e=>Mk h2 hrow1 (by decide) hy e)
       exact aD h3 (dF _ _ _) (λy hy e=>by
        injection hy with hy
        exact HUB (hy.trans e))
      ·have t1:aC (λx=>x=u\/x=b) w2 w8:=(HT.trans HT5 λ_ _ h=>.inl h).trans (HT7.then hT78) (λ_ _ f=>f.elim)
       have t2:=t1.trans hT89 (λ_ _ h=>.inr h)
       have t3:=t2.grown G10 (λk hk hlt=>by
        have:=hG9.g.young jj e0 hj0 k (by rw[hev];exact hk)
        omega)
       exact t3.trans (dF _ _ _) (λ_ _ h=>.inr h)
     have HRW:=aB hrow1
     have HRD:=aB hrd
     have HONE:=aB hone
     have HBB:=aB (And.intro hbb1 hbb2)
     clear hw8 hw9 hT78 hb8 hG8 hG9 hj0 hT89 hb9 hrow hev hrow1 hrd hone hbb1 hbb2
     go_wp2_with (at_builtin;refine aR _ rfl (.tmp 91) (.tmp 93) 49 rfl 3 i1 _ 1 8 Tryz.underlying49 hi1 hy0 hy1 hy2 rfl (by decide) (.slice eA ys.length ec) ys.length _ rfl HRW (some ⟨wr.heap.size,0,none⟩) 1 1 [.int .i64 i] rfl HRD (λh=>by cases h) HONE HBB.1 HBB.2 ?_;intro v1 w10 O10 G10 F10 _;obtain⟨es',w11,hes,hG11,hO11,hT11⟩:=hST.out v1 w10 O10 G10 F10;have HG11:=aB hG11;have HO11:=aB hO11;have HT11:=aB hT11;clear hG11 hO11 hT11 O10 G10 F10)
     go_roundw
     ·exact⟨i+1,es',clock1,rfl,by simp,by omega,HG11,HRG2,HO11,HT11⟩
     ·simp only[intOf];omega
  ·have hie:i=n:=by omega
   subst hie
   have j4:¬ (i:Int)<(i:Int):=by omega
   obtain⟨ug,uo,hA,hug,e0,e1,e2⟩:=Fv (fM.of_own HO).rd (mG _ _ _) (i-1) (by omega)
   injection hA with hA
   injection hA with hA1 hA2
   subst hA1 hA2
   have hend:=HRG.right HLEN hpos HFEW hb1 hb2 HFL
   rw[HQ.out] at hend
   have hsok:=HRG.sum (i-1) (by omega)
   have hug:=uL (sts:=cB Z) (n:=i) i (i-1) (by omega) (qZa _)
   obtain⟨x,hx⟩:∃ x,((uF (cB Z) i i).getD (i-1) z3).2.2=x:=⟨_,rfl⟩
   have hx0:0<=x/\x<=1048576:=by
    rw[<-hx,hug]
    exact (hsok _).2.2
   rw[hx] at e2 hend
   simp only[Nat.zero_add] at e2
   have z2:IntKind.i64.wrap (base+x)=base+x:=qXa _ (by omega)
   obtain⟨Y,hY,hsY⟩:=HSr.ok (HRG.all HLEN)
   have harc:∀ k,k<i->∀ a∈(Y.getD k cE).arcs,a.2.2<k:=by
    intro k hk a ha
    have h1:=(HRG.formP HLEN (qZa _) hk).1
    have h2:(cB Z).getD k aS=(Y.getD k cE).p:=by
     rw[<-hY]
     simp[qJa,hsY.len,hk]
    rw[h2] at h1
    exact (h1.arc a ha).2.2
   obtain⟨m0,m1,m2⟩:=HMr.facts
   have hcn:=λwx (T:aC (λ_=>False) wr wx)=>Aw wx base (some ⟨g,o,none⟩) i c Y (hsY.quiet (w':=wx) T) harc hpos (by have:=HFEW.out;omega) (by have h1:=T.size;have h2:=HT.size;have h3:=HT2.size;omega)
   rw[hY] at hcn
   have HCN:=aB hcn
   have hTw:aC (λ_=>False) w wr:=HT2.trans HT λx hx hor=>by
    have h1:=HU.out
    have h2:=HB.out
    omega
   have HTW:=aB hTw
   have hmn:=λwx=>run_neq_map_nil (P:=Tryz.prog) (w:=wx) 241 246 49 (some b) Tryz.underlying241
   by_cases htop:base+x<=1048576
   rotate_left
   ·have hdt:decide (base+x<=1048576)=false:=by simpa using htop
    have hq:¬ Q:=λh=>htop (hend.2 h).1
    have HQN:=aB hq
    clear hx hug hsok htop hx0 e0 e1 harc hcn hTw hend hY hsY hq
    go_wp2_with fail
    refine wp_region_quiet_lit (by kernel_rfl) (by kernel_rfl) ?_
    iterate 14 quiet_step (fail)
    rw[jI]
    go_simp
    rw[jI]
    go_simp
    iterate 2 quiet_step (fail)
    refine wpQuiet_nil ?_
    intro nq
    go_wp2_with fail
    rw[Exit.noGoto_ret]
    go_ret
    exact⟨.mk false ⟨(λh=>by cases h),λh=>absurd h HQN⟩,HTW.drewN _⟩
   have hdt:decide (base+x<=1048576)=true:=by simpa using htop
   have hvq:(∃ s',fC (cB Z) i (i-1) (qJg i false) 0=(true,s',i))↔Q:=⟨λh=>hend.1 ⟨htop,h⟩,λh=>(hend.2 h).2⟩
   have HVQ:=aB hvq
   clear hx hug hsok htop hx0 e0 e1 harc hcn hTw hend hY hsY hvq
   go_wp2_with fail
   go_still_tail 15,(by kernel_rfl)
   change wpList _ _ _ _ _ wr.drew
   have HD:=aB (show aC (λ_=>False) wr wr.drew from (aC.refl _ _).drew)
   generalize wr.drew=wd at HD ⊢
   go_wp2_with fail
   refine (HCN wd HD).mono ?_
   rintro e w9 ⟨⟨nv,rfl,hnv⟩,T9⟩
   have HT9:=aB T9
   have HNV:=aB (hnv.trans HVQ)
   clear T9 hnv
   cases nv
   all_goals
    go_wp2_with fail
    rw[Exit.noGoto_ret]
    go_ret
    first
    | exact⟨.mk _ HNV,HTW.then (HD.then HT9)⟩
    | exact⟨.mk true ⟨λ_=>HNV.1 (by simp),λ_=>rfl⟩,HTW.then (HD.then HT9)⟩
end
theorem Dg(w:World)(hL:dN w)(base:Int)(A:Option Addr)(n c:Nat)(Z:List SV)(hst:eC w A n Z)(hR:jZ (Z.map SV.p) base) :
  Calls Tryz.prog 85 #[.agg #[.int .i64 base,.slice A n c]] w λe w'=>e=.returned (.bool true)/\aC (λ_=>False) w w':=by
 letI:Inhabited eF:=⟨⟨0⟩⟩
 have hf:n<=maxLen:=by
  have h1:=hst.len
  have h2:Z.length<=98305:=by
   rcases hR with⟨h,_⟩ | h
   ·rw[List.map_eq_nil_iff] at h
    rw[h]
    simp
   ·have:=h.few
    rw[qXc] at this
    exact this
  unfold maxLen
  omega
 refine (yK w hL base A n c _ (Pa hst.od) hf (qJe _)).mono ?_
 rintro e w' ⟨⟨v,rfl,hv⟩,T⟩
 have:v=true:=hv.2 ⟨Z.map SV.p,by rw[qJc,qJc];exact List.map_congr_left (λz _=>rfl),hR⟩
 rw[this]
 exact⟨rfl,T⟩
theorem dD(hD:cA L):jZ (bB L).states (bB L).base:=by
 by_cases h:L=[]
 ·left
  unfold bB
  rw[if_pos h]
  exact⟨rfl,rfl⟩
 ·exact .inr (zK hD h)
theorem aAx(w:World)(hL:dN w)(base:Int)(A:Option Addr)(n c:Nat)(Z:List SV)(hst:eC w A n Z)(hR:jZ (Z.map SV.p) base)(hn:n<=1000000) :
  Calls Tryz.prog 39 #[.agg #[.int .i64 base,.slice A n c]] w λe w'=>∃ b A' c' Z' wA wc,e=.returned (.tuple #[.pointer (some ⟨b,0,none⟩),.bool true])/\mL w w' b base A' n c' Z' wA n wc (pX (Z.map SV.p) n)/\Z'.map SV.p=Z.map SV.p:=by
 obtain⟨i7,hi7,hz70,hz71,hz72⟩:=aO Et
 obtain⟨i8,hi8,hz80,hz81,hz82⟩:=aO Oi
 have hlen:(Z.map SV.p).length=n:=by rw[qXc,hst.len]
 obtain⟨w0,hw0⟩:=eX (w.alloc (.cells #[.int .i64 base,.slice A n c] 89))
 have hT0:aC (λ_=>False) w w0:=by rw[hw0];exact (aC.refl _ _).alloc _
 have hcr:=Dg w0 (dN.touch hL hT0) base A n c Z (hst.quiet hT0) hR
 obtain⟨M,hM⟩:=eX w.heap.size
 have hbM:aL w0 M 89 #[.int .i64 base,.slice A n c]:=by rw[hw0,hM];exact aL.new _ _ _
 have HST:=aB hst
 have HR:=aB hR
 have HLEN:=aB hlen
 have HW0:=aB hw0
 have HT0:=aB hT0
 have HCR:=aB hcr
 have HM:=aB hM
 have HBM:=aB hbM
 have HN:=aB hn
 have hnI:(n:Int)<=1000000:=by omega
 clear hst hL hR hlen hw0 hT0 hcr hM hbM hn
 go_in
 go_wp2_with fail
 rw[<-HW0.out,<-HM.out]
 refine HCR.mono ?_
 rintro e w1 ⟨rfl,T1⟩
 have hbM1:=HBM.touch T1 (λf=>f)
 obtain⟨q1,q2,q3⟩:=hbM1.facts
 have HBM1:=aB hbM1
 have HT1:=aB (HT0.then T1)
 clear hbM1 T1 HCR
 go_wp2_with fail
 obtain⟨w2,hw2⟩:=eX (w1.alloc (.cells #[.int .i64 base,.slice none 0 0,.slice none 0 0] 167))
 obtain⟨b,hb⟩:=eX w1.heap.size
 have hT2:aC (λ_=>False) w1 w2:=by rw[hw2];exact (aC.refl _ _).alloc _
 have hbb:aL w2 b 167 #[.int .i64 base,.slice none 0 0,.slice none 0 0]:=by rw[hw2,hb];exact aL.new _ _ _
 have hI2:mL w w2 b base none 0 0 [] none 0 0 (pX (Z.map SV.p) 0):=by
  refine⟨hbb,World.ownsRow_nil _ _ _ _,?_,λz hz=>(by cases hz),λg hg=>(by cases hg),λg hg=>(by cases hg),λz hz=>(by cases hz),by have:=HT1.size;omega,HT1.then hT2⟩
  simp only[pX,List.take_zero,qQd]
  exact World.ownsRow_nil _ _ _ _
 rw[<-hw2,<-hb]
 have HI2:=aB hI2
 clear q1 q2 q3 hw2 hb hT2 hbb hI2
 go_loopw [20] (λiv wr=>∃ (i:Nat) (A':Option Addr) (c':Nat) (Z':List SV) (wA:Option Addr) (wc:Nat),iv=.int .i64 i/\i<=n/\Hid (mL w wr b base A' i c' Z' wA i wc (pX (Z.map SV.p) i))/\Hid (Z'.map SV.p=(Z.map SV.p).take i)) (λiv _=>n-(intOf iv).toNat)
 case atStart=>exact⟨0,none,0,[],none,0,rfl,by omega,HI2,aB rfl⟩
 case round =>
  obtain⟨i,A',c',Z',wA,wc,rfl,hin,HI,HZ'⟩:=hrel
  by_cases hi2:i<n
  ·have hP:Ek (Z.map SV.p) base:=by
    rcases HR.out with⟨h,_⟩ | h
    ·have:=HLEN.out
     rw[h] at this
     simp at this
     omega
    ·exact h
   have x1:(i:Int)<(n:Int):=by omega
   have x2:(0:Int)<=(i:Int):=by omega
   have x3:IntKind.i64.wrap ((i:Int)+1)=(i:Int)+1:=qXa _ (by omega)
   have hSr:=HST.quiet HI.touch
   obtain⟨g,o,hA,hgl,d0,d1,d2⟩:=lE hSr.rd.rd hSr.len i hi2
   subst hA
   have hzm:=aZ Z cE i (by rw[HST.len];exact hi2)
   have hzo:=hSr.el _ hzm
   have hzp:(Z.map SV.p).getD i aS=(Z.getD i cE).p:=by
    simp[qJa,HST.len,hi2]
   have hfm:=hP.form i (by rw[HLEN.out];exact hi2)
   have hsB:=hP.sumB i (by rw[HLEN.out];exact hi2)
   have hsE:=hP.sumE i (by rw[HLEN.out];exact hi2)
   rw[HLEN.out] at hsB hsE
   rw[hzp] at hfm hsB hsE
   obtain⟨⟨fin,out,zA,q,zc,arcs⟩,hz⟩:∃ z,Z.getD i cE=z:=⟨_,rfl⟩
   rw[hz] at d0 d1 d2 hzo hzp hfm hsB hsE
   simp only at d0 d1 d2
   have hq:q<=2097152:=by
    have h1:=kL hfm
    have h2:=hzo.len
    simp only[SV.p] at h1 h2
    omega
   have HFM:=aB hfm
   have HSB:=aB hsB
   have HSE:=aB hsE
   have HZP:=aB hzp
   have HZL:=aB hzo.len
   obtain⟨wa,hwa⟩:=eX (wr.alloc (.cells #[.bool fin,.int .i64 out,.slice zA q zc] 170))
   obtain⟨s,hs⟩:=eX wr.heap.size
   have hTa:aC (λ_=>False) wr wa:=by rw[hwa];exact (aC.refl _ _).alloc _
   have hbs:aL wa s 170 #[.bool fin,.int .i64 out,.slice zA q zc]:=by rw[hwa,hs];exact aL.new _ _ _
   have hcc:=Qb wa zA q zc arcs hzo.len (hzo.rd.quiet hTa) hq
   have hsb:¬ s=b:=by have:=HI.blk.lt;omega
   have hsA:∀ g,(Value.slice A' i c').ownBlock=some g->¬ g=s:=by
    intro g hg e
    have:=(aH HI.own hg).lt
    omega
   have HWA:=aB hwa
   have HSD:=aB hs
   have HTA:=aB hTa
   have HBS:=aB hbs
   have HCC:=aB hcc
   have HSA:=aB hsA
   have hbs':=hbs.facts
   obtain⟨s0,s1,s2⟩:=hbs'
   clear hP hSr hzm hzo hzp hfm hsB hsE hz hwa hs hTa hbs hcc hsA
   go_wp2_with fail
   rw[<-HWA.out,<-HSD.out]
   refine HCC.mono ?_
   rintro e w3 ⟨A2,c2,rfl,hcl⟩
   have hbs3:=HBS.touch hcl.touch (λf=>f)
   have hw4:aC (λy=>y=s) w3 (w3.setCell ⟨s,2,none⟩ (.slice A2 q c2)):=(aC.refl (λy=>y=s) w3).setCell (p:=⟨s,2,none⟩) (λ_=>rfl) _
   have hbs4:aL (w3.setCell ⟨s,2,none⟩ (.slice A2 q c2)) s 170 #[.bool fin,.int .i64 out,.slice A2 q c2]:=by
    have:=hbs3.set_ 2 (.slice A2 q c2)
    simpa using this
   have hnS:∀ y,bE w3 y 173 -> ¬ y=s:=λy hy e=>hy.ne (aF hbs3) (by decide) e
   have hO4:=aD hcl.own hw4 (λy hy=>hnS y (aH hcl.own hy))
   have hle:=cT hcl.own
   have hI3:=HI.quiet (HTA.then hcl.touch)
   have hI4:mL w (w3.setCell ⟨s,2,none⟩ (.slice A2 q c2)) b base A' i c' Z' wA i wc (pX (Z.map SV.p) i):=by
    refine⟨hI3.blk.touch hw4 (λe=>hsb e.symm),aD hI3.own hw4 HSA,aD hI3.wds hw4 (λy hy e=>(aH hI3.wds hy).ne (aF hbs3) (by decide) e),λz hz=>(hI3.el z hz).touch hw4 hnS,hI3.yA,hI3.yW,hI3.yZ,hI3.yb,?_⟩
    refine hI3.touch.trans hw4 λy hy e=>?_
    have h1:=HSD.out
    have h2:=HI.touch.size
    omega
   have hy2:∀ g,aQ A2=some g->w.heap.size<=g:=by
    intro g hg
    have h1:=hcl.young g hg
    have h2:=HI.touch.size
    have h3:=HTA.size
    omega
   obtain⟨t0,t1,t2⟩:=hbs3.facts
   obtain⟨w4,hw4d⟩:=eX (w3.setCell ⟨s,2,none⟩ (.slice A2 q c2))
   rw[<-hw4d] at hbs4 hO4 hI4
   have HW4:=aB hw4d
   have HBS4:=aB hbs4
   have HO4:=aB hO4
   have HI4:=aB hI4
   have HY2:=aB hy2
   have HLE:=aB hle
   clear hcl hbs3 hw4 hbs4 hnS hO4 hle hI3 hI4 hy2 hw4d HCC s0 s1 s2
   obtain⟨X,hX⟩:∃ X:Nat->Int,X=λj=>(cN (uF (Z.map SV.p) n i) (SV.p ⟨fin,out,zA,q,zc,arcs⟩) j).1:=⟨_,rfl⟩
   have hX0:X 0=if fin=true then 1 else 0:=by
    rw[hX]
    simp only
    rw[uH]
    rfl
   have hXS:∀ j,j<q->X (j+1)=X j+((uF (Z.map SV.p) n i).getD (arcs.getD j (0,0,0)).2.2 z3).1:=by
    intro j hj
    rw[hX]
    simp only
    rw[pQ _ _ _ (by have:=HZL.out;simp only[SV.p] at this ⊢;omega)]
    rfl
   have hXB:∀ j,0<=X j/\X j<=4096:=by
    intro j
    rw[hX]
    exact (HSB j).1
   have hXE:pX (Z.map SV.p) (i+1)=pX (Z.map SV.p) i++[X q]:=by
    rw[Tj (by rw[HLEN.out];exact hi2),HZP.out,HLEN.out,hX]
    have:(SV.p ⟨fin,out,zA,q,zc,arcs⟩).arcs.length=q:=HZL.out
    rw[this]
   have hZ2:SV.Ok ⟨fin,out,A2,q,c2,arcs⟩ w4:=⟨HZL,fM.of_own HO4,HLE.1,HLE.2⟩
   have hZE:(Z'++[(⟨fin,out,A2,q,c2,arcs⟩:SV)]).map SV.p=(Z.map SV.p).take (i+1):=by
    rw[qJb,HZ'.out,List.take_succ_eq_append_getElem (by rw[HLEN.out];exact hi2)]
    congr 1
    have h:=HZP.out
    rw[qQe,qZb (by rw[HLEN.out];exact hi2)] at h
    simp only[Option.getD_some] at h
    rw[h]
    rfl
   have HX0:=aB hX0
   have HXS:=aB hXS
   have HXB:=aB hXB
   have HXE:=aB hXE
   have HZ2:=aB hZ2
   have HZE:=aB hZE
   have hqI:(q:Int)<=2097152:=by omega
   obtain⟨wo,hwo⟩:=eX wr
   subst hwo
   clear hX hX0 hXS hXB hXE hZ2 hZE HSB hq
   cases fin with
   | false =>
    go_wp2_with fail
    rw[<-HW4.out]
    go_loopw [7,33] (λmv jv wr=>∃ (j:Nat),mv=.int .i64 (X j)/\jv=.int .i64 j/\j<=q/\Hid (aC (λ_=>False) w4 wr)) (λ_ jv _=>q-(intOf jv).toNat)
    case atStart=>exact⟨0,by rw[HX0.out];rfl,rfl,by omega,aB (aC.refl _ _)⟩
    case round =>
     obtain⟨j,rfl,rfl,hjq,HTj⟩:=hrel
     have hI:=HI4.quiet HTj
     obtain⟨b0,b1,b2⟩:=hI.blk.facts
     by_cases hj2:j<q
     ·have j1:(j:Int)<(q:Int):=by omega
      have j2:(0:Int)<=(j:Int):=by omega
      have j3:IntKind.i64.wrap ((j:Int)+1)=(j:Int)+1:=qXa _ (by omega)
      obtain⟨ag,ao,hA2,_,e0,e1,e2⟩:=fT (fM.of_own (aD HO4 HTj (λ_ _ f=>f))).rd HZL j hj2
      subst hA2
      have hxs:=HXS.out j hj2
      have hto:(arcs.getD j (0,0,0)).2.2<i:=(HFM.arc _ (aZ arcs (0,0,0) j (by rw[HZL.out];exact hj2))).2.2
      obtain⟨⟨la,ua,tt⟩,hz⟩:∃ z,arcs.getD j (0,0,0)=z:=⟨_,rfl⟩
      rw[hz] at e0 e1 e2 hxs hto
      simp only at e0 e1 e2 hxs hto
      obtain⟨wg,wo2,hwA,hwg,hwc⟩:=(fM.of_own hI.wds).rd.2 (by omega)
      subst hwA
      have v0:=hwc tt (yQ ((uF (Z.map SV.p) n i).getD tt z3).1) (by
       rw[qXb,Kl (by rw[HLEN.out];omega) hto,HLEN.out]
       rfl)
      obtain⟨y,hy⟩:∃ y,((uF (Z.map SV.p) n i).getD tt z3).1=y:=⟨_,rfl⟩
      rw[hy] at v0 hxs
      simp only[yQ] at v0
      have k1:(tt:Int)<(i:Int):=by omega
      have k2:(0:Int)<=(tt:Int):=by omega
      have hb1:=HXB.out j
      have hb2:=HXB.out (j+1)
      have k3:IntKind.i64.wrap (X j+y)=X j+y:=qXa _ (by omega)
      have HXJ:=aB hxs
      clear hI hz hwc hy hb1 hb2 hxs
      go_wp2_with fail
      go_quiet (fail)
      go_wp2_with fail
      go_roundw
      ·exact⟨j+1,by rw[HXJ.out],by simp,by omega,aB ((HTj.alloc _).drewN _)⟩
      ·simp only[intOf];omega
     ·have hje:j=q:=by omega
      subst hje
      have j4:¬ (j:Int)<(j:Int):=by omega
      obtain⟨s0,s1,s2⟩:=(HBS4.touch HTj (λf=>f)).facts
      have HIW:=aB hI
      have HNB:Hid (some b≠(Value.slice A' i c').ownBlock):=aB (λe=>(aH hI.own e.symm).ne (aF hI.blk) (by decide) rfl)
      have hzc:=HZ2.touch HTj (λ_ _ f=>f)
      have HZC:=aB hzc
      have hib:i+1<=maxLen/\(i+1)*40<=140737488355328/\(i+1)*8<=140737488355328:=by unfold maxLen;omega
      have HIB:=aB hib
      clear hI hzc hib
      go_wp2_with fail
      go_region_law (refine step_append_lies _ rfl (.tmp 52) (.tmp 54) 87 rfl 0 170 i7 _ 3 40 Tryz.underlying87 hi7 hz70 hz71 hz72 (by decide) (by decide) (.slice A' i c') i _ (by simp[Act.eval]) (aD HIW.own ((aC.refl _ _).alloc _).drew (λ_ _ f=>f)) ⟨wr.heap.size,0,none⟩ 1 1 [.bool false,.int .i64 out,.slice A2 j c2] (by simp[Act.eval]) rfl ?news ?one (by decide) HIB.1 HIB.2.1 (qJe _) _ rfl ?_;(case news=>exact World.news_of_block (aL.new wr _ _));(case one=>exact List.all_eq_true.1 rfl);intro g4 cap4 w9 hown hgrow hlies _;have hbC:=((HIW.blk.alloc (.cells #[.bool false,.int .i64 out,.slice A2 j c2] 170)).drew).grown hgrow HNB.out;obtain⟨q1,q2,q3⟩:=hbC.facts;have hN2:=mL.state (HIW.quiet (((aC.refl (λ_=>False) wr).alloc (.cells #[.bool false,.int .i64 out,.slice A2 j c2] 170)).drew)) (z:=⟨false,out,A2,j,c2,arcs⟩) (HZC.touch (((aC.refl (λ_=>False) wr).alloc (.cells #[.bool false,.int .i64 out,.slice A2 j c2] 170)).drew) (λ_ _ f=>f)) HY2 hown hgrow (by rcases hlies with e | e;exact .inl e.symm;exact .inr ⟨g4,rfl,by rw[e];exact qZa _⟩);have HN2:=aB hN2;clear hown hgrow hlies hbC hN2)
      all_goals
       obtain⟨v9,hv9⟩:=eX (w9.setCell ⟨b,1,none⟩ (.slice (some ⟨g4,0,none⟩) (i+1) cap4))
       rw[<-hv9] at HN2
       rw[<-hv9]
       have hI9:=HN2.quiet ((aC.refl (λ_=>False) v9).alloc (.cells #[.int .i64 (X j)] 3))
       have hrd:aI (v9.alloc (.cells #[.int .i64 (X j)] 3)) 1 (some ⟨v9.heap.size,0,none⟩) 1 [.int .i64 (X j)]:=aI.new _ _ _ _ rfl
       have hone:∀ u∈[Value.int .i64 (X j)],u.oneCell'=true:=List.all_eq_true.1 rfl
       have hnb:some b≠(Value.slice wA i wc).ownBlock:=λe=>(aH hI9.wds e.symm).ne (aF hI9.blk) (by decide) rfl
       obtain⟨r0,r1,r2⟩:=HN2.blk.facts
       have HI9:=aB hI9
       have HRD:=aB hrd
       have HONE:=aB hone
       have HNB2:=aB hnb
       clear hv9 hI9 hrd hone hnb b0 b1 b2 q1 q2 q3
       go_wp2_with (at_builtin;refine aR _ rfl (.tmp 62) (.tmp 64) 49 rfl 3 i8 _ 1 8 Tryz.underlying49 hi8 hz80 hz81 hz82 rfl (by decide) (.slice wA i wc) i _ rfl HI9.wds (some ⟨v9.heap.size,0,none⟩) 1 1 [.int .i64 (X j)] rfl HRD (λh=>by cases h) HONE HIB.1 HIB.2.2 ?_;intro v1 w10 O10 G10 F10 _;obtain⟨A5,c5,hv,_,_⟩:=aX O10;subst hv;have hbC:=HI9.blk.grown G10 HNB2.out;obtain⟨q1,q2,q3⟩:=hbC.facts;have HN3:=aB (mL.word (x:=X j) HI9 O10 G10 F10);clear hbC O10 G10 F10)
       go_roundw
       ·exact⟨i+1,some ⟨g4,0,none⟩,cap4,Z'++[⟨false,out,A2,j,c2,arcs⟩],A5,c5,by simp,by omega,aB (by rw[HXE.out];exact HN3),HZE⟩
       ·simp only[intOf];omega
   | true =>
    go_wp2_with fail
    rw[<-HW4.out]
    go_loopw [7,33] (λmv jv wr=>∃ (j:Nat),mv=.int .i64 (X j)/\jv=.int .i64 j/\j<=q/\Hid (aC (λ_=>False) w4 wr)) (λ_ jv _=>q-(intOf jv).toNat)
    case atStart=>exact⟨0,by rw[HX0.out];rfl,rfl,by omega,aB (aC.refl _ _)⟩
    case round =>
     obtain⟨j,rfl,rfl,hjq,HTj⟩:=hrel
     have hI:=HI4.quiet HTj
     obtain⟨b0,b1,b2⟩:=hI.blk.facts
     by_cases hj2:j<q
     ·have j1:(j:Int)<(q:Int):=by omega
      have j2:(0:Int)<=(j:Int):=by omega
      have j3:IntKind.i64.wrap ((j:Int)+1)=(j:Int)+1:=qXa _ (by omega)
      obtain⟨ag,ao,hA2,_,e0,e1,e2⟩:=fT (fM.of_own (aD HO4 HTj (λ_ _ f=>f))).rd HZL j hj2
      subst hA2
      have hxs:=HXS.out j hj2
      have hto:(arcs.getD j (0,0,0)).2.2<i:=(HFM.arc _ (aZ arcs (0,0,0) j (by rw[HZL.out];exact hj2))).2.2
      obtain⟨⟨la,ua,tt⟩,hz⟩:∃ z,arcs.getD j (0,0,0)=z:=⟨_,rfl⟩
      rw[hz] at e0 e1 e2 hxs hto
      simp only at e0 e1 e2 hxs hto
      obtain⟨wg,wo2,hwA,hwg,hwc⟩:=(fM.of_own hI.wds).rd.2 (by omega)
      subst hwA
      have v0:=hwc tt (yQ ((uF (Z.map SV.p) n i).getD tt z3).1) (by
       rw[qXb,Kl (by rw[HLEN.out];omega) hto,HLEN.out]
       rfl)
      obtain⟨y,hy⟩:∃ y,((uF (Z.map SV.p) n i).getD tt z3).1=y:=⟨_,rfl⟩
      rw[hy] at v0 hxs
      simp only[yQ] at v0
      have k1:(tt:Int)<(i:Int):=by omega
      have k2:(0:Int)<=(tt:Int):=by omega
      have hb1:=HXB.out j
      have hb2:=HXB.out (j+1)
      have k3:IntKind.i64.wrap (X j+y)=X j+y:=qXa _ (by omega)
      have HXJ:=aB hxs
      clear hI hz hwc hy hb1 hb2 hxs
      go_wp2_with fail
      go_quiet (fail)
      go_wp2_with fail
      go_roundw
      ·exact⟨j+1,by rw[HXJ.out],by simp,by omega,aB ((HTj.alloc _).drewN _)⟩
      ·simp only[intOf];omega
     ·have hje:j=q:=by omega
      subst hje
      have j4:¬ (j:Int)<(j:Int):=by omega
      obtain⟨s0,s1,s2⟩:=(HBS4.touch HTj (λf=>f)).facts
      have HIW:=aB hI
      have HNB:Hid (some b≠(Value.slice A' i c').ownBlock):=aB (λe=>(aH hI.own e.symm).ne (aF hI.blk) (by decide) rfl)
      have hzc:=HZ2.touch HTj (λ_ _ f=>f)
      have HZC:=aB hzc
      have hib:i+1<=maxLen/\(i+1)*40<=140737488355328/\(i+1)*8<=140737488355328:=by unfold maxLen;omega
      have HIB:=aB hib
      clear hI hzc hib
      go_wp2_with fail
      go_region_law (refine step_append_lies _ rfl (.tmp 52) (.tmp 54) 87 rfl 0 170 i7 _ 3 40 Tryz.underlying87 hi7 hz70 hz71 hz72 (by decide) (by decide) (.slice A' i c') i _ (by simp[Act.eval]) (aD HIW.own ((aC.refl _ _).alloc _).drew (λ_ _ f=>f)) ⟨wr.heap.size,0,none⟩ 1 1 [.bool true,.int .i64 out,.slice A2 j c2] (by simp[Act.eval]) rfl ?news ?one (by decide) HIB.1 HIB.2.1 (qJe _) _ rfl ?_;(case news=>exact World.news_of_block (aL.new wr _ _));(case one=>exact List.all_eq_true.1 rfl);intro g4 cap4 w9 hown hgrow hlies _;have hbC:=((HIW.blk.alloc (.cells #[.bool true,.int .i64 out,.slice A2 j c2] 170)).drew).grown hgrow HNB.out;obtain⟨q1,q2,q3⟩:=hbC.facts;have hN2:=mL.state (HIW.quiet (((aC.refl (λ_=>False) wr).alloc (.cells #[.bool true,.int .i64 out,.slice A2 j c2] 170)).drew)) (z:=⟨true,out,A2,j,c2,arcs⟩) (HZC.touch (((aC.refl (λ_=>False) wr).alloc (.cells #[.bool true,.int .i64 out,.slice A2 j c2] 170)).drew) (λ_ _ f=>f)) HY2 hown hgrow (by rcases hlies with e | e;exact .inl e.symm;exact .inr ⟨g4,rfl,by rw[e];exact qZa _⟩);have HN2:=aB hN2;clear hown hgrow hlies hbC hN2)
      all_goals
       obtain⟨v9,hv9⟩:=eX (w9.setCell ⟨b,1,none⟩ (.slice (some ⟨g4,0,none⟩) (i+1) cap4))
       rw[<-hv9] at HN2
       rw[<-hv9]
       have hI9:=HN2.quiet ((aC.refl (λ_=>False) v9).alloc (.cells #[.int .i64 (X j)] 3))
       have hrd:aI (v9.alloc (.cells #[.int .i64 (X j)] 3)) 1 (some ⟨v9.heap.size,0,none⟩) 1 [.int .i64 (X j)]:=aI.new _ _ _ _ rfl
       have hone:∀ u∈[Value.int .i64 (X j)],u.oneCell'=true:=List.all_eq_true.1 rfl
       have hnb:some b≠(Value.slice wA i wc).ownBlock:=λe=>(aH hI9.wds e.symm).ne (aF hI9.blk) (by decide) rfl
       obtain⟨r0,r1,r2⟩:=HN2.blk.facts
       have HI9:=aB hI9
       have HRD:=aB hrd
       have HONE:=aB hone
       have HNB2:=aB hnb
       clear hv9 hI9 hrd hone hnb b0 b1 b2 q1 q2 q3
       go_wp2_with (at_builtin;refine aR _ rfl (.tmp 62) (.tmp 64) 49 rfl 3 i8 _ 1 8 Tryz.underlying49 hi8 hz80 hz81 hz82 rfl (by decide) (.slice wA i wc) i _ rfl HI9.wds (some ⟨v9.heap.size,0,none⟩) 1 1 [.int .i64 (X j)] rfl HRD (λh=>by cases h) HONE HIB.1 HIB.2.2 ?_;intro v1 w10 O10 G10 F10 _;obtain⟨A5,c5,hv,_,_⟩:=aX O10;subst hv;have hbC:=HI9.blk.grown G10 HNB2.out;obtain⟨q1,q2,q3⟩:=hbC.facts;have HN3:=aB (mL.word (x:=X j) HI9 O10 G10 F10);clear hbC O10 G10 F10)
       go_roundw
       ·exact⟨i+1,some ⟨g4,0,none⟩,cap4,Z'++[⟨true,out,A2,j,c2,arcs⟩],A5,c5,by simp,by omega,aB (by rw[HXE.out];exact HN3),HZE⟩
       ·simp only[intOf];omega
  ·have hie:i=n:=by omega
   subst hie
   have j4:¬ (i:Int)<(i:Int):=by omega
   go_wp2_with fail
   exact bodyPost_ret (v:=.tuple #[.pointer (some ⟨b,0,none⟩),.bool true]) (by simp[results,Tryz.results39,go_sem]) rfl (by
    have hz:=HZ'.out
    rw[List.take_of_length_le (by rw[HLEN.out];exact qZa _)] at hz
    first
     | exact⟨b,A',c',Z',wA,wc,rfl,HI,hz⟩
     | exact⟨b,rfl,A',c',Z',wA,wc,HI,hz⟩
     | exact⟨b,rfl,A',c',Z',⟨wA,wc,HI⟩,hz⟩
     | exact⟨b,rfl,Z',⟨A',c',wA,wc,HI⟩,hz⟩)
def jO:Nat->Nat->List UInt8
 | 0,n=>[UInt8.ofNat n]
 | f+1,n=>if n<128 then [UInt8.ofNat n] else UInt8.ofNat (n % 128+128) :: jO f (n / 128)
def dA(n:Nat):List UInt8:=jO 9 n
theorem Ki:∀ (f n:Nat),(jO f n).length<=f+1
 | 0,_=>qZa _
 | f+1,n=>by
  unfold jO
  split
  ·simp
  ·have:=Ki f (n / 128)
   simp
   omega
theorem gY{m:Nat}(h:m<256):aP (UInt8.ofNat m)=.int .u8 (m:Int):=by unfold aP;rw[UInt8.toNat_ofNat',Nat.mod_eq_of_lt h]
theorem aHd(m:Nat):(m:Int).fdiv (2 ^ min (Int.toNat 7) IntKind.u64.bits)=((m / 128:Nat):Int):=by
 have h:min (Int.toNat 7) IntKind.u64.bits=7:=by decide
 rw[h,Int.fdiv_eq_ediv_of_nonneg _ (by decide)]
 omega
theorem Rx:∀ a:Fin 256,bits .or .u8 (a.val:Int) 128=((a.val % 128+128:Nat):Int):=by decide +kernel
theorem aGc(m:Nat):bits .or .u8 ((m:Int) % 256) 128=(m:Int) % 128+128:=by
 have h:=Rx ⟨m % 256,by omega⟩
 simp only at h
 rw[show (m:Int) % 256=((m % 256:Nat):Int) by omega,h]
 omega
theorem lT(w0 w:World)(A:Option Addr)(q c:Nat)(xs:List Value)(h:eB 5 1 w0 w (.slice A q c) q xs)(n:Nat)(hn:n<18446744073709551616)(hq:q<=35184372088832) :
  Calls Tryz.prog 51 #[.slice A q c,.int .u64 n] w λe w'=>∃ (A':Option Addr) (q' c':Nat),e=.returned (.slice A' q' c')/\eB 5 1 w0 w' (.slice A' q' c') q' (xs++(dA n).map aP)/\q'<=q+10/\aC (λg=>(Value.slice A q c).ownBlock=some g) w w':=by
 obtain⟨i0,hi0,hz0,hz1,hz2⟩:=aO fW
 have H:=aB h
 have HN:=aB hn
 have HQ:=aB hq
 clear h hn hq
 go_in
 go_wp2_with fail
 go_loopw [0,1] (λbv nv wr=>∃ (A3:Option Addr) (k c3 m f:Nat) (ys:List UInt8),bv=.slice A3 (q+k) c3/\nv=.int .u64 m/\Hid (eB 5 1 w0 wr (.slice A3 (q+k) c3) (q+k) (xs++ys.map aP))/\Hid (ys++jO f m=dA n)/\Hid (m<128 ^ (f+1)/\m<=n/\k+f=9)/\Hid (aC (λg=>(Value.slice A q c).ownBlock=some g) w wr)/\Hid (bJ w (.slice A q c) (.slice A3 (q+k) c3))) (λ_ nv _=>(intOf nv).toNat)
 case atStart=>exact⟨A,0,c,n,9,[],rfl,rfl,aB (by rw[qQd,List.append_nil];exact H),aB rfl,aB ⟨Nat.lt_of_lt_of_le HN (by decide),qZa _,rfl⟩,aB (aC.refl _ _),aB (.inl rfl)⟩
 case round =>
  obtain⟨A3,k,c3,m,f,ys,rfl,rfl,HX,HY,HB,HT,HF⟩:=hrel
  by_cases hm:128<=m
  ·have m0:(128:Int)<=(m:Int):=by omega
   have m1:=aGc m
   have m2:=aHd m
   have hf:∃ f',f=f'+1:=by
    cases f with
    | zero=>have:=HB.1;simp at this;omega
    | succ f'=>exact⟨f',rfl⟩
   obtain⟨f',rfl⟩:=hf
   have hvf:jO (f'+1) m=UInt8.ofNat (m % 128+128) :: jO f' (m / 128):=by
    conv=>lhs;unfold jO
    rw[if_neg (by omega)]
   have HVF:=aB hvf
   have HM:=aB hm
   clear hvf
   obtain⟨wa,hwa⟩:=eX (wr.alloc (.cells #[.int .u8 ((m:Int) % 128+128)] 5))
   have hTa:aC (λ_=>False) wr wa:=by rw[hwa];exact (aC.refl _ _).alloc _
   have hrd:aI wa 1 (some ⟨wr.heap.size,0,none⟩) 1 [.int .u8 ((m:Int) % 128+128)]:=by
    rw[hwa]
    have h:=aI.new (size:=1) wr 5 [.int .u8 ((m:Int) % 128+128)] 1 rfl
    simpa using h
   have hone:∀ u∈([.int .u8 ((m:Int) % 128+128)]:List Value),u.oneCell'=true:=by
    intro u hu
    rw[qXd] at hu
    subst hu
    rfl
   have hbb:q+k+1<=maxLen/\(q+k+1)*1<=140737488355328:=by
    have h1:=HQ.out
    have h2:=HB.2.2
    unfold maxLen
    omega
   have HXA:=aB (HX.to hTa)
   have HWA:=aB hwa
   have HRD:=aB hrd
   have HONE:=aB hone
   have HBB:=aB hbb
   have HTA:=aB hTa
   clear hm hwa hTa hrd hone hbb
   go_wp2_with (at_builtin;rw[<-HWA.out];refine aR _ rfl (.tmp 7) (.tmp 11) 50 rfl 5 i0 _ 1 1 Tryz.underlying50 hi0 hz0 hz1 hz2 rfl (by decide) (.slice A3 (q+k) c3) (q+k) _ rfl HXA.own (some ⟨wr.heap.size,0,none⟩) 1 1 [.int .u8 ((m:Int) % 128+128)] rfl HRD (λh=>by cases h) HONE HBB.1 HBB.2 ?_;intro v1 w10 O10 G10 F10 _;obtain⟨A7,c7,hv,_,_⟩:=aX O10;subst hv;have HX10:=aB (HXA.app O10 G10 F10);have HG10:=aB G10;have HF10:=aB F10;clear O10 G10 F10)
   have hT10:aC (λg=>(Value.slice A q c).ownBlock=some g) w w10:=(HT.then (HTA.up _)).trans ((aC.refl (λg=>(Value.slice A3 (q+k) c3).ownBlock=some g) wa).grown HG10 (λk e _=>e)) (λg hg e=>by
    rcases HF.out with e2 | ⟨g',e2,hle⟩
    ·exact e2.symm.trans e
    ·rw[e2] at e
     injection e with e
     omega)
   go_roundw
   case rel =>
    refine⟨A7,k+1,c7,m / 128,f',ys++[UInt8.ofNat (m % 128+128)],rfl,rfl,aB ?_,aB ?_,aB ⟨?_,?_,?_⟩,aB hT10,aB ?_⟩
    ·rw[qJb,<-qQf]
     simp only[qQg,qQd]
     rw[gY (by omega),show ((m % 128+128:Nat):Int)=(m:Int) % 128+128 by omega]
     exact HX10
    ·rw[qQf,<-HY.out,HVF.out]
     rfl
    ·have:=HB.1
     rw[Nat.pow_succ] at this
     exact Nat.div_lt_of_lt_mul (by omega)
    ·have:=HB.2.1
     omega
    ·have:=HB.2.2
     omega
    ·exact HF.up HF10 (Nat.le_trans HT.size HTA.size)
   case measure =>
    have:=HM.out
    simp only[intOf]
    omega
  ·have m0:¬ (128:Int)<=(m:Int):=by omega
   have m1:(m:Int) % 256=(m:Int):=by omega
   have hvf:jO f m=[UInt8.ofNat m]:=by
    cases f with
    | zero=>rfl
    | succ f' =>
     unfold jO
     rw[if_pos (by omega)]
   have HVF:=aB hvf
   have HM:=aB hm
   clear hvf
   obtain⟨wa,hwa⟩:=eX (wr.alloc (.cells #[.int .u8 (m:Int)] 5))
   have hTa:aC (λ_=>False) wr wa:=by rw[hwa];exact (aC.refl _ _).alloc _
   have hrd:aI wa 1 (some ⟨wr.heap.size,0,none⟩) 1 [.int .u8 (m:Int)]:=by
    rw[hwa]
    have h:=aI.new (size:=1) wr 5 [.int .u8 (m:Int)] 1 rfl
    simpa using h
   have hone:∀ u∈([.int .u8 (m:Int)]:List Value),u.oneCell'=true:=by
    intro u hu
    rw[qXd] at hu
    subst hu
    rfl
   have hbb:q+k+1<=maxLen/\(q+k+1)*1<=140737488355328:=by
    have h1:=HQ.out
    have h2:=HB.2.2
    unfold maxLen
    omega
   have HXA:=aB (HX.to hTa)
   have HWA:=aB hwa
   have HRD:=aB hrd
   have HONE:=aB hone
   have HBB:=aB hbb
   have HTA:=aB hTa
   clear hm hwa hTa hrd hone hbb
   go_wp2_with (at_builtin;rw[<-HWA.out];refine aR _ rfl (.tmp 15) (.tmp 18) 50 rfl 5 i0 _ 1 1 Tryz.underlying50 hi0 hz0 hz1 hz2 rfl (by decide) (.slice A3 (q+k) c3) (q+k) _ rfl HXA.own (some ⟨wr.heap.size,0,none⟩) 1 1 [.int .u8 (m:Int)] rfl HRD (λh=>by cases h) HONE HBB.1 HBB.2 ?_;intro v1 w10 O10 G10 F10 _;obtain⟨A7,c7,hv,_,_⟩:=aX O10;subst hv;have HX10:=aB (HXA.app O10 G10 F10);have HG10:=aB G10;have HF10:=aB F10;clear O10 G10 F10)
   have hT10:aC (λg=>(Value.slice A q c).ownBlock=some g) w w10:=(HT.then (HTA.up _)).trans ((aC.refl (λg=>(Value.slice A3 (q+k) c3).ownBlock=some g) wa).grown HG10 (λk e _=>e)) (λg hg e=>by
    rcases HF.out with e2 | ⟨g',e2,hle⟩
    ·exact e2.symm.trans e
    ·rw[e2] at e
     injection e with e
     omega)
   go_ret
   refine⟨A7,q+k+1,c7,rfl,?_,by have:=HB.2.2;omega,hT10⟩
   have h:=HX10.out
   rw[<-HY.out,HVF.out,qJb,<-qQf]
   simp only[qQg,qQd]
   rw[gY (by have:=HM.out;omega)]
   exact h
theorem Wx(w0 w:World)(A:Option Addr)(q c:Nat)(xs:List Value)(h:eB 5 1 w0 w (.slice A q c) q xs)(n:Nat)(hn:n<9223372036854775808)(hq:q<=35184372088832) :
  Calls Tryz.prog 111 #[.slice A q c,.int .i64 n] w λe w'=>∃ (A':Option Addr) (q' c':Nat),e=.returned (.slice A' q' c')/\eB 5 1 w0 w' (.slice A' q' c') q' (xs++(dA n).map aP)/\q'<=q+10/\aC (λg=>(Value.slice A q c).ownBlock=some g) w w':=by
 have HP:=aB (lT w0 w A q c xs h n (by omega) hq)
 have z1:IntKind.u64.wrap (n:Int)=(n:Int):=IntWalk.u64_in _ (by omega)
 clear h hn hq
 go_in
 go_wp2_with ((go_at_call 51;refine HP.mono ?_;rintro e w2 ⟨A',q',c',rfl,h2,hq2,T2⟩;have H2:=aB (And.intro h2 (And.intro hq2 T2));clear h2 hq2 T2))
 go_ret
 exact⟨A',q',c',rfl,H2⟩
def Vb(L:List aE)(i:Nat):Int:=if cD (L.getD i aE.zero).word.toList=false then 71 else if (decide (1<=(L.getD i aE.zero).weight) && decide ((L.getD i aE.zero).weight<=1048576))=false then 72 else 73
theorem Vc(L:List aE)(i:Nat):Vb L i=if cD (L.getD i aE.zero).word.toList=false then 71 else if (decide (1<=(L.getD i aE.zero).weight) && decide ((L.getD i aE.zero).weight<=1048576))=false then 72 else 73:=rfl
def Av(L:List aE):Int:=if L.length<=4096 then (match (List.range L.length).find? (λi=>!Hf L i) with | some i=>Vb L i | none=>0) else 70
theorem Qn(h:¬ L.length<=4096):Av L=70:=by unfold Av;rw[if_neg h]
theorem Es(h4:L.length<=4096)(hi:i<L.length)(hF:∀ k,k<i->Hf L k=true)(hno:Hf L i=false):Av L=Vb L i:=by
 have h:(List.range L.length).find? (λi=>!Hf L i)=some i:=by
  rw[List.find?_range_eq_some]
  exact⟨by rw[hno];rfl,List.mem_range.2 hi,λj hj=>by rw[hF j hj];rfl⟩
 unfold Av
 rw[if_pos h4,h]
theorem aFs{v:Bool}(hx:x=if v=false then 71 else if t=false then 72 else 73)(h:v=false):x=71:=by rw[hx,if_pos h]
theorem aFt{v:Bool}(hx:x=if v=false then 71 else if t=false then 72 else 73)(h:v=true)(h2:t=false):x=72:=by rw[hx,if_neg (by rw[h];decide),if_pos h2]
theorem aFu{v:Bool}(hx:x=if v=false then 71 else if t=false then 72 else 73)(h:v=true)(h2:t=true):x=73:=by rw[hx,if_neg (by rw[h];decide),if_neg (by rw[h2];decide)]
theorem Jc(s:ByteArray)(v:Bool)(h:cD s.toList=v)(hm:s.size<=9223372036854775807)(w:World) :
  Calls Tryz.prog 159 #[.string s] w λe w'=>e=.returned (.bool v)/\aC (λ_=>False) w w':=by
 subst h
 exact Sq w s hm
theorem Dd(a b:ByteArray)(v:Bool)(h:Op.bytesLess a.toList b.toList=v)(ha:a.size<=9223372036854775807)(hb:b.size<=9223372036854775807)(w:World) :
  Calls Tryz.prog 46 #[.string a,.string b] w λe w'=>e=.returned (.bool v)/\aC (λ_=>False) w w':=by
 subst h
 exact Ps a b ha hb w
theorem dU{P:Program}{ops:Array Oper}{C:World->Prop}{Q:Act->Prop}{o:Oper}{l:List Oper}{a:Act}:wpQuiet P ops C Q (o :: l) a=(if Region.wanted o (yielded ops a.tmps) then o.quiet P a C (wpQuiet P ops C Q l) else wpQuiet P ops C Q l (a.put o.dst undef)):=rfl
theorem tD{w0:World}{x y:Addr}{a b:Value}(hx:w0.cell? x=some a)(hxb:x.block<w0.heap.size)(hy:w0.cell? y=some b)(hyb:y.block<w0.heap.size)(ht:aC (λ_=>False) w0 w') :
  w'.cell? x=some a/\w'.cell? y=some b/\aC (λ_=>False) w0 w':=⟨(ht.cell hxb (λf=>f)).trans hx,(ht.cell hyb (λf=>f)).trans hy,ht⟩
deriving instance DecidableEq for bP
def tB(K:List bP)(s:bP):List bP × Nat:=match K.findIdx? (λx=>decide (x=s)) with
 | some i=>(K,i)
 | none=>(K++[s],K.length)
def fQ(st:List bP->Rs->List bP × Nat)(low:Int)(R:Rs):List bP->List Nat->List bP × List (Nat × Int × Nat)
 | K,[]=>(K,[])
 | K,c :: cs=>((fQ st low R (st K (aG R c)).1 cs).1,(c,aW (aG R c)-low,(st K (aG R c)).2) :: (fQ st low R (st K (aG R c)).1 cs).2)
def kM(R:Rs):Int:=if eI R=true then jB R-aW R else 0
def vR:Nat->List bP->Rs->List bP × Nat
 | 0,K,_=>(K,0)
 | f+1,K,R=>tB (fQ (vR f) (aW R) R K (aK R)).1 ⟨eI R,kM R,(fQ (vR f) (aW R) R K (aK R)).2⟩
theorem rX(st:List bP->Rs->List bP × Nat)(low:Int)(R:Rs)(c:Nat):∀ (cs:List Nat) (K:List bP),fQ st low R K (cs++[c])=((st (fQ st low R K cs).1 (aG R c)).1,(fQ st low R K cs).2++[(c,aW (aG R c)-low,(st (fQ st low R K cs).1 (aG R c)).2)])
 | [],K=>rfl
 | d :: cs,K=>by
  simp only[List.cons_append,fQ]
  rw[rX st low R c cs]
theorem Br(h:K[i]? = some s)(hu:∀ j,K[j]? = some s->j=i):tB K s=(K,i):=by
 unfold tB
 cases hf:K.findIdx? (λx=>decide (x=s)) with
 | some j =>
  obtain⟨hj,h1,_⟩:=List.findIdx?_eq_some_iff_getElem.1 hf
  rw[hu j (List.getElem?_eq_some_iff.2 ⟨hj,of_decide_eq_true h1⟩)]
 | none =>
  rw[List.findIdx?_eq_none_iff] at hf
  have:=hf s (qZd h)
  simp at this
theorem Bq(h:s ∉ K):tB K s=(K++[s],K.length):=by
 unfold tB
 cases hf:K.findIdx? (λx=>decide (x=s)) with
 | none=>rfl
 | some j =>
  obtain⟨hj,h1,_⟩:=List.findIdx?_eq_some_iff_getElem.1 hf
  have e:K[j]=s:=of_decide_eq_true h1
  exact absurd (e ▸ List.getElem_mem hj) h
theorem Fs{k:iJ}{l m:Rs}(h:aJ l=aJ m):aY f k l=aY f k m:=by
 cases f with
 | zero=>rfl
 | succ f=>simp only[aY,h]
theorem rT(l:Rs)(hs:bK l):aK (aJ l)=aK l:=by
 have h1:=cM (eN hs)
 have h2:=cM hs
 refine lD (lt:=(·<·)) (λa=>Nat.lt_irrefl a) (λa b h=>Nat.not_lt_of_lt h) h1 h2 λc=>?_
 rw[bD,bD,gZ,iF]
 unfold fO
 simp
theorem tH(l:Rs):eI (aJ l)=eI l:=by
 rw[Bool.eq_iff_iff,eD,eD]
 constructor
 ·rintro⟨n,h⟩
  exact⟨_,cV.1 h⟩
 ·rintro⟨n,h⟩
  exact⟨n-aW l,cV.2 (by rw[Int.sub_add_cancel];exact h)⟩
theorem Cy(l:Rs)(hs:bK l):jB (aJ l)=kM l:=by
 unfold kM
 by_cases h:eI l=true
 ·rw[if_pos h]
  obtain⟨n,hn⟩:=eD.1 h
  rw[fX hs hn]
  exact fX (eN hs) (cV.2 (by rw[Int.sub_add_cancel];exact hn))
 ·rw[if_neg h]
  exact tR (eN hs) (by rw[tH];simpa using h)
theorem vO(l:Rs)(c:Nat):aJ (aG (aJ l) c)=aJ (aG l c):=by
 rw[gZ l,iF,kS]
theorem sE(l:Rs){c:Nat}(h:aG l c≠[]):aW (aG (aJ l) c)=aW (aG l c)-aW l:=by
 rw[gZ l,iF,lR _ h]
def Tz(f:Nat):Prop:=∀ (k:iJ) (R:Rs),jY k->bK R->R≠[]->fF R<f->vR f k.states R=((aY f k R).1.states,(aY f k R).2)
theorem Gm(ih:Tz f){R:Rs}(hs:bK R)(hd:fF R<=f):∀ (cs:List Nat) (k:iJ),jY k->(∀ c∈cs,aG R c≠[]) ->
  fQ (vR f) (aW R) R k.states cs=((cJ (aY f) (aJ R) k cs).1.states,(cJ (aY f) (aJ R) k cs).2)
 | [],k,_,_=>rfl
 | c :: cs,k,hk,hc=>by
  have hc1:=hc c (qZg)
  have hdu:=eW hc1
  have h1:=ih k (aG R c) hk (dZ c hs) hc1 (by omega)
  have h2:=iD f k (aG R c) hk (dZ c hs) hc1 (by omega)
  have h3:=Gm ih hs hd cs (aY f k (aG R c)).1 h2.1 (λd hd=>hc d (qZe _ hd))
  have h4:aY f k (aG (aJ R) c)=aY f k (aG R c):=Fs (vO R c)
  simp only[fQ,cJ,h1,h3,h4,sE R hc1]
theorem Gn(ih:Tz f){R:Rs}(hs:bK R)(hd:fF R<=f){k:iJ}(hk:jY k)(hi:k.rests[i]? = some (aJ R))(hc:vQ k.rests i (aJ R) s):∀ (xs:List (Nat × Int × Nat)),(∀ a∈xs,a∈s.arcs) ->
  fQ (vR f) (aW R) R k.states (xs.map (·.1))=(k.states,xs)
 | [],_=>rfl
 | a :: xs,ha=>by
  have h0:=ha a (qZg)
  have hm:a.1∈aK (aJ R):=by rw[<-hc.labels];exact qXe h0
  have hc1:aG R a.1≠[]:=by rw[rT R hs] at hm;exact bD.1 hm
  have hdu:=eW hc1
  obtain⟨g1,g2,g3⟩:=hc.arc a h0
  rw[vO] at g3
  rw[sE R hc1] at g1
  have h1:=ih k (aG R a.1) hk (dZ a.1 hs) hc1 (by omega)
  have h2:aY f k (aG R a.1)=(k,a.2.2):=by
   cases f with
   | zero=>omega
   | succ f =>
    have hx:jT k.rests (aJ (aG R a.1))=some a.2.2:=by
     cases hx:jT k.rests (aJ (aG R a.1)) with
     | none=>exact absurd (qZd g3) (tJ hx)
     | some j =>
      have hj:=pC hx
      obtain⟨l1,e1⟩:=List.getElem?_eq_some_iff.1 hj
      obtain⟨l2,e2⟩:=List.getElem?_eq_some_iff.1 g3
      rw[(qXf hk.nodup).1 (e1.trans e2.symm)]
    simp only[aY,hx]
  rw[h2] at h1
  have h3:=Gn ih hs hd hk hi hc xs (λd hd=>ha d (qZe _ hd))
  simp only[qQg,fQ,h1,h3,<-g1]
theorem Ly:∀ f,Tz f
 | 0=>λ_ _ _ _ _ h=>absurd h (qQb _)
 | f+1=>λk R hk hs hne hd=>by
  have hlf:=rT R hs
  simp only[vR,aY]
  cases hi:jT k.rests (aJ R) with
  | some i =>
   have hR:=pC hi
   obtain⟨s,hsi⟩:∃ s,k.states[i]? = some s:=by
    have:=(List.getElem?_eq_some_iff.1 hR).1
    rw[hk.len] at this
    exact⟨_,qZb this⟩
   have hc:=hk.corr i _ _ hR hsi
   have ha:=Gn (Ly f) hs (by omega) hk hR hc s.arcs (λ_ h=>h)
   rw[hc.labels,hlf] at ha
   rw[ha]
   have he:(⟨eI R,kM R,s.arcs⟩:bP)=s:=by
    obtain⟨sf,so,sa⟩:=s
    have h1:=hc.fin
    have h2:=hc.out
    simp only at h1 h2
    rw[tH] at h1
    rw[Cy R hs] at h2
    rw[h1,h2]
   simp only
   rw[he]
   exact Br hsi (λj hj=>hk.unalike hj hsi)
  | none =>
   have hsl:=eN hs
   have ha:=Gm (Ly f) hs (by omega) (aK R) k hk (λc hc=>bD.1 hc)
   rw[ha]
   obtain⟨h1,h2,h3,h4⟩:=nG (iD f) hsl (by rw[eH];omega) (aK (aJ R)) k hk (λc hc=>bD.1 hc)
   rw[hlf] at h1 h2 h3 h4 ⊢
   have hnew:=Wn (tJ hi) hsl (yS hne) (vB hne) h1 h2 (by rw[hlf];exact h3) h4
   simp only
   rw[<-tH R,<-Cy R hs]
   refine Bq λhm=>?_
   obtain⟨j,hj,e⟩:=qJf hm
   have e1:((cJ (aY f) (aJ R) k (aK R)).1.states++[(⟨eI (aJ R),jB (aJ R),(cJ (aY f) (aJ R) k (aK R)).2⟩:bP)])[j]? = some ⟨eI (aJ R),jB (aJ R),(cJ (aY f) (aJ R) k (aK R)).2⟩:=by
    rw[qZc hj,qZb hj,e]
   have e2:((cJ (aY f) (aJ R) k (aK R)).1.states++[(⟨eI (aJ R),jB (aJ R),(cJ (aY f) (aJ R) k (aK R)).2⟩:bP)])[(cJ (aY f) (aJ R) k (aK R)).1.states.length]? = some ⟨eI (aJ R),jB (aJ R),(cJ (aY f) (aJ R) k (aK R)).2⟩:=by
    rw[qZf (qZa _),Nat.sub_self]
    rfl
   have:=hnew.unalike e1 e2
   omega
section
open Go.RowKit Go.WideMaps Go.WideElems Go.ChangeShapes Go.WideShapes Go.MapKept Go.ChangeMaps
theorem aAv:KeyLaw Tryz.prog 281 := deep_law (m:=2) (by decide) (by kernel_rfl) (by kernel_rfl) (by kernel_rfl)
theorem tO:Maps.Keyed Tryz.prog 281 := Maps.Keyed.of_law aAv
theorem tQ:Maps.Keyed Tryz.prog 3 := Maps.int_keyed Tryz.underlying3
structure oY(w:World)(b:Nat)(kt:TypeId)(ks:List Value):Prop where
 ex:∃ es clock,w.heap[b]? = some (.map es clock)/\Stamped es clock/\es.toList.map (·.key)=ks/\es.toList.map (·.val)=(List.range ks.length).map oN
 keys:∀ v∈ks,∃ l,keyOf Tryz.prog kt v=some l
 nodup:ks.Nodup
theorem oY.lt(h:oY w b kt ks):b<w.heap.size:=by
 obtain⟨es,clock,hb,_⟩:=h.ex
 exact nL hb
theorem oY.far{S:Nat->Prop}(h:oY w b kt ks)(T:aC S w w')(hb:¬ S b):oY w' b kt ks:=by
 obtain⟨es,clock,e1,e2⟩:=h.ex
 exact⟨⟨es,clock,(T.block b h.lt hb).trans e1,e2⟩,h.keys,h.nodup⟩
theorem oY.quiet(h:oY w b kt ks)(T:aC (λ_=>False) w w'):oY w' b kt ks:=h.far T (λf=>f)
theorem oY.ne{g:Nat}{t:TypeId}(h:oY w b kt ks)(hg:bE w g t):g≠b:=by
 obtain⟨es,clock,hb,_⟩:=h.ex
 exact lY hg hb
theorem oY.new(w:World)(kt:TypeId):oY (w.alloc (.map #[] 0)) w.heap.size kt []:=⟨⟨#[],0,heap_alloc_new w _,stamped_empty 0,rfl,rfl⟩,λv hv=>(by cases hv),List.nodup_nil⟩
theorem oY.look(h:oY w b kt ks)(K:Maps.Keyed Tryz.prog kt)(ht:Tryz.prog.underlying mt=some (.map kt 3))(hv:keyOf Tryz.prog kt v=some l) :
  (v ∉ ks/\(Instr.lookup mt (.map (some b)) v true).run Tryz.prog w=.ok (.tuple #[.int .i64 0,.bool false]) w) \/
  ∃ i:Nat,ks[i]? = some v/\(Instr.lookup mt (.map (some b)) v true).run Tryz.prog w=.ok (.tuple #[.int .i64 i,.bool true]) w:=by
 obtain⟨es,clock,hb,_,hk,hvl⟩:=h.ex
 have hz:(zeroValue 3).run Tryz.prog w=.ok (.int .i64 0) w:=by kernel_rfl
 have hkeys:∀ e∈es.toList,∃ l,keyOf Tryz.prog kt e.key=some l:=λe he=>h.keys e.key (by rw[<-hk];exact qXe he)
 rcases K.find w hv es.toList hkeys with⟨h1,h2⟩ | ⟨j,e0,h1,h2,h3⟩
 ·refine .inl ⟨λhm=>?_,by simp[Instr.lookup,run_underlying ht,MapKept.run_getObj_map hb,K.check w _ hv,h1,hz,Result.andThen]⟩
  rw[<-hk] at hm
  obtain⟨e,he,e2⟩:=List.mem_map.1 hm
  exact h2 e he e2
 ·have hkj:ks[j]? = some v:=by rw[<-hk,qXb,h2,<-h3];rfl
  have hvj:e0.val=oN j:=by
   have e1:(es.toList.map (·.val))[j]? = some e0.val:=by rw[qXb,h2];rfl
   rw[hvl,qXb,List.getElem?_range (List.getElem?_eq_some_iff.1 hkj).1] at e1
   simp only[Option.map_some,Option.some.injEq] at e1
   exact e1.symm
  refine .inr ⟨j,hkj,?_⟩
  simp[Instr.lookup,run_underlying ht,MapKept.run_getObj_map hb,K.check w _ hv,h1,Result.andThen,hvj,oN]
theorem oY.len(h:oY w b kt ks)(ht:Tryz.prog.underlying mt=some (.map kt 3))(ty:TypeId):(Builtin.len_ #[mt] ty #[.map (some b)]).run Tryz.prog w=.ok (.int .i64 (ks.length:Int)) w:=by
 obtain⟨es,clock,hb,_,hk,_⟩:=h.ex
 have hs:es.size=ks.length:=by rw[<-hk,qXc,Array.length_toList]
 simp[Builtin.len_,run_underlying ht,MapKept.run_getObj_map hb,goInt,hs]
theorem oY.no(h:oY w b kt ks)(K:Maps.Keyed Tryz.prog kt)(ht:Tryz.prog.underlying mt=some (.map kt 3))(hv:keyOf Tryz.prog kt v=some l)(hn:v ∉ ks) :
  (Instr.lookup mt (.map (some b)) v true).run Tryz.prog w=.ok (.tuple #[.int .i64 0,.bool false]) w:=by
 rcases h.look K ht hv with⟨_,h1⟩ | ⟨i,h1,_⟩
 ·exact h1
 ·exact absurd (qZd h1) hn
theorem oY.yes(h:oY w b kt ks)(K:Maps.Keyed Tryz.prog kt)(ht:Tryz.prog.underlying mt=some (.map kt 3))(hv:keyOf Tryz.prog kt v=some l)(hi:ks[i]? = some v) :
  (Instr.lookup mt (.map (some b)) v true).run Tryz.prog w=.ok (.tuple #[.int .i64 i,.bool true]) w:=by
 rcases h.look K ht hv with⟨h1,_⟩ | ⟨j,h1,h2⟩
 ·exact absurd (qZd hi) h1
 ·obtain⟨l1,e1⟩:=List.getElem?_eq_some_iff.1 hi
  obtain⟨l2,e2⟩:=List.getElem?_eq_some_iff.1 h1
  rw[(qXf h.nodup).1 (e1.trans e2.symm)]
  exact h2
theorem oY.put(h:oY w b kt ks)(K:Maps.Keyed Tryz.prog kt)(ht:Tryz.prog.underlying mt=some (.map kt 3))(hv:keyOf Tryz.prog kt v=some l)(hn:v ∉ ks) :
  ∃ o,(Instr.mapUpdate mt (.map (some b)) v (.int .i64 (ks.length:Int))).run Tryz.prog w=.ok () (setBlock w b o)/\oY (setBlock w b o) b kt (ks++[v]):=by
 obtain⟨es,clock,hb,hs,hk,hvl⟩:=h.ex
 have hkeys:∀ e∈es.toList,∃ l,keyOf Tryz.prog kt e.key=some l:=λe he=>h.keys e.key (by rw[<-hk];exact qXe he)
 rcases K.find w hv es.toList hkeys with⟨h1,h2⟩ | ⟨j,e0,h1,h2,h3⟩
 ·refine⟨.map (es.push ⟨v,.int .i64 (ks.length:Int),clock⟩) (clock+1),?_,⟨⟨_,_,eY h.lt,stamped_push hs h2,?_,?_⟩,?_,?_⟩⟩
  ·simp[Instr.mapUpdate,run_underlying ht,MapKept.run_getObj_map hb,K.check w false hv,h1,MapKept.run_setObj_map _ hb,Result.andThen,setBlock]
  ·rw[Array.toList_push,qJb,hk];rfl
  ·rw[Array.toList_push,qJb,hvl,List.length_append,List.length_singleton,List.range_succ,qJb];rfl
  ·intro x hx
   rcases List.mem_append.1 hx with hx | hx
   ·exact h.keys x hx
   ·rw[List.mem_singleton.1 hx];exact⟨l,hv⟩
  ·rw[List.nodup_append]
   refine⟨h.nodup,by simp,?_⟩
   intro a ha c hc e
   rw[List.mem_singleton.1 hc] at e
   exact hn (e ▸ ha)
 ·exfalso
  apply hn
  rw[<-hk,<-h3]
  exact qXe (qZd h2)
def jS(fin:Bool)(out:Int):Value:=.agg #[.bool fin,.int .i64 out,.int .i64 0,.int .i64 0,.int .i64 (-1),.int .i64 0]
def oB(a:Nat × Int × Nat)(k:Nat):Value:=.agg #[.bool false,.int .i64 0,.int .i64 (a.1:Int),.int .i64 a.2.1,.int .i64 (a.2.2:Int),.int .i64 ((k:Int)+1)]
theorem aAa{f g:Bool}{p:Int}(h:jS f o=jS g p):f=g/\o=p:=by
 unfold jS at h
 simp only[Value.agg.injEq,Array.mk.injEq,List.cons.injEq,Value.bool.injEq,Value.int.injEq,true_and,and_true] at h
 exact h
theorem Zm{a b:Nat × Int × Nat}{m:Nat}(h:oB a k=oB b m):a=b/\k=m:=by
 obtain⟨a1,a2,a3⟩:=a
 obtain⟨b1,b2,b3⟩:=b
 unfold oB at h
 simp only[Value.agg.injEq,Array.mk.injEq,List.cons.injEq,Value.int.injEq,true_and,and_true] at h
 obtain⟨h1,h2,h3,h4⟩:=h
 exact⟨by rw[show a1=b1 by omega,h2,show a3=b3 by omega],by omega⟩
theorem Oc{f:Bool}{a:Nat × Int × Nat}(h:jS f o=oB a k):False:=by
 unfold jS oB at h
 simp only[Value.agg.injEq,Array.mk.injEq,List.cons.injEq,Value.bool.injEq,Value.int.injEq,true_and,and_true] at h
 omega
theorem aDw:Tryz.prog.keyType 281 = true:=by kernel_rfl
theorem Hu:Tryz.prog.cellsOf 281 = 6:=by kernel_rfl
theorem Ll:Tryz.prog.cellsOf 4 = 1:=by kernel_rfl
theorem aAu{b:Bool}{x1 x2 x3 x4 x5:Int}(h1:mJ x1)(h2:mJ x2)(h3:mJ x3)(h4:mJ x4)(h5:mJ x5):∃ l,keyOf Tryz.prog 281 (.agg #[.bool b,.int .i64 x1,.int .i64 x2,.int .i64 x3,.int .i64 x4,.int .i64 x5])=some l:=by
 have hs:∃ m,Tryz.prog.types.size=m+1:=⟨Tryz.prog.types.size-1,by kernel_rfl⟩
 obtain⟨m,hm⟩:=hs
 refine⟨.string (keyBytes [.bool b,.int .i64 x1,.int .i64 x2,.int .i64 x3,.int .i64 x4,.int .i64 x5]),?_⟩
 have e0:Tryz.prog.keyLits (m+1) 4 [.bool b]=some [.bool b]:=by
  unfold Program.keyLits
  simp[Tryz.underlying4]
 have e1:∀ x,mJ x->Tryz.prog.keyLits (m+1) 3 [.int .i64 x]=some [.int .i64 x]:=by
  intro x hx
  unfold Program.keyLits
  simp[Tryz.underlying3,Mc hx]
 unfold keyOf
 simp only[Tryz.underlying281,aDw,Value.formed,Hu,Bool.true_and]
 rw[hm]
 unfold Program.keyLits
 simp only[Tryz.underlying281,Hu,Value.cells]
 simp[Ca,Ll,e0,e1 _ h1,e1 _ h2,e1 _ h3,e1 _ h4,e1 _ h5]
def jQ(Lk:List Value)(fin:Bool)(out:Int):List (Nat × Int × Nat)->Nat->Prop
 | [],k=>Lk[k]? = some (jS fin out)
 | a :: l,k=>∃ m,jQ Lk fin out l m/\Lk[k]? = some (oB a m)
theorem yX{α:Type}{l:List α}(h:l.Nodup){x:α}(hi:l[i]? = some x)(hj:l[j]? = some x):i=j:=by
 obtain⟨l1,e1⟩:=List.getElem?_eq_some_iff.1 hi
 obtain⟨l2,e2⟩:=List.getElem?_eq_some_iff.1 hj
 exact (qXf h).1 (e1.trans e2.symm)
theorem tF(h:Lk.Nodup):∀ (l:List (Nat × Int × Nat)) {k m:Nat},jQ Lk fin out l k->jQ Lk fin out l m->k=m
 | [],_,_,h1,h2=>yX h h1 h2
 | a :: l,_,_,⟨x,h1,e1⟩,⟨y,h2,e2⟩=>by
  obtain rfl:=tF h l h1 h2
  exact yX h e1 e2
theorem Cb{f g:Bool}{p:Int}:∀ (l m:List (Nat × Int × Nat)) {k:Nat},jQ Lk f o l k->jQ Lk g p m k->f=g/\o=p/\l=m
 | [],[],k,h1,h2=>by
  have h1:Lk[k]? = some (jS f o):=h1
  have h2:Lk[k]? = some (jS g p):=h2
  rw[h1] at h2
  obtain⟨e1,e2⟩:=aAa (Option.some.inj h2)
  exact⟨e1,e2,rfl⟩
 | [],b :: m,k,h1,⟨y,_,e2⟩=>by
  have h1:Lk[k]? = some (jS f o):=h1
  rw[h1] at e2
  exact (Oc (Option.some.inj e2)).elim
 | a :: l,[],k,⟨x,_,e1⟩,h2=>by
  have h2:Lk[k]? = some (jS g p):=h2
  rw[h2] at e1
  exact (Oc (Option.some.inj e1)).elim
 | a :: l,b :: m,_,⟨x,h1,e1⟩,⟨y,h2,e2⟩=>by
  rw[e1] at e2
  obtain⟨rfl,rfl⟩:=Zm (Option.some.inj e2)
  obtain⟨r1,r2,r3⟩:=Cb l m h1 h2
  exact⟨r1,r2,by rw[r3]⟩
theorem tE{M:List Value}:∀ (l:List (Nat × Int × Nat)) {k:Nat},jQ Lk fin out l k->jQ (Lk++M) fin out l k
 | [],k,h=>by
  have h:Lk[k]? = _:=h
  show (Lk++M)[k]? = _
  rw[qZc (List.getElem?_eq_some_iff.1 h).1]
  exact h
 | a :: l,k,⟨x,h1,e1⟩=>⟨x,tE l h1,by rw[qZc (List.getElem?_eq_some_iff.1 e1).1];exact e1⟩
theorem Gu:∀ (l:List (Nat × Int × Nat)) {k:Nat},jQ Lk fin out l k->k<Lk.length
 | [],_,h=>(List.getElem?_eq_some_iff.1 h).1
 | _ :: _,_,⟨_,_,e⟩=>(List.getElem?_eq_some_iff.1 e).1
structure As(Lk:List Value)(K:List bP)(Bk:List Nat):Prop where
 len:Bk.length=K.length
 says:∀ (j:Nat) (s:bP) (k:Nat),K[j]? = some s->Bk[j]? = some k->jQ Lk s.fin s.out s.arcs k
theorem As.ext{M:List Value}(h:As Lk K Bk):As (Lk++M) K Bk:=⟨h.len,λj s k h1 h2=>tE _ (h.says j s k h1 h2)⟩
theorem As.old(h:As Lk K Bk)(hL:Lk.Nodup)(hB:Bk.Nodup)(hs:jQ Lk s.fin s.out s.arcs k)(hj:Bk[j]? = some k):tB K s=(K,j):=by
 obtain⟨x,hx⟩:∃ x,K[j]? = some x:=by
  have:=(List.getElem?_eq_some_iff.1 hj).1
  rw[h.len] at this
  exact⟨_,qZb this⟩
 obtain⟨e1,e2,e3⟩:=Cb _ _ (h.says j x k hx hj) hs
 obtain rfl:x=s:=by
  obtain⟨x1,x2,x3⟩:=x
  obtain⟨s1,s2,s3⟩:=s
  simp only at e1 e2 e3
  rw[e1,e2,e3]
 refine Br hx λi hi=>?_
 obtain⟨m,hm⟩:∃ m,Bk[i]? = some m:=by
  have:=(List.getElem?_eq_some_iff.1 hi).1
  rw[<-h.len] at this
  exact⟨_,qZb this⟩
 obtain rfl:=tF hL _ (h.says i x m hi hm) hs
 exact yX hB hm hj
theorem As.new(h:As Lk K Bk)(hL:Lk.Nodup)(hs:jQ Lk s.fin s.out s.arcs k)(hk:k ∉ Bk):tB K s=(K++[s],K.length)/\As Lk (K++[s]) (Bk++[k]):=by
 refine⟨Bq λhm=>?_,by simp[h.len],λj x m hx hm=>?_⟩
 ·obtain⟨j,hj,e⟩:=qJf hm
  have hjB:j<Bk.length:=by rw[h.len];exact hj
  have h1:=h.says j s Bk[j] (by rw[qZb hj,e]) (qZb hjB)
  rw[tF hL _ hs h1] at hk
  exact hk (List.getElem_mem hjB)
 ·by_cases hj:j<K.length
  ·rw[qZc hj] at hx
   rw[qZc (by rw[h.len];exact hj)] at hm
   exact h.says j x m hx hm
  ·have hj2:j=K.length:=by
    have:=(List.getElem?_eq_some_iff.1 hx).1
    rw[List.length_append] at this
    simp at this
    omega
   subst hj2
   rw[qZf (qZa _),Nat.sub_self] at hx
   rw[<-h.len,qZf (qZa _),Nat.sub_self] at hm
   simp only[List.getElem?_cons_zero,Option.some.injEq] at hx hm
   subst hx hm
   exact hs
end
end Go.Proofs.YthockgmbooefpaaGreatDoor
