/- What the law rests on, part 22. No condition but those that each theorem names. -/
import Derived.Test.YthockgmbooefpaaDoorD21
import Derived.Test.YthockgmbooefpaaDoorD17
import Derived.StillTailTactics
import Derived.Laws.Cover3
set_option linter.unusedSectionVars false
set_option linter.unusedSimpArgs false
set_option linter.unusedVariables false
namespace Go.Proofs.YthockgmbooefpaaDoor
open Go.RowKit
variable [Inhabited BaseT]
def StZ.p (z:StZ):StP:=⟨z.fin,z.out,z.arcs.map fun a=>(a.1.toNat,a.2.1,a.2.2.toNat)⟩
theorem z_p (s:StP):s.z.p=s:=by
 obtain ⟨f,o,l⟩:=s
 simp only [StP.z,StZ.p,List.map_map,StP.mk.injEq,true_and]
 have e:((fun a:Int × Int × Int=>(a.1.toNat,a.2.1,a.2.2.toNat)) ∘ arcZ)=id:=by
  funext a
  obtain ⟨a,b,c⟩:=a
  simp [arcZ]
 rw [e,List.map_id]
theorem formZ_p {num:Nat} {z:StZ} (h:FormZ num z):z.p.z=z∧FormP num z.p:=by
 obtain ⟨s,rfl,hs⟩:=h
 rw [z_p]
 exact ⟨rfl,hs⟩
def RgtZ (zs:List StZ) (base:Int):Prop:=∃ sts:List StP,zs=sts.map StP.z∧RgtP sts base
def stsOf (Z:List ZV):List StP:=Z.map fun z=>z.p.p
theorem stsOf_len (Z:List ZV):(stsOf Z).length=Z.length:=by simp [stsOf]
theorem stsOf_get {Z:List ZV} {i:Nat} (h:i<Z.length):(stsOf Z).getD i noSt=(Z.getD i zvZero).p.p:=by
 simp [stsOf,List.getD,h]
theorem rgtZ_sts {Z:List ZV} {base:Int} (h:RgtZ (Z.map ZV.p) base):RgtP (stsOf Z) base∧∀ i,i<Z.length→(Z.getD i zvZero).p=((stsOf Z).getD i noSt).z:=by
 obtain ⟨sts,h1,h2⟩:=h
 have e:stsOf Z=sts:=by
  have h3:(Z.map ZV.p).map StZ.p=(sts.map StP.z).map StZ.p:=by rw [h1]
  rw [List.map_map,List.map_map] at h3
  have e2:(StZ.p ∘ StP.z)=id:=by funext s;exact z_p s
  rw [e2,List.map_id] at h3
  exact h3
 rw [e]
 refine ⟨h2,fun i hi=>?_⟩
 have h3:=congrArg (fun l=>l[i]?) h1
 simp only [List.getElem?_map] at h3
 have hl:sts.length=Z.length:=by have:=congrArg List.length h1;simpa using this.symm
 have hi2:i<sts.length:=by omega
 simpa [List.getD,hi,hi2] using h3
theorem uF_get {sts:List StP} {n:Nat}:∀ (i j:Nat),j<i→i≤n→(uF sts n i).getD j z3=sumP (uF sts n j) (sts.getD j noSt) (sts.getD j noSt).arcs.length
 | 0,_,h,_=>absurd h (Nat.not_lt_zero _)
 | i+1,j,h,hn=>by
  simp only [uF]
  by_cases e:j=i
  ·subst e
   rw [List.getD_eq_getElem?_getD,List.getElem?_set_self (by rw [uF_len];omega)]
   rfl
  ·rw [List.getD_eq_getElem?_getD,List.getElem?_set_ne (by omega),← List.getD_eq_getElem?_getD]
   exact uF_get i j (by omega) (by omega)
structure Rg (Z:List ZV) (n i:Nat):Prop where
 form:∀ j,j<i→FormZ j (Z.getD j zvZero).p
 sum:∀ j,j<i→SumB (uF (stsOf Z) n j) ((stsOf Z).getD j noSt)
 unl:∀ j k,j<i→k<i→(stsOf Z).getD j noSt=(stsOf Z).getD k noSt→j=k
theorem Rg.zero (Z:List ZV) (n:Nat):Rg Z n 0:=⟨fun _ h=>absurd h (Nat.not_lt_zero _),fun _ h=>absurd h (Nat.not_lt_zero _),fun _ _ h=>absurd h (Nat.not_lt_zero _)⟩
theorem Rg.formP {Z:List ZV} {n i:Nat} (h:Rg Z n i) (hl:Z.length=n) (hi:i≤n) {j:Nat} (hj:j<i):FormP j ((stsOf Z).getD j noSt)∧((stsOf Z).getD j noSt).z=(Z.getD j zvZero).p:=by
 rw [stsOf_get (by omega)]
 have:=formZ_p (h.form j hj)
 exact ⟨this.2,this.1⟩
theorem Rg.sumE {Z:List ZV} {n i:Nat} (h:Rg Z n i) {s:StP} (hi:i<n) (hs:FormP i s):SumE (uF (stsOf Z) n i) n s:=by
 intro a ha
 have h1:=hs.arc a ha
 have h2:=h.sum a.2.2 h1.2.2
 rw [uF_get i a.2.2 h1.2.2 (by omega)]
 exact ⟨by omega,⟨h1.1,h1.2.1⟩,h2 _⟩
theorem Rg.step {Z:List ZV} {n i:Nat} (h:Rg Z n i) (hf:FormZ i (Z.getD i zvZero).p) (hs:SumB (uF (stsOf Z) n i) ((stsOf Z).getD i noSt)) (hu:∀ k,k<i→(stsOf Z).getD k noSt≠(stsOf Z).getD i noSt):Rg Z n (i+1):=by
 refine ⟨?_,?_,?_⟩
 ·intro j hj
  rcases Nat.lt_succ_iff_lt_or_eq.1 hj with hj | rfl
  ·exact h.form j hj
  ·exact hf
 ·intro j hj
  rcases Nat.lt_succ_iff_lt_or_eq.1 hj with hj | rfl
  ·exact h.sum j hj
  ·exact hs
 ·intro j k hj hk e
  rcases Nat.lt_succ_iff_lt_or_eq.1 hj with hj | rfl
  ·rcases Nat.lt_succ_iff_lt_or_eq.1 hk with hk | rfl
   ·exact h.unl j k hj hk e
   ·exact absurd e (hu j hj)
  ·rcases Nat.lt_succ_iff_lt_or_eq.1 hk with hk | rfl
   ·exact absurd e.symm (hu k hk)
   ·rfl
theorem visF_mono (sts:List StP):∀ (f i:Nat) (s s':List Bool) (n n':Nat),visF sts f i s n=(true,s',n')→∀ g,f≤g→visF sts g i s n=(true,s',n')
 | 0,_,_,_,_,_,h,_,_=>by simp [visF] at h
 | f+1,i,s,s',n,n',h,g,hg=>by
  obtain ⟨g,rfl⟩:∃ k,g=k+1:=⟨g-1,by omega⟩
  simp only [visF] at h ⊢
  have ih:=visF_mono sts f
  have hv:∀ (l:List (Nat × Int × Nat)) (s s':List Bool) (n n':Nat),visArcs (visF sts f) l s n=(true,s',n')→visArcs (visF sts g) l s n=(true,s',n'):=by
   intro l
   induction l with
   | nil=>intro s s' n n' h;exact h
   | cons a l ih2 =>
    intro s s' n n' h
    simp only [visArcs] at h ⊢
    by_cases hs:s.getD a.2.2 false=true
    ·rw [if_pos hs] at h ⊢
     exact ih2 _ _ _ _ h
    ·rw [if_neg hs] at h ⊢
     obtain ⟨⟨ok,s1,n1⟩,hr⟩:∃ r,visF sts f a.2.2 s n=r:=⟨_,rfl⟩
     rw [hr] at h
     cases ok with
     | false=>simp at h
     | true =>
      rw [ih _ _ _ _ _ hr g (by omega)]
      exact ih2 _ _ _ _ h
  obtain ⟨⟨ok,s1,n1⟩,hr⟩:∃ r,visArcs (visF sts f) (sts.getD i noSt).arcs s n=r:=⟨_,rfl⟩
  rw [hr] at h
  cases ok with
  | false=>simp at h
  | true =>
   rw [hv _ _ _ _ _ hr]
   exact h
theorem visF_fuel (sts:List StP) (hlt:∀ i,i<sts.length→∀ a∈(sts.getD i noSt).arcs,a.2.2<i):∀ (f i:Nat) (s:List Bool) (n:Nat),i<f→i<sts.length→∀ g,f≤g→visF sts g i s n=visF sts f i s n
 | 0,_,_,_,h,_,_,_=>absurd h (Nat.not_lt_zero _)
 | f+1,i,s,n,hi,hil,g,hg=>by
  obtain ⟨g,rfl⟩:∃ k,g=k+1:=⟨g-1,by omega⟩
  simp only [visF]
  have hv:∀ (l:List (Nat × Int × Nat)),(∀ a∈l,a.2.2<i)→∀ (s:List Bool) (n:Nat),visArcs (visF sts g) l s n=visArcs (visF sts f) l s n:=by
   intro l
   induction l with
   | nil=>intro _ s n;rfl
   | cons a l ih2 =>
    intro hl s n
    simp only [visArcs]
    have ha:=hl a List.mem_cons_self
    rw [visF_fuel sts hlt f a.2.2 s n (by omega) (by omega) g (by omega)]
    by_cases hs:s.getD a.2.2 false=true
    ·rw [if_pos hs,if_pos hs]
     exact ih2 (fun b hb=>hl b (List.mem_cons_of_mem _ hb)) _ _
    ·rw [if_neg hs,if_neg hs]
     obtain ⟨⟨ok,s1,n1⟩,hr⟩:∃ r,visF sts f a.2.2 s n=r:=⟨_,rfl⟩
     rw [hr]
     cases ok with
     | false=>rfl
     | true=>exact ih2 (fun b hb=>hl b (List.mem_cons_of_mem _ hb)) _ _
  rw [hv _ (hlt i hil)]
theorem Rg.right {Z:List ZV} {n:Nat} {base:Int} (h:Rg Z n n) (hl:Z.length=n) (hpos:0<n) (hfew:n≤98305) (hb1:1≤base) (hb2:base≤1048576) (hroot:(Z.getD (n-1) zvZero).fin=false) :
  (base+((uF (stsOf Z) n n).getD (n-1) z3).2.2≤1048576∧∃ s',visF (stsOf Z) n (n-1) (List.replicate n false) 0=(true,s',n))↔RgtZ (Z.map ZV.p) base:=by
 have hsl:(stsOf Z).length=n:=by rw [stsOf_len,hl]
 constructor
 ·rintro ⟨htop,s',hvis⟩
  refine ⟨stsOf Z,?_,.inr ⟨by omega,by omega,hb1,hb2,?_,?_,?_,?_,?_,?_,⟨n,s',?_⟩⟩⟩
  ·apply List.ext_getElem
   ·simp [stsOf_len]
   ·intro i h1 h2
    simp only [List.length_map] at h1 h2
    have:=(h.formP hl (Nat.le_refl _) (j:=i) (by omega)).2
    simp only [List.getElem_map]
    have e1:(stsOf Z).getD i noSt=(stsOf Z)[i]:=by simp [List.getD,h2]
    have e2:Z.getD i zvZero=Z[i]:=by simp [List.getD,h1]
    rw [e1,e2] at this
    exact this.symm
  ·rw [hsl,stsOf_get (by omega)]
   exact hroot
  ·intro i hi
   exact (h.formP hl (Nat.le_refl _) (by omega)).1
  ·intro i hi
   rw [hsl]
   exact h.sum i (by omega)
  ·intro i hi a ha
   rw [hsl]
   have h1:=(h.formP hl (Nat.le_refl _) (j:=i) (by omega)).1
   have hc:=h1.arc a ha
   rw [uF_get i a.2.2 hc.2.2 (by omega)]
   exact h.sum a.2.2 (by omega) _
  ·rw [hsl]
   exact htop
  ·intro i j hi hj e
   exact h.unl i j (by omega) (by omega) e
  ·rw [hsl]
   exact hvis
 ·intro hr
  have hr2:=(rgtZ_sts hr).1
  rcases hr2 with ⟨e,_⟩ | hr2
  ·rw [e] at hsl
   simp at hsl
   omega
  ·have htop:=hr2.top
   obtain ⟨F,s',hvis⟩:=hr2.vis
   rw [hsl] at htop hvis
   refine ⟨htop,s',?_⟩
   have h1:=visF_mono _ _ _ _ _ _ _ hvis (max F n) (Nat.le_max_left _ _)
   have h2:=visF_fuel (stsOf Z) (fun i hi a ha=>by
    have h1:=(h.formP hl (Nat.le_refl _) (j:=i) (by omega)).1
    exact (h1.arc a ha).2.2) n (n-1) (List.replicate n false) 0 (by omega) (by omega) (max F n) (Nat.le_max_right _ _)
   rw [← h2,h1]
end Go.Proofs.YthockgmbooefpaaDoor
namespace Go.Proofs.YthockgmbooefpaaDoor
open Go.RowKit Go.WideElems Go.ChangeShapes Go.WideShapes Go.MapKept Go.ChangeMaps
variable [Inhabited BaseT]
theorem Rg.all {Z:List ZV} {n:Nat} (h:Rg Z n n) (hl:Z.length=n):Z.map ZV.p=(stsOf Z).map StP.z:=by
 apply List.ext_getElem
 ·simp [stsOf_len]
 ·intro i h1 h2
  simp only [List.length_map] at h1 h2
  have:=(h.formP hl (Nat.le_refl _) (j:=i) (by omega)).2
  simp only [List.getElem_map]
  have e1:(stsOf Z).getD i noSt=(stsOf Z)[i]:=by simp [List.getD,h2]
  have e2:Z.getD i zvZero=Z[i]:=by simp [List.getD,h1]
  rw [e1,e2] at this
  exact this.symm
end Go.Proofs.YthockgmbooefpaaDoor
namespace Go.Proofs.YthockgmbooefpaaDoor
open Go.RowKit
variable [Inhabited BaseT]
def rstF (sts:List StP):Nat→Nat→Rs
 | 0,_=>[]
 | f+1,i=>(if (sts.getD i noSt).fin=true then [([],(sts.getD i noSt).out)] else [])++(sts.getD i noSt).arcs.flatMap fun a=>(rstF sts f a.2.2).map fun r=>(a.1 :: r.1,r.2+a.2.1)
def rst (sts:List StP) (i:Nat):Rs:=rstF sts (i+1) i
def Down (sts:List StP):Prop:=∀ i,i<sts.length→∀ a∈(sts.getD i noSt).arcs,a.2.2<i
theorem flatMap_congr' {α β:Type} {f g:α→List β}:∀ {l:List α},(∀ a∈l,f a=g a)→l.flatMap f=l.flatMap g
 | [],_=>rfl
 | a :: l,h=>by rw [List.flatMap_cons,List.flatMap_cons,h a List.mem_cons_self,flatMap_congr' fun b hb=>h b (List.mem_cons_of_mem _ hb)]
theorem rstF_fuel {sts:List StP} (hd:Down sts):∀ (f i g:Nat),i<f→i<sts.length→f≤g→rstF sts g i=rstF sts f i
 | 0,_,_,h,_,_=>absurd h (Nat.not_lt_zero _)
 | f+1,i,g,hi,hl,hg=>by
  obtain ⟨g,rfl⟩:∃ k,g=k+1:=⟨g-1,by omega⟩
  simp only [rstF]
  congr 1
  refine flatMap_congr' fun a ha=>?_
  have:=hd i hl a ha
  rw [rstF_fuel hd f a.2.2 g (by omega) (by omega) (by omega)]
theorem rst_eq {sts:List StP} (hd:Down sts) {i:Nat} (hi:i<sts.length):rst sts i=(if (sts.getD i noSt).fin=true then [([],(sts.getD i noSt).out)] else [])++(sts.getD i noSt).arcs.flatMap fun a=>(rst sts a.2.2).map fun r=>(a.1 :: r.1,r.2+a.2.1):=by
 have h:rst sts i=(if (sts.getD i noSt).fin=true then [([],(sts.getD i noSt).out)] else [])++(sts.getD i noSt).arcs.flatMap fun a=>(rstF sts i a.2.2).map fun r=>(a.1 :: r.1,r.2+a.2.1):=rfl
 rw [h]
 congr 1
 refine flatMap_congr' fun a ha=>?_
 have:=hd i hi a ha
 show (rstF sts i a.2.2).map _=(rstF sts (a.2.2+1) a.2.2).map _
 rw [rstF_fuel hd (a.2.2+1) a.2.2 i (by omega) (by omega) (by omega)]
section
variable {sts:List StP}
theorem mem_rst_cons (hd:Down sts) {i:Nat} (hi:i<sts.length) {c:Nat} {t:List Nat} {n:Int}:(c :: t,n)∈rst sts i↔∃ a∈(sts.getD i noSt).arcs,a.1=c∧(t,n-a.2.1)∈rst sts a.2.2:=by
 rw [rst_eq hd hi,List.mem_append,List.mem_flatMap]
 constructor
 ·rintro (h | ⟨a,ha,h⟩)
  ·split at h<;>simp at h
  ·obtain ⟨r,hr,he⟩:=List.mem_map.1 h
   simp only [Prod.mk.injEq,List.cons.injEq] at he
   obtain ⟨⟨h1,h2⟩,h3⟩:=he
   refine ⟨a,ha,h1,?_⟩
   rw [← h2,show n-a.2.1=r.2 by omega]
   exact hr
 ·rintro ⟨a,ha,rfl,h⟩
  right
  refine ⟨a,ha,List.mem_map.2 ⟨_,h,?_⟩⟩
  simp only [Prod.mk.injEq,true_and]
  omega
theorem form_down (hf:∀ i,i<sts.length→FormP i (sts.getD i noSt)):Down sts:=fun i hi a ha=>((hf i hi).arc a ha).2.2
end
end Go.Proofs.YthockgmbooefpaaDoor
namespace Go.Proofs.YthockgmbooefpaaDoor
open Go.RowKit
variable [Inhabited BaseT]
section
variable {sts:List StP}
end
end Go.Proofs.YthockgmbooefpaaDoor
