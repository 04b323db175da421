/- What the law rests on, part 16. No condition but those that each theorem names. -/
import Derived.Test.YthockgmbooefpaaGreatDoorT15
import Derived.Test.YthockgmbooefpaaGreatDoorT14
import Derived.StillTailTactics
import Derived.Laws.Cover3
set_option linter.unusedSectionVars false
set_option linter.unusedSimpArgs false
set_option linter.unusedVariables false
namespace Go.Proofs.YthockgmbooefpaaGreatDoor
open Go.RowKit
variable [Inhabited BaseT]
def StZ.p (z:StZ):StP:=⟨z.fin,z.out,z.arcs.map fun a=>(a.1.toNat,a.2.1,a.2.2.toNat)⟩
theorem z_p (s:StP):s.z.p=s:=by
 obtain ⟨f,o,l⟩:=s
 simp only [StP.z,StZ.p,List.map_map,StP.mk.injEq,true_and]
 have e:((fun a:Int × Int × Int=>(a.1.toNat,a.2.1,a.2.2.toNat)) ∘ arcZ)=id:=by
  funext a
  obtain ⟨a,b,c⟩:=a
  simp [arcZ]
 rw [e,List.map_id]
theorem formZ_p {num:Nat} {z:StZ} (h:FormZ num z):z.p.z=z∧FormP num z.p:=by
 obtain ⟨s,rfl,hs⟩:=h
 rw [z_p]
 exact ⟨rfl,hs⟩
def RgtZ (zs:List StZ) (base:Int):Prop:=∃ sts:List StP,zs=sts.map StP.z∧RgtP sts base
def stsOf (Z:List ZV):List StP:=Z.map fun z=>z.p.p
theorem stsOf_len (Z:List ZV):(stsOf Z).length=Z.length:=by simp [stsOf]
theorem stsOf_get {Z:List ZV} {i:Nat} (h:i<Z.length):(stsOf Z).getD i noSt=(Z.getD i zvZero).p.p:=by
 simp [stsOf,List.getD,h]
theorem rgtZ_sts {Z:List ZV} {base:Int} (h:RgtZ (Z.map ZV.p) base):RgtP (stsOf Z) base∧∀ i,i<Z.length→(Z.getD i zvZero).p=((stsOf Z).getD i noSt).z:=by
 obtain ⟨sts,h1,h2⟩:=h
 have e:stsOf Z=sts:=by
  have h3:(Z.map ZV.p).map StZ.p=(sts.map StP.z).map StZ.p:=by rw [h1]
  rw [List.map_map,List.map_map] at h3
  have e2:(StZ.p ∘ StP.z)=id:=by funext s;exact z_p s
  rw [e2,List.map_id] at h3
  exact h3
 rw [e]
 refine ⟨h2,fun i hi=>?_⟩
 have h3:=congrArg (fun l=>l[i]?) h1
 simp only [List.getElem?_map] at h3
 have hl:sts.length=Z.length:=by have:=congrArg List.length h1;simpa using this.symm
 have hi2:i<sts.length:=by omega
 simpa [List.getD,hi,hi2] using h3
theorem uF_get {sts:List StP} {n:Nat}:∀ (i j:Nat),j<i→i≤n→(uF sts n i).getD j z3=sumP (uF sts n j) (sts.getD j noSt) (sts.getD j noSt).arcs.length
 | 0,_,h,_=>absurd h (Nat.not_lt_zero _)
 | i+1,j,h,hn=>by
  simp only [uF]
  by_cases e:j=i
  ·subst e
   rw [List.getD_eq_getElem?_getD,List.getElem?_set_self (by rw [uF_len];omega)]
   rfl
  ·rw [List.getD_eq_getElem?_getD,List.getElem?_set_ne (by omega),← List.getD_eq_getElem?_getD]
   exact uF_get i j (by omega) (by omega)
structure Rg (Z:List ZV) (n i:Nat):Prop where
 form:∀ j,j<i→FormZ j (Z.getD j zvZero).p
 sum:∀ j,j<i→SumB (uF (stsOf Z) n j) ((stsOf Z).getD j noSt)
 unl:∀ j k,j<i→k<i→(stsOf Z).getD j noSt=(stsOf Z).getD k noSt→j=k
theorem Rg.zero (Z:List ZV) (n:Nat):Rg Z n 0:=⟨fun _ h=>absurd h (Nat.not_lt_zero _),fun _ h=>absurd h (Nat.not_lt_zero _),fun _ _ h=>absurd h (Nat.not_lt_zero _)⟩
theorem Rg.formP {Z:List ZV} {n i:Nat} (h:Rg Z n i) (hl:Z.length=n) (hi:i≤n) {j:Nat} (hj:j<i):FormP j ((stsOf Z).getD j noSt)∧((stsOf Z).getD j noSt).z=(Z.getD j zvZero).p:=by
 rw [stsOf_get (by omega)]
 have:=formZ_p (h.form j hj)
 exact ⟨this.2,this.1⟩
theorem Rg.sumE {Z:List ZV} {n i:Nat} (h:Rg Z n i) {s:StP} (hi:i<n) (hs:FormP i s):SumE (uF (stsOf Z) n i) n s:=by
 intro a ha
 have h1:=hs.arc a ha
 have h2:=h.sum a.2.2 h1.2.2
 rw [uF_get i a.2.2 h1.2.2 (by omega)]
 exact ⟨by omega,⟨h1.1,h1.2.1⟩,h2 _⟩
theorem Rg.step {Z:List ZV} {n i:Nat} (h:Rg Z n i) (hf:FormZ i (Z.getD i zvZero).p) (hs:SumB (uF (stsOf Z) n i) ((stsOf Z).getD i noSt)) (hu:∀ k,k<i→(stsOf Z).getD k noSt≠(stsOf Z).getD i noSt):Rg Z n (i+1):=by
 refine ⟨?_,?_,?_⟩
 ·intro j hj
  rcases Nat.lt_succ_iff_lt_or_eq.1 hj with hj | rfl
  ·exact h.form j hj
  ·exact hf
 ·intro j hj
  rcases Nat.lt_succ_iff_lt_or_eq.1 hj with hj | rfl
  ·exact h.sum j hj
  ·exact hs
 ·intro j k hj hk e
  rcases Nat.lt_succ_iff_lt_or_eq.1 hj with hj | rfl
  ·rcases Nat.lt_succ_iff_lt_or_eq.1 hk with hk | rfl
   ·exact h.unl j k hj hk e
   ·exact absurd e (hu j hj)
  ·rcases Nat.lt_succ_iff_lt_or_eq.1 hk with hk | rfl
   ·exact absurd e.symm (hu k hk)
   ·rfl
theorem visF_mono (sts:List StP):∀ (f i:Nat) (s s':List Bool) (n n':Nat),visF sts f i s n=(true,s',n')→∀ g,f≤g→visF sts g i s n=(true,s',n')
 | 0,_,_,_,_,_,h,_,_=>by simp [visF] at h
 | f+1,i,s,s',n,n',h,g,hg=>by
  obtain ⟨g,rfl⟩:∃ k,g=k+1:=⟨g-1,by omega⟩
  simp only [visF] at h ⊢
  have ih:=visF_mono sts f
  have hv:∀ (l:List (Nat × Int × Nat)) (s s':List Bool) (n n':Nat),visArcs (visF sts f) l s n=(true,s',n')→visArcs (visF sts g) l s n=(true,s',n'):=by
   intro l
   induction l with
   | nil=>intro s s' n n' h;exact h
   | cons a l ih2 =>
    intro s s' n n' h
    simp only [visArcs] at h ⊢
    by_cases hs:s.getD a.2.2 false=true
    ·rw [if_pos hs] at h ⊢
     exact ih2 _ _ _ _ h
    ·rw [if_neg hs] at h ⊢
     obtain ⟨⟨ok,s1,n1⟩,hr⟩:∃ r,visF sts f a.2.2 s n=r:=⟨_,rfl⟩
     rw [hr] at h
     cases ok with
     | false=>simp at h
     | true =>
      rw [ih _ _ _ _ _ hr g (by omega)]
      exact ih2 _ _ _ _ h
  obtain ⟨⟨ok,s1,n1⟩,hr⟩:∃ r,visArcs (visF sts f) (sts.getD i noSt).arcs s n=r:=⟨_,rfl⟩
  rw [hr] at h
  cases ok with
  | false=>simp at h
  | true =>
   rw [hv _ _ _ _ _ hr]
   exact h
theorem visF_fuel (sts:List StP) (hlt:∀ i,i<sts.length→∀ a∈(sts.getD i noSt).arcs,a.2.2<i):∀ (f i:Nat) (s:List Bool) (n:Nat),i<f→i<sts.length→∀ g,f≤g→visF sts g i s n=visF sts f i s n
 | 0,_,_,_,h,_,_,_=>absurd h (Nat.not_lt_zero _)
 | f+1,i,s,n,hi,hil,g,hg=>by
  obtain ⟨g,rfl⟩:∃ k,g=k+1:=⟨g-1,by omega⟩
  simp only [visF]
  have hv:∀ (l:List (Nat × Int × Nat)),(∀ a∈l,a.2.2<i)→∀ (s:List Bool) (n:Nat),visArcs (visF sts g) l s n=visArcs (visF sts f) l s n:=by
   intro l
   induction l with
   | nil=>intro _ s n;rfl
   | cons a l ih2 =>
    intro hl s n
    simp only [visArcs]
    have ha:=hl a List.mem_cons_self
    rw [visF_fuel sts hlt f a.2.2 s n (by omega) (by omega) g (by omega)]
    by_cases hs:s.getD a.2.2 false=true
    ·rw [if_pos hs,if_pos hs]
     exact ih2 (fun b hb=>hl b (List.mem_cons_of_mem _ hb)) _ _
    ·rw [if_neg hs,if_neg hs]
     obtain ⟨⟨ok,s1,n1⟩,hr⟩:∃ r,visF sts f a.2.2 s n=r:=⟨_,rfl⟩
     rw [hr]
     cases ok with
     | false=>rfl
     | true=>exact ih2 (fun b hb=>hl b (List.mem_cons_of_mem _ hb)) _ _
  rw [hv _ (hlt i hil)]
theorem Rg.right {Z:List ZV} {n:Nat} {base:Int} (h:Rg Z n n) (hl:Z.length=n) (hpos:0<n) (hfew:n≤98305) (hb1:1≤base) (hb2:base≤1048576) (hroot:(Z.getD (n-1) zvZero).fin=false) :
  (base+((uF (stsOf Z) n n).getD (n-1) z3).2.2≤1048576∧∃ s',visF (stsOf Z) n (n-1) (List.replicate n false) 0=(true,s',n))↔RgtZ (Z.map ZV.p) base:=by
 have hsl:(stsOf Z).length=n:=by rw [stsOf_len,hl]
 constructor
 ·rintro ⟨htop,s',hvis⟩
  refine ⟨stsOf Z,?_,.inr ⟨by omega,by omega,hb1,hb2,?_,?_,?_,?_,?_,?_,⟨n,s',?_⟩⟩⟩
  ·apply List.ext_getElem
   ·simp [stsOf_len]
   ·intro i h1 h2
    simp only [List.length_map] at h1 h2
    have:=(h.formP hl (Nat.le_refl _) (j:=i) (by omega)).2
    simp only [List.getElem_map]
    have e1:(stsOf Z).getD i noSt=(stsOf Z)[i]:=by simp [List.getD,h2]
    have e2:Z.getD i zvZero=Z[i]:=by simp [List.getD,h1]
    rw [e1,e2] at this
    exact this.symm
  ·rw [hsl,stsOf_get (by omega)]
   exact hroot
  ·intro i hi
   exact (h.formP hl (Nat.le_refl _) (by omega)).1
  ·intro i hi
   rw [hsl]
   exact h.sum i (by omega)
  ·intro i hi a ha
   rw [hsl]
   have h1:=(h.formP hl (Nat.le_refl _) (j:=i) (by omega)).1
   have hc:=h1.arc a ha
   rw [uF_get i a.2.2 hc.2.2 (by omega)]
   exact h.sum a.2.2 (by omega) _
  ·rw [hsl]
   exact htop
  ·intro i j hi hj e
   exact h.unl i j (by omega) (by omega) e
  ·rw [hsl]
   exact hvis
 ·intro hr
  have hr2:=(rgtZ_sts hr).1
  rcases hr2 with ⟨e,_⟩ | hr2
  ·rw [e] at hsl
   simp at hsl
   omega
  ·have htop:=hr2.top
   obtain ⟨F,s',hvis⟩:=hr2.vis
   rw [hsl] at htop hvis
   refine ⟨htop,s',?_⟩
   have h1:=visF_mono _ _ _ _ _ _ _ hvis (max F n) (Nat.le_max_left _ _)
   have h2:=visF_fuel (stsOf Z) (fun i hi a ha=>by
    have h1:=(h.formP hl (Nat.le_refl _) (j:=i) (by omega)).1
    exact (h1.arc a ha).2.2) n (n-1) (List.replicate n false) 0 (by omega) (by omega) (max F n) (Nat.le_max_right _ _)
   rw [← h2,h1]
end Go.Proofs.YthockgmbooefpaaGreatDoor
namespace Go.Proofs.YthockgmbooefpaaGreatDoor
open Go.RowKit Go.WideElems Go.ChangeShapes Go.WideShapes Go.MapKept Go.ChangeMaps
variable [Inhabited BaseT]
theorem Rg.all {Z:List ZV} {n:Nat} (h:Rg Z n n) (hl:Z.length=n):Z.map ZV.p=(stsOf Z).map StP.z:=by
 apply List.ext_getElem
 ·simp [stsOf_len]
 ·intro i h1 h2
  simp only [List.length_map] at h1 h2
  have:=(h.formP hl (Nat.le_refl _) (j:=i) (by omega)).2
  simp only [List.getElem_map]
  have e1:(stsOf Z).getD i noSt=(stsOf Z)[i]:=by simp [List.getD,h2]
  have e2:Z.getD i zvZero=Z[i]:=by simp [List.getD,h1]
  rw [e1,e2] at this
  exact this.symm
end Go.Proofs.YthockgmbooefpaaGreatDoor
namespace Go.Proofs.YthockgmbooefpaaGreatDoor
open Go.RowKit
variable [Inhabited BaseT]
theorem said_write_app {r:Nat} (hr:r<1114112) (t:List UInt8):saidU (writeU r).length (writeU r++t)=r:=by
 unfold writeU
 split
 ·simp only [saidU,List.length_cons,List.length_nil,UInt8.toNat_ofNat',List.cons_append,List.nil_append]
  omega
 ·split
  ·simp only [saidU,List.length_cons,List.length_nil,UInt8.toNat_ofNat',List.cons_append,List.nil_append]
   omega
  ·split
   ·simp only [saidU,List.length_cons,List.length_nil,UInt8.toNat_ofNat',List.cons_append,List.nil_append]
    omega
   ·simp only [saidU,List.length_cons,List.length_nil,UInt8.toNat_ofNat',List.cons_append,List.nil_append]
    omega
theorem runes_flat:∀ (x:List Nat),(∀ r∈x,scal r=true)→runesU (x.flatMap writeU)=some x
 | [],_=>runesU_nil
 | r :: x,h=>by
  have hs:=h r List.mem_cons_self
  have ih:=runes_flat x (fun q hq=>h q (List.mem_cons_of_mem _ hq))
  have hl:=write_len r
  rw [List.flatMap_cons]
  have hit:utf1 (writeU r++x.flatMap writeU)=(r,(writeU r).length):=by
   have:=utf1_hit (n:=(writeU r).length) (bs:=writeU r++x.flatMap writeU) hl.1 hl.2 (by rw [List.length_append];omega) ⟨by rw [said_write_app (scal_lt hs)];exact hs,by rw [said_write_app (scal_lt hs),List.take_left]⟩
   rw [said_write_app (scal_lt hs)] at this
   exact this
  rw [runesU_step (by rw [List.length_append];omega),hit]
  simp only
  rw [if_neg (by omega),List.drop_left,ih]
  rfl
def rstF (sts:List StP):Nat→Nat→Rs
 | 0,_=>[]
 | f+1,i=>(if (sts.getD i noSt).fin=true then [([],(sts.getD i noSt).out)] else [])++(sts.getD i noSt).arcs.flatMap fun a=>(rstF sts f a.2.2).map fun r=>(a.1 :: r.1,r.2+a.2.1)
def rst (sts:List StP) (i:Nat):Rs:=rstF sts (i+1) i
def Down (sts:List StP):Prop:=∀ i,i<sts.length→∀ a∈(sts.getD i noSt).arcs,a.2.2<i
theorem flatMap_congr' {α β:Type} {f g:α→List β}:∀ {l:List α},(∀ a∈l,f a=g a)→l.flatMap f=l.flatMap g
 | [],_=>rfl
 | a :: l,h=>by rw [List.flatMap_cons,List.flatMap_cons,h a List.mem_cons_self,flatMap_congr' fun b hb=>h b (List.mem_cons_of_mem _ hb)]
theorem rstF_fuel {sts:List StP} (hd:Down sts):∀ (f i g:Nat),i<f→i<sts.length→f≤g→rstF sts g i=rstF sts f i
 | 0,_,_,h,_,_=>absurd h (Nat.not_lt_zero _)
 | f+1,i,g,hi,hl,hg=>by
  obtain ⟨g,rfl⟩:∃ k,g=k+1:=⟨g-1,by omega⟩
  simp only [rstF]
  congr 1
  refine flatMap_congr' fun a ha=>?_
  have:=hd i hl a ha
  rw [rstF_fuel hd f a.2.2 g (by omega) (by omega) (by omega)]
theorem rst_eq {sts:List StP} (hd:Down sts) {i:Nat} (hi:i<sts.length):rst sts i=(if (sts.getD i noSt).fin=true then [([],(sts.getD i noSt).out)] else [])++(sts.getD i noSt).arcs.flatMap fun a=>(rst sts a.2.2).map fun r=>(a.1 :: r.1,r.2+a.2.1):=by
 have h:rst sts i=(if (sts.getD i noSt).fin=true then [([],(sts.getD i noSt).out)] else [])++(sts.getD i noSt).arcs.flatMap fun a=>(rstF sts i a.2.2).map fun r=>(a.1 :: r.1,r.2+a.2.1):=rfl
 rw [h]
 congr 1
 refine flatMap_congr' fun a ha=>?_
 have:=hd i hi a ha
 show (rstF sts i a.2.2).map _=(rstF sts (a.2.2+1) a.2.2).map _
 rw [rstF_fuel hd (a.2.2+1) a.2.2 i (by omega) (by omega) (by omega)]
theorem stP_ext:∀ {x y:StP},x.fin=y.fin→x.out=y.out→x.arcs=y.arcs→x=y
 | ⟨_,_,_⟩,⟨_,_,_⟩,rfl,rfl,rfl=>rfl
section
variable {sts:List StP}
theorem mem_rst_nil (hd:Down sts) {i:Nat} (hi:i<sts.length) {n:Int}:([],n)∈rst sts i↔(sts.getD i noSt).fin=true∧n=(sts.getD i noSt).out:=by
 rw [rst_eq hd hi,List.mem_append,List.mem_flatMap]
 constructor
 ·rintro (h | ⟨a,_,h⟩)
  ·split at h
   ·rename_i hf
    simp only [List.mem_singleton,Prod.mk.injEq,true_and] at h
    exact ⟨hf,h⟩
   ·cases h
  ·obtain ⟨r,_,hr⟩:=List.mem_map.1 h
   simp at hr
 ·rintro ⟨hf,rfl⟩
  left
  rw [if_pos hf]
  exact List.mem_singleton.2 rfl
theorem mem_rst_cons (hd:Down sts) {i:Nat} (hi:i<sts.length) {c:Nat} {t:List Nat} {n:Int}:(c :: t,n)∈rst sts i↔∃ a∈(sts.getD i noSt).arcs,a.1=c∧(t,n-a.2.1)∈rst sts a.2.2:=by
 rw [rst_eq hd hi,List.mem_append,List.mem_flatMap]
 constructor
 ·rintro (h | ⟨a,ha,h⟩)
  ·split at h<;>simp at h
  ·obtain ⟨r,hr,he⟩:=List.mem_map.1 h
   simp only [Prod.mk.injEq,List.cons.injEq] at he
   obtain ⟨⟨h1,h2⟩,h3⟩:=he
   refine ⟨a,ha,h1,?_⟩
   rw [← h2,show n-a.2.1=r.2 by omega]
   exact hr
 ·rintro ⟨a,ha,rfl,h⟩
  right
  refine ⟨a,ha,List.mem_map.2 ⟨_,h,?_⟩⟩
  simp only [Prod.mk.injEq,true_and]
  omega
structure RsOk (sts:List StP) (i:Nat):Prop where
 sort:SortR (rst sts i)
 ne:rst sts i≠[]
 least:leastR (rst sts i)=0
theorem form_down (hf:∀ i,i<sts.length→FormP i (sts.getD i noSt)):Down sts:=fun i hi a ha=>((hf i hi).arc a ha).2.2
theorem lab_inj {z:StP} (h:(z.arcs.map (·.1)).Pairwise (·<·)) {a b:Nat × Int × Nat} (ha:a∈z.arcs) (hb:b∈z.arcs) (e:a.1=b.1):a=b:=by
 obtain ⟨i,hi,rfl⟩:=List.getElem_of_mem ha
 obtain ⟨j,hj,rfl⟩:=List.getElem_of_mem hb
 rw [List.pairwise_map] at h
 have h2:=List.pairwise_iff_getElem.1 h
 rcases Nat.lt_trichotomy i j with h3 | h3 | h3
 ·have:=h2 i j hi hj h3;omega
 ·subst h3;rfl
 ·have:=h2 j i hj hi h3;omega
theorem low_zero {i:Nat} {z:StP} (h:FormP i z):(z.fin=true∧z.out=0)∨∃ a∈z.arcs,a.2.1=0:=by
 have hl:=h.low
 unfold lowP at hl
 have gen:∀ (l:List (Nat × Int × Nat)) (m:Int),l.foldl (fun m a=>min m a.2.1) m=0→m=0∨∃ a∈l,a.2.1=0:=by
  intro l
  induction l with
  | nil=>intro m h;exact .inl h
  | cons a l ih =>
   intro m h
   rw [List.foldl_cons] at h
   rcases ih _ h with h1 | ⟨b,hb,h1⟩
   ·by_cases hm:m≤a.2.1
    ·left;omega
    ·right;exact ⟨a,List.mem_cons_self,by omega⟩
   ·exact .inr ⟨b,List.mem_cons_of_mem _ hb,h1⟩
 rcases gen _ _ hl with h1 | h1
 ·left
  split at h1
  ·rename_i hf
   exact ⟨hf,h1⟩
  ·omega
 ·exact .inr h1
theorem rs_ok (hf:∀ i,i<sts.length→FormP i (sts.getD i noSt)):∀ (k i:Nat),i<k→i<sts.length→RsOk sts i
 | 0,_,h,_=>absurd h (Nat.not_lt_zero _)
 | k+1,i,hk,hi=>by
  have hd:=form_down hf
  have hF:=hf i hi
  have ih:∀ a∈(sts.getD i noSt).arcs,RsOk sts a.2.2:=fun a ha=>rs_ok hf k a.2.2 (by have:=hd i hi a ha;omega) (by have:=hd i hi a ha;omega)
  have hpos:∀ r∈rst sts i,0≤r.2:=by
   rintro ⟨x,n⟩ hr
   cases x with
   | nil =>
    have:=(mem_rst_nil hd hi).1 hr
    have h0:=hF.out0
    simp only
    omega
   | cons c t =>
    obtain ⟨a,ha,_,h⟩:=(mem_rst_cons hd hi).1 hr
    have h1:=leastR_le h
    rw [(ih a ha).least] at h1
    have h2:=(hF.arc a ha).1
    simp only at h1 ⊢
    omega
  have hzero:∃ x,(x,0)∈rst sts i:=by
   rcases low_zero hF with ⟨h1,h2⟩ | ⟨a,ha,h2⟩
   ·exact ⟨[],(mem_rst_nil hd hi).2 ⟨h1,h2.symm⟩⟩
   ·obtain ⟨r,hr,hr0⟩:=leastR_mem (ih a ha).ne
    rw [(ih a ha).least] at hr0
    obtain ⟨x,n⟩:=r
    simp only at hr0
    subst hr0
    exact ⟨a.1 :: x,(mem_rst_cons hd hi).2 ⟨a,ha,rfl,by rw [h2];exact hr⟩⟩
  obtain ⟨x0,hx0⟩:=hzero
  have hne:rst sts i≠[]:=fun e=>by rw [e] at hx0;cases hx0
  refine ⟨?_,hne,?_⟩
  ·rw [rst_eq hd hi]
   unfold SortR
   rw [List.pairwise_append]
   refine ⟨by split<;>simp,?_,?_⟩
   ·rw [List.pairwise_flatMap]
    refine ⟨fun a ha=>?_,?_⟩
    ·have hs:=(ih a ha).sort
     unfold SortR at hs
     rw [List.pairwise_map]
     refine hs.imp fun {x y} h=>?_
     unfold ltR at h ⊢
     rw [lexN_cons]
     exact h
    ·have hl:=hF.lab
     rw [List.pairwise_map] at hl
     refine hl.imp fun {a b} h=>?_
     intro x hx y hy
     obtain ⟨p,_,rfl⟩:=List.mem_map.1 hx
     obtain ⟨q,_,rfl⟩:=List.mem_map.1 hy
     simp only [ltR,lexN]
     rw [if_neg (by omega)]
     simpa using h
   ·intro x hx y hy
    split at hx
    ·simp only [List.mem_singleton] at hx
     subst hx
     obtain ⟨a,_,hy⟩:=List.mem_flatMap.1 hy
     obtain ⟨q,_,rfl⟩:=List.mem_map.1 hy
     rfl
    ·cases hx
  ·have h1:=leastR_le hx0
   obtain ⟨r,hr,hr0⟩:=leastR_mem hne
   have:=hpos r hr
   simp only at h1
   omega
theorem under_rst (hf:∀ i,i<sts.length→FormP i (sts.getD i noSt)) {i:Nat} (hi:i<sts.length) {a:Nat × Int × Nat} (ha:a∈(sts.getD i noSt).arcs) :
  underR (rst sts i) a.1≠[]∧leastR (underR (rst sts i) a.1)=a.2.1∧levelR (underR (rst sts i) a.1)=rst sts a.2.2:=by
 have hd:=form_down hf
 have hF:=hf i hi
 have hto:=hd i hi a ha
 have ok:=rs_ok hf (a.2.2+1) a.2.2 (by omega) (by omega)
 have oki:=rs_ok hf (i+1) i (by omega) hi
 have hm:∀ t n,(t,n)∈underR (rst sts i) a.1↔(t,n-a.2.1)∈rst sts a.2.2:=by
  intro t n
  rw [mem_under,mem_rst_cons hd hi]
  constructor
  ·rintro ⟨b,hb,he,h⟩
   rw [← lab_inj hF.lab hb ha he]
   exact h
  ·intro h
   exact ⟨a,ha,rfl,h⟩
 obtain ⟨r,hr,hr0⟩:=leastR_mem ok.ne
 rw [ok.least] at hr0
 have hin:(r.1,a.2.1)∈underR (rst sts i) a.1:=by
  rw [hm,Int.sub_self,← hr0]
  exact hr
 have hne:underR (rst sts i) a.1≠[]:=fun e=>by rw [e] at hin;cases hin
 have hle:leastR (underR (rst sts i) a.1)=a.2.1:=by
  have h1:=leastR_le hin
  obtain ⟨q,hq,hq0⟩:=leastR_mem hne
  have h2:=(hm q.1 q.2).1 hq
  have h3:=leastR_le h2
  rw [ok.least] at h3
  simp only at h1 h3
  omega
 refine ⟨hne,hle,sort_ext (sort_level (sort_under _ oki.sort)) ok.sort ?_⟩
 rintro ⟨t,n⟩
 rw [mem_level,hm,hle,show n+a.2.1-a.2.1=n by omega]
theorem corr_rst (hf:∀ i,i<sts.length→FormP i (sts.getD i noSt)) {i:Nat} (hi:i<sts.length):Corr ((List.range sts.length).map (rst sts)) i (rst sts i) (sts.getD i noSt):=by
 have hd:=form_down hf
 have hF:=hf i hi
 have ok:=rs_ok hf (i+1) i (by omega) hi
 have hfin:(sts.getD i noSt).fin=finR (rst sts i):=by
  rw [Bool.eq_iff_iff,finR_iff]
  constructor
  ·intro h
   exact ⟨_,(mem_rst_nil hd hi).2 ⟨h,rfl⟩⟩
  ·rintro ⟨n,h⟩
   exact ((mem_rst_nil hd hi).1 h).1
 refine ⟨ok.sort,ok.ne,ok.least,hfin,?_,?_,?_⟩
 ·by_cases h:(sts.getD i noSt).fin=true
  ·exact (outR_mem ok.sort ((mem_rst_nil hd hi).2 ⟨h,rfl⟩)).symm
  ·have h2:(sts.getD i noSt).fin=false:=by simpa using h
   rw [hF.fin0 h2,outR_none ok.sort (by rw [← hfin];exact h2)]
 ·refine sorted_ext (lt:=fun a b:Nat=>a<b) (fun a h=>by omega) (fun a b h g=>by omega) hF.lab (firsts_sorted ok.sort) ?_
  intro c
  rw [mem_firsts]
  constructor
  ·intro h
   obtain ⟨a,ha,rfl⟩:=List.mem_map.1 h
   exact (under_rst hf hi ha).1
  ·intro h
   obtain ⟨r,hr⟩:=List.exists_mem_of_ne_nil _ h
   have h2:=(mem_under (t:=r.1) (n:=r.2)).1 hr
   obtain ⟨a,ha,he,_⟩:=(mem_rst_cons hd hi).1 h2
   exact List.mem_map.2 ⟨a,ha,he⟩
 ·intro a ha
  have hto:=hd i hi a ha
  obtain ⟨_,h2,h3⟩:=under_rst hf hi ha
  refine ⟨h2.symm,hto,?_⟩
  rw [h3]
  simp [show a.2.2<sts.length by omega]
theorem rst_inj (hf:∀ i,i<sts.length→FormP i (sts.getD i noSt)) (hu:∀ i j,i<sts.length→j<sts.length→sts.getD i noSt=sts.getD j noSt→i=j):∀ (k i j:Nat),i<k→i<sts.length→j<sts.length→rst sts i=rst sts j→i=j
 | 0,_,_,h,_,_,_=>absurd h (Nat.not_lt_zero _)
 | k+1,i,j,hk,hi,hj,e=>by
  have ci:=corr_rst hf hi
  have cj:=corr_rst hf hj
  refine hu i j hi hj ?_
  have e1:(sts.getD i noSt).fin=(sts.getD j noSt).fin:=by rw [ci.fin,cj.fin,e]
  have e2:(sts.getD i noSt).out=(sts.getD j noSt).out:=by rw [ci.out,cj.out,e]
  have e3:(sts.getD i noSt).arcs=(sts.getD j noSt).arcs:=by
   have hl:(sts.getD i noSt).arcs.map (·.1)=(sts.getD j noSt).arcs.map (·.1):=by rw [ci.labels,cj.labels,e]
   have hlen:(sts.getD i noSt).arcs.length=(sts.getD j noSt).arcs.length:=by have:=congrArg List.length hl;simpa using this
   refine List.ext_getElem hlen fun n h1 h2=>?_
   have hlab:(sts.getD i noSt).arcs[n].1=(sts.getD j noSt).arcs[n].1:=by
    have:=congrArg (fun l=>l[n]?) hl
    simp only [List.getElem?_map,List.getElem?_eq_getElem h1,List.getElem?_eq_getElem h2,Option.map_some,Option.some.injEq] at this
    exact this
   have ha:=List.getElem_mem h1
   have hb:=List.getElem_mem h2
   obtain ⟨_,p2,p3⟩:=under_rst hf hi ha
   obtain ⟨_,q2,q3⟩:=under_rst hf hj hb
   rw [hlab,e] at p2 p3
   have t1:=form_down hf i hi _ ha
   have t2:=form_down hf j hj _ hb
   have hto:=rst_inj hf hu k (sts.getD i noSt).arcs[n].2.2 (sts.getD j noSt).arcs[n].2.2 (by omega) (by omega) (by omega) (p3.symm.trans q3)
   exact Prod.ext hlab (Prod.ext (p2.symm.trans q2) hto)
  exact stP_ext e1 e2 e3
end
end Go.Proofs.YthockgmbooefpaaGreatDoor
namespace Go.Proofs.YthockgmbooefpaaGreatDoor
open Go.RowKit
variable [Inhabited BaseT]
section
variable {sts:List StP}
theorem sum_fold (U:List S3):∀ (l:List (Nat × Int × Nat)) (x:S3),(∀ a∈l,(U.getD a.2.2 z3).1=(rst sts a.2.2).length∧∀ r∈rst sts a.2.2,(r.1.length:Int)≤(U.getD a.2.2 z3).2.1∧r.2≤(U.getD a.2.2 z3).2.2) →
  (l.foldl (sumStep U) x).1=x.1+((l.flatMap fun a=>(rst sts a.2.2).map fun r=>(a.1 :: r.1,r.2+a.2.1)).length:Nat)∧x.2.1≤(l.foldl (sumStep U) x).2.1∧x.2.2≤(l.foldl (sumStep U) x).2.2 ∧
  ∀ r∈l.flatMap fun a=>(rst sts a.2.2).map fun r=>(a.1 :: r.1,r.2+a.2.1),(r.1.length:Int)≤(l.foldl (sumStep U) x).2.1∧r.2≤(l.foldl (sumStep U) x).2.2
 | [],x,_=>⟨by simp,Int.le_refl _,Int.le_refl _,fun r hr=>by cases hr⟩
 | a :: l,x,h=>by
  obtain ⟨h1,h2,h3,h4⟩:=sum_fold U l (sumStep U x a) (fun b hb=>h b (List.mem_cons_of_mem _ hb))
  obtain ⟨g1,g2⟩:=h a List.mem_cons_self
  rw [List.foldl_cons]
  simp only [sumStep] at h1 h2 h3 h4 ⊢
  refine ⟨?_,by omega,by omega,?_⟩
  ·rw [h1,List.flatMap_cons,List.length_append,List.length_map,g1]
   omega
  ·intro r hr
   rw [List.flatMap_cons] at hr
   rcases List.mem_append.1 hr with hr | hr
   ·obtain ⟨q,hq,rfl⟩:=List.mem_map.1 hr
    have:=g2 q hq
    simp only [List.length_cons]
    omega
   ·exact h4 r hr
theorem sum_rst (hf:∀ i,i<sts.length→FormP i (sts.getD i noSt)):∀ (k i:Nat),i<k→i<sts.length →
  (sumP (uF sts sts.length i) (sts.getD i noSt) (sts.getD i noSt).arcs.length).1=(rst sts i).length∧∀ r∈rst sts i,(r.1.length:Int)≤(sumP (uF sts sts.length i) (sts.getD i noSt) (sts.getD i noSt).arcs.length).2.1∧r.2≤(sumP (uF sts sts.length i) (sts.getD i noSt) (sts.getD i noSt).arcs.length).2.2
 | 0,_,h,_=>absurd h (Nat.not_lt_zero _)
 | k+1,i,hk,hi=>by
  have hd:=form_down hf
  have ih:∀ a∈(sts.getD i noSt).arcs,((uF sts sts.length i).getD a.2.2 z3).1=(rst sts a.2.2).length∧∀ r∈rst sts a.2.2,(r.1.length:Int)≤((uF sts sts.length i).getD a.2.2 z3).2.1∧r.2≤((uF sts sts.length i).getD a.2.2 z3).2.2:=fun a ha=>by
   have hto:=hd i hi a ha
   rw [uF_get i a.2.2 hto (by omega)]
   exact sum_rst hf k a.2.2 (by omega) (by omega)
  obtain ⟨h1,h2,h3,h4⟩:=sum_fold (uF sts sts.length i) (sts.getD i noSt).arcs (if (sts.getD i noSt).fin=true then 1 else 0,0,(sts.getD i noSt).out) ih
  have e:sumP (uF sts sts.length i) (sts.getD i noSt) (sts.getD i noSt).arcs.length=(sts.getD i noSt).arcs.foldl (sumStep (uF sts sts.length i)) (if (sts.getD i noSt).fin=true then 1 else 0,0,(sts.getD i noSt).out):=by
   unfold sumP
   rw [List.take_length]
  rw [e]
  simp only at h1 h2 h3
  rw [rst_eq hd hi]
  refine ⟨?_,?_⟩
  ·rw [h1,List.length_append]
   split
   ·simp
   ·simp
  ·intro r hr
   rcases List.mem_append.1 hr with hr | hr
   ·split at hr
    ·simp only [List.mem_singleton] at hr
     subst hr
     simp only [List.length_nil]
     omega
    ·cases hr
   ·exact h4 r hr
theorem run_rst (hf:∀ i,i<sts.length→FormP i (sts.getD i noSt)):∀ (k i:Nat),i<k→i<sts.length→∀ r∈rst sts i,∀ c∈r.1,scal c=true∧fitU c=true
 | 0,_,h,_=>absurd h (Nat.not_lt_zero _)
 | k+1,i,hk,hi=>by
  have hd:=form_down hf
  rintro ⟨x,n⟩ hr c hc
  cases x with
  | nil=>cases hc
  | cons d t =>
   obtain ⟨a,ha,rfl,h⟩:=(mem_rst_cons hd hi).1 hr
   have hto:=hd i hi a ha
   rcases List.mem_cons.1 hc with rfl | hc
   ·exact (hf i hi).run a ha
   ·exact run_rst hf k a.2.2 (by omega) (by omega) _ h c hc
def preK (sts:List StP) (m:Nat):KnP:=⟨((List.range sts.length).map (rst sts)).take m,sts.take m⟩
theorem idx_old (hf:∀ i,i<sts.length→FormP i (sts.getD i noSt)) (hu:∀ i j,i<sts.length→j<sts.length→sts.getD i noSt=sts.getD j noSt→i=j) {i m:Nat} (hi:i<m) (hm:m≤sts.length):idxR (preK sts m).rests (rst sts i)=some i:=by
 unfold idxR preK
 simp only
 rw [List.findIdx?_eq_some_iff_getElem]
 refine ⟨by simp;omega,by simp [hi],?_⟩
 intro j hj
 simp only [List.getElem_take,List.getElem_map,List.getElem_range,decide_eq_true_eq]
 intro e
 have:=rst_inj hf hu (j+1) j i (by omega) (by omega) (by omega) e
 omega
theorem idx_new (hf:∀ i,i<sts.length→FormP i (sts.getD i noSt)) (hu:∀ i j,i<sts.length→j<sts.length→sts.getD i noSt=sts.getD j noSt→i=j) {i m:Nat} (hi:m≤i) (hil:i<sts.length):idxR (preK sts m).rests (rst sts i)=none:=by
 unfold idxR preK
 simp only
 rw [List.findIdx?_eq_none_iff]
 intro x hx
 obtain ⟨j,hj,rfl⟩:=List.getElem_of_mem hx
 simp only [List.length_take,List.length_map,List.length_range] at hj
 simp only [List.getElem_take,List.getElem_map,List.getElem_range,decide_eq_false_iff_not]
 intro e
 have:=rst_inj hf hu (j+1) j i (by omega) (by omega) hil e
 omega
theorem pre_succ {m:Nat} (hm:m<sts.length):preK sts (m+1)=⟨(preK sts m).rests++[rst sts m],(preK sts m).states++[sts.getD m noSt]⟩:=by
 unfold preK
 simp only
 rw [List.take_succ_eq_append_getElem (by simpa using hm),List.take_succ_eq_append_getElem hm]
 simp [List.getD,hm]
theorem vis_state (hf:∀ i,i<sts.length→FormP i (sts.getD i noSt)) (hu:∀ i j,i<sts.length→j<sts.length→sts.getD i noSt=sts.getD j noSt→i=j) :
  ∀ (F f i m:Nat) (l:Rs) (s':List Bool) (n':Nat),i<sts.length→depR (rst sts i)<f→levelR l=rst sts i→m≤i→visF sts F i (seenT sts.length m) m=(true,s',n') →
   n'=i+1∧s'=seenT sts.length (i+1)∧stateF f (preK sts m) l=(preK sts (i+1),i)
 | 0,_,_,_,_,_,_,_,_,_,_,h=>by simp [visF] at h
 | F+1,0,_,_,_,_,_,_,h,_,_,_=>absurd h (Nat.not_lt_zero _)
 | F+1,f+1,i,m,l,s',n',hi,hdep,hl,hmi,hv=>by
  have hd:=form_down hf
  have hc:=corr_rst hf hi
  simp only [visF] at hv
  obtain ⟨⟨ok,s1,n1⟩,hr⟩:∃ r,visArcs (visF sts F) (sts.getD i noSt).arcs (seenT sts.length m) m=r:=⟨_,rfl⟩
  rw [hr] at hv
  cases ok with
  | false=>simp at hv
  | true =>
   simp only [Prod.mk.injEq,decide_eq_true_eq] at hv
   obtain ⟨hv1,hv2,hv3⟩:=hv
   have hn1:n1=i:=by omega
   have arcs:∀ (xs:List (Nat × Int × Nat)),(∀ a∈xs,a∈(sts.getD i noSt).arcs)→∀ (m1:Nat) (s1:List Bool) (n1:Nat),m1≤i→visArcs (visF sts F) xs (seenT sts.length m1) m1=(true,s1,n1) →
     s1=seenT sts.length n1∧n1≤i∧arcsF (stateF f) (rst sts i) (preK sts m1) (xs.map (·.1))=(preK sts n1,xs):=by
    intro xs
    induction xs with
    | nil =>
     intro _ m1 s1 n1 hm1 h
     simp only [visArcs,Prod.mk.injEq,true_and] at h
     obtain ⟨rfl,rfl⟩:=h
     exact ⟨rfl,hm1,rfl⟩
    | cons a xs ih =>
     intro hx m1 s1 n1 hm1 h
     have ha:=hx a List.mem_cons_self
     have hto:=hd i hi a ha
     obtain ⟨u1,u2,u3⟩:=under_rst hf hi ha
     have hda:depR (rst sts a.2.2)<f:=by
      rw [← u3,depR_level]
      have:=depR_under u1
      omega
     obtain ⟨f',hf'⟩:∃ f',f=f'+1:=⟨f-1,by omega⟩
     simp only [visArcs] at h
     by_cases hs:a.2.2<m1
     ·rw [if_pos (by rw [seenT_get (by omega)];simpa using hs)] at h
      obtain ⟨e1,e2,e3⟩:=ih (fun b hb=>hx b (List.mem_cons_of_mem _ hb)) m1 s1 n1 hm1 h
      have hst:stateF f (preK sts m1) (underR (rst sts i) a.1)=(preK sts m1,a.2.2):=by
       rw [hf']
       refine stateF_old ?_
       rw [u3]
       exact idx_old hf hu hs (by omega)
      refine ⟨e1,e2,?_⟩
      simp only [List.map_cons,arcsF]
      rw [hst]
      simp only
      rw [e3,u2]
     ·rw [if_neg (by rw [seenT_get (by omega)];simpa using hs)] at h
      obtain ⟨⟨ok,s2,n2⟩,hr2⟩:∃ r,visF sts F a.2.2 (seenT sts.length m1) m1=r:=⟨_,rfl⟩
      rw [hr2] at h
      cases ok with
      | false=>simp at h
      | true =>
       simp only at h
       obtain ⟨g1,g2,g3⟩:=vis_state hf hu F f a.2.2 m1 (underR (rst sts i) a.1) s2 n2 (by omega) hda u3 (by omega) hr2
       subst g1
       subst g2
       obtain ⟨e1,e2,e3⟩:=ih (fun b hb=>hx b (List.mem_cons_of_mem _ hb)) (a.2.2+1) s1 n1 (by omega) h
       refine ⟨e1,e2,?_⟩
       simp only [List.map_cons,arcsF]
       rw [g3]
       simp only
       rw [e3,u2]
   obtain ⟨e1,e2,e3⟩:=arcs _ (fun a ha=>ha) m s1 n1 hmi hr
   subst hn1
   refine ⟨by omega,?_,?_⟩
   ·rw [← hv2,e1,seenT_set hi]
   ·simp only [stateF]
    rw [hl,idx_new hf hu hmi hi]
    simp only
    rw [← hc.labels,e3,← hc.fin,← hc.out,pre_succ hi]
    simp only [Prod.mk.injEq,KnP.mk.injEq,true_and]
    simp only [preK,List.length_take]
    omega
def wordsM (sts:List StP) (base:Int):List PRow:=(rst sts (sts.length-1)).map fun r=>⟨⟨(r.1.flatMap writeU).toArray⟩,r.2+base⟩
def wordsG (sts:List StP) (base:Int):List PRow:=if sts=[] then [] else wordsM sts base
theorem canon {base:Int} (h:RightP sts base):DictP (wordsM sts base)∧mach (wordsM sts base)=⟨base,sts⟩:=by
 have hf:=h.form
 have hN:sts.length-1<sts.length:=by have:=h.pos;omega
 have ok:=rs_ok hf sts.length _ hN hN
 have hs:=sum_rst hf sts.length _ hN hN
 have hrun:=run_rst hf sts.length _ hN hN
 have hsb:=h.sumB _ hN (sts.getD (sts.length-1) noSt).arcs.length
 have htop:=h.top
 rw [uF_get sts.length (sts.length-1) hN (Nat.le_refl _)] at htop
 have hb1:=h.base1
 have hroot:=h.root
 have hd:=form_down hf
 have hbound:∀ r∈rst sts (sts.length-1),r.1.length≤24∧0≤r.2∧r.2+base≤1048576∧0<r.1.length:=by
  intro r hr
  have h1:=hs.2 r hr
  have h2:=leastR_le hr
  rw [ok.least] at h2
  refine ⟨by omega,h2,by omega,?_⟩
  obtain ⟨x,n⟩:=r
  cases x with
  | nil =>
   have:=(mem_rst_nil hd hN).1 hr
   rw [hroot] at this
   cases this.1
  | cons c t=>simp
 have hwr:∀ r∈rst sts (sts.length-1),wordR ⟨⟨(r.1.flatMap writeU).toArray⟩,r.2+base⟩=r.1:=by
  intro r hr
  unfold wordR
  simp only
  rw [toList_mk,runes_flat _ (fun c hc=>(hrun r hr c hc).1)]
  rfl
 have hrests:restsL (wordsM sts base)=shiftR (-base) (rst sts (sts.length-1)):=by
  unfold restsL wordsM shiftR
  rw [List.map_map]
  refine List.map_congr_left fun r hr=>?_
  simp only [Function.comp]
  rw [hwr r hr]
  simp only [Prod.mk.injEq,true_and]
  omega
 have hsort:SortR (restsL (wordsM sts base)):=by
  rw [hrests]
  have hs:=ok.sort
  unfold SortR at hs ⊢
  unfold shiftR
  rw [List.pairwise_map]
  exact hs
 have hD:DictP (wordsM sts base):=by
  refine ⟨?_,?_,?_,hsort⟩
  ·unfold wordsM
   rw [List.length_map]
   have:=hs.1
   omega
  ·intro p hp
   obtain ⟨r,hr,rfl⟩:=List.mem_map.1 hp
   rw [hwr r hr]
   simp only
   rw [toList_mk]
   have hb:=hbound r hr
   refine ⟨runes_flat _ (fun c hc=>(hrun r hr c hc).1),?_,hb.2.2.2,hb.1⟩
   rw [List.all_eq_true]
   exact fun c hc=>(hrun r hr c hc).2
  ·intro p hp
   obtain ⟨r,hr,rfl⟩:=List.mem_map.1 hp
   have hb:=hbound r hr
   simp only
   omega
 refine ⟨hD,?_⟩
 have hne:wordsM sts base≠[]:=by
  unfold wordsM
  intro e
  exact ok.ne (List.map_eq_nil_iff.1 e)
 have hm:mach (wordsM sts base)=⟨leastR (restsL (wordsM sts base)),(stateF 25 ⟨[],[]⟩ (restsL (wordsM sts base))).1.states⟩:=by unfold mach;rw [if_neg hne]
 obtain ⟨F,s',hvis⟩:=h.vis
 have hdep:depR (rst sts (sts.length-1))<25:=depR_lt (by omega) (fun r hr=>by have:=(hbound r hr).1;omega)
 have hlev:levelR (restsL (wordsM sts base))=rst sts (sts.length-1):=by rw [hrests,level_of_shift,level_of_zero ok.least]
 rw [← seenT_zero] at hvis
 obtain ⟨_,_,g3⟩:=vis_state hf h.unalike F 25 (sts.length-1) 0 (restsL (wordsM sts base)) s' sts.length hN hdep hlev (Nat.zero_le _) hvis
 have e0:preK sts 0=⟨[],[]⟩:=by simp [preK]
 rw [e0] at g3
 rw [hm,g3,hrests,least_shift _ ok.ne,ok.least]
 simp only [MchP.mk.injEq]
 refine ⟨by omega,?_⟩
 unfold preK
 simp only
 rw [List.take_of_length_le (by omega)]
theorem rgt_words {base:Int} (h:RgtP sts base):DictP (wordsG sts base)∧mach (wordsG sts base)=⟨base,sts⟩:=by
 unfold wordsG
 rcases h with ⟨rfl,rfl⟩ | h
 ·exact ⟨⟨by simp,by simp,by simp,List.Pairwise.nil⟩,rfl⟩
 ·have:=h.pos
  rw [if_neg (fun e=>by rw [e] at this;simp at this)]
  exact canon h
end
end Go.Proofs.YthockgmbooefpaaGreatDoor
