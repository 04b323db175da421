/- What the law rests on, part 19. No condition but those that each theorem names. -/
import Derived.Test.YthockgmbooefpaaGreatDoorL18
import Derived.Test.YthockgmbooefpaaGreatDoorL07
import Derived.StillTailTactics
import Derived.Laws.Cover3
set_option linter.unusedSectionVars false
set_option linter.unusedSimpArgs false
set_option linter.unusedVariables false
set_option maxRecDepth 100000
set_option maxHeartbeats 16000000
namespace Go.Proofs.YthockgmbooefpaaGreatDoor
open Go.RowKit
variable [Inhabited BaseT]
def StZ.p (z:StZ):StP:=⟨z.fin,z.out,z.arcs.map fun a=>(a.1.toNat,a.2.1,a.2.2.toNat)⟩
theorem z_p (s:StP):s.z.p=s:=by
 obtain ⟨f,o,l⟩:=s
 simp only [StP.z,StZ.p,List.map_map,StP.mk.injEq,true_and]
 have e:((fun a:Int × Int × Int=>(a.1.toNat,a.2.1,a.2.2.toNat)) ∘ arcZ)=id:=by
  funext a
  obtain ⟨a,b,c⟩:=a
  simp [arcZ]
 rw [e,List.map_id]
theorem formZ_p {num:Nat} {z:StZ} (h:FormZ num z):z.p.z=z∧FormP num z.p:=by
 obtain ⟨s,rfl,hs⟩:=h
 rw [z_p]
 exact ⟨rfl,hs⟩
def RgtZ (zs:List StZ) (base:Int):Prop:=∃ sts:List StP,zs=sts.map StP.z∧RgtP sts base
def stsOf (Z:List ZV):List StP:=Z.map fun z=>z.p.p
theorem stsOf_len (Z:List ZV):(stsOf Z).length=Z.length:=by simp [stsOf]
theorem stsOf_get {Z:List ZV} {i:Nat} (h:i<Z.length):(stsOf Z).getD i noSt=(Z.getD i zvZero).p.p:=by
 simp [stsOf,List.getD,h]
theorem rgtZ_sts {Z:List ZV} {base:Int} (h:RgtZ (Z.map ZV.p) base):RgtP (stsOf Z) base∧∀ i,i<Z.length→(Z.getD i zvZero).p=((stsOf Z).getD i noSt).z:=by
 obtain ⟨sts,h1,h2⟩:=h
 have e:stsOf Z=sts:=by
  have h3:(Z.map ZV.p).map StZ.p=(sts.map StP.z).map StZ.p:=by rw [h1]
  rw [List.map_map,List.map_map] at h3
  have e2:(StZ.p ∘ StP.z)=id:=by funext s;exact z_p s
  rw [e2,List.map_id] at h3
  exact h3
 rw [e]
 refine ⟨h2,fun i hi=>?_⟩
 have h3:=congrArg (fun l=>l[i]?) h1
 simp only [List.getElem?_map] at h3
 have hl:sts.length=Z.length:=by have:=congrArg List.length h1;simpa using this.symm
 have hi2:i<sts.length:=by omega
 simpa [List.getD,hi,hi2] using h3
theorem uF_get {sts:List StP} {n:Nat}:∀ (i j:Nat),j<i→i≤n→(uF sts n i).getD j z3=sumP (uF sts n j) (sts.getD j noSt) (sts.getD j noSt).arcs.length
 | 0,_,h,_=>absurd h (Nat.not_lt_zero _)
 | i+1,j,h,hn=>by
  simp only [uF]
  by_cases e:j=i
  ·subst e
   rw [List.getD_eq_getElem?_getD,List.getElem?_set_self (by rw [uF_len];omega)]
   rfl
  ·rw [List.getD_eq_getElem?_getD,List.getElem?_set_ne (by omega),← List.getD_eq_getElem?_getD]
   exact uF_get i j (by omega) (by omega)
structure Rg (Z:List ZV) (n i:Nat):Prop where
 form:∀ j,j<i→FormZ j (Z.getD j zvZero).p
 sum:∀ j,j<i→SumB (uF (stsOf Z) n j) ((stsOf Z).getD j noSt)
 unl:∀ j k,j<i→k<i→(stsOf Z).getD j noSt=(stsOf Z).getD k noSt→j=k
theorem Rg.zero (Z:List ZV) (n:Nat):Rg Z n 0:=⟨fun _ h=>absurd h (Nat.not_lt_zero _),fun _ h=>absurd h (Nat.not_lt_zero _),fun _ _ h=>absurd h (Nat.not_lt_zero _)⟩
theorem Rg.formP {Z:List ZV} {n i:Nat} (h:Rg Z n i) (hl:Z.length=n) (hi:i≤n) {j:Nat} (hj:j<i):FormP j ((stsOf Z).getD j noSt)∧((stsOf Z).getD j noSt).z=(Z.getD j zvZero).p:=by
 rw [stsOf_get (by omega)]
 have:=formZ_p (h.form j hj)
 exact ⟨this.2,this.1⟩
theorem Rg.sumE {Z:List ZV} {n i:Nat} (h:Rg Z n i) {s:StP} (hi:i<n) (hs:FormP i s):SumE (uF (stsOf Z) n i) n s:=by
 intro a ha
 have h1:=hs.arc a ha
 have h2:=h.sum a.2.2 h1.2.2
 rw [uF_get i a.2.2 h1.2.2 (by omega)]
 exact ⟨by omega,⟨h1.1,h1.2.1⟩,h2 _⟩
theorem Rg.step {Z:List ZV} {n i:Nat} (h:Rg Z n i) (hf:FormZ i (Z.getD i zvZero).p) (hs:SumB (uF (stsOf Z) n i) ((stsOf Z).getD i noSt)) (hu:∀ k,k<i→(stsOf Z).getD k noSt≠(stsOf Z).getD i noSt):Rg Z n (i+1):=by
 refine ⟨?_,?_,?_⟩
 ·intro j hj
  rcases Nat.lt_succ_iff_lt_or_eq.1 hj with hj | rfl
  ·exact h.form j hj
  ·exact hf
 ·intro j hj
  rcases Nat.lt_succ_iff_lt_or_eq.1 hj with hj | rfl
  ·exact h.sum j hj
  ·exact hs
 ·intro j k hj hk e
  rcases Nat.lt_succ_iff_lt_or_eq.1 hj with hj | rfl
  ·rcases Nat.lt_succ_iff_lt_or_eq.1 hk with hk | rfl
   ·exact h.unl j k hj hk e
   ·exact absurd e (hu j hj)
  ·rcases Nat.lt_succ_iff_lt_or_eq.1 hk with hk | rfl
   ·exact absurd e.symm (hu k hk)
   ·rfl
theorem visF_mono (sts:List StP):∀ (f i:Nat) (s s':List Bool) (n n':Nat),visF sts f i s n=(true,s',n')→∀ g,f≤g→visF sts g i s n=(true,s',n')
 | 0,_,_,_,_,_,h,_,_=>by simp [visF] at h
 | f+1,i,s,s',n,n',h,g,hg=>by
  obtain ⟨g,rfl⟩:∃ k,g=k+1:=⟨g-1,by omega⟩
  simp only [visF] at h ⊢
  have ih:=visF_mono sts f
  have hv:∀ (l:List (Nat × Int × Nat)) (s s':List Bool) (n n':Nat),visArcs (visF sts f) l s n=(true,s',n')→visArcs (visF sts g) l s n=(true,s',n'):=by
   intro l
   induction l with
   | nil=>intro s s' n n' h;exact h
   | cons a l ih2 =>
    intro s s' n n' h
    simp only [visArcs] at h ⊢
    by_cases hs:s.getD a.2.2 false=true
    ·rw [if_pos hs] at h ⊢
     exact ih2 _ _ _ _ h
    ·rw [if_neg hs] at h ⊢
     obtain ⟨⟨ok,s1,n1⟩,hr⟩:∃ r,visF sts f a.2.2 s n=r:=⟨_,rfl⟩
     rw [hr] at h
     cases ok with
     | false=>simp at h
     | true =>
      rw [ih _ _ _ _ _ hr g (by omega)]
      exact ih2 _ _ _ _ h
  obtain ⟨⟨ok,s1,n1⟩,hr⟩:∃ r,visArcs (visF sts f) (sts.getD i noSt).arcs s n=r:=⟨_,rfl⟩
  rw [hr] at h
  cases ok with
  | false=>simp at h
  | true =>
   rw [hv _ _ _ _ _ hr]
   exact h
theorem visF_fuel (sts:List StP) (hlt:∀ i,i<sts.length→∀ a∈(sts.getD i noSt).arcs,a.2.2<i):∀ (f i:Nat) (s:List Bool) (n:Nat),i<f→i<sts.length→∀ g,f≤g→visF sts g i s n=visF sts f i s n
 | 0,_,_,_,h,_,_,_=>absurd h (Nat.not_lt_zero _)
 | f+1,i,s,n,hi,hil,g,hg=>by
  obtain ⟨g,rfl⟩:∃ k,g=k+1:=⟨g-1,by omega⟩
  simp only [visF]
  have hv:∀ (l:List (Nat × Int × Nat)),(∀ a∈l,a.2.2<i)→∀ (s:List Bool) (n:Nat),visArcs (visF sts g) l s n=visArcs (visF sts f) l s n:=by
   intro l
   induction l with
   | nil=>intro _ s n;rfl
   | cons a l ih2 =>
    intro hl s n
    simp only [visArcs]
    have ha:=hl a List.mem_cons_self
    rw [visF_fuel sts hlt f a.2.2 s n (by omega) (by omega) g (by omega)]
    by_cases hs:s.getD a.2.2 false=true
    ·rw [if_pos hs,if_pos hs]
     exact ih2 (fun b hb=>hl b (List.mem_cons_of_mem _ hb)) _ _
    ·rw [if_neg hs,if_neg hs]
     obtain ⟨⟨ok,s1,n1⟩,hr⟩:∃ r,visF sts f a.2.2 s n=r:=⟨_,rfl⟩
     rw [hr]
     cases ok with
     | false=>rfl
     | true=>exact ih2 (fun b hb=>hl b (List.mem_cons_of_mem _ hb)) _ _
  rw [hv _ (hlt i hil)]
theorem Rg.right {Z:List ZV} {n:Nat} {base:Int} (h:Rg Z n n) (hl:Z.length=n) (hpos:0<n) (hfew:n≤98305) (hb1:1≤base) (hb2:base≤1048576) (hroot:(Z.getD (n-1) zvZero).fin=false) :
  (base+((uF (stsOf Z) n n).getD (n-1) z3).2.2≤1048576∧∃ s',visF (stsOf Z) n (n-1) (List.replicate n false) 0=(true,s',n))↔RgtZ (Z.map ZV.p) base:=by
 have hsl:(stsOf Z).length=n:=by rw [stsOf_len,hl]
 constructor
 ·rintro ⟨htop,s',hvis⟩
  refine ⟨stsOf Z,?_,.inr ⟨by omega,by omega,hb1,hb2,?_,?_,?_,?_,?_,?_,⟨n,s',?_⟩⟩⟩
  ·apply List.ext_getElem
   ·simp [stsOf_len]
   ·intro i h1 h2
    simp only [List.length_map] at h1 h2
    have:=(h.formP hl (Nat.le_refl _) (j:=i) (by omega)).2
    simp only [List.getElem_map]
    have e1:(stsOf Z).getD i noSt=(stsOf Z)[i]:=by simp [List.getD,h2]
    have e2:Z.getD i zvZero=Z[i]:=by simp [List.getD,h1]
    rw [e1,e2] at this
    exact this.symm
  ·rw [hsl,stsOf_get (by omega)]
   exact hroot
  ·intro i hi
   exact (h.formP hl (Nat.le_refl _) (by omega)).1
  ·intro i hi
   rw [hsl]
   exact h.sum i (by omega)
  ·intro i hi a ha
   rw [hsl]
   have h1:=(h.formP hl (Nat.le_refl _) (j:=i) (by omega)).1
   have hc:=h1.arc a ha
   rw [uF_get i a.2.2 hc.2.2 (by omega)]
   exact h.sum a.2.2 (by omega) _
  ·rw [hsl]
   exact htop
  ·intro i j hi hj e
   exact h.unl i j (by omega) (by omega) e
  ·rw [hsl]
   exact hvis
 ·intro hr
  have hr2:=(rgtZ_sts hr).1
  rcases hr2 with ⟨e,_⟩ | hr2
  ·rw [e] at hsl
   simp at hsl
   omega
  ·have htop:=hr2.top
   obtain ⟨F,s',hvis⟩:=hr2.vis
   rw [hsl] at htop hvis
   refine ⟨htop,s',?_⟩
   have h1:=visF_mono _ _ _ _ _ _ _ hvis (max F n) (Nat.le_max_left _ _)
   have h2:=visF_fuel (stsOf Z) (fun i hi a ha=>by
    have h1:=(h.formP hl (Nat.le_refl _) (j:=i) (by omega)).1
    exact (h1.arc a ha).2.2) n (n-1) (List.replicate n false) 0 (by omega) (by omega) (max F n) (Nat.le_max_right _ _)
   rw [← h2,h1]
theorem rgt_form {Z:List ZV} {n i:Nat} {base:Int} (hl:Z.length=n) (hi:i<n) (h:¬ FormZ i (Z.getD i zvZero).p):¬ RgtZ (Z.map ZV.p) base:=fun hr=>by
 obtain ⟨h1,h2⟩:=rgtZ_sts hr
 rcases h1 with ⟨e,_⟩ | h1
 ·have:=stsOf_len Z
  rw [e] at this
  simp at this
  omega
 ·exact h ⟨_,(h2 i (by omega)).symm,h1.form i (by rw [stsOf_len];omega)⟩
theorem rgt_sum {Z:List ZV} {n i:Nat} {base:Int} (hl:Z.length=n) (hi:i<n) (h:¬ SumB (uF (stsOf Z) n i) ((stsOf Z).getD i noSt)):¬ RgtZ (Z.map ZV.p) base:=fun hr=>by
 obtain ⟨h1,h2⟩:=rgtZ_sts hr
 have hsl:(stsOf Z).length=n:=by rw [stsOf_len,hl]
 rcases h1 with ⟨e,_⟩ | h1
 ·rw [e] at hsl
  simp at hsl
  omega
 ·have:=h1.sumB i (by omega)
  rw [hsl] at this
  exact h this
theorem rgt_unl {Z:List ZV} {n i k:Nat} {base:Int} (hl:Z.length=n) (hi:i<n) (hk:k<i) (h:(stsOf Z).getD i noSt=(stsOf Z).getD k noSt):¬ RgtZ (Z.map ZV.p) base:=fun hr=>by
 obtain ⟨h1,h2⟩:=rgtZ_sts hr
 have hsl:(stsOf Z).length=n:=by rw [stsOf_len,hl]
 rcases h1 with ⟨e,_⟩ | h1
 ·rw [e] at hsl
  simp at hsl
  omega
 ·have:=h1.unalike i k (by omega) (by omega) h
  omega
theorem rgt_head {Z:List ZV} {n:Nat} {base:Int} (hl:Z.length=n) (hpos:0<n) (h:RgtZ (Z.map ZV.p) base):n≤98305∧1≤base∧base≤1048576∧(Z.getD (n-1) zvZero).fin=false:=by
 obtain ⟨h1,h2⟩:=rgtZ_sts h
 have hsl:(stsOf Z).length=n:=by rw [stsOf_len,hl]
 rcases h1 with ⟨e,_⟩ | h1
 ·rw [e] at hsl
  simp at hsl
  omega
 ·refine ⟨by have:=h1.few;omega,h1.base1,h1.base2,?_⟩
  have:=h1.root
  rw [hsl,stsOf_get (by omega)] at this
  exact this
theorem rgt_nil {base:Int}:RgtZ [] base↔base=0:=by
 constructor
 ·rintro ⟨sts,h1,h2⟩
  have e:sts=[]:=by simpa using h1.symm
  rw [e] at h2
  rcases h2 with ⟨_,h⟩ | h
  ·exact h
  ·have:=h.pos
   simp at this
 ·intro h
  exact ⟨[],rfl,.inl ⟨rfl,h⟩⟩
end Go.Proofs.YthockgmbooefpaaGreatDoor
namespace Go.Proofs.YthockgmbooefpaaGreatDoor
open Go.RowKit Go.WideElems Go.ChangeShapes Go.WideShapes Go.MapKept Go.ChangeMaps
variable [Inhabited BaseT]
theorem wpQuiet_cons8 {P:Program} {ops:Array Oper} {C:World→Prop} {Q:Act→Prop} {o:Oper} {l:List Oper} {a:Act}:wpQuiet P ops C Q (o :: l) a=(if Region.wanted o (yielded ops a.tmps) then o.quiet P a C (wpQuiet P ops C Q l) else wpQuiet P ops C Q l (a.put o.dst undef)):=rfl
theorem Rg.all {Z:List ZV} {n:Nat} (h:Rg Z n n) (hl:Z.length=n):Z.map ZV.p=(stsOf Z).map StP.z:=by
 apply List.ext_getElem
 ·simp [stsOf_len]
 ·intro i h1 h2
  simp only [List.length_map] at h1 h2
  have:=(h.formP hl (Nat.le_refl _) (j:=i) (by omega)).2
  simp only [List.getElem_map]
  have e1:(stsOf Z).getD i noSt=(stsOf Z)[i]:=by simp [List.getD,h2]
  have e2:Z.getD i zvZero=Z[i]:=by simp [List.getD,h1]
  rw [e1,e2] at this
  exact this.symm
theorem gright_any (w:World) (hL:Lst w) (base:Int) (A:Option Addr) (n c:Nat) (Z:List ZV) (hst:StsZ w A n Z) (hnm:n≤maxLen) (hbs:bs≤w.heap.size) :
  Calls Tryz.prog 85 #[.agg #[.int .i64 base,.slice A n c]] w fun e w'=>BoolIff (RgtZ (Z.map ZV.p) base) e∧Touch (fun _=>False) w w':=by
 obtain ⟨i0,hi,hz0,hz1,hz2⟩:=info_parts infoSums
 unfold maxLen at hnm
 have HL:=hide hL
 have hzl:=hst.len
 by_cases hn0:n=0
 ·subst hn0
  have hz:Z=[]:=List.eq_nil_of_length_eq_zero hzl
  subst hz
  have HI:Hid ((base == 0)=true↔RgtZ (([]:List ZV).map ZV.p) base):=hide (by rw [List.map_nil,rgt_nil];simp)
  clear hst hL hzl
  go_enter Tryz.func85,Tryz.ntmps85
  go_wp2_with fail
  go_step3
  go_wp2_with fail
  rw [Exit.noGoto_ret]
  go_ret
  exact ⟨.mk _ HI.out,(Touch.refl _ _).alloc _⟩
 have hpos:0<n:=by omega
 have z1:IntKind.i64.wrap ((n:Int)-1)=(n:Int)-1:=IntWalk.i64_in _ (by omega)
 obtain ⟨g,o,hA,hg,c0,c1,c2⟩:=zstate_at hst.rd.rd hst.len (n-1) (by omega)
 subst hA
 have y1:(0:Int)≤(n:Int)-1:=by omega
 have y2:(n:Int)-1<(n:Int):=by omega
 have y3:((n:Int)-1).toNat=n-1:=by omega
 have y4:((n:Int) == 0)=false:=by simp;omega
 have y5:¬ (n:Int)=0:=by omega
 have HLEN:=hide hzl
 have HST:=hide hst
 have hhead:=fun h=>rgt_head (base:=base) hzl hpos h
 obtain ⟨Q,hQ⟩:∃ Q:Prop,RgtZ (Z.map ZV.p) base=Q:=⟨_,rfl⟩
 rw [hQ] at hhead ⊢
 have HQ:=hide hQ
 clear hst hL hzl hQ
 have hno:(base<1∨(1≤base∧1048576<base)∨(1≤base∧base≤1048576∧(98305:Int)≤(n:Int)-1)∨(1≤base∧base≤1048576∧¬ (98305:Int)≤(n:Int)-1∧(Z.getD (n-1) zvZero).fin=true))∨(1≤base∧base≤1048576∧¬ (98305:Int)≤(n:Int)-1∧(Z.getD (n-1) zvZero).fin=false):=by
  cases (Z.getD (n-1) zvZero).fin with
  | true=>simp;omega
  | false=>simp;omega
 obtain ⟨fl,hfl⟩:∃ fl,(Z.getD (n-1) zvZero).fin=fl:=⟨_,rfl⟩
 have HFL:=hide hfl
 rw [hfl] at c0 hno hhead
 clear hfl c1 c2 hn0
 rcases hno with hno | ⟨hb1,hb2,hfewI,rfl⟩
 ·have hq:¬ Q:=fun h=>by
   have h1:=hhead h
   rcases hno with h2 | h2 | h2 | h2
   ·omega
   ·omega
   ·omega
   ·rw [h1.2.2.2] at h2
    simp at h2
  have HQN:=hide hq
  clear hq hhead
  go_enter Tryz.func85,Tryz.ntmps85
  rcases hno with h2 | ⟨h2,h3⟩ | ⟨h2,h3,h4⟩ | ⟨h2,h3,h4,rfl⟩
  ·go_wp2_with fail
   go_step3
   go_wp2_with fail
   rw [Exit.noGoto_ret]
   go_ret
   exact ⟨.mk false ⟨(fun h=>by cases h),fun h=>absurd h HQN.out⟩,(Touch.refl _ _).alloc _⟩
  ·have h5:¬ base<1:=by omega
   go_wp2_with fail
   go_step3
   go_wp2_with fail
   rw [Exit.noGoto_ret]
   go_ret
   exact ⟨.mk false ⟨(fun h=>by cases h),fun h=>absurd h HQN.out⟩,(Touch.refl _ _).alloc _⟩
  ·have h5:¬ base<1:=by omega
   have h6:¬ 1048576<base:=by omega
   go_wp2_with fail
   go_step3
   go_wp2_with fail
   rw [Exit.noGoto_ret]
   go_ret
   exact ⟨.mk false ⟨(fun h=>by cases h),fun h=>absurd h HQN.out⟩,(Touch.refl _ _).alloc _⟩
  ·have h5:¬ base<1:=by omega
   have h6:¬ 1048576<base:=by omega
   go_wp2_with fail
   go_step3
   go_wp2_with fail
   rw [Exit.noGoto_ret]
   go_ret
   exact ⟨.mk false ⟨(fun h=>by cases h),fun h=>absurd h HQN.out⟩,(Touch.refl _ _).alloc _⟩
 clear hhead
 have HFEW:=hide (show n≤98305 by omega)
 have hq1:¬ base<1:=by omega
 have hq2:¬ 1048576<base:=by omega
 go_enter Tryz.func85,Tryz.ntmps85
 go_wp2_with fail
 go_step3
 go_wp2_with (refine wpList_make_full _ rfl (.tmp 45) (.tmp 45) 240 rfl 0 243 i0 _ 3 Tryz.underlying240 hi hz0 hz1 .i64 .i64 (n:Int) (n:Int) n rfl rfl rfl rfl ?b2 ?b3 (Nat.zero_le _) ?_)
 case b2=>rw [hz2];omega
 case b3=>unfold maxLen;omega
 intro w1 O1 G1
 rw [made_sums] at O1
 obtain ⟨M,hM⟩:∃ M,M=w.heap.size:=⟨_,rfl⟩
 obtain ⟨u,hu⟩:∃ u,u=w.heap.size+1:=⟨_,rfl⟩
 obtain ⟨b,hb⟩:∃ b,b=w1.heap.size:=⟨_,rfl⟩
 obtain ⟨w2,hw2⟩:∃ x,x=w1.alloc (.map #[] 0):=⟨_,rfl⟩
 have hmm:(Instr.makeMap 241 none).run Tryz.prog w1=.ok (.map (some b)) w2:=by rw [hw2,hb];exact run_makeMap _ _
 have hT1:Touch (fun _=>False) w w1:=((Touch.refl _ _).alloc _).grown G1 (fun k h=>by cases h)
 have hT12:Touch (fun _=>False) w1 w2:=by rw [hw2];exact (Touch.refl _ _).alloc _
 have hbM:Blk w2 M 89 #[.int .i64 base,.slice (some ⟨g,o,none⟩) n c]:=by
  rw [hM]
  exact ((Blk.new _ _ _).grown G1 (by simp)).touch hT12 (fun f=>f)
 rw [← hu] at O1
 have hO2:=own_touch O1 hT12 (fun _ _ f=>f)
 have hB2:w2.heap.size=w1.heap.size+1:=by rw [hw2];simp
 have hG2:Gr2 w2 w2.heap.size b 0 (fun k=>keyV ((stsOf Z).getD k noSt)) #[] 0:=by
  refine ⟨⟨?_,MapKept.stamped_empty _,by simp,by simp,by simp,by simp⟩,(fun k hk=>absurd hk (Nat.not_lt_zero _)),by simp,by simp⟩
  rw [hw2,hb]
  exact heap_alloc_new _ _
 have hT2:=hT1.then hT12
 have hst2:=HST.out.quiet hT2
 have hMu:¬ M=u:=by omega
 have hMb:¬ M=b:=by have:=(own_ty O1 (g:=u) rfl).lt;omega
 have hub:¬ u=b:=by have:=own_ty O1 (g:=u) rfl;have:=this.lt;omega
 rw [← hu,← hM]
 have HBM:=hide hbM
 have HO2:=hide hO2
 have HG2:=hide hG2
 have HT2:=hide hT2
 have HS2:=hide hst2
 have HU:=hide (show w.heap.size≤u by omega)
 have HB:=hide (show w.heap.size≤b by have:=hT1.size;omega)
 have HMU:=hide hMu
 have HMB:=hide hMb
 have HUB:=hide hub
 have HM:=hide hM
 obtain ⟨q1,q2,q3⟩:=hbM.facts
 clear hb hw2 hT1 hT12 hbM O1 hO2 hB2 hG2 hT2 hst2 hMu hMb hub G1 hu hM
 go_wp2_with fail
 go_step3
 go_wp2_with fail
 go_loopw [5,51] (fun mv iv wr=>∃ (i:Nat) (es:Array MapEntry) (clock:Nat),mv=.map (some b)∧iv=.int .i64 i∧i≤n∧Hid (Gr2 wr w2.heap.size b i (fun k=>keyV ((stsOf Z).getD k noSt)) es clock)∧Hid (Rg Z n i)∧Hid (wr.ownsRow 0 243 3 (.slice (some ⟨u,0,none⟩) n n) n (uCells (uF (stsOf Z) n i)))∧Hid (Touch (fun x=>x=u∨x=b) w2 wr)) (fun _ iv _=>n-(intOf iv).toNat)
 case atStart=>exact ⟨0,#[],0,rfl,rfl,by omega,HG2,hide (Rg.zero _ _),HO2,hide (Touch.refl _ _)⟩
 case round =>
  obtain ⟨i,es,clock,rfl,rfl,hin,HG,HRG,HO,HT⟩:=hrel
  have hnoS:∀ t,t ≠ 243 → ∀ x,OT w2 x t→¬ (x=u∨x=b):=by
   intro t ht x hx hor
   have h1:=HU.out
   have h2:=HB.out
   rcases hor with e | e
   ·exact hx.ne (own_ty HO2.out (g:=u) rfl) ht (by omega) e
   ·rcases hx with hx | hx
    ·omega
    ·exact map_ne hx HG2.out.g.blk e
  have hMr:=HBM.out.touch HT.out (hnoS _ (by decide) _ (.inr (blk_ty HBM.out)))
  have hSr:StsZ wr (some ⟨g,o,none⟩) n Z:=⟨HS2.out.rd.touch HT.out (hnoS _ (by decide)),HS2.out.len,fun z hz=>(HS2.out.el z hz).touch HT.out (hnoS _ (by decide))⟩
  have HMr:=hide hMr
  have HSr:=hide hSr
  clear hnoS hMr hSr
  by_cases hi2:i<n
  ·have x1:(i:Int)<(n:Int):=by omega
   have x2:(0:Int)≤(i:Int):=by omega
   have x3:IntKind.i64.wrap ((i:Int)+1)=(i:Int)+1:=IntWalk.i64_in _ (by omega)
   obtain ⟨g',o',hA,hgl,d0,d1,d2⟩:=zstate_at HSr.out.rd.rd HSr.out.len i hi2
   obtain ⟨rfl,rfl⟩:g'=g∧o'=o:=by injection hA with hA;injection hA with e1 e2;exact ⟨e1.symm,e2.symm⟩
   have hzm:=getD_mem Z zvZero i (by rw [HS2.out.len];exact hi2)
   have hzo:=HSr.out.el _ hzm
   have hfz:FormZ i (Z.getD i zvZero).p→((Z.getD i zvZero).sv ((stsOf Z).getD i noSt)).Od wr∧((Z.getD i zvZero).sv ((stsOf Z).getD i noSt)).p=(stsOf Z).getD i noSt∧FormP i ((stsOf Z).getD i noSt):=fun h=>by
    rw [stsOf_get (by rw [HS2.out.len];exact hi2)]
    have h1:=formZ_p h
    have h2:=ZV.sv_ok hzo h1.1
    exact ⟨h2.1,h2.2.1,h1.2⟩
   have hfn:¬ FormZ i (Z.getD i zvZero).p→¬ Q:=fun h=>by rw [← HQ.out];exact rgt_form HLEN.out hi2 h
   have hstep:=fun hf hs hu=>HRG.out.step (i:=i) hf hs hu
   obtain ⟨zz,hz⟩:∃ z,Z.getD i zvZero=z:=⟨_,rfl⟩
   obtain ⟨sp,hsp⟩:∃ s,(stsOf Z).getD i noSt=s:=⟨_,rfl⟩
   rw [hz,hsp] at hfz hstep
   rw [hz] at hfn d0 d1 d2 hzo
   have HZ:=hide hz
   have HSP:=hide hsp
   obtain ⟨fin,out,zA,zn,zc,zarcs⟩:=zz
   simp only at d0 d1 d2
   obtain ⟨wa,hwa⟩:∃ x,x=wr.alloc (.cells #[.bool fin,.int .i64 out,.slice zA zn zc] 170):=⟨_,rfl⟩
   obtain ⟨s,hs⟩:∃ s,s=wr.heap.size:=⟨_,rfl⟩
   have hTa:Touch (fun _=>False) wr wa:=by rw [hwa];exact (Touch.refl _ _).alloc _
   have hbs:Blk wa s 170 #[.bool fin,.int .i64 out,.slice zA zn zc]:=by rw [hwa,hs];exact Blk.new _ _ _
   have hTw:Touch (fun _=>False) w wr:=HT2.out.trans HT.out fun x hx hor=>by
    have h1:=HU.out
    have h2:=HB.out
    omega
   have hfc:=gformed_any wa (Lst.touch HL.out (hTw.then hTa)) ⟨fin,out,zA,zn,zc,zarcs⟩ (hzo.quiet hTa) i
   simp only at hfc
   have HFC:=hide hfc
   have HWA:=hide hwa
   have HSD:=hide hs
   have HTA:=hide hTa
   have HBS:=hide hbs
   have HTW:=hide hTw
   have HFZ:=hide hfz
   have HFN:=hide hfn
   have HSTEP:=hide hstep
   obtain ⟨m0,m1,m2⟩:=HMr.out.facts
   clear hz hzm hwa hs hTa hbs hfc hzo hTw hfz hfn hstep hsp
   go_wp2_with fail
   rw [← HWA.out,← HSD.out]
   refine HFC.out.mono ?_
   rintro e w3 ⟨⟨fv,rfl,hfv⟩,T3⟩
   have hbs3:=HBS.out.touch T3 (fun f=>f)
   obtain ⟨s0,s1,s2⟩:=hbs3.facts
   have HBS3:=hide hbs3
   have HT3:=hide T3
   cases fv with
   | false =>
    have hq:¬ Q:=HFN.out (fun h=>by have:=hfv.2 h;cases this)
    have HQN:=hide hq
    have HTF:=hide ((HTW.out.then HTA.out).then T3)
    clear T3 hbs3 hfv hq HFC HFZ HFN HSTEP
    go_wp2_with fail
    rw [Exit.noGoto_ret]
    go_ret
    exact ⟨.mk false ⟨(fun h=>by cases h),fun h=>absurd h HQN.out⟩,HTF.out⟩
   | true =>
   have hform:=hfv.1 rfl
   obtain ⟨hzo,hzp,hfm⟩:=HFZ.out hform
   simp only [ZV.sv] at hzo hzp
   obtain ⟨z,hzz⟩:∃ z:SV,z=⟨fin,out,zA,zn,zc,sp.arcs⟩:=⟨_,rfl⟩
   rw [← hzz] at hzo hzp
   have hz1:z.fin=fin∧z.out=out∧z.A=zA∧z.n=zn∧z.c=zc:=by rw [hzz];exact ⟨rfl,rfl,rfl,rfl,rfl⟩
   obtain ⟨rfl,rfl,rfl,rfl,rfl⟩:=hz1
   have hsE:=HRG.out.sumE hi2 hfm
   have hcs:=gsum_any w3 z (hzo.touch (HTA.out.then T3) (fun _ _ f=>f)) (uF (stsOf Z) n i) (some ⟨u,0,none⟩) n n (RdT.of_own (own_touch HO.out (HTA.out.then T3) (fun _ _ f=>f))) (uF_len _ _ _) (by have:=HFEW.out;omega) (by have h1:=hfm.out0;have h2:=hfm.out1;rw [← hzp] at h1 h2;exact ⟨h1,h2⟩) (by rw [hzp];exact hsE)
   have hns:¬ SumB (uF (stsOf Z) n i) sp→¬ Q:=fun h=>by rw [← HQ.out];exact rgt_sum HLEN.out hi2 (by rw [HSP.out];exact h)
   have HZO:=hide hzo
   have HZP:=hide hzp
   have HFM:=hide hfm
   have HFORM:=hide hform
   have HCS3:=hide hcs
   have HNS:=hide hns
   clear T3 hbs3 HFC HFZ HFN hfv hform hzo hzp hfm hsE hcs hns hzz
   go_wp2_with fail
   refine HCS3.out.mono ?_
   rintro e w4 ⟨hsum,T4⟩
   clear s0 s1 s2
   have hbs4:=HBS3.out.touch T4 (fun f=>f)
   obtain ⟨s0,s1,s2⟩:=hbs4.facts
   have hT4:=(HTA.out.then HT3.out).then T4
   have hO4:=own_touch HO.out hT4 (fun _ _ f=>f)
   obtain ⟨ug,uo,hA,hug,e0,e1,e2⟩:=sum_at (RdT.of_own hO4).rd (uF_len _ _ _) i hi2
   injection hA with hA
   injection hA with hA1 hA2
   subst hA1 hA2
   have f0:=own_frozen hO4 (i*3)
   have f1:=own_frozen hO4 (i*3+1)
   have f2:=own_frozen hO4 (i*3+2)
   simp only [Nat.zero_add] at e0 e1 e2
   have HBS4:=hide hbs4
   have HT4:=hide hT4
   have HO4:=hide hO4
   have hsu:¬ s=u:=by
    have h1:=(own_ty HO.out (g:=u) rfl).lt
    have h2:=HSD.out
    omega
   have hus:¬ u=s:=fun e=>hsu e.symm
   clear hbs4 hT4 hO4 T4 HCS3
   rw [HZP.out] at hsum
   rcases hsum with ⟨hsb,rfl⟩ | ⟨hsb,q1',q2',q3',rfl⟩
   rotate_left
   ·have hq:=HNS.out hsb
    have HQN:=hide hq
    have HTF:=hide (HTW.out.then HT4.out)
    clear hsb hq HNS
    go_wp2_with fail
    rw [Exit.noGoto_ret]
    go_ret
    refine ⟨.mk false ⟨(fun h=>by cases h),fun h=>absurd h HQN.out⟩,?_⟩
    iterate 3 refine Touch.setCell ?_ (fun h=>by have:=HU.out;simp only at h;omega) _
    exact HTF.out
   have HSB:=hide hsb
   clear hsb
   go_wp2_with fail
   obtain ⟨x,hx⟩:∃ x,sumP (uF (stsOf Z) n i) sp sp.arcs.length=x:=⟨_,rfl⟩
   rw [hx]
   obtain ⟨w5,hw5⟩:∃ y,y=((w4.setCell ⟨u,i*3,none⟩ (.int .i64 x.1)).setCell ⟨u,i*3+1,none⟩ (.int .i64 x.2.1)).setCell ⟨u,i*3+2,none⟩ (.int .i64 x.2.2):=⟨_,rfl⟩
   have hT45:Touch (fun y=>y=u) w4 w5:=by
    rw [hw5]
    exact (((Touch.refl (fun y=>y=u) w4).setCell (p:=⟨u,i*3,none⟩) (fun _=>rfl) _).setCell (p:=⟨u,i*3+1,none⟩) (fun _=>rfl) _).setCell (p:=⟨u,i*3+2,none⟩) (fun _=>rfl) _
   have hO5:w5.ownsRow 0 243 3 (.slice (some ⟨u,0,none⟩) n n) n (uCells (uF (stsOf Z) n (i+1))):=by
    have h:=own_set (own_set (own_set HO4.out (i*3) (.int .i64 x.1)) (i*3+1) (.int .i64 x.2.1)) (i*3+2) (.int .i64 x.2.2)
    rw [uCells_set _ _ _ (by rw [uF_len];exact hi2),← hw5] at h
    simp only [uF]
    rw [HSP.out,hx]
    exact h
   rw [← hw5]
   have hnu:∀ t,t ≠ 243 → ∀ y,OT w4 y t→¬ y=u:=fun t ht y hy e=>hy.ne (own_ty HO4.out (g:=u) rfl) ht (by have:=HU.out;omega) e
   have hzo4:=HZO.out.touch HT4.out (fun _ _ f=>f)
   have hzo5:=hzo4.touch hT45 (hnu _ (by decide))
   have hbs5:=HBS4.out.touch hT45 hsu
   have hG5:=(HG.out.quiet HT4.out).far hT45 (fun e=>HUB.out e.symm) (fun y hy=>hnu _ (by decide) y (.inr hy))
   have hkc:=gkey_any w5 z hzo5 (by have h1:=HFM.out.out0;have h2:=HFM.out.out1;rw [← HZP.out] at h1 h2;exact ⟨h1,h2⟩)
   rw [HZP.out] at hkc
   have hki:=kst_I64 sp.arcs (0,0) (by unfold I64;simp)
   have hM5:=(HMr.out.touch HT4.out (fun f=>f)).touch hT45 HMU.out
   have hSt4:=HSr.out.quiet HT4.out
   have hSt5:StsZ w5 (some ⟨g',o',none⟩) n Z:=⟨hSt4.rd.touch hT45 (hnu _ (by decide)),hSt4.len,fun z hz=>(hSt4.el z hz).touch hT45 (hnu _ (by decide))⟩
   have HO5:=hide hO5
   have HT45:=hide hT45
   have HBS5:=hide hbs5
   have HG5:=hide hG5
   have HKC:=hide hkc
   have HM5:=hide hM5
   have HS5:=hide hSt5
   have HT5:=hide ((HT4.out.up (fun y=>y=u)).then hT45)
   have HSU:=hide hsu
   clear hx hw5 hT45 hO5 hnu hzo4 hzo5 hbs5 hG5 hkc hM5 hSt4 hSt5 s0 s1 s2 e0 e1 e2 f0 f1 f2 hsu hus d0 d1 d2 m0 m1 m2
   refine HKC.out.mono ?_
   rintro e w6 ⟨rfl,T6⟩
   have hsl:sp.arcs.length≤maxLen:=by
    have h1:=HZO.out.len
    have h2:=Nat.le_trans HZO.out.le HZO.out.mx
    have h3:z.arcs=sp.arcs:=by rw [← HZP.out];rfl
    rw [← h3,h1]
    exact h2
   obtain ⟨key,hkey⟩:∃ key,keyV sp=key:=⟨_,rfl⟩
   have hkeyp:=hkey
   unfold keyV at hkey
   obtain ⟨ka,hka⟩:∃ x,sp.out=x:=⟨_,rfl⟩
   obtain ⟨kb,hkb⟩:∃ x:Int,(sp.arcs.length:Int)=x:=⟨_,rfl⟩
   obtain ⟨kc,hkc⟩:∃ x,(sp.arcs.foldl kst (0,0)).1=x:=⟨_,rfl⟩
   obtain ⟨kd,hkd⟩:∃ x,(sp.arcs.foldl kst (0,0)).2=x:=⟨_,rfl⟩
   have hI:I64 ka∧I64 kb∧I64 kc∧I64 kd:=by
    rw [hkc,hkd] at hki
    refine ⟨?_,?_,hki.1,hki.2⟩
    ·have h1:=HFM.out.out0
     have h2:=HFM.out.out1
     unfold I64
     omega
    ·unfold maxLen at hsl
     unfold I64
     omega
   rw [hkeyp]
   rw [hka,hkb,hkc,hkd] at hkey
   subst hkey
   have HKEY:=hide hkeyp
   clear hka hkb hkc hkd hki hsl hkeyp
   obtain ⟨w7,hw7⟩:∃ y,y=w6.alloc (.cells #[.int .i64 ka,.int .i64 kb,.int .i64 kc,.int .i64 kd] 246):=⟨_,rfl⟩
   obtain ⟨K,hK⟩:∃ K,K=w6.heap.size:=⟨_,rfl⟩
   have hbK:Blk w7 K 246 #[.int .i64 ka,.int .i64 kb,.int .i64 kc,.int .i64 kd]:=by rw [hw7,hK];exact Blk.new _ _ _
   have hT7:Touch (fun _=>False) w5 w7:=by rw [hw7];exact T6.alloc _
   obtain ⟨kl,hkl⟩:=grp_key hI.1 hI.2.1 hI.2.2.1 hI.2.2.2
   have hG7:=HG5.out.quiet hT7
   obtain ⟨v,xs,hlk,hrow,hfull⟩:=hG7.lookup hkl
   have HFULL:=hide hfull
   clear hfull
   obtain ⟨vA,vc,hv,_,_⟩:=own_len hrow.1
   subst hv
   have HBK:=hide hbK
   have HT7:=hide hT7
   have HKL:=hide hkl
   have HG7:=hide hG7
   have HROW:=hide hrow
   have HW7:=hide hw7
   have HK:=hide hK
   rw [hw7] at hlk
   clear hbK hT7 hkl hG7 hrow hw7 hK T6 hI HKC
   go_wp2_with fail
   obtain ⟨wo,hwo⟩:∃ y,y=wr:=⟨_,rfl⟩
   subst hwo
   obtain ⟨q,hq⟩:∃ q,xs.length=q:=⟨_,rfl⟩
   rw [hq]
   have HQ2:=hide hq
   have hqi:q≤i:=by rw [← hq];exact HROW.out.2.1
   clear hq q1 q2 q3 x3 hlk
   go_loopw [5,77] (fun mv iv wr=>∃ (j:Nat),mv=.map (some b)∧iv=.int .i64 j∧j≤q∧Hid (∀ k,k<j→(stsOf Z).getD (xs.getD k 0) noSt≠sp)∧Hid (Touch (fun _=>False) w7 wr)) (fun _ iv _=>q-(intOf iv).toNat)
   case atStart =>
    rw [← HW7.out]
    exact ⟨0,rfl,rfl,by omega,hide (fun k hk=>absurd hk (Nat.not_lt_zero _)),hide (Touch.refl _ _)⟩
   case round =>
    obtain ⟨j,rfl,rfl,hjq,HNE,HTj⟩:=hrel
    by_cases hj2:j<q
    ·have j1:(j:Int)<(q:Int):=by omega
     have j2:(0:Int)≤(j:Int):=by omega
     have j3:IntKind.i64.wrap ((j:Int)+1)=(j:Int)+1:=IntWalk.i64_in _ (by omega)
     have hrow:=HROW.out.touch HTj.out (fun _ _ f=>f)
     obtain ⟨k,hk⟩:∃ k,xs.getD j 0=k:=⟨_,rfl⟩
     have hki:k<i:=by
      rw [← hk]
      exact hrow.2.2 _ (getD_mem xs 0 j (by rw [HQ2.out];exact hj2))
     obtain ⟨vb,vo,hvA,hvb,hvc⟩:=(RdT.of_own hrow.1).rd.2 (by rw [HQ2.out];omega)
     subst hvA
     have v0:=hvc j (natV k) (by
      rw [List.getElem?_map,getD_get? (d:=0) (by rw [HQ2.out];exact hj2),hk]
      rfl)
     simp only [natV] at v0
     have hT7j:=HT7.out.then HTj.out
     have hS:=HS5.out.quiet hT7j
     obtain ⟨gk,ok,hA,_,d0,d1,d2⟩:=zstate_at hS.rd.rd hS.len k (by omega)
     obtain ⟨rfl,rfl⟩:gk=g'∧ok=o':=by injection hA with hA;injection hA with e1 e2;exact ⟨e1.symm,e2.symm⟩
     have hym:=getD_mem Z zvZero k (by rw [HS2.out.len];omega)
     have hyo:=hS.el _ hym
     have hyf:=HRG.out.formP HLEN.out (by omega) hki
     have hyv:=ZV.sv_ok hyo hyf.2
     have hzo:z.Od w5:=(HZO.out.touch HT4.out (fun _ _ f=>f)).touch (S:=fun y=>y=u) (HT45.out) (fun y hy e=>hy.ne (own_ty HO4.out (g:=u) rfl) (by decide) (by have:=HU.out;omega) e)
     have hnq:(stsOf Z).getD k noSt=sp→¬ Q:=fun h=>by rw [← HQ.out];exact rgt_unl HLEN.out hi2 hki (by rw [HSP.out,h])
     obtain ⟨yy,hy⟩:∃ y,Z.getD k zvZero=y:=⟨_,rfl⟩
     obtain ⟨yp,hyp⟩:∃ y,(stsOf Z).getD k noSt=y:=⟨_,rfl⟩
     rw [hy,hyp] at hyv
     rw [hyp] at hnq
     rw [hy] at d0 d1 d2
     obtain ⟨yfin,yout,yA,yn,yc,yarcs⟩:=yy
     simp only [ZV.sv] at d0 d1 d2 hyv
     obtain ⟨y,hyz⟩:∃ y:SV,y=⟨yfin,yout,yA,yn,yc,yp.arcs⟩:=⟨_,rfl⟩
     rw [← hyz] at hyv
     have hz1:y.fin=yfin∧y.out=yout∧y.A=yA∧y.n=yn∧y.c=yc:=by rw [hyz];exact ⟨rfl,rfl,rfl,rfl,rfl⟩
     obtain ⟨rfl,rfl,rfl,rfl,rfl⟩:=hz1
     have HYP:=hide (show (stsOf Z).getD (xs.getD j 0) noSt=yp by rw [hk];exact hyp)
     have HNQ:=hide hnq
     obtain ⟨m0,m1,m2⟩:=(HM5.out.touch hT7j (fun f=>f)).facts
     obtain ⟨s0,s1,s2⟩:=(HBS5.out.touch hT7j (fun f=>f)).facts
     have n1:(k:Int)<(n:Int):=by omega
     have n2:(0:Int)≤(k:Int):=by omega
     have HAL:=hide (fun wx (T:Touch (fun _=>False) wr wx)=>galike_any wx z y ((hzo.touch hT7j (fun _ _ f=>f)).touch T (fun _ _ f=>f)) (hyv.1.touch T (fun _ _ f=>f)))
     have hpe:(z.p=y.p)=(sp=yp):=by rw [HZP.out,hyv.2.1]
     rw [hpe] at HAL
     have HTj7:=hide hT7j
     clear hrow hk hvc hT7j hS hA hym hyo hzo hy hyf hyv hnq hyp hyz hpe hki
     go_wp2_with fail
     go_still_tail 6,(by kernel_rfl)
     change wpList _ _ _ _ _ wr.drew
     have HD:=hide (show Touch (fun _=>False) wr wr.drew from (Touch.refl _ _).drew)
     generalize wr.drew=wd at HD ⊢
     go_wp2_with fail
     refine (HAL.out wd HD.out).mono ?_
     rintro e w9 ⟨⟨av,rfl,hav⟩,T9⟩
     have HT9:=hide T9
     cases av with
     | false =>
      have hne:yp≠sp:=fun e=>by have:=hav.2 e.symm;cases this
      have HNEY:=hide hne
      clear hne hav T9 HNQ
      go_wp2_with fail
      go_roundw
      ·refine ⟨j+1,rfl,by simp,by omega,hide ?_,hide (HTj.out.then (HD.out.then HT9.out))⟩
       intro k' hk'
       rcases Nat.lt_succ_iff_lt_or_eq.1 hk' with h | rfl
       ·exact HNE.out k' h
       ·rw [HYP.out]
        exact HNEY.out
      ·simp only [intOf];omega
     | true =>
      have hq:¬ Q:=HNQ.out (hav.1 rfl).symm
      have HQN:=hide hq
      clear hq hav T9 HNQ
      have hmn0:=fun wx=>run_neq_map_nil (P:=Tryz.prog) (w:=wx) 241 246 49 none Tryz.underlying241
      go_wp2_with fail
      refine wp_region_quiet_lit (by kernel_rfl) (by kernel_rfl) ?_
      iterate 3 quiet_step (fail)
      iterate 9
       rw [wpQuiet_cons8]
       go_simp
      iterate 2 quiet_step (fail)
      iterate 2
       rw [wpQuiet_cons8]
       go_simp
      iterate 2 quiet_step (fail)
      refine wpQuiet_nil ?_
      intro nq
      go_wp2_with fail
      rw [Exit.noGoto_ret]
      go_ret
      refine ⟨.mk false ⟨(fun h=>by cases h),fun h=>absurd h HQN.out⟩,?_⟩
      refine Touch.drewN ?_ _
      have h1:=HT5.out
      refine (HTW.out.then HT4.out).trans (T:=fun y=>y=u) ?_ (fun y hy e=>by have:=HU.out;omega)
      exact ((HT45.out.trans (T:=fun _=>False) (HT7.out.then (HTj.out.then (HD.out.then HT9.out))) (fun _ _ f=>f.elim)))
    ·have hje:j=q:=by omega
     have hunl:∀ k,k<i→(stsOf Z).getD k noSt≠sp:=by
      intro k hk e
      have h1:=HFULL.out k hk (by show keyV ((stsOf Z).getD k noSt)=_;rw [e];exact HKEY.out)
      obtain ⟨j',hj',hxj⟩:=List.getElem_of_mem h1
      have h2:=HNE.out j' (by rw [hje,← HQ2.out];exact hj')
      rw [show xs.getD j' 0=k by simp [List.getD,hj',hxj]] at h2
      exact h2 e
     have HRG2:=hide (HSTEP.out HFORM.out HSB.out hunl)
     clear hunl
     subst hje
     have j4:¬ (j:Int)<(j:Int):=by omega
     have x3:IntKind.i64.wrap ((i:Int)+1)=(i:Int)+1:=IntWalk.i64_in _ (by omega)
     obtain ⟨w8,hw8⟩:∃ y,y=wr.alloc (.cells #[.int .i64 i] 3):=⟨_,rfl⟩
     have hT78:Touch (fun _=>False) w7 w8:=by rw [hw8];exact HTj.out.alloc _
     have hb8:Blk w8 wr.heap.size 3 #[.int .i64 i]:=by rw [hw8];exact Blk.new _ _ _
     have hG8:=HG7.out.quiet hT78
     obtain ⟨es1,clock1,jj,e0,hme,hG9,hj0,hek⟩:=hG8.entry HKL.out
     obtain ⟨w9,hw9⟩:∃ y,y=setBlock w8 b (.map es1 clock1):=⟨_,rfl⟩
     rw [← hw9] at hme hG9
     have hT89:Touch (fun y=>y=b) w8 w9:=by rw [hw9];exact touch_setBlock _ _ _
     have hb9:=hb8.touch hT89 (map_ne (blk_ty hb8) hG8.g.blk)
     obtain ⟨ys,hrow⟩:=hG9.g.vals jj e0 hj0
     obtain ⟨eA,ec,hev,_,_⟩:=own_len hrow.1
     have hbk:=HBK.out.touch HTj.out (fun f=>f)
     rw [HK.out] at hbk
     obtain ⟨r0,r1,r2⟩:=hbk.facts
     have HROW9:=hide hrow
     have HG9:=hide hG9
     have HJ0:=hide hj0
     have HEV:=hide hev
     have HT89:=hide hT89
     have HT78:=hide hT78
     have HB9:=hide hb9
     have HW8:=hide hw8
     obtain ⟨i1,hi1,hy0,hy1,hy2⟩:=info_parts infoInt
     rw [hev] at hme
     rw [hw8] at hme
     simp only [goInt] at hme
     have hrow1:=hrow.1
     rw [hev] at hrow1
     have hrd:Reads w9 1 (some ⟨wr.heap.size,0,none⟩) 1 [.int .i64 i]:=⟨by simp,fun _=>⟨wr.heap.size,0,rfl,hb9.lt,fun j u hu=>by rw [hb9.cell,Nat.zero_add];simpa using hu⟩⟩
     have hone:∀ u∈[Value.int .i64 (i:Int)],u.oneCell'=true:=by
      intro u hu
      simp only [List.mem_singleton] at hu
      subst hu
      rfl
     have hyl:ys.length≤i:=hrow.2.1
     have hbb1:ys.length+1≤maxLen:=by unfold maxLen;omega
     have hbb2:(ys.length+1)*8≤140737488355328:=by omega
     have hST:Hid (∀ v1 w10,w10.ownsRow 0 3 1 v1 (ys.length+1) (ys.map natV++[.int .i64 i])→w9.grownBy w10 (Value.slice eA ys.length ec).ownBlock→Fresh w9 (.slice eA ys.length ec) v1 →
       ∃ es' w11,(Instr.entryStore 241 (.map (some b)) (.int .i64 e0.born) v1).run Tryz.prog w10=.ok () w11∧Gr2 w11 w2.heap.size b (i+1) (fun k=>keyV ((stsOf Z).getD k noSt)) es' clock1∧w11.ownsRow 0 243 3 (.slice (some ⟨u,0,none⟩) n n) n (uCells (uF (stsOf Z) n (i+1)))∧Touch (fun x=>x=u∨x=b) w2 w11):=by
      intro v1 w10 O10 G10 F10
      have hB:w2.heap.size≤w9.heap.size:=by
       have h1:=HT.out.size
       have h2:=HT5.out.size
       have h3:=HT7.out.size
       have h4:=hT78.size
       have h5:=hT89.size
       omega
      obtain ⟨es',hes,hG11⟩:=hG9.store (hek.trans (by show _=keyV ((stsOf Z).getD i noSt);rw [HSP.out];exact HKEY.out.symm)) hrow hj0 (v1:=v1) (xs:=ys++[i]) (by rw [hev];exact G10) (by rw [hev];exact F10) ⟨by simpa [natV] using O10,by simp;omega,by
       intro k hk
       rcases List.mem_append.1 hk with h | h
       ·have:=hrow.2.2 k h;omega
       ·simp at h;omega⟩ rfl hB
      refine ⟨es',_,hes,hG11,?_,?_⟩
      ·have h1:=own_touch HO5.out (HT7.out.then hT78) (fun _ _ f=>f)
       have h2:=own_touch h1 hT89 (fun y hy e=>by
        injection hy with hy
        exact HUB.out (hy.trans e))
       have h3:=own_touch h2 ((Touch.refl (fun y=>(Value.slice eA ys.length ec).ownBlock=some y) w9).grown G10 (fun k hk _=>hk)) (fun y hy e=>own_own_ne h2 hrow1 (by decide) hy e)
       exact own_touch h3 (touch_setBlock _ _ _) (fun y hy e=>by
        injection hy with hy
        exact HUB.out (hy.trans e))
      ·have t1:Touch (fun x=>x=u∨x=b) w2 w8:=(HT.out.trans HT5.out fun _ _ h=>.inl h).trans (HT7.out.then hT78) (fun _ _ f=>f.elim)
       have t2:=t1.trans hT89 (fun _ _ h=>.inr h)
       have t3:=t2.grown G10 (fun k hk hlt=>by
        have:=hG9.g.young jj e0 hj0 k (by rw [hev];exact hk)
        omega)
       exact t3.trans (touch_setBlock _ _ _) (fun _ _ h=>.inr h)
     have HRW:=hide hrow1
     have HRD:=hide hrd
     have HONE:=hide hone
     have HBB:=hide (And.intro hbb1 hbb2)
     clear hw8 hw9 hT78 hb8 hG8 hG9 hj0 hT89 hb9 hrow hev hrow1 hrd hone hbb1 hbb2
     go_wp2_with (at_builtin;refine wpList_app _ rfl (.tmp 91) (.tmp 93) 49 rfl 3 i1 _ 1 8 Tryz.underlying49 hi1 hy0 hy1 hy2 rfl (by decide) (.slice eA ys.length ec) ys.length _ rfl HRW.out (some ⟨wr.heap.size,0,none⟩) 1 1 [.int .i64 i] rfl HRD.out (fun h=>by cases h) HONE.out HBB.out.1 HBB.out.2 ?_;intro v1 w10 O10 G10 F10 _;obtain ⟨es',w11,hes,hG11,hO11,hT11⟩:=hST.out v1 w10 O10 G10 F10;have HG11:=hide hG11;have HO11:=hide hO11;have HT11:=hide hT11;clear hG11 hO11 hT11 O10 G10 F10)
     go_roundw
     ·exact ⟨i+1,es',clock1,rfl,by simp,by omega,HG11,HRG2,HO11,HT11⟩
     ·simp only [intOf];omega
  ·have hie:i=n:=by omega
   subst hie
   have j4:¬ (i:Int)<(i:Int):=by omega
   obtain ⟨ug,uo,hA,hug,e0,e1,e2⟩:=sum_at (RdT.of_own HO.out).rd (uF_len _ _ _) (i-1) (by omega)
   injection hA with hA
   injection hA with hA1 hA2
   subst hA1 hA2
   have hend:=HRG.out.right HLEN.out hpos HFEW.out hb1 hb2 HFL.out
   rw [HQ.out] at hend
   have hsok:=HRG.out.sum (i-1) (by omega)
   have hug:=uF_get (sts:=stsOf Z) (n:=i) i (i-1) (by omega) (Nat.le_refl _)
   obtain ⟨x,hx⟩:∃ x,((uF (stsOf Z) i i).getD (i-1) z3).2.2=x:=⟨_,rfl⟩
   have hx0:0≤x∧x≤1048576:=by
    rw [← hx,hug]
    exact (hsok _).2.2
   rw [hx] at e2 hend
   simp only [Nat.zero_add] at e2
   have z2:IntKind.i64.wrap (base+x)=base+x:=IntWalk.i64_in _ (by omega)
   obtain ⟨Y,hY,hsY⟩:=HSr.out.ok (HRG.out.all HLEN.out)
   have harc:∀ k,k<i→∀ a∈(Y.getD k svZero).arcs,a.2.2<k:=by
    intro k hk a ha
    have h1:=(HRG.out.formP HLEN.out (Nat.le_refl _) hk).1
    have h2:(stsOf Z).getD k noSt=(Y.getD k svZero).p:=by
     rw [← hY]
     simp [List.getD,hsY.len,hk]
    rw [h2] at h1
    exact (h1.arc a ha).2.2
   obtain ⟨m0,m1,m2⟩:=HMr.out.facts
   have hcn:=fun wx (T:Touch (fun _=>False) wr wx)=>gnumbered_any wx base (some ⟨g,o,none⟩) i c Y (hsY.quiet (w':=wx) T) harc hpos (by have:=HFEW.out;omega) (by have h1:=T.size;have h2:=HT.out.size;have h3:=HT2.out.size;omega)
   rw [hY] at hcn
   have HCN:=hide hcn
   have hTw:Touch (fun _=>False) w wr:=HT2.out.trans HT.out fun x hx hor=>by
    have h1:=HU.out
    have h2:=HB.out
    omega
   have HTW:=hide hTw
   have hmn:=fun wx=>run_neq_map_nil (P:=Tryz.prog) (w:=wx) 241 246 49 (some b) Tryz.underlying241
   by_cases htop:base+x≤1048576
   rotate_left
   ·have hdt:decide (base+x≤1048576)=false:=by simpa using htop
    have hq:¬ Q:=fun h=>htop (hend.2 h).1
    have HQN:=hide hq
    clear hx hug hsok htop hx0 e0 e1 harc hcn hTw hend hY hsY hq
    go_wp2_with fail
    refine wp_region_quiet_lit (by kernel_rfl) (by kernel_rfl) ?_
    iterate 14 quiet_step (fail)
    rw [wpQuiet_cons8]
    go_simp
    rw [wpQuiet_cons8]
    go_simp
    iterate 2 quiet_step (fail)
    refine wpQuiet_nil ?_
    intro nq
    go_wp2_with fail
    rw [Exit.noGoto_ret]
    go_ret
    exact ⟨.mk false ⟨(fun h=>by cases h),fun h=>absurd h HQN.out⟩,HTW.out.drewN _⟩
   have hdt:decide (base+x≤1048576)=true:=by simpa using htop
   have hvq:(∃ s',visF (stsOf Z) i (i-1) (List.replicate i false) 0=(true,s',i))↔Q:=⟨fun h=>hend.1 ⟨htop,h⟩,fun h=>(hend.2 h).2⟩
   have HVQ:=hide hvq
   clear hx hug hsok htop hx0 e0 e1 harc hcn hTw hend hY hsY hvq
   go_wp2_with fail
   go_still_tail 15,(by kernel_rfl)
   change wpList _ _ _ _ _ wr.drew
   have HD:=hide (show Touch (fun _=>False) wr wr.drew from (Touch.refl _ _).drew)
   generalize wr.drew=wd at HD ⊢
   go_wp2_with fail
   refine (HCN.out wd HD.out).mono ?_
   rintro e w9 ⟨⟨nv,rfl,hnv⟩,T9⟩
   have HT9:=hide T9
   have HNV:=hide (hnv.trans HVQ.out)
   clear T9 hnv
   cases nv
   all_goals
    go_wp2_with fail
    rw [Exit.noGoto_ret]
    go_ret
    first
    | exact ⟨.mk _ HNV.out,HTW.out.then (HD.out.then HT9.out)⟩
    | exact ⟨.mk true ⟨fun _=>HNV.out.1 (by simp),fun _=>rfl⟩,HTW.out.then (HD.out.then HT9.out)⟩
end Go.Proofs.YthockgmbooefpaaGreatDoor
