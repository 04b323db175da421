/- What the law rests on, part 17. No condition but those that each theorem names. -/
import Derived.Test.YthockgmbooefpaaGreatDoorT16
import Derived.Test.YthockgmbooefpaaGreatDoorT06
import Derived.Test.YthockgmbooefpaaGreatDoorT15
import Derived.Test.YthockgmbooefpaaGreatDoorT05
import Derived.Test.YthockgmbooefpaaGreatDoorT00
set_option linter.unusedSectionVars false
set_option linter.unusedSimpArgs false
set_option linter.unusedVariables false
namespace Go.Proofs.YthockgmbooefpaaGreatDoor
open Go.RowKit
variable [Inhabited BaseT]
theorem said_write_app {r:Nat} (hr:r<1114112) (t:List UInt8):saidU (writeU r).length (writeU r++t)=r:=by
 unfold writeU
 split
 ·simp only [saidU,List.length_cons,List.length_nil,UInt8.toNat_ofNat',List.cons_append,List.nil_append]
  omega
 ·split
  ·simp only [saidU,List.length_cons,List.length_nil,UInt8.toNat_ofNat',List.cons_append,List.nil_append]
   omega
  ·split
   ·simp only [saidU,List.length_cons,List.length_nil,UInt8.toNat_ofNat',List.cons_append,List.nil_append]
    omega
   ·simp only [saidU,List.length_cons,List.length_nil,UInt8.toNat_ofNat',List.cons_append,List.nil_append]
    omega
theorem runes_flat:∀ (x:List Nat),(∀ r∈x,scal r=true)→runesU (x.flatMap writeU)=some x
 | [],_=>runesU_nil
 | r :: x,h=>by
  have hs:=h r List.mem_cons_self
  have ih:=runes_flat x (fun q hq=>h q (List.mem_cons_of_mem _ hq))
  have hl:=write_len r
  rw [List.flatMap_cons]
  have hit:utf1 (writeU r++x.flatMap writeU)=(r,(writeU r).length):=by
   have:=utf1_hit (n:=(writeU r).length) (bs:=writeU r++x.flatMap writeU) hl.1 hl.2 (by rw [List.length_append];omega) ⟨by rw [said_write_app (scal_lt hs)];exact hs,by rw [said_write_app (scal_lt hs),List.take_left]⟩
   rw [said_write_app (scal_lt hs)] at this
   exact this
  rw [runesU_step (by rw [List.length_append];omega),hit]
  simp only
  rw [if_neg (by omega),List.drop_left,ih]
  rfl
def rstF (sts:List StP):Nat→Nat→Rs
 | 0,_=>[]
 | f+1,i=>(if (sts.getD i noSt).fin=true then [([],(sts.getD i noSt).out)] else [])++(sts.getD i noSt).arcs.flatMap fun a=>(rstF sts f a.2.2).map fun r=>(a.1 :: r.1,r.2+a.2.1)
def rst (sts:List StP) (i:Nat):Rs:=rstF sts (i+1) i
def Down (sts:List StP):Prop:=∀ i,i<sts.length→∀ a∈(sts.getD i noSt).arcs,a.2.2<i
theorem flatMap_congr' {α β:Type} {f g:α→List β}:∀ {l:List α},(∀ a∈l,f a=g a)→l.flatMap f=l.flatMap g
 | [],_=>rfl
 | a :: l,h=>by rw [List.flatMap_cons,List.flatMap_cons,h a List.mem_cons_self,flatMap_congr' fun b hb=>h b (List.mem_cons_of_mem _ hb)]
theorem rstF_fuel {sts:List StP} (hd:Down sts):∀ (f i g:Nat),i<f→i<sts.length→f≤g→rstF sts g i=rstF sts f i
 | 0,_,_,h,_,_=>absurd h (Nat.not_lt_zero _)
 | f+1,i,g,hi,hl,hg=>by
  obtain ⟨g,rfl⟩:∃ k,g=k+1:=⟨g-1,by omega⟩
  simp only [rstF]
  congr 1
  refine flatMap_congr' fun a ha=>?_
  have:=hd i hl a ha
  rw [rstF_fuel hd f a.2.2 g (by omega) (by omega) (by omega)]
theorem rst_eq {sts:List StP} (hd:Down sts) {i:Nat} (hi:i<sts.length):rst sts i=(if (sts.getD i noSt).fin=true then [([],(sts.getD i noSt).out)] else [])++(sts.getD i noSt).arcs.flatMap fun a=>(rst sts a.2.2).map fun r=>(a.1 :: r.1,r.2+a.2.1):=by
 have h:rst sts i=(if (sts.getD i noSt).fin=true then [([],(sts.getD i noSt).out)] else [])++(sts.getD i noSt).arcs.flatMap fun a=>(rstF sts i a.2.2).map fun r=>(a.1 :: r.1,r.2+a.2.1):=rfl
 rw [h]
 congr 1
 refine flatMap_congr' fun a ha=>?_
 have:=hd i hi a ha
 show (rstF sts i a.2.2).map _=(rstF sts (a.2.2+1) a.2.2).map _
 rw [rstF_fuel hd (a.2.2+1) a.2.2 i (by omega) (by omega) (by omega)]
theorem stP_ext:∀ {x y:StP},x.fin=y.fin→x.out=y.out→x.arcs=y.arcs→x=y
 | ⟨_,_,_⟩,⟨_,_,_⟩,rfl,rfl,rfl=>rfl
section
variable {sts:List StP}
theorem mem_rst_nil (hd:Down sts) {i:Nat} (hi:i<sts.length) {n:Int}:([],n)∈rst sts i↔(sts.getD i noSt).fin=true∧n=(sts.getD i noSt).out:=by
 rw [rst_eq hd hi,List.mem_append,List.mem_flatMap]
 constructor
 ·rintro (h | ⟨a,_,h⟩)
  ·split at h
   ·rename_i hf
    simp only [List.mem_singleton,Prod.mk.injEq,true_and] at h
    exact ⟨hf,h⟩
   ·cases h
  ·obtain ⟨r,_,hr⟩:=List.mem_map.1 h
   simp at hr
 ·rintro ⟨hf,rfl⟩
  left
  rw [if_pos hf]
  exact List.mem_singleton.2 rfl
theorem mem_rst_cons (hd:Down sts) {i:Nat} (hi:i<sts.length) {c:Nat} {t:List Nat} {n:Int}:(c :: t,n)∈rst sts i↔∃ a∈(sts.getD i noSt).arcs,a.1=c∧(t,n-a.2.1)∈rst sts a.2.2:=by
 rw [rst_eq hd hi,List.mem_append,List.mem_flatMap]
 constructor
 ·rintro (h | ⟨a,ha,h⟩)
  ·split at h<;>simp at h
  ·obtain ⟨r,hr,he⟩:=List.mem_map.1 h
   simp only [Prod.mk.injEq,List.cons.injEq] at he
   obtain ⟨⟨h1,h2⟩,h3⟩:=he
   refine ⟨a,ha,h1,?_⟩
   rw [← h2,show n-a.2.1=r.2 by omega]
   exact hr
 ·rintro ⟨a,ha,rfl,h⟩
  right
  refine ⟨a,ha,List.mem_map.2 ⟨_,h,?_⟩⟩
  simp only [Prod.mk.injEq,true_and]
  omega
structure RsOk (sts:List StP) (i:Nat):Prop where
 sort:SortR (rst sts i)
 ne:rst sts i≠[]
 least:leastR (rst sts i)=0
theorem form_down (hf:∀ i,i<sts.length→FormP i (sts.getD i noSt)):Down sts:=fun i hi a ha=>((hf i hi).arc a ha).2.2
theorem lab_inj {z:StP} (h:(z.arcs.map (·.1)).Pairwise (·<·)) {a b:Nat × Int × Nat} (ha:a∈z.arcs) (hb:b∈z.arcs) (e:a.1=b.1):a=b:=by
 obtain ⟨i,hi,rfl⟩:=List.getElem_of_mem ha
 obtain ⟨j,hj,rfl⟩:=List.getElem_of_mem hb
 rw [List.pairwise_map] at h
 have h2:=List.pairwise_iff_getElem.1 h
 rcases Nat.lt_trichotomy i j with h3 | h3 | h3
 ·have:=h2 i j hi hj h3;omega
 ·subst h3;rfl
 ·have:=h2 j i hj hi h3;omega
theorem low_zero {i:Nat} {z:StP} (h:FormP i z):(z.fin=true∧z.out=0)∨∃ a∈z.arcs,a.2.1=0:=by
 have hl:=h.low
 unfold lowP at hl
 have gen:∀ (l:List (Nat × Int × Nat)) (m:Int),l.foldl (fun m a=>min m a.2.1) m=0→m=0∨∃ a∈l,a.2.1=0:=by
  intro l
  induction l with
  | nil=>intro m h;exact .inl h
  | cons a l ih =>
   intro m h
   rw [List.foldl_cons] at h
   rcases ih _ h with h1 | ⟨b,hb,h1⟩
   ·by_cases hm:m≤a.2.1
    ·left;omega
    ·right;exact ⟨a,List.mem_cons_self,by omega⟩
   ·exact .inr ⟨b,List.mem_cons_of_mem _ hb,h1⟩
 rcases gen _ _ hl with h1 | h1
 ·left
  split at h1
  ·rename_i hf
   exact ⟨hf,h1⟩
  ·omega
 ·exact .inr h1
theorem rs_ok (hf:∀ i,i<sts.length→FormP i (sts.getD i noSt)):∀ (k i:Nat),i<k→i<sts.length→RsOk sts i
 | 0,_,h,_=>absurd h (Nat.not_lt_zero _)
 | k+1,i,hk,hi=>by
  have hd:=form_down hf
  have hF:=hf i hi
  have ih:∀ a∈(sts.getD i noSt).arcs,RsOk sts a.2.2:=fun a ha=>rs_ok hf k a.2.2 (by have:=hd i hi a ha;omega) (by have:=hd i hi a ha;omega)
  have hpos:∀ r∈rst sts i,0≤r.2:=by
   rintro ⟨x,n⟩ hr
   cases x with
   | nil =>
    have:=(mem_rst_nil hd hi).1 hr
    have h0:=hF.out0
    simp only
    omega
   | cons c t =>
    obtain ⟨a,ha,_,h⟩:=(mem_rst_cons hd hi).1 hr
    have h1:=leastR_le h
    rw [(ih a ha).least] at h1
    have h2:=(hF.arc a ha).1
    simp only at h1 ⊢
    omega
  have hzero:∃ x,(x,0)∈rst sts i:=by
   rcases low_zero hF with ⟨h1,h2⟩ | ⟨a,ha,h2⟩
   ·exact ⟨[],(mem_rst_nil hd hi).2 ⟨h1,h2.symm⟩⟩
   ·obtain ⟨r,hr,hr0⟩:=leastR_mem (ih a ha).ne
    rw [(ih a ha).least] at hr0
    obtain ⟨x,n⟩:=r
    simp only at hr0
    subst hr0
    exact ⟨a.1 :: x,(mem_rst_cons hd hi).2 ⟨a,ha,rfl,by rw [h2];exact hr⟩⟩
  obtain ⟨x0,hx0⟩:=hzero
  have hne:rst sts i≠[]:=fun e=>by rw [e] at hx0;cases hx0
  refine ⟨?_,hne,?_⟩
  ·rw [rst_eq hd hi]
   unfold SortR
   rw [List.pairwise_append]
   refine ⟨by split<;>simp,?_,?_⟩
   ·rw [List.pairwise_flatMap]
    refine ⟨fun a ha=>?_,?_⟩
    ·have hs:=(ih a ha).sort
     unfold SortR at hs
     rw [List.pairwise_map]
     refine hs.imp fun {x y} h=>?_
     unfold ltR at h ⊢
     rw [lexN_cons]
     exact h
    ·have hl:=hF.lab
     rw [List.pairwise_map] at hl
     refine hl.imp fun {a b} h=>?_
     intro x hx y hy
     obtain ⟨p,_,rfl⟩:=List.mem_map.1 hx
     obtain ⟨q,_,rfl⟩:=List.mem_map.1 hy
     simp only [ltR,lexN]
     rw [if_neg (by omega)]
     simpa using h
   ·intro x hx y hy
    split at hx
    ·simp only [List.mem_singleton] at hx
     subst hx
     obtain ⟨a,_,hy⟩:=List.mem_flatMap.1 hy
     obtain ⟨q,_,rfl⟩:=List.mem_map.1 hy
     rfl
    ·cases hx
  ·have h1:=leastR_le hx0
   obtain ⟨r,hr,hr0⟩:=leastR_mem hne
   have:=hpos r hr
   simp only at h1
   omega
theorem under_rst (hf:∀ i,i<sts.length→FormP i (sts.getD i noSt)) {i:Nat} (hi:i<sts.length) {a:Nat × Int × Nat} (ha:a∈(sts.getD i noSt).arcs) :
  underR (rst sts i) a.1≠[]∧leastR (underR (rst sts i) a.1)=a.2.1∧levelR (underR (rst sts i) a.1)=rst sts a.2.2:=by
 have hd:=form_down hf
 have hF:=hf i hi
 have hto:=hd i hi a ha
 have ok:=rs_ok hf (a.2.2+1) a.2.2 (by omega) (by omega)
 have oki:=rs_ok hf (i+1) i (by omega) hi
 have hm:∀ t n,(t,n)∈underR (rst sts i) a.1↔(t,n-a.2.1)∈rst sts a.2.2:=by
  intro t n
  rw [mem_under,mem_rst_cons hd hi]
  constructor
  ·rintro ⟨b,hb,he,h⟩
   rw [← lab_inj hF.lab hb ha he]
   exact h
  ·intro h
   exact ⟨a,ha,rfl,h⟩
 obtain ⟨r,hr,hr0⟩:=leastR_mem ok.ne
 rw [ok.least] at hr0
 have hin:(r.1,a.2.1)∈underR (rst sts i) a.1:=by
  rw [hm,Int.sub_self,← hr0]
  exact hr
 have hne:underR (rst sts i) a.1≠[]:=fun e=>by rw [e] at hin;cases hin
 have hle:leastR (underR (rst sts i) a.1)=a.2.1:=by
  have h1:=leastR_le hin
  obtain ⟨q,hq,hq0⟩:=leastR_mem hne
  have h2:=(hm q.1 q.2).1 hq
  have h3:=leastR_le h2
  rw [ok.least] at h3
  simp only at h1 h3
  omega
 refine ⟨hne,hle,sort_ext (sort_level (sort_under _ oki.sort)) ok.sort ?_⟩
 rintro ⟨t,n⟩
 rw [mem_level,hm,hle,show n+a.2.1-a.2.1=n by omega]
theorem corr_rst (hf:∀ i,i<sts.length→FormP i (sts.getD i noSt)) {i:Nat} (hi:i<sts.length):Corr ((List.range sts.length).map (rst sts)) i (rst sts i) (sts.getD i noSt):=by
 have hd:=form_down hf
 have hF:=hf i hi
 have ok:=rs_ok hf (i+1) i (by omega) hi
 have hfin:(sts.getD i noSt).fin=finR (rst sts i):=by
  rw [Bool.eq_iff_iff,finR_iff]
  constructor
  ·intro h
   exact ⟨_,(mem_rst_nil hd hi).2 ⟨h,rfl⟩⟩
  ·rintro ⟨n,h⟩
   exact ((mem_rst_nil hd hi).1 h).1
 refine ⟨ok.sort,ok.ne,ok.least,hfin,?_,?_,?_⟩
 ·by_cases h:(sts.getD i noSt).fin=true
  ·exact (outR_mem ok.sort ((mem_rst_nil hd hi).2 ⟨h,rfl⟩)).symm
  ·have h2:(sts.getD i noSt).fin=false:=by simpa using h
   rw [hF.fin0 h2,outR_none ok.sort (by rw [← hfin];exact h2)]
 ·refine sorted_ext (lt:=fun a b:Nat=>a<b) (fun a h=>by omega) (fun a b h g=>by omega) hF.lab (firsts_sorted ok.sort) ?_
  intro c
  rw [mem_firsts]
  constructor
  ·intro h
   obtain ⟨a,ha,rfl⟩:=List.mem_map.1 h
   exact (under_rst hf hi ha).1
  ·intro h
   obtain ⟨r,hr⟩:=List.exists_mem_of_ne_nil _ h
   have h2:=(mem_under (t:=r.1) (n:=r.2)).1 hr
   obtain ⟨a,ha,he,_⟩:=(mem_rst_cons hd hi).1 h2
   exact List.mem_map.2 ⟨a,ha,he⟩
 ·intro a ha
  have hto:=hd i hi a ha
  obtain ⟨_,h2,h3⟩:=under_rst hf hi ha
  refine ⟨h2.symm,hto,?_⟩
  rw [h3]
  simp [show a.2.2<sts.length by omega]
theorem rst_inj (hf:∀ i,i<sts.length→FormP i (sts.getD i noSt)) (hu:∀ i j,i<sts.length→j<sts.length→sts.getD i noSt=sts.getD j noSt→i=j):∀ (k i j:Nat),i<k→i<sts.length→j<sts.length→rst sts i=rst sts j→i=j
 | 0,_,_,h,_,_,_=>absurd h (Nat.not_lt_zero _)
 | k+1,i,j,hk,hi,hj,e=>by
  have ci:=corr_rst hf hi
  have cj:=corr_rst hf hj
  refine hu i j hi hj ?_
  have e1:(sts.getD i noSt).fin=(sts.getD j noSt).fin:=by rw [ci.fin,cj.fin,e]
  have e2:(sts.getD i noSt).out=(sts.getD j noSt).out:=by rw [ci.out,cj.out,e]
  have e3:(sts.getD i noSt).arcs=(sts.getD j noSt).arcs:=by
   have hl:(sts.getD i noSt).arcs.map (·.1)=(sts.getD j noSt).arcs.map (·.1):=by rw [ci.labels,cj.labels,e]
   have hlen:(sts.getD i noSt).arcs.length=(sts.getD j noSt).arcs.length:=by have:=congrArg List.length hl;simpa using this
   refine List.ext_getElem hlen fun n h1 h2=>?_
   have hlab:(sts.getD i noSt).arcs[n].1=(sts.getD j noSt).arcs[n].1:=by
    have:=congrArg (fun l=>l[n]?) hl
    simp only [List.getElem?_map,List.getElem?_eq_getElem h1,List.getElem?_eq_getElem h2,Option.map_some,Option.some.injEq] at this
    exact this
   have ha:=List.getElem_mem h1
   have hb:=List.getElem_mem h2
   obtain ⟨_,p2,p3⟩:=under_rst hf hi ha
   obtain ⟨_,q2,q3⟩:=under_rst hf hj hb
   rw [hlab,e] at p2 p3
   have t1:=form_down hf i hi _ ha
   have t2:=form_down hf j hj _ hb
   have hto:=rst_inj hf hu k (sts.getD i noSt).arcs[n].2.2 (sts.getD j noSt).arcs[n].2.2 (by omega) (by omega) (by omega) (p3.symm.trans q3)
   exact Prod.ext hlab (Prod.ext (p2.symm.trans q2) hto)
  exact stP_ext e1 e2 e3
end
end Go.Proofs.YthockgmbooefpaaGreatDoor
namespace Go.Proofs.YthockgmbooefpaaGreatDoor
open Go.RowKit
variable [Inhabited BaseT]
section
variable {sts:List StP}
theorem sum_fold (U:List S3):∀ (l:List (Nat × Int × Nat)) (x:S3),(∀ a∈l,(U.getD a.2.2 z3).1=(rst sts a.2.2).length∧∀ r∈rst sts a.2.2,(r.1.length:Int)≤(U.getD a.2.2 z3).2.1∧r.2≤(U.getD a.2.2 z3).2.2) →
  (l.foldl (sumStep U) x).1=x.1+((l.flatMap fun a=>(rst sts a.2.2).map fun r=>(a.1 :: r.1,r.2+a.2.1)).length:Nat)∧x.2.1≤(l.foldl (sumStep U) x).2.1∧x.2.2≤(l.foldl (sumStep U) x).2.2 ∧
  ∀ r∈l.flatMap fun a=>(rst sts a.2.2).map fun r=>(a.1 :: r.1,r.2+a.2.1),(r.1.length:Int)≤(l.foldl (sumStep U) x).2.1∧r.2≤(l.foldl (sumStep U) x).2.2
 | [],x,_=>⟨by simp,Int.le_refl _,Int.le_refl _,fun r hr=>by cases hr⟩
 | a :: l,x,h=>by
  obtain ⟨h1,h2,h3,h4⟩:=sum_fold U l (sumStep U x a) (fun b hb=>h b (List.mem_cons_of_mem _ hb))
  obtain ⟨g1,g2⟩:=h a List.mem_cons_self
  rw [List.foldl_cons]
  simp only [sumStep] at h1 h2 h3 h4 ⊢
  refine ⟨?_,by omega,by omega,?_⟩
  ·rw [h1,List.flatMap_cons,List.length_append,List.length_map,g1]
   omega
  ·intro r hr
   rw [List.flatMap_cons] at hr
   rcases List.mem_append.1 hr with hr | hr
   ·obtain ⟨q,hq,rfl⟩:=List.mem_map.1 hr
    have:=g2 q hq
    simp only [List.length_cons]
    omega
   ·exact h4 r hr
theorem sum_rst (hf:∀ i,i<sts.length→FormP i (sts.getD i noSt)):∀ (k i:Nat),i<k→i<sts.length →
  (sumP (uF sts sts.length i) (sts.getD i noSt) (sts.getD i noSt).arcs.length).1=(rst sts i).length∧∀ r∈rst sts i,(r.1.length:Int)≤(sumP (uF sts sts.length i) (sts.getD i noSt) (sts.getD i noSt).arcs.length).2.1∧r.2≤(sumP (uF sts sts.length i) (sts.getD i noSt) (sts.getD i noSt).arcs.length).2.2
 | 0,_,h,_=>absurd h (Nat.not_lt_zero _)
 | k+1,i,hk,hi=>by
  have hd:=form_down hf
  have ih:∀ a∈(sts.getD i noSt).arcs,((uF sts sts.length i).getD a.2.2 z3).1=(rst sts a.2.2).length∧∀ r∈rst sts a.2.2,(r.1.length:Int)≤((uF sts sts.length i).getD a.2.2 z3).2.1∧r.2≤((uF sts sts.length i).getD a.2.2 z3).2.2:=fun a ha=>by
   have hto:=hd i hi a ha
   rw [uF_get i a.2.2 hto (by omega)]
   exact sum_rst hf k a.2.2 (by omega) (by omega)
  obtain ⟨h1,h2,h3,h4⟩:=sum_fold (uF sts sts.length i) (sts.getD i noSt).arcs (if (sts.getD i noSt).fin=true then 1 else 0,0,(sts.getD i noSt).out) ih
  have e:sumP (uF sts sts.length i) (sts.getD i noSt) (sts.getD i noSt).arcs.length=(sts.getD i noSt).arcs.foldl (sumStep (uF sts sts.length i)) (if (sts.getD i noSt).fin=true then 1 else 0,0,(sts.getD i noSt).out):=by
   unfold sumP
   rw [List.take_length]
  rw [e]
  simp only at h1 h2 h3
  rw [rst_eq hd hi]
  refine ⟨?_,?_⟩
  ·rw [h1,List.length_append]
   split
   ·simp
   ·simp
  ·intro r hr
   rcases List.mem_append.1 hr with hr | hr
   ·split at hr
    ·simp only [List.mem_singleton] at hr
     subst hr
     simp only [List.length_nil]
     omega
    ·cases hr
   ·exact h4 r hr
theorem run_rst (hf:∀ i,i<sts.length→FormP i (sts.getD i noSt)):∀ (k i:Nat),i<k→i<sts.length→∀ r∈rst sts i,∀ c∈r.1,scal c=true∧fitU c=true
 | 0,_,h,_=>absurd h (Nat.not_lt_zero _)
 | k+1,i,hk,hi=>by
  have hd:=form_down hf
  rintro ⟨x,n⟩ hr c hc
  cases x with
  | nil=>cases hc
  | cons d t =>
   obtain ⟨a,ha,rfl,h⟩:=(mem_rst_cons hd hi).1 hr
   have hto:=hd i hi a ha
   rcases List.mem_cons.1 hc with rfl | hc
   ·exact (hf i hi).run a ha
   ·exact run_rst hf k a.2.2 (by omega) (by omega) _ h c hc
def preK (sts:List StP) (m:Nat):KnP:=⟨((List.range sts.length).map (rst sts)).take m,sts.take m⟩
theorem idx_old (hf:∀ i,i<sts.length→FormP i (sts.getD i noSt)) (hu:∀ i j,i<sts.length→j<sts.length→sts.getD i noSt=sts.getD j noSt→i=j) {i m:Nat} (hi:i<m) (hm:m≤sts.length):idxR (preK sts m).rests (rst sts i)=some i:=by
 unfold idxR preK
 simp only
 rw [List.findIdx?_eq_some_iff_getElem]
 refine ⟨by simp;omega,by simp [hi],?_⟩
 intro j hj
 simp only [List.getElem_take,List.getElem_map,List.getElem_range,decide_eq_true_eq]
 intro e
 have:=rst_inj hf hu (j+1) j i (by omega) (by omega) (by omega) e
 omega
theorem idx_new (hf:∀ i,i<sts.length→FormP i (sts.getD i noSt)) (hu:∀ i j,i<sts.length→j<sts.length→sts.getD i noSt=sts.getD j noSt→i=j) {i m:Nat} (hi:m≤i) (hil:i<sts.length):idxR (preK sts m).rests (rst sts i)=none:=by
 unfold idxR preK
 simp only
 rw [List.findIdx?_eq_none_iff]
 intro x hx
 obtain ⟨j,hj,rfl⟩:=List.getElem_of_mem hx
 simp only [List.length_take,List.length_map,List.length_range] at hj
 simp only [List.getElem_take,List.getElem_map,List.getElem_range,decide_eq_false_iff_not]
 intro e
 have:=rst_inj hf hu (j+1) j i (by omega) (by omega) hil e
 omega
theorem pre_succ {m:Nat} (hm:m<sts.length):preK sts (m+1)=⟨(preK sts m).rests++[rst sts m],(preK sts m).states++[sts.getD m noSt]⟩:=by
 unfold preK
 simp only
 rw [List.take_succ_eq_append_getElem (by simpa using hm),List.take_succ_eq_append_getElem hm]
 simp [List.getD,hm]
theorem vis_state (hf:∀ i,i<sts.length→FormP i (sts.getD i noSt)) (hu:∀ i j,i<sts.length→j<sts.length→sts.getD i noSt=sts.getD j noSt→i=j) :
  ∀ (F f i m:Nat) (l:Rs) (s':List Bool) (n':Nat),i<sts.length→depR (rst sts i)<f→levelR l=rst sts i→m≤i→visF sts F i (seenT sts.length m) m=(true,s',n') →
   n'=i+1∧s'=seenT sts.length (i+1)∧stateF f (preK sts m) l=(preK sts (i+1),i)
 | 0,_,_,_,_,_,_,_,_,_,_,h=>by simp [visF] at h
 | F+1,0,_,_,_,_,_,_,h,_,_,_=>absurd h (Nat.not_lt_zero _)
 | F+1,f+1,i,m,l,s',n',hi,hdep,hl,hmi,hv=>by
  have hd:=form_down hf
  have hc:=corr_rst hf hi
  simp only [visF] at hv
  obtain ⟨⟨ok,s1,n1⟩,hr⟩:∃ r,visArcs (visF sts F) (sts.getD i noSt).arcs (seenT sts.length m) m=r:=⟨_,rfl⟩
  rw [hr] at hv
  cases ok with
  | false=>simp at hv
  | true =>
   simp only [Prod.mk.injEq,decide_eq_true_eq] at hv
   obtain ⟨hv1,hv2,hv3⟩:=hv
   have hn1:n1=i:=by omega
   have arcs:∀ (xs:List (Nat × Int × Nat)),(∀ a∈xs,a∈(sts.getD i noSt).arcs)→∀ (m1:Nat) (s1:List Bool) (n1:Nat),m1≤i→visArcs (visF sts F) xs (seenT sts.length m1) m1=(true,s1,n1) →
     s1=seenT sts.length n1∧n1≤i∧arcsF (stateF f) (rst sts i) (preK sts m1) (xs.map (·.1))=(preK sts n1,xs):=by
    intro xs
    induction xs with
    | nil =>
     intro _ m1 s1 n1 hm1 h
     simp only [visArcs,Prod.mk.injEq,true_and] at h
     obtain ⟨rfl,rfl⟩:=h
     exact ⟨rfl,hm1,rfl⟩
    | cons a xs ih =>
     intro hx m1 s1 n1 hm1 h
     have ha:=hx a List.mem_cons_self
     have hto:=hd i hi a ha
     obtain ⟨u1,u2,u3⟩:=under_rst hf hi ha
     have hda:depR (rst sts a.2.2)<f:=by
      rw [← u3,depR_level]
      have:=depR_under u1
      omega
     obtain ⟨f',hf'⟩:∃ f',f=f'+1:=⟨f-1,by omega⟩
     simp only [visArcs] at h
     by_cases hs:a.2.2<m1
     ·rw [if_pos (by rw [seenT_get (by omega)];simpa using hs)] at h
      obtain ⟨e1,e2,e3⟩:=ih (fun b hb=>hx b (List.mem_cons_of_mem _ hb)) m1 s1 n1 hm1 h
      have hst:stateF f (preK sts m1) (underR (rst sts i) a.1)=(preK sts m1,a.2.2):=by
       rw [hf']
       refine stateF_old ?_
       rw [u3]
       exact idx_old hf hu hs (by omega)
      refine ⟨e1,e2,?_⟩
      simp only [List.map_cons,arcsF]
      rw [hst]
      simp only
      rw [e3,u2]
     ·rw [if_neg (by rw [seenT_get (by omega)];simpa using hs)] at h
      obtain ⟨⟨ok,s2,n2⟩,hr2⟩:∃ r,visF sts F a.2.2 (seenT sts.length m1) m1=r:=⟨_,rfl⟩
      rw [hr2] at h
      cases ok with
      | false=>simp at h
      | true =>
       simp only at h
       obtain ⟨g1,g2,g3⟩:=vis_state hf hu F f a.2.2 m1 (underR (rst sts i) a.1) s2 n2 (by omega) hda u3 (by omega) hr2
       subst g1
       subst g2
       obtain ⟨e1,e2,e3⟩:=ih (fun b hb=>hx b (List.mem_cons_of_mem _ hb)) (a.2.2+1) s1 n1 (by omega) h
       refine ⟨e1,e2,?_⟩
       simp only [List.map_cons,arcsF]
       rw [g3]
       simp only
       rw [e3,u2]
   obtain ⟨e1,e2,e3⟩:=arcs _ (fun a ha=>ha) m s1 n1 hmi hr
   subst hn1
   refine ⟨by omega,?_,?_⟩
   ·rw [← hv2,e1,seenT_set hi]
   ·simp only [stateF]
    rw [hl,idx_new hf hu hmi hi]
    simp only
    rw [← hc.labels,e3,← hc.fin,← hc.out,pre_succ hi]
    simp only [Prod.mk.injEq,KnP.mk.injEq,true_and]
    simp only [preK,List.length_take]
    omega
def wordsM (sts:List StP) (base:Int):List PRow:=(rst sts (sts.length-1)).map fun r=>⟨⟨(r.1.flatMap writeU).toArray⟩,r.2+base⟩
def wordsG (sts:List StP) (base:Int):List PRow:=if sts=[] then [] else wordsM sts base
theorem canon {base:Int} (h:RightP sts base):DictP (wordsM sts base)∧mach (wordsM sts base)=⟨base,sts⟩:=by
 have hf:=h.form
 have hN:sts.length-1<sts.length:=by have:=h.pos;omega
 have ok:=rs_ok hf sts.length _ hN hN
 have hs:=sum_rst hf sts.length _ hN hN
 have hrun:=run_rst hf sts.length _ hN hN
 have hsb:=h.sumB _ hN (sts.getD (sts.length-1) noSt).arcs.length
 have htop:=h.top
 rw [uF_get sts.length (sts.length-1) hN (Nat.le_refl _)] at htop
 have hb1:=h.base1
 have hroot:=h.root
 have hd:=form_down hf
 have hbound:∀ r∈rst sts (sts.length-1),r.1.length≤24∧0≤r.2∧r.2+base≤1048576∧0<r.1.length:=by
  intro r hr
  have h1:=hs.2 r hr
  have h2:=leastR_le hr
  rw [ok.least] at h2
  refine ⟨by omega,h2,by omega,?_⟩
  obtain ⟨x,n⟩:=r
  cases x with
  | nil =>
   have:=(mem_rst_nil hd hN).1 hr
   rw [hroot] at this
   cases this.1
  | cons c t=>simp
 have hwr:∀ r∈rst sts (sts.length-1),wordR ⟨⟨(r.1.flatMap writeU).toArray⟩,r.2+base⟩=r.1:=by
  intro r hr
  unfold wordR
  simp only
  rw [toList_mk,runes_flat _ (fun c hc=>(hrun r hr c hc).1)]
  rfl
 have hrests:restsL (wordsM sts base)=shiftR (-base) (rst sts (sts.length-1)):=by
  unfold restsL wordsM shiftR
  rw [List.map_map]
  refine List.map_congr_left fun r hr=>?_
  simp only [Function.comp]
  rw [hwr r hr]
  simp only [Prod.mk.injEq,true_and]
  omega
 have hsort:SortR (restsL (wordsM sts base)):=by
  rw [hrests]
  have hs:=ok.sort
  unfold SortR at hs ⊢
  unfold shiftR
  rw [List.pairwise_map]
  exact hs
 have hD:DictP (wordsM sts base):=by
  refine ⟨?_,?_,?_,hsort⟩
  ·unfold wordsM
   rw [List.length_map]
   have:=hs.1
   omega
  ·intro p hp
   obtain ⟨r,hr,rfl⟩:=List.mem_map.1 hp
   rw [hwr r hr]
   simp only
   rw [toList_mk]
   have hb:=hbound r hr
   refine ⟨runes_flat _ (fun c hc=>(hrun r hr c hc).1),?_,hb.2.2.2,hb.1⟩
   rw [List.all_eq_true]
   exact fun c hc=>(hrun r hr c hc).2
  ·intro p hp
   obtain ⟨r,hr,rfl⟩:=List.mem_map.1 hp
   have hb:=hbound r hr
   simp only
   omega
 refine ⟨hD,?_⟩
 have hne:wordsM sts base≠[]:=by
  unfold wordsM
  intro e
  exact ok.ne (List.map_eq_nil_iff.1 e)
 have hm:mach (wordsM sts base)=⟨leastR (restsL (wordsM sts base)),(stateF 25 ⟨[],[]⟩ (restsL (wordsM sts base))).1.states⟩:=by unfold mach;rw [if_neg hne]
 obtain ⟨F,s',hvis⟩:=h.vis
 have hdep:depR (rst sts (sts.length-1))<25:=depR_lt (by omega) (fun r hr=>by have:=(hbound r hr).1;omega)
 have hlev:levelR (restsL (wordsM sts base))=rst sts (sts.length-1):=by rw [hrests,level_of_shift,level_of_zero ok.least]
 rw [← seenT_zero] at hvis
 obtain ⟨_,_,g3⟩:=vis_state hf h.unalike F 25 (sts.length-1) 0 (restsL (wordsM sts base)) s' sts.length hN hdep hlev (Nat.zero_le _) hvis
 have e0:preK sts 0=⟨[],[]⟩:=by simp [preK]
 rw [e0] at g3
 rw [hm,g3,hrests,least_shift _ ok.ne,ok.least]
 simp only [MchP.mk.injEq]
 refine ⟨by omega,?_⟩
 unfold preK
 simp only
 rw [List.take_of_length_le (by omega)]
theorem rgt_words {base:Int} (h:RgtP sts base):DictP (wordsG sts base)∧mach (wordsG sts base)=⟨base,sts⟩:=by
 unfold wordsG
 rcases h with ⟨rfl,rfl⟩ | h
 ·exact ⟨⟨by simp,by simp,by simp,List.Pairwise.nil⟩,rfl⟩
 ·have:=h.pos
  rw [if_neg (fun e=>by rw [e] at this;simp at this)]
  exact canon h
end
end Go.Proofs.YthockgmbooefpaaGreatDoor
namespace Go.Proofs.YthockgmbooefpaaGreatDoor
open Go.RowKit
theorem stepG_dead (r o:Nat):∀ (wd:List Nat) (t:Nat) (s:List Nat),o≤t+1→(∀ x∈s,o≤x)→∀ x∈stepG r t wd s,o≤x
 | [],t,s,_,_,x,hx=>by
  cases s with
  | nil=>cases hx
  | cons a s=>cases s<;>cases hx
 | c :: wd,t,[],_,_,x,hx=>by cases hx
 | c :: wd,t,[a],_,_,x,hx=>by cases hx
 | c :: wd,t,a :: b :: s,ht,h,x,hx=>by
  have ha:=h a List.mem_cons_self
  have hb:=h b (List.mem_cons_of_mem _ List.mem_cons_self)
  simp only [stepG,List.mem_cons] at hx
  have hm:o≤min (min (a+if c=r then 0 else 1) (b+1)) (t+1):=by omega
  rcases hx with rfl | hx
  ·exact hm
  ·exact stepG_dead r o wd _ (b :: s) (by omega) (fun y hy=>h y (List.mem_cons_of_mem _ hy)) x hx
theorem stepD_dead {wd s:List Nat} {o:Nat} (r:Nat) (hs:s≠[]) (h:∀ x∈s,o≤x):∀ x∈stepD wd s r,o≤x:=by
 intro x hx
 cases s with
 | nil=>exact absurd rfl hs
 | cons a s =>
  have ha:=h a List.mem_cons_self
  simp only [stepD,List.headD_cons,List.mem_cons] at hx
  rcases hx with rfl | hx
  ·omega
  ·exact stepG_dead r o wd _ (a :: s) (by omega) h x hx
theorem fold_dead {wd:List Nat} {o:Nat}:∀ (text s:List Nat),s.length=wd.length+1→(∀ x∈s,o≤x)→∀ x∈text.foldl (stepD wd) s,o≤x
 | [],s,_,h=>h
 | r :: text,s,hl,h=>fold_dead text _ (stepD_len r hl) (stepD_dead r (fun e=>by rw [e] at hl;simp at hl) h)
theorem lastD_mem {s:List Nat} (h:s≠[]):s.getLastD 0∈s:=by
 rw [List.getLastD_eq_getLast?,List.getLast?_eq_some_getLast h]
 exact List.getLast_mem h
theorem filterMap_congr' {α β:Type} {f g:α→Option β}:∀ {l:List α},(∀ a∈l,f a=g a)→l.filterMap f=l.filterMap g
 | [],_=>rfl
 | a :: l,h=>by rw [List.filterMap_cons,List.filterMap_cons,h a List.mem_cons_self,filterMap_congr' fun b hb=>h b (List.mem_cons_of_mem _ hb)]
abbrev FzHit:=List Nat × Int × Nat
def hitF (wd:List Nat) (o:Nat) (s head:List Nat) (sum:Int) (r:List Nat × Int):Option FzHit :=
 if (r.1.foldl (stepD wd) s).getLastD 0<o then some (head++r.1,sum+r.2,(r.1.foldl (stepD wd) s).getLastD 0) else none
def fzF (sts:List StP) (wd:List Nat) (o:Nat):Nat→Nat→List Nat→Int→List Nat→List FzHit
 | 0,_,_,_,_=>[]
 | f+1,i,head,sum,s=>if s.all (fun x=>decide (o≤x))=true then [] else
   (if (sts.getD i noSt).fin=true∧s.getLastD 0<o then [(head,sum+(sts.getD i noSt).out,s.getLastD 0)] else []) ++
   (sts.getD i noSt).arcs.flatMap fun a=>fzF sts wd o f a.2.2 (head++[a.1]) (sum+a.2.1) (stepD wd s a.1)
section
variable [Inhabited BaseT]
theorem fz_rst {sts:List StP} (hd:Down sts) (wd:List Nat) (o:Nat):∀ (f i:Nat) (head:List Nat) (sum:Int) (s:List Nat),i<f→i<sts.length→s.length=wd.length+1 →
  fzF sts wd o f i head sum s=(rst sts i).filterMap (hitF wd o s head sum)
 | 0,_,_,_,_,h,_,_=>absurd h (Nat.not_lt_zero _)
 | f+1,i,head,sum,s,hi,hl,hs=>by
  have hne:s≠[]:=fun e=>by rw [e] at hs;simp at hs
  simp only [fzF]
  by_cases hdead:s.all (fun x=>decide (o≤x))=true
  ·rw [if_pos hdead]
   have hall:∀ x∈s,o≤x:=fun x hx=>of_decide_eq_true (List.all_eq_true.1 hdead x hx)
   symm
   rw [List.filterMap_eq_nil_iff]
   intro r _
   have h1:=fold_dead r.1 s hs hall
   have h2:=lastD_mem (s:=r.1.foldl (stepD wd) s) (fun e=>by have:=fold_len r.1 s hs;rw [e] at this;simp at this)
   have:=h1 _ h2
   unfold hitF
   rw [if_neg (by omega)]
  ·rw [if_neg hdead,rst_eq hd hl,List.filterMap_append]
   congr 1
   ·by_cases hf:(sts.getD i noSt).fin=true
    ·rw [if_pos hf]
     simp only [List.filterMap_cons,List.filterMap_nil,hitF,List.foldl_nil,List.append_nil]
     by_cases hlt:s.getLastD 0<o
     ·rw [if_pos ⟨hf,hlt⟩,if_pos hlt]
     ·rw [if_neg (fun h=>hlt h.2),if_neg hlt]
    ·rw [if_neg hf,if_neg (fun h=>hf h.1)]
     rfl
   ·rw [List.filterMap_flatMap]
    refine flatMap_congr' fun a ha=>?_
    have hai:=hd i hl a ha
    rw [fz_rst hd wd o f a.2.2 (head++[a.1]) (sum+a.2.1) (stepD wd s a.1) (by omega) (by omega) (stepD_len _ hs),List.filterMap_map]
    refine filterMap_congr' fun r _=>?_
    simp only [Function.comp,hitF,List.foldl_cons,List.append_assoc,List.singleton_append]
    have e:sum+a.2.1+r.2=sum+(r.2+a.2.1):=by omega
    rw [e]
    first | done | rfl
end
end Go.Proofs.YthockgmbooefpaaGreatDoor
namespace Go.Proofs.YthockgmbooefpaaGreatDoor
open Go.RowKit
def tabG (r:Nat):Nat→List Nat→List Nat→List Nat
 | t,c :: wd,a :: b :: s=>(if c=r then a else 1+min (min a b) t) :: tabG r (if c=r then a else 1+min (min a b) t) wd (b :: s)
 | _,_,_=>[]
def Lip:List Nat→Prop
 | a :: b :: s=>a≤b+1∧b≤a+1∧Lip (b :: s)
 | _=>True
theorem tab_step (r:Nat):∀ (wd:List Nat) (t a:Nat) (s:List Nat),Lip (a :: s)→t≤a+1→a≤t+1→tabG r t wd (a :: s)=stepG r t wd (a :: s)∧Lip (t :: stepG r t wd (a :: s))
 | [],t,a,s,_,_,_=>by
  cases s<;>exact ⟨rfl,trivial⟩
 | c :: wd,t,a,[],_,_,_=>⟨rfl,trivial⟩
 | c :: wd,t,a,b :: s,hl,h1,h2=>by
  obtain ⟨l1,l2,l3⟩:=hl
  have e:(if c=r then a else 1+min (min a b) t)=min (min (a+if c=r then 0 else 1) (b+1)) (t+1):=by
   split<;>omega
  have hb:min (min (a+if c=r then 0 else 1) (b+1)) (t+1)≤b+1∧b≤min (min (a+if c=r then 0 else 1) (b+1)) (t+1)+1∧t≤min (min (a+if c=r then 0 else 1) (b+1)) (t+1)+1∧min (min (a+if c=r then 0 else 1) (b+1)) (t+1)≤t+1:=by
   split<;>omega
  obtain ⟨g1,g2⟩:=tab_step r wd (min (min (a+if c=r then 0 else 1) (b+1)) (t+1)) b s l3 hb.1 hb.2.1
  simp only [tabG,stepG]
  rw [e,g1]
  exact ⟨rfl,hb.2.2.1,hb.2.2.2,g2⟩
def tabD (wd:List Nat) (s:List Nat) (r:Nat):List Nat:=(s.headD 0+1) :: tabG r (s.headD 0+1) wd s
theorem tabD_eq (wd:List Nat) {s:List Nat} (hs:s≠[]) (hl:Lip s) (r:Nat):tabD wd s r=stepD wd s r∧Lip (stepD wd s r):=by
 cases s with
 | nil=>exact absurd rfl hs
 | cons a s =>
  obtain ⟨g1,g2⟩:=tab_step r wd (a+1) a s hl (by omega) (by omega)
  simp only [tabD,stepD,List.headD_cons]
  exact ⟨by rw [g1],g2⟩
theorem lip_range':∀ (n k:Nat),Lip (List.range' k n)
 | 0,_=>trivial
 | 1,_=>trivial
 | n+2,k=>⟨by omega,by omega,lip_range' (n+1) (k+1)⟩
theorem lip_range (n:Nat):Lip (List.range n):=by
 rw [List.range_eq_range']
 exact lip_range' n 0
theorem tab_fold {wd:List Nat}:∀ (text s:List Nat),s.length=wd.length+1→Lip s→text.foldl (tabD wd) s=text.foldl (stepD wd) s
 | [],_,_,_=>rfl
 | r :: text,s,hl,h=>by
  have hne:s≠[]:=fun e=>by rw [e] at hl;simp at hl
  obtain ⟨g1,g2⟩:=tabD_eq wd hne h r
  rw [List.foldl_cons,List.foldl_cons,g1,tab_fold text _ (stepD_len r hl) g2]
end Go.Proofs.YthockgmbooefpaaGreatDoor
namespace Go.Proofs.YthockgmbooefpaaGreatDoor
open Go.RowKit
variable [Inhabited BaseT]
structure FzIt where
 i:Nat
 head:List Nat
 sum:Int
 row:List Nat
def FzIt.Ok (sts:List StP) (wd:List Nat) (t:FzIt):Prop:=t.i<sts.length∧t.row.length=wd.length+1
def fzDead (o:Nat) (t:FzIt):Bool:=t.row.all fun x=>decide (o≤x)
def fzHit (sts:List StP) (o:Nat) (t:FzIt):List FzHit :=
 if fzDead o t=true then [] else if (sts.getD t.i noSt).fin=true∧t.row.getLastD 0<o then [(t.head,t.sum+(sts.getD t.i noSt).out,t.row.getLastD 0)] else []
def fzKids (sts:List StP) (wd:List Nat) (o:Nat) (t:FzIt):List FzIt :=
 if fzDead o t=true then [] else (sts.getD t.i noSt).arcs.map fun a=>⟨a.2.2,t.head++[a.1],t.sum+a.2.1,stepD wd t.row a.1⟩
def fzI (sts:List StP) (wd:List Nat) (o:Nat) (t:FzIt):List FzHit:=(rst sts t.i).filterMap (hitF wd o t.row t.head t.sum)
theorem fzI_eq {sts:List StP} (hd:Down sts) {wd:List Nat} {o:Nat} {t:FzIt} (h:t.Ok sts wd):fzI sts wd o t=fzHit sts o t++(fzKids sts wd o t).flatMap (fzI sts wd o):=by
 have h1:=fz_rst hd wd o (t.i+1) t.i t.head t.sum t.row (Nat.lt_succ_self _) h.1 h.2
 unfold fzI
 rw [← h1]
 simp only [fzF,fzHit,fzKids]
 by_cases hdead:fzDead o t=true
 ·have h2:t.row.all (fun x=>decide (o≤x))=true:=hdead
  rw [if_pos hdead,if_pos hdead,if_pos h2]
  rfl
 ·have h2:¬ t.row.all (fun x=>decide (o≤x))=true:=hdead
  rw [if_neg hdead,if_neg hdead,if_neg h2]
  congr 1
  rw [List.flatMap_map]
  refine flatMap_congr' fun a ha=>?_
  have hai:=hd t.i h.1 a ha
  exact fz_rst hd wd o t.i a.2.2 _ _ _ hai (by have:=h.1;omega) (stepD_len _ h.2)
def nzF (sts:List StP):Nat→Nat→Nat
 | 0,_=>0
 | f+1,i=>1+((sts.getD i noSt).arcs.map fun a=>nzF sts f a.2.2).sum
def nz (sts:List StP) (i:Nat):Nat:=nzF sts (i+1) i
theorem nzF_fuel {sts:List StP} (hd:Down sts):∀ (f i g:Nat),i<f→i<sts.length→f≤g→nzF sts g i=nzF sts f i
 | 0,_,_,h,_,_=>absurd h (Nat.not_lt_zero _)
 | f+1,i,g,hi,hl,hg=>by
  obtain ⟨g,rfl⟩:∃ k,g=k+1:=⟨g-1,by omega⟩
  simp only [nzF]
  congr 2
  refine List.map_congr_left fun a ha=>?_
  have hai:=hd i hl a ha
  exact nzF_fuel hd f a.2.2 g (by omega) (by omega) (by omega)
theorem nz_eq {sts:List StP} (hd:Down sts) {i:Nat} (hl:i<sts.length):nz sts i=1+((sts.getD i noSt).arcs.map fun a=>nz sts a.2.2).sum:=by
 unfold nz
 conv=>lhs;unfold nzF
 congr 2
 refine List.map_congr_left fun a ha=>?_
 have hai:=hd i hl a ha
 exact nzF_fuel hd (a.2.2+1) a.2.2 i (by omega) (by omega) (by omega)
def nzL (sts:List StP) (l:List FzIt):Nat:=(l.map fun t=>nz sts t.i).sum
theorem nz_kids {sts:List StP} (hd:Down sts) {wd:List Nat} {o:Nat} {t:FzIt} (h:t.Ok sts wd):nzL sts (fzKids sts wd o t)<nz sts t.i:=by
 rw [nz_eq hd h.1]
 unfold nzL fzKids
 split
 ·simp
  omega
 ·rw [List.map_map]
  have e:((sts.getD t.i noSt).arcs.map ((fun t:FzIt=>nz sts t.i) ∘ fun a=>(⟨a.2.2,t.head++[a.1],t.sum+a.2.1,stepD wd t.row a.1⟩:FzIt)))=(sts.getD t.i noSt).arcs.map fun a=>nz sts a.2.2:=rfl
  rw [e]
  omega
theorem nzL_app (sts:List StP) (l m:List FzIt):nzL sts (l++m)=nzL sts l+nzL sts m:=by simp [nzL]
theorem nzL_reverse (sts:List StP) (l:List FzIt):nzL sts l.reverse=nzL sts l:=by
 unfold nzL
 rw [List.map_reverse,List.sum_reverse]
end Go.Proofs.YthockgmbooefpaaGreatDoor
namespace Go.Proofs.YthockgmbooefpaaGreatDoor
def behR (R:Rs) (c:Nat):Rs:=(underR R c).map fun r=>(c :: r.1,r.2)
theorem behR_len (R:Rs) (c:Nat):(behR R c).length=(underR R c).length:=by simp [behR]
theorem mem_beh {R:Rs} {c:Nat} {x:List Nat} {n:Int}:(x,n)∈behR R c↔∃ t,x=c :: t∧(t,n)∈underR R c:=by
 unfold behR
 rw [List.mem_map]
 constructor
 ·rintro ⟨⟨t,m⟩,hr,e⟩
  simp only [Prod.mk.injEq] at e
  obtain ⟨rfl,rfl⟩:=e
  exact ⟨t,rfl,hr⟩
 ·rintro ⟨t,rfl,h⟩
  exact ⟨(t,n),h,rfl⟩
theorem beh_sorted {R:Rs} (h:SortR R) (c:Nat):SortR (behR R c):=by
 unfold behR SortR
 rw [List.pairwise_map]
 have:=sort_under c h
 unfold SortR at this
 refine this.imp fun {a b} hab=>?_
 unfold ltR at hab ⊢
 simp only
 rw [lexN_cons]
 exact hab
theorem split_sorted {R:Rs} (h:SortR R):R=(if finR R=true then [([],outR R)] else [])++(firstsR R).flatMap (behR R):=by
 refine sort_ext h ?_ ?_
 ·unfold SortR
  rw [List.pairwise_append]
  refine ⟨?_,?_,?_⟩
  ·split
   ·exact List.pairwise_singleton _ _
   ·exact List.Pairwise.nil
  ·rw [List.pairwise_flatMap]
   refine ⟨fun c _=>beh_sorted h c,(firsts_sorted h).imp fun {a b} hab x hx y hy=>?_⟩
   obtain ⟨x,n⟩:=x
   obtain ⟨y,m⟩:=y
   obtain ⟨t,rfl,_⟩:=mem_beh.1 hx
   obtain ⟨t',rfl,_⟩:=mem_beh.1 hy
   unfold ltR
   simp only [lexN]
   rw [if_neg (by omega)]
   simpa using hab
  ·intro x hx y hy
   split at hx
   ·rw [List.mem_singleton] at hx
    subst hx
    obtain ⟨c,_,hc⟩:=List.mem_flatMap.1 hy
    obtain ⟨y,m⟩:=y
    obtain ⟨t,rfl,_⟩:=mem_beh.1 hc
    rfl
   ·cases hx
 ·rintro ⟨x,n⟩
  rw [List.mem_append,List.mem_flatMap]
  constructor
  ·intro hx
   cases x with
   | nil =>
    left
    rw [if_pos (finR_iff.2 ⟨n,hx⟩),outR_mem h hx]
    exact List.mem_singleton.2 rfl
   | cons c t =>
    right
    have h1:=mem_under.2 hx
    exact ⟨c,mem_firsts.2 (List.ne_nil_of_mem h1),mem_beh.2 ⟨t,rfl,h1⟩⟩
  ·rintro (hx | ⟨c,_,hc⟩)
   ·split at hx
    ·rename_i hf
     rw [List.mem_singleton] at hx
     simp only [Prod.mk.injEq] at hx
     obtain ⟨rfl,rfl⟩:=hx
     obtain ⟨m,hm⟩:=finR_iff.1 hf
     rw [outR_mem h hm]
     exact hm
    ·cases hx
   ·obtain ⟨t,rfl,h1⟩:=mem_beh.1 hc
    exact mem_under.1 h1
section
variable {k:KnP} (hk:Good k) {s:Nat} {z:StP} (hz:k.states[s]? = some z)
include hk hz
end
end Go.Proofs.YthockgmbooefpaaGreatDoor
namespace Go.Proofs.YthockgmbooefpaaGreatDoor
open Go.RowKit
theorem wpQuiet_cons {P:Program} {ops:Array Oper} {C:World→Prop} {Q:Act→Prop} {o:Oper} {l:List Oper} {a:Act}:wpQuiet P ops C Q (o :: l) a=(if Region.wanted o (yielded ops a.tmps) then o.quiet P a C (wpQuiet P ops C Q l) else wpQuiet P ops C Q l (a.put o.dst undef)):=rfl
end Go.Proofs.YthockgmbooefpaaGreatDoor
