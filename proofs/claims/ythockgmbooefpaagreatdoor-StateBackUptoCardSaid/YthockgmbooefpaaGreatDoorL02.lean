/- What the law rests on, part 2. No condition but those that each theorem names. -/
import Derived.Test.YthockgmbooefpaaGreatDoorL01
import Derived.Test.YthockgmbooefpaaGreatDoorL00
set_option linter.unusedSectionVars false
set_option linter.unusedSimpArgs false
set_option linter.unusedVariables false
namespace Go.Proofs.YthockgmbooefpaaGreatDoor
abbrev Rs:=List (List Nat × Int)
structure StP where
 fin:Bool
 out:Int
 arcs:List (Nat × Int × Nat)
structure KnP where
 rests:List Rs
 states:List StP
def leastR:Rs→Int
 | []=>0
 | x :: l=>(x :: l).foldl (fun n r=>min n r.2) x.2
def levelR (l:Rs):Rs:=l.map fun r=>(r.1,r.2-leastR l)
def underR (l:Rs) (c:Nat):Rs:=l.filterMap fun r=>match r.1 with
 | []=>none
 | d :: t=>if d=c then some (t,r.2) else none
def firstStep (out:List Nat) (r:List Nat × Int):List Nat:=match r.1 with
 | []=>out
 | d :: _=>if out.getLast? = some d then out else out++[d]
def firstsR (l:Rs):List Nat:=l.foldl firstStep []
def idxR (all:List Rs) (l:Rs):Option Nat:=all.findIdx? (fun x=>decide (x=l))
def outR (l:Rs):Int:=l.foldl (fun o r=>if r.1=[] then r.2 else o) 0
def finR (l:Rs):Bool:=l.any fun r=>decide (r.1=[])
def arcsF (st:KnP→Rs→KnP × Nat) (R:Rs):KnP→List Nat→KnP × List (Nat × Int × Nat)
 | k,[]=>(k,[])
 | k,c :: cs=>((arcsF st R (st k (underR R c)).1 cs).1,(c,leastR (underR R c),(st k (underR R c)).2) :: (arcsF st R (st k (underR R c)).1 cs).2)
def stateF:Nat→KnP→Rs→KnP × Nat
 | 0,k,_=>(k,0)
 | f+1,k,l=>match idxR k.rests (levelR l) with
  | some i=>(k,i)
  | none=>(⟨(arcsF (stateF f) (levelR l) k (firstsR (levelR l))).1.rests++[levelR l],(arcsF (stateF f) (levelR l) k (firstsR (levelR l))).1.states++[⟨finR (levelR l),outR (levelR l),(arcsF (stateF f) (levelR l) k (firstsR (levelR l))).2⟩]⟩,(arcsF (stateF f) (levelR l) k (firstsR (levelR l))).1.states.length)
theorem foldl_min (l:Rs):∀ a:Int,(l.foldl (fun n r=>min n r.2) a≤a∧∀ r∈l,l.foldl (fun n r=>min n r.2) a≤r.2)∧(l.foldl (fun n r=>min n r.2) a=a∨∃ r∈l,r.2=l.foldl (fun n r=>min n r.2) a):=by
 induction l with
 | nil=>intro a;simp
 | cons x l ih =>
  intro a
  simp only [List.foldl_cons]
  obtain ⟨⟨h1,h2⟩,h3⟩:=ih (min a x.2)
  refine ⟨⟨Int.le_trans h1 (Int.min_le_left _ _),?_⟩,?_⟩
  ·intro r hr
   rcases List.mem_cons.1 hr with e | e
   ·subst e;exact Int.le_trans h1 (Int.min_le_right _ _)
   ·exact h2 r e
  ·rcases h3 with e | ⟨r,hr,e⟩
   ·rcases Int.le_total a x.2 with h | h
    ·left;rw [e];exact Int.min_eq_left h
    ·right;exact ⟨x,List.mem_cons_self,by rw [e];exact (Int.min_eq_right h).symm⟩
   ·exact .inr ⟨r,List.mem_cons_of_mem _ hr,e⟩
theorem leastR_le {l:Rs} {r:List Nat × Int} (h:r∈l):leastR l≤r.2:=by
 cases l with
 | nil=>cases h
 | cons x l=>exact (foldl_min (x :: l) x.2).1.2 r h
theorem leastR_mem {l:Rs} (h:l≠[]):∃ r∈l,r.2=leastR l:=by
 cases l with
 | nil=>exact absurd rfl h
 | cons x l =>
  rcases (foldl_min (x :: l) x.2).2 with e | h
  ·exact ⟨x,List.mem_cons_self,e.symm⟩
  ·exact h
theorem mem_level {l:Rs} {x:List Nat} {n:Int}:(x,n)∈levelR l↔(x,n+leastR l)∈l:=by
 unfold levelR
 rw [List.mem_map]
 constructor
 ·rintro ⟨r,hr,e⟩
  obtain ⟨r1,r2⟩:=r
  simp only [Prod.mk.injEq] at e
  obtain ⟨rfl,rfl⟩:=e
  rw [Int.sub_add_cancel]
  exact hr
 ·intro h
  exact ⟨_,h,by simp⟩
theorem level_ne {l:Rs} (h:l≠[]):levelR l≠[]:=by
 unfold levelR
 simpa using h
theorem least_level {l:Rs} (h:l≠[]):leastR (levelR l)=0:=by
 obtain ⟨r,hr,e⟩:=leastR_mem (level_ne h)
 obtain ⟨s,hs,e2⟩:=leastR_mem h
 have h1:(s.1,(0:Int))∈levelR l:=mem_level.2 (by rw [Int.zero_add,← e2];exact hs)
 have h2:=leastR_le h1
 have h3:=leastR_le (mem_level.1 (show (r.1,r.2)∈levelR l from hr))
 simp only at h2 h3
 omega
theorem mem_under {l:Rs} {c:Nat} {t:List Nat} {n:Int}:(t,n)∈underR l c↔(c :: t,n)∈l:=by
 unfold underR
 rw [List.mem_filterMap]
 constructor
 ·rintro ⟨⟨x,m⟩,hr,e⟩
  cases x with
  | nil=>cases e
  | cons d y =>
   simp only at e
   split at e
   ·rename_i hd
    simp only [Option.some.injEq,Prod.mk.injEq] at e
    obtain ⟨rfl,rfl⟩:=e
    subst hd
    exact hr
   ·cases e
 ·intro h
  exact ⟨_,h,by simp⟩
def lexN:List Nat→List Nat→Bool
 | [],[]=>false
 | [],_ :: _=>true
 | _ :: _,[]=>false
 | a :: x,b :: y=>if a=b then lexN x y else decide (a<b)
def ltR (a b:List Nat × Int):Prop:=lexN a.1 b.1=true
def SortR (l:Rs):Prop:=l.Pairwise ltR
theorem lexN_irr (x:List Nat):lexN x x=false:=by
 induction x with
 | nil=>rfl
 | cons a x ih=>simp [lexN,ih]
theorem lexN_asym:∀ x y:List Nat,lexN x y=true→lexN y x=false
 | [],[],_=>rfl
 | [],_ :: _,_=>rfl
 | _ :: _,[],h=>by cases h
 | a :: x,b :: y,h=>by
  simp only [lexN] at h ⊢
  by_cases e:a=b
  ·subst e
   rw [if_pos rfl] at h ⊢
   exact lexN_asym x y h
  ·rw [if_neg e] at h
   rw [if_neg (fun h=>e h.symm)]
   simp only [decide_eq_true_eq] at h
   simp
   omega
theorem lexN_cons {c:Nat} {x y:List Nat}:lexN (c :: x) (c :: y)=lexN x y:=by simp [lexN]
theorem sort_level {l:Rs} (h:SortR l):SortR (levelR l):=by
 unfold SortR levelR at *
 rw [List.pairwise_map]
 exact h
theorem sort_under {l:Rs} (c:Nat) (h:SortR l):SortR (underR l c):=by
 unfold SortR underR at *
 rw [List.pairwise_filterMap]
 refine h.imp ?_
 rintro ⟨x,n⟩ ⟨y,m⟩ hab b hb b' hb'
 cases x with
 | nil=>cases hb
 | cons d x =>
  cases y with
  | nil=>cases hb'
  | cons e y =>
   simp only at hb hb'
   split at hb
   ·split at hb'
    ·rename_i h1 h2
     subst h1 h2
     simp only [Option.some.injEq] at hb hb'
     subst hb hb'
     exact lexN_cons.symm.trans hab
    ·cases hb'
   ·cases hb
theorem sorted_ext {α:Type} {lt:α→α→Prop} (irr:∀ a,¬ lt a a) (asym:∀ a b,lt a b→¬ lt b a):∀ {l m:List α},l.Pairwise lt→m.Pairwise lt→(∀ x,x∈l↔x∈m)→l=m
 | [],[],_,_,_=>rfl
 | [],y :: m,_,_,h=>absurd ((h y).2 List.mem_cons_self) (List.not_mem_nil)
 | x :: l,[],_,_,h=>absurd ((h x).1 List.mem_cons_self) (List.not_mem_nil)
 | x :: l,y :: m,hl,hm,h=>by
  rw [List.pairwise_cons] at hl hm
  have e:x=y:=by
   refine Classical.byContradiction fun hne=>?_
   have h1:x∈m:=by
    rcases List.mem_cons.1 ((h x).1 List.mem_cons_self) with e | e
    ·exact absurd e hne
    ·exact e
   have h2:y∈l:=by
    rcases List.mem_cons.1 ((h y).2 List.mem_cons_self) with e | e
    ·exact absurd e.symm hne
    ·exact e
   exact asym _ _ (hl.1 y h2) (hm.1 x h1)
  subst e
  rw [sorted_ext irr asym hl.2 hm.2 fun z=>?_]
  constructor
  ·intro hz
   rcases List.mem_cons.1 ((h z).1 (List.mem_cons_of_mem _ hz)) with e | e
   ·subst e;exact absurd (hl.1 _ hz) (irr _)
   ·exact e
  ·intro hz
   rcases List.mem_cons.1 ((h z).2 (List.mem_cons_of_mem _ hz)) with e | e
   ·subst e;exact absurd (hm.1 _ hz) (irr _)
   ·exact e
theorem sort_ext {l m:Rs} (hl:SortR l) (hm:SortR m) (h:∀ x,x∈l↔x∈m):l=m :=
 sorted_ext (fun a e=>by unfold ltR at e;rw [lexN_irr] at e;cases e) (fun a b e f=>by unfold ltR at e f;rw [lexN_asym _ _ e] at f;cases f) hl hm h
theorem sort_inj {l:Rs} (h:SortR l) {x:List Nat} {n m:Int} (h1:(x,n)∈l) (h2:(x,m)∈l):n=m:=by
 induction l with
 | nil=>cases h1
 | cons y l ih =>
  unfold SortR at h
  rw [List.pairwise_cons] at h
  rcases List.mem_cons.1 h1 with e | e<;>rcases List.mem_cons.1 h2 with f | f
  ·rw [← e] at f;injection f with _ f;exact f.symm
  ·have:=h.1 _ f;rw [← e] at this;unfold ltR at this;rw [lexN_irr] at this;cases this
  ·have:=h.1 _ e;rw [← f] at this;unfold ltR at this;rw [lexN_irr] at this;cases this
  ·exact ih h.2 e f
theorem mem_firstStep {out:List Nat} {r:List Nat × Int} {c:Nat}:c∈firstStep out r↔c∈out∨r.1.head? = some c:=by
 unfold firstStep
 obtain ⟨x,n⟩:=r
 cases x with
 | nil=>simp
 | cons d t =>
  simp only [List.head?_cons,Option.some.injEq]
  split
  ·rename_i h
   have hd:d∈out:=List.mem_of_getLast? h
   constructor
   ·exact .inl
   ·rintro (h | h)
    ·exact h
    ·exact h ▸ hd
  ·rw [List.mem_append,List.mem_singleton]
   exact or_congr_right eq_comm
theorem mem_foldl_first (l:Rs):∀ (out:List Nat) (c:Nat),c∈l.foldl firstStep out↔c∈out∨∃ r∈l,r.1.head? = some c:=by
 induction l with
 | nil=>intro out c;simp
 | cons x l ih =>
  intro out c
  rw [List.foldl_cons,ih,mem_firstStep]
  simp only [List.mem_cons,exists_eq_or_imp]
  exact or_assoc
theorem mem_firsts {l:Rs} {c:Nat}:c∈firstsR l↔underR l c≠[]:=by
 unfold firstsR
 rw [mem_foldl_first]
 constructor
 ·rintro (h | ⟨⟨x,n⟩,hr,h⟩)
  ·cases h
  ·cases x with
   | nil=>cases h
   | cons d t =>
    simp only [List.head?_cons,Option.some.injEq] at h
    subst h
    exact List.ne_nil_of_mem (mem_under.2 hr)
 ·intro h
  obtain ⟨⟨t,n⟩,ht⟩:=List.exists_mem_of_ne_nil _ h
  exact .inr ⟨_,mem_under.1 ht,rfl⟩
theorem lexN_head {x y:List Nat} {a b:Nat} (h:lexN x y=true) (ha:x.head? = some a) (hb:y.head? = some b):a≤b:=by
 cases x with
 | nil=>cases ha
 | cons c x =>
  cases y with
  | nil=>cases hb
  | cons d y =>
   simp only [List.head?_cons,Option.some.injEq] at ha hb
   subst ha hb
   simp only [lexN] at h
   split at h
   ·omega
   ·simp only [decide_eq_true_eq] at h;omega
theorem firsts_step_sorted {out:List Nat} {r:List Nat × Int} (ho:out.Pairwise (·<·)) (hb:∀ d,r.1.head? = some d→∀ x∈out,x≤d):(firstStep out r).Pairwise (·<·):=by
 obtain ⟨x,n⟩:=r
 cases x with
 | nil=>exact ho
 | cons d t =>
  unfold firstStep
  simp only
  split
  ·exact ho
  ·rename_i hne
   rw [List.pairwise_append]
   refine ⟨ho,List.pairwise_singleton _ _,fun a ha b hbb=>?_⟩
   rw [List.mem_singleton] at hbb
   subst hbb
   have h1:=hb b rfl a ha
   rcases Nat.lt_or_ge a b with h | h
   ·exact h
   ·have e:a=b:=by omega
    subst e
    exfalso
    apply hne
    cases hlast:out.getLast? with
    | none=>rw [List.getLast?_eq_none_iff] at hlast;subst hlast;cases ha
    | some z =>
     have hz:=List.mem_of_getLast? hlast
     have h2:=hb a rfl z hz
     obtain ⟨ini,rfl⟩:=List.getLast?_eq_some_iff.1 hlast
     rw [List.pairwise_append] at ho
     rcases List.mem_append.1 ha with h | h
     ·have:=ho.2.2 a h z (by simp);omega
     ·rw [List.mem_singleton] at h;rw [h]
theorem foldl_first_sorted (l:Rs):∀ out:List Nat,out.Pairwise (·<·)→SortR l→(∀ r∈l,∀ d,r.1.head? = some d→∀ x∈out,x≤d)→(l.foldl firstStep out).Pairwise (·<·):=by
 induction l with
 | nil=>intro out ho _ _;exact ho
 | cons y l ih =>
  intro out ho hs hb
  unfold SortR at hs
  rw [List.pairwise_cons] at hs
  rw [List.foldl_cons]
  refine ih _ (firsts_step_sorted ho (hb y List.mem_cons_self)) hs.2 ?_
  intro r hr d hd x hx
  rcases mem_firstStep.1 hx with h | h
  ·exact hb r (List.mem_cons_of_mem _ hr) d hd x h
  ·exact lexN_head (hs.1 r hr) h hd
theorem firsts_sorted {l:Rs} (h:SortR l):(firstsR l).Pairwise (·<·):=foldl_first_sorted l [] List.Pairwise.nil h (fun _ _ _ _ x hx=>by cases hx)
theorem finR_iff {l:Rs}:finR l=true↔∃ n,([],n)∈l:=by
 unfold finR
 rw [List.any_eq_true]
 constructor
 ·rintro ⟨⟨x,n⟩,hr,e⟩
  simp only [decide_eq_true_eq] at e
  subst e
  exact ⟨n,hr⟩
 ·rintro ⟨n,h⟩
  exact ⟨_,h,by simp⟩
theorem foldl_out (l:Rs):∀ o:Int,SortR l→(∀ n,([],n)∈l→l.foldl (fun o r=>if r.1=[] then r.2 else o) o=n)∧((∀ n,([],n) ∉ l)→l.foldl (fun o r=>if r.1=[] then r.2 else o) o=o):=by
 induction l with
 | nil=>intro o _;exact ⟨fun n h=>(by cases h),fun _=>rfl⟩
 | cons y l ih =>
  intro o hs
  have hs2:SortR l:=by unfold SortR at hs ⊢;exact (List.pairwise_cons.1 hs).2
  obtain ⟨x,m⟩:=y
  simp only [List.foldl_cons]
  by_cases hx:x=[]
  ·subst hx
   rw [if_pos rfl]
   have hno:∀ n,([],n) ∉ l:=by
    intro n hn
    unfold SortR at hs
    have:=(List.pairwise_cons.1 hs).1 _ hn
    cases this
   refine ⟨fun n hn=>?_,fun h=>absurd List.mem_cons_self (h m)⟩
   rw [(ih m hs2).2 hno]
   exact sort_inj hs List.mem_cons_self hn
  ·rw [if_neg hx]
   refine ⟨fun n hn=>(ih o hs2).1 n ?_,fun h=>(ih o hs2).2 fun n hn=>h n (List.mem_cons_of_mem _ hn)⟩
   rcases List.mem_cons.1 hn with e | e
   ·injection e with e _;exact absurd e.symm hx
   ·exact e
theorem outR_mem {l:Rs} (h:SortR l) {n:Int} (hn:([],n)∈l):outR l=n:=(foldl_out l 0 h).1 n hn
theorem outR_none {l:Rs} (h:SortR l) (hn:finR l=false):outR l=0:=(foldl_out l 0 h).2 fun n e=>by
 have:=finR_iff.2 ⟨n,e⟩
 rw [hn] at this
 cases this
theorem mem_end {l:Rs} (h:SortR l) {n:Int}:([],n)∈l↔finR l=true∧outR l=n:=by
 constructor
 ·intro hn;exact ⟨finR_iff.2 ⟨n,hn⟩,outR_mem h hn⟩
 ·rintro ⟨h1,h2⟩
  obtain ⟨m,hm⟩:=finR_iff.1 h1
  rw [outR_mem h hm] at h2
  rw [← h2]
  exact hm
def depR:Rs→Nat
 | []=>0
 | r :: l=>max r.1.length (depR l)
theorem depR_le {l:Rs} {r:List Nat × Int} (h:r∈l):r.1.length≤depR l:=by
 induction l with
 | nil=>cases h
 | cons x l ih =>
  unfold depR
  rcases List.mem_cons.1 h with e | e
  ·subst e;exact Nat.le_max_left _ _
  ·exact Nat.le_trans (ih e) (Nat.le_max_right _ _)
theorem depR_lt {l:Rs} {d:Nat} (hd:0<d) (h:∀ r∈l,r.1.length<d):depR l<d:=by
 induction l with
 | nil=>exact hd
 | cons x l ih =>
  unfold depR
  exact Nat.max_lt.2 ⟨h x List.mem_cons_self,ih fun r hr=>h r (List.mem_cons_of_mem _ hr)⟩
theorem depR_level (l:Rs):depR (levelR l)=depR l:=by
 unfold levelR
 generalize leastR l=n
 induction l with
 | nil=>rfl
 | cons x l ih=>simp only [List.map_cons,depR,ih]
theorem depR_under {l:Rs} {c:Nat} (h:underR l c≠[]):depR (underR l c)<depR l:=by
 obtain ⟨⟨t,n⟩,ht⟩:=List.exists_mem_of_ne_nil _ h
 have h1:=depR_le (mem_under.1 ht)
 simp only [List.length_cons] at h1
 refine depR_lt (by omega) fun r hr=>?_
 have h2:=depR_le (mem_under.1 (show (r.1,r.2)∈underR l c from hr))
 simp only [List.length_cons] at h2
 omega
structure Corr (rests:List Rs) (i:Nat) (R:Rs) (s:StP):Prop where
 sort:SortR R
 ne:R≠[]
 least:leastR R=0
 fin:s.fin=finR R
 out:s.out=outR R
 labels:s.arcs.map (·.1)=firstsR R
 arc:∀ a∈s.arcs,a.2.1=leastR (underR R a.1)∧a.2.2<i∧rests[a.2.2]? = some (levelR (underR R a.1))
structure Good (k:KnP):Prop where
 len:k.rests.length=k.states.length
 corr:∀ i R s,k.rests[i]? = some R→k.states[i]? = some s→Corr k.rests i R s
 nodup:k.rests.Nodup
def Ext (d:Nat) (k k':KnP):Prop:=∃ a b,k'.rests=k.rests++a∧k'.states=k.states++b∧∀ X∈a,depR X<d
theorem Ext.refl (d:Nat) (k:KnP):Ext d k k:=⟨[],[],by simp,by simp,fun X h=>by cases h⟩
theorem Ext.trans {d:Nat} {k k' k'':KnP} (h:Ext d k k') (g:Ext d k' k''):Ext d k k'':=by
 obtain ⟨a,b,e1,e2,e3⟩:=h
 obtain ⟨a',b',f1,f2,f3⟩:=g
 refine ⟨a++a',b++b',by rw [f1,e1,List.append_assoc],by rw [f2,e2,List.append_assoc],fun X hX=>?_⟩
 rcases List.mem_append.1 hX with h | h
 ·exact e3 X h
 ·exact f3 X h
theorem Ext.mono {d d':Nat} {k k':KnP} (h:Ext d k k') (hd:d≤d'):Ext d' k k':=by
 obtain ⟨a,b,e1,e2,e3⟩:=h
 exact ⟨a,b,e1,e2,fun X hX=>Nat.lt_of_lt_of_le (e3 X hX) hd⟩
theorem Ext.at {d:Nat} {k k':KnP} (h:Ext d k k') {i:Nat} {R:Rs} (hR:k.rests[i]? = some R):k'.rests[i]? = some R:=by
 obtain ⟨a,b,e1,_,_⟩:=h
 rw [e1,List.getElem?_append_left (List.getElem?_eq_some_iff.1 hR).1]
 exact hR
theorem Corr.ext {rests a:List Rs} {i:Nat} {R:Rs} {s:StP} (h:Corr rests i R s):Corr (rests++a) i R s :=
 ⟨h.sort,h.ne,h.least,h.fin,h.out,h.labels,fun x hx=>⟨(h.arc x hx).1,(h.arc x hx).2.1,by
  have:=(h.arc x hx).2.2
  rw [List.getElem?_append_left (List.getElem?_eq_some_iff.1 this).1]
  exact this⟩⟩
theorem idxR_some {all:List Rs} {l:Rs} {i:Nat} (h:idxR all l=some i):all[i]? = some l:=by
 unfold idxR at h
 obtain ⟨hi,h1,_⟩:=List.findIdx?_eq_some_iff_getElem.1 h
 rw [List.getElem?_eq_some_iff]
 exact ⟨hi,of_decide_eq_true h1⟩
theorem idxR_none {all:List Rs} {l:Rs} (h:idxR all l=none):l ∉ all:=by
 unfold idxR at h
 rw [List.findIdx?_eq_none_iff] at h
 intro hl
 have:=h l hl
 simp at this
def StOk (st:KnP→Rs→KnP × Nat) (f:Nat):Prop:=∀ k l,Good k→SortR l→l≠[]→depR l<f→Good (st k l).1∧Ext (depR l+1) k (st k l).1∧(st k l).1.rests[(st k l).2]? = some (levelR l)
theorem arcs_ok {st:KnP→Rs→KnP × Nat} {f:Nat} (hst:StOk st f) {R:Rs} (hR:SortR R) (hd:depR R≤f):∀ (cs:List Nat) (k:KnP),Good k→(∀ c∈cs,underR R c≠[]) →
  Good (arcsF st R k cs).1∧Ext (depR R) k (arcsF st R k cs).1∧(arcsF st R k cs).2.map (·.1)=cs ∧
  ∀ a∈(arcsF st R k cs).2,a.2.1=leastR (underR R a.1)∧(arcsF st R k cs).1.rests[a.2.2]? = some (levelR (underR R a.1))
 | [],k,hk,_=>⟨hk,Ext.refl _ _,rfl,fun a h=>by cases h⟩
 | c :: cs,k,hk,hc=>by
  have hu:=hc c List.mem_cons_self
  have hdu:=depR_under hu
  obtain ⟨g1,g2,g3⟩:=hst k (underR R c) hk (sort_under c hR) hu (by omega)
  obtain ⟨h1,h2,h3,h4⟩:=arcs_ok hst hR hd cs (st k (underR R c)).1 g1 (fun x hx=>hc x (List.mem_cons_of_mem _ hx))
  refine ⟨h1,(g2.mono (by omega)).trans h2,by simp only [arcsF,List.map_cons,h3],fun a ha=>?_⟩
  simp only [arcsF] at ha
  rcases List.mem_cons.1 ha with e | e
  ·subst e
   exact ⟨rfl,h2.at g3⟩
  ·exact h4 a e
theorem new_ok {k k1:KnP} {R:Rs} {arcs:List (Nat × Int × Nat)} (hk:R ∉ k.rests) (hR:SortR R) (hne:R≠[]) (hl:leastR R=0) (h1:Good k1) (h2:Ext (depR R) k k1) (h3:arcs.map (·.1)=firstsR R)
  (h4:∀ a∈arcs,a.2.1=leastR (underR R a.1)∧k1.rests[a.2.2]? = some (levelR (underR R a.1))) :
  Good ⟨k1.rests++[R],k1.states++[⟨finR R,outR R,arcs⟩]⟩:=by
 refine ⟨by simp [h1.len],?_,?_⟩
 ·intro i S s hS hs
  simp only at hS hs
  by_cases hi:i<k1.rests.length
  ·rw [List.getElem?_append_left hi] at hS
   rw [List.getElem?_append_left (by rw [← h1.len];exact hi)] at hs
   exact (h1.corr i S s hS hs).ext
  ·have hi2:i=k1.rests.length:=by
    have:=(List.getElem?_eq_some_iff.1 hS).1
    rw [List.length_append] at this
    simp at this
    omega
   subst hi2
   rw [List.getElem?_append_right (Nat.le_refl _),Nat.sub_self] at hS
   rw [h1.len,List.getElem?_append_right (Nat.le_refl _),Nat.sub_self] at hs
   simp only [List.getElem?_cons_zero,Option.some.injEq] at hS hs
   subst hS hs
   refine ⟨hR,hne,hl,rfl,rfl,h3,fun a ha=>⟨(h4 a ha).1,(List.getElem?_eq_some_iff.1 (h4 a ha).2).1,?_⟩⟩
   rw [List.getElem?_append_left (List.getElem?_eq_some_iff.1 (h4 a ha).2).1]
   exact (h4 a ha).2
 ·rw [List.nodup_append]
  refine ⟨h1.nodup,by simp,?_⟩
  intro a ha b hb
  rw [List.mem_singleton] at hb
  subst hb
  rintro rfl
  obtain ⟨x,y,e1,_,e3⟩:=h2
  rw [e1] at ha
  rcases List.mem_append.1 ha with h | h
  ·exact hk h
  ·exact absurd (e3 _ h) (Nat.lt_irrefl _)
theorem stateF_ok:∀ f,StOk (stateF f) f
 | 0=>fun k l _ _ _ h=>absurd h (Nat.not_lt_zero _)
 | f+1=>fun k l hk hs hne hd=>by
  have hR:=sort_level hs
  have hRn:=level_ne hne
  have hRl:=least_level hne
  have hRd:=depR_level l
  simp only [stateF]
  cases hi:idxR k.rests (levelR l) with
  | some i=>exact ⟨hk,Ext.refl _ _,idxR_some hi⟩
  | none =>
   obtain ⟨h1,h2,h3,h4⟩:=arcs_ok (stateF_ok f) hR (by omega) (firstsR (levelR l)) k hk (fun c hc=>mem_firsts.1 hc)
   refine ⟨new_ok (idxR_none hi) hR hRn hRl h1 h2 h3 h4,?_,?_⟩
   ·rw [← hRd]
    refine (h2.mono (Nat.le_succ _)).trans ⟨[levelR l],[_],rfl,rfl,fun X hX=>?_⟩
    rw [List.mem_singleton] at hX
    subst hX
    exact Nat.lt_succ_self _
   ·simp only
    rw [← h1.len,List.getElem?_append_right (Nat.le_refl _),Nat.sub_self]
    rfl
theorem mem_level_under {R:Rs} {c:Nat} {t:List Nat} {n:Int}:(t,n)∈levelR (underR R c)↔(c :: t,n+leastR (underR R c))∈R:=by rw [mem_level,mem_under]
theorem Corr.mem_cons {rests:List Rs} {i:Nat} {R:Rs} {s:StP} (h:Corr rests i R s) {c:Nat} {t:List Nat} {n:Int} :
  (c :: t,n)∈R↔∃ a∈s.arcs,a.1=c∧∃ X,rests[a.2.2]? = some X∧(t,n-a.2.1)∈X:=by
 constructor
 ·intro hm
  have hc:c∈firstsR R:=mem_firsts.2 (List.ne_nil_of_mem (mem_under.2 hm))
  rw [← h.labels] at hc
  obtain ⟨a,ha,rfl⟩:=List.mem_map.1 hc
  refine ⟨a,ha,rfl,_,(h.arc a ha).2.2,?_⟩
  rw [mem_level_under,(h.arc a ha).1,Int.sub_add_cancel]
  exact hm
 ·rintro ⟨a,ha,rfl,X,hX,hm⟩
  rw [(h.arc a ha).2.2] at hX
  injection hX with hX
  subst hX
  rw [mem_level_under,(h.arc a ha).1,Int.sub_add_cancel] at hm
  exact hm
theorem Good.unalike {k:KnP} (h:Good k) {i j:Nat} {s:StP} (hi:k.states[i]? = some s) (hj:k.states[j]? = some s):i=j:=by
 have li:i<k.rests.length:=by rw [h.len];exact (List.getElem?_eq_some_iff.1 hi).1
 have lj:j<k.rests.length:=by rw [h.len];exact (List.getElem?_eq_some_iff.1 hj).1
 have ri:k.rests[i]? = some k.rests[i]:=List.getElem?_eq_getElem li
 have rj:k.rests[j]? = some k.rests[j]:=List.getElem?_eq_getElem lj
 have ci:=h.corr i _ _ ri hi
 have cj:=h.corr j _ _ rj hj
 have e:k.rests[i]=k.rests[j]:=sort_ext ci.sort cj.sort fun x=>by
  obtain ⟨x,n⟩:=x
  cases x with
  | nil=>rw [mem_end ci.sort,mem_end cj.sort,← ci.fin,← ci.out,← cj.fin,← cj.out]
  | cons c t=>rw [ci.mem_cons,cj.mem_cons]
 exact (List.getElem_inj h.nodup).1 e
def totR:Rs→Nat
 | []=>0
 | r :: l=>r.1.length+totR l
def totC (c:Nat):Rs→Nat
 | []=>0
 | r :: l=>(if r.1.head? = some c then r.1.length else 0)+totC c l
theorem totC_under (l:Rs) (c:Nat):totR (underR l c)+(underR l c).length=totC c l:=by
 induction l with
 | nil=>rfl
 | cons r l ih =>
  obtain ⟨x,n⟩:=r
  cases x with
  | nil=>simpa [underR,totC] using ih
  | cons d t =>
   by_cases h:d=c
   ·subst h
    have e:underR ((d :: t,n) :: l) d=(t,n) :: underR l d:=by simp [underR]
    rw [e]
    simp only [totR,totC,List.head?_cons,List.length_cons,if_pos]
    omega
   ·have e:underR ((d :: t,n) :: l) c=underR l c:=by simp [underR,h]
    rw [e]
    simp only [totC,List.head?_cons,Option.some.injEq,if_neg h]
    omega
theorem sum_zero (cs:List Nat):(cs.map fun _=>0).sum=0:=by
 induction cs with
 | nil=>rfl
 | cons c cs ih=>simp only [List.map_cons,List.sum_cons,ih]
theorem sum_add (f g:Nat→Nat) (cs:List Nat):(cs.map fun c=>f c+g c).sum=(cs.map f).sum+(cs.map g).sum:=by
 induction cs with
 | nil=>rfl
 | cons c cs ih=>simp only [List.map_cons,List.sum_cons,ih];omega
theorem totC_sum (l:Rs):∀ cs:List Nat,cs.Nodup→(cs.map fun c=>totC c l).sum≤totR l:=by
 induction l with
 | nil=>intro cs _;simp only [totC,totR];rw [sum_zero];exact Nat.le_refl _
 | cons r l ih =>
  intro cs hcs
  have h1:=ih cs hcs
  have h2:∀ cs:List Nat,cs.Nodup→(cs.map fun c=>if r.1.head? = some c then r.1.length else 0).sum≤r.1.length:=by
   intro cs
   induction cs with
   | nil=>simp
   | cons c cs ih2 =>
    intro hn
    rw [List.nodup_cons] at hn
    simp only [List.map_cons,List.sum_cons]
    by_cases hc:r.1.head? = some c
    ·rw [if_pos hc]
     have e:(cs.map fun c=>if r.1.head? = some c then r.1.length else 0)=cs.map fun _=>0:=by
      refine List.map_congr_left fun d hd=>if_neg fun e=>?_
      rw [hc] at e
      injection e with e
      subst e
      exact hn.1 hd
     rw [e,sum_zero]
     exact Nat.le_refl _
    ·rw [if_neg hc,Nat.zero_add]
     exact ih2 hn.2
  have h3:=h2 cs hcs
  have h4:(cs.map fun c=>totC c (r :: l)).sum=(cs.map fun c=>if r.1.head? = some c then r.1.length else 0).sum+(cs.map fun c=>totC c l).sum:=sum_add _ _ cs
  rw [h4]
  simp only [totR]
  omega
theorem totR_level (l:Rs):totR (levelR l)=totR l:=by
 unfold levelR
 generalize leastR l=n
 induction l with
 | nil=>rfl
 | cons x l ih=>simp only [List.map_cons,totR,ih]
def StFew (st:KnP→Rs→KnP × Nat):Prop:=∀ k l,SortR l→(st k l).1.states.length≤k.states.length+totR l+1
theorem arcs_few {st:KnP→Rs→KnP × Nat} (hst:StFew st) {R:Rs} (hR:SortR R):∀ (cs:List Nat) (k:KnP),(∀ c∈cs,underR R c≠[])→(arcsF st R k cs).1.states.length≤k.states.length+(cs.map fun c=>totC c R).sum
 | [],k,_=>by simp [arcsF]
 | c :: cs,k,hc=>by
  have h1:=hst k (underR R c) (sort_under c hR)
  have h2:=arcs_few hst hR cs (st k (underR R c)).1 (fun x hx=>hc x (List.mem_cons_of_mem _ hx))
  have h3:=totC_under R c
  have h4:0<(underR R c).length:=List.length_pos_iff.2 (hc c List.mem_cons_self)
  simp only [arcsF,List.map_cons,List.sum_cons]
  omega
theorem stateF_few:∀ f,StFew (stateF f)
 | 0=>fun k l _=>by simp only [stateF];omega
 | f+1=>fun k l hs=>by
  simp only [stateF]
  cases hi:idxR k.rests (levelR l) with
  | some i=>simp only;omega
  | none =>
   simp only [List.length_append,List.length_cons,List.length_nil]
   have h1:=arcs_few (stateF_few f) (sort_level hs) (firstsR (levelR l)) k (fun c hc=>mem_firsts.1 hc)
   have h2:=totC_sum (levelR l) (firstsR (levelR l)) ((firsts_sorted (sort_level hs)).imp fun h=>Nat.ne_of_lt h)
   rw [totR_level] at h2
   omega
def seenT (N m:Nat):List Bool:=(List.range N).map fun j=>decide (j<m)
theorem seenT_get {N m j:Nat} (h:j<N):(seenT N m).getD j false=decide (j<m):=by simp [seenT,List.getD,h]
theorem seenT_set {N m:Nat} (_:m<N):(seenT N m).set m true=seenT N (m+1):=by
 apply List.ext_getElem
 ·simp [seenT]
 ·intro i h1 h2
  simp only [seenT,List.length_set,List.length_map,List.length_range] at h1
  rw [List.getElem_set]
  simp only [seenT,List.getElem_map,List.getElem_range]
  by_cases e:m=i
  ·subst e;simp
  ·rw [if_neg e]
   simp only [decide_eq_decide]
   omega
theorem seenT_zero (N:Nat):seenT N 0=List.replicate N false:=by
 apply List.ext_getElem
 ·simp [seenT]
 ·intro i h1 h2
  simp [seenT]
def noSt:StP:=⟨false,0,[]⟩
def visArcs (v:Nat→List Bool→Nat→Bool × List Bool × Nat):List (Nat × Int × Nat)→List Bool→Nat→Bool × List Bool × Nat
 | [],s,n=>(true,s,n)
 | a :: l,s,n=>if s.getD a.2.2 false=true then visArcs v l s n else match v a.2.2 s n with
  | (true,s',n')=>visArcs v l s' n'
  | (false,s',n')=>(false,s',n')
def visF (sts:List StP):Nat→Nat→List Bool→Nat→Bool × List Bool × Nat
 | 0,_,s,n=>(false,s,n)
 | f+1,i,s,n=>match visArcs (visF sts f) (sts.getD i noSt).arcs s n with
  | (true,s',n')=>(decide (n'+1=i+1),s'.set i true,n'+1)
  | (false,s',n')=>(false,s',n')
def StVis (sts:List StP) (st:KnP→Rs→KnP × Nat) (f:Nat):Prop:=∀ k l,Good k→SortR l→l≠[]→depR l<f→(st k l).1.states <+: sts →
 ((st k l).1=k∧(st k l).2<k.states.length)∨(k.states.length≤(st k l).2∧(st k l).2+1=(st k l).1.states.length ∧
   ∀ F,f≤F→visF sts F (st k l).2 (seenT sts.length k.states.length) k.states.length=(true,seenT sts.length (st k l).1.states.length,(st k l).1.states.length))
theorem Ext.pre {d:Nat} {k k':KnP} (h:Ext d k k'):k.states <+: k'.states:=by
 obtain ⟨_,b,_,e,_⟩:=h
 exact ⟨b,e.symm⟩
theorem arcs_vis {sts:List StP} {st:KnP→Rs→KnP × Nat} {f:Nat} (hv:StVis sts st f) (hok:StOk st f) {R:Rs} (hR:SortR R) (hd:depR R≤f):∀ (cs:List Nat) (k:KnP),Good k→(∀ c∈cs,underR R c≠[]) →
  (arcsF st R k cs).1.states <+: sts→∀ F,f≤F→visArcs (visF sts F) (arcsF st R k cs).2 (seenT sts.length k.states.length) k.states.length=(true,seenT sts.length (arcsF st R k cs).1.states.length,(arcsF st R k cs).1.states.length)
 | [],k,_,_,_,F,_=>rfl
 | c :: cs,k,hk,hc,hp,F,hF=>by
  have hu:=hc c List.mem_cons_self
  have hdu:=depR_under hu
  obtain ⟨g1,g2,_⟩:=hok k (underR R c) hk (sort_under c hR) hu (by omega)
  obtain ⟨_,h2,_,_⟩:=arcs_ok hok hR hd cs (st k (underR R c)).1 g1 (fun x hx=>hc x (List.mem_cons_of_mem _ hx))
  have hpq:(st k (underR R c)).1.states <+: sts:=h2.pre.trans hp
  have ih:=arcs_vis hv hok hR hd cs (st k (underR R c)).1 g1 (fun x hx=>hc x (List.mem_cons_of_mem _ hx)) hp F hF
  have hkl:k.states.length≤sts.length:=(g2.pre.trans hpq).length_le
  simp only [arcsF,visArcs]
  rcases hv k (underR R c) hk (sort_under c hR) hu (by omega) hpq with ⟨e1,e2⟩ | ⟨e1,e2,e3⟩
  ·rw [seenT_get (by omega),if_pos (by simpa using e2)]
   rw [e1] at ih ⊢
   exact ih
  ·have hql:(st k (underR R c)).1.states.length≤sts.length:=hpq.length_le
   rw [seenT_get (by omega),if_neg (by simpa using e1),e3 F hF]
   exact ih
theorem stateF_vis (sts:List StP):∀ f,StVis sts (stateF f) f
 | 0=>fun k l _ _ _ h _=>absurd h (Nat.not_lt_zero _)
 | f+1=>fun k l hk hs hne hd=>by
  have hR:=sort_level hs
  have hRd:=depR_level l
  simp only [stateF]
  cases hi:idxR k.rests (levelR l) with
  | some i =>
   intro _
   left
   refine ⟨rfl,?_⟩
   have:=(List.getElem?_eq_some_iff.1 (idxR_some hi)).1
   rw [hk.len] at this
   exact this
  | none =>
   intro hp
   right
   obtain ⟨h1,h2,_,_⟩:=arcs_ok (stateF_ok f) hR (by omega) (firstsR (levelR l)) k hk (fun c hc=>mem_firsts.1 hc)
   simp only at hp ⊢
   have hpp:=h2.pre
   have hps:(arcsF (stateF f) (levelR l) k (firstsR (levelR l))).1.states <+: sts:=(List.prefix_append _ _).trans hp
   refine ⟨hpp.length_le,by simp,fun F hF=>?_⟩
   obtain ⟨F,rfl⟩:∃ F',F=F'+1:=⟨F-1,by omega⟩
   have hv:=arcs_vis (stateF_vis sts f) (stateF_ok f) hR (by omega) (firstsR (levelR l)) k hk (fun c hc=>mem_firsts.1 hc) hps F (by omega)
   have hlen:(arcsF (stateF f) (levelR l) k (firstsR (levelR l))).1.states.length<sts.length:=by
    have:=hp.length_le
    rw [List.length_append] at this
    simp at this
    omega
   have hst:sts.getD (arcsF (stateF f) (levelR l) k (firstsR (levelR l))).1.states.length noSt=⟨finR (levelR l),outR (levelR l),(arcsF (stateF f) (levelR l) k (firstsR (levelR l))).2⟩:=by
    obtain ⟨t,ht⟩:=hp
    rw [← ht,List.getD_eq_getElem?_getD,List.append_assoc,List.getElem?_append_right (Nat.le_refl _),Nat.sub_self]
    rfl
   simp only [visF]
   rw [hst]
   simp only
   rw [hv]
   simp only
   rw [seenT_set hlen]
   simp
theorem count_under (l:Rs):∀ cs:List Nat,cs.Nodup→(∀ r∈l,∀ c,r.1.head? = some c→c∈cs)→l.length=(l.filter fun r=>decide (r.1=[])).length+(cs.map fun c=>(underR l c).length).sum:=by
 induction l with
 | nil=>intro cs _ _;simp only [underR,List.filterMap_nil,List.length_nil];rw [sum_zero];rfl
 | cons r l ih =>
  intro cs hcs hh
  have h1:=ih cs hcs fun x hx=>hh x (List.mem_cons_of_mem _ hx)
  obtain ⟨x,n⟩:=r
  cases x with
  | nil =>
   have e:(cs.map fun c=>(underR (([],n) :: l) c).length)=cs.map fun c=>(underR l c).length:=by
    refine List.map_congr_left fun c _=>?_
    simp [underR]
   rw [e]
   simp only [List.filter_cons,decide_true,if_true,List.length_cons]
   omega
  | cons d t =>
   have hd:=hh _ List.mem_cons_self d rfl
   have h2:∀ cs:List Nat,cs.Nodup→d∈cs→(cs.map fun c=>if c=d then 1 else 0).sum=1:=by
    intro cs
    induction cs with
    | nil=>intro _ h;cases h
    | cons c cs ih2 =>
     intro hn hm
     rw [List.nodup_cons] at hn
     simp only [List.map_cons,List.sum_cons]
     by_cases hc:c=d
     ·subst hc
      rw [if_pos rfl]
      have e:(cs.map fun x=>if x=c then 1 else 0)=cs.map fun _=>0:=List.map_congr_left fun x hx=>if_neg fun (e:x=c)=>hn.1 (by rw [← e];exact hx)
      rw [e,sum_zero]
     ·rw [if_neg hc,Nat.zero_add]
      rcases List.mem_cons.1 hm with e | e
      ·exact absurd e.symm hc
      ·exact ih2 hn.2 e
   have e:(cs.map fun c=>(underR ((d :: t,n) :: l) c).length)=cs.map fun c=>(if c=d then 1 else 0)+(underR l c).length:=by
    refine List.map_congr_left fun c _=>?_
    by_cases hc:c=d
    ·subst hc;simp [underR];omega
    ·have hc2:¬ d=c:=fun e=>hc e.symm
     simp [underR,hc,hc2]
   rw [e,sum_add (fun c=>if c=d then 1 else 0) (fun c=>(underR l c).length) cs,h2 cs hcs hd]
   simp only [List.filter_cons,List.length_cons]
   simp only [reduceCtorEq,decide_false,Bool.false_eq_true,if_false]
   omega
theorem nil_count {l:Rs} (h:SortR l):(l.filter fun r=>decide (r.1=[])).length=if finR l=true then 1 else 0:=by
 induction l with
 | nil=>rfl
 | cons r l ih =>
  have hs2:SortR l:=by unfold SortR at h ⊢;exact (List.pairwise_cons.1 h).2
  obtain ⟨x,n⟩:=r
  cases x with
  | nil =>
   have hno:l.filter (fun r=>decide (r.1=[]))=[]:=by
    rw [List.filter_eq_nil_iff]
    intro r hr
    unfold SortR at h
    have:=(List.pairwise_cons.1 h).1 r hr
    obtain ⟨y,m⟩:=r
    cases y with
    | nil=>cases this
    | cons _ _=>simp
   have hf:finR (([],n) :: l)=true:=finR_iff.2 ⟨n,List.mem_cons_self⟩
   rw [hf]
   simp [hno]
  | cons d t =>
   have hf:finR ((d :: t,n) :: l)=finR l:=by simp [finR]
   rw [hf,← ih hs2]
   simp
theorem words_count {l:Rs} (h:SortR l):l.length=(if finR l=true then 1 else 0)+((firstsR l).map fun c=>(underR l c).length).sum:=by
 rw [← nil_count h]
 refine count_under l (firstsR l) ((firsts_sorted h).imp fun h=>Nat.ne_of_lt h) fun r hr c hc=>?_
 rw [mem_firsts]
 obtain ⟨x,n⟩:=r
 cases x with
 | nil=>cases hc
 | cons d t =>
  simp only [List.head?_cons,Option.some.injEq] at hc
  subst hc
  exact List.ne_nil_of_mem (mem_under.2 hr)
theorem utf1_write {bs:List UInt8} {r n:Nat} (h:utf1 bs=(r,n)) (hn:n≠0):scal r=true∧writeU r=bs.take n:=by
 have hex:∃ m,1≤m∧m≤4∧m≤bs.length∧Hit m bs:=Classical.byContradiction fun hno=>by
  have:=utf1_miss (bs:=bs) fun m h1 h4 hl hh=>hno ⟨m,h1,h4,hl,hh⟩
  rw [this] at h
  injection h with _ h
  exact hn h.symm
 obtain ⟨m,h1,h4,hl,hh⟩:=hex
 have e:=utf1_hit h1 h4 hl hh
 rw [h] at e
 injection e with e1 e2
 subst e1 e2
 exact hh
theorem runesU_write (n:Nat):∀ (bs:List UInt8) (x:List Nat),bs.length≤n→runesU bs=some x→bs=x.flatMap writeU∧∀ r∈x,scal r=true:=by
 induction n with
 | zero =>
  intro bs x hl h
  have:bs=[]:=List.eq_nil_of_length_eq_zero (by omega)
  subst this
  rw [runesU_nil] at h
  injection h with h
  subst h
  exact ⟨rfl,fun r hr=>by cases hr⟩
 | succ n ih =>
  intro bs x hl h
  by_cases hz:bs=[]
  ·subst hz
   rw [runesU_nil] at h
   injection h with h
   subst h
   exact ⟨rfl,fun r hr=>by cases hr⟩
  ·have hp:0<bs.length:=List.length_pos_iff.2 hz
   rw [runesU_step hp] at h
   by_cases h0:(utf1 bs).2=0
   ·rw [if_pos h0] at h;cases h
   ·rw [if_neg h0] at h
    obtain ⟨y,hy,rfl⟩:=Option.map_eq_some_iff.1 h
    obtain ⟨e1,e2⟩:=utf1_write (bs:=bs) (r:=(utf1 bs).1) (n:=(utf1 bs).2) rfl h0
    obtain ⟨e3,e4⟩:=ih (bs.drop (utf1 bs).2) y (by rw [List.length_drop];omega) hy
    refine ⟨?_,?_⟩
    ·rw [List.flatMap_cons,e2,← e3,List.take_append_drop]
    ·intro r hr
     rcases List.mem_cons.1 hr with e | e
     ·rw [e];exact e1
     ·exact e4 r e
theorem runesU_inj {a b:List UInt8} {x:List Nat} (ha:runesU a=some x) (hb:runesU b=some x):a=b :=
 (runesU_write _ a x (Nat.le_refl _) ha).1.trans (runesU_write _ b x (Nat.le_refl _) hb).1.symm
theorem bl_num {p q:Nat} (hp:p<256) (hq:q<256) (x y:List UInt8):Op.bytesLess (UInt8.ofNat p :: x) (UInt8.ofNat q :: y)=if p=q then Op.bytesLess x y else decide (p<q):=by
 have hP:(UInt8.ofNat p).toNat=p:=by rw [UInt8.toNat_ofNat'];omega
 have hQ:(UInt8.ofNat q).toNat=q:=by rw [UInt8.toNat_ofNat'];omega
 by_cases e:p=q
 ·subst e
  rw [if_pos rfl]
  simp [Op.bytesLess,UInt8.lt_irrefl]
 ·rw [if_neg e]
  have hne:UInt8.ofNat p≠UInt8.ofNat q:=fun h=>e (by rw [← hP,← hQ,h])
  have hlt:(UInt8.ofNat p<UInt8.ofNat q)↔p<q:=by rw [UInt8.lt_iff_toNat_lt,hP,hQ]
  simp [Op.bytesLess,hne,hlt]
theorem bl_same (p x y:List UInt8):Op.bytesLess (p++x) (p++y)=Op.bytesLess x y:=by
 induction p with
 | nil=>rfl
 | cons a p ih=>simp [Op.bytesLess,UInt8.lt_irrefl,ih]
theorem write_less {a b:Nat} (h:a<b) (hb:b<1114112) (s t:List UInt8):Op.bytesLess (writeU a++s) (writeU b++t)=true:=by
 unfold writeU
 by_cases a1:a<128
 ·rw [if_pos a1]
  by_cases b1:b<128
  ·rw [if_pos b1]
   simp only [List.cons_append,List.nil_append]
   rw [bl_num (by omega) (by omega),if_neg (by omega)]
   exact decide_eq_true h
  ·rw [if_neg b1]
   by_cases b2:b<2048
   ·rw [if_pos b2];simp only [List.cons_append,List.nil_append];rw [bl_num (by omega) (by omega),if_neg (by omega)];exact decide_eq_true (by omega)
   ·rw [if_neg b2]
    by_cases b3:b<65536
    ·rw [if_pos b3];simp only [List.cons_append,List.nil_append];rw [bl_num (by omega) (by omega),if_neg (by omega)];exact decide_eq_true (by omega)
    ·rw [if_neg b3];simp only [List.cons_append,List.nil_append];rw [bl_num (by omega) (by omega),if_neg (by omega)];exact decide_eq_true (by omega)
 ·rw [if_neg a1,if_neg (show ¬ b<128 by omega)]
  by_cases a2:a<2048
  ·rw [if_pos a2]
   by_cases b2:b<2048
   ·rw [if_pos b2]
    simp only [List.cons_append,List.nil_append]
    rw [bl_num (by omega) (by omega)]
    by_cases e1:192+a / 64=192+b / 64
    ·rw [if_pos e1,bl_num (by omega) (by omega),if_neg (by omega)];exact decide_eq_true (by omega)
    ·rw [if_neg e1];exact decide_eq_true (by omega)
   ·rw [if_neg b2]
    by_cases b3:b<65536
    ·rw [if_pos b3];simp only [List.cons_append,List.nil_append];rw [bl_num (by omega) (by omega),if_neg (by omega)];exact decide_eq_true (by omega)
    ·rw [if_neg b3];simp only [List.cons_append,List.nil_append];rw [bl_num (by omega) (by omega),if_neg (by omega)];exact decide_eq_true (by omega)
  ·rw [if_neg a2,if_neg (show ¬ b<2048 by omega)]
   by_cases a3:a<65536
   ·rw [if_pos a3]
    by_cases b3:b<65536
    ·rw [if_pos b3]
     simp only [List.cons_append,List.nil_append]
     rw [bl_num (by omega) (by omega)]
     by_cases e1:224+a / 4096=224+b / 4096
     ·rw [if_pos e1,bl_num (by omega) (by omega)]
      by_cases e2:128+a / 64 % 64=128+b / 64 % 64
      ·rw [if_pos e2,bl_num (by omega) (by omega),if_neg (by omega)];exact decide_eq_true (by omega)
      ·rw [if_neg e2];exact decide_eq_true (by omega)
     ·rw [if_neg e1];exact decide_eq_true (by omega)
    ·rw [if_neg b3];simp only [List.cons_append,List.nil_append];rw [bl_num (by omega) (by omega),if_neg (by omega)];exact decide_eq_true (by omega)
   ·rw [if_neg a3,if_neg (show ¬ b<65536 by omega)]
    simp only [List.cons_append,List.nil_append]
    rw [bl_num (by omega) (by omega)]
    by_cases e1:240+a / 262144=240+b / 262144
    ·rw [if_pos e1,bl_num (by omega) (by omega)]
     by_cases e2:128+a / 4096 % 64=128+b / 4096 % 64
     ·rw [if_pos e2,bl_num (by omega) (by omega)]
      by_cases e3:128+a / 64 % 64=128+b / 64 % 64
      ·rw [if_pos e3,bl_num (by omega) (by omega),if_neg (by omega)];exact decide_eq_true (by omega)
      ·rw [if_neg e3];exact decide_eq_true (by omega)
     ·rw [if_neg e2];exact decide_eq_true (by omega)
    ·rw [if_neg e1];exact decide_eq_true (by omega)
theorem writeU_ne (r:Nat):∃ b t,writeU r=b :: t:=by
 unfold writeU
 split
 ·exact ⟨_,_,rfl⟩
 ·split
  ·exact ⟨_,_,rfl⟩
  ·split<;>exact ⟨_,_,rfl⟩
theorem bl_asym {x y:List UInt8} (h:Op.bytesLess x y=true):Op.bytesLess y x=false:=by
 refine Bool.eq_false_iff.2 fun e=>?_
 have:=bl_trans _ _ _ h e
 rw [bl_irrefl] at this
 cases this
theorem less_runes:∀ (x y:List Nat),(∀ r∈x,r<1114112)→(∀ r∈y,r<1114112)→Op.bytesLess (x.flatMap writeU) (y.flatMap writeU)=lexN x y
 | [],[],_,_=>rfl
 | [],b :: y,_,_=>by
  obtain ⟨c,t,e⟩:=writeU_ne b
  rw [List.flatMap_cons,e]
  rfl
 | a :: x,[],_,_=>by
  obtain ⟨c,t,e⟩:=writeU_ne a
  rw [List.flatMap_cons,e]
  rfl
 | a :: x,b :: y,hx,hy=>by
  rw [List.flatMap_cons,List.flatMap_cons]
  simp only [lexN]
  by_cases e:a=b
  ·subst e
   rw [if_pos rfl,bl_same]
   exact less_runes x y (fun r hr=>hx r (List.mem_cons_of_mem _ hr)) (fun r hr=>hy r (List.mem_cons_of_mem _ hr))
  ·rw [if_neg e]
   rcases Nat.lt_or_gt_of_ne e with h | h
   ·rw [write_less h (hy b List.mem_cons_self)];exact (decide_eq_true h).symm
   ·rw [bl_asym (write_less h (hx a List.mem_cons_self) _ _)];exact (decide_eq_false (by omega)).symm
def wordR (p:PRow):List Nat:=(runesU p.word.toList).getD []
def restsL (L:List PRow):Rs:=L.map fun p=>(wordR p,p.weight)
theorem word_runes {bs:List UInt8} (h:wordU bs=true):∃ x,runesU bs=some x∧x.all fitU=true∧0<x.length∧x.length≤24:=by
 unfold wordU at h
 cases hr:runesU bs with
 | none=>rw [hr] at h;simp at h
 | some x =>
  rw [hr] at h
  simp only [Bool.and_eq_true,decide_eq_true_eq] at h
  exact ⟨x,rfl,h.2.1,h.2.2.1,h.2.2.2⟩
structure DictP (L:List PRow):Prop where
 len:L.length≤4096
 word:∀ p∈L,runesU p.word.toList=some (wordR p)∧(wordR p).all fitU=true∧0<(wordR p).length∧(wordR p).length≤24
 weight:∀ p∈L,1≤p.weight∧p.weight≤1048576
 sort:SortR (restsL L)
theorem pairwise_next {α:Type} {R:α→α→Prop} (tr:∀ a b c,R a b→R b c→R a c):∀ l:List α,(∀ i a b,l[i]? = some a→l[i+1]? = some b→R a b)→l.Pairwise R
 | [],_=>List.Pairwise.nil
 | [x],_=>List.pairwise_singleton _ _
 | x :: y :: l,h=>by
  have ih:=pairwise_next tr (y :: l) fun i a b ha hb=>h (i+1) a b ha hb
  rw [List.pairwise_cons]
  refine ⟨fun z hz=>?_,ih⟩
  have h0:=h 0 x y rfl rfl
  rcases List.mem_cons.1 hz with e | e
  ·rw [e];exact h0
  ·exact tr _ _ _ h0 ((List.pairwise_cons.1 ih).1 z e)
theorem dict_of_right {L:List PRow} (h:rightU L=true):DictP L:=by
 unfold rightU at h
 simp only [Bool.and_eq_true,decide_eq_true_eq,List.all_eq_true,List.mem_range] at h
 have hfit:∀ i (hi:i<L.length),1≤L[i].weight∧L[i].weight≤1048576∧wordU L[i].word.toList=true∧(i=0∨Op.bytesLess (L.getD (i-1) PRow.zero).word.toList L[i].word.toList=true):=by
  intro i hi
  have:=h.2 i hi
  rw [fitP_eq] at this
  have e:L.getD i PRow.zero=L[i]:=by simp [List.getD,hi]
  rw [e] at this
  simp only [Bool.and_eq_true,Bool.or_eq_true,decide_eq_true_eq] at this
  exact ⟨this.1.1,this.1.2,this.2.1,this.2.2⟩
 have hw:∀ p∈L,runesU p.word.toList=some (wordR p)∧(wordR p).all fitU=true∧0<(wordR p).length∧(wordR p).length≤24:=by
  intro p hp
  obtain ⟨i,hi,rfl⟩:=List.getElem_of_mem hp
  obtain ⟨x,h1,h2,h3,h4⟩:=word_runes (hfit i hi).2.2.1
  have e:wordR L[i]=x:=by unfold wordR;rw [h1];rfl
  rw [e]
  exact ⟨h1,h2,h3,h4⟩
 refine ⟨h.1,hw,?_,?_⟩
 ·intro p hp
  obtain ⟨i,hi,rfl⟩:=List.getElem_of_mem hp
  exact ⟨(hfit i hi).1,(hfit i hi).2.1⟩
 ·unfold SortR restsL
  rw [List.pairwise_map]
  have hp:L.Pairwise (fun a b=>plt a b=true):=pairwise_next (R:=fun a b=>plt a b=true) (fun a b c h k=>plt_trans h k) L fun i a b ha hb=>by
   obtain ⟨hi,rfl⟩:=List.getElem?_eq_some_iff.1 ha
   obtain ⟨hj,rfl⟩:=List.getElem?_eq_some_iff.1 hb
   have:=(hfit (i+1) hj).2.2.2
   rw [Nat.add_sub_cancel] at this
   have e:L.getD i PRow.zero=L[i]:=by simp [List.getD,hi]
   rw [e] at this
   rcases this with h | h
   ·omega
   ·exact h
  refine List.Pairwise.imp_of_mem ?_ hp
  intro a b ha hb hab
  obtain ⟨a1,a2⟩:=runesU_write _ _ _ (Nat.le_refl _) (hw a ha).1
  obtain ⟨b1,b2⟩:=runesU_write _ _ _ (Nat.le_refl _) (hw b hb).1
  unfold plt at hab
  rw [a1,b1,less_runes _ _ (fun r hr=>scal_lt (a2 r hr)) (fun r hr=>scal_lt (b2 r hr))] at hab
  exact hab
structure MchP where
 base:Int
 states:List StP
def mach (L:List PRow):MchP:=if L=[] then ⟨0,[]⟩ else ⟨leastR (restsL L),(stateF 25 ⟨[],[]⟩ (restsL L)).1.states⟩
theorem rests_ne {L:List PRow} (h:L≠[]):restsL L≠[]:=by unfold restsL;simpa using h
theorem good_nil:Good ⟨[],[]⟩:=⟨rfl,fun i R s h=>by simp at h,by simp⟩
theorem dep_dict {L:List PRow} (h:DictP L):depR (restsL L)<25:=by
 refine depR_lt (by omega) fun r hr=>?_
 obtain ⟨p,hp,rfl⟩:=List.mem_map.1 hr
 have:=(h.word p hp).2.2.2
 simp only
 omega
structure Made (L:List PRow) (k:KnP):Prop where
 good:Good k
 root:k.rests[k.states.length-1]? = some (levelR (restsL L))
 pos:0<k.states.length
 few:k.states.length≤totR (restsL L)+1
 vis:∀ F,25≤F→visF k.states F (k.states.length-1) (List.replicate k.states.length false) 0=(true,seenT k.states.length k.states.length,k.states.length)
theorem made {L:List PRow} (h:DictP L) (hne:L≠[]):Made L (stateF 25 ⟨[],[]⟩ (restsL L)).1:=by
 obtain ⟨h1,_,h3⟩:=stateF_ok 25 ⟨[],[]⟩ (restsL L) good_nil h.sort (rests_ne hne) (dep_dict h)
 have h4:=stateF_few 25 ⟨[],[]⟩ (restsL L) h.sort
 have h5:=stateF_vis (stateF 25 ⟨[],[]⟩ (restsL L)).1.states 25 ⟨[],[]⟩ (restsL L) good_nil h.sort (rests_ne hne) (dep_dict h) (List.prefix_refl _)
 rcases h5 with ⟨_,e⟩ | ⟨_,e2,e3⟩
 ·simp at e
 ·have e:(stateF 25 ⟨[],[]⟩ (restsL L)).1.states.length-1=(stateF 25 ⟨[],[]⟩ (restsL L)).2:=by omega
  refine ⟨h1,by rw [e];exact h3,by omega,by simpa using h4,fun F hF=>?_⟩
  rw [e]
  have:=e3 F hF
  rw [List.length_nil,seenT_zero] at this
  exact this
def shiftR (d:Int) (l:Rs):Rs:=l.map fun r=>(r.1,r.2-d)
theorem level_shift (l:Rs):levelR l=shiftR (leastR l) l:=rfl
theorem mem_shift {d:Int} {l:Rs} {x:List Nat} {n:Int}:(x,n)∈shiftR d l↔(x,n+d)∈l:=by
 unfold shiftR
 rw [List.mem_map]
 constructor
 ·rintro ⟨⟨r1,r2⟩,hr,e⟩
  simp only [Prod.mk.injEq] at e
  obtain ⟨rfl,rfl⟩:=e
  rw [Int.sub_add_cancel]
  exact hr
 ·intro h
  exact ⟨_,h,by simp⟩
theorem under_shift (d:Int) (l:Rs) (c:Nat):underR (shiftR d l) c=shiftR d (underR l c):=by
 unfold underR shiftR
 rw [List.filterMap_map,List.map_filterMap]
 congr 1
 funext r
 obtain ⟨x,n⟩:=r
 cases x with
 | nil=>rfl
 | cons e t =>
  simp only [Function.comp]
  split<;>rfl
theorem least_shift (d:Int) {l:Rs} (h:l≠[]):leastR (shiftR d l)=leastR l-d:=by
 have hne:shiftR d l≠[]:=by unfold shiftR;simpa using h
 obtain ⟨⟨x,n⟩,hr,e⟩:=leastR_mem hne
 obtain ⟨⟨y,m⟩,hs,e2⟩:=leastR_mem h
 have h1:=leastR_le (mem_shift.1 hr)
 have h2:=leastR_le (mem_shift.2 (show (y,m-d+d)∈l by rw [Int.sub_add_cancel];exact hs))
 simp only at e e2 h1 h2
 omega
theorem level_of_shift (d:Int) (l:Rs):levelR (shiftR d l)=levelR l:=by
 by_cases h:l=[]
 ·subst h;rfl
 ·unfold levelR
  rw [least_shift d h]
  unfold shiftR
  rw [List.map_map]
  congr 1
  funext r
  simp only [Function.comp,Prod.mk.injEq,true_and]
  omega
def stepA (arcs:List (Nat × Int × Nat)) (r:Nat) (p:Int × Int):Int × Int:=arcs.foldl (fun p a=>if a.1=r then ((a.2.2:Int),p.2+a.2.1) else p) p
def followF (sts:List StP):List Nat→Int→Int→Option (Int × Int)
 | [],at_,sum=>some (at_,sum)
 | r :: x,at_,sum=>if at_<0 then none else followF sts x (stepA (sts.getD at_.toNat noSt).arcs r (-1,sum)).1 (stepA (sts.getD at_.toNat noSt).arcs r (-1,sum)).2
def endF (sts:List StP):Option (Int × Int)→Int × Bool
 | none=>(0,false)
 | some (at_,sum)=>if at_<0 then (0,false) else if (sts.getD at_.toNat noSt).fin=true then (sum+(sts.getD at_.toNat noSt).out,true) else (0,false)
theorem stepA_none {arcs:List (Nat × Int × Nat)} {r:Nat} {p:Int × Int} (h:r ∉ arcs.map (·.1)):stepA arcs r p=p:=by
 unfold stepA
 induction arcs generalizing p with
 | nil=>rfl
 | cons a l ih =>
  simp only [List.map_cons,List.mem_cons,not_or] at h
  rw [List.foldl_cons,if_neg (fun e=>h.1 e.symm)]
  exact ih h.2
theorem stepA_some {arcs:List (Nat × Int × Nat)} {r:Nat} {p:Int × Int} (hn:(arcs.map (·.1)).Nodup) {a:Nat × Int × Nat} (ha:a∈arcs) (hr:a.1=r):stepA arcs r p=((a.2.2:Int),p.2+a.2.1):=by
 unfold stepA
 induction arcs generalizing p with
 | nil=>cases ha
 | cons b l ih =>
  rw [List.map_cons,List.nodup_cons] at hn
  rw [List.foldl_cons]
  rcases List.mem_cons.1 ha with e | e
  ·subst e
   rw [if_pos hr]
   exact stepA_none (arcs:=l) (by rw [← hr];exact hn.1)
  ·have hb:¬ b.1=r:=fun h=>hn.1 (by rw [h,← hr];exact List.mem_map.2 ⟨a,e,rfl⟩)
   rw [if_neg hb]
   exact ih hn.2 e
theorem follow_neg (sts:List StP) (x:List Nat) {at_ sum:Int} (h:at_<0):endF sts (followF sts x at_ sum)=(0,false):=by
 cases x with
 | nil=>simp [followF,endF,h]
 | cons r x=>simp [followF,endF,h]
theorem foundF {k:KnP} (hk:Good k):∀ (x:List Nat) (X:Rs) (i:Nat),X≠[]→SortR X→k.rests[i]? = some (levelR X) →
  (∀ w,(x,w)∈X→endF k.states (followF k.states x i (leastR X))=(w,true))∧((∀ w,(x,w) ∉ X)→endF k.states (followF k.states x i (leastR X))=(0,false))
 | [],X,i,hX,hs,hi=>by
  have hlt:i<k.states.length:=by rw [← hk.len];exact (List.getElem?_eq_some_iff.1 hi).1
  have hst:k.states[i]? = some k.states[i]:=List.getElem?_eq_getElem hlt
  have hc:=hk.corr i _ _ hi hst
  have hg:k.states.getD ((i:Nat):Int).toNat noSt=k.states[i]:=by simp [List.getD,hlt]
  simp only [followF,endF]
  rw [if_neg (show ¬ ((i:Nat):Int)<0 by omega),hg,hc.fin,hc.out]
  refine ⟨fun w hw=>?_,fun hno=>?_⟩
  ·have hm:([],w-leastR X)∈levelR X:=mem_level.2 (by rw [Int.sub_add_cancel];exact hw)
   obtain ⟨h1,h2⟩:=(mem_end hc.sort).1 hm
   rw [if_pos h1,h2]
   simp only [Prod.mk.injEq,and_true]
   omega
  ·rw [if_neg fun h1=>?_]
   obtain ⟨n,hn⟩:=finR_iff.1 h1
   exact hno _ (mem_level.1 hn)
 | c :: x,X,i,hX,hs,hi=>by
  have hlt:i<k.states.length:=by rw [← hk.len];exact (List.getElem?_eq_some_iff.1 hi).1
  have hst:k.states[i]? = some k.states[i]:=List.getElem?_eq_getElem hlt
  have hc:=hk.corr i _ _ hi hst
  have hg:k.states.getD ((i:Nat):Int).toNat noSt=k.states[i]:=by simp [List.getD,hlt]
  simp only [followF]
  rw [if_neg (show ¬ ((i:Nat):Int)<0 by omega),hg]
  have hlab:=hc.labels
  have hnd:(k.states[i].arcs.map (·.1)).Nodup:=by rw [hlab];exact (firsts_sorted hc.sort).imp fun h=>Nat.ne_of_lt h
  by_cases hu:underR X c=[]
  ·have hno:c ∉ k.states[i].arcs.map (·.1):=by
    rw [hlab,mem_firsts,level_shift,under_shift,hu]
    exact fun h=>h rfl
   rw [stepA_none hno]
   refine ⟨fun w hw=>?_,fun _=>follow_neg _ _ (show (-1:Int)<0 by omega)⟩
   have:=mem_under.2 hw
   rw [hu] at this
   cases this
  ·have hin:c∈k.states[i].arcs.map (·.1):=by
    rw [hlab,mem_firsts,level_shift,under_shift]
    unfold shiftR
    simpa using hu
   obtain ⟨a,ha,hac⟩:=List.mem_map.1 hin
   rw [stepA_some hnd ha hac]
   have harc:=hc.arc a ha
   rw [hac,level_shift,under_shift,least_shift _ hu,level_of_shift] at harc
   have e:leastR X+a.2.1=leastR (underR X c):=by rw [harc.1];omega
   simp only
   rw [e]
   obtain ⟨i1,i2⟩:=foundF hk x (underR X c) a.2.2 hu (sort_under c hs) harc.2.2
   exact ⟨fun w hw=>i1 w (mem_under.2 hw),fun hno=>i2 fun w hw=>hno w (mem_under.1 hw)⟩
theorem key_words {L:List PRow} (h:DictP L) {p:PRow} (hp:p∈L):findP p.word.toList L=(p.weight,true):=by
 have hin:p∈key p.word.toList L:=by simp [key,hp]
 have hall:∀ q∈key p.word.toList L,q=p:=by
  intro q hq
  simp only [key,List.mem_filter,decide_eq_true_eq] at hq
  have e:wordR q=wordR p:=by unfold wordR;rw [hq.2]
  have h1:(wordR q,q.weight)∈restsL L:=List.mem_map.2 ⟨q,hq.1,rfl⟩
  have h2:(wordR p,p.weight)∈restsL L:=List.mem_map.2 ⟨p,hp,rfl⟩
  rw [e] at h1
  have hw:=sort_inj h.sort h1 h2
  obtain ⟨qw,qn⟩:=q
  obtain ⟨pw,pn⟩:=p
  simp only at hq hw
  rw [hw,toList_inj hq.2]
 unfold findP
 cases hl:(key p.word.toList L).getLast? with
 | none=>rw [List.getLast?_eq_none_iff] at hl;rw [hl] at hin;cases hin
 | some q=>rw [hall q (List.mem_of_getLast? hl)]
theorem key_none {L:List PRow} {bs:List UInt8} (h:∀ p∈L,p.word.toList≠bs):findP bs L=(0,false):=by
 have:key bs L=[]:=by
  unfold key
  rw [List.filter_eq_nil_iff]
  intro p hp
  simpa using h p hp
 unfold findP
 rw [this]
 rfl
theorem mach_find {L:List PRow} (h:DictP L) (hne:L≠[]) (bs:List UInt8) (x:List Nat) (hx:runesU bs=some x) :
  endF (mach L).states (followF (mach L).states x ((mach L).states.length-1:Nat) (mach L).base)=findP bs L:=by
 have hm:=made h hne
 have hmach:mach L=⟨leastR (restsL L),(stateF 25 ⟨[],[]⟩ (restsL L)).1.states⟩:=by unfold mach;rw [if_neg hne]
 rw [hmach]
 simp only
 obtain ⟨f1,f2⟩:=foundF hm.good x (restsL L) _ (rests_ne hne) h.sort hm.root
 by_cases hex:∃ p∈L,p.word.toList=bs
 ·obtain ⟨p,hp,rfl⟩:=hex
  have hxp:wordR p=x:=by unfold wordR;rw [hx];rfl
  rw [key_words h hp]
  exact f1 p.weight (List.mem_map.2 ⟨p,hp,by rw [hxp]⟩)
 ·have hno:∀ p∈L,p.word.toList≠bs:=fun p hp e=>hex ⟨p,hp,e⟩
  rw [key_none hno]
  refine f2 fun w hw=>?_
  obtain ⟨p,hp,e⟩:=List.mem_map.1 hw
  injection e with e1 _
  have h1:=(h.word p hp).1
  rw [e1] at h1
  exact hno p hp (runesU_inj h1 hx)
end Go.Proofs.YthockgmbooefpaaGreatDoor
