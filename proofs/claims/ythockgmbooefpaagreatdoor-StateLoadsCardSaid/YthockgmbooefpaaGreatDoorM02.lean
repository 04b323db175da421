/- What the law rests on, part 2. No condition but those that each theorem names. -/
import Derived.Test.YthockgmbooefpaaGreatDoorM01
import Derived.Test.YthockgmbooefpaaGreatDoorM00
set_option linter.unusedSectionVars false
set_option linter.unusedSimpArgs false
set_option linter.unusedVariables false
set_option maxRecDepth 100000
set_option maxHeartbeats 2000000
namespace Go.Proofs.YthockgmbooefpaaGreatDoor
open Int renaming sub_add_cancel → qJc
open List renaming mem_cons → qQa, mem_cons_self → qZa, map_cons → qXa, getElem?_eq_some_iff → qJa, mem_cons_of_mem → qQb, mem_map → qZb, cons_append → qXb, nil_append → qJb, pairwise_cons → qZc, foldl_cons → qQd, head?_cons → qZd, length_cons → qXd, not_mem_nil → qJd, flatMap_cons → qQe, getD → qZe, getElem?_append_left → qXe, mem_singleton → qJe, sum_cons → qQf, getElem?_append_right → qZf, getElem?_eq_getElem → qXf, length → qJf, map_congr_left → qQg, map_nil → qZg, mem_append → qXg, append_assoc → qQh, length_append → qZh, length_nil → qXh, mem_of_getLast? → qJh, ne_nil_of_mem → qQi, nodup_cons → qZi, exists_mem_of_ne_nil → qZj, filter_eq_nil_iff → qQk, getLast?_eq_none_iff → qXk, pairwise_singleton → qXl
open Nat renaming le_refl → qQc, le_trans → qXc, sub_self → qJg
variable{n:Int}{arcs:List (Nat × Int × Nat)}{t x:List Nat}{r:List Nat × Int}{bs:List UInt8}{L:List aE}{c d i:Nat}
open Go.RowKit
abbrev Rs:=List (List Nat × Int)
structure bP where
 fin:Bool
 out:Int
 arcs:List (Nat × Int × Nat)
structure iJ where
 rests:List Rs
 states:List bP
def aW:Rs->Int
 | []=>0
 | x :: l=>(x :: l).foldl (λn r=>min n r.2) x.2
def aJ(l:Rs):Rs:=l.map λr=>(r.1,r.2-aW l)
def aG(l:Rs)(c:Nat):Rs:=l.filterMap λr=>match r.1 with
 | []=>none
 | d :: t=>if d=c then some (t,r.2) else none
def eP(out:List Nat)(r:List Nat × Int):List Nat:=match r.1 with
 | []=>out
 | d :: _=>if out.getLast? = some d then out else out++[d]
def aK(l:Rs):List Nat:=l.foldl eP []
def jT(all:List Rs)(l:Rs):Option Nat:=all.findIdx? (λx=>decide (x=l))
def jB(l:Rs):Int:=l.foldl (λo r=>if r.1=[] then r.2 else o) 0
def eI(l:Rs):Bool:=l.any λr=>decide (r.1=[])
def cJ(st:iJ->Rs->iJ × Nat)(R:Rs):iJ->List Nat->iJ × List (Nat × Int × Nat)
 | k,[]=>(k,[])
 | k,c :: cs=>((cJ st R (st k (aG R c)).1 cs).1,(c,aW (aG R c),(st k (aG R c)).2) :: (cJ st R (st k (aG R c)).1 cs).2)
def aY:Nat->iJ->Rs->iJ × Nat
 | 0,k,_=>(k,0)
 | f+1,k,l=>match jT k.rests (aJ l) with
  | some i=>(k,i)
  | none=>(⟨(cJ (aY f) (aJ l) k (aK (aJ l))).1.rests++[aJ l],(cJ (aY f) (aJ l) k (aK (aJ l))).1.states++[⟨eI (aJ l),jB (aJ l),(cJ (aY f) (aJ l) k (aK (aJ l))).2⟩]⟩,(cJ (aY f) (aJ l) k (aK (aJ l))).1.states.length)
theorem Ch(l:Rs):∀ a:Int,(l.foldl (λn r=>min n r.2) a<=a/\∀ r∈l,l.foldl (λn r=>min n r.2) a<=r.2)/\(l.foldl (λn r=>min n r.2) a=a\/∃ r∈l,r.2=l.foldl (λn r=>min n r.2) a):=by
 induction l with
 | nil=>intro a;simp
 | cons x l ih =>
  intro a
  simp only[qQd]
  obtain⟨⟨h1,h2⟩,h3⟩:=ih (min a x.2)
  refine⟨⟨Int.le_trans h1 (Int.min_le_left _ _),?_⟩,?_⟩
  ·intro r hr
   rcases List.mem_cons.1 hr with e | e
   ·subst e;exact Int.le_trans h1 (Int.min_le_right _ _)
   ·exact h2 r e
  ·rcases h3 with e | ⟨r,hr,e⟩
   ·rcases Int.le_total a x.2 with h | h
    ·left;rw[e];exact Int.min_eq_left h
    ·right;exact⟨x,qZa,by rw[e];exact (Int.min_eq_right h).symm⟩
   ·exact .inr ⟨r,qQb _ hr,e⟩
theorem dG{l:Rs}(h:r∈l):aW l<=r.2:=by
 cases l with
 | nil=>cases h
 | cons x l=>exact (Ch (x :: l) x.2).1.2 r h
theorem cL{l:Rs}(h:l≠[]):∃ r∈l,r.2=aW l:=by
 cases l with
 | nil=>exact absurd rfl h
 | cons x l =>
  rcases (Ch (x :: l) x.2).2 with e | h
  ·exact⟨x,qZa,e.symm⟩
  ·exact h
theorem cV{l:Rs}:(x,n)∈aJ l↔(x,n+aW l)∈l:=by
 unfold aJ
 rw[qZb]
 constructor
 ·rintro⟨r,hr,e⟩
  obtain⟨r1,r2⟩:=r
  simp only[Prod.mk.injEq] at e
  obtain⟨rfl,rfl⟩:=e
  rw[qJc]
  exact hr
 ·intro h
  exact⟨_,h,by simp⟩
theorem yS{l:Rs}(h:l≠[]):aJ l≠[]:=by
 unfold aJ
 simpa using h
theorem vB{l:Rs}(h:l≠[]):aW (aJ l)=0:=by
 obtain⟨r,hr,e⟩:=cL (yS h)
 obtain⟨s,hs,e2⟩:=cL h
 have h1:(s.1,(0:Int))∈aJ l:=cV.2 (by rw[Int.zero_add,<-e2];exact hs)
 have h2:=dG h1
 have h3:=dG (cV.1 (show (r.1,r.2)∈aJ l from hr))
 simp only at h2 h3
 omega
theorem Ax{l:Rs}(h:aW l=0):aJ l=l:=by
 unfold aJ
 rw[h]
 conv=>rhs;rw[<-List.map_id l]
 congr 1
 funext r
 simp
theorem bY{l:Rs}:(t,n)∈aG l c↔(c :: t,n)∈l:=by
 unfold aG
 rw[List.mem_filterMap]
 constructor
 ·rintro⟨⟨x,m⟩,hr,e⟩
  cases x with
  | nil=>cases e
  | cons d y =>
   simp only at e
   split at e
   ·rename_i hd
    simp only[Option.some.injEq,Prod.mk.injEq] at e
    obtain⟨rfl,rfl⟩:=e
    subst hd
    exact hr
   ·cases e
 ·intro h
  exact⟨_,h,by simp⟩
def pU:List Nat->List Nat->Bool
 | [],[]=>false
 | [],_ :: _=>true
 | _ :: _,[]=>false
 | a :: x,b :: y=>if a=b then pU x y else decide (a<b)
def Tv(a b:List Nat × Int):Prop:=pU a.1 b.1=true
def bK(l:Rs):Prop:=l.Pairwise Tv
theorem sF(x:List Nat):pU x x=false:=by
 induction x with
 | nil=>rfl
 | cons a x ih=>simp[pU,ih]
theorem tM:∀ x y:List Nat,pU x y=true->pU y x=false
 | [],[],_=>rfl
 | [],_ :: _,_=>rfl
 | _ :: _,[],h=>by cases h
 | a :: x,b :: y,h=>by
  simp only[pU] at h ⊢
  by_cases e:a=b
  ·subst e
   rw[if_pos rfl] at h ⊢
   exact tM x y h
  ·rw[if_neg e] at h
   rw[if_neg (λh=>e h.symm)]
   simp only[decide_eq_true_eq] at h
   simp
   omega
theorem tN{y:List Nat}:pU (c :: x) (c :: y)=pU x y:=by simp[pU]
theorem eN{l:Rs}(h:bK l):bK (aJ l):=by
 unfold bK aJ at *
 rw[List.pairwise_map]
 exact h
theorem dZ{l:Rs}(c:Nat)(h:bK l):bK (aG l c):=by
 unfold bK aG at *
 rw[List.pairwise_filterMap]
 refine h.imp ?_
 rintro⟨x,n⟩ ⟨y,m⟩ hab b hb b' hb'
 cases x with
 | nil=>cases hb
 | cons d x =>
  cases y with
  | nil=>cases hb'
  | cons e y =>
   simp only at hb hb'
   split at hb
   ·split at hb'
    ·rename_i h1 h2
     subst h1 h2
     simp only[Option.some.injEq] at hb hb'
     subst hb hb'
     exact tN.symm.trans hab
    ·cases hb'
   ·cases hb
theorem lD{α:Type}{lt:α->α->Prop}(irr:∀ a,¬ lt a a)(asym:∀ a b,lt a b->¬ lt b a):∀ {l m:List α},l.Pairwise lt->m.Pairwise lt->(∀ x,x∈l↔x∈m)->l=m
 | [],[],_,_,_=>rfl
 | [],y :: m,_,_,h=>absurd ((h y).2 qZa) (qJd)
 | x :: l,[],_,_,h=>absurd ((h x).1 qZa) (qJd)
 | x :: l,y :: m,hl,hm,h=>by
  rw[qZc] at hl hm
  have e:x=y:=by
   refine Classical.byContradiction λhne=>?_
   have h1:x∈m:=by
    rcases List.mem_cons.1 ((h x).1 qZa) with e | e
    ·exact absurd e hne
    ·exact e
   have h2:y∈l:=by
    rcases List.mem_cons.1 ((h y).2 qZa) with e | e
    ·exact absurd e.symm hne
    ·exact e
   exact asym _ _ (hl.1 y h2) (hm.1 x h1)
  subst e
  rw[lD irr asym hl.2 hm.2 λz=>?_]
  constructor
  ·intro hz
   rcases List.mem_cons.1 ((h z).1 (qQb _ hz)) with e | e
   ·subst e;exact absurd (hl.1 _ hz) (irr _)
   ·exact e
  ·intro hz
   rcases List.mem_cons.1 ((h z).2 (qQb _ hz)) with e | e
   ·subst e;exact absurd (hm.1 _ hz) (irr _)
   ·exact e
theorem zX{l m:Rs}(hl:bK l)(hm:bK m)(h:∀ x,x∈l↔x∈m):l=m :=
 lD (λa e=>by unfold Tv at e;rw[sF] at e;cases e) (λa b e f=>by unfold Tv at e f;rw[tM _ _ e] at f;cases f) hl hm h
theorem Jr{l:Rs}(h:bK l){m:Int}(h1:(x,n)∈l)(h2:(x,m)∈l):n=m:=by
 induction l with
 | nil=>cases h1
 | cons y l ih =>
  unfold bK at h
  rw[qZc] at h
  rcases List.mem_cons.1 h1 with e | e<;>rcases List.mem_cons.1 h2 with f | f
  ·rw[<-e] at f;injection f with _ f;exact f.symm
  ·have:=h.1 _ f;rw[<-e] at this;unfold Tv at this;rw[sF] at this;cases this
  ·have:=h.1 _ e;rw[<-f] at this;unfold Tv at this;rw[sF] at this;cases this
  ·exact ih h.2 e f
theorem qD{out:List Nat}:c∈eP out r↔c∈out\/r.1.head? = some c:=by
 unfold eP
 obtain⟨x,n⟩:=r
 cases x with
 | nil=>simp
 | cons d t =>
  simp only[qZd,Option.some.injEq]
  split
  ·rename_i h
   have hd:d∈out:=qJh h
   constructor
   ·exact .inl
   ·rintro (h | h)
    ·exact h
    ·exact h ▸ hd
  ·rw[qXg,qJe]
   exact or_congr_right eq_comm
theorem vT(l:Rs):∀ (out:List Nat) (c:Nat),c∈l.foldl eP out↔c∈out\/∃ r∈l,r.1.head? = some c:=by
 induction l with
 | nil=>intro out c;simp
 | cons x l ih =>
  intro out c
  rw[qQd,ih,qD]
  simp only[qQa,exists_eq_or_imp]
  exact or_assoc
theorem bD{l:Rs}:c∈aK l↔aG l c≠[]:=by
 unfold aK
 rw[vT]
 constructor
 ·rintro (h | ⟨⟨x,n⟩,hr,h⟩)
  ·cases h
  ·cases x with
   | nil=>cases h
   | cons d t =>
    simp only[qZd,Option.some.injEq] at h
    subst h
    exact qQi (bY.2 hr)
 ·intro h
  obtain⟨⟨t,n⟩,ht⟩:=qZj _ h
  exact .inr ⟨_,bY.1 ht,rfl⟩
theorem Rh{y:List Nat}{a b:Nat}(h:pU x y=true)(ha:x.head? = some a)(hb:y.head? = some b):a<=b:=by
 cases x with
 | nil=>cases ha
 | cons c x =>
  cases y with
  | nil=>cases hb
  | cons d y =>
   simp only[qZd,Option.some.injEq] at ha hb
   subst ha hb
   simp only[pU] at h
   split at h
   ·omega
   ·simp only[decide_eq_true_eq] at h;omega
theorem qM{out:List Nat}(ho:out.Pairwise (·<·))(hb:∀ d,r.1.head? = some d->∀ x∈out,x<=d):(eP out r).Pairwise (·<·):=by
 obtain⟨x,n⟩:=r
 cases x with
 | nil=>exact ho
 | cons d t =>
  unfold eP
  simp only
  split
  ·exact ho
  ·rename_i hne
   rw[List.pairwise_append]
   refine⟨ho,qXl _ _,λa ha b hbb=>?_⟩
   rw[qJe] at hbb
   subst hbb
   have h1:=hb b rfl a ha
   rcases Nat.lt_or_ge a b with h | h
   ·exact h
   ·have e:a=b:=by omega
    subst e
    exfalso
    apply hne
    cases hlast:out.getLast? with
    | none=>rw[qXk] at hlast;subst hlast;cases ha
    | some z =>
     have hz:=qJh hlast
     have h2:=hb a rfl z hz
     obtain⟨ini,rfl⟩:=List.getLast?_eq_some_iff.1 hlast
     rw[List.pairwise_append] at ho
     rcases List.mem_append.1 ha with h | h
     ·have:=ho.2.2 a h z (by simp);omega
     ·rw[qJe] at h;rw[h]
theorem qO(l:Rs):∀ out:List Nat,out.Pairwise (·<·)->bK l->(∀ r∈l,∀ d,r.1.head? = some d->∀ x∈out,x<=d)->(l.foldl eP out).Pairwise (·<·):=by
 induction l with
 | nil=>intro out ho _ _;exact ho
 | cons y l ih =>
  intro out ho hs hb
  unfold bK at hs
  rw[qZc] at hs
  rw[qQd]
  refine ih _ (qM ho (hb y qZa)) hs.2 ?_
  intro r hr d hd x hx
  rcases qD.1 hx with h | h
  ·exact hb r (qQb _ hr) d hd x h
  ·exact Rh (hs.1 r hr) h hd
theorem cM{l:Rs}(h:bK l):(aK l).Pairwise (·<·):=qO l [] List.Pairwise.nil h (λ_ _ _ _ x hx=>by cases hx)
theorem eD{l:Rs}:eI l=true↔∃ n,([],n)∈l:=by
 unfold eI
 rw[List.any_eq_true]
 constructor
 ·rintro⟨⟨x,n⟩,hr,e⟩
  simp only[decide_eq_true_eq] at e
  subst e
  exact⟨n,hr⟩
 ·rintro⟨n,h⟩
  exact⟨_,h,by simp⟩
theorem Ci(l:Rs):∀ o:Int,bK l->(∀ n,([],n)∈l->l.foldl (λo r=>if r.1=[] then r.2 else o) o=n)/\((∀ n,([],n) ∉ l)->l.foldl (λo r=>if r.1=[] then r.2 else o) o=o):=by
 induction l with
 | nil=>intro o _;exact⟨λn h=>(by cases h),λ_=>rfl⟩
 | cons y l ih =>
  intro o hs
  have hs2:bK l:=by unfold bK at hs ⊢;exact (List.pairwise_cons.1 hs).2
  obtain⟨x,m⟩:=y
  simp only[qQd]
  by_cases hx:x=[]
  ·subst hx
   rw[if_pos rfl]
   have hno:∀ n,([],n) ∉ l:=by
    intro n hn
    unfold bK at hs
    have:=(List.pairwise_cons.1 hs).1 _ hn
    cases this
   refine⟨λn hn=>?_,λh=>absurd qZa (h m)⟩
   rw[(ih m hs2).2 hno]
   exact Jr hs qZa hn
  ·rw[if_neg hx]
   refine⟨λn hn=>(ih o hs2).1 n ?_,λh=>(ih o hs2).2 λn hn=>h n (qQb _ hn)⟩
   rcases List.mem_cons.1 hn with e | e
   ·injection e with e _;exact absurd e.symm hx
   ·exact e
theorem fX{l:Rs}(h:bK l)(hn:([],n)∈l):jB l=n:=(Ci l 0 h).1 n hn
theorem tR{l:Rs}(h:bK l)(hn:eI l=false):jB l=0:=(Ci l 0 h).2 λn e=>by
 have:=eD.2 ⟨n,e⟩
 rw[hn] at this
 cases this
theorem wJ{l:Rs}(h:bK l):([],n)∈l↔eI l=true/\jB l=n:=by
 constructor
 ·intro hn;exact⟨eD.2 ⟨n,hn⟩,fX h hn⟩
 ·rintro⟨h1,h2⟩
  obtain⟨m,hm⟩:=eD.1 h1
  rw[fX h hm] at h2
  rw[<-h2]
  exact hm
def fF:Rs->Nat
 | []=>0
 | r :: l=>max r.1.length (fF l)
theorem Oa{l:Rs}(h:r∈l):r.1.length<=fF l:=by
 induction l with
 | nil=>cases h
 | cons x l ih =>
  unfold fF
  rcases List.mem_cons.1 h with e | e
  ·subst e;exact Nat.le_max_left _ _
  ·exact qXc (ih e) (Nat.le_max_right _ _)
theorem wH{l:Rs}(hd:0<d)(h:∀ r∈l,r.1.length<d):fF l<d:=by
 induction l with
 | nil=>exact hd
 | cons x l ih =>
  unfold fF
  exact Nat.max_lt.2 ⟨h x qZa,ih λr hr=>h r (qQb _ hr)⟩
theorem eH(l:Rs):fF (aJ l)=fF l:=by
 unfold aJ
 generalize aW l=n
 induction l with
 | nil=>rfl
 | cons x l ih=>simp only[qXa,fF,ih]
theorem eW{l:Rs}(h:aG l c≠[]):fF (aG l c)<fF l:=by
 obtain⟨⟨t,n⟩,ht⟩:=qZj _ h
 have h1:=Oa (bY.1 ht)
 simp only[qXd] at h1
 refine wH (by omega) λr hr=>?_
 have h2:=Oa (bY.1 (show (r.1,r.2)∈aG l c from hr))
 simp only[qXd] at h2
 omega
structure vQ(rests:List Rs)(i:Nat)(R:Rs)(s:bP):Prop where
 sort:bK R
 ne:R≠[]
 least:aW R=0
 fin:s.fin=eI R
 out:s.out=jB R
 labels:s.arcs.map (·.1)=aK R
 arc:∀ a∈s.arcs,a.2.1=aW (aG R a.1)/\a.2.2<i/\rests[a.2.2]? = some (aJ (aG R a.1))
structure jY(k:iJ):Prop where
 len:k.rests.length=k.states.length
 corr:∀ i R s,k.rests[i]? = some R->k.states[i]? = some s->vQ k.rests i R s
 nodup:k.rests.Nodup
def Gc(d:Nat)(k k':iJ):Prop:=∃ a b,k'.rests=k.rests++a/\k'.states=k.states++b/\∀ X∈a,fF X<d
theorem Gc.refl(d:Nat)(k:iJ):Gc d k k:=⟨[],[],by simp,by simp,λX h=>by cases h⟩
theorem Gc.trans{k k' k'':iJ}(h:Gc d k k')(g:Gc d k' k''):Gc d k k'':=by
 obtain⟨a,b,e1,e2,e3⟩:=h
 obtain⟨a',b',f1,f2,f3⟩:=g
 refine⟨a++a',b++b',by rw[f1,e1,qQh],by rw[f2,e2,qQh],λX hX=>?_⟩
 rcases List.mem_append.1 hX with h | h
 ·exact e3 X h
 ·exact f3 X h
theorem Gc.mono{d':Nat}{k k':iJ}(h:Gc d k k')(hd:d<=d'):Gc d' k k':=by
 obtain⟨a,b,e1,e2,e3⟩:=h
 exact⟨a,b,e1,e2,λX hX=>Nat.lt_of_lt_of_le (e3 X hX) hd⟩
theorem Gc.at{k k':iJ}(h:Gc d k k'){R:Rs}(hR:k.rests[i]? = some R):k'.rests[i]? = some R:=by
 obtain⟨a,b,e1,_,_⟩:=h
 rw[e1,qXe (List.getElem?_eq_some_iff.1 hR).1]
 exact hR
theorem vQ.ext{rests a:List Rs}{R:Rs}{s:bP}(h:vQ rests i R s):vQ (rests++a) i R s :=
 ⟨h.sort,h.ne,h.least,h.fin,h.out,h.labels,λx hx=>⟨(h.arc x hx).1,(h.arc x hx).2.1,by
  have:=(h.arc x hx).2.2
  rw[qXe (List.getElem?_eq_some_iff.1 this).1]
  exact this⟩⟩
theorem pC{all:List Rs}{l:Rs}(h:jT all l=some i):all[i]? = some l:=by
 unfold jT at h
 obtain⟨hi,h1,_⟩:=List.findIdx?_eq_some_iff_getElem.1 h
 rw[qJa]
 exact⟨hi,of_decide_eq_true h1⟩
theorem tJ{all:List Rs}{l:Rs}(h:jT all l=none):l ∉ all:=by
 unfold jT at h
 rw[List.findIdx?_eq_none_iff] at h
 intro hl
 have:=h l hl
 simp at this
def aDa(st:iJ->Rs->iJ × Nat)(f:Nat):Prop:=∀ k l,jY k->bK l->l≠[]->fF l<f->jY (st k l).1/\Gc (fF l+1) k (st k l).1/\(st k l).1.rests[(st k l).2]? = some (aJ l)
theorem nG{st:iJ->Rs->iJ × Nat}{f:Nat}(hst:aDa st f){R:Rs}(hR:bK R)(hd:fF R<=f):∀ (cs:List Nat) (k:iJ),jY k->(∀ c∈cs,aG R c≠[]) ->
  jY (cJ st R k cs).1/\Gc (fF R) k (cJ st R k cs).1/\(cJ st R k cs).2.map (·.1)=cs /\
  ∀ a∈(cJ st R k cs).2,a.2.1=aW (aG R a.1)/\(cJ st R k cs).1.rests[a.2.2]? = some (aJ (aG R a.1))
 | [],k,hk,_=>⟨hk,Gc.refl _ _,rfl,λa h=>by cases h⟩
 | c :: cs,k,hk,hc=>by
  have hu:=hc c qZa
  have hdu:=eW hu
  obtain⟨g1,g2,g3⟩:=hst k (aG R c) hk (dZ c hR) hu (by omega)
  obtain⟨h1,h2,h3,h4⟩:=nG hst hR hd cs (st k (aG R c)).1 g1 (λx hx=>hc x (qQb _ hx))
  refine⟨h1,(g2.mono (by omega)).trans h2,by simp only[cJ,qXa,h3],λa ha=>?_⟩
  simp only[cJ] at ha
  rcases List.mem_cons.1 ha with e | e
  ·subst e
   exact⟨rfl,h2.at g3⟩
  ·exact h4 a e
theorem Wn{k k1:iJ}{R:Rs}(hk:R ∉ k.rests)(hR:bK R)(hne:R≠[])(hl:aW R=0)(h1:jY k1)(h2:Gc (fF R) k k1)(h3:arcs.map (·.1)=aK R)
  (h4:∀ a∈arcs,a.2.1=aW (aG R a.1)/\k1.rests[a.2.2]? = some (aJ (aG R a.1))) :
  jY ⟨k1.rests++[R],k1.states++[⟨eI R,jB R,arcs⟩]⟩:=by
 refine⟨by simp[h1.len],?_,?_⟩
 ·intro i S s hS hs
  simp only at hS hs
  by_cases hi:i<k1.rests.length
  ·rw[qXe hi] at hS
   rw[qXe (by rw[<-h1.len];exact hi)] at hs
   exact (h1.corr i S s hS hs).ext
  ·have hi2:i=k1.rests.length:=by
    have:=(List.getElem?_eq_some_iff.1 hS).1
    rw[qZh] at this
    simp at this
    omega
   subst hi2
   rw[qZf (qQc _),qJg] at hS
   rw[h1.len,qZf (qQc _),qJg] at hs
   simp only[List.getElem?_cons_zero,Option.some.injEq] at hS hs
   subst hS hs
   refine⟨hR,hne,hl,rfl,rfl,h3,λa ha=>⟨(h4 a ha).1,(List.getElem?_eq_some_iff.1 (h4 a ha).2).1,?_⟩⟩
   rw[qXe (List.getElem?_eq_some_iff.1 (h4 a ha).2).1]
   exact (h4 a ha).2
 ·rw[List.nodup_append]
  refine⟨h1.nodup,by simp,?_⟩
  intro a ha b hb
  rw[qJe] at hb
  subst hb
  rintro rfl
  obtain⟨x,y,e1,_,e3⟩:=h2
  rw[e1] at ha
  rcases List.mem_append.1 ha with h | h
  ·exact hk h
  ·exact absurd (e3 _ h) (Nat.lt_irrefl _)
theorem iD:∀ f,aDa (aY f) f
 | 0=>λk l _ _ _ h=>absurd h (Nat.not_lt_zero _)
 | f+1=>λk l hk hs hne hd=>by
  have hR:=eN hs
  have hRn:=yS hne
  have hRl:=vB hne
  have hRd:=eH l
  simp only[aY]
  cases hi:jT k.rests (aJ l) with
  | some i=>exact⟨hk,Gc.refl _ _,pC hi⟩
  | none =>
   obtain⟨h1,h2,h3,h4⟩:=nG (iD f) hR (by omega) (aK (aJ l)) k hk (λc hc=>bD.1 hc)
   refine⟨Wn (tJ hi) hR hRn hRl h1 h2 h3 h4,?_,?_⟩
   ·rw[<-hRd]
    refine (h2.mono (Nat.le_succ _)).trans ⟨[aJ l],[_],rfl,rfl,λX hX=>?_⟩
    rw[qJe] at hX
    subst hX
    exact Nat.lt_succ_self _
   ·simp only
    rw[<-h1.len,qZf (qQc _),qJg]
    rfl
theorem nR{R:Rs}:(t,n)∈aJ (aG R c)↔(c :: t,n+aW (aG R c))∈R:=by rw[cV,bY]
theorem vQ.mem_cons{rests:List Rs}{R:Rs}{s:bP}(h:vQ rests i R s) :
  (c :: t,n)∈R↔∃ a∈s.arcs,a.1=c/\∃ X,rests[a.2.2]? = some X/\(t,n-a.2.1)∈X:=by
 constructor
 ·intro hm
  have hc:c∈aK R:=bD.2 (qQi (bY.2 hm))
  rw[<-h.labels] at hc
  obtain⟨a,ha,rfl⟩:=List.mem_map.1 hc
  refine⟨a,ha,rfl,_,(h.arc a ha).2.2,?_⟩
  rw[nR,(h.arc a ha).1,qJc]
  exact hm
 ·rintro⟨a,ha,rfl,X,hX,hm⟩
  rw[(h.arc a ha).2.2] at hX
  injection hX with hX
  subst hX
  rw[nR,(h.arc a ha).1,qJc] at hm
  exact hm
theorem jY.unalike{k:iJ}(h:jY k){j:Nat}{s:bP}(hi:k.states[i]? = some s)(hj:k.states[j]? = some s):i=j:=by
 have li:i<k.rests.length:=by rw[h.len];exact (List.getElem?_eq_some_iff.1 hi).1
 have lj:j<k.rests.length:=by rw[h.len];exact (List.getElem?_eq_some_iff.1 hj).1
 have ri:k.rests[i]? = some k.rests[i]:=qXf li
 have rj:k.rests[j]? = some k.rests[j]:=qXf lj
 have ci:=h.corr i _ _ ri hi
 have cj:=h.corr j _ _ rj hj
 have e:k.rests[i]=k.rests[j]:=zX ci.sort cj.sort λx=>by
  obtain⟨x,n⟩:=x
  cases x with
  | nil=>rw[wJ ci.sort,wJ cj.sort,<-ci.fin,<-ci.out,<-cj.fin,<-cj.out]
  | cons c t=>rw[ci.mem_cons,cj.mem_cons]
 exact (List.getElem_inj h.nodup).1 e
def fP:Rs->Nat
 | []=>0
 | r :: l=>r.1.length+fP l
def Bi(c:Nat):Rs->Nat
 | []=>0
 | r :: l=>(if r.1.head? = some c then r.1.length else 0)+Bi c l
theorem rE(l:Rs)(c:Nat):fP (aG l c)+(aG l c).length=Bi c l:=by
 induction l with
 | nil=>rfl
 | cons r l ih =>
  obtain⟨x,n⟩:=r
  cases x with
  | nil=>simpa [aG,Bi] using ih
  | cons d t =>
   by_cases h:d=c
   ·subst h
    have e:aG ((d :: t,n) :: l) d=(t,n) :: aG l d:=by simp[aG]
    rw[e]
    simp only[fP,Bi,qZd,qXd,if_pos]
    omega
   ·have e:aG ((d :: t,n) :: l) c=aG l c:=by simp[aG,h]
    rw[e]
    simp only[Bi,qZd,Option.some.injEq,if_neg h]
    omega
theorem sQ(cs:List Nat):(cs.map λ_=>0).sum=0:=by
 induction cs with
 | nil=>rfl
 | cons c cs ih=>simp only[qXa,qQf,ih]
theorem Pb(f g:Nat->Nat)(cs:List Nat):(cs.map λc=>f c+g c).sum=(cs.map f).sum+(cs.map g).sum:=by
 induction cs with
 | nil=>rfl
 | cons c cs ih=>simp only[qXa,qQf,ih];omega
theorem sR(l:Rs):∀ cs:List Nat,cs.Nodup->(cs.map λc=>Bi c l).sum<=fP l:=by
 induction l with
 | nil=>intro cs _;simp only[Bi,fP];rw[sQ];exact qQc _
 | cons r l ih =>
  intro cs hcs
  have h1:=ih cs hcs
  have h2:∀ cs:List Nat,cs.Nodup->(cs.map λc=>if r.1.head? = some c then r.1.length else 0).sum<=r.1.length:=by
   intro cs
   induction cs with
   | nil=>simp
   | cons c cs ih2 =>
    intro hn
    rw[qZi] at hn
    simp only[qXa,qQf]
    by_cases hc:r.1.head? = some c
    ·rw[if_pos hc]
     have e:(cs.map λc=>if r.1.head? = some c then r.1.length else 0)=cs.map λ_=>0:=by
      refine qQg λd hd=>if_neg λe=>?_
      rw[hc] at e
      injection e with e
      subst e
      exact hn.1 hd
     rw[e,sQ]
     exact qQc _
    ·rw[if_neg hc,Nat.zero_add]
     exact ih2 hn.2
  have h3:=h2 cs hcs
  have h4:(cs.map λc=>Bi c (r :: l)).sum=(cs.map λc=>if r.1.head? = some c then r.1.length else 0).sum+(cs.map λc=>Bi c l).sum:=Pb _ _ cs
  rw[h4]
  simp only[fP]
  omega
theorem rF(l:Rs):fP (aJ l)=fP l:=by
 unfold aJ
 generalize aW l=n
 induction l with
 | nil=>rfl
 | cons x l ih=>simp only[qXa,fP,ih]
def aCl(st:iJ->Rs->iJ × Nat):Prop:=∀ k l,bK l->(st k l).1.states.length<=k.states.length+fP l+1
theorem rI{st:iJ->Rs->iJ × Nat}(hst:aCl st){R:Rs}(hR:bK R):∀ (cs:List Nat) (k:iJ),(∀ c∈cs,aG R c≠[])->(cJ st R k cs).1.states.length<=k.states.length+(cs.map λc=>Bi c R).sum
 | [],k,_=>by simp[cJ]
 | c :: cs,k,hc=>by
  have h1:=hst k (aG R c) (dZ c hR)
  have h2:=rI hst hR cs (st k (aG R c)).1 (λx hx=>hc x (qQb _ hx))
  have h3:=rE R c
  have h4:0<(aG R c).length:=List.length_pos_iff.2 (hc c qZa)
  simp only[cJ,qXa,qQf]
  omega
theorem nP:∀ f,aCl (aY f)
 | 0=>λk l _=>by simp only[aY];omega
 | f+1=>λk l hs=>by
  simp only[aY]
  cases hi:jT k.rests (aJ l) with
  | some i=>simp only;omega
  | none =>
   simp only[qZh,qXd,qXh]
   have h1:=rI (nP f) (eN hs) (aK (aJ l)) k (λc hc=>bD.1 hc)
   have h2:=sR (aJ l) (aK (aJ l)) ((cM (eN hs)).imp λh=>Nat.ne_of_lt h)
   rw[rF] at h2
   omega
def gQ(N m:Nat):List Bool:=(List.range N).map λj=>decide (j<m)
theorem pM{N m j:Nat}(h:j<N):(gQ N m).getD j false=decide (j<m):=by simp[gQ,qZe,h]
theorem Do{N m:Nat}(_:m<N):(gQ N m).set m true=gQ N (m+1):=by
 apply List.ext_getElem
 ·simp[gQ]
 ·intro i h1 h2
  simp only[gQ,List.length_set,List.length_map,List.length_range] at h1
  rw[List.getElem_set]
  simp only[gQ,List.getElem_map,List.getElem_range]
  by_cases e:m=i
  ·subst e;simp
  ·rw[if_neg e]
   simp only[decide_eq_decide]
   omega
theorem zW(N:Nat):gQ N 0=List.replicate N false:=by
 apply List.ext_getElem
 ·simp[gQ]
 ·intro i h1 h2
  simp[gQ]
def aS:bP:=⟨false,0,[]⟩
def dJ(v:Nat->List Bool->Nat->Bool × List Bool × Nat):List (Nat × Int × Nat)->List Bool->Nat->Bool × List Bool × Nat
 | [],s,n=>(true,s,n)
 | a :: l,s,n=>if s.getD a.2.2 false=true then dJ v l s n else match v a.2.2 s n with
  | (true,s',n')=>dJ v l s' n'
  | (false,s',n')=>(false,s',n')
def fC(sts:List bP):Nat->Nat->List Bool->Nat->Bool × List Bool × Nat
 | 0,_,s,n=>(false,s,n)
 | f+1,i,s,n=>match dJ (fC sts f) (sts.getD i aS).arcs s n with
  | (true,s',n')=>(decide (n'+1=i+1),s'.set i true,n'+1)
  | (false,s',n')=>(false,s',n')
def aCm(sts:List bP)(st:iJ->Rs->iJ × Nat)(f:Nat):Prop:=∀ k l,jY k->bK l->l≠[]->fF l<f->(st k l).1.states <+: sts ->
 ((st k l).1=k/\(st k l).2<k.states.length)\/(k.states.length<=(st k l).2/\(st k l).2+1=(st k l).1.states.length /\
   ∀ F,f<=F->fC sts F (st k l).2 (gQ sts.length k.states.length) k.states.length=(true,gQ sts.length (st k l).1.states.length,(st k l).1.states.length))
theorem Gc.pre{k k':iJ}(h:Gc d k k'):k.states <+: k'.states:=by
 obtain⟨_,b,_,e,_⟩:=h
 exact⟨b,e.symm⟩
theorem Gp{sts:List bP}{st:iJ->Rs->iJ × Nat}{f:Nat}(hv:aCm sts st f)(hok:aDa st f){R:Rs}(hR:bK R)(hd:fF R<=f):∀ (cs:List Nat) (k:iJ),jY k->(∀ c∈cs,aG R c≠[]) ->
  (cJ st R k cs).1.states <+: sts->∀ F,f<=F->dJ (fC sts F) (cJ st R k cs).2 (gQ sts.length k.states.length) k.states.length=(true,gQ sts.length (cJ st R k cs).1.states.length,(cJ st R k cs).1.states.length)
 | [],k,_,_,_,F,_=>rfl
 | c :: cs,k,hk,hc,hp,F,hF=>by
  have hu:=hc c qZa
  have hdu:=eW hu
  obtain⟨g1,g2,_⟩:=hok k (aG R c) hk (dZ c hR) hu (by omega)
  obtain⟨_,h2,_,_⟩:=nG hok hR hd cs (st k (aG R c)).1 g1 (λx hx=>hc x (qQb _ hx))
  have hpq:(st k (aG R c)).1.states <+: sts:=h2.pre.trans hp
  have ih:=Gp hv hok hR hd cs (st k (aG R c)).1 g1 (λx hx=>hc x (qQb _ hx)) hp F hF
  have hkl:k.states.length<=sts.length:=(g2.pre.trans hpq).length_le
  simp only[cJ,dJ]
  rcases hv k (aG R c) hk (dZ c hR) hu (by omega) hpq with⟨e1,e2⟩ | ⟨e1,e2,e3⟩
  ·rw[pM (by omega),if_pos (by simpa using e2)]
   rw[e1] at ih ⊢
   exact ih
  ·have hql:(st k (aG R c)).1.states.length<=sts.length:=hpq.length_le
   rw[pM (by omega),if_neg (by simpa using e1),e3 F hF]
   exact ih
theorem Ae(sts:List bP):∀ f,aCm sts (aY f) f
 | 0=>λk l _ _ _ h _=>absurd h (Nat.not_lt_zero _)
 | f+1=>λk l hk hs hne hd=>by
  have hR:=eN hs
  have hRd:=eH l
  simp only[aY]
  cases hi:jT k.rests (aJ l) with
  | some i =>
   intro _
   left
   refine⟨rfl,?_⟩
   have:=(List.getElem?_eq_some_iff.1 (pC hi)).1
   rw[hk.len] at this
   exact this
  | none =>
   intro hp
   right
   obtain⟨h1,h2,_,_⟩:=nG (iD f) hR (by omega) (aK (aJ l)) k hk (λc hc=>bD.1 hc)
   simp only at hp ⊢
   have hpp:=h2.pre
   have hps:(cJ (aY f) (aJ l) k (aK (aJ l))).1.states <+: sts:=(List.prefix_append _ _).trans hp
   refine⟨hpp.length_le,by simp,λF hF=>?_⟩
   obtain⟨F,rfl⟩:∃ F',F=F'+1:=⟨F-1,by omega⟩
   have hv:=Gp (Ae sts f) (iD f) hR (by omega) (aK (aJ l)) k hk (λc hc=>bD.1 hc) hps F (by omega)
   have hlen:(cJ (aY f) (aJ l) k (aK (aJ l))).1.states.length<sts.length:=by
    have:=hp.length_le
    rw[qZh] at this
    simp at this
    omega
   have hst:sts.getD (cJ (aY f) (aJ l) k (aK (aJ l))).1.states.length aS=⟨eI (aJ l),jB (aJ l),(cJ (aY f) (aJ l) k (aK (aJ l))).2⟩:=by
    obtain⟨t,ht⟩:=hp
    rw[<-ht,List.getD_eq_getElem?_getD,qQh,qZf (qQc _),qJg]
    rfl
   simp only[fC]
   rw[hst]
   simp only
   rw[hv]
   simp only
   rw[Do hlen]
   simp
theorem Gz(l:Rs):∀ cs:List Nat,cs.Nodup->(∀ r∈l,∀ c,r.1.head? = some c->c∈cs)->l.length=(l.filter λr=>decide (r.1=[])).length+(cs.map λc=>(aG l c).length).sum:=by
 induction l with
 | nil=>intro cs _ _;simp only[aG,List.filterMap_nil,qXh];rw[sQ];rfl
 | cons r l ih =>
  intro cs hcs hh
  have h1:=ih cs hcs λx hx=>hh x (qQb _ hx)
  obtain⟨x,n⟩:=r
  cases x with
  | nil =>
   have e:(cs.map λc=>(aG (([],n) :: l) c).length)=cs.map λc=>(aG l c).length:=by
    refine qQg λc _=>?_
    simp[aG]
   rw[e]
   simp only[List.filter_cons,decide_true,if_true,qXd]
   omega
  | cons d t =>
   have hd:=hh _ qZa d rfl
   have h2:∀ cs:List Nat,cs.Nodup->d∈cs->(cs.map λc=>if c=d then 1 else 0).sum=1:=by
    intro cs
    induction cs with
    | nil=>intro _ h;cases h
    | cons c cs ih2 =>
     intro hn hm
     rw[qZi] at hn
     simp only[qXa,qQf]
     by_cases hc:c=d
     ·subst hc
      rw[if_pos rfl]
      have e:(cs.map λx=>if x=c then 1 else 0)=cs.map λ_=>0:=qQg λx hx=>if_neg λ(e:x=c)=>hn.1 (by rw[<-e];exact hx)
      rw[e,sQ]
     ·rw[if_neg hc,Nat.zero_add]
      rcases List.mem_cons.1 hm with e | e
      ·exact absurd e.symm hc
      ·exact ih2 hn.2 e
   have e:(cs.map λc=>(aG ((d :: t,n) :: l) c).length)=cs.map λc=>(if c=d then 1 else 0)+(aG l c).length:=by
    refine qQg λc _=>?_
    by_cases hc:c=d
    ·subst hc;simp[aG];omega
    ·have hc2:¬ d=c:=λe=>hc e.symm
     simp[aG,hc,hc2]
   rw[e,Pb (λc=>if c=d then 1 else 0) (λc=>(aG l c).length) cs,h2 cs hcs hd]
   simp only[List.filter_cons,qXd]
   simp only[reduceCtorEq,decide_false,Bool.false_eq_true,if_false]
   omega
theorem Ro{l:Rs}(h:bK l):(l.filter λr=>decide (r.1=[])).length=if eI l=true then 1 else 0:=by
 induction l with
 | nil=>rfl
 | cons r l ih =>
  have hs2:bK l:=by unfold bK at h ⊢;exact (List.pairwise_cons.1 h).2
  obtain⟨x,n⟩:=r
  cases x with
  | nil =>
   have hno:l.filter (λr=>decide (r.1=[]))=[]:=by
    rw[qQk]
    intro r hr
    unfold bK at h
    have:=(List.pairwise_cons.1 h).1 r hr
    obtain⟨y,m⟩:=r
    cases y with
    | nil=>cases this
    | cons _ _=>simp
   have hf:eI (([],n) :: l)=true:=eD.2 ⟨n,qZa⟩
   rw[hf]
   simp[hno]
  | cons d t =>
   have hf:eI ((d :: t,n) :: l)=eI l:=by simp[eI]
   rw[hf,<-ih hs2]
   simp
theorem Km{l:Rs}(h:bK l):l.length=(if eI l=true then 1 else 0)+((aK l).map λc=>(aG l c).length).sum:=by
 rw[<-Ro h]
 refine Gz l (aK l) ((cM h).imp λh=>Nat.ne_of_lt h) λr hr c hc=>?_
 rw[bD]
 obtain⟨x,n⟩:=r
 cases x with
 | nil=>cases hc
 | cons d t =>
  simp only[qZd,Option.some.injEq] at hc
  subst hc
  exact qQi (bY.2 hr)
theorem Nj{r n:Nat}(h:fB bs=(r,n))(hn:n≠0):dS r=true/\aM r=bs.take n:=by
 have hex:∃ m,1<=m/\m<=4/\m<=bs.length/\Hit m bs:=Classical.byContradiction λhno=>by
  have:=Eb (bs:=bs) λm h1 h4 hl hh=>hno ⟨m,h1,h4,hl,hh⟩
  rw[this] at h
  injection h with _ h
  exact hn h.symm
 obtain⟨m,h1,h4,hl,hh⟩:=hex
 have e:=sU h1 h4 hl hh
 rw[h] at e
 injection e with e1 e2
 subst e1 e2
 exact hh
theorem cK(n:Nat):∀ (bs:List UInt8) (x:List Nat),bs.length<=n->cQ bs=some x->bs=x.flatMap aM/\∀ r∈x,dS r=true:=by
 induction n with
 | zero =>
  intro bs x hl h
  have:bs=[]:=List.eq_nil_of_length_eq_zero (by omega)
  subst this
  rw[jE] at h
  injection h with h
  subst h
  exact⟨rfl,λr hr=>by cases hr⟩
 | succ n ih =>
  intro bs x hl h
  by_cases hz:bs=[]
  ·subst hz
   rw[jE] at h
   injection h with h
   subst h
   exact⟨rfl,λr hr=>by cases hr⟩
  ·have hp:0<bs.length:=List.length_pos_iff.2 hz
   rw[jM hp] at h
   by_cases h0:(fB bs).2=0
   ·rw[if_pos h0] at h;cases h
   ·rw[if_neg h0] at h
    obtain⟨y,hy,rfl⟩:=Option.map_eq_some_iff.1 h
    obtain⟨e1,e2⟩:=Nj (bs:=bs) (r:=(fB bs).1) (n:=(fB bs).2) rfl h0
    obtain⟨e3,e4⟩:=ih (bs.drop (fB bs).2) y (by rw[List.length_drop];omega) hy
    refine⟨?_,?_⟩
    ·rw[qQe,e2,<-e3,List.take_append_drop]
    ·intro r hr
     rcases List.mem_cons.1 hr with e | e
     ·rw[e];exact e1
     ·exact e4 r e
theorem Mu{a b:List UInt8}(ha:cQ a=some x)(hb:cQ b=some x):a=b :=
 (cK _ a x (qQc _) ha).1.trans (cK _ b x (qQc _) hb).1.symm
theorem gL{p q:Nat}(hp:p<256)(hq:q<256)(x y:List UInt8):Op.bytesLess (UInt8.ofNat p :: x) (UInt8.ofNat q :: y)=if p=q then Op.bytesLess x y else decide (p<q):=by
 have hP:(UInt8.ofNat p).toNat=p:=by rw[UInt8.toNat_ofNat'];omega
 have hQ:(UInt8.ofNat q).toNat=q:=by rw[UInt8.toNat_ofNat'];omega
 by_cases e:p=q
 ·subst e
  rw[if_pos rfl]
  simp[Op.bytesLess,UInt8.lt_irrefl]
 ·rw[if_neg e]
  have hne:UInt8.ofNat p≠UInt8.ofNat q:=λh=>e (by rw[<-hP,<-hQ,h])
  have hlt:(UInt8.ofNat p<UInt8.ofNat q)↔p<q:=by rw[UInt8.lt_iff_toNat_lt,hP,hQ]
  simp[Op.bytesLess,hne,hlt]
theorem Zo(p x y:List UInt8):Op.bytesLess (p++x) (p++y)=Op.bytesLess x y:=by
 induction p with
 | nil=>rfl
 | cons a p ih=>simp[Op.bytesLess,UInt8.lt_irrefl,ih]
theorem Ap{a b:Nat}(h:a<b)(hb:b<1114112)(s t:List UInt8):Op.bytesLess (aM a++s) (aM b++t)=true:=by
 unfold aM
 by_cases a1:a<128
 ·rw[if_pos a1]
  by_cases b1:b<128
  ·rw[if_pos b1]
   simp only[qXb,qJb]
   rw[gL (by omega) (by omega),if_neg (by omega)]
   exact decide_eq_true h
  ·rw[if_neg b1]
   by_cases b2:b<2048
   ·rw[if_pos b2];simp only[qXb,qJb];rw[gL (by omega) (by omega),if_neg (by omega)];exact decide_eq_true (by omega)
   ·rw[if_neg b2]
    by_cases b3:b<65536
    ·rw[if_pos b3];simp only[qXb,qJb];rw[gL (by omega) (by omega),if_neg (by omega)];exact decide_eq_true (by omega)
    ·rw[if_neg b3];simp only[qXb,qJb];rw[gL (by omega) (by omega),if_neg (by omega)];exact decide_eq_true (by omega)
 ·rw[if_neg a1,if_neg (show ¬ b<128 by omega)]
  by_cases a2:a<2048
  ·rw[if_pos a2]
   by_cases b2:b<2048
   ·rw[if_pos b2]
    simp only[qXb,qJb]
    rw[gL (by omega) (by omega)]
    by_cases e1:192+a / 64=192+b / 64
    ·rw[if_pos e1,gL (by omega) (by omega),if_neg (by omega)];exact decide_eq_true (by omega)
    ·rw[if_neg e1];exact decide_eq_true (by omega)
   ·rw[if_neg b2]
    by_cases b3:b<65536
    ·rw[if_pos b3];simp only[qXb,qJb];rw[gL (by omega) (by omega),if_neg (by omega)];exact decide_eq_true (by omega)
    ·rw[if_neg b3];simp only[qXb,qJb];rw[gL (by omega) (by omega),if_neg (by omega)];exact decide_eq_true (by omega)
  ·rw[if_neg a2,if_neg (show ¬ b<2048 by omega)]
   by_cases a3:a<65536
   ·rw[if_pos a3]
    by_cases b3:b<65536
    ·rw[if_pos b3]
     simp only[qXb,qJb]
     rw[gL (by omega) (by omega)]
     by_cases e1:224+a / 4096=224+b / 4096
     ·rw[if_pos e1,gL (by omega) (by omega)]
      by_cases e2:128+a / 64 % 64=128+b / 64 % 64
      ·rw[if_pos e2,gL (by omega) (by omega),if_neg (by omega)];exact decide_eq_true (by omega)
      ·rw[if_neg e2];exact decide_eq_true (by omega)
     ·rw[if_neg e1];exact decide_eq_true (by omega)
    ·rw[if_neg b3];simp only[qXb,qJb];rw[gL (by omega) (by omega),if_neg (by omega)];exact decide_eq_true (by omega)
   ·rw[if_neg a3,if_neg (show ¬ b<65536 by omega)]
    simp only[qXb,qJb]
    rw[gL (by omega) (by omega)]
    by_cases e1:240+a / 262144=240+b / 262144
    ·rw[if_pos e1,gL (by omega) (by omega)]
     by_cases e2:128+a / 4096 % 64=128+b / 4096 % 64
     ·rw[if_pos e2,gL (by omega) (by omega)]
      by_cases e3:128+a / 64 % 64=128+b / 64 % 64
      ·rw[if_pos e3,gL (by omega) (by omega),if_neg (by omega)];exact decide_eq_true (by omega)
      ·rw[if_neg e3];exact decide_eq_true (by omega)
     ·rw[if_neg e2];exact decide_eq_true (by omega)
    ·rw[if_neg e1];exact decide_eq_true (by omega)
theorem Eh(r:Nat):∃ b t,aM r=b :: t:=by
 unfold aM
 split
 ·exact⟨_,_,rfl⟩
 ·split
  ·exact⟨_,_,rfl⟩
  ·split<;>exact⟨_,_,rfl⟩
theorem Zn{x y:List UInt8}(h:Op.bytesLess x y=true):Op.bytesLess y x=false:=by
 refine Bool.eq_false_iff.2 λe=>?_
 have:=oD _ _ _ h e
 rw[mO] at this
 cases this
theorem kR:∀ (x y:List Nat),(∀ r∈x,r<1114112)->(∀ r∈y,r<1114112)->Op.bytesLess (x.flatMap aM) (y.flatMap aM)=pU x y
 | [],[],_,_=>rfl
 | [],b :: y,_,_=>by
  obtain⟨c,t,e⟩:=Eh b
  rw[qQe,e]
  rfl
 | a :: x,[],_,_=>by
  obtain⟨c,t,e⟩:=Eh a
  rw[qQe,e]
  rfl
 | a :: x,b :: y,hx,hy=>by
  rw[qQe,qQe]
  simp only[pU]
  by_cases e:a=b
  ·subst e
   rw[if_pos rfl,Zo]
   exact kR x y (λr hr=>hx r (qQb _ hr)) (λr hr=>hy r (qQb _ hr))
  ·rw[if_neg e]
   rcases Nat.lt_or_gt_of_ne e with h | h
   ·rw[Ap h (hy b qZa)];exact (decide_eq_true h).symm
   ·rw[Zn (Ap h (hx a qZa) _ _)];exact (decide_eq_false (by omega)).symm
def dM(p:aE):List Nat:=(cQ p.word.toList).getD []
def aT(L:List aE):Rs:=L.map λp=>(dM p,p.weight)
theorem lG(h:cD bs=true):∃ x,cQ bs=some x/\x.all iY=true/\0<x.length/\x.length<=24:=by
 unfold cD at h
 cases hr:cQ bs with
 | none=>rw[hr] at h;simp at h
 | some x =>
  rw[hr] at h
  simp only[Bool.and_eq_true,decide_eq_true_eq] at h
  exact⟨x,rfl,h.2.1,h.2.2.1,h.2.2.2⟩
structure cA(L:List aE):Prop where
 len:L.length<=4096
 word:∀ p∈L,cQ p.word.toList=some (dM p)/\(dM p).all iY=true/\0<(dM p).length/\(dM p).length<=24
 weight:∀ p∈L,1<=p.weight/\p.weight<=1048576
 sort:bK (aT L)
theorem qF{α:Type}{R:α->α->Prop}(tr:∀ a b c,R a b->R b c->R a c):∀ l:List α,(∀ i a b,l[i]? = some a->l[i+1]? = some b->R a b)->l.Pairwise R
 | [],_=>List.Pairwise.nil
 | [x],_=>qXl _ _
 | x :: y :: l,h=>by
  have ih:=qF tr (y :: l) λi a b ha hb=>h (i+1) a b ha hb
  rw[qZc]
  refine⟨λz hz=>?_,ih⟩
  have h0:=h 0 x y rfl rfl
  rcases List.mem_cons.1 hz with e | e
  ·rw[e];exact h0
  ·exact tr _ _ _ h0 ((List.pairwise_cons.1 ih).1 z e)
theorem jG(h:eK L=true):cA L:=by
 unfold eK at h
 simp only[Bool.and_eq_true,decide_eq_true_eq,List.all_eq_true,List.mem_range] at h
 have hfit:∀ i (hi:i<L.length),1<=L[i].weight/\L[i].weight<=1048576/\cD L[i].word.toList=true/\(i=0\/Op.bytesLess (L.getD (i-1) aE.zero).word.toList L[i].word.toList=true):=by
  intro i hi
  have:=h.2 i hi
  rw[rU] at this
  have e:L.getD i aE.zero=L[i]:=by simp[qZe,hi]
  rw[e] at this
  simp only[Bool.and_eq_true,Bool.or_eq_true,decide_eq_true_eq] at this
  exact⟨this.1.1,this.1.2,this.2.1,this.2.2⟩
 have hw:∀ p∈L,cQ p.word.toList=some (dM p)/\(dM p).all iY=true/\0<(dM p).length/\(dM p).length<=24:=by
  intro p hp
  obtain⟨i,hi,rfl⟩:=List.getElem_of_mem hp
  obtain⟨x,h1,h2,h3,h4⟩:=lG (hfit i hi).2.2.1
  have e:dM L[i]=x:=by unfold dM;rw[h1];rfl
  rw[e]
  exact⟨h1,h2,h3,h4⟩
 refine⟨h.1,hw,?_,?_⟩
 ·intro p hp
  obtain⟨i,hi,rfl⟩:=List.getElem_of_mem hp
  exact⟨(hfit i hi).1,(hfit i hi).2.1⟩
 ·unfold bK aT
  rw[List.pairwise_map]
  have hp:L.Pairwise (λa b=>iN a b=true):=qF (R:=λa b=>iN a b=true) (λa b c h k=>Da h k) L λi a b ha hb=>by
   obtain⟨hi,rfl⟩:=List.getElem?_eq_some_iff.1 ha
   obtain⟨hj,rfl⟩:=List.getElem?_eq_some_iff.1 hb
   have:=(hfit (i+1) hj).2.2.2
   rw[Nat.add_sub_cancel] at this
   have e:L.getD i aE.zero=L[i]:=by simp[qZe,hi]
   rw[e] at this
   rcases this with h | h
   ·omega
   ·exact h
  refine List.Pairwise.imp_of_mem ?_ hp
  intro a b ha hb hab
  obtain⟨a1,a2⟩:=cK _ _ _ (qQc _) (hw a ha).1
  obtain⟨b1,b2⟩:=cK _ _ _ (qQc _) (hw b hb).1
  unfold iN at hab
  rw[a1,b1,kR _ _ (λr hr=>cU (a2 r hr)) (λr hr=>cU (b2 r hr))] at hab
  exact hab
structure aFf where
 base:Int
 states:List bP
def bB(L:List aE):aFf:=if L=[] then ⟨0,[]⟩ else ⟨aW (aT L),(aY 25 ⟨[],[]⟩ (aT L)).1.states⟩
theorem oP(h:L≠[]):aT L≠[]:=by unfold aT;simpa using h
theorem rY:jY ⟨[],[]⟩:=⟨rfl,λi R s h=>by simp at h,by simp⟩
theorem mP(h:cA L):fF (aT L)<25:=by
 refine wH (by omega) λr hr=>?_
 obtain⟨p,hp,rfl⟩:=List.mem_map.1 hr
 have:=(h.word p hp).2.2.2
 simp only
 omega
structure aGv(L:List aE)(k:iJ):Prop where
 good:jY k
 root:k.rests[k.states.length-1]? = some (aJ (aT L))
 pos:0<k.states.length
 few:k.states.length<=fP (aT L)+1
 vis:∀ F,25<=F->fC k.states F (k.states.length-1) (List.replicate k.states.length false) 0=(true,gQ k.states.length k.states.length,k.states.length)
theorem aAw(h:cA L)(hne:L≠[]):aGv L (aY 25 ⟨[],[]⟩ (aT L)).1:=by
 obtain⟨h1,_,h3⟩:=iD 25 ⟨[],[]⟩ (aT L) rY h.sort (oP hne) (mP h)
 have h4:=nP 25 ⟨[],[]⟩ (aT L) h.sort
 have h5:=Ae (aY 25 ⟨[],[]⟩ (aT L)).1.states 25 ⟨[],[]⟩ (aT L) rY h.sort (oP hne) (mP h) (List.prefix_refl _)
 rcases h5 with⟨_,e⟩ | ⟨_,e2,e3⟩
 ·simp at e
 ·have e:(aY 25 ⟨[],[]⟩ (aT L)).1.states.length-1=(aY 25 ⟨[],[]⟩ (aT L)).2:=by omega
  refine⟨h1,by rw[e];exact h3,by omega,by simpa using h4,λF hF=>?_⟩
  rw[e]
  have:=e3 F hF
  rw[qXh,zW] at this
  exact this
def fO(d:Int)(l:Rs):Rs:=l.map λr=>(r.1,r.2-d)
theorem gZ(l:Rs):aJ l=fO (aW l) l:=rfl
theorem Cu{d:Int}{l:Rs}:(x,n)∈fO d l↔(x,n+d)∈l:=by
 unfold fO
 rw[qZb]
 constructor
 ·rintro⟨⟨r1,r2⟩,hr,e⟩
  simp only[Prod.mk.injEq] at e
  obtain⟨rfl,rfl⟩:=e
  rw[qJc]
  exact hr
 ·intro h
  exact⟨_,h,by simp⟩
theorem iF(d:Int)(l:Rs)(c:Nat):aG (fO d l) c=fO d (aG l c):=by
 unfold aG fO
 rw[List.filterMap_map,List.map_filterMap]
 congr 1
 funext r
 obtain⟨x,n⟩:=r
 cases x with
 | nil=>rfl
 | cons e t =>
  simp only[Function.comp]
  split<;>rfl
theorem lR(d:Int){l:Rs}(h:l≠[]):aW (fO d l)=aW l-d:=by
 have hne:fO d l≠[]:=by unfold fO;simpa using h
 obtain⟨⟨x,n⟩,hr,e⟩:=cL hne
 obtain⟨⟨y,m⟩,hs,e2⟩:=cL h
 have h1:=dG (Cu.1 hr)
 have h2:=dG (Cu.2 (show (y,m-d+d)∈l by rw[qJc];exact hs))
 simp only at e e2 h1 h2
 omega
theorem kS(d:Int)(l:Rs):aJ (fO d l)=aJ l:=by
 by_cases h:l=[]
 ·subst h;rfl
 ·unfold aJ
  rw[lR d h]
  unfold fO
  rw[List.map_map]
  congr 1
  funext r
  simp only[Function.comp,Prod.mk.injEq,true_and]
  omega
def iW(arcs:List (Nat × Int × Nat))(r:Nat)(p:Int × Int):Int × Int:=arcs.foldl (λp a=>if a.1=r then ((a.2.2:Int),p.2+a.2.1) else p) p
def fD(sts:List bP):List Nat->Int->Int->Option (Int × Int)
 | [],at_,sum=>some (at_,sum)
 | r :: x,at_,sum=>if at_<0 then none else fD sts x (iW (sts.getD at_.toNat aS).arcs r (-1,sum)).1 (iW (sts.getD at_.toNat aS).arcs r (-1,sum)).2
def Er(sts:List bP):Option (Int × Int)->Int × Bool
 | none=>(0,false)
 | some (at_,sum)=>if at_<0 then (0,false) else if (sts.getD at_.toNat aS).fin=true then (sum+(sts.getD at_.toNat aS).out,true) else (0,false)
theorem rC{r:Nat}{p:Int × Int}(h:r ∉ arcs.map (·.1)):iW arcs r p=p:=by
 unfold iW
 induction arcs generalizing p with
 | nil=>rfl
 | cons a l ih =>
  simp only[qXa,qQa,not_or] at h
  rw[qQd,if_neg (λe=>h.1 e.symm)]
  exact ih h.2
theorem Af{r:Nat}{p:Int × Int}(hn:(arcs.map (·.1)).Nodup){a:Nat × Int × Nat}(ha:a∈arcs)(hr:a.1=r):iW arcs r p=((a.2.2:Int),p.2+a.2.1):=by
 unfold iW
 induction arcs generalizing p with
 | nil=>cases ha
 | cons b l ih =>
  rw[qXa,qZi] at hn
  rw[qQd]
  rcases List.mem_cons.1 ha with e | e
  ·subst e
   rw[if_pos hr]
   exact rC (arcs:=l) (by rw[<-hr];exact hn.1)
  ·have hb:¬ b.1=r:=λh=>hn.1 (by rw[h,<-hr];exact List.mem_map.2 ⟨a,e,rfl⟩)
   rw[if_neg hb]
   exact ih hn.2 e
theorem yI(sts:List bP)(x:List Nat){at_ sum:Int}(h:at_<0):Er sts (fD sts x at_ sum)=(0,false):=by
 cases x with
 | nil=>simp[fD,Er,h]
 | cons r x=>simp[fD,Er,h]
theorem Vi{k:iJ}(hk:jY k):∀ (x:List Nat) (X:Rs) (i:Nat),X≠[]->bK X->k.rests[i]? = some (aJ X) ->
  (∀ w,(x,w)∈X->Er k.states (fD k.states x i (aW X))=(w,true))/\((∀ w,(x,w) ∉ X)->Er k.states (fD k.states x i (aW X))=(0,false))
 | [],X,i,hX,hs,hi=>by
  have hlt:i<k.states.length:=by rw[<-hk.len];exact (List.getElem?_eq_some_iff.1 hi).1
  have hst:k.states[i]? = some k.states[i]:=qXf hlt
  have hc:=hk.corr i _ _ hi hst
  have hg:k.states.getD ((i:Nat):Int).toNat aS=k.states[i]:=by simp[qZe,hlt]
  simp only[fD,Er]
  rw[if_neg (show ¬ ((i:Nat):Int)<0 by omega),hg,hc.fin,hc.out]
  refine⟨λw hw=>?_,λhno=>?_⟩
  ·have hm:([],w-aW X)∈aJ X:=cV.2 (by rw[qJc];exact hw)
   obtain⟨h1,h2⟩:=(wJ hc.sort).1 hm
   rw[if_pos h1,h2]
   simp only[Prod.mk.injEq,and_true]
   omega
  ·rw[if_neg λh1=>?_]
   obtain⟨n,hn⟩:=eD.1 h1
   exact hno _ (cV.1 hn)
 | c :: x,X,i,hX,hs,hi=>by
  have hlt:i<k.states.length:=by rw[<-hk.len];exact (List.getElem?_eq_some_iff.1 hi).1
  have hst:k.states[i]? = some k.states[i]:=qXf hlt
  have hc:=hk.corr i _ _ hi hst
  have hg:k.states.getD ((i:Nat):Int).toNat aS=k.states[i]:=by simp[qZe,hlt]
  simp only[fD]
  rw[if_neg (show ¬ ((i:Nat):Int)<0 by omega),hg]
  have hlab:=hc.labels
  have hnd:(k.states[i].arcs.map (·.1)).Nodup:=by rw[hlab];exact (cM hc.sort).imp λh=>Nat.ne_of_lt h
  by_cases hu:aG X c=[]
  ·have hno:c ∉ k.states[i].arcs.map (·.1):=by
    rw[hlab,bD,gZ,iF,hu]
    exact λh=>h rfl
   rw[rC hno]
   refine⟨λw hw=>?_,λ_=>yI _ _ (show (-1:Int)<0 by omega)⟩
   have:=bY.2 hw
   rw[hu] at this
   cases this
  ·have hin:c∈k.states[i].arcs.map (·.1):=by
    rw[hlab,bD,gZ,iF]
    unfold fO
    simpa using hu
   obtain⟨a,ha,hac⟩:=List.mem_map.1 hin
   rw[Af hnd ha hac]
   have harc:=hc.arc a ha
   rw[hac,gZ,iF,lR _ hu,kS] at harc
   have e:aW X+a.2.1=aW (aG X c):=by rw[harc.1];omega
   simp only
   rw[e]
   obtain⟨i1,i2⟩:=Vi hk x (aG X c) a.2.2 hu (dZ c hs) harc.2.2
   exact⟨λw hw=>i1 w (bY.2 hw),λhno=>i2 λw hw=>hno w (bY.1 hw)⟩
theorem Cp(h:cA L){p:aE}(hp:p∈L):bZ p.word.toList L=(p.weight,true):=by
 have hin:p∈key p.word.toList L:=by simp[key,hp]
 have hall:∀ q∈key p.word.toList L,q=p:=by
  intro q hq
  simp only[key,List.mem_filter,decide_eq_true_eq] at hq
  have e:dM q=dM p:=by unfold dM;rw[hq.2]
  have h1:(dM q,q.weight)∈aT L:=List.mem_map.2 ⟨q,hq.1,rfl⟩
  have h2:(dM p,p.weight)∈aT L:=List.mem_map.2 ⟨p,hp,rfl⟩
  rw[e] at h1
  have hw:=Jr h.sort h1 h2
  obtain⟨qw,qn⟩:=q
  obtain⟨pw,pn⟩:=p
  simp only at hq hw
  rw[hw,rD hq.2]
 unfold bZ
 cases hl:(key p.word.toList L).getLast? with
 | none=>rw[qXk] at hl;rw[hl] at hin;cases hin
 | some q=>rw[hall q (qJh hl)]
theorem Hr(h:∀ p∈L,p.word.toList≠bs):bZ bs L=(0,false):=by
 have:key bs L=[]:=by
  unfold key
  rw[qQk]
  intro p hp
  simpa using h p hp
 unfold bZ
 rw[this]
 rfl
theorem tP(h:cA L)(hne:L≠[])(bs:List UInt8)(x:List Nat)(hx:cQ bs=some x) :
  Er (bB L).states (fD (bB L).states x ((bB L).states.length-1:Nat) (bB L).base)=bZ bs L:=by
 have hm:=aAw h hne
 have hmach:bB L=⟨aW (aT L),(aY 25 ⟨[],[]⟩ (aT L)).1.states⟩:=by unfold bB;rw[if_neg hne]
 rw[hmach]
 simp only
 obtain⟨f1,f2⟩:=Vi hm.good x (aT L) _ (oP hne) h.sort hm.root
 by_cases hex:∃ p∈L,p.word.toList=bs
 ·obtain⟨p,hp,rfl⟩:=hex
  have hxp:dM p=x:=by unfold dM;rw[hx];rfl
  rw[Cp h hp]
  exact f1 p.weight (List.mem_map.2 ⟨p,hp,by rw[hxp]⟩)
 ·have hno:∀ p∈L,p.word.toList≠bs:=λp hp e=>hex ⟨p,hp,e⟩
  rw[Hr hno]
  refine f2 λw hw=>?_
  obtain⟨p,hp,e⟩:=List.mem_map.1 hw
  injection e with e1 _
  have h1:=(h.word p hp).1
  rw[e1] at h1
  exact hno p hp (Mu h1 hx)
theorem fW:(Tryz.prog.info? 5).map (λi=>(i.zero,i.size,i.bytes))=some (some (.int .u8 0),1,1):=by kernel_rfl
def aP(b:UInt8):Value:=.int .u8 (b.toNat:Int)
theorem lZ(O:List UInt8):∀ u∈O.map aP,u.oneCell'=true:=by
 intro u hu
 obtain⟨_,_,rfl⟩:=List.mem_map.1 hu
 rfl
theorem Bt(r:Nat)(h:r<2147483648):bits .and .i32 (r:Int) 63=((r % 64:Nat):Int):=vX 6 (by decide) r h
theorem aEa(c:Nat)(h:c<16):bits .or .i32 224 (c:Int)=224+(c:Int) :=
 bits_join .i32 31 (by decide) (λn h0 h1=>IntWalk.i32_in _ (by omega)) 5 (224:Int) (c:Int) (by omega) (by omega) (by omega) (by omega) (by omega) (by omega)
theorem aEb(c:Nat)(h:c<8):bits .or .i32 240 (c:Int)=240+(c:Int) :=
 bits_join .i32 31 (by decide) (λn h0 h1=>IntWalk.i32_in _ (by omega)) 4 (240:Int) (c:Int) (by omega) (by omega) (by omega) (by omega) (by omega) (by omega)
theorem gF{n x:Nat}(h:n+x<256):aP (UInt8.ofNat (n+x))=.int .u8 ((n:Int)+(x:Int)):=jH h
theorem Yx(w:World)(v:Value)(q:Nat)(xs:List Value)(hv:w.ownsRow 0 5 1 v q xs)(hL:dN w)(hq:q<=1099511627776)(r:Nat)(h1:r<128) :
  Calls Tryz.prog 148 #[v,.int .i32 r] w λe w'=>∃ v',e=.returned v'/\w'.ownsRow 0 5 1 v' (q+(aM r).length) (xs++(aM r).map aP)/\w.grownBy w' v.ownBlock/\bJ w v v':=by
 obtain⟨ti,hi,hz0,hz1,hz2⟩:=aO fW
 obtain⟨l0,l2,l3,l4⟩:=hL
 have h0:(0:Int)<=(r:Int):=by omega
 have hwr:(aM r).map aP=[.int .u8 (r:Int)]:=by
  unfold aM;rw[if_pos h1]
  simp only[qXa,qZg,show aP (UInt8.ofNat r)=.int .u8 (r:Int) from by unfold aP;rw[UInt8.toNat_ofNat',Nat.mod_eq_of_lt (by omega)]]
  try rfl
 have hwl:(aM r).length=1:=by have:=congrArg qJf hwr;simpa using this
 have e0:(r:Int) % 256=(r:Int):=by omega
 have i0:(r:Int)<128:=by omega
 rw[hwl,hwr]
 have HV:=aB hv
 have hrd:∀ w:World,aI (w.alloc (.cells #[.int .u8 (r:Int)] 5)) 1 (some ⟨w.heap.size,0,none⟩) 1 [.int .u8 (r:Int)]:=λw=>aI.new (size:=1) _ _ [.int .u8 (r:Int)] 1 (by simp)
 have hone:∀ u∈([.int .u8 (r:Int)]:List Value),u.oneCell'=true:=by
  intro u hu
  simp only[qQa,qJd,or_false] at hu
  rcases hu with rfl
  all_goals rfl
 have hb1:q+1<=maxLen:=by unfold maxLen;omega
 have hb2:(q+1)*1<=140737488355328:=by omega
 clear hwr hwl hv h1
 go_in
 go_wp2_with (at_builtin;refine aR _ rfl (.tmp 10) (.tmp 13) 50 rfl 5 ti _ 1 1 Tryz.underlying50 hi hz0 hz1 hz2 rfl (by decide) v q _ rfl (aD HV ((aC.refl _ _).alloc _) (λ_ _ f=>f)) (some ⟨_,0,none⟩) 1 1 [.int .u8 (r:Int)] rfl (hrd _) (λh=>by cases h) hone hb1 hb2 ?_)
 intro v4 w4 hown hgrow hfr _
 have hg1:w.grownBy w4 v.ownBlock:=⟨hgrow.os,hgrow.tape,hgrow.output,qXc (by simp) hgrow.size,λk hk hne=>(hgrow.block k (by simp;omega) hne).trans (Below.heap_alloc w _ k hk)⟩
 have hf1:bJ w v v4:=by
  rcases hfr with e | ⟨g,e,hg⟩
  ·exact Or.inl e
  ·exact Or.inr ⟨g,e,qXc (by simp) hg⟩
 have HE:=aB (And.intro hown (And.intro hg1 hf1))
 clear hown hgrow hfr hg1 hf1
 go_wp2_with fail
 first
  | (go_ret;exact⟨v4,rfl,HE.1,HE.2.1,HE.2.2⟩)
  | exact bodyPost_ret (v:=v4) (by simp[results,Tryz.results148,go_sem]) rfl ⟨v4,rfl,HE.1,HE.2.1,HE.2.2⟩
theorem Yy(w:World)(v:Value)(q:Nat)(xs:List Value)(hv:w.ownsRow 0 5 1 v q xs)(hL:dN w)(hq:q<=1099511627776)(r:Nat)(h1:128<=r)(h2:r<2048) :
  Calls Tryz.prog 148 #[v,.int .i32 r] w λe w'=>∃ v',e=.returned v'/\w'.ownsRow 0 5 1 v' (q+(aM r).length) (xs++(aM r).map aP)/\w.grownBy w' v.ownBlock/\bJ w v v':=by
 obtain⟨ti,hi,hz0,hz1,hz2⟩:=aO fW
 obtain⟨l0,l2,l3,l4⟩:=hL
 have h0:(0:Int)<=(r:Int):=by omega
 obtain⟨l,hl⟩:∃ l,r % 64=l:=⟨_,rfl⟩
 obtain⟨a,ha⟩:∃ a,r / 64=a:=⟨_,rfl⟩
 have hwr:(aM r).map aP=[.int .u8 ((192:Int)+(a:Int)),.int .u8 ((128:Int)+(l:Int))]:=by
  unfold aM;rw[if_neg (by omega),if_pos h2,hl,ha]
  simp only[qXa,qZg,gF (n:=192) (x:=a) (by omega),gF (n:=128) (x:=l) (by omega)]
  try rfl
 have hwl:(aM r).length=2:=by have:=congrArg qJf hwr;simpa using this
 have f1:=Bt r (by omega)
 rw[hl] at f1
 have e2:(r:Int) / 64=(a:Int):=by omega
 have b1:l<64:=by omega
 have b2:a<32:=by omega
 have i0:¬ (r:Int)<128:=by omega
 have i1:(r:Int)<2048:=by omega
 rw[hwl,hwr]
 have HV:=aB hv
 have hrd:∀ w:World,aI (w.alloc (.cells #[.int .u8 ((192:Int)+(a:Int)),.int .u8 ((128:Int)+(l:Int))] 5)) 1 (some ⟨w.heap.size,0,none⟩) 2 [.int .u8 ((192:Int)+(a:Int)),.int .u8 ((128:Int)+(l:Int))]:=λw=>aI.new (size:=1) _ _ [.int .u8 ((192:Int)+(a:Int)),.int .u8 ((128:Int)+(l:Int))] 2 (by simp)
 have hone:∀ u∈([.int .u8 ((192:Int)+(a:Int)),.int .u8 ((128:Int)+(l:Int))]:List Value),u.oneCell'=true:=by
  intro u hu
  simp only[qQa,qJd,or_false] at hu
  rcases hu with rfl | rfl
  all_goals rfl
 have hb1:q+2<=maxLen:=by unfold maxLen;omega
 have hb2:(q+2)*1<=140737488355328:=by omega
 clear hwr hwl hv h1 hl ha
 go_in
 go_wp2_with (at_builtin;refine aR _ rfl (.tmp 20) (.tmp 29) 50 rfl 5 ti _ 1 1 Tryz.underlying50 hi hz0 hz1 hz2 rfl (by decide) v q _ rfl (aD HV ((aC.refl _ _).alloc _) (λ_ _ f=>f)) (some ⟨_,0,none⟩) 2 2 [.int .u8 ((192:Int)+(a:Int)),.int .u8 ((128:Int)+(l:Int))] rfl (hrd _) (λh=>by cases h) hone hb1 hb2 ?_)
 intro v4 w4 hown hgrow hfr _
 have hg1:w.grownBy w4 v.ownBlock:=⟨hgrow.os,hgrow.tape,hgrow.output,qXc (by simp) hgrow.size,λk hk hne=>(hgrow.block k (by simp;omega) hne).trans (Below.heap_alloc w _ k hk)⟩
 have hf1:bJ w v v4:=by
  rcases hfr with e | ⟨g,e,hg⟩
  ·exact Or.inl e
  ·exact Or.inr ⟨g,e,qXc (by simp) hg⟩
 have HE:=aB (And.intro hown (And.intro hg1 hf1))
 clear hown hgrow hfr hg1 hf1
 go_wp2_with fail
 first
  | (go_ret;exact⟨v4,rfl,HE.1,HE.2.1,HE.2.2⟩)
  | exact bodyPost_ret (v:=v4) (by simp[results,Tryz.results148,go_sem]) rfl ⟨v4,rfl,HE.1,HE.2.1,HE.2.2⟩
theorem Nr(w:World)(v:Value)(q:Nat)(xs:List Value)(hv:w.ownsRow 0 5 1 v q xs)(hL:dN w)(hq:q<=1099511627776)(r:Nat)(h1:2048<=r)(h2:(r:Int)<65536) :
  Calls Tryz.prog 148 #[v,.int .i32 r] w λe w'=>∃ v',e=.returned v'/\w'.ownsRow 0 5 1 v' (q+(aM r).length) (xs++(aM r).map aP)/\w.grownBy w' v.ownBlock/\bJ w v v':=by
 obtain⟨ti,hi,hz0,hz1,hz2⟩:=aO fW
 obtain⟨l0,l2,l3,l4⟩:=hL
 have h0:(0:Int)<=(r:Int):=by omega
 obtain⟨l,hl⟩:∃ l,r % 64=l:=⟨_,rfl⟩
 obtain⟨a,ha⟩:∃ a,r / 64=a:=⟨_,rfl⟩
 obtain⟨m,hm⟩:∃ m,a % 64=m:=⟨_,rfl⟩
 obtain⟨c,hc⟩:∃ c,r / 4096=c:=⟨_,rfl⟩
 have hwr:(aM r).map aP=[.int .u8 ((224:Int)+(c:Int)),.int .u8 ((128:Int)+(m:Int)),.int .u8 ((128:Int)+(l:Int))]:=by
  unfold aM;rw[if_neg (by omega),if_neg (by omega),if_pos (by omega),hl,ha,hm,hc]
  simp only[qXa,qZg,gF (n:=224) (x:=c) (by omega),gF (n:=128) (x:=m) (by omega),gF (n:=128) (x:=l) (by omega)]
  try rfl
 have hwl:(aM r).length=3:=by have:=congrArg qJf hwr;simpa using this
 have f1:=Bt r (by omega)
 rw[hl] at f1
 have f2:=Bt a (by omega)
 rw[hm] at f2
 have e2:(r:Int) / 64=(a:Int):=by omega
 have e3:(r:Int) / 4096=(c:Int):=by omega
 have b1:l<64:=by omega
 have b2:m<64:=by omega
 have b3:c<16:=by omega
 have b4:(a:Int)<2048:=by omega
 have g1:=aEa c b3
 have g2:((224:Int)+(c:Int)) % 256=224+(c:Int):=by omega
 have i0:¬ (r:Int)<128:=by omega
 have i1:¬ (r:Int)<2048:=by omega
 rw[hwl,hwr]
 have HV:=aB hv
 have hrd:∀ w:World,aI (w.alloc (.cells #[.int .u8 ((224:Int)+(c:Int)),.int .u8 ((128:Int)+(m:Int)),.int .u8 ((128:Int)+(l:Int))] 5)) 1 (some ⟨w.heap.size,0,none⟩) 3 [.int .u8 ((224:Int)+(c:Int)),.int .u8 ((128:Int)+(m:Int)),.int .u8 ((128:Int)+(l:Int))]:=λw=>aI.new (size:=1) _ _ [.int .u8 ((224:Int)+(c:Int)),.int .u8 ((128:Int)+(m:Int)),.int .u8 ((128:Int)+(l:Int))] 3 (by simp)
 have hone:∀ u∈([.int .u8 ((224:Int)+(c:Int)),.int .u8 ((128:Int)+(m:Int)),.int .u8 ((128:Int)+(l:Int))]:List Value),u.oneCell'=true:=by
  intro u hu
  simp only[qQa,qJd,or_false] at hu
  rcases hu with rfl | rfl | rfl
  all_goals rfl
 have hb1:q+3<=maxLen:=by unfold maxLen;omega
 have hb2:(q+3)*1<=140737488355328:=by omega
 clear hwr hwl hv h1 hl ha hm hc
 go_in
 go_wp2_with (at_builtin;refine aR _ rfl (.tmp 36) (.tmp 50) 50 rfl 5 ti _ 1 1 Tryz.underlying50 hi hz0 hz1 hz2 rfl (by decide) v q _ rfl (aD HV ((aC.refl _ _).alloc _) (λ_ _ f=>f)) (some ⟨_,0,none⟩) 3 3 [.int .u8 ((224:Int)+(c:Int)),.int .u8 ((128:Int)+(m:Int)),.int .u8 ((128:Int)+(l:Int))] rfl (hrd _) (λh=>by cases h) hone hb1 hb2 ?_)
 intro v4 w4 hown hgrow hfr _
 have hg1:w.grownBy w4 v.ownBlock:=⟨hgrow.os,hgrow.tape,hgrow.output,qXc (by simp) hgrow.size,λk hk hne=>(hgrow.block k (by simp;omega) hne).trans (Below.heap_alloc w _ k hk)⟩
 have hf1:bJ w v v4:=by
  rcases hfr with e | ⟨g,e,hg⟩
  ·exact Or.inl e
  ·exact Or.inr ⟨g,e,qXc (by simp) hg⟩
 have HE:=aB (And.intro hown (And.intro hg1 hf1))
 clear hown hgrow hfr hg1 hf1
 go_wp2_with fail
 first
  | (go_ret;exact⟨v4,rfl,HE.1,HE.2.1,HE.2.2⟩)
  | exact bodyPost_ret (v:=v4) (by simp[results,Tryz.results148,go_sem]) rfl ⟨v4,rfl,HE.1,HE.2.1,HE.2.2⟩
theorem To(w:World)(v:Value)(q:Nat)(xs:List Value)(hv:w.ownsRow 0 5 1 v q xs)(hL:dN w)(hq:q<=1099511627776)(r:Nat)(h1:(65536:Int)<=(r:Int))(h2:(r:Int)<1114112) :
  Calls Tryz.prog 148 #[v,.int .i32 r] w λe w'=>∃ v',e=.returned v'/\w'.ownsRow 0 5 1 v' (q+(aM r).length) (xs++(aM r).map aP)/\w.grownBy w' v.ownBlock/\bJ w v v':=by
 obtain⟨ti,hi,hz0,hz1,hz2⟩:=aO fW
 obtain⟨l0,l2,l3,l4⟩:=hL
 have h0:(0:Int)<=(r:Int):=by omega
 obtain⟨l,hl⟩:∃ l,r % 64=l:=⟨_,rfl⟩
 obtain⟨a,ha⟩:∃ a,r / 64=a:=⟨_,rfl⟩
 obtain⟨m,hm⟩:∃ m,a % 64=m:=⟨_,rfl⟩
 obtain⟨c,hc⟩:∃ c,r / 4096=c:=⟨_,rfl⟩
 obtain⟨d,hd⟩:∃ d,c % 64=d:=⟨_,rfl⟩
 obtain⟨f,hf⟩:∃ f,r / 262144=f:=⟨_,rfl⟩
 have hwr:(aM r).map aP=[.int .u8 ((240:Int)+(f:Int)),.int .u8 ((128:Int)+(d:Int)),.int .u8 ((128:Int)+(m:Int)),.int .u8 ((128:Int)+(l:Int))]:=by
  unfold aM;rw[if_neg (by omega),if_neg (by omega),if_neg (by omega),hl,ha,hm,hc,hd,hf]
  simp only[qXa,qZg,gF (n:=240) (x:=f) (by omega),gF (n:=128) (x:=d) (by omega),gF (n:=128) (x:=m) (by omega),gF (n:=128) (x:=l) (by omega)]
  try rfl
 have hwl:(aM r).length=4:=by have:=congrArg qJf hwr;simpa using this
 have f1:=Bt r (by omega)
 rw[hl] at f1
 have f2:=Bt a (by omega)
 rw[hm] at f2
 have f3:=Bt c (by omega)
 rw[hd] at f3
 have e2:(r:Int) / 64=(a:Int):=by omega
 have e3:(r:Int) / 4096=(c:Int):=by omega
 have e4:(r:Int) / 262144=(f:Int):=by omega
 have b1:l<64:=by omega
 have b2:m<64:=by omega
 have b3:d<64:=by omega
 have b4:f<8:=by omega
 have b5:(a:Int)<20000:=by omega
 have b6:(c:Int)<300:=by omega
 have g1:=aEb f b4
 have g2:((240:Int)+(f:Int)) % 256=240+(f:Int):=by omega
 have i0:¬ (r:Int)<128:=by omega
 have i1:¬ (r:Int)<2048:=by omega
 have i2:¬ (r:Int)<65536:=by omega
 rw[hwl,hwr]
 have HV:=aB hv
 have hrd:∀ w:World,aI (w.alloc (.cells #[.int .u8 ((240:Int)+(f:Int)),.int .u8 ((128:Int)+(d:Int)),.int .u8 ((128:Int)+(m:Int)),.int .u8 ((128:Int)+(l:Int))] 5)) 1 (some ⟨w.heap.size,0,none⟩) 4 [.int .u8 ((240:Int)+(f:Int)),.int .u8 ((128:Int)+(d:Int)),.int .u8 ((128:Int)+(m:Int)),.int .u8 ((128:Int)+(l:Int))]:=λw=>aI.new (size:=1) _ _ [.int .u8 ((240:Int)+(f:Int)),.int .u8 ((128:Int)+(d:Int)),.int .u8 ((128:Int)+(m:Int)),.int .u8 ((128:Int)+(l:Int))] 4 (by simp)
 have hone:∀ u∈([.int .u8 ((240:Int)+(f:Int)),.int .u8 ((128:Int)+(d:Int)),.int .u8 ((128:Int)+(m:Int)),.int .u8 ((128:Int)+(l:Int))]:List Value),u.oneCell'=true:=by
  intro u hu
  simp only[qQa,qJd,or_false] at hu
  rcases hu with rfl | rfl | rfl | rfl
  all_goals rfl
 have hb1:q+4<=maxLen:=by unfold maxLen;omega
 have hb2:(q+4)*1<=140737488355328:=by omega
 clear hwr hwl hv h1 hl ha hm hc hd hf
 go_in
 go_wp2_with (at_builtin;refine aR _ rfl (.tmp 52) (.tmp 71) 50 rfl 5 ti _ 1 1 Tryz.underlying50 hi hz0 hz1 hz2 rfl (by decide) v q _ rfl (aD HV ((aC.refl _ _).alloc _) (λ_ _ f=>f)) (some ⟨_,0,none⟩) 4 4 [.int .u8 ((240:Int)+(f:Int)),.int .u8 ((128:Int)+(d:Int)),.int .u8 ((128:Int)+(m:Int)),.int .u8 ((128:Int)+(l:Int))] rfl (hrd _) (λh=>by cases h) hone hb1 hb2 ?_)
 intro v4 w4 hown hgrow hfr _
 have hg1:w.grownBy w4 v.ownBlock:=⟨hgrow.os,hgrow.tape,hgrow.output,qXc (by simp) hgrow.size,λk hk hne=>(hgrow.block k (by simp;omega) hne).trans (Below.heap_alloc w _ k hk)⟩
 have hf1:bJ w v v4:=by
  rcases hfr with e | ⟨g,e,hg⟩
  ·exact Or.inl e
  ·exact Or.inr ⟨g,e,qXc (by simp) hg⟩
 have HE:=aB (And.intro hown (And.intro hg1 hf1))
 clear hown hgrow hfr hg1 hf1
 go_wp2_with fail
 first
  | (go_ret;exact⟨v4,rfl,HE.1,HE.2.1,HE.2.2⟩)
  | exact bodyPost_ret (v:=v4) (by simp[results,Tryz.results148,go_sem]) rfl ⟨v4,rfl,HE.1,HE.2.1,HE.2.2⟩
theorem Yw(w:World)(v:Value)(q:Nat)(xs:List Value)(hv:w.ownsRow 0 5 1 v q xs)(hL:dN w)(hq:q<=1099511627776)(r:Nat)(hr:r<1114112) :
  Calls Tryz.prog 148 #[v,.int .i32 r] w λe w'=>∃ v',e=.returned v'/\w'.ownsRow 0 5 1 v' (q+(aM r).length) (xs++(aM r).map aP)/\w.grownBy w' v.ownBlock/\bJ w v v':=by
 by_cases h1:r<128
 ·exact Yx w v q xs hv hL hq r h1
 ·by_cases h2:r<2048
  ·exact Yy w v q xs hv hL hq r (by omega) h2
  ·by_cases h3:(r:Int)<65536
   ·exact Nr w v q xs hv hL hq r (by omega) h3
   ·exact To w v q xs hv hL hq r (by omega) (by omega)
end Go.Proofs.YthockgmbooefpaaGreatDoor
