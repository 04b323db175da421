/- What the law rests on, part 4. No condition but those that each theorem names. -/
import Derived.Test.YthockgmbooefpaaGreatDoorV03
import Derived.Test.YthockgmbooefpaaGreatDoorV02
import Derived.Deep.RegionLaw
import Derived.RegionTactic
import Derived.ChangeAlike
import Derived.BigQuiet
import Derived.Laws.BitsLemmas
import Derived.Deep.QuietTactic
import Derived.Laws.EntriesVeiled
import Derived.WideKeyArr
import Derived.WideKeyEntry
set_option linter.unusedSectionVars false
set_option linter.unusedSimpArgs false
set_option linter.unusedVariables false
set_option maxRecDepth 100000
set_option maxHeartbeats 4000000
namespace Go.Proofs.YthockgmbooefpaaGreatDoor
open IntWalk renaming i64_in → qQa
open List renaming getD → qXa, mem_map → qJa, length_cons → qQb, mem_cons_of_mem → qZb, mem_cons_self → qXb, replicate → qJb, take_of_length_le → qQc, length_nil → qJc, foldl_cons → qQd, mem_singleton → qZd, foldl_append → qXd, getD_eq_getElem?_getD → qJd, getElem?_append_right → qQe, getElem?_eq_getElem → qZf, take_succ_eq_append_getElem → qJg
open Nat renaming le_refl → qZa, add_assoc → qZc, le_trans → qXc
variable{es:Array MapEntry}{L:List aD}{B b clock i m n r:Nat}{A:Option Addr}{R:Rs}{w w':World}{z:cU}
open Go.RowKit
theorem tO(hr:r<1114112):dD (aN r).length (aN r)=r:=by
 unfold aN
 split
 ·simp only[dD,qQb,qJc,UInt8.toNat_ofNat']
  omega
 ·split
  ·simp only[dD,qQb,qJc,UInt8.toNat_ofNat']
   omega
  ·split
   ·simp only[dD,qQb,qJc,UInt8.toNat_ofNat']
    omega
   ·simp only[dD,qQb,qJc,UInt8.toNat_ofNat']
    omega
theorem Nu(hs:scal r=true):bZ (aN r)=some [r]:=by
 have hl:=oV r
 have hit:fT (aN r)=(r,(aN r).length):=by
  have:=vR (n:=(aN r).length) (bs:=aN r) hl.1 hl.2 (qZa _) ⟨by rw[tO (fD hs)];exact hs,by rw[tO (fD hs),List.take_length]⟩
  rw[tO (fD hs)] at this
  exact this
 rw[kT hl.1,hit]
 simp only
 rw[if_neg (by omega),List.drop_length,kN]
 rfl
theorem tW(hs:scal r=true)(hf:lU r=true):cF (aN r)=true:=by
 have hl:=oV r
 unfold cF
 rw[Nu hs]
 simp only[List.all_cons,List.all_nil,Bool.and_true,hf,qQb,qJc,Bool.and_eq_true,decide_eq_true_eq]
 exact⟨by omega,trivial,by omega,by omega⟩
structure yF(R:Rs):Prop where
 len:R.length<=4096
 run:∀ r∈R,∀ c∈r.1,scal c=true/\lU c=true
 dep:∀ r∈R,r.1.length<=24
 wt:∀ r∈R,0<=r.2/\r.2<=1048576
theorem Hc(R:Rs):(aK R).length=R.length:=by simp[aK]
theorem yF.level(h:yF R):yF (aK R):=by
 have key:∀ r∈aK R,(r.1,r.2+bE R)∈R:=λr hr=>dY.1 (show (r.1,r.2)∈aK R from hr)
 refine⟨by rw[Hc];exact h.len,λr hr=>h.run (r.1,r.2+bE R) (key r hr),λr hr=>h.dep (r.1,r.2+bE R) (key r hr),λr hr=>?_⟩
 have h1:=h.wt _ (key r hr)
 have h2:=dX (key r hr)
 have hne:R≠[]:=List.ne_nil_of_mem (key r hr)
 obtain⟨s,hs,e⟩:=dE hne
 have h3:=h.wt _ hs
 simp only at h1 h2
 omega
theorem yF.under(h:yF R)(c:Nat):yF (aI R c):=by
 have key:∀ r∈aI R c,(c :: r.1,r.2)∈R:=λr hr=>cA.1 (show (r.1,r.2)∈aI R c from hr)
 refine⟨qXc (List.length_filterMap_le _ _) h.len,λr hr d hd=>h.run _ (key r hr) d (qZb _ hd),λr hr=>?_,λr hr=>h.wt (c :: r.1,r.2) (key r hr)⟩
 have:=h.dep _ (key r hr)
 simp only[qQb] at this
 omega
theorem Ku{st:kG->Rs->kG × Nat}(hst:∀ k l,(∀ X∈k.rests,yF X)->yF l->∀ X∈(st k l).1.rests,yF X)(hR:yF R):∀ (cs:List Nat) (k:kG),(∀ X∈k.rests,yF X)->∀ X∈(cY st R k cs).1.rests,yF X
 | [],_,hk=>hk
 | c :: cs,k,hk=>by
  simp only[cY]
  exact Ku hst hR cs _ (hst _ _ hk (hR.under c))
theorem tS:∀ f k l,(∀ X∈k.rests,yF X)->yF l->∀ X∈(bJ f k l).1.rests,yF X
 | 0,_,_,hk,_=>hk
 | f+1,k,l,hk,hl=>by
  simp only[bJ]
  split
  ·exact hk
  ·intro X hX
   simp only[List.mem_append,qZd] at hX
   rcases hX with h | h
   ·exact Ku (tS f) hl.level _ _ hk X h
   ·rw[h];exact hl.level
theorem Cb(h:aZ L):yF (aV L):=by
 refine⟨by simpa [aV] using h.len,?_,?_,?_⟩
 ·intro r hr c hc
  obtain⟨p,hp,rfl⟩:=List.mem_map.1 hr
  obtain⟨h1,h2,_,_⟩:=h.word p hp
  exact⟨(cL _ _ _ (qZa _) h1).2 c hc,List.all_eq_true.1 h2 c hc⟩
 ·intro r hr
  obtain⟨p,hp,rfl⟩:=List.mem_map.1 hr
  exact (h.word p hp).2.2.2
 ·intro r hr
  obtain⟨p,hp,rfl⟩:=List.mem_map.1 hr
  have:=h.weight p hp
  exact⟨by simp only;omega,this.2⟩
def aCk(z:cU):Int:=z.arcs.foldl (λm a=>min m a.2.1) (if z.fin=true then z.out else 1048577)
structure gB(i:Nat)(z:cU):Prop where
 out0:0<=z.out
 out1:z.out<=1048576
 fin0:z.fin=false->z.out=0
 lab:(z.arcs.map (·.1)).Pairwise (·<·)
 run:∀ a∈z.arcs,scal a.1=true/\lU a.1=true
 arc:∀ a∈z.arcs,0<=a.2.1/\a.2.1<=1048576/\a.2.2<i
 low:aCk z=0
theorem aBm(l:List (Nat × Int × Nat)):∀ m:Int,l.foldl (λm a=>min m a.2.1) m<=m/\(∀ a∈l,l.foldl (λm a=>min m a.2.1) m<=a.2.1)/\(0<=m->(∀ a∈l,0<=a.2.1)->0<=l.foldl (λm a=>min m a.2.1) m):=by
 induction l with
 | nil=>intro m;exact⟨Int.le_refl _,λa h=>(by cases h),λh _=>h⟩
 | cons b l ih =>
  intro m
  obtain⟨h1,h2,h3⟩:=ih (min m b.2.1)
  simp only[qQd]
  refine⟨Int.le_trans h1 (Int.min_le_left _ _),λa ha=>?_,λh0 hl=>h3 ?_ λa ha=>hl a (qZb _ ha)⟩
  ·rcases List.mem_cons.1 ha with e | e
   ·rw[e];exact Int.le_trans h1 (Int.min_le_right _ _)
   ·exact h2 a e
  ·have:=hl b qXb
   omega
theorem At{rests:List Rs}(h:zF rests i R z)(hh:yF R){a:Nat × Int × Nat}(ha:a∈z.arcs):0<=a.2.1/\a.2.1<=1048576/\aI R a.1≠[]:=by
 have hc:a.1∈aO R:=by rw[<-h.labels];exact List.mem_map.2 ⟨a,ha,rfl⟩
 have hne:=bO.1 hc
 obtain⟨s,hs,e⟩:=dE hne
 have:=(hh.under a.1).wt s hs
 rw[e,<-(h.arc a ha).1] at this
 exact⟨this.1,this.2,hne⟩
theorem wP{rests:List Rs}(h:zF rests i R z)(hh:yF R):gB i z:=by
 have hout:0<=z.out/\z.out<=1048576/\(z.fin=false->z.out=0):=by
  rw[h.out,h.fin]
  cases hf:gY R with
  | false=>rw[xG h.sort hf];exact⟨by omega,by omega,λ_=>rfl⟩
  | true =>
   obtain⟨n,hn⟩:=eY.1 hf
   rw[iF h.sort hn]
   have:=hh.wt _ hn
   exact⟨this.1,this.2,λe=>by cases e⟩
 have harc:∀ a∈z.arcs,0<=a.2.1/\a.2.1<=1048576/\a.2.2<i:=λa ha=>⟨(At h hh ha).1,(At h hh ha).2.1,(h.arc a ha).2.1⟩
 refine⟨hout.1,hout.2.1,hout.2.2,by rw[h.labels];exact dG h.sort,?_,harc,?_⟩
 ·intro a ha
  have hc:a.1∈aO R:=by rw[<-h.labels];exact List.mem_map.2 ⟨a,ha,rfl⟩
  obtain⟨⟨t,n⟩,hr⟩:=List.exists_mem_of_ne_nil _ (bO.1 hc)
  exact hh.run _ (cA.1 hr) a.1 qXb
 ·unfold aCk
  obtain⟨h1,h2,h3⟩:=aBm z.arcs (if z.fin=true then z.out else 1048577)
  have h0:=h3 (by split<;>omega) λa ha=>(harc a ha).1
  obtain⟨⟨x,n⟩,hr,e⟩:=dE h.ne
  rw[h.least] at e
  simp only at e
  subst e
  cases x with
  | nil =>
   obtain⟨g1,g2⟩:=(zX h.sort).1 hr
   rw[<-h.fin] at g1
   rw[<-h.out] at g2
   rw[if_pos g1,g2] at h1 h0 ⊢
   omega
  | cons c t =>
   have hc:c∈aO R:=bO.2 (List.ne_nil_of_mem (cA.2 hr))
   rw[<-h.labels] at hc
   obtain⟨a,ha,rfl⟩:=List.mem_map.1 hc
   have g1:=dX (cA.2 hr)
   rw[<-(h.arc a ha).1] at g1
   simp only at g1
   have g2:=h2 a ha
   omega
abbrev S3:=Int × Int × Int
def z3:S3:=(0,0,0)
def eC(U:List S3)(x:S3)(a:Nat × Int × Nat):S3:=(x.1+(U.getD a.2.2 z3).1,max x.2.1 ((U.getD a.2.2 z3).2.1+1),max x.2.2 (a.2.1+(U.getD a.2.2 z3).2.2))
def fB(U:List S3)(z:cU)(j:Nat):S3:=(z.arcs.take j).foldl (eC U) (if z.fin=true then 1 else 0,0,z.out)
structure aAb(R:Rs)(u:S3):Prop where
 words:u.1=R.length
 deep0:0<=u.2.1
 deep1:u.2.1<=gT R
 wt0:0<=u.2.2
 wt1:∀ W:Int,(∀ r∈R,r.2<=W)->u.2.2<=W
theorem Bu(U:List S3)(R:Rs):∀ (l:List (Nat × Int × Nat)) (x:S3),(∀ a∈l,(U.getD a.2.2 z3).1=((aI R a.1).length:Int))->(l.foldl (eC U) x).1=x.1+(((l.map (·.1)).map λc=>(aI R c).length).sum:Nat)
 | [],x,_=>by simp
 | a :: l,x,h=>by
  rw[qQd,Bu U R l _ λb hb=>h b (qZb _ hb)]
  simp only[eC,List.map_cons,List.sum_cons]
  rw[h a qXb]
  omega
theorem Gk(U:List S3)(D:Int):∀ (l:List (Nat × Int × Nat)) (x:S3),0<=x.2.1->x.2.1<=D->(∀ a∈l,(U.getD a.2.2 z3).2.1+1<=D)->0<=(l.foldl (eC U) x).2.1/\(l.foldl (eC U) x).2.1<=D
 | [],x,h0,h1,_=>⟨h0,h1⟩
 | a :: l,x,h0,h1,h=>by
  rw[qQd]
  have:=h a qXb
  refine Gk U D l _ ?_ ?_ λb hb=>h b (qZb _ hb)
  ·simp only[eC];omega
  ·simp only[eC];omega
theorem Ud(U:List S3)(W:Int):∀ (l:List (Nat × Int × Nat)) (x:S3),0<=x.2.2->x.2.2<=W->(∀ a∈l,a.2.1+(U.getD a.2.2 z3).2.2<=W)->0<=(l.foldl (eC U) x).2.2/\(l.foldl (eC U) x).2.2<=W
 | [],x,h0,h1,_=>⟨h0,h1⟩
 | a :: l,x,h0,h1,h=>by
  rw[qQd]
  have:=h a qXb
  refine Ud U W l _ ?_ ?_ λb hb=>h b (qZb _ hb)
  ·simp only[eC];omega
  ·simp only[eC];omega
theorem aEo(f:Nat->Nat)(l:List Nat)(j:Nat):((l.take j).map f).sum<=(l.map f).sum:=by
 conv=>rhs;rw[<-List.take_append_drop j l]
 rw[List.map_append,List.sum_append]
 omega
def aAc(k:kG)(U:List S3)(i:Nat):Prop:=∀ j,j<i->∀ R,k.rests[j]? = some R->aAb R (U.getD j z3)
theorem Dt{k:kG}{U:List S3}(hU:aAc k U i)(h:zF k.rests i R z)(hh:yF R)(hd:gT R<=24)(j:Nat) :
  (0<=(fB U z j).1/\(fB U z j).1<=4096)/\(0<=(fB U z j).2.1/\(fB U z j).2.1<=gT R)/\(0<=(fB U z j).2.2/\∀ W:Int,(∀ r∈R,r.2<=W)->(fB U z j).2.2<=W)/\(z.arcs.length<=j->aAb R (fB U z j)) /\
  (∀ a∈z.arcs,0<=(U.getD a.2.2 z3).1/\(U.getD a.2.2 z3).1<=4096/\0<=(U.getD a.2.2 z3).2.1/\(U.getD a.2.2 z3).2.1<=24/\0<=(U.getD a.2.2 z3).2.2/\(U.getD a.2.2 z3).2.2<=1048576):=by
 have hfm:=wP h hh
 have hsub:∀ a∈z.arcs,aAb (aK (aI R a.1)) (U.getD a.2.2 z3):=λa ha=>hU a.2.2 (h.arc a ha).2.1 _ (h.arc a ha).2.2
 have hw:∀ a∈z.arcs,(U.getD a.2.2 z3).1=((aI R a.1).length:Int):=λa ha=>by rw[(hsub a ha).words,Hc]
 have hdp:∀ a∈z.arcs,(U.getD a.2.2 z3).2.1+1<=gT R:=λa ha=>by
  have h1:=(hsub a ha).deep1
  rw[gC] at h1
  have h2:=gD (At h hh ha).2.2
  omega
 have hwt:∀ W:Int,(∀ r∈R,r.2<=W)->∀ a∈z.arcs,a.2.1+(U.getD a.2.2 z3).2.2<=W:=λW hW a ha=>by
  have h1:=(hsub a ha).wt1 (W-a.2.1) λr hr=>by
   have h2:=dY.1 (show (r.1,r.2)∈aK (aI R a.1) from hr)
   have h3:=hW _ (cA.1 h2)
   rw[(h.arc a ha).1]
   simp only at h3
   omega
  omega
 have hfin:∀ W:Int,(∀ r∈R,r.2<=W)->z.out<=W:=λW hW=>by
  cases hf:z.fin with
  | false =>
   rw[hfm.fin0 hf]
   obtain⟨r,hr,e⟩:=dE h.ne
   have h1:=hW r hr
   rw[h.least] at e
   omega
  | true =>
   rw[h.fin] at hf
   obtain⟨n,hn⟩:=eY.1 hf
   rw[h.out,iF h.sort hn]
   exact hW _ hn
 have hone:(if z.fin=true then (1:Int) else 0)=((if gY R=true then 1 else 0:Nat):Int):=by
  rw[h.fin];split<;>rfl
 have hlen:=Pg h.sort
 have hwords:∀ j,(fB U z j).1=((if gY R=true then 1 else 0:Nat):Int)+((((aO R).take j).map λc=>(aI R c).length).sum:Nat):=λj=>by
  unfold fB
  rw[Bu U R _ _ λa ha=>hw a (List.mem_of_mem_take ha)]
  simp only
  rw[hone,List.map_take,h.labels]
 have h1:∀ a∈z.arcs.take j,a∈z.arcs:=λa ha=>List.mem_of_mem_take ha
 have hdj:=Gk U (gT R) (z.arcs.take j) (if z.fin=true then 1 else 0,0,z.out) (Int.le_refl _) (by simp only;omega) λa ha=>hdp a (h1 a ha)
 have hwj:∀ W:Int,(∀ r∈R,r.2<=W)->0<=(fB U z j).2.2/\(fB U z j).2.2<=W:=λW hW=>Ud U W (z.arcs.take j) (if z.fin=true then 1 else 0,0,z.out) hfm.out0 (hfin W hW) λa ha=>hwt W hW a (h1 a ha)
 have hW0:=hwj 1048576 λr hr=>(hh.wt r hr).2
 have hst:=aEo (λc=>(aI R c).length) (aO R) j
 have hl:=hh.len
 refine⟨?_,hdj,⟨hW0.1,λW hW=>(hwj W hW).2⟩,λhj=>⟨?_,hdj.1,hdj.2,hW0.1,λW hW=>(hwj W hW).2⟩,λa ha=>?_⟩
 ·rw[hwords j]
  omega
 ·rw[hwords j,qQc (by rw[<-h.labels,List.length_map];exact hj)]
  omega
 ·have h2:=hsub a ha
  have h3:=hw a ha
  have h4:=(hh.under a.1).len
  have h5:=hdp a ha
  have h6:=h2.wt1 1048576 λr hr=>((hh.under a.1).level.wt r hr).2
  refine⟨by omega,by omega,h2.deep0,by omega,h2.wt0,h6⟩
theorem xX(U:List S3)(z:cU):fB U z 0=(if z.fin=true then 1 else 0,0,z.out):=by simp[fB]
theorem xW(U:List S3)(z:cU)(j:Nat)(hj:j<z.arcs.length):fB U z (j+1)=eC U (fB U z j) (z.arcs.getD j (0,0,0)):=by
 unfold fB
 rw[qJg hj,qXd]
 simp[qXa,hj]
theorem SL.Ok.touch{s:SL}(h:s.Ok w)(T:aC (λ_=>False) w w'):s.Ok w':=⟨h.len,h.reads.touch T (λ_ _ f=>f),h.nil⟩
theorem Pb(h:aZ L):gJ (aV L)<=98304:=by
 have h1:∀ l:List aD,(∀ p∈l,(cZ p).length<=24)->gJ (aV l)<=24*l.length:=by
  intro l
  induction l with
  | nil=>intro _;exact qZa _
  | cons p l ih =>
   intro hp
   have:=ih λq hq=>hp q (qZb _ hq)
   have:=hp p qXb
   simp only[aV,List.map_cons,gJ,qQb] at *
   omega
 have:=h1 L λp hp=>(h.word p hp).2.2.2
 have:=h.len
 omega
structure eW(w:World)(A:Option Addr)(n:Nat)(Z:List SV):Prop where
 rd:gL w 170 3 A n (gA Z)
 len:Z.length=n
 el:∀ z∈Z,z.Ok w
theorem eW.quiet{Z:List SV}(h:eW w A n Z)(T:aC (λ_=>False) w w'):eW w' A n Z:=⟨h.rd.quiet T,h.len,λz hz=>(h.el z hz).touch T (λ_ _ f=>f)⟩
structure aIs(w:World)(p:Addr)(base:Int)(A:Option Addr)(n c:Nat)(Z:List SV)(wv:Value):Prop where
 blk:∃ b,p=⟨b,0,none⟩/\aL w b 167 #[.int .i64 base,.slice A n c,wv]
 sts:eW w A n Z
theorem aIs.quiet{p:Addr}{base:Int}{c:Nat}{Z:List SV}{wv:Value}(h:aIs w p base A n c Z wv)(T:aC (λ_=>False) w w'):aIs w' p base A n c Z wv:=by
 obtain⟨b,e,hb⟩:=h.blk
 exact⟨⟨b,e,hb.touch T (λf=>f)⟩,h.sts.quiet T⟩
theorem De(w:World)(b:Nat)(base:Int)(A:Option Addr)(n c:Nat)(wv:Value)(hb:aL w b 167 #[.int .i64 base,.slice A n c,wv])(hn:n<=1000000) :
  Calls Tryz.prog 98 #[.pointer (some ⟨b,0,none⟩)] w λe w'=>e=.returned (.int .i64 ((n:Int)-1))/\w'=w:=by
 obtain⟨x0,x1,x2⟩:=hb.facts
 have z1:IntKind.i64.wrap ((n:Int)-1)=(n:Int)-1:=qQa _ (by omega)
 go_in
 go_wp2
 go_ret
 exact⟨rfl,rfl⟩
theorem xQ(X:List SV)(z0:SV)(k:Nat)(hk:k<X.length)(j:Nat)(hj:j<3):(gA X)[k*3+j]? = some ((X.getD k z0).cells.getD j undef):=by
 induction X generalizing k with
 | nil=>simp at hk
 | cons x X ih =>
  have e:gA (x :: X)=x.cells++gA X:=rfl
  cases k with
  | zero =>
   rw[e,Nat.zero_mul,Nat.zero_add]
   obtain rfl | rfl | rfl:j=0\/j=1\/j=2:=by omega
   ·rfl
   ·rfl
   ·rfl
  | succ k =>
   rw[e,qQe (by simp[SV.cells];omega)]
   have:(k+1)*3+j-x.cells.length=k*3+j:=by simp[SV.cells];omega
   rw[this,ih k (by simp at hk;omega)]
   simp[qXa]
theorem vX(X:List (Nat × Int × Nat))(k:Nat)(hk:k<X.length)(j:Nat)(hj:j<3):(dQ X)[k*3+j]? = some ([.int .i32 ((X.getD k (0,0,0)).1:Int),.int .i64 (X.getD k (0,0,0)).2.1,.int .i64 ((X.getD k (0,0,0)).2.2:Int)].getD j undef):=by
 induction X generalizing k with
 | nil=>simp at hk
 | cons x X ih =>
  have e:dQ (x :: X)=[.int .i32 (x.1:Int),.int .i64 x.2.1,.int .i64 (x.2.2:Int)]++dQ X:=rfl
  cases k with
  | zero =>
   rw[e,Nat.zero_mul,Nat.zero_add]
   obtain rfl | rfl | rfl:j=0\/j=1\/j=2:=by omega
   ·rfl
   ·rfl
   ·rfl
  | succ k =>
   rw[e,qQe (by simp;omega)]
   have:(k+1)*3+j-[Value.int .i32 (x.1:Int),.int .i64 x.2.1,.int .i64 (x.2.2:Int)].length=k*3+j:=by simp;omega
   rw[this,ih k (by simp at hk;omega)]
   simp[qXa]
def cH:SV:=⟨false,0,none,0,0,[]⟩
theorem jE{X:List SV}(h:aH w 3 A n (gA X))(hn:X.length=n)(k:Nat)(hk:k<n) :
  ∃ g off,A=some ⟨g,off,none⟩/\g<w.heap.size/\w.cell? ⟨g,off+k*3,none⟩=some (.bool (X.getD k cH).fin)/\w.cell? ⟨g,off+k*3+1,none⟩=some (.int .i64 (X.getD k cH).out)/\w.cell? ⟨g,off+k*3+2,none⟩=some (.slice (X.getD k cH).A (X.getD k cH).n (X.getD k cH).c):=by
 obtain⟨b,off,hA,hb,hc⟩:=h.2 (by omega)
 refine⟨b,off,hA,hb,?_,?_,?_⟩
 ·exact hc (k*3) _ (xQ X cH k (by omega) 0 (by omega))
 ·rw[qZc];exact hc (k*3+1) _ (xQ X cH k (by omega) 1 (by omega))
 ·rw[qZc];exact hc (k*3+2) _ (xQ X cH k (by omega) 2 (by omega))
theorem iY{X:List (Nat × Int × Nat)}(h:aH w 3 A n (dQ X))(hn:X.length=n)(k:Nat)(hk:k<n) :
  ∃ g off,A=some ⟨g,off,none⟩/\g<w.heap.size/\w.cell? ⟨g,off+k*3,none⟩=some (.int .i32 ((X.getD k (0,0,0)).1:Int))/\w.cell? ⟨g,off+k*3+1,none⟩=some (.int .i64 (X.getD k (0,0,0)).2.1)/\w.cell? ⟨g,off+k*3+2,none⟩=some (.int .i64 ((X.getD k (0,0,0)).2.2:Int)):=by
 obtain⟨b,off,hA,hb,hc⟩:=h.2 (by omega)
 refine⟨b,off,hA,hb,?_,?_,?_⟩
 ·exact hc (k*3) _ (vX X k (by omega) 0 (by omega))
 ·rw[qZc];exact hc (k*3+1) _ (vX X k (by omega) 1 (by omega))
 ·rw[qZc];exact hc (k*3+2) _ (vX X k (by omega) 2 (by omega))
theorem Sr(l:List (Nat × Int × Nat))(a:Nat × Int × Nat)(r:Nat)(p:Int × Int):kI (l++[a]) r p=if a.1=r then ((a.2.2:Int),(kI l r p).2+a.2.1) else kI l r p:=by
 unfold kI
 rw[qXd]
 rfl
structure aIg(n:Nat)(Z:List SV):Prop where
 lab:∀ z∈Z,(z.arcs.map (·.1)).Nodup
 arc:∀ z∈Z,∀ a∈z.arcs,0<=a.2.1/\a.2.1<=1048576/\a.2.2<n
 out:∀ z∈Z,0<=z.out/\z.out<=1048576
theorem Oe{l:List (Nat × Int × Nat)}(hn:(l.map (·.1)).Nodup)(hb:∀ a∈l,0<=a.2.1/\a.2.1<=1048576/\a.2.2<n)(sum:Int):sum<=(kI l r (-1,sum)).2/\(kI l r (-1,sum)).2<=sum+1048576/\-1<=(kI l r (-1,sum)).1/\(kI l r (-1,sum)).1<n:=by
 by_cases h:r∈l.map (·.1)
 ·obtain⟨a,ha,hr⟩:=List.mem_map.1 h
  rw[Dq hn ha hr]
  have:=hb a ha
  simp only
  omega
 ·rw[tT h]
  simp only
  omega
def Re(l0:Int)(arcs:List (Nat × Int × Nat))(j:Nat):Int:=(arcs.take j).foldl (λm a=>min m a.2.1) l0
theorem Hd(l0:Int)(arcs:List (Nat × Int × Nat))(j:Nat)(hj:j<arcs.length):Re l0 arcs (j+1)=min (Re l0 arcs j) (arcs.getD j (0,0,0)).2.1:=by
 unfold Re
 rw[qJg hj,qXd]
 simp[qXa,hj]
theorem Mj(arcs:List (Nat × Int × Nat))(h:(arcs.map (·.1)).Pairwise (·<·))(j:Nat)(hj:j+1<arcs.length):(arcs.getD j (0,0,0)).1<(arcs.getD (j+1) (0,0,0)).1:=by
 have:=List.pairwise_iff_getElem.1 h j (j+1) (by simp;omega) (by simp;omega) (by omega)
 simpa [qXa,hj,show j<arcs.length by omega] using this
theorem lN(l:List UInt8):(⟨l.toArray⟩:ByteArray).toList=l:=by rw[Go.ByteArray.toList_eq]
theorem Ir(w:World)(hL:cV w)(r:Nat)(hs:scal r=true)(hf:lU r=true) :
  Calls Tryz.prog 78 #[.string ⟨(aN r).toArray⟩] w λe w'=>e=.returned (.bool true)/\aC (λ_=>False) w w':=by
 have hl:=oV r
 have h:=mQ w ⟨(aN r).toArray⟩ (by show (aN r).toArray.size<=_;rw[List.size_toArray];omega) hL
 rw[lN,tW hs hf] at h
 exact h
theorem Qv(w:World)(hL:cV w)(z:SV)(hz:z.Ok w)(num:Nat)(_:num<=1000000)(hF:gB num z.p) :
  Calls Tryz.prog 138 #[.agg #[.bool z.fin,.int .i64 z.out,.slice z.A z.n z.c],.int .i64 num] w λe w'=>e=.returned (.bool true)/\aC (λ_=>False) w w':=by
 obtain⟨fin,out,aA,n,ac,arcs⟩:=z
 obtain⟨hlen,hrd,hle,hmx⟩:=hz
 obtain⟨f1,f2,f3,f4,f5,f6,f7⟩:=hF
 simp only[SV.p] at *
 have hnm:n<=maxLen:=qXc hle hmx
 have HL:=aB hL
 have HRD:=aB hrd
 have HLEN:=aB hlen
 have HF3:=aB f3
 have HF4:=aB f4
 have HF5:=aB f5
 have HF6:=aB f6
 have HF7:=aB f7
 clear hL hrd hlen f3 f4 f5 f6 f7 hle hmx
 obtain⟨w2,hw2⟩:=eX (w.alloc (.cells #[.bool fin,.int .i64 out,.slice aA n ac] 170))
 have hT2:aC (λ_=>False) w w2:=by rw[hw2];exact (aC.refl _ _).alloc _
 have HT2:=aB hT2
 have HW2:=aB hw2
 clear hw2 hT2
 go_in
 cases fin with
 | true =>
  go_wp2_with fail
  rw[<-HW2.out]
  go_loopw [5,6,7,30] (λlv kv bv iv wr=>∃ (i:Nat) (lo:Int) (lab:Nat),lv=.int .i64 lo/\kv=.bool true/\bv=.int .i32 lab/\iv=.int .i64 i/\i<=n/\Hid (lo=Re out arcs i)/\Hid (i<n->lab<(arcs.getD i (0,0,0)).1)/\Hid (aC (λ_=>False) w2 wr)) (λ_ _ _ iv _=>n-(intOf iv).toNat)
  case atStart =>
   refine⟨0,out,32,rfl,rfl,rfl,rfl,by omega,aB rfl,aB λhn=>?_,aB (aC.refl _ _)⟩
   have:=(HF5 _ (cJ arcs (0,0,0) 0 (by rw[HLEN.out];exact hn))).2
   unfold lU at this
   simp only[Bool.and_eq_true,decide_eq_true_eq] at this
   exact this.1
  case round =>
   obtain⟨i,lo,lab,rfl,rfl,rfl,rfl,hi,HLO,HLB,HT⟩:=hrel
   by_cases hin:i<n
   ·have y1:(i:Int)<(n:Int):=by omega
    have y2:(0:Int)<=(i:Int):=by omega
    have z2:IntKind.i64.wrap ((i:Int)+1)=(i:Int)+1:=qQa _ (by unfold maxLen at hnm;omega)
    obtain⟨g,o,hA,hg,c1,c2,c3⟩:=iY (HRD.quiet (HT2.then HT)).rd HLEN i hin
    subst hA
    have hmem:=cJ arcs (0,0,0) i (by rw[HLEN.out];exact hin)
    have h5:=HF5.out _ hmem
    have h6:=HF6.out _ hmem
    have hlb:=HLB.out hin
    have hsu:=Hd out arcs i (by rw[HLEN.out];exact hin)
    rw[<-HLO.out] at hsu
    have hnx:i+1<n->(arcs.getD i (0,0,0)).1<(arcs.getD (i+1) (0,0,0)).1:=λh=>Mj arcs HF4 i (by rw[HLEN.out];exact h)
    obtain⟨⟨la,ao,tt⟩,hz⟩:∃ z,arcs.getD i (0,0,0)=z:=⟨_,rfl⟩
    rw[hz] at c1 c2 c3 h5 h6 hlb hsu hnx
    simp only at c1 c2 c3 h5 h6 hlb hsu hnx
    have HSU:=aB hsu
    have HNX:=aB hnx
    have hlab:(lab:Int)<(la:Int):=by omega
    have h60:(0:Int)<=ao:=h6.1
    have h61:ao<=1048576:=h6.2.1
    have h62:(0:Int)<=(tt:Int):=by omega
    have h63:(tt:Int)<(num:Int):=by omega
    have H5:=aB h5
    have hww:cF (aN la)=true:=tW h5.1 h5.2
    have HWW:=aB hww
    have HSC:=aB (λ(u:World) (hu:cV u) (h:aH u 1 (some ⟨wr.heap.size+1,0,none⟩) 1 [.int .i32 (la:Int)])=>rF u hu (some ⟨wr.heap.size+1,0,none⟩) 1 1 [la] h rfl (by omega) (λr hr=>by simp only[qZd] at hr;rw[hr];exact h5.1))
    clear hmem h5 h6 hlb hsu hnx hz hww
    obtain⟨w5,hw5⟩:=eX ((wr.alloc (.cells #[.int .i32 (la:Int),.int .i64 ao,.int .i64 (tt:Int)] 173)).alloc (.cells #[.int .i32 (la:Int)] 21))
    have hb5:aL w5 wr.heap.size 173 #[.int .i32 (la:Int),.int .i64 ao,.int .i64 (tt:Int)]:=by rw[hw5];exact (aL.new _ _ _).alloc _
    have hr5:aH w5 1 (some ⟨wr.heap.size+1,0,none⟩) 1 [.int .i32 (la:Int)]:=by
     have:=aH.new (size:=1) (wr.alloc (.cells #[.int .i32 (la:Int),.int .i64 ao,.int .i64 (tt:Int)] 173)) 21 [.int .i32 (la:Int)] 1 rfl
     rw[hw5]
     simpa using this
    have hT5:aC (λ_=>False) wr w5:=by rw[hw5];exact ((aC.refl _ _).alloc _).alloc _
    have HB5:=aB hb5
    have HR5:=aB hr5
    have HT5:=aB hT5
    have HW5:=aB hw5
    clear hb5 hr5 hT5 hw5
    go_wp2_with (first
     | (go_at_call 93;rw[<-HW5.out];refine (HSC w5 (HL.touch (HT2.then (HT.then HT5))) HR5).mono ?_;rintro e w6 ⟨rfl,T6⟩;have HT6:=aB T6;have hb:=HB5.touch T6 (λf=>f);obtain⟨x0,x1,x2⟩:=hb.facts;have HB6:=aB hb;clear T6 hb)
     | (go_at_call 78;refine (Ir _ (HL.touch (HT2.then (HT.then (HT5.then HT6)))) la H5.1 H5.2).mono ?_;rintro e w7 ⟨rfl,T7⟩;have HT7:=aB T7;have hb:=HB6.touch T7 (λf=>f);obtain⟨x3,x4,x5⟩:=hb.facts;have HB7:=aB hb;clear T7 hb))
    go_roundw
    ·refine⟨i+1,_,la,rfl,rfl,rfl,by simp,by omega,aB ?_,aB HNX,aB (HT.then (HT5.then (HT6.then HT7)))⟩
     rw[HSU.out]
     try (split<;>omega)
    ·simp only[intOf];omega
   ·have hie:i=n:=by omega
    subst hie
    have hlow:lo=0:=by
     rw[HLO.out,<-HF7.out]
     unfold Re aCk
     rw[qQc (by rw[HLEN.out];exact qZa _)]
     try rfl
    subst hlow
    go_wp2_with fail
    go_ret
    exact⟨rfl,HT2.then HT⟩
 | false =>
  have h0:out=0:=HF3.out rfl
  subst h0
  go_wp2_with fail
  rw[<-HW2.out]
  go_loopw [5,6,7,30] (λlv kv bv iv wr=>∃ (i:Nat) (lo:Int) (lab:Nat),lv=.int .i64 lo/\kv=.bool true/\bv=.int .i32 lab/\iv=.int .i64 i/\i<=n/\Hid (lo=Re 1048577 arcs i)/\Hid (i<n->lab<(arcs.getD i (0,0,0)).1)/\Hid (aC (λ_=>False) w2 wr)) (λ_ _ _ iv _=>n-(intOf iv).toNat)
  case atStart =>
   refine⟨0,1048577,32,rfl,rfl,rfl,rfl,by omega,aB rfl,aB λhn=>?_,aB (aC.refl _ _)⟩
   have:=(HF5 _ (cJ arcs (0,0,0) 0 (by rw[HLEN.out];exact hn))).2
   unfold lU at this
   simp only[Bool.and_eq_true,decide_eq_true_eq] at this
   exact this.1
  case round =>
   obtain⟨i,lo,lab,rfl,rfl,rfl,rfl,hi,HLO,HLB,HT⟩:=hrel
   by_cases hin:i<n
   ·have y1:(i:Int)<(n:Int):=by omega
    have y2:(0:Int)<=(i:Int):=by omega
    have z2:IntKind.i64.wrap ((i:Int)+1)=(i:Int)+1:=qQa _ (by unfold maxLen at hnm;omega)
    obtain⟨g,o,hA,hg,c1,c2,c3⟩:=iY (HRD.quiet (HT2.then HT)).rd HLEN i hin
    subst hA
    have hmem:=cJ arcs (0,0,0) i (by rw[HLEN.out];exact hin)
    have h5:=HF5.out _ hmem
    have h6:=HF6.out _ hmem
    have hlb:=HLB.out hin
    have hsu:=Hd 1048577 arcs i (by rw[HLEN.out];exact hin)
    rw[<-HLO.out] at hsu
    have hnx:i+1<n->(arcs.getD i (0,0,0)).1<(arcs.getD (i+1) (0,0,0)).1:=λh=>Mj arcs HF4 i (by rw[HLEN.out];exact h)
    obtain⟨⟨la,ao,tt⟩,hz⟩:∃ z,arcs.getD i (0,0,0)=z:=⟨_,rfl⟩
    rw[hz] at c1 c2 c3 h5 h6 hlb hsu hnx
    simp only at c1 c2 c3 h5 h6 hlb hsu hnx
    have HSU:=aB hsu
    have HNX:=aB hnx
    have hlab:(lab:Int)<(la:Int):=by omega
    have h60:(0:Int)<=ao:=h6.1
    have h61:ao<=1048576:=h6.2.1
    have h62:(0:Int)<=(tt:Int):=by omega
    have h63:(tt:Int)<(num:Int):=by omega
    have H5:=aB h5
    have hww:cF (aN la)=true:=tW h5.1 h5.2
    have HWW:=aB hww
    have HSC:=aB (λ(u:World) (hu:cV u) (h:aH u 1 (some ⟨wr.heap.size+1,0,none⟩) 1 [.int .i32 (la:Int)])=>rF u hu (some ⟨wr.heap.size+1,0,none⟩) 1 1 [la] h rfl (by omega) (λr hr=>by simp only[qZd] at hr;rw[hr];exact h5.1))
    clear hmem h5 h6 hlb hsu hnx hz hww
    obtain⟨w5,hw5⟩:=eX ((wr.alloc (.cells #[.int .i32 (la:Int),.int .i64 ao,.int .i64 (tt:Int)] 173)).alloc (.cells #[.int .i32 (la:Int)] 21))
    have hb5:aL w5 wr.heap.size 173 #[.int .i32 (la:Int),.int .i64 ao,.int .i64 (tt:Int)]:=by rw[hw5];exact (aL.new _ _ _).alloc _
    have hr5:aH w5 1 (some ⟨wr.heap.size+1,0,none⟩) 1 [.int .i32 (la:Int)]:=by
     have:=aH.new (size:=1) (wr.alloc (.cells #[.int .i32 (la:Int),.int .i64 ao,.int .i64 (tt:Int)] 173)) 21 [.int .i32 (la:Int)] 1 rfl
     rw[hw5]
     simpa using this
    have hT5:aC (λ_=>False) wr w5:=by rw[hw5];exact ((aC.refl _ _).alloc _).alloc _
    have HB5:=aB hb5
    have HR5:=aB hr5
    have HT5:=aB hT5
    have HW5:=aB hw5
    clear hb5 hr5 hT5 hw5
    go_wp2_with (first
     | (go_at_call 93;rw[<-HW5.out];refine (HSC w5 (HL.touch (HT2.then (HT.then HT5))) HR5).mono ?_;rintro e w6 ⟨rfl,T6⟩;have HT6:=aB T6;have hb:=HB5.touch T6 (λf=>f);obtain⟨x0,x1,x2⟩:=hb.facts;have HB6:=aB hb;clear T6 hb)
     | (go_at_call 78;refine (Ir _ (HL.touch (HT2.then (HT.then (HT5.then HT6)))) la H5.1 H5.2).mono ?_;rintro e w7 ⟨rfl,T7⟩;have HT7:=aB T7;have hb:=HB6.touch T7 (λf=>f);obtain⟨x3,x4,x5⟩:=hb.facts;have HB7:=aB hb;clear T7 hb))
    go_roundw
    ·refine⟨i+1,_,la,rfl,rfl,rfl,by simp,by omega,aB ?_,aB HNX,aB (HT.then (HT5.then (HT6.then HT7)))⟩
     rw[HSU.out]
     try (split<;>omega)
    ·simp only[intOf];omega
   ·have hie:i=n:=by omega
    subst hie
    have hlow:lo=0:=by
     rw[HLO.out,<-HF7.out]
     unfold Re aCk
     rw[qQc (by rw[HLEN.out];exact qZa _)]
     try rfl
    subst hlow
    go_wp2_with fail
    go_ret
    exact⟨rfl,HT2.then HT⟩
def jO(U:List S3):List Value:=U.flatMap λu=>[.int .i64 u.1,.int .i64 u.2.1,.int .i64 u.2.2]
theorem rR(X:List S3)(k:Nat)(hk:k<X.length)(j:Nat)(hj:j<3):(jO X)[k*3+j]? = some ([.int .i64 (X.getD k z3).1,.int .i64 (X.getD k z3).2.1,.int .i64 (X.getD k z3).2.2].getD j undef):=by
 induction X generalizing k with
 | nil=>simp at hk
 | cons x X ih =>
  have e:jO (x :: X)=[.int .i64 x.1,.int .i64 x.2.1,.int .i64 x.2.2]++jO X:=rfl
  cases k with
  | zero =>
   rw[e,Nat.zero_mul,Nat.zero_add]
   obtain rfl | rfl | rfl:j=0\/j=1\/j=2:=by omega
   ·rfl
   ·rfl
   ·rfl
  | succ k =>
   rw[e,qQe (by simp;omega)]
   have:(k+1)*3+j-[Value.int .i64 x.1,Value.int .i64 x.2.1,Value.int .i64 x.2.2].length=k*3+j:=by simp;omega
   rw[this,ih k (by simp at hk;omega)]
   simp[qXa]
theorem Kg{X:List S3}(h:aH w 3 A n (jO X))(hn:X.length=n)(k:Nat)(hk:k<n) :
  ∃ g off,A=some ⟨g,off,none⟩/\g<w.heap.size/\w.cell? ⟨g,off+k*3,none⟩=some (.int .i64 (X.getD k z3).1)/\w.cell? ⟨g,off+k*3+1,none⟩=some (.int .i64 (X.getD k z3).2.1)/\w.cell? ⟨g,off+k*3+2,none⟩=some (.int .i64 (X.getD k z3).2.2):=by
 obtain⟨b,off,hA,hb,hc⟩:=h.2 (by omega)
 refine⟨b,off,hA,hb,?_,?_,?_⟩
 ·exact hc (k*3) _ (rR X k (by omega) 0 (by omega))
 ·rw[qZc];exact hc (k*3+1) _ (rR X k (by omega) 1 (by omega))
 ·rw[qZc];exact hc (k*3+2) _ (rR X k (by omega) 2 (by omega))
theorem aHy(w:World)(z:SV)(hz:z.Ok w)(U:List S3)(uA:Option Addr)(N uc:Nat)(hU:gL w 243 3 uA N (jO U))(hUl:U.length=N)(_:N<=1000000)
  (hB:∀ j,(0<=(fB U z.p j).1/\(fB U z.p j).1<=4096)/\(0<=(fB U z.p j).2.1/\(fB U z.p j).2.1<=24)/\(0<=(fB U z.p j).2.2/\(fB U z.p j).2.2<=1048576))
  (hE:∀ a∈z.arcs,a.2.2<N/\(0<=a.2.1/\a.2.1<=1048576)/\(0<=(U.getD a.2.2 z3).1/\(U.getD a.2.2 z3).1<=4096)/\(0<=(U.getD a.2.2 z3).2.1/\(U.getD a.2.2 z3).2.1<=24)/\(0<=(U.getD a.2.2 z3).2.2/\(U.getD a.2.2 z3).2.2<=1048576)) :
  Calls Tryz.prog 139 #[.agg #[.bool z.fin,.int .i64 z.out,.slice z.A z.n z.c],.slice uA N uc] w λe w'=>e=.returned (.tuple #[.agg #[.int .i64 (fB U z.p z.n).1,.int .i64 (fB U z.p z.n).2.1,.int .i64 (fB U z.p z.n).2.2],.bool true])/\aC (λ_=>False) w w':=by
 obtain⟨fin,out,aA,n,ac,arcs⟩:=z
 obtain⟨hlen,hrd,hle,hmx⟩:=hz
 simp only[SV.p] at *
 have hnm:n<=maxLen:=qXc hle hmx
 have HU:=aB hU
 have HUL:=aB hUl
 have HRD:=aB hrd
 have HLEN:=aB hlen
 have HB:=aB hB
 have HE:=aB hE
 clear hU hrd hlen hB hE hle hmx hUl
 cases fin with
 | true =>
  go_in
  go_wp2_with fail
  obtain⟨w3,hw3⟩:=eX (((w.alloc (.cells #[.bool true,.int .i64 out,.slice aA n ac] 170)).alloc (.cells #[.int .i64 0,.int .i64 0,.int .i64 0] 243)).alloc (.cells #[.int .i64 1,.int .i64 0,.int .i64 out] 243))
  obtain⟨X,hX⟩:=eX (w.heap.size+1+1)
  obtain⟨Y,hY⟩:=eX (w.heap.size+1)
  have hT3:aC (λ_=>False) w w3:=by
   rw[hw3]
   exact ((((aC.refl _ _).alloc _).alloc _).alloc _)
  have hbX:aL w3 X 243 #[.int .i64 1,.int .i64 0,.int .i64 out]:=by
   rw[hw3,hX]
   have h:=aL.new ((w.alloc (.cells #[.bool true,.int .i64 out,.slice aA n ac] 170)).alloc (.cells #[.int .i64 0,.int .i64 0,.int .i64 0] 243)) 243 #[.int .i64 1,.int .i64 0,.int .i64 out]
   simpa using h
  have hbY:aL w3 Y 243 #[.int .i64 0,.int .i64 0,.int .i64 0]:=by
   rw[hw3,hY]
   have h:=(aL.new (w.alloc (.cells #[.bool true,.int .i64 out,.slice aA n ac] 170)) 243 #[.int .i64 0,.int .i64 0,.int .i64 0]).alloc (.cells #[.int .i64 1,.int .i64 0,.int .i64 out] 243)
   simpa using h
  rw[<-hw3,<-hX]
  try rw[<-hY]
  have HT3:=aB hT3
  have HXL:=aB (show w.heap.size<=X by omega)
  have HXY:=aB (show Y≠X by omega)
  have HYL:=aB (show w.heap.size<=Y by omega)
  have HBX:=aB hbX
  have HBY:=aB hbY
  clear hw3 hT3 hbX hbY hX hY
  go_loopw [19] (λiv wr=>∃ (i:Nat) (x1 x2 x3:Int),iv=.int .i64 i/\i<=n/\Hid ((x1,x2,x3)=fB U ⟨true,out,arcs⟩ i)/\Hid (aL wr X 243 #[.int .i64 x1,.int .i64 x2,.int .i64 x3])/\Hid (aC (λg=>g=X) w3 wr)) (λiv _=>n-(intOf iv).toNat)
  case atStart=>exact⟨0,1,0,out,rfl,by omega,aB (by rw[xX];rfl),HBX,aB (aC.refl _ _)⟩
  case round =>
   obtain⟨i,x1,x2,x3,rfl,hi,HP,HX,HT⟩:=hrel
   have hbi:=HB.out i
   rw[<-HP.out] at hbi
   simp only at hbi
   obtain⟨⟨b1,b2⟩,⟨b3,b4⟩,⟨b5,b6⟩⟩:=hbi
   have hq:aC (λ_=>False) w wr:=HT3.trans HT (λg hg e=>by have:=HXL.out;omega)
   by_cases hin:i<n
   ·have y1:(i:Int)<(n:Int):=by omega
    have y2:(0:Int)<=(i:Int):=by omega
    have z2:IntKind.i64.wrap ((i:Int)+1)=(i:Int)+1:=qQa _ (by unfold maxLen at hnm;omega)
    obtain⟨g,o,hA,hg,c1,c2,c3⟩:=iY (HRD.quiet hq).rd HLEN i hin
    subst hA
    have hmem:=cJ arcs (0,0,0) i (by rw[HLEN.out];exact hin)
    have he:=HE.out _ hmem
    have hsu:=xW U ⟨true,out,arcs⟩ i (by rw[HLEN.out];exact hin)
    rw[<-HP.out] at hsu
    simp only at hsu
    obtain⟨⟨la,ao,tt⟩,hz⟩:∃ z,arcs.getD i (0,0,0)=z:=⟨_,rfl⟩
    rw[hz] at c1 c2 c3 he hsu
    simp only[eC] at c1 c2 c3 he hsu
    obtain⟨g2,o2,hA2,hg2,d1,d2,d3⟩:=Kg (HU.quiet hq).rd HUL tt he.1
    subst hA2
    obtain⟨⟨u1,u2,u3⟩,hu⟩:∃ z,U.getD tt z3=z:=⟨_,rfl⟩
    rw[hu] at d1 d2 d3 he hsu
    simp only at d1 d2 d3 he hsu
    obtain⟨e0,⟨e1,e2⟩,⟨e3,e4⟩,⟨e5,e6⟩,⟨e7,e8⟩⟩:=he
    have hbn:=HB.out (i+1)
    rw[hsu] at hbn
    have j0:¬ (4096:Int)<x1+u1:=by have:=hbn.1.2;simp only at this;omega
    have HSU:=aB hsu
    have y3:(0:Int)<=(tt:Int):=by omega
    have y4:(tt:Int)<(N:Int):=by omega
    have k1:IntKind.i64.wrap (x1+u1)=x1+u1:=qQa _ (by omega)
    have k2:IntKind.i64.wrap (u2+1)=u2+1:=qQa _ (by omega)
    have k3:IntKind.i64.wrap (ao+u3)=ao+u3:=qQa _ (by omega)
    obtain⟨q1,q2,q3⟩:=HX.facts
    clear hmem hsu hz hu hbn e0 hq
    go_wp2_with fail
    go_roundw
    ·refine⟨i+1,_,_,_,by simp,by omega,aB ?_,aB (((((HX.set_ 0 _).set_ 1 _).set_ 2 _).alloc _).alloc _),aB (((((HT.setCell (λ_=>rfl) _).setCell (λ_=>rfl) _).setCell (λ_=>rfl) _).alloc _).alloc _)⟩
     rw[HSU.out]
     try (simp only[Prod.mk.injEq,true_and];constructor<;>split<;>omega)
    ·simp only[intOf];omega
   ·have hie:i=n:=by omega
    subst hie
    obtain⟨q1,q2,q3⟩:=HX.facts
    have hby:=HBY.touch HT HXY
    obtain⟨r1,r2,r3⟩:=hby.facts
    have j1:x2<=24:=b4
    have j2:x3<=1048576:=b6
    have HQ:=aB hq
    clear hq
    go_wp2_with fail
    have hxy1:¬ X=Y:=λe=>HXY.out e.symm
    have hxy2:¬ Y=X:=HXY.out
    go_region
    all_goals go_wp2
    have hbF:aL (((wr.setCell ⟨Y,0,none⟩ (.int .i64 x1)).setCell ⟨Y,1,none⟩ (.int .i64 x2)).setCell ⟨Y,2,none⟩ (.int .i64 x3)).drew Y 243 #[.int .i64 x1,.int .i64 x2,.int .i64 x3]:=(((hby.set_ 0 _).set_ 1 _).set_ 2 _).drew
    have f0:=hbF.cell 0
    have f1:=hbF.cell 1
    have f2:=hbF.cell 2
    have hTF:aC (λ_=>False) w (((wr.setCell ⟨Y,0,none⟩ (.int .i64 x1)).setCell ⟨Y,1,none⟩ (.int .i64 x2)).setCell ⟨Y,2,none⟩ (.int .i64 x3)).drew:=by
     refine aC.drew ?_
     iterate 3 refine aC.setCell ?_ (λh=>by have:=HYL.out;simp only at h;omega) _
     exact HQ
    refine bodyPost_ret (v:=.tuple #[.agg #[.int .i64 x1,.int .i64 x2,.int .i64 x3],.bool true]) (by simp[results,Tryz.results139,go_sem,f0,f1,f2]) rfl ⟨?_,hTF⟩
    rw[<-HP.out]
 | false =>
  go_in
  go_wp2_with fail
  obtain⟨w3,hw3⟩:=eX (((w.alloc (.cells #[.bool false,.int .i64 out,.slice aA n ac] 170)).alloc (.cells #[.int .i64 0,.int .i64 0,.int .i64 0] 243)).alloc (.cells #[.int .i64 0,.int .i64 0,.int .i64 out] 243))
  obtain⟨X,hX⟩:=eX (w.heap.size+1+1)
  obtain⟨Y,hY⟩:=eX (w.heap.size+1)
  have hT3:aC (λ_=>False) w w3:=by
   rw[hw3]
   exact ((((aC.refl _ _).alloc _).alloc _).alloc _)
  have hbX:aL w3 X 243 #[.int .i64 0,.int .i64 0,.int .i64 out]:=by
   rw[hw3,hX]
   have h:=aL.new ((w.alloc (.cells #[.bool false,.int .i64 out,.slice aA n ac] 170)).alloc (.cells #[.int .i64 0,.int .i64 0,.int .i64 0] 243)) 243 #[.int .i64 0,.int .i64 0,.int .i64 out]
   simpa using h
  have hbY:aL w3 Y 243 #[.int .i64 0,.int .i64 0,.int .i64 0]:=by
   rw[hw3,hY]
   have h:=(aL.new (w.alloc (.cells #[.bool false,.int .i64 out,.slice aA n ac] 170)) 243 #[.int .i64 0,.int .i64 0,.int .i64 0]).alloc (.cells #[.int .i64 0,.int .i64 0,.int .i64 out] 243)
   simpa using h
  rw[<-hw3,<-hX]
  try rw[<-hY]
  have HT3:=aB hT3
  have HXL:=aB (show w.heap.size<=X by omega)
  have HXY:=aB (show Y≠X by omega)
  have HYL:=aB (show w.heap.size<=Y by omega)
  have HBX:=aB hbX
  have HBY:=aB hbY
  clear hw3 hT3 hbX hbY hX hY
  go_loopw [19] (λiv wr=>∃ (i:Nat) (x1 x2 x3:Int),iv=.int .i64 i/\i<=n/\Hid ((x1,x2,x3)=fB U ⟨false,out,arcs⟩ i)/\Hid (aL wr X 243 #[.int .i64 x1,.int .i64 x2,.int .i64 x3])/\Hid (aC (λg=>g=X) w3 wr)) (λiv _=>n-(intOf iv).toNat)
  case atStart=>exact⟨0,0,0,out,rfl,by omega,aB (by rw[xX];rfl),HBX,aB (aC.refl _ _)⟩
  case round =>
   obtain⟨i,x1,x2,x3,rfl,hi,HP,HX,HT⟩:=hrel
   have hbi:=HB.out i
   rw[<-HP.out] at hbi
   simp only at hbi
   obtain⟨⟨b1,b2⟩,⟨b3,b4⟩,⟨b5,b6⟩⟩:=hbi
   have hq:aC (λ_=>False) w wr:=HT3.trans HT (λg hg e=>by have:=HXL.out;omega)
   by_cases hin:i<n
   ·have y1:(i:Int)<(n:Int):=by omega
    have y2:(0:Int)<=(i:Int):=by omega
    have z2:IntKind.i64.wrap ((i:Int)+1)=(i:Int)+1:=qQa _ (by unfold maxLen at hnm;omega)
    obtain⟨g,o,hA,hg,c1,c2,c3⟩:=iY (HRD.quiet hq).rd HLEN i hin
    subst hA
    have hmem:=cJ arcs (0,0,0) i (by rw[HLEN.out];exact hin)
    have he:=HE.out _ hmem
    have hsu:=xW U ⟨false,out,arcs⟩ i (by rw[HLEN.out];exact hin)
    rw[<-HP.out] at hsu
    simp only at hsu
    obtain⟨⟨la,ao,tt⟩,hz⟩:∃ z,arcs.getD i (0,0,0)=z:=⟨_,rfl⟩
    rw[hz] at c1 c2 c3 he hsu
    simp only[eC] at c1 c2 c3 he hsu
    obtain⟨g2,o2,hA2,hg2,d1,d2,d3⟩:=Kg (HU.quiet hq).rd HUL tt he.1
    subst hA2
    obtain⟨⟨u1,u2,u3⟩,hu⟩:∃ z,U.getD tt z3=z:=⟨_,rfl⟩
    rw[hu] at d1 d2 d3 he hsu
    simp only at d1 d2 d3 he hsu
    obtain⟨e0,⟨e1,e2⟩,⟨e3,e4⟩,⟨e5,e6⟩,⟨e7,e8⟩⟩:=he
    have hbn:=HB.out (i+1)
    rw[hsu] at hbn
    have j0:¬ (4096:Int)<x1+u1:=by have:=hbn.1.2;simp only at this;omega
    have HSU:=aB hsu
    have y3:(0:Int)<=(tt:Int):=by omega
    have y4:(tt:Int)<(N:Int):=by omega
    have k1:IntKind.i64.wrap (x1+u1)=x1+u1:=qQa _ (by omega)
    have k2:IntKind.i64.wrap (u2+1)=u2+1:=qQa _ (by omega)
    have k3:IntKind.i64.wrap (ao+u3)=ao+u3:=qQa _ (by omega)
    obtain⟨q1,q2,q3⟩:=HX.facts
    clear hmem hsu hz hu hbn e0 hq
    go_wp2_with fail
    go_roundw
    ·refine⟨i+1,_,_,_,by simp,by omega,aB ?_,aB (((((HX.set_ 0 _).set_ 1 _).set_ 2 _).alloc _).alloc _),aB (((((HT.setCell (λ_=>rfl) _).setCell (λ_=>rfl) _).setCell (λ_=>rfl) _).alloc _).alloc _)⟩
     rw[HSU.out]
     try (simp only[Prod.mk.injEq,true_and];constructor<;>split<;>omega)
    ·simp only[intOf];omega
   ·have hie:i=n:=by omega
    subst hie
    obtain⟨q1,q2,q3⟩:=HX.facts
    have hby:=HBY.touch HT HXY
    obtain⟨r1,r2,r3⟩:=hby.facts
    have j1:x2<=24:=b4
    have j2:x3<=1048576:=b6
    have HQ:=aB hq
    clear hq
    go_wp2_with fail
    have hxy1:¬ X=Y:=λe=>HXY.out e.symm
    have hxy2:¬ Y=X:=HXY.out
    go_region
    all_goals go_wp2
    have hbF:aL (((wr.setCell ⟨Y,0,none⟩ (.int .i64 x1)).setCell ⟨Y,1,none⟩ (.int .i64 x2)).setCell ⟨Y,2,none⟩ (.int .i64 x3)).drew Y 243 #[.int .i64 x1,.int .i64 x2,.int .i64 x3]:=(((hby.set_ 0 _).set_ 1 _).set_ 2 _).drew
    have f0:=hbF.cell 0
    have f1:=hbF.cell 1
    have f2:=hbF.cell 2
    have hTF:aC (λ_=>False) w (((wr.setCell ⟨Y,0,none⟩ (.int .i64 x1)).setCell ⟨Y,1,none⟩ (.int .i64 x2)).setCell ⟨Y,2,none⟩ (.int .i64 x3)).drew:=by
     refine aC.drew ?_
     iterate 3 refine aC.setCell ?_ (λh=>by have:=HYL.out;simp only at h;omega) _
     exact HQ
    refine bodyPost_ret (v:=.tuple #[.agg #[.int .i64 x1,.int .i64 x2,.int .i64 x3],.bool true]) (by simp[results,Tryz.results139,go_sem,f0,f1,f2]) rfl ⟨?_,hTF⟩
    rw[<-HP.out]
def oW(x:Int):Prop:=-9223372036854775808<=x/\x<=9223372036854775807
theorem Eg(x:Int):oW (wrap64 x):=by unfold oW wrap64;omega
theorem aGg(w:World)(z:SV)(hz:z.Ok w)(ho:0<=z.out/\z.out<=1048576) :
  Calls Tryz.prog 140 #[.agg #[.bool z.fin,.int .i64 z.out,.slice z.A z.n z.c]] w λe w'=>∃ a b c d,e=.returned (.agg #[.int .i64 a,.int .i64 b,.int .i64 c,.int .i64 d])/\(oW a/\oW b/\oW c/\oW d)/\aC (λ_=>False) w w':=by
 obtain⟨fin,out,aA,n,ac,arcs⟩:=z
 obtain⟨hlen,hrd,hle,hmx⟩:=hz
 simp only at *
 have hnm:n<=maxLen:=qXc hle hmx
 have HRD:=aB hrd
 have HLEN:=aB hlen
 clear hrd hlen hle hmx
 go_in
 go_wp2_with fail
 obtain⟨w3,hw3⟩:=eX (((w.alloc (.cells #[.bool fin,.int .i64 out,.slice aA n ac] 170)).alloc (.cells #[.int .i64 0,.int .i64 0,.int .i64 0,.int .i64 0] 246)).alloc (.cells #[.int .i64 out,.int .i64 n,.int .i64 0,.int .i64 0] 246))
 obtain⟨X,hX⟩:=eX (w.heap.size+1+1)
 obtain⟨Y,hY⟩:=eX (w.heap.size+1)
 have hT3:aC (λ_=>False) w w3:=by
  rw[hw3]
  exact (((aC.refl _ _).alloc _).alloc _).alloc _
 have hbX:aL w3 X 246 #[.int .i64 out,.int .i64 n,.int .i64 0,.int .i64 0]:=by
  rw[hw3,hX]
  have h:=aL.new ((w.alloc (.cells #[.bool fin,.int .i64 out,.slice aA n ac] 170)).alloc (.cells #[.int .i64 0,.int .i64 0,.int .i64 0,.int .i64 0] 246)) 246 #[.int .i64 out,.int .i64 n,.int .i64 0,.int .i64 0]
  simpa using h
 have hbY:aL w3 Y 246 #[.int .i64 0,.int .i64 0,.int .i64 0,.int .i64 0]:=by
  rw[hw3,hY]
  have h:=(aL.new (w.alloc (.cells #[.bool fin,.int .i64 out,.slice aA n ac] 170)) 246 #[.int .i64 0,.int .i64 0,.int .i64 0,.int .i64 0]).alloc (.cells #[.int .i64 out,.int .i64 n,.int .i64 0,.int .i64 0] 246)
  simpa using h
 rw[<-hw3,<-hX]
 try rw[<-hY]
 have HT3:=aB hT3
 have HXL:=aB (show w.heap.size<=X by omega)
 have HXY:=aB (show Y≠X by omega)
 have HYL:=aB (show w.heap.size<=Y by omega)
 have HBX:=aB hbX
 have HBY:=aB hbY
 clear hw3 hT3 hbX hbY hX hY
 go_loopw [15] (λiv wr=>∃ (i:Nat) (x3 x4:Int),iv=.int .i64 i/\i<=n/\Hid (oW x3/\oW x4)/\Hid (aL wr X 246 #[.int .i64 out,.int .i64 n,.int .i64 x3,.int .i64 x4])/\Hid (aC (λg=>g=X) w3 wr)) (λiv _=>n-(intOf iv).toNat)
 case atStart=>exact⟨0,0,0,rfl,by omega,aB (by unfold oW;omega),HBX,aB (aC.refl _ _)⟩
 case round =>
  obtain⟨i,x3,x4,rfl,hi,HI,HX,HT⟩:=hrel
  have hq:aC (λ_=>False) w wr:=HT3.trans HT (λg hg e=>by have:=HXL.out;omega)
  by_cases hin:i<n
  ·have y1:(i:Int)<(n:Int):=by omega
   have y2:(0:Int)<=(i:Int):=by omega
   have z2:IntKind.i64.wrap ((i:Int)+1)=(i:Int)+1:=qQa _ (by unfold maxLen at hnm;omega)
   obtain⟨g,o,hA,hg,c1,c2,c3⟩:=iY (HRD.quiet hq).rd HLEN i hin
   subst hA
   obtain⟨⟨la,ao,tt⟩,hz⟩:∃ z,arcs.getD i (0,0,0)=z:=⟨_,rfl⟩
   rw[hz] at c1 c2 c3
   simp only at c1 c2 c3
   obtain⟨q1,q2,q3⟩:=HX.facts
   clear hz hq
   go_wp2_with fail
   go_roundw
   ·refine⟨i+1,_,_,by simp,by omega,aB ⟨Eg _,Eg _⟩,aB (((HX.set_ 2 _).set_ 3 _).alloc _),aB (((HT.setCell (λ_=>rfl) _).setCell (λ_=>rfl) _).alloc _)⟩
   ·simp only[intOf];omega
  ·have hie:i=n:=by omega
   subst hie
   obtain⟨q1,q2,q3⟩:=HX.facts
   have hby:=HBY.touch HT HXY
   obtain⟨r1,r2,r3⟩:=hby.facts
   have HQ:=aB hq
   have hxy1:¬ X=Y:=λe=>HXY.out e.symm
   have hxy2:¬ Y=X:=HXY.out
   clear hq
   go_wp2_with fail
   have hbF:aL ((((wr.setCell ⟨Y,0,none⟩ (.int .i64 out)).setCell ⟨Y,1,none⟩ (.int .i64 i)).setCell ⟨Y,2,none⟩ (.int .i64 x3)).setCell ⟨Y,3,none⟩ (.int .i64 x4)) Y 246 #[.int .i64 out,.int .i64 i,.int .i64 x3,.int .i64 x4]:=(((hby.set_ 0 _).set_ 1 _).set_ 2 _).set_ 3 _
   have f0:=hbF.cell 0
   have f1:=hbF.cell 1
   have f2:=hbF.cell 2
   have f3:=hbF.cell 3
   have hTF:aC (λ_=>False) w ((((wr.setCell ⟨Y,0,none⟩ (.int .i64 out)).setCell ⟨Y,1,none⟩ (.int .i64 i)).setCell ⟨Y,2,none⟩ (.int .i64 x3)).setCell ⟨Y,3,none⟩ (.int .i64 x4)):=by
    iterate 4 refine aC.setCell ?_ (λh=>by have:=HYL.out;simp only at h;omega) _
    exact HQ
   exact bodyPost_ret (v:=.agg #[.int .i64 out,.int .i64 i,.int .i64 x3,.int .i64 x4]) (by simp[results,Tryz.results140,go_sem,f0,f1,f2,f3]) rfl ⟨_,_,_,_,rfl,⟨by unfold oW;omega,by unfold oW;unfold maxLen at hnm;omega,HI.1,HI.2⟩,hTF⟩
theorem Vp(w:World)(x y:SV)(hx:x.Ok w)(hy:y.Ok w)(hne:x.p≠y.p) :
  Calls Tryz.prog 141 #[.agg #[.bool x.fin,.int .i64 x.out,.slice x.A x.n x.c],.agg #[.bool y.fin,.int .i64 y.out,.slice y.A y.n y.c]] w λe w'=>e=.returned (.bool false)/\aC (λ_=>False) w w':=by
 obtain⟨xf,xo,xA,xn,xc,xa⟩:=x
 obtain⟨yf,yo,yA,yn,yc,ya⟩:=y
 obtain⟨xlen,xrd,xle,xmx⟩:=hx
 obtain⟨ylen,yrd,yle,ymx⟩:=hy
 simp only[SV.p] at *
 have hnm:xn<=maxLen:=qXc xle xmx
 have HX:=aB xrd
 have HXL:=aB xlen
 have HY:=aB yrd
 have HYL:=aB ylen
 have HNE:=aB hne
 clear xrd xlen yrd ylen xle xmx yle ymx hne
 by_cases e1:xf=yf
 ·subst e1
  by_cases e2:xo=yo
  ·subst e2
   by_cases e3:xn=yn
   ·subst e3
    go_in
    go_wp2_with fail
    obtain⟨w3,hw3⟩:=eX ((w.alloc (.cells #[.bool xf,.int .i64 xo,.slice xA xn xc] 170)).alloc (.cells #[.bool xf,.int .i64 xo,.slice yA xn yc] 170))
    obtain⟨X,hX⟩:=eX w.heap.size
    obtain⟨Y,hY⟩:=eX (w.heap.size+1)
    have hT3:aC (λ_=>False) w w3:=by
     rw[hw3]
     exact ((aC.refl _ _).alloc _).alloc _
    have hbX:aL w3 X 170 #[.bool xf,.int .i64 xo,.slice xA xn xc]:=by
     rw[hw3,hX]
     exact (aL.new _ _ _).alloc _
    have hbY:aL w3 Y 170 #[.bool xf,.int .i64 xo,.slice yA xn yc]:=by
     rw[hw3,hY]
     have h:=aL.new (w.alloc (.cells #[.bool xf,.int .i64 xo,.slice xA xn xc] 170)) 170 #[.bool xf,.int .i64 xo,.slice yA xn yc]
     simpa using h
    rw[<-hw3]
    try rw[<-hY]
    rw[<-hX]
    have HT3:=aB hT3
    have HBX:=aB hbX
    have HBY:=aB hbY
    clear hw3 hT3 hbX hbY hX hY
    go_loopw [30] (λiv wr=>∃ (i:Nat),iv=.int .i64 i/\i<=xn/\Hid (xa.take i=ya.take i)/\Hid (aC (λ_=>False) w3 wr)) (λiv _=>xn-(intOf iv).toNat)
    case atStart=>exact⟨0,rfl,by omega,aB rfl,aB (aC.refl _ _)⟩
    case round =>
     obtain⟨i,rfl,hi,HP,HT⟩:=hrel
     by_cases hin:i<xn
     ·have y1:(i:Int)<(xn:Int):=by omega
      have y2:(0:Int)<=(i:Int):=by omega
      have z2:IntKind.i64.wrap ((i:Int)+1)=(i:Int)+1:=qQa _ (by unfold maxLen at hnm;omega)
      obtain⟨g,o,hA,hg,c1,c2,c3⟩:=iY (HX.quiet (HT3.then HT)).rd HXL i hin
      obtain⟨g2,o2,hA2,hg2,d1,d2,d3⟩:=iY (HY.quiet (HT3.then HT)).rd HYL i hin
      subst hA
      subst hA2
      have hsx:=kO xa (0,0,0) i (by rw[HXL.out];exact hin)
      have hsy:=kO ya (0,0,0) i (by rw[HYL.out];exact hin)
      obtain⟨⟨la,ao,tt⟩,hz⟩:∃ z,xa.getD i (0,0,0)=z:=⟨_,rfl⟩
      obtain⟨⟨lb,bo,ub⟩,hz2⟩:∃ z,ya.getD i (0,0,0)=z:=⟨_,rfl⟩
      rw[hz] at c1 c2 c3 hsx
      rw[hz2] at d1 d2 d3 hsy
      simp only at c1 c2 c3 d1 d2 d3 hsx hsy
      have HSX:=aB hsx
      have HSY:=aB hsy
      obtain⟨q1,q2,q3⟩:=(HBX.touch HT (λf=>f)).facts
      obtain⟨r1,r2,r3⟩:=(HBY.touch HT (λf=>f)).facts
      clear hz hz2 hsx hsy
      by_cases p1:la=lb
      ·subst p1
       by_cases p2:ao=bo
       ·subst p2
        by_cases p3:tt=ub
        ·subst p3
         go_wp2_with fail
         go_quiet (fail)
         go_wp2_with fail
         go_roundw
         ·refine⟨i+1,by simp,by omega,aB ?_,aB (HT.drewN _)⟩
          rw[HSX.out,HSY.out,HP.out]
         ·simp only[intOf];omega
        ·have p4:((tt:Int) == (ub:Int))=false:=by simp;omega
         go_wp2_with fail
         go_quiet (fail)
         go_wp2_with fail
         go_ret
         exact⟨rfl,HT3.then (HT.drewN _)⟩
       ·have p4:(ao == bo)=false:=by simp;exact p2
        go_wp2_with fail
        go_quiet (fail)
        go_wp2_with fail
        go_ret
        exact⟨rfl,HT3.then (HT.drewN _)⟩
      ·have p4:((la:Int) == (lb:Int))=false:=by simp;omega
       go_wp2_with fail
       go_quiet (fail)
       go_wp2_with fail
       go_ret
       exact⟨rfl,HT3.then (HT.drewN _)⟩
     ·have hie:i=xn:=by omega
      exfalso
      subst hie
      have h:=HP.out
      rw[qQc (by rw[HXL.out];exact qZa _),qQc (by rw[HYL.out];exact qZa _)] at h
      exact HNE (by rw[h])
   ·have e4:((xn:Int) == (yn:Int))=false:=by simp;omega
    go_in
    cases xf
    ·go_wp2_with fail
     go_ret
     exact⟨rfl,((aC.refl _ _).alloc _).alloc _⟩
    ·go_wp2_with fail
     go_ret
     exact⟨rfl,((aC.refl _ _).alloc _).alloc _⟩
  ·have e4:(xo == yo)=false:=by simp;exact e2
   go_in
   cases xf
   ·go_wp2_with fail
    go_ret
    exact⟨rfl,((aC.refl _ _).alloc _).alloc _⟩
   ·go_wp2_with fail
    go_ret
    exact⟨rfl,((aC.refl _ _).alloc _).alloc _⟩
 ·go_in
  cases xf
  ·cases yf
   ·exact absurd rfl e1
   ·go_wp2_with fail
    go_ret
    exact⟨rfl,((aC.refl _ _).alloc _).alloc _⟩
  ·cases yf
   ·go_wp2_with fail
    go_ret
    exact⟨rfl,((aC.refl _ _).alloc _).alloc _⟩
   ·exact absurd rfl e1
def nN(s:List Bool):Array Value:=(s.map Value.bool).toArray
theorem Ay(s:List Bool)(i:Nat)(h:i<s.length):(nN s)[i]? = some (.bool (s.getD i false)):=by
 simp[nN,qXa,h]
theorem Pw(s:List Bool)(i:Nat)(b:Bool):(nN s).setIfInBounds i (.bool b)=nN (s.set i b):=by
 simp[nN,List.map_set]
theorem rG{v:Nat->List Bool->Nat->Bool × List Bool × Nat}(hv:∀ i s n,(v i s n).2.1.length=s.length):∀ l s n,(eD v l s n).2.1.length=s.length
 | [],_,_=>rfl
 | a :: l,s,n=>by
  simp only[eD]
  split
  ·exact rG hv l s n
  ·have h:=hv a.2.2 s n
   split
   ·rename_i s' n' e
    rw[e] at h
    rw[rG hv l s' n']
    exact h
   ·rename_i s' n' e
    rw[e] at h
    exact h
theorem Pe(sts:List cU):∀ f i s n,(gZ sts f i s n).2.1.length=s.length
 | 0,_,_,_=>rfl
 | f+1,i,s,n=>by
  simp only[gZ]
  have h:=rG (Pe sts f) (sts.getD i aY).arcs s n
  split
  ·rename_i s' n' e
   rw[e] at h
   simp only[List.length_set]
   exact h
  ·rename_i s' n' e
   rw[e] at h
   exact h
def aLh(Z:List SV)(base:Int)(A:Option Addr)(n c M S V Y g:Nat)(f:Nat):Prop :=
 ∀ (w:World) (i:Nat) (s s':List Bool) (nx nx':Nat),aL w M 89 #[.int .i64 base,.slice A n c]->eW w A n Z->aL w S 282 #[.slice (some ⟨g,0,none⟩) n n]->aL w g 4 (nN s) ->
  aL w V 276 #[.func (.func 173) #[] #[.pointer (some ⟨M,0,none⟩),.pointer (some ⟨S,0,none⟩),.pointer (some ⟨V,0,none⟩),.pointer (some ⟨Y,0,none⟩)]]->aL w Y 3 #[.int .i64 nx]->i<n->s.length=n ->
  gZ (Z.map SV.p) f i s nx=(true,s',nx') ->
  Calls Tryz.prog 173 #[.int .i64 i,.pointer (some ⟨M,0,none⟩),.pointer (some ⟨S,0,none⟩),.pointer (some ⟨V,0,none⟩),.pointer (some ⟨Y,0,none⟩)] w λe w'=>e=.returned (.bool true)/\aL w' g 4 (nN s')/\aL w' Y 3 #[.int .i64 nx']/\aC (λx=>x=g\/x=Y) w w'
theorem Iq(Z:List SV)(base:Int)(A:Option Addr)(n c M S V Y g:Nat)(hlt:∀ z∈Z,∀ a∈z.arcs,a.2.2<n)(hn:n<=1000000):∀ f,aLh Z base A n c M S V Y g f
 | 0=>by
  intro w i s s' nx nx' _ _ _ _ _ _ _ _ h
  simp[gZ] at h
 | f+1=>by
  intro w i s s' nx nx' hM hst hS hg hV hY hi hsl hvis
  have ih:=Iq Z base A n c M S V Y g hlt hn f
  obtain⟨b,o,hA,hb,c0,c1,c2⟩:=jE hst.rd.rd hst.len i hi
  have hzm:=cJ Z cH i (by rw[hst.len];exact hi)
  have hlz:=hlt _ hzm
  have hel:=hst.el _ hzm
  have hsg:((Z.map SV.p).getD i aY).arcs=(Z.getD i cH).arcs:=by
   simp[qXa,hst.len,hi,SV.p]
  subst hA
  simp only[gZ] at hvis
  rw[hsg] at hvis
  obtain⟨⟨fin,out,aA,q,ac,arcs⟩,hz⟩:∃ z,Z.getD i cH=z:=⟨_,rfl⟩
  rw[hz] at c0 c1 c2 hlz hel hvis
  simp only at c0 c1 c2 hlz hvis
  obtain⟨alen,ard,ale,amx⟩:=hel
  simp only at alen ard ale amx
  have hqm:q<=maxLen:=qXc ale amx
  obtain⟨m0,m1,m2⟩:=hM.facts
  have HM:=aB hM
  have HST:=aB hst
  have HS:=aB hS
  have HG:=aB hg
  have HV:=aB hV
  have HY:=aB hY
  have HSL:=aB hsl
  have HLZ:=aB hlz
  have HAL:=aB alen
  have HRD:=aB ard
  have HVIS:=aB hvis
  have HIH:=aB ih
  have HZM:Hid (∀ wr,aC (λx=>x=g\/x=Y) w wr->aL wr M 89 #[.int .i64 base,.slice (some ⟨b,o,none⟩) n c]/\eW wr (some ⟨b,o,none⟩) n Z/\aL wr S 282 #[.slice (some ⟨g,0,none⟩) n n]/\aL wr V 276 #[.func (.func 173) #[] #[.pointer (some ⟨M,0,none⟩),.pointer (some ⟨S,0,none⟩),.pointer (some ⟨V,0,none⟩),.pointer (some ⟨Y,0,none⟩)]]/\gL wr 173 3 aA q (dQ arcs)):=by
   intro wr T
   have hno:∀ t,t ≠ 4 -> t ≠ 3 -> ∀ x,bQ w x t->¬ (x=g\/x=Y):=by
    intro t h1 h2 x hx hor
    rcases hor with e | e
    ·exact hx.ne (aG hg) h1 e
    ·exact hx.ne (aG hY) h2 e
   refine⟨hM.touch T (hno _ (by decide) (by decide) _ (aG hM)),⟨hst.rd.touch T (hno _ (by decide) (by decide)),hst.len,λz hz=>(hst.el z hz).touch T (hno _ (by decide) (by decide))⟩,hS.touch T (hno _ (by decide) (by decide) _ (aG hS)),hV.touch T (hno _ (by decide) (by decide) _ (aG hV)),ard.touch T (hno _ (by decide) (by decide))⟩
  clear hM hst hS hg hV hY hsl hlz alen ard hvis ih hzm hsg hz hlt ale amx
  go_in
  go_wp2_with fail
  go_loopw [16] (λiv wr=>∃ (j:Nat) (sj:List Bool) (nj:Nat),iv=.int .i64 j/\j<=q/\sj.length=n/\Hid (eD (gZ (Z.map SV.p) f) arcs s nx=eD (gZ (Z.map SV.p) f) (arcs.drop j) sj nj)/\Hid (aL wr g 4 (nN sj))/\Hid (aL wr Y 3 #[.int .i64 nj])/\Hid (aC (λx=>x=g\/x=Y) w wr)) (λiv _=>q-(intOf iv).toNat)
  case atStart=>exact⟨0,s,nx,rfl,by omega,HSL,aB rfl,HG,HY,aB (aC.refl _ _)⟩
  case round =>
   obtain⟨j,sj,nj,rfl,hj,hsj,HE,HGj,HYj,HT⟩:=hrel
   obtain⟨hMr,hSTr,hSr,hVr,hAr⟩:=HZM.out wr HT
   obtain⟨p0,p1,p2⟩:=hSr.facts
   obtain⟨v0,v1,v2⟩:=hVr.facts
   by_cases hjq:j<q
   ·have y1:(j:Int)<(q:Int):=by omega
    have y2:(0:Int)<=(j:Int):=by omega
    have z2:IntKind.i64.wrap ((j:Int)+1)=(j:Int)+1:=qQa _ (by unfold maxLen at hqm;omega)
    obtain⟨ag,ao,hA,hag,d0,d1,d2⟩:=iY hAr.rd HAL j hjq
    subst hA
    have hto:=HLZ.out _ (cJ arcs (0,0,0) j (by rw[HAL.out];exact hjq))
    have hdr:arcs.drop j=arcs.getD j (0,0,0) :: arcs.drop (j+1):=by
     rw[List.drop_eq_getElem_cons (by rw[HAL.out];exact hjq)]
     simp[qXa,HAL.out,hjq]
    have he:=HE.out
    rw[hdr] at he
    obtain⟨⟨la,ua,tt⟩,hz⟩:∃ z,arcs.getD j (0,0,0)=z:=⟨_,rfl⟩
    rw[hz] at d0 d1 d2 hto he
    simp only at d0 d1 d2 hto he
    simp only[eD] at he
    have hcs:wr.cell? ⟨g,tt,none⟩=some (.bool (sj.getD tt false)):=by
     rw[HGj.cell]
     exact Ay _ _ (by rw[hsj];exact hto)
    have hgl:=HGj.lt
    have y3:(0:Int)<=(tt:Int):=by omega
    have y4:(tt:Int)<(n:Int):=by omega
    clear hz hdr hMr hSTr hSr hVr hAr
    by_cases hseen:sj.getD tt false=true
    ·rw[if_pos hseen] at he
     rw[hseen] at hcs
     have HEE:=aB he
     clear he hseen
     go_wp2_with fail
     go_roundw
     ·exact⟨j+1,sj,nj,by simp,by omega,hsj,aB HEE,aB (HGj.alloc _),aB (HYj.alloc _),aB (HT.alloc _)⟩
     ·simp only[intOf];omega
    ·rw[if_neg hseen] at he
     have hsf:sj.getD tt false=false:=by simpa using hseen
     rw[hsf] at hcs
     obtain⟨⟨okv,s1,n1⟩,hvf⟩:∃ r,gZ (Z.map SV.p) f tt sj nj=r:=⟨_,rfl⟩
     rw[hvf] at he
     cases okv with
     | false =>
      simp only at he
      have hv:=HVIS.out
      rw[he] at hv
      simp at hv
     | true =>
      simp only at he
      have HEE:=aB he
      have hs1:s1.length=n:=by
       have:=Pe (Z.map SV.p) f tt sj nj
       rw[hvf] at this
       simp only at this
       omega
      obtain⟨u,hu⟩:=eX (wr.alloc (.cells #[.int .i32 la,.int .i64 ua,.int .i64 tt] 173))
      have hTu:aC (λx=>x=g\/x=Y) w u:=by rw[hu];exact HT.alloc _
      have hTu2:aC (λ_=>False) wr u:=by rw[hu];exact (aC.refl _ _).alloc _
      obtain⟨k1,k2,k3,k4,_⟩:=HZM.out u hTu
      have hcall:=HIH.out u tt sj s1 nj n1 k1 k2 k3 (HGj.touch hTu2 (λf=>f)) k4 (HYj.touch hTu2 (λf=>f)) hto hsj hvf
      have HU:=aB hu
      have HTU:=aB hTu
      have HCALL:=aB hcall
      clear he hseen hsf hu hTu hTu2 k1 k2 k3 k4 hcall hvf
      go_wp2_with ((go_at_call 173;rw[<-HU.out];refine (HCALL).mono ?_;rintro e v2 ⟨rfl,hg2,hy2,T2⟩;have HG2:=aB hg2;have HY2:=aB hy2;have HT2:=aB (HTU.then T2);clear hg2 hy2 T2))
      go_roundw
      ·exact⟨j+1,s1,n1,by simp,by omega,hs1,HEE,HG2,HY2,HT2⟩
      ·simp only[intOf];omega
   ·have hjq2:j=q:=by omega
    subst hjq2
    have he:=HE.out
    rw[show arcs.drop j=[] from List.drop_eq_nil_of_le (by rw[HAL.out];exact qZa _)] at he
    simp only[eD] at he
    have hv:=HVIS.out
    rw[he] at hv
    simp only[Prod.mk.injEq,decide_eq_true_eq] at hv
    obtain⟨h1,h2,h3⟩:=hv
    have hnj:nj=i:=by omega
    subst hnj
    have hcs:wr.cell? ⟨g,nj,none⟩=some (.bool (sj.getD nj false)):=by
     rw[HGj.cell]
     exact Ay _ _ (by rw[hsj];exact hi)
    have hgl:=HGj.lt
    have hgf:=HGj.frozen nj
    obtain⟨r0,r1,r2⟩:=HYj.facts
    have z2:IntKind.i64.wrap ((nj:Int)+1)=(nj:Int)+1:=qQa _ (by omega)
    have hgY:¬ g=Y:=HGj.ne_ HYj (by decide)
    have hYg:¬ Y=g:=λe=>hgY e.symm
    have hYS:¬ Y=S:=HYj.ne_ hSr (by decide)
    have hgS:¬ g=S:=HGj.ne_ hSr (by decide)
    have y3:(0:Int)<=(nj:Int):=by omega
    have y4:(nj:Int)<(n:Int):=by omega
    have H2:=aB h2
    have H3:=aB h3
    clear he h1 h2 h3 hMr hSTr hSr hVr hAr
    go_wp2_with fail
    go_ret
    refine⟨by simp,?_,?_,?_⟩
    ·rw[<-H2.out,<-Pw]
     exact (HGj.set_ _ _).far hgY _
    ·have:=((HYj.far hYg (p:=⟨g,nj,none⟩) (.bool true)).set_ 0 (.int .i64 ((nj:Int)+1)))
     rw[<-H3.out]
     simpa using this
    ·exact (HT.setCell (λ_=>.inl rfl) _).setCell (λ_=>.inr rfl) _
theorem aBx:(Tryz.prog.info? 4).map (λi=>(i.zero,i.size,i.bytes))=some (some (.bool false),1,1):=by kernel_rfl
theorem Nd{base:Nat}{e:TypeId}{size g:Nat}{xs:List Value}(h:w.ownsRow base e size (.slice (some ⟨g,0,none⟩) n n) n xs):aL w g e xs.toArray:=by
 obtain⟨hl,h | ⟨g',cap,cur,hv,_,hg,_,_,hsz,htk⟩⟩:=h
 ·simp at h
 ·injection hv with h1 h2 h3
  simp only[Option.some.injEq,Addr.mk.injEq] at h1
  obtain⟨rfl,_⟩:=h1
  subst h3
  have:cur.toList=xs:=by rw[<-htk,qQc (by simp[hsz])]
  rw[<-this]
  exact hg
theorem Jn(w:World)(base:Int)(A:Option Addr)(n c:Nat)(Z:List SV)(hst:eW w A n Z)(hlt:∀ z∈Z,∀ a∈z.arcs,a.2.2<n)(hn0:0<n)(hn:n<=1000000)(F:Nat)(s':List Bool)(hvis:gZ (Z.map SV.p) F (n-1) (qJb n false) 0=(true,s',n)) :
  Calls Tryz.prog 142 #[.agg #[.int .i64 base,.slice A n c]] w λe w'=>e=.returned (.bool true)/\aC (λ_=>False) w w':=by
 obtain⟨i0,hi,hz0,hz1,hz2⟩:=aQ aBx
 have HST:=aB hst
 have HV:=aB hvis
 have hmf:∀ (fn:Fn) (first cap:Array Value) (w:World),(Instr.makeFunc fn first cap).run Tryz.prog w=.ok (.func fn first cap) w:=λ_ _ _ _=>rfl
 have z1:IntKind.i64.wrap ((n:Int)-1)=(n:Int)-1:=qQa _ (by omega)
 clear hst hvis
 go_in
 go_wp2_with (refine wpList_make_full _ rfl (.tmp 8) (.tmp 8) 282 rfl 0 4 i0 _ 1 Tryz.underlying282 hi hz0 hz1 .i64 .i64 (n:Int) (n:Int) n rfl rfl rfl rfl ?b2 ?b3 (Nat.zero_le _) ?_)
 case b2=>rw[hz2];omega
 case b3=>unfold maxLen;omega
 intro w1 O1 G1
 have hmc:(madeCells #[Value.bool false] n).toList=(qJb n false).map .bool:=by
  unfold madeCells
  apply List.ext_getElem
  ·simp
  ·intro i h1 h2
   simp[Nat.mod_one]
 rw[hmc] at O1
 obtain⟨M,hM⟩:=eX w.heap.size
 obtain⟨Y,hY⟩:=eX (w.heap.size+1)
 obtain⟨g,hg⟩:=eX (w.heap.size+1+1)
 have hbM:aL w1 M 89 #[.int .i64 base,.slice A n c]:=by
  rw[hM]
  exact ((aL.new _ _ _).alloc _).grown G1 (by simp)
 have hbY:aL w1 Y 3 #[.int .i64 ((0:Nat):Int)]:=by
  rw[hY]
  exact (iA _ _ _ _).grown G1 (by simp)
 rw[<-hg] at O1
 have hbg:aL w1 g 4 (nN (qJb n false)):=Nd O1
 have hT1:aC (λ_=>False) w w1:=(((aC.refl _ _).alloc _).alloc _).grown G1 (λk h=>by cases h)
 rw[<-hg,<-hY,<-hM]
 have HBM:=aB hbM
 have HBY:=aB hbY
 have HBG:=aB hbg
 have HT1:=aB hT1
 have HM:=aB hM
 have HY:=aB hY
 have HG:=aB hg
 obtain⟨q1,q2,q3⟩:=hbM.facts
 obtain⟨r1,r2,r3⟩:=hbY.facts
 clear O1 G1 hmc hM hY hg hbM hbY hbg hT1
 obtain⟨u1,hu1⟩:=eX ((w1.alloc (.cells #[.slice (some ⟨g,0,none⟩) n n] 282)).alloc (.cells #[.func (.func 173) #[] #[.pointer (some ⟨M,0,none⟩),.pointer (some ⟨w1.heap.size,0,none⟩),.pointer (some ⟨w1.heap.size+1,0,none⟩),.pointer (some ⟨Y,0,none⟩)]] 276))
 have hTu:aC (λ_=>False) w1 u1:=by rw[hu1];exact ((aC.refl _ _).alloc _).alloc _
 have hbS:aL u1 w1.heap.size 282 #[.slice (some ⟨g,0,none⟩) n n]:=by rw[hu1];exact (aL.new _ _ _).alloc _
 have hbV:aL u1 (w1.heap.size+1) 276 #[.func (.func 173) #[] #[.pointer (some ⟨M,0,none⟩),.pointer (some ⟨w1.heap.size,0,none⟩),.pointer (some ⟨w1.heap.size+1,0,none⟩),.pointer (some ⟨Y,0,none⟩)]]:=by rw[hu1];exact iA _ _ _ _
 have hb1M:=HBM.touch hTu (λf=>f)
 have hb1Y:=HBY.touch hTu (λf=>f)
 have hb1g:=HBG.touch hTu (λf=>f)
 have hst1:=(HST.quiet HT1).quiet hTu
 have hcall:=Iq Z base A n c M w1.heap.size (w1.heap.size+1) Y g hlt hn F u1 (n-1) (qJb n false) s' 0 n hb1M hst1 hbS hb1g hbV hb1Y (by omega) (by simp) HV
 rw[show (((n-1:Nat):Int))=(n:Int)-1 by omega] at hcall
 have hgY:¬ M=g:=hb1M.ne_ hb1g (by decide)
 have hgY2:¬ M=Y:=hb1M.ne_ hb1Y (by decide)
 have HU1:=aB hu1
 have HCALL:=aB hcall
 have HTT:=aB (HT1.then hTu)
 have HB1M:=aB hb1M
 have HN:=aB (λh=>h.elim hgY hgY2:¬ (M=g\/M=Y))
 clear hTu hbS hbV hu1 hb1M hb1Y hb1g hst1 hcall hgY hgY2
 go_wp2_with ((go_at_call 173;rw[<-HU1.out];refine (HCALL).mono ?_;rintro e v2 ⟨rfl,hg2,hy2,T2⟩;have HT2:=aB T2;obtain⟨k1,k2,k3⟩:=hy2.facts;obtain⟨l1,l2,l3⟩:=(HB1M.touch T2 HN).facts;clear hg2 hy2 T2))
 go_ret
 refine⟨rfl,HTT.trans HT2 λi hi e=>?_⟩
 have h1:=HG.out
 have h2:=HY.out
 omega
section
open Go.RowKit Go.WideMaps Go.WideElems Go.ChangeShapes Go.WideShapes Go.MapKept Go.ChangeMaps
theorem uN:ArrKey Tryz.prog 246 3 4:=⟨Tryz.underlying246,by kernel_rfl,by kernel_rfl,by kernel_rfl⟩
theorem gW:KeyLaw Tryz.prog 246 := uN.law
theorem aJb:Tryz.prog.keyType 246 = true:=by kernel_rfl
theorem Fx:Tryz.prog.cellsOf 3 = 1:=by kernel_rfl
theorem Rd{x:Int}(h:oW x):(Lit.int .i64 x).wf=true:=by
 have h1:IntKind.i64.min = -9223372036854775808:=by decide
 have h2:IntKind.i64.max=9223372036854775807:=by decide
 unfold oW at h
 simp only[Lit.wf,h1,h2,Bool.and_eq_true,decide_eq_true_eq]
 exact h
theorem aGa{a b c d:Int}(ha:oW a)(hb:oW b)(hc:oW c)(hd:oW d):∃ l,keyOf Tryz.prog 246 (.agg #[.int .i64 a,.int .i64 b,.int .i64 c,.int .i64 d])=some l:=by
 have hs:∃ m,Tryz.prog.types.size=m+1:=⟨Tryz.prog.types.size-1,by kernel_rfl⟩
 obtain⟨m,hm⟩:=hs
 refine⟨.string (keyBytes [.int .i64 a,.int .i64 b,.int .i64 c,.int .i64 d]),?_⟩
 unfold keyOf
 simp only[uN.hu,aJb,Value.formed,uN.size,Bool.true_and]
 rw[hm]
 unfold Program.keyLits
 simp only[uN.hu,uN.size,Value.cells]
 have e1:∀ x,oW x->Tryz.prog.keyLits (m+1) 3 [.int .i64 x]=some [.int .i64 x]:=by
  intro x hx
  unfold Program.keyLits
  simp[Tryz.underlying3,Rd hx]
 simp[List.range,List.range.loop,Fx,e1 _ ha,e1 _ hb,e1 _ hc,e1 _ hd]
def qV(k:Nat):Value:=.int .i64 k
def oB(w:World)(m:Nat)(v:Value)(xs:List Nat):Prop:=w.ownsRow 0 3 1 v xs.length (xs.map qV)/\xs.length<=m/\∀ k∈xs,k<m
structure Eo(w:World)(B b m:Nat)(es:Array MapEntry)(clock:Nat):Prop where
 blk:w.heap[b]? = some (.map es clock)
 stamped:Stamped es clock
 keys:∀ x∈es.toList,∃ l,keyOf Tryz.prog 246 x.key=some l
 vals:∀ (i:Nat) (x:MapEntry),es[i]? = some x->∃ xs,oB w m x.val xs
 young:∀ (i:Nat) (x:MapEntry),es[i]? = some x->∀ g,x.val.ownBlock=some g->B<=g
 apart:∀ (i j:Nat) (x y:MapEntry),es[i]? = some x->es[j]? = some y->i≠j->∀ g,x.val.ownBlock=some g->y.val.ownBlock≠some g
theorem oB.nil(w:World)(m:Nat):oB w m (.slice none 0 0) []:=⟨World.ownsRow_nil _ _ _ _,Nat.zero_le _,λk hk=>(by cases hk)⟩
theorem nS{g:Nat}{t:TypeId}(h:bQ w g t)(hb:w.heap[b]? = some (.map es clock)):g≠b:=by
 obtain⟨cs,fr,hg⟩:=h
 intro e
 rw[e,hb] at hg
 cases hg
theorem dV(w:World)(b:Nat)(o:Obj):aC (λx=>x=b) w (setBlock w b o) :=
 ⟨rfl,rfl,rfl,by simp[setBlock],λk _ hk=>by
  have:b≠k:=λe=>hk e.symm
  simp[setBlock,this]⟩
theorem fO{o:Obj}(h:b<w.heap.size):(setBlock w b o).heap[b]? = some o:=by
 simp[setBlock,h]
theorem pD{o:Obj}(h:w.heap[b]? = some o):b<w.heap.size:=by
 rcases Nat.lt_or_ge b w.heap.size with h1 | h1
 ·exact h1
 ·rw[Array.getElem?_eq_none h1] at h;cases h
theorem oB.touch{v:Value}{xs:List Nat}{S:Nat->Prop}(h:oB w m v xs)(T:aC S w w')(hs:∀ g,v.ownBlock=some g->¬ S g):oB w' m v xs:=⟨aF h.1 T hs,h.2⟩
theorem Eo.quiet(h:Eo w B b m es clock)(T:aC (λ_=>False) w w'):Eo w' B b m es clock :=
 ⟨(T.block b (pD h.blk) (λf=>f)).trans h.blk,h.stamped,h.keys,λi x hx=>by
   obtain⟨xs,hr⟩:=h.vals i x hx
   exact⟨xs,hr.touch T (λ_ _ f=>f)⟩,h.young,h.apart⟩
theorem Eo.far{S:Nat->Prop}(h:Eo w B b m es clock)(T:aC S w w')(hb:¬ S b)(hs:∀ g,bQ w g 3 -> ¬ S g):Eo w' B b m es clock :=
 ⟨(T.block b (pD h.blk) hb).trans h.blk,h.stamped,h.keys,λi x hx=>by
   obtain⟨xs,hr⟩:=h.vals i x hx
   exact⟨xs,hr.touch T (λg hg=>hs g (aM hr.1 hg))⟩,h.young,h.apart⟩
theorem Eo.up{m':Nat}(h:Eo w B b m es clock)(hm:m<=m'):Eo w B b m' es clock :=
 ⟨h.blk,h.stamped,h.keys,λi x hx=>by
  obtain⟨xs,h1,h2,h3⟩:=h.vals i x hx
  exact⟨xs,h1,by omega,λk hk=>by have:=h3 k hk;omega⟩,h.young,h.apart⟩
theorem Eo.lookup(h:Eo w B b m es clock){key:Value}{l:Lit}(hk:keyOf Tryz.prog 246 key=some l) :
  ∃ v xs,(Instr.lookup 241 (.map (some b)) key false).run Tryz.prog w=.ok v w/\oB w m v xs:=by
 rcases gW.find w hk es.toList h.keys with⟨h1,h2⟩ | ⟨j,e0,h1,h2,h3⟩
 ·refine⟨.slice none 0 0,[],?_,oB.nil _ _⟩
  simp[Instr.lookup,run_underlying Tryz.underlying241,MapKept.run_getObj_map h.blk,gW.check w _ hk,h1,Result.andThen]
 ·obtain⟨xs,hr⟩:=h.vals j e0 (by simpa using h2)
  refine⟨e0.val,xs,?_,hr⟩
  simp[Instr.lookup,run_underlying Tryz.underlying241,MapKept.run_getObj_map h.blk,gW.check w _ hk,h1,Result.andThen]
theorem Eo.entry(h:Eo w B b m es clock){key:Value}{l:Lit}(hk:keyOf Tryz.prog 246 key=some l) :
  ∃ (es1:Array MapEntry) (clock1 j:Nat) (e0:MapEntry),(Instr.mapEntry 241 (.map (some b)) key).run Tryz.prog w=.ok (.tuple #[e0.val,goInt e0.born]) (setBlock w b (.map es1 clock1))/\Eo (setBlock w b (.map es1 clock1)) B b m es1 clock1/\es1[j]? = some e0:=by
 have hT:=λo=>dV w b o
 have hlt:=pD h.blk
 have hne:∀ (i:Nat) (x:MapEntry),es[i]? = some x->∀ g,x.val.ownBlock=some g->¬ g=b:=by
  intro i x hx g hg
  obtain⟨xs,hr⟩:=h.vals i x hx
  exact nS (aM hr.1 hg) h.blk
 rcases gW.find w hk es.toList h.keys with⟨h1,h2⟩ | ⟨j,e0,h1,h2,h3⟩
 ·refine⟨es.push ⟨key,.slice none 0 0,clock⟩,clock+1,es.size,⟨key,.slice none 0 0,clock⟩,?_,⟨fO hlt,stamped_push h.stamped h2,?_,?_,?_,?_⟩,by simp⟩
  ·simp[Instr.mapEntry,run_underlying Tryz.underlying241,MapKept.run_getObj_map h.blk,gW.check w false hk,h1,MapKept.run_setObj_map _ h.blk,Result.andThen,setBlock]
  ·intro x hx
   simp only[Array.toList_push,List.mem_append,qZd] at hx
   rcases hx with hx | rfl
   ·exact h.keys x hx
   ·exact⟨l,hk⟩
  ·intro i x hx
   rw[Array.getElem?_push] at hx
   split at hx
   ·injection hx with hx
    subst hx
    exact⟨[],oB.nil _ _⟩
   ·obtain⟨xs,hr⟩:=h.vals i x hx
    exact⟨xs,hr.touch (hT _) (hne i x hx)⟩
  ·intro i x hx g hg
   rw[Array.getElem?_push] at hx
   split at hx
   ·injection hx with hx
    subst hx
    cases hg
   ·exact h.young i x hx g hg
  ·intro i j x y hx hy hij g hg
   rw[Array.getElem?_push] at hx hy
   split at hx
   ·injection hx with hx
    subst hx
    cases hg
   ·split at hy
    ·injection hy with hy
     subst hy
     intro e
     cases e
    ·exact h.apart i j x y hx hy hij g hg
 ·have hj:es[j]? = some e0:=by simpa using h2
  have hsame:es.modify j (λe=>{ e with key:=key })=es:=by
   apply Array.ext'
   rw[Array.toList_modify,modify_eq_set _ _ _ _ h2]
   have:({ e0 with key:=key }:MapEntry)=e0:=by rw[<-h3]
   rw[this]
   exact set_self _ _ _ h2
  refine⟨es,clock,j,e0,?_,⟨fO hlt,h.stamped,h.keys,λi x hx=>?_,h.young,h.apart⟩,hj⟩
  ·simp[Instr.mapEntry,run_underlying Tryz.underlying241,MapKept.run_getObj_map h.blk,gW.check w false hk,h1,hj,h3,gW.stays w hk,hsame,MapKept.run_setObj_map _ h.blk,Result.andThen,setBlock]
  ·obtain⟨xs,hr⟩:=h.vals i x hx
   exact⟨xs,hr.touch (hT _) (hne i x hx)⟩
theorem Eo.store{w6:World}{j:Nat}{e0:MapEntry}(h:Eo w B b m es clock)(hj:es[j]? = some e0){v1:Value}{xs:List Nat}(hg:w.grownBy w6 e0.val.ownBlock)(hf:cK w e0.val v1)(hv:oB w6 (m+1) v1 xs)(hB:B<=w.heap.size) :
  ∃ es',(Instr.entryStore 241 (.map (some b)) (goInt e0.born) v1).run Tryz.prog w6=.ok () (setBlock w6 b (.map es' clock))/\Eo (setBlock w6 b (.map es' clock)) B b (m+1) es' clock:=by
 have hlt:=pD h.blk
 have hnb:∀ (i:Nat) (x:MapEntry),es[i]? = some x->∀ g,x.val.ownBlock=some g->¬ g=b:=by
  intro i x hx g hg
  obtain⟨xs,hr⟩:=h.vals i x hx
  exact nS (aM hr.1 hg) h.blk
 have hT6:aC (λx=>e0.val.ownBlock=some x) w w6:=(aC.refl _ _).grown hg (λk hk _=>hk)
 have hb6:w6.heap[b]? = some (.map es clock):=(hT6.block b hlt (λe=>hnb j e0 hj b e rfl)).trans h.blk
 have hT7:=λo=>dV w6 b o
 have hl:es.toList[j]? = some e0:=by simpa using hj
 have hidx:es.findIdx? (λe=>((e.born:Nat):Int) == ((e0.born:Nat):Int))=some j:=by
  rw[findIdx_arr]
  exact findIdx_born h.stamped.2.1 hl
 have hget:∀ i:Nat,(es.modify j (λe=>{ e with val:=v1 }))[i]? = if j=i then (es[i]?).map (λe=>{ e with val:=v1 }) else es[i]? := by
  intro i
  rw[Array.getElem?_modify]
 refine⟨es.modify j (λe=>{ e with val:=v1 }),?_,⟨fO (pD hb6),stamped_modify h.stamped j _ (λ_ _=>rfl) (λ_ _ _=>rfl),?_,?_,?_,?_⟩⟩
 ·simp[Instr.entryStore,MapKept.run_getObj_map hb6,asInt,asIntOf,goInt,hidx,MapKept.run_setObj_map _ hb6,Result.andThen,setBlock]
 ·intro x hx
  rw[Array.toList_modify,modify_eq_set _ _ _ _ hl] at hx
  rcases List.mem_or_eq_of_mem_set hx with hx | rfl
  ·exact h.keys x hx
  ·exact h.keys e0 (List.mem_of_getElem? hl)
 ·intro i x hx
  rw[hget] at hx
  split at hx
  ·rename_i hji
   subst hji
   rw[hj] at hx
   simp only[Option.map_some,Option.some.injEq] at hx
   subst hx
   refine⟨xs,hv.touch (hT7 _) λg hg' e=>?_⟩
   exact nS (aM hv.1 hg') hb6 e
  ·rename_i hji
   obtain⟨ys,hr⟩:=(h.up (Nat.le_succ m)).vals i x hx
   refine⟨ys,(hr.touch hT6 λg hg' e=>?_).touch (hT7 _) (hnb i x hx)⟩
   exact h.apart j i e0 x hj hx hji g e hg'
 ·intro i x hx g hg'
  rw[hget] at hx
  split at hx
  ·rename_i hji
   subst hji
   rw[hj] at hx
   simp only[Option.map_some,Option.some.injEq] at hx
   subst hx
   rcases hf with hf | ⟨g2,e2,hf⟩
   ·simp only at hg'
    rw[hf] at hg'
    exact h.young j e0 hj g hg'
   ·simp only at hg'
    rw[e2] at hg'
    injection hg' with hg'
    omega
  ·exact h.young i x hx g hg'
 ·have hfar:∀ (i:Nat) (x:MapEntry),es[i]? = some x->j≠i->∀ g,v1.ownBlock=some g->x.val.ownBlock≠some g:=by
   intro i x hx hji g hg' e
   rcases hf with hf | ⟨g2,e2,hf⟩
   ·rw[hf] at hg'
    exact h.apart j i e0 x hj hx hji g hg' e
   ·rw[e2] at hg'
    injection hg' with hg'
    obtain⟨ys,hr⟩:=h.vals i x hx
    have:=(aM hr.1 e).lt
    omega
  intro i k x y hx hy hik g hg'
  rw[hget] at hx hy
  split at hx
  ·rename_i hji
   rw[if_neg (by omega)] at hy
   subst hji
   rw[hj] at hx
   simp only[Option.map_some,Option.some.injEq] at hx
   subst hx
   exact hfar k y hy hik g hg'
  ·split at hy
   ·rename_i hji hjk
    subst hjk
    rw[hj] at hy
    simp only[Option.map_some,Option.some.injEq] at hy
    subst hy
    intro e
    exact hfar i x hx hji g e hg'
   ·exact h.apart i k x y hx hy hik g hg'
end
def uF(sts:List cU)(n:Nat):Nat->List S3
 | 0=>qJb n z3
 | i+1=>(uF sts n i).set i (fB (uF sts n i) (sts.getD i aY) (sts.getD i aY).arcs.length)
theorem mP(sts:List cU)(n:Nat):∀ i,(uF sts n i).length=n
 | 0=>by simp[uF]
 | i+1=>by simp[uF,mP sts n i]
structure Ap(sts:List cU)(base:Int):Prop where
 pos:0<sts.length
 few:sts.length<=98305
 base1:1<=base
 base2:base<=1048576
 root:(sts.getD (sts.length-1) aY).fin=false
 form:∀ i,i<sts.length->gB i (sts.getD i aY)
 sumB:∀ i,i<sts.length->∀ j,(0<=(fB (uF sts sts.length i) (sts.getD i aY) j).1/\(fB (uF sts sts.length i) (sts.getD i aY) j).1<=4096)/\(0<=(fB (uF sts sts.length i) (sts.getD i aY) j).2.1/\(fB (uF sts sts.length i) (sts.getD i aY) j).2.1<=24)/\(0<=(fB (uF sts sts.length i) (sts.getD i aY) j).2.2/\(fB (uF sts sts.length i) (sts.getD i aY) j).2.2<=1048576)
 sumE:∀ i,i<sts.length->∀ a∈(sts.getD i aY).arcs,(0<=((uF sts sts.length i).getD a.2.2 z3).1/\((uF sts sts.length i).getD a.2.2 z3).1<=4096)/\(0<=((uF sts sts.length i).getD a.2.2 z3).2.1/\((uF sts sts.length i).getD a.2.2 z3).2.1<=24)/\(0<=((uF sts sts.length i).getD a.2.2 z3).2.2/\((uF sts sts.length i).getD a.2.2 z3).2.2<=1048576)
 top:base+((uF sts sts.length sts.length).getD (sts.length-1) z3).2.2<=1048576
 unalike:∀ i j,i<sts.length->j<sts.length->sts.getD i aY=sts.getD j aY->i=j
 vis:∃ F s',gZ sts F (sts.length-1) (qJb sts.length false) 0=(true,s',sts.length)
theorem yF.deep(h:yF R):gT R<=24:=by
 have:gT R<25:=zW (by omega) λr hr=>by have:=h.dep r hr;omega
 omega
theorem lX?{α:Type}{l:List α}{d:α}(h:i<l.length):l[i]? = some (l.getD i d):=by
 simp[qXa,h]
theorem Uy{k:kG}(hk:nY k)(hh:∀ X∈k.rests,yF X):∀ i,i<=k.states.length->aAc k (uF k.states k.states.length i) i
 | 0,_=>λj hj=>absurd hj (Nat.not_lt_zero _)
 | i+1,hi=>λj hj R hR=>by
  have ih:=Uy hk hh i (by omega)
  simp only[uF]
  by_cases e:j=i
  ·subst e
   have hz:k.states[j]? = some (k.states.getD j aY):=lX? (by omega)
   have hc:=hk.corr j R _ hR hz
   have hhR:=hh R (List.mem_of_getElem? hR)
   have hd:=hhR.deep
   have h:=(Dt ih hc hhR hd (k.states.getD j aY).arcs.length).2.2.2.1 (qZa _)
   rw[qJd,List.getElem?_set_self (by rw[mP];omega)]
   exact h
  ·rw[qJd,List.getElem?_set_ne (by omega),<-qJd]
   exact ih j (by omega) R hR
theorem aBv(h:yF R):∀ r∈R,r.2<=1048576:=λr hr=>(h.wt r hr).2
theorem mI(hD:aZ L)(hne:L≠[]):Ap (aR L).states (aR L).base:=by
 have hm:aR L=⟨bE (aV L),(bJ 25 ⟨[],[]⟩ (aV L)).1.states⟩:=by unfold aR;rw[if_neg hne]
 rw[hm]
 have M:=aGq hD hne
 have hher:=tS 25 ⟨[],[]⟩ (aV L) (λX hX=>(by cases hX)) (Cb hD)
 have htot:=Pb hD
 have hne2:=rC hne
 obtain⟨k,hk⟩:=eX ((bJ 25 ⟨[],[]⟩ (aV L)).1)
 rw[<-hk] at M hher ⊢
 simp only
 have hwt:∀ r∈aV L,1<=r.2/\r.2<=1048576:=by
  intro r hr
  obtain⟨p,hp,rfl⟩:=List.mem_map.1 hr
  exact hD.weight p hp
 obtain⟨r0,hr0,e0⟩:=dE hne2
 have hb:=hwt r0 hr0
 have hst:∀ i,i<k.states.length->k.states[i]? = some (k.states.getD i aY):=λi hi=>lX? hi
 have hre:∀ i,i<k.states.length->∃ R,k.rests[i]? = some R/\zF k.rests i R (k.states.getD i aY)/\yF R:=by
  intro i hi
  have hl:i<k.rests.length:=by rw[M.good.len];exact hi
  refine⟨k.rests[i],qZf hl,M.good.corr i _ _ (qZf hl) (hst i hi),hher _ (List.getElem_mem hl)⟩
 have hsums:=Uy M.good hher
 have hlast:k.states.length-1<k.states.length:=by have:=M.pos;omega
 refine⟨M.pos,by have:=M.few;omega,by omega,by omega,?_,?_,?_,?_,?_,?_,⟨25,_,M.vis 25 (qZa _)⟩⟩
 ·obtain⟨R,hR,hc,_⟩:=hre _ hlast
  rw[M.root] at hR
  injection hR with hR
  subst hR
  rw[hc.fin]
  cases hf:gY (aK (aV L)) with
  | false=>rfl
  | true =>
   exfalso
   obtain⟨n,hn⟩:=eY.1 hf
   have h1:=dY.1 hn
   obtain⟨p,hp,e⟩:=List.mem_map.1 h1
   simp only[Prod.mk.injEq] at e
   have:=(hD.word p hp).2.2.1
   rw[e.1] at this
   simp at this
 ·intro i hi
  obtain⟨R,hR,hc,hh⟩:=hre i hi
  exact wP hc hh
 ·intro i hi j
  obtain⟨R,hR,hc,hh⟩:=hre i hi
  obtain⟨h1,h2,h3,_,_⟩:=Dt (hsums i (by omega)) hc hh hh.deep j
  refine⟨h1,⟨h2.1,?_⟩,h3.1,h3.2 _ (aBv hh)⟩
  have:=hh.deep
  omega
 ·intro i hi a ha
  obtain⟨R,hR,hc,hh⟩:=hre i hi
  obtain⟨h1,h2,h3,h4,h5,h6⟩:=(Dt (hsums i (by omega)) hc hh hh.deep 0).2.2.2.2 a ha
  exact⟨⟨h1,h2⟩,⟨h3,h4⟩,h5,h6⟩
 ·have h:=hsums k.states.length (qZa _) (k.states.length-1) hlast _ M.root
  have h2:=h.wt1 (1048576-bE (aV L)) λr hr=>by
   have h3:=hwt _ (dY.1 (show (r.1,r.2)∈aK (aV L) from hr))
   simp only at h3
   omega
  omega
 ·intro i j hi hj e
  have h1:=hst i hi
  have h2:=hst j hj
  rw[<-e] at h2
  exact M.good.unalike h1 h2
end Go.Proofs.YthockgmbooefpaaGreatDoor
