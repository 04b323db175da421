/- What the law rests on, part 4. No condition but those that each theorem names. -/
import Derived.Test.YthockgmbooefpaaGreatDoorL03
import Derived.StillTailTactics
import Derived.Deep.AppendLies
import Derived.Deep.RegionLaw
set_option linter.unusedSectionVars false
set_option linter.unusedSimpArgs false
set_option linter.unusedVariables false
set_option maxRecDepth 100000
set_option maxHeartbeats 4000000
namespace Go.Proofs.YthockgmbooefpaaGreatDoor
theorem said_write {r:Nat} (hr:r<1114112):saidU (writeU r).length (writeU r)=r:=by
 unfold writeU
 split
 ·simp only [saidU,List.length_cons,List.length_nil,UInt8.toNat_ofNat']
  omega
 ·split
  ·simp only [saidU,List.length_cons,List.length_nil,UInt8.toNat_ofNat']
   omega
  ·split
   ·simp only [saidU,List.length_cons,List.length_nil,UInt8.toNat_ofNat']
    omega
   ·simp only [saidU,List.length_cons,List.length_nil,UInt8.toNat_ofNat']
    omega
theorem runes_write {r:Nat} (hs:scal r=true):runesU (writeU r)=some [r]:=by
 have hl:=write_len r
 have hit:utf1 (writeU r)=(r,(writeU r).length):=by
  have:=utf1_hit (n:=(writeU r).length) (bs:=writeU r) hl.1 hl.2 (Nat.le_refl _) ⟨by rw [said_write (scal_lt hs)];exact hs,by rw [said_write (scal_lt hs),List.take_length]⟩
  rw [said_write (scal_lt hs)] at this
  exact this
 rw [runesU_step hl.1,hit]
 simp only
 rw [if_neg (by omega),List.drop_length,runesU_nil]
 rfl
theorem word_write {r:Nat} (hs:scal r=true) (hf:fitU r=true):wordU (writeU r)=true:=by
 have hl:=write_len r
 unfold wordU
 rw [runes_write hs]
 simp only [List.all_cons,List.all_nil,Bool.and_true,hf,List.length_cons,List.length_nil,Bool.and_eq_true,decide_eq_true_eq]
 exact ⟨by omega,trivial,by omega,by omega⟩
structure Her (R:Rs):Prop where
 len:R.length≤4096
 run:∀ r∈R,∀ c∈r.1,scal c=true∧fitU c=true
 dep:∀ r∈R,r.1.length≤24
 wt:∀ r∈R,0≤r.2∧r.2≤1048576
theorem level_len (R:Rs):(levelR R).length=R.length:=by simp [levelR]
theorem Her.level {R:Rs} (h:Her R):Her (levelR R):=by
 have key:∀ r∈levelR R,(r.1,r.2+leastR R)∈R:=fun r hr=>mem_level.1 (show (r.1,r.2)∈levelR R from hr)
 refine ⟨by rw [level_len];exact h.len,fun r hr=>h.run (r.1,r.2+leastR R) (key r hr),fun r hr=>h.dep (r.1,r.2+leastR R) (key r hr),fun r hr=>?_⟩
 have h1:=h.wt _ (key r hr)
 have h2:=leastR_le (key r hr)
 have hne:R≠[]:=List.ne_nil_of_mem (key r hr)
 obtain ⟨s,hs,e⟩:=leastR_mem hne
 have h3:=h.wt _ hs
 simp only at h1 h2
 omega
theorem Her.under {R:Rs} (h:Her R) (c:Nat):Her (underR R c):=by
 have key:∀ r∈underR R c,(c :: r.1,r.2)∈R:=fun r hr=>mem_under.1 (show (r.1,r.2)∈underR R c from hr)
 refine ⟨Nat.le_trans (List.length_filterMap_le _ _) h.len,fun r hr d hd=>h.run _ (key r hr) d (List.mem_cons_of_mem _ hd),fun r hr=>?_,fun r hr=>h.wt (c :: r.1,r.2) (key r hr)⟩
 have:=h.dep _ (key r hr)
 simp only [List.length_cons] at this
 omega
theorem arcs_her {st:KnP→Rs→KnP × Nat} (hst:∀ k l,(∀ X∈k.rests,Her X)→Her l→∀ X∈(st k l).1.rests,Her X) {R:Rs} (hR:Her R):∀ (cs:List Nat) (k:KnP),(∀ X∈k.rests,Her X)→∀ X∈(arcsF st R k cs).1.rests,Her X
 | [],_,hk=>hk
 | c :: cs,k,hk=>by
  simp only [arcsF]
  exact arcs_her hst hR cs _ (hst _ _ hk (hR.under c))
theorem stateF_her:∀ f k l,(∀ X∈k.rests,Her X)→Her l→∀ X∈(stateF f k l).1.rests,Her X
 | 0,_,_,hk,_=>hk
 | f+1,k,l,hk,hl=>by
  simp only [stateF]
  split
  ·exact hk
  ·intro X hX
   simp only [List.mem_append,List.mem_singleton] at hX
   rcases hX with h | h
   ·exact arcs_her (stateF_her f) hl.level _ _ hk X h
   ·rw [h];exact hl.level
theorem her_dict {L:List PRow} (h:DictP L):Her (restsL L):=by
 refine ⟨by simpa [restsL] using h.len,?_,?_,?_⟩
 ·intro r hr c hc
  obtain ⟨p,hp,rfl⟩:=List.mem_map.1 hr
  obtain ⟨h1,h2,_,_⟩:=h.word p hp
  exact ⟨(runesU_write _ _ _ (Nat.le_refl _) h1).2 c hc,List.all_eq_true.1 h2 c hc⟩
 ·intro r hr
  obtain ⟨p,hp,rfl⟩:=List.mem_map.1 hr
  exact (h.word p hp).2.2.2
 ·intro r hr
  obtain ⟨p,hp,rfl⟩:=List.mem_map.1 hr
  have:=h.weight p hp
  exact ⟨by simp only;omega,this.2⟩
def lowP (z:StP):Int:=z.arcs.foldl (fun m a=>min m a.2.1) (if z.fin=true then z.out else 1048577)
structure FormP (i:Nat) (z:StP):Prop where
 out0:0≤z.out
 out1:z.out≤1048576
 fin0:z.fin=false→z.out=0
 lab:(z.arcs.map (·.1)).Pairwise (·<·)
 run:∀ a∈z.arcs,scal a.1=true∧fitU a.1=true
 arc:∀ a∈z.arcs,0≤a.2.1∧a.2.1≤1048576∧a.2.2<i
 low:lowP z=0
theorem fold_min (l:List (Nat × Int × Nat)):∀ m:Int,l.foldl (fun m a=>min m a.2.1) m≤m∧(∀ a∈l,l.foldl (fun m a=>min m a.2.1) m≤a.2.1)∧(0≤m→(∀ a∈l,0≤a.2.1)→0≤l.foldl (fun m a=>min m a.2.1) m):=by
 induction l with
 | nil=>intro m;exact ⟨Int.le_refl _,fun a h=>(by cases h),fun h _=>h⟩
 | cons b l ih =>
  intro m
  obtain ⟨h1,h2,h3⟩:=ih (min m b.2.1)
  simp only [List.foldl_cons]
  refine ⟨Int.le_trans h1 (Int.min_le_left _ _),fun a ha=>?_,fun h0 hl=>h3 ?_ fun a ha=>hl a (List.mem_cons_of_mem _ ha)⟩
  ·rcases List.mem_cons.1 ha with e | e
   ·rw [e];exact Int.le_trans h1 (Int.min_le_right _ _)
   ·exact h2 a e
  ·have:=hl b List.mem_cons_self
   omega
theorem arc_wt {rests:List Rs} {i:Nat} {R:Rs} {z:StP} (h:Corr rests i R z) (hh:Her R) {a:Nat × Int × Nat} (ha:a∈z.arcs):0≤a.2.1∧a.2.1≤1048576∧underR R a.1≠[]:=by
 have hc:a.1∈firstsR R:=by rw [← h.labels];exact List.mem_map.2 ⟨a,ha,rfl⟩
 have hne:=mem_firsts.1 hc
 obtain ⟨s,hs,e⟩:=leastR_mem hne
 have:=(hh.under a.1).wt s hs
 rw [e,← (h.arc a ha).1] at this
 exact ⟨this.1,this.2,hne⟩
theorem form_corr {rests:List Rs} {i:Nat} {R:Rs} {z:StP} (h:Corr rests i R z) (hh:Her R):FormP i z:=by
 have hout:0≤z.out∧z.out≤1048576∧(z.fin=false→z.out=0):=by
  rw [h.out,h.fin]
  cases hf:finR R with
  | false=>rw [outR_none h.sort hf];exact ⟨by omega,by omega,fun _=>rfl⟩
  | true =>
   obtain ⟨n,hn⟩:=finR_iff.1 hf
   rw [outR_mem h.sort hn]
   have:=hh.wt _ hn
   exact ⟨this.1,this.2,fun e=>by cases e⟩
 have harc:∀ a∈z.arcs,0≤a.2.1∧a.2.1≤1048576∧a.2.2<i:=fun a ha=>⟨(arc_wt h hh ha).1,(arc_wt h hh ha).2.1,(h.arc a ha).2.1⟩
 refine ⟨hout.1,hout.2.1,hout.2.2,by rw [h.labels];exact firsts_sorted h.sort,?_,harc,?_⟩
 ·intro a ha
  have hc:a.1∈firstsR R:=by rw [← h.labels];exact List.mem_map.2 ⟨a,ha,rfl⟩
  obtain ⟨⟨t,n⟩,hr⟩:=List.exists_mem_of_ne_nil _ (mem_firsts.1 hc)
  exact hh.run _ (mem_under.1 hr) a.1 List.mem_cons_self
 ·unfold lowP
  obtain ⟨h1,h2,h3⟩:=fold_min z.arcs (if z.fin=true then z.out else 1048577)
  have h0:=h3 (by split<;>omega) fun a ha=>(harc a ha).1
  obtain ⟨⟨x,n⟩,hr,e⟩:=leastR_mem h.ne
  rw [h.least] at e
  simp only at e
  subst e
  cases x with
  | nil =>
   obtain ⟨g1,g2⟩:=(mem_end h.sort).1 hr
   rw [← h.fin] at g1
   rw [← h.out] at g2
   rw [if_pos g1,g2] at h1 h0 ⊢
   omega
  | cons c t =>
   have hc:c∈firstsR R:=mem_firsts.2 (List.ne_nil_of_mem (mem_under.2 hr))
   rw [← h.labels] at hc
   obtain ⟨a,ha,rfl⟩:=List.mem_map.1 hc
   have g1:=leastR_le (mem_under.2 hr)
   rw [← (h.arc a ha).1] at g1
   simp only at g1
   have g2:=h2 a ha
   omega
abbrev S3:=Int × Int × Int
def z3:S3:=(0,0,0)
def sumStep (U:List S3) (x:S3) (a:Nat × Int × Nat):S3:=(x.1+(U.getD a.2.2 z3).1,max x.2.1 ((U.getD a.2.2 z3).2.1+1),max x.2.2 (a.2.1+(U.getD a.2.2 z3).2.2))
def sumP (U:List S3) (z:StP) (j:Nat):S3:=(z.arcs.take j).foldl (sumStep U) (if z.fin=true then 1 else 0,0,z.out)
structure SumOk (R:Rs) (u:S3):Prop where
 words:u.1=R.length
 deep0:0≤u.2.1
 deep1:u.2.1≤depR R
 wt0:0≤u.2.2
 wt1:∀ W:Int,(∀ r∈R,r.2≤W)→u.2.2≤W
theorem fold_words (U:List S3) (R:Rs):∀ (l:List (Nat × Int × Nat)) (x:S3),(∀ a∈l,(U.getD a.2.2 z3).1=((underR R a.1).length:Int))→(l.foldl (sumStep U) x).1=x.1+(((l.map (·.1)).map fun c=>(underR R c).length).sum:Nat)
 | [],x,_=>by simp
 | a :: l,x,h=>by
  rw [List.foldl_cons,fold_words U R l _ fun b hb=>h b (List.mem_cons_of_mem _ hb)]
  simp only [sumStep,List.map_cons,List.sum_cons]
  rw [h a List.mem_cons_self]
  omega
theorem fold_deep (U:List S3) (D:Int):∀ (l:List (Nat × Int × Nat)) (x:S3),0≤x.2.1→x.2.1≤D→(∀ a∈l,(U.getD a.2.2 z3).2.1+1≤D)→0≤(l.foldl (sumStep U) x).2.1∧(l.foldl (sumStep U) x).2.1≤D
 | [],x,h0,h1,_=>⟨h0,h1⟩
 | a :: l,x,h0,h1,h=>by
  rw [List.foldl_cons]
  have:=h a List.mem_cons_self
  refine fold_deep U D l _ ?_ ?_ fun b hb=>h b (List.mem_cons_of_mem _ hb)
  ·simp only [sumStep];omega
  ·simp only [sumStep];omega
theorem fold_wt (U:List S3) (W:Int):∀ (l:List (Nat × Int × Nat)) (x:S3),0≤x.2.2→x.2.2≤W→(∀ a∈l,a.2.1+(U.getD a.2.2 z3).2.2≤W)→0≤(l.foldl (sumStep U) x).2.2∧(l.foldl (sumStep U) x).2.2≤W
 | [],x,h0,h1,_=>⟨h0,h1⟩
 | a :: l,x,h0,h1,h=>by
  rw [List.foldl_cons]
  have:=h a List.mem_cons_self
  refine fold_wt U W l _ ?_ ?_ fun b hb=>h b (List.mem_cons_of_mem _ hb)
  ·simp only [sumStep];omega
  ·simp only [sumStep];omega
theorem sum_take (f:Nat→Nat) (l:List Nat) (j:Nat):((l.take j).map f).sum≤(l.map f).sum:=by
 conv=>rhs;rw [← List.take_append_drop j l]
 rw [List.map_append,List.sum_append]
 omega
def SumsTo (k:KnP) (U:List S3) (i:Nat):Prop:=∀ j,j<i→∀ R,k.rests[j]? = some R→SumOk R (U.getD j z3)
theorem sum_corr {k:KnP} {U:List S3} {i:Nat} {R:Rs} {z:StP} (hU:SumsTo k U i) (h:Corr k.rests i R z) (hh:Her R) (hd:depR R≤24) (j:Nat) :
  (0≤(sumP U z j).1∧(sumP U z j).1≤4096)∧(0≤(sumP U z j).2.1∧(sumP U z j).2.1≤depR R)∧(0≤(sumP U z j).2.2∧∀ W:Int,(∀ r∈R,r.2≤W)→(sumP U z j).2.2≤W)∧(z.arcs.length≤j→SumOk R (sumP U z j)) ∧
  (∀ a∈z.arcs,0≤(U.getD a.2.2 z3).1∧(U.getD a.2.2 z3).1≤4096∧0≤(U.getD a.2.2 z3).2.1∧(U.getD a.2.2 z3).2.1≤24∧0≤(U.getD a.2.2 z3).2.2∧(U.getD a.2.2 z3).2.2≤1048576):=by
 have hfm:=form_corr h hh
 have hsub:∀ a∈z.arcs,SumOk (levelR (underR R a.1)) (U.getD a.2.2 z3):=fun a ha=>hU a.2.2 (h.arc a ha).2.1 _ (h.arc a ha).2.2
 have hw:∀ a∈z.arcs,(U.getD a.2.2 z3).1=((underR R a.1).length:Int):=fun a ha=>by rw [(hsub a ha).words,level_len]
 have hdp:∀ a∈z.arcs,(U.getD a.2.2 z3).2.1+1≤depR R:=fun a ha=>by
  have h1:=(hsub a ha).deep1
  rw [depR_level] at h1
  have h2:=depR_under (arc_wt h hh ha).2.2
  omega
 have hwt:∀ W:Int,(∀ r∈R,r.2≤W)→∀ a∈z.arcs,a.2.1+(U.getD a.2.2 z3).2.2≤W:=fun W hW a ha=>by
  have h1:=(hsub a ha).wt1 (W-a.2.1) fun r hr=>by
   have h2:=mem_level.1 (show (r.1,r.2)∈levelR (underR R a.1) from hr)
   have h3:=hW _ (mem_under.1 h2)
   rw [(h.arc a ha).1]
   simp only at h3
   omega
  omega
 have hfin:∀ W:Int,(∀ r∈R,r.2≤W)→z.out≤W:=fun W hW=>by
  cases hf:z.fin with
  | false =>
   rw [hfm.fin0 hf]
   obtain ⟨r,hr,e⟩:=leastR_mem h.ne
   have h1:=hW r hr
   rw [h.least] at e
   omega
  | true =>
   rw [h.fin] at hf
   obtain ⟨n,hn⟩:=finR_iff.1 hf
   rw [h.out,outR_mem h.sort hn]
   exact hW _ hn
 have hone:(if z.fin=true then (1:Int) else 0)=((if finR R=true then 1 else 0:Nat):Int):=by
  rw [h.fin];split<;>rfl
 have hlen:=words_count h.sort
 have hwords:∀ j,(sumP U z j).1=((if finR R=true then 1 else 0:Nat):Int)+((((firstsR R).take j).map fun c=>(underR R c).length).sum:Nat):=fun j=>by
  unfold sumP
  rw [fold_words U R _ _ fun a ha=>hw a (List.mem_of_mem_take ha)]
  simp only
  rw [hone,List.map_take,h.labels]
 have h1:∀ a∈z.arcs.take j,a∈z.arcs:=fun a ha=>List.mem_of_mem_take ha
 have hdj:=fold_deep U (depR R) (z.arcs.take j) (if z.fin=true then 1 else 0,0,z.out) (Int.le_refl _) (by simp only;omega) fun a ha=>hdp a (h1 a ha)
 have hwj:∀ W:Int,(∀ r∈R,r.2≤W)→0≤(sumP U z j).2.2∧(sumP U z j).2.2≤W:=fun W hW=>fold_wt U W (z.arcs.take j) (if z.fin=true then 1 else 0,0,z.out) hfm.out0 (hfin W hW) fun a ha=>hwt W hW a (h1 a ha)
 have hW0:=hwj 1048576 fun r hr=>(hh.wt r hr).2
 have hst:=sum_take (fun c=>(underR R c).length) (firstsR R) j
 have hl:=hh.len
 refine ⟨?_,hdj,⟨hW0.1,fun W hW=>(hwj W hW).2⟩,fun hj=>⟨?_,hdj.1,hdj.2,hW0.1,fun W hW=>(hwj W hW).2⟩,fun a ha=>?_⟩
 ·rw [hwords j]
  omega
 ·rw [hwords j,List.take_of_length_le (by rw [← h.labels,List.length_map];exact hj)]
  omega
 ·have h2:=hsub a ha
  have h3:=hw a ha
  have h4:=(hh.under a.1).len
  have h5:=hdp a ha
  have h6:=h2.wt1 1048576 fun r hr=>((hh.under a.1).level.wt r hr).2
  refine ⟨by omega,by omega,h2.deep0,by omega,h2.wt0,h6⟩
theorem sumP_zero (U:List S3) (z:StP):sumP U z 0=(if z.fin=true then 1 else 0,0,z.out):=by simp [sumP]
theorem sumP_succ (U:List S3) (z:StP) (j:Nat) (hj:j<z.arcs.length):sumP U z (j+1)=sumStep U (sumP U z j) (z.arcs.getD j (0,0,0)):=by
 unfold sumP
 rw [List.take_succ_eq_append_getElem hj,List.foldl_append]
 simp [List.getD,hj]
end Go.Proofs.YthockgmbooefpaaGreatDoor
namespace Go.Proofs.YthockgmbooefpaaGreatDoor
open Go.RowKit
def aCells (l:List (Nat × Int × Nat)):List Value:=l.flatMap fun a=>[.int .i32 (a.1:Int),.int .i64 a.2.1,.int .i64 (a.2.2:Int)]
theorem aCells_app (V W:List (Nat × Int × Nat)):aCells (V++W)=aCells V++aCells W:=List.flatMap_append
structure SV where
 fin:Bool
 out:Int
 A:Option Addr
 n:Nat
 c:Nat
 arcs:List (Nat × Int × Nat)
def SV.cells (s:SV):List Value:=[.bool s.fin,.int .i64 s.out,.slice s.A s.n s.c]
def SV.p (s:SV):StP:=⟨s.fin,s.out,s.arcs⟩
structure SV.Ok (s:SV) (w:World):Prop where
 len:s.arcs.length=s.n
 rd:RdT w 173 3 s.A s.n (aCells s.arcs)
 le:s.n≤s.c
 mx:s.c≤maxLen
def sCells (Z:List SV):List Value:=Z.flatMap SV.cells
theorem sCells_app (V W:List SV):sCells (V++W)=sCells V++sCells W:=List.flatMap_append
theorem SV.Ok.touch {s:SV} {w w':World} {S:Nat→Prop} (h:s.Ok w) (T:Touch S w w') (hS:∀ g,TyAt w g 173 → ¬ S g):s.Ok w':=⟨h.len,h.rd.touch T hS,h.le,h.mx⟩
structure KV where
 rA:Option Addr
 rn:Nat
 rc:Nat
 X:List RL
 sA:Option Addr
 sn:Nat
 sc:Nat
 Z:List SV
def KV.r (k:KV):Value:=.slice k.rA k.rn k.rc
def KV.s (k:KV):Value:=.slice k.sA k.sn k.sc
def KV.val (k:KV):Value:=.agg #[k.r,k.s]
def KV.p (k:KV):KnP:=⟨k.X.map RL.p,k.Z.map SV.p⟩
theorem RdT.touch' {w w':World} {S:Nat→Prop} {t:TypeId} {size:Nat} {A:Option Addr} {n:Nat} {xs:List Value} (h:RdT w t size A n xs) (T:Touch S w w') (hS:0<n→∀ g,adBlock A=some g→¬ S g):RdT w' t size A n xs:=by
 by_cases hn:0<n
 ·exact ⟨h.rd.touch T fun g hg=>hS hn g hg,fun _ g hg=>(h.ty hn g hg).touch T (hS hn g hg)⟩
 ·exact ⟨⟨h.rd.1,fun h=>absurd h hn⟩,fun h=>absurd h hn⟩
structure KV.Ok (k:KV) (w:World):Prop where
 r:w.ownsRow 0 225 1 k.r k.rn (k.X.map RL.val)
 rl:k.X.length=k.rn
 re:∀ x∈k.X,x.Ok w∧x.n≤maxLen
 s:w.ownsRow 0 170 3 k.s k.sn (sCells k.Z)
 sl:k.Z.length=k.sn
 se:∀ z∈k.Z,z.Ok w
def KV.S (k:KV) (g:Nat):Prop:=k.r.ownBlock=some g∨k.s.ownBlock=some g
theorem KV.Ok.noS {k:KV} {w:World} (h:k.Ok w) {t:TypeId} (h1:t ≠ 225) (h2:t ≠ 170):∀ g,TyAt w g t→¬ k.S g:=by
 rintro g hg (e | e)
 ·exact (own_ty h.r e).ne hg (fun e=>h1 e.symm) rfl
 ·exact (own_ty h.s e).ne hg (fun e=>h2 e.symm) rfl
theorem KV.Ok.quiet {k:KV} {w w':World} (h:k.Ok w) (T:Touch (fun _=>False) w w'):k.Ok w' :=
 ⟨own_touch h.r T (fun _ _ f=>f),h.rl,fun x hx=>⟨(h.re x hx).1.quiet T,(h.re x hx).2⟩,own_touch h.s T (fun _ _ f=>f),h.sl,fun z hz=>(h.se z hz).touch T (fun _ _ f=>f)⟩
theorem KV.Ok.far {k:KV} {w w':World} {S:Nat→Prop} (h:k.Ok w) (T:Touch S w w') (hr:∀ g,k.S g→¬ S g) (h1:∀ g,TyAt w g 21 → ¬ S g) (h2:∀ g,TyAt w g 236 → ¬ S g) (h3:∀ g,TyAt w g 173 → ¬ S g):k.Ok w' :=
 ⟨own_touch h.r T (fun g e=>hr g (.inl e)),h.rl,fun x hx=>⟨(h.re x hx).1.touch T h1 h2,(h.re x hx).2⟩,own_touch h.s T (fun g e=>hr g (.inr e)),h.sl,fun z hz=>(h.se z hz).touch T h3⟩
theorem blk_ty {w:World} {g:Nat} {t:TypeId} {cs:Array Value} (h:Blk w g t cs):TyAt w g t:=⟨cs,(),h⟩
theorem KV.Ok.lt {k:KV} {w:World} (h:k.Ok w) {g:Nat} (hg:k.S g):g<w.heap.size:=by
 rcases hg with e | e
 ·exact (own_ty h.r e).lt
 ·exact (own_ty h.s e).lt
structure L2 (w wr:World) (B C:Nat) (k0 kc:KV) (fin:Bool) (out:Int) (aA:Option Addr) (ai ac:Nat) (arcs:List (Nat × Int × Nat)) (M:RL) (fA:Option Addr) (fq:Nat) (F:List Nat):Prop where
 ok:kc.Ok wr
 b0:Blk wr B 229 #[kc.r,kc.s]
 b1:Blk wr (B+1) 229 #[.slice none 0 0,.slice none 0 0]
 b2:Blk wr C 170 #[.bool fin,.int .i64 out,.slice aA ai ac]
 own:wr.ownsRow 0 173 3 (.slice aA ai ac) ai (aCells arcs)
 al:arcs.length=ai
 af:∀ g,(Value.slice aA ai ac).ownBlock=some g→w.heap.size≤g
 m:M.Ok wr
 f:RdT wr 21 1 fA fq (F.map runeV)
 touch:Touch k0.S w wr
 fr:Fresh w k0.r kc.r
 fs:Fresh w k0.s kc.s
 nb:¬ kc.S C
 zs:∀ z∈kc.Z,z∈k0.Z∨(0<z.n→∀ g,adBlock z.A=some g→w.heap.size≤g)
 za:∀ z∈kc.Z,0<z.n→∀ g,adBlock z.A=some g→(Value.slice aA ai ac).ownBlock≠some g
theorem Fresh.up {w u:World} {a b c:Value} (h:Fresh w a b) (k:Fresh u b c) (hs:w.heap.size≤u.heap.size):Fresh w a c:=by
 rcases k with e | ⟨g,e,hg⟩
 ·rcases h with e2 | ⟨g,e2,hg⟩
  ·exact .inl (e.trans e2)
  ·exact .inr ⟨g,e.trans e2,hg⟩
 ·exact .inr ⟨g,e,Nat.le_trans hs hg⟩
theorem own_slice {w:World} {base:Nat} {e:TypeId} {size n:Nat} {A:Option Addr} {c:Nat} {xs:List Value} (h:w.ownsRow base e size (.slice A n c) n xs):n≤c∧c≤maxLen:=by
 obtain ⟨_,_,e,h1,h2⟩:=own_len h
 injection e with e1 e2 e3
 subst e3
 exact ⟨by omega,h2⟩
theorem infoArc:(Tryz.prog.info? 173).map (fun i=>(i.zero,i.size,i.bytes))=some (some (.agg #[.int .i32 0,.int .i64 0,.int .i64 0]),3,24):=by kernel_rfl
theorem infoSt:(Tryz.prog.info? 170).map (fun i=>(i.zero,i.size,i.bytes))=some (some (.agg #[.bool false,.int .i64 0,.slice none 0 0]),3,40):=by kernel_rfl
theorem SL.Ok.touch {s:SL} {w w':World} (h:s.Ok w) (T:Touch (fun _=>False) w w'):s.Ok w':=⟨h.len,h.reads.touch T (fun _ _ f=>f),h.nil⟩
theorem tot_dict {L:List PRow} (h:DictP L):totR (restsL L)≤98304:=by
 have h1:∀ l:List PRow,(∀ p∈l,(wordR p).length≤24)→totR (restsL l)≤24*l.length:=by
  intro l
  induction l with
  | nil=>intro _;exact Nat.le_refl _
  | cons p l ih =>
   intro hp
   have:=ih fun q hq=>hp q (List.mem_cons_of_mem _ hq)
   have:=hp p List.mem_cons_self
   simp only [restsL,List.map_cons,totR,List.length_cons] at *
   omega
 have:=h1 L fun p hp=>(h.word p hp).2.2.2
 have:=h.len
 omega
structure StsOk (w:World) (A:Option Addr) (n:Nat) (Z:List SV):Prop where
 rd:RdT w 170 3 A n (sCells Z)
 len:Z.length=n
 el:∀ z∈Z,z.Ok w
theorem StsOk.quiet {w w':World} {A:Option Addr} {n:Nat} {Z:List SV} (h:StsOk w A n Z) (T:Touch (fun _=>False) w w'):StsOk w' A n Z:=⟨h.rd.quiet T,h.len,fun z hz=>(h.el z hz).touch T (fun _ _ f=>f)⟩
structure WkOk (w:World) (p:Addr) (base:Int) (A:Option Addr) (n c:Nat) (Z:List SV) (wv:Value):Prop where
 blk:∃ b,p=⟨b,0,none⟩∧Blk w b 167 #[.int .i64 base,.slice A n c,wv]
 sts:StsOk w A n Z
theorem WkOk.quiet {w w':World} {p:Addr} {base:Int} {A:Option Addr} {n c:Nat} {Z:List SV} {wv:Value} (h:WkOk w p base A n c Z wv) (T:Touch (fun _=>False) w w'):WkOk w' p base A n c Z wv:=by
 obtain ⟨b,e,hb⟩:=h.blk
 exact ⟨⟨b,e,hb.touch T (fun f=>f)⟩,h.sts.quiet T⟩
theorem root_any (w:World) (b:Nat) (base:Int) (A:Option Addr) (n c:Nat) (wv:Value) (hb:Blk w b 167 #[.int .i64 base,.slice A n c,wv]) (hn:n≤1000000) :
  Calls Tryz.prog 98 #[.pointer (some ⟨b,0,none⟩)] w fun e w'=>e=.returned (.int .i64 ((n:Int)-1))∧w'=w:=by
 obtain ⟨x0,x1,x2⟩:=hb.facts
 have z1:IntKind.i64.wrap ((n:Int)-1)=(n:Int)-1:=IntWalk.i64_in _ (by omega)
 go_enter Tryz.func98,Tryz.ntmps98
 go_wp2
 go_ret
 exact ⟨rfl,rfl⟩
theorem sCells_at (X:List SV) (z0:SV) (k:Nat) (hk:k<X.length) (j:Nat) (hj:j<3):(sCells X)[k*3+j]? = some ((X.getD k z0).cells.getD j undef):=by
 induction X generalizing k with
 | nil=>simp at hk
 | cons x X ih =>
  have e:sCells (x :: X)=x.cells++sCells X:=rfl
  cases k with
  | zero =>
   rw [e,Nat.zero_mul,Nat.zero_add]
   obtain rfl | rfl | rfl:j=0∨j=1∨j=2:=by omega
   ·rfl
   ·rfl
   ·rfl
  | succ k =>
   rw [e,List.getElem?_append_right (by simp [SV.cells];omega)]
   have:(k+1)*3+j-x.cells.length=k*3+j:=by simp [SV.cells];omega
   rw [this,ih k (by simp at hk;omega)]
   simp [List.getD]
theorem aCells_at (X:List (Nat × Int × Nat)) (k:Nat) (hk:k<X.length) (j:Nat) (hj:j<3):(aCells X)[k*3+j]? = some ([.int .i32 ((X.getD k (0,0,0)).1:Int),.int .i64 (X.getD k (0,0,0)).2.1,.int .i64 ((X.getD k (0,0,0)).2.2:Int)].getD j undef):=by
 induction X generalizing k with
 | nil=>simp at hk
 | cons x X ih =>
  have e:aCells (x :: X)=[.int .i32 (x.1:Int),.int .i64 x.2.1,.int .i64 (x.2.2:Int)]++aCells X:=rfl
  cases k with
  | zero =>
   rw [e,Nat.zero_mul,Nat.zero_add]
   obtain rfl | rfl | rfl:j=0∨j=1∨j=2:=by omega
   ·rfl
   ·rfl
   ·rfl
  | succ k =>
   rw [e,List.getElem?_append_right (by simp;omega)]
   have:(k+1)*3+j-[Value.int .i32 (x.1:Int),.int .i64 x.2.1,.int .i64 (x.2.2:Int)].length=k*3+j:=by simp;omega
   rw [this,ih k (by simp at hk;omega)]
   simp [List.getD]
def svZero:SV:=⟨false,0,none,0,0,[]⟩
theorem state_at {w:World} {A:Option Addr} {n:Nat} {X:List SV} (h:Reads w 3 A n (sCells X)) (hn:X.length=n) (k:Nat) (hk:k<n) :
  ∃ g off,A=some ⟨g,off,none⟩∧g<w.heap.size∧w.cell? ⟨g,off+k*3,none⟩=some (.bool (X.getD k svZero).fin)∧w.cell? ⟨g,off+k*3+1,none⟩=some (.int .i64 (X.getD k svZero).out)∧w.cell? ⟨g,off+k*3+2,none⟩=some (.slice (X.getD k svZero).A (X.getD k svZero).n (X.getD k svZero).c):=by
 obtain ⟨b,off,hA,hb,hc⟩:=h.2 (by omega)
 refine ⟨b,off,hA,hb,?_,?_,?_⟩
 ·exact hc (k*3) _ (sCells_at X svZero k (by omega) 0 (by omega))
 ·rw [Nat.add_assoc];exact hc (k*3+1) _ (sCells_at X svZero k (by omega) 1 (by omega))
 ·rw [Nat.add_assoc];exact hc (k*3+2) _ (sCells_at X svZero k (by omega) 2 (by omega))
theorem arc_at {w:World} {A:Option Addr} {n:Nat} {X:List (Nat × Int × Nat)} (h:Reads w 3 A n (aCells X)) (hn:X.length=n) (k:Nat) (hk:k<n) :
  ∃ g off,A=some ⟨g,off,none⟩∧g<w.heap.size∧w.cell? ⟨g,off+k*3,none⟩=some (.int .i32 ((X.getD k (0,0,0)).1:Int))∧w.cell? ⟨g,off+k*3+1,none⟩=some (.int .i64 (X.getD k (0,0,0)).2.1)∧w.cell? ⟨g,off+k*3+2,none⟩=some (.int .i64 ((X.getD k (0,0,0)).2.2:Int)):=by
 obtain ⟨b,off,hA,hb,hc⟩:=h.2 (by omega)
 refine ⟨b,off,hA,hb,?_,?_,?_⟩
 ·exact hc (k*3) _ (aCells_at X k (by omega) 0 (by omega))
 ·rw [Nat.add_assoc];exact hc (k*3+1) _ (aCells_at X k (by omega) 1 (by omega))
 ·rw [Nat.add_assoc];exact hc (k*3+2) _ (aCells_at X k (by omega) 2 (by omega))
theorem stepA_snoc (l:List (Nat × Int × Nat)) (a:Nat × Int × Nat) (r:Nat) (p:Int × Int):stepA (l++[a]) r p=if a.1=r then ((a.2.2:Int),(stepA l r p).2+a.2.1) else stepA l r p:=by
 unfold stepA
 rw [List.foldl_append]
 rfl
structure Small (n:Nat) (Z:List SV):Prop where
 lab:∀ z∈Z,(z.arcs.map (·.1)).Nodup
 arc:∀ z∈Z,∀ a∈z.arcs,0≤a.2.1∧a.2.1≤1048576∧a.2.2<n
 out:∀ z∈Z,0≤z.out∧z.out≤1048576
theorem stepA_small {l:List (Nat × Int × Nat)} {n r:Nat} (hn:(l.map (·.1)).Nodup) (hb:∀ a∈l,0≤a.2.1∧a.2.1≤1048576∧a.2.2<n) (sum:Int):sum≤(stepA l r (-1,sum)).2∧(stepA l r (-1,sum)).2≤sum+1048576∧-1≤(stepA l r (-1,sum)).1∧(stepA l r (-1,sum)).1<n:=by
 by_cases h:r∈l.map (·.1)
 ·obtain ⟨a,ha,hr⟩:=List.mem_map.1 h
  rw [stepA_some hn ha hr]
  have:=hb a ha
  simp only
  omega
 ·rw [stepA_none h]
  simp only
  omega
def lowJ (l0:Int) (arcs:List (Nat × Int × Nat)) (j:Nat):Int:=(arcs.take j).foldl (fun m a=>min m a.2.1) l0
theorem lowJ_succ (l0:Int) (arcs:List (Nat × Int × Nat)) (j:Nat) (hj:j<arcs.length):lowJ l0 arcs (j+1)=min (lowJ l0 arcs j) (arcs.getD j (0,0,0)).2.1:=by
 unfold lowJ
 rw [List.take_succ_eq_append_getElem hj,List.foldl_append]
 simp [List.getD,hj]
theorem lab_next (arcs:List (Nat × Int × Nat)) (h:(arcs.map (·.1)).Pairwise (·<·)) (j:Nat) (hj:j+1<arcs.length):(arcs.getD j (0,0,0)).1<(arcs.getD (j+1) (0,0,0)).1:=by
 have:=List.pairwise_iff_getElem.1 h j (j+1) (by simp;omega) (by simp;omega) (by omega)
 simpa [List.getD,hj,show j<arcs.length by omega] using this
theorem toList_mk (l:List UInt8):(⟨l.toArray⟩:ByteArray).toList=l:=by rw [Go.ByteArray.toList_eq]
theorem word_rune (w:World) (hL:Lst w) (r:Nat) (hs:scal r=true) (hf:fitU r=true) :
  Calls Tryz.prog 78 #[.string ⟨(writeU r).toArray⟩] w fun e w'=>e=.returned (.bool true)∧Touch (fun _=>False) w w':=by
 have hl:=write_len r
 have h:=word_any w ⟨(writeU r).toArray⟩ (by show (writeU r).toArray.size≤_;rw [List.size_toArray];omega) hL
 rw [toList_mk,word_write hs hf] at h
 exact h
theorem formed_any (w:World) (hL:Lst w) (z:SV) (hz:z.Ok w) (num:Nat) (_:num≤1000000) (hF:FormP num z.p) :
  Calls Tryz.prog 138 #[.agg #[.bool z.fin,.int .i64 z.out,.slice z.A z.n z.c],.int .i64 num] w fun e w'=>e=.returned (.bool true)∧Touch (fun _=>False) w w':=by
 obtain ⟨fin,out,aA,n,ac,arcs⟩:=z
 obtain ⟨hlen,hrd,hle,hmx⟩:=hz
 obtain ⟨f1,f2,f3,f4,f5,f6,f7⟩:=hF
 simp only [SV.p] at *
 have hnm:n≤maxLen:=Nat.le_trans hle hmx
 have HL:=hide hL
 have HRD:=hide hrd
 have HLEN:=hide hlen
 have HF3:=hide f3
 have HF4:=hide f4
 have HF5:=hide f5
 have HF6:=hide f6
 have HF7:=hide f7
 clear hL hrd hlen f3 f4 f5 f6 f7 hle hmx
 obtain ⟨w2,hw2⟩:∃ x,x=w.alloc (.cells #[.bool fin,.int .i64 out,.slice aA n ac] 170):=⟨_,rfl⟩
 have hT2:Touch (fun _=>False) w w2:=by rw [hw2];exact (Touch.refl _ _).alloc _
 have HT2:=hide hT2
 have HW2:=hide hw2
 clear hw2 hT2
 go_enter Tryz.func138,Tryz.ntmps138
 cases fin with
 | true =>
  go_wp2_with fail
  rw [← HW2.out]
  go_loopw [5,6,7,30] (fun lv kv bv iv wr=>∃ (i:Nat) (lo:Int) (lab:Nat),lv=.int .i64 lo∧kv=.bool true∧bv=.int .i32 lab∧iv=.int .i64 i∧i≤n∧Hid (lo=lowJ out arcs i)∧Hid (i<n→lab<(arcs.getD i (0,0,0)).1)∧Hid (Touch (fun _=>False) w2 wr)) (fun _ _ _ iv _=>n-(intOf iv).toNat)
  case atStart =>
   refine ⟨0,out,32,rfl,rfl,rfl,rfl,by omega,hide rfl,hide fun hn=>?_,hide (Touch.refl _ _)⟩
   have:=(HF5.out _ (getD_mem arcs (0,0,0) 0 (by rw [HLEN.out];exact hn))).2
   unfold fitU at this
   simp only [Bool.and_eq_true,decide_eq_true_eq] at this
   exact this.1
  case round =>
   obtain ⟨i,lo,lab,rfl,rfl,rfl,rfl,hi,HLO,HLB,HT⟩:=hrel
   by_cases hin:i<n
   ·have y1:(i:Int)<(n:Int):=by omega
    have y2:(0:Int)≤(i:Int):=by omega
    have z2:IntKind.i64.wrap ((i:Int)+1)=(i:Int)+1:=IntWalk.i64_in _ (by unfold maxLen at hnm;omega)
    obtain ⟨g,o,hA,hg,c1,c2,c3⟩:=arc_at (HRD.out.quiet (HT2.out.then HT.out)).rd HLEN.out i hin
    subst hA
    have hmem:=getD_mem arcs (0,0,0) i (by rw [HLEN.out];exact hin)
    have h5:=HF5.out _ hmem
    have h6:=HF6.out _ hmem
    have hlb:=HLB.out hin
    have hsu:=lowJ_succ out arcs i (by rw [HLEN.out];exact hin)
    rw [← HLO.out] at hsu
    have hnx:i+1<n→(arcs.getD i (0,0,0)).1<(arcs.getD (i+1) (0,0,0)).1:=fun h=>lab_next arcs HF4.out i (by rw [HLEN.out];exact h)
    obtain ⟨⟨la,ao,tt⟩,hz⟩:∃ z,arcs.getD i (0,0,0)=z:=⟨_,rfl⟩
    rw [hz] at c1 c2 c3 h5 h6 hlb hsu hnx
    simp only at c1 c2 c3 h5 h6 hlb hsu hnx
    have HSU:=hide hsu
    have HNX:=hide hnx
    have hlab:(lab:Int)<(la:Int):=by omega
    have h60:(0:Int)≤ao:=h6.1
    have h61:ao≤1048576:=h6.2.1
    have h62:(0:Int)≤(tt:Int):=by omega
    have h63:(tt:Int)<(num:Int):=by omega
    have H5:=hide h5
    have hww:wordU (writeU la)=true:=word_write h5.1 h5.2
    have HWW:=hide hww
    have HSC:=hide (fun (u:World) (hu:Lst u) (h:Reads u 1 (some ⟨wr.heap.size+1,0,none⟩) 1 [.int .i32 (la:Int)])=>text_any u hu (some ⟨wr.heap.size+1,0,none⟩) 1 1 [la] h rfl (by omega) (fun r hr=>by simp only [List.mem_singleton] at hr;rw [hr];exact h5.1))
    clear hmem h5 h6 hlb hsu hnx hz hww
    obtain ⟨w5,hw5⟩:∃ x,x=(wr.alloc (.cells #[.int .i32 (la:Int),.int .i64 ao,.int .i64 (tt:Int)] 173)).alloc (.cells #[.int .i32 (la:Int)] 21):=⟨_,rfl⟩
    have hb5:Blk w5 wr.heap.size 173 #[.int .i32 (la:Int),.int .i64 ao,.int .i64 (tt:Int)]:=by rw [hw5];exact (Blk.new _ _ _).alloc _
    have hr5:Reads w5 1 (some ⟨wr.heap.size+1,0,none⟩) 1 [.int .i32 (la:Int)]:=by
     have:=Reads.new (size:=1) (wr.alloc (.cells #[.int .i32 (la:Int),.int .i64 ao,.int .i64 (tt:Int)] 173)) 21 [.int .i32 (la:Int)] 1 rfl
     rw [hw5]
     simpa using this
    have hT5:Touch (fun _=>False) wr w5:=by rw [hw5];exact ((Touch.refl _ _).alloc _).alloc _
    have HB5:=hide hb5
    have HR5:=hide hr5
    have HT5:=hide hT5
    have HW5:=hide hw5
    clear hb5 hr5 hT5 hw5
    go_wp2_with (first
     | (go_at_call 93;rw [← HW5.out];refine (HSC.out w5 (HL.out.touch (HT2.out.then (HT.out.then HT5.out))) HR5.out).mono ?_;rintro e w6 ⟨rfl,T6⟩;have HT6:=hide T6;have hb:=HB5.out.touch T6 (fun f=>f);obtain ⟨x0,x1,x2⟩:=hb.facts;have HB6:=hide hb;clear T6 hb)
     | (go_at_call 78;refine (word_rune _ (HL.out.touch (HT2.out.then (HT.out.then (HT5.out.then HT6.out)))) la H5.out.1 H5.out.2).mono ?_;rintro e w7 ⟨rfl,T7⟩;have HT7:=hide T7;have hb:=HB6.out.touch T7 (fun f=>f);obtain ⟨x3,x4,x5⟩:=hb.facts;have HB7:=hide hb;clear T7 hb))
    go_roundw
    ·refine ⟨i+1,_,la,rfl,rfl,rfl,by simp,by omega,hide ?_,hide HNX.out,hide (HT.out.then (HT5.out.then (HT6.out.then HT7.out)))⟩
     rw [HSU.out]
     try (split<;>omega)
    ·simp only [intOf];omega
   ·have hie:i=n:=by omega
    subst hie
    have hlow:lo=0:=by
     rw [HLO.out,← HF7.out]
     unfold lowJ lowP
     rw [List.take_of_length_le (by rw [HLEN.out];exact Nat.le_refl _)]
     try rfl
    subst hlow
    go_wp2_with fail
    go_ret
    exact ⟨rfl,HT2.out.then HT.out⟩
 | false =>
  have h0:out=0:=HF3.out rfl
  subst h0
  go_wp2_with fail
  rw [← HW2.out]
  go_loopw [5,6,7,30] (fun lv kv bv iv wr=>∃ (i:Nat) (lo:Int) (lab:Nat),lv=.int .i64 lo∧kv=.bool true∧bv=.int .i32 lab∧iv=.int .i64 i∧i≤n∧Hid (lo=lowJ 1048577 arcs i)∧Hid (i<n→lab<(arcs.getD i (0,0,0)).1)∧Hid (Touch (fun _=>False) w2 wr)) (fun _ _ _ iv _=>n-(intOf iv).toNat)
  case atStart =>
   refine ⟨0,1048577,32,rfl,rfl,rfl,rfl,by omega,hide rfl,hide fun hn=>?_,hide (Touch.refl _ _)⟩
   have:=(HF5.out _ (getD_mem arcs (0,0,0) 0 (by rw [HLEN.out];exact hn))).2
   unfold fitU at this
   simp only [Bool.and_eq_true,decide_eq_true_eq] at this
   exact this.1
  case round =>
   obtain ⟨i,lo,lab,rfl,rfl,rfl,rfl,hi,HLO,HLB,HT⟩:=hrel
   by_cases hin:i<n
   ·have y1:(i:Int)<(n:Int):=by omega
    have y2:(0:Int)≤(i:Int):=by omega
    have z2:IntKind.i64.wrap ((i:Int)+1)=(i:Int)+1:=IntWalk.i64_in _ (by unfold maxLen at hnm;omega)
    obtain ⟨g,o,hA,hg,c1,c2,c3⟩:=arc_at (HRD.out.quiet (HT2.out.then HT.out)).rd HLEN.out i hin
    subst hA
    have hmem:=getD_mem arcs (0,0,0) i (by rw [HLEN.out];exact hin)
    have h5:=HF5.out _ hmem
    have h6:=HF6.out _ hmem
    have hlb:=HLB.out hin
    have hsu:=lowJ_succ 1048577 arcs i (by rw [HLEN.out];exact hin)
    rw [← HLO.out] at hsu
    have hnx:i+1<n→(arcs.getD i (0,0,0)).1<(arcs.getD (i+1) (0,0,0)).1:=fun h=>lab_next arcs HF4.out i (by rw [HLEN.out];exact h)
    obtain ⟨⟨la,ao,tt⟩,hz⟩:∃ z,arcs.getD i (0,0,0)=z:=⟨_,rfl⟩
    rw [hz] at c1 c2 c3 h5 h6 hlb hsu hnx
    simp only at c1 c2 c3 h5 h6 hlb hsu hnx
    have HSU:=hide hsu
    have HNX:=hide hnx
    have hlab:(lab:Int)<(la:Int):=by omega
    have h60:(0:Int)≤ao:=h6.1
    have h61:ao≤1048576:=h6.2.1
    have h62:(0:Int)≤(tt:Int):=by omega
    have h63:(tt:Int)<(num:Int):=by omega
    have H5:=hide h5
    have hww:wordU (writeU la)=true:=word_write h5.1 h5.2
    have HWW:=hide hww
    have HSC:=hide (fun (u:World) (hu:Lst u) (h:Reads u 1 (some ⟨wr.heap.size+1,0,none⟩) 1 [.int .i32 (la:Int)])=>text_any u hu (some ⟨wr.heap.size+1,0,none⟩) 1 1 [la] h rfl (by omega) (fun r hr=>by simp only [List.mem_singleton] at hr;rw [hr];exact h5.1))
    clear hmem h5 h6 hlb hsu hnx hz hww
    obtain ⟨w5,hw5⟩:∃ x,x=(wr.alloc (.cells #[.int .i32 (la:Int),.int .i64 ao,.int .i64 (tt:Int)] 173)).alloc (.cells #[.int .i32 (la:Int)] 21):=⟨_,rfl⟩
    have hb5:Blk w5 wr.heap.size 173 #[.int .i32 (la:Int),.int .i64 ao,.int .i64 (tt:Int)]:=by rw [hw5];exact (Blk.new _ _ _).alloc _
    have hr5:Reads w5 1 (some ⟨wr.heap.size+1,0,none⟩) 1 [.int .i32 (la:Int)]:=by
     have:=Reads.new (size:=1) (wr.alloc (.cells #[.int .i32 (la:Int),.int .i64 ao,.int .i64 (tt:Int)] 173)) 21 [.int .i32 (la:Int)] 1 rfl
     rw [hw5]
     simpa using this
    have hT5:Touch (fun _=>False) wr w5:=by rw [hw5];exact ((Touch.refl _ _).alloc _).alloc _
    have HB5:=hide hb5
    have HR5:=hide hr5
    have HT5:=hide hT5
    have HW5:=hide hw5
    clear hb5 hr5 hT5 hw5
    go_wp2_with (first
     | (go_at_call 93;rw [← HW5.out];refine (HSC.out w5 (HL.out.touch (HT2.out.then (HT.out.then HT5.out))) HR5.out).mono ?_;rintro e w6 ⟨rfl,T6⟩;have HT6:=hide T6;have hb:=HB5.out.touch T6 (fun f=>f);obtain ⟨x0,x1,x2⟩:=hb.facts;have HB6:=hide hb;clear T6 hb)
     | (go_at_call 78;refine (word_rune _ (HL.out.touch (HT2.out.then (HT.out.then (HT5.out.then HT6.out)))) la H5.out.1 H5.out.2).mono ?_;rintro e w7 ⟨rfl,T7⟩;have HT7:=hide T7;have hb:=HB6.out.touch T7 (fun f=>f);obtain ⟨x3,x4,x5⟩:=hb.facts;have HB7:=hide hb;clear T7 hb))
    go_roundw
    ·refine ⟨i+1,_,la,rfl,rfl,rfl,by simp,by omega,hide ?_,hide HNX.out,hide (HT.out.then (HT5.out.then (HT6.out.then HT7.out)))⟩
     rw [HSU.out]
     try (split<;>omega)
    ·simp only [intOf];omega
   ·have hie:i=n:=by omega
    subst hie
    have hlow:lo=0:=by
     rw [HLO.out,← HF7.out]
     unfold lowJ lowP
     rw [List.take_of_length_le (by rw [HLEN.out];exact Nat.le_refl _)]
     try rfl
    subst hlow
    go_wp2_with fail
    go_ret
    exact ⟨rfl,HT2.out.then HT.out⟩
end Go.Proofs.YthockgmbooefpaaGreatDoor
