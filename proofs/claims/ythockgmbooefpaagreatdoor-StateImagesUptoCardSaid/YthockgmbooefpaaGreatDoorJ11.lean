/- What the law rests on, part 11. No condition but those that each theorem names. -/
import Derived.Test.YthockgmbooefpaaGreatDoorJ10
import Derived.Test.YthockgmbooefpaaGreatDoorJ07
import Derived.Laws.BytesArg
import Derived.Test.YthockgmbooefpaaGreatDoorJ09
import Derived.Deep.RegionLaw
set_option linter.unusedSectionVars false
set_option linter.unusedSimpArgs false
set_option linter.unusedVariables false
namespace Go.Proofs.YthockgmbooefpaaGreatDoor
open Go.RowKit
theorem conv_own (w:World) (A:Option Addr) (q c:Nat) (l:List UInt8) (h:Reads w 1 A q (l.map byteV)) :
  (convert 50 9 (.slice A q c)).run Tryz.prog w=.ok (.string ⟨l.toArray⟩) w:=by
 have hl:l.length=q:=by have:=h.1;simpa using this
 cases A with
 | none =>
  have h0:q=0:=by
   rcases Nat.eq_zero_or_pos q with e | e
   ·exact e
   ·obtain ⟨b,off,hA,_⟩:=h.2 e
    cases hA
  subst h0
  obtain rfl:=List.eq_nil_of_length_eq_zero hl
  exact run_convert_bytes_nil _ _ _ Tryz.underlying50 Tryz.underlying5 0 c _ Tryz.underlying9
 | some ad =>
  subst hl
  rcases Nat.eq_zero_or_pos l.length with e | e
  ·refine run_convert_bytes_back _ _ _ _ _ _ l Tryz.underlying50 Tryz.underlying5 Tryz.underlying9 fun j hj=>?_
   rw [e] at hj
   exact absurd hj (Nat.not_lt_zero _)
  ·obtain ⟨b,off,hA,_,hc⟩:=h.2 e
   obtain rfl:ad=⟨b,off,none⟩:=Option.some.inj hA
   refine run_convert_bytes_back _ _ _ _ _ _ l Tryz.underlying50 Tryz.underlying5 Tryz.underlying9 fun j hj=>?_
   rw [Addr.add_lit]
   exact hc j _ (by simp [hj,byteV])
theorem write_len (r:Nat):1≤(writeU r).length∧(writeU r).length≤4:=by
 unfold writeU
 split
 ·simp
 ·split
  ·simp
  ·split
   ·simp
   ·simp
set_option maxRecDepth 100000 in
set_option maxHeartbeats 2000000 in
theorem text_any (w:World) (hL:Lst w) (A:Option Addr) (n c:Nat) (O:List Nat) (hR:Reads w 1 A n (O.map runeV)) (hO:O.length=n) (hn:n≤4294967296) (hs:∀ r∈O,scal r=true) :
  Calls Tryz.prog 93 #[.slice A n c] w fun e w'=>e=.returned (.tuple #[.string ⟨(O.flatMap writeU).toArray⟩,.bool true])∧Touch (fun _=>False) w w':=by
 have HL:=hide hL
 have HR:=hide hR
 have HS:=hide hs
 have HO:=hide hO
 have hnm:n≤maxLen:=by unfold maxLen;omega
 clear hL hR hs hO
 go_enter Tryz.func93,Tryz.ntmps93
 go_wp2
 go_loopw [4,9] (fun bv iv wr=>∃ (i q:Nat) (A3:Option Addr) (c3:Nat),iv=.int .i64 i∧bv=.slice A3 q c3∧i≤n∧q≤4*i∧Hid (ONx 5 1 w wr (.slice A3 q c3) q (((O.take i).flatMap writeU).map byteV)) ) (fun _ iv _=>n-(intOf iv).toNat)
 case atStart=>exact ⟨0,0,none,0,rfl,rfl,by omega,by omega,hide (ONx.nil _ _ _)⟩
 case round =>
  obtain ⟨i,q,A3,c3,rfl,rfl,hi,hq,HB⟩:=hrel
  by_cases hin:i<n
  ·have y1:(i:Int)<(n:Int):=by omega
   have y2:(0:Int)≤(i:Int):=by omega
   have z2:IntKind.i64.wrap ((i:Int)+1)=(i:Int)+1:=IntWalk.i64_in _ (by omega)
   obtain ⟨g,o,hA,c0⟩:=rune_at (HR.out.touch HB.out.touch (fun _ _ f=>f)) HO.out i hin
   subst hA
   have hsc:=HS.out _ (getD_mem O 0 i (by rw [HO.out];exact hin))
   have htk:=take_snoc O 0 i (by rw [HO.out];exact hin)
   obtain ⟨r,hr⟩:∃ r,O.getD i 0=r:=⟨_,rfl⟩
   rw [hr] at c0 hsc htk
   have HSC:=hide hsc
   have HTK:=hide htk
   have HW:=hide (wrow_any wr (.slice A3 q c3) q _ HB.out.own (HL.out.touch HB.out.touch) (by omega) r (scal_lt hsc))
   have hsc2:(scal r)=true:=hsc
   clear hr hsc htk
   go_wp2_with (first
    | (go_at_call 147;refine (scalar_any r _).mono ?_;rintro e w2 ⟨rfl,rfl⟩;rw [hsc2])
    | (go_at_call 148;refine HW.out.mono ?_;rintro e w3 ⟨v',rfl,hown,hgr,hfr⟩))
   obtain ⟨A4,c4,rfl,_,_⟩:=own_len hown
   have HN4:=hide (HB.out.app hown hgr hfr)
   clear hown hgr hfr
   go_wp2_with fail
   go_roundw
   ·refine ⟨i+1,q+(writeU r).length,A4,c4,by simp,rfl,by omega,?_,hide ?_⟩
    ·have:=write_len r;omega
    ·rw [HTK.out,List.flatMap_append,List.map_append]
     have:=HN4.out
     simpa using this
   ·simp only [intOf];omega
  ·have hie:i=n:=by omega
   subst hie
   have hb:=HB.out
   rw [List.take_of_length_le (by rw [HO.out];exact Nat.le_refl _)] at hb
   have kc:=conv_own wr A3 q c3 _ (Reads.of_own hb.own)
   have HT:=hide hb.touch
   clear hb
   go_wp2_with fail
   exact bodyPost_ret (v:=.tuple #[.string ⟨(O.flatMap writeU).toArray⟩,.bool true]) (by simp [results,Tryz.results93,go_sem]) rfl ⟨rfl,HT.out⟩
end Go.Proofs.YthockgmbooefpaaGreatDoor
namespace Go.Proofs.YthockgmbooefpaaGreatDoor
theorem said_write {r:Nat} (hr:r<1114112):saidU (writeU r).length (writeU r)=r:=by
 unfold writeU
 split
 ·simp only [saidU,List.length_cons,List.length_nil,UInt8.toNat_ofNat']
  omega
 ·split
  ·simp only [saidU,List.length_cons,List.length_nil,UInt8.toNat_ofNat']
   omega
  ·split
   ·simp only [saidU,List.length_cons,List.length_nil,UInt8.toNat_ofNat']
    omega
   ·simp only [saidU,List.length_cons,List.length_nil,UInt8.toNat_ofNat']
    omega
theorem runes_write {r:Nat} (hs:scal r=true):runesU (writeU r)=some [r]:=by
 have hl:=write_len r
 have hit:utf1 (writeU r)=(r,(writeU r).length):=by
  have:=utf1_hit (n:=(writeU r).length) (bs:=writeU r) hl.1 hl.2 (Nat.le_refl _) ⟨by rw [said_write (scal_lt hs)];exact hs,by rw [said_write (scal_lt hs),List.take_length]⟩
  rw [said_write (scal_lt hs)] at this
  exact this
 rw [runesU_step hl.1,hit]
 simp only
 rw [if_neg (by omega),List.drop_length,runesU_nil]
 rfl
theorem word_write {r:Nat} (hs:scal r=true) (hf:fitU r=true):wordU (writeU r)=true:=by
 have hl:=write_len r
 unfold wordU
 rw [runes_write hs]
 simp only [List.all_cons,List.all_nil,Bool.and_true,hf,List.length_cons,List.length_nil,Bool.and_eq_true,decide_eq_true_eq]
 exact ⟨by omega,trivial,by omega,by omega⟩
structure Her (R:Rs):Prop where
 len:R.length≤4096
 run:∀ r∈R,∀ c∈r.1,scal c=true∧fitU c=true
 dep:∀ r∈R,r.1.length≤24
 wt:∀ r∈R,0≤r.2∧r.2≤1048576
theorem level_len (R:Rs):(levelR R).length=R.length:=by simp [levelR]
theorem Her.level {R:Rs} (h:Her R):Her (levelR R):=by
 have key:∀ r∈levelR R,(r.1,r.2+leastR R)∈R:=fun r hr=>mem_level.1 (show (r.1,r.2)∈levelR R from hr)
 refine ⟨by rw [level_len];exact h.len,fun r hr=>h.run (r.1,r.2+leastR R) (key r hr),fun r hr=>h.dep (r.1,r.2+leastR R) (key r hr),fun r hr=>?_⟩
 have h1:=h.wt _ (key r hr)
 have h2:=leastR_le (key r hr)
 have hne:R≠[]:=List.ne_nil_of_mem (key r hr)
 obtain ⟨s,hs,e⟩:=leastR_mem hne
 have h3:=h.wt _ hs
 simp only at h1 h2
 omega
theorem Her.under {R:Rs} (h:Her R) (c:Nat):Her (underR R c):=by
 have key:∀ r∈underR R c,(c :: r.1,r.2)∈R:=fun r hr=>mem_under.1 (show (r.1,r.2)∈underR R c from hr)
 refine ⟨Nat.le_trans (List.length_filterMap_le _ _) h.len,fun r hr d hd=>h.run _ (key r hr) d (List.mem_cons_of_mem _ hd),fun r hr=>?_,fun r hr=>h.wt (c :: r.1,r.2) (key r hr)⟩
 have:=h.dep _ (key r hr)
 simp only [List.length_cons] at this
 omega
theorem arcs_her {st:KnP→Rs→KnP × Nat} (hst:∀ k l,(∀ X∈k.rests,Her X)→Her l→∀ X∈(st k l).1.rests,Her X) {R:Rs} (hR:Her R):∀ (cs:List Nat) (k:KnP),(∀ X∈k.rests,Her X)→∀ X∈(arcsF st R k cs).1.rests,Her X
 | [],_,hk=>hk
 | c :: cs,k,hk=>by
  simp only [arcsF]
  exact arcs_her hst hR cs _ (hst _ _ hk (hR.under c))
theorem stateF_her:∀ f k l,(∀ X∈k.rests,Her X)→Her l→∀ X∈(stateF f k l).1.rests,Her X
 | 0,_,_,hk,_=>hk
 | f+1,k,l,hk,hl=>by
  simp only [stateF]
  split
  ·exact hk
  ·intro X hX
   simp only [List.mem_append,List.mem_singleton] at hX
   rcases hX with h | h
   ·exact arcs_her (stateF_her f) hl.level _ _ hk X h
   ·rw [h];exact hl.level
theorem her_dict {L:List PRow} (h:DictP L):Her (restsL L):=by
 refine ⟨by simpa [restsL] using h.len,?_,?_,?_⟩
 ·intro r hr c hc
  obtain ⟨p,hp,rfl⟩:=List.mem_map.1 hr
  obtain ⟨h1,h2,_,_⟩:=h.word p hp
  exact ⟨(runesU_write _ _ _ (Nat.le_refl _) h1).2 c hc,List.all_eq_true.1 h2 c hc⟩
 ·intro r hr
  obtain ⟨p,hp,rfl⟩:=List.mem_map.1 hr
  exact (h.word p hp).2.2.2
 ·intro r hr
  obtain ⟨p,hp,rfl⟩:=List.mem_map.1 hr
  have:=h.weight p hp
  exact ⟨by simp only;omega,this.2⟩
def lowP (z:StP):Int:=z.arcs.foldl (fun m a=>min m a.2.1) (if z.fin=true then z.out else 1048577)
structure FormP (i:Nat) (z:StP):Prop where
 out0:0≤z.out
 out1:z.out≤1048576
 fin0:z.fin=false→z.out=0
 lab:(z.arcs.map (·.1)).Pairwise (·<·)
 run:∀ a∈z.arcs,scal a.1=true∧fitU a.1=true
 arc:∀ a∈z.arcs,0≤a.2.1∧a.2.1≤1048576∧a.2.2<i
 low:lowP z=0
theorem fold_min (l:List (Nat × Int × Nat)):∀ m:Int,l.foldl (fun m a=>min m a.2.1) m≤m∧(∀ a∈l,l.foldl (fun m a=>min m a.2.1) m≤a.2.1)∧(0≤m→(∀ a∈l,0≤a.2.1)→0≤l.foldl (fun m a=>min m a.2.1) m):=by
 induction l with
 | nil=>intro m;exact ⟨Int.le_refl _,fun a h=>(by cases h),fun h _=>h⟩
 | cons b l ih =>
  intro m
  obtain ⟨h1,h2,h3⟩:=ih (min m b.2.1)
  simp only [List.foldl_cons]
  refine ⟨Int.le_trans h1 (Int.min_le_left _ _),fun a ha=>?_,fun h0 hl=>h3 ?_ fun a ha=>hl a (List.mem_cons_of_mem _ ha)⟩
  ·rcases List.mem_cons.1 ha with e | e
   ·rw [e];exact Int.le_trans h1 (Int.min_le_right _ _)
   ·exact h2 a e
  ·have:=hl b List.mem_cons_self
   omega
theorem arc_wt {rests:List Rs} {i:Nat} {R:Rs} {z:StP} (h:Corr rests i R z) (hh:Her R) {a:Nat × Int × Nat} (ha:a∈z.arcs):0≤a.2.1∧a.2.1≤1048576∧underR R a.1≠[]:=by
 have hc:a.1∈firstsR R:=by rw [← h.labels];exact List.mem_map.2 ⟨a,ha,rfl⟩
 have hne:=mem_firsts.1 hc
 obtain ⟨s,hs,e⟩:=leastR_mem hne
 have:=(hh.under a.1).wt s hs
 rw [e,← (h.arc a ha).1] at this
 exact ⟨this.1,this.2,hne⟩
theorem form_corr {rests:List Rs} {i:Nat} {R:Rs} {z:StP} (h:Corr rests i R z) (hh:Her R):FormP i z:=by
 have hout:0≤z.out∧z.out≤1048576∧(z.fin=false→z.out=0):=by
  rw [h.out,h.fin]
  cases hf:finR R with
  | false=>rw [outR_none h.sort hf];exact ⟨by omega,by omega,fun _=>rfl⟩
  | true =>
   obtain ⟨n,hn⟩:=finR_iff.1 hf
   rw [outR_mem h.sort hn]
   have:=hh.wt _ hn
   exact ⟨this.1,this.2,fun e=>by cases e⟩
 have harc:∀ a∈z.arcs,0≤a.2.1∧a.2.1≤1048576∧a.2.2<i:=fun a ha=>⟨(arc_wt h hh ha).1,(arc_wt h hh ha).2.1,(h.arc a ha).2.1⟩
 refine ⟨hout.1,hout.2.1,hout.2.2,by rw [h.labels];exact firsts_sorted h.sort,?_,harc,?_⟩
 ·intro a ha
  have hc:a.1∈firstsR R:=by rw [← h.labels];exact List.mem_map.2 ⟨a,ha,rfl⟩
  obtain ⟨⟨t,n⟩,hr⟩:=List.exists_mem_of_ne_nil _ (mem_firsts.1 hc)
  exact hh.run _ (mem_under.1 hr) a.1 List.mem_cons_self
 ·unfold lowP
  obtain ⟨h1,h2,h3⟩:=fold_min z.arcs (if z.fin=true then z.out else 1048577)
  have h0:=h3 (by split<;>omega) fun a ha=>(harc a ha).1
  obtain ⟨⟨x,n⟩,hr,e⟩:=leastR_mem h.ne
  rw [h.least] at e
  simp only at e
  subst e
  cases x with
  | nil =>
   obtain ⟨g1,g2⟩:=(mem_end h.sort).1 hr
   rw [← h.fin] at g1
   rw [← h.out] at g2
   rw [if_pos g1,g2] at h1 h0 ⊢
   omega
  | cons c t =>
   have hc:c∈firstsR R:=mem_firsts.2 (List.ne_nil_of_mem (mem_under.2 hr))
   rw [← h.labels] at hc
   obtain ⟨a,ha,rfl⟩:=List.mem_map.1 hc
   have g1:=leastR_le (mem_under.2 hr)
   rw [← (h.arc a ha).1] at g1
   simp only at g1
   have g2:=h2 a ha
   omega
abbrev S3:=Int × Int × Int
def z3:S3:=(0,0,0)
def sumStep (U:List S3) (x:S3) (a:Nat × Int × Nat):S3:=(x.1+(U.getD a.2.2 z3).1,max x.2.1 ((U.getD a.2.2 z3).2.1+1),max x.2.2 (a.2.1+(U.getD a.2.2 z3).2.2))
def sumP (U:List S3) (z:StP) (j:Nat):S3:=(z.arcs.take j).foldl (sumStep U) (if z.fin=true then 1 else 0,0,z.out)
structure SumOk (R:Rs) (u:S3):Prop where
 words:u.1=R.length
 deep0:0≤u.2.1
 deep1:u.2.1≤depR R
 wt0:0≤u.2.2
 wt1:∀ W:Int,(∀ r∈R,r.2≤W)→u.2.2≤W
theorem fold_words (U:List S3) (R:Rs):∀ (l:List (Nat × Int × Nat)) (x:S3),(∀ a∈l,(U.getD a.2.2 z3).1=((underR R a.1).length:Int))→(l.foldl (sumStep U) x).1=x.1+(((l.map (·.1)).map fun c=>(underR R c).length).sum:Nat)
 | [],x,_=>by simp
 | a :: l,x,h=>by
  rw [List.foldl_cons,fold_words U R l _ fun b hb=>h b (List.mem_cons_of_mem _ hb)]
  simp only [sumStep,List.map_cons,List.sum_cons]
  rw [h a List.mem_cons_self]
  omega
theorem fold_deep (U:List S3) (D:Int):∀ (l:List (Nat × Int × Nat)) (x:S3),0≤x.2.1→x.2.1≤D→(∀ a∈l,(U.getD a.2.2 z3).2.1+1≤D)→0≤(l.foldl (sumStep U) x).2.1∧(l.foldl (sumStep U) x).2.1≤D
 | [],x,h0,h1,_=>⟨h0,h1⟩
 | a :: l,x,h0,h1,h=>by
  rw [List.foldl_cons]
  have:=h a List.mem_cons_self
  refine fold_deep U D l _ ?_ ?_ fun b hb=>h b (List.mem_cons_of_mem _ hb)
  ·simp only [sumStep];omega
  ·simp only [sumStep];omega
theorem fold_wt (U:List S3) (W:Int):∀ (l:List (Nat × Int × Nat)) (x:S3),0≤x.2.2→x.2.2≤W→(∀ a∈l,a.2.1+(U.getD a.2.2 z3).2.2≤W)→0≤(l.foldl (sumStep U) x).2.2∧(l.foldl (sumStep U) x).2.2≤W
 | [],x,h0,h1,_=>⟨h0,h1⟩
 | a :: l,x,h0,h1,h=>by
  rw [List.foldl_cons]
  have:=h a List.mem_cons_self
  refine fold_wt U W l _ ?_ ?_ fun b hb=>h b (List.mem_cons_of_mem _ hb)
  ·simp only [sumStep];omega
  ·simp only [sumStep];omega
theorem sum_take (f:Nat→Nat) (l:List Nat) (j:Nat):((l.take j).map f).sum≤(l.map f).sum:=by
 conv=>rhs;rw [← List.take_append_drop j l]
 rw [List.map_append,List.sum_append]
 omega
def SumsTo (k:KnP) (U:List S3) (i:Nat):Prop:=∀ j,j<i→∀ R,k.rests[j]? = some R→SumOk R (U.getD j z3)
theorem sum_corr {k:KnP} {U:List S3} {i:Nat} {R:Rs} {z:StP} (hU:SumsTo k U i) (h:Corr k.rests i R z) (hh:Her R) (hd:depR R≤24) (j:Nat) :
  (0≤(sumP U z j).1∧(sumP U z j).1≤4096)∧(0≤(sumP U z j).2.1∧(sumP U z j).2.1≤depR R)∧(0≤(sumP U z j).2.2∧∀ W:Int,(∀ r∈R,r.2≤W)→(sumP U z j).2.2≤W)∧(z.arcs.length≤j→SumOk R (sumP U z j)) ∧
  (∀ a∈z.arcs,0≤(U.getD a.2.2 z3).1∧(U.getD a.2.2 z3).1≤4096∧0≤(U.getD a.2.2 z3).2.1∧(U.getD a.2.2 z3).2.1≤24∧0≤(U.getD a.2.2 z3).2.2∧(U.getD a.2.2 z3).2.2≤1048576):=by
 have hfm:=form_corr h hh
 have hsub:∀ a∈z.arcs,SumOk (levelR (underR R a.1)) (U.getD a.2.2 z3):=fun a ha=>hU a.2.2 (h.arc a ha).2.1 _ (h.arc a ha).2.2
 have hw:∀ a∈z.arcs,(U.getD a.2.2 z3).1=((underR R a.1).length:Int):=fun a ha=>by rw [(hsub a ha).words,level_len]
 have hdp:∀ a∈z.arcs,(U.getD a.2.2 z3).2.1+1≤depR R:=fun a ha=>by
  have h1:=(hsub a ha).deep1
  rw [depR_level] at h1
  have h2:=depR_under (arc_wt h hh ha).2.2
  omega
 have hwt:∀ W:Int,(∀ r∈R,r.2≤W)→∀ a∈z.arcs,a.2.1+(U.getD a.2.2 z3).2.2≤W:=fun W hW a ha=>by
  have h1:=(hsub a ha).wt1 (W-a.2.1) fun r hr=>by
   have h2:=mem_level.1 (show (r.1,r.2)∈levelR (underR R a.1) from hr)
   have h3:=hW _ (mem_under.1 h2)
   rw [(h.arc a ha).1]
   simp only at h3
   omega
  omega
 have hfin:∀ W:Int,(∀ r∈R,r.2≤W)→z.out≤W:=fun W hW=>by
  cases hf:z.fin with
  | false =>
   rw [hfm.fin0 hf]
   obtain ⟨r,hr,e⟩:=leastR_mem h.ne
   have h1:=hW r hr
   rw [h.least] at e
   omega
  | true =>
   rw [h.fin] at hf
   obtain ⟨n,hn⟩:=finR_iff.1 hf
   rw [h.out,outR_mem h.sort hn]
   exact hW _ hn
 have hone:(if z.fin=true then (1:Int) else 0)=((if finR R=true then 1 else 0:Nat):Int):=by
  rw [h.fin];split<;>rfl
 have hlen:=words_count h.sort
 have hwords:∀ j,(sumP U z j).1=((if finR R=true then 1 else 0:Nat):Int)+((((firstsR R).take j).map fun c=>(underR R c).length).sum:Nat):=fun j=>by
  unfold sumP
  rw [fold_words U R _ _ fun a ha=>hw a (List.mem_of_mem_take ha)]
  simp only
  rw [hone,List.map_take,h.labels]
 have h1:∀ a∈z.arcs.take j,a∈z.arcs:=fun a ha=>List.mem_of_mem_take ha
 have hdj:=fold_deep U (depR R) (z.arcs.take j) (if z.fin=true then 1 else 0,0,z.out) (Int.le_refl _) (by simp only;omega) fun a ha=>hdp a (h1 a ha)
 have hwj:∀ W:Int,(∀ r∈R,r.2≤W)→0≤(sumP U z j).2.2∧(sumP U z j).2.2≤W:=fun W hW=>fold_wt U W (z.arcs.take j) (if z.fin=true then 1 else 0,0,z.out) hfm.out0 (hfin W hW) fun a ha=>hwt W hW a (h1 a ha)
 have hW0:=hwj 1048576 fun r hr=>(hh.wt r hr).2
 have hst:=sum_take (fun c=>(underR R c).length) (firstsR R) j
 have hl:=hh.len
 refine ⟨?_,hdj,⟨hW0.1,fun W hW=>(hwj W hW).2⟩,fun hj=>⟨?_,hdj.1,hdj.2,hW0.1,fun W hW=>(hwj W hW).2⟩,fun a ha=>?_⟩
 ·rw [hwords j]
  omega
 ·rw [hwords j,List.take_of_length_le (by rw [← h.labels,List.length_map];exact hj)]
  omega
 ·have h2:=hsub a ha
  have h3:=hw a ha
  have h4:=(hh.under a.1).len
  have h5:=hdp a ha
  have h6:=h2.wt1 1048576 fun r hr=>((hh.under a.1).level.wt r hr).2
  refine ⟨by omega,by omega,h2.deep0,by omega,h2.wt0,h6⟩
theorem sumP_zero (U:List S3) (z:StP):sumP U z 0=(if z.fin=true then 1 else 0,0,z.out):=by simp [sumP]
theorem sumP_succ (U:List S3) (z:StP) (j:Nat) (hj:j<z.arcs.length):sumP U z (j+1)=sumStep U (sumP U z j) (z.arcs.getD j (0,0,0)):=by
 unfold sumP
 rw [List.take_succ_eq_append_getElem hj,List.foldl_append]
 simp [List.getD,hj]
end Go.Proofs.YthockgmbooefpaaGreatDoor
namespace Go.Proofs.YthockgmbooefpaaGreatDoor
open Go.RowKit
theorem SL.Ok.touch {s:SL} {w w':World} (h:s.Ok w) (T:Touch (fun _=>False) w w'):s.Ok w':=⟨h.len,h.reads.touch T (fun _ _ f=>f),h.nil⟩
theorem tot_dict {L:List PRow} (h:DictP L):totR (restsL L)≤98304:=by
 have h1:∀ l:List PRow,(∀ p∈l,(wordR p).length≤24)→totR (restsL l)≤24*l.length:=by
  intro l
  induction l with
  | nil=>intro _;exact Nat.le_refl _
  | cons p l ih =>
   intro hp
   have:=ih fun q hq=>hp q (List.mem_cons_of_mem _ hq)
   have:=hp p List.mem_cons_self
   simp only [restsL,List.map_cons,totR,List.length_cons] at *
   omega
 have:=h1 L fun p hp=>(h.word p hp).2.2.2
 have:=h.len
 omega
structure StsOk (w:World) (A:Option Addr) (n:Nat) (Z:List SV):Prop where
 rd:RdT w 170 3 A n (sCells Z)
 len:Z.length=n
 el:∀ z∈Z,z.Ok w
theorem StsOk.quiet {w w':World} {A:Option Addr} {n:Nat} {Z:List SV} (h:StsOk w A n Z) (T:Touch (fun _=>False) w w'):StsOk w' A n Z:=⟨h.rd.quiet T,h.len,fun z hz=>(h.el z hz).touch T (fun _ _ f=>f)⟩
def kNil:KV:=⟨none,0,0,[],none,0,0,[]⟩
theorem kNil_ok (w:World):kNil.Ok w:=⟨World.ownsRow_nil _ _ _ _,rfl,fun x hx=>(by cases hx),World.ownsRow_nil _ _ _ _,rfl,fun z hz=>(by cases hz)⟩
def MkYoung (w:World) (A:Option Addr) (n:Nat) (Z:List SV):Prop:=(0<n→∀ g,adBlock A=some g→w.heap.size≤g)∧∀ z∈Z,0<z.n→∀ g,adBlock z.A=some g→w.heap.size≤g
set_option maxRecDepth 100000 in
set_option maxHeartbeats 1000000 in
theorem make_new (w:World) (s:SL) (hs:s.Ok w) (hD:DictP s.L) (hWf:∀ r∈s.L,r.word.size≤1099511627776) :
  Calls Tryz.prog 66 #[s.val] w fun e w'=>∃ A n c Z,e=.returned (.agg #[.int .i64 (mach s.L).base,.slice A n c])∧StsOk w' A n Z∧Z.map SV.p=(mach s.L).states∧n≤c∧c≤maxLen∧MkYoung w A n Z∧Touch (fun _=>False) w w':=by
 by_cases hz:s.L=[]
 ·have hn:s.n=0:=by rw [← hs.len,hz];rfl
  obtain ⟨A,n,c,L⟩:=s
  simp only at hz hn
  subst hz hn
  have hm:mach []=⟨0,[]⟩:=by unfold mach;rw [if_pos rfl]
  simp only [SL.val]
  rw [hm]
  clear hs hD hWf hm
  have hb:Blk (w.alloc (.cells #[.int .i64 0,.slice none 0 0] 89)) w.heap.size 89 #[.int .i64 0,.slice none 0 0]:=Blk.new _ _ _
  obtain ⟨x0,x1,x2⟩:=hb.facts
  have HB:=hide hb
  clear hb
  go_enter Tryz.func66,Tryz.ntmps66
  go_wp2_with fail
  have f0:=HB.out.cell 0
  have f1:=HB.out.cell 1
  simp at f0 f1
  exact bodyPost_ret (v:=.agg #[.int .i64 0,.slice none 0 0]) (by simp [results,Tryz.results66,go_sem]) rfl ⟨none,0,0,[],rfl,⟨⟨Reads.nil _ _ _,fun h=>absurd h (by omega)⟩,rfl,fun z hz=>(by cases hz)⟩,rfl,Nat.le_refl _,by unfold maxLen;omega,⟨fun h=>absurd h (by omega),fun z hz=>(by cases hz)⟩,(Touch.refl _ _).alloc _⟩
 ·have hn:0<s.n:=by rw [← hs.len];exact List.length_pos_iff.2 hz
  have hm:mach s.L=⟨leastR (restsL s.L),(stateF 25 ⟨[],[]⟩ (restsL s.L)).1.states⟩:=by unfold mach;rw [if_neg hz]
  rw [hm]
  have HNE:=hide hz
  have HD:=hide hD
  have HSS:=hide hs
  have HRS:=hide (fun w1 T=>rests_any w1 s (hs.touch (w':=w1) T) hD hWf)
  have hn4:s.n≤4096:=by rw [← hs.len];exact hD.len
  obtain ⟨A,n,c,L⟩:=s
  simp only at hn hn4 HNE HD
  simp only [SL.val] at HRS ⊢
  clear hs hD hWf hz hm
  obtain ⟨B,hB⟩:∃ B,B=w.heap.size:=⟨_,rfl⟩
  obtain ⟨w0,hw0⟩:∃ x,x=w.alloc (.cells #[.int .i64 0,.slice none 0 0] 89):=⟨_,rfl⟩
  have hb:Blk w0 B 89 #[.int .i64 0,.slice none 0 0]:=by rw [hw0,hB];exact Blk.new _ _ _
  have hT0:Touch (fun _=>False) w w0:=by rw [hw0];exact (Touch.refl _ _).alloc _
  have HW0:=hide hw0
  have HBB:=hide hB
  have HB0:=hide hb
  have HT0:=hide hT0
  have y0:((n:Int) == 0)=false:=by simp;omega
  have y1:¬ (n:Int)=0:=by omega
  clear hw0 hB hb hT0
  go_enter Tryz.func66,Tryz.ntmps66
  go_wp2_with fail
  rw [← HW0.out,← HBB.out]
  refine (HRS.out w0 HT0.out).mono ?_
  rintro e w1 ⟨⟨rA,rn,rc,rV⟩,rfl,hr1,hr2,hr3,hr4,T1⟩
  simp only [RL.val]
  simp only at hr2 hr3
  subst hr3
  have HR1:=hide hr1
  have HT1:=hide (HT0.out.then T1)
  have HB1:=hide (HB0.out.touch T1 (fun f=>f))
  have hst:=state_any 25 w1 kNil ⟨rA,rn,rc,rV⟩ (kNil_ok _) good_nil hr1 hr4 (by rw [hr2];exact HD.out.sort) hn hn4 (by rw [hr2];exact dep_dict HD.out) (by rw [hr2];have:=tot_dict HD.out;simp only [kNil,KV.p,List.map_nil,List.length_nil];omega)
  have HP:=hide hr2
  have HBD:=hide hr4
  rw [hr2] at hst
  have hst2:Calls Tryz.prog 127 #[.agg #[.slice none 0 0,.slice none 0 0],.slice rA rn rc] w1 _:=hst
  have HST:=hide hst2
  clear hst hst2 hr1 hr2 hr4 T1 HRS
  go_wp2_with fail
  refine HST.out.mono ?_
  rintro e w2 ⟨⟨kA,kn,kc,kX,qA,qn,qc,kZ⟩,rfl,ho,hp,T2,_,hfs,hzs⟩
  have HFS:=hide (And.intro hfs hzs)
  clear hfs hzs
  have HW1:=hide HT1.out.size
  simp only [KV.val,KV.r,KV.s]
  have T2':Touch (fun _=>False) w1 w2:=T2.mono (fun g _ h=>by rcases h with h | h<;>simp [kNil,KV.r,KV.s,Value.ownBlock] at h)
  have HO:=hide ho
  have HKP:=hide hp
  have hb2:=HB1.out.touch T2' (fun f=>f)
  obtain ⟨x0,x1,x2⟩:=hb2.facts
  have HT2:=hide (HT1.out.then T2')
  have HR2:=hide (HR1.out.quiet T2')
  have HB2:=hide hb2
  clear ho hp T2 T2' hb2 HST
  obtain ⟨u,hu⟩:∃ u,u=w2.alloc (.cells #[.slice kA kn kc,.slice qA qn qc] 229):=⟨_,rfl⟩
  obtain ⟨D,hDD⟩:∃ D,D=w2.heap.size:=⟨_,rfl⟩
  have hTu:Touch (fun _=>False) w2 u:=by rw [hu];exact (Touch.refl _ _).alloc _
  have hbD:Blk u D 229 #[.slice kA kn kc,.slice qA qn qc]:=by rw [hu,hDD];exact Blk.new _ _ _
  have hbB:=HB2.out.touch hTu (fun f=>f)
  have HU:=hide hu
  have HDD:=hide hDD
  have HTU:=hide hTu
  have HBB3:=hide hbB
  have hLE:Calls Tryz.prog 128 #[.slice rA rn rc] u.drew fun e w'=>e=.returned (.int .i64 (leastR (restsL L)))∧w'=u.drew:=by
   have:=least_is u.drew ⟨rA,rn,rc,rV⟩ ((HR2.out.quiet hTu).quiet (Touch.refl _ _).drew) hn (by unfold maxLen;simp only;omega)
   rw [HP.out] at this
   exact this
  have HLE:=hide hLE
  obtain ⟨y3,y4,y5⟩:=hbD.facts
  obtain ⟨z3,z4,z5⟩:=hbB.facts
  clear hu hDD hTu hbD hbB hLE
  go_wp2_with fail
  rw [← HU.out,← HDD.out]
  go_region_law (go_simp;refine (HLE.out).mono ?_;rintro e v9 ⟨rfl,rfl⟩;go_simp)
  all_goals
   go_wp2_with fail
   have hbf:=((HBB3.out.set_ 0 (.int .i64 (leastR (restsL L)))).set_ 1 (.slice qA qn qc)).drew
   have f0:=hbf.cell 0
   have f1:=hbf.cell 1
   simp at f0 f1
   have hTF:Touch (fun x=>x=B) u ((((u.setCell ⟨B,0,none⟩ (.int .i64 (leastR (restsL L)))).setCell ⟨B,1,none⟩ (.slice qA qn qc)).drew)):=(((Touch.refl (fun x=>x=B) _).setCell (p:=⟨B,0,none⟩) (fun _=>rfl) _).setCell (p:=⟨B,1,none⟩) (fun _=>rfl) _).drew
   have ho:=HO.out.quiet HTU.out
   have hnB:∀ t,t ≠ 89 → ∀ g,TyAt u g t→¬ g=B:=fun t ht g hg e=>hg.ne (blk_ty HBB3.out) ht e
   have hos:=ho.s
   simp only [KV.s] at hos
   refine bodyPost_ret (v:=.agg #[.int .i64 (leastR (restsL L)),.slice qA qn qc]) (by simp [results,Tryz.results66,go_sem,f0,f1]) rfl ⟨qA,qn,qc,kZ,rfl,⟨(RdT.of_own hos).touch hTF (hnB _ (by decide)),ho.sl,fun z hz=>(ho.se z hz).touch hTF (hnB _ (by decide))⟩,?_,(own_slice hos).1,(own_slice hos).2,⟨?_,?_⟩,?_⟩
   ·exact congrArg KnP.states HKP.out
   ·intro _ g hg
    have hg2:(Value.slice qA qn qc).ownBlock=some g:=by
     cases qA with
     | none=>cases hg
     | some a=>exact hg
    rcases HFS.out.1 with e | ⟨g2,e,hle⟩
    ·have e2:(Value.slice qA qn qc).ownBlock=none:=e
     rw [hg2] at e2
     cases e2
    ·have e2:(Value.slice qA qn qc).ownBlock=some g2:=e
     rw [hg2] at e2
     injection e2 with e2
     have:=HW1.out
     omega
   ·intro z hz hn0 g hg
    rcases HFS.out.2 z hz with e | e
    ·cases e
    ·have h1:=e hn0 g hg
     have:=HW1.out
     omega
   ·refine ((HT2.out.then HTU.out).up _ |> fun (h:Touch (fun x=>x=B) w u)=>(h.then hTF)).mono ?_ |> id
    intro g hg e
    have:=HBB.out
    omega
theorem make_any (w:World) (s:SL) (hs:s.Ok w) (hD:DictP s.L) (hWf:∀ r∈s.L,r.word.size≤1099511627776) :
  Calls Tryz.prog 66 #[s.val] w fun e w'=>∃ A n c Z,e=.returned (.agg #[.int .i64 (mach s.L).base,.slice A n c])∧StsOk w' A n Z∧Z.map SV.p=(mach s.L).states∧n≤c∧c≤maxLen∧Touch (fun _=>False) w w' :=
 (make_new w s hs hD hWf).mono fun _ _ ⟨A,n,c,Z,h1,h2,h3,h4,h5,_,h6⟩=>⟨A,n,c,Z,h1,h2,h3,h4,h5,h6⟩
end Go.Proofs.YthockgmbooefpaaGreatDoor
namespace Go.Proofs.YthockgmbooefpaaGreatDoor
open Go.RowKit
structure WkOk (w:World) (p:Addr) (base:Int) (A:Option Addr) (n c:Nat) (Z:List SV) (wv:Value):Prop where
 blk:∃ b,p=⟨b,0,none⟩∧Blk w b 167 #[.int .i64 base,.slice A n c,wv]
 sts:StsOk w A n Z
theorem WkOk.quiet {w w':World} {p:Addr} {base:Int} {A:Option Addr} {n c:Nat} {Z:List SV} {wv:Value} (h:WkOk w p base A n c Z wv) (T:Touch (fun _=>False) w w'):WkOk w' p base A n c Z wv:=by
 obtain ⟨b,e,hb⟩:=h.blk
 exact ⟨⟨b,e,hb.touch T (fun f=>f)⟩,h.sts.quiet T⟩
theorem root_any (w:World) (b:Nat) (base:Int) (A:Option Addr) (n c:Nat) (wv:Value) (hb:Blk w b 167 #[.int .i64 base,.slice A n c,wv]) (hn:n≤1000000) :
  Calls Tryz.prog 98 #[.pointer (some ⟨b,0,none⟩)] w fun e w'=>e=.returned (.int .i64 ((n:Int)-1))∧w'=w:=by
 obtain ⟨x0,x1,x2⟩:=hb.facts
 have z1:IntKind.i64.wrap ((n:Int)-1)=(n:Int)-1:=IntWalk.i64_in _ (by omega)
 go_enter Tryz.func98,Tryz.ntmps98
 go_wp2
 go_ret
 exact ⟨rfl,rfl⟩
theorem sCells_at (X:List SV) (z0:SV) (k:Nat) (hk:k<X.length) (j:Nat) (hj:j<3):(sCells X)[k*3+j]? = some ((X.getD k z0).cells.getD j undef):=by
 induction X generalizing k with
 | nil=>simp at hk
 | cons x X ih =>
  have e:sCells (x :: X)=x.cells++sCells X:=rfl
  cases k with
  | zero =>
   rw [e,Nat.zero_mul,Nat.zero_add]
   obtain rfl | rfl | rfl:j=0∨j=1∨j=2:=by omega
   ·rfl
   ·rfl
   ·rfl
  | succ k =>
   rw [e,List.getElem?_append_right (by simp [SV.cells];omega)]
   have:(k+1)*3+j-x.cells.length=k*3+j:=by simp [SV.cells];omega
   rw [this,ih k (by simp at hk;omega)]
   simp [List.getD]
theorem aCells_at (X:List (Nat × Int × Nat)) (k:Nat) (hk:k<X.length) (j:Nat) (hj:j<3):(aCells X)[k*3+j]? = some ([.int .i32 ((X.getD k (0,0,0)).1:Int),.int .i64 (X.getD k (0,0,0)).2.1,.int .i64 ((X.getD k (0,0,0)).2.2:Int)].getD j undef):=by
 induction X generalizing k with
 | nil=>simp at hk
 | cons x X ih =>
  have e:aCells (x :: X)=[.int .i32 (x.1:Int),.int .i64 x.2.1,.int .i64 (x.2.2:Int)]++aCells X:=rfl
  cases k with
  | zero =>
   rw [e,Nat.zero_mul,Nat.zero_add]
   obtain rfl | rfl | rfl:j=0∨j=1∨j=2:=by omega
   ·rfl
   ·rfl
   ·rfl
  | succ k =>
   rw [e,List.getElem?_append_right (by simp;omega)]
   have:(k+1)*3+j-[Value.int .i32 (x.1:Int),.int .i64 x.2.1,.int .i64 (x.2.2:Int)].length=k*3+j:=by simp;omega
   rw [this,ih k (by simp at hk;omega)]
   simp [List.getD]
def svZero:SV:=⟨false,0,none,0,0,[]⟩
theorem state_at {w:World} {A:Option Addr} {n:Nat} {X:List SV} (h:Reads w 3 A n (sCells X)) (hn:X.length=n) (k:Nat) (hk:k<n) :
  ∃ g off,A=some ⟨g,off,none⟩∧g<w.heap.size∧w.cell? ⟨g,off+k*3,none⟩=some (.bool (X.getD k svZero).fin)∧w.cell? ⟨g,off+k*3+1,none⟩=some (.int .i64 (X.getD k svZero).out)∧w.cell? ⟨g,off+k*3+2,none⟩=some (.slice (X.getD k svZero).A (X.getD k svZero).n (X.getD k svZero).c):=by
 obtain ⟨b,off,hA,hb,hc⟩:=h.2 (by omega)
 refine ⟨b,off,hA,hb,?_,?_,?_⟩
 ·exact hc (k*3) _ (sCells_at X svZero k (by omega) 0 (by omega))
 ·rw [Nat.add_assoc];exact hc (k*3+1) _ (sCells_at X svZero k (by omega) 1 (by omega))
 ·rw [Nat.add_assoc];exact hc (k*3+2) _ (sCells_at X svZero k (by omega) 2 (by omega))
theorem arc_at {w:World} {A:Option Addr} {n:Nat} {X:List (Nat × Int × Nat)} (h:Reads w 3 A n (aCells X)) (hn:X.length=n) (k:Nat) (hk:k<n) :
  ∃ g off,A=some ⟨g,off,none⟩∧g<w.heap.size∧w.cell? ⟨g,off+k*3,none⟩=some (.int .i32 ((X.getD k (0,0,0)).1:Int))∧w.cell? ⟨g,off+k*3+1,none⟩=some (.int .i64 (X.getD k (0,0,0)).2.1)∧w.cell? ⟨g,off+k*3+2,none⟩=some (.int .i64 ((X.getD k (0,0,0)).2.2:Int)):=by
 obtain ⟨b,off,hA,hb,hc⟩:=h.2 (by omega)
 refine ⟨b,off,hA,hb,?_,?_,?_⟩
 ·exact hc (k*3) _ (aCells_at X k (by omega) 0 (by omega))
 ·rw [Nat.add_assoc];exact hc (k*3+1) _ (aCells_at X k (by omega) 1 (by omega))
 ·rw [Nat.add_assoc];exact hc (k*3+2) _ (aCells_at X k (by omega) 2 (by omega))
theorem stepA_snoc (l:List (Nat × Int × Nat)) (a:Nat × Int × Nat) (r:Nat) (p:Int × Int):stepA (l++[a]) r p=if a.1=r then ((a.2.2:Int),(stepA l r p).2+a.2.1) else stepA l r p:=by
 unfold stepA
 rw [List.foldl_append]
 rfl
structure Small (n:Nat) (Z:List SV):Prop where
 lab:∀ z∈Z,(z.arcs.map (·.1)).Nodup
 arc:∀ z∈Z,∀ a∈z.arcs,0≤a.2.1∧a.2.1≤1048576∧a.2.2<n
 out:∀ z∈Z,0≤z.out∧z.out≤1048576
theorem stepA_small {l:List (Nat × Int × Nat)} {n r:Nat} (hn:(l.map (·.1)).Nodup) (hb:∀ a∈l,0≤a.2.1∧a.2.1≤1048576∧a.2.2<n) (sum:Int):sum≤(stepA l r (-1,sum)).2∧(stepA l r (-1,sum)).2≤sum+1048576∧-1≤(stepA l r (-1,sum)).1∧(stepA l r (-1,sum)).1<n:=by
 by_cases h:r∈l.map (·.1)
 ·obtain ⟨a,ha,hr⟩:=List.mem_map.1 h
  rw [stepA_some hn ha hr]
  have:=hb a ha
  simp only
  omega
 ·rw [stepA_none h]
  simp only
  omega
end Go.Proofs.YthockgmbooefpaaGreatDoor
