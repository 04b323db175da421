/- What the law rests on, part 43. No condition but those that each theorem names. -/
import Derived.Test.YtbijfoeaemceiaaGreatDoorM42
import Derived.Test.YtbijfoeaemceiaaGreatDoorM19
import Derived.StillTailTactics
import Derived.Test.YtbijfoeaemceiaaGreatDoorM00
import Derived.Test.YtbijfoeaemceiaaGreatDoorRows
import Derived.Test.YtbijfoeaemceiaaGreatDoorCards
import Derived.Test.YtbijfoeaemceiaaGreatDoorTie
import Derived.Deep.DeepHandedRow
import Derived.ProofKit
import Derived.OpenShut
import Derived.SevenTiedAt
set_option linter.unusedSectionVars false
set_option linter.unusedSimpArgs false
set_option linter.unusedVariables false
namespace Go.Proofs.YtbijfoeaemceiaaGreatDoor
open Go.RowKit
structure OpD where
 kind:Int
 word:ByteArray
 n:Int
def OpD.zero:OpD:=⟨0,ByteArray.empty,0⟩
def OpD.cells (o:OpD):List Value:=[.int .i64 o.kind,.string o.word,.int .i64 o.n]
def OpD.val (o:OpD):Value:=.agg #[.int .i64 o.kind,.string o.word,.int .i64 o.n]
def oCells (l:List OpD):List Value:=l.flatMap OpD.cells
def OpD.Wf (o:OpD):Prop:=o.word.size≤1099511627776
theorem op_at {w:World} {A:Option Addr} {n:Nat} {X:List OpD} (h:Reads w 3 A n (oCells X)) (hn:n=X.length) (k:Nat) (hk:k<n) :
  ∃ g off,A=some ⟨g,off,none⟩∧g<w.heap.size∧w.cell? ⟨g,off+k*3,none⟩=some (.int .i64 (X.getD k OpD.zero).kind)∧w.cell? ⟨g,off+k*3+1,none⟩=some (.string (X.getD k OpD.zero).word) ∧
   w.cell? ⟨g,off+k*3+2,none⟩=some (.int .i64 (X.getD k OpD.zero).n):=by
 subst hn
 obtain ⟨b,off,hA,hb,hc⟩:=h.2 (by omega)
 have key:∀ j,j<3→(oCells X)[k*3+j]? = (X.getD k OpD.zero).cells[j]? := fun j hj=>by
  have e:X.getD k OpD.zero=X[k]:=by simp [List.getD,hk]
  rw [e]
  exact flat_at OpD.cells 3 (fun _=>rfl) X k j hk hj
 refine ⟨b,off,hA,hb,?_,?_,?_⟩
 ·exact hc (k*3) _ (key 0 (by omega))
 ·rw [Nat.add_assoc];exact hc (k*3+1) _ (key 1 (by omega))
 ·rw [Nat.add_assoc];exact hc (k*3+2) _ (key 2 (by omega))
def opP (o:OpD) (L:List PRow):List PRow:=if o.kind=0 then setL L o.word o.n else if o.kind=1 then remL L o.word else L
def runP (T:List OpD) (L:List PRow):List PRow:=T.foldl (fun L o=>opP o L) L
theorem runP_snoc (T:List OpD) (o:OpD) (L:List PRow):runP (T++[o]) L=opP o (runP T L):=by simp [runP]
theorem otake_succ (T:List OpD) (i:Nat) (h:i<T.length):T.take (i+1)=T.take i++[T.getD i OpD.zero]:=by
 rw [List.take_succ_eq_append_getElem h]
 have e:T.getD i OpD.zero=T[i]:=by simp [List.getD,h]
 rw [e]
set_option maxRecDepth 100000 in
set_option maxHeartbeats 4000000 in
theorem does_any (w:World) (hL:Lst w) {d:Nat} {L:List PRow} {q:Nat} (h:DctM w d L q) (B0:Nat) (s:SL) (hs:RfL B0 w s L) (hB:B0≤d) (o:OpD) (ho:o.Wf) :
  Calls Tryz.prog 32 #[ptrV d,s.val,o.val] w fun e w'=>∃ s':SL,e=.returned (.tuple #[s'.val,.bool true])∧(∃ q',DctM w' d (opP o L) q')∧RfL B0 w' s' (opP o L)∧Touch (fun g=>g=d) w w':=by
 obtain ⟨kd,kw,n⟩:=o
 unfold OpD.Wf at ho
 simp only at ho
 obtain ⟨wa,hwa⟩:∃ z,z=w.alloc (.cells #[.int .i64 kd,.string kw,.int .i64 n] 56):=⟨_,rfl⟩
 obtain ⟨bb,hbb⟩:∃ z,z=w.heap.size:=⟨_,rfl⟩
 have hTa:Touch (fun _=>False) w wa:=by rw [hwa];exact (Touch.refl _ _).alloc _
 have hbB:Blk wa bb 56 #[.int .i64 kd,.string kw,.int .i64 n]:=by rw [hwa,hbb];exact Blk.new _ _ _
 have hda:=h.quiet hTa
 have hLa:=Lst.touch hL hTa
 have HTA:=hide hTa
 have HBB:=hide hbB
 have HWA:=hide hwa
 have HB0:=hide hbb
 have HS:=hide (hs.quiet hTa)
 have HDD:=hide h.dict
 have HBd:=hide hB
 have HLa:=hide hLa
 have HDa:=hide hda
 have hne:bb≠d:=(blk_ty hbB).ne hda.ty (by decide)
 have HNE:=hide hne
 unfold OpD.val
 simp only
 clear hwa hbb hTa hs h hL hB hne
 by_cases h0:kd=0
 ·subst h0
  have hop:opP ⟨0,kw,n⟩ L=setL L kw n:=rfl
  rw [hop]
  have HDS:=hide (dset_any wa hLa hda kw ho n)
  have HRS:=hide (fun (wx:World) (hr:RfL B0 wx s L)=>rset_any wx B0 s hr HDD.out kw ho n)
  obtain ⟨hh,hhh⟩:∃ x,x=setH L kw n:=⟨_,rfl⟩
  obtain ⟨ee,hee⟩:∃ x,x=setE L kw.toList n:=⟨_,rfl⟩
  obtain ⟨L2,hL2⟩:∃ x,x=setL L kw n:=⟨_,rfl⟩
  rw [← hhh,← hee,← hL2] at HDS
  simp only [← hhh,← hee,← hL2] at HRS
  rw [← hL2]
  obtain ⟨b0,b1,b2⟩:=hbB.facts
  clear hhh hee hL2 ho hda hLa hop
  go_enter Tryz.func32,Tryz.ntmps32
  go_upto_region 1 with fail
  rw [← HWA.out,← HB0.out]
  go_wp2_with fail
  refine HDS.out.mono ?_
  rintro e w1 ⟨rfl,⟨q1,hd1⟩,T1⟩
  have HD1:=hide hd1
  have HT1:=hide ((HTA.out.up _).then T1)
  have HB1:=hide (HBB.out.touch T1 HNE.out)
  have HR1:=hide (HRS.out w1 (HS.out.dict T1 HBd.out HDa.out.ty))
  clear b0 b1 b2 hd1 T1 HRS HDS
  obtain ⟨b0,b1,b2⟩:=HB1.out.facts
  go_wp2_with fail
  refine HR1.out.mono ?_
  rintro e w2 ⟨s2,rfl,hr2,T2⟩
  have HR2:=hide hr2
  have HT2:=hide (HT1.out.then (T2.up _))
  have HD2:=hide (HD1.out.quiet T2)
  clear hr2 T2 HR1 b0 b1 b2
  go_wp2_with fail
  go_ret2
  exact ⟨s2,by simp,⟨q1,HD2.out⟩,HR2.out,HT2.out⟩
 ·by_cases h1:kd=1
  ·subst h1
   have hop:opP ⟨1,kw,n⟩ L=remL L kw:=rfl
   rw [hop]
   have HDS:=hide (dremove_any wa hLa hda kw ho)
   have HRS:=hide (fun (wx:World) (hr:RfL B0 wx s L)=>rremove_any wx B0 s hr HDD.out kw ho)
   obtain ⟨hh,hhh⟩:∃ x,x=remH L kw:=⟨_,rfl⟩
   obtain ⟨ee,hee⟩:∃ x,x=remE L kw.toList:=⟨_,rfl⟩
   obtain ⟨L2,hL2⟩:∃ x,x=remL L kw:=⟨_,rfl⟩
   rw [← hhh,← hee,← hL2] at HDS
   simp only [← hhh,← hee,← hL2] at HRS
   rw [← hL2]
   obtain ⟨b0,b1,b2⟩:=hbB.facts
   clear hhh hee hL2 ho hda hLa hop h0
   go_enter Tryz.func32,Tryz.ntmps32
   go_upto_region 1 with fail
   rw [← HWA.out,← HB0.out]
   go_wp2_with fail
   refine HDS.out.mono ?_
   rintro e w1 ⟨rfl,⟨q1,hd1⟩,T1⟩
   have HD1:=hide hd1
   have HT1:=hide ((HTA.out.up _).then T1)
   have HB1:=hide (HBB.out.touch T1 HNE.out)
   have HR1:=hide (HRS.out w1 (HS.out.dict T1 HBd.out HDa.out.ty))
   clear b0 b1 b2 hd1 T1 HRS HDS
   obtain ⟨b0,b1,b2⟩:=HB1.out.facts
   go_wp2_with fail
   refine HR1.out.mono ?_
   rintro e w2 ⟨s2,rfl,hr2,T2⟩
   have HR2:=hide hr2
   have HT2:=hide (HT1.out.then (T2.up _))
   have HD2:=hide (HD1.out.quiet T2)
   clear hr2 T2 HR1 b0 b1 b2
   go_wp2_with fail
   go_ret2
   exact ⟨s2,by simp,⟨q1,HD2.out⟩,HR2.out,HT2.out⟩
  ·have hop:opP ⟨kd,kw,n⟩ L=L:=by unfold opP;rw [if_neg h0,if_neg h1]
   rw [hop]
   obtain ⟨b0,b1,b2⟩:=hbB.facts
   by_cases h2:kd=2
   ·subst h2
    have HDS:=hide (compact_any wa hLa hda)
    clear ho hda hLa hop h0 h1
    go_enter Tryz.func32,Tryz.ntmps32
    go_upto_region 1 with fail
    rw [← HWA.out,← HB0.out]
    go_wp2_with fail
    refine HDS.out.mono ?_
    rintro e w1 ⟨rfl,hd1,T1⟩
    have HD1:=hide hd1
    have HT1:=hide ((HTA.out.up _).then T1)
    have HR1:=hide (HS.out.dict T1 HBd.out HDa.out.ty)
    clear b0 b1 b2 hd1 T1 HDS
    go_wp2_with fail
    go_ret2
    exact ⟨s,rfl,⟨0,HD1.out⟩,HR1.out,HT1.out⟩
   ·have e0:(kd == 0)=false:=by simp [h0]
    have e1:(kd == 1)=false:=by simp [h1]
    have e2:(kd == 2)=false:=by simp [h2]
    clear ho hda hLa hop
    go_enter Tryz.func32,Tryz.ntmps32
    go_upto_region 1 with fail
    rw [← HWA.out,← HB0.out]
    go_wp2_with fail
    go_ret2
    exact ⟨s,rfl,⟨q,HDa.out⟩,HS.out,HTA.out.up _⟩
set_option maxRecDepth 100000 in
set_option maxHeartbeats 4000000 in
theorem stands_any (w:World) (hL:Lst w) {d:Nat} {L:List PRow} {q:Nat} (h:DctM w d L q) (B0:Nat) (s:SL) (hs:RfL B0 w s L) :
  Calls Tryz.prog 21 #[ptrV d,s.val] w fun e w'=>e=.returned (.bool true)∧Touch (fun _=>False) w w':=by
 have hlen:=h.dict.len
 have hsl:=hs.ok.len
 have heq:=hs.eq
 obtain ⟨sA,sn,sc,sL⟩:=s
 simp only at heq hsl
 subst heq
 subst hsl
 have hq:=h.1
 have HL:=hide hL
 have HD:=hide h
 have HS:=hide hs
 have k1:(0:Int)≤(q:Int):=by omega
 have k2:(q:Int)≤32:=by omega
 have HLEN:=hide hlen
 have HLN:=hide (dictlen_any w h)
 simp only [SL.val]
 clear h hs hL hlen hq
 go_enter Tryz.func21,Tryz.ntmps21
 go_wp2_with fail
 refine HLN.out.mono ?_
 rintro e w1 ⟨rfl,T1⟩
 have HT1:=hide T1
 have HPR:=hide (pairs_any w1 (Lst.touch HL.out T1) (HD.out.quiet T1))
 clear T1 HLN
 go_wp2_with fail
 refine HPR.out.mono ?_
 rintro e w2 ⟨A2,c2,rfl,ho2,T2⟩
 have HT2:=hide (HT1.out.then T2)
 have HSM:=hide (psame_yes w2 A2 sL.length c2 sL rfl (Reads.of_own ho2) (by have:=HLEN.out;unfold maxLen;omega) sA sc (HS.out.quiet HT2.out).ok.reads)
 clear T2 ho2 HPR
 go_wp2_with fail
 refine HSM.out.mono ?_
 rintro e w3 ⟨rfl,T3⟩
 have HT3:=hide (HT2.out.then T3)
 have HC3:=hide (changes_any w3 (HD.out.quiet (HT2.out.then T3)))
 clear T3 HSM
 go_wp2_with fail
 refine HC3.out.mono ?_
 rintro e w4 ⟨rfl,T4⟩
 have HT4:=hide (HT3.out.then T4)
 have HC4:=hide (changes_any w4 (HD.out.quiet (HT3.out.then T4)))
 clear T4 HC3
 go_wp2_with fail
 refine HC4.out.mono ?_
 rintro e w5 ⟨rfl,T5⟩
 have HT5:=hide (HT4.out.then T5)
 clear T5 HC4
 go_wp2_with fail
 go_ret
 exact ⟨rfl,HT5.out⟩
def al1:List PRow:=[⟨⟨#[97,98]⟩,5⟩]
def al2:List PRow:=[⟨⟨#[97,98]⟩,2⟩]
theorem al_e1:setE [] (⟨#[97,98]⟩:ByteArray).toList 5=0:=by kernel_rfl
theorem al_h1:setH [] ⟨#[97,98]⟩ 5=0:=by kernel_rfl
theorem al_l1:setL [] ⟨#[97,98]⟩ 5=al1:=by kernel_rfl
theorem al_e2:setE al1 (⟨#[97,98]⟩:ByteArray).toList 2=0:=by kernel_rfl
theorem al_h2:setH al1 ⟨#[97,98]⟩ 2=5:=by kernel_rfl
theorem al_l2:setL al1 ⟨#[97,98]⟩ 2=al2:=by kernel_rfl
theorem al_s:sugP al2 (⟨#[97]⟩:ByteArray).toList 1 3=[⟨⟨#[97,98]⟩,2,1⟩]:=by kernel_rfl
theorem al_se:sugE (⟨#[97]⟩:ByteArray).toList 1=0:=by kernel_rfl
set_option maxRecDepth 100000 in
set_option maxHeartbeats 4000000 in
theorem alive14_any (w:World) (hL:Lst w):Calls Tryz.prog 18 #[] w fun e w'=>e=.returned (.bool true)∧Touch (fun _=>False) w w':=by
 have HN:=hide (dnew14_any w hL)
 have HL:=hide hL
 clear hL
 go_enter Tryz.func18,Tryz.ntmps18
 go_wp2_with fail
 refine HN.out.mono ?_
 rintro e w1 ⟨d,rfl,hd,hdl,T1⟩
 have HT1:=hide T1
 have HDL:=hide hdl
 have HS1:=hide (dset_any w1 (Lst.touch HL.out T1) hd ⟨#[97,98]⟩ (by decide) 5)
 rw [al_e1,al_h1,al_l1] at HS1
 clear hd hdl T1 HN
 go_wp2_with fail
 refine HS1.out.mono ?_
 rintro e w2 ⟨rfl,⟨q2,hd2⟩,T2⟩
 have hT2:Touch (fun _=>False) w w2:=HT1.out.trans T2 (fun g hg e=>by have:=HDL.out;omega)
 have HT2:=hide hT2
 have HS2:=hide (dset_any w2 (Lst.touch HL.out hT2) hd2 ⟨#[97,98]⟩ (by decide) 2)
 rw [al_e2,al_h2,al_l2] at HS2
 clear hd2 T2 hT2 HS1
 go_wp2_with fail
 refine HS2.out.mono ?_
 rintro e w3 ⟨rfl,⟨q3,hd3⟩,T3⟩
 have hT3:Touch (fun _=>False) w w3:=HT2.out.trans T3 (fun g hg e=>by have:=HDL.out;omega)
 have HT3:=hide hT3
 have HS3:=hide (dsug_any w3 (Lst.touch HL.out hT3) hd3 ⟨#[97]⟩ (by decide) 1 3)
 unfold SugPost at HS3
 rw [al_s,al_se] at HS3
 clear hd3 T3 hT3 HS2
 go_wp2_with fail
 refine HS3.out.mono ?_
 rintro e w4 ⟨A4,c4,rfl,R4,T4,_⟩
 obtain ⟨g,off,hA,hgl,d0,d1,d2⟩:=reads_at R4 rfl 0 (by decide)
 subst hA
 simp only [List.getD_cons_zero,Nat.zero_mul,Nat.add_zero,List.length_cons,List.length_nil,Nat.zero_add] at d0 d1 d2 ⊢
 have HT4:=hide (HT3.out.then T4)
 clear R4 T4 HS3
 go_wp2_with fail
 go_ret
 exact ⟨by simp,HT4.out⟩
end Go.Proofs.YtbijfoeaemceiaaGreatDoor
namespace Go.Proofs.YtbijfoeaemceiaaGreatDoor
open Go.RowKit
def BegP (w:World) (L:List PRow) (T:List OpD) (e:Ending) (w':World):Prop :=
 (e=.returned (.tuple #[.pointer none,.slice none 0 0,.bool true])∧Touch (fun _=>False) w w') ∨
 (∃ d s q,e=.returned (.tuple #[ptrV d,s.val,.bool true])∧DctM w' d (runP T L) q∧RfL w.heap.size w' s (runP T L)∧w.heap.size≤d∧Touch (fun _=>False) w w'∧T.length≤400∧L.length≤300)
theorem rfl_in {w:World} {s:SL} (hs:s.Ok w):RfL w.heap.size w s s.L :=
 ⟨hs,rfl,fun h0 g hg=>by
  obtain ⟨b,off,e,hb,_⟩:=hs.reads.2 h0
  rw [e] at hg
  simp [adBlock] at hg
  subst hg
  exact .inl hb⟩
set_option maxRecDepth 100000 in
set_option maxHeartbeats 4000000 in
theorem begun_any (w:World) (hL:Lst w) (s:SL) (hs:s.Ok w) (hWz:∀ r∈s.L,r.word.size≤1099511627776) (hn:s.n≤maxLen) (A:Option Addr) (n c:Nat) (T:List OpD) (hT:T.length=n) (hR:Reads w 3 A n (oCells T)) (hWo:∀ o∈T,o.Wf) (hm:n≤maxLen) :
  Calls Tryz.prog 23 #[s.val,.slice A n c] w (BegP w s.L T):=by
 have HRI:=hide (rfl_in hs)
 have HLD:=hide (dload_any w hL s hs hWz hn)
 have HRR:=hide (fun (wx:World) (t:Touch (fun _=>False) w wx)=>rright_any wx s (hs.touch t) (fun r hr=>by have:=hWz r hr;unfold PRow.Wf;omega) hn)
 have HSL:=hide hs.len
 obtain ⟨sA,sn,sc,sL⟩:=s
 simp only [SL.val] at HLD HRR HRI HSL ⊢
 have HL:=hide hL
 have HTL:=hide hT
 have HRD:=hide hR
 have HWO:=hide hWo
 clear hL hs hWz hT hR hWo hn
 unfold maxLen at hm
 by_cases hbig:400<n
 ·have k1:(400:Int)<(n:Int):=by omega
  clear hm hbig
  go_enter Tryz.func23,Tryz.ntmps23
  go_wp2_with fail
  go_ret3
  exact .inl ⟨rfl,Touch.refl _ _⟩
 ·have k1:¬ (400:Int)<(n:Int):=by omega
  by_cases hsz:300<sn∧sn≤4096
  ·have k2:(300:Int)<(sn:Int):=by omega
   have k3:(sn:Int)≤4096:=by omega
   clear hm hbig hsz
   go_enter Tryz.func23,Tryz.ntmps23
   go_wp2_with fail
   go_ret3
   exact .inl ⟨rfl,Touch.refl _ _⟩
  ·have hcs:¬ (300:Int)<(sn:Int)∨((300:Int)<(sn:Int)∧¬ (sn:Int)≤4096):=by omega
   have HSZ:=hide hsz
   have HBIG:=hide hbig
   have hnI:(n:Int)≤400:=by omega
   clear hsz hm hbig
   have HMAIN:Hid (∀ (Q:Prop),True):=hide (fun _=>trivial)
   clear HMAIN
   rcases hcs with k2 | ⟨k2,k3⟩
   all_goals
    go_enter Tryz.func23,Tryz.ntmps23
    go_wp2_with fail
    refine HLD.out.mono ?_
    rintro e w1 (⟨hr,⟨k,hk,rfl⟩,T1⟩ | ⟨hr,d,rfl,hd,hdl,T1⟩)
    ·have HT1:=hide T1
     have HR1:=hide (HRR.out w1 T1)
     rw [hr] at HR1
     have b1:(k == 0)=false:=by simp;omega
     have b2:¬ k=0:=by omega
     have b3:(k != 0)=true:=by simp;omega
     clear T1 hr hk HLD
     go_wp2_with fail
     refine HR1.out.mono ?_
     rintro e w2 ⟨rfl,T2⟩
     have HT2:=hide (HT1.out.then T2)
     clear T2
     go_wp2_with fail
     go_ret3
     exact .inl ⟨by simp,HT2.out⟩
    ·have HT1:=hide T1
     have HR1:=hide (HRR.out w1 T1)
     rw [hr] at HR1
     have HD:=hide hd
     have HDL:=hide hdl
     have hl4:=hd.dict.len
     have HL3:Hid (sL.length≤300):=hide (by
      have h1:=HSZ.out
      have h2:=HSL.out
      omega)
     clear T1 hr hd hdl HLD hl4
     go_wp2_with fail
     refine HR1.out.mono ?_
     rintro e w2 ⟨rfl,T2⟩
     have HT2:=hide (HT1.out.then T2)
     have HD2:=hide (HD.out.quiet T2)
     clear T2
     go_wp2_with fail
     go_loopw [0,44] (fun lv iv wr=>∃ (i q:Nat) (s':SL),iv=.int .i64 i∧lv=s'.val∧i≤n∧Hid (DctM wr d (runP (T.take i) sL) q)∧Hid (RfL w.heap.size wr s' (runP (T.take i) sL))∧Hid (Touch (fun _=>False) w wr)) (fun _ iv _=>n-(intOf iv).toNat)
     case atStart=>exact ⟨0,0,⟨sA,sn,sc,sL⟩,rfl,rfl,Nat.zero_le _,hide HD2.out,hide (HRI.out.quiet HT2.out),HT2⟩
     case round =>
      obtain ⟨i,q,s',rfl,rfl,hin',HDr,HSr,HTr⟩:=hrel
      by_cases hin:i<n
      ·have y0:(i:Int)<(n:Int):=by omega
       have y1:(0:Int)≤(i:Int):=by omega
       have y2:IntKind.i64.wrap ((i:Int)+1)=(i:Int)+1:=IntWalk.i64_in _ (by omega)
       obtain ⟨gl,ol,hAl,hgl,l0,l1,l2⟩:=op_at (HRD.out.touch HTr.out (fun _ _ f=>f)) HTL.out.symm i hin
       subst hAl
       have hts:=otake_succ T i (by rw [HTL.out];exact hin)
       have hwf:(T.getD i OpD.zero).Wf:=HWO.out _ (by
        have hl:i<T.length:=by rw [HTL.out];exact hin
        have e2:T.getD i OpD.zero=T[i]:=by simp [List.getD,hl]
        rw [e2];exact List.getElem_mem _)
       obtain ⟨⟨kd,kw,kn⟩,ho⟩:∃ o,o=T.getD i OpD.zero:=⟨_,rfl⟩
       rw [← ho] at l0 l1 l2 hts hwf
       simp only at l0 l1 l2
       have hrun:=runP_snoc (T.take i) ⟨kd,kw,kn⟩ sL
       rw [← hts] at hrun
       have HRUN:=hide hrun
       have hTq:Touch (fun _=>False) wr (wr.alloc (.cells #[.int .i64 kd,.string kw,.int .i64 kn] 56)):=(Touch.refl _ _).alloc _
       have HDO:=hide (does_any _ (Lst.touch HL.out (HTr.out.then hTq)) (HDr.out.quiet hTq) w.heap.size s' (HSr.out.quiet hTq) HDL.out ⟨kd,kw,kn⟩ hwf)
       simp only [OpD.val] at HDO
       have HTQ:=hide (HTr.out.then hTq)
       have HIN:=hide hin
       clear ho hts hwf hrun hTq hin
       go_wp2_with fail
       refine HDO.out.mono ?_
       rintro e w3 ⟨s3,rfl,⟨q3,hd3⟩,hr3,T3⟩
       have hT3:Touch (fun _=>False) w w3:=HTQ.out.trans T3 (fun g hg e=>by have:=HDL.out;omega)
       have HT3:=hide hT3
       have HD3:=hide hd3
       have HR3:=hide hr3
       clear hT3 T3 hd3 hr3 HDO l0 l1 l2
       go_wp2_with fail
       go_roundw
       ·exact ⟨i+1,q3,s3,by simp,rfl,by have:=HIN.out;omega,hide (by rw [HRUN.out];exact HD3.out),hide (by rw [HRUN.out];exact HR3.out),HT3⟩
       ·have:=HIN.out
        simp only [intOf]
        omega
      ·have y0:¬ (i:Int)<(n:Int):=by omega
       have hie:T.take i=T:=List.take_of_length_le (by rw [HTL.out];omega)
       have HIE:=hide hie
       clear hie hin
       go_wp2_with fail
       go_ret3
       have h1:=HDr.out
       have h2:=HSr.out
       rw [HIE.out] at h1 h2
       exact .inr ⟨d,s',q,rfl,h1,h2,HDL.out,HTr.out,by have:=HTL.out;have:=HBIG.out;omega,HL3.out⟩
end Go.Proofs.YtbijfoeaemceiaaGreatDoor
namespace Go.Proofs.YtbijfoeaemceiaaGreatDoor
open Go.RowKit
variable [Inhabited BaseT]
set_option maxRecDepth 100000 in
set_option maxHeartbeats 4000000 in
theorem samest_any (w:World) (x y:ZV) (hx:x.Ok w) (hy:y.Ok w) :
  Calls Tryz.prog 68 #[.agg #[.bool x.fin,.int .i64 x.out,.slice x.A x.n x.c],.agg #[.bool y.fin,.int .i64 y.out,.slice y.A y.n y.c]] w fun e w'=>BoolIff (x.p=y.p) e∧Touch (fun _=>False) w w':=by
 obtain ⟨xf,xo,xA,xn,xc,xa⟩:=x
 obtain ⟨yf,yo,yA,yn,yc,ya⟩:=y
 obtain ⟨xlen,xrd,xle,xmx⟩:=hx
 obtain ⟨ylen,yrd,yle,ymx⟩:=hy
 simp only [ZV.p,StZ.mk.injEq] at *
 obtain ⟨Q,hQ⟩:∃ Q:Prop,(xf=yf∧xo=yo∧xa=ya)=Q:=⟨_,rfl⟩
 rw [hQ]
 have HQ:=hide hQ
 clear hQ
 have hnm:xn≤maxLen:=Nat.le_trans xle xmx
 have HX:=hide xrd
 have HXL:=hide xlen
 have HY:=hide yrd
 have HYL:=hide ylen
 clear xrd xlen yrd ylen xle xmx yle ymx
 by_cases e1:xf=yf
 ·subst e1
  by_cases e2:xo=yo
  ·subst e2
   by_cases e3:xn=yn
   ·subst e3
    go_enter Tryz.func68,Tryz.ntmps68
    go_wp2_with fail
    obtain ⟨w3,hw3⟩:∃ x,x=(w.alloc (.cells #[.bool xf,.int .i64 xo,.slice xA xn xc] 118)).alloc (.cells #[.bool xf,.int .i64 xo,.slice yA xn yc] 118):=⟨_,rfl⟩
    obtain ⟨X,hX⟩:∃ X,X=w.heap.size:=⟨_,rfl⟩
    obtain ⟨Y,hY⟩:∃ Y,Y=w.heap.size+1:=⟨_,rfl⟩
    have hT3:Touch (fun _=>False) w w3:=by
     rw [hw3]
     exact ((Touch.refl _ _).alloc _).alloc _
    have hbX:Blk w3 X 118 #[.bool xf,.int .i64 xo,.slice xA xn xc]:=by
     rw [hw3,hX]
     exact (Blk.new _ _ _).alloc _
    have hbY:Blk w3 Y 118 #[.bool xf,.int .i64 xo,.slice yA xn yc]:=by
     rw [hw3,hY]
     have h:=Blk.new (w.alloc (.cells #[.bool xf,.int .i64 xo,.slice xA xn xc] 118)) 118 #[.bool xf,.int .i64 xo,.slice yA xn yc]
     simpa using h
    rw [← hw3]
    try rw [← hY]
    rw [← hX]
    have HT3:=hide hT3
    have HBX:=hide hbX
    have HBY:=hide hbY
    clear hw3 hT3 hbX hbY hX hY
    go_loopw [5] (fun iv wr=>∃ (i:Nat),iv=.int .i64 i∧i≤xn∧Hid (xa.take i=ya.take i)∧Hid (Touch (fun _=>False) w3 wr)) (fun iv _=>xn-(intOf iv).toNat)
    case atStart=>exact ⟨0,rfl,by omega,hide rfl,hide (Touch.refl _ _)⟩
    case round =>
     obtain ⟨i,rfl,hi,HP,HT⟩:=hrel
     obtain ⟨q1,q2,q3⟩:=(HBX.out.touch HT.out (fun f=>f)).facts
     obtain ⟨r1,r2,r3⟩:=(HBY.out.touch HT.out (fun f=>f)).facts
     by_cases hin:i<xn
     ·have y1:(i:Int)<(xn:Int):=by omega
      have y2:(0:Int)≤(i:Int):=by omega
      have z2:IntKind.i64.wrap ((i:Int)+1)=(i:Int)+1:=IntWalk.i64_in _ (by unfold maxLen at hnm;omega)
      obtain ⟨g,o,hA,hg,c1,c2,c3⟩:=zarc_at (HX.out.quiet (HT3.out.then HT.out)).rd HXL.out i hin
      obtain ⟨g2,o2,hA2,hg2,d1,d2,d3⟩:=zarc_at (HY.out.quiet (HT3.out.then HT.out)).rd HYL.out i hin
      subst hA
      subst hA2
      have hsx:=take_snoc xa (0,0,0) i (by rw [HXL.out];exact hin)
      have hsy:=take_snoc ya (0,0,0) i (by rw [HYL.out];exact hin)
      obtain ⟨⟨la,ao,tt⟩,hz⟩:∃ z,xa.getD i (0,0,0)=z:=⟨_,rfl⟩
      obtain ⟨⟨lb,bo,ub⟩,hz2⟩:∃ z,ya.getD i (0,0,0)=z:=⟨_,rfl⟩
      rw [hz] at c1 c2 c3 hsx
      rw [hz2] at d1 d2 d3 hsy
      simp only at c1 c2 c3 d1 d2 d3 hsx hsy
      have HSX:=hide hsx
      have HSY:=hide hsy
      clear hz hz2 hsx hsy
      by_cases p1:la=lb
      ·subst p1
       by_cases p2:ao=bo
       ·subst p2
        by_cases p3:tt=ub
        ·subst p3
         go_wp2_with fail
         go_quiet (fail)
         go_wp2_with fail
         go_roundw
         ·refine ⟨i+1,by simp,by omega,hide ?_,hide (HT.out.drewN _)⟩
          rw [HSX.out,HSY.out,HP.out]
         ·simp only [intOf];omega
        ·have p4:((tt:Int) == (ub:Int))=false:=by simp;omega
         go_wp2_with fail
         go_quiet (fail)
         go_wp2_with fail
         go_ret
         refine ⟨.mk false ?_,HT3.out.then (HT.out.drewN _)⟩
         rw [← HQ.out]
         exact arcs_no HSX.out HSY.out HP.out (fun h=>by simp only [Prod.mk.injEq] at h;exact p3 h.2.2)
       ·have p4:(ao == bo)=false:=by simp;exact p2
        go_wp2_with fail
        go_quiet (fail)
        go_wp2_with fail
        go_ret
        refine ⟨.mk false ?_,HT3.out.then (HT.out.drewN _)⟩
        rw [← HQ.out]
        exact arcs_no HSX.out HSY.out HP.out (fun h=>by simp only [Prod.mk.injEq] at h;exact p2 h.2.1)
      ·have p4:((la:Int) == (lb:Int))=false:=by simp;omega
       go_wp2_with fail
       go_quiet (fail)
       go_wp2_with fail
       go_ret
       refine ⟨.mk false ?_,HT3.out.then (HT.out.drewN _)⟩
       rw [← HQ.out]
       exact arcs_no HSX.out HSY.out HP.out (fun h=>by simp only [Prod.mk.injEq] at h;exact p1 h.1)
     ·have hie:i=xn:=by omega
      have h:=HP.out
      rw [List.take_of_length_le (by rw [HXL.out];omega),List.take_of_length_le (by rw [HYL.out];omega)] at h
      have HE:=hide h
      have y1:¬ (i:Int)<(xn:Int):=by omega
      clear h hie hin hi
      go_wp2_with fail
      go_ret
      refine ⟨.mk true ?_,HT3.out.then HT.out⟩
      rw [← HQ.out]
      exact ⟨fun _=>⟨trivial,trivial,HE.out⟩,fun _=>rfl⟩
   ·have e4:((xn:Int) == (yn:Int))=false:=by simp;omega
    have hno:¬ Q:=by
     rw [← HQ.out]
     rintro ⟨_,_,h⟩
     exact e3 (by rw [← HXL.out,← HYL.out,h])
    have HNO:=hide hno
    clear hno
    go_enter Tryz.func68,Tryz.ntmps68
    cases xf
    ·go_wp2_with fail
     go_ret
     exact ⟨.mk false ⟨(fun h=>by cases h),fun h=>absurd h HNO.out⟩,((Touch.refl _ _).alloc _).alloc _⟩
    ·go_wp2_with fail
     go_ret
     exact ⟨.mk false ⟨(fun h=>by cases h),fun h=>absurd h HNO.out⟩,((Touch.refl _ _).alloc _).alloc _⟩
  ·have e4:(xo == yo)=false:=by simp;exact e2
   have hno:¬ Q:=by
    rw [← HQ.out]
    rintro ⟨_,h,_⟩
    exact e2 h
   have HNO:=hide hno
   clear hno
   go_enter Tryz.func68,Tryz.ntmps68
   cases xf
   ·go_wp2_with fail
    go_ret
    exact ⟨.mk false ⟨(fun h=>by cases h),fun h=>absurd h HNO.out⟩,((Touch.refl _ _).alloc _).alloc _⟩
   ·go_wp2_with fail
    go_ret
    exact ⟨.mk false ⟨(fun h=>by cases h),fun h=>absurd h HNO.out⟩,((Touch.refl _ _).alloc _).alloc _⟩
 ·have hno:¬ Q:=by
   rw [← HQ.out]
   rintro ⟨h,_⟩
   exact e1 h
  have HNO:=hide hno
  clear hno
  go_enter Tryz.func68,Tryz.ntmps68
  cases xf
  ·cases yf
   ·exact absurd rfl e1
   ·go_wp2_with fail
    go_ret
    exact ⟨.mk false ⟨(fun h=>by cases h),fun h=>absurd h HNO.out⟩,((Touch.refl _ _).alloc _).alloc _⟩
  ·cases yf
   ·go_wp2_with fail
    go_ret
    exact ⟨.mk false ⟨(fun h=>by cases h),fun h=>absurd h HNO.out⟩,((Touch.refl _ _).alloc _).alloc _⟩
   ·exact absurd rfl e1
theorem getD_map {α β:Type} (f:α→β) (l:List α) (i:Nat) (d:α) (e:β) (h:i<l.length):(l.map f).getD i e=f (l.getD i d):=by simp [List.getD,h]
def sameM (X Y:List ZV) (i:Nat):Prop:=(X.take i).map ZV.p=(Y.take i).map ZV.p
set_option maxRecDepth 100000 in
set_option maxHeartbeats 8000000 in
theorem samemz_any (w:World) (b1 b2:Int) (A1:Option Addr) (n1 c1:Nat) (X:List ZV) (A2:Option Addr) (n2 c2:Nat) (Y:List ZV) (hX:StsZ w A1 n1 X) (hY:StsZ w A2 n2 Y) (hm1:n1≤maxLen) :
  Calls Tryz.prog 29 #[.agg #[.int .i64 b1,.slice A1 n1 c1],.agg #[.int .i64 b2,.slice A2 n2 c2]] w fun e w'=>BoolIff (b1=b2∧X.map ZV.p=Y.map ZV.p) e∧Touch (fun _=>False) w w':=by
 obtain ⟨Q,hQ⟩:∃ Q:Prop,(b1=b2∧X.map ZV.p=Y.map ZV.p)=Q:=⟨_,rfl⟩
 rw [hQ]
 have HQ:=hide hQ
 have HX:=hide hX
 have HY:=hide hY
 clear hQ hX hY
 unfold maxLen at hm1
 go_enter Tryz.func29,Tryz.ntmps29
 by_cases e1:b1=b2
 rotate_left
 ·have hno:¬ Q:=by
   rw [← HQ.out]
   exact fun h=>e1 h.1
  have HNO:=hide hno
  have e4:(b1 == b2)=false:=by simp;exact e1
  clear hno
  go_wp2_with fail
  go_ret
  exact ⟨.mk false ⟨(fun h=>by cases h),fun h=>absurd h HNO.out⟩,((Touch.refl _ _).alloc _).alloc _⟩
 subst e1
 by_cases e2:n1=n2
 rotate_left
 ·have hno:¬ Q:=by
   rw [← HQ.out]
   rintro ⟨_,h⟩
   have:=congrArg List.length h
   rw [List.length_map,List.length_map,HX.out.len,HY.out.len] at this
   exact e2 this
  have HNO:=hide hno
  have e4:((n1:Int) == (n2:Int))=false:=by simp;omega
  clear hno
  go_wp2_with fail
  go_ret
  exact ⟨.mk false ⟨(fun h=>by cases h),fun h=>absurd h HNO.out⟩,((Touch.refl _ _).alloc _).alloc _⟩
 subst e2
 go_wp2_with fail
 obtain ⟨w3,hw3⟩:∃ x,x=(w.alloc (.cells #[.int .i64 b1,.slice A1 n1 c1] 30)).alloc (.cells #[.int .i64 b1,.slice A2 n1 c2] 30):=⟨_,rfl⟩
 obtain ⟨P,hP⟩:∃ P,P=w.heap.size:=⟨_,rfl⟩
 obtain ⟨R,hR⟩:∃ R,R=w.heap.size+1:=⟨_,rfl⟩
 have hT3:Touch (fun _=>False) w w3:=by
  rw [hw3]
  exact ((Touch.refl _ _).alloc _).alloc _
 have hbX:Blk w3 P 30 #[.int .i64 b1,.slice A1 n1 c1]:=by
  rw [hw3,hP]
  exact (Blk.new _ _ _).alloc _
 have hbY:Blk w3 R 30 #[.int .i64 b1,.slice A2 n1 c2]:=by
  rw [hw3,hR]
  exact blk_new1 _ _ _ _
 rw [← hw3]
 try rw [← hR]
 rw [← hP]
 have HT3:=hide hT3
 have HBX:=hide hbX
 have HBY:=hide hbY
 clear hw3 hT3 hbX hbY hP hR
 go_loopw [5] (fun iv wr=>∃ i:Nat,iv=.int .i64 i∧i≤n1∧Hid (sameM X Y i)∧Hid (Touch (fun _=>False) w3 wr)) (fun iv _=>n1-(intOf iv).toNat)
 case atStart=>exact ⟨0,rfl,by omega,hide rfl,hide (Touch.refl _ _)⟩
 case round =>
  obtain ⟨i,rfl,hi,HP,HT⟩:=hrel
  obtain ⟨q1,q2,q3⟩:=(HBX.out.touch HT.out (fun f=>f)).facts
  obtain ⟨r1,r2,r3⟩:=(HBY.out.touch HT.out (fun f=>f)).facts
  by_cases hin:i<n1
  ·have y1:(i:Int)<(n1:Int):=by omega
   have y2:(0:Int)≤(i:Int):=by omega
   have z2:IntKind.i64.wrap ((i:Int)+1)=(i:Int)+1:=IntWalk.i64_in _ (by omega)
   have hxs:=HX.out.quiet (HT3.out.then HT.out)
   have hys:=HY.out.quiet (HT3.out.then HT.out)
   obtain ⟨g,o,hA,_,c0,c1',c2'⟩:=zstate_at hxs.rd.rd hxs.len i hin
   obtain ⟨g2,o2,hA2,_,d0,d1,d2⟩:=zstate_at hys.rd.rd hys.len i hin
   subst hA
   subst hA2
   have hxm:=getD_mem X zvZero i (by rw [hxs.len];exact hin)
   have hym:=getD_mem Y zvZero i (by rw [hys.len];exact hin)
   have hxo:=hxs.el _ hxm
   have hyo:=hys.el _ hym
   have tx:=take_snoc X zvZero i (by rw [hxs.len];exact hin)
   have ty:=take_snoc Y zvZero i (by rw [hys.len];exact hin)
   have hne:(X.getD i zvZero).p≠(Y.getD i zvZero).p→¬ Q:=by
    rw [← HQ.out]
    rintro h ⟨_,he⟩
    apply h
    rw [← getD_map ZV.p X i zvZero (⟨false,0,[]⟩:StZ) (by rw [hxs.len];exact hin),← getD_map ZV.p Y i zvZero (⟨false,0,[]⟩:StZ) (by rw [hys.len];exact hin),he]
   obtain ⟨x,hx⟩:∃ x,X.getD i zvZero=x:=⟨_,rfl⟩
   obtain ⟨y,hy⟩:∃ y,Y.getD i zvZero=y:=⟨_,rfl⟩
   rw [hx] at c0 c1' c2' hxo tx hne
   rw [hy] at d0 d1 d2 hyo ty hne
   have HAL:=hide (fun wx (T:Touch (fun _=>False) wr wx)=>samest_any wx x y (hxo.touch T (fun _ _ f=>f)) (hyo.touch T (fun _ _ f=>f)))
   have HTX:=hide tx
   have HTY:=hide ty
   have HNE:=hide hne
   have HIN:=hide hin
   clear hxs hys hxm hym hxo hyo tx ty hne hx hy hin hi
   go_wp2_with fail
   go_still_tail 10,(by kernel_rfl)
   change wpList _ _ _ _ _ wr.drew
   have HD:=hide (show Touch (fun _=>False) wr wr.drew from (Touch.refl _ _).drew)
   generalize wr.drew=wd at HD ⊢
   go_wp2_with fail
   refine (HAL.out wd HD.out).mono ?_
   rintro e w9 ⟨⟨av,rfl,hav⟩,T9⟩
   have HT9:=hide T9
   have HAV:=hide hav
   clear T9 hav
   cases av with
   | true =>
    have he:=HAV.out.1 rfl
    have HE:=hide he
    clear he
    go_wp2_with fail
    go_roundw
    ·refine ⟨i+1,by simp,by have:=HIN.out;omega,hide ?_,hide (HT.out.then (HD.out.then HT9.out))⟩
     have h:=HP.out
     unfold sameM at h ⊢
     rw [HTX.out,HTY.out,List.map_append,List.map_append,h]
     simp only [List.map_cons,List.map_nil,HE.out]
    ·have:=HIN.out
     simp only [intOf];omega
   | false =>
    have hq:=HNE.out (fun e=>by have:=HAV.out.2 e;cases this)
    have HNO:=hide hq
    clear hq
    go_wp2_with fail
    go_ret
    exact ⟨.mk false ⟨(fun h=>by cases h),fun h=>absurd h HNO.out⟩,HT3.out.then (HT.out.then (HD.out.then HT9.out))⟩
  ·have hie:i=n1:=by omega
   have y1:¬ (i:Int)<(n1:Int):=by omega
   have hq:Q:=by
    rw [← HQ.out]
    have h:=HP.out
    unfold sameM at h
    rw [List.take_of_length_le (by rw [HX.out.len];omega),List.take_of_length_le (by rw [HY.out.len];omega)] at h
    exact ⟨by trivial,h⟩
   have HYES:=hide hq
   clear hie hin hi hq
   go_wp2_with fail
   go_ret
   exact ⟨.mk true ⟨fun _=>HYES.out,fun _=>rfl⟩,HT3.out.then HT.out⟩
theorem zv_map (X:List SV):(X.map SV.zv).map ZV.p=(X.map SV.p).map StP.z:=by
 rw [List.map_map,List.map_map]
 rfl
theorem samem_any (w:World) (b1 b2:Int) (A1:Option Addr) (n1 c1:Nat) (X:List SV) (A2:Option Addr) (n2 c2:Nat) (Y:List SV) (hX:StsOd w A1 n1 X) (hY:StsOd w A2 n2 Y) (hm1:n1≤maxLen) :
  Calls Tryz.prog 29 #[.agg #[.int .i64 b1,.slice A1 n1 c1],.agg #[.int .i64 b2,.slice A2 n2 c2]] w fun e w'=>BoolIff (b1=b2∧X.map SV.p=Y.map SV.p) e∧Touch (fun _=>False) w w':=by
 have h:=samemz_any w b1 b2 A1 n1 c1 _ A2 n2 c2 _ (stsZ_of hX) (stsZ_of hY) hm1
 have e:(b1=b2∧(X.map SV.zv).map ZV.p=(Y.map SV.zv).map ZV.p)=(b1=b2∧X.map SV.p=Y.map SV.p):=by
  rw [zv_map,zv_map]
  refine propext ⟨fun h=>⟨h.1,map_inj (fun a b e=>StP.z_inj e) h.2⟩,fun h=>⟨h.1,by rw [h.2]⟩⟩
 rw [e] at h
 exact h
end Go.Proofs.YtbijfoeaemceiaaGreatDoor
namespace Go.Proofs.YtbijfoeaemceiaaGreatDoor
open Go.RowKit Go.ChangeShapes Go.WideShapes Go.ChangeAt
theorem Tryz.own:ownKnob Tryz.prog.godebug=none:=by kernel_rfl
theorem Tryz.laidOut:laidOutB Tryz.prog=true:=by kernel_rfl
end Go.Proofs.YtbijfoeaemceiaaGreatDoor
namespace Go.Proofs.YtbijfoeaemceiaaGreatDoor
theorem and2 {a b:Bool} (ha:a=true) (hb:b=true):(a && b)=true:=by rw [ha,hb];rfl
theorem g_main:Tryz.pinned.checked.prog.mainIs=some (true,"00ccd79a565a1189bd56b24fd67769181e5b8d84b6a2f81bd3ee43368d2ad97e".toList):=by kernel_rfl
theorem g_looks:true=Tryz.pinned.checked.prog.looks []:=by kernel_rfl
end Go.Proofs.YtbijfoeaemceiaaGreatDoor
