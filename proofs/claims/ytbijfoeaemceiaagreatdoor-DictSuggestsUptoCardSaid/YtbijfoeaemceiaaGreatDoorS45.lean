/- What the law rests on, part 45. No condition but those that each theorem names. -/
import Derived.Test.YtbijfoeaemceiaaGreatDoorS44
import Derived.Test.YtbijfoeaemceiaaGreatDoorS00
import Derived.Test.YtbijfoeaemceiaaGreatDoorRows
import Derived.Test.YtbijfoeaemceiaaGreatDoorCards
import Derived.Test.YtbijfoeaemceiaaGreatDoorTie
import Derived.Deep.DeepHandedRow
import Derived.ProofKit
import Derived.OpenShut
import Derived.SevenTiedAt
import Derived.Test.YtbijfoeaemceiaaGreatDoorS27
set_option linter.unusedSectionVars false
set_option linter.unusedSimpArgs false
set_option linter.unusedVariables false
namespace Go.Proofs.YtbijfoeaemceiaaGreatDoor
open Go.RowKit
structure OpD where
 kind:Int
 word:ByteArray
 n:Int
def OpD.zero:OpD:=⟨0,ByteArray.empty,0⟩
def OpD.cells (o:OpD):List Value:=[.int .i64 o.kind,.string o.word,.int .i64 o.n]
def OpD.val (o:OpD):Value:=.agg #[.int .i64 o.kind,.string o.word,.int .i64 o.n]
def oCells (l:List OpD):List Value:=l.flatMap OpD.cells
def OpD.Wf (o:OpD):Prop:=o.word.size≤1099511627776
theorem op_at {w:World} {A:Option Addr} {n:Nat} {X:List OpD} (h:Reads w 3 A n (oCells X)) (hn:n=X.length) (k:Nat) (hk:k<n) :
  ∃ g off,A=some ⟨g,off,none⟩∧g<w.heap.size∧w.cell? ⟨g,off+k*3,none⟩=some (.int .i64 (X.getD k OpD.zero).kind)∧w.cell? ⟨g,off+k*3+1,none⟩=some (.string (X.getD k OpD.zero).word) ∧
   w.cell? ⟨g,off+k*3+2,none⟩=some (.int .i64 (X.getD k OpD.zero).n):=by
 subst hn
 obtain ⟨b,off,hA,hb,hc⟩:=h.2 (by omega)
 have key:∀ j,j<3→(oCells X)[k*3+j]? = (X.getD k OpD.zero).cells[j]? := fun j hj=>by
  have e:X.getD k OpD.zero=X[k]:=by simp [List.getD,hk]
  rw [e]
  exact flat_at OpD.cells 3 (fun _=>rfl) X k j hk hj
 refine ⟨b,off,hA,hb,?_,?_,?_⟩
 ·exact hc (k*3) _ (key 0 (by omega))
 ·rw [Nat.add_assoc];exact hc (k*3+1) _ (key 1 (by omega))
 ·rw [Nat.add_assoc];exact hc (k*3+2) _ (key 2 (by omega))
def opP (o:OpD) (L:List PRow):List PRow:=if o.kind=0 then setL L o.word o.n else if o.kind=1 then remL L o.word else L
def runP (T:List OpD) (L:List PRow):List PRow:=T.foldl (fun L o=>opP o L) L
theorem runP_snoc (T:List OpD) (o:OpD) (L:List PRow):runP (T++[o]) L=opP o (runP T L):=by simp [runP]
theorem otake_succ (T:List OpD) (i:Nat) (h:i<T.length):T.take (i+1)=T.take i++[T.getD i OpD.zero]:=by
 rw [List.take_succ_eq_append_getElem h]
 have e:T.getD i OpD.zero=T[i]:=by simp [List.getD,h]
 rw [e]
set_option maxRecDepth 100000 in
set_option maxHeartbeats 4000000 in
theorem does_any (w:World) (hL:Lst w) {d:Nat} {L:List PRow} {q:Nat} (h:DctM w d L q) (B0:Nat) (s:SL) (hs:RfL B0 w s L) (hB:B0≤d) (o:OpD) (ho:o.Wf) :
  Calls Tryz.prog 32 #[ptrV d,s.val,o.val] w fun e w'=>∃ s':SL,e=.returned (.tuple #[s'.val,.bool true])∧(∃ q',DctM w' d (opP o L) q')∧RfL B0 w' s' (opP o L)∧Touch (fun g=>g=d) w w':=by
 obtain ⟨kd,kw,n⟩:=o
 unfold OpD.Wf at ho
 simp only at ho
 obtain ⟨wa,hwa⟩:∃ z,z=w.alloc (.cells #[.int .i64 kd,.string kw,.int .i64 n] 56):=⟨_,rfl⟩
 obtain ⟨bb,hbb⟩:∃ z,z=w.heap.size:=⟨_,rfl⟩
 have hTa:Touch (fun _=>False) w wa:=by rw [hwa];exact (Touch.refl _ _).alloc _
 have hbB:Blk wa bb 56 #[.int .i64 kd,.string kw,.int .i64 n]:=by rw [hwa,hbb];exact Blk.new _ _ _
 have hda:=h.quiet hTa
 have hLa:=Lst.touch hL hTa
 have HTA:=hide hTa
 have HBB:=hide hbB
 have HWA:=hide hwa
 have HB0:=hide hbb
 have HS:=hide (hs.quiet hTa)
 have HDD:=hide h.dict
 have HBd:=hide hB
 have HLa:=hide hLa
 have HDa:=hide hda
 have hne:bb≠d:=(blk_ty hbB).ne hda.ty (by decide)
 have HNE:=hide hne
 unfold OpD.val
 simp only
 clear hwa hbb hTa hs h hL hB hne
 by_cases h0:kd=0
 ·subst h0
  have hop:opP ⟨0,kw,n⟩ L=setL L kw n:=rfl
  rw [hop]
  have HDS:=hide (dset_any wa hLa hda kw ho n)
  have HRS:=hide (fun (wx:World) (hr:RfL B0 wx s L)=>rset_any wx B0 s hr HDD.out kw ho n)
  obtain ⟨hh,hhh⟩:∃ x,x=setH L kw n:=⟨_,rfl⟩
  obtain ⟨ee,hee⟩:∃ x,x=setE L kw.toList n:=⟨_,rfl⟩
  obtain ⟨L2,hL2⟩:∃ x,x=setL L kw n:=⟨_,rfl⟩
  rw [← hhh,← hee,← hL2] at HDS
  simp only [← hhh,← hee,← hL2] at HRS
  rw [← hL2]
  obtain ⟨b0,b1,b2⟩:=hbB.facts
  clear hhh hee hL2 ho hda hLa hop
  go_enter Tryz.func32,Tryz.ntmps32
  go_upto_region 1 with fail
  rw [← HWA.out,← HB0.out]
  go_wp2_with fail
  refine HDS.out.mono ?_
  rintro e w1 ⟨rfl,⟨q1,hd1⟩,T1⟩
  have HD1:=hide hd1
  have HT1:=hide ((HTA.out.up _).then T1)
  have HB1:=hide (HBB.out.touch T1 HNE.out)
  have HR1:=hide (HRS.out w1 (HS.out.dict T1 HBd.out HDa.out.ty))
  clear b0 b1 b2 hd1 T1 HRS HDS
  obtain ⟨b0,b1,b2⟩:=HB1.out.facts
  go_wp2_with fail
  refine HR1.out.mono ?_
  rintro e w2 ⟨s2,rfl,hr2,T2⟩
  have HR2:=hide hr2
  have HT2:=hide (HT1.out.then (T2.up _))
  have HD2:=hide (HD1.out.quiet T2)
  clear hr2 T2 HR1 b0 b1 b2
  go_wp2_with fail
  go_ret2
  exact ⟨s2,by simp,⟨q1,HD2.out⟩,HR2.out,HT2.out⟩
 ·by_cases h1:kd=1
  ·subst h1
   have hop:opP ⟨1,kw,n⟩ L=remL L kw:=rfl
   rw [hop]
   have HDS:=hide (dremove_any wa hLa hda kw ho)
   have HRS:=hide (fun (wx:World) (hr:RfL B0 wx s L)=>rremove_any wx B0 s hr HDD.out kw ho)
   obtain ⟨hh,hhh⟩:∃ x,x=remH L kw:=⟨_,rfl⟩
   obtain ⟨ee,hee⟩:∃ x,x=remE L kw.toList:=⟨_,rfl⟩
   obtain ⟨L2,hL2⟩:∃ x,x=remL L kw:=⟨_,rfl⟩
   rw [← hhh,← hee,← hL2] at HDS
   simp only [← hhh,← hee,← hL2] at HRS
   rw [← hL2]
   obtain ⟨b0,b1,b2⟩:=hbB.facts
   clear hhh hee hL2 ho hda hLa hop h0
   go_enter Tryz.func32,Tryz.ntmps32
   go_upto_region 1 with fail
   rw [← HWA.out,← HB0.out]
   go_wp2_with fail
   refine HDS.out.mono ?_
   rintro e w1 ⟨rfl,⟨q1,hd1⟩,T1⟩
   have HD1:=hide hd1
   have HT1:=hide ((HTA.out.up _).then T1)
   have HB1:=hide (HBB.out.touch T1 HNE.out)
   have HR1:=hide (HRS.out w1 (HS.out.dict T1 HBd.out HDa.out.ty))
   clear b0 b1 b2 hd1 T1 HRS HDS
   obtain ⟨b0,b1,b2⟩:=HB1.out.facts
   go_wp2_with fail
   refine HR1.out.mono ?_
   rintro e w2 ⟨s2,rfl,hr2,T2⟩
   have HR2:=hide hr2
   have HT2:=hide (HT1.out.then (T2.up _))
   have HD2:=hide (HD1.out.quiet T2)
   clear hr2 T2 HR1 b0 b1 b2
   go_wp2_with fail
   go_ret2
   exact ⟨s2,by simp,⟨q1,HD2.out⟩,HR2.out,HT2.out⟩
  ·have hop:opP ⟨kd,kw,n⟩ L=L:=by unfold opP;rw [if_neg h0,if_neg h1]
   rw [hop]
   obtain ⟨b0,b1,b2⟩:=hbB.facts
   by_cases h2:kd=2
   ·subst h2
    have HDS:=hide (compact_any wa hLa hda)
    clear ho hda hLa hop h0 h1
    go_enter Tryz.func32,Tryz.ntmps32
    go_upto_region 1 with fail
    rw [← HWA.out,← HB0.out]
    go_wp2_with fail
    refine HDS.out.mono ?_
    rintro e w1 ⟨rfl,hd1,T1⟩
    have HD1:=hide hd1
    have HT1:=hide ((HTA.out.up _).then T1)
    have HR1:=hide (HS.out.dict T1 HBd.out HDa.out.ty)
    clear b0 b1 b2 hd1 T1 HDS
    go_wp2_with fail
    go_ret2
    exact ⟨s,rfl,⟨0,HD1.out⟩,HR1.out,HT1.out⟩
   ·have e0:(kd == 0)=false:=by simp [h0]
    have e1:(kd == 1)=false:=by simp [h1]
    have e2:(kd == 2)=false:=by simp [h2]
    clear ho hda hLa hop
    go_enter Tryz.func32,Tryz.ntmps32
    go_upto_region 1 with fail
    rw [← HWA.out,← HB0.out]
    go_wp2_with fail
    go_ret2
    exact ⟨s,rfl,⟨q,HDa.out⟩,HS.out,HTA.out.up _⟩
def al1:List PRow:=[⟨⟨#[97,98]⟩,5⟩]
def al2:List PRow:=[⟨⟨#[97,98]⟩,2⟩]
theorem al_e1:setE [] (⟨#[97,98]⟩:ByteArray).toList 5=0:=by kernel_rfl
theorem al_h1:setH [] ⟨#[97,98]⟩ 5=0:=by kernel_rfl
theorem al_l1:setL [] ⟨#[97,98]⟩ 5=al1:=by kernel_rfl
theorem al_e2:setE al1 (⟨#[97,98]⟩:ByteArray).toList 2=0:=by kernel_rfl
theorem al_h2:setH al1 ⟨#[97,98]⟩ 2=5:=by kernel_rfl
theorem al_l2:setL al1 ⟨#[97,98]⟩ 2=al2:=by kernel_rfl
theorem al_s:sugP al2 (⟨#[97]⟩:ByteArray).toList 1 3=[⟨⟨#[97,98]⟩,2,1⟩]:=by kernel_rfl
theorem al_se:sugE (⟨#[97]⟩:ByteArray).toList 1=0:=by kernel_rfl
set_option maxRecDepth 100000 in
set_option maxHeartbeats 4000000 in
theorem alive14_any (w:World) (hL:Lst w):Calls Tryz.prog 18 #[] w fun e w'=>e=.returned (.bool true)∧Touch (fun _=>False) w w':=by
 have HN:=hide (dnew14_any w hL)
 have HL:=hide hL
 clear hL
 go_enter Tryz.func18,Tryz.ntmps18
 go_wp2_with fail
 refine HN.out.mono ?_
 rintro e w1 ⟨d,rfl,hd,hdl,T1⟩
 have HT1:=hide T1
 have HDL:=hide hdl
 have HS1:=hide (dset_any w1 (Lst.touch HL.out T1) hd ⟨#[97,98]⟩ (by decide) 5)
 rw [al_e1,al_h1,al_l1] at HS1
 clear hd hdl T1 HN
 go_wp2_with fail
 refine HS1.out.mono ?_
 rintro e w2 ⟨rfl,⟨q2,hd2⟩,T2⟩
 have hT2:Touch (fun _=>False) w w2:=HT1.out.trans T2 (fun g hg e=>by have:=HDL.out;omega)
 have HT2:=hide hT2
 have HS2:=hide (dset_any w2 (Lst.touch HL.out hT2) hd2 ⟨#[97,98]⟩ (by decide) 2)
 rw [al_e2,al_h2,al_l2] at HS2
 clear hd2 T2 hT2 HS1
 go_wp2_with fail
 refine HS2.out.mono ?_
 rintro e w3 ⟨rfl,⟨q3,hd3⟩,T3⟩
 have hT3:Touch (fun _=>False) w w3:=HT2.out.trans T3 (fun g hg e=>by have:=HDL.out;omega)
 have HT3:=hide hT3
 have HS3:=hide (dsug_any w3 (Lst.touch HL.out hT3) hd3 ⟨#[97]⟩ (by decide) 1 3)
 unfold SugPost at HS3
 rw [al_s,al_se] at HS3
 clear hd3 T3 hT3 HS2
 go_wp2_with fail
 refine HS3.out.mono ?_
 rintro e w4 ⟨A4,c4,rfl,R4,T4,_⟩
 obtain ⟨g,off,hA,hgl,d0,d1,d2⟩:=reads_at R4 rfl 0 (by decide)
 subst hA
 simp only [List.getD_cons_zero,Nat.zero_mul,Nat.add_zero,List.length_cons,List.length_nil,Nat.zero_add] at d0 d1 d2 ⊢
 have HT4:=hide (HT3.out.then T4)
 clear R4 T4 HS3
 go_wp2_with fail
 go_ret
 exact ⟨by simp,HT4.out⟩
end Go.Proofs.YtbijfoeaemceiaaGreatDoor
namespace Go.Proofs.YtbijfoeaemceiaaGreatDoor
open Go.RowKit
theorem sug_len (L:List PRow) (a:List UInt8) (k y:Int):(sugP L a k y).length≤64:=by
 unfold sugP
 split
 ·exact Nat.le_trans (bestL_lenF _ _) (mostN_le y)
 ·exact Nat.zero_le _
def BegP (w:World) (L:List PRow) (T:List OpD) (e:Ending) (w':World):Prop :=
 (e=.returned (.tuple #[.pointer none,.slice none 0 0,.bool true])∧Touch (fun _=>False) w w') ∨
 (∃ d s q,e=.returned (.tuple #[ptrV d,s.val,.bool true])∧DctM w' d (runP T L) q∧RfL w.heap.size w' s (runP T L)∧w.heap.size≤d∧Touch (fun _=>False) w w'∧T.length≤400∧L.length≤300)
theorem rfl_in {w:World} {s:SL} (hs:s.Ok w):RfL w.heap.size w s s.L :=
 ⟨hs,rfl,fun h0 g hg=>by
  obtain ⟨b,off,e,hb,_⟩:=hs.reads.2 h0
  rw [e] at hg
  simp [adBlock] at hg
  subst hg
  exact .inl hb⟩
set_option maxRecDepth 100000 in
set_option maxHeartbeats 4000000 in
theorem begun_any (w:World) (hL:Lst w) (s:SL) (hs:s.Ok w) (hWz:∀ r∈s.L,r.word.size≤1099511627776) (hn:s.n≤maxLen) (A:Option Addr) (n c:Nat) (T:List OpD) (hT:T.length=n) (hR:Reads w 3 A n (oCells T)) (hWo:∀ o∈T,o.Wf) (hm:n≤maxLen) :
  Calls Tryz.prog 23 #[s.val,.slice A n c] w (BegP w s.L T):=by
 have HRI:=hide (rfl_in hs)
 have HLD:=hide (dload_any w hL s hs hWz hn)
 have HRR:=hide (fun (wx:World) (t:Touch (fun _=>False) w wx)=>rright_any wx s (hs.touch t) (fun r hr=>by have:=hWz r hr;unfold PRow.Wf;omega) hn)
 have HSL:=hide hs.len
 obtain ⟨sA,sn,sc,sL⟩:=s
 simp only [SL.val] at HLD HRR HRI HSL ⊢
 have HL:=hide hL
 have HTL:=hide hT
 have HRD:=hide hR
 have HWO:=hide hWo
 clear hL hs hWz hT hR hWo hn
 unfold maxLen at hm
 by_cases hbig:400<n
 ·have k1:(400:Int)<(n:Int):=by omega
  clear hm hbig
  go_enter Tryz.func23,Tryz.ntmps23
  go_wp2_with fail
  go_ret3
  exact .inl ⟨rfl,Touch.refl _ _⟩
 ·have k1:¬ (400:Int)<(n:Int):=by omega
  by_cases hsz:300<sn∧sn≤4096
  ·have k2:(300:Int)<(sn:Int):=by omega
   have k3:(sn:Int)≤4096:=by omega
   clear hm hbig hsz
   go_enter Tryz.func23,Tryz.ntmps23
   go_wp2_with fail
   go_ret3
   exact .inl ⟨rfl,Touch.refl _ _⟩
  ·have hcs:¬ (300:Int)<(sn:Int)∨((300:Int)<(sn:Int)∧¬ (sn:Int)≤4096):=by omega
   have HSZ:=hide hsz
   have HBIG:=hide hbig
   have hnI:(n:Int)≤400:=by omega
   clear hsz hm hbig
   have HMAIN:Hid (∀ (Q:Prop),True):=hide (fun _=>trivial)
   clear HMAIN
   rcases hcs with k2 | ⟨k2,k3⟩
   all_goals
    go_enter Tryz.func23,Tryz.ntmps23
    go_wp2_with fail
    refine HLD.out.mono ?_
    rintro e w1 (⟨hr,⟨k,hk,rfl⟩,T1⟩ | ⟨hr,d,rfl,hd,hdl,T1⟩)
    ·have HT1:=hide T1
     have HR1:=hide (HRR.out w1 T1)
     rw [hr] at HR1
     have b1:(k == 0)=false:=by simp;omega
     have b2:¬ k=0:=by omega
     have b3:(k != 0)=true:=by simp;omega
     clear T1 hr hk HLD
     go_wp2_with fail
     refine HR1.out.mono ?_
     rintro e w2 ⟨rfl,T2⟩
     have HT2:=hide (HT1.out.then T2)
     clear T2
     go_wp2_with fail
     go_ret3
     exact .inl ⟨by simp,HT2.out⟩
    ·have HT1:=hide T1
     have HR1:=hide (HRR.out w1 T1)
     rw [hr] at HR1
     have HD:=hide hd
     have HDL:=hide hdl
     have hl4:=hd.dict.len
     have HL3:Hid (sL.length≤300):=hide (by
      have h1:=HSZ.out
      have h2:=HSL.out
      omega)
     clear T1 hr hd hdl HLD hl4
     go_wp2_with fail
     refine HR1.out.mono ?_
     rintro e w2 ⟨rfl,T2⟩
     have HT2:=hide (HT1.out.then T2)
     have HD2:=hide (HD.out.quiet T2)
     clear T2
     go_wp2_with fail
     go_loopw [0,44] (fun lv iv wr=>∃ (i q:Nat) (s':SL),iv=.int .i64 i∧lv=s'.val∧i≤n∧Hid (DctM wr d (runP (T.take i) sL) q)∧Hid (RfL w.heap.size wr s' (runP (T.take i) sL))∧Hid (Touch (fun _=>False) w wr)) (fun _ iv _=>n-(intOf iv).toNat)
     case atStart=>exact ⟨0,0,⟨sA,sn,sc,sL⟩,rfl,rfl,Nat.zero_le _,hide HD2.out,hide (HRI.out.quiet HT2.out),HT2⟩
     case round =>
      obtain ⟨i,q,s',rfl,rfl,hin',HDr,HSr,HTr⟩:=hrel
      by_cases hin:i<n
      ·have y0:(i:Int)<(n:Int):=by omega
       have y1:(0:Int)≤(i:Int):=by omega
       have y2:IntKind.i64.wrap ((i:Int)+1)=(i:Int)+1:=IntWalk.i64_in _ (by omega)
       obtain ⟨gl,ol,hAl,hgl,l0,l1,l2⟩:=op_at (HRD.out.touch HTr.out (fun _ _ f=>f)) HTL.out.symm i hin
       subst hAl
       have hts:=otake_succ T i (by rw [HTL.out];exact hin)
       have hwf:(T.getD i OpD.zero).Wf:=HWO.out _ (by
        have hl:i<T.length:=by rw [HTL.out];exact hin
        have e2:T.getD i OpD.zero=T[i]:=by simp [List.getD,hl]
        rw [e2];exact List.getElem_mem _)
       obtain ⟨⟨kd,kw,kn⟩,ho⟩:∃ o,o=T.getD i OpD.zero:=⟨_,rfl⟩
       rw [← ho] at l0 l1 l2 hts hwf
       simp only at l0 l1 l2
       have hrun:=runP_snoc (T.take i) ⟨kd,kw,kn⟩ sL
       rw [← hts] at hrun
       have HRUN:=hide hrun
       have hTq:Touch (fun _=>False) wr (wr.alloc (.cells #[.int .i64 kd,.string kw,.int .i64 kn] 56)):=(Touch.refl _ _).alloc _
       have HDO:=hide (does_any _ (Lst.touch HL.out (HTr.out.then hTq)) (HDr.out.quiet hTq) w.heap.size s' (HSr.out.quiet hTq) HDL.out ⟨kd,kw,kn⟩ hwf)
       simp only [OpD.val] at HDO
       have HTQ:=hide (HTr.out.then hTq)
       have HIN:=hide hin
       clear ho hts hwf hrun hTq hin
       go_wp2_with fail
       refine HDO.out.mono ?_
       rintro e w3 ⟨s3,rfl,⟨q3,hd3⟩,hr3,T3⟩
       have hT3:Touch (fun _=>False) w w3:=HTQ.out.trans T3 (fun g hg e=>by have:=HDL.out;omega)
       have HT3:=hide hT3
       have HD3:=hide hd3
       have HR3:=hide hr3
       clear hT3 T3 hd3 hr3 HDO l0 l1 l2
       go_wp2_with fail
       go_roundw
       ·exact ⟨i+1,q3,s3,by simp,rfl,by have:=HIN.out;omega,hide (by rw [HRUN.out];exact HD3.out),hide (by rw [HRUN.out];exact HR3.out),HT3⟩
       ·have:=HIN.out
        simp only [intOf]
        omega
      ·have y0:¬ (i:Int)<(n:Int):=by omega
       have hie:T.take i=T:=List.take_of_length_le (by rw [HTL.out];omega)
       have HIE:=hide hie
       clear hie hin
       go_wp2_with fail
       go_ret3
       have h1:=HDr.out
       have h2:=HSr.out
       rw [HIE.out] at h1 h2
       exact .inr ⟨d,s',q,rfl,h1,h2,HDL.out,HTr.out,by have:=HTL.out;have:=HBIG.out;omega,HL3.out⟩
end Go.Proofs.YtbijfoeaemceiaaGreatDoor
namespace Go.Proofs.YtbijfoeaemceiaaGreatDoor
open Go.RowKit Go.ChangeShapes Go.WideShapes Go.ChangeAt
theorem Tryz.own:ownKnob Tryz.prog.godebug=none:=by kernel_rfl
theorem Tryz.laidOut:laidOutB Tryz.prog=true:=by kernel_rfl
end Go.Proofs.YtbijfoeaemceiaaGreatDoor
namespace Go.Proofs.YtbijfoeaemceiaaGreatDoor
theorem and2 {a b:Bool} (ha:a=true) (hb:b=true):(a && b)=true:=by rw [ha,hb];rfl
theorem g_main:Tryz.pinned.checked.prog.mainIs=some (true,"00ccd79a565a1189bd56b24fd67769181e5b8d84b6a2f81bd3ee43368d2ad97e".toList):=by kernel_rfl
theorem g_looks:true=Tryz.pinned.checked.prog.looks []:=by kernel_rfl
end Go.Proofs.YtbijfoeaemceiaaGreatDoor
namespace Go.Proofs.YtbijfoeaemceiaaGreatDoor
open Go.RowKit Go.ChangeShapes Go.WideShapes Go.ChangeAt
section
variable {H:Type} {enc:TypeId × Value→H} {P:Program} {w:World} {base:Nat} {spare:Nat→Bool} {held:Bool}
theorem field_bulk {t:TypeId} {fs:Array Field} {fuel:Nat} {cs:List Value} {x:DataW H × List MemPlace} (hs:P.underlying t=some (.struct fs)) (h:DataW.trod enc P w base spare held fuel t cs=some x)
  (i:Nat) (f:Field) (hf:fs[i]? = some f) (hk:P.underlying f.type=some .string) (hc:P.cellsOf f.type=1):∃ s:ByteArray,cs[f.offset]? = some (.string s)∧s.size≤Rows.uptoBulk x.1:=by
 obtain ⟨xs,n,_,hx,_,hlen,hg⟩:=DataW.trod_struct hs h
 have hi:i<fs.size:=(Array.getElem?_eq_some_iff.1 hf).1
 have hy:=hg i f hf
 rw [List.getElem?_eq_getElem (by omega:i<xs.length),hc] at hy
 obtain ⟨s,hn,hd,_⟩:=DataW.trod_string hk hy
 refine ⟨s,drop_take_one hn,?_⟩
 have hm:(xs[i]'(by omega)).1∈xs.map (·.1):=List.mem_map.2 ⟨_,List.getElem_mem _,rfl⟩
 have h1:=bulk_mem hm
 rw [hx]
 simp only [Rows.uptoBulk]
 rw [hd] at h1
 simp only [Rows.uptoBulk] at h1
 have e:s.data.toList.length=s.size:=Array.length_toList
 omega
theorem open_rowsB {R:Type} [Inhabited R] (cells:R→List Value) (bk:R→Nat) (size:Nat) (hcl:∀ r,(cells r).length=size) (h0:0<size) {t e:TypeId} {fuel:Nat} {cs:List Value} {x:DataW H × List MemPlace}
  (ht:P.underlying t=some (.slice e)) (hC:P.cellsOf e=size) (elem:∀ n cs (y:DataW H × List MemPlace),cs.length=size→DataW.trod enc P w base spare held n e cs=some y→∃ r,cs=cells r∧bk r≤Rows.uptoBulk y.1)
  (h:DataW.trod enc P w base spare held fuel t cs=some x) :
  ∃ A len cap,∃ l:List R,cs=[.slice A len cap]∧l.length=len∧len≤cap∧cap≤maxLen∧(A=none→len=0∧cap=0)∧Reads w size A len (l.flatMap cells)∧(∀ r∈l,bk r≤Rows.uptoBulk x.1)∧len≤Rows.uptoBulk x.1:=by
 rcases Go.Deep.open_slice ht h with ⟨hcs,hx⟩ | ⟨a,len,cap,m,n,D,Pl,hcs,hb,hl,hm,hmm,hx,hi⟩
 ·exact ⟨none,0,0,[],hcs,rfl,Nat.le_refl _,by simp [maxLen],fun _=>⟨rfl,rfl⟩,Reads.nil _ _ _,by simp,Nat.zero_le _⟩
 ·have hlm:len≤m:=by rw [hmm];split<;>omega
  have hel:∀ i,i<len→∃ r:R,bk r≤Rows.uptoBulk (D i)∧∀ j,j<size→w.cell? (a.add (i*size+j))=(cells r)[j]? := by
   intro i hil
   obtain ⟨cs',hc,hty⟩:=hi i (by omega)
   rw [hC] at hc
   obtain ⟨_,hlen,hat⟩:=World.cells?_some hc
   obtain ⟨r,hr,hw⟩:=elem _ cs' _ hlen hty
   refine ⟨r,hw,fun j hj=>?_⟩
   rw [← Go.Deep.add_add,hat j hj,hr]
  obtain ⟨f,hf⟩:=Go.Deep.choose_lt hel
  refine ⟨some a,len,cap,(List.range len).map f,hcs,by simp,hl,hm,(fun h=>by cases h),?_,?_,?_⟩
  ·refine ⟨by rw [flat_len cells size hcl];simp,fun hpos=>?_⟩
   have hc0:=(hf 0 hpos).2 0 h0
   have hsome:(cells (f 0))[0]? = some ((cells (f 0))[0]'(by rw [hcl];exact h0)):=List.getElem?_eq_getElem _
   rw [hsome] at hc0
   have hsp:=World.cell?_spot hc0
   obtain ⟨b,off,spot⟩:=a
   have hspot:spot=none:=by simpa [Addr.add] using hsp
   subst hspot
   have hlt:b<w.heap.size:=World.block_lt_of_cell? w _ (by simpa [Addr.add] using hc0)
   refine ⟨b,off,rfl,hlt,fun j u hu=>?_⟩
   have hjl:j<len*size:=by
    have:=(List.getElem?_eq_some_iff.1 hu).1
    rw [flat_len cells size hcl] at this
    simpa using this
   have hq:j / size<len:=Nat.div_lt_of_lt_mul (by rw [Nat.mul_comm];exact hjl)
   have hr:j % size<size:=Nat.mod_lt _ h0
   have e:j / size*size+j % size=j:=Nat.div_add_mod' j size
   have h1:=flat_at cells size hcl ((List.range len).map f) (j / size) (j % size) (by simpa using hq) hr
   rw [e,hu] at h1
   have h2:=(hf (j / size) hq).2 (j % size) hr
   rw [e,Addr.add_lit] at h2
   rw [h2,h1]
   simp
  ·intro r hr
   simp only [List.mem_map,List.mem_range] at hr
   obtain ⟨i,hi',rfl⟩:=hr
   have hmem:D i∈(List.range len).map D:=List.mem_map.2 ⟨i,List.mem_range.2 hi',rfl⟩
   have h1:=bulk_mem hmem
   have h2:=(hf i hi').1
   rw [hx]
   simp only [Rows.uptoBulk]
   omega
  ·have h1:=bulk_len ((List.range len).map D)
   rw [List.length_map,List.length_range] at h1
   rw [hx]
   simp only [Rows.uptoBulk]
   omega
end
end Go.Proofs.YtbijfoeaemceiaaGreatDoor
namespace Go.Proofs.YtbijfoeaemceiaaGreatDoor
open Go.RowKit Go.ChangeShapes Go.WideShapes Go.ChangeAt
section
variable {H:Type} {enc:TypeId × Value→H} {w:World} {base:Nat} {spare:Nat→Bool} {held:Bool}
instance:Inhabited OpD:=⟨OpD.zero⟩
theorem op_elem (n:Nat) (cs:List Value) (y:DataW H × List MemPlace) (hl:cs.length=3) (h:DataW.trod enc Tryz.prog w base spare held n 56 cs=some y):∃ r:OpD,cs=r.cells∧r.word.size≤Rows.uptoBulk y.1:=by
 obtain ⟨b,hb,_⟩:=field_int (k:=.i64) Tryz.underlying56 h 0 _ rfl (by kernel_rfl) (by kernel_rfl)
 obtain ⟨s,hs,ws⟩:=field_bulk Tryz.underlying56 h 1 _ rfl (by kernel_rfl) (by kernel_rfl)
 obtain ⟨c,hc,_⟩:=field_int (k:=.i64) Tryz.underlying56 h 2 _ rfl (by kernel_rfl) (by kernel_rfl)
 obtain ⟨x0,x1,x2,rfl⟩:=list3 hl
 simp at hs hb hc
 exact ⟨⟨b,s,c⟩,by rw [hs,hb,hc];rfl,ws⟩
set_option maxRecDepth 100000 in
theorem open_script {r:Reach} {b0:Nat} {v:Value} {d:DataW H} {p:List MemPlace} (hv:Value.okWide Tryz.prog w r b0 36 v) (h:DataW.Trod enc Tryz.prog w base spare held 36 v d p) :
  ∃ A len cap,∃ l:List OpD,v=.slice A len cap∧l.length=len∧Reads w 3 A len (oCells l)∧len≤maxLen∧∀ o∈l,o.word.size≤Rows.uptoBulk d:=by
 obtain ⟨a0,len,cap,rfl⟩:=okWide_slice Tryz.underlying36 hv
 obtain ⟨fuel,hf⟩:=h
 obtain ⟨A,len',cap',l,hcs,hl,hlc,hm,hn,hr,hw,_⟩:=open_rowsB OpD.cells (fun o=>o.word.size) 3 (fun _=>rfl) (by decide) Tryz.underlying36 (by kernel_rfl) op_elem hf
 simp [Value.cells] at hcs
 obtain ⟨rfl,rfl,rfl⟩:=hcs
 exact ⟨_,_,_,l,rfl,hl,hr,Nat.le_trans hlc hm,hw⟩
end
end Go.Proofs.YtbijfoeaemceiaaGreatDoor
