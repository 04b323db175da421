/- What the law rests on, part 23. No condition but those that each theorem names. -/
import Derived.Test.YthockgmbooefpaaGreatDoorT02
import Derived.Test.YthockgmbooefpaaGreatDoorT04
import Derived.Test.YthockgmbooefpaaGreatDoorT10
import Derived.Test.YthockgmbooefpaaGreatDoorT22
import Derived.Test.YthockgmbooefpaaGreatDoorT21
import Derived.Test.YthockgmbooefpaaGreatDoorT05
import Derived.Test.YthockgmbooefpaaGreatDoorRows
import Derived.Lib.LaidTab
import Derived.Test.YthockgmbooefpaaGreatDoorT00
import Derived.SizedLaws
import Derived.Deep.SlicePairs
set_option linter.unusedSectionVars false
set_option linter.unusedSimpArgs false
set_option linter.unusedVariables false
set_option maxRecDepth 100000
set_option maxHeartbeats 8000000
namespace Go.Proofs.YthockgmbooefpaaGreatDoor
open Go.RowKit
structure MNx (w0 w:World) (v:Value) (q:Nat) (N:List MRow):Prop where
 own:w.ownsRow 0 43 3 v q (mCells N)
 len:N.length=q
 touch:Touch (fun _=>False) w0 w
 fresh:∀ g,v.ownBlock=some g→w0.heap.size≤g
theorem mrows_app (X Y:List MRow):mCells (X++Y)=mCells X++mCells Y:=by simp [mCells]
theorem MNx.nil (w:World):MNx w w (.slice none 0 0) 0 []:=⟨World.ownsRow_nil _ _ _ _,rfl,Touch.refl _ _,fun g e=>by simp [Value.ownBlock] at e⟩
theorem MNx.to {w0 w w2:World} {v:Value} {q:Nat} {N:List MRow} (h:MNx w0 w v q N) (t:Touch (fun _=>False) w w2):MNx w0 w2 v q N :=
 ⟨own_touch h.own t (fun _ _ f=>f),h.len,h.touch.then t,h.fresh⟩
theorem MNx.from {w0 w1 w:World} {v:Value} {q:Nat} {N:List MRow} (h:MNx w1 w v q N) (t:Touch (fun _=>False) w0 w1):MNx w0 w v q N :=
 ⟨h.own,h.len,t.then h.touch,fun g hg=>by have h1:=h.fresh g hg;have h2:=t.size;omega⟩
theorem MNx.app {w0 w1 w3:World} {v v':Value} {q:Nat} {N:List MRow} {m:MRow} (h:MNx w0 w1 v q N) (ho:w3.ownsRow 0 43 3 v' (q+1) (mCells N++m.cells)) (hg:w1.grownBy w3 v.ownBlock) (hf:Fresh w1 v v'):MNx w0 w3 v' (q+1) (N++[m]):=by
 refine ⟨by rw [mrows_app];simpa [mCells] using ho,by simp [h.len],h.touch.app hg (fun g hg hlt=>by have:=h.fresh g hg;omega),?_⟩
 intro g hg
 rcases hf with e | ⟨g',e,hg'⟩
 ·rw [e] at hg;exact h.fresh g hg
 ·rw [hg] at e
  injection e with e
  have:=h.touch.size
  omega
def MRow.Wf (p:MRow):Prop:=p.word.size≤9223372036854775807
theorem mreads_at {w:World} {A:Option Addr} {n:Nat} {X:List MRow} (h:Reads w 3 A n (mCells X)) (hn:n=X.length) (k:Nat) (hk:k<n) :
  ∃ g off,A=some ⟨g,off,none⟩∧g<w.heap.size∧w.cell? ⟨g,off+k*3,none⟩=some (.string (X.getD k MRow.zero).word)∧w.cell? ⟨g,off+k*3+1,none⟩=some (.int .i64 (X.getD k MRow.zero).weight) ∧
   w.cell? ⟨g,off+k*3+2,none⟩=some (.int .i64 (X.getD k MRow.zero).dist):=by
 subst hn
 obtain ⟨b,off,hA,hb,hc⟩:=h.2 (by omega)
 refine ⟨b,off,hA,hb,?_,?_,?_⟩
 ·exact hc (k*3) _ (mrows_at X k hk 0 (by omega))
 ·rw [Nat.add_assoc];exact hc (k*3+1) _ (mrows_at X k hk 1 (by omega))
 ·rw [Nat.add_assoc];exact hc (k*3+2) _ (mrows_at X k hk 2 (by omega))
theorem m_key_cons (k:List UInt8) (x:MRow) (l:List MRow):m_key k (x :: l)=if x.word.toList=k then x :: m_key k l else m_key k l:=by
 unfold m_key
 by_cases h:x.word.toList=k
 ·rw [if_pos h,List.filter_cons_of_pos (by simp [h])]
 ·rw [if_neg h,List.filter_cons_of_neg (by simp [h])]
theorem srtM_unique:∀ {A B:List MRow},m_SrtP A→m_SrtP B→m_SameK A B→A=B:=by
 intro A
 induction A with
 | nil =>
  intro B _ _ h
  cases B with
  | nil=>rfl
  | cons b B=>exact absurd (h.symm.mem (x:=b) (by simp)) (by simp)
 | cons a A ih =>
  intro B hA hB h
  cases B with
  | nil=>exact absurd (h.mem (x:=a) (by simp)) (by simp)
  | cons b B =>
   obtain ⟨a1,a2⟩:=List.pairwise_cons.1 hA
   obtain ⟨b1,b2⟩:=List.pairwise_cons.1 hB
   have p1:m_ple a b:=by
    rcases List.mem_cons.1 (h.symm.mem (x:=b) (by simp)) with e | e
    ·rw [e];exact m_ple_refl _
    ·exact a1 b e
   have p2:m_ple b a:=by
    rcases List.mem_cons.1 (h.mem (x:=a) (by simp)) with e | e
    ·rw [e];exact m_ple_refl _
    ·exact b1 a e
   have hw:a.word.toList=b.word.toList:=by
    by_cases e:a.word.toList=b.word.toList
    ·exact e
    ·rcases m_plt_total e with x | x
     ·unfold m_ple at p2
      rw [x] at p2
      cases p2
     ·unfold m_ple at p1
      rw [x] at p1
      cases p1
   have hk:=h a.word.toList
   rw [m_key_cons,m_key_cons,if_pos rfl,if_pos hw.symm] at hk
   injection hk with hab _
   subst hab
   refine congrArg _ (ih a2 b2 fun k=>?_)
   have hk:=h k
   rw [m_key_cons,m_key_cons] at hk
   split at hk
   ·injection hk
   ·exact hk
def keptM (V:List PRow) (M:List MRow):List MRow:=M.filter (fun m=>!(findP m.word.toList V).2)
def distZ (o:Option Nat):Int × Bool:=match o with
 | some d=>((d:Int),true)
 | none=>(0,false)
theorem distE_eq (o:Option Nat):distE o=.returned (.tuple #[.int .i64 (distZ o).1,.bool (distZ o).2]):=by cases o<;>rfl
def nearM (a:List UInt8) (k:Int) (p:PRow):Option MRow :=
 if 0<p.weight∧wordU p.word.toList=true∧(distZ (distU p.word.toList a)).2=true∧(distZ (distU p.word.toList a)).1≤k then some ⟨p.word,p.weight,(distZ (distU p.word.toList a)).1⟩ else none
def overM (a:List UInt8) (k:Int) (Y:List PRow):List MRow:=Y.filterMap (nearM a k)
theorem keptM_snoc (V:List PRow) (M:List MRow) (m:MRow):keptM V (M++[m])=keptM V M++(if (findP m.word.toList V).2=true then [] else [m]):=by
 unfold keptM
 rw [List.filter_append]
 cases h:(findP m.word.toList V).2<;>simp [h]
theorem overM_snoc (a:List UInt8) (k:Int) (Y:List PRow) (p:PRow):overM a k (Y++[p])=overM a k Y++(nearM a k p).toList:=by
 unfold overM
 rw [List.filterMap_append]
 cases h:nearM a k p<;>simp [h]
theorem msnoc (L:List MRow) (i:Nat) (hi:i<L.length):L.take (i+1)=L.take i++[L.getD i MRow.zero]:=by
 have e:L.getD i MRow.zero=L[i]:=by simp [List.getD,hi]
 rw [List.take_succ_eq_append_getElem hi,e]
end Go.Proofs.YthockgmbooefpaaGreatDoor
namespace Go.Proofs.YthockgmbooefpaaGreatDoor
open Go.RowKit
theorem nearM_in (a:List UInt8) (k:Int) (p:PRow):nearM a k p=if 0<p.weight∧wordU p.word.toList=true∧withinB (distU p.word.toList a) k=true then some ⟨p.word,p.weight,(distZ (distU p.word.toList a)).1⟩ else none:=by
 unfold nearM
 cases distU p.word.toList a with
 | none=>simp [distZ,withinB]
 | some d=>simp [distZ,withinB]
def FMrgR (w:World) (V:List PRow) (M:List MRow) (a:List UInt8) (k:Int) (e:Ending) (w':World):Prop :=
 ∃ A q c Y Z,e=.returned (.tuple #[.slice A q c,.int .i64 0])∧MNx w w' (.slice A q c) q Z∧Nrm V Y∧m_SrtP Z∧m_SameK (keptM Y M++overM a k Y) Z
theorem fmrg_yes (w:World) (hL:Lst w) (A:Option Addr) (n c:Nat) (M:List MRow) (hM:M.length=n) (hRM:Reads w 3 A n (mCells M)) (s:SL) (hs:s.Ok w) (hsum:n+s.n≤4398046510000)
  (hWV:∀ r∈s.L,r.word.size≤1099511627776) (a:ByteArray) (k:Nat) (ha:a.size≤1099511627776) (X:List Nat) (hX:runesU a.toList=some X) (hr:levR a.toList k=true) :
  Calls Tryz.prog 42 #[.slice A n c,s.val,.string a,.int .i64 (k:Int)] w (FMrgR w s.L M a.toList k):=by
 have HN:=hide (lnew_yes w hL a k ha X hX hr)
 have HL:=hide hL
 have HM:=hide hM
 have HRM:=hide hRM
 have HS:=hide hs
 have HWV:=hide hWV
 have HA:=hide ha
 obtain ⟨i0,hi,hz0,hz1,hz2⟩:=info_parts infoMso
 obtain ⟨sA,sn,sc,V⟩:=s
 simp only [SL.val]
 simp only at hsum HWV
 clear hM hRM hs hWV ha hr hL hX
 go_enter Tryz.func42,Tryz.ntmps42
 go_wp2_with fail
 refine HN.out.mono ?_
 rintro e w1 ⟨lb,lA,ln,lc,rfl,_,T1,_⟩
 have HT1:=hide T1
 have HPN:=hide (pnorm_any w1 ⟨sA,sn,sc,V⟩ ⟨HS.out.len,HS.out.reads.touch T1 (fun _ _ f=>f),HS.out.nil⟩ (by show sn≤_;omega))
 clear T1 HN
 simp only [SL.val] at HPN
 go_wp2_with fail
 refine HPN.out.mono ?_
 rintro e w2 ⟨A6,q6,c6,Y,rfl,O6,N6,T6,hq6,_,h6⟩
 have HYO:=hide O6
 have HNR:=hide N6
 have HT2:=hide (HT1.out.then T6)
 have HYL:=hide (pown_len O6)
 have hqs:q6≤sn:=hq6
 clear O6 N6 T6 hq6 h6 HPN
 go_wp2_with fail
 go_loopw [12,34] (fun ov iv wr=>∃ (i q:Nat) (A3:Option Addr) (c3:Nat),iv=.int .i64 i∧ov=.slice A3 q c3∧i≤n∧q≤i∧Hid (MNx w2 wr (.slice A3 q c3) q (keptM Y (M.take i)))) (fun _ iv _=>n-(intOf iv).toNat)
 case atStart=>exact ⟨0,0,none,0,rfl,rfl,Nat.zero_le _,Nat.zero_le _,hide (MNx.nil _)⟩
 case round =>
  obtain ⟨i,q,A3,c3,rfl,rfl,hin',hqi,HN⟩:=hrel
  have HT:=hide HN.out.touch
  by_cases hin:i<n
  ·have y0:(i:Int)<(n:Int):=by omega
   obtain ⟨gl,ol,hAl,_,l0,l1,l2⟩:=mreads_at (HRM.out.touch (HT2.out.then HN.out.touch) (fun _ _ f=>f)) HM.out.symm i hin
   subst hAl
   have hsn:=msnoc M i (by rw [HM.out];exact hin)
   obtain ⟨⟨xw,xn,xd⟩,hx⟩:∃ x,x=M.getD i MRow.zero:=⟨_,rfl⟩
   rw [← hx] at l0 l1 l2 hsn
   simp only at l0 l1 l2
   have hkp:=keptM_snoc Y (M.take i) ⟨xw,xn,xd⟩
   rw [← hsn] at hkp
   have HKP:=hide hkp
   clear hsn hx hkp
   go_upto_region 9 with fail
   obtain ⟨wa,hwa⟩:∃ x,x=wr.alloc (.cells #[.string xw,.int .i64 xn,.int .i64 xd] 43):=⟨_,rfl⟩
   obtain ⟨b,hb⟩:∃ x,x=wr.heap.size:=⟨_,rfl⟩
   rw [← hwa,← hb]
   have hTa:Touch (fun _=>False) wr wa:=by rw [hwa];exact (Touch.refl _ _).alloc _
   have hba:Blk wa b 43 #[.string xw,.int .i64 xn,.int .i64 xd]:=by rw [hwa,hb];exact Blk.new _ _ _
   obtain ⟨b0,b1,b2⟩:_∧_∧_:=⟨hba.cell 0,hba.cell 1,hba.cell 2⟩
   simp at b0 b1 b2
   have lb1:=hba.lt
   have HTA:=hide hTa
   have HBA:=hide hba
   have HF:=hide (pfind_any wa A6 q6 c6 Y HYL.out.symm ((Reads.of_own HYO.out).touch (HT.out.then hTa) (fun _ _ f=>f)) (by unfold maxLen;omega) xw)
   clear hwa hb hTa hba l0 l1 l2
   cases hf:(findP xw.toList Y).2 with
   | true =>
    have HFF:=hide hf
    rw [hf] at HF
    clear hf
    go_wp2_with fail
    refine HF.out.mono ?_
    rintro e w3 ⟨rfl,T3⟩
    have HT3:=hide (HTA.out.then T3)
    clear T3
    go_wp2_with fail
    go_roundw
    ·refine ⟨i+1,q,A3,c3,by simp,rfl,by omega,by omega,hide ?_⟩
     rw [HKP.out,if_pos HFF.out,List.append_nil]
     exact HN.out.to HT3.out
    ·show n-(intOf (.int .i64 ((i:Int)+1))).toNat<n-(intOf (.int .i64 (i:Int))).toNat
     simp [intOf]
     omega
   | false =>
    have HFF:=hide hf
    rw [hf] at HF
    clear hf b0 b1 b2 lb1
    have hba:=HBA.out
    obtain ⟨b0,b1,b2⟩:_∧_∧_:=⟨hba.cell 0,hba.cell 1,hba.cell 2⟩
    simp at b0 b1 b2
    have lb1:=hba.lt
    clear hba
    go_wp2_with fail
    refine HF.out.mono ?_
    rintro e w3 ⟨rfl,T3⟩
    have hb3:=HBA.out.touch T3 (fun f=>f)
    clear b0 b1 b2 lb1
    obtain ⟨b0,b1,b2⟩:_∧_∧_:=⟨hb3.cell 0,hb3.cell 1,hb3.cell 2⟩
    simp at b0 b1 b2
    have lb1:=hb3.lt
    have HN3:=hide (HN.out.to (HTA.out.then T3))
    have HT3:=hide (HT.out.then (HTA.out.then T3))
    clear T3 hb3 HF
    go_wp2_with (at_builtin;refine wpList_app _ rfl (.tmp 47) (.tmp 49) 39 rfl 43 i0 _ 3 32 Tryz.underlying39 hi hz0 hz1 hz2 rfl (by decide) (.slice A3 q c3) q _ rfl (own_touch HN3.out.own ((Touch.refl _ _).alloc _) (fun _ _ f=>f)) (some ⟨_,0,none⟩) 1 1 (MRow.cells ⟨xw,xn,xd⟩) rfl ?s1a ?s1b ?s1c ?s1d ?s1e ?_)
    case s1a=>exact Reads.new _ _ _ _ rfl
    try (case s1b=>exact fun h=>by cases h)
    case s1c=>exact List.all_eq_true.1 rfl
    case s1d=>unfold maxLen;omega
    case s1e=>omega
    intro v4 w4 hown hgrow hfr _
    have N4:=(HN3.out.to ((Touch.refl _ _).alloc _)).app hown hgrow hfr
    obtain ⟨A4,c4,rfl,_,hm4⟩:=own_len hown
    have HN4:=hide N4
    clear N4 hown hgrow hfr hm4
    go_wp2_with fail
    go_roundw
    ·refine ⟨i+1,q+1,A4,c4,by simp,rfl,by omega,by omega,hide ?_⟩
     rw [HKP.out,if_neg (by rw [HFF.out];decide)]
     exact HN4.out
    ·show n-(intOf (.int .i64 ((i:Int)+1))).toNat<n-(intOf (.int .i64 (i:Int))).toNat
     simp [intOf]
     omega
  ·have hX:M.take i=M:=List.take_of_length_le (by rw [HM.out];omega)
   rw [hX] at HN
   obtain ⟨K,hK⟩:∃ K,K=keptM Y M:=⟨_,rfl⟩
   rw [← hK] at HN
   have HK:=hide hK
   have hqn:q≤n:=by omega
   have y0:¬ (i:Int)<(n:Int):=by omega
   have HN0:=HN
   clear hX hK hin hin' hqi HN HT
   go_wp2_with fail
   go_loopw [12,54] (fun ov jv wr=>∃ (j q:Nat) (A3:Option Addr) (c3:Nat),jv=.int .i64 j∧ov=.slice A3 q c3∧j≤q6∧q≤n+j∧Hid (MNx w2 wr (.slice A3 q c3) q (K++overM a.toList (k:Int) (Y.take j)))) (fun _ jv _=>q6-(intOf jv).toNat)
   case atStart=>exact ⟨0,q,A3,c3,rfl,rfl,Nat.zero_le _,by omega,hide (by simpa [overM] using HN0.out)⟩
   case round =>
    clear HN0 hqn
    obtain ⟨j,q,A3,c3,rfl,rfl,hjn',hqj,HN⟩:=hrel
    have HT:=hide HN.out.touch
    by_cases hjn:j<q6
    ·have y0:(j:Int)<(q6:Int):=by omega
     obtain ⟨gl,ol,hAl,_,l0,l1⟩:=preads_at ((Reads.of_own HYO.out).touch HT.out (fun _ _ f=>f)) HYL.out j hjn
     subst hAl
     have hsn:=psnoc Y j (by rw [← HYL.out];exact hjn)
     have hwx:=HWV.out _ (HNR.out.mem (pgetD_mem Y j (by rw [← HYL.out];exact hjn)))
     obtain ⟨⟨xw,xn⟩,hx⟩:∃ x,x=Y.getD j PRow.zero:=⟨_,rfl⟩
     rw [← hx] at l0 l1 hsn hwx
     simp only at l0 l1 hwx
     have hov:=overM_snoc a.toList (k:Int) (Y.take j) ⟨xw,xn⟩
     rw [← hsn,nearM_in] at hov
     simp only at hov
     have HWX:=hide hwx
     clear hsn hx hwx
     go_upto_region 16 with fail
     obtain ⟨wa,hwa⟩:∃ x,x=wr.alloc (.cells #[.string xw,.int .i64 xn] 125):=⟨_,rfl⟩
     obtain ⟨b,hb⟩:∃ x,x=wr.heap.size:=⟨_,rfl⟩
     rw [← hwa,← hb]
     have hTa:Touch (fun _=>False) wr wa:=by rw [hwa];exact (Touch.refl _ _).alloc _
     have hba:Blk wa b 125 #[.string xw,.int .i64 xn]:=by rw [hwa,hb];exact Blk.new _ _ _
     have HTA:=hide hTa
     have HBA:=hide hba
     have HLA:=hide (Lst.touch HL.out (HT2.out.then (HN.out.touch.then hTa)))
     have hwd:=word_any wa xw (by have:=HWX.out;omega) HLA.out
     obtain ⟨v,hv⟩:∃ v,v=wordU xw.toList:=⟨_,rfl⟩
     rw [← hv] at hwd hov
     obtain ⟨u,hu⟩:∃ u,u=withinB (distU xw.toList a.toList) (k:Int):=⟨_,rfl⟩
     rw [← hu] at hov
     have HWD:=hide hwd
     have HU:=hide hu
     have HOV:=hide hov
     clear hwa hb hTa hba l0 l1 hwd hv hu hov
     have hba:=HBA.out
     obtain ⟨b0,b1⟩:_∧_:=⟨hba.cell 0,hba.cell 1⟩
     simp at b0 b1
     have lb1:=hba.lt
     clear hba
     by_cases hx0:0<xn
     ·cases v with
      | false =>
       go_wp2_with fail
       refine HWD.out.mono ?_
       rintro e w3 ⟨rfl,T3⟩
       have HT3:=hide (HTA.out.then T3)
       clear T3
       go_wp2_with fail
       go_roundw
       ·refine ⟨j+1,q,A3,c3,by simp,rfl,by omega,by omega,hide ?_⟩
        rw [HOV.out,if_neg (by simp),Option.toList_none,List.append_nil]
        exact HN.out.to HT3.out
       ·simp only [intOf]
        omega
      | true =>
       go_wp2_with fail
       refine HWD.out.mono ?_
       rintro e w3 ⟨rfl,T3⟩
       have HT3:=hide (HTA.out.then T3)
       have hb3:=HBA.out.touch T3 (fun f=>f)
       clear b0 b1 lb1
       obtain ⟨b0,b1⟩:_∧_:=⟨hb3.cell 0,hb3.cell 1⟩
       simp at b0 b1
       have lb1:=hb3.lt
       have HB3:=hide hb3
       have HWI:=hide (within_any w3 (Lst.touch HLA.out T3) xw a (by have:=HWX.out;omega) (by have:=HA.out;omega) (k:Int))
       have HLB:=hide (Lst.touch HLA.out T3)
       rw [← HU.out] at HWI
       clear T3 hb3
       cases u with
       | false =>
        go_wp2_with fail
        refine HWI.out.mono ?_
        rintro e w4 ⟨rfl,T4⟩
        have HT4:=hide (HT3.out.then T4)
        clear T4
        go_wp2_with fail
        go_roundw
        ·refine ⟨j+1,q,A3,c3,by simp,rfl,by omega,by omega,hide ?_⟩
         rw [HOV.out,if_neg (by simp),Option.toList_none,List.append_nil]
         exact HN.out.to HT4.out
        ·simp only [intOf]
         omega
       | true =>
        go_wp2_with fail
        refine HWI.out.mono ?_
        rintro e w4 ⟨rfl,T4⟩
        have HT4:=hide (HT3.out.then T4)
        have hb4:=HB3.out.touch T4 (fun f=>f)
        clear b0 b1 lb1
        obtain ⟨b0,b1⟩:_∧_:=⟨hb4.cell 0,hb4.cell 1⟩
        simp at b0 b1
        have lb1:=hb4.lt
        have HB4:=hide hb4
        have hd4:=dist_any w4 (Lst.touch HLB.out T4) xw a (by have:=HWX.out;omega) (by have:=HA.out;omega)
        rw [distE_eq] at hd4
        obtain ⟨z,hz⟩:∃ z,z=(distZ (distU xw.toList a.toList)).1:=⟨_,rfl⟩
        obtain ⟨y,hy⟩:∃ y,y=(distZ (distU xw.toList a.toList)).2:=⟨_,rfl⟩
        rw [← hz,← hy] at hd4
        have HZ:=hide hz
        have HD4:=hide hd4
        clear T4 hb4 hd4 hz hy
        go_wp2_with fail
        refine HD4.out.mono ?_
        rintro e w5 ⟨rfl,T5⟩
        have HN5:=hide (HN.out.to (HT4.out.then T5))
        have HT5:=hide (HT.out.then (HT4.out.then T5))
        have hb5:=HB4.out.touch T5 (fun f=>f)
        clear b0 b1 lb1
        obtain ⟨b0,b1⟩:_∧_:=⟨hb5.cell 0,hb5.cell 1⟩
        simp at b0 b1
        have lb1:=hb5.lt
        clear T5 hb5 HD4
        go_wp2_with (at_builtin;refine wpList_app _ rfl (.tmp 80) (.tmp 87) 39 rfl 43 i0 _ 3 32 Tryz.underlying39 hi hz0 hz1 hz2 rfl (by decide) (.slice A3 q c3) q _ rfl (own_touch HN5.out.own ((Touch.refl _ _).alloc _) (fun _ _ f=>f)) (some ⟨_,0,none⟩) 1 1 (MRow.cells ⟨xw,xn,z⟩) rfl ?s2a ?s2b ?s2c ?s2d ?s2e ?_)
        case s2a=>exact Reads.new _ _ _ _ rfl
        try (case s2b=>exact fun h=>by cases h)
        case s2c=>exact List.all_eq_true.1 rfl
        case s2d=>unfold maxLen;omega
        case s2e=>omega
        intro v6 w6 hown hgrow hfr _
        have N6:=(HN5.out.to ((Touch.refl _ _).alloc _)).app hown hgrow hfr
        obtain ⟨A6,c6,rfl,_,hm6⟩:=own_len hown
        have HN6:=hide N6
        clear N6 hown hgrow hfr hm6
        go_wp2_with fail
        go_roundw
        ·refine ⟨j+1,q+1,A6,c6,by simp,rfl,by omega,by omega,hide ?_⟩
         rw [HOV.out,if_pos (by simp [hx0]),← HZ.out,← List.append_assoc]
         exact HN6.out
        ·simp only [intOf]
         omega
     ·have hx1:¬ (0:Int)<xn:=hx0
      go_wp2_with fail
      go_roundw
      ·refine ⟨j+1,q,A3,c3,by simp,rfl,by omega,by omega,hide ?_⟩
       rw [HOV.out,if_neg (by simp [hx0]),Option.toList_none,List.append_nil]
       exact HN.out.to HTA.out
      ·simp only [intOf]
       omega
    ·have hX:Y.take j=Y:=List.take_of_length_le (by rw [← HYL.out];omega)
     rw [hX,HK.out] at HN
     have y0:¬ (j:Int)<(q6:Int):=by omega
     have hown:=HN.out.own
     have HSO:=hide (m_sortfunc_any wr A3 q c3 _ hown (by omega))
     clear hX hjn hjn' hqj hown
     go_wp2_with fail
     refine HSO.out.mono ?_
     rintro e w7 ⟨rfl,⟨Z,O7,s7,k7⟩,T7⟩
     have HO7:=hide O7
     have HZ:=hide (And.intro s7 k7)
     have HT7:=hide T7
     clear O7 s7 k7 T7 HSO
     go_wp2_with fail
     go_ret2
     refine ⟨A3,q,c3,Y,Z,rfl,⟨HO7.out,(mown_len HO7.out).symm,?_,fun g hg=>by have h1:=HN.out.fresh g hg;have h2:=HT2.out.size;omega⟩,HNR.out,HZ.out.1,HZ.out.2⟩
     refine Touch.trans (HT2.out.then HN.out.touch) HT7.out (fun g hg e=>?_)
     have h1:=HN.out.fresh g (by
      cases A3 with
      | none=>simp [adBlock] at e
      | some p =>
       rcases HO7.out.2 with ⟨e1,_⟩ | ⟨g',cap,cur,e1,_,_⟩
       ·cases e1
       ·cases e1
        simpa [adBlock,Value.ownBlock] using e)
     have h2:=HT2.out.size
     omega
end Go.Proofs.YthockgmbooefpaaGreatDoor
namespace Go.Proofs.YthockgmbooefpaaGreatDoor
open Go.RowKit
theorem lst_of_laid {W:World} {laid:List (String × DataW Unit)} (he:laid=[("abecedary/letters.least",Rows.laid_abecedary_letters_least)]) (h:laidMetH Tryz.prog laid W):Lst W:=by
 subst he
 have hL:laidMet Tryz.prog (("abecedary/letters.least",Lib.tabData .i32 [0,0,128,2048,65536]) :: []) W:=h
 have h:=Lib.tabIs_of_head (g:=0) (t := 278) (e := 21) (n:=5) (by kernel_rfl) (by kernel_rfl) Tryz.underlying278 Tryz.underlying21 (by kernel_rfl) (by kernel_rfl) hL
 unfold Lib.TabIs World.var? at h
 rw [show Tryz.prog.globalNamed "abecedary/letters.least" = some 0 by kernel_rfl] at h
 simp only [Option.bind_some] at h
 have hg:∃ cs t fr,W.heap[0]? = some (.cells cs t fr)∧cs=(([0,0,128,2048,65536]:List Int).map fun z=>Value.int .i32 z).toArray:=by
  cases hh:W.heap[0]? with
  | none=>rw [hh] at h;cases h
  | some o =>
   rw [hh] at h
   cases o with
   | cells cs t fr=>exact ⟨cs,t,fr,rfl,Option.some.inj h⟩
   | _=>cases h
 obtain ⟨cs,t,fr,hg,rfl⟩:=hg
 refine ⟨(Array.getElem?_eq_some_iff.1 hg).1,?_,?_,?_⟩
 ·unfold World.cell?;rw [hg];rfl
 ·unfold World.cell?;rw [hg];rfl
 ·unfold World.cell?;rw [hg];rfl
end Go.Proofs.YthockgmbooefpaaGreatDoor
namespace Go.Proofs.YthockgmbooefpaaGreatDoor
open Go.RowKit Go.ChangeShapes Go.WideShapes Go.ChangeAt
section
variable {H:Type} {enc:TypeId × Value→H} {w:World} {base:Nat} {spare:Nat→Bool} {held:Bool}
theorem bulk_pos (d:DataW H):1≤Rows.uptoBulk d:=by
 cases d with
 | lit l=>cases l<;>simp [Rows.uptoBulk]
 | _=>simp [Rows.uptoBulk]
theorem bulk_len (l:List (DataW H)):l.length≤Rows.uptoBulkAll l:=by
 induction l with
 | nil=>simp [Rows.uptoBulkAll]
 | cons x r ih=>have:=bulk_pos x;simp only [Rows.uptoBulkAll,List.length_cons];omega
end
noncomputable def laidWorld (os:Os):World :=
 { World.holding Tryz.prog os ⟨#[],#[],[]⟩ with heap:=(World.holding Tryz.prog os ⟨#[],#[],[]⟩).heap.modify 0 fun
   | .cells _ t frozen=>.cells #[.int .i32 0,.int .i32 0,.int .i32 128,.int .i32 2048,.int .i32 65536] t frozen
   | o=>o }
section
variable {H:Type} {enc:TypeId × Value→H} {w:World} {base:Nat} {spare:Nat→Bool} {held:Bool}
theorem list3 {cs:List Value} (h:cs.length=3):∃ a b c,cs=[a,b,c]:=by
 match cs,h with
 | [a,b,c],_=>exact ⟨a,b,c,rfl⟩
theorem open_query {r:Reach} {b0:Nat} {v:Value} {d:DataW H} {p:List MemPlace} (hv:Value.okWide Tryz.prog w r b0 24 v) (h:DataW.Trod enc Tryz.prog w base spare held 24 v d p) :
  ∃ (q:ByteArray) (x y:Int),v=.agg #[.string q,.int .i64 x,.int .i64 y]∧q.size≤9223372036854775807:=by
 obtain ⟨cs,rfl,hsz⟩:=okWide_struct Tryz.underlying24 hv
 obtain ⟨fuel,hf⟩:=h
 have hC:Tryz.prog.cellsOf 24 = 3:=by kernel_rfl
 obtain ⟨s,hs,ws⟩:=field_string Tryz.underlying24 hf 0 _ rfl (by kernel_rfl) (by kernel_rfl)
 obtain ⟨b,hb,_⟩:=field_int (k:=.i64) Tryz.underlying24 hf 1 _ rfl (by kernel_rfl) (by kernel_rfl)
 obtain ⟨c,hc,_⟩:=field_int (k:=.i64) Tryz.underlying24 hf 2 _ rfl (by kernel_rfl) (by kernel_rfl)
 obtain ⟨x0,x1,x2,hcs⟩:=list3 (by show cs.toList.length=3;rw [Array.length_toList];exact hsz.trans hC)
 have e:cs=#[x0,x1,x2]:=by rw [← Array.toArray_toList (xs:=cs),hcs]
 subst e
 simp [Value.cells] at hs hb hc
 subst hs hb hc
 exact ⟨s,b,c,rfl,ws⟩
end
theorem bulk_mem {H:Type} {x:DataW H}:∀ {l:List (DataW H)},x∈l→Rows.uptoBulk x≤Rows.uptoBulkAll l
 | y :: l,h=>by
  simp only [Rows.uptoBulkAll]
  rcases List.mem_cons.1 h with rfl | h
  ·omega
  ·have:=bulk_mem h
   omega
end Go.Proofs.YthockgmbooefpaaGreatDoor
namespace Go.Proofs.YthockgmbooefpaaGreatDoor
open Go.RowKit
theorem dict_strict {L:List PRow} (hD:DictP L):L.Pairwise (fun a b=>plt a b=true):=by
 have h:=hD.sort
 unfold SortR restsL at h
 rw [List.pairwise_map] at h
 refine List.Pairwise.imp_of_mem ?_ h
 intro a b ha hb hab
 obtain ⟨a1,a2⟩:=runesU_write _ _ _ (Nat.le_refl _) (hD.word a ha).1
 obtain ⟨b1,b2⟩:=runesU_write _ _ _ (Nat.le_refl _) (hD.word b hb).1
 unfold plt
 rw [a1,b1,less_runes _ _ (fun r hr=>scal_lt (a2 r hr)) (fun r hr=>scal_lt (b2 r hr))]
 exact hab
theorem fz_sorted {L:List PRow} (hD:DictP L) (X:List Nat) (o:Nat):m_SrtP (fzAllP L X o):=by
 unfold m_SrtP fzAllP
 rw [List.pairwise_filterMap]
 refine (dict_strict hD).imp ?_
 intro a b hab x hx y hy
 split at hx
 ·split at hy
  ·simp only [Option.some.injEq] at hx hy
   subst hx hy
   exact m_ple_of_plt hab
  ·cases hy
 ·cases hx
end Go.Proofs.YthockgmbooefpaaGreatDoor
namespace Go.Proofs.YthockgmbooefpaaGreatDoor
open Go.RowKit
theorem mkey_fm (f:PRow→Option MRow) (hf:∀ p m,f p=some m→m.word=p.word) (x:List UInt8) (L:List PRow):m_key x (L.filterMap f)=(key x L).filterMap f:=by
 induction L with
 | nil=>rfl
 | cons p L ih =>
  rw [key_cons]
  cases h:f p with
  | none =>
   rw [List.filterMap_cons_none h,ih]
   split
   ·rw [List.filterMap_cons_none h]
   ·rfl
  | some m =>
   rw [List.filterMap_cons_some h,m_key_cons,ih,hf p m h]
   split
   ·rw [List.filterMap_cons_some h]
   ·rfl
theorem mkey_kept (Y:List PRow) (M:List MRow) (x:List UInt8):m_key x (keptM Y M)=if (findP x Y).2=true then [] else m_key x M:=by
 unfold keptM
 induction M with
 | nil=>split<;>rfl
 | cons m M ih =>
  by_cases hw:m.word.toList=x
  ·cases hf:(findP x Y).2 with
   | true =>
    rw [List.filter_cons_of_neg (by rw [hw,hf];decide),ih,hf,if_pos rfl,if_pos rfl]
   | false =>
    rw [List.filter_cons_of_pos (by rw [hw,hf];decide),m_key_cons,m_key_cons,ih,hf]
    simp
  ·by_cases hf:(findP m.word.toList Y).2=true
   ·rw [List.filter_cons_of_neg (by rw [hf];decide),ih,m_key_cons,if_neg hw]
   ·rw [List.filter_cons_of_pos (by simpa using hf),m_key_cons,m_key_cons,if_neg hw,if_neg hw,ih]
theorem key_filter (x:List UInt8) (L:List PRow) (p:PRow→Bool):key x (L.filter p)=(key x L).filter p:=by
 unfold key
 rw [List.filter_filter,List.filter_filter]
 congr 1
 funext r
 rw [Bool.and_comm]
theorem key_one {L:List PRow} (h:L.Pairwise (fun a b=>plt a b=true)) (x:List UInt8):key x L=(key x L).getLast?.toList:=by
 have hs:(key x L).Pairwise (fun a b=>plt a b=true):=h.sublist List.filter_sublist
 have hm:∀ p∈key x L,p.word.toList=x:=fun p hp=>of_decide_eq_true (List.mem_filter.1 hp).2
 cases hk:key x L with
 | nil=>rfl
 | cons p l =>
  cases l with
  | nil=>rfl
  | cons q l =>
   rw [hk] at hs hm
   have h1:=(List.pairwise_cons.1 hs).1 q (by simp)
   exact absurd ((hm p (by simp)).trans (hm q (by simp)).symm) (plt_ne h1)
theorem mem_key {x:List UInt8} {L:List PRow} {p:PRow} (h:p∈key x L):p∈L:=(List.mem_filter.1 h).1
theorem wordU_dict {L:List PRow} (hD:DictP L) {p:PRow} (hp:p∈L):wordU p.word.toList=true:=by
 obtain ⟨h1,h2,h3,h4⟩:=hD.word p hp
 have h:=(runesU_write _ _ _ (Nat.le_refl _) h1).1
 have h5:=flat_size (wordR p)
 rw [← h] at h5
 unfold wordU
 rw [h1]
 simp only [Bool.and_eq_true,decide_eq_true_eq]
 exact ⟨by omega,h2,h3,h4⟩
def fzOne (X:List Nat) (o:Nat) (p:PRow):Option MRow:=if rowW X (wordR p)<o then some ⟨p.word,p.weight,(rowW X (wordR p):Int)⟩ else none
theorem fzOne_word (X:List Nat) (o:Nat) (p:PRow) (m:MRow) (h:fzOne X o p=some m):m.word=p.word:=by
 unfold fzOne at h
 split at h
 ·injection h with h;rw [← h]
 ·cases h
theorem near_word (a:List UInt8) (k:Int) (p:PRow) (m:MRow) (h:nearM a k p=some m):m.word=p.word:=by
 unfold nearM at h
 split at h
 ·injection h with h;rw [← h]
 ·cases h
theorem near_one {B:List PRow} (hD:DictP B) {p:PRow} (hp:p∈B) {a:List UInt8} {X:List Nat} (hX:runesU a=some X) (hl:X.length≤24) (k:Nat):nearM a (k:Int) p=fzOne X (k+1) p:=by
 have h1:=dist_dict hD hp hX hl
 have h2:=wordU_dict hD hp
 have h3:=hD.weight p hp
 unfold nearM fzOne
 rw [h1,h2]
 simp only [distZ]
 by_cases h:rowW X (wordR p)<k+1
 ·rw [if_pos h,if_pos (by refine ⟨by omega,?_,?_,by omega⟩<;>simp)]
 ·rw [if_neg h,if_neg (by rintro ⟨_,_,_,h4⟩;omega)]
theorem over_same {L V Y Y0:List PRow} (hL:DictP L) (hY:Nrm V Y) (hY0:Nrm (L++V) Y0) (hB:DictP (Y0.filter keepP)) {a:List UInt8} {X:List Nat} (hX:runesU a=some X) (hl:X.length≤24) (k:Nat) :
  m_SameK (keptM Y (fzAllP L X (k+1))++overM a (k:Int) Y) (fzAllP (Y0.filter keepP) X (k+1)):=by
 intro x
 have e1:fzAllP L X (k+1)=L.filterMap (fzOne X (k+1)):=rfl
 have e2:fzAllP (Y0.filter keepP) X (k+1)=(Y0.filter keepP).filterMap (fzOne X (k+1)):=rfl
 have e3:overM a (k:Int) Y=Y.filterMap (nearM a (k:Int)):=rfl
 rw [m_key_app,mkey_kept,e1,e2,e3,mkey_fm _ (fzOne_word X (k+1)),mkey_fm _ (near_word a (k:Int)),mkey_fm _ (fzOne_word X (k+1)),key_filter]
 have k0:=hY0.2 x
 have k1:=hY.2 x
 rw [key_app] at k0
 have hfind:(findP x Y).2=(key x V).getLast?.isSome:=by
  unfold findP
  rw [k1]
  cases (key x V).getLast? <;> rfl
 rw [hfind,k1]
 cases hv:(key x V).getLast? with
 | none =>
  have hV:key x V=[]:=List.getLast?_eq_none_iff.1 hv
  rw [hV,List.append_nil,← key_one (dict_strict hL) x] at k0
  rw [k0]
  have hf:(key x L).filter keepP=key x L:=by
   rw [List.filter_eq_self]
   intro p hp
   have:=(hL.weight p (mem_key hp)).1
   unfold keepP
   have h0:(p.weight == 0)=false:=by simp;omega
   rw [h0];rfl
  rw [hf]
  simp
 | some p =>
  have hl2:(key x L++key x V).getLast? = some p:=by
   rw [List.getLast?_append,hv];rfl
  rw [hl2] at k0
  have hp0:p∈Y0:=mem_key (x:=x) (by rw [k0];simp)
  rw [k0]
  simp only [Option.toList_some,Option.isSome_some,if_true,List.nil_append]
  by_cases hk:keepP p=true
  ·have hpB:p∈Y0.filter keepP:=List.mem_filter.2 ⟨hp0,hk⟩
   have hn:=near_one hB hpB hX hl k
   rw [List.filter_cons_of_pos hk,List.filter_nil]
   cases ho:fzOne X (k+1) p with
   | none=>rw [List.filterMap_cons_none (hn.trans ho),List.filterMap_cons_none ho];rfl
   | some m=>rw [List.filterMap_cons_some (hn.trans ho),List.filterMap_cons_some ho];rfl
  ·rw [List.filter_cons_of_neg hk,List.filter_nil]
   have h0:p.weight=0:=by simpa [keepP] using hk
   have hn:nearM a (k:Int) p=none:=by
    unfold nearM
    rw [if_neg (by rintro ⟨h1,_⟩;omega)]
   rw [List.filterMap_cons_none hn]
   rfl
end Go.Proofs.YthockgmbooefpaaGreatDoor
namespace Go.Proofs.YthockgmbooefpaaGreatDoor
open Go.RowKit
theorem PNx.ok {w0 w:World} {A:Option Addr} {q c:Nat} {N:List PRow} (h:PNx w0 w (.slice A q c) q N):SL.Ok ⟨A,q,c,N⟩ w:=by
 refine ⟨h.len,Reads.of_own h.own,fun hA=>?_⟩
 simp only at hA ⊢
 rcases h.own.2 with ⟨e,_⟩ | ⟨g',cap,cur,e,_,_⟩
 ·cases e;exact ⟨rfl,rfl⟩
 ·rw [hA] at e;cases e
end Go.Proofs.YthockgmbooefpaaGreatDoor
namespace Go.Proofs.YthockgmbooefpaaGreatDoor
open Go.RowKit
def nrmF (X:List PRow):List PRow:=X.foldl (fun o p=>putF p false o) []
theorem nrmF_snoc (X:List PRow) (p:PRow):nrmF (X++[p])=putF p false (nrmF X):=by simp [nrmF]
theorem nrmF_nrm (X:List PRow):Nrm X (nrmF X):=by
 obtain ⟨r,hr⟩:∃ r,r=X.reverse:=⟨_,rfl⟩
 have hl:X=r.reverse:=by rw [hr,List.reverse_reverse]
 rw [hl]
 clear hl hr
 induction r with
 | nil=>exact Nrm.nil
 | cons p r ih =>
  rw [List.reverse_cons,nrmF_snoc]
  exact ih.put p
def layP (B O:List PRow):List PRow:=(nrmF (B++O)).filter keepP
theorem lay_strict (B O:List PRow):Strict (layP B O):=(nrmF_nrm (B++O)).1.sublist List.filter_sublist
theorem keep_dict {B:List PRow} (hB:DictP B) (k:List UInt8):(key k B).filter keepP=key k B:=by
 rw [List.filter_eq_self]
 intro p hp
 have:=(hB.weight p (mem_key hp)).1
 unfold keepP
 have h0:(p.weight == 0)=false:=by simp;omega
 rw [h0];rfl
theorem lay_key {B:List PRow} (hB:DictP B) (O:List PRow) (k:List UInt8):key k (layP B O)=match (key k O).getLast? with
  | some p=>if keepP p=true then [p] else []
  | none=>key k B:=by
 unfold layP
 rw [key_filter,(nrmF_nrm (B++O)).2 k,key_app,List.getLast?_append]
 cases h:(key k O).getLast? with
 | some p =>
  simp only [Option.some_or,Option.toList_some]
  by_cases hk:keepP p=true
  ·rw [List.filter_cons_of_pos hk,List.filter_nil,if_pos hk]
  ·rw [List.filter_cons_of_neg hk,List.filter_nil,if_neg hk]
 | none =>
  simp only [Option.none_or]
  rw [← key_one (dict_strict hB) k,keep_dict hB]
theorem lay_nil {L:List PRow} (hL:DictP L):layP L []=L :=
 strict_unique (lay_strict L []) (dict_strict hL) fun k=>by rw [lay_key hL];rfl
theorem nrm_last {X Y:List PRow} (h:Nrm X Y) (k:List UInt8):(key k Y).getLast? = (key k X).getLast? := by
 rw [h.2 k]
 cases (key k X).getLast? <;> rfl
def dropP (w:List UInt8) (L:List PRow):List PRow:=L.filter (fun x=>decide (¬ x.word.toList=w))
theorem drop_key (w k:List UInt8) (L:List PRow):key k (dropP w L)=if w=k then [] else key k L:=by
 unfold dropP
 rw [key_filter]
 by_cases h:w=k
 ·subst h
  rw [if_pos rfl,List.filter_eq_nil_iff]
  intro p hp
  have:=of_decide_eq_true (List.mem_filter.1 hp).2
  simp [this]
 ·rw [if_neg h,List.filter_eq_self]
  intro p hp
  have h2:=of_decide_eq_true (List.mem_filter.1 hp).2
  simp only [decide_eq_true_eq]
  rw [h2]
  exact fun e=>h e.symm
theorem drop_strict {L:List PRow} (h:Strict L) (w:List UInt8):Strict (dropP w L):=List.Pairwise.sublist List.filter_sublist h
theorem key_snoc (k:List UInt8) (O:List PRow) (p:PRow):(key k (O++[p])).getLast? = if p.word.toList=k then some p else (key k O).getLast? := by
 rw [key_app]
 by_cases h:p.word.toList=k
 ·have e:key k [p]=[p]:=by simp [key,h]
  rw [e,if_pos h];simp
 ·have e:key k [p]=[]:=by simp [key,h]
  rw [e,if_neg h,List.append_nil]
theorem lay_put {B:List PRow} (hB:DictP B) {O Y:List PRow} {p:PRow} (h:Nrm (O++[p]) Y) (hp:keepP p=true):layP B Y=putF p false (layP B O):=by
 obtain ⟨h1,h2⟩:=putF_ok p (layP B O) (lay_strict B O)
 refine strict_unique (lay_strict B Y) h1 fun k=>?_
 rw [h2,lay_key hB,nrm_last h,key_snoc]
 by_cases e:p.word.toList=k
 ·rw [if_pos e,if_pos e]
  simp only
  rw [if_pos hp]
 ·rw [if_neg e,if_neg e,lay_key hB]
theorem lay_drop {B:List PRow} (hB:DictP B) {O Y:List PRow} {p:PRow} (h:Nrm (O++[p]) Y) (hp:¬ keepP p=true):layP B Y=dropP p.word.toList (layP B O):=by
 refine strict_unique (lay_strict B Y) (drop_strict (lay_strict B O) _) fun k=>?_
 rw [drop_key,lay_key hB,nrm_last h,key_snoc]
 by_cases e:p.word.toList=k
 ·rw [if_pos e,if_pos e]
  simp only
  rw [if_neg hp]
 ·rw [if_neg e,if_neg e,lay_key hB]
theorem find_key {A B:List PRow} {k:List UInt8} (h:key k A=key k B):findP k A=findP k B:=by unfold findP;rw [h]
theorem lay_find {B:List PRow} (hB:DictP B) {O:List PRow} (hO:∀ p∈O,0≤p.weight) (k:List UInt8) :
  findP k (layP B O)=if (findP k O).2=true then ((findP k O).1,decide (0<(findP k O).1)) else findP k B:=by
 have h:=lay_key hB O k
 cases hk:(key k O).getLast? with
 | none =>
  have e:findP k O=(0,false):=by unfold findP;rw [hk]
  rw [hk] at h
  rw [e,if_neg (by decide)]
  exact find_key h
 | some p =>
  have e:findP k O=(p.weight,true):=by unfold findP;rw [hk]
  rw [hk] at h
  simp only at h
  rw [e,if_pos rfl]
  have hp:p∈O:=mem_key (List.mem_of_getLast? hk)
  have h0:=hO p hp
  unfold findP
  rw [h]
  by_cases hz:p.weight=0
  ·have hn:¬ keepP p=true:=by unfold keepP;simp [hz]
   rw [if_neg hn]
   simp [hz]
  ·have hn:keepP p=true:=by unfold keepP;simp [hz]
   rw [if_pos hn]
   simp only [List.getLast?_singleton,Prod.mk.injEq,true_and]
   symm
   simp only [decide_eq_true_eq]
   omega
theorem sort_dict {L:List PRow} (hW:∀ p∈L,wordU p.word.toList=true) (hs:Strict L):SortR (restsL L):=by
 unfold SortR restsL
 rw [List.pairwise_map]
 refine List.Pairwise.imp_of_mem ?_ hs
 intro a b ha hb hab
 have ra:runesU a.word.toList=some (wordR a):=by obtain ⟨x,h,_⟩:=word_runes (hW a ha);unfold wordR;rw [h];rfl
 have rb:runesU b.word.toList=some (wordR b):=by obtain ⟨x,h,_⟩:=word_runes (hW b hb);unfold wordR;rw [h];rfl
 obtain ⟨a1,a2⟩:=runesU_write _ _ _ (Nat.le_refl _) ra
 obtain ⟨b1,b2⟩:=runesU_write _ _ _ (Nat.le_refl _) rb
 unfold plt at hab
 rw [a1,b1,less_runes _ _ (fun r hr=>scal_lt (a2 r hr)) (fun r hr=>scal_lt (b2 r hr))] at hab
 exact hab
theorem dict_mk {L:List PRow} (hl:L.length≤4096) (hW:∀ p∈L,wordU p.word.toList=true∧1≤p.weight∧p.weight≤1048576) (hs:Strict L):DictP L:=by
 refine ⟨hl,fun p hp=>?_,fun p hp=>(hW p hp).2,sort_dict (fun p hp=>(hW p hp).1) hs⟩
 obtain ⟨x,h1,h2,h3,h4⟩:=word_runes (hW p hp).1
 have e:wordR p=x:=by unfold wordR;rw [h1];rfl
 rw [e]
 exact ⟨h1,h2,h3,h4⟩
theorem find_zero {L:List PRow} {w:List UInt8} (h:(findP w L).2=false):findP w L=(0,false):=by
 unfold findP at h ⊢
 cases hk:(key w L).getLast? with
 | none=>rfl
 | some p=>rw [hk] at h;cases h
theorem filter_two {α:Type} (q:α→Bool) (l:List α):l.length=(l.filter q).length+(l.filter fun x=>!q x).length:=by
 induction l with
 | nil=>rfl
 | cons x l ih =>
  cases h:q x with
  | true=>rw [List.filter_cons_of_pos h,List.filter_cons_of_neg (by simp [h])];simp only [List.length_cons];omega
  | false=>rw [List.filter_cons_of_neg (by simp [h]),List.filter_cons_of_pos (by simp [h])];simp only [List.length_cons];omega
theorem drop_len {L:List PRow} (hs:Strict L) (w:List UInt8):(dropP w L).length+(if (findP w L).2=true then 1 else 0)=L.length:=by
 have h:=filter_two (fun x:PRow=>decide (x.word.toList=w)) L
 have e:(L.filter fun x=>!decide (x.word.toList=w))=dropP w L:=by unfold dropP;congr 1;funext x;simp
 have k1:L.filter (fun x=>decide (x.word.toList=w))=key w L:=rfl
 rw [e,k1,key_one hs w] at h
 unfold findP
 cases hk:(key w L).getLast? with
 | none=>rw [hk] at h;simp only [Option.toList_none,List.length_nil] at h;simp;omega
 | some p=>rw [hk] at h;simp only [Option.toList_some,List.length_cons,List.length_nil] at h;simp;omega
theorem put_len {L:List PRow} (hs:Strict L) (p:PRow):(putF p false L).length=if (findP p.word.toList L).2=true then L.length else L.length+1:=by
 obtain ⟨h1,h2⟩:=putF_ok p L hs
 have a:=drop_len h1 p.word.toList
 have b:=drop_len hs p.word.toList
 have e:dropP p.word.toList (putF p false L)=dropP p.word.toList L:=strict_unique (drop_strict h1 _) (drop_strict hs _) fun k=>by
  rw [drop_key,drop_key]
  by_cases hk:p.word.toList=k
  ·rw [if_pos hk,if_pos hk]
  ·rw [if_neg hk,if_neg hk,h2,if_neg hk]
 have f:(findP p.word.toList (putF p false L)).2=true:=by
  have h3:=h2 p.word.toList
  rw [if_pos rfl] at h3
  unfold findP
  rw [h3]
  rfl
 rw [f,if_pos rfl,e] at a
 split at b
 ·rename_i h;rw [if_pos h];omega
 ·rename_i h;rw [if_neg h];omega
theorem dict_put {L:List PRow} (hL:DictP L) {p:PRow} (hw:wordU p.word.toList=true) (h1:1≤p.weight) (h2:p.weight≤1048576) (hf:(findP p.word.toList L).2=true∨L.length<4096):DictP (putF p false L):=by
 refine dict_mk ?_ ?_ (putF_ok p L (dict_strict hL)).1
 ·rw [put_len (dict_strict hL)]
  have:=hL.len
  split
  ·exact this
  ·rcases hf with hf | hf
   ·exact absurd hf ‹_›
   ·omega
 ·intro q hq
  rcases putF_mem p L q hq with rfl | hq
  ·exact ⟨hw,h1,h2⟩
  ·exact ⟨wordU_dict hL hq,hL.weight q hq⟩
theorem dict_drop {L:List PRow} (hL:DictP L) (w:List UInt8):DictP (dropP w L):=by
 have hs:(dropP w L).Sublist L:=List.filter_sublist
 refine dict_mk (Nat.le_trans hs.length_le hL.len) ?_ (drop_strict (dict_strict hL) w)
 intro q hq
 exact ⟨wordU_dict hL (hs.subset hq),hL.weight q (hs.subset hq)⟩
structure OvP (O:List PRow):Prop where
 strict:Strict O
 ok:∀ p∈O,wordU p.word.toList=true∧0≤p.weight∧p.weight≤1048576
structure LayP (B O L:List PRow):Prop where
 dB:DictP B
 ov:OvP O
 lay:L=layP B O
 dL:DictP L
theorem LayP.begin {L:List PRow} (h:DictP L):LayP L [] L:=⟨h,⟨List.Pairwise.nil,fun p hp=>by cases hp⟩,(lay_nil h).symm,h⟩
theorem OvP.add {O Y:List PRow} (h:OvP O) {p:PRow} (hn:Nrm (O++[p]) Y) (hw:wordU p.word.toList=true) (h0:0≤p.weight) (h1:p.weight≤1048576):OvP Y:=by
 refine ⟨hn.1,fun q hq=>?_⟩
 rcases List.mem_append.1 (hn.mem hq) with h2 | h2
 ·exact h.ok q h2
 ·rw [List.mem_singleton.1 h2]
  exact ⟨hw,h0,h1⟩
theorem LayP.find {B O L:List PRow} (h:LayP B O L) (k:List UInt8):findP k L=if (findP k O).2=true then ((findP k O).1,decide (0<(findP k O).1)) else findP k B:=by
 rw [h.lay]
 exact lay_find h.dB (fun p hp=>(h.ov.ok p hp).2.1) k
theorem keep_pos {p:PRow} (h:1≤p.weight):keepP p=true:=by unfold keepP;have h0:(p.weight == 0)=false:=(by simp;omega);rw [h0];rfl
theorem LayP.put {B O L Y:List PRow} (h:LayP B O L) {p:PRow} (hn:Nrm (O++[p]) Y) (hw:wordU p.word.toList=true) (h0:1≤p.weight) (h1:p.weight≤1048576) (hf:(findP p.word.toList L).2=true∨L.length<4096):LayP B Y (putF p false L) :=
 ⟨h.dB,h.ov.add hn hw (by omega) h1,by rw [lay_put h.dB hn (keep_pos h0),← h.lay],dict_put h.dL hw h0 h1 hf⟩
theorem LayP.drop {B O L Y:List PRow} (h:LayP B O L) {w:ByteArray} (hn:Nrm (O++[⟨w,0⟩]) Y) (hw:wordU w.toList=true):LayP B Y (dropP w.toList L) :=
 ⟨h.dB,h.ov.add hn hw (Int.le_refl 0) (by show (0:Int)≤1048576;omega),by rw [lay_drop h.dB hn (by simp [keepP]),← h.lay],dict_drop h.dL _⟩
def setE (L:List PRow) (w:List UInt8) (n:Int):Int:=if wordU w=false then 140 else if n<1∨1048576<n then 141 else if (findP w L).2=false∧4096≤L.length then 142 else 0
def setL (L:List PRow) (w:ByteArray) (n:Int):List PRow:=if setE L w.toList n=0 then putF ⟨w,n⟩ false L else L
def setH (L:List PRow) (w:ByteArray) (n:Int):Int:=if setE L w.toList n=0 then (findP w.toList L).1 else 0
def remE (L:List PRow) (w:List UInt8):Int:=if wordU w=false then 140 else if (findP w L).2=false then 143 else 0
def remL (L:List PRow) (w:ByteArray):List PRow:=if remE L w.toList=0 then dropP w.toList L else L
def remH (L:List PRow) (w:ByteArray):Int:=if remE L w.toList=0 then (findP w.toList L).1 else 0
end Go.Proofs.YthockgmbooefpaaGreatDoor
