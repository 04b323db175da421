/- What the law rests on, part 43. No condition but those that each theorem names. -/
import Derived.Test.YtbijfoeaemceiaaGreatDoorS42
set_option linter.unusedSectionVars false
set_option linter.unusedSimpArgs false
set_option linter.unusedVariables false
namespace Go.Proofs.YtbijfoeaemceiaaGreatDoor
open Go.RowKit
theorem getD_memB (O:List MRow) (k:Nat) (hk:k<O.length):O.getD k MRow.zero∈O:=by
 have e:O.getD k MRow.zero=O[k]:=by simp [List.getD,hk]
 rw [e];exact List.getElem_mem _
theorem bestL_mem {L:List MRow} {i k:Nat} {x:MRow} (h:x∈bestL (L.take i) k):x∈L :=
 List.mem_of_mem_take (((sortL_both (L.take i)).2.mem_iff).1 (List.mem_of_mem_take h))
def RbPost (w:World) (L:List MRow) (most:Nat) (e:Ending) (w':World):Prop:=∃ A m c,m=(bestL L most).length∧m≤c∧c≤maxLen∧e=.returned (.slice A m c)∧Reads w' 3 A m (mCells (bestL L most))∧Touch (fun _=>False) w w'∧∀ g,adBlock A=some g→w.heap.size≤g
set_option maxRecDepth 100000 in
set_option maxHeartbeats 2000000 in
theorem rbest_mid (w:World) (A:Option Addr) (n c:Nat) (L:List MRow) (hL:L.length=n) (hR:Reads w 3 A n (mCells L)) (hn:n≤maxLen) (hW:∀ r∈L,r.WfB) (most:Nat) (hm64:most≤64) :
  Calls Tryz.prog 67 #[.slice A n c,.int .i64 (most:Int)] w (RbPost w L most):=by
 unfold maxLen at hn
 have HR:=hide hR
 have HL:=hide hL
 have HW:=hide hW
 obtain ⟨i0,hi,hz0,hz1,hz2⟩:=info_parts infoMatch
 clear hR hL hW
 have p1:(most:Int)≤64:=by omega
 go_enter Tryz.func67,Tryz.ntmps67
 go_wp2
 go_loopw [5,6] (fun out iv wr=>∃ (i:Nat) (Ao:Option Addr) (mo co:Nat),i≤n∧out=.slice Ao mo co∧iv=.int .i64 i∧mo≤64∧mo≤co∧Hid (co≤maxLen)∧Hid (mo=(bestL (L.take i) most).length)∧Hid (Reads wr 3 Ao mo (mCells (bestL (L.take i) most)))∧Hid (Touch (fun _=>False) w wr)∧Hid (∀ g,adBlock Ao=some g→w.heap.size≤g)) (fun _ iv _=>n-(intOf iv).toNat)
 case atStart =>
  have e:bestL (L.take 0) most=[]:=by simp [bestL,sortL]
  refine ⟨0,none,0,0,Nat.zero_le _,rfl,rfl,by omega,Nat.le_refl _,hide (by unfold maxLen;omega),hide ?_,hide ?_,hide (Touch.refl _ _),hide (fun g h=>by simp [adBlock] at h)⟩
  ·rw [e];rfl
  ·rw [e];exact Reads.nil _ _ _
 case round =>
  obtain ⟨i,Ao,mo,co,hin',rfl,rfl,hmo,hmc,HCO,HMO',HRO',HTO,HFO⟩:=hrel
  by_cases hin:i<n
  ·obtain ⟨O,hO⟩:∃ O,O=bestL (L.take i) most:=⟨_,rfl⟩
   have HMO:Hid (mo=O.length):=by rw [hO];exact HMO'
   have HRO:Hid (Reads wr 3 Ao mo (mCells O)):=by rw [hO];exact HRO'
   have HO:=hide hO
   obtain ⟨⟨mw,mn,md⟩,hm⟩:∃ x,x=L.getD i MRow.zero:=⟨_,rfl⟩
   have HM:=hide hm
   have n0:(i:Int)<(n:Int):=by omega
   have HWM:Hid (MRow.WfB ⟨mw,mn,md⟩):=hide (by rw [hm];exact HW.out _ (getD_memB L i (by rw [HL.out];exact hin)))
   have HWO:Hid (∀ k,k<O.length→(O.getD k MRow.zero).WfB):=hide (fun k hk=>HW.out _ (bestL_mem (by rw [← hO];exact getD_memB O k hk)))
   clear hO hm HMO' HRO'
   go_wp2
   obtain ⟨wo,rfl⟩:∃ wo:World,wo=wr:=⟨_,rfl⟩
   go_loopw [7,8,9] (fun nx dn j wr=>∃ (q k:Nat) (done:Bool) (A7:Option Addr) (c7:Nat),k≤mo∧nx=.slice A7 q c7∧dn=.bool done∧j=.int .i64 k∧q=k+done.toNat∧Hid (Nx wo wr (.slice A7 q c7) q (NxL ⟨mw,mn,md⟩ O k done))∧Hid (NxOk ⟨mw,mn,md⟩ O k done)) (fun _ _ j _=>mo-(intOf j).toNat)
   case atStart =>
    refine ⟨0,0,false,none,0,Nat.zero_le _,rfl,rfl,rfl,rfl,hide ⟨World.ownsRow_nil _ _ _ _,rfl,Touch.refl _ _,?_⟩,hide ?_⟩
    ·intro g e;simp [Value.ownBlock] at e
    ·intro y hy;simp at hy
   case round =>
    obtain ⟨q,k,done,A7,c7,hk,rfl,rfl,rfl,hq,HN,HK⟩:=hrel
    have hq1:q≤65:=by cases done<;>simp at hq<;>omega
    have HQ:=hide hq
    clear hq
    have TN:=HN.out.touch
    have TNH:=hide (HTO.out.then TN)
    obtain ⟨gl,ol,hAl,_,l0,l1,l2⟩:=reads_atB ((HR.out.touch HTO.out (fun _ _ f=>f)).touch TN (fun _ _ f=>f)) HL.out.symm i hin
    subst hAl
    rw [← HM.out] at l0 l1 l2
    simp only at l0 l1 l2
    by_cases hkm:k<mo
    ·obtain ⟨go,oo,hAo,_,o0,o1,o2⟩:=reads_atB (HRO.out.touch TN (fun _ _ f=>f)) HMO.out k hkm
     subst hAo
     obtain ⟨⟨xw,xn,xd⟩,hx⟩:∃ x,x=O.getD k MRow.zero:=⟨_,rfl⟩
     rw [← hx] at o0 o1 o2
     simp only at o0 o1 o2
     have HX:=hide hx
     have k0:(k:Int)<(mo:Int):=by omega
     have hkO:k<O.length:=by rw [← HMO.out];exact hkm
     have HKO:=hide hkO
     clear hx TN hkO
     cases done with
     | true =>
      go_wp2_with fail
      go_quiet (fail)
      obtain ⟨w1,hw1⟩:∃ w1,w1=wr.drewN nq:=⟨_,rfl⟩
      have HN1:=hide (HN.out.to ((Touch.refl _ _).drewN nq))
      rw [← hw1] at HN1 ⊢
      clear hw1
      obtain ⟨go',oo',hAo,_,p0,p1',p2⟩:=reads_atB (HRO.out.touch HN1.out.touch (fun _ _ f=>f)) HMO.out k hkm
      injection hAo with hAo
      injection hAo with hA1 hA2
      subst hA1 hA2
      rw [← HX.out] at p0 p1' p2
      simp only at p0 p1' p2
      go_wp2_with (first | (at_builtin;refine wpList_app _ rfl (.tmp 44) (.tmp 49) 45 rfl 98 i0 _ 3 32 Tryz.underlying45 hi hz0 hz1 hz2 rfl (by decide) (.slice A7 q c7) q _ rfl (own_touch HN1.out.own ((Touch.refl _ _).alloc _) (fun _ _ f=>f)) (some ⟨_,0,none⟩) 1 1 (MRow.cells ⟨xw,xn,xd⟩) rfl ?s1a ?s1b ?s1c ?s1d ?s1e ?_))
      case s1a=>exact Reads.new _ _ _ _ rfl
      try (case s1b=>exact fun h=>by cases h)
      case s1c=>exact List.all_eq_true.1 rfl
      case s1d=>unfold maxLen;omega
      case s1e=>omega
      intro v2 w2 hown hgrow hfr _
      have N2:=(HN1.out.to ((Touch.refl _ _).alloc _)).app hown hgrow hfr
      obtain ⟨A2,c2,rfl,_,_⟩:=own_len hown
      have HN2:=hide N2
      clear N2 hown hgrow hfr
      go_wp2
      go_roundw
      ·obtain ⟨e1,e2⟩:=nx_done ⟨mw,mn,md⟩ O k HKO.out HK.out
       have HN3:=HN2.out
       rw [HX.out,e1] at HN3
       exact ⟨q+1,k+1,true,A2,c2,by omega,rfl,rfl,by simp,by have hq:=HQ.out;simp at hq ⊢;omega,hide HN3,hide e2⟩
      ·show mo-(intOf (.int .i64 ((k:Int)+1))).toNat<mo-(intOf (.int .i64 (k:Int))).toNat
       simp [intOf]
       omega
     | false =>
      cases hb:better ⟨mw,mn,md⟩ ⟨xw,xn,xd⟩ with
      | true =>
       have HB:=hide hb
       clear hb
       go_wp2_with fail
       go_still_tail 11,(by kernel_rfl)
       change wpList _ _ _ _ _ wr.drew
       have HD:Hid (Touch (fun _=>False) wr wr.drew):=hide (Touch.refl _ _).drew
       generalize wr.drew=wd at HD ⊢
       go_wp2_with (first | (go_at_call 51;refine (rbetter_any ⟨mw,mn,md⟩ ⟨xw,xn,xd⟩ HWM.out (by rw [HX.out];exact HWO.out k HKO.out) wd).mono ?_;rintro e w1 ⟨rfl,T1⟩;have HN1:=hide (HN.out.to (HD.out.then T1));clear T1;obtain ⟨go',oo',hAo,_,p0,p1',p2⟩:=reads_atB (HRO.out.touch HN1.out.touch (fun _ _ f=>f)) HMO.out k hkm;injection hAo with hAo;injection hAo with hA1 hA2;subst hA1 hA2;rw [← HX.out] at p0 p1' p2;simp only at p0 p1' p2;obtain ⟨gl',ol',hAl,_,l0',l1',l2'⟩:=reads_atB ((HR.out.touch HTO.out (fun _ _ f=>f)).touch HN1.out.touch (fun _ _ f=>f)) HL.out.symm i hin;injection hAl with hAl;injection hAl with hA1 hA2;subst hA1 hA2;rw [← HM.out] at l0' l1' l2';simp only at l0' l1' l2';rw [HB.out]) | (at_builtin;refine wpList_app _ rfl (.tmp 37) (.tmp 42) 45 rfl 98 i0 _ 3 32 Tryz.underlying45 hi hz0 hz1 hz2 rfl (by decide) (.slice A7 q c7) q _ rfl (own_touch HN1.out.own ((Touch.refl _ _).alloc _) (fun _ _ f=>f)) (some ⟨_,0,none⟩) 1 1 (MRow.cells ⟨mw,mn,md⟩) rfl ?s3a ?s3b ?s3c ?s3d ?s3e ?_))
       case s3a=>exact Reads.new _ _ _ _ rfl
       try (case s3b=>exact fun h=>by cases h)
       case s3c=>exact List.all_eq_true.1 rfl
       case s3d=>unfold maxLen;omega
       case s3e=>omega
       intro v2 w2 hown hgrow hfr _
       have N2:=(HN1.out.to ((Touch.refl _ _).alloc _)).app hown hgrow hfr
       obtain ⟨A2,c2,rfl,_,_⟩:=own_len hown
       have HN2:=hide N2
       clear N2 hown hgrow hfr
       obtain ⟨go',oo',hAo,_,z0,z1,z2⟩:=reads_atB (HRO.out.touch HN2.out.touch (fun _ _ f=>f)) HMO.out k hkm
       injection hAo with hAo
       injection hAo with hA1 hA2
       subst hA1 hA2
       rw [← HX.out] at z0 z1 z2
       simp only at z0 z1 z2
       go_wp2_with (at_builtin;refine wpList_app _ rfl (.tmp 44) (.tmp 49) 45 rfl 98 i0 _ 3 32 Tryz.underlying45 hi hz0 hz1 hz2 rfl (by decide) (.slice A2 (q+1) c2) (q+1) _ rfl (own_touch HN2.out.own ((Touch.refl _ _).alloc _) (fun _ _ f=>f)) (some ⟨_,0,none⟩) 1 1 (MRow.cells ⟨xw,xn,xd⟩) rfl ?s4a ?s4b ?s4c ?s4d ?s4e ?_)
       case s4a=>exact Reads.new _ _ _ _ rfl
       try (case s4b=>exact fun h=>by cases h)
       case s4c=>exact List.all_eq_true.1 rfl
       case s4d=>unfold maxLen;omega
       case s4e=>omega
       intro v3 w3 hown hgrow hfr _
       have N3:=(HN2.out.to ((Touch.refl _ _).alloc _)).app hown hgrow hfr
       obtain ⟨A3,c3,rfl,_,_⟩:=own_len hown
       have HN3':=hide N3
       clear N3 hown hgrow hfr
       go_wp2
       go_roundw
       ·obtain ⟨e1,e2⟩:=nx_turn ⟨mw,mn,md⟩ O k HKO.out HK.out (by rw [← HX.out];exact HB.out)
        have HN3:=HN3'.out
        rw [HX.out,e1] at HN3
        exact ⟨q+1+1,k+1,true,A3,c3,by omega,rfl,rfl,by simp,by have hq:=HQ.out;simp at hq ⊢;omega,hide HN3,hide e2⟩
       ·show mo-(intOf (.int .i64 ((k:Int)+1))).toNat<mo-(intOf (.int .i64 (k:Int))).toNat
        simp [intOf]
        omega
      | false =>
       have HB:=hide hb
       clear hb
       go_wp2_with fail
       go_still_tail 11,(by kernel_rfl)
       change wpList _ _ _ _ _ wr.drew
       have HD:Hid (Touch (fun _=>False) wr wr.drew):=hide (Touch.refl _ _).drew
       generalize wr.drew=wd at HD ⊢
       go_wp2_with (first | (go_at_call 51;refine (rbetter_any ⟨mw,mn,md⟩ ⟨xw,xn,xd⟩ HWM.out (by rw [HX.out];exact HWO.out k HKO.out) wd).mono ?_;rintro e w1 ⟨rfl,T1⟩;have HN1:=hide (HN.out.to (HD.out.then T1));clear T1;obtain ⟨go',oo',hAo,_,p0,p1',p2⟩:=reads_atB (HRO.out.touch HN1.out.touch (fun _ _ f=>f)) HMO.out k hkm;injection hAo with hAo;injection hAo with hA1 hA2;subst hA1 hA2;rw [← HX.out] at p0 p1' p2;simp only at p0 p1' p2;obtain ⟨gl',ol',hAl,_,l0',l1',l2'⟩:=reads_atB ((HR.out.touch HTO.out (fun _ _ f=>f)).touch HN1.out.touch (fun _ _ f=>f)) HL.out.symm i hin;injection hAl with hAl;injection hAl with hA1 hA2;subst hA1 hA2;rw [← HM.out] at l0' l1' l2';simp only at l0' l1' l2';rw [HB.out]) | (at_builtin;refine wpList_app _ rfl (.tmp 44) (.tmp 49) 45 rfl 98 i0 _ 3 32 Tryz.underlying45 hi hz0 hz1 hz2 rfl (by decide) (.slice A7 q c7) q _ rfl (own_touch HN1.out.own ((Touch.refl _ _).alloc _) (fun _ _ f=>f)) (some ⟨_,0,none⟩) 1 1 (MRow.cells ⟨xw,xn,xd⟩) rfl ?s2a ?s2b ?s2c ?s2d ?s2e ?_))
       case s2a=>exact Reads.new _ _ _ _ rfl
       try (case s2b=>exact fun h=>by cases h)
       case s2c=>exact List.all_eq_true.1 rfl
       case s2d=>unfold maxLen;omega
       case s2e=>omega
       intro v2 w2 hown hgrow hfr _
       have N2:=(HN1.out.to ((Touch.refl _ _).alloc _)).app hown hgrow hfr
       obtain ⟨A2,c2,rfl,_,_⟩:=own_len hown
       have HN2:=hide N2
       clear N2 hown hgrow hfr
       go_wp2
       go_roundw
       ·obtain ⟨e1,e2⟩:=nx_no ⟨mw,mn,md⟩ O k HKO.out HK.out (by rw [← HX.out];exact HB.out)
        have HN3:=HN2.out
        rw [HX.out,e1] at HN3
        exact ⟨q+1,k+1,false,A2,c2,by omega,rfl,rfl,by simp,by have hq:=HQ.out;simp at hq ⊢;omega,hide HN3,hide e2⟩
       ·show mo-(intOf (.int .i64 ((k:Int)+1))).toNat<mo-(intOf (.int .i64 (k:Int))).toNat
        simp [intOf]
        omega
    ·have hkm':k=mo:=by omega
     have HKM:=hide hkm'
     cases done with
     | true =>
      obtain ⟨qf,hqf⟩:∃ qf,qf=q:=⟨_,rfl⟩
      rw [← hqf] at HN HQ ⊢
      have HF:Hid (Nx wo wr (.slice A7 qf c7) qf (ins ⟨mw,mn,md⟩ O)):=by
       have e:=nx_end ⟨mw,mn,md⟩ O true (by rw [← HMO.out,← HKM.out];exact HK.out)
       simp only [if_true] at e
       rw [← HMO.out,← HKM.out] at e
       rw [← e]
       exact HN
      clear hqf
      have hqf:qf=mo+1:=by have:=HQ.out;simp at this;omega
      clear hkm' TN
      obtain ⟨g,cap,hv,hcl,hcm,hg,_,_⟩:=own_form HF.out.own (by omega)
      injection hv with hA _ hc
      subst hA hc
      have hFl:=HF.out.len
      have HCM:=hide hcm
      have HQF:=hide hqf
      have hbest:bestL (L.take (i+1)) most=(ins ⟨mw,mn,md⟩ O).take most:=by rw [bestL_take L i (by rw [HL.out];exact hin),← HM.out,← HO.out]
      have HBE:=hide hbest
      have HFL:=hide hFl
      have HTT:=hide (HTO.out.then HF.out.touch)
      have HFF:Hid (∀ g',adBlock (some ⟨g,0,none⟩)=some g'→w.heap.size≤g'):=hide (fun g' h=>by have h1:=HF.out.fresh g' (by rw [← h];rfl);have h2:=HTO.out.size;omega)
      have hcmI:c7≤9223372036854775807:=by unfold maxLen at hcm;omega
      clear hFl hbest hcm
      by_cases hbig:most<qf
      ·have z0:decide ((most:Int)<(qf:Int))=true:=by simp;omega
       have z1:(most:Int)≤(c7:Int):=by omega
       have z2:most≤c7:=by omega
       clear hqf
       go_wp2
       go_roundw
       ·have hr:=(Reads.of_own HF.out.own).take (k:=most) (by omega)
        rw [mCells_take] at hr
        refine ⟨i+1,some ⟨g,0,none⟩,most,c7,by omega,(by first | rfl | (congr 1;omega)),by simp,hm64,z2,HCM,hide ?_,hide ?_,HTT,HFF⟩
        ·rw [HBE.out,List.length_take,HFL.out];omega
        ·rw [HBE.out];exact hr
       ·show n-(intOf (.int .i64 ((i:Int)+1))).toNat<n-(intOf (.int .i64 (i:Int))).toNat
        simp [intOf]
        omega
      ·have z0:decide ((most:Int)<(qf:Int))=false:=by simp;omega
       have hq64:qf≤64:=by omega
       clear hqf
       go_wp2
       go_roundw
       ·have hr:=Reads.of_own HF.out.own
        refine ⟨i+1,_,qf,c7,by omega,rfl,by simp,hq64,hcl,HCM,hide ?_,hide ?_,HTT,HFF⟩
        ·rw [HBE.out,List.take_of_length_le (by rw [HFL.out];omega),HFL.out]
        ·rw [HBE.out,List.take_of_length_le (by rw [HFL.out];omega)];exact hr
       ·show n-(intOf (.int .i64 ((i:Int)+1))).toNat<n-(intOf (.int .i64 (i:Int))).toNat
        simp [intOf]
        omega
     | false =>
      clear hkm' TN
      have HN1:=HN
      go_wp2_with (first | (at_builtin;refine wpList_app _ rfl (.tmp 53) (.tmp 58) 45 rfl 98 i0 _ 3 32 Tryz.underlying45 hi hz0 hz1 hz2 rfl (by decide) (.slice A7 q c7) q _ rfl (own_touch HN1.out.own ((Touch.refl _ _).alloc _) (fun _ _ f=>f)) (some ⟨_,0,none⟩) 1 1 (MRow.cells ⟨mw,mn,md⟩) rfl ?s5a ?s5b ?s5c ?s5d ?s5e ?_))
      case s5a=>exact Reads.new _ _ _ _ rfl
      try (case s5b=>exact fun h=>by cases h)
      case s5c=>exact List.all_eq_true.1 rfl
      case s5d=>unfold maxLen;omega
      case s5e=>omega
      intro v2 w2 hown hgrow hfr _
      have N2:=(HN1.out.to ((Touch.refl _ _).alloc _)).app hown hgrow hfr
      obtain ⟨A2,c2,rfl,_,_⟩:=own_len hown
      have HN2:=hide N2
      clear N2 hown hgrow hfr
      obtain ⟨qf,hqf'⟩:∃ qf,qf=q+1:=⟨_,rfl⟩
      rw [← hqf'] at HN2 ⊢
      have hqf:qf=mo+1:=by have:=HQ.out;have:=HKM.out;simp at *;omega
      have HF:Hid (Nx wo w2 (.slice A2 qf c2) qf (ins ⟨mw,mn,md⟩ O)):=by
       have e:=nx_end ⟨mw,mn,md⟩ O false (by rw [← HMO.out,← HKM.out];exact HK.out)
       simp only [Bool.false_eq_true,if_false] at e
       rw [← HMO.out,← HKM.out] at e
       rw [← e]
       exact HN2
      clear hqf'
      obtain ⟨g,cap,hv,hcl,hcm,hg,_,_⟩:=own_form HF.out.own (by omega)
      injection hv with hA _ hc
      subst hA hc
      have hFl:=HF.out.len
      have HCM:=hide hcm
      have HQF:=hide hqf
      have hbest:bestL (L.take (i+1)) most=(ins ⟨mw,mn,md⟩ O).take most:=by rw [bestL_take L i (by rw [HL.out];exact hin),← HM.out,← HO.out]
      have HBE:=hide hbest
      have HFL:=hide hFl
      have HTT:=hide (HTO.out.then HF.out.touch)
      have HFF:Hid (∀ g',adBlock (some ⟨g,0,none⟩)=some g'→w.heap.size≤g'):=hide (fun g' h=>by have h1:=HF.out.fresh g' (by rw [← h];rfl);have h2:=HTO.out.size;omega)
      have hcmI:c2≤9223372036854775807:=by unfold maxLen at hcm;omega
      clear hFl hbest hcm
      by_cases hbig:most<qf
      ·have z0:decide ((most:Int)<(qf:Int))=true:=by simp;omega
       have z1:(most:Int)≤(c2:Int):=by omega
       have z2:most≤c2:=by omega
       clear hqf
       go_wp2
       go_roundw
       ·have hr:=(Reads.of_own HF.out.own).take (k:=most) (by omega)
        rw [mCells_take] at hr
        refine ⟨i+1,some ⟨g,0,none⟩,most,c2,by omega,(by first | rfl | (congr 1;omega)),by simp,hm64,z2,HCM,hide ?_,hide ?_,HTT,HFF⟩
        ·rw [HBE.out,List.length_take,HFL.out];omega
        ·rw [HBE.out];exact hr
       ·show n-(intOf (.int .i64 ((i:Int)+1))).toNat<n-(intOf (.int .i64 (i:Int))).toNat
        simp [intOf]
        omega
      ·have z0:decide ((most:Int)<(qf:Int))=false:=by simp;omega
       have hq64:qf≤64:=by omega
       clear hqf
       go_wp2
       go_roundw
       ·have hr:=Reads.of_own HF.out.own
        refine ⟨i+1,_,qf,c2,by omega,rfl,by simp,hq64,hcl,HCM,hide ?_,hide ?_,HTT,HFF⟩
        ·rw [HBE.out,List.take_of_length_le (by rw [HFL.out];omega),HFL.out]
        ·rw [HBE.out,List.take_of_length_le (by rw [HFL.out];omega)];exact hr
       ·show n-(intOf (.int .i64 ((i:Int)+1))).toNat<n-(intOf (.int .i64 (i:Int))).toNat
        simp [intOf]
        omega
  ·have hieq:i=n:=by omega
   have e:L.take i=L:=List.take_of_length_le (by rw [HL.out];omega)
   rw [e] at HMO' HRO'
   clear e
   subst hieq
   go_wp2
   go_ret
   exact ⟨_,_,_,HMO'.out,hmc,HCO.out,rfl,HRO'.out,HTO.out,HFO.out⟩
set_option maxRecDepth 100000 in
set_option maxHeartbeats 2000000 in
theorem rbest_big (w:World) (A:Option Addr) (n c:Nat) (L:List MRow) (hL:L.length=n) (hR:Reads w 3 A n (mCells L)) (hn:n≤maxLen) (hW:∀ r∈L,r.WfB) (kk:Int) (hkk:64<kk) (most:Nat) (hmost:(most:Int)=64) :
  Calls Tryz.prog 67 #[.slice A n c,.int .i64 kk] w (RbPost w L most):=by
 unfold maxLen at hn
 have HR:=hide hR
 have HL:=hide hL
 have HW:=hide hW
 obtain ⟨i0,hi,hz0,hz1,hz2⟩:=info_parts infoMatch
 clear hR hL hW
 have hm64:most≤64:=by omega
 go_enter Tryz.func67,Tryz.ntmps67
 go_wp2
 go_loopw [5,6] (fun out iv wr=>∃ (i:Nat) (Ao:Option Addr) (mo co:Nat),i≤n∧out=.slice Ao mo co∧iv=.int .i64 i∧mo≤64∧mo≤co∧Hid (co≤maxLen)∧Hid (mo=(bestL (L.take i) most).length)∧Hid (Reads wr 3 Ao mo (mCells (bestL (L.take i) most)))∧Hid (Touch (fun _=>False) w wr)∧Hid (∀ g,adBlock Ao=some g→w.heap.size≤g)) (fun _ iv _=>n-(intOf iv).toNat)
 case atStart =>
  have e:bestL (L.take 0) most=[]:=by simp [bestL,sortL]
  refine ⟨0,none,0,0,Nat.zero_le _,rfl,rfl,by omega,Nat.le_refl _,hide (by unfold maxLen;omega),hide ?_,hide ?_,hide (Touch.refl _ _),hide (fun g h=>by simp [adBlock] at h)⟩
  ·rw [e];rfl
  ·rw [e];exact Reads.nil _ _ _
 case round =>
  obtain ⟨i,Ao,mo,co,hin',rfl,rfl,hmo,hmc,HCO,HMO',HRO',HTO,HFO⟩:=hrel
  by_cases hin:i<n
  ·obtain ⟨O,hO⟩:∃ O,O=bestL (L.take i) most:=⟨_,rfl⟩
   have HMO:Hid (mo=O.length):=by rw [hO];exact HMO'
   have HRO:Hid (Reads wr 3 Ao mo (mCells O)):=by rw [hO];exact HRO'
   have HO:=hide hO
   obtain ⟨⟨mw,mn,md⟩,hm⟩:∃ x,x=L.getD i MRow.zero:=⟨_,rfl⟩
   have HM:=hide hm
   have n0:(i:Int)<(n:Int):=by omega
   have HWM:Hid (MRow.WfB ⟨mw,mn,md⟩):=hide (by rw [hm];exact HW.out _ (getD_memB L i (by rw [HL.out];exact hin)))
   have HWO:Hid (∀ k,k<O.length→(O.getD k MRow.zero).WfB):=hide (fun k hk=>HW.out _ (bestL_mem (by rw [← hO];exact getD_memB O k hk)))
   clear hO hm HMO' HRO'
   go_wp2
   obtain ⟨wo,rfl⟩:∃ wo:World,wo=wr:=⟨_,rfl⟩
   go_loopw [7,8,9] (fun nx dn j wr=>∃ (q k:Nat) (done:Bool) (A7:Option Addr) (c7:Nat),k≤mo∧nx=.slice A7 q c7∧dn=.bool done∧j=.int .i64 k∧q=k+done.toNat∧Hid (Nx wo wr (.slice A7 q c7) q (NxL ⟨mw,mn,md⟩ O k done))∧Hid (NxOk ⟨mw,mn,md⟩ O k done)) (fun _ _ j _=>mo-(intOf j).toNat)
   case atStart =>
    refine ⟨0,0,false,none,0,Nat.zero_le _,rfl,rfl,rfl,rfl,hide ⟨World.ownsRow_nil _ _ _ _,rfl,Touch.refl _ _,?_⟩,hide ?_⟩
    ·intro g e;simp [Value.ownBlock] at e
    ·intro y hy;simp at hy
   case round =>
    obtain ⟨q,k,done,A7,c7,hk,rfl,rfl,rfl,hq,HN,HK⟩:=hrel
    have hq1:q≤65:=by cases done<;>simp at hq<;>omega
    have HQ:=hide hq
    clear hq
    have TN:=HN.out.touch
    have TNH:=hide (HTO.out.then TN)
    obtain ⟨gl,ol,hAl,_,l0,l1,l2⟩:=reads_atB ((HR.out.touch HTO.out (fun _ _ f=>f)).touch TN (fun _ _ f=>f)) HL.out.symm i hin
    subst hAl
    rw [← HM.out] at l0 l1 l2
    simp only at l0 l1 l2
    by_cases hkm:k<mo
    ·obtain ⟨go,oo,hAo,_,o0,o1,o2⟩:=reads_atB (HRO.out.touch TN (fun _ _ f=>f)) HMO.out k hkm
     subst hAo
     obtain ⟨⟨xw,xn,xd⟩,hx⟩:∃ x,x=O.getD k MRow.zero:=⟨_,rfl⟩
     rw [← hx] at o0 o1 o2
     simp only at o0 o1 o2
     have HX:=hide hx
     have k0:(k:Int)<(mo:Int):=by omega
     have hkO:k<O.length:=by rw [← HMO.out];exact hkm
     have HKO:=hide hkO
     clear hx TN hkO
     cases done with
     | true =>
      go_wp2_with fail
      go_quiet (fail)
      obtain ⟨w1,hw1⟩:∃ w1,w1=wr.drewN nq:=⟨_,rfl⟩
      have HN1:=hide (HN.out.to ((Touch.refl _ _).drewN nq))
      rw [← hw1] at HN1 ⊢
      clear hw1
      obtain ⟨go',oo',hAo,_,p0,p1',p2⟩:=reads_atB (HRO.out.touch HN1.out.touch (fun _ _ f=>f)) HMO.out k hkm
      injection hAo with hAo
      injection hAo with hA1 hA2
      subst hA1 hA2
      rw [← HX.out] at p0 p1' p2
      simp only at p0 p1' p2
      go_wp2_with (first | (at_builtin;refine wpList_app _ rfl (.tmp 44) (.tmp 49) 45 rfl 98 i0 _ 3 32 Tryz.underlying45 hi hz0 hz1 hz2 rfl (by decide) (.slice A7 q c7) q _ rfl (own_touch HN1.out.own ((Touch.refl _ _).alloc _) (fun _ _ f=>f)) (some ⟨_,0,none⟩) 1 1 (MRow.cells ⟨xw,xn,xd⟩) rfl ?s1a ?s1b ?s1c ?s1d ?s1e ?_))
      case s1a=>exact Reads.new _ _ _ _ rfl
      try (case s1b=>exact fun h=>by cases h)
      case s1c=>exact List.all_eq_true.1 rfl
      case s1d=>unfold maxLen;omega
      case s1e=>omega
      intro v2 w2 hown hgrow hfr _
      have N2:=(HN1.out.to ((Touch.refl _ _).alloc _)).app hown hgrow hfr
      obtain ⟨A2,c2,rfl,_,_⟩:=own_len hown
      have HN2:=hide N2
      clear N2 hown hgrow hfr
      go_wp2
      go_roundw
      ·obtain ⟨e1,e2⟩:=nx_done ⟨mw,mn,md⟩ O k HKO.out HK.out
       have HN3:=HN2.out
       rw [HX.out,e1] at HN3
       exact ⟨q+1,k+1,true,A2,c2,by omega,rfl,rfl,by simp,by have hq:=HQ.out;simp at hq ⊢;omega,hide HN3,hide e2⟩
      ·show mo-(intOf (.int .i64 ((k:Int)+1))).toNat<mo-(intOf (.int .i64 (k:Int))).toNat
       simp [intOf]
       omega
     | false =>
      cases hb:better ⟨mw,mn,md⟩ ⟨xw,xn,xd⟩ with
      | true =>
       have HB:=hide hb
       clear hb
       go_wp2_with fail
       go_still_tail 11,(by kernel_rfl)
       change wpList _ _ _ _ _ wr.drew
       have HD:Hid (Touch (fun _=>False) wr wr.drew):=hide (Touch.refl _ _).drew
       generalize wr.drew=wd at HD ⊢
       go_wp2_with (first | (go_at_call 51;refine (rbetter_any ⟨mw,mn,md⟩ ⟨xw,xn,xd⟩ HWM.out (by rw [HX.out];exact HWO.out k HKO.out) wd).mono ?_;rintro e w1 ⟨rfl,T1⟩;have HN1:=hide (HN.out.to (HD.out.then T1));clear T1;obtain ⟨go',oo',hAo,_,p0,p1',p2⟩:=reads_atB (HRO.out.touch HN1.out.touch (fun _ _ f=>f)) HMO.out k hkm;injection hAo with hAo;injection hAo with hA1 hA2;subst hA1 hA2;rw [← HX.out] at p0 p1' p2;simp only at p0 p1' p2;obtain ⟨gl',ol',hAl,_,l0',l1',l2'⟩:=reads_atB ((HR.out.touch HTO.out (fun _ _ f=>f)).touch HN1.out.touch (fun _ _ f=>f)) HL.out.symm i hin;injection hAl with hAl;injection hAl with hA1 hA2;subst hA1 hA2;rw [← HM.out] at l0' l1' l2';simp only at l0' l1' l2';rw [HB.out]) | (at_builtin;refine wpList_app _ rfl (.tmp 37) (.tmp 42) 45 rfl 98 i0 _ 3 32 Tryz.underlying45 hi hz0 hz1 hz2 rfl (by decide) (.slice A7 q c7) q _ rfl (own_touch HN1.out.own ((Touch.refl _ _).alloc _) (fun _ _ f=>f)) (some ⟨_,0,none⟩) 1 1 (MRow.cells ⟨mw,mn,md⟩) rfl ?s3a ?s3b ?s3c ?s3d ?s3e ?_))
       case s3a=>exact Reads.new _ _ _ _ rfl
       try (case s3b=>exact fun h=>by cases h)
       case s3c=>exact List.all_eq_true.1 rfl
       case s3d=>unfold maxLen;omega
       case s3e=>omega
       intro v2 w2 hown hgrow hfr _
       have N2:=(HN1.out.to ((Touch.refl _ _).alloc _)).app hown hgrow hfr
       obtain ⟨A2,c2,rfl,_,_⟩:=own_len hown
       have HN2:=hide N2
       clear N2 hown hgrow hfr
       obtain ⟨go',oo',hAo,_,z0,z1,z2⟩:=reads_atB (HRO.out.touch HN2.out.touch (fun _ _ f=>f)) HMO.out k hkm
       injection hAo with hAo
       injection hAo with hA1 hA2
       subst hA1 hA2
       rw [← HX.out] at z0 z1 z2
       simp only at z0 z1 z2
       go_wp2_with (at_builtin;refine wpList_app _ rfl (.tmp 44) (.tmp 49) 45 rfl 98 i0 _ 3 32 Tryz.underlying45 hi hz0 hz1 hz2 rfl (by decide) (.slice A2 (q+1) c2) (q+1) _ rfl (own_touch HN2.out.own ((Touch.refl _ _).alloc _) (fun _ _ f=>f)) (some ⟨_,0,none⟩) 1 1 (MRow.cells ⟨xw,xn,xd⟩) rfl ?s4a ?s4b ?s4c ?s4d ?s4e ?_)
       case s4a=>exact Reads.new _ _ _ _ rfl
       try (case s4b=>exact fun h=>by cases h)
       case s4c=>exact List.all_eq_true.1 rfl
       case s4d=>unfold maxLen;omega
       case s4e=>omega
       intro v3 w3 hown hgrow hfr _
       have N3:=(HN2.out.to ((Touch.refl _ _).alloc _)).app hown hgrow hfr
       obtain ⟨A3,c3,rfl,_,_⟩:=own_len hown
       have HN3':=hide N3
       clear N3 hown hgrow hfr
       go_wp2
       go_roundw
       ·obtain ⟨e1,e2⟩:=nx_turn ⟨mw,mn,md⟩ O k HKO.out HK.out (by rw [← HX.out];exact HB.out)
        have HN3:=HN3'.out
        rw [HX.out,e1] at HN3
        exact ⟨q+1+1,k+1,true,A3,c3,by omega,rfl,rfl,by simp,by have hq:=HQ.out;simp at hq ⊢;omega,hide HN3,hide e2⟩
       ·show mo-(intOf (.int .i64 ((k:Int)+1))).toNat<mo-(intOf (.int .i64 (k:Int))).toNat
        simp [intOf]
        omega
      | false =>
       have HB:=hide hb
       clear hb
       go_wp2_with fail
       go_still_tail 11,(by kernel_rfl)
       change wpList _ _ _ _ _ wr.drew
       have HD:Hid (Touch (fun _=>False) wr wr.drew):=hide (Touch.refl _ _).drew
       generalize wr.drew=wd at HD ⊢
       go_wp2_with (first | (go_at_call 51;refine (rbetter_any ⟨mw,mn,md⟩ ⟨xw,xn,xd⟩ HWM.out (by rw [HX.out];exact HWO.out k HKO.out) wd).mono ?_;rintro e w1 ⟨rfl,T1⟩;have HN1:=hide (HN.out.to (HD.out.then T1));clear T1;obtain ⟨go',oo',hAo,_,p0,p1',p2⟩:=reads_atB (HRO.out.touch HN1.out.touch (fun _ _ f=>f)) HMO.out k hkm;injection hAo with hAo;injection hAo with hA1 hA2;subst hA1 hA2;rw [← HX.out] at p0 p1' p2;simp only at p0 p1' p2;obtain ⟨gl',ol',hAl,_,l0',l1',l2'⟩:=reads_atB ((HR.out.touch HTO.out (fun _ _ f=>f)).touch HN1.out.touch (fun _ _ f=>f)) HL.out.symm i hin;injection hAl with hAl;injection hAl with hA1 hA2;subst hA1 hA2;rw [← HM.out] at l0' l1' l2';simp only at l0' l1' l2';rw [HB.out]) | (at_builtin;refine wpList_app _ rfl (.tmp 44) (.tmp 49) 45 rfl 98 i0 _ 3 32 Tryz.underlying45 hi hz0 hz1 hz2 rfl (by decide) (.slice A7 q c7) q _ rfl (own_touch HN1.out.own ((Touch.refl _ _).alloc _) (fun _ _ f=>f)) (some ⟨_,0,none⟩) 1 1 (MRow.cells ⟨xw,xn,xd⟩) rfl ?s2a ?s2b ?s2c ?s2d ?s2e ?_))
       case s2a=>exact Reads.new _ _ _ _ rfl
       try (case s2b=>exact fun h=>by cases h)
       case s2c=>exact List.all_eq_true.1 rfl
       case s2d=>unfold maxLen;omega
       case s2e=>omega
       intro v2 w2 hown hgrow hfr _
       have N2:=(HN1.out.to ((Touch.refl _ _).alloc _)).app hown hgrow hfr
       obtain ⟨A2,c2,rfl,_,_⟩:=own_len hown
       have HN2:=hide N2
       clear N2 hown hgrow hfr
       go_wp2
       go_roundw
       ·obtain ⟨e1,e2⟩:=nx_no ⟨mw,mn,md⟩ O k HKO.out HK.out (by rw [← HX.out];exact HB.out)
        have HN3:=HN2.out
        rw [HX.out,e1] at HN3
        exact ⟨q+1,k+1,false,A2,c2,by omega,rfl,rfl,by simp,by have hq:=HQ.out;simp at hq ⊢;omega,hide HN3,hide e2⟩
       ·show mo-(intOf (.int .i64 ((k:Int)+1))).toNat<mo-(intOf (.int .i64 (k:Int))).toNat
        simp [intOf]
        omega
    ·have hkm':k=mo:=by omega
     have HKM:=hide hkm'
     cases done with
     | true =>
      obtain ⟨qf,hqf⟩:∃ qf,qf=q:=⟨_,rfl⟩
      rw [← hqf] at HN HQ ⊢
      have HF:Hid (Nx wo wr (.slice A7 qf c7) qf (ins ⟨mw,mn,md⟩ O)):=by
       have e:=nx_end ⟨mw,mn,md⟩ O true (by rw [← HMO.out,← HKM.out];exact HK.out)
       simp only [if_true] at e
       rw [← HMO.out,← HKM.out] at e
       rw [← e]
       exact HN
      clear hqf
      have hqf:qf=mo+1:=by have:=HQ.out;simp at this;omega
      clear hkm' TN
      obtain ⟨g,cap,hv,hcl,hcm,hg,_,_⟩:=own_form HF.out.own (by omega)
      injection hv with hA _ hc
      subst hA hc
      have hFl:=HF.out.len
      have HCM:=hide hcm
      have HQF:=hide hqf
      have hbest:bestL (L.take (i+1)) most=(ins ⟨mw,mn,md⟩ O).take most:=by rw [bestL_take L i (by rw [HL.out];exact hin),← HM.out,← HO.out]
      have HBE:=hide hbest
      have HFL:=hide hFl
      have HTT:=hide (HTO.out.then HF.out.touch)
      have HFF:Hid (∀ g',adBlock (some ⟨g,0,none⟩)=some g'→w.heap.size≤g'):=hide (fun g' h=>by have h1:=HF.out.fresh g' (by rw [← h];rfl);have h2:=HTO.out.size;omega)
      have hcmI:c7≤9223372036854775807:=by unfold maxLen at hcm;omega
      clear hFl hbest hcm
      by_cases hbig:most<qf
      ·have z0:decide ((64:Int)<(qf:Int))=true:=by simp;omega
       have z1:(64:Int)≤(c7:Int):=by omega
       have z2:most≤c7:=by omega
       clear hqf
       go_wp2
       go_roundw
       ·have hr:=(Reads.of_own HF.out.own).take (k:=most) (by omega)
        rw [mCells_take] at hr
        refine ⟨i+1,some ⟨g,0,none⟩,most,c7,by omega,(by first | rfl | (congr 1;omega)),by simp,hm64,z2,HCM,hide ?_,hide ?_,HTT,HFF⟩
        ·rw [HBE.out,List.length_take,HFL.out];omega
        ·rw [HBE.out];exact hr
       ·show n-(intOf (.int .i64 ((i:Int)+1))).toNat<n-(intOf (.int .i64 (i:Int))).toNat
        simp [intOf]
        omega
      ·have z0:decide ((64:Int)<(qf:Int))=false:=by simp;omega
       have hq64:qf≤64:=by omega
       clear hqf
       go_wp2
       go_roundw
       ·have hr:=Reads.of_own HF.out.own
        refine ⟨i+1,_,qf,c7,by omega,rfl,by simp,hq64,hcl,HCM,hide ?_,hide ?_,HTT,HFF⟩
        ·rw [HBE.out,List.take_of_length_le (by rw [HFL.out];omega),HFL.out]
        ·rw [HBE.out,List.take_of_length_le (by rw [HFL.out];omega)];exact hr
       ·show n-(intOf (.int .i64 ((i:Int)+1))).toNat<n-(intOf (.int .i64 (i:Int))).toNat
        simp [intOf]
        omega
     | false =>
      clear hkm' TN
      have HN1:=HN
      go_wp2_with (first | (at_builtin;refine wpList_app _ rfl (.tmp 53) (.tmp 58) 45 rfl 98 i0 _ 3 32 Tryz.underlying45 hi hz0 hz1 hz2 rfl (by decide) (.slice A7 q c7) q _ rfl (own_touch HN1.out.own ((Touch.refl _ _).alloc _) (fun _ _ f=>f)) (some ⟨_,0,none⟩) 1 1 (MRow.cells ⟨mw,mn,md⟩) rfl ?s5a ?s5b ?s5c ?s5d ?s5e ?_))
      case s5a=>exact Reads.new _ _ _ _ rfl
      try (case s5b=>exact fun h=>by cases h)
      case s5c=>exact List.all_eq_true.1 rfl
      case s5d=>unfold maxLen;omega
      case s5e=>omega
      intro v2 w2 hown hgrow hfr _
      have N2:=(HN1.out.to ((Touch.refl _ _).alloc _)).app hown hgrow hfr
      obtain ⟨A2,c2,rfl,_,_⟩:=own_len hown
      have HN2:=hide N2
      clear N2 hown hgrow hfr
      obtain ⟨qf,hqf'⟩:∃ qf,qf=q+1:=⟨_,rfl⟩
      rw [← hqf'] at HN2 ⊢
      have hqf:qf=mo+1:=by have:=HQ.out;have:=HKM.out;simp at *;omega
      have HF:Hid (Nx wo w2 (.slice A2 qf c2) qf (ins ⟨mw,mn,md⟩ O)):=by
       have e:=nx_end ⟨mw,mn,md⟩ O false (by rw [← HMO.out,← HKM.out];exact HK.out)
       simp only [Bool.false_eq_true,if_false] at e
       rw [← HMO.out,← HKM.out] at e
       rw [← e]
       exact HN2
      clear hqf'
      obtain ⟨g,cap,hv,hcl,hcm,hg,_,_⟩:=own_form HF.out.own (by omega)
      injection hv with hA _ hc
      subst hA hc
      have hFl:=HF.out.len
      have HCM:=hide hcm
      have HQF:=hide hqf
      have hbest:bestL (L.take (i+1)) most=(ins ⟨mw,mn,md⟩ O).take most:=by rw [bestL_take L i (by rw [HL.out];exact hin),← HM.out,← HO.out]
      have HBE:=hide hbest
      have HFL:=hide hFl
      have HTT:=hide (HTO.out.then HF.out.touch)
      have HFF:Hid (∀ g',adBlock (some ⟨g,0,none⟩)=some g'→w.heap.size≤g'):=hide (fun g' h=>by have h1:=HF.out.fresh g' (by rw [← h];rfl);have h2:=HTO.out.size;omega)
      have hcmI:c2≤9223372036854775807:=by unfold maxLen at hcm;omega
      clear hFl hbest hcm
      by_cases hbig:most<qf
      ·have z0:decide ((64:Int)<(qf:Int))=true:=by simp;omega
       have z1:(64:Int)≤(c2:Int):=by omega
       have z2:most≤c2:=by omega
       clear hqf
       go_wp2
       go_roundw
       ·have hr:=(Reads.of_own HF.out.own).take (k:=most) (by omega)
        rw [mCells_take] at hr
        refine ⟨i+1,some ⟨g,0,none⟩,most,c2,by omega,(by first | rfl | (congr 1;omega)),by simp,hm64,z2,HCM,hide ?_,hide ?_,HTT,HFF⟩
        ·rw [HBE.out,List.length_take,HFL.out];omega
        ·rw [HBE.out];exact hr
       ·show n-(intOf (.int .i64 ((i:Int)+1))).toNat<n-(intOf (.int .i64 (i:Int))).toNat
        simp [intOf]
        omega
      ·have z0:decide ((64:Int)<(qf:Int))=false:=by simp;omega
       have hq64:qf≤64:=by omega
       clear hqf
       go_wp2
       go_roundw
       ·have hr:=Reads.of_own HF.out.own
        refine ⟨i+1,_,qf,c2,by omega,rfl,by simp,hq64,hcl,HCM,hide ?_,hide ?_,HTT,HFF⟩
        ·rw [HBE.out,List.take_of_length_le (by rw [HFL.out];omega),HFL.out]
        ·rw [HBE.out,List.take_of_length_le (by rw [HFL.out];omega)];exact hr
       ·show n-(intOf (.int .i64 ((i:Int)+1))).toNat<n-(intOf (.int .i64 (i:Int))).toNat
        simp [intOf]
        omega
  ·have hieq:i=n:=by omega
   have e:L.take i=L:=List.take_of_length_le (by rw [HL.out];omega)
   rw [e] at HMO' HRO'
   clear e
   subst hieq
   go_wp2
   go_ret
   exact ⟨_,_,_,HMO'.out,hmc,HCO.out,rfl,HRO'.out,HTO.out,HFO.out⟩
set_option maxRecDepth 100000 in
set_option maxHeartbeats 2000000 in
theorem rbest_neg (w:World) (A:Option Addr) (n c:Nat) (L:List MRow) (hL:L.length=n) (hR:Reads w 3 A n (mCells L)) (hn:n≤maxLen) (hW:∀ r∈L,r.WfB) (kk:Int) (hkk:kk<0) (most:Nat) (hmost:most=0) :
  Calls Tryz.prog 67 #[.slice A n c,.int .i64 kk] w (RbPost w L most):=by
 unfold maxLen at hn
 have HR:=hide hR
 have HL:=hide hL
 have HW:=hide hW
 obtain ⟨i0,hi,hz0,hz1,hz2⟩:=info_parts infoMatch
 clear hR hL hW
 have hm64:most≤64:=by omega
 go_enter Tryz.func67,Tryz.ntmps67
 go_wp2
 go_loopw [5,6] (fun out iv wr=>∃ (i:Nat) (Ao:Option Addr) (mo co:Nat),i≤n∧out=.slice Ao mo co∧iv=.int .i64 i∧mo≤64∧mo≤co∧Hid (co≤maxLen)∧Hid (mo=(bestL (L.take i) most).length)∧Hid (Reads wr 3 Ao mo (mCells (bestL (L.take i) most)))∧Hid (Touch (fun _=>False) w wr)∧Hid (∀ g,adBlock Ao=some g→w.heap.size≤g)) (fun _ iv _=>n-(intOf iv).toNat)
 case atStart =>
  have e:bestL (L.take 0) most=[]:=by simp [bestL,sortL]
  refine ⟨0,none,0,0,Nat.zero_le _,rfl,rfl,by omega,Nat.le_refl _,hide (by unfold maxLen;omega),hide ?_,hide ?_,hide (Touch.refl _ _),hide (fun g h=>by simp [adBlock] at h)⟩
  ·rw [e];rfl
  ·rw [e];exact Reads.nil _ _ _
 case round =>
  obtain ⟨i,Ao,mo,co,hin',rfl,rfl,hmo,hmc,HCO,HMO',HRO',HTO,HFO⟩:=hrel
  by_cases hin:i<n
  ·obtain ⟨O,hO⟩:∃ O,O=bestL (L.take i) most:=⟨_,rfl⟩
   have HMO:Hid (mo=O.length):=by rw [hO];exact HMO'
   have HRO:Hid (Reads wr 3 Ao mo (mCells O)):=by rw [hO];exact HRO'
   have HO:=hide hO
   obtain ⟨⟨mw,mn,md⟩,hm⟩:∃ x,x=L.getD i MRow.zero:=⟨_,rfl⟩
   have HM:=hide hm
   have n0:(i:Int)<(n:Int):=by omega
   have HWM:Hid (MRow.WfB ⟨mw,mn,md⟩):=hide (by rw [hm];exact HW.out _ (getD_memB L i (by rw [HL.out];exact hin)))
   have HWO:Hid (∀ k,k<O.length→(O.getD k MRow.zero).WfB):=hide (fun k hk=>HW.out _ (bestL_mem (by rw [← hO];exact getD_memB O k hk)))
   clear hO hm HMO' HRO'
   go_wp2
   obtain ⟨wo,rfl⟩:∃ wo:World,wo=wr:=⟨_,rfl⟩
   go_loopw [7,8,9] (fun nx dn j wr=>∃ (q k:Nat) (done:Bool) (A7:Option Addr) (c7:Nat),k≤mo∧nx=.slice A7 q c7∧dn=.bool done∧j=.int .i64 k∧q=k+done.toNat∧Hid (Nx wo wr (.slice A7 q c7) q (NxL ⟨mw,mn,md⟩ O k done))∧Hid (NxOk ⟨mw,mn,md⟩ O k done)) (fun _ _ j _=>mo-(intOf j).toNat)
   case atStart =>
    refine ⟨0,0,false,none,0,Nat.zero_le _,rfl,rfl,rfl,rfl,hide ⟨World.ownsRow_nil _ _ _ _,rfl,Touch.refl _ _,?_⟩,hide ?_⟩
    ·intro g e;simp [Value.ownBlock] at e
    ·intro y hy;simp at hy
   case round =>
    obtain ⟨q,k,done,A7,c7,hk,rfl,rfl,rfl,hq,HN,HK⟩:=hrel
    have hq1:q≤65:=by cases done<;>simp at hq<;>omega
    have HQ:=hide hq
    clear hq
    have TN:=HN.out.touch
    have TNH:=hide (HTO.out.then TN)
    obtain ⟨gl,ol,hAl,_,l0,l1,l2⟩:=reads_atB ((HR.out.touch HTO.out (fun _ _ f=>f)).touch TN (fun _ _ f=>f)) HL.out.symm i hin
    subst hAl
    rw [← HM.out] at l0 l1 l2
    simp only at l0 l1 l2
    by_cases hkm:k<mo
    ·obtain ⟨go,oo,hAo,_,o0,o1,o2⟩:=reads_atB (HRO.out.touch TN (fun _ _ f=>f)) HMO.out k hkm
     subst hAo
     obtain ⟨⟨xw,xn,xd⟩,hx⟩:∃ x,x=O.getD k MRow.zero:=⟨_,rfl⟩
     rw [← hx] at o0 o1 o2
     simp only at o0 o1 o2
     have HX:=hide hx
     have k0:(k:Int)<(mo:Int):=by omega
     have hkO:k<O.length:=by rw [← HMO.out];exact hkm
     have HKO:=hide hkO
     clear hx TN hkO
     cases done with
     | true =>
      go_wp2_with fail
      go_quiet (fail)
      obtain ⟨w1,hw1⟩:∃ w1,w1=wr.drewN nq:=⟨_,rfl⟩
      have HN1:=hide (HN.out.to ((Touch.refl _ _).drewN nq))
      rw [← hw1] at HN1 ⊢
      clear hw1
      obtain ⟨go',oo',hAo,_,p0,p1',p2⟩:=reads_atB (HRO.out.touch HN1.out.touch (fun _ _ f=>f)) HMO.out k hkm
      injection hAo with hAo
      injection hAo with hA1 hA2
      subst hA1 hA2
      rw [← HX.out] at p0 p1' p2
      simp only at p0 p1' p2
      go_wp2_with (first | (at_builtin;refine wpList_app _ rfl (.tmp 44) (.tmp 49) 45 rfl 98 i0 _ 3 32 Tryz.underlying45 hi hz0 hz1 hz2 rfl (by decide) (.slice A7 q c7) q _ rfl (own_touch HN1.out.own ((Touch.refl _ _).alloc _) (fun _ _ f=>f)) (some ⟨_,0,none⟩) 1 1 (MRow.cells ⟨xw,xn,xd⟩) rfl ?s1a ?s1b ?s1c ?s1d ?s1e ?_))
      case s1a=>exact Reads.new _ _ _ _ rfl
      try (case s1b=>exact fun h=>by cases h)
      case s1c=>exact List.all_eq_true.1 rfl
      case s1d=>unfold maxLen;omega
      case s1e=>omega
      intro v2 w2 hown hgrow hfr _
      have N2:=(HN1.out.to ((Touch.refl _ _).alloc _)).app hown hgrow hfr
      obtain ⟨A2,c2,rfl,_,_⟩:=own_len hown
      have HN2:=hide N2
      clear N2 hown hgrow hfr
      go_wp2
      go_roundw
      ·obtain ⟨e1,e2⟩:=nx_done ⟨mw,mn,md⟩ O k HKO.out HK.out
       have HN3:=HN2.out
       rw [HX.out,e1] at HN3
       exact ⟨q+1,k+1,true,A2,c2,by omega,rfl,rfl,by simp,by have hq:=HQ.out;simp at hq ⊢;omega,hide HN3,hide e2⟩
      ·show mo-(intOf (.int .i64 ((k:Int)+1))).toNat<mo-(intOf (.int .i64 (k:Int))).toNat
       simp [intOf]
       omega
     | false =>
      cases hb:better ⟨mw,mn,md⟩ ⟨xw,xn,xd⟩ with
      | true =>
       have HB:=hide hb
       clear hb
       go_wp2_with fail
       go_still_tail 11,(by kernel_rfl)
       change wpList _ _ _ _ _ wr.drew
       have HD:Hid (Touch (fun _=>False) wr wr.drew):=hide (Touch.refl _ _).drew
       generalize wr.drew=wd at HD ⊢
       go_wp2_with (first | (go_at_call 51;refine (rbetter_any ⟨mw,mn,md⟩ ⟨xw,xn,xd⟩ HWM.out (by rw [HX.out];exact HWO.out k HKO.out) wd).mono ?_;rintro e w1 ⟨rfl,T1⟩;have HN1:=hide (HN.out.to (HD.out.then T1));clear T1;obtain ⟨go',oo',hAo,_,p0,p1',p2⟩:=reads_atB (HRO.out.touch HN1.out.touch (fun _ _ f=>f)) HMO.out k hkm;injection hAo with hAo;injection hAo with hA1 hA2;subst hA1 hA2;rw [← HX.out] at p0 p1' p2;simp only at p0 p1' p2;obtain ⟨gl',ol',hAl,_,l0',l1',l2'⟩:=reads_atB ((HR.out.touch HTO.out (fun _ _ f=>f)).touch HN1.out.touch (fun _ _ f=>f)) HL.out.symm i hin;injection hAl with hAl;injection hAl with hA1 hA2;subst hA1 hA2;rw [← HM.out] at l0' l1' l2';simp only at l0' l1' l2';rw [HB.out]) | (at_builtin;refine wpList_app _ rfl (.tmp 37) (.tmp 42) 45 rfl 98 i0 _ 3 32 Tryz.underlying45 hi hz0 hz1 hz2 rfl (by decide) (.slice A7 q c7) q _ rfl (own_touch HN1.out.own ((Touch.refl _ _).alloc _) (fun _ _ f=>f)) (some ⟨_,0,none⟩) 1 1 (MRow.cells ⟨mw,mn,md⟩) rfl ?s3a ?s3b ?s3c ?s3d ?s3e ?_))
       case s3a=>exact Reads.new _ _ _ _ rfl
       try (case s3b=>exact fun h=>by cases h)
       case s3c=>exact List.all_eq_true.1 rfl
       case s3d=>unfold maxLen;omega
       case s3e=>omega
       intro v2 w2 hown hgrow hfr _
       have N2:=(HN1.out.to ((Touch.refl _ _).alloc _)).app hown hgrow hfr
       obtain ⟨A2,c2,rfl,_,_⟩:=own_len hown
       have HN2:=hide N2
       clear N2 hown hgrow hfr
       obtain ⟨go',oo',hAo,_,z0,z1,z2⟩:=reads_atB (HRO.out.touch HN2.out.touch (fun _ _ f=>f)) HMO.out k hkm
       injection hAo with hAo
       injection hAo with hA1 hA2
       subst hA1 hA2
       rw [← HX.out] at z0 z1 z2
       simp only at z0 z1 z2
       go_wp2_with (at_builtin;refine wpList_app _ rfl (.tmp 44) (.tmp 49) 45 rfl 98 i0 _ 3 32 Tryz.underlying45 hi hz0 hz1 hz2 rfl (by decide) (.slice A2 (q+1) c2) (q+1) _ rfl (own_touch HN2.out.own ((Touch.refl _ _).alloc _) (fun _ _ f=>f)) (some ⟨_,0,none⟩) 1 1 (MRow.cells ⟨xw,xn,xd⟩) rfl ?s4a ?s4b ?s4c ?s4d ?s4e ?_)
       case s4a=>exact Reads.new _ _ _ _ rfl
       try (case s4b=>exact fun h=>by cases h)
       case s4c=>exact List.all_eq_true.1 rfl
       case s4d=>unfold maxLen;omega
       case s4e=>omega
       intro v3 w3 hown hgrow hfr _
       have N3:=(HN2.out.to ((Touch.refl _ _).alloc _)).app hown hgrow hfr
       obtain ⟨A3,c3,rfl,_,_⟩:=own_len hown
       have HN3':=hide N3
       clear N3 hown hgrow hfr
       go_wp2
       go_roundw
       ·obtain ⟨e1,e2⟩:=nx_turn ⟨mw,mn,md⟩ O k HKO.out HK.out (by rw [← HX.out];exact HB.out)
        have HN3:=HN3'.out
        rw [HX.out,e1] at HN3
        exact ⟨q+1+1,k+1,true,A3,c3,by omega,rfl,rfl,by simp,by have hq:=HQ.out;simp at hq ⊢;omega,hide HN3,hide e2⟩
       ·show mo-(intOf (.int .i64 ((k:Int)+1))).toNat<mo-(intOf (.int .i64 (k:Int))).toNat
        simp [intOf]
        omega
      | false =>
       have HB:=hide hb
       clear hb
       go_wp2_with fail
       go_still_tail 11,(by kernel_rfl)
       change wpList _ _ _ _ _ wr.drew
       have HD:Hid (Touch (fun _=>False) wr wr.drew):=hide (Touch.refl _ _).drew
       generalize wr.drew=wd at HD ⊢
       go_wp2_with (first | (go_at_call 51;refine (rbetter_any ⟨mw,mn,md⟩ ⟨xw,xn,xd⟩ HWM.out (by rw [HX.out];exact HWO.out k HKO.out) wd).mono ?_;rintro e w1 ⟨rfl,T1⟩;have HN1:=hide (HN.out.to (HD.out.then T1));clear T1;obtain ⟨go',oo',hAo,_,p0,p1',p2⟩:=reads_atB (HRO.out.touch HN1.out.touch (fun _ _ f=>f)) HMO.out k hkm;injection hAo with hAo;injection hAo with hA1 hA2;subst hA1 hA2;rw [← HX.out] at p0 p1' p2;simp only at p0 p1' p2;obtain ⟨gl',ol',hAl,_,l0',l1',l2'⟩:=reads_atB ((HR.out.touch HTO.out (fun _ _ f=>f)).touch HN1.out.touch (fun _ _ f=>f)) HL.out.symm i hin;injection hAl with hAl;injection hAl with hA1 hA2;subst hA1 hA2;rw [← HM.out] at l0' l1' l2';simp only at l0' l1' l2';rw [HB.out]) | (at_builtin;refine wpList_app _ rfl (.tmp 44) (.tmp 49) 45 rfl 98 i0 _ 3 32 Tryz.underlying45 hi hz0 hz1 hz2 rfl (by decide) (.slice A7 q c7) q _ rfl (own_touch HN1.out.own ((Touch.refl _ _).alloc _) (fun _ _ f=>f)) (some ⟨_,0,none⟩) 1 1 (MRow.cells ⟨xw,xn,xd⟩) rfl ?s2a ?s2b ?s2c ?s2d ?s2e ?_))
       case s2a=>exact Reads.new _ _ _ _ rfl
       try (case s2b=>exact fun h=>by cases h)
       case s2c=>exact List.all_eq_true.1 rfl
       case s2d=>unfold maxLen;omega
       case s2e=>omega
       intro v2 w2 hown hgrow hfr _
       have N2:=(HN1.out.to ((Touch.refl _ _).alloc _)).app hown hgrow hfr
       obtain ⟨A2,c2,rfl,_,_⟩:=own_len hown
       have HN2:=hide N2
       clear N2 hown hgrow hfr
       go_wp2
       go_roundw
       ·obtain ⟨e1,e2⟩:=nx_no ⟨mw,mn,md⟩ O k HKO.out HK.out (by rw [← HX.out];exact HB.out)
        have HN3:=HN2.out
        rw [HX.out,e1] at HN3
        exact ⟨q+1,k+1,false,A2,c2,by omega,rfl,rfl,by simp,by have hq:=HQ.out;simp at hq ⊢;omega,hide HN3,hide e2⟩
       ·show mo-(intOf (.int .i64 ((k:Int)+1))).toNat<mo-(intOf (.int .i64 (k:Int))).toNat
        simp [intOf]
        omega
    ·have hkm':k=mo:=by omega
     have HKM:=hide hkm'
     cases done with
     | true =>
      obtain ⟨qf,hqf⟩:∃ qf,qf=q:=⟨_,rfl⟩
      rw [← hqf] at HN HQ ⊢
      have HF:Hid (Nx wo wr (.slice A7 qf c7) qf (ins ⟨mw,mn,md⟩ O)):=by
       have e:=nx_end ⟨mw,mn,md⟩ O true (by rw [← HMO.out,← HKM.out];exact HK.out)
       simp only [if_true] at e
       rw [← HMO.out,← HKM.out] at e
       rw [← e]
       exact HN
      clear hqf
      have hqf:qf=mo+1:=by have:=HQ.out;simp at this;omega
      clear hkm' TN
      obtain ⟨g,cap,hv,hcl,hcm,hg,_,_⟩:=own_form HF.out.own (by omega)
      injection hv with hA _ hc
      subst hA hc
      have hFl:=HF.out.len
      have HCM:=hide hcm
      have HQF:=hide hqf
      have hbest:bestL (L.take (i+1)) most=(ins ⟨mw,mn,md⟩ O).take most:=by rw [bestL_take L i (by rw [HL.out];exact hin),← HM.out,← HO.out]
      have HBE:=hide hbest
      have HFL:=hide hFl
      have HTT:=hide (HTO.out.then HF.out.touch)
      have HFF:Hid (∀ g',adBlock (some ⟨g,0,none⟩)=some g'→w.heap.size≤g'):=hide (fun g' h=>by have h1:=HF.out.fresh g' (by rw [← h];rfl);have h2:=HTO.out.size;omega)
      have hcmI:c7≤9223372036854775807:=by unfold maxLen at hcm;omega
      clear hFl hbest hcm
      by_cases hbig:most<qf
      ·have z0:decide ((0:Int)<(qf:Int))=true:=by simp;omega
       have z1:(0:Int)≤(c7:Int):=by omega
       have z2:most≤c7:=by omega
       clear hqf
       go_wp2
       go_roundw
       ·have hr:=(Reads.of_own HF.out.own).take (k:=most) (by omega)
        rw [mCells_take] at hr
        refine ⟨i+1,some ⟨g,0,none⟩,most,c7,by omega,(by first | rfl | (congr 1;omega)),by simp,hm64,z2,HCM,hide ?_,hide ?_,HTT,HFF⟩
        ·rw [HBE.out,List.length_take,HFL.out];omega
        ·rw [HBE.out];exact hr
       ·show n-(intOf (.int .i64 ((i:Int)+1))).toNat<n-(intOf (.int .i64 (i:Int))).toNat
        simp [intOf]
        omega
      ·have z0:decide ((0:Int)<(qf:Int))=false:=by simp;omega
       have hq64:qf≤64:=by omega
       clear hqf
       go_wp2
       go_roundw
       ·have hr:=Reads.of_own HF.out.own
        refine ⟨i+1,_,qf,c7,by omega,rfl,by simp,hq64,hcl,HCM,hide ?_,hide ?_,HTT,HFF⟩
        ·rw [HBE.out,List.take_of_length_le (by rw [HFL.out];omega),HFL.out]
        ·rw [HBE.out,List.take_of_length_le (by rw [HFL.out];omega)];exact hr
       ·show n-(intOf (.int .i64 ((i:Int)+1))).toNat<n-(intOf (.int .i64 (i:Int))).toNat
        simp [intOf]
        omega
     | false =>
      clear hkm' TN
      have HN1:=HN
      go_wp2_with (first | (at_builtin;refine wpList_app _ rfl (.tmp 53) (.tmp 58) 45 rfl 98 i0 _ 3 32 Tryz.underlying45 hi hz0 hz1 hz2 rfl (by decide) (.slice A7 q c7) q _ rfl (own_touch HN1.out.own ((Touch.refl _ _).alloc _) (fun _ _ f=>f)) (some ⟨_,0,none⟩) 1 1 (MRow.cells ⟨mw,mn,md⟩) rfl ?s5a ?s5b ?s5c ?s5d ?s5e ?_))
      case s5a=>exact Reads.new _ _ _ _ rfl
      try (case s5b=>exact fun h=>by cases h)
      case s5c=>exact List.all_eq_true.1 rfl
      case s5d=>unfold maxLen;omega
      case s5e=>omega
      intro v2 w2 hown hgrow hfr _
      have N2:=(HN1.out.to ((Touch.refl _ _).alloc _)).app hown hgrow hfr
      obtain ⟨A2,c2,rfl,_,_⟩:=own_len hown
      have HN2:=hide N2
      clear N2 hown hgrow hfr
      obtain ⟨qf,hqf'⟩:∃ qf,qf=q+1:=⟨_,rfl⟩
      rw [← hqf'] at HN2 ⊢
      have hqf:qf=mo+1:=by have:=HQ.out;have:=HKM.out;simp at *;omega
      have HF:Hid (Nx wo w2 (.slice A2 qf c2) qf (ins ⟨mw,mn,md⟩ O)):=by
       have e:=nx_end ⟨mw,mn,md⟩ O false (by rw [← HMO.out,← HKM.out];exact HK.out)
       simp only [Bool.false_eq_true,if_false] at e
       rw [← HMO.out,← HKM.out] at e
       rw [← e]
       exact HN2
      clear hqf'
      obtain ⟨g,cap,hv,hcl,hcm,hg,_,_⟩:=own_form HF.out.own (by omega)
      injection hv with hA _ hc
      subst hA hc
      have hFl:=HF.out.len
      have HCM:=hide hcm
      have HQF:=hide hqf
      have hbest:bestL (L.take (i+1)) most=(ins ⟨mw,mn,md⟩ O).take most:=by rw [bestL_take L i (by rw [HL.out];exact hin),← HM.out,← HO.out]
      have HBE:=hide hbest
      have HFL:=hide hFl
      have HTT:=hide (HTO.out.then HF.out.touch)
      have HFF:Hid (∀ g',adBlock (some ⟨g,0,none⟩)=some g'→w.heap.size≤g'):=hide (fun g' h=>by have h1:=HF.out.fresh g' (by rw [← h];rfl);have h2:=HTO.out.size;omega)
      have hcmI:c2≤9223372036854775807:=by unfold maxLen at hcm;omega
      clear hFl hbest hcm
      by_cases hbig:most<qf
      ·have z0:decide ((0:Int)<(qf:Int))=true:=by simp;omega
       have z1:(0:Int)≤(c2:Int):=by omega
       have z2:most≤c2:=by omega
       clear hqf
       go_wp2
       go_roundw
       ·have hr:=(Reads.of_own HF.out.own).take (k:=most) (by omega)
        rw [mCells_take] at hr
        refine ⟨i+1,some ⟨g,0,none⟩,most,c2,by omega,(by first | rfl | (congr 1;omega)),by simp,hm64,z2,HCM,hide ?_,hide ?_,HTT,HFF⟩
        ·rw [HBE.out,List.length_take,HFL.out];omega
        ·rw [HBE.out];exact hr
       ·show n-(intOf (.int .i64 ((i:Int)+1))).toNat<n-(intOf (.int .i64 (i:Int))).toNat
        simp [intOf]
        omega
      ·have z0:decide ((0:Int)<(qf:Int))=false:=by simp;omega
       have hq64:qf≤64:=by omega
       clear hqf
       go_wp2
       go_roundw
       ·have hr:=Reads.of_own HF.out.own
        refine ⟨i+1,_,qf,c2,by omega,rfl,by simp,hq64,hcl,HCM,hide ?_,hide ?_,HTT,HFF⟩
        ·rw [HBE.out,List.take_of_length_le (by rw [HFL.out];omega),HFL.out]
        ·rw [HBE.out,List.take_of_length_le (by rw [HFL.out];omega)];exact hr
       ·show n-(intOf (.int .i64 ((i:Int)+1))).toNat<n-(intOf (.int .i64 (i:Int))).toNat
        simp [intOf]
        omega
  ·have hieq:i=n:=by omega
   have e:L.take i=L:=List.take_of_length_le (by rw [HL.out];omega)
   rw [e] at HMO' HRO'
   clear e
   subst hieq
   go_wp2
   go_ret
   exact ⟨_,_,_,HMO'.out,hmc,HCO.out,rfl,HRO'.out,HTO.out,HFO.out⟩
end Go.Proofs.YtbijfoeaemceiaaGreatDoor
