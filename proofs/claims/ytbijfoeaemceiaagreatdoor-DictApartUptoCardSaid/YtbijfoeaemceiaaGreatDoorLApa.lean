/- Law 14: the walk of DictApart. Conditions: the arguments can be read; no word has more than 2^40 bytes. -/
import Derived.Test.YtbijfoeaemceiaaGreatDoorA45
import Derived.Deep.CutRange
import Derived.Deep.DeepCutAuto
namespace Go.Proofs.YtbijfoeaemceiaaGreatDoor
open Go.RowKit
set_option linter.unusedSectionVars false
set_option linter.unusedSimpArgs false
set_option linter.unusedVariables false
def oddP (T : List OpD) (i : Nat) : List OpD := ((List.range i).filter (fun j => decide (j % 2 = 1))).map (fun j => T.getD j OpD.zero)
theorem oddP_succ (T : List OpD) (i : Nat) : oddP T (i + 1) = if i % 2 = 1 then oddP T i ++ [T.getD i OpD.zero] else oddP T i := by
  unfold oddP
  rw [List.range_succ, List.filter_append, List.map_append]
  split
  · rename_i h; simp [h]
  · rename_i h; simp [h]
set_option maxRecDepth 100000 in
set_option maxHeartbeats 4000000 in
theorem dapart_walk (W : World) (hL : Lst W) (s : SL) (hs : s.Ok W) (hWz : ∀ r ∈ s.L, r.word.size ≤ 1099511627776) (hn : s.n ≤ maxLen) (A : Option Addr) (n c : Nat) (T : List OpD) (hT : T.length = n) (hR : Reads W 3 A n (oCells T)) (hWo : ∀ o ∈ T, o.Wf) (hm : n ≤ maxLen)
    (A' : Option Addr) (n' c' : Nat) (T' : List OpD) (hT' : T'.length = n') (hR' : Reads W 3 A' n' (oCells T')) (hWo' : ∀ o ∈ T', o.Wf) (hm' : n' ≤ maxLen) :
    Calls Tryz.prog 11 #[s.val, .slice A n c, .slice A' n' c'] W fun e W' => e = .returned (.bool true) ∧ Below W.heap.size W W' := by
  have HBG := hide (begun_any W hL s hs hWz hn A n c T hT hR hWo hm)
  have HL := hide hL
  have HTL := hide hT'
  have HRD := hide hR'
  have HWO := hide hWo'
  obtain ⟨sA, sn, sc, sL⟩ := s
  simp only [SL.val] at HBG ⊢
  clear hL hs hWz hn hT hR hWo hm hT' hR' hWo'
  unfold maxLen at hm'
  go_enter Tryz.func11, Tryz.ntmps11
  go_wp2_with fail
  refine HBG.out.mono ?_
  rintro e w1 (⟨rfl, T1⟩ | ⟨d, s1, q, rfl, hd, hr, hdl, T1, hT4, hl3⟩)
  · have HT1 := hide T1
    have HAL := hide (alive14_any w1 (Lst.touch HL.out T1))
    clear T1 HBG
    go_wp2_with fail
    refine HAL.out.mono ?_
    rintro e w2 ⟨rfl, T2⟩
    have HT2 := hide (HT1.out.then T2)
    clear T2
    go_wp2_with fail
    go_ret
    exact ⟨by simp, HT2.out.below (Nat.le_refl _) (fun _ _ f => f)⟩
  · have HT1 := hide T1
    obtain ⟨L2, hL2⟩ : ∃ L2, L2 = runP T sL := ⟨_, rfl⟩
    rw [← hL2] at hd hr
    have HD := hide hd
    have HR := hide hr
    have HDL := hide hdl
    clear T1 HBG hd hr hdl hT4 hl3 hL2
    by_cases hbig : 400 < n'
    · have k1 : (400 : Int) < (n' : Int) := by omega
      have HAL := hide (alive14_any w1 (Lst.touch HL.out HT1.out))
      clear hm' hbig
      go_wp2_with fail
      refine HAL.out.mono ?_
      rintro e w2 ⟨rfl, T2⟩
      have HT2 := hide (HT1.out.then T2)
      clear T2
      go_wp2_with fail
      go_ret
      exact ⟨by simp, HT2.out.below (Nat.le_refl _) (fun _ _ f => f)⟩
    · have k1 : ¬ (400 : Int) < (n' : Int) := by omega
      have hnI : (n' : Int) ≤ 400 := by omega
      have HCN := hide (dclone_any w1 HD.out)
      clear hm' hbig
      go_wp2_with fail
      refine HCN.out.mono ?_
      rintro e w2 ⟨d2, rfl, hd2, hd2l, T2⟩
      have HT2 := hide (HT1.out.then T2)
      have HD1 := hide (HD.out.quiet T2)
      have HR1 := hide (HR.out.quiet T2)
      have HE1 := hide hd2
      have HEL : Hid (W.heap.size ≤ d2) := hide (Nat.le_trans HT1.out.size hd2l)
      have HNE : Hid (d ≠ d2) := hide (by have := HD.out.ty.lt; omega)
      clear T2 hd2 hd2l HCN
      go_wp2_with fail
      go_loopw [8, 11, 47] (fun mv nv iv wr => ∃ (i q1 q2 : Nat) (sm sn' : SL), iv = .int .i64 i ∧ mv = sm.val ∧ nv = sn'.val ∧ i ≤ n' ∧ Hid (DctM wr d (runP (oddP T' i) L2) q1) ∧ Hid (DctM wr d2 (runP (T'.take i) L2) q2) ∧ Hid (RfL W.heap.size wr sm (runP (oddP T' i) L2)) ∧ Hid (RfL W.heap.size wr sn' (runP (T'.take i) L2)) ∧ Hid (Touch (fun _ => False) W wr)) (fun _ _ iv _ => n' - (intOf iv).toNat)
      case atStart => exact ⟨0, q, q, s1, s1, rfl, rfl, rfl, Nat.zero_le _, HD1, HE1, HR1, HR1, HT2⟩
      case round =>
        obtain ⟨i, q1, q2, sm, sn', rfl, rfl, rfl, hin', HDr, HEr, HMr, HNr, HTr⟩ := hrel
        by_cases hin : i < n'
        · have y0 : (i : Int) < (n' : Int) := by omega
          have y1 : (0 : Int) ≤ (i : Int) := by omega
          have y2 : IntKind.i64.wrap ((i : Int) + 1) = (i : Int) + 1 := IntWalk.i64_in _ (by omega)
          obtain ⟨gl, ol, hAl, hgl, l0, l1, l2⟩ := op_at (HRD.out.touch HTr.out (fun _ _ f => f)) HTL.out.symm i hin
          subst hAl
          have hts := otake_succ T' i (by rw [HTL.out]; exact hin)
          have hwf : (T'.getD i OpD.zero).Wf := HWO.out _ (by
            have hl : i < T'.length := by rw [HTL.out]; exact hin
            have e2 : T'.getD i OpD.zero = T'[i] := by simp [List.getD, hl]
            rw [e2]; exact List.getElem_mem _)
          have hod := oddP_succ T' i
          obtain ⟨⟨kd, kw, kn⟩, ho⟩ : ∃ o, o = T'.getD i OpD.zero := ⟨_, rfl⟩
          rw [← ho] at l0 l1 l2 hts hwf hod
          simp only at l0 l1 l2
          have hrun := runP_snoc (T'.take i) ⟨kd, kw, kn⟩ L2
          rw [← hts] at hrun
          have HRUN := hide hrun
          have HOD := hide hod
          have HWF := hide hwf
          obtain ⟨wo, hwo⟩ : ∃ y, y = wr.alloc (.cells #[.int .i64 kd, .string kw, .int .i64 kn] 56) := ⟨_, rfl⟩
          obtain ⟨bo, hbo⟩ : ∃ y, y = wr.heap.size := ⟨_, rfl⟩
          have hTq : Touch (fun _ => False) wr wo := by rw [hwo]; exact (Touch.refl _ _).alloc _
          have hbB : Blk wo bo 56 #[.int .i64 kd, .string kw, .int .i64 kn] := by rw [hwo, hbo]; exact Blk.new _ _ _
          have HDO := hide (does_any wo (Lst.touch HL.out (HTr.out.then hTq)) (HEr.out.quiet hTq) W.heap.size sn' (HNr.out.quiet hTq) HEL.out ⟨kd, kw, kn⟩ hwf)
          simp only [OpD.val] at HDO
          have HTQ := hide (HTr.out.then hTq)
          have HDQ := hide (HDr.out.quiet hTq)
          have HEQ := hide (HEr.out.quiet hTq)
          have HMQ := hide (HMr.out.quiet hTq)
          have HBB := hide hbB
          have HWOO := hide hwo
          have HBO := hide hbo
          have HNB : Hid (bo ≠ d2) := hide ((blk_ty hbB).ne (HEr.out.quiet hTq).ty (by decide))
          have HIN := hide hin
          obtain ⟨b0, b1, b2⟩ := hbB.facts
          clear ho hts hwf hrun hTq hin hod hwo hbo hbB
          go_upto_region 11 with fail
          rw [← HWOO.out, ← HBO.out]
          go_wp2_with fail
          refine HDO.out.mono ?_
          rintro e w3 ⟨s3, rfl, ⟨q3, hd3⟩, hr3, T3⟩
          have hT3 : Touch (fun _ => False) W w3 := HTQ.out.trans T3 (fun g hg e => by have := HEL.out; omega)
          have HT3 := hide hT3
          have HE3 := hide hd3
          have HN3 := hide hr3
          have HD3 := hide (HDQ.out.other T3 HEQ.out.ty HNE.out)
          have HM3 := hide (HMQ.out.dict T3 HEL.out HEQ.out.ty)
          have HB3 := hide (HBB.out.touch T3 HNB.out)
          clear hT3 T3 hd3 hr3 HDO l0 l1 l2 b0 b1 b2
          by_cases hodd : i % 2 = 1
          · have z1 : (i : Int) % 2 = 1 := by omega
            have z2 : Int.tmod (i : Int) 2 = 1 := by rw [Int.tmod_eq_emod_of_nonneg (by omega)]; omega
            obtain ⟨b0, b1, b2⟩ := HB3.out.facts
            have HDO := hide (does_any w3 (Lst.touch HL.out HT3.out) HD3.out W.heap.size sm HM3.out HDL.out ⟨kd, kw, kn⟩ HWF.out)
            simp only [OpD.val] at HDO
            have HODD := hide hodd
            clear hodd
            go_wp2_with fail
            refine HDO.out.mono ?_
            rintro e w4 ⟨s4, rfl, ⟨q4, hd4⟩, hr4, T4⟩
            have hT4 : Touch (fun _ => False) W w4 := HT3.out.trans T4 (fun g hg e => by have := HDL.out; omega)
            have HT4 := hide hT4
            have HD4 := hide hd4
            have HM4 := hide hr4
            have HE4 := hide (HE3.out.other T4 HD3.out.ty HNE.out.symm)
            have HN4 := hide (HN3.out.dict T4 HDL.out HD3.out.ty)
            clear hT4 T4 hd4 hr4 HDO b0 b1 b2
            go_wp2_with fail
            go_roundw
            · exact ⟨i + 1, q4, q3, s4, s3, by simp, rfl, rfl, by have := HIN.out; omega, hide (by rw [HOD.out, if_pos HODD.out, runP_snoc]; exact HD4.out), hide (by rw [HRUN.out]; exact HE4.out), hide (by rw [HOD.out, if_pos HODD.out, runP_snoc]; exact HM4.out), hide (by rw [HRUN.out]; exact HN4.out), HT4⟩
            · have := HIN.out
              simp only [intOf]
              omega
          · have z1 : ¬ (i : Int) % 2 = 1 := by omega
            have z2 : ¬ Int.tmod (i : Int) 2 = 1 := by rw [Int.tmod_eq_emod_of_nonneg (by omega)]; omega
            have z3 : (Int.tmod (i : Int) 2 == 1) = false := by simp [z2]
            have z4 : ((i : Int) % 2 == 1) = false := by simp [z1]
            have HODD := hide hodd
            clear hodd
            go_wp2_with fail
            go_roundw
            · exact ⟨i + 1, q1, q3, sm, s3, by simp, rfl, rfl, by have := HIN.out; omega, hide (by rw [HOD.out, if_neg HODD.out]; exact HD3.out), hide (by rw [HRUN.out]; exact HE3.out), hide (by rw [HOD.out, if_neg HODD.out]; exact HM3.out), hide (by rw [HRUN.out]; exact HN3.out), HT3⟩
            · have := HIN.out
              simp only [intOf]
              omega
        · have y0 : ¬ (i : Int) < (n' : Int) := by omega
          have HAL := hide (alive14_any wr (Lst.touch HL.out HTr.out))
          clear hin
          go_wp2_with fail
          refine HAL.out.mono ?_
          rintro e w3 ⟨rfl, T3⟩
          have HT3 := hide (HTr.out.then T3)
          have HS1 := hide (stands_any w3 (Lst.touch HL.out HT3.out) (HDr.out.quiet T3) W.heap.size sm (HMr.out.quiet T3))
          have HE3 := hide (HEr.out.quiet T3)
          have HN3 := hide (HNr.out.quiet T3)
          clear T3 HAL
          go_wp2_with fail
          refine HS1.out.mono ?_
          rintro e w4 ⟨rfl, T4⟩
          have HT4 := hide (HT3.out.then T4)
          have HS2 := hide (stands_any w4 (Lst.touch HL.out HT4.out) (HE3.out.quiet T4) W.heap.size sn' (HN3.out.quiet T4))
          clear T4 HS1
          go_wp2_with fail
          refine HS2.out.mono ?_
          rintro e w5 ⟨rfl, T5⟩
          have HT5 := hide (HT4.out.then T5)
          clear T5
          go_wp2_with fail
          go_ret
          exact ⟨by simp, HT5.out.below (Nat.le_refl _) (fun _ _ f => f)⟩
end Go.Proofs.YtbijfoeaemceiaaGreatDoor
