/- Law 14: the walks of DictAll and DictOthers. Conditions: the arguments can be read; no word has more than 2^40 bytes. -/
import Derived.Test.YtbijfoeaemceiaaGreatDoorA45
namespace Go.Proofs.YtbijfoeaemceiaaGreatDoor
open Go.RowKit
set_option linter.unusedSectionVars false
set_option linter.unusedSimpArgs false
set_option linter.unusedVariables false
theorem beg_nil {w : World} {L : List PRow} {e : Ending} {w' : World} (h : BegP w L [] e w') :
    (e = .returned (.tuple #[.pointer none, .slice none 0 0, .bool true]) ∧ Touch (fun _ => False) w w') ∨
    (∃ d s q, e = .returned (.tuple #[ptrV d, s.val, .bool true]) ∧ DctM w' d L q ∧ RfL w.heap.size w' s L ∧ w.heap.size ≤ d ∧ Touch (fun _ => False) w w') := by
  rcases h with h | ⟨d, s, q, h1, h2, h3, h4, h5, _⟩
  · exact .inl h
  · exact .inr ⟨d, s, q, h1, h2, h3, h4, h5⟩
set_option maxRecDepth 100000 in
set_option maxHeartbeats 4000000 in
theorem dall_walk (W : World) (hL : Lst W) (s : SL) (hs : s.Ok W) (hWz : ∀ r ∈ s.L, r.word.size ≤ 1099511627776) (hn : s.n ≤ maxLen) (A : Option Addr) (n c : Nat) (T : List OpD) (hT : T.length = n) (hR : Reads W 3 A n (oCells T)) (hWo : ∀ o ∈ T, o.Wf) (hm : n ≤ maxLen) :
    Calls Tryz.prog 9 #[s.val, .slice A n c] W fun e W' => e = .returned (.bool true) ∧ Below W.heap.size W W' := by
  have HBG := hide (begun_any W hL s hs hWz hn none 0 0 [] rfl (Reads.nil _ _ _) (fun o ho => by cases ho) (by unfold maxLen; omega))
  have HL := hide hL
  have HRI := hide (rfl_in hs)
  have HTL := hide hT
  have HRD := hide hR
  have HWO := hide hWo
  obtain ⟨sA, sn, sc, sL⟩ := s
  simp only [SL.val] at HBG HRI ⊢
  clear hL hs hWz hn hT hR hWo
  unfold maxLen at hm
  go_enter Tryz.func9, Tryz.ntmps9
  go_wp2_with fail
  refine HBG.out.mono ?_
  intro e w1 hbg
  rcases beg_nil hbg with ⟨rfl, T1⟩ | ⟨d, s1, q, rfl, hd, hr, hdl, T1⟩
  · have HT1 := hide T1
    have HAL := hide (alive14_any w1 (Lst.touch HL.out T1))
    clear T1 HBG hbg
    go_wp2_with fail
    refine HAL.out.mono ?_
    rintro e w2 ⟨rfl, T2⟩
    have HT2 := hide (HT1.out.then T2)
    clear T2
    go_wp2_with fail
    go_ret
    exact ⟨by simp, HT2.out.below (Nat.le_refl _) (fun _ _ f => f)⟩
  · have HT1 := hide T1
    have HD := hide hd
    have HR := hide hr
    have HDL := hide hdl
    clear T1 HBG hd hr hdl hbg
    by_cases hbig : 400 < n
    · have k1 : (400 : Int) < (n : Int) := by omega
      have HAL := hide (alive14_any w1 (Lst.touch HL.out HT1.out))
      clear hm hbig
      go_wp2_with fail
      refine HAL.out.mono ?_
      rintro e w2 ⟨rfl, T2⟩
      have HT2 := hide (HT1.out.then T2)
      clear T2
      go_wp2_with fail
      go_ret
      exact ⟨by simp, HT2.out.below (Nat.le_refl _) (fun _ _ f => f)⟩
    · have k1 : ¬ (400 : Int) < (n : Int) := by omega
      have hnI : (n : Int) ≤ 400 := by omega
      clear hm hbig
      go_wp2_with fail
      go_loopw [0, 35] (fun lv iv wr => ∃ (i q : Nat) (s' : SL), iv = .int .i64 i ∧ lv = s'.val ∧ i ≤ n ∧ Hid (DctM wr d (runP (T.take i) sL) q) ∧ Hid (RfL W.heap.size wr s' (runP (T.take i) sL)) ∧ Hid (Touch (fun _ => False) W wr)) (fun _ iv _ => n - (intOf iv).toNat)
      case atStart => exact ⟨0, q, ⟨sA, sn, sc, sL⟩, rfl, rfl, Nat.zero_le _, HD, hide (HRI.out.quiet HT1.out), HT1⟩
      case round =>
        obtain ⟨i, q, s', rfl, rfl, hin', HDr, HSr, HTr⟩ := hrel
        by_cases hin : i < n
        · have y0 : (i : Int) < (n : Int) := by omega
          have y1 : (0 : Int) ≤ (i : Int) := by omega
          have y2 : IntKind.i64.wrap ((i : Int) + 1) = (i : Int) + 1 := IntWalk.i64_in _ (by omega)
          obtain ⟨gl, ol, hAl, hgl, l0, l1, l2⟩ := op_at (HRD.out.touch HTr.out (fun _ _ f => f)) HTL.out.symm i hin
          subst hAl
          have hts := otake_succ T i (by rw [HTL.out]; exact hin)
          have hwf : (T.getD i OpD.zero).Wf := HWO.out _ (by
            have hl : i < T.length := by rw [HTL.out]; exact hin
            have e2 : T.getD i OpD.zero = T[i] := by simp [List.getD, hl]
            rw [e2]; exact List.getElem_mem _)
          obtain ⟨⟨kd, kw, kn⟩, ho⟩ : ∃ o, o = T.getD i OpD.zero := ⟨_, rfl⟩
          rw [← ho] at l0 l1 l2 hts hwf
          simp only at l0 l1 l2
          have hrun := runP_snoc (T.take i) ⟨kd, kw, kn⟩ sL
          rw [← hts] at hrun
          have HRUN := hide hrun
          have hTq : Touch (fun _ => False) wr (wr.alloc (.cells #[.int .i64 kd, .string kw, .int .i64 kn] 56)) := (Touch.refl _ _).alloc _
          have HDO := hide (does_any _ (Lst.touch HL.out (HTr.out.then hTq)) (HDr.out.quiet hTq) W.heap.size s' (HSr.out.quiet hTq) HDL.out ⟨kd, kw, kn⟩ hwf)
          simp only [OpD.val] at HDO
          have HTQ := hide (HTr.out.then hTq)
          have HIN := hide hin
          clear ho hts hwf hrun hTq hin
          go_wp2_with fail
          refine HDO.out.mono ?_
          rintro e w3 ⟨s3, rfl, ⟨q3, hd3⟩, hr3, T3⟩
          have hT3 : Touch (fun _ => False) W w3 := HTQ.out.trans T3 (fun g hg e => by have := HDL.out; omega)
          have HT3 := hide hT3
          have HD3 := hide hd3
          have HR3 := hide hr3
          clear hT3 T3 hd3 hr3 HDO l0 l1 l2
          by_cases h20 : i < 20
          · have z1 : (i : Int) < 20 := by omega
            have HSD := hide (stands_any w3 (Lst.touch HL.out HT3.out) HD3.out W.heap.size s3 HR3.out)
            clear h20
            go_wp2_with fail
            refine HSD.out.mono ?_
            rintro e w4 ⟨rfl, T4⟩
            have HT4 := hide (HT3.out.then T4)
            have HD4 := hide (HD3.out.quiet T4)
            have HR4 := hide (HR3.out.quiet T4)
            clear T4 HSD
            go_wp2_with fail
            go_roundw
            · exact ⟨i + 1, q3, s3, by simp, rfl, by have := HIN.out; omega, hide (by rw [HRUN.out]; exact HD4.out), hide (by rw [HRUN.out]; exact HR4.out), HT4⟩
            · have := HIN.out
              simp only [intOf]
              omega
          · have z1 : ¬ (i : Int) < 20 := by omega
            clear h20
            go_wp2_with fail
            go_roundw
            · exact ⟨i + 1, q3, s3, by simp, rfl, by have := HIN.out; omega, hide (by rw [HRUN.out]; exact HD3.out), hide (by rw [HRUN.out]; exact HR3.out), HT3⟩
            · have := HIN.out
              simp only [intOf]
              omega
        · have y0 : ¬ (i : Int) < (n : Int) := by omega
          have HAL := hide (alive14_any wr (Lst.touch HL.out HTr.out))
          clear hin
          go_wp2_with fail
          refine HAL.out.mono ?_
          rintro e w2 ⟨rfl, T2⟩
          have HT2 := hide (HTr.out.then T2)
          have HSD := hide (stands_any w2 (Lst.touch HL.out HT2.out) (HDr.out.quiet T2) W.heap.size s' (HSr.out.quiet T2))
          clear T2 HAL
          go_wp2_with fail
          refine HSD.out.mono ?_
          rintro e w3 ⟨rfl, T3⟩
          have HT3 := hide (HT2.out.then T3)
          clear T3
          go_wp2_with fail
          go_ret
          exact ⟨by simp, HT3.out.below (Nat.le_refl _) (fun _ _ f => f)⟩
theorem find_other {L : List PRow} (hD : DictP L) (o : OpD) {k : List UInt8} (h : ¬ o.word.toList = k) : findP k (opP o L) = findP k L := by
  unfold opP
  split
  · unfold setL
    split
    · refine find_key ?_
      rw [(putF_ok _ L (dict_strict hD)).2, if_neg h]
    · rfl
  · split
    · unfold remL
      split
      · refine find_key ?_
        rw [drop_key, if_neg h]
      · rfl
    · rfl
set_option maxRecDepth 100000 in
set_option maxHeartbeats 4000000 in
theorem others_walk (W : World) (hL : Lst W) (s : SL) (hs : s.Ok W) (hWz : ∀ r ∈ s.L, r.word.size ≤ 1099511627776) (hn : s.n ≤ maxLen) (o : OpD) (hWo : o.Wf) (k : ByteArray) (hk : k.size ≤ 1099511627776) :
    Calls Tryz.prog 7 #[s.val, o.val, .string k] W fun e W' => e = .returned (.bool true) ∧ Below W.heap.size W W' := by
  obtain ⟨kd, kw, kn⟩ := o
  obtain ⟨wa, hwa⟩ : ∃ z, z = W.alloc (.cells #[.int .i64 kd, .string kw, .int .i64 kn] 56) := ⟨_, rfl⟩
  obtain ⟨bb, hbb⟩ : ∃ z, z = W.heap.size := ⟨_, rfl⟩
  have hTa : Touch (fun _ => False) W wa := by rw [hwa]; exact (Touch.refl _ _).alloc _
  have hbB : Blk wa bb 56 #[.int .i64 kd, .string kw, .int .i64 kn] := by rw [hwa, hbb]; exact Blk.new _ _ _
  have HBG := hide (begun_any wa (Lst.touch hL hTa) s (hs.touch hTa) hWz hn none 0 0 [] rfl (Reads.nil _ _ _) (fun o ho => by cases ho) (by unfold maxLen; omega))
  have HL := hide hL
  have HTA := hide hTa
  have HBB := hide hbB
  have HWA := hide hwa
  have HB0 := hide hbb
  have HWO := hide hWo
  have HK := hide hk
  obtain ⟨sA, sn, sc, sL⟩ := s
  simp only [SL.val, OpD.val] at HBG ⊢
  clear hL hs hWz hn hwa hbb hTa hbB hWo hk
  go_enter Tryz.func7, Tryz.ntmps7
  go_upto_region 1 with fail
  rw [← HWA.out, ← HB0.out]
  go_wp2_with fail
  refine HBG.out.mono ?_
  intro e w1 hbg
  rcases beg_nil hbg with ⟨rfl, T1⟩ | ⟨d, s1, q, rfl, hd, hr, hdl, T1⟩
  · have HT1 := hide (HTA.out.then T1)
    have HAL := hide (alive14_any w1 (Lst.touch HL.out (HTA.out.then T1)))
    clear T1 HBG hbg
    go_wp2_with fail
    refine HAL.out.mono ?_
    rintro e w2 ⟨rfl, T2⟩
    have HT2 := hide (HT1.out.then T2)
    clear T2
    go_wp2_with fail
    go_ret
    exact ⟨by simp, HT2.out.below (Nat.le_refl _) (fun _ _ f => f)⟩
  · have HT1 := hide (HTA.out.then T1)
    have HL1 := hide (Lst.touch HL.out (HTA.out.then T1))
    have HD := hide hd
    have HR := hide hr
    have HDL := hide hdl
    have HB1 := hide (HBB.out.touch T1 (fun f => f))
    have HDW : Hid (W.heap.size ≤ d) := hide (Nat.le_trans HTA.out.size hdl)
    obtain ⟨b0, b1, b2⟩ := HB1.out.facts
    clear T1 HBG hd hr hdl hbg
    by_cases hkw : kw.toList = k.toList
    · have q1 : kw = k := toList_inj hkw
      subst q1
      have q2 : (kw.toList == kw.toList) = true := by simp
      have HAL := hide (alive14_any w1 HL1.out)
      clear hkw
      go_wp2_with fail
      refine HAL.out.mono ?_
      rintro e w2 ⟨rfl, T2⟩
      have HT2 := hide (HT1.out.then T2)
      clear T2
      go_wp2_with fail
      go_ret
      exact ⟨by simp, HT2.out.below (Nat.le_refl _) (fun _ _ f => f)⟩
    · have q2 : (kw.toList == k.toList) = false := by simp [hkw]
      have q4 : ¬ kw = k := fun e => hkw (by rw [e])
      have hfo := find_other HD.out.dict ⟨kd, kw, kn⟩ (k := k.toList) hkw
      obtain ⟨lA, ln, lc, lL⟩ := s1
      have hlq := HR.out.eq
      simp only at hlq
      subst hlq
      have HRF := hide (rfind_any w1 lA ln lc lL HR.out.ok.len HR.out.ok.reads (by have h1 : lL.length = ln := HR.out.ok.len; have := HD.out.dict.len; unfold maxLen; omega) k)
      have HDO := hide (fun (wx : World) (t : Touch (fun _ => False) w1 wx) => does_any wx (Lst.touch HL1.out t) (HD.out.quiet t) wa.heap.size ⟨lA, ln, lc, lL⟩ (HR.out.quiet t) HDL.out ⟨kd, kw, kn⟩ HWO.out)
      have HWG := hide (fun (wx : World) (hl : Lst wx) (q' : Nat) (h : DctM wx d (opP ⟨kd, kw, kn⟩ lL) q') => dweigh_any wx hl h k HK.out)
      rw [hfo] at HWG
      obtain ⟨⟨x, u⟩, hx⟩ : ∃ r, r = findP k.toList lL := ⟨_, rfl⟩
      rw [← hx] at HRF
      simp only [← hx] at HWG
      simp only [SL.val, OpD.val] at HRF HDO ⊢
      have HDP : Hid (0 < d) := hide HD.out.pos
      have HNB : Hid (bb ≠ d) := hide ((blk_ty HB1.out).ne HD.out.ty (by decide))
      clear hkw hfo hx
      go_wp2_with fail
      refine HRF.out.mono ?_
      rintro e w2 ⟨rfl, T2⟩
      have HT2 := hide (HT1.out.then T2)
      have HB2 := hide (HB1.out.touch T2 (fun f => f))
      have HD2 := hide (HDO.out w2 T2)
      have HL2 := hide (Lst.touch HL1.out T2)
      clear T2 HRF HDO b0 b1 b2
      obtain ⟨b0, b1, b2⟩ := HB2.out.facts
      go_wp2_with fail
      refine HD2.out.mono ?_
      rintro e w3 ⟨s3, rfl, ⟨q3, hd3⟩, hr3, T3⟩
      have HT3 := hide (HT2.out.trans T3 (fun g hg e => by have := HDW.out; omega))
      have HL3 := hide (HL2.out.far T3 (fun e => by have := HDP.out; omega))
      have HW3 := hide (HWG.out w3 HL3.out q3 hd3)
      clear T3 hd3 hr3 HD2 HWG b0 b1 b2
      go_wp2_with fail
      refine HW3.out.mono ?_
      rintro e w4 ⟨rfl, T4⟩
      have HT4 := hide (HT3.out.then T4)
      have HAL := hide (alive14_any w4 (Lst.touch HL3.out T4))
      clear T4 HW3
      go_wp2_with fail
      refine HAL.out.mono ?_
      rintro e w5 ⟨rfl, T5⟩
      have HT5 := hide (HT4.out.then T5)
      clear T5
      go_wp2_with fail
      go_ret
      exact ⟨by simp, HT5.out.below (Nat.le_refl _) (fun _ _ f => f)⟩
end Go.Proofs.YtbijfoeaemceiaaGreatDoor
