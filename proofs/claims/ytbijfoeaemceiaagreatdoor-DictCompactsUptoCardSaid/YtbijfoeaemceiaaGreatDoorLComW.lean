/- Law 14: the walk of DictCompacts. Conditions: the arguments can be read; no word has more than 2^40 bytes. -/
import Derived.Test.YtbijfoeaemceiaaGreatDoorA45
namespace Go.Proofs.YtbijfoeaemceiaaGreatDoor
open Go.RowKit
set_option linter.unusedSectionVars false
set_option linter.unusedSimpArgs false
set_option linter.unusedVariables false
set_option maxRecDepth 100000 in
set_option maxHeartbeats 4000000 in
theorem compacts_walk (W : World) (hL : Lst W) (s : SL) (hs : s.Ok W) (hWz : ∀ r ∈ s.L, r.word.size ≤ 1099511627776) (hn : s.n ≤ maxLen) (A : Option Addr) (n c : Nat) (T : List OpD) (hT : T.length = n) (hR : Reads W 3 A n (oCells T)) (hWo : ∀ o ∈ T, o.Wf) (hm : n ≤ maxLen) (a : ByteArray) (ha : a.size ≤ 9223372036854775807) (k y : Int) :
    Calls Tryz.prog 10 #[s.val, .slice A n c, .agg #[.string a, .int .i64 k, .int .i64 y]] W fun e W' => e = .returned (.bool true) ∧ Below W.heap.size W W' := by
  obtain ⟨wa, hwa⟩ : ∃ z, z = W.alloc (.cells #[.string a, .int .i64 k, .int .i64 y] 44) := ⟨_, rfl⟩
  obtain ⟨bb, hbb⟩ : ∃ z, z = W.heap.size := ⟨_, rfl⟩
  have hTa : Touch (fun _ => False) W wa := by rw [hwa]; exact (Touch.refl _ _).alloc _
  have hbB : Blk wa bb 44 #[.string a, .int .i64 k, .int .i64 y] := by rw [hwa, hbb]; exact Blk.new _ _ _
  have HBB := hide hbB
  have HWA := hide hwa
  have HB0 := hide hbb
  have HBG := hide (begun_any wa (Lst.touch hL hTa) s (hs.touch hTa) hWz hn A n c T hT (hR.touch hTa (fun _ _ f => f)) hWo hm)
  have HL := hide hL
  have HTA := hide hTa
  have HA := hide ha
  clear ha
  obtain ⟨sA, sn, sc, sL⟩ := s
  simp only [SL.val] at HBG ⊢
  clear hL hs hWz hn hT hR hWo hm hwa hbb hTa hbB
  go_enter Tryz.func10, Tryz.ntmps10
  go_upto_region 1 with fail
  rw [← HWA.out, ← HB0.out]
  go_wp2_with fail
  refine HBG.out.mono ?_
  rintro e w1 (⟨rfl, T1⟩ | ⟨d, s1, q, rfl, hd, hr, hdl, T1, hT4, hl3⟩)
  · have HT1 := hide (HTA.out.then T1)
    have HAL := hide (alive14_any w1 (Lst.touch HL.out (HTA.out.then T1)))
    clear T1 HBG
    go_wp2_with fail
    refine HAL.out.mono ?_
    rintro e w2 ⟨rfl, T2⟩
    have HT2 := hide (HT1.out.then T2)
    clear T2
    go_wp2_with fail
    go_ret
    exact ⟨by simp, HT2.out.below (Nat.le_refl _) (fun _ _ f => f)⟩
  · have HT1 := hide (HTA.out.then T1)
    have HD := hide hd
    have HR := hide hr
    have HDL := hide hdl
    have HDW : Hid (W.heap.size ≤ d) := hide (Nat.le_trans HTA.out.size hdl)
    have HL1 := hide (Lst.touch HL.out (HTA.out.then T1))
    have HDC := hide hd.dict
    obtain ⟨L2, hL2⟩ : ∃ L2, L2 = runP T sL := ⟨_, rfl⟩
    rw [← hL2] at HD HR HDC
    have HB1 := hide (HBB.out.touch T1 (fun f => f))
    clear T1 HBG hd hr hdl hT4 hl3 hL2
    have HS1 := hide (dsug_any w1 HL1.out HD.out a HA.out k y)
    have HS2 := hide (fun (wx : World) (hL : Lst wx) (hd : DctM wx d L2 0) => dsug_any wx hL hd a HA.out k y)
    obtain ⟨F, hF⟩ : ∃ F, F = sugP L2 a.toList k y := ⟨_, rfl⟩
    obtain ⟨er, her⟩ : ∃ z, z = sugE a.toList k := ⟨_, rfl⟩
    have hFl : F.length ≤ 64 := by rw [hF]; exact sug_len L2 a.toList k y
    have HFL := hide hFl
    unfold SugPost at HS1 HS2
    simp only [← hF, ← her] at HS1 HS2
    obtain ⟨b0, b1, b2⟩ := HB1.out.facts
    have HDP : Hid (0 < d) := hide HD.out.pos
    have HNB : Hid (bb ≠ d) := hide ((blk_ty HB1.out).ne HD.out.ty (by decide))
    clear hF her hFl
    go_wp2_with fail
    refine HS1.out.mono ?_
    rintro e w2 ⟨A2, c2, rfl, R2, T2, F2⟩
    have HT2 := hide T2
    have HR2 := hide R2
    have HB2 := hide (HB1.out.touch T2 (fun f => f))
    have HCM := hide (compact_any w2 (Lst.touch HL1.out T2) (HD.out.quiet T2))
    clear T2 R2 HS1 b0 b1 b2
    go_wp2_with fail
    refine HCM.out.mono ?_
    rintro e w3 ⟨rfl, hd3, T3⟩
    have HB3 := hide (HB2.out.touch T3 HNB.out)
    have HL3 := hide ((Lst.touch HL1.out HT2.out).far T3 (fun e => by have := HDP.out; omega))
    have HR3l := hide ((HR.out.quiet HT2.out).dict T3 HDL.out (HD.out.quiet HT2.out).ty)
    have HR23 : Hid (Reads w3 3 A2 F.length (mCells F)) := hide (HR2.out.touch T3 (fun g hg e => by have h1 := F2 g hg; have h2 := HD.out.ty.lt; omega))
    have HT3 := hide ((HT1.out.then HT2.out).trans T3 (fun g hg e => by have := HDW.out; omega))
    have HD3 := hide hd3
    have HS3 := hide (HS2.out w3 HL3.out hd3)
    clear T3 hd3 HS2 HCM F2
    obtain ⟨b0, b1, b2⟩ := HB3.out.facts
    go_wp2_with fail
    refine HS3.out.mono ?_
    rintro e w4 ⟨A4, c4, rfl, R4, T4, _⟩
    have HT4 := hide T4
    have HR4 := hide R4
    have HAL := hide (alive14_any w4 (Lst.touch HL3.out T4))
    clear T4 R4 HS3 b0 b1 b2
    go_wp2_with fail
    refine HAL.out.mono ?_
    rintro e w5 ⟨rfl, T5⟩
    have HT5 := hide (HT4.out.then T5)
    have HSM := hide (same_yes w5 A2 F.length c2 F rfl (HR23.out.touch HT5.out (fun _ _ f => f)) (by have := HFL.out; unfold maxLen; omega) A4 c4 (HR4.out.touch T5 (fun _ _ f => f)))
    clear T5 HAL
    go_wp2_with fail
    refine HSM.out.mono ?_
    rintro e w6 ⟨rfl, T6⟩
    have HT6 := hide (HT5.out.then T6)
    have HSD := hide (stands_any w6 (Lst.touch HL3.out HT6.out) (HD3.out.quiet HT6.out) wa.heap.size s1 (HR3l.out.quiet HT6.out))
    clear T6 HSM
    go_wp2_with fail
    refine HSD.out.mono ?_
    rintro e w7 ⟨rfl, T7⟩
    have HT7 := hide (HT6.out.then T7)
    have HCH := hide (changes_any w7 (HD3.out.quiet HT7.out))
    clear T7 HSD
    go_wp2_with fail
    refine HCH.out.mono ?_
    rintro e w8 ⟨rfl, T8⟩
    have HT8 := hide (HT7.out.then T8)
    clear T8
    go_wp2_with fail
    go_ret
    exact ⟨by simp, (HT3.out.then HT8.out).below (Nat.le_refl _) (fun _ _ f => f)⟩
end Go.Proofs.YtbijfoeaemceiaaGreatDoor
