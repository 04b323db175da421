/- Law 14: the walk of DictSuggests. Conditions: the arguments can be read; no word has more than 2^40 bytes. -/
import Derived.Test.YtbijfoeaemceiaaGreatDoorS45
namespace Go.Proofs.YtbijfoeaemceiaaGreatDoor
open Go.RowKit
set_option linter.unusedSectionVars false
set_option linter.unusedSimpArgs false
set_option linter.unusedVariables false
set_option maxRecDepth 100000 in
set_option maxHeartbeats 4000000 in
theorem suggests_walk (W : World) (hL : Lst W) (s : SL) (hs : s.Ok W) (hWz : ∀ r ∈ s.L, r.word.size ≤ 1099511627776) (hn : s.n ≤ maxLen) (A : Option Addr) (n c : Nat) (T : List OpD) (hT : T.length = n) (hR : Reads W 3 A n (oCells T)) (hWo : ∀ o ∈ T, o.Wf) (hm : n ≤ maxLen) (a : ByteArray) (ha : a.size ≤ 9223372036854775807) (k y : Int) :
    Calls Tryz.prog 5 #[s.val, .slice A n c, .agg #[.string a, .int .i64 k, .int .i64 y]] W fun e W' => e = .returned (.bool true) ∧ Below W.heap.size W W' := by
  obtain ⟨wa, hwa⟩ : ∃ z, z = W.alloc (.cells #[.string a, .int .i64 k, .int .i64 y] 44) := ⟨_, rfl⟩
  obtain ⟨bb, hbb⟩ : ∃ z, z = W.heap.size := ⟨_, rfl⟩
  have hTa : Touch (fun _ => False) W wa := by rw [hwa]; exact (Touch.refl _ _).alloc _
  have hbB : Blk wa bb 44 #[.string a, .int .i64 k, .int .i64 y] := by rw [hwa, hbb]; exact Blk.new _ _ _
  have HBB := hide hbB
  have HWA := hide hwa
  have HB0 := hide hbb
  have HBG := hide (begun_any wa (Lst.touch hL hTa) s (hs.touch hTa) hWz hn A n c T hT (hR.touch hTa (fun _ _ f => f)) hWo hm)
  have HL := hide hL
  have HTA := hide hTa
  have HA := hide ha
  clear ha
  obtain ⟨sA, sn, sc, sL⟩ := s
  simp only [SL.val] at HBG ⊢
  clear hL hs hWz hn hT hR hWo hm hwa hbb hTa hbB
  go_enter Tryz.func5, Tryz.ntmps5
  go_upto_region 1 with fail
  rw [← HWA.out, ← HB0.out]
  go_wp2_with fail
  refine HBG.out.mono ?_
  rintro e w1 (⟨rfl, T1⟩ | ⟨d, s1, q, rfl, hd, hr, hdl, T1, hT4, hl3⟩)
  · have HT1 := hide (HTA.out.then T1)
    have HAL := hide (alive14_any w1 (Lst.touch HL.out (HTA.out.then T1)))
    clear T1 HBG
    go_wp2_with fail
    refine HAL.out.mono ?_
    rintro e w2 ⟨rfl, T2⟩
    have HT2 := hide (HT1.out.then T2)
    clear T2
    go_wp2_with fail
    go_ret
    exact ⟨by simp, HT2.out.below (Nat.le_refl _) (fun _ _ f => f)⟩
  · have HT1 := hide (HTA.out.then T1)
    have HD := hide hd
    have HR := hide hr
    have HDL := hide hdl
    have HDW : Hid (W.heap.size ≤ d) := hide (Nat.le_trans HTA.out.size hdl)
    have HL1 := hide (Lst.touch HL.out (HTA.out.then T1))
    have HDC := hide hd.dict
    obtain ⟨L2, hL2⟩ : ∃ L2, L2 = runP T sL := ⟨_, rfl⟩
    rw [← hL2] at HD HR HDC
    have HB1 := hide (HBB.out.touch T1 (fun f => f))
    clear T1 HBG hd hr hdl hT4 hl3 hL2
    have HS1 := hide (dsug_any w1 HL1.out HD.out a HA.out k y)
    have HS2 := hide (fun (wx : World) (t : Touch (fun _ => False) w1 wx) => rsug_any wx wa.heap.size s1 (HR.out.quiet t) HDC.out a HA.out k y)
    obtain ⟨F, hF⟩ : ∃ F, F = sugP L2 a.toList k y := ⟨_, rfl⟩
    obtain ⟨er, her⟩ : ∃ z, z = sugE a.toList k := ⟨_, rfl⟩
    have hFl : F.length ≤ 64 := by rw [hF]; exact sug_len L2 a.toList k y
    have HFL := hide hFl
    unfold SugPost at HS1 HS2
    simp only [← hF, ← her] at HS1 HS2
    obtain ⟨b0, b1, b2⟩ := HB1.out.facts
    clear hF her hFl
    go_wp2_with fail
    refine HS1.out.mono ?_
    rintro e w2 ⟨A2, c2, rfl, R2, T2, F2⟩
    have HT2 := hide T2
    have HR2 := hide R2
    have HB2 := hide (HB1.out.touch T2 (fun f => f))
    clear T2 R2 HS1 b0 b1 b2
    obtain ⟨b0, b1, b2⟩ := HB2.out.facts
    go_wp2_with fail
    refine (HS2.out w2 HT2.out).mono ?_
    rintro e w3 ⟨A3, c3, rfl, R3, T3, _⟩
    have HT3 := hide (HT2.out.then T3)
    have HT23 := hide T3
    have HR3 := hide R3
    clear T3 R3 HS2 b0 b1 b2
    have HAL := hide (alive14_any w3 (Lst.touch HL1.out HT3.out))
    go_wp2_with fail
    refine HAL.out.mono ?_
    rintro e w4 ⟨rfl, T4⟩
    have HT34 := hide T4
    have HT4 := hide (HT3.out.then T4)
    clear T4 HAL
    have HSM := hide (same_yes w4 A2 F.length c2 F rfl (HR2.out.touch (HT23.out.then HT34.out) (fun _ _ f => f)) (by have := HFL.out; unfold maxLen; omega) A3 c3 (HR3.out.touch HT34.out (fun _ _ f => f)))
    go_wp2_with fail
    refine HSM.out.mono ?_
    rintro e w5 ⟨rfl, T5⟩
    have HT5 := hide (HT4.out.then T5)
    clear T5
    go_wp2_with fail
    go_ret
    exact ⟨by simp, (HT1.out.then HT5.out).below (Nat.le_refl _) (fun _ _ f => f)⟩
end Go.Proofs.YtbijfoeaemceiaaGreatDoor
