/- Law 14: the walk of DictWeighs. Conditions: the arguments can be read; no word has more than 2^40 bytes. -/
import Derived.Test.YtbijfoeaemceiaaGreatDoorA45
namespace Go.Proofs.YtbijfoeaemceiaaGreatDoor
open Go.RowKit
set_option linter.unusedSectionVars false
set_option linter.unusedSimpArgs false
set_option linter.unusedVariables false
set_option maxRecDepth 100000 in
set_option maxHeartbeats 4000000 in
theorem weighs_walk (W : World) (hL : Lst W) (s : SL) (hs : s.Ok W) (hWz : ∀ r ∈ s.L, r.word.size ≤ 1099511627776) (hn : s.n ≤ maxLen) (A : Option Addr) (n c : Nat) (T : List OpD) (hT : T.length = n) (hR : Reads W 3 A n (oCells T)) (hWo : ∀ o ∈ T, o.Wf) (hm : n ≤ maxLen) (k : ByteArray) (hk : k.size ≤ 1099511627776) :
    Calls Tryz.prog 4 #[s.val, .slice A n c, .string k] W fun e W' => e = .returned (.bool true) ∧ Below W.heap.size W W' := by
  obtain ⟨wa, hwa⟩ : ∃ z, W = z := ⟨_, rfl⟩
  have hTa : Touch (fun _ => False) W wa := by rw [← hwa]; exact Touch.refl _ _
  have HBG := hide (begun_any wa (Lst.touch hL hTa) s (hs.touch hTa) hWz hn A n c T hT (hR.touch hTa (fun _ _ f => f)) hWo hm)
  have HL := hide hL
  have HTA := hide hTa
  have HK := hide hk
  clear hk
  obtain ⟨sA, sn, sc, sL⟩ := s
  simp only [SL.val] at HBG ⊢
  clear hL hs hWz hn hT hR hWo hm hTa
  subst hwa
  go_enter Tryz.func4, Tryz.ntmps4
  go_wp2_with fail
  refine HBG.out.mono ?_
  rintro e w1 (⟨rfl, T1⟩ | ⟨d, s1, q, rfl, hd, hr, hdl, T1, hT4, hl3⟩)
  · have HT1 := hide (HTA.out.then T1)
    have HAL := hide (alive14_any w1 (Lst.touch HL.out (HTA.out.then T1)))
    clear T1 HBG
    go_wp2_with fail
    refine HAL.out.mono ?_
    rintro e w2 ⟨rfl, T2⟩
    have HT2 := hide (HT1.out.then T2)
    clear T2
    go_wp2_with fail
    go_ret
    exact ⟨by simp, HT2.out.below (Nat.le_refl _) (fun _ _ f => f)⟩
  · have HT1 := hide (HTA.out.then T1)
    have HD := hide hd
    have HR := hide hr
    have HDL := hide hdl
    have HDW : Hid (W.heap.size ≤ d) := hide (Nat.le_trans HTA.out.size hdl)
    have HL1 := hide (Lst.touch HL.out (HTA.out.then T1))
    have HDC := hide hd.dict
    obtain ⟨L2, hL2⟩ : ∃ L2, L2 = runP T sL := ⟨_, rfl⟩
    rw [← hL2] at HD HR HDC
    clear T1 HBG hd hr hdl hT4 hl3 hL2
    have HT1' := HT1
    obtain ⟨⟨x, u⟩, hx⟩ : ∃ r, r = findP k.toList L2 := ⟨_, rfl⟩
    have HWG := hide (dweigh_any w1 HL1.out HD.out k HK.out)
    rw [← hx] at HWG
    obtain ⟨lA, ln, lc, lL⟩ := s1
    have hlq := HR.out.eq
    simp only at hlq
    subst hlq
    have HRF := hide (fun (wx : World) (t : Touch (fun _ => False) w1 wx) => rfind_any wx lA ln lc lL HR.out.ok.len (HR.out.quiet t).ok.reads (by have h1 : lL.length = ln := HR.out.ok.len; have := HDC.out.len; unfold maxLen; omega) k)
    simp only [← hx] at HRF
    simp only [SL.val] at HWG HRF ⊢
    clear hx
    go_wp2_with fail
    refine HWG.out.mono ?_
    rintro e w2 ⟨rfl, T2⟩
    have HT2 := hide T2
    clear T2 HWG
    go_wp2_with fail
    refine (HRF.out w2 HT2.out).mono ?_
    rintro e w3 ⟨rfl, T3⟩
    have HT3 := hide (HT2.out.then T3)
    clear T3 HRF
    have HAL := hide (alive14_any w3 (Lst.touch HL1.out HT3.out))
    go_wp2_with fail
    refine HAL.out.mono ?_
    rintro e w4 ⟨rfl, T4⟩
    have HT4 := hide (HT3.out.then T4)
    clear T4 HAL
    go_wp2_with fail
    go_ret
    exact ⟨by simp, (HT1.out.then HT4.out).below (Nat.le_refl _) (fun _ _ f => f)⟩
end Go.Proofs.YtbijfoeaemceiaaGreatDoor
