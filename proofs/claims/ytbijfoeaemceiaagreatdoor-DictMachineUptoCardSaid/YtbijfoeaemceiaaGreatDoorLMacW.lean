/- Law 14: the walk of DictMachine. Conditions: the arguments can be read; no word has more than 2^40 bytes. -/
import Derived.Test.YtbijfoeaemceiaaGreatDoorM43
namespace Go.Proofs.YtbijfoeaemceiaaGreatDoor
open Go.RowKit
set_option linter.unusedSectionVars false
set_option linter.unusedSimpArgs false
set_option linter.unusedVariables false
instance zeroBase14 : Inhabited BaseT := ⟨⟨0⟩⟩
set_option maxRecDepth 100000 in
set_option maxHeartbeats 4000000 in
theorem machine_walk (W : World) (hL : Lst W) (s : SL) (hs : s.Ok W) (hWz : ∀ r ∈ s.L, r.word.size ≤ 1099511627776) (hn : s.n ≤ maxLen) (A : Option Addr) (n c : Nat) (T : List OpD) (hT : T.length = n) (hR : Reads W 3 A n (oCells T)) (hWo : ∀ o ∈ T, o.Wf) (hm : n ≤ maxLen) :
    Calls Tryz.prog 6 #[s.val, .slice A n c] W fun e W' => e = .returned (.bool true) ∧ Below W.heap.size W W' := by
  obtain ⟨wa, hwa⟩ : ∃ z, W = z := ⟨_, rfl⟩
  have hTa : Touch (fun _ => False) W wa := by rw [← hwa]; exact Touch.refl _ _
  have HBG := hide (begun_any wa (Lst.touch hL hTa) s (hs.touch hTa) hWz hn A n c T hT (hR.touch hTa (fun _ _ f => f)) hWo hm)
  have HL := hide hL
  have HTA := hide hTa
  obtain ⟨sA, sn, sc, sL⟩ := s
  simp only [SL.val] at HBG ⊢
  clear hL hs hWz hn hT hR hWo hm hTa
  subst hwa
  go_enter Tryz.func6, Tryz.ntmps6
  go_wp2_with fail
  refine HBG.out.mono ?_
  rintro e w1 (⟨rfl, T1⟩ | ⟨d, s1, q, rfl, hd, hr, hdl, T1, hT4, hl3⟩)
  · have HT1 := hide (HTA.out.then T1)
    have HAL := hide (alive14_any w1 (Lst.touch HL.out (HTA.out.then T1)))
    clear T1 HBG
    go_wp2_with fail
    refine HAL.out.mono ?_
    rintro e w2 ⟨rfl, T2⟩
    have HT2 := hide (HT1.out.then T2)
    clear T2
    go_wp2_with fail
    go_ret
    exact ⟨by simp, HT2.out.below (Nat.le_refl _) (fun _ _ f => f)⟩
  · have HT1 := hide (HTA.out.then T1)
    have HD := hide hd
    have HR := hide hr
    have HDL := hide hdl
    have HDW : Hid (W.heap.size ≤ d) := hide (Nat.le_trans HTA.out.size hdl)
    have HL1 := hide (Lst.touch HL.out (HTA.out.then T1))
    have HDC := hide hd.dict
    obtain ⟨L2, hL2⟩ : ∃ L2, L2 = runP T sL := ⟨_, rfl⟩
    rw [← hL2] at HD HR HDC
    clear T1 HBG hd hr hdl hT4 hl3 hL2
    obtain ⟨lA, ln, lc, lL⟩ := s1
    have hlq := HR.out.eq
    simp only at hlq
    subst hlq
    simp only [SL.val]
    have HAL := hide (alive14_any w1 HL1.out)
    go_wp2_with fail
    refine HAL.out.mono ?_
    rintro e w2 ⟨rfl, T2⟩
    have HT2 := hide T2
    clear T2 HAL
    have HMA := hide (machine_any w2 (Lst.touch HL1.out HT2.out) (HD.out.quiet HT2.out))
    obtain ⟨bs, hbs⟩ : ∃ z, z = (mach lL).base := ⟨_, rfl⟩
    rw [← hbs] at HMA
    have HMK := hide (fun (wx : World) (t : Touch (fun _ => False) w1 wx) => make_any wx ⟨lA, ln, lc, lL⟩ (HR.out.quiet t).ok HDC.out (dict_sizes HDC.out))
    simp only [← hbs, SL.val] at HMK
    clear hbs
    go_wp2_with fail
    refine HMA.out.mono ?_
    rintro e w3 ⟨A3, n3, c3, Z3, rfl, st3, z3, _, T3⟩
    have HT3 := hide (HT2.out.then T3)
    have HST3 := hide st3
    have HZ3 := hide z3
    clear T3 st3 z3 HMA
    go_wp2_with fail
    refine (HMK.out w3 HT3.out).mono ?_
    rintro e w4 ⟨A4, n4, c4, Z4, rfl, st4, z4, _, _, T4⟩
    have HT4 := hide (HT3.out.then T4)
    have hn3 : n3 ≤ maxLen := by
      have h1 := HST3.out.len
      have h2 := congrArg List.length HZ3.out
      rw [List.length_map] at h2
      have h3 : (mach lL).states.length ≤ 1000000 := by
        rcases right_mach HDC.out with ⟨h, _⟩ | h
        · rw [h]; simp
        · have := h.few; omega
      unfold maxLen
      omega
    have HSM := hide (samem_any w4 bs bs A3 n3 c3 Z3 A4 n4 c4 Z4 (HST3.out.quiet T4).od st4.od hn3)
    have hzz : Z3.map SV.p = Z4.map SV.p := HZ3.out.trans z4.symm
    have HZZ := hide hzz
    clear T4 st4 z4 HMK hzz hn3
    go_wp2_with fail
    refine HSM.out.mono ?_
    rintro e w5 ⟨⟨v, rfl, hv⟩, T5⟩
    have hvt : v = true := hv.2 (by first | exact HZZ.out | exact ⟨trivial, HZZ.out⟩)
    subst hvt
    have HT5 := hide (HT4.out.then T5)
    clear T5 hv
    go_wp2_with fail
    go_ret
    exact ⟨by simp, (HT1.out.then HT5.out).below (Nat.le_refl _) (fun _ _ f => f)⟩
end Go.Proofs.YtbijfoeaemceiaaGreatDoor
