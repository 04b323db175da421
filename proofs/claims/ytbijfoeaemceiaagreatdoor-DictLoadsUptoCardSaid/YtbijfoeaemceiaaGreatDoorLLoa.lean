/- Law 14: the walk of DictLoads. Conditions: the arguments can be read; no word has more than 2^40 bytes. -/
import Derived.Test.YtbijfoeaemceiaaGreatDoorM43
import Derived.Test.YtbijfoeaemceiaaGreatDoorM44
namespace Go.Proofs.YtbijfoeaemceiaaGreatDoor
open Go.RowKit
set_option linter.unusedSectionVars false
set_option linter.unusedSimpArgs false
set_option linter.unusedVariables false
set_option maxRecDepth 100000 in
set_option maxHeartbeats 4000000 in
theorem dloads_walk (W : World) (hL : Lst W) (s : SL) (hs : s.Ok W) (hWz : ∀ r ∈ s.L, r.word.size ≤ 1099511627776) (hn : s.n ≤ maxLen) :
    Calls Tryz.prog 3 #[s.val] W fun e W' => e = .returned (.bool true) ∧ Below W.heap.size W W' := by
  have HLD := hide (dload_any W hL s hs hWz hn)
  have HRB := hide (fun (wx : World) (t : Touch (fun _ => False) W wx) => rbuild_any wx s (hs.touch t) hWz hn)
  have HRI := hide (rfl_in hs)
  have HAL0 := hide (alive14_any W hL)
  have HL := hide hL
  obtain ⟨sA, sn, sc, sL⟩ := s
  simp only [SL.val] at HLD HRB HRI ⊢
  clear hL hs hWz hn
  by_cases hsz : 300 < sn ∧ sn ≤ 4096
  · have k2 : (300 : Int) < (sn : Int) := by omega
    have k3 : (sn : Int) ≤ 4096 := by omega
    clear hsz
    go_enter Tryz.func3, Tryz.ntmps3
    go_wp2_with fail
    refine HAL0.out.mono ?_
    rintro e w2 ⟨rfl, T2⟩
    have HT2 := hide T2
    clear T2
    go_wp2_with fail
    go_ret
    exact ⟨by simp, HT2.out.below (Nat.le_refl _) (fun _ _ f => f)⟩
  · have hcs : ¬ (300 : Int) < (sn : Int) ∨ ((300 : Int) < (sn : Int) ∧ ¬ (sn : Int) ≤ 4096) := by omega
    clear hsz
    rcases hcs with k2 | ⟨k2, k3⟩
    all_goals
      go_enter Tryz.func3, Tryz.ntmps3
      go_wp2_with fail
      refine HLD.out.mono ?_
      rintro e w1 (⟨hr, ⟨k, ⟨hk, hke⟩, rfl⟩, T1⟩ | ⟨hr, d, rfl, hd, hdl, T1⟩)
      · have HT1 := hide T1
        have HR1 := hide (HRB.out w1 T1)
        have HR := hide hr
        have b1 : (k == 0) = false := by simp; omega
        have b2 : ¬ k = 0 := by omega
        have HKE := hide hke
        clear T1 hr HLD hk hke
        go_wp2_with fail
        refine HR1.out.mono ?_
        rintro e w2 ⟨T2, ⟨_, k', ⟨_, hke'⟩, rfl⟩ | ⟨hr2, _⟩⟩
        · have hkk : k' = k := hke'.trans HKE.out.symm
          subst hkk
          have hT3 : Touch (fun _ => False) w2 (w2.alloc (.cells #[.int .i64 0, .slice none 0 0] 30)) := (Touch.refl _ _).alloc _
          have HT3 := hide ((HT1.out.then T2).then hT3)
          have HAL := hide (alive14_any _ (Lst.touch HL.out HT3.out))
          clear T2 hke' HR1 hT3
          go_wp2_with fail
          refine HAL.out.mono ?_
          rintro e w4 ⟨rfl, T4⟩
          have HT4 := hide (HT3.out.then T4)
          clear T4
          go_wp2_with fail
          go_ret
          exact ⟨by simp, HT4.out.below (Nat.le_refl _) (fun _ _ f => f)⟩
        · rw [HR.out] at hr2
          cases hr2
      · have HT1 := hide T1
        have HR1 := hide (HRB.out w1 T1)
        have HR := hide hr
        have HD := hide hd
        clear T1 hr hd hdl HLD
        go_wp2_with fail
        refine HR1.out.mono ?_
        rintro e w2 ⟨T2, ⟨hr2, _⟩ | ⟨_, A, n, c, Z, rfl, _⟩⟩
        · rw [HR.out] at hr2
          cases hr2
        · obtain ⟨bs, hbs⟩ : ∃ b, b = (mach sL).base := ⟨_, rfl⟩
          rw [← hbs]
          have hT3 : Touch (fun _ => False) w2 (w2.alloc (.cells #[.int .i64 bs, .slice A n c] 30)) := (Touch.refl _ _).alloc _
          have HT12 := hide (T2.then hT3)
          have HT3 := hide (HT1.out.then (T2.then hT3))
          have HAL := hide (alive14_any _ (Lst.touch HL.out HT3.out))
          clear T2 HR1 hT3 hbs
          go_wp2_with fail
          refine HAL.out.mono ?_
          rintro e w4 ⟨rfl, T4⟩
          have HT4 := hide (HT3.out.then T4)
          have HD4 := hide (HD.out.quiet (HT12.out.then T4))
          have HSD := hide (stands_any w4 (Lst.touch HL.out HT4.out) HD4.out W.heap.size ⟨sA, sn, sc, sL⟩ (HRI.out.quiet HT4.out))
          simp only [SL.val] at HSD
          clear T4 HAL
          go_wp2_with fail
          refine HSD.out.mono ?_
          rintro e w5 ⟨rfl, T5⟩
          have HT5 := hide (HT4.out.then T5)
          have HCH := hide (changes_any w5 (HD4.out.quiet T5))
          clear T5 HSD
          go_wp2_with fail
          refine HCH.out.mono ?_
          rintro e w6 ⟨rfl, T6⟩
          have HT6 := hide (HT5.out.then T6)
          clear T6
          go_wp2_with fail
          go_ret
          exact ⟨by simp, HT6.out.below (Nat.le_refl _) (fun _ _ f => f)⟩
end Go.Proofs.YtbijfoeaemceiaaGreatDoor
