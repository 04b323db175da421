/- Law 16, StateAll: the walk. Conditions: the commands can be read; no word has more than 2^40 bytes. -/
import Derived.Test.YthockgmbooefpaaDoorDS
namespace Go.Proofs.YthockgmbooefpaaDoor
open Go.RowKit
set_option linter.unusedSectionVars false
set_option linter.unusedSimpArgs false
set_option linter.unusedVariables false

set_option maxRecDepth 100000 in
set_option maxHeartbeats 4000000 in
theorem sall_walk (W : World) (hL : Lst W) (A : Option Addr) (n c : Nat) (T : List CmdP) (hT : T.length = n) (hR : Reads W 5 A n (cCells T)) (hWf : ∀ o ∈ T, o.Wf) (hm : n ≤ maxLen) :
    Calls Tryd.prog 4 #[.slice A n c] W fun e W' => e = .returned (.bool true) ∧ Touch (fun _ => False) W W' := by
  have HFEW := hide (fun w => few_any w A n c)
  have HAL := hide (fun (wx : World) (t : Touch (fun _ => False) W wx) => alive16_any wx (Lst.touch hL t))
  by_cases hbig : n ≤ 400
  · have k2 : decide ((n : Int) ≤ 400) = true := by simp; omega
    rw [k2] at HFEW
    have HBG := hide (begun_any W hL (Touch.refl _ _) A n c T hT hR hWf hbig)
    clear hm hbig k2 hL hT hR hWf
    go_enter Tryd.func4, Tryd.ntmps4
    go_wp2_with fail
    refine (HFEW.out _).mono ?_
    rintro e w2 ⟨rfl, rfl⟩
    go_wp2_with fail
    refine HBG.out.mono ?_
    rintro e w1 ⟨s, d, tb, ⟨jA, jn, jc, jL⟩, A1, n1, c1, v1, q1, rfl, hy1, hl1, hr1⟩
    obtain ⟨⟨Lj, Rj⟩, hLR⟩ : ∃ y, y = runS T ([], []) := ⟨_, rfl⟩
    rw [← hLR] at hy1 hl1 hr1
    simp only [SL.val] at hy1 hl1 hr1 ⊢
    obtain ⟨w3, hw3⟩ : ∃ y, y = w1.alloc (.cells #[.slice jA jn jc, .slice A1 n1 c1] 39) := ⟨_, rfl⟩
    obtain ⟨g3, hg3⟩ : ∃ y, y = w1.heap.size := ⟨_, rfl⟩
    have T3 : Touch (fun _ => False) w1 w3 := by rw [hw3]; exact (Touch.refl _ _).alloc _
    have HB3 : Hid (Blk w3 g3 39 #[.slice jA jn jc, .slice A1 n1 c1]) := hide (by rw [hw3, hg3]; exact Blk.new _ _ _)
    have HY3 := hide (hy1.quiet T3)
    have HL3 := hide (hl1.quiet T3)
    have HR3 := hide (hr1.quiet T3)
    have HW3 := hide hw3
    have HG3 := hide hg3
    have HA3 := hide (HAL.out w3 HY3.out.t)
    clear hy1 hl1 hr1 hw3 hg3 T3 HBG hLR
    go_upto_region 4 with fail
    rw [← HW3.out, ← HG3.out]
    go_wp2_with fail
    refine HA3.out.mono ?_
    rintro e w4 ⟨rfl, T4⟩
    have HB4 := hide (HB3.out.touch T4 (fun f => f))
    have HY4 := hide (HY3.out.quiet T4)
    have HST := hide (stands_any w4 HY4.out.l HY4.out.st W.heap.size ⟨jA, jn, jc, jL⟩ (HL3.out.quiet T4) A1 n1 c1 (HR3.out.quiet T4))
    simp only [SL.val] at HST
    clear T4 HA3
    obtain ⟨b0, b1, b2⟩ := HB4.out.facts
    go_wp2_with fail
    refine HST.out.mono ?_
    rintro e w5 ⟨rfl, T5⟩
    have HT5 := hide (HY4.out.t.then T5)
    clear T5 HST b0 b1 b2
    go_wp2_with fail
    go_ret
    exact ⟨rfl, HT5.out⟩
  · have k2 : decide ((n : Int) ≤ 400) = false := by simp; omega
    rw [k2] at HFEW
    have HA2 := hide (HAL.out W (Touch.refl _ _))
    clear hm hbig k2 hL hT hR hWf
    go_enter Tryd.func4, Tryd.ntmps4
    go_wp2_with fail
    refine (HFEW.out _).mono ?_
    rintro e w2 ⟨rfl, rfl⟩
    go_wp2_with fail
    refine HA2.out.mono ?_
    rintro e w3 ⟨rfl, T3⟩
    have HT3 := hide T3
    clear T3
    go_wp2_with fail
    go_ret
    exact ⟨rfl, HT3.out⟩

end Go.Proofs.YthockgmbooefpaaDoor
