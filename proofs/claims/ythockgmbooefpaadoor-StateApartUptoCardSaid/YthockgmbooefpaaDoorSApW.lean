/- Law 16, StateApart: the walk. Conditions: the commands can be read; no word has more than 2^40 bytes. -/
import Derived.Test.YthockgmbooefpaaDoorSCl
namespace Go.Proofs.YthockgmbooefpaaDoor
open Go.RowKit
set_option linter.unusedSectionVars false
set_option linter.unusedSimpArgs false
set_option linter.unusedVariables false

theorem tab_lt {w : World} {tb : Nat} {v : Value} {R : List SRow} (h : Tab w tb v R) {g : Nat} (hg : v.ownBlock = some g) : g < w.heap.size := (own_ty h.2 hg).lt

set_option maxRecDepth 100000 in
set_option maxHeartbeats 4000000 in
theorem sapart_walk (W : World) (hL : Lst W) (A : Option Addr) (n c : Nat) (T : List CmdP) (hT : T.length = n) (hR : Reads W 5 A n (cCells T)) (hWf : ∀ o ∈ T, o.Wf) (hm : n ≤ maxLen) (B : Option Addr) (m bc : Nat) (U : List CmdP) (hU : U.length = m) (hRU : Reads W 5 B m (cCells U)) (hWfU : ∀ o ∈ U, o.Wf) (hmU : m ≤ maxLen) :
    Calls Tryd.prog 5 #[.slice A n c, .slice B m bc] W fun e W' => e = .returned (.bool true) ∧ Touch (fun _ => False) W W' := by
  have HFEW := hide (fun w => few_any w A n c)
  have HFEU := hide (fun w => few_any w B m bc)
  have HAL := hide (fun (wx : World) (t : Touch (fun _ => False) W wx) => alive16_any wx (Lst.touch hL t))
  by_cases hbig : n ≤ 400
  · have k2 : decide ((n : Int) ≤ 400) = true := by simp; omega
    rw [k2] at HFEW
    by_cases hbigU : m ≤ 400
    · have k3 : decide ((m : Int) ≤ 400) = true := by simp; omega
      rw [k3] at HFEU
      have HBG := hide (begun_any W hL (Touch.refl _ _) A n c T hT hR hWf hbig)
      have HGO := hide (fun (wx : World) {s d tb : Nat} {v : Value} {L : List PRow} {q : Nat} {R : List SRow} (h : StY W wx s d tb v L q R) (sl : SL) (hl : RfL W.heap.size wx sl L) (A : Option Addr) (n c : Nat) (hr : RwL wx A n c R) => goes_any wx h sl hl A n c hr B m bc U hU hRU hWfU hbigU)
      clear hm hmU hbig hbigU k2 k3 hL hT hR hWf hU hRU hWfU
      go_enter Tryd.func5, Tryd.ntmps5
      go_wp2_with fail
      refine (HFEW.out _).mono ?_
      rintro e w0 ⟨rfl, rfl⟩
      go_wp2_with fail
      refine (HFEU.out _).mono ?_
      rintro e w0 ⟨rfl, rfl⟩
      go_wp2_with fail
      refine HBG.out.mono ?_
      rintro e w1 ⟨s, d, tb, ⟨jA, jn, jc, jL⟩, A1, n1, c1, v1, q1, rfl, hy1, hl1, hr1⟩
      obtain ⟨⟨Lj, Rj⟩, hLR⟩ : ∃ y, y = runS T ([], []) := ⟨_, rfl⟩
      rw [← hLR] at hy1 hl1 hr1
      simp only at hy1 hl1 hr1
      obtain ⟨w3, hw3⟩ : ∃ y, y = w1.alloc (.cells #[.slice jA jn jc, .slice A1 n1 c1] 39) := ⟨_, rfl⟩
      obtain ⟨g3, hg3⟩ : ∃ y, y = w1.heap.size := ⟨_, rfl⟩
      have T3 : Touch (fun _ => False) w1 w3 := by rw [hw3]; exact (Touch.refl _ _).alloc _
      have HB3 : Hid (Blk w3 g3 39 #[.slice jA jn jc, .slice A1 n1 c1]) := hide (by rw [hw3, hg3]; exact Blk.new _ _ _)
      have HY3 := hide (hy1.quiet T3)
      have HL3 := hide (hl1.quiet T3)
      have HR3 := hide (hr1.quiet T3)
      have HW3 := hide hw3
      have HG3 := hide hg3
      have HCL := hide (sclone_any w3 HY3.out.st)
      simp only [SL.val] at ⊢
      clear hy1 hl1 hr1 hw3 hg3 T3 HBG hLR
      go_upto_region 6 with fail
      rw [← HW3.out, ← HG3.out]
      go_wp2_with fail
      refine HCL.out.mono ?_
      rintro e w4 ⟨s', d', tb', v', rfl, hs4, hd4, ht4, hv4, T4⟩
      have hz := HY3.out.t.size
      have HYs4 := hide (HY3.out.quiet T4)
      have HYt4 : Hid (StY W w4 s' d' tb' v' Lj q1 Rj) := hide ⟨hs4, ⟨by omega, by omega, fun g hg => by have := hv4 g hg; omega⟩, HY3.out.t.then T4, HY3.out.lw⟩
      have HNE : Hid (¬ d = d' ∧ ¬ tb = tb' ∧ (∀ g, v1.ownBlock = some g → g < w3.heap.size) ∧ ∀ g, v'.ownBlock = some g → w3.heap.size ≤ g) := hide ⟨by have := HY3.out.st.dct.ty.lt; omega, by have := (blk_ty HY3.out.st.tab.1).lt; omega, fun g hg => tab_lt HY3.out.st.tab hg, hv4⟩
      have HL4 := hide (HL3.out.quiet T4)
      have HR4 := hide (HR3.out.quiet T4)
      have HB4 := hide (HB3.out.touch T4 (fun f => f))
      have HG1 := hide (HGO.out w4 HYt4.out ⟨jA, jn, jc, jL⟩ HL4.out A1 n1 c1 HR4.out)
      have HSZ : Hid (w3.heap.size ≤ w4.heap.size) := hide T4.size
      simp only [SL.val] at HG1
      clear hs4 hd4 ht4 hv4 T4 hz HCL
      obtain ⟨b0, b1, b2⟩ := HB4.out.facts
      go_wp2_with fail
      refine HG1.out.mono ?_
      rintro e w5 ⟨⟨kA, kn, kc, kL⟩, A5, n5, c5, rfl, ⟨v5, ⟨q5, hyt5⟩, hf5⟩, hl5, hr5, T5⟩
      obtain ⟨⟨Lk, Rk⟩, hLK⟩ : ∃ y, y = runS U (Lj, Rj) := ⟨_, rfl⟩
      rw [← hLK] at hyt5 hl5 hr5
      simp only at hyt5 hl5 hr5
      have HYs5 := hide (HYs4.out.other HYt4.out HNE.out.1 HNE.out.2.1 (fun g h1 h2 => by have := HNE.out.2.2.1 g h1; have := HNE.out.2.2.2 g h2; omega) T5)
      have HL5 := hide (RfL.stF HYt4.out HL4.out T5)
      have HR5 := hide (RwL.stF HYt4.out.st HR4.out T5)
      have HB5 := hide (HYt4.out.st.keep T5 HB4.out off_rst)
      have HN5 : Hid (∀ g, v5.ownBlock = some g → w3.heap.size ≤ g) := hide (fun g hg => by
        rcases hf5 with e | ⟨g', e, hg'⟩
        · exact HNE.out.2.2.2 g (by rw [← e]; exact hg)
        · rw [e] at hg
          injection hg with hg
          have := HSZ.out
          omega)
      obtain ⟨w6, hw6⟩ : ∃ y, y = w5.alloc (.cells #[.slice kA kn kc, .slice A5 n5 c5] 39) := ⟨_, rfl⟩
      obtain ⟨g6, hg6⟩ : ∃ y, y = w5.heap.size := ⟨_, rfl⟩
      have T6 : Touch (fun _ => False) w5 w6 := by rw [hw6]; exact (Touch.refl _ _).alloc _
      have HB6 : Hid (Blk w6 g6 39 #[.slice kA kn kc, .slice A5 n5 c5]) := hide (by rw [hw6, hg6]; exact Blk.new _ _ _)
      have HYt6 := hide (hyt5.quiet T6)
      have HLt6 := hide (hl5.quiet T6)
      have HRt6 := hide (hr5.quiet T6)
      have HYs6 := hide (HYs5.out.quiet T6)
      have HL6 := hide (HL5.out.quiet T6)
      have HR6 := hide (HR5.out.quiet T6)
      have HB36 := hide (HB5.out.touch T6 (fun f => f))
      have HW6 := hide hw6
      have HG6 := hide hg6
      have HS1 := hide (stands_any w6 HYs6.out.l HYs6.out.st W.heap.size ⟨jA, jn, jc, jL⟩ HL6.out A1 n1 c1 HR6.out)
      simp only [SL.val] at HS1 ⊢
      clear hyt5 hf5 hl5 hr5 T5 T6 hw6 hg6 hLK HG1 b0 b1 b2
      go_upto_region 10 with fail
      rw [← HW6.out, ← HG6.out]
      obtain ⟨b0, b1, b2⟩ := HB36.out.facts
      go_wp2_with fail
      refine HS1.out.mono ?_
      rintro e w7 ⟨rfl, T7⟩
      have HYt7 := hide (HYt6.out.quiet T7)
      have HLt7 := hide (HLt6.out.quiet T7)
      have HRt7 := hide (HRt6.out.quiet T7)
      have HYs7 := hide (HYs6.out.quiet T7)
      have HG2 := hide (HGO.out w7 HYs7.out ⟨jA, jn, jc, jL⟩ (HL6.out.quiet T7) A1 n1 c1 (HR6.out.quiet T7))
      have HB67 := hide (HB6.out.touch T7 (fun f => f))
      have HB37 := hide (HB36.out.touch T7 (fun f => f))
      simp only [SL.val] at HG2
      clear T7 HS1 b0 b1 b2
      obtain ⟨b0, b1, b2⟩ := HB37.out.facts
      go_wp2_with fail
      refine HG2.out.mono ?_
      rintro e w8 ⟨⟨lA, ln, lc, lL⟩, A8, n8, c8, rfl, ⟨v8, ⟨q8, hys8⟩, hf8⟩, hl8, hr8, T8⟩
      have HYt8 := hide (HYt7.out.other HYs7.out (fun e => HNE.out.1 e.symm) (fun e => HNE.out.2.1 e.symm) (fun g h1 h2 => by have := HNE.out.2.2.1 g h2; have := HN5.out g h1; omega) T8)
      have HLt8 := hide (RfL.stF HYs7.out HLt7.out T8)
      have HRt8 := hide (RwL.stF HYs7.out.st HRt7.out T8)
      have HB68 := hide (HYs7.out.st.keep T8 HB67.out off_rst)
      simp only [SL.val]
      clear hys8 hf8 hl8 hr8 T8 HG2 b0 b1 b2
      obtain ⟨w9, hw9⟩ : ∃ y, y = w8.alloc (.cells #[.slice lA ln lc, .slice A8 n8 c8] 39) := ⟨_, rfl⟩
      have T9 : Touch (fun _ => False) w8 w9 := by rw [hw9]; exact (Touch.refl _ _).alloc _
      have HYt9 := hide (HYt8.out.quiet T9)
      have HLt9 := hide (HLt8.out.quiet T9)
      have HRt9 := hide (HRt8.out.quiet T9)
      have HB69 := hide (HB68.out.touch T9 (fun f => f))
      have HW9 := hide hw9
      have HA9 := hide (HAL.out w9 HYt9.out.t)
      clear hw9 T9
      go_upto_region 12 with fail
      rw [← HW9.out]
      go_wp2_with fail
      refine HA9.out.mono ?_
      rintro e wA ⟨rfl, TA⟩
      have HYtA := hide (HYt9.out.quiet TA)
      have HBA := hide (HB69.out.touch TA (fun f => f))
      have HS2 := hide (stands_any wA HYtA.out.l HYtA.out.st W.heap.size ⟨kA, kn, kc, kL⟩ (HLt9.out.quiet TA) A5 n5 c5 (HRt9.out.quiet TA))
      simp only [SL.val] at HS2
      clear TA HA9
      obtain ⟨b0, b1, b2⟩ := HBA.out.facts
      go_wp2_with fail
      refine HS2.out.mono ?_
      rintro e wB ⟨rfl, TB⟩
      have HTB := hide (HYtA.out.t.then TB)
      clear TB HS2 b0 b1 b2
      go_wp2_with fail
      go_ret
      exact ⟨rfl, HTB.out⟩
    · have k3 : decide ((m : Int) ≤ 400) = false := by simp; omega
      rw [k3] at HFEU
      have HA2 := hide (HAL.out W (Touch.refl _ _))
      clear hm hmU hbig hbigU k2 k3 hL hT hR hWf hU hRU hWfU
      go_enter Tryd.func5, Tryd.ntmps5
      go_wp2_with fail
      refine (HFEW.out _).mono ?_
      rintro e w2 ⟨rfl, rfl⟩
      go_wp2_with fail
      refine (HFEU.out _).mono ?_
      rintro e w2 ⟨rfl, rfl⟩
      go_wp2_with fail
      refine HA2.out.mono ?_
      rintro e w3 ⟨rfl, T3⟩
      have HT3 := hide T3
      clear T3
      go_wp2_with fail
      go_ret
      exact ⟨rfl, HT3.out⟩
  · have k2 : decide ((n : Int) ≤ 400) = false := by simp; omega
    rw [k2] at HFEW
    have HA2 := hide (HAL.out W (Touch.refl _ _))
    clear hm hmU hbig k2 hL hT hR hWf hU hRU hWfU
    go_enter Tryd.func5, Tryd.ntmps5
    go_wp2_with fail
    refine (HFEW.out _).mono ?_
    rintro e w2 ⟨rfl, rfl⟩
    go_wp2_with fail
    refine HA2.out.mono ?_
    rintro e w3 ⟨rfl, T3⟩
    have HT3 := hide T3
    clear T3
    go_wp2_with fail
    go_ret
    exact ⟨rfl, HT3.out⟩

end Go.Proofs.YthockgmbooefpaaDoor
