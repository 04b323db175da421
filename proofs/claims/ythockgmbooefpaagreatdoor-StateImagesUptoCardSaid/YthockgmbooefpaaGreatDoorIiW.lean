/- Law 16, StateImages: the walk. Conditions: the commands can be read; no word has more than 2^40 bytes. -/
import Derived.Test.YthockgmbooefpaaGreatDoorJ50
import Derived.Test.YthockgmbooefpaaGreatDoorJ36
import Derived.Test.YthockgmbooefpaaGreatDoorJ39
namespace Go.Proofs.YthockgmbooefpaaGreatDoor
open Go.RowKit
set_option linter.unusedSectionVars false
set_option linter.unusedSimpArgs false
set_option linter.unusedVariables false

set_option maxRecDepth 100000 in
set_option maxHeartbeats 8000000 in
theorem simages_walk (W : World) (hL : Lst W) (A : Option Addr) (n c : Nat) (T : List CmdP) (hT : T.length = n) (hR : Reads W 5 A n (cCells T)) (hWf : ∀ o ∈ T, o.Wf) (hIn : ∀ o ∈ T, o.In) (hm : n ≤ maxLen) :
    Calls Tryz.prog 5 #[.slice A n c] W fun e W' => e = .returned (.bool true) ∧ Touch (fun _ => False) W W' := by
  have HFEW := hide (fun w => few_any w A n c)
  have HAL := hide (fun (wx : World) (t : Touch (fun _ => False) W wx) => alive16_any wx (Lst.touch hL t))
  by_cases hbig : n ≤ 400
  · have k2 : decide ((n : Int) ≤ 400) = true := by simp; omega
    rw [k2] at HFEW
    have HBG := hide (begun_any W hL (Touch.refl _ _) A n c T hT hR hWf hbig)
    have hri := runS_in dict_nil (R := []) (fun r hr => by cases hr) T hIn
    have hdc := runS_dict dict_nil [] T
    clear hm hbig k2 hL hT hR hWf hIn
    go_enter Tryz.func5, Tryz.ntmps5
    go_wp2_with fail
    refine (HFEW.out _).mono ?_
    rintro e w2 ⟨rfl, rfl⟩
    go_wp2_with fail
    refine HBG.out.mono ?_
    rintro e w1 ⟨s, d, tb, ⟨jA, jn, jc, jL⟩, A1, n1, c1, v1, q1, rfl, hy1, hl1, hr1⟩
    obtain ⟨⟨Lj, Rj⟩, hLR⟩ : ∃ y, y = runS T ([], []) := ⟨_, rfl⟩
    rw [← hLR] at hy1 hl1 hr1 hri hdc
    simp only [SL.val] at hy1 hl1 hr1 hri hdc ⊢
    obtain ⟨w8, hw8⟩ : ∃ y, y = w1.alloc (.cells #[.slice jA jn jc, .slice A1 n1 c1] 56) := ⟨_, rfl⟩
    obtain ⟨sb, hsb⟩ : ∃ y, y = w1.heap.size := ⟨_, rfl⟩
    have T8 : Touch (fun _ => False) w1 w8 := by rw [hw8]; exact (Touch.refl _ _).alloc _
    have HSB8 : Hid (Blk w8 sb 56 #[.slice jA jn jc, .slice A1 n1 c1]) := hide (by rw [hw8, hsb]; exact Blk.new _ _ _)
    have HY8 := hide (hy1.quiet T8)
    have HL8 := hide (hl1.quiet T8)
    have HR8 := hide (hr1.quiet T8)
    have HRI := hide hri
    have HDC := hide hdc
    have HW8 := hide hw8
    have HB8 := hide hsb
    obtain ⟨im, him⟩ : ∃ y, y = imgB Lj Rj := ⟨_, rfl⟩
    have HIM := hide him
    have hrim := fun (wx : World) (h : RfL W.heap.size wx ⟨jA, jn, jc, jL⟩ Lj ∧ RwL wx A1 n1 c1 Rj) => rimage_any wx W.heap.size h.1 HDC.out h.2 HRI.out
    simp only [SL.val, ← him] at hrim
    have HRIM := hide hrim
    have HSL : Hid (∀ wx, Touch (fun _ => False) w8 wx → RfL W.heap.size wx ⟨jA, jn, jc, jL⟩ Lj ∧ RwL wx A1 n1 c1 Rj) := hide (fun wx T => ⟨HL8.out.quiet T, HR8.out.quiet T⟩)
    have HS8 : Hid (∀ wx, Blk wx sb 56 #[.slice jA jn jc, .slice A1 n1 c1] → wx.cell? ⟨sb, 0, none⟩ = some (.slice jA jn jc) ∧ wx.cell? ⟨sb, 1, none⟩ = some (.slice A1 n1 c1)) := hide (fun wx h1 => ⟨(h1.cell 0).trans rfl, (h1.cell 1).trans rfl⟩)
    clear hy1 hl1 hr1 hw8 hsb T8 HBG hLR hri hdc him hrim
    go_upto_region 4 with fail
    rw [← HW8.out, ← HB8.out]
    refine wp_region_held_drew (S := fun wx => wx.cell? ⟨sb, 0, none⟩ = some (.slice jA jn jc) ∧ wx.cell? ⟨sb, 1, none⟩ = some (.slice A1 n1 c1)) (by kernel_rfl) (HS8.out _ (HSB8.out.drew)) (fun hHeld => ?_)
    refine wpAnyH_ready (rs := [0]) (by kernel_rfl) (by simp) ?_
    refine AllReadyH.cons rfl (fun K hK => ?_) AllReadyH.nil
    go_simp
    refine (HAL.out w8.drew (HY8.out.t.then (Touch.refl _ _).drew)).mono ?_
    rintro e w9 ⟨rfl, T9⟩
    have HT9 := hide ((Touch.refl (fun _ => False) w8).drew.then T9)
    have HSBb := hide (HSB8.out.touch HT9.out (fun f => f))
    clear T9
    go_simp
    refine hK.out _ _ (HS8.out _ HSBb.out) (fun hHeld => ?_)
    clear hK K
    try simp only [List.getElem_toArray, List.getElem_cons_succ, List.getElem_cons_zero, Act.put, List.setIfInBounds_toArray, List.set_cons_zero, List.set_cons_succ]
    refine wpAnyH_take (i := 1) (v := ?v1) rfl (by kernel_rfl) (by kernel_rfl) (by kernel_rfl) (fun _ _ _ h => h) (Or.inl ⟨by kernel_rfl, ?h1⟩) hHeld ?_
    case h1 => rintro wq ⟨s0, s1⟩; go_simp; with_reducible rfl
    simp only [List.getElem_toArray, List.getElem_cons_succ, List.getElem_cons_zero, Act.put, List.setIfInBounds_toArray, List.set_cons_zero, List.set_cons_succ]
    refine wpAnyH_take (i := 2) (v := ?v2) rfl (by kernel_rfl) (by kernel_rfl) (by kernel_rfl) (fun _ _ _ h => h) (Or.inl ⟨by kernel_rfl, ?h2⟩) hHeld ?_
    case h2 => rintro wq ⟨s0, s1⟩; go_simp; with_reducible rfl
    simp only [List.getElem_toArray, List.getElem_cons_succ, List.getElem_cons_zero, Act.put, List.setIfInBounds_toArray, List.set_cons_zero, List.set_cons_succ]
    refine wpAnyH_take (i := 3) (v := ?v3) rfl (by kernel_rfl) (by kernel_rfl) (by kernel_rfl) (fun _ _ _ h => h) (Or.inl ⟨by kernel_rfl, ?h3⟩) hHeld ?_
    case h3 => rintro wq ⟨s0, s1⟩; go_simp; with_reducible rfl
    simp only [List.getElem_toArray, List.getElem_cons_succ, List.getElem_cons_zero, Act.put, List.setIfInBounds_toArray, List.set_cons_zero, List.set_cons_succ]
    refine wpAnyH_take (i := 4) (v := ?v4) rfl (by kernel_rfl) (by kernel_rfl) (by kernel_rfl) (fun _ _ _ h => h) (Or.inl ⟨by kernel_rfl, ?h4⟩) hHeld ?_
    case h4 => rintro wq ⟨s0, s1⟩; go_simp; with_reducible rfl
    simp only [List.getElem_toArray, List.getElem_cons_succ, List.getElem_cons_zero, Act.put, List.setIfInBounds_toArray, List.set_cons_zero, List.set_cons_succ]
    refine wpAnyH_take (i := 5) (v := ?v5) rfl (by kernel_rfl) (by kernel_rfl) (by kernel_rfl) (fun _ _ _ h => h) (Or.inl ⟨by kernel_rfl, ?h5⟩) hHeld ?_
    case h5 => rintro wq ⟨s0, s1⟩; go_simp; with_reducible rfl
    simp only [List.getElem_toArray, List.getElem_cons_succ, List.getElem_cons_zero, Act.put, List.setIfInBounds_toArray, List.set_cons_zero, List.set_cons_succ]
    refine wpAnyH_take (i := 8) (v := ?v8) rfl (by kernel_rfl) (by kernel_rfl) (by kernel_rfl) (fun _ _ _ h => h) (Or.inl ⟨by kernel_rfl, ?h8⟩) hHeld ?_
    case h8 => rintro wq ⟨s0, s1⟩; go_simp; with_reducible rfl
    simp only [List.getElem_toArray, List.getElem_cons_succ, List.getElem_cons_zero, Act.put, List.setIfInBounds_toArray, List.set_cons_zero, List.set_cons_succ]
    refine wpAnyH_ready (rs := [6]) (by kernel_rfl) (by simp) ?_
    refine AllReadyH.cons rfl (fun K hK => ?_) AllReadyH.nil
    go_simp
    refine (image_any w9 (Lst.touch HY8.out.l HT9.out) (HY8.out.st.quiet HT9.out) HRI.out).mono ?_
    rintro e w11 ⟨AI, qI, cI, rfl, hoI⟩
    rw [← HIM.out] at hoI
    have HOI := hide hoI
    have HTI := hide (HT9.out.then hoI.touch)
    have HSBc := hide (HSB8.out.touch HTI.out (fun f => f))
    clear hoI
    go_simp
    refine hK.out _ _ (HS8.out _ HSBc.out) (fun hHeld => ?_)
    clear hK K
    try simp only [List.getElem_toArray, List.getElem_cons_succ, List.getElem_cons_zero, Act.put, List.setIfInBounds_toArray, List.set_cons_zero, List.set_cons_succ]
    refine wpAnyH_ready (rs := [7, 9]) (by kernel_rfl) (by simp) ?_
    refine AllReadyH.cons rfl (fun K hK => ?_) (AllReadyH.cons rfl (fun K hK => ?_) AllReadyH.nil)
    · rw [if_pos (by rfl)]
      refine wp_conv_run 50 9 (.tmp 22) rfl (.slice AI qI cI) _ rfl (conv_img w11 AI qI cI im (HOI.out).own) ?_
      refine hK.out _ _ (HS8.out _ HSBc.out) (fun hHeld => ?_)
      clear hK K
      try simp only [List.getElem_toArray, List.getElem_cons_succ, List.getElem_cons_zero, Act.put, List.setIfInBounds_toArray, List.set_cons_zero, List.set_cons_succ]
      refine wpAnyH_ready (rs := [9]) (by kernel_rfl) (by simp) ?_
      refine AllReadyH.cons rfl (fun K hK => ?_) AllReadyH.nil
      go_simp
      refine (HRIM.out w11 (HSL.out w11 HTI.out)).mono ?_
      rintro e w12 ⟨AJ, qJ, cJ, rfl, hoJ⟩
      have HOJ := hide hoJ
      have HSBd := hide (HSBc.out.touch hoJ.touch (fun f => f))
      clear hoJ
      go_simp
      refine hK.out _ _ (HS8.out _ HSBd.out) (fun hHeld => ?_)
      clear hK K
      try simp only [List.getElem_toArray, List.getElem_cons_succ, List.getElem_cons_zero, Act.put, List.setIfInBounds_toArray, List.set_cons_zero, List.set_cons_succ]
      refine wpAnyH_ready (rs := [10]) (by kernel_rfl) (by simp) ?_
      refine AllReadyH.cons rfl (fun K hK => ?_) AllReadyH.nil
      rw [if_pos (by rfl)]
      refine wp_conv_run 50 9 (.tmp 25) rfl (.slice AJ qJ cJ) _ rfl (conv_img w12 AJ qJ cJ im (HOJ.out).own) ?_
      refine hK.out _ _ (HS8.out _ HSBd.out) (fun hHeld => ?_)
      clear hK K
      try simp only [List.getElem_toArray, List.getElem_cons_succ, List.getElem_cons_zero, Act.put, List.setIfInBounds_toArray, List.set_cons_zero, List.set_cons_succ]
      refine wpAnyH_take (i := 11) (v := ?va11) rfl (by kernel_rfl) (by kernel_rfl) (by kernel_rfl) (fun _ _ _ h => h) (Or.inl ⟨by kernel_rfl, ?ha11⟩) hHeld ?_
      case ha11 => rintro wq ⟨s0, s1⟩; go_simp; with_reducible rfl
      simp only [List.getElem_toArray, List.getElem_cons_succ, List.getElem_cons_zero, Act.put, List.setIfInBounds_toArray, List.set_cons_zero, List.set_cons_succ]
      refine wpAnyH_take (i := 12) (v := ?va12) rfl (by kernel_rfl) (by kernel_rfl) (by kernel_rfl) (fun _ _ _ h => h) (Or.inl ⟨by kernel_rfl, ?ha12⟩) hHeld ?_
      case ha12 => rintro wq ⟨s0, s1⟩; go_simp; with_reducible rfl
      simp only [List.getElem_toArray, List.getElem_cons_succ, List.getElem_cons_zero, Act.put, List.setIfInBounds_toArray, List.set_cons_zero, List.set_cons_succ]
      refine wpAnyH_take (i := 13) (v := ?va13) rfl (by kernel_rfl) (by kernel_rfl) (by kernel_rfl) (fun _ _ _ h => h) (Or.inl ⟨by kernel_rfl, ?ha13⟩) hHeld ?_
      case ha13 => rintro wq ⟨s0, s1⟩; go_simp; with_reducible rfl
      simp only [List.getElem_toArray, List.getElem_cons_succ, List.getElem_cons_zero, Act.put, List.setIfInBounds_toArray, List.set_cons_zero, List.set_cons_succ]
      refine wpAnyH_done (by kernel_rfl) ?_ _
      go_wp2_with fail
      go_ret
      exact ⟨rfl, (HY8.out.t.then (HTI.out.then HOJ.out.touch))⟩
    · go_simp
      refine (HRIM.out w11 (HSL.out w11 HTI.out)).mono ?_
      rintro e w12 ⟨AJ, qJ, cJ, rfl, hoJ⟩
      have HOJ := hide hoJ
      have HSBd := hide (HSBc.out.touch hoJ.touch (fun f => f))
      clear hoJ
      go_simp
      refine hK.out _ _ (HS8.out _ HSBd.out) (fun hHeld => ?_)
      clear hK K
      try simp only [List.getElem_toArray, List.getElem_cons_succ, List.getElem_cons_zero, Act.put, List.setIfInBounds_toArray, List.set_cons_zero, List.set_cons_succ]
      refine wpAnyH_ready (rs := [7, 10]) (by kernel_rfl) (by simp) ?_
      refine AllReadyH.cons rfl (fun K hK => ?_) (AllReadyH.cons rfl (fun K hK => ?_) AllReadyH.nil)
      · rw [if_pos (by rfl)]
        refine wp_conv_run 50 9 (.tmp 22) rfl (.slice AI qI cI) _ rfl (conv_img w12 AI qI cI im (HOI.out.to HOJ.out.touch).own) ?_
        refine hK.out _ _ (HS8.out _ HSBd.out) (fun hHeld => ?_)
        clear hK K
        try simp only [List.getElem_toArray, List.getElem_cons_succ, List.getElem_cons_zero, Act.put, List.setIfInBounds_toArray, List.set_cons_zero, List.set_cons_succ]
        refine wpAnyH_ready (rs := [10]) (by kernel_rfl) (by simp) ?_
        refine AllReadyH.cons rfl (fun K hK => ?_) AllReadyH.nil
        rw [if_pos (by rfl)]
        refine wp_conv_run 50 9 (.tmp 25) rfl (.slice AJ qJ cJ) _ rfl (conv_img w12 AJ qJ cJ im (HOJ.out).own) ?_
        refine hK.out _ _ (HS8.out _ HSBd.out) (fun hHeld => ?_)
        clear hK K
        try simp only [List.getElem_toArray, List.getElem_cons_succ, List.getElem_cons_zero, Act.put, List.setIfInBounds_toArray, List.set_cons_zero, List.set_cons_succ]
        refine wpAnyH_take (i := 11) (v := ?vb11) rfl (by kernel_rfl) (by kernel_rfl) (by kernel_rfl) (fun _ _ _ h => h) (Or.inl ⟨by kernel_rfl, ?hb11⟩) hHeld ?_
        case hb11 => rintro wq ⟨s0, s1⟩; go_simp; with_reducible rfl
        simp only [List.getElem_toArray, List.getElem_cons_succ, List.getElem_cons_zero, Act.put, List.setIfInBounds_toArray, List.set_cons_zero, List.set_cons_succ]
        refine wpAnyH_take (i := 12) (v := ?vb12) rfl (by kernel_rfl) (by kernel_rfl) (by kernel_rfl) (fun _ _ _ h => h) (Or.inl ⟨by kernel_rfl, ?hb12⟩) hHeld ?_
        case hb12 => rintro wq ⟨s0, s1⟩; go_simp; with_reducible rfl
        simp only [List.getElem_toArray, List.getElem_cons_succ, List.getElem_cons_zero, Act.put, List.setIfInBounds_toArray, List.set_cons_zero, List.set_cons_succ]
        refine wpAnyH_take (i := 13) (v := ?vb13) rfl (by kernel_rfl) (by kernel_rfl) (by kernel_rfl) (fun _ _ _ h => h) (Or.inl ⟨by kernel_rfl, ?hb13⟩) hHeld ?_
        case hb13 => rintro wq ⟨s0, s1⟩; go_simp; with_reducible rfl
        simp only [List.getElem_toArray, List.getElem_cons_succ, List.getElem_cons_zero, Act.put, List.setIfInBounds_toArray, List.set_cons_zero, List.set_cons_succ]
        refine wpAnyH_done (by kernel_rfl) ?_ _
        go_wp2_with fail
        go_ret
        exact ⟨rfl, (HY8.out.t.then (HTI.out.then HOJ.out.touch))⟩
      · rw [if_pos (by rfl)]
        refine wp_conv_run 50 9 (.tmp 25) rfl (.slice AJ qJ cJ) _ rfl (conv_img w12 AJ qJ cJ im (HOJ.out).own) ?_
        refine hK.out _ _ (HS8.out _ HSBd.out) (fun hHeld => ?_)
        clear hK K
        try simp only [List.getElem_toArray, List.getElem_cons_succ, List.getElem_cons_zero, Act.put, List.setIfInBounds_toArray, List.set_cons_zero, List.set_cons_succ]
        refine wpAnyH_ready (rs := [7]) (by kernel_rfl) (by simp) ?_
        refine AllReadyH.cons rfl (fun K hK => ?_) AllReadyH.nil
        rw [if_pos (by rfl)]
        refine wp_conv_run 50 9 (.tmp 22) rfl (.slice AI qI cI) _ rfl (conv_img w12 AI qI cI im (HOI.out.to HOJ.out.touch).own) ?_
        refine hK.out _ _ (HS8.out _ HSBd.out) (fun hHeld => ?_)
        clear hK K
        try simp only [List.getElem_toArray, List.getElem_cons_succ, List.getElem_cons_zero, Act.put, List.setIfInBounds_toArray, List.set_cons_zero, List.set_cons_succ]
        refine wpAnyH_take (i := 11) (v := ?vc11) rfl (by kernel_rfl) (by kernel_rfl) (by kernel_rfl) (fun _ _ _ h => h) (Or.inl ⟨by kernel_rfl, ?hc11⟩) hHeld ?_
        case hc11 => rintro wq ⟨s0, s1⟩; go_simp; with_reducible rfl
        simp only [List.getElem_toArray, List.getElem_cons_succ, List.getElem_cons_zero, Act.put, List.setIfInBounds_toArray, List.set_cons_zero, List.set_cons_succ]
        refine wpAnyH_take (i := 12) (v := ?vc12) rfl (by kernel_rfl) (by kernel_rfl) (by kernel_rfl) (fun _ _ _ h => h) (Or.inl ⟨by kernel_rfl, ?hc12⟩) hHeld ?_
        case hc12 => rintro wq ⟨s0, s1⟩; go_simp; with_reducible rfl
        simp only [List.getElem_toArray, List.getElem_cons_succ, List.getElem_cons_zero, Act.put, List.setIfInBounds_toArray, List.set_cons_zero, List.set_cons_succ]
        refine wpAnyH_take (i := 13) (v := ?vc13) rfl (by kernel_rfl) (by kernel_rfl) (by kernel_rfl) (fun _ _ _ h => h) (Or.inl ⟨by kernel_rfl, ?hc13⟩) hHeld ?_
        case hc13 => rintro wq ⟨s0, s1⟩; go_simp; with_reducible rfl
        simp only [List.getElem_toArray, List.getElem_cons_succ, List.getElem_cons_zero, Act.put, List.setIfInBounds_toArray, List.set_cons_zero, List.set_cons_succ]
        refine wpAnyH_done (by kernel_rfl) ?_ _
        go_wp2_with fail
        go_ret
        exact ⟨rfl, (HY8.out.t.then (HTI.out.then HOJ.out.touch))⟩
  · have k2 : decide ((n : Int) ≤ 400) = false := by simp; omega
    rw [k2] at HFEW
    have HA2 := hide (HAL.out W (Touch.refl _ _))
    clear hm hbig k2 hL hT hR hWf hIn
    go_enter Tryz.func5, Tryz.ntmps5
    go_wp2_with fail
    refine (HFEW.out _).mono ?_
    rintro e w2 ⟨rfl, rfl⟩
    go_wp2_with fail
    refine HA2.out.mono ?_
    rintro e w3 ⟨rfl, T3⟩
    have HT3 := hide T3
    clear T3
    go_wp2_with fail
    go_ret
    exact ⟨rfl, HT3.out⟩

end Go.Proofs.YthockgmbooefpaaGreatDoor
