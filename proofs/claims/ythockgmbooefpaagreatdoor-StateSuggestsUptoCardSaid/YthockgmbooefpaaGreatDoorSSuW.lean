/- Law 16, StateSuggests: the walk. Conditions: the commands can be read; no word has more than 2^40 bytes. -/
import Derived.Test.YthockgmbooefpaaGreatDoorT39
namespace Go.Proofs.YthockgmbooefpaaGreatDoor
open Go.RowKit
set_option linter.unusedSectionVars false
set_option linter.unusedSimpArgs false
set_option linter.unusedVariables false
set_option maxRecDepth 100000 in
set_option maxHeartbeats 4000000 in
theorem ssug_any (w : World) (hL : Lst w) {s d tb : Nat} {v : Value} {L : List PRow} {q : Nat} {R : List SRow} (h : StX w s d tb v L q R) (a : ByteArray) (ha : a.size ≤ 9223372036854775807) (k y : Int) :
    Calls Tryz.prog 13 #[ptrV s, .agg #[.string a, .int .i64 k, .int .i64 y]] w (SugPost w L a.toList k y) := by
  obtain ⟨wa, hwa⟩ : ∃ z, z = w.alloc (.cells #[.string a, .int .i64 k, .int .i64 y] 24) := ⟨_, rfl⟩
  obtain ⟨qb, hqb⟩ : ∃ z, z = w.heap.size := ⟨_, rfl⟩
  have hTa : Touch (fun _ => False) w wa := by rw [hwa]; exact (Touch.refl _ _).alloc _
  have HQB : Hid (Blk wa qb 24 #[.string a, .int .i64 k, .int .i64 y]) := hide (by rw [hwa, hqb]; exact Blk.new _ _ _)
  have HH := hide (h.quiet hTa)
  have hc := fun (wx : World) (T : Touch (fun _ => False) wa wx) => dsug_any wx (Lst.touch hL (hTa.then T)) (HH.out.quiet T).dct a ha k y
  obtain ⟨F, hF⟩ : ∃ F, F = sugP L a.toList k y := ⟨_, rfl⟩
  obtain ⟨E, hE⟩ : ∃ E, E = sugE a.toList k := ⟨_, rfl⟩
  unfold SugPost at hc
  simp only [← hF, ← hE] at hc
  have HC := hide hc
  have HF := hide hF
  have HE := hide hE
  have HTA := hide hTa
  have HWA := hide hwa
  have HQ0 := hide hqb
  have HKS : Hid (∀ wx, Touch (fun _ => False) wa wx → wx.cell? ⟨s, 0, none⟩ = some (ptrV d) ∧ wx.cell? ⟨qb, 0, none⟩ = some (.string a) ∧ wx.cell? ⟨qb, 1, none⟩ = some (.int .i64 k) ∧ wx.cell? ⟨qb, 2, none⟩ = some (.int .i64 y) ∧ Touch (fun _ => False) wa wx) := hide (fun wx T => ⟨((HH.out.blk.touch T (fun f => f)).cell 0).trans rfl, ((HQB.out.touch T (fun f => f)).cell 0).trans rfl, ((HQB.out.touch T (fun f => f)).cell 1).trans rfl, ((HQB.out.touch T (fun f => f)).cell 2).trans rfl, T⟩)
  clear hL h hwa hqb hTa hc hF hE
  go_enter Tryz.func13, Tryz.ntmps13
  go_upto_region 1 with fail
  rw [← HWA.out, ← HQ0.out]
  go_region_held3 (fun w' => w'.cell? ⟨s, 0, none⟩ = some (ptrV d) ∧ w'.cell? ⟨qb, 0, none⟩ = some (.string a) ∧ w'.cell? ⟨qb, 1, none⟩ = some (.int .i64 k) ∧ w'.cell? ⟨qb, 2, none⟩ = some (.int .i64 y) ∧ Touch (fun _ => False) wa w')
    (first
      | exact HKS.out _ (Touch.refl _ _).drew
      | exact HKS.out _ HT1.out
      | (trace_state; fail))
    (first
      | (go_simp; refine (HC.out _ (Touch.refl _ _).drew).mono ?_; rintro e w1 ⟨A1, c1, rfl, r1, T1, f1⟩; have HR1 := hide r1; have HF1 : Hid (∀ g, adBlock A1 = some g → wa.heap.size ≤ g) := hide (by simpa using f1); have HT1 := hide ((Touch.refl (fun _ => False) wa).drew.then T1); clear r1 T1 f1; go_simp))
  go_wp2_with fail
  go_ret2
  unfold SugPost
  rw [← HF.out, ← HE.out]
  exact ⟨A1, c1, rfl, HR1.out, HTA.out.then HT1.out, fun g hg => Nat.le_trans HTA.out.size (HF1.out g hg)⟩
set_option maxRecDepth 100000 in
set_option maxHeartbeats 4000000 in
theorem ssug_walk (W : World) (hL : Lst W) (A : Option Addr) (n c : Nat) (T : List CmdP) (hT : T.length = n) (hR : Reads W 5 A n (cCells T)) (hWf : ∀ o ∈ T, o.Wf) (hm : n ≤ maxLen) (a : ByteArray) (ha : a.size ≤ 9223372036854775807) (k y : Int) :
    Calls Tryz.prog 8 #[.slice A n c, .agg #[.string a, .int .i64 k, .int .i64 y]] W fun e W' => e = .returned (.bool true) ∧ Touch (fun _ => False) W W' := by
  obtain ⟨wa, hwa⟩ : ∃ z, z = W.alloc (.cells #[.string a, .int .i64 k, .int .i64 y] 24) := ⟨_, rfl⟩
  obtain ⟨qb, hqb⟩ : ∃ z, z = W.heap.size := ⟨_, rfl⟩
  have hTa : Touch (fun _ => False) W wa := by rw [hwa]; exact (Touch.refl _ _).alloc _
  have HQB : Hid (Blk wa qb 24 #[.string a, .int .i64 k, .int .i64 y]) := hide (by rw [hwa, hqb]; exact Blk.new _ _ _)
  have HTA := hide hTa
  have HWA := hide hwa
  have HQ0 := hide hqb
  have HFEW := hide (fun w => few_any w A n c)
  have HAL := hide (fun (wx : World) (t : Touch (fun _ => False) W wx) => alive16_any wx (Lst.touch hL t))
  by_cases hbig : n ≤ 400
  · have k2 : decide ((n : Int) ≤ 400) = true := by simp; omega
    rw [k2] at HFEW
    have HBG := hide (begun_any wa (Lst.touch hL hTa) (Touch.refl _ _) A n c T hT (hR.touch hTa (fun _ _ f => f)) hWf hbig)
    have HHA := hide ha
    clear hm hbig k2 hL hT hR hWf hwa hqb hTa ha
    go_enter Tryz.func8, Tryz.ntmps8
    go_upto_region 1 with fail
    rw [← HWA.out, ← HQ0.out]
    go_wp2_with fail
    refine (HFEW.out _).mono ?_
    rintro e w2 ⟨rfl, rfl⟩
    go_wp2_with fail
    refine HBG.out.mono ?_
    rintro e w1 ⟨s, d, tb, ⟨jA, jn, jc, jL⟩, A1, n1, c1, v1, q1, rfl, hy1, hl1, hr1⟩
    obtain ⟨⟨Lj, Rj⟩, hLR⟩ : ∃ y, y = runS T ([], []) := ⟨_, rfl⟩
    rw [← hLR] at hy1 hl1 hr1
    simp only [SL.val] at hy1 hl1 hr1 ⊢
    obtain ⟨w3, hw3⟩ : ∃ y, y = w1.alloc (.cells #[.slice jA jn jc, .slice A1 n1 c1] 56) := ⟨_, rfl⟩
    obtain ⟨g3, hg3⟩ : ∃ y, y = w1.heap.size := ⟨_, rfl⟩
    have T3 : Touch (fun _ => False) w1 w3 := by rw [hw3]; exact (Touch.refl _ _).alloc _
    have HB3 : Hid (Blk w3 g3 56 #[.slice jA jn jc, .slice A1 n1 c1]) := hide (by rw [hw3, hg3]; exact Blk.new _ _ _)
    have HY3 := hide (hy1.quiet T3)
    have HL3 := hide (hl1.quiet T3)
    have HW3 := hide hw3
    have HG3 := hide hg3
    have HQ3 := hide (HQB.out.touch HY3.out.t (fun f => f))
    have hs1 := ssug_any w3 HY3.out.l HY3.out.st a HHA.out k y
    have hs2 := fun (wx : World) (t : Touch (fun _ => False) w3 wx) => rsug_any wx wa.heap.size ⟨jA, jn, jc, jL⟩ (HL3.out.quiet t) HY3.out.st.dct.dict a HHA.out k y
    have hlen : (sugP Lj a.toList k y).length ≤ 64 := by
      unfold sugP
      split
      · exact Nat.le_trans (by unfold bestL; rw [List.length_take]; omega : _ ≤ mostN y) (mostN_le y)
      · exact Nat.zero_le _
    obtain ⟨F, hF⟩ : ∃ F, F = sugP Lj a.toList k y := ⟨_, rfl⟩
    obtain ⟨E, hE⟩ : ∃ E, E = sugE a.toList k := ⟨_, rfl⟩
    unfold SugPost at hs1 hs2
    simp only [SL.val] at hs2
    simp only [← hF, ← hE] at hs1 hs2
    rw [← hF] at hlen
    have HS1 := hide hs1
    have HS2 := hide hs2
    have HFL := hide hlen
    clear hy1 hl1 hr1 hw3 hg3 T3 HBG hLR hs1 hs2 hF hE hlen
    go_upto_region 6 with fail
    rw [← HW3.out, ← HG3.out]
    obtain ⟨q0, q1', q2⟩ := HQ3.out.facts
    go_wp2_with fail
    refine HS1.out.mono ?_
    rintro e w4 ⟨A4, c4, rfl, r4, T4, _⟩
    have HR4 := hide r4
    have HT4 := hide T4
    have HQ4 := hide (HQ3.out.touch T4 (fun f => f))
    have HB4 := hide (HB3.out.touch T4 (fun f => f))
    clear r4 T4 HS1 q0 q1' q2
    obtain ⟨q0, q1', q2⟩ := HQ4.out.facts
    obtain ⟨b0, b1, b2⟩ := HB4.out.facts
    go_wp2_with fail
    refine (HS2.out _ HT4.out).mono ?_
    rintro e w5 ⟨A5, c5, rfl, r5, T5, _⟩
    have HR5 := hide r5
    have HT5 := hide T5
    have HA5 := hide (HAL.out w5 (HTA.out.then (HY3.out.t.then (HT4.out.then T5))))
    clear r5 T5 HS2 q0 q1' q2 b0 b1 b2
    go_wp2_with fail
    refine HA5.out.mono ?_
    rintro e w6 ⟨rfl, T6⟩
    have HT6 := hide T6
    have HSM := hide (same_yes w6 A4 F.length c4 F rfl (HR4.out.touch (HT5.out.then T6) (fun _ _ f => f)) (by have := HFL.out; unfold maxLen; omega) A5 c5 (HR5.out.touch T6 (fun _ _ f => f)))
    clear T6 HA5
    go_wp2_with fail
    refine HSM.out.mono ?_
    rintro e w7 ⟨rfl, T7⟩
    have HT7 := hide (HTA.out.then (HY3.out.t.then (HT4.out.then (HT5.out.then (HT6.out.then T7)))))
    clear T7 HSM
    go_wp2_with fail
    go_ret
    exact ⟨rfl, HT7.out⟩
  · have k2 : decide ((n : Int) ≤ 400) = false := by simp; omega
    rw [k2] at HFEW
    have HA2 := hide (HAL.out wa HTA.out)
    clear hm hbig k2 hL hT hR hWf hwa hqb hTa
    go_enter Tryz.func8, Tryz.ntmps8
    go_upto_region 1 with fail
    rw [← HWA.out, ← HQ0.out]
    go_wp2_with fail
    refine (HFEW.out _).mono ?_
    rintro e w2 ⟨rfl, rfl⟩
    go_wp2_with fail
    refine HA2.out.mono ?_
    rintro e w3 ⟨rfl, T3⟩
    have HT3 := hide (HTA.out.then T3)
    clear T3
    go_wp2_with fail
    go_ret
    exact ⟨rfl, HT3.out⟩
end Go.Proofs.YthockgmbooefpaaGreatDoor
