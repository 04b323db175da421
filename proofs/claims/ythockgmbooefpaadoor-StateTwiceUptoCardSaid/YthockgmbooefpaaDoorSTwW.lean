/- Law 16, StateTwice: the walk. Conditions: the commands can be read; no word has more than 2^40 bytes. -/
import Derived.Test.YthockgmbooefpaaDoorDT
namespace Go.Proofs.YthockgmbooefpaaDoor
open Go.RowKit
set_option linter.unusedSectionVars false
set_option linter.unusedSimpArgs false
set_option linter.unusedVariables false

theorem dict_nil : DictP ([] : List PRow) := dict_mk (by simp) (fun p hp => by cases hp) List.Pairwise.nil
theorem conv_nil (w : World) : (convert 46 9 (.slice none 0 0)).run Tryd.prog w = .ok (.string ⟨#[]⟩) w := by kernel_rfl
theorem conv_img (w : World) (A : Option Addr) (q c : Nat) (l : List UInt8) (h : w.ownsRow 0 5 1 (.slice A q c) q (l.map byteV)) : (convert 46 9 (.slice A q c)).run Tryd.prog w = .ok (.string ⟨l.toArray⟩) w := by
  have hl := own_u8 h
  by_cases h0 : 0 < l.length
  · exact (conv_bytes w A q c l h h0).2
  · have e : l = [] := List.eq_nil_of_length_eq_zero (by omega)
    subst e
    have hq : q = 0 := hl.symm
    subst hq
    cases A with
    | none =>
      obtain ⟨_, rfl⟩ := own_nilOk h rfl
      exact conv_nil w
    | some ad => exact run_convert_bytes_back _ _ _ _ ad c [] Tryd.underlying46 Tryd.underlying5 Tryd.underlying9 (fun j hj => absurd hj (by simp))
/-- A conversion, where its run is known. -/
theorem wp_conv_run {P : Program} {o : Oper} {a : Act} {w : World} {K : Act → World → Prop} {Q : Exit → Act → World → Prop} (t1 t2 : TypeId) (x : Operand) (hop : o.op = Op.convert t1 t2 x) (v v' : Value) (hx : a.eval x = v) (hrun : (convert t1 t2 v).run P w = .ok v' w) (h : K (a.put o.dst v') w) : o.wp P a w K Q := by
  unfold Oper.wp
  simp [execOp, hop, hx, hrun, Result.andThen]
  exact h

set_option maxRecDepth 100000 in
set_option maxHeartbeats 8000000 in
theorem stwice_walk (W : World) (hL : Lst W) (A : Option Addr) (n c : Nat) (T : List CmdP) (hT : T.length = n) (hR : Reads W 5 A n (cCells T)) (hWf : ∀ o ∈ T, o.Wf) (hIn : ∀ o ∈ T, o.In) (hm : n ≤ maxLen) (o : CmdP) (ho : o.Wf) (hoI : o.In) :
    Calls Tryd.prog 6 #[.slice A n c, o.val] W fun e W' => e = .returned (.bool true) ∧ Touch (fun _ => False) W W' := by
  obtain ⟨kd, sid, sq, kw, kn⟩ := o
  simp only [CmdP.val]
  obtain ⟨wa, hwa⟩ : ∃ z, z = W.alloc (.cells #[.int .i64 kd, .int .u64 sid, .int .u64 sq, .string kw, .int .i64 kn] 29) := ⟨_, rfl⟩
  obtain ⟨cb, hcb⟩ : ∃ z, z = W.heap.size := ⟨_, rfl⟩
  have hTa : Touch (fun _ => False) W wa := by rw [hwa]; exact (Touch.refl _ _).alloc _
  have HCB : Hid (Blk wa cb 29 #[.int .i64 kd, .int .u64 sid, .int .u64 sq, .string kw, .int .i64 kn]) := hide (by rw [hwa, hcb]; exact Blk.new _ _ _)
  have HTA := hide hTa
  have HWA := hide hwa
  have HC0 := hide hcb
  have HFEW := hide (fun w => few_any w A n c)
  have HAL := hide (fun (wx : World) (t : Touch (fun _ => False) wa wx) => alive16_any wx (Lst.touch hL (hTa.then t)))
  obtain ⟨b0, b1, b2⟩ := HCB.out.facts
  by_cases hbig : n ≤ 400
  · have k2 : decide ((n : Int) ≤ 400) = true := by simp; omega
    rw [k2] at HFEW
    by_cases hk1 : kd = 1
    · subst hk1
      clear hm hbig k2 hL hT hR hWf hIn ho hoI hwa hcb hTa
      go_enter Tryd.func6, Tryd.ntmps6
      go_upto_region 1 with fail
      rw [← HWA.out, ← HC0.out]
      go_wp2_with fail
      refine (HFEW.out _).mono ?_
      rintro e w2 ⟨rfl, rfl⟩
      go_wp2_with fail
      refine (HAL.out _ (Touch.refl _ _)).mono ?_
      rintro e w3 ⟨rfl, T3⟩
      have HT3 := hide (HTA.out.then T3)
      clear T3 b0 b1 b2
      go_wp2_with fail
      go_ret
      exact ⟨rfl, HT3.out⟩
    · have HBG := hide (begun_any wa (Lst.touch hL hTa) (Touch.refl _ _) A n c T hT (hR.touch hTa (fun _ _ f => f)) hWf hbig)
      have hnil : DictP ([] : List PRow) := dict_nil
      have HRI := hide (runS_in hnil (R := []) (fun r hr => by cases hr) T hIn)
      have HHK := hide hk1
      have HHO := hide (And.intro ho hoI)
      clear hm hbig k2 hL hT hR hWf hIn ho hoI hwa hcb hTa hnil
      go_enter Tryd.func6, Tryd.ntmps6
      go_upto_region 1 with fail
      rw [← HWA.out, ← HC0.out]
      go_wp2_with fail
      refine (HFEW.out _).mono ?_
      rintro e w2 ⟨rfl, rfl⟩
      go_wp2_with fail
      refine HBG.out.mono ?_
      rintro e w1 ⟨s, d, tb, ⟨jA, jn, jc, jL⟩, A1, n1, c1, v1, q1, rfl, hy1, _, _⟩
      obtain ⟨⟨Lj, Rj⟩, hLR⟩ : ∃ y, y = runS T ([], []) := ⟨_, rfl⟩
      rw [← hLR] at hy1 HRI
      simp only [SL.val] at hy1 HRI ⊢
      obtain ⟨w3, hw3⟩ : ∃ y, y = w1.alloc (.cells #[.slice jA jn jc, .slice A1 n1 c1] 39) := ⟨_, rfl⟩
      have T3 : Touch (fun _ => False) w1 w3 := by rw [hw3]; exact (Touch.refl _ _).alloc _
      have HY3 := hide (hy1.quiet T3)
      have HW3 := hide hw3
      have HCB3 := hide (HCB.out.touch HY3.out.t (fun f => f))
      have hd1 := sdo_y w3 HY3.out ⟨kd, sid, sq, kw, kn⟩ HHO.out.1
      obtain ⟨t1, t2, t3⟩ := twice_do (c := ⟨kd, sid, sq, kw, kn⟩) HHK.out Lj Rj
      have hrin := doR_in HY3.out.st.dct.dict HRI.out (c := ⟨kd, sid, sq, kw, kn⟩) HHO.out.2
      have hd2 := fun (wx : World) {v : Value} {q : Nat} (t : StY wa wx s d tb v (doL ⟨kd, sid, sq, kw, kn⟩ Lj Rj) q (doR ⟨kd, sid, sq, kw, kn⟩ Lj Rj)) => sdo_y wx t ⟨kd, sid, sq, kw, kn⟩ HHO.out.1
      simp only [t1, t2, t3] at hd2
      obtain ⟨Lk, hLk⟩ : ∃ y, y = doL ⟨kd, sid, sq, kw, kn⟩ Lj Rj := ⟨_, rfl⟩
      obtain ⟨Rk, hRk⟩ : ∃ y, y = doR ⟨kd, sid, sq, kw, kn⟩ Lj Rj := ⟨_, rfl⟩
      obtain ⟨⟨a0, a1, a2, a3⟩, hak⟩ : ∃ y, y = doA ⟨kd, sid, sq, kw, kn⟩ Lj Rj := ⟨_, rfl⟩
      simp only [← hLk, ← hRk, ← hak, ansV, CmdP.val] at hd1 hd2 hrin
      obtain ⟨im, him⟩ : ∃ y, y = imgB Lk Rk := ⟨_, rfl⟩
      have HD1 := hide hd1
      have HDO2 := hide @hd2
      have HRIN := hide hrin
      have HIM := hide him
      obtain ⟨q0, q1', q2⟩ := HCB3.out.facts
      clear hy1 hw3 T3 HBG hLR b0 b1 b2 hd1 hd2 hrin hLk hRk hak him t1 t2 t3
      go_upto_region 6 with fail
      rw [← HW3.out]
      go_wp2_with fail
      refine HD1.out.mono ?_
      rintro e w4 ⟨rfl, ⟨v4, q4, hy4⟩, T4⟩
      obtain ⟨w5, hw5⟩ : ∃ y, y = w4.alloc (.cells #[.int .i64 a1, .int .u64 a2, .int .i64 a3] 34) := ⟨_, rfl⟩
      obtain ⟨ab, hab⟩ : ∃ y, y = w4.heap.size := ⟨_, rfl⟩
      have T5 : Touch (fun _ => False) w4 w5 := by rw [hw5]; exact (Touch.refl _ _).alloc _
      have HAB5 : Hid (Blk w5 ab 34 #[.int .i64 a1, .int .u64 a2, .int .i64 a3]) := hide (by rw [hw5, hab]; exact Blk.new _ _ _)
      have HCB5 := hide ((HY3.out.st.keep T4 HCB3.out off_cmd).touch T5 (fun f => f))
      have HY5 := hide (hy4.quiet T5)
      have HW5 := hide hw5
      have HA5 := hide hab
      have HI5 := hide (image_any w5 HY5.out.l HY5.out.st HRIN.out)
      rw [← HIM.out] at HI5
      clear hy4 T4 T5 hw5 hab HD1 q0 q1' q2
      go_upto_region 7 with fail
      rw [← HW5.out, ← HA5.out]
      go_wp2_with fail
      refine HI5.out.mono ?_
      rintro e w8 ⟨A8, q8, c8, rfl, ho8⟩
      have kc := conv_img w8 A8 q8 c8 im ho8.own
      have HY8 := hide (HY5.out.quiet ho8.touch)
      have HCB8 := hide (HCB5.out.touch ho8.touch (fun f => f))
      have HAB8 := hide (HAB5.out.touch ho8.touch (fun f => f))
      have HT8 := hide HY8.out.t
      have HS8 : Hid (∀ wx, Blk wx cb 29 #[.int .i64 kd, .int .u64 sid, .int .u64 sq, .string kw, .int .i64 kn] → Blk wx ab 34 #[.int .i64 a1, .int .u64 a2, .int .i64 a3] → wx.cell? ⟨cb, 0, none⟩ = some (.int .i64 kd) ∧ wx.cell? ⟨cb, 1, none⟩ = some (.int .u64 sid) ∧ wx.cell? ⟨cb, 2, none⟩ = some (.int .u64 sq) ∧ wx.cell? ⟨cb, 3, none⟩ = some (.string kw) ∧ wx.cell? ⟨cb, 4, none⟩ = some (.int .i64 kn) ∧ wx.cell? ⟨ab, 0, none⟩ = some (.int .i64 a1) ∧ wx.cell? ⟨ab, 1, none⟩ = some (.int .u64 a2) ∧ wx.cell? ⟨ab, 2, none⟩ = some (.int .i64 a3)) := hide (fun wx h1 h2 => ⟨(h1.cell 0).trans rfl, (h1.cell 1).trans rfl, (h1.cell 2).trans rfl, (h1.cell 3).trans rfl, (h1.cell 4).trans rfl, (h2.cell 0).trans rfl, (h2.cell 1).trans rfl, (h2.cell 2).trans rfl⟩)
      clear ho8 HI5
      go_upto_region 8 with fail
      refine wp_region_held_drew (S := fun wx => wx.cell? ⟨cb, 0, none⟩ = some (.int .i64 kd) ∧ wx.cell? ⟨cb, 1, none⟩ = some (.int .u64 sid) ∧ wx.cell? ⟨cb, 2, none⟩ = some (.int .u64 sq) ∧ wx.cell? ⟨cb, 3, none⟩ = some (.string kw) ∧ wx.cell? ⟨cb, 4, none⟩ = some (.int .i64 kn) ∧ wx.cell? ⟨ab, 0, none⟩ = some (.int .i64 a1) ∧ wx.cell? ⟨ab, 1, none⟩ = some (.int .u64 a2) ∧ wx.cell? ⟨ab, 2, none⟩ = some (.int .i64 a3)) (by kernel_rfl) (HS8.out _ (HCB8.out.drew) (HAB8.out.drew)) (fun hHeld => ?_)
      refine wpAnyH_ready (rs := [0]) (by kernel_rfl) (by simp) ?_
      refine AllReadyH.cons rfl (fun K hK => ?_) AllReadyH.nil
      go_simp
      refine (HAL.out w8.drew HT8.out.drew).mono ?_
      rintro e w9 ⟨rfl, T9⟩
      have HCB9 := hide (HCB8.out.drew.touch T9 (fun f => f))
      have HAB9 := hide (HAB8.out.drew.touch T9 (fun f => f))
      have HY9 := hide ((HY8.out.quiet (Touch.refl _ _).drew).quiet T9)
      clear T9
      go_simp
      refine hK.out _ _ (HS8.out _ HCB9.out HAB9.out) (fun hHeld => ?_)
      clear hK K
      try simp only [List.getElem_toArray, List.getElem_cons_succ, List.getElem_cons_zero, Act.put, List.setIfInBounds_toArray, List.set_cons_zero, List.set_cons_succ]
      refine wpAnyH_take (i := 1) (v := ?v1) rfl (by kernel_rfl) (by kernel_rfl) (by kernel_rfl) (fun _ _ _ h => h) (Or.inl ⟨by kernel_rfl, ?h1⟩) hHeld ?_
      case h1 => rintro wq ⟨s0, s1, s2, s3, s4, s5, s6, s7⟩; go_simp; with_reducible rfl
      simp only [List.getElem_toArray, List.getElem_cons_succ, List.getElem_cons_zero, Act.put, List.setIfInBounds_toArray, List.set_cons_zero, List.set_cons_succ]
      refine wpAnyH_take (i := 2) (v := ?v2) rfl (by kernel_rfl) (by kernel_rfl) (by kernel_rfl) (fun _ _ _ h => h) (Or.inl ⟨by kernel_rfl, ?h2⟩) hHeld ?_
      case h2 => rintro wq ⟨s0, s1, s2, s3, s4, s5, s6, s7⟩; go_simp; with_reducible rfl
      simp only [List.getElem_toArray, List.getElem_cons_succ, List.getElem_cons_zero, Act.put, List.setIfInBounds_toArray, List.set_cons_zero, List.set_cons_succ]
      refine wpAnyH_take (i := 3) (v := ?v3) rfl (by kernel_rfl) (by kernel_rfl) (by kernel_rfl) (fun _ _ _ h => h) (Or.inl ⟨by kernel_rfl, ?h3⟩) hHeld ?_
      case h3 => rintro wq ⟨s0, s1, s2, s3, s4, s5, s6, s7⟩; go_simp; with_reducible rfl
      simp only [List.getElem_toArray, List.getElem_cons_succ, List.getElem_cons_zero, Act.put, List.setIfInBounds_toArray, List.set_cons_zero, List.set_cons_succ]
      refine wpAnyH_take (i := 5) (v := ?v5) rfl (by kernel_rfl) (by kernel_rfl) (by kernel_rfl) (fun _ _ _ h => h) (Or.inl ⟨by kernel_rfl, ?h5⟩) hHeld ?_
      case h5 => rintro wq ⟨s0, s1, s2, s3, s4, s5, s6, s7⟩; go_simp; with_reducible rfl
      simp only [List.getElem_toArray, List.getElem_cons_succ, List.getElem_cons_zero, Act.put, List.setIfInBounds_toArray, List.set_cons_zero, List.set_cons_succ]
      refine wpAnyH_ready (rs := [4]) (by kernel_rfl) (by simp) ?_
      refine AllReadyH.cons rfl (fun K hK => ?_) AllReadyH.nil
      go_simp
      refine (HDO2.out w9 HY9.out).mono ?_
      rintro e w10 ⟨rfl, ⟨vA, qA, hyA⟩, T10⟩
      have HYA := hide hyA
      have HCBA := hide (HY9.out.st.keep T10 HCB9.out off_cmd)
      have HABA := hide (HY9.out.st.keep T10 HAB9.out off_ans)
      clear hyA T10
      go_simp
      refine hK.out _ _ (HS8.out _ HCBA.out HABA.out) (fun hHeld => ?_)
      clear hK K
      try simp only [List.getElem_toArray, List.getElem_cons_succ, List.getElem_cons_zero, Act.put, List.setIfInBounds_toArray, List.set_cons_zero, List.set_cons_succ]
      refine wpAnyH_take (i := 6) (v := ?v6) rfl (by kernel_rfl) (by kernel_rfl) (by kernel_rfl) (fun _ _ _ h => h) (Or.inl ⟨by kernel_rfl, ?h6⟩) hHeld ?_
      case h6 => rintro wq ⟨s0, s1, s2, s3, s4, s5, s6, s7⟩; go_simp; with_reducible rfl
      simp only [List.getElem_toArray, List.getElem_cons_succ, List.getElem_cons_zero, Act.put, List.setIfInBounds_toArray, List.set_cons_zero, List.set_cons_succ]
      refine wpAnyH_take (i := 7) (v := ?v7) rfl (by kernel_rfl) (by kernel_rfl) (by kernel_rfl) (fun _ _ _ h => h) (Or.inl ⟨by kernel_rfl, ?h7⟩) hHeld ?_
      case h7 => rintro wq ⟨s0, s1, s2, s3, s4, s5, s6, s7⟩; go_simp; with_reducible rfl
      simp only [List.getElem_toArray, List.getElem_cons_succ, List.getElem_cons_zero, Act.put, List.setIfInBounds_toArray, List.set_cons_zero, List.set_cons_succ]
      refine wpAnyH_take (i := 8) (v := ?v8) rfl (by kernel_rfl) (by kernel_rfl) (by kernel_rfl) (fun _ _ _ h => h) (Or.inl ⟨by kernel_rfl, ?h8⟩) hHeld ?_
      case h8 => rintro wq ⟨s0, s1, s2, s3, s4, s5, s6, s7⟩; go_simp; with_reducible rfl
      simp only [List.getElem_toArray, List.getElem_cons_succ, List.getElem_cons_zero, Act.put, List.setIfInBounds_toArray, List.set_cons_zero, List.set_cons_succ]
      refine wpAnyH_take (i := 9) (v := ?v9) rfl (by kernel_rfl) (by kernel_rfl) (by kernel_rfl) (fun _ _ _ h => h) (Or.inl ⟨by kernel_rfl, ?h9⟩) hHeld ?_
      case h9 => rintro wq ⟨s0, s1, s2, s3, s4, s5, s6, s7⟩; go_simp; with_reducible rfl
      simp only [List.getElem_toArray, List.getElem_cons_succ, List.getElem_cons_zero, Act.put, List.setIfInBounds_toArray, List.set_cons_zero, List.set_cons_succ]
      refine wpAnyH_take (i := 12) (v := ?v12) rfl (by kernel_rfl) (by kernel_rfl) (by kernel_rfl) (fun _ _ _ h => h) (Or.inl ⟨by kernel_rfl, ?h12⟩) hHeld ?_
      case h12 => rintro wq ⟨s0, s1, s2, s3, s4, s5, s6, s7⟩; go_simp; with_reducible rfl
      simp only [List.getElem_toArray, List.getElem_cons_succ, List.getElem_cons_zero, Act.put, List.setIfInBounds_toArray, List.set_cons_zero, List.set_cons_succ]
      refine wpAnyH_ready (rs := [10]) (by kernel_rfl) (by simp) ?_
      refine AllReadyH.cons rfl (fun K hK => ?_) AllReadyH.nil
      go_simp
      refine (image_any w10 HYA.out.l HYA.out.st HRIN.out).mono ?_
      rintro e w11 ⟨AI, qI, cI, rfl, hoI⟩
      rw [← HIM.out] at hoI
      have hcv := conv_img w11 AI qI cI im hoI.own
      have HTI := hide hoI.touch
      have HCV := hide hcv
      have HCBB := hide (HCBA.out.touch hoI.touch (fun f => f))
      have HABB := hide (HABA.out.touch hoI.touch (fun f => f))
      clear hoI hcv
      go_simp
      refine hK.out _ _ (HS8.out _ HCBB.out HABB.out) (fun hHeld => ?_)
      clear hK K
      try simp only [List.getElem_toArray, List.getElem_cons_succ, List.getElem_cons_zero, Act.put, List.setIfInBounds_toArray, List.set_cons_zero, List.set_cons_succ]
      refine wpAnyH_ready (rs := [11]) (by kernel_rfl) (by simp) ?_
      refine AllReadyH.cons rfl (fun K hK => ?_) AllReadyH.nil
      rw [if_pos (by rfl)]
      refine wp_conv_run 46 9 (.tmp 43) rfl (.slice AI qI cI) _ rfl HCV.out ?_
      refine hK.out _ _ (HS8.out _ HCBB.out HABB.out) (fun hHeld => ?_)
      clear hK K
      try simp only [List.getElem_toArray, List.getElem_cons_succ, List.getElem_cons_zero, Act.put, List.setIfInBounds_toArray, List.set_cons_zero, List.set_cons_succ]
      refine wpAnyH_take (i := 13) (v := ?v13) rfl (by kernel_rfl) (by kernel_rfl) (by kernel_rfl) (fun _ _ _ h => h) (Or.inl ⟨by kernel_rfl, ?h13⟩) hHeld ?_
      case h13 => rintro wq ⟨s0, s1, s2, s3, s4, s5, s6, s7⟩; go_simp; with_reducible rfl
      simp only [List.getElem_toArray, List.getElem_cons_succ, List.getElem_cons_zero, Act.put, List.setIfInBounds_toArray, List.set_cons_zero, List.set_cons_succ]
      refine wpAnyH_take (i := 14) (v := ?v14) rfl (by kernel_rfl) (by kernel_rfl) (by kernel_rfl) (fun _ _ _ h => h) (Or.inl ⟨by kernel_rfl, ?h14⟩) hHeld ?_
      case h14 => rintro wq ⟨s0, s1, s2, s3, s4, s5, s6, s7⟩; go_simp; with_reducible rfl
      simp only [List.getElem_toArray, List.getElem_cons_succ, List.getElem_cons_zero, Act.put, List.setIfInBounds_toArray, List.set_cons_zero, List.set_cons_succ]
      refine wpAnyH_take (i := 15) (v := ?v15) rfl (by kernel_rfl) (by kernel_rfl) (by kernel_rfl) (fun _ _ _ h => h) (Or.inl ⟨by kernel_rfl, ?h15⟩) hHeld ?_
      case h15 => rintro wq ⟨s0, s1, s2, s3, s4, s5, s6, s7⟩; go_simp; with_reducible rfl
      simp only [List.getElem_toArray, List.getElem_cons_succ, List.getElem_cons_zero, Act.put, List.setIfInBounds_toArray, List.set_cons_zero, List.set_cons_succ]
      refine wpAnyH_done (by kernel_rfl) ?_ _
      go_wp2_with fail
      go_ret
      exact ⟨rfl, HTA.out.then (HYA.out.t.then HTI.out)⟩
  · have k2 : decide ((n : Int) ≤ 400) = false := by simp; omega
    rw [k2] at HFEW
    clear hm hbig k2 hL hT hR hWf hIn ho hoI hwa hcb hTa
    go_enter Tryd.func6, Tryd.ntmps6
    go_upto_region 1 with fail
    rw [← HWA.out, ← HC0.out]
    go_wp2_with fail
    refine (HFEW.out _).mono ?_
    rintro e w2 ⟨rfl, rfl⟩
    go_wp2_with fail
    refine (HAL.out _ (Touch.refl _ _)).mono ?_
    rintro e w3 ⟨rfl, T3⟩
    have HT3 := hide (HTA.out.then T3)
    clear T3 b0 b1 b2
    go_wp2_with fail
    go_ret
    exact ⟨rfl, HT3.out⟩

end Go.Proofs.YthockgmbooefpaaDoor
