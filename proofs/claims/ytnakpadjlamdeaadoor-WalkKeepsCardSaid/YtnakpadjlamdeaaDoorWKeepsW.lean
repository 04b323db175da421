/- WalkKeeps: the walk. No condition. -/
import Derived.Test.YtnakpadjlamdeaaDoorWKeepsA
namespace Go.Proofs.YtnakpadjlamdeaaDoor
open Go.RowKit

set_option maxRecDepth 100000 in
set_option maxHeartbeats 8000000 in
theorem wkeeps_walk (W : World) (hL : Lst W) (s : SL) (hs : s.Ok W) (hn : s.n ≤ maxLen) (hWf : ∀ r ∈ s.L, r.Wf) :
    Calls Tryd.prog 9 #[s.val] W fun e W' => e = .returned (.bool true) ∧ Below W.heap.size W W' := by
  have HS := hide hs
  have HN := hide hn
  have HL := hide hL
  have HRR := hide (rright_any W s hs hWf hn)
  have hlen := hs.len
  by_cases h3 : s.n ≤ 300
  · cases hr : rightU s.L with
    | false =>
      rw [hr] at HRR
      obtain ⟨sA, sn, sc, sL⟩ := s
      simp only [SL.val] at HRR h3 ⊢
      have y1 : ¬ (300 : Int) < (sn : Int) := by omega
      clear hs hn hL hWf hlen h3 hr
      go_enter Tryd.func9, Tryd.ntmps9
      go_wp2_with fail
      refine HRR.out.mono ?_
      rintro e w1 ⟨rfl, T1⟩
      have HT1 := hide T1
      clear T1 HRR
      go_wp2_with fail
      refine (alive9_any w1 (Lst.touch HL.out HT1.out)).mono ?_
      rintro e w2 ⟨rfl, T2⟩
      have HT2 := hide (HT1.out.then T2)
      clear T2
      go_wp2_with fail
      go_ret
      exact ⟨rfl, HT2.out.below (Nat.le_refl _) (fun _ _ f => f)⟩
    | true =>
      have hD := dict_of_right hr
      rw [hr] at HRR
      obtain ⟨sA, sn, sc, sL⟩ := s
      simp only [SL.val] at HRR h3 hlen ⊢
      have y1 : ¬ (300 : Int) < (sn : Int) := by omega
      have hn4 : (sn : Int) ≤ 300 := by omega
      have HD := hide hD
      have HSL := hide hlen
      clear hs hn hL hWf h3 hr hD hlen
      go_enter Tryd.func9, Tryd.ntmps9
      go_wp2_with fail
      refine HRR.out.mono ?_
      rintro e w1 ⟨rfl, T1⟩
      have HT1 := hide T1
      clear T1 HRR
      go_wp2_with fail
      refine (alive9_any w1 (Lst.touch HL.out HT1.out)).mono ?_
      rintro e wa ⟨rfl, Ta⟩
      have HTa := hide (HT1.out.then Ta)
      have hmk := make_new wa ⟨sA, sn, sc, sL⟩ (HS.out.touch HTa.out) HD.out (dict_sizes HD.out)
      simp only [SL.val] at hmk
      have HMK := hide hmk
      clear Ta hmk
      go_wp2_with fail
      refine HMK.out.mono ?_
      rintro e wb ⟨mA, n, mc, mZ, rfl, hst, hms, _, _, hy, Tb⟩
      obtain ⟨base, hbase⟩ : ∃ x, x = (mach sL).base := ⟨_, rfl⟩
      rw [← hbase]
      obtain ⟨w2, hw2⟩ : ∃ x, x = wb.alloc (.cells #[.int .i64 base, .slice mA n mc] 40) := ⟨_, rfl⟩
      obtain ⟨M, hM⟩ : ∃ M, M = wb.heap.size := ⟨_, rfl⟩
      have hTb2 : Touch (fun _ => False) wb w2 := by rw [hw2]; exact (Touch.refl _ _).alloc _
      have hbM : Blk w2 M 40 #[.int .i64 base, .slice mA n mc] := by rw [hw2, hM]; exact Blk.new _ _ _
      have hst2 := hst.quiet hTb2
      have hT2 := HTa.out.then (Tb.then hTb2)
      have hdn := dnew_any w2 (Lst.touch HL.out hT2) sL HD.out mA n mc mZ hst2 hms
      rw [← hbase] at hdn
      have hya := HTa.out.size
      have HMY := hide hy
      have HYA := hide hya
      have HW2 := hide hw2
      have HMM := hide hM
      have HBM := hide hbM
      have HST := hide hst2
      have HMS := hide hms
      have HT2 := hide hT2
      have HDN := hide hdn
      have HBASE := hide hbase
      clear hst hms hy Tb hbase hw2 hM hTb2 hbM hst2 hT2 hdn hya HMK
      go_wp2_with fail
      rw [← HW2.out, ← HMM.out]
      refine HDN.out.mono ?_
      rintro e w4 ⟨b, A', c', Z', wA, wc, rfl, hdw, hI⟩
      obtain ⟨S, hSd⟩ : ∃ S : Nat → Prop, S = fun g => W.heap.size ≤ g ∧ g < w2.heap.size := ⟨_, rfl⟩
      have hSi : ∀ g, W.heap.size ≤ g → g < w2.heap.size → S g := fun g h1 h2 => by rw [hSd]; exact ⟨h1, h2⟩
      have hSo : ∀ g, S g → W.heap.size ≤ g ∧ g < w2.heap.size := fun g h => by rw [hSd] at h; exact h
      have hT4 := HT2.out.then hI.touch
      have hTW : ∀ wr, Touch S w4 wr → Touch (fun _ => False) W wr := fun wr T => hT4.trans T fun g hg s => by have := (hSo g s).1; omega
      have hzl : Z'.length = n := hdw.wk.sts.len
      have hkp : ∀ wr, Touch S w4 wr → DWk wr b sL n A' c' Z' wA wc := fun wr T => by
        have h := hI.keeps hzl hdw.wk.len T (fun g s => (hSo g s).2)
        rw [HBASE.out] at h
        exact ⟨h, hdw.st, hdw.few⟩
      have hnI : (n : Int) ≤ 1000000 := by have := hdw.few; omega
      have hq2 := svs_few HD.out hdw.st hdw.wk.sts
      have hb4 := HBM.out.touch hI.touch (fun f => f)
      have hmk4 := (MK.of HST.out).quiet hI.touch
      have HSI := hide hSi
      have HTW := hide hTW
      have HKP := hide hkp
      have HQ2 := hide hq2
      have HZL := hide hzl
      have HB4 := hide hb4
      have HMK4 := hide hmk4
      have HSZ := hide hI.touch.size
      clear hdw hI hSd hSi hSo hT4 hTW hzl hkp hq2 hb4 hmk4 HDN
      obtain ⟨q1, q2, q3⟩ := HB4.out.facts
      go_wp2_with fail
      go_loopw [36] (fun iv wr => ∃ (i : Nat), iv = .int .i64 i ∧ i ≤ n ∧ Hid (MK wr mA n mZ) ∧ Hid (Blk wr M 40 #[.int .i64 base, .slice mA n mc]) ∧ Hid (Touch S w4 wr)) (fun iv _ => n - (intOf iv).toNat)
      case atStart => exact ⟨0, rfl, by omega, HMK4, HB4, hide (Touch.refl _ _)⟩
      case round =>
        obtain ⟨i, rfl, hin, HMK, HB, HT⟩ := hrel
        by_cases hi : i < n
        · have x1 : (i : Int) < (n : Int) := by omega
          have x2 : (0 : Int) ≤ (i : Int) := by omega
          have x3 : IntKind.i64.wrap ((i : Int) + 1) = (i : Int) + 1 := IntWalk.i64_in _ (by omega)
          obtain ⟨z, hz⟩ : ∃ z, Z'.getD i svZero = z := ⟨_, rfl⟩
          have hzq := HQ2.out z (by rw [← hz]; exact getD_mem Z' svZero i (by rw [HZL.out]; exact hi))
          have hws := wstate_some wr b _ A' n c' Z' wA wc _ (HKP.out wr HT.out).wk i hi z hz hzq
          obtain ⟨zf, zo, zA, zn, zcp, za⟩ := z
          simp only at hzq hws
          have hznI : (zn : Int) ≤ 2097152 := by omega
          have HWS := hide hws
          clear hz hzq hws q1 q2 q3
          go_wp2_with fail
          refine HWS.out.mono ?_
          rintro e w5 ⟨A2, c2, rfl, hcl⟩
          obtain ⟨w6, hw6⟩ : ∃ x, x = w5.alloc (.cells #[.bool zf, .int .i64 zo, .slice A2 zn c2] 44) := ⟨_, rfl⟩
          obtain ⟨s, hs⟩ : ∃ s, s = w5.heap.size := ⟨_, rfl⟩
          have hT56 : Touch (fun _ => False) w5 w6 := by rw [hw6]; exact (Touch.refl _ _).alloc _
          have hTr6 := hcl.touch.then hT56
          have hbs : Blk w6 s 44 #[.bool zf, .int .i64 zo, .slice A2 zn c2] := by rw [hw6, hs]; exact Blk.new _ _ _
          have hag : ∀ g, adBlock A2 = some g → w4.heap.size ≤ g := fun g hg => by
            have h1 := hcl.young g hg
            have h2 := HT.out.size
            omega
          have HW6 := hide hw6
          have HSS := hide hs
          have HBS6 := hide hbs
          have HO6 := hide (own_touch hcl.own hT56 (fun _ _ f => f))
          have HMK6 := hide (HMK.out.quiet hTr6)
          have HB6 := hide (HB.out.touch hTr6 (fun f => f))
          have HT6 := hide (HT.out.trans hTr6 (fun _ _ f => f.elim))
          have HAG := hide hag
          obtain ⟨s0, s1, s2⟩ := hbs.facts
          obtain ⟨wo, hwo⟩ : ∃ y, y = wr := ⟨_, rfl⟩
          subst hwo
          clear hcl hw6 hs hT56 hTr6 hbs hag HWS
          go_wp2_with fail
          rw [← HW6.out, ← HSS.out]
          go_wp2_with fail
          clear s0 s1 s2
          go_loopw [48] (fun jv wr => ∃ (j : Nat) (xs : List Value), jv = .int .i64 j ∧ j ≤ zn ∧ Hid (wr.ownsRow 0 60 3 (.slice A2 zn c2) zn xs) ∧ Hid (Blk wr s 44 #[.bool zf, .int .i64 zo, .slice A2 zn c2]) ∧ Hid (MK wr mA n mZ) ∧ Hid (Blk wr M 40 #[.int .i64 base, .slice mA n mc]) ∧ Hid (Touch S w4 wr)) (fun jv _ => zn - (intOf jv).toNat)
          case atStart => exact ⟨0, _, rfl, by omega, HO6, HBS6, HMK6, HB6, HT6⟩
          case round =>
            obtain ⟨j, xs, rfl, hjz, HOj, HBj, HMj, HB2j, HTj⟩ := hrel
            by_cases hj : j < zn
            · have j1 : (j : Int) < (zn : Int) := by omega
              have j2 : (0 : Int) ≤ (j : Int) := by omega
              have j3 : IntKind.i64.wrap ((j : Int) + 1) = (j : Int) + 1 := IntWalk.i64_in _ (by omega)
              obtain ⟨ag, hA2, hcell, hty, hxl⟩ := own_head HOj.out (by omega)
              have hyg := HAG.out ag (by rw [hA2]; rfl)
              subst hA2
              obtain ⟨v0, hv0⟩ : ∃ v, xs[j * 3]? = some v := ⟨_, List.getElem?_eq_getElem (by omega)⟩
              obtain ⟨v1, hv1⟩ : ∃ v, xs[j * 3 + 1]? = some v := ⟨_, List.getElem?_eq_getElem (by omega)⟩
              obtain ⟨v2, hv2⟩ : ∃ v, xs[j * 3 + 2]? = some v := ⟨_, List.getElem?_eq_getElem (by omega)⟩
              have c0 := hcell _ _ hv0
              have c1 := hcell _ _ hv1
              have c2' := hcell _ _ hv2
              have f0 := hty.frozen (j * 3)
              have f1 := hty.frozen (j * 3 + 1)
              have f2 := hty.frozen (j * 3 + 2)
              have hsg : ¬ s = ag := (blk_ty HBj.out).ne hty (by decide)
              have hMg : ¬ M = ag := (blk_ty HB2j.out).ne hty (by decide)
              obtain ⟨s0, s1, s2⟩ := HBj.out.facts
              have HTY := hide hty
              have HYG := hide hyg
              clear hcell hxl hv0 hv1 hv2 hty hyg
              go_wp2_with fail
              go_roundw
              · refine ⟨j + 1, _, by simp, by omega, hide (own_set (own_set (own_set HOj.out (j * 3) _) (j * 3 + 1) _) (j * 3 + 2) _), hide (((HBj.out.far (p := ⟨ag, _, none⟩) hsg _).far (p := ⟨ag, _, none⟩) hsg _).far (p := ⟨ag, _, none⟩) hsg _), hide (((HMj.out.arc HTY.out _ _).arc (HTY.out.set _ _ _) _ _).arc ((HTY.out.set _ _ _).set _ _ _) _ _), hide (((HB2j.out.far (p := ⟨ag, _, none⟩) hMg _).far (p := ⟨ag, _, none⟩) hMg _).far (p := ⟨ag, _, none⟩) hMg _), hide (((HTj.out.setCell (p := ⟨ag, _, none⟩) (fun h => absurd (show ag < w4.heap.size from h) (by have := HYG.out; omega)) _).setCell (p := ⟨ag, _, none⟩) (fun h => absurd (show ag < w4.heap.size from h) (by have := HYG.out; omega)) _).setCell (p := ⟨ag, _, none⟩) (fun h => absurd (show ag < w4.heap.size from h) (by have := HYG.out; omega)) _)⟩
              · simp only [intOf]; omega
            · have j4 : ¬ (j : Int) < (zn : Int) := by omega
              clear hjz hj
              obtain ⟨g, o, hA, htS, ⟨bo, e0⟩, e2⟩ := HMj.out.hd i hi
              subst hA
              have hyl : i < mZ.length := by rw [HST.out.len]; exact hi
              have hym := getD_mem mZ svZero i hyl
              obtain ⟨y, hy⟩ : ∃ y, mZ.getD i svZero = y := ⟨_, rfl⟩
              rw [hy] at e2 hym
              have hyq : y.n ≤ 2097152 := svs_few HD.out HMS.out HST.out y hym
              obtain ⟨yf, yo, yA, yn, ycp, ya⟩ := y
              simp only at e2 hyq
              have hynI : (yn : Int) ≤ 2097152 := by omega
              obtain ⟨q1, q2, q3⟩ := HB2j.out.facts
              have hgl := htS.lt
              have HY := hide hy
              have HYM := hide hym
              obtain ⟨wp, hwp⟩ : ∃ y, y = wr := ⟨_, rfl⟩
              subst hwp
              clear hy hym hyl hyq htS
              go_wp2_with fail
              clear q1 q2 q3 e0 e2 hgl
              go_loopw [64] (fun jv wr => ∃ (j : Nat), jv = .int .i64 j ∧ j ≤ yn ∧ Hid (MK wr (some ⟨g, o, none⟩) n mZ) ∧ Hid (Blk wr M 40 #[.int .i64 base, .slice (some ⟨g, o, none⟩) n mc]) ∧ Hid (Touch S w4 wr)) (fun jv _ => yn - (intOf jv).toNat)
              case atStart => exact ⟨0, rfl, by omega, HMj, HB2j, HTj⟩
              case round =>
                obtain ⟨l, rfl, hly, HMl, HBl, HTl⟩ := hrel
                obtain ⟨g', o', hA, htS, ⟨bo, e0⟩, e2⟩ := HMl.out.hd i hi
                injection hA with hA
                injection hA with hA1 hA2
                subst hA1 hA2
                rw [HY.out] at e2
                simp only at e2
                obtain ⟨q1, q2, q3⟩ := HBl.out.facts
                have hgl := htS.lt
                by_cases hl : l < yn
                · have l1 : (l : Int) < (yn : Int) := by omega
                  have l2 : (0 : Int) ≤ (l : Int) := by omega
                  have l3 : IntKind.i64.wrap ((l : Int) + 1) = (l : Int) + 1 := IntWalk.i64_in _ (by omega)
                  obtain ⟨yg, yp, hyA, hty, ⟨v0, c0⟩, ⟨v1, c1⟩, v2, c2'⟩ := HMl.out.ar _ HYM.out l hl
                  simp only at hyA
                  have hys : S yg := HSI.out yg (by
                    have h1 := HMY.out.2 _ HYM.out (by simp only; omega) yg (by simp only; rw [hyA]; rfl)
                    have h2 := HYA.out
                    omega) ((HST.out.el _ HYM.out).rd.ty (by simp only; omega) yg (by simp only; rw [hyA]; rfl)).lt
                  subst hyA
                  have f0 := hty.frozen (yp + l * 3)
                  have f1 := hty.frozen (yp + l * 3 + 1)
                  have f2 := hty.frozen (yp + l * 3 + 2)
                  have hMg : ¬ M = yg := (blk_ty HBl.out).ne hty (by decide)
                  have HTY := hide hty
                  have HYS := hide hys
                  clear htS hty hys
                  go_wp2_with fail
                  go_roundw
                  · refine ⟨l + 1, by simp, by omega, hide (((HMl.out.arc HTY.out _ _).arc (HTY.out.set _ _ _) _ _).arc ((HTY.out.set _ _ _).set _ _ _) _ _), hide (((HBl.out.far (p := ⟨yg, _, none⟩) hMg _).far (p := ⟨yg, _, none⟩) hMg _).far (p := ⟨yg, _, none⟩) hMg _), hide (((HTl.out.setCell (p := ⟨yg, _, none⟩) (fun _ => HYS.out) _).setCell (p := ⟨yg, _, none⟩) (fun _ => HYS.out) _).setCell (p := ⟨yg, _, none⟩) (fun _ => HYS.out) _)⟩
                  · simp only [intOf]; omega
                · have l4 : ¬ (l : Int) < (yn : Int) := by omega
                  have ff := htS.frozen (o + i * 3)
                  have hgs : S g := HSI.out g (by
                    have h1 := HMY.out.1 (by omega) g rfl
                    have h2 := HYA.out
                    omega) (HST.out.rd.ty (by omega) g rfl).lt
                  have hMg : ¬ M = g := (blk_ty HBl.out).ne htS (by decide)
                  have HTS := hide htS
                  have HGS := hide hgs
                  clear hly hl htS hgs
                  go_wp2_with fail
                  go_region
                  all_goals
                    go_wp2_with fail
                    go_roundw
                    · refine ⟨i + 1, by simp, by omega, hide ((HMl.out.quiet (Touch.refl _ _).drew).fin rfl (HTS.out.touch (Touch.refl (fun _ => False) _).drew (fun f => f)) i _), hide ((HBl.out.drew).far (p := ⟨g, _, none⟩) hMg _), hide ((HTl.out.drew).setCell (p := ⟨g, _, none⟩) (fun _ => HGS.out) _)⟩
                    · simp only [intOf]; omega
        · have hie : i = n := by omega
          subst hie
          have j4 : ¬ (i : Int) < (i : Int) := by omega
          have z1 : IntKind.i64.wrap ((sn : Int) + 1) = (sn : Int) + 1 := IntWalk.i64_in _ (by omega)
          have htk : sL.take (sn + 1) = sL := List.take_of_length_le (by rw [HSL.out]; omega)
          have HTK := hide htk
          have hn4N := hide (show sn + 1 ≤ 5000 by omega)
          clear htk q1 q2 q3
          go_wp2_with fail
          refine (all_any wr b).mono ?_
          rintro e w5 ⟨B, rfl, hB, T5⟩
          have HT5 := hide ((HTW.out wr HT.out).then T5)
          have htd := told_any (Lst.touch HL.out HT5.out) ((HKP.out wr HT.out).quiet T5) HD.out B hB (sn + 1) hn4N.out
          rw [HTK.out, HSL.out, show ((sn + 1 : Nat) : Int) = (sn : Int) + 1 by omega] at htd
          have HTD := hide htd
          clear T5 hB htd
          go_wp2_with fail
          refine HTD.out.mono ?_
          rintro e w6 ⟨A5, c5, rfl, hO5, T6⟩
          have HT6 := hide (HT5.out.then T6)
          have hsm := psame_yes w6 A5 sn c5 sL HSL.out (Reads.of_own hO5) HN.out sA sc (HS.out.touch HT6.out).reads
          have HSM := hide hsm
          clear T6 hO5 hsm HTD
          go_wp2_with fail
          refine HSM.out.mono ?_
          rintro e w7 ⟨rfl, T7⟩
          have HT7 := hide (HT6.out.then T7)
          clear T7 HSM
          go_wp2_with fail
          go_ret
          exact ⟨by simp, HT7.out.below (Nat.le_refl _) (fun _ _ f => f)⟩
  · obtain ⟨sA, sn, sc, sL⟩ := s
    simp only [SL.val] at h3 ⊢
    have y1 : (300 : Int) < (sn : Int) := by omega
    clear hs hn hL hWf hlen h3 HRR
    go_enter Tryd.func9, Tryd.ntmps9
    go_wp2_with fail
    refine (alive9_any W HL.out).mono ?_
    rintro e w2 ⟨rfl, T2⟩
    have HT2 := hide T2
    clear T2
    go_wp2_with fail
    go_ret
    exact ⟨rfl, HT2.out.below (Nat.le_refl _) (fun _ _ f => f)⟩

end Go.Proofs.YtnakpadjlamdeaaDoor
