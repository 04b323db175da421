/- ref08.Unpack on any bytes: the walk. Condition: there are no more than 2^40 bytes. -/
import Derived.Test.YtcmjohaohdgnjaaDoorRuC
import Derived.Deep.RegionHeld3
namespace Go.Proofs.YtcmjohaohdgnjaaDoor
open Go.RowKit
set_option linter.unusedSectionVars false
set_option linter.unusedSimpArgs false
set_option linter.unusedVariables false
variable [Inhabited BaseT]

/-- What ref08.Unpack answers. -/
def RUnp (xs : List UInt8) (w : World) (e : Ending) (w' : World) : Prop := Touch (fun _ => False) w w' ∧
  ((∃ (bn : Nat) (sts : List StP) (A : Option Addr) (n c : Nat) (Z : List ZV), bn ≤ 1048576 ∧ RgtP sts (bn : Int) ∧ xs = packB bn sts ∧ e = .returned (.tuple #[.agg #[.int .i64 bn, .slice A n c], .int .i64 0]) ∧ StsZ w' A n Z ∧ Z.map ZV.p = sts.map StP.z) ∨
    (¬ Packs xs ∧ e = .returned (.tuple #[.agg #[.int .i64 0, .slice none 0 0], .int .i64 80])))
theorem and_last7' {a b c d e f g : Prop} (h : a ∧ b ∧ c ∧ d ∧ e ∧ f ∧ g) : g := h.2.2.2.2.2.2
def LabOk (Z : List ZV) : Prop := ∀ z ∈ Z, ∀ a ∈ z.arcs, I32 a.1

set_option maxRecDepth 100000 in
set_option maxHeartbeats 16000000 in
theorem runpack_any (w : World) (A : Option Addr) (n c : Nat) (xs : List UInt8) (hr : Reads w 1 A n (xs.map byteV)) (hl : xs.length = n) (hn : n ≤ 1099511627776) (hnc : n ≤ c) (hA : A = none → n = 0 ∧ c = 0) (hbs : bs ≤ w.heap.size) :
    Calls Tryd.prog 18 #[.slice A n c] w fun e w' => RUnp xs w e w' := by
  obtain ⟨i1, hi1, hy0, hy1, hy2⟩ := info_parts infoSt
  obtain ⟨i2, hi2, hz0, hz1, hz2⟩ := info_parts infoArc
  obtain ⟨w1, hw1⟩ : ∃ x, x = ((w.alloc (.cells #[.int .i64 0, .slice none 0 0] 24)).alloc (.cells #[.slice A n c, .int .i64 0, .int .i64 0] 83)).alloc (.cells #[.int .i64 0, .slice none 0 0] 24) := ⟨_, rfl⟩
  have hT1 : Touch (fun _ => False) w w1 := by rw [hw1]; exact (((Touch.refl _ _).alloc _).alloc _).alloc _
  have hq1 : QI w w1 A n c 0 0 0 none 0 0 [] := by
    refine ⟨?_, ?_, ?_, World.ownsRow_nil _ _ _ _, rfl, fun z hz => (by cases hz), hT1, fun g hg => (by cases hg)⟩
    · rw [hw1]; exact ((Blk.new _ _ _).alloc _).alloc _
    · rw [hw1]; exact (blk_new1 _ _ _ _).alloc _
    · rw [hw1]; exact blk_new2 _ _ _ _ _
  have hget := fun wx (T : Touch (fun _ => False) w wx) p (hp : p ≤ n) e (he : 0 ≤ e) most => rget_any wx A n c xs (hr.touch T (fun _ _ f => f)) hl (by omega) hnc hA p hp e he most
  have hconv := fun wx (T : Touch (fun _ => False) w wx) => conv_own wx A n c xs (hr.touch T (fun _ _ f => f))
  have HG := hide hget
  have HCV := hide hconv
  have HQ1 := hide hq1
  have HW1 := hide hw1
  have HL := hide hl
  have HN := hide hn
  have HBS := hide hbs
  obtain ⟨r0, r1, r2⟩ := hq1.rd.facts
  obtain ⟨m0, m1, m2⟩ := hq1.mc.facts
  have x1 : IntKind.i64.wrap (2 * (n : Int)) = 2 * (n : Int) := IntWalk.i64_in _ (by omega)
  have x2 : IntKind.i64.wrap (2 * (n : Int) + 1) = 2 * (n : Int) + 1 := IntWalk.i64_in _ (by omega)
  have x3 : IntKind.u64.wrap (2 * (n : Int) + 1) = 2 * (n : Int) + 1 := IntWalk.u64_in _ (by omega)
  clear hr hl hn hnc hA hbs hT1 hw1 hq1 hget hconv
  go_enter Tryd.func18, Tryd.ntmps18
  go_wp2_with fail
  rw [← HW1.out]
  refine (HG.out w1 HQ1.out.touch 0 (Nat.zero_le _) 0 (Int.le_refl _) 1048576).mono ?_
  rintro en w2 ⟨p1, e1, v1, rfl, hb1, T2⟩
  have hq2 := HQ1.out.quiet T2
  clear r0 r1 r2 m0 m1 m2
  obtain ⟨r0, r1, r2⟩ := hq2.rd.facts
  obtain ⟨w3, hw3⟩ : ∃ x, x = setR w2 (w.heap.size + 1) A n c p1 e1 := ⟨_, rfl⟩
  have hq3 := hq2.setR HBS.out p1 e1
  rw [← hw3] at hq3
  unfold setR at hw3
  have HQ3 := hide hq3
  have HB1 := hide hb1
  have HW3 := hide hw3
  have z1 : IntKind.i64.wrap (v1 : Int) = (v1 : Int) := IntWalk.i64_in _ (by have := hb1.2.1; omega)
  clear T2 hb1 hq2 hw3 hq3
  go_wp2_with fail
  rw [← HW3.out]
  clear r0 r1 r2
  refine (HG.out w3 HQ3.out.touch p1 (by have := HB1.out.1; have := HL.out; omega) e1 HB1.out.2.2.1 98305).mono ?_
  rintro en w4 ⟨p2, e2, v2, rfl, hb2, T4⟩
  have hq4 := HQ3.out.quiet T4
  obtain ⟨r0, r1, r2⟩ := hq4.rd.facts
  obtain ⟨m0, m1, m2⟩ := hq4.mc.facts
  obtain ⟨w5, hw5⟩ : ∃ x, x = (setR w4 (w.heap.size + 1) A n c p2 e2).setCell ⟨w.heap.size + 1 + 1, 0, none⟩ (.int .i64 (v1 : Int)) := ⟨_, rfl⟩
  have hq5 := (hq4.setR HBS.out p2 e2).setBase HBS.out (v1 : Int)
  rw [← hw5] at hq5
  unfold setR at hw5
  have z2 : IntKind.i64.wrap (v2 : Int) = (v2 : Int) := IntWalk.i64_in _ (by have := hb2.2.1; omega)
  have HQ5 := hide hq5
  have HJ5 := hide (js_start HB1.out hb2)
  have HV := hide (And.intro HB1.out.2.1 hb2.2.1)
  have HP2 := hide (show p2 ≤ n by have := hb2.1; have := HL.out; omega)
  have HE2 := hide hb2.2.2.1
  have HW5 := hide hw5
  clear T4 hb2 hq4 hw5 hq5
  go_wp2_with fail
  rw [← HW5.out]
  clear r0 r1 r2 m0 m1 m2
  go_loopw [8] (fun iv wr => ∃ (i p : Nat) (e : Int) (sA : Option Addr) (sc : Nat) (Z : List ZV), iv = .int .i64 i ∧ i ≤ v2 ∧ Hid (QI w wr A n c p e (v1 : Int) sA i sc Z) ∧ Hid (JS xs v2 v1 (Z.map ZV.p) i p e) ∧ Hid (p ≤ n ∧ 0 ≤ e) ∧ Hid (LabOk Z)) (fun iv _ => v2 - (intOf iv).toNat)
  case atStart => exact ⟨0, p2, e2, none, 0, [], rfl, Nat.zero_le _, HQ5, HJ5, hide ⟨HP2.out, HE2.out⟩, hide (fun z hz => by cases hz)⟩
  case round =>
    obtain ⟨i, p, e, sA, sc, Z, rfl, hi, HQ, HJ, HPE, HLB⟩ := hrel
    obtain ⟨wo, hwo⟩ : ∃ y, y = wr := ⟨_, rfl⟩
    subst hwo
    obtain ⟨r0, r1, r2⟩ := HQ.out.rd.facts
    obtain ⟨m0, m1, m2⟩ := HQ.out.mc.facts
    by_cases hgo : i < v2 ∧ e = 0
    · obtain ⟨hi2, he0⟩ := hgo
      subst he0
      have y0 : (i : Int) < (v2 : Int) := by omega
      have y1 : (0 : Int) ≤ (i : Int) := by omega
      have y2 : IntKind.i64.wrap ((i : Int) + 1) = (i : Int) + 1 := IntWalk.i64_in _ (by have := HV.out.2; omega)
      have HI2 := hide hi2
      obtain ⟨wS, hwS⟩ : ∃ x, x = wo.alloc (.cells #[.bool false, .int .i64 0, .slice none 0 0] 44) := ⟨_, rfl⟩
      have hTS : Touch (fun _ => False) wo wS := by rw [hwS]; exact (Touch.refl _ _).alloc _
      have hsq : SQ w wo wS A n c p 0 wo.heap.size false 0 none 0 0 [] := by
        refine ⟨hTS.up _, HQ.out.rd.touch hTS (fun f => f), ?_, World.ownsRow_nil _ _ _ _, rfl, fun g hg => (by cases hg), Nat.le_refl _⟩
        rw [hwS]
        exact Blk.new _ _ _
      have HSQ := hide hsq
      have HWS := hide hwS
      have HTS := hide hTS
      clear hsq hwS hTS hi hi2
      go_wp2_with fail
      rw [← HWS.out]
      have hcall := HG.out wS (HQ.out.touch.then HTS.out) p HPE.out.1 0 (Int.le_refl _) (2 * n + 1)
      rw [show (((2 * n + 1 : Nat)) : Int) = 2 * (n : Int) + 1 by omega] at hcall
      refine hcall.mono ?_
      rintro en w6 ⟨p3, e3, v3, rfl, hb3, T6⟩
      clear hcall r0 r1 r2 m0 m1 m2
      have hs6 := HSQ.out.quiet T6
      obtain ⟨r0, r1, r2⟩ := hs6.rd.facts
      obtain ⟨s0, s1, s2⟩ := hs6.st.facts
      have hv3 := hb3.2.1
      have hp3 : p3 ≤ n := by have := hb3.1; have := HL.out; omega
      obtain ⟨h, hh⟩ : ∃ h, h = v3 / 2 := ⟨_, rfl⟩
      obtain ⟨m, hm⟩ : ∃ m, m = v3 % 2 := ⟨_, rfl⟩
      have hhn : h ≤ n := by have := HL.out; omega
      have e3' : Int.tmod (v3 : Int) 2 = (m : Int) := by rw [Int.tmod_eq_emod_of_nonneg (by omega)]; omega
      have e4' : Int.tdiv (v3 : Int) 2 = (h : Int) := by rw [Int.tdiv_eq_ediv_of_nonneg (by omega)]; omega
      have z3 : IntKind.u64.wrap (m : Int) = (m : Int) := IntWalk.u64_in _ (by omega)
      have z4 : IntKind.u64.wrap (h : Int) = (h : Int) := IntWalk.u64_in _ (by have := HN.out; omega)
      have z5 : IntKind.i64.wrap (h : Int) = (h : Int) := IntWalk.i64_in _ (by have := HN.out; omega)
      have HB3 := hide hb3
      have HH := hide hh
      have HM := hide hm
      have HHN := hide hhn
      have HPE3 := hide (And.intro hp3 hb3.2.2.1)
      have hs7 := hs6.setR p3 e3
      have HS7 := hide hs7
      have hSr : ¬ wo.heap.size = w.heap.size + 1 := by have := HQ.out.rd.lt; omega
      have hSr2 : ¬ w.heap.size + 1 = wo.heap.size := fun e => hSr e.symm
      by_cases hf : m = 1
      · have g0 : ((m : Int) == 1) = true := by simp; omega
        obtain ⟨w8, hw8⟩ : ∃ x, x = ((setR w6 (w.heap.size + 1) A n c p3 e3).setCell ⟨wo.heap.size, 0, none⟩ (.bool true)).alloc (.cells #[.slice A n c, .int .i64 p3, .int .i64 e3] 83) := ⟨_, rfl⟩
        have hs8 : SQ w wo w8 A n c p3 e3 wo.heap.size true 0 none 0 0 [] := by
          rw [hw8]
          exact (HS7.out.setS rfl).quiet ((Touch.refl _ _).alloc _)
        unfold setR at hw8
        have HS8 := hide hs8
        have HW8 := hide hw8
        have HF := hide hf
        clear T6 hb3 hs6 hv3 hp3 hh hm hhn hs7 hs8 hw8 hf HS7
        go_wp2_with fail
        rw [← HW8.out]
        clear r0 r1 r2 s0 s1 s2
        refine (HG.out w8 (HQ.out.far HBS.out HS8.out.t0 HS8.out.rd).touch p3 HPE3.out.1 e3 HPE3.out.2 1048576).mono ?_
        rintro en w9 ⟨p4, e4, v4, rfl, hb4, T9⟩
        have hs9 := HS8.out.quiet T9
        obtain ⟨r0, r1, r2⟩ := hs9.rd.facts
        obtain ⟨s0, s1, s2⟩ := hs9.st.facts
        have z6 : IntKind.i64.wrap (v4 : Int) = (v4 : Int) := IntWalk.i64_in _ (by have := hb4.2.1; omega)
        obtain ⟨wq, hwq⟩ : ∃ x, x = ((setR w9 (w.heap.size + 1) A n c p4 e4).setCell ⟨wo.heap.size, 1, none⟩ (.int .i64 (v4 : Int))).alloc (.cells #[.slice A n c, .int .i64 p4, .int .i64 e4] 83) := ⟨_, rfl⟩
        have hsq : SQ w wo wq A n c p4 e4 wo.heap.size true (v4 : Int) none 0 0 [] := by
          rw [hwq]
          exact ((hs9.setR p4 e4).setS rfl).quiet ((Touch.refl _ _).alloc _)
        unfold setR at hwq
        have hja := ja_fin HI2.out HJ.out (by rw [HL.out]; exact HB3.out) (by have h1 := HF.out; have h2 := HM.out; omega) hb4
        rw [← HH.out] at hja
        have HSQI := hide hsq
        have HJAI := hide hja
        have HPEI := hide (show p4 ≤ n ∧ 0 ≤ e4 from ⟨by have := hb4.1; have := HL.out; omega, hb4.2.2.1⟩)
        have HWQ := hide hwq
        clear T9 hb4 hs9 hsq hja hwq HS8
        go_wp2_with fail
        rw [← HWQ.out]
        clear r0 r1 r2 s0 s1 s2
        go_loopw [14, 15] (fun lv jv wx => ∃ (j last p' : Nat) (e' : Int) (aA : Option Addr) (ac : Nat) (acc : List (Int × Int × Int)), lv = .int .i64 last ∧ jv = .int .i64 j ∧ j ≤ h ∧ Hid (SQ w wo wx A n c p' e' wo.heap.size true (v4 : Int) aA j ac acc) ∧ Hid (JA xs v2 v1 (Z.map ZV.p) i true (v4 : Int) acc (h - j) last p' e') ∧ Hid (p' ≤ n ∧ 0 ≤ e') ∧ Hid (last ≤ 1114111) ∧ Hid (∀ a ∈ acc, I32 a.1)) (fun _ jv _ => h - (intOf jv).toNat)
        case atStart => exact ⟨0, 0, p4, e4, none, 0, [], rfl, rfl, Nat.zero_le _, HSQI, hide (by rw [Nat.sub_zero]; exact HJAI.out), HPEI, hide (Nat.zero_le _), hide (fun a ha => by cases ha)⟩
        case round =>
          obtain ⟨j, last, pj, ej, aA, ac, acc, rfl, rfl, hj, HSJ, HJJ, HPJ, HLA, HAC⟩ := hrel
          obtain ⟨r0, r1, r2⟩ := HSJ.out.rd.facts
          obtain ⟨s0, s1, s2⟩ := HSJ.out.st.facts
          by_cases hgj : j < h ∧ ej = 0
          · obtain ⟨hj2, hej⟩ := hgj
            subst hej
            have y3 : (j : Int) < (h : Int) := by omega
            have y4 : (0 : Int) ≤ (j : Int) := by omega
            have y5 : IntKind.i64.wrap ((j : Int) + 1) = (j : Int) + 1 := IntWalk.i64_in _ (by have := HHN.out; have := HN.out; omega)
            have HJ2 := hide hj2
            have htw : Touch (fun _ => False) w wr := (HQ.out.far HBS.out HSJ.out.t0 HSJ.out.rd).touch
            have HC1 := hide (HG.out wr htw pj HPJ.out.1 0 (Int.le_refl _) 1114111)
            have hjj := HJJ.out
            rw [show h - j = (h - (j + 1)) + 1 by omega] at hjj
            have HJJ1 := hide hjj
            clear hjj htw hj hj2
            go_wp2_with fail
            refine HC1.out.mono ?_
            rintro en wa ⟨q1, f1, d, rfl, hd1, Ta⟩
            have hsa := HSJ.out.quiet Ta
            have hq1n : q1 ≤ n := by have := hd1.1; have := HL.out; omega
            clear r0 r1 r2 s0 s1 s2 HC1
            obtain ⟨wb, hwb⟩ : ∃ y, y = wa.alloc (.cells #[.slice A n c, .int .i64 q1, .int .i64 f1] 83) := ⟨_, rfl⟩
            have hTb : Touch (fun _ => False) wa wb := by rw [hwb]; exact (Touch.refl _ _).alloc _
            have hPb : Blk wb wa.heap.size 83 #[.slice A n c, .int .i64 q1, .int .i64 f1] := by rw [hwb]; exact Blk.new _ _ _
            have hsb := hsa.quiet hTb
            have hPa : wo.heap.size ≤ wa.heap.size := hsa.t0.size
            obtain ⟨P, hP⟩ : ∃ P, P = wa.heap.size := ⟨_, rfl⟩
            rw [← hP] at hPb hPa
            have HC2 := hide (HG.out wb (HQ.out.far HBS.out hsb.t0 hsb.rd).touch q1 hq1n f1 hd1.2.2.1 1048576)
            have HSB := hide hsb
            have HPB := hide hPb
            have HPA := hide hPa
            have HD1 := hide hd1
            have HWB := hide hwb
            have HPP := hide hP
            obtain ⟨t0, t1, t2⟩ := hPb.facts
            have zd : IntKind.i64.wrap (d : Int) = (d : Int) := IntWalk.i64_in _ (by have := hd1.2.1; omega)
            have zs : IntKind.i64.wrap ((last : Int) + (d : Int)) = (last : Int) + (d : Int) := IntWalk.i64_in _ (by have := hd1.2.1; have := HLA.out; omega)
            clear hsa hsb Ta hd1 hq1n hTb hPb hPa hwb hP
            go_wp2_with fail
            rw [← HWB.out, ← HPP.out]
            refine HC2.out.mono ?_
            rintro en wc ⟨q2, f2, o, rfl, hd2, Tc⟩
            have hsc := HSB.out.quiet Tc
            have hPc := HPB.out.touch Tc (fun f => f)
            have hq2n : q2 ≤ n := by have := hd2.1; have := HL.out; omega
            clear t0 t1 t2 HC2
            obtain ⟨t0, t1, t2⟩ := hPc.facts
            have hPne : P ≠ w.heap.size + 1 := by
              have h1 := HQ.out.rd.lt
              have h2 := HPA.out
              omega
            obtain ⟨wd, hwd⟩ : ∃ y, y = setR wc P A n c q2 f2 := ⟨_, rfl⟩
            have hsd := hsc.setP hPc HPA.out hPne q2 f2
            have hPd := setR_blk hPc A n c (q2 : Int) f2
            rw [← hwd] at hsd hPd
            unfold setR at hwd
            have HC3 := hide (HG.out wd (HQ.out.far HBS.out hsd.t0 hsd.rd).touch q2 hq2n f2 hd2.2.2.1 98305)
            have HSD := hide hsd
            have HPD := hide hPd
            have HD2 := hide hd2
            have HWD := hide hwd
            have HPN := hide hPne
            have zo : IntKind.i64.wrap (o : Int) = (o : Int) := IntWalk.i64_in _ (by have := hd2.2.1; omega)
            clear hsc hsd Tc hd2 hq2n hPc hPd hwd hPne
            go_wp2_with fail
            rw [← HWD.out]
            refine HC3.out.mono ?_
            rintro en we ⟨q3, f3, b, rfl, hd3, Te⟩
            have hse := HSD.out.quiet Te
            have hPe := HPD.out.touch Te (fun f => f)
            clear t0 t1 t2 HC3
            obtain ⟨t0, t1, t2⟩ := hPe.facts
            obtain ⟨r0, r1, r2⟩ := hse.rd.facts
            have hPr : ¬ P = w.heap.size + 1 := HPN.out
            obtain ⟨wf, hwf⟩ : ∃ y, y = setR (setR we P A n c q3 f3) (w.heap.size + 1) A n c q3 f3 := ⟨_, rfl⟩
            have hsf := (hse.setP hPe HPA.out HPN.out q3 f3).setR q3 f3
            rw [← hwf] at hsf
            unfold setR at hwf
            have hst := ja_step HJJ1.out HD1.out HD2.out hd3
            have zb : IntKind.i64.wrap (b : Int) = (b : Int) := IntWalk.i64_in _ (by have := hd3.2.1; omega)
            have zi : IntKind.i64.wrap ((i : Int) - (b : Int)) = (i : Int) - (b : Int) := IntWalk.i64_in _ (by have := hd3.2.1; have := HV.out.2; have := HI2.out; omega)
            have HSF := hide hsf
            have HST := hide hst
            have HWF := hide hwf
            have HQ3N := hide (show q3 ≤ n ∧ 0 ≤ f3 from ⟨by have := hd3.1; have := HL.out; omega, hd3.2.2.1⟩)
            have hPr2 : ¬ w.heap.size + 1 = P := fun e => hPr e.symm
            have hdm := HD1.out.2.1
            clear hse hsf Te hd3 hPe hwf hst
            go_upto_region 25 with fail
            rw [← HWF.out]
            clear r0 r1 r2 t0 t1 t2
            obtain ⟨s0, s1, s2⟩ := HSF.out.st.facts
            obtain ⟨u0, u1, u2⟩ := (HQ.out.far HBS.out HSF.out.t0 HSF.out.rd).res.facts
            by_cases hbig : 1114111 < last + d
            · have g0 : (1114111 : Int) < (last : Int) + (d : Int) := by omega
              have hno := no_packs (HST.out.1 hbig)
              have HNO := hide hno
              clear hno hbig hdm
              go_wp2_with fail
              have HTF := hide (HQ.out.far HBS.out HSF.out.t0 HSF.out.rd).touch
              refine bodyPost_ret (v := .tuple #[.agg #[.int .i64 0, .slice none 0 0], .int .i64 80]) (by simp [results, Tryd.results18, go_sem, u0, u1]; try rfl) rfl ⟨?_, .inr ⟨HNO.out, rfl⟩⟩
              repeat' first | exact HTF.out | refine Touch.setCell ?_ (fun h => by simp only at h; omega) _
            · have g0 : ¬ (1114111 : Int) < (last : Int) + (d : Int) := by omega
              have zl : IntKind.i32.wrap ((last : Int) + (d : Int)) = (last : Int) + (d : Int) := IntWalk.i32_in _ (by omega)
              have hja := HST.out.2 (by omega)
              have HJA2 := hide hja
              have HBIG := hide (show last + d ≤ 1114111 by omega)
              obtain ⟨wg, hwg⟩ : ∃ y, y = wf.alloc (.cells #[.int .i32 ((last : Int) + (d : Int)), .int .i64 (o : Int), .int .i64 ((i : Int) - (b : Int))] 74) := ⟨_, rfl⟩
              have hTg : Touch (fun _ => False) wf wg := by rw [hwg]; exact (Touch.refl _ _).alloc _
              have hsg := HSF.out.quiet hTg
              have hRg : Reads wg 3 (some ⟨wf.heap.size, 0, none⟩) 1 [.int .i32 ((last : Int) + (d : Int)), .int .i64 (o : Int), .int .i64 ((i : Int) - (b : Int))] := by
                rw [hwg]
                exact Reads.new wf _ _ 1 rfl
              have HSG := hide hsg
              have HRG := hide hRg
              have HWG := hide hwg
              have HOWN := hide hsg.arc
              have HBB : Hid (j + 1 ≤ maxLen ∧ (j + 1) * 24 ≤ 140737488355328) := hide (by have h1 := HJ2.out; have h2 := HHN.out; have h3 := HN.out; unfold maxLen; omega)
              clear hja hbig hTg hsg hRg hwg hdm
              go_wp2_with (at_builtin; rw [← HWG.out]; refine wpList_app _ rfl (.tmp 108) (.tmp 118) 42 rfl 74 i2 _ 3 24 Tryd.underlying42 hi2 hz0 hz1 hz2 rfl (by decide) (.slice aA j ac) j _ rfl HOWN.out (some ⟨wf.heap.size, 0, none⟩) 1 1 [.int .i32 ((last : Int) + (d : Int)), .int .i64 (o : Int), .int .i64 ((i : Int) - (b : Int))] rfl HRG.out (fun h => by cases h) (List.all_eq_true.1 rfl) HBB.out.1 HBB.out.2 ?_; intro v1 w10 O10 G10 F10 _; obtain ⟨A10, c10, hv, _, _⟩ := own_len O10; subst hv; have hs10 := HSG.out.app ((last : Int) + (d : Int)) (o : Int) ((i : Int) - (b : Int)) O10 G10 F10; have hsx := sq_cells HSG.out G10; obtain ⟨s0', s1', s2'⟩ := hsx; have HS10 := hide hs10; clear O10 G10 F10 hs10)
              go_roundw
              · refine ⟨j + 1, last + d, q3, f3, A10, c10, acc ++ [(((last + d : Nat) : Int), (o : Int), (i : Int) - (b : Int))], by simp, by simp, by have := HJ2.out; omega, hide ?_, HJA2, HQ3N, HBIG, hide ?_⟩
                · have h := HS10.out
                  rw [show (last : Int) + (d : Int) = ((last + d : Nat) : Int) by omega] at h
                  exact h
                · intro a ha
                  rcases List.mem_append.1 ha with ha | ha
                  · exact HAC.out a ha
                  · rw [List.mem_singleton.1 ha]
                    have := HBIG.out
                    unfold I32
                    simp only
                    omega
              · have := HJ2.out
                simp only [intOf]
                omega
          · have hend : h - j = 0 ∨ ej ≠ 0 := by omega
            have hjs := ja_end HJJ.out hend
            have HJS := hide hjs
            have hex : ¬ (j : Int) < (h : Int) ∨ ((j : Int) < (h : Int) ∧ (ej == 0) = false) := by
              by_cases hj3 : j < h
              · right
                have : ej ≠ 0 := fun e => hgj ⟨hj3, e⟩
                exact ⟨by omega, by simpa using this⟩
              · left
                omega
            have hqf := HQ.out.far HBS.out HSJ.out.t0 HSJ.out.rd
            obtain ⟨m0, m1, m2⟩ := hqf.mc.facts
            obtain ⟨wg, hwg⟩ : ∃ y, y = wr.alloc (.cells #[.bool true, .int .i64 (v4 : Int), .slice aA j ac] 44) := ⟨_, rfl⟩
            have hTg : Touch (fun _ => False) wr wg := by rw [hwg]; exact (Touch.refl _ _).alloc _
            have hRg : Reads wg 3 (some ⟨wr.heap.size, 0, none⟩) 1 [.bool true, .int .i64 (v4 : Int), .slice aA j ac] := by
              rw [hwg]
              exact Reads.new wr _ _ 1 rfl
            have HTG := hide hTg
            have HRG := hide hRg
            have HWG := hide hwg
            have HOWN := hide (hqf.quiet hTg).own
            have HMG := hide (hqf.quiet hTg)
            have HBB : Hid (i + 1 ≤ maxLen ∧ (i + 1) * 40 ≤ 140737488355328) := hide (by have h1 := HI2.out; have h2 := HV.out.2; unfold maxLen; omega)
            clear hend hjs hqf hTg hRg hwg hgj hj
            rcases hex with hex | ⟨hex, hex2⟩
            all_goals
              go_wp2_with (at_builtin; rw [← HWG.out]; refine wpList_app _ rfl (.tmp 122) (.tmp 124) 22 rfl 44 i1 _ 3 40 Tryd.underlying22 hi1 hy0 hy1 hy2 rfl (by decide) (.slice sA i sc) i _ rfl HOWN.out (some ⟨wr.heap.size, 0, none⟩) 1 1 [.bool true, .int .i64 (v4 : Int), .slice aA j ac] rfl HRG.out (fun h => by cases h) (List.all_eq_true.1 rfl) HBB.out.1 HBB.out.2 ?_; intro v1 w10 O10 G10 F10 _; obtain ⟨A10, c10, hv, _, _⟩ := own_len O10; subst hv; have hq10 := QI.push HQ.out HBS.out HSJ.out HTG.out O10 G10 F10; have hmx := qi_cells HMG.out HBS.out G10; obtain ⟨m0', m1', m2'⟩ := hmx; have HQ10 := hide hq10; clear O10 G10 F10 hq10)
              go_roundw
              · refine ⟨i + 1, pj, ej, A10, c10, _, by simp, by have := HI2.out; omega, HQ10, hide (by rw [List.map_append]; exact HJS.out), HPJ, hide ?_⟩
                intro z hz
                rcases List.mem_append.1 hz with hz | hz
                · exact HLB.out z hz
                · rw [List.mem_singleton.1 hz]
                  exact HAC.out
              · have := HI2.out
                simp only [intOf]
                omega
      · have g0 : ((m : Int) == 1) = false := by simp; omega
        obtain ⟨wq, hwq⟩ : ∃ x, x = ((setR w6 (w.heap.size + 1) A n c p3 e3).setCell ⟨wo.heap.size, 0, none⟩ (.bool false)).alloc (.cells #[.slice A n c, .int .i64 p3, .int .i64 e3] 83) := ⟨_, rfl⟩
        have hsq : SQ w wo wq A n c p3 e3 wo.heap.size false 0 none 0 0 [] := by
          rw [hwq]
          exact (HS7.out.setS rfl).quiet ((Touch.refl _ _).alloc _)
        unfold setR at hwq
        have hja := ja_plain HI2.out HJ.out (by rw [HL.out]; exact HB3.out) (by omega)
        rw [← HH.out] at hja
        have HSQI := hide hsq
        have HJAI := hide hja
        have HWQ := hide hwq
        clear T6 hb3 hs6 hv3 hp3 hh hm hhn hs7 hsq hja hwq hf HS7
        go_wp2_with fail
        rw [← HWQ.out]
        clear r0 r1 r2 s0 s1 s2
        go_loopw [14, 15] (fun lv jv wx => ∃ (j last p' : Nat) (e' : Int) (aA : Option Addr) (ac : Nat) (acc : List (Int × Int × Int)), lv = .int .i64 last ∧ jv = .int .i64 j ∧ j ≤ h ∧ Hid (SQ w wo wx A n c p' e' wo.heap.size false 0 aA j ac acc) ∧ Hid (JA xs v2 v1 (Z.map ZV.p) i false 0 acc (h - j) last p' e') ∧ Hid (p' ≤ n ∧ 0 ≤ e') ∧ Hid (last ≤ 1114111) ∧ Hid (∀ a ∈ acc, I32 a.1)) (fun _ jv _ => h - (intOf jv).toNat)
        case atStart => exact ⟨0, 0, p3, e3, none, 0, [], rfl, rfl, Nat.zero_le _, HSQI, hide (by rw [Nat.sub_zero]; exact HJAI.out), HPE3, hide (Nat.zero_le _), hide (fun a ha => by cases ha)⟩
        case round =>
          obtain ⟨j, last, pj, ej, aA, ac, acc, rfl, rfl, hj, HSJ, HJJ, HPJ, HLA, HAC⟩ := hrel
          obtain ⟨r0, r1, r2⟩ := HSJ.out.rd.facts
          obtain ⟨s0, s1, s2⟩ := HSJ.out.st.facts
          by_cases hgj : j < h ∧ ej = 0
          · obtain ⟨hj2, hej⟩ := hgj
            subst hej
            have y3 : (j : Int) < (h : Int) := by omega
            have y4 : (0 : Int) ≤ (j : Int) := by omega
            have y5 : IntKind.i64.wrap ((j : Int) + 1) = (j : Int) + 1 := IntWalk.i64_in _ (by have := HHN.out; have := HN.out; omega)
            have HJ2 := hide hj2
            have htw : Touch (fun _ => False) w wr := (HQ.out.far HBS.out HSJ.out.t0 HSJ.out.rd).touch
            have HC1 := hide (HG.out wr htw pj HPJ.out.1 0 (Int.le_refl _) 1114111)
            have hjj := HJJ.out
            rw [show h - j = (h - (j + 1)) + 1 by omega] at hjj
            have HJJ1 := hide hjj
            clear hjj htw hj hj2
            go_wp2_with fail
            refine HC1.out.mono ?_
            rintro en wa ⟨q1, f1, d, rfl, hd1, Ta⟩
            have hsa := HSJ.out.quiet Ta
            have hq1n : q1 ≤ n := by have := hd1.1; have := HL.out; omega
            clear r0 r1 r2 s0 s1 s2 HC1
            obtain ⟨wb, hwb⟩ : ∃ y, y = wa.alloc (.cells #[.slice A n c, .int .i64 q1, .int .i64 f1] 83) := ⟨_, rfl⟩
            have hTb : Touch (fun _ => False) wa wb := by rw [hwb]; exact (Touch.refl _ _).alloc _
            have hPb : Blk wb wa.heap.size 83 #[.slice A n c, .int .i64 q1, .int .i64 f1] := by rw [hwb]; exact Blk.new _ _ _
            have hsb := hsa.quiet hTb
            have hPa : wo.heap.size ≤ wa.heap.size := hsa.t0.size
            obtain ⟨P, hP⟩ : ∃ P, P = wa.heap.size := ⟨_, rfl⟩
            rw [← hP] at hPb hPa
            have HC2 := hide (HG.out wb (HQ.out.far HBS.out hsb.t0 hsb.rd).touch q1 hq1n f1 hd1.2.2.1 1048576)
            have HSB := hide hsb
            have HPB := hide hPb
            have HPA := hide hPa
            have HD1 := hide hd1
            have HWB := hide hwb
            have HPP := hide hP
            obtain ⟨t0, t1, t2⟩ := hPb.facts
            have zd : IntKind.i64.wrap (d : Int) = (d : Int) := IntWalk.i64_in _ (by have := hd1.2.1; omega)
            have zs : IntKind.i64.wrap ((last : Int) + (d : Int)) = (last : Int) + (d : Int) := IntWalk.i64_in _ (by have := hd1.2.1; have := HLA.out; omega)
            clear hsa hsb Ta hd1 hq1n hTb hPb hPa hwb hP
            go_wp2_with fail
            rw [← HWB.out, ← HPP.out]
            refine HC2.out.mono ?_
            rintro en wc ⟨q2, f2, o, rfl, hd2, Tc⟩
            have hsc := HSB.out.quiet Tc
            have hPc := HPB.out.touch Tc (fun f => f)
            have hq2n : q2 ≤ n := by have := hd2.1; have := HL.out; omega
            clear t0 t1 t2 HC2
            obtain ⟨t0, t1, t2⟩ := hPc.facts
            have hPne : P ≠ w.heap.size + 1 := by
              have h1 := HQ.out.rd.lt
              have h2 := HPA.out
              omega
            obtain ⟨wd, hwd⟩ : ∃ y, y = setR wc P A n c q2 f2 := ⟨_, rfl⟩
            have hsd := hsc.setP hPc HPA.out hPne q2 f2
            have hPd := setR_blk hPc A n c (q2 : Int) f2
            rw [← hwd] at hsd hPd
            unfold setR at hwd
            have HC3 := hide (HG.out wd (HQ.out.far HBS.out hsd.t0 hsd.rd).touch q2 hq2n f2 hd2.2.2.1 98305)
            have HSD := hide hsd
            have HPD := hide hPd
            have HD2 := hide hd2
            have HWD := hide hwd
            have HPN := hide hPne
            have zo : IntKind.i64.wrap (o : Int) = (o : Int) := IntWalk.i64_in _ (by have := hd2.2.1; omega)
            clear hsc hsd Tc hd2 hq2n hPc hPd hwd hPne
            go_wp2_with fail
            rw [← HWD.out]
            refine HC3.out.mono ?_
            rintro en we ⟨q3, f3, b, rfl, hd3, Te⟩
            have hse := HSD.out.quiet Te
            have hPe := HPD.out.touch Te (fun f => f)
            clear t0 t1 t2 HC3
            obtain ⟨t0, t1, t2⟩ := hPe.facts
            obtain ⟨r0, r1, r2⟩ := hse.rd.facts
            have hPr : ¬ P = w.heap.size + 1 := HPN.out
            obtain ⟨wf, hwf⟩ : ∃ y, y = setR (setR we P A n c q3 f3) (w.heap.size + 1) A n c q3 f3 := ⟨_, rfl⟩
            have hsf := (hse.setP hPe HPA.out HPN.out q3 f3).setR q3 f3
            rw [← hwf] at hsf
            unfold setR at hwf
            have hst := ja_step HJJ1.out HD1.out HD2.out hd3
            have zb : IntKind.i64.wrap (b : Int) = (b : Int) := IntWalk.i64_in _ (by have := hd3.2.1; omega)
            have zi : IntKind.i64.wrap ((i : Int) - (b : Int)) = (i : Int) - (b : Int) := IntWalk.i64_in _ (by have := hd3.2.1; have := HV.out.2; have := HI2.out; omega)
            have HSF := hide hsf
            have HST := hide hst
            have HWF := hide hwf
            have HQ3N := hide (show q3 ≤ n ∧ 0 ≤ f3 from ⟨by have := hd3.1; have := HL.out; omega, hd3.2.2.1⟩)
            have hPr2 : ¬ w.heap.size + 1 = P := fun e => hPr e.symm
            have hdm := HD1.out.2.1
            clear hse hsf Te hd3 hPe hwf hst
            go_upto_region 25 with fail
            rw [← HWF.out]
            clear r0 r1 r2 t0 t1 t2
            obtain ⟨s0, s1, s2⟩ := HSF.out.st.facts
            obtain ⟨u0, u1, u2⟩ := (HQ.out.far HBS.out HSF.out.t0 HSF.out.rd).res.facts
            by_cases hbig : 1114111 < last + d
            · have g0 : (1114111 : Int) < (last : Int) + (d : Int) := by omega
              have hno := no_packs (HST.out.1 hbig)
              have HNO := hide hno
              clear hno hbig hdm
              go_wp2_with fail
              have HTF := hide (HQ.out.far HBS.out HSF.out.t0 HSF.out.rd).touch
              refine bodyPost_ret (v := .tuple #[.agg #[.int .i64 0, .slice none 0 0], .int .i64 80]) (by simp [results, Tryd.results18, go_sem, u0, u1]; try rfl) rfl ⟨?_, .inr ⟨HNO.out, rfl⟩⟩
              repeat' first | exact HTF.out | refine Touch.setCell ?_ (fun h => by simp only at h; omega) _
            · have g0 : ¬ (1114111 : Int) < (last : Int) + (d : Int) := by omega
              have zl : IntKind.i32.wrap ((last : Int) + (d : Int)) = (last : Int) + (d : Int) := IntWalk.i32_in _ (by omega)
              have hja := HST.out.2 (by omega)
              have HJA2 := hide hja
              have HBIG := hide (show last + d ≤ 1114111 by omega)
              obtain ⟨wg, hwg⟩ : ∃ y, y = wf.alloc (.cells #[.int .i32 ((last : Int) + (d : Int)), .int .i64 (o : Int), .int .i64 ((i : Int) - (b : Int))] 74) := ⟨_, rfl⟩
              have hTg : Touch (fun _ => False) wf wg := by rw [hwg]; exact (Touch.refl _ _).alloc _
              have hsg := HSF.out.quiet hTg
              have hRg : Reads wg 3 (some ⟨wf.heap.size, 0, none⟩) 1 [.int .i32 ((last : Int) + (d : Int)), .int .i64 (o : Int), .int .i64 ((i : Int) - (b : Int))] := by
                rw [hwg]
                exact Reads.new wf _ _ 1 rfl
              have HSG := hide hsg
              have HRG := hide hRg
              have HWG := hide hwg
              have HOWN := hide hsg.arc
              have HBB : Hid (j + 1 ≤ maxLen ∧ (j + 1) * 24 ≤ 140737488355328) := hide (by have h1 := HJ2.out; have h2 := HHN.out; have h3 := HN.out; unfold maxLen; omega)
              clear hja hbig hTg hsg hRg hwg hdm
              go_wp2_with (at_builtin; rw [← HWG.out]; refine wpList_app _ rfl (.tmp 108) (.tmp 118) 42 rfl 74 i2 _ 3 24 Tryd.underlying42 hi2 hz0 hz1 hz2 rfl (by decide) (.slice aA j ac) j _ rfl HOWN.out (some ⟨wf.heap.size, 0, none⟩) 1 1 [.int .i32 ((last : Int) + (d : Int)), .int .i64 (o : Int), .int .i64 ((i : Int) - (b : Int))] rfl HRG.out (fun h => by cases h) (List.all_eq_true.1 rfl) HBB.out.1 HBB.out.2 ?_; intro v1 w10 O10 G10 F10 _; obtain ⟨A10, c10, hv, _, _⟩ := own_len O10; subst hv; have hs10 := HSG.out.app ((last : Int) + (d : Int)) (o : Int) ((i : Int) - (b : Int)) O10 G10 F10; have hsx := sq_cells HSG.out G10; obtain ⟨s0', s1', s2'⟩ := hsx; have HS10 := hide hs10; clear O10 G10 F10 hs10)
              go_roundw
              · refine ⟨j + 1, last + d, q3, f3, A10, c10, acc ++ [(((last + d : Nat) : Int), (o : Int), (i : Int) - (b : Int))], by simp, by simp, by have := HJ2.out; omega, hide ?_, HJA2, HQ3N, HBIG, hide ?_⟩
                · have h := HS10.out
                  rw [show (last : Int) + (d : Int) = ((last + d : Nat) : Int) by omega] at h
                  exact h
                · intro a ha
                  rcases List.mem_append.1 ha with ha | ha
                  · exact HAC.out a ha
                  · rw [List.mem_singleton.1 ha]
                    have := HBIG.out
                    unfold I32
                    simp only
                    omega
              · have := HJ2.out
                simp only [intOf]
                omega
          · have hend : h - j = 0 ∨ ej ≠ 0 := by omega
            have hjs := ja_end HJJ.out hend
            have HJS := hide hjs
            have hex : ¬ (j : Int) < (h : Int) ∨ ((j : Int) < (h : Int) ∧ (ej == 0) = false) := by
              by_cases hj3 : j < h
              · right
                have : ej ≠ 0 := fun e => hgj ⟨hj3, e⟩
                exact ⟨by omega, by simpa using this⟩
              · left
                omega
            have hqf := HQ.out.far HBS.out HSJ.out.t0 HSJ.out.rd
            obtain ⟨m0, m1, m2⟩ := hqf.mc.facts
            obtain ⟨wg, hwg⟩ : ∃ y, y = wr.alloc (.cells #[.bool false, .int .i64 0, .slice aA j ac] 44) := ⟨_, rfl⟩
            have hTg : Touch (fun _ => False) wr wg := by rw [hwg]; exact (Touch.refl _ _).alloc _
            have hRg : Reads wg 3 (some ⟨wr.heap.size, 0, none⟩) 1 [.bool false, .int .i64 0, .slice aA j ac] := by
              rw [hwg]
              exact Reads.new wr _ _ 1 rfl
            have HTG := hide hTg
            have HRG := hide hRg
            have HWG := hide hwg
            have HOWN := hide (hqf.quiet hTg).own
            have HMG := hide (hqf.quiet hTg)
            have HBB : Hid (i + 1 ≤ maxLen ∧ (i + 1) * 40 ≤ 140737488355328) := hide (by have h1 := HI2.out; have h2 := HV.out.2; unfold maxLen; omega)
            clear hend hjs hqf hTg hRg hwg hgj hj
            rcases hex with hex | ⟨hex, hex2⟩
            all_goals
              go_wp2_with (at_builtin; rw [← HWG.out]; refine wpList_app _ rfl (.tmp 122) (.tmp 124) 22 rfl 44 i1 _ 3 40 Tryd.underlying22 hi1 hy0 hy1 hy2 rfl (by decide) (.slice sA i sc) i _ rfl HOWN.out (some ⟨wr.heap.size, 0, none⟩) 1 1 [.bool false, .int .i64 0, .slice aA j ac] rfl HRG.out (fun h => by cases h) (List.all_eq_true.1 rfl) HBB.out.1 HBB.out.2 ?_; intro v1 w10 O10 G10 F10 _; obtain ⟨A10, c10, hv, _, _⟩ := own_len O10; subst hv; have hq10 := QI.push HQ.out HBS.out HSJ.out HTG.out O10 G10 F10; have hmx := qi_cells HMG.out HBS.out G10; obtain ⟨m0', m1', m2'⟩ := hmx; have HQ10 := hide hq10; clear O10 G10 F10 hq10)
              go_roundw
              · refine ⟨i + 1, pj, ej, A10, c10, _, by simp, by have := HI2.out; omega, HQ10, hide (by rw [List.map_append]; exact HJS.out), HPJ, hide ?_⟩
                intro z hz
                rcases List.mem_append.1 hz with hz | hz
                · exact HLB.out z hz
                · rw [List.mem_singleton.1 hz]
                  exact HAC.out
              · have := HI2.out
                simp only [intOf]
                omega
    · have hjs := HJ.out
      have hex : ¬ (i : Int) < (v2 : Int) ∨ ((i : Int) < (v2 : Int) ∧ (e == 0) = false) := by
        by_cases hi3 : i < v2
        · right
          have : e ≠ 0 := fun he => hgo ⟨hi3, he⟩
          exact ⟨by omega, by simpa using this⟩
        · left
          omega
      have hje : e = 0 → machQ xs.length xs = some ((v1, Z.map ZV.p), xs.drop p) := fun he => js_end hjs (by
        by_cases hi3 : i < v2
        · exact absurd ⟨hi3, he⟩ hgo
        · omega) he
      have hsz : StsZ wo sA i Z := ⟨RdO.of_own HQ.out.own, HQ.out.len, HQ.out.el⟩
      have HSZ := hide hsz
      have HE := hide (fun wx => rend_any wx A n c p e)
      have hbw : ∀ wx, Touch (fun _ => False) wo wx → bs ≤ wx.heap.size := fun wx T => by have h1 := HBS.out; have h2 := HQ.out.touch.size; have h3 := T.size; omega
      have hcr := fun wx (T : Touch (fun _ => False) wo wx) => rright_any wx (v1 : Int) sA i sc Z (hsz.quiet T) (by have := HV.out.2; unfold maxLen; omega) HLB.out (hbw wx T)
      have HCR := hide hcr
      by_cases hok : e = 0 ∧ n ≤ p
      · obtain ⟨he0, hnp⟩ := hok
        subst he0
        have hm := hje rfl
        have hd : xs.drop p = [] := List.drop_of_length_le (by have := HL.out; omega)
        rw [hd] at hm
        have hee : ∀ wx, Calls Tryd.prog 40 #[.agg #[.slice A n c, .int .i64 p, .int .i64 0]] wx fun e w' => e = .returned (.int .i64 0) ∧ Touch (fun _ => False) wx w' := fun wx => by
          refine (HE.out wx).mono ?_
          rintro e w' ⟨⟨k', rfl, hk⟩, T⟩
          rw [hk.2 ⟨rfl, hnp⟩]
          exact ⟨rfl, T⟩
        have HEE := hide hee
        have hex2 : ¬ (i : Int) < (v2 : Int) := by
          rcases hex with h | ⟨_, h⟩
          · exact h
          · simp at h
        by_cases hR : RgtZ (Z.map ZV.p) (v1 : Int)
        · obtain ⟨sts, hz, hRp⟩ := hR
          obtain ⟨Y, hYp, hY⟩ := hsz.ok hz
          have hRY : RgtP (Y.map SV.p) (v1 : Int) := by rw [hYp]; exact hRp
          have hv1 : v1 ≤ 1048576 := HV.out.1
          have hfew : i ≤ 98305 := by
            have := rgtp_few2 hRp
            rw [← hYp, List.length_map, hY.len] at this
            exact this
          have hform : ∀ k, k < i → FormP k (Y.getD k svZero).p := by
            intro k hk
            have h1 := rgtp_form2 hRp k (by rw [← hYp, List.length_map, hY.len]; exact hk)
            rw [← hYp] at h1
            have e : (Y.map SV.p).getD k noSt = (Y.getD k svZero).p := by simp [List.getD, hY.len, hk]
            rw [e] at h1
            exact h1
          have hcb := fun wx (T : Touch (fun _ => False) wo wx) => rbytes_any wx v1 sA i sc Y (hY.quiet T) hv1 hfew hform (hbw wx T)
          rw [hYp] at hcb
          have hcr1 : ∀ wx, Touch (fun _ => False) wo wx → Calls Tryd.prog 13 #[.agg #[.int .i64 v1, .slice sA i sc]] wx fun e w' => e = .returned (.bool true) ∧ Touch (fun _ => False) wx w' := fun wx T => by
            refine (hcr wx T).mono ?_
            rintro e w' ⟨⟨v, rfl, hv⟩, T'⟩
            rw [hv.2 ⟨sts, hz, hRp⟩]
            exact ⟨rfl, T'⟩
          obtain ⟨bys, hbys⟩ : ∃ b, b = packB (v1 : Int) sts := ⟨_, rfl⟩
          rw [← hbys] at hcb
          obtain ⟨sx, hsx⟩ : ∃ s : ByteArray, s = ⟨xs.toArray⟩ := ⟨_, rfl⟩
          obtain ⟨sb, hsb⟩ : ∃ s : ByteArray, s = ⟨bys.toArray⟩ := ⟨_, rfl⟩
          have hcvx : ∀ wx, Touch (fun _ => False) wo wx → (convert 32 9 (.slice A n c)).run Tryd.prog wx = .ok (.string sx) wx := fun wx T => by
            rw [hsx]
            exact HCV.out wx (HQ.out.touch.then T)
          have hcb2 : ∀ wx, Touch (fun _ => False) wo wx → Calls Tryd.prog 33 #[.agg #[.int .i64 v1, .slice sA i sc]] wx fun e w' => ∃ (A' : Option Addr) (q c' : Nat), e = .returned (.slice A' q c') ∧ (convert 32 9 (.slice A' q c')).run Tryd.prog w' = .ok (.string sb) w' ∧ Touch (fun _ => False) wx w' := fun wx T => by
            refine (hcb wx T).mono ?_
            rintro e w' ⟨A', q, c', rfl, hx⟩
            refine ⟨A', q, c', rfl, ?_, hx.touch⟩
            rw [hsb]
            exact conv_own w' A' q c' bys (Reads.of_own hx.own)
          have hks : ∀ wx, Touch (fun _ => False) wo wx → wx.cell? ⟨w.heap.size + 1 + 1, 0, none⟩ = some (.int .i64 (v1 : Int)) ∧ wx.cell? ⟨w.heap.size + 1 + 1, 1, none⟩ = some (.slice sA i sc) ∧ wx.cell? ⟨w.heap.size + 1, 0, none⟩ = some (.slice A n c) ∧ wx.cell? ⟨w.heap.size + 1, 1, none⟩ = some (.int .i64 (p : Int)) ∧ wx.cell? ⟨w.heap.size + 1, 2, none⟩ = some (.int .i64 0) ∧ (convert 32 9 (.slice A n c)).run Tryd.prog wx = .ok (.string sx) wx ∧ Touch (fun _ => False) wo wx := fun wx T =>
            ⟨(HQ.out.quiet T).mc.cell 0, (HQ.out.quiet T).mc.cell 1, (HQ.out.quiet T).rd.cell 0, (HQ.out.quiet T).rd.cell 1, (HQ.out.quiet T).rd.cell 2, hcvx wx T, T⟩
          have HKS := hide hks
          have HCVX := hide hcvx
          have HCR1 := hide hcr1
          have HCB2 := hide hcb2
          have HFIN := hide (And.intro hv1 (And.intro hRp hz))
          by_cases heq : bys = xs
          · have hxb : xs = packB (v1 : Int) sts := by rw [← hbys]; exact heq.symm
            have hsbx : sb = sx := by rw [hsb, hsx, heq]
            subst hsbx
            have HXB := hide hxb
            clear hjs hex hje hsz hbw hcr hm hd hee hz hRp hYp hY hRY hv1 hfew hform hcb hcr1 hbys hsx hsb hcvx hcb2 hks heq hxb hnp hgo hi HCR HE
            go_wp2_with fail
            clear r0 r1 r2 m0 m1 m2
            obtain ⟨wd, hwd⟩ : ∃ x, x = wo.drew := ⟨_, rfl⟩
            have hd : Touch (fun _ => False) wo wd := by rw [hwd]; exact (Touch.refl _ _).drew
            refine wp_region_any (by kernel_rfl) ?_
            change wpAny _ _ _ _ _ _ _ (World.drew _)
            rw [← hwd]
            obtain ⟨r0, r1, r2⟩ := (HQ.out.quiet hd).rd.facts
            have HD := hide hd
            clear hwd hd
            refine wpAny_ready (rs := [0]) (by kernel_rfl) (by simp) ?_
            refine AllReady.cons rfl (fun K hK => ?_) AllReady.nil
            go_simp
            refine hK _ _ ?_
            clear hK K
            refine wpAny_ready (rs := [1]) (by kernel_rfl) (by simp) ?_
            refine AllReady.cons rfl (fun K hK => ?_) AllReady.nil
            go_simp
            refine (HEE.out wd).mono ?_
            rintro en w2 ⟨rfl, T2⟩
            have HT2 := hide (HD.out.then T2)
            obtain ⟨m0, m1, m2⟩ := (HQ.out.quiet HT2.out).mc.facts
            clear T2 r0 r1 r2
            go_simp
            refine hK _ _ ?_
            clear hK K
            refine wpAny_take (i := 2) (v := .bool false) rfl (by kernel_rfl) (by kernel_rfl) (by kernel_rfl) (fun _ _ _ h => h) (Or.inl ⟨by kernel_rfl, ?h2⟩) ?_
            case h2 => intro w; go_simp
            refine wpAny_take (i := 3) (v := .bool false) rfl (by kernel_rfl) (by kernel_rfl) (by kernel_rfl) (fun _ _ _ h => h) (Or.inl ⟨by kernel_rfl, ?h3⟩) ?_
            case h3 => intro w; go_simp
            refine wpAny_ready (rs := [4]) (by kernel_rfl) (by simp) ?_
            refine AllReady.cons rfl (fun K hK => ?_) AllReady.nil
            go_simp
            refine hK _ _ ?_
            clear hK K
            refine wpAny_ready (rs := [5]) (by kernel_rfl) (by simp) ?_
            refine AllReady.cons rfl (fun K hK => ?_) AllReady.nil
            go_simp
            refine (HCR1.out w2 HT2.out).mono ?_
            rintro en w3 ⟨rfl, T3⟩
            have HT3 := hide (HT2.out.then T3)
            clear T3 m0 m1 m2
            obtain ⟨m0, m1, m2⟩ := (HQ.out.quiet HT3.out).mc.facts
            have cv3 := HCVX.out w3 HT3.out
            go_simp
            refine hK _ _ ?_
            clear hK K
            refine wpAny_take (i := 6) (v := .bool false) rfl (by kernel_rfl) (by kernel_rfl) (by kernel_rfl) (fun _ _ _ h => h) (Or.inl ⟨by kernel_rfl, ?h6⟩) ?_
            case h6 => intro w; go_simp
            refine wpAny_take (i := 7) (v := .bool false) rfl (by kernel_rfl) (by kernel_rfl) (by kernel_rfl) (fun _ _ _ h => h) (Or.inl ⟨by kernel_rfl, ?h7⟩) ?_
            case h7 => intro w; go_simp
            refine wpAny_take (i := 8) (v := .bool false) rfl (by kernel_rfl) (by kernel_rfl) (by kernel_rfl) (fun _ _ _ h => h) (Or.inl ⟨by kernel_rfl, ?h8⟩) ?_
            case h8 => intro w; go_simp
            refine wpAny_take (i := 12) (v := ?v12) rfl (by kernel_rfl) (by kernel_rfl) (by kernel_rfl) (fun _ _ _ h => h) (Or.inl ⟨by kernel_rfl, ?h12⟩) ?_
            case h12 => intro w; go_simp; try with_reducible rfl
            refine wpAny_ready (rs := [9, 13]) (by kernel_rfl) (by simp) ?_
            refine AllReady.cons rfl (fun K hK => ?_) (AllReady.cons rfl (fun K hK => ?_) AllReady.nil)
            · go_simp
              refine hK _ _ ?_
              clear hK K
              refine wpAny_ready (rs := [10, 13]) (by kernel_rfl) (by simp) ?_
              refine AllReady.cons rfl (fun K hK => ?_) (AllReady.cons rfl (fun K hK => ?_) AllReady.nil)
              · go_simp
                refine (HCB2.out w3 HT3.out).mono ?_
                rintro en w4 ⟨Ab, qb, cb, rfl, hcvb, T4⟩
                have HT4 := hide (HT3.out.then T4)
                obtain ⟨u0, u1, u2⟩ := (HQ.out.quiet HT4.out).res.facts
                clear m0 m1 m2 cv3
                obtain ⟨m0, m1, m2⟩ := (HQ.out.quiet HT4.out).mc.facts
                have cv4 := HCVX.out w4 HT4.out
                clear T4
                go_simp
                refine hK _ _ ?_
                clear hK K
                refine wpAny_ready (rs := [11, 13]) (by kernel_rfl) (by simp) ?_
                refine AllReady.cons rfl (fun K hK => ?_) (AllReady.cons rfl (fun K hK => ?_) AllReady.nil)
                · go_simp
                  refine hK _ _ ?_
                  clear hK K
                  refine wpAny_ready (rs := [13]) (by kernel_rfl) (by simp) ?_
                  refine AllReady.cons rfl (fun K hK => ?_) AllReady.nil
                  go_simp
                  refine hK _ _ ?_
                  clear hK K
                  refine wpAny_take (i := 14) (v := .bool false) rfl (by kernel_rfl) (by kernel_rfl) (by kernel_rfl) (fun _ _ _ h => h) (Or.inl ⟨by kernel_rfl, ?h14⟩) ?_
                  case h14 => intro w; go_simp
                  refine wpAny_take (i := 15) (v := .bool false) rfl (by kernel_rfl) (by kernel_rfl) (by kernel_rfl) (fun _ _ _ h => h) (Or.inl ⟨by kernel_rfl, ?h15⟩) ?_
                  case h15 => intro w; go_simp
                  go_simp
                  refine wpAny_done (by kernel_rfl) ?_ 0
                  go_wp2_with fail
                  refine bodyPost_ret (v := .tuple #[.agg #[.int .i64 v1, .slice sA i sc], .int .i64 0]) (by simp [results, Tryd.results18, go_sem, u0, u1]; try rfl) rfl ⟨?_, .inl ⟨v1, sts, sA, i, sc, Z, HFIN.out.1, HFIN.out.2.1, HXB.out, rfl, ?_, HFIN.out.2.2⟩⟩
                  · have hTT := HQ.out.touch.then HT4.out
                    repeat' first | exact hTT | refine Touch.setCell ?_ (fun h => by simp only at h; omega) _
                  · refine StsZ.far (S := fun g => g = w.heap.size) (HSZ.out.quiet HT4.out) (((Touch.refl (fun g => g = w.heap.size) _).setCell (fun _ => rfl) _).setCell (fun _ => rfl) _) (fun g hg e => ?_) (fun g hg e => ?_)
                    · exact hg.ne (blk_ty (HQ.out.quiet HT4.out).res) (by decide) HBS.out e
                    · exact hg.ne (blk_ty (HQ.out.quiet HT4.out).res) (by decide) HBS.out e
                · go_simp
                  refine hK _ _ ?_
                  clear hK K
                  refine wpAny_ready (rs := [11]) (by kernel_rfl) (by simp) ?_
                  refine AllReady.cons rfl (fun K hK => ?_) AllReady.nil
                  go_simp
                  refine hK _ _ ?_
                  clear hK K
                  refine wpAny_take (i := 14) (v := .bool false) rfl (by kernel_rfl) (by kernel_rfl) (by kernel_rfl) (fun _ _ _ h => h) (Or.inl ⟨by kernel_rfl, ?h14⟩) ?_
                  case h14 => intro w; go_simp
                  refine wpAny_take (i := 15) (v := .bool false) rfl (by kernel_rfl) (by kernel_rfl) (by kernel_rfl) (fun _ _ _ h => h) (Or.inl ⟨by kernel_rfl, ?h15⟩) ?_
                  case h15 => intro w; go_simp
                  go_simp
                  refine wpAny_done (by kernel_rfl) ?_ 0
                  go_wp2_with fail
                  refine bodyPost_ret (v := .tuple #[.agg #[.int .i64 v1, .slice sA i sc], .int .i64 0]) (by simp [results, Tryd.results18, go_sem, u0, u1]; try rfl) rfl ⟨?_, .inl ⟨v1, sts, sA, i, sc, Z, HFIN.out.1, HFIN.out.2.1, HXB.out, rfl, ?_, HFIN.out.2.2⟩⟩
                  · have hTT := HQ.out.touch.then HT4.out
                    repeat' first | exact hTT | refine Touch.setCell ?_ (fun h => by simp only at h; omega) _
                  · refine StsZ.far (S := fun g => g = w.heap.size) (HSZ.out.quiet HT4.out) (((Touch.refl (fun g => g = w.heap.size) _).setCell (fun _ => rfl) _).setCell (fun _ => rfl) _) (fun g hg e => ?_) (fun g hg e => ?_)
                    · exact hg.ne (blk_ty (HQ.out.quiet HT4.out).res) (by decide) HBS.out e
                    · exact hg.ne (blk_ty (HQ.out.quiet HT4.out).res) (by decide) HBS.out e
              · go_simp
                refine hK _ _ ?_
                clear hK K
                refine wpAny_ready (rs := [10]) (by kernel_rfl) (by simp) ?_
                refine AllReady.cons rfl (fun K hK => ?_) AllReady.nil
                go_simp
                refine (HCB2.out w3 HT3.out).mono ?_
                rintro en w4 ⟨Ab, qb, cb, rfl, hcvb, T4⟩
                have HT4 := hide (HT3.out.then T4)
                obtain ⟨u0, u1, u2⟩ := (HQ.out.quiet HT4.out).res.facts
                clear m0 m1 m2 cv3
                obtain ⟨m0, m1, m2⟩ := (HQ.out.quiet HT4.out).mc.facts
                have cv4 := HCVX.out w4 HT4.out
                clear T4
                go_simp
                refine hK _ _ ?_
                clear hK K
                refine wpAny_ready (rs := [11]) (by kernel_rfl) (by simp) ?_
                refine AllReady.cons rfl (fun K hK => ?_) AllReady.nil
                go_simp
                refine hK _ _ ?_
                clear hK K
                refine wpAny_take (i := 14) (v := .bool false) rfl (by kernel_rfl) (by kernel_rfl) (by kernel_rfl) (fun _ _ _ h => h) (Or.inl ⟨by kernel_rfl, ?h14⟩) ?_
                case h14 => intro w; go_simp
                refine wpAny_take (i := 15) (v := .bool false) rfl (by kernel_rfl) (by kernel_rfl) (by kernel_rfl) (fun _ _ _ h => h) (Or.inl ⟨by kernel_rfl, ?h15⟩) ?_
                case h15 => intro w; go_simp
                go_simp
                refine wpAny_done (by kernel_rfl) ?_ 0
                go_wp2_with fail
                refine bodyPost_ret (v := .tuple #[.agg #[.int .i64 v1, .slice sA i sc], .int .i64 0]) (by simp [results, Tryd.results18, go_sem, u0, u1]; try rfl) rfl ⟨?_, .inl ⟨v1, sts, sA, i, sc, Z, HFIN.out.1, HFIN.out.2.1, HXB.out, rfl, ?_, HFIN.out.2.2⟩⟩
                · have hTT := HQ.out.touch.then HT4.out
                  repeat' first | exact hTT | refine Touch.setCell ?_ (fun h => by simp only at h; omega) _
                · refine StsZ.far (S := fun g => g = w.heap.size) (HSZ.out.quiet HT4.out) (((Touch.refl (fun g => g = w.heap.size) _).setCell (fun _ => rfl) _).setCell (fun _ => rfl) _) (fun g hg e => ?_) (fun g hg e => ?_)
                  · exact hg.ne (blk_ty (HQ.out.quiet HT4.out).res) (by decide) HBS.out e
                  · exact hg.ne (blk_ty (HQ.out.quiet HT4.out).res) (by decide) HBS.out e
            · go_simp
              refine hK _ _ ?_
              clear hK K
              refine wpAny_ready (rs := [9]) (by kernel_rfl) (by simp) ?_
              refine AllReady.cons rfl (fun K hK => ?_) AllReady.nil
              go_simp
              refine hK _ _ ?_
              clear hK K
              refine wpAny_ready (rs := [10]) (by kernel_rfl) (by simp) ?_
              refine AllReady.cons rfl (fun K hK => ?_) AllReady.nil
              go_simp
              refine (HCB2.out w3 HT3.out).mono ?_
              rintro en w4 ⟨Ab, qb, cb, rfl, hcvb, T4⟩
              have HT4 := hide (HT3.out.then T4)
              obtain ⟨u0, u1, u2⟩ := (HQ.out.quiet HT4.out).res.facts
              clear m0 m1 m2 cv3
              obtain ⟨m0, m1, m2⟩ := (HQ.out.quiet HT4.out).mc.facts
              have cv4 := HCVX.out w4 HT4.out
              clear T4
              go_simp
              refine hK _ _ ?_
              clear hK K
              refine wpAny_ready (rs := [11]) (by kernel_rfl) (by simp) ?_
              refine AllReady.cons rfl (fun K hK => ?_) AllReady.nil
              go_simp
              refine hK _ _ ?_
              clear hK K
              refine wpAny_take (i := 14) (v := .bool false) rfl (by kernel_rfl) (by kernel_rfl) (by kernel_rfl) (fun _ _ _ h => h) (Or.inl ⟨by kernel_rfl, ?h14⟩) ?_
              case h14 => intro w; go_simp
              refine wpAny_take (i := 15) (v := .bool false) rfl (by kernel_rfl) (by kernel_rfl) (by kernel_rfl) (fun _ _ _ h => h) (Or.inl ⟨by kernel_rfl, ?h15⟩) ?_
              case h15 => intro w; go_simp
              go_simp
              refine wpAny_done (by kernel_rfl) ?_ 0
              go_wp2_with fail
              refine bodyPost_ret (v := .tuple #[.agg #[.int .i64 v1, .slice sA i sc], .int .i64 0]) (by simp [results, Tryd.results18, go_sem, u0, u1]; try rfl) rfl ⟨?_, .inl ⟨v1, sts, sA, i, sc, Z, HFIN.out.1, HFIN.out.2.1, HXB.out, rfl, ?_, HFIN.out.2.2⟩⟩
              · have hTT := HQ.out.touch.then HT4.out
                repeat' first | exact hTT | refine Touch.setCell ?_ (fun h => by simp only at h; omega) _
              · refine StsZ.far (S := fun g => g = w.heap.size) (HSZ.out.quiet HT4.out) (((Touch.refl (fun g => g = w.heap.size) _).setCell (fun _ => rfl) _).setCell (fun _ => rfl) _) (fun g hg e => ?_) (fun g hg e => ?_)
                · exact hg.ne (blk_ty (HQ.out.quiet HT4.out).res) (by decide) HBS.out e
                · exact hg.ne (blk_ty (HQ.out.quiet HT4.out).res) (by decide) HBS.out e
          · have hno : ¬ Packs xs := fun hp => heq (by rw [hbys]; exact ((packs_of hm hp).2.2 sts hz).symm)
            have hne : ¬ sb = sx := by
              rw [hsb, hsx]
              intro h
              injection h with h
              exact heq (by simpa using h)
            have hne1 : ¬ sb.toList = sx.toList := fun h => hne (toList_inj h)
            have HNO := hide hno
            clear hjs hex hje hsz hbw hcr hm hd hee hz hRp hYp hY hRY hv1 hfew hform hcb hcr1 hbys hsx hsb hcvx hcb2 hks heq hno hnp hgo hi HCR HE
            go_wp2_with fail
            clear r0 r1 r2 m0 m1 m2
            obtain ⟨wd, hwd⟩ : ∃ x, x = wo.drew := ⟨_, rfl⟩
            have hd : Touch (fun _ => False) wo wd := by rw [hwd]; exact (Touch.refl _ _).drew
            refine wp_region_any (by kernel_rfl) ?_
            change wpAny _ _ _ _ _ _ _ (World.drew _)
            rw [← hwd]
            obtain ⟨r0, r1, r2⟩ := (HQ.out.quiet hd).rd.facts
            have HD := hide hd
            clear hwd hd
            refine wpAny_ready (rs := [0]) (by kernel_rfl) (by simp) ?_
            refine AllReady.cons rfl (fun K hK => ?_) AllReady.nil
            go_simp
            refine hK _ _ ?_
            clear hK K
            refine wpAny_ready (rs := [1]) (by kernel_rfl) (by simp) ?_
            refine AllReady.cons rfl (fun K hK => ?_) AllReady.nil
            go_simp
            refine (HEE.out wd).mono ?_
            rintro en w2 ⟨rfl, T2⟩
            have HT2 := hide (HD.out.then T2)
            obtain ⟨m0, m1, m2⟩ := (HQ.out.quiet HT2.out).mc.facts
            clear T2 r0 r1 r2
            go_simp
            refine hK _ _ ?_
            clear hK K
            refine wpAny_take (i := 2) (v := .bool false) rfl (by kernel_rfl) (by kernel_rfl) (by kernel_rfl) (fun _ _ _ h => h) (Or.inl ⟨by kernel_rfl, ?h2⟩) ?_
            case h2 => intro w; go_simp
            refine wpAny_take (i := 3) (v := .bool false) rfl (by kernel_rfl) (by kernel_rfl) (by kernel_rfl) (fun _ _ _ h => h) (Or.inl ⟨by kernel_rfl, ?h3⟩) ?_
            case h3 => intro w; go_simp
            refine wpAny_ready (rs := [4]) (by kernel_rfl) (by simp) ?_
            refine AllReady.cons rfl (fun K hK => ?_) AllReady.nil
            go_simp
            refine hK _ _ ?_
            clear hK K
            refine wpAny_ready (rs := [5]) (by kernel_rfl) (by simp) ?_
            refine AllReady.cons rfl (fun K hK => ?_) AllReady.nil
            go_simp
            refine (HCR1.out w2 HT2.out).mono ?_
            rintro en w3 ⟨rfl, T3⟩
            have HT3 := hide (HT2.out.then T3)
            clear T3 m0 m1 m2
            obtain ⟨m0, m1, m2⟩ := (HQ.out.quiet HT3.out).mc.facts
            have cv3 := HCVX.out w3 HT3.out
            go_simp
            refine hK _ _ ?_
            clear hK K
            refine wpAny_take (i := 6) (v := .bool false) rfl (by kernel_rfl) (by kernel_rfl) (by kernel_rfl) (fun _ _ _ h => h) (Or.inl ⟨by kernel_rfl, ?h6⟩) ?_
            case h6 => intro w; go_simp
            refine wpAny_take (i := 7) (v := .bool false) rfl (by kernel_rfl) (by kernel_rfl) (by kernel_rfl) (fun _ _ _ h => h) (Or.inl ⟨by kernel_rfl, ?h7⟩) ?_
            case h7 => intro w; go_simp
            refine wpAny_take (i := 8) (v := .bool false) rfl (by kernel_rfl) (by kernel_rfl) (by kernel_rfl) (fun _ _ _ h => h) (Or.inl ⟨by kernel_rfl, ?h8⟩) ?_
            case h8 => intro w; go_simp
            refine wpAny_take (i := 12) (v := ?v12) rfl (by kernel_rfl) (by kernel_rfl) (by kernel_rfl) (fun _ _ _ h => h) (Or.inl ⟨by kernel_rfl, ?h12⟩) ?_
            case h12 => intro w; go_simp; try with_reducible rfl
            refine wpAny_ready (rs := [9, 13]) (by kernel_rfl) (by simp) ?_
            refine AllReady.cons rfl (fun K hK => ?_) (AllReady.cons rfl (fun K hK => ?_) AllReady.nil)
            · go_simp
              refine hK _ _ ?_
              clear hK K
              refine wpAny_ready (rs := [10, 13]) (by kernel_rfl) (by simp) ?_
              refine AllReady.cons rfl (fun K hK => ?_) (AllReady.cons rfl (fun K hK => ?_) AllReady.nil)
              · go_simp
                refine (HCB2.out w3 HT3.out).mono ?_
                rintro en w4 ⟨Ab, qb, cb, rfl, hcvb, T4⟩
                have HT4 := hide (HT3.out.then T4)
                obtain ⟨u0, u1, u2⟩ := (HQ.out.quiet HT4.out).res.facts
                clear m0 m1 m2 cv3
                obtain ⟨m0, m1, m2⟩ := (HQ.out.quiet HT4.out).mc.facts
                have cv4 := HCVX.out w4 HT4.out
                clear T4
                go_simp
                refine hK _ _ ?_
                clear hK K
                refine wpAny_ready (rs := [11, 13]) (by kernel_rfl) (by simp) ?_
                refine AllReady.cons rfl (fun K hK => ?_) (AllReady.cons rfl (fun K hK => ?_) AllReady.nil)
                · go_simp
                  refine hK _ _ ?_
                  clear hK K
                  refine wpAny_ready (rs := [13]) (by kernel_rfl) (by simp) ?_
                  refine AllReady.cons rfl (fun K hK => ?_) AllReady.nil
                  go_simp
                  refine hK _ _ ?_
                  clear hK K
                  refine wpAny_take (i := 14) (v := .bool true) rfl (by kernel_rfl) (by kernel_rfl) (by kernel_rfl) (fun _ _ _ h => h) (Or.inl ⟨by kernel_rfl, ?h14⟩) ?_
                  case h14 => intro w; go_simp
                  refine wpAny_take (i := 15) (v := .bool true) rfl (by kernel_rfl) (by kernel_rfl) (by kernel_rfl) (fun _ _ _ h => h) (Or.inl ⟨by kernel_rfl, ?h15⟩) ?_
                  case h15 => intro w; go_simp
                  go_simp
                  refine wpAny_done (by kernel_rfl) ?_ 0
                  go_wp2_with fail
                  refine bodyPost_ret (v := .tuple #[.agg #[.int .i64 0, .slice none 0 0], .int .i64 80]) (by simp [results, Tryd.results18, go_sem, u0, u1]; try rfl) rfl ⟨?_, .inr ⟨HNO.out, rfl⟩⟩
                  have hTT := HQ.out.touch.then HT4.out
                  repeat' first | exact hTT | refine Touch.setCell ?_ (fun h => by simp only at h; omega) _
                · go_simp
                  refine hK _ _ ?_
                  clear hK K
                  refine wpAny_ready (rs := [11]) (by kernel_rfl) (by simp) ?_
                  refine AllReady.cons rfl (fun K hK => ?_) AllReady.nil
                  go_simp
                  refine hK _ _ ?_
                  clear hK K
                  refine wpAny_take (i := 14) (v := .bool true) rfl (by kernel_rfl) (by kernel_rfl) (by kernel_rfl) (fun _ _ _ h => h) (Or.inl ⟨by kernel_rfl, ?h14⟩) ?_
                  case h14 => intro w; go_simp
                  refine wpAny_take (i := 15) (v := .bool true) rfl (by kernel_rfl) (by kernel_rfl) (by kernel_rfl) (fun _ _ _ h => h) (Or.inl ⟨by kernel_rfl, ?h15⟩) ?_
                  case h15 => intro w; go_simp
                  go_simp
                  refine wpAny_done (by kernel_rfl) ?_ 0
                  go_wp2_with fail
                  refine bodyPost_ret (v := .tuple #[.agg #[.int .i64 0, .slice none 0 0], .int .i64 80]) (by simp [results, Tryd.results18, go_sem, u0, u1]; try rfl) rfl ⟨?_, .inr ⟨HNO.out, rfl⟩⟩
                  have hTT := HQ.out.touch.then HT4.out
                  repeat' first | exact hTT | refine Touch.setCell ?_ (fun h => by simp only at h; omega) _
              · go_simp
                refine hK _ _ ?_
                clear hK K
                refine wpAny_ready (rs := [10]) (by kernel_rfl) (by simp) ?_
                refine AllReady.cons rfl (fun K hK => ?_) AllReady.nil
                go_simp
                refine (HCB2.out w3 HT3.out).mono ?_
                rintro en w4 ⟨Ab, qb, cb, rfl, hcvb, T4⟩
                have HT4 := hide (HT3.out.then T4)
                obtain ⟨u0, u1, u2⟩ := (HQ.out.quiet HT4.out).res.facts
                clear m0 m1 m2 cv3
                obtain ⟨m0, m1, m2⟩ := (HQ.out.quiet HT4.out).mc.facts
                have cv4 := HCVX.out w4 HT4.out
                clear T4
                go_simp
                refine hK _ _ ?_
                clear hK K
                refine wpAny_ready (rs := [11]) (by kernel_rfl) (by simp) ?_
                refine AllReady.cons rfl (fun K hK => ?_) AllReady.nil
                go_simp
                refine hK _ _ ?_
                clear hK K
                refine wpAny_take (i := 14) (v := .bool true) rfl (by kernel_rfl) (by kernel_rfl) (by kernel_rfl) (fun _ _ _ h => h) (Or.inl ⟨by kernel_rfl, ?h14⟩) ?_
                case h14 => intro w; go_simp
                refine wpAny_take (i := 15) (v := .bool true) rfl (by kernel_rfl) (by kernel_rfl) (by kernel_rfl) (fun _ _ _ h => h) (Or.inl ⟨by kernel_rfl, ?h15⟩) ?_
                case h15 => intro w; go_simp
                go_simp
                refine wpAny_done (by kernel_rfl) ?_ 0
                go_wp2_with fail
                refine bodyPost_ret (v := .tuple #[.agg #[.int .i64 0, .slice none 0 0], .int .i64 80]) (by simp [results, Tryd.results18, go_sem, u0, u1]; try rfl) rfl ⟨?_, .inr ⟨HNO.out, rfl⟩⟩
                have hTT := HQ.out.touch.then HT4.out
                repeat' first | exact hTT | refine Touch.setCell ?_ (fun h => by simp only at h; omega) _
            · go_simp
              refine hK _ _ ?_
              clear hK K
              refine wpAny_ready (rs := [9]) (by kernel_rfl) (by simp) ?_
              refine AllReady.cons rfl (fun K hK => ?_) AllReady.nil
              go_simp
              refine hK _ _ ?_
              clear hK K
              refine wpAny_ready (rs := [10]) (by kernel_rfl) (by simp) ?_
              refine AllReady.cons rfl (fun K hK => ?_) AllReady.nil
              go_simp
              refine (HCB2.out w3 HT3.out).mono ?_
              rintro en w4 ⟨Ab, qb, cb, rfl, hcvb, T4⟩
              have HT4 := hide (HT3.out.then T4)
              obtain ⟨u0, u1, u2⟩ := (HQ.out.quiet HT4.out).res.facts
              clear m0 m1 m2 cv3
              obtain ⟨m0, m1, m2⟩ := (HQ.out.quiet HT4.out).mc.facts
              have cv4 := HCVX.out w4 HT4.out
              clear T4
              go_simp
              refine hK _ _ ?_
              clear hK K
              refine wpAny_ready (rs := [11]) (by kernel_rfl) (by simp) ?_
              refine AllReady.cons rfl (fun K hK => ?_) AllReady.nil
              go_simp
              refine hK _ _ ?_
              clear hK K
              refine wpAny_take (i := 14) (v := .bool true) rfl (by kernel_rfl) (by kernel_rfl) (by kernel_rfl) (fun _ _ _ h => h) (Or.inl ⟨by kernel_rfl, ?h14⟩) ?_
              case h14 => intro w; go_simp
              refine wpAny_take (i := 15) (v := .bool true) rfl (by kernel_rfl) (by kernel_rfl) (by kernel_rfl) (fun _ _ _ h => h) (Or.inl ⟨by kernel_rfl, ?h15⟩) ?_
              case h15 => intro w; go_simp
              go_simp
              refine wpAny_done (by kernel_rfl) ?_ 0
              go_wp2_with fail
              refine bodyPost_ret (v := .tuple #[.agg #[.int .i64 0, .slice none 0 0], .int .i64 80]) (by simp [results, Tryd.results18, go_sem, u0, u1]; try rfl) rfl ⟨?_, .inr ⟨HNO.out, rfl⟩⟩
              have hTT := HQ.out.touch.then HT4.out
              repeat' first | exact hTT | refine Touch.setCell ?_ (fun h => by simp only at h; omega) _
        · have hno : ¬ Packs xs := fun hp => hR (packs_of hm hp).2.1
          have hcr1 : ∀ wx, Touch (fun _ => False) wo wx → Calls Tryd.prog 13 #[.agg #[.int .i64 v1, .slice sA i sc]] wx fun e w' => e = .returned (.bool false) ∧ Touch (fun _ => False) wx w' := fun wx T => by
            refine (hcr wx T).mono ?_
            rintro e w' ⟨⟨v, rfl, hv⟩, T'⟩
            have : v = false := by
              cases v
              · rfl
              · exact absurd (hv.1 rfl) hR
            rw [this]
            exact ⟨rfl, T'⟩
          have HCR1 := hide hcr1
          have HNO := hide hno
          clear hjs hex hje hsz hbw hcr hm hd hee hcr1 hno hnp hgo hi HCR HE hR
          go_wp2_with fail
          clear r0 r1 r2 m0 m1 m2
          obtain ⟨wd, hwd⟩ : ∃ x, x = wo.drew := ⟨_, rfl⟩
          have hd : Touch (fun _ => False) wo wd := by rw [hwd]; exact (Touch.refl _ _).drew
          refine wp_region_any (by kernel_rfl) ?_
          change wpAny _ _ _ _ _ _ _ (World.drew _)
          rw [← hwd]
          obtain ⟨r0, r1, r2⟩ := (HQ.out.quiet hd).rd.facts
          have HD := hide hd
          clear hwd hd
          refine wpAny_ready (rs := [0]) (by kernel_rfl) (by simp) ?_
          refine AllReady.cons rfl (fun K hK => ?_) AllReady.nil
          go_simp
          refine hK _ _ ?_
          clear hK K
          refine wpAny_ready (rs := [1]) (by kernel_rfl) (by simp) ?_
          refine AllReady.cons rfl (fun K hK => ?_) AllReady.nil
          go_simp
          refine (HEE.out wd).mono ?_
          rintro en w2 ⟨rfl, T2⟩
          have HT2 := hide (HD.out.then T2)
          obtain ⟨m0, m1, m2⟩ := (HQ.out.quiet HT2.out).mc.facts
          clear T2 r0 r1 r2
          go_simp
          refine hK _ _ ?_
          clear hK K
          refine wpAny_take (i := 2) (v := .bool false) rfl (by kernel_rfl) (by kernel_rfl) (by kernel_rfl) (fun _ _ _ h => h) (Or.inl ⟨by kernel_rfl, ?h2⟩) ?_
          case h2 => intro w; go_simp
          refine wpAny_take (i := 3) (v := .bool false) rfl (by kernel_rfl) (by kernel_rfl) (by kernel_rfl) (fun _ _ _ h => h) (Or.inl ⟨by kernel_rfl, ?h3⟩) ?_
          case h3 => intro w; go_simp
          refine wpAny_ready (rs := [4]) (by kernel_rfl) (by simp) ?_
          refine AllReady.cons rfl (fun K hK => ?_) AllReady.nil
          go_simp
          refine hK _ _ ?_
          clear hK K
          refine wpAny_ready (rs := [5]) (by kernel_rfl) (by simp) ?_
          refine AllReady.cons rfl (fun K hK => ?_) AllReady.nil
          go_simp
          refine (HCR1.out w2 HT2.out).mono ?_
          rintro en w3 ⟨rfl, T3⟩
          have HT3 := hide (HT2.out.then T3)
          obtain ⟨u0, u1, u2⟩ := (HQ.out.quiet HT3.out).res.facts
          clear T3 m0 m1 m2
          go_simp
          refine hK _ _ ?_
          clear hK K
          refine wpAny_take (i := 6) (v := .bool true) rfl (by kernel_rfl) (by kernel_rfl) (by kernel_rfl) (fun _ _ _ h => h) (Or.inl ⟨by kernel_rfl, ?h6⟩) ?_
          case h6 => intro w; go_simp
          refine wpAny_take (i := 7) (v := .bool true) rfl (by kernel_rfl) (by kernel_rfl) (by kernel_rfl) (fun _ _ _ h => h) (Or.inl ⟨by kernel_rfl, ?h7⟩) ?_
          case h7 => intro w; go_simp
          refine wpAny_take (i := 8) (v := .bool true) rfl (by kernel_rfl) (by kernel_rfl) (by kernel_rfl) (fun _ _ _ h => h) (Or.inl ⟨by kernel_rfl, ?h8⟩) ?_
          case h8 => intro w; go_simp
          refine wpAny_take (i := 9) (v := undef) rfl (by kernel_rfl) (by kernel_rfl) (by kernel_rfl) (fun _ _ _ h => h) (Or.inr ⟨by kernel_rfl, rfl⟩) ?_
          refine wpAny_take (i := 10) (v := undef) rfl (by kernel_rfl) (by kernel_rfl) (by kernel_rfl) (fun _ _ _ h => h) (Or.inr ⟨by kernel_rfl, rfl⟩) ?_
          refine wpAny_take (i := 11) (v := undef) rfl (by kernel_rfl) (by kernel_rfl) (by kernel_rfl) (fun _ _ _ h => h) (Or.inr ⟨by kernel_rfl, rfl⟩) ?_
          refine wpAny_take (i := 12) (v := undef) rfl (by kernel_rfl) (by kernel_rfl) (by kernel_rfl) (fun _ _ _ h => h) (Or.inr ⟨by kernel_rfl, rfl⟩) ?_
          refine wpAny_take (i := 13) (v := undef) rfl (by kernel_rfl) (by kernel_rfl) (by kernel_rfl) (fun _ _ _ h => h) (Or.inr ⟨by kernel_rfl, rfl⟩) ?_
          refine wpAny_take (i := 14) (v := undef) rfl (by kernel_rfl) (by kernel_rfl) (by kernel_rfl) (fun _ _ _ h => h) (Or.inr ⟨by kernel_rfl, rfl⟩) ?_
          refine wpAny_take (i := 15) (v := .bool true) rfl (by kernel_rfl) (by kernel_rfl) (by kernel_rfl) (fun _ _ _ h => h) (Or.inl ⟨by kernel_rfl, ?h15⟩) ?_
          case h15 => intro w; go_simp
          go_simp
          refine wpAny_done (by kernel_rfl) ?_ 0
          go_wp2_with fail
          refine bodyPost_ret (v := .tuple #[.agg #[.int .i64 0, .slice none 0 0], .int .i64 80]) (by simp [results, Tryd.results18, go_sem, u0, u1]; try rfl) rfl ⟨?_, .inr ⟨HNO.out, rfl⟩⟩
          have hTT := HQ.out.touch.then HT3.out
          repeat' first | exact hTT | refine Touch.setCell ?_ (fun h => by simp only at h; omega) _
      · have hno : ¬ Packs xs := by
          by_cases he0 : e = 0
          · intro hp
            have h1 := (packs_of (hje he0) hp).1
            have h2 : n ≤ p := by
              have := congrArg List.length h1
              rw [List.length_drop, HL.out] at this
              simp at this
              omega
            exact hok ⟨he0, h2⟩
          · exact no_packs (hjs.2 he0)
        have hee : ∀ wx, Calls Tryd.prog 40 #[.agg #[.slice A n c, .int .i64 p, .int .i64 e]] wx fun en w' => (∃ k : Int, en = .returned (.int .i64 k) ∧ k ≠ 0) ∧ Touch (fun _ => False) wx w' := fun wx => by
          refine (HE.out wx).mono ?_
          rintro en w' ⟨⟨k', rfl, hk⟩, T⟩
          exact ⟨⟨k', rfl, fun h => hok (hk.1 h)⟩, T⟩
        have HEE := hide hee
        have HNO := hide hno
        clear hjs hje hsz hbw hcr hee hno hgo hi HCR HE hok
        rcases hex with hex | ⟨hex, hex2⟩
        all_goals
          go_wp2_with fail
          clear r0 r1 r2 m0 m1 m2
          obtain ⟨wd, hwd⟩ : ∃ x, x = wo.drew := ⟨_, rfl⟩
          have hd : Touch (fun _ => False) wo wd := by rw [hwd]; exact (Touch.refl _ _).drew
          refine wp_region_any (by kernel_rfl) ?_
          change wpAny _ _ _ _ _ _ _ (World.drew _)
          rw [← hwd]
          obtain ⟨r0, r1, r2⟩ := (HQ.out.quiet hd).rd.facts
          have HD := hide hd
          clear hwd hd
          refine wpAny_ready (rs := [0]) (by kernel_rfl) (by simp) ?_
          refine AllReady.cons rfl (fun K hK => ?_) AllReady.nil
          go_simp
          refine hK _ _ ?_
          clear hK K
          refine wpAny_ready (rs := [1]) (by kernel_rfl) (by simp) ?_
          refine AllReady.cons rfl (fun K hK => ?_) AllReady.nil
          go_simp
          refine (HEE.out wd).mono ?_
          rintro en w2 ⟨⟨k, rfl, hk⟩, T2⟩
          have k1 : (k != 0) = true := by simpa using hk
          have k2 : (k == 0) = false := by simpa using hk
          have HT2 := hide (HD.out.then T2)
          obtain ⟨u0, u1, u2⟩ := (HQ.out.quiet HT2.out).res.facts
          clear T2 hk r0 r1 r2
          go_simp
          refine hK _ _ ?_
          clear hK K
          refine wpAny_take (i := 2) (v := .bool true) rfl (by kernel_rfl) (by kernel_rfl) (by kernel_rfl) (fun _ _ _ h => h) (Or.inl ⟨by kernel_rfl, ?h2⟩) ?_
          case h2 => intro w; go_simp
          refine wpAny_take (i := 3) (v := .bool true) rfl (by kernel_rfl) (by kernel_rfl) (by kernel_rfl) (fun _ _ _ h => h) (Or.inl ⟨by kernel_rfl, ?h3⟩) ?_
          case h3 => intro w; go_simp
          refine wpAny_take (i := 4) (v := undef) rfl (by kernel_rfl) (by kernel_rfl) (by kernel_rfl) (fun _ _ _ h => h) (Or.inr ⟨by kernel_rfl, rfl⟩) ?_
          refine wpAny_take (i := 5) (v := undef) rfl (by kernel_rfl) (by kernel_rfl) (by kernel_rfl) (fun _ _ _ h => h) (Or.inr ⟨by kernel_rfl, rfl⟩) ?_
          refine wpAny_take (i := 6) (v := undef) rfl (by kernel_rfl) (by kernel_rfl) (by kernel_rfl) (fun _ _ _ h => h) (Or.inr ⟨by kernel_rfl, rfl⟩) ?_
          refine wpAny_take (i := 7) (v := .bool true) rfl (by kernel_rfl) (by kernel_rfl) (by kernel_rfl) (fun _ _ _ h => h) (Or.inl ⟨by kernel_rfl, ?h7⟩) ?_
          case h7 => intro w; go_simp
          refine wpAny_take (i := 8) (v := .bool true) rfl (by kernel_rfl) (by kernel_rfl) (by kernel_rfl) (fun _ _ _ h => h) (Or.inl ⟨by kernel_rfl, ?h8⟩) ?_
          case h8 => intro w; go_simp
          refine wpAny_take (i := 9) (v := undef) rfl (by kernel_rfl) (by kernel_rfl) (by kernel_rfl) (fun _ _ _ h => h) (Or.inr ⟨by kernel_rfl, rfl⟩) ?_
          refine wpAny_take (i := 10) (v := undef) rfl (by kernel_rfl) (by kernel_rfl) (by kernel_rfl) (fun _ _ _ h => h) (Or.inr ⟨by kernel_rfl, rfl⟩) ?_
          refine wpAny_take (i := 11) (v := undef) rfl (by kernel_rfl) (by kernel_rfl) (by kernel_rfl) (fun _ _ _ h => h) (Or.inr ⟨by kernel_rfl, rfl⟩) ?_
          refine wpAny_take (i := 12) (v := undef) rfl (by kernel_rfl) (by kernel_rfl) (by kernel_rfl) (fun _ _ _ h => h) (Or.inr ⟨by kernel_rfl, rfl⟩) ?_
          refine wpAny_take (i := 13) (v := undef) rfl (by kernel_rfl) (by kernel_rfl) (by kernel_rfl) (fun _ _ _ h => h) (Or.inr ⟨by kernel_rfl, rfl⟩) ?_
          refine wpAny_take (i := 14) (v := undef) rfl (by kernel_rfl) (by kernel_rfl) (by kernel_rfl) (fun _ _ _ h => h) (Or.inr ⟨by kernel_rfl, rfl⟩) ?_
          refine wpAny_take (i := 15) (v := .bool true) rfl (by kernel_rfl) (by kernel_rfl) (by kernel_rfl) (fun _ _ _ h => h) (Or.inl ⟨by kernel_rfl, ?h15⟩) ?_
          case h15 => intro w; go_simp
          go_simp
          refine wpAny_done (by kernel_rfl) ?_ 0
          go_wp2_with fail
          refine bodyPost_ret (v := .tuple #[.agg #[.int .i64 0, .slice none 0 0], .int .i64 80]) (by simp [results, Tryd.results18, go_sem, u0, u1]; try rfl) rfl ⟨?_, .inr ⟨HNO.out, rfl⟩⟩
          have hTT := HQ.out.touch.then HT2.out
          repeat' first | exact hTT | refine Touch.setCell ?_ (fun h => by simp only at h; omega) _

end Go.Proofs.YtcmjohaohdgnjaaDoor
