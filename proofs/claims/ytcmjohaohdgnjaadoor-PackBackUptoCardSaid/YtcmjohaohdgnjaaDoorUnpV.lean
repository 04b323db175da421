/- pack.Unpack: the walk. Condition: there are no more than 2^42 bytes. -/
import Derived.Test.YtcmjohaohdgnjaaDoorUnpU
import Derived.Deep.AppendLies
namespace Go.Proofs.YtcmjohaohdgnjaaDoor
open Go.RowKit

theorem infoSt8 : (Tryd.prog.info? 44).map (fun i => (i.zero, i.size, i.bytes)) = some (some (.agg #[.bool false, .int .i64 0, .slice none 0 0]), 3, 40) := by kernel_rfl
theorem set2_blk {wr : World} {R : Nat} {cs : Value × Value} {t : TypeId} (hR : Blk wr R t #[cs.1, cs.2]) (x y : Value) : Blk ((wr.setCell ⟨R, 0, none⟩ x).setCell ⟨R, 1, none⟩ y) R t #[x, y] := (hR.set_ 0 x).set_ 1 y
def XN (k : Int) (n : Nat) : Prop := ¬ (k = 0 ∧ n = 0)
theorem uintR_len {m n : Nat} {bs t : List UInt8} (h : uintR m bs = some (n, t)) : t.length ≤ bs.length := by
  rw [(uintR_read h).1, List.length_append]
  omega
theorem arcsR_len2 (i : Nat) : ∀ (k : Nat) (l : Int) (bs : List UInt8) (ars : List (Int × Int × Int)) (t : List UInt8), arcsR i k l bs = some (ars, t) → t.length ≤ bs.length
  | 0, l, bs, ars, t, h => by
    simp only [arcsR, Option.some.injEq, Prod.mk.injEq] at h
    rw [h.2]
    exact Nat.le_refl _
  | k + 1, l, bs, ars, t, h => by
    simp only [arcsR] at h
    split at h
    · cases h
    · rename_i d t1 e1
      split at h
      · cases h
      · rename_i o t2 e2
        split at h
        · cases h
        · rename_i b t3 e3
          split at h
          · cases h
          · rename_i ars' t4 e4
            simp only [Option.some.injEq, Prod.mk.injEq] at h
            obtain ⟨_, rfl⟩ := h
            have h1 := uintR_len e1
            have h2 := uintR_len e2
            have h3 := uintR_len e3
            have h4 := arcsR_len2 i k _ _ _ _ e4
            omega
theorem stR_len {i : Nat} {bs t : List UInt8} {z : StZ} (h : stR i bs = some (z, t)) : t.length ≤ bs.length := by
  unfold stR at h
  split at h
  · cases h
  · rename_i n t1 e1
    split at h
    · cases h
    · rename_i o t2 e2
      split at h
      · cases h
      · rename_i ars t3 e3
        simp only [Option.some.injEq, Prod.mk.injEq] at h
        obtain ⟨_, rfl⟩ := h
        have h1 := uintR_len e1
        have h3 := arcsR_len2 _ _ _ _ _ _ e3
        have h2 : t2.length ≤ t1.length := by
          unfold outR8 at e2
          split at e2
          · exact uintR_len e2
          · simp only [Option.some.injEq, Prod.mk.injEq] at e2
            rw [e2.2]
            exact Nat.le_refl _
        omega

set_option maxRecDepth 100000 in
set_option maxHeartbeats 8000000 in
theorem unpack_any (w : World) (hL : Lst w) (A : Option Addr) (n c : Nat) (bs : List UInt8) (hr : Reads w 1 A n (bs.map byteV)) (hl : bs.length = n) (hn : n ≤ 4398046511104) :
    Calls Tryd.prog 17 #[.slice A n c] w fun e w' => UnpPost bs w e w' := by
  obtain ⟨i1, hi1, hy0, hy1, hy2⟩ := info_parts infoSt8
  obtain ⟨w0, hw0⟩ : ∃ x, x = w.alloc (.cells #[.int .i64 0, .slice none 0 0] 24) := ⟨_, rfl⟩
  have hT0 : Touch (fun _ => False) w w0 := by rw [hw0]; exact (Touch.refl _ _).alloc _
  have hbR : Blk w0 w.heap.size 24 #[.int .i64 0, .slice none 0 0] := by rw [hw0]; exact Blk.new _ _ _
  obtain ⟨R, hR⟩ : ∃ R, R = w.heap.size := ⟨_, rfl⟩
  rw [← hR] at hbR
  have hrd := read_any w0 A n c bs (hr.touch hT0 (fun _ _ f => f)) hl (by omega)
  have HL := hide hL
  have HLN := hide hl
  have HN := hide hn
  have HW0 := hide hw0
  have HT0 := hide hT0
  have HBR := hide hbR
  have HRR := hide hR
  have HRD := hide hrd
  clear hL hr hl hn hw0 hT0 hbR hR hrd
  go_enter Tryd.func17, Tryd.ntmps17
  go_wp2_with fail
  rw [← HW0.out, ← HRR.out]
  refine HRD.out.mono ?_
  rintro e w1 ⟨p, A1, n1, c1, rfl, hr1, hp1, T1⟩
  have hb1 := HBR.out.touch T1 (fun f => f)
  have HP1 := hide (show w.heap.size ≤ p by have := HT0.out.size; omega)
  have HR1 := hide hr1
  have HB1 := hide hb1
  have HT1 := hide (HT0.out.then T1)
  clear hr1 hb1 T1 hp1
  go_wp2_with fail
  refine (uint_c w1 p A1 n1 c1 bs HR1.out 1048576 _ rfl).mono ?_
  rintro e w2 (⟨base, t1, A2, n2, c2, hu1, rfl, hr2, T2⟩ | ⟨hu1, rfl, k, hk, hr2, T2⟩)
  · have hbb := (uintR_read hu1).2
    have b0 : IntKind.i64.wrap (base : Int) = (base : Int) := i64_nat (by omega)
    have hT2 : Touch (fun _ => False) w w2 := HT1.out.trans T2 (fun i hi e => by have := HP1.out; omega)
    have hb2 := HB1.out.touch T2 (fun e => (blk_ty HB1.out).ne (blk_ty HR1.out.blk) (by decide) e)
    obtain ⟨M, hM⟩ : ∃ M, M = w2.heap.size := ⟨_, rfl⟩
    obtain ⟨w3, hw3⟩ : ∃ x, x = w2.alloc (.cells #[.int .i64 base, .slice none 0 0] 24) := ⟨_, rfl⟩
    have hT3 : Touch (fun _ => False) w2 w3 := by rw [hw3]; exact (Touch.refl _ _).alloc _
    have hbM : Blk w3 M 24 #[.int .i64 base, .slice none 0 0] := by rw [hw3, hM]; exact Blk.new _ _ _
    have hmw : w.heap.size ≤ M := by have := hT2.size; omega
    have hrm : R ≠ M := by have := hb2.lt; omega
    have hui : UI w w3 p M R base none 0 0 [] A2 n2 c2 t1 := ⟨hr2.quiet hT3, hbM, World.ownsRow_nil _ _ _ _, rfl, fun z hz => (by cases hz), hb2.touch hT3 (fun f => f), hT2.then hT3, fun g hg => (by cases hg), HP1.out, hmw, hrm⟩
    have HUI := hide hui
    have HU1 := hide hu1
    have HBB := hide hbb
    have HW3 := hide hw3
    have HM := hide hM
    clear hbb hT2 hb2 hM hw3 hT3 hbM hui hmw hrm hr2 T2 hu1
    go_wp2_with fail
    rw [← HW3.out, ← HM.out]
    refine (uint_c w3 p A2 n2 c2 t1 HUI.out.rdr 98305 _ rfl).mono ?_
    rintro e w4 (⟨cnt, t2, A3, n3, c3, hu2, rfl, hr3, T3⟩ | ⟨hu2, rfl, k, hk, hr3, T3⟩)
    · have hcb := (uintR_read hu2).2
      have c0 : IntKind.i64.wrap (cnt : Int) = (cnt : Int) := i64_nat (by omega)
      obtain ⟨k1, k2, k3, k4, k5⟩ := HUI.out.kept T3
      have hui4 : UI w w4 p M R base none 0 0 [] A3 n3 c3 t2 := ⟨hr3, k1, k2, rfl, k3, k4, k5, HUI.out.fresh, HUI.out.py, HUI.out.my, HUI.out.ne⟩
      have hmach : machR bs = (stsR cnt 0 t2).map fun r => ((base, r.1), r.2) := by
        unfold machR
        rw [HU1.out]
        simp only
        rw [hu2]
        simp only
        cases stsR cnt 0 t2 with
        | none => rfl
        | some r => rfl
      have HMC := hide hmach
      have HUI4 := hide hui4
      have HCB := hide hcb
      have HNL : Hid (t2.length ≤ 4398046511104) := hide (by
        have h1 := congrArg List.length (uintR_read HU1.out).1
        have h2 := congrArg List.length (uintR_read hu2).1
        rw [List.length_append] at h1 h2
        have := HLN.out
        have := HN.out
        omega)
      clear hcb hu2 hr3 T3 k1 k2 k3 k4 k5 hui4 hmach HU1 HUI HR1 HB1
      go_wp2_with fail
      go_loopw [7] (fun iv wr => ∃ i : Nat, iv = .int .i64 i ∧ i ≤ cnt ∧ Hid ((∃ (sA : Option Addr) (sc : Nat) (Z : List ZV) (A : Option Addr) (n c : Nat) (t : List UInt8), UI w wr p M R base sA i sc Z A n c t ∧ stsR cnt 0 t2 = (stsR (cnt - i) i t).map (fun r => (Z.map ZV.p ++ r.1, r.2)) ∧ t.length ≤ t2.length) ∨ (UB w wr p M R ∧ machR bs = none))) (fun iv _ => cnt - (intOf iv).toNat)
      case atStart => exact ⟨0, rfl, Nat.zero_le _, hide (.inl ⟨none, 0, [], _, _, _, t2, HUI4.out, by simp, Nat.le_refl _⟩)⟩
      case round =>
        obtain ⟨i, rfl, hi, HX⟩ := hrel
        obtain ⟨wq, hwq⟩ : ∃ x, x = wr := ⟨_, rfl⟩
        subst hwq
        have y0 : (0 : Int) ≤ (i : Int) := by omega
        have y1 : IntKind.i64.wrap ((i : Int) + 1) = (i : Int) + 1 := IntWalk.i64_in _ (by have := HCB.out; omega)
        rcases HX.out with ⟨sA, sc, Z, A5, n5, c5, t5, hUI, hst, htl⟩ | ⟨hUB, hnone⟩
        · have HUI5 := hide hUI
          have HST := hide hst
          have HTL := hide htl
          have HER := hide (err_any wq p A5 n5 c5 t5 0 hUI.rdr)
          by_cases hic : i < cnt
          · have j0 : (i : Int) < (cnt : Int) := by omega
            have hst5 : ∀ wx, Touch (fun _ => False) wq wx → Calls Tryd.prog 37 #[.pointer (some ⟨p, 0, none⟩), .int .i64 i] wx fun e w' => StPost p i t5 wx e w' := fun wx T =>
              ustate_any wx p A5 n5 c5 t5 (hUI.rdr.quiet T) (by have := hUI.rdr.len; have := HNL.out; omega) i (by have := HCB.out; omega)
            have HS5 := hide hst5
            have HIC := hide hic
            have hbb1 : i + 1 ≤ maxLen := by unfold maxLen; have := HCB.out; omega
            have hbb2 : (i + 1) * 40 ≤ 140737488355328 := by have := HCB.out; omega
            have HBB2 := hide (And.intro hbb1 hbb2)
            obtain ⟨m0, m1, m2⟩ := hUI.blk.facts
            clear hUI hst htl hst5 hic hi HX hbb1 hbb2
            go_wp2_with fail
            refine HER.out.mono ?_
            rintro e wx ⟨rfl, hwx⟩
            subst hwx
            go_wp2_with fail
            go_region_law (first
              | (go_simp; go_at_call 37; refine (HS5.out _ (by first | exact Touch.refl _ _ | exact (Touch.refl _ _).drew)).mono ?_; rintro e wS ⟨z, rfl, TS, hS⟩; have HTS := hide TS; have HSS := hide hS; clear TS hS; obtain ⟨f0, f1, f2⟩ := ((HUI5.out.quiet (Touch.refl (fun _ => False) wx).drew).kept HTS.out).1.facts)
              | (refine step_append_lies _ rfl (.tmp 28) (.tmp 32) 22 rfl 0 44 i1 _ 3 40 Tryd.underlying22 hi1 hy0 hy1 hy2 (by decide) (by decide) (.slice sA i sc) i _ (by simp [Act.eval]) (own_touch ((HUI5.out.quiet (Touch.refl (fun _ => False) wx).drew).kept HTS.out).2.1 ((Touch.refl _ _).alloc _) (fun _ _ f => f)) ⟨wS.heap.size, 0, none⟩ 1 1 [.bool z.fin, .int .i64 z.out, .slice z.A z.n z.c] (by simp [Act.eval]) rfl ?news ?one (by decide) HBB2.out.1 HBB2.out.2 (Nat.zero_le _) _ rfl ?_; (case news => exact World.news_of_block (Blk.new wS _ _)); (case one => exact List.all_eq_true.1 rfl); intro g4 cap4 w9 hown hgrow hlies _; obtain ⟨q1, q2, q3⟩ := ((HUI5.out.quiet (Touch.refl (fun _ => False) wx).drew).blk10 HTS.out _ hgrow).facts; have HO9 := hide hown; have HG9 := hide hgrow; have HLI := hide hlies; clear hown hgrow hlies))
            all_goals go_wp2_with fail
            all_goals go_roundw
            all_goals first
              | (have := HIC.out; simp only [intOf]; omega)
              | (have hui6 := HUI5.out.quiet (Touch.refl (fun _ => False) wx).drew
                 rcases HSS.out with ⟨t6, hz6, hzo, A6, n6, c6, hr6⟩ | ⟨hz6, A6, n6, c6, t6, k6, hk6, hr6⟩
                 · refine ⟨i + 1, by simp, by have := HIC.out; omega, hide (.inl ⟨_, cap4, Z ++ [z], A6, n6, c6, t6, hui6.step HTS.out hzo HG9.out HLI.out HO9.out hr6, ?_, ?_⟩)⟩
                   · rw [List.map_append]
                     exact sts_more HIC.out HST.out hz6
                   · have h1 := stR_len hz6
                     have h2 := HTL.out
                     omega
                 · refine ⟨i + 1, by simp, by have := HIC.out; omega, hide (.inr ⟨hui6.fail HTS.out HG9.out _ hk6 hr6, ?_⟩)⟩
                   rw [HMC.out, sts_stop HIC.out HST.out hz6]
                   rfl)
          · have hie : i = cnt := by omega
            have j0 : ¬ (i : Int) < (cnt : Int) := by omega
            rw [hie, Nat.sub_self] at hst
            simp only [stsR, Option.map_some, List.append_nil] at hst
            have hm : machR bs = some ((base, Z.map ZV.p), t5) := by rw [HMC.out, hst]; rfl
            have HM5 := hide hm
            have HRDR := hide hUI.rdr
            have HRES := hide hUI.res
            have HTCH := hide hUI.touch
            have HL5 := hide hUI.rdr.len
            clear hUI hst htl HX hie hi hic hm
            by_cases hn5 : n5 = 0
            · have ht5 : t5 = [] := List.eq_nil_of_length_eq_zero (by rw [HL5.out]; exact hn5)
              have HT5 := hide ht5
              have HN5 := hide hn5
              have HGR := hide (gright_any wq (Lst.touch HL.out HTCH.out) base sA i sc Z HUI5.out.sts (own_le HUI5.out.own))
              have HEN := hide (end_any wq p _ _ _ _ _ HRDR.out)
              obtain ⟨m0, m1, m2⟩ := HUI5.out.blk.facts
              clear ht5 hn5
              go_wp2_with fail
              refine HEN.out.mono ?_
              rintro e wx ⟨x, rfl, hx, hwx⟩
              subst hwx
              have hx0 : x = 0 := hx.2 ⟨rfl, HN5.out⟩
              subst hx0
              clear hx HEN
              go_wp2_with fail
              refine HGR.out.mono ?_
              rintro e wy ⟨⟨v, rfl, hv⟩, T9⟩
              obtain ⟨rr0, rr1, rr2⟩ := (HRES.out.touch T9 (fun f => f)).facts
              have HRS := hide (HRES.out.touch T9 (fun f => f))
              have HT9 := hide T9
              have HTC9 := hide (HTCH.out.then T9)
              clear m0 m1 m2
              obtain ⟨m0, m1, m2⟩ := (HUI5.out.blk.touch T9 (fun f => f)).facts
              have hsz := HUI5.out.sts.quiet T9
              have hsc := (own_slice HUI5.out.own).1
              have HSZ := hide hsz
              have HSC := hide hsc
              cases v with
              | true =>
                obtain ⟨sts, hzs, hrg⟩ := hv.1 rfl
                obtain ⟨Y, hY, hsY⟩ := hsz.ok hzs
                have hbs : bs = packB base sts := unp_some (by rw [HM5.out, hzs, HT5.out]) hrg
                have HY := hide hY
                have HSY := hide hsY
                have HRG := hide hrg
                have HBS := hide hbs
                clear hv hzs hY hsY hrg hbs T9 hsz hsc HGR
                go_wp2_with fail
                have hbF := (HRS.out.set_ 0 (.int .i64 base)).set_ 1 (.slice sA i sc)
                have g0 := hbF.cell 0
                have g1 := hbF.cell 1
                have hTF : Touch (fun _ => False) w ((wy.setCell ⟨R, 0, none⟩ (.int .i64 base)).setCell ⟨R, 1, none⟩ (.slice sA i sc)) := by
                  iterate 2 refine Touch.setCell ?_ (fun h => by have := HRR.out; simp only at h; omega) _
                  exact HTC9.out
                have hTR : Touch (fun g => g = R) wy ((wy.setCell ⟨R, 0, none⟩ (.int .i64 base)).setCell ⟨R, 1, none⟩ (.slice sA i sc)) :=
                  ((Touch.refl (fun g => g = R) wy).setCell (p := ⟨R, 0, none⟩) (fun _ => rfl) _).setCell (p := ⟨R, 1, none⟩) (fun _ => rfl) _
                have hfin : StsOk ((wy.setCell ⟨R, 0, none⟩ (.int .i64 base)).setCell ⟨R, 1, none⟩ (.slice sA i sc)) sA i Y :=
                  ⟨HSY.out.rd.touch hTR (fun g hg e => hg.ne (blk_ty HRS.out) (by decide) e), HSY.out.len, fun z hz => (HSY.out.el z hz).touch hTR (fun g hg e => hg.ne (blk_ty HRS.out) (by decide) e)⟩
                exact bodyPost_ret (v := .tuple #[.agg #[.int .i64 base, .slice sA i sc], .int .i64 0]) (by simp [results, Tryd.results17, go_sem, g0, g1]) rfl ⟨hTF, .inl ⟨base, sts, HBB.out, rgtP_few HRG.out, HRG.out, HBS.out, sA, i, sc, Y, rfl, hfin, HY.out, HSC.out⟩⟩
              | false =>
                have hno := unp_none (bs := bs) (fun b2 z2 hm2 hr2 => by
                  rw [HM5.out] at hm2
                  simp only [Option.some.injEq, Prod.mk.injEq] at hm2
                  obtain ⟨⟨rfl, rfl⟩, _⟩ := hm2
                  have := hv.2 hr2
                  cases this)
                have HNO := hide hno
                clear hv T9 hsz hsc HGR hno
                go_wp2_with fail
                have hbF := (HRS.out.set_ 0 (.int .i64 0)).set_ 1 (.slice none 0 0)
                have g0 := hbF.cell 0
                have g1 := hbF.cell 1
                have hTF : Touch (fun _ => False) w ((wy.setCell ⟨R, 0, none⟩ (.int .i64 0)).setCell ⟨R, 1, none⟩ (.slice none 0 0)) := by
                  iterate 2 refine Touch.setCell ?_ (fun h => by have := HRR.out; simp only at h; omega) _
                  exact HTC9.out
                exact bodyPost_ret (v := .tuple #[.agg #[.int .i64 0, .slice none 0 0], .int .i64 80]) (by simp [results, Tryd.results17, go_sem, g0, g1]) rfl ⟨hTF, .inr ⟨HNO.out, rfl⟩⟩
            · have hno := unp_none (bs := bs) (fun b2 z2 hm2 hr2 => by
                rw [HM5.out] at hm2
                simp only [Option.some.injEq, Prod.mk.injEq] at hm2
                have h1 := HL5.out
                rw [hm2.2] at h1
                simp only [List.length_nil] at h1
                omega)
              have HNO := hide hno
              have HXN := hide (show XN 0 n5 from fun h => hn5 h.2)
              clear hno hn5
              have HEN := hide (end_any wq p _ _ _ _ _ HRDR.out)
              obtain ⟨rr0, rr1, rr2⟩ := HRES.out.facts
              go_wp2_with fail
              refine HEN.out.mono ?_
              rintro e wx ⟨x, rfl, hx, hwx⟩
              subst hwx
              have hx0 : ¬ x = 0 := fun e => HXN.out (hx.1 e)
              have hx1 : (x == 0) = false := by simp; exact hx0
              have hx2 : (x != 0) = true := by simp; exact hx0
              clear hx HEN
              go_wp2_with fail
              have hbF := (HRES.out.set_ 0 (.int .i64 0)).set_ 1 (.slice none 0 0)
              have g0 := hbF.cell 0
              have g1 := hbF.cell 1
              have hTF : Touch (fun _ => False) w ((wx.setCell ⟨R, 0, none⟩ (.int .i64 0)).setCell ⟨R, 1, none⟩ (.slice none 0 0)) := by
                iterate 2 refine Touch.setCell ?_ (fun h => by have := HRR.out; simp only at h; omega) _
                exact HTCH.out
              exact bodyPost_ret (v := .tuple #[.agg #[.int .i64 0, .slice none 0 0], .int .i64 80]) (by simp [results, Tryd.results17, go_sem, g0, g1]) rfl ⟨hTF, .inr ⟨HNO.out, rfl⟩⟩
        · obtain ⟨A5, n5, c5, t5, k5, hk5, hr5⟩ := hUB.rdr
          have HRDR := hide hr5
          have HRES := hide hUB.res
          have HTCH := hide hUB.touch
          have HNO := hide (unp_none (bs := bs) (fun b2 z2 hm2 hr2 => by rw [hnone] at hm2; cases hm2))
          have HXN := hide (show XN k5 n5 from fun h => by have := h.1; omega)
          have HER := hide (err_any wq p A5 n5 c5 t5 k5 hr5)
          have k1 : (k5 == 0) = false := by simp; omega
          have k2 : ¬ k5 = 0 := by omega
          clear hUB hnone hr5 hk5 HX
          by_cases hic : i < cnt
          · have j0 : (i : Int) < (cnt : Int) := by omega
            clear hic hi
            go_wp2_with fail
            refine HER.out.mono ?_
            rintro e wx ⟨rfl, hwx⟩
            subst hwx
            have HEN := hide (end_any wx p _ _ _ _ _ HRDR.out)
            obtain ⟨rr0, rr1, rr2⟩ := HRES.out.facts
            go_wp2_with fail
            refine HEN.out.mono ?_
            rintro e wx ⟨x, rfl, hx, hwx⟩
            subst hwx
            have hx0 : ¬ x = 0 := fun e => HXN.out (hx.1 e)
            have hx1 : (x == 0) = false := by simp; exact hx0
            have hx2 : (x != 0) = true := by simp; exact hx0
            clear hx HEN
            go_wp2_with fail
            have hbF := (HRES.out.set_ 0 (.int .i64 0)).set_ 1 (.slice none 0 0)
            have g0 := hbF.cell 0
            have g1 := hbF.cell 1
            have hTF : Touch (fun _ => False) w ((wx.setCell ⟨R, 0, none⟩ (.int .i64 0)).setCell ⟨R, 1, none⟩ (.slice none 0 0)) := by
              iterate 2 refine Touch.setCell ?_ (fun h => by have := HRR.out; simp only at h; omega) _
              exact HTCH.out
            exact bodyPost_ret (v := .tuple #[.agg #[.int .i64 0, .slice none 0 0], .int .i64 80]) (by simp [results, Tryd.results17, go_sem, g0, g1]) rfl ⟨hTF, .inr ⟨HNO.out, rfl⟩⟩
          · have j0 : ¬ (i : Int) < (cnt : Int) := by omega
            clear hic hi
            have HEN := hide (end_any wq p _ _ _ _ _ HRDR.out)
            obtain ⟨rr0, rr1, rr2⟩ := HRES.out.facts
            go_wp2_with fail
            refine HEN.out.mono ?_
            rintro e wx ⟨x, rfl, hx, hwx⟩
            subst hwx
            have hx0 : ¬ x = 0 := fun e => HXN.out (hx.1 e)
            have hx1 : (x == 0) = false := by simp; exact hx0
            have hx2 : (x != 0) = true := by simp; exact hx0
            clear hx HEN
            go_wp2_with fail
            have hbF := (HRES.out.set_ 0 (.int .i64 0)).set_ 1 (.slice none 0 0)
            have g0 := hbF.cell 0
            have g1 := hbF.cell 1
            have hTF : Touch (fun _ => False) w ((wx.setCell ⟨R, 0, none⟩ (.int .i64 0)).setCell ⟨R, 1, none⟩ (.slice none 0 0)) := by
              iterate 2 refine Touch.setCell ?_ (fun h => by have := HRR.out; simp only at h; omega) _
              exact HTCH.out
            exact bodyPost_ret (v := .tuple #[.agg #[.int .i64 0, .slice none 0 0], .int .i64 80]) (by simp [results, Tryd.results17, go_sem, g0, g1]) rfl ⟨hTF, .inr ⟨HNO.out, rfl⟩⟩
    · have HRDR := hide hr3
      obtain ⟨k1, k2, k3, k4, k5⟩ := HUI.out.kept T3
      have HRES := hide k4
      have HTCH := hide k5
      have HNO := hide (unp_none (bs := bs) (fun b2 z2 hm2 hr2 => by
        unfold machR at hm2
        rw [HU1.out] at hm2
        simp only at hm2
        rw [hu2] at hm2
        cases hm2))
      have HXN := hide (show XN k n2 from fun h => by have := h.1; omega)
      have HER := hide (err_any w4 p A2 n2 c2 t1 k hr3)
      clear hu2 hr3 T3 k1 k2 k3 k4 k5 hk
      go_wp2_with fail
      go_loopw [7] (fun iv wr => iv = .int .i64 0 ∧ Hid (wr = w4)) (fun _ _ => 0)
      case atStart => exact ⟨rfl, hide rfl⟩
      case round =>
        obtain ⟨rfl, hwr⟩ := hrel
        have hwr := hwr.out
        subst hwr
        have HEN := hide (end_any wr p _ _ _ _ _ HRDR.out)
        obtain ⟨rr0, rr1, rr2⟩ := HRES.out.facts
        go_wp2_with fail
        refine HEN.out.mono ?_
        rintro e wx ⟨x, rfl, hx, hwx⟩
        subst hwx
        have hx0 : ¬ x = 0 := fun e => HXN.out (hx.1 e)
        have hx1 : (x == 0) = false := by simp; exact hx0
        have hx2 : (x != 0) = true := by simp; exact hx0
        clear hx HEN
        go_wp2_with fail
        have hbF := (HRES.out.set_ 0 (.int .i64 0)).set_ 1 (.slice none 0 0)
        have g0 := hbF.cell 0
        have g1 := hbF.cell 1
        have hTF : Touch (fun _ => False) w ((wx.setCell ⟨R, 0, none⟩ (.int .i64 0)).setCell ⟨R, 1, none⟩ (.slice none 0 0)) := by
          iterate 2 refine Touch.setCell ?_ (fun h => by have := HRR.out; simp only at h; omega) _
          exact HTCH.out
        exact bodyPost_ret (v := .tuple #[.agg #[.int .i64 0, .slice none 0 0], .int .i64 80]) (by simp [results, Tryd.results17, go_sem, g0, g1]) rfl ⟨hTF, .inr ⟨HNO.out, rfl⟩⟩
  · have HRDR := hide hr2
    have hT2 : Touch (fun _ => False) w w2 := HT1.out.trans T2 (fun i hi e => by have := HP1.out; omega)
    have hb2 := HB1.out.touch T2 (fun e => (blk_ty HB1.out).ne (blk_ty HR1.out.blk) (by decide) e)
    obtain ⟨w3, hw3⟩ : ∃ x, x = w2.alloc (.cells #[.int .i64 0, .slice none 0 0] 24) := ⟨_, rfl⟩
    have hT3 : Touch (fun _ => False) w2 w3 := by rw [hw3]; exact (Touch.refl _ _).alloc _
    have HRDR := hide (hr2.quiet hT3)
    have HRES := hide (hb2.touch hT3 (fun f => f))
    have HTCH := hide (hT2.then hT3)
    have HNO := hide (unp_none (bs := bs) (fun b2 z2 hm2 hr2 => by
      unfold machR at hm2
      rw [hu1] at hm2
      cases hm2))
    have HXN := hide (show XN k n1 from fun h => by have := h.1; omega)
    have HUN := hide (fun m hm => uint_n w3 p A1 n1 c1 bs k HRDR.out hk m hm)
    have HW3 := hide hw3
    clear hr2 hT2 hb2 hw3 hT3 hu1 hk T2
    go_wp2_with fail
    rw [← HW3.out]
    refine (HUN.out 98305 (by decide)).mono ?_
    rintro e w4 ⟨rfl, hw4⟩
    subst hw4
    go_wp2_with fail
    go_loopw [7] (fun iv wr => iv = .int .i64 0 ∧ Hid (wr = w3)) (fun _ _ => 0)
    case atStart => exact ⟨rfl, hide rfl⟩
    case round =>
      obtain ⟨rfl, hwr⟩ := hrel
      have hwr := hwr.out
      subst hwr
      have HEN := hide (end_any wr p _ _ _ _ _ HRDR.out)
      obtain ⟨rr0, rr1, rr2⟩ := HRES.out.facts
      go_wp2_with fail
      refine HEN.out.mono ?_
      rintro e wx ⟨x, rfl, hx, hwx⟩
      subst hwx
      have hx0 : ¬ x = 0 := fun e => HXN.out (hx.1 e)
      have hx1 : (x == 0) = false := by simp; exact hx0
      have hx2 : (x != 0) = true := by simp; exact hx0
      clear hx HEN
      go_wp2_with fail
      have hbF := (HRES.out.set_ 0 (.int .i64 0)).set_ 1 (.slice none 0 0)
      have g0 := hbF.cell 0
      have g1 := hbF.cell 1
      have hTF : Touch (fun _ => False) w ((wx.setCell ⟨R, 0, none⟩ (.int .i64 0)).setCell ⟨R, 1, none⟩ (.slice none 0 0)) := by
        iterate 2 refine Touch.setCell ?_ (fun h => by have := HRR.out; simp only at h; omega) _
        exact HTCH.out
      exact bodyPost_ret (v := .tuple #[.agg #[.int .i64 0, .slice none 0 0], .int .i64 80]) (by simp [results, Tryd.results17, go_sem, g0, g1]) rfl ⟨hTF, .inr ⟨HNO.out, rfl⟩⟩

end Go.Proofs.YtcmjohaohdgnjaaDoor
