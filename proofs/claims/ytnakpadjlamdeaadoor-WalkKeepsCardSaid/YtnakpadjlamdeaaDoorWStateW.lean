/- WalkStates: the walk. No condition. -/
import Derived.Test.YtnakpadjlamdeaaDoorWStateA
import Derived.RegionTactic
import Derived.Deep.RegionLaw
namespace Go.Proofs.YtnakpadjlamdeaaDoor
open Go.RowKit

theorem svs_few {L : List PRow} (hD : DictP L) {Z : List SV} (hs : Z.map SV.p = (mach L).states) {w : World} {A : Option Addr} {n : Nat} (h : StsOk w A n Z) : ∀ z ∈ Z, z.n ≤ 2097152 := by
  intro z hz
  obtain ⟨i, hi, rfl⟩ := List.mem_iff_getElem.1 hz
  have hl := (h.el _ hz).len
  rcases right_mach hD with ⟨e, _⟩ | hR
  · rw [e] at hs
    have : Z = [] := by simpa using hs
    rw [this] at hi
    simp at hi
  · have hil : i < (mach L).states.length := by rw [← hs, List.length_map]; exact hi
    have hf := form_few (hR.form i hil)
    rw [← hs] at hf
    simp [List.getD, hi, SV.p] at hf
    omega

set_option maxRecDepth 100000 in
set_option maxHeartbeats 8000000 in
theorem wstates_walk (W : World) (hL : Lst W) (s : SL) (hs : s.Ok W) (hn : s.n ≤ maxLen) (hWf : ∀ r ∈ s.L, r.Wf) (i : Int) :
    Calls Tryd.prog 6 #[s.val, .int .i64 i] W fun e W' => e = .returned (.bool true) ∧ Below W.heap.size W W' := by
  have HS := hide hs
  have HL := hide hL
  have HON := hide (on_any W hL s hs hWf hn)
  obtain ⟨sA, sn, sc, sL⟩ := s
  clear hs hn hL hWf
  simp only [SL.val] at HON ⊢
  go_enter Tryd.func6, Tryd.ntmps6
  go_wp2_with fail
  refine HON.out.mono ?_
  rintro e w1 ⟨hon, T1⟩
  have HT1 := hide T1
  clear HON
  rcases hon with ⟨_, rfl⟩ | ⟨ho, hD, b, n, A, c, Z, wA, wc, rfl, hdw⟩
  · clear T1
    go_wp2_with fail
    refine (alive9_any w1 (Lst.touch HL.out HT1.out)).mono ?_
    rintro e w2 ⟨rfl, T2⟩
    have HT2 := hide (HT1.out.then T2)
    clear T2
    go_wp2_with fail
    go_ret
    exact ⟨by simp, HT2.out.below (Nat.le_refl _) (fun _ _ f => f)⟩
  · have hmk := make_any w1 ⟨sA, sn, sc, sL⟩ (HS.out.touch HT1.out) hD (dict_sizes hD)
    simp only [SL.val] at hmk
    have HMK := hide hmk
    have HD := hide hD
    have HDW := hide hdw
    clear T1 ho hD hdw hmk
    go_wp2_with fail
    refine HMK.out.mono ?_
    rintro e w2 ⟨mA, mn, mc, mZ, rfl, hst, hms, _, _, T2⟩
    have hmn : mn = n := by
      have h1 := HDW.out.n_len
      have h2 := hst.len
      rw [← hms, List.length_map] at h1
      omega
    subst hmn
    obtain ⟨base, hbase⟩ : ∃ x, x = (mach sL).base := ⟨_, rfl⟩
    rw [← hbase]
    have HBASE := hide hbase
    obtain ⟨w3, hw3⟩ : ∃ x, x = w2.alloc (.cells #[.int .i64 base, .slice mA mn mc] 40) := ⟨_, rfl⟩
    obtain ⟨M, hM⟩ : ∃ M, M = w2.heap.size := ⟨_, rfl⟩
    have hT23 : Touch (fun _ => False) w2 w3 := by rw [hw3]; exact (Touch.refl _ _).alloc _
    have hbM : Blk w3 M 40 #[.int .i64 base, .slice mA mn mc] := by rw [hw3, hM]; exact Blk.new _ _ _
    have hd3 := HDW.out.quiet (T2.then hT23)
    have hst3 := hst.quiet hT23
    have hlen3 := hst.len
    have HW3 := hide hw3
    have HM := hide hM
    have HBM := hide hbM
    have HD3 := hide hd3
    have HST := hide hst3
    have HMS := hide hms
    have HT3 := hide (HT1.out.then (T2.then hT23))
    have HNF := hide hd3.few
    have hnI : (mn : Int) ≤ 1000000 := by have := hd3.few; omega
    have z1 : IntKind.i64.wrap ((mn : Int) - 1) = (mn : Int) - 1 := IntWalk.i64_in _ (by omega)
    clear hst hms T2 hbase hw3 hM hT23 hbM hd3 hst3 HMK HDW
    have hcase : (i < 0 ∨ (mn : Int) ≤ i) ∨ ∃ k : Nat, i = (k : Int) ∧ k < mn := by
      by_cases h : i < 0 ∨ (mn : Int) ≤ i
      · exact .inl h
      · exact .inr ⟨i.toNat, by omega, by omega⟩
    rcases hcase with hout | ⟨k, rfl, hk⟩
    · have hws := wstate_none w3 b _ A mn c Z wA wc _ HD3.out.wk i hout
      have HWS := hide hws
      have hc2 : i < 0 ∨ (¬ i < 0 ∧ (mn : Int) ≤ i) := by omega
      clear hws hout
      rcases hc2 with h0 | ⟨h0, h1⟩
      all_goals
        go_wp2_with fail
        rw [← HW3.out]
        refine HWS.out.mono ?_
        rintro e w4 ⟨rfl, T4⟩
        obtain ⟨w5, hw5⟩ : ∃ x, x = w4.alloc (.cells #[.bool false, .int .i64 0, .slice none 0 0] 44) := ⟨_, rfl⟩
        have hT5 : Touch (fun _ => False) w3 w5 := by rw [hw5]; exact T4.alloc _
        have HW5 := hide hw5
        have HT5 := hide hT5
        have HB5 := hide (HBM.out.touch hT5 (fun f => f))
        have hwb := (HD3.out.quiet hT5).wk.blk
        rw [← HBASE.out] at hwb
        have HWB := hide hwb
        have hb5 := HB5.out
        rw [HM.out] at hb5
        obtain ⟨q1, q2, q3⟩ := hb5.facts
        clear T4 hw5 hT5 HWS hb5 hwb
        go_wp2_with fail
        rw [← HW5.out]
        go_quiet (first | (go_at_call 20; exact Calls.quiet_of_same (root_any _ b base A mn c _ HWB.out HNF.out)) | (go_at_call 21; exact Calls.quiet_of_same (base_any _ b base _ _ HWB.out)))
        obtain ⟨w6, hw6⟩ : ∃ x, x = w5.drewN nq := ⟨_, rfl⟩
        have hT56 : Touch (fun _ => False) w5 w6 := by rw [hw6]; exact (Touch.refl _ _).drewN _
        rw [← hw6]
        have HT6 := hide (HT5.out.then hT56)
        have hb6 := HB5.out.touch hT56 (fun f => f)
        rw [HM.out] at hb6
        clear q1 q2 q3
        obtain ⟨q1, q2, q3⟩ := hb6.facts
        clear hw6 hT56 hb6
        go_wp2_with fail
        refine (alive9_any w6 (Lst.touch HL.out (HT3.out.then HT6.out))).mono ?_
        rintro e w7 ⟨rfl, T7⟩
        have HT7 := hide (HT3.out.then (HT6.out.then T7))
        clear T7
        go_wp2_with fail
        go_ret
        exact ⟨rfl, HT7.out.below (Nat.le_refl _) (fun _ _ f => f)⟩
    · obtain ⟨z, hz⟩ : ∃ z, Z.getD k svZero = z := ⟨_, rfl⟩
      obtain ⟨y, hy⟩ : ∃ y, mZ.getD k svZero = y := ⟨_, rfl⟩
      have hzl : k < Z.length := by have := HD3.out.wk.sts.len; omega
      have hyl : k < mZ.length := by omega
      have hzq := svs_few HD.out HD3.out.st HD3.out.wk.sts z (by rw [← hz]; exact getD_mem Z svZero k hzl)
      have hyo3 := HST.out.el y (by rw [← hy]; exact getD_mem mZ svZero k hyl)
      have hzo3 := HD3.out.wk.sts.el z (by rw [← hz]; exact getD_mem Z svZero k hzl)
      have hp : z.p = y.p := by
        have h1 : (Z.map SV.p)[k]? = some z.p := by rw [List.getElem?_map, getD_get? (d := svZero) hzl, hz]; rfl
        have h2 : (mZ.map SV.p)[k]? = some y.p := by rw [List.getElem?_map, getD_get? (d := svZero) hyl, hy]; rfl
        rw [HD3.out.st, ← HMS.out] at h1
        rw [h1] at h2
        exact Option.some.inj h2
      have hws := wstate_some w3 b _ A mn c Z wA wc _ HD3.out.wk k hk z hz hzq
      obtain ⟨g, o, hA, hgl, d0, d1, d2⟩ := state_at HST.out.rd.rd HST.out.len k hk
      subst hA
      rw [hy] at d0 d1 d2
      obtain ⟨zf, zo, zA, zn, zcp, za⟩ := z
      obtain ⟨yf, yo, yA, yn, ycp, ya⟩ := y
      simp only [SV.p, StP.mk.injEq] at hp
      obtain ⟨rfl, rfl, rfl⟩ := hp
      have hzlen := hzo3.len
      simp only at d0 d1 d2 hzlen hws hzq
      have k0 : ¬ (k : Int) < 0 := by omega
      have k1 : (k : Int) < (mn : Int) := by omega
      have k2 : (0 : Int) ≤ (k : Int) := by omega
      have HWS := hide hws
      have HYO := hide hyo3
      have HZL := hide hzlen
      have HZQ := hide hzq
      have HDC := hide (And.intro hgl (And.intro d0 (And.intro d1 d2)))
      clear hz hy hzl hyl hzq hyo3 hzo3 hws hgl d0 d1 d2 hzlen hk
      go_wp2_with fail
      rw [← HW3.out]
      refine HWS.out.mono ?_
      rintro e w4 ⟨A2, c2, rfl, hcl⟩
      obtain ⟨w5, hw5⟩ : ∃ x, x = w4.alloc (.cells #[.bool zf, .int .i64 zo, .slice A2 zn c2] 44) := ⟨_, rfl⟩
      obtain ⟨P, hP⟩ : ∃ P, P = w4.heap.size := ⟨_, rfl⟩
      have hT45 : Touch (fun _ => False) w4 w5 := by rw [hw5]; exact (Touch.refl _ _).alloc _
      have hbP : Blk w5 P 44 #[.bool zf, .int .i64 zo, .slice A2 zn c2] := by rw [hw5, hP]; exact Blk.new _ _ _
      have hT5 := hcl.touch.then hT45
      have hzc5 : SV.Ok ⟨zf, zo, A2, zn, c2, za⟩ w5 := ⟨HZL.out, (RdT.of_own hcl.own).quiet hT45, (own_slice hcl.own).1, (own_slice hcl.own).2⟩
      have HW5 := hide hw5
      have HPP := hide hP
      have HBP := hide hbP
      have HT5 := hide hT5
      have HZC := hide hzc5
      have HB5 := hide (HBM.out.touch hT5 (fun f => f))
      have hwb := (HD3.out.quiet hT5).wk.blk
      rw [← HBASE.out] at hwb
      have HWB := hide hwb
      have hb5 := HB5.out
      rw [HM.out] at hb5
      obtain ⟨q1, q2, q3⟩ := hb5.facts
      clear hcl hw5 hP hT45 hbP hT5 hzc5 HWS hb5 hwb
      go_wp2_with fail
      rw [← HW5.out, ← HPP.out]
      go_quiet (first | (go_at_call 20; exact Calls.quiet_of_same (root_any _ b base A mn c _ HWB.out HNF.out)) | (go_at_call 21; exact Calls.quiet_of_same (base_any _ b base _ _ HWB.out)))
      obtain ⟨w6, hw6⟩ : ∃ x, x = w5.drewN nq := ⟨_, rfl⟩
      have hT56 : Touch (fun _ => False) w5 w6 := by rw [hw6]; exact (Touch.refl _ _).drewN _
      rw [← hw6]
      have HT6 := hide (HT5.out.then hT56)
      have hb6 := HB5.out.touch hT56 (fun f => f)
      have HB6 := hide hb6
      have HBP6 := hide (HBP.out.touch hT56 (fun f => f))
      have HZC6 := hide (HZC.out.touch hT56 (fun _ _ f => f))
      rw [HM.out] at hb6
      clear q1 q2 q3
      obtain ⟨q1, q2, q3⟩ := hb6.facts
      have HAL := hide (fun wx (T : Touch (fun _ => False) w6 wx) => alive9_any wx (Lst.touch HL.out (HT3.out.then (HT6.out.then T))))
      have HCE := hide (fun wx (T : Touch (fun _ => False) w6 wx) => And.intro (((HT6.out.then T).cell HDC.out.1 (fun f => f)).trans HDC.out.2.1) (And.intro (((HT6.out.then T).cell HDC.out.1 (fun f => f)).trans HDC.out.2.2.1) (((HT6.out.then T).cell HDC.out.1 (fun f => f)).trans HDC.out.2.2.2)))
      have HSS := hide (fun wx (T : Touch (fun _ => False) w6 wx) => same_state wx ⟨zf, zo, A2, zn, c2, za⟩ ⟨zf, zo, yA, yn, ycp, za⟩ (HZC6.out.touch T (fun _ _ f => f)) (HYO.out.touch (HT6.out.then T) (fun _ _ f => f)) rfl HZQ.out)
      clear hw6 hT56 hb6
      go_wp2_with fail
      go_region_law (first
        | (go_simp; refine (HAL.out _ (Touch.refl _ _).drew).mono ?_; rintro e v9 ⟨rfl, T9⟩; have hT9 := (Touch.refl (fun _ => False) w6).drew.then T9; have hbm := HB6.out.touch hT9 (fun f => f); rw [HM.out] at hbm; clear q1 q2 q3; obtain ⟨q1, q2, q3⟩ := hbm.facts; obtain ⟨p1, p2, p3⟩ := (HBP6.out.touch hT9 (fun f => f)).facts; obtain ⟨c1, c2', c3⟩ := HCE.out v9 hT9; have hgl := Nat.lt_of_lt_of_le HDC.out.1 (HT6.out.then hT9).size; have HS9 := hide (HSS.out v9 hT9); have HT9 := hide (HT6.out.then hT9); clear hbm T9 hT9; go_simp)
        | (go_simp; refine (HS9.out).mono ?_; rintro e v10 ⟨rfl, T10⟩; have HT10 := hide (HT9.out.then T10); clear T10; go_simp))
      all_goals
        go_wp2_with fail
        go_ret
        exact ⟨rfl, (HT3.out.then HT10.out).below (Nat.le_refl _) (fun _ _ f => f)⟩

end Go.Proofs.YtnakpadjlamdeaaDoor
