/- ref07.SameState and ref07.Same tell whether two are the same. Condition: none. -/
import Derived.Test.YtcmjohaohdgnjaaDoorGvis
import Derived.StillTailTactics
namespace Go.Proofs.YtcmjohaohdgnjaaDoor
open Go.RowKit
set_option linter.unusedSectionVars false
set_option linter.unusedSimpArgs false
set_option linter.unusedVariables false
variable [Inhabited BaseT]

set_option maxRecDepth 100000 in
set_option maxHeartbeats 4000000 in
theorem samest_any (w : World) (x y : ZV) (hx : x.Ok w) (hy : y.Ok w) :
    Calls Tryd.prog 41 #[.agg #[.bool x.fin, .int .i64 x.out, .slice x.A x.n x.c], .agg #[.bool y.fin, .int .i64 y.out, .slice y.A y.n y.c]] w fun e w' => BoolIff (x.p = y.p) e ∧ Touch (fun _ => False) w w' := by
  obtain ⟨xf, xo, xA, xn, xc, xa⟩ := x
  obtain ⟨yf, yo, yA, yn, yc, ya⟩ := y
  obtain ⟨xlen, xrd, xle, xmx⟩ := hx
  obtain ⟨ylen, yrd, yle, ymx⟩ := hy
  simp only [ZV.p, StZ.mk.injEq] at *
  obtain ⟨Q, hQ⟩ : ∃ Q : Prop, (xf = yf ∧ xo = yo ∧ xa = ya) = Q := ⟨_, rfl⟩
  rw [hQ]
  have HQ := hide hQ
  clear hQ
  have hnm : xn ≤ maxLen := Nat.le_trans xle xmx
  have HX := hide xrd
  have HXL := hide xlen
  have HY := hide yrd
  have HYL := hide ylen
  clear xrd xlen yrd ylen xle xmx yle ymx
  by_cases e1 : xf = yf
  · subst e1
    by_cases e2 : xo = yo
    · subst e2
      by_cases e3 : xn = yn
      · subst e3
        go_enter Tryd.func41, Tryd.ntmps41
        go_wp2_with fail
        obtain ⟨w3, hw3⟩ : ∃ x, x = (w.alloc (.cells #[.bool xf, .int .i64 xo, .slice xA xn xc] 44)).alloc (.cells #[.bool xf, .int .i64 xo, .slice yA xn yc] 44) := ⟨_, rfl⟩
        obtain ⟨X, hX⟩ : ∃ X, X = w.heap.size := ⟨_, rfl⟩
        obtain ⟨Y, hY⟩ : ∃ Y, Y = w.heap.size + 1 := ⟨_, rfl⟩
        have hT3 : Touch (fun _ => False) w w3 := by
          rw [hw3]
          exact ((Touch.refl _ _).alloc _).alloc _
        have hbX : Blk w3 X 44 #[.bool xf, .int .i64 xo, .slice xA xn xc] := by
          rw [hw3, hX]
          exact (Blk.new _ _ _).alloc _
        have hbY : Blk w3 Y 44 #[.bool xf, .int .i64 xo, .slice yA xn yc] := by
          rw [hw3, hY]
          have h := Blk.new (w.alloc (.cells #[.bool xf, .int .i64 xo, .slice xA xn xc] 44)) 44 #[.bool xf, .int .i64 xo, .slice yA xn yc]
          simpa using h
        rw [← hw3]
        try rw [← hY]
        rw [← hX]
        have HT3 := hide hT3
        have HBX := hide hbX
        have HBY := hide hbY
        clear hw3 hT3 hbX hbY hX hY
        go_loopw [5] (fun iv wr => ∃ (i : Nat), iv = .int .i64 i ∧ i ≤ xn ∧ Hid (xa.take i = ya.take i) ∧ Hid (Touch (fun _ => False) w3 wr)) (fun iv _ => xn - (intOf iv).toNat)
        case atStart => exact ⟨0, rfl, by omega, hide rfl, hide (Touch.refl _ _)⟩
        case round =>
          obtain ⟨i, rfl, hi, HP, HT⟩ := hrel
          obtain ⟨q1, q2, q3⟩ := (HBX.out.touch HT.out (fun f => f)).facts
          obtain ⟨r1, r2, r3⟩ := (HBY.out.touch HT.out (fun f => f)).facts
          by_cases hin : i < xn
          · have y1 : (i : Int) < (xn : Int) := by omega
            have y2 : (0 : Int) ≤ (i : Int) := by omega
            have z2 : IntKind.i64.wrap ((i : Int) + 1) = (i : Int) + 1 := IntWalk.i64_in _ (by unfold maxLen at hnm; omega)
            obtain ⟨g, o, hA, hg, c1, c2, c3⟩ := zarc_at (HX.out.quiet (HT3.out.then HT.out)).rd HXL.out i hin
            obtain ⟨g2, o2, hA2, hg2, d1, d2, d3⟩ := zarc_at (HY.out.quiet (HT3.out.then HT.out)).rd HYL.out i hin
            subst hA
            subst hA2
            have hsx := take_snoc xa (0, 0, 0) i (by rw [HXL.out]; exact hin)
            have hsy := take_snoc ya (0, 0, 0) i (by rw [HYL.out]; exact hin)
            obtain ⟨⟨la, ao, tt⟩, hz⟩ : ∃ z, xa.getD i (0, 0, 0) = z := ⟨_, rfl⟩
            obtain ⟨⟨lb, bo, ub⟩, hz2⟩ : ∃ z, ya.getD i (0, 0, 0) = z := ⟨_, rfl⟩
            rw [hz] at c1 c2 c3 hsx
            rw [hz2] at d1 d2 d3 hsy
            simp only at c1 c2 c3 d1 d2 d3 hsx hsy
            have HSX := hide hsx
            have HSY := hide hsy
            clear hz hz2 hsx hsy
            by_cases p1 : la = lb
            · subst p1
              by_cases p2 : ao = bo
              · subst p2
                by_cases p3 : tt = ub
                · subst p3
                  go_wp2_with fail
                  go_quiet (fail)
                  go_wp2_with fail
                  go_roundw
                  · refine ⟨i + 1, by simp, by omega, hide ?_, hide (HT.out.drewN _)⟩
                    rw [HSX.out, HSY.out, HP.out]
                  · simp only [intOf]; omega
                · have p4 : ((tt : Int) == (ub : Int)) = false := by simp; omega
                  go_wp2_with fail
                  go_quiet (fail)
                  go_wp2_with fail
                  go_ret
                  refine ⟨.mk false ?_, HT3.out.then (HT.out.drewN _)⟩
                  rw [← HQ.out]
                  exact arcs_no HSX.out HSY.out HP.out (fun h => by simp only [Prod.mk.injEq] at h; exact p3 h.2.2)
              · have p4 : (ao == bo) = false := by simp; exact p2
                go_wp2_with fail
                go_quiet (fail)
                go_wp2_with fail
                go_ret
                refine ⟨.mk false ?_, HT3.out.then (HT.out.drewN _)⟩
                rw [← HQ.out]
                exact arcs_no HSX.out HSY.out HP.out (fun h => by simp only [Prod.mk.injEq] at h; exact p2 h.2.1)
            · have p4 : ((la : Int) == (lb : Int)) = false := by simp; omega
              go_wp2_with fail
              go_quiet (fail)
              go_wp2_with fail
              go_ret
              refine ⟨.mk false ?_, HT3.out.then (HT.out.drewN _)⟩
              rw [← HQ.out]
              exact arcs_no HSX.out HSY.out HP.out (fun h => by simp only [Prod.mk.injEq] at h; exact p1 h.1)
          · have hie : i = xn := by omega
            have h := HP.out
            rw [List.take_of_length_le (by rw [HXL.out]; omega), List.take_of_length_le (by rw [HYL.out]; omega)] at h
            have HE := hide h
            have y1 : ¬ (i : Int) < (xn : Int) := by omega
            clear h hie hin hi
            go_wp2_with fail
            go_ret
            refine ⟨.mk true ?_, HT3.out.then HT.out⟩
            rw [← HQ.out]
            exact ⟨fun _ => ⟨trivial, trivial, HE.out⟩, fun _ => rfl⟩
      · have e4 : ((xn : Int) == (yn : Int)) = false := by simp; omega
        have hno : ¬ Q := by
          rw [← HQ.out]
          rintro ⟨_, _, h⟩
          exact e3 (by rw [← HXL.out, ← HYL.out, h])
        have HNO := hide hno
        clear hno
        go_enter Tryd.func41, Tryd.ntmps41
        cases xf
        · go_wp2_with fail
          go_ret
          exact ⟨.mk false ⟨(fun h => by cases h), fun h => absurd h HNO.out⟩, ((Touch.refl _ _).alloc _).alloc _⟩
        · go_wp2_with fail
          go_ret
          exact ⟨.mk false ⟨(fun h => by cases h), fun h => absurd h HNO.out⟩, ((Touch.refl _ _).alloc _).alloc _⟩
    · have e4 : (xo == yo) = false := by simp; exact e2
      have hno : ¬ Q := by
        rw [← HQ.out]
        rintro ⟨_, h, _⟩
        exact e2 h
      have HNO := hide hno
      clear hno
      go_enter Tryd.func41, Tryd.ntmps41
      cases xf
      · go_wp2_with fail
        go_ret
        exact ⟨.mk false ⟨(fun h => by cases h), fun h => absurd h HNO.out⟩, ((Touch.refl _ _).alloc _).alloc _⟩
      · go_wp2_with fail
        go_ret
        exact ⟨.mk false ⟨(fun h => by cases h), fun h => absurd h HNO.out⟩, ((Touch.refl _ _).alloc _).alloc _⟩
  · have hno : ¬ Q := by
      rw [← HQ.out]
      rintro ⟨h, _⟩
      exact e1 h
    have HNO := hide hno
    clear hno
    go_enter Tryd.func41, Tryd.ntmps41
    cases xf
    · cases yf
      · exact absurd rfl e1
      · go_wp2_with fail
        go_ret
        exact ⟨.mk false ⟨(fun h => by cases h), fun h => absurd h HNO.out⟩, ((Touch.refl _ _).alloc _).alloc _⟩
    · cases yf
      · go_wp2_with fail
        go_ret
        exact ⟨.mk false ⟨(fun h => by cases h), fun h => absurd h HNO.out⟩, ((Touch.refl _ _).alloc _).alloc _⟩
      · exact absurd rfl e1


theorem getD_map {α β : Type} (f : α → β) (l : List α) (i : Nat) (d : α) (e : β) (h : i < l.length) : (l.map f).getD i e = f (l.getD i d) := by simp [List.getD, h]
def sameM (X Y : List ZV) (i : Nat) : Prop := (X.take i).map ZV.p = (Y.take i).map ZV.p

set_option maxRecDepth 100000 in
set_option maxHeartbeats 8000000 in
theorem samemz_any (w : World) (b1 b2 : Int) (A1 : Option Addr) (n1 c1 : Nat) (X : List ZV) (A2 : Option Addr) (n2 c2 : Nat) (Y : List ZV) (hX : StsZ w A1 n1 X) (hY : StsZ w A2 n2 Y) (hm1 : n1 ≤ maxLen) :
    Calls Tryd.prog 19 #[.agg #[.int .i64 b1, .slice A1 n1 c1], .agg #[.int .i64 b2, .slice A2 n2 c2]] w fun e w' => BoolIff (b1 = b2 ∧ X.map ZV.p = Y.map ZV.p) e ∧ Touch (fun _ => False) w w' := by
  obtain ⟨Q, hQ⟩ : ∃ Q : Prop, (b1 = b2 ∧ X.map ZV.p = Y.map ZV.p) = Q := ⟨_, rfl⟩
  rw [hQ]
  have HQ := hide hQ
  have HX := hide hX
  have HY := hide hY
  clear hQ hX hY
  unfold maxLen at hm1
  go_enter Tryd.func19, Tryd.ntmps19
  by_cases e1 : b1 = b2
  rotate_left
  · have hno : ¬ Q := by
      rw [← HQ.out]
      exact fun h => e1 h.1
    have HNO := hide hno
    have e4 : (b1 == b2) = false := by simp; exact e1
    clear hno
    go_wp2_with fail
    go_ret
    exact ⟨.mk false ⟨(fun h => by cases h), fun h => absurd h HNO.out⟩, ((Touch.refl _ _).alloc _).alloc _⟩
  subst e1
  by_cases e2 : n1 = n2
  rotate_left
  · have hno : ¬ Q := by
      rw [← HQ.out]
      rintro ⟨_, h⟩
      have := congrArg List.length h
      rw [List.length_map, List.length_map, HX.out.len, HY.out.len] at this
      exact e2 this
    have HNO := hide hno
    have e4 : ((n1 : Int) == (n2 : Int)) = false := by simp; omega
    clear hno
    go_wp2_with fail
    go_ret
    exact ⟨.mk false ⟨(fun h => by cases h), fun h => absurd h HNO.out⟩, ((Touch.refl _ _).alloc _).alloc _⟩
  subst e2
  go_wp2_with fail
  obtain ⟨w3, hw3⟩ : ∃ x, x = (w.alloc (.cells #[.int .i64 b1, .slice A1 n1 c1] 24)).alloc (.cells #[.int .i64 b1, .slice A2 n1 c2] 24) := ⟨_, rfl⟩
  obtain ⟨P, hP⟩ : ∃ P, P = w.heap.size := ⟨_, rfl⟩
  obtain ⟨R, hR⟩ : ∃ R, R = w.heap.size + 1 := ⟨_, rfl⟩
  have hT3 : Touch (fun _ => False) w w3 := by
    rw [hw3]
    exact ((Touch.refl _ _).alloc _).alloc _
  have hbX : Blk w3 P 24 #[.int .i64 b1, .slice A1 n1 c1] := by
    rw [hw3, hP]
    exact (Blk.new _ _ _).alloc _
  have hbY : Blk w3 R 24 #[.int .i64 b1, .slice A2 n1 c2] := by
    rw [hw3, hR]
    exact blk_new1 _ _ _ _
  rw [← hw3]
  try rw [← hR]
  rw [← hP]
  have HT3 := hide hT3
  have HBX := hide hbX
  have HBY := hide hbY
  clear hw3 hT3 hbX hbY hP hR
  go_loopw [5] (fun iv wr => ∃ i : Nat, iv = .int .i64 i ∧ i ≤ n1 ∧ Hid (sameM X Y i) ∧ Hid (Touch (fun _ => False) w3 wr)) (fun iv _ => n1 - (intOf iv).toNat)
  case atStart => exact ⟨0, rfl, by omega, hide rfl, hide (Touch.refl _ _)⟩
  case round =>
    obtain ⟨i, rfl, hi, HP, HT⟩ := hrel
    obtain ⟨q1, q2, q3⟩ := (HBX.out.touch HT.out (fun f => f)).facts
    obtain ⟨r1, r2, r3⟩ := (HBY.out.touch HT.out (fun f => f)).facts
    by_cases hin : i < n1
    · have y1 : (i : Int) < (n1 : Int) := by omega
      have y2 : (0 : Int) ≤ (i : Int) := by omega
      have z2 : IntKind.i64.wrap ((i : Int) + 1) = (i : Int) + 1 := IntWalk.i64_in _ (by omega)
      have hxs := HX.out.quiet (HT3.out.then HT.out)
      have hys := HY.out.quiet (HT3.out.then HT.out)
      obtain ⟨g, o, hA, _, c0, c1', c2'⟩ := zstate_at hxs.rd.rd hxs.len i hin
      obtain ⟨g2, o2, hA2, _, d0, d1, d2⟩ := zstate_at hys.rd.rd hys.len i hin
      subst hA
      subst hA2
      have hxm := getD_mem X zvZero i (by rw [hxs.len]; exact hin)
      have hym := getD_mem Y zvZero i (by rw [hys.len]; exact hin)
      have hxo := hxs.el _ hxm
      have hyo := hys.el _ hym
      have tx := take_snoc X zvZero i (by rw [hxs.len]; exact hin)
      have ty := take_snoc Y zvZero i (by rw [hys.len]; exact hin)
      have hne : (X.getD i zvZero).p ≠ (Y.getD i zvZero).p → ¬ Q := by
        rw [← HQ.out]
        rintro h ⟨_, he⟩
        apply h
        rw [← getD_map ZV.p X i zvZero (⟨false, 0, []⟩ : StZ) (by rw [hxs.len]; exact hin), ← getD_map ZV.p Y i zvZero (⟨false, 0, []⟩ : StZ) (by rw [hys.len]; exact hin), he]
      obtain ⟨x, hx⟩ : ∃ x, X.getD i zvZero = x := ⟨_, rfl⟩
      obtain ⟨y, hy⟩ : ∃ y, Y.getD i zvZero = y := ⟨_, rfl⟩
      rw [hx] at c0 c1' c2' hxo tx hne
      rw [hy] at d0 d1 d2 hyo ty hne
      have HAL := hide (fun wx (T : Touch (fun _ => False) wr wx) => samest_any wx x y (hxo.touch T (fun _ _ f => f)) (hyo.touch T (fun _ _ f => f)))
      have HTX := hide tx
      have HTY := hide ty
      have HNE := hide hne
      have HIN := hide hin
      clear hxs hys hxm hym hxo hyo tx ty hne hx hy hin hi
      go_wp2_with fail
      go_still_tail 10, (by kernel_rfl)
      change wpList _ _ _ _ _ wr.drew
      have HD := hide (show Touch (fun _ => False) wr wr.drew from (Touch.refl _ _).drew)
      generalize wr.drew = wd at HD ⊢
      go_wp2_with fail
      refine (HAL.out wd HD.out).mono ?_
      rintro e w9 ⟨⟨av, rfl, hav⟩, T9⟩
      have HT9 := hide T9
      have HAV := hide hav
      clear T9 hav
      cases av with
      | true =>
        have he := HAV.out.1 rfl
        have HE := hide he
        clear he
        go_wp2_with fail
        go_roundw
        · refine ⟨i + 1, by simp, by have := HIN.out; omega, hide ?_, hide (HT.out.then (HD.out.then HT9.out))⟩
          have h := HP.out
          unfold sameM at h ⊢
          rw [HTX.out, HTY.out, List.map_append, List.map_append, h]
          simp only [List.map_cons, List.map_nil, HE.out]
        · have := HIN.out
          simp only [intOf]; omega
      | false =>
        have hq := HNE.out (fun e => by have := HAV.out.2 e; cases this)
        have HNO := hide hq
        clear hq
        go_wp2_with fail
        go_ret
        exact ⟨.mk false ⟨(fun h => by cases h), fun h => absurd h HNO.out⟩, HT3.out.then (HT.out.then (HD.out.then HT9.out))⟩
    · have hie : i = n1 := by omega
      have y1 : ¬ (i : Int) < (n1 : Int) := by omega
      have hq : Q := by
        rw [← HQ.out]
        have h := HP.out
        unfold sameM at h
        rw [List.take_of_length_le (by rw [HX.out.len]; omega), List.take_of_length_le (by rw [HY.out.len]; omega)] at h
        exact ⟨by trivial, h⟩
      have HYES := hide hq
      clear hie hin hi hq
      go_wp2_with fail
      go_ret
      exact ⟨.mk true ⟨fun _ => HYES.out, fun _ => rfl⟩, HT3.out.then HT.out⟩

theorem zv_map (X : List SV) : (X.map SV.zv).map ZV.p = (X.map SV.p).map StP.z := by
  rw [List.map_map, List.map_map]
  rfl
theorem samem_any (w : World) (b1 b2 : Int) (A1 : Option Addr) (n1 c1 : Nat) (X : List SV) (A2 : Option Addr) (n2 c2 : Nat) (Y : List SV) (hX : StsOd w A1 n1 X) (hY : StsOd w A2 n2 Y) (hm1 : n1 ≤ maxLen) :
    Calls Tryd.prog 19 #[.agg #[.int .i64 b1, .slice A1 n1 c1], .agg #[.int .i64 b2, .slice A2 n2 c2]] w fun e w' => BoolIff (b1 = b2 ∧ X.map SV.p = Y.map SV.p) e ∧ Touch (fun _ => False) w w' := by
  have h := samemz_any w b1 b2 A1 n1 c1 _ A2 n2 c2 _ (stsZ_of hX) (stsZ_of hY) hm1
  have e : (b1 = b2 ∧ (X.map SV.zv).map ZV.p = (Y.map SV.zv).map ZV.p) = (b1 = b2 ∧ X.map SV.p = Y.map SV.p) := by
    rw [zv_map, zv_map]
    refine propext ⟨fun h => ⟨h.1, map_inj (fun a b e => StP.z_inj e) h.2⟩, fun h => ⟨h.1, by rw [h.2]⟩⟩
  rw [e] at h
  exact h

end Go.Proofs.YtcmjohaohdgnjaaDoor
