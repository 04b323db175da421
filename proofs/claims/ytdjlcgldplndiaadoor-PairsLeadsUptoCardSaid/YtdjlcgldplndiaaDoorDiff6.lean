/- abecedaryref06.Diff. No condition but that there are no more than 2^42 pairs. -/
import Derived.Test.YtdjlcgldplndiaaDoorDiffP
namespace Go.Proofs.YtdjlcgldplndiaaDoor
open Go.RowKit

theorem find_none {k : List UInt8} {L : List PRow} (h : (findP k L).2 = false) : key k L = [] := by
  unfold findP at h
  cases hl : (key k L).getLast? with
  | none => exact List.getLast?_eq_none_iff.1 hl
  | some p => rw [hl] at h; simp at h
theorem find_some {k : List UInt8} {L : List PRow} (h : (findP k L).2 = true) : key k L ≠ [] := by
  intro e
  unfold findP at h
  rw [e] at h
  simp at h
theorem find_zero {k : List UInt8} {L : List PRow} (h : (findP k L).2 = false) : findP k L = (0, false) := by
  unfold findP
  rw [find_none h]
  rfl
theorem key_mem {l : List PRow} {x : PRow} (h : x ∈ l) : key x.word.toList l ≠ [] := by
  intro e
  have : x ∈ key x.word.toList l := by simp [key, h]
  rw [e] at this
  cases this
theorem strict_take_nil {Y : List PRow} (h : Strict Y) {j : Nat} (hj : j < Y.length) : key (Y.getD j PRow.zero).word.toList (Y.take j) = [] := by
  have e : Y.getD j PRow.zero = Y[j] := by simp [List.getD, hj]
  have e2 : Y = Y.take j ++ (Y[j] :: Y.drop (j + 1)) := by rw [← List.drop_eq_getElem_cons hj, List.take_append_drop]
  rw [e]
  unfold Strict at h
  rw [e2] at h
  exact strict_key_nil' (fun y hy => (List.pairwise_append.1 h).2.2 y hy _ List.mem_cons_self)
theorem wf_put {p : PRow} {O : List PRow} (hp : p.Wf) (hO : ∀ r ∈ O, r.Wf) : ∀ r ∈ putF p false O, r.Wf := by
  intro r hr
  rcases putF_mem p O r hr with rfl | h
  · exact hp
  · exact hO r h

set_option maxRecDepth 100000 in
set_option maxHeartbeats 2000000 in
theorem rdiff_any (w : World) (s t : SL) (hs : s.Ok w) (ht : t.Ok w) (hsum : s.n + t.n ≤ 5864062014700) (hWs : ∀ r ∈ s.L, r.Wf) (hWt : ∀ r ∈ t.L, r.Wf) :
    Calls Tryd.prog 22 #[s.val, t.val] w fun e w' => ∃ A q c O X Y, e = .returned (.slice A q c) ∧ PNx w w' (.slice A q c) q O ∧ Nrm s.L X ∧ Nrm t.L Y ∧ Strict O ∧ ∀ k, key k O = d2 (key k X) (key k Y) (key k Y) := by
  have HS := hide hs
  have HT := hide ht
  have HWS := hide hWs
  have HWT := hide hWt
  obtain ⟨sA, sn, sc, sL⟩ := s
  obtain ⟨tA, tn, tc, tL⟩ := t
  clear hs ht hWs hWt
  simp only at hsum
  simp only [SL.val]
  go_enter Tryd.func22, Tryd.ntmps22
  go_wp2_with fail
  refine (rnorm_any w sA sn sc sL HS.out.len HS.out.reads (by omega) HWS.out).mono ?_
  rintro e w1 ⟨A6, n6, c6, X, rfl, N6, nr6, h6⟩
  have HN6 := hide N6
  have HNX := hide nr6
  have HX6 := hide N6.len
  clear N6 nr6
  go_wp2_with fail
  refine (rnorm_any w1 tA tn tc tL HT.out.len (HT.out.touch HN6.out.touch).reads (by omega) HWT.out).mono ?_
  rintro e w2 ⟨A7, n7, c7, Y, rfl, N7, nr7, h7⟩
  have HT2 := hide (HN6.out.touch.then N7.touch)
  have HO6 := hide (own_touch HN6.out.own N7.touch (fun _ _ f => f))
  have HO7 := hide N7.own
  have HNY := hide nr7
  have HX7 := hide N7.len
  clear N7 nr7
  have HWX : Hid (∀ r ∈ X, r.Wf) := hide (fun r hr => HWS.out r (HNX.out.mem hr))
  have HWY : Hid (∀ r ∈ Y, r.Wf) := hide (fun r hr => HWT.out r (HNY.out.mem hr))
  obtain ⟨_, _, e6, _, hm6⟩ := own_len HO6.out
  injection e6 with e61 e62 e63
  subst e61 e63
  obtain ⟨_, _, e7, _, hm7⟩ := own_len HO7.out
  injection e7 with e71 e72 e73
  subst e71 e73
  unfold maxLen at hm6 hm7
  clear e62 e72
  have hm6n := own_le HO6.out
  have hm7n := own_le HO7.out
  have HM6 := hide hm6n
  have HM7 := hide hm7n
  clear hm6n hm7n
  go_wp2_with fail
  go_loopw [5, 8] (fun ov iv wr => ∃ (i q : Nat) (A5 : Option Addr) (c5 : Nat), iv = .int .i64 i ∧ ov = .slice A5 q c5 ∧ i ≤ n6 ∧ q ≤ i ∧ Hid (∃ O, PNx w2 wr (.slice A5 q c5) q O ∧ Strict O ∧ (∀ r ∈ O, r.Wf) ∧ ∀ k, key k O = d1 (key k (X.take i)) (key k Y))) (fun _ iv _ => n6 - (intOf iv).toNat)
  case atStart => exact ⟨0, 0, none, 0, rfl, rfl, Nat.zero_le _, Nat.zero_le _, hide ⟨[], ⟨World.ownsRow_nil _ _ _ _, rfl, Touch.refl _ _, fun g e => by simp [Value.ownBlock] at e⟩, List.Pairwise.nil, (fun r hr => by cases hr), fun k => rfl⟩⟩
  case round =>
    obtain ⟨i, q, A5, c5, rfl, rfl, hin', hqi, HE⟩ := hrel
    obtain ⟨O, hN, hO, hWO, hK⟩ := HE.out
    have HN := hide hN
    have HO := hide hO
    have HWO := hide hWO
    have HK := hide hK
    clear hN hO hWO hK HE
    by_cases hin : i < n6
    · have y0 : (i : Int) < (n6 : Int) := by omega
      obtain ⟨gl, ol, hAl, _, l0, l1⟩ := preads_at ((Reads.of_own HO6.out).touch HN.out.touch (fun _ _ f => f)) HX6.out.symm i hin
      subst hAl
      have hsn := psnoc X i (by rw [HX6.out]; exact hin)
      have hwx := HWX.out _ (pgetD_mem X i (by rw [HX6.out]; exact hin))
      obtain ⟨⟨xw, xn⟩, hx⟩ : ∃ x, x = X.getD i PRow.zero := ⟨_, rfl⟩
      rw [← hx] at l0 l1 hsn hwx
      simp only at l0 l1
      have HSN := hide hsn
      have HWXX := hide hwx
      have HRF := hide (rfind_any wr A7 n7 c7 Y HX7.out ((Reads.of_own HO7.out).touch HN.out.touch (fun _ _ f => f)) HM7.out xw)
      clear hsn hwx hx
      obtain ⟨fw, hfw⟩ : ∃ f, f = (findP xw.toList Y).1 := ⟨_, rfl⟩
      obtain ⟨fb, hfb⟩ : ∃ f, f = (findP xw.toList Y).2 := ⟨_, rfl⟩
      rw [← hfw, ← hfb] at HRF
      have HFB := hide hfb
      clear hfw hfb
      go_wp2_with fail
      refine HRF.out.mono ?_
      rintro e w3 ⟨rfl, T3⟩
      have HT3 := hide T3
      have HN3 := hide (HN.out.to T3)
      have l2 := (T3.cell (a := ⟨gl, ol + i * 2, none⟩) (by assumption) (fun f => f)).trans l0
      clear T3
      cases fb with
      | false =>
        have HPU := hide (put_any w3 A5 q c5 O HN3.out.len (Reads.of_own HN3.out.own) (by omega) HWO.out ⟨xw, 0⟩ HWXX.out)
        rw [pval_eq] at HPU
        go_wp2_with fail
        refine HPU.out.mono ?_
        rintro e w4 ⟨A4, q4, c4, rfl, N4, h4⟩
        have HN4 := hide N4
        clear N4
        go_wp2_with fail
        go_roundw
        · have N4 := HN4.out
          obtain ⟨p1, p2⟩ := d1_put (A := X.take i) (B := Y) (x := ⟨xw, xn⟩) HO.out HK.out (find_none HFB.out.symm)
          rw [← HSN.out] at p2
          exact ⟨i + 1, q4, A4, c4, by simp, rfl, by omega, by omega, hide ⟨_, ⟨N4.own, N4.len, HN3.out.touch.then N4.touch, fun g hg => by have h1 := N4.fresh g hg; have h2 := HN3.out.touch.size; omega⟩, p1, wf_put HWXX.out HWO.out, p2⟩⟩
        · show n6 - (intOf (.int .i64 ((i : Int) + 1))).toNat < n6 - (intOf (.int .i64 (i : Int))).toNat
          simp [intOf]
          omega
      | true =>
        go_wp2_with fail
        go_roundw
        · have p2 := d1_skip (A := X.take i) (B := Y) (x := ⟨xw, xn⟩) HK.out (find_some HFB.out.symm)
          rw [← HSN.out] at p2
          exact ⟨i + 1, q, A5, c5, by simp, rfl, by omega, by omega, hide ⟨O, HN3.out, HO.out, HWO.out, p2⟩⟩
        · show n6 - (intOf (.int .i64 ((i : Int) + 1))).toNat < n6 - (intOf (.int .i64 (i : Int))).toNat
          simp [intOf]
          omega
    · have hX : X.take i = X := List.take_of_length_le (by rw [HX6.out]; omega)
      have HXX := hide hX
      have hq6 : q ≤ n6 := by omega
      clear hX hqi
      go_wp2_with fail
      obtain ⟨wo, rfl⟩ : ∃ wo : World, wo = wr := ⟨_, rfl⟩
      go_loopw [5, 11] (fun ov iv wr => ∃ (j q : Nat) (A5 : Option Addr) (c5 : Nat), iv = .int .i64 j ∧ ov = .slice A5 q c5 ∧ j ≤ n7 ∧ q ≤ n6 + j ∧ Hid (∃ O, PNx w2 wr (.slice A5 q c5) q O ∧ Strict O ∧ (∀ r ∈ O, r.Wf) ∧ ∀ k, key k O = d2 (key k X) (key k (Y.take j)) (key k Y))) (fun _ iv _ => n7 - (intOf iv).toNat)
      case atStart => exact ⟨0, q, A5, c5, rfl, rfl, Nat.zero_le _, by omega, hide ⟨O, HN.out, HO.out, HWO.out, fun k => by rw [HK.out k, HXX.out]; rfl⟩⟩
      case round =>
        obtain ⟨j, q, A5, c5, rfl, rfl, hjn, hqj, HE⟩ := hrel
        clear HN HO HWO HK
        obtain ⟨O, hN, hO, hWO, hK⟩ := HE.out
        have HN := hide hN
        have HO := hide hO
        have HWO := hide hWO
        have HK := hide hK
        clear hN hO hWO hK HE
        by_cases hin : j < n7
        · have y0 : (j : Int) < (n7 : Int) := by omega
          obtain ⟨gl, ol, hAl, _, l0, l1⟩ := preads_at ((Reads.of_own HO7.out).touch HN.out.touch (fun _ _ f => f)) HX7.out.symm j hin
          subst hAl
          have hj' : j < Y.length := by rw [HX7.out]; exact hin
          have hsn := psnoc Y j hj'
          have hwx := HWY.out _ (pgetD_mem Y j hj')
          have hkn := strict_take_nil HNY.out.1 hj'
          have hkm := key_mem (pgetD_mem Y j hj')
          obtain ⟨⟨xw, xn⟩, hx⟩ : ∃ x, x = Y.getD j PRow.zero := ⟨_, rfl⟩
          rw [← hx] at l0 l1 hsn hwx hkn hkm
          simp only at l0 l1 hkn hkm
          have HSN := hide hsn
          have HWXX := hide hwx
          have HKN := hide hkn
          have HKM := hide hkm
          have HRF := hide (rfind_any wr A6 n6 c6 X HX6.out ((Reads.of_own HO6.out).touch HN.out.touch (fun _ _ f => f)) HM6.out xw)
          clear hsn hwx hx hkn hkm hj'
          obtain ⟨fp, hfp⟩ : ∃ f, f = findP xw.toList X := ⟨_, rfl⟩
          obtain ⟨fw, fb⟩ := fp
          rw [← hfp] at HRF
          have HFB := hide hfp
          clear hfp
          go_wp2_with fail
          refine HRF.out.mono ?_
          rintro e w3 ⟨rfl, T3⟩
          have HN3 := hide (HN.out.to T3)
          have l2 := (T3.cell (a := ⟨gl, ol + j * 2, none⟩) (by assumption) (fun f => f)).trans l0
          have l3 := (T3.cell (a := ⟨gl, ol + j * 2 + 1, none⟩) (by assumption) (fun f => f)).trans l1
          clear T3
          by_cases hput : fb = false ∨ fw ≠ xn
          · have hd : findP xw.toList X = (0, false) ∨ (findP xw.toList X).1 ≠ xn := by
              rcases hput with h | h
              · exact .inl (find_zero (by rw [← HFB.out]; exact h))
              · exact .inr (by rw [← HFB.out]; exact h)
            have HD := hide hd
            clear hd
            have HPU := hide (put_any w3 A5 q c5 O HN3.out.len (Reads.of_own HN3.out.own) (by omega) HWO.out ⟨xw, xn⟩ HWXX.out)
            rw [pval_eq] at HPU
            have tl : ∀ (A4 : Option Addr) (q4 c4 : Nat) (w4 : World), Hid (PNx w3 w4 (.slice A4 q4 c4) q4 (putF ⟨xw, xn⟩ false O)) → Hid (∃ O, PNx w2 w4 (.slice A4 q4 c4) q4 O ∧ Strict O ∧ (∀ r ∈ O, r.Wf) ∧ ∀ k, key k O = d2 (key k X) (key k (Y.take (j + 1))) (key k Y)) := fun A4 q4 c4 w4 HN4 => by
              have N4 := HN4.out
              obtain ⟨p1, p2⟩ := d2_put (A := X) (B := Y) (Bj := Y.take j) (y := ⟨xw, xn⟩) HO.out HK.out HD.out
              rw [← HSN.out] at p2
              exact hide ⟨_, ⟨N4.own, N4.len, HN3.out.touch.then N4.touch, fun g hg => by have h1 := N4.fresh g hg; have h2 := HN3.out.touch.size; omega⟩, p1, wf_put HWXX.out HWO.out, p2⟩
            have HTL := hide tl
            clear tl
            cases fb with
            | false =>
              clear hput
              go_wp2_with fail
              refine HPU.out.mono ?_
              rintro e w4 ⟨A4, q4, c4, rfl, N4, h4⟩
              have HN4 := hide N4
              clear N4
              go_wp2_with fail
              go_roundw
              · exact ⟨j + 1, q4, A4, c4, by simp, rfl, by omega, by omega, HTL.out _ _ _ _ HN4⟩
              · show n7 - (intOf (.int .i64 ((j : Int) + 1))).toNat < n7 - (intOf (.int .i64 (j : Int))).toNat
                simp [intOf]
                omega
            | true =>
              have hne : ¬ fw = xn := by
                rcases hput with h | h
                · cases h
                · exact h
              have hne2 : (fw == xn) = false := by simp [hne]
              have hne3 : decide (fw = xn) = false := by simp [hne]
              clear hput
              go_wp2_with fail
              refine HPU.out.mono ?_
              rintro e w4 ⟨A4, q4, c4, rfl, N4, h4⟩
              have HN4 := hide N4
              clear N4
              go_wp2_with fail
              go_roundw
              · exact ⟨j + 1, q4, A4, c4, by simp, rfl, by omega, by omega, HTL.out _ _ _ _ HN4⟩
              · show n7 - (intOf (.int .i64 ((j : Int) + 1))).toNat < n7 - (intOf (.int .i64 (j : Int))).toNat
                simp [intOf]
                omega
          · have hb : fb = true := by cases fb <;> simp_all
            have hfw : fw = xn := Classical.byContradiction fun h => hput (.inr h)
            subst hb hfw
            clear hput
            go_wp2_with fail
            go_roundw
            · have p2 := d2_skip (A := X) (B := Y) (Bj := Y.take j) (y := ⟨xw, fw⟩) HK.out HKN.out HKM.out HFB.out.symm
              rw [← HSN.out] at p2
              exact ⟨j + 1, q, A5, c5, by simp, rfl, by omega, by omega, hide ⟨O, HN3.out, HO.out, HWO.out, p2⟩⟩
            · show n7 - (intOf (.int .i64 ((j : Int) + 1))).toNat < n7 - (intOf (.int .i64 (j : Int))).toNat
              simp [intOf]
              omega
        · have hX : Y.take j = Y := List.take_of_length_le (by rw [HX7.out]; omega)
          have HYY := hide hX
          clear hX
          go_wp2
          go_ret
          have hK := HK.out
          rw [HYY.out] at hK
          have hN := HN.out
          exact ⟨A5, q, c5, O, X, Y, rfl, ⟨hN.own, hN.len, HT2.out.then hN.touch, fun b hb => by have h1 := hN.fresh b hb; have h2 := HT2.out.size; omega⟩, HNX.out, HNY.out, HO.out, hK⟩

end Go.Proofs.YtdjlcgldplndiaaDoor
