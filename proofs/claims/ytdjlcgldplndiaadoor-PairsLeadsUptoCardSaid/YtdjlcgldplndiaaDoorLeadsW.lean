/- PairsLeads: the plain law and the walk. -/
import Derived.Test.YtdjlcgldplndiaaDoorDiffW
namespace Go.Proofs.YtdjlcgldplndiaaDoor
open Go.RowKit

theorem key_word {k : List UInt8} {l : List PRow} {p : PRow} (h : p ∈ key k l) : p.word.toList = k ∧ p ∈ l := by
  simp only [key, List.mem_filter, decide_eq_true_eq] at h
  exact ⟨h.2, h.1⟩

/-- The changes from one list to another one, laid over the first, give the second, if that has no weight of 0. -/
theorem leads_list {a b X Y O M : List PRow} (hX : Nrm a X) (hY : Nrm b Y) (hk : ∀ k, key k O = d2 (key k X) (key k Y) (key k Y)) (hM : Nrm (a ++ O) M) (h0 : ∀ p ∈ Y, p.weight ≠ 0) : M.filter keepP = Y := by
  refine strict_unique (hM.1.sublist List.filter_sublist) hY.1 fun k => ?_
  rw [key_filter, hM.2, key_app, hk]
  have hx := hX.2 k
  have hy := hY.2 k
  cases hb : (key k b).getLast? with
  | none =>
    rw [hb] at hy
    simp only [Option.toList_none] at hy
    rw [hy]
    cases ha : (key k a).getLast? with
    | none =>
      rw [ha] at hx
      simp only [Option.toList_none] at hx
      rw [hx]
      simp [d2, d1, ha]
    | some p =>
      rw [ha] at hx
      simp only [Option.toList_some] at hx
      rw [hx]
      simp [d2, d1, keepP]
  | some q =>
    rw [hb] at hy
    simp only [Option.toList_some] at hy
    have hq : q ∈ key k Y := by rw [hy]; exact List.mem_singleton.2 rfl
    have hqw := key_word hq
    have hq0 := h0 q hqw.2
    rw [hy]
    cases ha : (key k a).getLast? with
    | none =>
      rw [ha] at hx
      simp only [Option.toList_none] at hx
      rw [hx]
      simp [d2, keepP, hq0]
    | some p =>
      have hp := key_word (List.mem_of_getLast? ha)
      rw [ha] at hx
      simp only [Option.toList_some] at hx
      rw [hx]
      by_cases hw : p.weight = q.weight
      · have e : p = q := by
          obtain ⟨pw, pn⟩ := p
          obtain ⟨qw, qn⟩ := q
          simp only at hw hp hqw
          rw [hw, toList_inj (hp.1.trans hqw.1.symm)]
        subst e
        simp [d2, ha, keepP, hq0]
      · simp [d2, hw, keepP, hq0]

set_option maxRecDepth 100000 in
set_option maxHeartbeats 2000000 in
theorem leads_walk (W : World) (s t : SL) (hs : s.Ok W) (ht : t.Ok W) (hsum : s.n + s.n + t.n ≤ 5864062014700) (hWt : ∀ r ∈ t.L, r.Wf) :
    Calls Tryd.prog 10 #[s.val, t.val] W fun e W' => e = .returned (.bool true) ∧ Below W.heap.size W W' := by
  have HS := hide hs
  have HT := hide ht
  have hst : s.n + t.n ≤ 5864062014700 := by omega
  have hRN := rnorm_any W t.A t.n t.c t.L ht.len ht.reads (by omega) hWt
  have HRN := hide hRN
  obtain ⟨sA, sn, sc, sL⟩ := s
  obtain ⟨tA, tn, tc, tL⟩ := t
  clear hs ht hWt hRN
  simp only at hsum hst HRN
  simp only [SL.val]
  go_enter Tryd.func10, Tryd.ntmps10
  go_wp2_with fail
  refine HRN.out.mono ?_
  rintro e w1 ⟨A1, n1, c1, Y, rfl, N1, hY, hq1⟩
  have HN1 := hide N1
  have HY := hide hY
  have HT1 := hide N1.touch
  have HR1 := hide (Reads.of_own N1.own)
  have HL1 := hide N1.len
  clear N1 hY HRN
  have hn1 : n1 ≤ 5864062014700 := by omega
  go_wp2_with fail
  go_loopw [10] (fun iv wr => ∃ (i : Nat), iv = .int .i64 i ∧ i ≤ n1 ∧ Hid (Touch (fun _ => False) w1 wr) ∧ Hid (∀ j, j < i → (Y.getD j PRow.zero).weight ≠ 0)) (fun iv _ => n1 - (intOf iv).toNat)
  case atStart => exact ⟨0, rfl, Nat.zero_le _, hide (Touch.refl _ _), hide (fun j hj => by omega)⟩
  case round =>
    obtain ⟨i, rfl, hin', HTR, HZ⟩ := hrel
    by_cases hin : i < n1
    · have y0 : (i : Int) < (n1 : Int) := by omega
      obtain ⟨gl, ol, hAl, _, l0, l1⟩ := preads_at (HR1.out.touch HTR.out (fun _ _ f => f)) HL1.out.symm i hin
      subst hAl
      obtain ⟨⟨xw, xn⟩, hx⟩ : ∃ x, x = Y.getD i PRow.zero := ⟨_, rfl⟩
      rw [← hx] at l0 l1
      simp only at l0 l1
      have HX := hide hx
      clear hx
      by_cases hz : xn = 0
      · subst hz
        go_wp2_with fail
        refine (alive_any _).mono ?_
        rintro e w2 ⟨rfl, T2⟩
        have H2 := hide (((HT1.out.then HTR.out).alloc _).then T2)
        clear T2
        go_wp2
        go_ret
        exact ⟨rfl, H2.out.below (Nat.le_refl _) (fun _ _ f => f)⟩
      · have hz1 : (xn == 0) = false := by simp [hz]
        have hz2 : decide (xn = 0) = false := by simp [hz]
        go_wp2_with fail
        go_roundw
        · refine ⟨i + 1, by simp, by omega, hide (HTR.out.alloc _), hide (fun j hj => ?_)⟩
          by_cases hj2 : j = i
          · subst hj2
            rw [← HX.out]
            exact hz
          · exact HZ.out j (by omega)
        · show n1 - (intOf (.int .i64 ((i : Int) + 1))).toNat < n1 - (intOf (.int .i64 (i : Int))).toNat
          simp [intOf]
          omega
    · have hall : ∀ p ∈ Y, p.weight ≠ 0 := by
        intro p hp
        obtain ⟨j, hj, rfl⟩ := List.getElem_of_mem hp
        have h1 := HZ.out j (by have := HL1.out; omega)
        have e : Y.getD j PRow.zero = Y[j] := by simp [List.getD, hj]
        rw [e] at h1
        exact h1
      have HALL := hide hall
      have H1 := hide (HT1.out.then HTR.out)
      clear hall
      go_wp2_with fail
      refine (alive_any wr).mono ?_
      rintro e w3 ⟨rfl, T3⟩
      have H3 := hide (H1.out.then T3)
      have HTR3 := hide (HTR.out.then T3)
      clear T3
      go_wp2_with fail
      refine (pdiff_any w3 ⟨sA, sn, sc, sL⟩ ⟨tA, tn, tc, tL⟩ (HS.out.touch H3.out) (HT.out.touch H3.out) hst).mono ?_
      rintro e w4 ⟨A4, n4, c4, O, X, Y', rfl, N4, nx, ny, so, ko, hq4, hnil⟩
      have hY : Y' = Y := ny.unique HY.out
      subst hY
      have hok4 : SL.Ok ⟨A4, n4, c4, O⟩ w4 := ⟨N4.len, Reads.of_own N4.own, hnil⟩
      have H4 := hide (H3.out.then N4.touch)
      have HX := hide nx
      have HKO := hide ko
      have HPM := hide (pmerge_any w4 ⟨sA, sn, sc, sL⟩ ⟨A4, n4, c4, O⟩ (HS.out.touch H4.out) hok4 (by simp only at hq4 ⊢; omega))
      simp only [SL.val] at HPM
      clear N4 nx ny so ko hok4 hnil
      go_wp2_with fail
      refine HPM.out.mono ?_
      rintro e w5 ⟨A5, n5, c5, M, rfl, O5, N5, T5, _, _, _⟩
      have hM : M.filter keepP = Y' := leads_list HX.out HY.out HKO.out N5 HALL.out
      rw [hM] at O5
      have H5 := hide (H4.out.then T5)
      have HO5 := hide O5
      clear O5 N5 T5 HPM hM
      go_wp2_with fail
      refine (pnorm_any w5 ⟨tA, tn, tc, tL⟩ (HT.out.touch H5.out) (by simp only; omega)).mono ?_
      rintro e w6 ⟨A6, n6, c6, Z, rfl, O6, N6, T6, _, _, _⟩
      have hZ : Z = Y' := N6.unique HY.out
      subst hZ
      have hl : n6 = n5 := (pown_len O6).trans (pown_len HO5.out).symm
      subst hl
      have H6 := hide (H5.out.then T6)
      have HO6 := hide O6
      have HO56 := hide (own_touch HO5.out T6 (fun _ _ f => f))
      clear O6 N6 T6
      go_wp2_with fail
      refine (psame_yes w6 A5 n6 c5 _ (pown_len HO56.out).symm (Reads.of_own HO56.out) (own_le HO56.out) A6 c6 (Reads.of_own HO6.out)).mono ?_
      rintro e w7 ⟨rfl, T7⟩
      have H7 := hide (H6.out.then T7)
      clear T7
      go_wp2
      go_ret
      exact ⟨rfl, H7.out.below (Nat.le_refl _) (fun _ _ f => f)⟩

end Go.Proofs.YtdjlcgldplndiaaDoor
