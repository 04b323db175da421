/- pairs.ordered. No condition but that there are no more than 2^40 pairs. -/
import Derived.Test.YtdjlcgldplndiaaDoorConcat
import Derived.Test.YtdjlcgldplndiaaDoorOrdP
import Derived.Deep.CutRange
namespace Go.Proofs.YtdjlcgldplndiaaDoor
open Go.RowKit

theorem dd_step (Z : List PRow) (i : Nat) (hi : i < Z.length) : dd (Z.drop i) = if diffs (Z.getD i PRow.zero) (Z.drop (i + 1)) then Z.getD i PRow.zero :: dd (Z.drop (i + 1)) else dd (Z.drop (i + 1)) := by
  have e : Z.drop i = Z[i] :: Z.drop (i + 1) := List.drop_eq_getElem_cons hi
  have e2 : Z.getD i PRow.zero = Z[i] := by simp [List.getD, hi]
  rw [e, e2, dd]

set_option maxRecDepth 100000 in
set_option maxHeartbeats 2000000 in
theorem ordered_any (w : World) (A0 : Option Addr) (k c0 : Nat) (Ss : List SL) (hk : Ss.length = k) (hR : Reads w 1 A0 k (Ss.map SL.val)) (hok : ∀ s ∈ Ss, s.Ok w) (hsum : sumN Ss ≤ 5864062014700) (hk2 : k ≤ 5864062014700) :
    Calls Tryd.prog 28 #[.slice A0 k c0] w fun e w' => ∃ A n c Y, e = .returned (.slice A n c) ∧ POwn w' A n c Y ∧ Nrm (Ss.flatMap SL.L) Y ∧ Touch (fun _ => False) w w' ∧ n ≤ sumN Ss ∧ (A = none → n = 0 ∧ c = 0) ∧ ∀ g, adBlock A = some g → w.heap.size ≤ g := by
  obtain ⟨i0, hi, hz0, hz1, hz2⟩ := info_parts infoPair
  obtain ⟨X, hX⟩ : ∃ X, X = Ss.flatMap SL.L := ⟨_, rfl⟩
  obtain ⟨N, hN⟩ : ∃ N, N = sumN Ss := ⟨_, rfl⟩
  have HCO := hide (concat_any w A0 k c0 Ss hk hR hok hsum hk2)
  rw [← hX, ← hN] at HCO
  rw [← hX, ← hN]
  rw [← hN] at hsum
  clear hk hR hok hk2 hX hN
  go_enter Tryd.func28, Tryd.ntmps28
  go_wp2_with fail
  refine HCO.out.mono ?_
  rintro e w1 ⟨A1, n, c1, rfl, O1, T1, hnn, hnil1, F1⟩
  have hn : n ≤ 5864062014700 := by omega
  have HO1 := hide O1
  have HT1 := hide T1
  have HF1 := hide F1
  have HNN := hide hnn
  have HSF := hide (sortfunc_any w1 A1 n c1 X O1 hn)
  clear O1 T1 F1 hnn hnil1 HCO
  go_wp2_with fail
  refine HSF.out.mono ?_
  rintro e w2 ⟨rfl, ⟨Z, O2, s2, k2⟩, T2⟩
  have HO2 := hide O2
  have HZS := hide s2
  have HZK := hide k2
  have HT2 := hide (HT1.out.trans T2 (fun i hi hp => by have := HF1.out i hp; omega))
  clear O2 s2 k2 T2 HSF
  go_wp2_with fail
  go_loopw [4, 13] (fun rv iv wr => ∃ i q : Nat, iv = .int .i64 i ∧ i ≤ n ∧ q ≤ i ∧ Hid (∃ O, wr.ownsRow 0 29 2 rv q (pCells O) ∧ O ++ dd (Z.drop i) = dd Z) ∧ Hid (Touch (fun _ => False) w2 wr) ∧ Hid (∀ g, rv.ownBlock = some g → w2.heap.size ≤ g)) (fun _ iv _ => n - (intOf iv).toNat)
  case atStart => exact ⟨0, 0, rfl, Nat.zero_le _, Nat.zero_le _, hide ⟨[], World.ownsRow_nil _ _ _ _, rfl⟩, hide (Touch.refl _ _), hide (fun g e => by simp [Value.ownBlock] at e)⟩
  case round =>
    obtain ⟨i, q, rfl, hin, hqi, HE, HT, HF⟩ := hrel
    have HZ := hide (own_touch HO2.out HT.out (fun _ _ f => f))
    by_cases h0 : i < n
    · have y0 : (i : Int) < (n : Int) := by omega
      have hzl := pown_len HO2.out
      obtain ⟨g, rfl, hg, a0, a1, _, _⟩ := pown_at HZ.out hzl i h0
      have hst := dd_step Z i (by omega)
      obtain ⟨⟨xw, xn⟩, hx⟩ : ∃ r, r = Z.getD i PRow.zero := ⟨_, rfl⟩
      rw [← hx] at a0 a1 hst
      simp only at a0 a1
      obtain ⟨O, O3, hO⟩ := HE.out
      obtain ⟨A4, c4, rfl, _, hm4⟩ := own_len O3
      unfold maxLen at hm4
      have HO3 := hide O3
      have HOE := hide hO
      have HST := hide hst
      obtain ⟨j, hj⟩ : ∃ j, j = i + 1 := ⟨_, rfl⟩
      have y1 : (i : Int) + 1 = (j : Int) := by omega
      have y2 : IntKind.i64.wrap (j : Int) = (j : Int) := IntWalk.i64_in _ (by omega)
      have HJ := hide hj
      obtain ⟨p, hp⟩ : ∃ p, p = wr.heap.size := ⟨_, rfl⟩
      have HPP := hide hp
      have hjn : j ≤ n := by omega
      obtain ⟨wa, hwa⟩ : ∃ wa, wa = wr.alloc (.cells #[.string xw, .int .i64 xn] 29) := ⟨_, rfl⟩
      have ta : Touch (fun _ => False) wr wa := by rw [hwa]; exact (Touch.refl _ _).alloc _
      have ba : Blk wa p 29 #[.string xw, .int .i64 xn] := by rw [hwa, hp]; exact Blk.new _ _ _
      have HTA := hide ta
      have HBA := hide ba
      have HWA := hide hwa
      have hcase : (j = n ∧ diffs ⟨xw, xn⟩ (Z.drop j)) ∨ ∃ yw yn, j < n ∧ (⟨yw, yn⟩ : PRow) = Z.getD j PRow.zero ∧ ((¬ yw.toList = xw.toList ∧ diffs ⟨xw, xn⟩ (Z.drop j)) ∨ (yw.toList = xw.toList ∧ ¬ diffs ⟨xw, xn⟩ (Z.drop j))) := by
        by_cases hj2 : j = n
        · left
          refine ⟨hj2, ?_⟩
          rw [List.drop_of_length_le (by omega)]
          trivial
        · right
          have e : Z.drop j = Z[j]'(by omega) :: Z.drop (j + 1) := List.drop_eq_getElem_cons (by omega)
          have e2 : Z.getD j PRow.zero = Z[j]'(by omega) := by simp [List.getD, show j < Z.length by omega]
          refine ⟨(Z.getD j PRow.zero).word, (Z.getD j PRow.zero).weight, by omega, rfl, ?_⟩
          rw [e, e2]
          by_cases hq : (Z[j]'(by omega)).word.toList = xw.toList
          · exact .inr ⟨hq, fun hd => hd hq⟩
          · exact .inl ⟨hq, hq⟩
      clear O3 hO hst HE hj hwa ta ba hx hp
      rcases hcase with ⟨h1, hd⟩ | ⟨yw, yn, h1, hy, hd⟩
      · have HDI := hide hd
        have HJN := hide h1
        have x1 : ((j : Int) == (n : Int)) = true := by simp [h1]
        have x2 : (j == n) = true := by simp [h1]
        clear hd h1 hzl
        go_upto_region 7 with fail
        rw [← HWA.out, ← HPP.out]
        obtain ⟨e0, e1⟩ : wa.cell? ⟨p, 0, none⟩ = some (.string xw) ∧ wa.cell? ⟨p, 1, none⟩ = some (.int .i64 xn) := ⟨HBA.out.cell 0, HBA.out.cell 1⟩
        go_quiet (fail)
        obtain ⟨wb, hwb⟩ : ∃ wb, wb = wa.drewN nq := ⟨_, rfl⟩
        have tb : Touch (fun _ => False) wa wb := by rw [hwb]; exact (Touch.refl _ _).drewN _
        rw [← hwb]
        have hbb := HBA.out.touch tb (fun f => f)
        have HTB := hide (HTA.out.then tb)
        obtain ⟨e2, e3⟩ : wb.cell? ⟨p, 0, none⟩ = some (.string xw) ∧ wb.cell? ⟨p, 1, none⟩ = some (.int .i64 xn) := ⟨hbb.cell 0, hbb.cell 1⟩
        clear hwb tb hbb e0 e1
        go_wp2_with (at_builtin; refine wpList_app _ rfl (.tmp 34) (.tmp 36) 22 rfl 29 i0 _ 2 24 Tryd.underlying22 hi hz0 hz1 hz2 rfl (by decide) (.slice A4 q c4) q _ rfl (own_touch HO3.out (HTB.out.alloc _) (fun _ _ f => f)) (some ⟨_, 0, none⟩) 1 1 (PRow.cells ⟨xw, xn⟩) rfl ?s1 ?s2 ?s3 ?s4 ?s5 ?_)
        case s1 => exact Reads.new _ _ _ _ rfl
        try (case s2 => exact fun h => by cases h)
        case s3 => exact List.all_eq_true.1 rfl
        case s4 => unfold maxLen; omega
        case s5 => omega
        intro v2 w3 O5 G5 F5 _
        have T5 := ((HT.out.then HTB.out).alloc (.cells #[.string xw, .int .i64 xn] 29)).app G5 (fun g hg hlt => by have := HF.out g hg; omega)
        have hF5 : ∀ g, v2.ownBlock = some g → w2.heap.size ≤ g := by
          intro g hg
          rcases F5 with e | ⟨g', e, hg'⟩
          · rw [e] at hg; exact HF.out g hg
          · rw [hg] at e
            injection e with e
            have h1 := HT.out.size
            have h2 := HTB.out.size
            simp at hg'
            omega
        have HO5 := hide O5
        have HT5 := hide T5
        have HF5 := hide hF5
        clear O5 T5 hF5 G5 F5
        go_wp2
        go_roundw
        · refine ⟨j, q + 1, rfl, hjn, by have := HJ.out; omega, hide ⟨O ++ [⟨xw, xn⟩], ?_, ?_⟩, HT5, HF5⟩
          · have := HO5.out
            rw [pCells_app]
            simpa [pCells] using this
          · have hs := HST.out
            rw [← HJ.out, if_pos HDI.out] at hs
            rw [← HOE.out, hs, List.append_assoc]
            rfl
        · have := HJ.out
          show n - (j : Int).toNat < n - (i : Int).toNat
          omega
      · obtain ⟨g', hA, _, b0, b1, _, _⟩ := pown_at HZ.out hzl j h1
        injection hA with hA
        injection hA with hA _
        subst hA
        rw [← hy] at b0 b1
        simp only at b0 b1
        have x1 : ((j : Int) == (n : Int)) = false := by simp; omega
        have x2 : (j == n) = false := by simp; omega
        have HY := hide hy
        clear hy hzl
        rcases hd with ⟨q1, hd⟩ | ⟨q1, hd⟩
        · have HDI := hide hd
          have q2 : (yw.toList == xw.toList) = false := by simp [q1]
          have q3 : decide (yw.toList = xw.toList) = false := by simp [q1]
          have q4 : ¬ yw = xw := fun e => q1 (by rw [e])
          have q5 : decide (yw = xw) = false := by simp [q4]
          clear hd
          go_upto_region 7 with fail
          rw [← HWA.out, ← HPP.out]
          obtain ⟨e0, e1⟩ : wa.cell? ⟨p, 0, none⟩ = some (.string xw) ∧ wa.cell? ⟨p, 1, none⟩ = some (.int .i64 xn) := ⟨HBA.out.cell 0, HBA.out.cell 1⟩
          have b0' := (HTA.out.cell (a := ⟨g, j * 2, none⟩) hg (fun f => f)).trans b0
          go_quiet (fail)
          obtain ⟨wb, hwb⟩ : ∃ wb, wb = wa.drewN nq := ⟨_, rfl⟩
          have tb : Touch (fun _ => False) wa wb := by rw [hwb]; exact (Touch.refl _ _).drewN _
          rw [← hwb]
          have hbb := HBA.out.touch tb (fun f => f)
          have HTB := hide (HTA.out.then tb)
          obtain ⟨e2, e3⟩ : wb.cell? ⟨p, 0, none⟩ = some (.string xw) ∧ wb.cell? ⟨p, 1, none⟩ = some (.int .i64 xn) := ⟨hbb.cell 0, hbb.cell 1⟩
          clear hwb tb hbb e0 e1
          go_wp2_with (at_builtin; refine wpList_app _ rfl (.tmp 34) (.tmp 36) 22 rfl 29 i0 _ 2 24 Tryd.underlying22 hi hz0 hz1 hz2 rfl (by decide) (.slice A4 q c4) q _ rfl (own_touch HO3.out (HTB.out.alloc _) (fun _ _ f => f)) (some ⟨_, 0, none⟩) 1 1 (PRow.cells ⟨xw, xn⟩) rfl ?s1 ?s2 ?s3 ?s4 ?s5 ?_)
          case s1 => exact Reads.new _ _ _ _ rfl
          try (case s2 => exact fun h => by cases h)
          case s3 => exact List.all_eq_true.1 rfl
          case s4 => unfold maxLen; omega
          case s5 => omega
          intro v2 w3 O5 G5 F5 _
          have T5 := ((HT.out.then HTB.out).alloc (.cells #[.string xw, .int .i64 xn] 29)).app G5 (fun g hg hlt => by have := HF.out g hg; omega)
          have hF5 : ∀ g, v2.ownBlock = some g → w2.heap.size ≤ g := by
            intro g hg
            rcases F5 with e | ⟨g', e, hg'⟩
            · rw [e] at hg; exact HF.out g hg
            · rw [hg] at e
              injection e with e
              have h1 := HT.out.size
              have h2 := HTB.out.size
              simp at hg'
              omega
          have HO5 := hide O5
          have HT5 := hide T5
          have HF5 := hide hF5
          clear O5 T5 hF5 G5 F5
          go_wp2
          go_roundw
          · refine ⟨j, q + 1, rfl, hjn, by have := HJ.out; omega, hide ⟨O ++ [⟨xw, xn⟩], ?_, ?_⟩, HT5, HF5⟩
            · have := HO5.out
              rw [pCells_app]
              simpa [pCells] using this
            · have hs := HST.out
              rw [← HJ.out, if_pos HDI.out] at hs
              rw [← HOE.out, hs, List.append_assoc]
              rfl
          · have := HJ.out
            show n - (j : Int).toNat < n - (i : Int).toNat
            omega
        · have HDI := hide hd
          clear hd
          go_upto_region 7 with fail
          rw [← HWA.out, ← HPP.out]
          obtain ⟨e0, e1⟩ : wa.cell? ⟨p, 0, none⟩ = some (.string xw) ∧ wa.cell? ⟨p, 1, none⟩ = some (.int .i64 xn) := ⟨HBA.out.cell 0, HBA.out.cell 1⟩
          have b0' := (HTA.out.cell (a := ⟨g, j * 2, none⟩) hg (fun f => f)).trans b0
          go_quiet (fail)
          obtain ⟨wb, hwb⟩ : ∃ wb, wb = wa.drewN nq := ⟨_, rfl⟩
          have tb : Touch (fun _ => False) wa wb := by rw [hwb]; exact (Touch.refl _ _).drewN _
          rw [← hwb]
          have hbb := HBA.out.touch tb (fun f => f)
          have HTB := hide (HTA.out.then tb)
          obtain ⟨e2, e3⟩ : wb.cell? ⟨p, 0, none⟩ = some (.string xw) ∧ wb.cell? ⟨p, 1, none⟩ = some (.int .i64 xn) := ⟨hbb.cell 0, hbb.cell 1⟩
          clear hwb tb hbb e0 e1
          go_wp2
          go_roundw
          · refine ⟨j, q, rfl, hjn, by have := HJ.out; omega, hide ⟨O, own_touch HO3.out HTB.out (fun _ _ f => f), ?_⟩, hide (HT.out.then HTB.out), HF⟩
            have hs := HST.out
            rw [← HJ.out, if_neg HDI.out] at hs
            rw [← HOE.out, hs]
          · have := HJ.out
            show n - (j : Int).toNat < n - (i : Int).toNat
            omega
    · have hin' : Z.drop i = [] := List.drop_of_length_le (by have := pown_len HO2.out; omega)
      obtain ⟨O, O3, hO⟩ := HE.out
      rw [hin'] at hO
      simp only [dd, List.append_nil] at hO
      subst hO
      obtain ⟨A4, c4, rfl, _, _⟩ := own_len O3
      have HO3 := hide O3
      clear O3 HE hin'
      go_wp2
      go_ret
      refine ⟨A4, q, c4, dd Z, rfl, HO3.out, (dd_nrm Z HZS.out).of_same HZK.out.symm, HT2.out.then HT.out, by have := HNN.out; omega, ?_, ?_⟩
      · rintro rfl
        rcases HO3.out.2 with ⟨e, _⟩ | ⟨g, cap, cur, e, _⟩
        · injection e with _ e1 e2
          exact ⟨e1, e2⟩
        · cases e
      · intro g hg
        have h1 := HF.out g (by rw [← hg]; cases A4 <;> rfl)
        have h2 := HT2.out.size
        omega

end Go.Proofs.YtdjlcgldplndiaaDoor
