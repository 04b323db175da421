/- slices.DeleteFunc for the pairs of weight 0. No condition but that the row is the program's own. -/
import Derived.Test.YtdjlcgldplndiaaDoorDelete
namespace Go.Proofs.YtdjlcgldplndiaaDoor
open Go.RowKit

set_option maxRecDepth 100000 in
set_option maxHeartbeats 2000000 in
theorem delete_any (w : World) (A : Option Addr) (n c : Nat) (X : List PRow) (h : POwn w A n c X) :
    Calls Tryd.prog 27 #[.slice A n c, delF] w fun e w' => ∃ m, m ≤ n ∧ e = .returned (.slice A m c) ∧ POwn w' A m c (X.filter keepP) ∧ Touch (fun g => adBlock A = some g) w w' := by
  have hn := own_le h
  have hnc : n ≤ c ∧ c ≤ maxLen := by
    obtain ⟨A', c', e, h1, h2⟩ := own_len h
    injection e with _ _ e3
    subst e3
    exact ⟨by omega, h2⟩
  obtain ⟨hnc, hcm⟩ := hnc
  unfold maxLen at hn hcm
  have HO := hide h
  have HL := hide (pown_len h)
  have HIX := hide (index_any w A n c X h)
  clear h
  go_enter Tryd.func27, Tryd.ntmps27
  go_wp2_with fail
  refine HIX.out.mono ?_
  rintro e w1 ⟨⟨rfl, hf⟩ | ⟨i, hi, rfl, hf, hz⟩, T1⟩
  · have HF := hide hf
    have HO1 := hide (own_touch HO.out T1 (fun _ _ f => f))
    have HT := hide T1
    clear hf T1
    go_wp2
    go_ret
    exact ⟨n, Nat.le_refl _, rfl, by rw [HF.out]; exact HO1.out, HT.out.up _⟩
  · have HF := hide hf
    have HZ := hide hz
    have HO1 := hide (own_touch HO.out T1 (fun _ _ f => f))
    have HT := hide T1
    have x0 : ((i : Int) == -1) = false := by simp
    have x1 : ¬ ((i : Int) = -1) := by omega
    have x2 : (i : Int) < (n : Int) := by omega
    clear hf hz T1
    obtain ⟨wo, hwo⟩ : ∃ wo, wo = w1 := ⟨_, rfl⟩
    rw [← hwo] at HO1 HT ⊢
    clear hwo
    go_wp2
    go_loopw [5, 6] (fun iv jv wr => ∃ i j : Nat, iv = .int .i64 i ∧ jv = .int .i64 j ∧ i < j ∧ j ≤ n ∧ Hid (∃ Y, POwn wr A n c Y ∧ Y.take i = (X.take j).filter keepP ∧ Y.drop j = X.drop j) ∧ Hid (Touch (fun g => adBlock A = some g) w wr)) (fun _ jv _ => n - (intOf jv).toNat)
    case atStart =>
      refine ⟨i, i + 1, rfl, by simp, by omega, by omega, hide ⟨X, HO1.out, ?_, rfl⟩, hide (HT.out.up _)⟩
      have hlt : i < X.length := by rw [← HL.out]; exact hi
      have e2 : X.getD i PRow.zero = X[i] := by simp [List.getD, hlt]
      have hz := HZ.out
      rw [e2] at hz
      rw [List.take_succ_eq_append_getElem hlt, List.filter_append, HF.out]
      have e : keepP X[i] = false := by unfold keepP; rw [hz]; rfl
      simp [e]
    case round =>
      obtain ⟨i2, j, rfl, rfl, hij, hjn, HE, HT2⟩ := hrel
      by_cases h0 : j < n
      · have y0 : (j : Int) < (n : Int) := by omega
        obtain ⟨Y, O2, e1, e2⟩ := HE.out
        have hyl := pown_len O2
        obtain ⟨g, hA, hg, a0, a1, _, _⟩ := pown_at O2 hyl j h0
        subst hA
        obtain ⟨g', hA', _, b0, b1, f0, f1⟩ := pown_at O2 hyl i2 (by omega)
        injection hA' with hA'
        injection hA' with hA' _
        subst hA'
        have hltX : j < X.length := by rw [← HL.out]; exact h0
        have hltY : j < Y.length := by omega
        have hxy : Y.getD j PRow.zero = X.getD j PRow.zero := by
          have := congrArg (fun l => l.getD 0 PRow.zero) e2
          simpa [List.getD] using this
        have hdr : Y.drop (j + 1) = X.drop (j + 1) := by
          have := congrArg (List.drop 1) e2
          simpa using this
        have htk : X.take (j + 1) = X.take j ++ [X.getD j PRow.zero] := by
          have e3 : X.getD j PRow.zero = X[j] := by simp [List.getD, hltX]
          rw [List.take_succ_eq_append_getElem hltX, e3]
        rw [hxy] at a0 a1
        obtain ⟨⟨xw, xn⟩, hx⟩ : ∃ r, r = X.getD j PRow.zero := ⟨_, rfl⟩
        rw [← hx] at a0 a1 htk
        obtain ⟨⟨zw, zn⟩, hz⟩ : ∃ r, r = Y.getD i2 PRow.zero := ⟨_, rfl⟩
        rw [← hz] at b0 b1
        simp only at a0 a1 b0 b1
        have HO2 := hide O2
        have HEE := hide (And.intro e1 (And.intro hdr (And.intro htk hyl)))
        obtain ⟨p, hp⟩ : ∃ p, p = wr.heap.size := ⟨_, rfl⟩
        obtain ⟨wa, hwa⟩ : ∃ wa, wa = wr.alloc (.cells #[.string xw, .int .i64 xn] 29) := ⟨_, rfl⟩
        have ta : Touch (fun _ => False) wr wa := by rw [hwa]; exact (Touch.refl _ _).alloc _
        have ba : Blk wa p 29 #[.string xw, .int .i64 xn] := by rw [hwa, hp]; exact Blk.new _ _ _
        have HTA := hide ta
        have HBA := hide ba
        have HWA := hide hwa
        have HPP := hide hp
        have x3 : i2 < n := by omega
        have x4 : (i2 : Int) < (n : Int) := by omega
        clear O2 e1 e2 hxy hdr htk hx hz HE hltX hltY ta ba hwa hp hyl
        by_cases hq : xn = 0
        · have q1 : (xn == 0) = true := by simp [hq]
          have HQ := hide q1
          clear hq q1
          go_wp2_with fail
          rw [← HWA.out]
          refine (zero_any ⟨xw, xn⟩ wa).mono ?_
          rw [show ((⟨xw, xn⟩ : PRow).weight == 0) = true from HQ.out]
          rintro e w2 ⟨rfl, T2⟩
          have HTC := hide (HTA.out.then T2)
          clear T2
          go_wp2_with fail
          go_roundw
          · obtain ⟨e1, hdr, htk, hyl⟩ := HEE.out
            refine ⟨i2, j + 1, rfl, by simp, by omega, by omega, hide ⟨Y, own_touch HO2.out HTC.out (fun _ _ f => f), ?_, hdr⟩, hide (HT2.out.then (HTC.out.up _))⟩
            rw [htk, List.filter_append, e1]
            have e : keepP ⟨xw, xn⟩ = false := by unfold keepP; rw [show ((⟨xw, xn⟩ : PRow).weight == 0) = true from HQ.out]; rfl
            simp [e]
          · show n - (intOf (.int .i64 ((j : Int) + 1))).toNat < n - (intOf (.int .i64 (j : Int))).toNat
            simp [intOf]
            omega
        · have q1 : (xn == 0) = false := by simp [hq]
          have HQ := hide q1
          clear hq q1
          go_wp2_with fail
          rw [← HWA.out, ← HPP.out]
          refine (zero_any ⟨xw, xn⟩ wa).mono ?_
          rw [show ((⟨xw, xn⟩ : PRow).weight == 0) = false from HQ.out]
          rintro e w2 ⟨rfl, T2⟩
          have HTC := hide (HTA.out.then T2)
          have hb2 := HBA.out.touch T2 (fun f => f)
          obtain ⟨c0, c1⟩ : w2.cell? ⟨p, 0, none⟩ = some (.string xw) ∧ w2.cell? ⟨p, 1, none⟩ = some (.int .i64 xn) := ⟨hb2.cell 0, hb2.cell 1⟩
          have O3 := own_touch HO2.out HTC.out (fun _ _ f => f)
          obtain ⟨g', hA', hg2, d0, d1, k0, k1⟩ := pown_at O3 (pown_len O3) i2 x3
          injection hA' with hA'
          injection hA' with hA' _
          subst hA'
          have HO3 := hide O3
          clear T2 hb2 O3 a0 a1 b0 b1 f0 f1
          go_wp2_with fail
          go_roundw
          · obtain ⟨e1, hdr, htk, hyl⟩ := HEE.out
            have HS := pown_set2 HO3.out i2 ⟨xw, xn⟩
            refine ⟨i2 + 1, j + 1, by simp, by simp, by omega, by omega, hide ⟨Y.set i2 ⟨xw, xn⟩, HS, ?_, ?_⟩, hide ?_⟩
            · rw [htk, List.filter_append, ← e1]
              have e : keepP ⟨xw, xn⟩ = true := by unfold keepP; rw [show ((⟨xw, xn⟩ : PRow).weight == 0) = false from HQ.out]; rfl
              have hl2 : i2 < (Y.set i2 ⟨xw, xn⟩).length := by rw [List.length_set]; omega
              rw [List.take_succ_eq_append_getElem hl2]
              simp [e, List.take_set_of_le]
            · rw [List.drop_set_of_lt (by omega)]
              exact hdr
            · iterate 2 refine Touch.setCell ?_ (fun _ => (rfl : adBlock (some ⟨g, 0, none⟩) = some g)) _
              exact HT2.out.then (HTC.out.up _)
          · show n - (intOf (.int .i64 ((j : Int) + 1))).toNat < n - (intOf (.int .i64 (j : Int))).toNat
            simp [intOf]
            omega
      · have hjn' : j = n := by omega
        obtain ⟨Y, O2, e1, e2⟩ := HE.out
        obtain ⟨g, hA, hg, _, _, _, _⟩ := pown_at O2 (pown_len O2) i2 (by omega)
        subst hA
        have hfil : Y.take i2 = X.filter keepP := by
          rw [e1, List.take_of_length_le (by rw [← HL.out]; omega)]
        obtain ⟨w3, r3, O3, T3⟩ := clear_own wr g n c Y O2 i2 (c - i2) (by omega) 0
        have HFI := hide hfil
        have HO3 := hide O3
        have HT3 := hide (HT2.out.then (T3.mono (fun i hi e => by rw [e]; rfl)))
        have x3 : i2 < n := by omega
        have x4 : (i2 : Int) ≤ (n : Int) := by omega
        have x5 : ¬ c = i2 := by omega
        have x6 : i2 ≤ c := by omega
        have x7 : (i2 : Int) ≤ (c : Int) := by omega
        have HR3 := hide r3
        clear O2 e1 e2 hfil O3 T3 HE r3
        go_wp2_with fail
        rw [HR3.out]
        simp only [Result.andThen]
        rw [Oper.upon_value]
        go_wp2
        go_ret
        refine ⟨i2, by omega, rfl, ?_, HT3.out⟩
        rw [← HFI.out]
        exact HO3.out

end Go.Proofs.YtdjlcgldplndiaaDoor
