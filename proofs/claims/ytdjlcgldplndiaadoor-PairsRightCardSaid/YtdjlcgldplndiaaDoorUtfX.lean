/- What a word is: the reference's. Condition: a text is no longer than any text. -/
import Derived.Test.YtdjlcgldplndiaaDoorUtfW
namespace Go.Proofs.YtdjlcgldplndiaaDoor
open Go.RowKit

theorem all_not (O : List Nat) (j : Nat) (hj : j < O.length) (h : fitU (O.getD j 0) = false) : O.all fitU = false := by
  refine Bool.eq_false_iff.2 fun e => ?_
  have h1 := List.all_eq_true.1 e (O.getD j 0) (by
    have e : O.getD j 0 = O[j] := by simp [List.getD, hj]
    rw [e]
    exact List.getElem_mem _)
  rw [h] at h1
  cases h1

set_option maxRecDepth 100000 in
set_option maxHeartbeats 2000000 in
theorem rword_any (w : World) (s : ByteArray) (hm : s.size ≤ 9223372036854775807) :
    Calls Tryd.prog 25 #[.string s] w fun e w' => e = .returned (.bool (wordU s.toList)) ∧ Touch (fun _ => False) w w' := by
  by_cases hs : s.size ≤ 96
  · have i0 : ¬ (96 : Int) < (s.size : Int) := by omega
    have HRA := hide (rrunes_any w s (by omega))
    have hlen : s.toList.length ≤ 96 := by rw [toList_len]; exact hs
    have HLEN := hide hlen
    clear hlen
    go_enter Tryd.func25, Tryd.ntmps25
    go_wp2_with fail
    refine HRA.out.mono ?_
    rintro e w1 ⟨A, q, c, O, ok, rfl, N1, hl, hq, hru⟩
    have HN := hide N1
    have HL1 := hide hl
    have HRU := hide hru
    clear N1 hl hru HRA
    have hWD : wordU s.toList = (ok && (O.all fitU && (decide (0 < q) && decide (q ≤ 24)))) := by
      unfold wordU
      rw [HRU.out]
      cases ok with
      | false => simp
      | true => simp [HLEN.out, HL1.out]
    have HWD := hide hWD
    clear hWD
    go_wp2_with fail
    go_loopw [5] (fun iv wr => ∃ (j : Nat), iv = .int .i64 j ∧ j ≤ q ∧ Hid ((O.take j).all fitU = true) ∧ Hid (Touch (fun _ => False) w1 wr)) (fun iv _ => q - (intOf iv).toNat)
    case atStart => exact ⟨0, rfl, Nat.zero_le _, hide (by simp), hide (Touch.refl _ _)⟩
    case round =>
      obtain ⟨j, rfl, hjq, HB, HT⟩ := hrel
      by_cases hj : j < q
      · have y0 : (j : Int) < (q : Int) := by omega
        have y1 : (0 : Int) ≤ (j : Int) := by omega
        obtain ⟨g, off, hA, hc⟩ := rune_at (Reads.of_own (own_touch HN.out.own HT.out (fun _ _ f => f))) HL1.out j hj
        subst hA
        have hta := take_all O j (by rw [HL1.out]; exact hj)
        have hno := all_not O j (by rw [HL1.out]; exact hj)
        obtain ⟨r, hr⟩ : ∃ r, O.getD j 0 = r := ⟨_, rfl⟩
        rw [hr] at hc hta hno
        have HTA := hide hta
        have HNO := hide hno
        clear hr hta hno
        by_cases h1 : 32 < r
        · have i1 : ¬ (r : Int) ≤ 32 := by omega
          by_cases h2 : r = 127
          · subst h2
            have hW2 : wordU s.toList = false := by rw [HWD.out, HNO.out rfl]; simp
            have HW2 := hide hW2
            clear hW2
            go_wp2_with fail
            go_ret
            exact ⟨by rw [HW2.out]; rfl, HN.out.touch.then HT.out⟩
          · have i2 : ¬ (r : Int) = 127 := by omega
            have i3 : ((r : Int) == 127) = false := by simp [i2]
            have HH := hide (And.intro h1 h2)
            clear h2
            go_wp2_with fail
            go_roundw
            · exact ⟨j + 1, by simp, by omega, hide (by rw [HTA.out, HB.out]; simp [fitU, HH.out.1, HH.out.2]), HT⟩
            · show q - (intOf (.int .i64 ((j : Int) + 1))).toNat < q - (intOf (.int .i64 (j : Int))).toNat
              simp [intOf]
              omega
        · have i1 : (r : Int) ≤ 32 := by omega
          have hW2 : wordU s.toList = false := by rw [HWD.out, HNO.out (by simp [fitU, h1])]; simp
          have HW2 := hide hW2
          clear hW2
          go_wp2_with fail
          go_ret
          exact ⟨by rw [HW2.out]; rfl, HN.out.touch.then HT.out⟩
      · have hO : O.take j = O := List.take_of_length_le (by rw [HL1.out]; omega)
        have hb := HB.out
        rw [hO] at hb
        have hW : wordU s.toList = (ok && (decide (0 < q) && decide (q ≤ 24))) := by rw [HWD.out, hb]; simp
        have HWW := hide hW
        have y0 : ¬ (j : Int) < (q : Int) := by omega
        clear hW hb hO
        cases ok with
        | false =>
          go_wp2_with fail
          go_ret
          exact ⟨by rw [HWW.out]; rfl, HN.out.touch.then HT.out⟩
        | true =>
          by_cases h1 : 0 < q
          · have i1 : (1 : Int) ≤ (q : Int) := by omega
            by_cases h2 : q ≤ 24
            · have i2 : (q : Int) ≤ 24 := by omega
              have hW2 : wordU s.toList = true := by rw [HWW.out]; simp [h1, h2]
              have HW2 := hide hW2
              clear hW2
              go_wp2_with fail
              go_ret
              exact ⟨by rw [HW2.out]; rfl, HN.out.touch.then HT.out⟩
            · have i2 : ¬ (q : Int) ≤ 24 := by omega
              have hW2 : wordU s.toList = false := by rw [HWW.out]; simp [h2]
              have HW2 := hide hW2
              clear hW2
              go_wp2_with fail
              go_ret
              exact ⟨by rw [HW2.out]; rfl, HN.out.touch.then HT.out⟩
          · have i1 : ¬ (1 : Int) ≤ (q : Int) := by omega
            have hW2 : wordU s.toList = false := by rw [HWW.out]; simp [h1]
            have HW2 := hide hW2
            clear hW2
            go_wp2_with fail
            go_ret
            exact ⟨by rw [HW2.out]; rfl, HN.out.touch.then HT.out⟩
  · have i0 : (96 : Int) < (s.size : Int) := by omega
    have hW : wordU s.toList = false := by unfold wordU; rw [toList_len]; simp [hs]
    rw [hW]
    clear hW
    go_enter Tryd.func25, Tryd.ntmps25
    go_wp2
    go_ret
    exact ⟨rfl, Touch.refl _ _⟩

end Go.Proofs.YtdjlcgldplndiaaDoor
