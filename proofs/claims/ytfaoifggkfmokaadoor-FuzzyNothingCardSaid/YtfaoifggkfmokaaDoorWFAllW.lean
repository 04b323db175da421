/- FuzzyAll: the walk. Condition: the arguments can be read. -/
import Derived.Test.YtfaoifggkfmokaaDoorAl12
namespace Go.Proofs.YtfaoifggkfmokaaDoor
open Go.RowKit
set_option linter.unusedSectionVars false
set_option linter.unusedSimpArgs false
set_option linter.unusedVariables false

theorem lev_parts {a : List UInt8} {k : Int} (h : levR a k = true) : ∃ X n, runesU a = some X ∧ X.length ≤ 24 ∧ a.length ≤ 96 ∧ k = ((n : Nat) : Int) ∧ n ≤ 3 := by
  unfold levR at h
  simp only [Bool.and_eq_true, decide_eq_true_eq] at h
  obtain ⟨x, h1, _, _, h4⟩ := word_runes h.1
  refine ⟨x, k.toNat, h1, h4, ?_, by omega, by omega⟩
  have := h.1
  unfold wordU at this
  simp only [Bool.and_eq_true, decide_eq_true_eq] at this
  exact this.1
theorem size_toList (a : ByteArray) : a.toList.length = a.size := by
  rw [Go.ByteArray.toList_eq, Array.length_toList]
  rfl
/-- What on, then fuzzy.All and ref12.All, tell: walks are the same. -/
theorem fz_len (L : List PRow) (X : List Nat) (o : Nat) : (fzAllP L X o).length ≤ L.length := List.length_filterMap_le _ _

set_option maxRecDepth 100000 in
set_option maxHeartbeats 4000000 in
theorem fall_walk (W : World) (hL : Lst W) (s : SL) (hs : s.Ok W) (hn : s.n ≤ maxLen) (hWf : ∀ r ∈ s.L, r.Wf) (a : ByteArray) (ha : a.size ≤ 9223372036854775807) (k : Int) :
    Calls Tryd.prog 3 #[s.val, .string a, .int .i64 k] W fun e W' => e = .returned (.bool true) ∧ Below W.heap.size W W' := by
  have HON := hide (on_any W hL s hs hWf hn)
  have HL := hide hL
  have HS := hide hs
  obtain ⟨A0, n0, c0, L⟩ := s
  simp only [SL.val] at HON ⊢
  clear hL hs hn hWf
  go_enter Tryd.func3, Tryd.ntmps3
  go_wp2_with fail
  refine HON.out.mono ?_
  rintro e w1 ⟨hon, T1⟩
  rcases hon with ⟨_, rfl⟩ | ⟨hop, hD, b, n, A, c, Z, wA, wc, rfl, hdw⟩
  · have HT1 := hide T1
    have HAL := hide (alive12_any w1 (Lst.touch HL.out T1))
    clear T1 HON
    go_wp2_with fail
    refine HAL.out.mono ?_
    rintro e w2 ⟨rfl, T2⟩
    have HT2 := hide (HT1.out.then T2)
    clear T2
    go_wp2_with fail
    go_ret
    exact ⟨rfl, HT2.out.below (Nat.le_refl _) (fun _ _ f => f)⟩
  · have HT1 := hide T1
    cases hlv : levR a.toList k with
    | false =>
      have HFZ := hide (fzall_no w1 (Lst.touch HL.out T1) (some ⟨b, 0, none⟩) a k ha hlv)
      have HRA := hide (fun wx => rall_no wx (.slice A0 n0 c0) a k ha hlv)
      clear T1 HON hop hD hdw hlv
      go_wp2_with fail
      refine HFZ.out.mono ?_
      rintro e w2 ⟨rfl, T2⟩
      have HT2 := hide (HT1.out.then T2)
      clear T2
      go_wp2_with fail
      refine (HRA.out _).mono ?_
      rintro e w3 ⟨rfl, T3⟩
      have HT3 := hide (HT2.out.then T3)
      have HAL := hide (alive12_any w3 (Lst.touch HL.out (HT2.out.then T3)))
      clear T3
      go_wp2_with fail
      refine HAL.out.mono ?_
      rintro e w4 ⟨rfl, T4⟩
      have HT4 := hide (HT3.out.then T4)
      have HSM := hide (same_yes w4 none 0 0 [] rfl (Reads.nil _ _ _) (by unfold maxLen; omega) none 0 (Reads.nil _ _ _))
      clear T4
      go_wp2_with fail
      refine HSM.out.mono ?_
      rintro e w5 ⟨rfl, T5⟩
      have HT5 := hide (HT4.out.then T5)
      clear T5
      go_wp2_with fail
      go_ret
      exact ⟨rfl, HT5.out.below (Nat.le_refl _) (fun _ _ f => f)⟩
    | true =>
      obtain ⟨X, m, hX, hXl, ha96, rfl, hm⟩ := lev_parts hlv
      have has : a.size ≤ 1099511627776 := by rw [← size_toList]; omega
      have hfl : (fzAllP L X (m + 1)).length ≤ maxLen := by have h1 := fz_len L X (m + 1); have h2 := hD.len; unfold maxLen; omega
      have HFZ := hide (fzall_yes w1 (Lst.touch HL.out T1) hD hdw a m has X hX hlv)
      have HRA := hide (fun wx T => rall_yes wx hD A0 n0 c0 (HS.out.touch (w' := wx) T).reads HS.out.len a m has X hX hlv)
      have HFL := hide hfl
      clear T1 HON hop hD hdw hlv hX hXl ha96 hm has hfl
      go_wp2_with fail
      refine HFZ.out.mono ?_
      rintro e w2 ⟨A2, c2, rfl, ho2⟩
      have HT2 := hide (HT1.out.then ho2.touch)
      have HO2 := hide ho2
      clear ho2
      go_wp2_with fail
      refine (HRA.out _ HT2.out).mono ?_
      rintro e w3 ⟨A3, c3, rfl, ho3⟩
      have HT3 := hide (HT2.out.then ho3.touch)
      have HO3 := hide ho3
      have HAL := hide (alive12_any w3 (Lst.touch HL.out (HT2.out.then ho3.touch)))
      clear ho3
      go_wp2_with fail
      refine HAL.out.mono ?_
      rintro e w4 ⟨rfl, T4⟩
      have HT4 := hide (HT3.out.then T4)
      have HSM := hide (same_yes w4 A2 _ c2 _ rfl (Reads.of_own ((HO2.out.to (HO3.out.touch.then T4)).own)) HFL.out A3 c3 (Reads.of_own (HO3.out.to T4).own))
      clear T4
      go_wp2_with fail
      refine HSM.out.mono ?_
      rintro e w5 ⟨rfl, T5⟩
      have HT5 := hide (HT4.out.then T5)
      clear T5
      go_wp2_with fail
      go_ret
      exact ⟨rfl, HT5.out.below (Nat.le_refl _) (fun _ _ f => f)⟩

end Go.Proofs.YtfaoifggkfmokaaDoor
