/- FuzzyMore: the walk. Condition: the arguments can be read. -/
import Derived.Test.YtfaoifggkfmokaaDoorWFAllW
namespace Go.Proofs.YtfaoifggkfmokaaDoor
open Go.RowKit
set_option linter.unusedSectionVars false
set_option linter.unusedSimpArgs false
set_option linter.unusedVariables false

/-- What is near enough among what is near to one more. -/
theorem more_plain (L : List PRow) (X : List Nat) (k : Nat) : (fzAllP L X (k + 2)).filter (fun m => decide (m.dist ≤ (k : Int))) = fzAllP L X (k + 1) := by
  unfold fzAllP
  rw [List.filter_filterMap]
  apply filterMap_congr'
  intro p _
  by_cases h1 : rowW X (wordR p) < k + 1
  · rw [if_pos h1, if_pos (by omega)]
    simp only [Option.filter_some]
    rw [if_pos (by simp; omega)]
  · rw [if_neg h1]
    by_cases h2 : rowW X (wordR p) < k + 2
    · rw [if_pos h2]
      simp only [Option.filter_some]
      rw [if_neg (by simp; omega)]
    · rw [if_neg h2]
      rfl
theorem filter_pre {α : Type} (q : α → Bool) (l : List α) (i : Nat) : (l.take i).filter q <+: l.filter q := by
  have h : l.filter q = (l.take i).filter q ++ (l.drop i).filter q := by rw [← List.filter_append, List.take_append_drop]
  rw [h]
  exact List.prefix_append _ _
theorem levR_more {a : List UInt8} {m : Nat} (h : levR a (m : Int) = true) (hm : m < 3) : levR a ((m + 1 : Nat) : Int) = true := by
  unfold levR at h ⊢
  simp only [Bool.and_eq_true, decide_eq_true_eq] at h ⊢
  exact ⟨h.1, by omega, by omega⟩

set_option maxRecDepth 100000 in
set_option maxHeartbeats 4000000 in
theorem fmore_walk (W : World) (hL : Lst W) (s : SL) (hs : s.Ok W) (hn : s.n ≤ maxLen) (hWf : ∀ r ∈ s.L, r.Wf) (a : ByteArray) (ha : a.size ≤ 9223372036854775807) (k : Int) :
    Calls Tryd.prog 4 #[s.val, .string a, .int .i64 k] W fun e W' => e = .returned (.bool true) ∧ Below W.heap.size W W' := by
  have HON := hide (on_any W hL s hs hWf hn)
  have HL := hide hL
  have HS := hide hs
  obtain ⟨A0, n0, c0, L⟩ := s
  simp only [SL.val] at HON ⊢
  clear hL hs hn hWf
  go_enter Tryd.func4, Tryd.ntmps4
  go_wp2_with fail
  refine HON.out.mono ?_
  rintro e w1 ⟨hon, T1⟩
  rcases hon with ⟨_, rfl⟩ | ⟨hop, hD, b, n, A, c, Z, wA, wc, rfl, hdw⟩
  · have HT1 := hide T1
    have HAL := hide (alive12_any w1 (Lst.touch HL.out T1))
    clear T1 HON
    go_wp2_with fail
    refine HAL.out.mono ?_
    rintro e w2 ⟨rfl, T2⟩
    have HT2 := hide (HT1.out.then T2)
    clear T2
    go_wp2_with fail
    go_ret
    exact ⟨rfl, HT2.out.below (Nat.le_refl _) (fun _ _ f => f)⟩
  · have HT1 := hide T1
    cases hlv : levR a.toList k with
    | false =>
      have HFZ := hide (fzall_no w1 (Lst.touch HL.out T1) (some ⟨b, 0, none⟩) a k ha hlv)
      clear T1 HON hop hD hdw hlv
      go_wp2_with fail
      refine HFZ.out.mono ?_
      rintro e w2 ⟨rfl, T2⟩
      have HT2 := hide (HT1.out.then T2)
      have HAL := hide (alive12_any w2 (Lst.touch HL.out (HT1.out.then T2)))
      clear T2
      go_wp2_with fail
      refine HAL.out.mono ?_
      rintro e w4 ⟨rfl, T4⟩
      have HT4 := hide (HT2.out.then T4)
      clear T4
      go_wp2_with fail
      go_ret
      exact ⟨rfl, HT4.out.below (Nat.le_refl _) (fun _ _ f => f)⟩
    | true =>
      obtain ⟨X, m, hX, hXl, ha96, rfl, hm⟩ := lev_parts hlv
      have has : a.size ≤ 1099511627776 := by rw [← size_toList]; omega
      have HFZ := hide (fzall_yes w1 (Lst.touch HL.out T1) hD hdw a m has X hX hlv)
      by_cases hm3 : m < 3
      · have HFM := hide (fun wx T => fzall_yes wx (Lst.touch HL.out (T1.then (w2 := wx) T)) hD (hdw.quiet (w' := wx) T) a (m + 1) has X hX (levR_more hlv hm3))
        have hmp := more_plain L X m
        have hfl : (fzAllP L X (m + 2)).length ≤ 4096 := by have h1 := fz_len L X (m + 2); have h2 := hD.len; omega
        obtain ⟨al, hal⟩ : ∃ y, y = fzAllP L X (m + 1) := ⟨_, rfl⟩
        obtain ⟨bl, hbl⟩ : ∃ y, y = fzAllP L X (m + 1 + 1) := ⟨_, rfl⟩
        have hmp2 : bl.filter (fun r => decide (r.dist ≤ (m : Int))) = al := by rw [hbl, hal]; exact hmp
        have hfb : bl.length ≤ 4096 := by rw [hbl]; exact hfl
        rw [← hal] at HFZ
        rw [← hbl] at HFM
        have HMP := hide hmp2
        have y0 : ¬ (3 : Int) ≤ (m : Int) := by omega
        have y2 : ((m + 1 : Nat) : Int) = (m : Int) + 1 := by omega
        have HM1 : Hid (∀ wx, Touch (fun _ => False) w1 wx → Calls Tryd.prog 11 #[ptrV b, .string a, .int .i64 ((m : Int) + 1)] wx (FzRes wx bl)) := hide (fun wx T => by have := HFM.out wx T; rw [y2] at this; exact this)
        have z1 : IntKind.i64.wrap ((m : Int) + 1) = (m : Int) + 1 := IntWalk.i64_in _ (by omega)
        have hbI : (bl.length : Int) ≤ 4096 := by omega
        have HFB := hide hfb
        clear HON hop hD hdw hlv hX hXl ha96 hm hm3 has T1 hmp hfl hal hbl hmp2 hfb y2 HFM
        go_wp2_with fail
        refine HFZ.out.mono ?_
        rintro e w2 ⟨A2, c2, rfl, ho2⟩
        have HT2 := hide ho2.touch
        have HO2 := hide ho2
        clear ho2
        go_wp2_with fail
        refine (HM1.out _ HT2.out).mono ?_
        rintro e w3 ⟨A3, c3, rfl, ho3⟩
        have HT3 := hide (HT1.out.then (HT2.out.then ho3.touch))
        have HO3 := hide ho3
        have HO23 := hide (HO2.out.to ho3.touch)
        clear ho3 z1
        go_wp2_with fail
        go_loopw [13, 15, 48] (fun nv _ iv wr => ∃ (i q : Nat), nv = .int .i64 q ∧ iv = .int .i64 i ∧ i ≤ bl.length ∧ Hid (q = ((bl.take i).filter (fun r => decide (r.dist ≤ (m : Int)))).length) ∧ Hid (Touch (fun _ => False) w3 wr)) (fun _ _ iv _ => bl.length - (intOf iv).toNat)
        case atStart => exact ⟨0, 0, rfl, rfl, Nat.zero_le _, hide (by simp), hide (Touch.refl _ _)⟩
        case round =>
          obtain ⟨i, q, rfl, rfl, hi, HQ, HT⟩ := hrel
          by_cases hib : i < bl.length
          · have k1 : (i : Int) < (bl.length : Int) := by omega
            have k2 : (0 : Int) ≤ (i : Int) := by omega
            have k3 : IntKind.i64.wrap ((i : Int) + 1) = (i : Int) + 1 := IntWalk.i64_in _ (by omega)
            obtain ⟨g, off, hA, hgl, d0, d1, d2⟩ := reads_at (Reads.of_own (HO3.out.to HT.out).own) rfl i hib
            subst hA
            have hsn : bl.take (i + 1) = bl.take i ++ [bl.getD i MRow.zero] := by
              rw [List.take_succ_eq_append_getElem hib]
              simp [List.getD, hib]
            obtain ⟨r, hr⟩ : ∃ r, r = bl.getD i MRow.zero := ⟨_, rfl⟩
            rw [← hr] at d0 d1 d2 hsn
            have hpre := filter_pre (fun r : MRow => decide (r.dist ≤ (m : Int))) bl (i + 1)
            rw [HMP.out, hsn, List.filter_append] at hpre
            obtain ⟨rw_, rn, rd⟩ := r
            simp only at d0 d1 d2
            have HIB := hide hib
            by_cases hd : rd ≤ (m : Int)
            · have hf1 : ([(⟨rw_, rn, rd⟩ : MRow)].filter (fun r => decide (r.dist ≤ (m : Int)))) = [⟨rw_, rn, rd⟩] := by simp [hd]
              rw [hf1] at hpre
              have hq := HQ.out
              have hql : q < al.length := by
                have := hpre.length_le
                rw [List.length_append, ← hq] at this
                simp only [List.length_cons, List.length_nil] at this
                omega
              have hget : al.getD q MRow.zero = ⟨rw_, rn, rd⟩ := by
                obtain ⟨tl, htl⟩ := hpre
                rw [← htl, hq]
                simp [List.getD]
              obtain ⟨g2, off2, hA2, hgl2, e0, e1, e2⟩ := reads_at (Reads.of_own (HO23.out.to HT.out).own) rfl q hql
              subst hA2
              rw [hget] at e0 e1 e2
              simp only at e0 e1 e2
              have hall : al.length ≤ bl.length := by rw [← HMP.out]; exact List.length_filter_le _ _
              have k4 : ¬ (al.length : Int) ≤ (q : Int) := by omega
              have k5 : decide (al.length ≤ q) = false := by simp; omega
              have k6 : decide ((al.length : Int) ≤ (q : Int)) = false := by simp; omega
              have k7 : (0 : Int) ≤ (q : Int) := by omega
              have k8 : (q : Int) < (al.length : Int) := by omega
              have k9 : IntKind.i64.wrap ((q : Int) + 1) = (q : Int) + 1 := IntWalk.i64_in _ (by omega)
              have HNEW := hide (show q + 1 = ((bl.take (i + 1)).filter (fun r => decide (r.dist ≤ (m : Int)))).length by rw [hsn, List.filter_append, hf1, List.length_append, ← hq]; rfl)
              clear hpre hf1 hq hql hget hall hr hsn hi hib
              go_wp2_with fail
              go_quiet (fail)
              go_wp2_with fail
              go_roundw
              · exact ⟨i + 1, q + 1, by simp, by simp, by have := HIB.out; omega, HNEW, hide ((HT.out.alloc _).drewN _)⟩
              · have := HIB.out
                simp only [intOf]
                omega
            · have HNEW := hide (show q = ((bl.take (i + 1)).filter (fun r => decide (r.dist ≤ (m : Int)))).length by rw [hsn, List.filter_append, List.length_append, ← HQ.out]; simp [hd])
              clear hpre hr hsn hi hib
              go_wp2_with fail
              go_roundw
              · exact ⟨i + 1, q, rfl, by simp, by have := HIB.out; omega, HNEW, hide (HT.out.alloc _)⟩
              · have := HIB.out
                simp only [intOf]
                omega
          · have hie : i = bl.length := by omega
            have hqe : q = al.length := by
              have := HQ.out
              rw [List.take_of_length_le (by omega), HMP.out] at this
              exact this
            subst hqe
            have k1 : ¬ (i : Int) < (bl.length : Int) := by omega
            have HAL := hide (alive12_any wr (Lst.touch HL.out (HT3.out.then HT.out)))
            clear hi hib hie HQ
            go_wp2_with fail
            refine HAL.out.mono ?_
            rintro e w4 ⟨rfl, T4⟩
            have HT4 := hide ((HT3.out.then HT.out).then T4)
            clear T4
            go_wp2_with fail
            go_ret
            exact ⟨rfl, HT4.out.below (Nat.le_refl _) (fun _ _ f => f)⟩
      · have y0 : (3 : Int) ≤ (m : Int) := by omega
        clear HON hop hD hdw hlv hX hXl ha96 hm hm3 has T1
        go_wp2_with fail
        refine HFZ.out.mono ?_
        rintro e w2 ⟨A2, c2, rfl, ho2⟩
        have HT2 := hide (HT1.out.then ho2.touch)
        have HAL := hide (alive12_any w2 (Lst.touch HL.out (HT1.out.then ho2.touch)))
        clear ho2
        go_wp2_with fail
        refine HAL.out.mono ?_
        rintro e w4 ⟨rfl, T4⟩
        have HT4 := hide (HT2.out.then T4)
        clear T4
        go_wp2_with fail
        go_ret
        exact ⟨rfl, HT4.out.below (Nat.le_refl _) (fun _ _ f => f)⟩

end Go.Proofs.YtfaoifggkfmokaaDoor
