/- WalkNumbers, WalkRanks: the walks. No condition. -/
import Derived.Test.YtnakpadjlamdeaaDoorWFindsW
import Derived.RegionTactic
import Derived.Deep.RegionLaw
namespace Go.Proofs.YtnakpadjlamdeaaDoor
open Go.RowKit

set_option maxRecDepth 100000 in
set_option maxHeartbeats 4000000 in
theorem wnumbers_walk (W : World) (hL : Lst W) (s : SL) (hs : s.Ok W) (hn : s.n ≤ maxLen) (hWf : ∀ r ∈ s.L, r.Wf) (i : Int) :
    Calls Tryd.prog 4 #[s.val, .int .i64 i] W fun e W' => e = .returned (.bool true) ∧ Below W.heap.size W W' := by
  have HS := hide hs
  have HN := hide hn
  have HL := hide hL
  have HON := hide (on_any W hL s hs hWf hn)
  obtain ⟨sA, sn, sc, sL⟩ := s
  clear hs hn hL hWf
  simp only [SL.val] at HON ⊢
  go_enter Tryd.func4, Tryd.ntmps4
  go_wp2_with fail
  refine HON.out.mono ?_
  rintro e w1 ⟨hon, T1⟩
  have HT1 := hide T1
  clear HON
  rcases hon with ⟨_, rfl⟩ | ⟨ho, hD, b, n, A, c, Z, wA, wc, rfl, hdw⟩
  · clear T1
    go_wp2_with fail
    refine (alive9_any w1 (Lst.touch HL.out HT1.out)).mono ?_
    rintro e w2 ⟨rfl, T2⟩
    have HT2 := hide (HT1.out.then T2)
    clear T2
    go_wp2_with fail
    go_ret
    exact ⟨by simp, HT2.out.below (Nat.le_refl _) (fun _ _ f => f)⟩
  · have hat := dat_any hdw hD (Lst.touch HL.out T1) i
    have hlen := HS.out.len
    simp only at hlen
    by_cases hr : 0 ≤ i ∧ i < sL.length
    · obtain ⟨k, rfl⟩ : ∃ k : Nat, i = (k : Int) := ⟨i.toNat, by omega⟩
      obtain ⟨p, hp⟩ : ∃ p, sL.getD k PRow.zero = p := ⟨_, rfl⟩
      have e : atP sL (k : Int) = (p, true) := by
        unfold atP
        rw [if_pos hr, ← hp]
        rfl
      rw [e] at hat
      have hks : k < sn := by omega
      have y0 : ¬ (k : Int) < 0 := by omega
      have y1 : (k : Int) < (sn : Int) := by omega
      have y2 : (0 : Int) ≤ (k : Int) := by omega
      have y3 : decide ((k : Int) < 0) = false := by simp
      obtain ⟨sg, so, hA, hsg, c0, c1⟩ := preads_at HS.out.reads HS.out.len.symm k hks
      simp only at hA c0 c1
      subst hA
      rw [hp] at c0 c1
      obtain ⟨pw, pn⟩ := p
      simp only at hat c0 c1
      have HAT := hide hat
      have HPR := hide (fun wx (T : Touch (fun _ => False) W wx) => And.intro ((T.cell hsg (fun f => f)).trans c0) ((T.cell hsg (fun f => f)).trans c1))
      clear T1 hD hdw ho hat e hr hp hlen c0 c1
      go_wp2_with fail
      refine HAT.out.mono ?_
      rintro e w2 ⟨rfl, T2⟩
      have HT2 := hide (HT1.out.then T2)
      clear T2 HAT
      obtain ⟨w3, hw3⟩ : ∃ x, x = w2.alloc (.cells #[.string pw, .int .i64 pn] 32) := ⟨_, rfl⟩
      obtain ⟨P, hP⟩ : ∃ P, P = w2.heap.size := ⟨_, rfl⟩
      have hb3 : Blk w3 P 32 #[.string pw, .int .i64 pn] := by rw [hw3, hP]; exact Blk.new _ _ _
      have hT3 : Touch (fun _ => False) W w3 := by rw [hw3]; exact HT2.out.alloc _
      have HW3 := hide hw3
      have HP := hide hP
      have HB3 := hide hb3
      have HT3 := hide hT3
      have HAL := hide (fun wx (T : Touch (fun _ => False) w3 wx) => alive9_any wx (Lst.touch HL.out (hT3.then T)))
      clear hw3 hP hb3 hT3
      go_wp2_with fail
      rw [← HW3.out, ← HP.out]
      go_region_law (go_simp; refine (HAL.out _ (Touch.refl _ _).drew).mono ?_; rintro e v9 ⟨rfl, T9⟩; have hb9 := HB3.out.touch ((Touch.refl (fun _ => False) w3).drew.then T9) (fun f => f); obtain ⟨q1, q2, q3⟩ := hb9.facts; obtain ⟨p1, p2⟩ := HPR.out v9 (HT3.out.then ((Touch.refl (fun _ => False) w3).drew.then T9)); have HT9 := hide (HT3.out.then ((Touch.refl (fun _ => False) w3).drew.then T9)); clear hb9 T9; go_simp)
      all_goals
        go_wp2_with fail
        go_ret
        exact ⟨rfl, HT9.out.below (Nat.le_refl _) (fun _ _ f => f)⟩
    · have e : atP sL i = (PRow.zero, false) := by
        unfold atP
        rw [if_neg hr]
      rw [e] at hat
      have HAT := hide hat
      have hz : PRow.zero = ⟨⟨#[]⟩, 0⟩ := rfl
      rw [hz] at HAT
      simp only at HAT
      have hcase : i < 0 ∨ (¬ i < 0 ∧ (sn : Int) ≤ i) := by omega
      clear T1 hD hdw ho hat e hr hz hlen
      rcases hcase with h0 | ⟨h0, h1⟩
      all_goals
        go_wp2_with fail
        refine HAT.out.mono ?_
        rintro e w2 ⟨rfl, T2⟩
        have HT2 := hide (HT1.out.then T2)
        clear T2
        go_wp2_with fail
        refine (alive9_any _ (Lst.touch HL.out (HT2.out.alloc _))).mono ?_
        rintro e w3 ⟨rfl, T3⟩
        have hb3 := (Blk.new w2 32 #[.string ⟨#[]⟩, .int .i64 0]).touch T3 (fun f => f)
        obtain ⟨q1, q2, q3⟩ := hb3.facts
        have HT3 := hide ((HT2.out.alloc _).then T3)
        clear T3 hb3
        go_wp2_with fail
        go_ret
        exact ⟨by simp, HT3.out.below (Nat.le_refl _) (fun _ _ f => f)⟩

end Go.Proofs.YtnakpadjlamdeaaDoor
