/- BestTwice: the walk. -/
import Derived.Test.YtcencmjdhaejcaaSelW
import Derived.Deep.RegionWith
namespace Go.Proofs.Ytcencmjdhaejcaa
open Go.RowKit

theorem bestL_again (L : List MRow) (k : Nat) : bestL (bestL L k) k = bestL L k := by
  have e := sortL_srt (bestL_srt L k)
  unfold bestL at e ⊢
  rw [e, List.take_take, Nat.min_self]
theorem bestL_fewer (L : List MRow) (k f : Nat) (h : f ≤ (bestL L k).length) : bestL L f = (bestL L k).take f := by
  have : f ≤ k := by rw [bestL_len] at h; omega
  unfold bestL
  rw [List.take_take, Nat.min_eq_left this]

set_option maxRecDepth 100000 in
set_option maxHeartbeats 1000000 in
theorem twice_walk (W : World) (A : Option Addr) (n c : Nat) (L : List MRow) (hL : L.length = n) (hR : Reads W 3 A n (mCells L)) (hn : n ≤ maxLen) (kk fewer : Int) :
    Calls Try.prog 8 #[.slice A n c, .int .i64 kk, .int .i64 fewer] W fun e W' => e = .returned (.bool true) ∧ Below W.heap.size W W' := by
  have HR := hide hR
  have HL := hide hL
  have HN := hide hn
  clear hR hL hn
  obtain ⟨S, hS⟩ : ∃ S, S = bestL L (mostN kk) := ⟨_, rfl⟩
  obtain ⟨m, hm⟩ : ∃ m, m = S.length := ⟨_, rfl⟩
  have hm64 : m ≤ 64 := by rw [hm, hS, bestL_len]; have := mostN_le kk; omega
  have hSS : bestL S (mostN kk) = S := by rw [hS]; exact bestL_again L _
  have HS := hide hS
  have H64 := hide hm64
  have HM := hide hm
  have HSS := hide hSS
  clear hS hm hSS hm64
  have hcase : (fewer < 0) ∨ (0 ≤ fewer ∧ (m : Int) < fewer) ∨ ∃ f : Nat, fewer = (f : Int) ∧ f ≤ m := by
    by_cases h1 : fewer < 0
    · exact .inl h1
    · by_cases h2 : (m : Int) < fewer
      · exact .inr (.inl ⟨by omega, h2⟩)
      · exact .inr (.inr ⟨fewer.toNat, by omega, by omega⟩)
  rcases hcase with h1 | ⟨h1, h2⟩ | ⟨f, rfl, h1⟩
  all_goals
    go_enter Try.func8, Try.ntmps8
    go_wp2_with fail
    refine (select_any W A n c L HL.out HR.out HN.out kk).mono ?_
    rw [← HS.out, ← HM.out]
    rintro e w1 ⟨g, m', hm', rfl, hg, O1, T1⟩
    obtain rfl := hm'.symm
    have H1 := hide T1
    have HO := hide O1
    clear T1 O1 hg
    go_wp2_with fail
    refine (select_any w1 (some ⟨g, 0, none⟩) m m S HM.out.symm (Reads.of_own HO.out) (own_le HO.out) kk).mono ?_
    rw [HSS.out, ← HM.out]
    rintro e w2 ⟨g2, m', hm', rfl, hg2, O2, T2⟩
    obtain rfl := hm'.symm
    have H2 := hide (H1.out.then T2)
    have HO1 := hide (own_touch HO.out T2 (fun _ _ f => f))
    have HO2 := hide O2
    clear T2 O2 hg2
    go_wp2_with fail
    refine (same_yes w2 _ m m S HM.out.symm (Reads.of_own HO2.out) (own_le HO2.out) _ _ (Reads.of_own HO1.out)).mono ?_
    rintro e w3 ⟨rfl, T3⟩
    have H3 := hide (H2.out.then T3)
    have HO3 := hide (own_touch HO1.out T3 (fun _ _ f => f))
    clear T3
    go_wp2_with fail
    refine (alive_any w3).mono ?_
    rintro e w4 ⟨rfl, T4⟩
    have H4 := hide (H3.out.then T4)
    have HO4 := hide (own_touch HO3.out T4 (fun _ _ f => f))
    clear T4
    go_wp2_with fail
  · go_ret
    exact ⟨rfl, H4.out.below (Nat.le_refl _) (fun _ _ f => f)⟩
  · go_ret
    exact ⟨rfl, H4.out.below (Nat.le_refl _) (fun _ _ f => f)⟩
  · have hfm : (f : Int) ≤ (m : Int) := by omega
    have e1 : mostN (f : Int) = f := by have := H64.out; unfold mostN; omega
    have e2 : bestL L f = S.take f := by rw [HS.out]; exact bestL_fewer L _ f (by rw [← HS.out, ← HM.out]; exact h1)
    have e3 : (S.take f).length = f := by rw [List.length_take, ← HM.out]; omega
    have HE1 := hide e1
    have HE2 := hide e2
    have HE3 := hide e3
    clear e1 e2 e3
    go_region_with (first
      | (go_at_call 14; refine (select_any w4.drew A n c L HL.out ((HR.out.touch H4.out (fun _ _ f => f)).drew) HN.out (f : Int)).mono ?_; rw [HE1.out, HE2.out, HE3.out]; rintro e w5 ⟨g5, m', hm', rfl, _, O5, T5⟩; obtain rfl := hm'.symm; have H5 := hide (H4.out.drew.then T5); have HO5 := hide O5; have HO6 := hide (own_touch (w := w4.drew) HO4.out T5 (fun _ _ f => f)); clear T5 O5)
      | (go_at_call 13; refine (same_yes w5 _ f f (S.take f) HE3.out (Reads.of_own HO5.out) (own_le HO5.out) _ _ (by rw [← mCells_take]; exact (Reads.of_own HO6.out).take h1)).mono ?_; rintro e w6 ⟨rfl, T6⟩; have H6 := hide (H5.out.then T6); clear T6))
    all_goals
      go_wp2_with fail
      go_ret
      exact ⟨rfl, H6.out.below (Nat.le_refl _) (fun _ _ f => f)⟩

end Go.Proofs.Ytcencmjdhaejcaa
