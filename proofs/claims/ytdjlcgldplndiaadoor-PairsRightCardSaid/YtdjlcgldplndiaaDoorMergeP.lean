/- pairs.Norm, pairs.Merge; two lists are the same. No condition but that there are no more than 2^40 pairs. -/
import Derived.Test.YtdjlcgldplndiaaDoorDelFunc
namespace Go.Proofs.YtdjlcgldplndiaaDoor
open Go.RowKit

theorem SL.Ok.touch {s : SL} {w w' : World} (h : s.Ok w) (t : Touch (fun _ => False) w w') : s.Ok w' := ⟨h.len, h.reads.touch t (fun _ _ f => f), h.nil⟩

set_option maxRecDepth 100000 in
set_option maxHeartbeats 1000000 in
theorem pnorm_any (w : World) (s : SL) (hs : s.Ok w) (hsum : s.n ≤ 5864062014700) :
    Calls Tryd.prog 17 #[s.val] w fun e w' => ∃ A n c Y, e = .returned (.slice A n c) ∧ POwn w' A n c Y ∧ Nrm s.L Y ∧ Touch (fun _ => False) w w' ∧ n ≤ s.n ∧ (A = none → n = 0 ∧ c = 0) ∧ ∀ g, adBlock A = some g → w.heap.size ≤ g := by
  obtain ⟨wa, hwa⟩ : ∃ wa, wa = w.alloc (.cells [s.val].toArray 22) := ⟨_, rfl⟩
  obtain ⟨g, hg⟩ : ∃ g, g = w.heap.size := ⟨_, rfl⟩
  have ta : Touch (fun _ => False) w wa := by rw [hwa]; exact (Touch.refl _ _).alloc _
  have hr : Reads wa 1 (some ⟨g, 0, none⟩) 1 ([s].map SL.val) := by rw [hwa, hg]; exact Reads.new w _ _ _ rfl
  have HOR := hide (ordered_any wa (some ⟨g, 0, none⟩) 1 1 [s] rfl hr (fun x hx => by simp at hx; subst hx; exact hs.touch ta) (by simp [sumN]; exact hsum) (by decide))
  have HTA := hide ta
  have HWA := hide hwa
  have HG := hide hg
  clear hs ta hr hwa hg
  obtain ⟨sA, sn, sc, sL⟩ := s
  simp only [SL.val] at HWA ⊢
  simp only at hsum
  go_enter Tryd.func17, Tryd.ntmps17
  go_wp2_with fail
  have e1 : w.alloc (.cells #[.slice sA sn sc] 22) = wa := HWA.out.symm
  rw [e1, ← HG.out]
  clear e1
  refine HOR.out.mono ?_
  rintro e w1 ⟨A, n, c, Y, rfl, O1, N1, T1, h1, h2, h3⟩
  have HO := hide O1
  have HN := hide N1
  have HT := hide T1
  have H1 := hide (And.intro h1 (And.intro h2 h3))
  clear O1 N1 T1 h1 h2 h3
  go_wp2
  go_ret
  obtain ⟨h1, h2, h3⟩ := H1.out
  have hN := HN.out
  simp only [List.flatMap_cons, List.flatMap_nil, List.append_nil] at hN
  refine ⟨A, n, c, Y, rfl, HO.out, hN, HTA.out.then HT.out, by simpa [sumN] using h1, h2, fun g hg => ?_⟩
  have := h3 g hg
  have := HTA.out.size
  omega

set_option maxRecDepth 100000 in
set_option maxHeartbeats 1000000 in
theorem pmerge_any (w : World) (s t : SL) (hs : s.Ok w) (ht : t.Ok w) (hsum : s.n + t.n ≤ 5864062014700) :
    Calls Tryd.prog 15 #[s.val, t.val] w fun e w' => ∃ A n c Y, e = .returned (.slice A n c) ∧ POwn w' A n c (Y.filter keepP) ∧ Nrm (s.L ++ t.L) Y ∧ Touch (fun _ => False) w w' ∧ n ≤ s.n + t.n ∧ (A = none → n = 0 ∧ c = 0) ∧ ∀ g, adBlock A = some g → w.heap.size ≤ g := by
  obtain ⟨wa, hwa⟩ : ∃ wa, wa = w.alloc (.cells [s.val, t.val].toArray 22) := ⟨_, rfl⟩
  obtain ⟨g, hg⟩ : ∃ g, g = w.heap.size := ⟨_, rfl⟩
  have ta : Touch (fun _ => False) w wa := by rw [hwa]; exact (Touch.refl _ _).alloc _
  have hr : Reads wa 1 (some ⟨g, 0, none⟩) 2 ([s, t].map SL.val) := by rw [hwa, hg]; exact Reads.new w _ _ _ rfl
  have HOR := hide (ordered_any wa (some ⟨g, 0, none⟩) 2 2 [s, t] rfl hr (fun x hx => by simp at hx; rcases hx with rfl | rfl; exact hs.touch ta; exact ht.touch ta) (by simp [sumN]; exact hsum) (by decide))
  have HTA := hide ta
  have HWA := hide hwa
  have HG := hide hg
  clear hs ht ta hr hwa hg
  obtain ⟨sA, sn, sc, sL⟩ := s
  obtain ⟨tA, tn, tc, tL⟩ := t
  simp only [SL.val] at HWA ⊢
  simp only at hsum
  go_enter Tryd.func15, Tryd.ntmps15
  go_wp2_with fail
  have e1 : w.alloc (.cells #[.slice sA sn sc, .slice tA tn tc] 22) = wa := HWA.out.symm
  rw [e1, ← HG.out]
  clear e1
  refine HOR.out.mono ?_
  rintro e w1 ⟨A, n, c, Y, rfl, O1, N1, T1, h1, h2, h3⟩
  have HDE := hide (delete_any w1 A n c Y O1)
  have HN := hide N1
  have HT := hide T1
  have H1 := hide (And.intro h1 (And.intro h2 h3))
  clear O1 N1 T1 h1 h2 h3
  go_wp2_with fail
  refine HDE.out.mono ?_
  rintro e w2 ⟨m, hm, rfl, O2, T2⟩
  have HO := hide O2
  have HM := hide hm
  have HT2 := hide (HTA.out.then (HT.out.trans T2 (fun i hi hp => by
    have := H1.out.2.2 i hp
    omega)))
  clear O2 T2 hm HDE
  go_wp2
  go_ret
  obtain ⟨h1, h2, h3⟩ := H1.out
  have hN := HN.out
  simp only [List.flatMap_cons, List.flatMap_nil, List.append_nil] at hN
  simp [sumN] at h1
  have hm := HM.out
  refine ⟨A, m, c, Y, rfl, HO.out, hN, HT2.out, by omega, fun e => ?_, fun g hg => ?_⟩
  · have := h2 e
    omega
  · have := h3 g hg
    have := HTA.out.size
    omega

set_option maxRecDepth 100000 in
set_option maxHeartbeats 1000000 in
theorem psame_yes (w : World) (A : Option Addr) (n c : Nat) (X : List PRow) (hX : X.length = n) (hA : Reads w 2 A n (pCells X)) (hn : n ≤ maxLen) (B : Option Addr) (d : Nat) (hB : Reads w 2 B n (pCells X)) :
    Calls Tryd.prog 14 #[.slice A n c, .slice B n d] w fun e w' => e = .returned (.bool true) ∧ Touch (fun _ => False) w w' := by
  unfold maxLen at hn
  have HA := hide hA
  have HB := hide hB
  have HX := hide hX
  clear hA hB hX
  go_enter Tryd.func14, Tryd.ntmps14
  go_wp2
  go_loopw [5] (fun i wr => ∃ k : Nat, k ≤ n ∧ i = .int .i64 k ∧ Hid (Touch (fun _ => False) w wr)) (fun i _ => n - (intOf i).toNat)
  case atStart => exact ⟨0, Nat.zero_le _, rfl, hide (Touch.refl _ _)⟩
  case round =>
    obtain ⟨k, hk, rfl, HT⟩ := hrel
    by_cases hkn : k < n
    · obtain ⟨g, o, hg, _, a0, a1⟩ := preads_at (HA.out.touch HT.out (fun _ _ f => f)) HX.out.symm k hkn
      obtain ⟨g', o', hg', _, b0, b1⟩ := preads_at (HB.out.touch HT.out (fun _ _ f => f)) HX.out.symm k hkn
      subst hg hg'
      obtain ⟨⟨xw, xn⟩, hx⟩ : ∃ x, x = X.getD k PRow.zero := ⟨_, rfl⟩
      rw [← hx] at a0 a1 b0 b1
      simp only at a0 a1 b0 b1
      have k0 : (k : Int) < (n : Int) := by omega
      clear hx
      go_wp2
      go_quiet (fail)
      go_wp2
      go_roundw
      · exact ⟨k + 1, by omega, by simp, hide (HT.out.drewN _)⟩
      · show n - (intOf (.int .i64 ((k : Int) + 1))).toNat < n - (intOf (.int .i64 (k : Int))).toNat
        simp [intOf]
        omega
    · go_wp2
      go_ret
      exact ⟨rfl, HT.out⟩

end Go.Proofs.YtdjlcgldplndiaaDoor
