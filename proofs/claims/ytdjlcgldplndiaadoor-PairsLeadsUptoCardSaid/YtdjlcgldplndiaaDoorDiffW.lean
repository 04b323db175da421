/- PairsDiffers: the walk. -/
import Derived.Test.YtdjlcgldplndiaaDoorMergesW
import Derived.Test.YtdjlcgldplndiaaDoorDiff6
import Derived.Test.YtdjlcgldplndiaaDoorPDiff
namespace Go.Proofs.YtdjlcgldplndiaaDoor
open Go.RowKit

set_option maxRecDepth 100000 in
set_option maxHeartbeats 1000000 in
theorem differs_walk (W : World) (s t : SL) (hs : s.Ok W) (ht : t.Ok W) (hsum : s.n + t.n ≤ 5864062014700) (hWs : ∀ r ∈ s.L, r.Wf) (hWt : ∀ r ∈ t.L, r.Wf) :
    Calls Tryd.prog 9 #[s.val, t.val] W fun e W' => e = .returned (.bool true) ∧ Below W.heap.size W W' := by
  have HS := hide hs
  have HT := hide ht
  have HWS := hide hWs
  have HWT := hide hWt
  have HSU := hide hsum
  obtain ⟨sA, sn, sc, sL⟩ := s
  obtain ⟨tA, tn, tc, tL⟩ := t
  clear hs ht hWs hWt hsum
  simp only [SL.val]
  go_enter Tryd.func9, Tryd.ntmps9
  go_wp2_with fail
  refine (alive_any W).mono ?_
  rintro e w1 ⟨rfl, T1⟩
  have H1 := hide T1
  clear T1
  go_wp2_with fail
  refine (pdiff_any w1 _ _ (HS.out.touch H1.out) (HT.out.touch H1.out) HSU.out).mono ?_
  rintro e w2 ⟨A, n, c, O, X, Y, rfl, N2, nx, ny, so, ko, _, _⟩
  have HO := hide N2.own
  have HN := hide (And.intro nx (And.intro ny (And.intro so ko)))
  have H2 := hide (H1.out.then N2.touch)
  clear N2 nx ny so ko
  go_wp2_with fail
  refine (rdiff_any w2 _ _ (HS.out.touch H2.out) (HT.out.touch H2.out) HSU.out HWS.out HWT.out).mono ?_
  rintro e w3 ⟨A', q, c', O', X', Y', rfl, N3, nx, ny, so, ko⟩
  have hX : X' = X := nx.unique HN.out.1
  have hY : Y' = Y := ny.unique HN.out.2.1
  subst hX hY
  have hO : O' = O := strict_unique so HN.out.2.2.1 fun k => by rw [ko, HN.out.2.2.2]
  subst hO
  have hl : n = q := (pown_len HO.out).trans N3.len
  subst hl
  have HN3 := hide N3
  have H3 := hide (H2.out.then N3.touch)
  have HO3 := hide (own_touch HO.out N3.touch (fun _ _ f => f))
  clear N3 nx ny so ko
  go_wp2_with fail
  refine (psame_yes w3 A n c _ (pown_len HO3.out).symm (Reads.of_own HO3.out) (own_le HO3.out) A' c' (Reads.of_own HN3.out.own)).mono ?_
  rintro e w4 ⟨rfl, T4⟩
  have H4 := hide (H3.out.then T4)
  clear T4
  go_wp2
  go_ret
  exact ⟨rfl, H4.out.below (Nat.le_refl _) (fun _ _ f => f)⟩

end Go.Proofs.YtdjlcgldplndiaaDoor
