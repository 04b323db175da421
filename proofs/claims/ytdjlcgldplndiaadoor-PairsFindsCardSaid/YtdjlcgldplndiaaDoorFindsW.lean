/- PairsFinds: the walk. -/
import Derived.Test.YtdjlcgldplndiaaDoorBackB
namespace Go.Proofs.YtdjlcgldplndiaaDoor
open Go.RowKit

set_option maxRecDepth 100000 in
set_option maxHeartbeats 1000000 in
theorem finds_walk (W : World) (s : SL) (hs : s.Ok W) (hn : s.n ≤ maxLen) (k : ByteArray) :
    Calls Tryd.prog 8 #[s.val, .string k] W fun e W' => e = .returned (.bool true) ∧ Below W.heap.size W W' := by
  have HS := hide hs
  have HN := hide hn
  obtain ⟨sA, sn, sc, sL⟩ := s
  clear hs hn
  simp only [SL.val]
  obtain ⟨⟨x, b⟩, hx⟩ : ∃ x, x = findP k.toList sL := ⟨_, rfl⟩
  have HX := hide hx
  clear hx
  go_enter Tryd.func8, Tryd.ntmps8
  go_wp2_with fail
  refine (pfind_any W sA sn sc sL HS.out.len HS.out.reads HN.out k).mono ?_
  rintro e w1 ⟨rfl, T1⟩
  rw [← HX.out]
  have H1 := hide T1
  clear T1
  go_wp2_with fail
  refine (rfind_any w1 sA sn sc sL HS.out.len (HS.out.touch H1.out).reads HN.out k).mono ?_
  rintro e w2 ⟨rfl, T2⟩
  rw [← HX.out]
  have H2 := hide (H1.out.then T2)
  clear T2
  go_wp2_with fail
  refine (alive_any w2).mono ?_
  rintro e w3 ⟨rfl, T3⟩
  have H3 := hide (H2.out.then T3)
  clear T3
  go_wp2
  go_ret
  exact ⟨by simp, H3.out.below (Nat.le_refl _) (fun _ _ f => f)⟩

end Go.Proofs.YtdjlcgldplndiaaDoor
