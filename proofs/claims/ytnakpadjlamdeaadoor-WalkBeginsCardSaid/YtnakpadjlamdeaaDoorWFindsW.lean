/- WalkFinds: the walk. Condition: the text has no more than 2^40 bytes. -/
import Derived.Test.YtnakpadjlamdeaaDoorAlive9
namespace Go.Proofs.YtnakpadjlamdeaaDoor
open Go.RowKit

set_option maxRecDepth 100000 in
set_option maxHeartbeats 2000000 in
theorem wfinds_walk (W : World) (hL : Lst W) (s : SL) (hs : s.Ok W) (hn : s.n ≤ maxLen) (hWf : ∀ r ∈ s.L, r.Wf) (k : ByteArray) (hk : k.size ≤ 1099511627776) :
    Calls Tryd.prog 3 #[s.val, .string k] W fun e W' => e = .returned (.bool true) ∧ Below W.heap.size W W' := by
  have HS := hide hs
  have HN := hide hn
  have HL := hide hL
  have HK := hide hk
  have HON := hide (on_any W hL s hs hWf hn)
  obtain ⟨sA, sn, sc, sL⟩ := s
  clear hs hn hL hWf hk
  simp only [SL.val] at HON ⊢
  obtain ⟨⟨x, t⟩, hx⟩ : ∃ x, x = findP k.toList sL := ⟨_, rfl⟩
  have HX := hide hx
  clear hx
  go_enter Tryd.func3, Tryd.ntmps3
  go_wp2_with fail
  refine HON.out.mono ?_
  rintro e w1 ⟨hon, T1⟩
  have HT1 := hide T1
  clear HON
  rcases hon with ⟨_, rfl⟩ | ⟨_, hD, b, n, A, c, Z, wA, wc, rfl, hdw⟩
  · clear T1
    go_wp2_with fail
    refine (alive9_any w1 (Lst.touch HL.out HT1.out)).mono ?_
    rintro e w2 ⟨rfl, T2⟩
    have HT2 := hide (HT1.out.then T2)
    clear T2
    go_wp2_with fail
    go_ret
    exact ⟨by simp, HT2.out.below (Nat.le_refl _) (fun _ _ f => f)⟩
  · have hfd := dfind_any hdw hD (Lst.touch HL.out T1) k HK.out
    rw [← HX.out] at hfd
    have HFD := hide hfd
    clear T1 hD hdw hfd
    go_wp2_with fail
    refine HFD.out.mono ?_
    rintro e w2 ⟨rfl, T2⟩
    have HT2 := hide (HT1.out.then T2)
    clear T2 HFD
    go_wp2_with fail
    refine (rfind_any w2 sA sn sc sL HS.out.len (HS.out.touch HT2.out).reads HN.out k).mono ?_
    rintro e w3 ⟨rfl, T3⟩
    rw [← HX.out]
    have HT3 := hide (HT2.out.then T3)
    clear T3
    go_wp2_with fail
    refine (alive9_any w3 (Lst.touch HL.out HT3.out)).mono ?_
    rintro e w4 ⟨rfl, T4⟩
    have HT4 := hide (HT3.out.then T4)
    clear T4
    go_wp2_with fail
    go_ret
    exact ⟨by simp, HT4.out.below (Nat.le_refl _) (fun _ _ f => f)⟩

end Go.Proofs.YtnakpadjlamdeaaDoor
