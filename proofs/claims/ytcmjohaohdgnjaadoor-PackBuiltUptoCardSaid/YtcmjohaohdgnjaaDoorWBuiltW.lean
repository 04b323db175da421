/- PackBuilt: the walk. Condition: no word has more than 2^40 bytes. -/
import Derived.Test.YtcmjohaohdgnjaaDoorAlive8
namespace Go.Proofs.YtcmjohaohdgnjaaDoor
open Go.RowKit

set_option maxRecDepth 100000 in
set_option maxHeartbeats 4000000 in
theorem wbuilt_walk (W : World) (hL : Lst W) (s : SL) (hs : s.Ok W) (hWz : ∀ r ∈ s.L, r.word.size ≤ 1099511627776) (hm : s.n ≤ maxLen) :
    Calls Tryd.prog 4 #[s.val] W fun e W' => e = .returned (.bool true) ∧ Below W.heap.size W W' := by
  have HFB := hide (fbuild_any W hL s hs hWz hm)
  have HL := hide hL
  obtain ⟨sA, sn, sc, sL⟩ := s
  simp only [SL.val] at HFB ⊢
  clear hs hWz hm hL
  go_enter Tryd.func4, Tryd.ntmps4
  go_wp2_with fail
  refine HFB.out.mono ?_
  rintro e w1 (⟨_, k, hk, rfl, T1⟩ | ⟨hr, A, n, c, Z, rfl, hst, hz, _, T1⟩)
  · obtain ⟨w2, hw2⟩ : ∃ x, x = w1.alloc (.cells #[.int .i64 0, .slice none 0 0] 24) := ⟨_, rfl⟩
    have hT2 : Touch (fun _ => False) W w2 := by rw [hw2]; exact T1.alloc _
    have k1 : (k == 0) = false := by simp; omega
    have k2 : ¬ k = 0 := by omega
    have HT2 := hide hT2
    have HW2 := hide hw2
    clear hw2 hT2 T1 HFB hk
    go_wp2_with fail
    rw [← HW2.out]
    refine (alive8_any w2 (Lst.touch HL.out HT2.out)).mono ?_
    rintro e w3 ⟨rfl, T3⟩
    have HT3 := hide (HT2.out.then T3)
    clear T3
    go_wp2_with fail
    go_ret
    exact ⟨by simp, HT3.out.below (Nat.le_refl _) (fun _ _ f => f)⟩
  · have hD := dict_of_right hr
    obtain ⟨bs, hbs⟩ : ∃ b, b = (mach sL).base := ⟨_, rfl⟩
    obtain ⟨w2, hw2⟩ : ∃ x, x = w1.alloc (.cells #[.int .i64 bs, .slice A n c] 24) := ⟨_, rfl⟩
    have hT12 : Touch (fun _ => False) w1 w2 := by rw [hw2]; exact (Touch.refl _ _).alloc _
    have hT2 : Touch (fun _ => False) W w2 := T1.then hT12
    have hbM : Blk w2 w1.heap.size 24 #[.int .i64 bs, .slice A n c] := by rw [hw2]; exact Blk.new _ _ _
    have hst2 := hst.quiet hT12
    have hrg := right_mach hD
    rw [← hz, ← hbs] at hrg
    have HT2 := hide hT2
    have HW2 := hide hw2
    have HBM := hide hbM
    have HST := hide hst2
    have HRG := hide hrg
    rw [← hbs]
    clear hw2 hT2 T1 HFB hT12 hbM hst2 hrg hst hz hr hD hbs
    go_wp2_with fail
    rw [← HW2.out]
    refine (alive8_any w2 (Lst.touch HL.out HT2.out)).mono ?_
    rintro e w3 ⟨rfl, T3⟩
    have HT3 := hide (HT2.out.then T3)
    have HRI := hide (right_all w3 (Lst.touch HL.out HT3.out) bs A n c Z (HST.out.quiet T3) HRG.out)
    obtain ⟨m0, m1, m2⟩ := (HBM.out.touch T3 (fun f => f)).facts
    clear T3
    go_wp2_with fail
    refine HRI.out.mono ?_
    rintro e w4 ⟨rfl, T4⟩
    have HT4 := hide (HT3.out.then T4)
    clear T4
    go_wp2_with fail
    go_ret
    exact ⟨by simp, HT4.out.below (Nat.le_refl _) (fun _ _ f => f)⟩

end Go.Proofs.YtcmjohaohdgnjaaDoor
