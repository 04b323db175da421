/- BestSelects, BestTwice: the walks. -/
import Derived.Test.YtcencmjdhaejcaaSame
import Derived.Test.YtcencmjdhaejcaaAlive13
namespace Go.Proofs.Ytcencmjdhaejcaa
open Go.RowKit

set_option maxRecDepth 100000 in
set_option maxHeartbeats 1000000 in
theorem selects_walk (W : World) (A : Option Addr) (n c : Nat) (L : List MRow) (hL : L.length = n) (hR : Reads W 3 A n (mCells L)) (hn : n ≤ maxLen) (hW : ∀ r ∈ L, r.Wf) (kk : Int) :
    Calls Try.prog 5 #[.slice A n c, .int .i64 kk] W fun e W' => e = .returned (.bool true) ∧ Below W.heap.size W W' := by
  have HR := hide hR
  have HL := hide hL
  have HW := hide hW
  have HN := hide hn
  clear hR hL hW hn
  go_enter Try.func5, Try.ntmps5
  go_wp2_with (first
    | (go_at_call 10; refine (alive_any W).mono ?_; rintro e w1 ⟨rfl, T1⟩; have H1 := hide T1; clear T1)
    | (go_at_call 14; refine (select_any w1 A n c L HL.out (HR.out.touch H1.out (fun _ _ f => f)) HN.out kk).mono ?_; rintro e w2 ⟨g, m, hm, rfl, _, O2, T2⟩; have H2 := hide (H1.out.then T2); have HO := hide O2; have HM := hide hm; clear T2 O2 hm)
    | (go_at_call 15; refine (rbest_any w2 A n c L HL.out (HR.out.touch H2.out (fun _ _ f => f)) HN.out HW.out kk).mono ?_; rintro e w3 ⟨A3, m3, c3, hm3, _, hc3, rfl, R3, T3, _⟩; have em : m3 = m := hm3.trans HM.out.symm; subst em; have H3 := hide (H2.out.then T3); have HO3 := hide (own_touch HO.out T3 (fun _ _ f => f)); have HR3 := hide R3; clear T3 R3 hm3 hc3)
    | (go_at_call 13; refine (same_yes w3 _ _ _ _ HM.out.symm (Reads.of_own HO3.out) (own_le HO3.out) _ _ HR3.out).mono ?_; rintro e w4 ⟨rfl, T4⟩; have H4 := hide (H3.out.then T4); clear T4))
  go_ret
  exact ⟨rfl, H4.out.below (Nat.le_refl _) (fun _ _ f => f)⟩

end Go.Proofs.Ytcencmjdhaejcaa
