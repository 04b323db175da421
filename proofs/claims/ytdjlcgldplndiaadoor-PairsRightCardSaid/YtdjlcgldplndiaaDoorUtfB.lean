/- A text's first rune: letters.first. Condition: the package's variable lies as its initialiser lays it. -/
import Derived.Test.YtdjlcgldplndiaaDoorUtfA
namespace Go.Proofs.YtdjlcgldplndiaaDoor
open Go.RowKit

set_option maxRecDepth 100000 in
set_option maxHeartbeats 2000000 in
theorem first_any (w : World) (s : ByteArray) (hs : 0 < s.size) (hm : s.size ≤ 9223372036854775807) (hL : Lst w) :
    Calls Tryd.prog 40 #[.string s] w fun e w' => e = .returned (.tuple #[.int .i32 (utf1 s.toList).1, .int .i64 (utf1 s.toList).2]) ∧ Touch (fun _ => False) w w' := by
  have hlc := list_cons s hs
  obtain ⟨x, hx⟩ : ∃ x, utf1 s.toList = x := ⟨_, rfl⟩
  rw [hx]
  rw [hlc, utf1] at hx
  have hb := s[0].toNat_lt
  have y0 : (0 : Int) < (s.size : Int) := by omega
  by_cases c1 : s[0].toNat < 128
  · rw [if_pos c1] at hx
    subst hx
    clear hlc
    go_enter Tryd.func40, Tryd.ntmps40
    go_wp2
    exact bodyPost_ret (v := .tuple #[.int .i32 (s[0].toNat : Int), .int .i64 1]) (by simp [results, Tryd.results40, go_sem]) rfl ⟨rfl, Touch.refl _ _⟩
  · rw [if_neg c1] at hx
    by_cases c2 : s[0].toNat / 32 = 6
    · rw [if_pos c2] at hx
      by_cases hz : 2 ≤ s.size
      · exact first_two w s hz hm (by omega) (by omega) hL x hx
      · unfold seqU at hx
        rw [if_pos (by rw [List.length_drop, toList_len]; omega)] at hx
        subst hx
        clear hlc
        go_enter Tryd.func40, Tryd.ntmps40
        go_wp2
        exact bodyPost_ret (v := .tuple #[.int .i32 0, .int .i64 0]) (by simp [results, Tryd.results40, go_sem]) rfl ⟨rfl, Touch.refl _ _⟩
    · rw [if_neg c2] at hx
      by_cases c3 : s[0].toNat / 16 = 14
      · rw [if_pos c3] at hx
        by_cases hz : 3 ≤ s.size
        · exact first_three w s hz hm (by omega) (by omega) hL x hx
        · unfold seqU at hx
          rw [if_pos (by rw [List.length_drop, toList_len]; omega)] at hx
          subst hx
          clear hlc
          go_enter Tryd.func40, Tryd.ntmps40
          go_wp2
          exact bodyPost_ret (v := .tuple #[.int .i32 0, .int .i64 0]) (by simp [results, Tryd.results40, go_sem]) rfl ⟨rfl, Touch.refl _ _⟩
      · rw [if_neg c3] at hx
        by_cases c4 : s[0].toNat / 8 = 30
        · rw [if_pos c4] at hx
          by_cases hz : 4 ≤ s.size
          · exact first_four w s hz hm (by omega) (by omega) hL x hx
          · unfold seqU at hx
            rw [if_pos (by rw [List.length_drop, toList_len]; omega)] at hx
            subst hx
            clear hlc
            go_enter Tryd.func40, Tryd.ntmps40
            go_wp2
            exact bodyPost_ret (v := .tuple #[.int .i32 0, .int .i64 0]) (by simp [results, Tryd.results40, go_sem]) rfl ⟨rfl, Touch.refl _ _⟩
        · rw [if_neg c4] at hx
          subst hx
          clear hlc
          go_enter Tryd.func40, Tryd.ntmps40
          go_wp2
          exact bodyPost_ret (v := .tuple #[.int .i32 0, .int .i64 0]) (by simp [results, Tryd.results40, go_sem]) rfl ⟨rfl, Touch.refl _ _⟩

end Go.Proofs.YtdjlcgldplndiaaDoor
