/- 'alive' of the session's laws: it returns true. No condition. -/
import Derived.Test.YtiakbccomgcncaaSessB
namespace Go.Proofs.Ytiakbccomgcncaa
open Go.RowKit

theorem alive_any (w : World) : Calls Try.prog 10 #[] w fun e w' => e = .returned (.bool true) ∧ Touch (fun _ => False) w w' := by
  have q23 : ∀ (w : World) (a : Addr), (binOp .eql 23 (.pointer (some a)) (.pointer none)).run Try.prog w = .ok (.bool false) w := fun w a => by kernel_rfl
  go_enter Try.func10, Try.ntmps10
  go_wp2_with (first
    | (go_at_call 9; refine (new_any _).mono ?_; rintro e w1 ⟨rfl, ht1, hc1⟩; have T1 := hide ht1; have C1 := hide hc1; clear ht1 hc1)
    | (go_at_call 11; refine (open_room _ _ _ _ T1.out (by simp)).mono ?_; rintro e w2 ⟨rfl, v2, ht2, hc2, hf2⟩; have T2 := hide ht2; have C2 := hide hc2; have F2 := hide hf2; clear ht2 hc2 hf2)
    | (go_at_call 13; refine (keep_yes _ _ _ _ T2.out _ _ ⟨0, 0, 0, 3⟩ (by decide)).mono ?_; rintro e w3 ⟨rfl, ht3, hc3⟩; have T3 := hide ht3; have C3 := hide hc3; clear ht3 hc3)
    | (go_at_call 12; refine (check_any _ _ _ _ T3.out _ _ ⟨0, 0, 3, true, 0⟩ (by rfl)).mono ?_; rintro e w4 ⟨rfl, hc4⟩; have C4 := hide hc4; clear hc4; unfold CRes.val))
  go_ret
  refine ⟨rfl, ?_⟩
  have h2 := C1.out.trans C2.out (T := _) (fun i hi h => by
    rcases h with h | h
    · omega
    · cases h)
  have h3 := h2.trans C3.out (T := _) (fun i hi h => by
    rcases h with h | h
    · omega
    · rcases F2.out with f | ⟨g, f, hg⟩
      · rw [f] at h; cases h
      · rw [f] at h; have := C1.out.size; injection h with h; omega)
  exact (h3.then C4.out).alloc _

end Go.Proofs.Ytiakbccomgcncaa
