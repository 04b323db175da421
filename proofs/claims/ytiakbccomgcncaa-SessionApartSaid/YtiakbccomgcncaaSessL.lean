/- SessionFull's walk: it returns true at every number. No condition. -/
import Derived.Test.YtiakbccomgcncaaSessV
namespace Go.Proofs.Ytiakbccomgcncaa
open Go.RowKit

/-- A table of the call's own: it lies from block B on. -/
def MyTab (B : Nat) (w : World) (p : Nat) (v : Value) (l : List SRow) : Prop := Tab w p v l ∧ B ≤ p ∧ ∀ g, v.ownBlock = some g → B ≤ g

theorem MyTab.off {B : Nat} {w : World} {p : Nat} {v : Value} {l : List SRow} (h : MyTab B w p v l) : ∀ k, k < B → ¬ fp p v k := by
  intro k hk hf
  rcases hf with hf | hf
  · have := h.2.1; omega
  · have := h.2.2 _ hf; omega
theorem MyTab.quiet {B : Nat} {w w' : World} {p : Nat} {v : Value} {l : List SRow} (h : MyTab B w p v l) (ht : Touch (fun _ => False) w w') : MyTab B w' p v l :=
  ⟨h.1.touch ht (fun f => f) (fun _ _ f => f), h.2⟩
theorem below_touch {B : Nat} {W w w' : World} {S : Nat → Prop} (h : Below B W w) (ht : Touch S w w') (hB : B ≤ W.heap.size) (hS : ∀ k, k < B → ¬ S k) : Below B W w' :=
  h.trans (ht.below (by have := h.size; omega) hS)
theorem MyTab.fresh {B : Nat} {w w' : World} {p : Nat} {v v' : Value} {l l' : List SRow} (h : MyTab B w p v l) (ht : Tab w' p v' l') (hB : B ≤ w.heap.size) (hf : Fresh w v v') : MyTab B w' p v' l' := by
  refine ⟨ht, h.2.1, fun g hg => ?_⟩
  rcases hf with f | ⟨g', f, hg'⟩
  · exact h.2.2 g (by rw [← f]; exact hg)
  · rw [f] at hg; injection hg with hg; omega

theorem rep_snoc (k : Nat) : List.replicate k SRow.zero ++ [SRow.zero] = List.replicate (k + 1) SRow.zero := by
  rw [List.replicate_succ']

def fullRows : List SRow := List.replicate 4096 SRow.zero
theorem fullRows_len : fullRows.length = 4096 := by unfold fullRows; rw [List.length_replicate]
theorem fullRows_keep : keepB fullRows 4096 1 = true := by
  have h : rowAt fullRows 4096 = SRow.zero := by
    rw [show (4096 : Int) = ((4095 : Nat) : Int) + 1 from rfl, rowAt_succ _ _ (by rw [fullRows_len]; omega)]
    unfold fullRows
    rw [List.getElem_replicate]
  unfold keepB thereB
  rw [h, fullRows_len]
  decide

theorem full_walk (w : World) (more : Int) : Calls Try.prog 4 #[.int .i64 more] w fun e w' => e = .returned (.bool true) ∧ Below w.heap.size w w' := by
  by_cases h1 : more < 1
  · go_enter Try.func4, Try.ntmps4
    go_wp2_with (go_at_call 10; refine (alive_any _).mono ?_; rintro e w1 ⟨rfl, ht1⟩; have T1 := hide ht1; clear ht1)
    go_ret
    exact ⟨rfl, T1.out.below (Nat.le_refl _) (fun _ _ f => f)⟩
  by_cases h2 : 100 < more
  · go_enter Try.func4, Try.ntmps4
    go_wp2_with (go_at_call 10; refine (alive_any _).mono ?_; rintro e w1 ⟨rfl, ht1⟩; have T1 := hide ht1; clear ht1)
    go_ret
    exact ⟨rfl, T1.out.below (Nat.le_refl _) (fun _ _ f => f)⟩
  obtain ⟨m, rfl⟩ : ∃ m : Nat, more = (m : Int) := ⟨more.toNat, by omega⟩
  have hm1 : (1 : Int) ≤ (m : Int) := by omega
  have hm2 : (m : Int) ≤ 100 := by omega
  clear h1 h2
  obtain ⟨B, hB⟩ : ∃ B, B = w.heap.size := ⟨_, rfl⟩
  have HB := hide hB
  rw [← hB]
  clear hB
  go_enter Try.func4, Try.ntmps4
  go_wp2_with (first
    | (go_at_call 10; refine (alive_any _).mono ?_; rintro e w1 ⟨rfl, ht1⟩; have T1 := hide ht1; clear ht1)
    | (go_at_call 9; refine (new_any _).mono ?_; rintro e w2 ⟨rfl, ht2, hc2⟩; have M2 := hide (show MyTab B w2 w1.heap.size _ [] from ⟨ht2, by have := T1.out.size; have := HB.out; omega, fun g hg => by cases hg⟩); have B2 := hide (show Below B w w2 from ((Below.refl B w).trans (T1.out.below (Nat.le_of_eq HB.out) (fun _ _ f => f))).trans (hc2.below (by have := T1.out.size; have := HB.out; omega) (fun _ _ f => f))); clear ht2 hc2))
  obtain ⟨p, hp⟩ : ∃ p, p = w1.heap.size := ⟨_, rfl⟩
  rw [← hp] at M2 ⊢
  clear hp
  obtain ⟨M, hM⟩ : ∃ M : Nat, M = 4096 := ⟨_, rfl⟩
  have HMM := hide hM
  clear hM
  go_loopw [21] (fun i wr => ∃ k : Nat, k ≤ M ∧ i = .int .i64 k ∧ ∃ v, MyTab B wr p v (List.replicate k SRow.zero) ∧ Below B w wr) (fun i _ => M - (intOf i).toNat)
  case atStart => exact ⟨0, Nat.zero_le _, rfl, _, M2.out, B2.out⟩
  case round =>
    obtain ⟨k, hk, rfl, v, hM, hBel⟩ := hrel
    have HM := hide hM
    have HBel := hide hBel
    clear hM hBel M2 B2
    by_cases hk4 : (k : Int) < 4096
    · go_wp2_with (go_at_call 11; refine (open_room _ p v _ HM.out.1 (by rw [List.length_replicate]; omega)).mono ?_; rintro e w2 ⟨rfl, v2, ht2, hc2, hf2⟩; rw [List.length_replicate]; have T2 := hide ht2; have C2 := hide hc2; have F2 := hide hf2; clear ht2 hc2 hf2)
      go_roundw
      case rel => exact ⟨k + 1, by have := HMM.out; omega, by go_num, v2, by rw [← rep_snoc]; exact HM.out.fresh T2.out (by have := HBel.out.size; have := HB.out; omega) F2.out, below_touch HBel.out C2.out (Nat.le_of_eq HB.out) HM.out.off⟩
      case measure => have := HMM.out; simp [intOf]; omega
    · have hk5 : k = 4096 := by have := HMM.out; omega
      have HM2 := hide (show MyTab B wr p v fullRows from by unfold fullRows; rw [← hk5]; exact HM.out)
      clear HM hk5
      go_wp2_with fail
      go_loopw [40] (fun i wr => ∃ k : Nat, k ≤ m ∧ i = .int .i64 k ∧ MyTab B wr p v (fullRows) ∧ Below B w wr) (fun i _ => m - (intOf i).toNat)
      case atStart => exact ⟨0, by omega, rfl, HM2.out, HBel.out⟩
      case round =>
        obtain ⟨k, hk, rfl, hM, hBel⟩ := hrel
        clear HM2 HBel
        have HM := hide hM
        have HBel := hide hBel
        clear hM hBel
        by_cases hkm : k < m
        · go_wp2_with (first | (go_at_call 11; refine (open_full _ p v _ HM.out.1 fullRows_len).mono ?_; rintro e w2 ⟨rfl, rfl⟩) | (go_at_call 14; refine (len_any _ p v _ HM.out.1).mono ?_; rintro e w2 ⟨rfl, rfl⟩; rw [fullRows_len]))
          go_roundw
          case rel => exact ⟨k + 1, by omega, by go_num, HM.out, HBel.out⟩
          case measure => simp [intOf]; omega
        · go_wp2_with (go_at_call 13; refine (keep_yes _ p v _ HM.out.1 4096 1 ⟨0, 0, 0, 0⟩ ?_).mono ?_; rotate_left; rintro e w2 ⟨rfl, ht2, hc2⟩; have C2 := hide hc2; clear ht2 hc2)
          · go_ret
            exact ⟨rfl, below_touch HBel.out C2.out (Nat.le_of_eq HB.out) HM.out.off⟩
          · exact fullRows_keep

end Go.Proofs.Ytiakbccomgcncaa
