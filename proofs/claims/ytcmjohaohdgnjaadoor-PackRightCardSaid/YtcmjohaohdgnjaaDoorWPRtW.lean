/- PackRight: the walk. Condition: the labels are numbers of 32 bits. -/
import Derived.Test.YtcmjohaohdgnjaaDoorRrW
import Derived.Test.YtcmjohaohdgnjaaDoorAlive8
import Derived.Deep.RegionHeld3
namespace Go.Proofs.YtcmjohaohdgnjaaDoor
open Go.RowKit
set_option linter.unusedSectionVars false
set_option linter.unusedSimpArgs false
set_option linter.unusedVariables false
variable [Inhabited BaseT]

theorem BoolIff.is {P : Prop} {e : Ending} (h : BoolIff P e) {v : Bool} (hv : v = true ↔ P) : e = .returned (.bool v) := by
  obtain ⟨u, rfl, hu⟩ := h
  have : u = v := by
    rw [Bool.eq_iff_iff]
    exact hu.trans hv.symm
  rw [this]
theorem bool_of (P : Prop) : ∃ v : Bool, v = true ↔ P := by
  by_cases h : P
  · exact ⟨true, by simp [h]⟩
  · exact ⟨false, by simp [h]⟩

set_option maxRecDepth 100000 in
set_option maxHeartbeats 4000000 in
theorem wpright_walk (W : World) (hL : Lst W) (base : Int) (A : Option Addr) (n c : Nat) (Z : List ZV) (hst : StsZ W A n Z) (hnm : n ≤ maxLen) (hlab : ∀ z ∈ Z, ∀ a ∈ z.arcs, I32 a.1) (hbs : bs ≤ W.heap.size) :
    Calls Tryd.prog 3 #[.agg #[.int .i64 base, .slice A n c]] W fun e W' => e = .returned (.bool true) ∧ Below W.heap.size W W' := by
  obtain ⟨w1, hw1⟩ : ∃ x, x = W.alloc (.cells #[.int .i64 base, .slice A n c] 24) := ⟨_, rfl⟩
  have hT1 : Touch (fun _ => False) W w1 := by rw [hw1]; exact (Touch.refl _ _).alloc _
  have hb1 : Blk w1 W.heap.size 24 #[.int .i64 base, .slice A n c] := by rw [hw1]; exact Blk.new _ _ _
  obtain ⟨v0, hv0⟩ := bool_of (RgtZ (Z.map ZV.p) base)
  have hks : ∀ wx, Touch (fun _ => False) w1 wx → wx.cell? ⟨W.heap.size, 0, none⟩ = some (.int .i64 base) ∧ wx.cell? ⟨W.heap.size, 1, none⟩ = some (.slice A n c) ∧ Touch (fun _ => False) w1 wx := fun wx T =>
    ⟨(hb1.touch T (fun f => f)).cell 0, (hb1.touch T (fun f => f)).cell 1, T⟩
  have hal : ∀ wx, Touch (fun _ => False) w1 wx → Calls Tryd.prog 11 #[] wx fun e w' => e = .returned (.bool true) ∧ Touch (fun _ => False) wx w' := fun wx T => alive8_any wx (Lst.touch hL (hT1.then T))
  have hc1 : ∀ wx, Touch (fun _ => False) w1 wx → Calls Tryd.prog 12 #[.agg #[.int .i64 base, .slice A n c]] wx fun e w' => e = .returned (.bool v0) ∧ Touch (fun _ => False) wx w' := fun wx T =>
    (gright_any wx (Lst.touch hL (hT1.then T)) base A n c Z (hst.quiet (hT1.then T)) hnm (by have := (hT1.then T).size; omega)).mono fun e w' h => ⟨h.1.is hv0, h.2⟩
  have hc2 : ∀ wx, Touch (fun _ => False) w1 wx → Calls Tryd.prog 13 #[.agg #[.int .i64 base, .slice A n c]] wx fun e w' => e = .returned (.bool v0) ∧ Touch (fun _ => False) wx w' := fun wx T =>
    (rright_any wx base A n c Z (hst.quiet (hT1.then T)) hnm hlab (by have := (hT1.then T).size; omega)).mono fun e w' h => ⟨h.1.is hv0, h.2⟩
  have HW1 := hide hw1
  have HT1 := hide hT1
  have HKS := hide hks
  have HAL := hide hal
  have HC1 := hide hc1
  have HC2 := hide hc2
  clear hw1 hT1 hb1 hv0 hks hal hc1 hc2 hst hlab hbs hL hnm
  by_cases hbig : 300 < n
  · have y0 : (300 : Int) < (n : Int) := by omega
    clear hbig
    go_enter Tryd.func3, Tryd.ntmps3
    go_wp2_with fail
    rw [← HW1.out]
    obtain ⟨k0, k1, _⟩ := HKS.out w1 (Touch.refl _ _)
    go_region_with (first
      | (go_at_call 11; refine (HAL.out _ ((Touch.refl _ _).drew)).mono ?_; rintro e w2 ⟨rfl, T2⟩; obtain ⟨k0, k1, T3⟩ := HKS.out w2 ((Touch.refl _ _).drew.then T2); have HT2 := hide T3; clear T3))
    all_goals
      go_wp2_with fail
      go_ret
      exact ⟨rfl, (HT1.out.then HT2.out).below (Nat.le_refl _) (fun _ _ f => f)⟩
  · have y0 : ¬ (300 : Int) < (n : Int) := by omega
    have y1 : decide ((300 : Int) < (n : Int)) = false := by simp; omega
    clear hbig
    go_enter Tryd.func3, Tryd.ntmps3
    go_wp2_with fail
    rw [← HW1.out]
    go_region_held3 (fun w' => w'.cell? ⟨W.heap.size, 0, none⟩ = some (.int .i64 base) ∧ w'.cell? ⟨W.heap.size, 1, none⟩ = some (.slice A n c) ∧ Touch (fun _ => False) w1 w')
      (first
        | exact HKS.out _ (Touch.refl _ _)
        | exact HKS.out _ (Touch.refl _ _).drew
        | (refine HKS.out _ (Touch.then ?_ (by assumption)); first | assumption | exact and_last3' (by assumption) | exact (Touch.refl _ _).drew | exact Touch.refl _ _))
      (first
        | (go_at_call 11; refine (HAL.out _ (by first | exact and_last3' (by assumption) | exact (Touch.refl _ _).drew)).mono ?_; rintro e w2 ⟨rfl, T2⟩)
        | (go_at_call 12; refine (HC1.out _ (by first | exact and_last3' (by assumption) | exact (Touch.refl _ _).drew)).mono ?_; rintro e w2 ⟨rfl, T2⟩)
        | (go_at_call 13; refine (HC2.out _ (by first | exact and_last3' (by assumption) | exact (Touch.refl _ _).drew)).mono ?_; rintro e w2 ⟨rfl, T2⟩))
    all_goals
      go_wp2_with fail
      go_ret
      exact ⟨by simp, (HT1.out.then (and_last3' (by assumption))).below (Nat.le_refl _) (fun _ _ f => f)⟩

end Go.Proofs.YtcmjohaohdgnjaaDoor
