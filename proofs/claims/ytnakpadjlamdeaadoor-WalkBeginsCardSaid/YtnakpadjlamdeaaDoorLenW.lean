/- (*walk.Walk).Len, Base, on a walk in memory. No condition but that there are no more than a million states. -/
import Derived.Test.YtnakpadjlamdeaaDoorAtP
import Derived.BigQuiet
import Derived.Deep.QuietTactic
namespace Go.Proofs.YtnakpadjlamdeaaDoor
open Go.RowKit

/-- A walk in memory, to read. -/
structure WkM (w : World) (b : Nat) (base : Int) (A : Option Addr) (n c : Nat) (Z : List SV) (wA : Option Addr) (wc : Nat) (W : List Int) : Prop where
  blk : Blk w b 67 #[.int .i64 base, .slice A n c, .slice wA n wc]
  sts : StsOk w A n Z
  wds : RdT w 3 1 wA n (W.map intV)
  len : W.length = n
theorem WkM.quiet {w w' : World} {b : Nat} {base : Int} {A : Option Addr} {n c : Nat} {Z : List SV} {wA : Option Addr} {wc : Nat} {W : List Int} (h : WkM w b base A n c Z wA wc W) (T : Touch (fun _ => False) w w') : WkM w' b base A n c Z wA wc W :=
  ⟨h.blk.touch T (fun f => f), h.sts.quiet T, h.wds.quiet T, h.len⟩
theorem NewI.wk {w wr : World} {b : Nat} {base : Int} {A : Option Addr} {n c : Nat} {Z : List SV} {wA : Option Addr} {wc : Nat} {W : List Int} (h : NewI w wr b base A n c Z wA n wc W) (hl : Z.length = n) (hW : W.length = n) : WkM wr b base A n c Z wA wc W :=
  ⟨h.blk, ⟨RdT.of_own h.own, hl, h.el⟩, RdT.of_own h.wds, hW⟩
theorem word_cell {w : World} {A : Option Addr} {n : Nat} {W : List Int} (h : RdT w 3 1 A n (W.map intV)) (hl : W.length = n) (k : Nat) (hk : k < n) :
    ∃ g off, A = some ⟨g, off, none⟩ ∧ g < w.heap.size ∧ w.cell? ⟨g, off + k, none⟩ = some (.int .i64 (W.getD k 0)) := by
  obtain ⟨g, off, hA, hg, hc⟩ := h.rd.2 (by omega)
  refine ⟨g, off, hA, hg, hc k _ ?_⟩
  rw [List.getElem?_map, getD_get? (d := 0) (by omega)]
  rfl
def lenOf (n : Nat) (W : List Int) : Int := if n = 0 then 0 else W.getD (n - 1) 0

set_option maxRecDepth 100000 in
set_option maxHeartbeats 2000000 in
theorem len_any (w : World) (b : Nat) (base : Int) (A : Option Addr) (n c : Nat) (Z : List SV) (wA : Option Addr) (wc : Nat) (W : List Int) (hM : WkM w b base A n c Z wA wc W) (hn : n ≤ 1000000) :
    Calls Tryd.prog 26 #[.pointer (some ⟨b, 0, none⟩)] w fun e w' => e = .returned (.int .i64 (lenOf n W)) ∧ Touch (fun _ => False) w w' := by
  obtain ⟨x0, x1, x2⟩ := hM.blk.facts
  have HB := hide hM.blk
  have HN := hide hn
  by_cases h0 : n = 0
  · subst h0
    clear hM
    go_enter Tryd.func26, Tryd.ntmps26
    go_wp2_with fail
    go_ret
    exact ⟨rfl, Touch.refl _ _⟩
  · obtain ⟨g, o, hA, hg, c0⟩ := word_cell hM.wds hM.len (n - 1) (by omega)
    subst hA
    have e : lenOf n W = W.getD (n - 1) 0 := by unfold lenOf; rw [if_neg h0]
    rw [e]
    obtain ⟨x, hx⟩ : ∃ x, W.getD (n - 1) 0 = x := ⟨_, rfl⟩
    rw [hx] at c0 ⊢
    have y0 : ((n : Int) == 0) = false := by simp; omega
    have y1 : ¬ (n : Int) = 0 := by omega
    have y2 : (0 : Int) ≤ (n : Int) - 1 := by omega
    have y3 : (n : Int) - 1 < (n : Int) := by omega
    have y4 : ((n : Int) - 1).toNat = n - 1 := by omega
    clear hM e hx hn
    go_enter Tryd.func26, Tryd.ntmps26
    go_wp2_with fail
    go_quiet ((go_at_call 20; exact Calls.quiet_of_same (root_any _ b base A n c _ HB.out HN.out)))
    go_wp2_with fail
    go_ret
    exact ⟨rfl, (Touch.refl _ _).drewN _⟩

theorem base_any (w : World) (b : Nat) (base : Int) (sv wv : Value) (hb : Blk w b 67 #[.int .i64 base, sv, wv]) :
    Calls Tryd.prog 21 #[.pointer (some ⟨b, 0, none⟩)] w fun e w' => e = .returned (.int .i64 base) ∧ w' = w := by
  obtain ⟨x0, x1, x2⟩ := hb.facts
  go_enter Tryd.func21, Tryd.ntmps21
  go_wp2
  go_ret
  exact ⟨rfl, rfl⟩

end Go.Proofs.YtnakpadjlamdeaaDoor
