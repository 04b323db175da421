/- slices.Backward at a list of pairs: what its iterator hands to a loop's body. No condition but the model's own bound on a slice's length. -/
import Derived.RangeFuncNested
import Derived.RangeFuncBound
import Derived.RangeFuncCalls
import Derived.RangeFuncLeaves
import Derived.Shelf.Abstract
import Derived.Shelf.RegionOpen
import Derived.WalkKit
import Derived.OwnWalkIn
import Derived.TacticsInMore
import Derived.LoopNIn
import Derived.LoopIn
import Derived.Test.YtdjlcgldplndiaaDoorFind6
namespace Go.Proofs.YtdjlcgldplndiaaDoor
open Go.RowKit Go.Shelf

attribute [local go_sem] Oper.semAt_some

theorem touch_below {B : Nat} {w0 W w' : World} (h0 : Touch (fun _ => False) w0 W) (h : Below B W w') (hB : w0.heap.size ≤ B) : Touch (fun _ => False) w0 w' :=
  ⟨h.os.trans h0.os, h.tape.trans h0.tape, h.output.trans h0.output, Nat.le_trans h0.size h.size, fun k hk _ => (h.block k (Nat.lt_of_lt_of_le hk hB)).trans (h0.block k hk (fun f => f))⟩

/-- What has come when k rounds are over. -/
def upto {α : Type} (f : Nat → α) (k : Nat) : List α := (List.range k).map f
theorem upto_succ {α : Type} (f : Nat → α) (k : Nat) : upto f (k + 1) = upto f k ++ [f k] := by simp [upto, List.range_succ]
theorem upto_length {α : Type} (f : Nat → α) (k : Nat) : (upto f k).length = k := by simp [upto]

/-- What the iterator hands over in round j: the place, and the pair that stands there. -/
def backF (L : List PRow) (j : Nat) : Int × PRow := (((L.length - 1 - j : Nat) : Int), L.getD (L.length - 1 - j) PRow.zero)
def backEnc (x : Int × PRow) : Array Value := #[.int .i64 x.1, .agg #[.string x.2.word, .int .i64 x.2.weight]]

set_option maxRecDepth 100000 in
set_option maxHeartbeats 2000000 in
theorem back1_in (F : Fence) (n : Nat) (hf : F.fn 39) (hro : F.round = none) (hn : 1 ≤ n) (l Bs n0 : Nat) (w0 : World) (A : Option Addr) (len cap : Nat) (L : List PRow) (hL : L.length = len) (hR : Reads w0 2 A len (pCells L)) (hlen : len ≤ maxLen) (J Jx : List (Int × PRow) → World → Prop)
    (hY : ∀ pre x W, J pre W → pre.length < len → YieldAt F (n - 1) Tryd.prog l (backEnc x) W fun e W' =>
      (e = .returned (.bool true) ∧ J (pre ++ [x]) W' ∧ Below n0 W W') ∨ (e = .returned (.bool false) ∧ Jx (pre ++ [x]) W'))
    (W : World) (hW : Touch (fun _ => False) w0 W) (hbs : Bs < n0) (hn0 : w0.heap.size ≤ n0) (hBs : W.cell? ⟨Bs, 0, none⟩ = some (.slice A len cap)) (h0 : J [] W) :
    CallsIn F n Tryd.prog 39 #[.func (.yield l) #[] #[], .pointer (some ⟨Bs, 0, none⟩)] W fun e W' => (∃ v, e = .returned v) ∧
      ((∃ ys, ys = upto (backF L) len ∧ J ys W') ∨ (∃ pre, (∃ k, k ≤ len ∧ pre = upto (backF L) k) ∧ Jx pre W')) := by
  unfold maxLen at hlen
  have HR := hide hR
  have HL := hide hL
  have hw : IntKind.i64.wrap ((len : Int) - 1) = (len : Int) - 1 := IntWalk.i64_in _ (by omega)
  have HST : ((len : Int) - 1 = -1 ∧ len = 0) ∨ ∃ i : Nat, (len : Int) - 1 = (i : Int) ∧ len = i + 1 := by
    by_cases h : len = 0
    · exact .inl ⟨by omega, h⟩
    · exact .inr ⟨len - 1, by omega, by omega⟩
  have HST := hide HST
  clear hR hL
  refine callsIn_of_wp Tryd.func39 rfl hf ?_ hro
  simp only [Tryd.ntmps39, List.size_toArray, List.length_cons, List.length_nil, Nat.reduceAdd, Nat.reduceSub, Array.replicate_succ, Array.replicate_zero, List.push_toArray, List.append_toArray, List.nil_append, List.cons_append]
  gi_wp2
  gi_loopw [3] (fun iv wr => ∃ (z : Int) (k m : Nat), iv = .int .i64 z ∧ Hid (k + m = len) ∧ Hid ((z = -1 ∧ m = 0) ∨ ∃ i : Nat, z = (i : Int) ∧ m = i + 1) ∧ Hid (J (upto (backF L) k) wr) ∧ Hid (Below n0 W wr)) (fun iv _ => (intOf iv + 1).toNat)
  case atStart => exact ⟨_, 0, len, rfl, hide (Nat.zero_add _), HST, hide h0, hide (Below.refl _ _)⟩
  case round =>
    obtain ⟨z, k, m, rfl, HK, HZ, HJ, HB⟩ := hrel
    have c1 := (HB.out.cell (p := ⟨Bs, 0, none⟩) hbs).trans hBs
    rcases HZ.out with ⟨rfl, rfl⟩ | ⟨i, rfl, rfl⟩
    · clear HZ
      gi_wp2
      go_end0
      have hk : k = len := by have := HK.out; omega
      exact ⟨⟨_, rfl⟩, .inl ⟨_, rfl, by rw [← hk]; exact HJ.out⟩⟩
    · clear HZ
      have y0 : ¬ (i : Int) < 0 := by omega
      have y1 : (0 : Int) ≤ (i : Int) := by omega
      have y2 : i < len := by have := HK.out; omega
      have y3 : (i : Int) < (len : Int) := by omega
      have y4 : L.length - 1 - k = i := by have := HK.out; rw [HL.out]; omega
      obtain ⟨g, o, hA, _, a0, a1⟩ := preads_at (HR.out.touch (touch_below hW HB.out hn0) (fun _ _ f => f)) HL.out.symm i y2
      subst hA
      have hbf : backF L k = ((i : Int), L.getD i PRow.zero) := by unfold backF; rw [y4]
      have hus := upto_succ (backF L) k
      rw [hbf] at hus
      obtain ⟨⟨xw, xn⟩, hx⟩ : ∃ x, x = L.getD i PRow.zero := ⟨_, rfl⟩
      rw [← hx] at a0 a1 hus
      simp only at a0 a1
      have HUS := hide hus
      clear hx hus hbf
      obtain ⟨fn, tmps, assign, body, hy, hR⟩ := hY _ ((i : Int), ⟨xw, xn⟩) wr HJ.out (by rw [upto_length]; have := HK.out; omega)
      simp only [backEnc] at hy
      obtain ⟨z2, hz2⟩ : ∃ z2 : Int, (i : Int) - 1 = z2 := ⟨_, rfl⟩
      have hw2 : IntKind.i64.wrap z2 = z2 := IntWalk.i64_in _ (by omega)
      have HZ2 := hide hz2
      gi_wp2
      refine hR.mono ?_
      rintro e W3 (⟨rfl, hJ3, hk3⟩ | ⟨rfl, hJx3⟩)
      · have HJ3 := hide hJ3
        have HK3 := hide hk3
        clear hJ3 hk3
        gi_wp2
        go_roundw
        case rel =>
          have hz2 := HZ2.out
          refine ⟨z2, k + 1, i, rfl, hide (by have := HK.out; omega), hide ?_, hide (by rw [HUS.out]; exact HJ3.out), hide (HB.out.trans HK3.out)⟩
          by_cases hi0 : i = 0
          · exact .inl ⟨by omega, hi0⟩
          · exact .inr ⟨i - 1, by omega, by omega⟩
        case measure =>
          have hz2 := HZ2.out
          show (z2 + 1).toNat < ((i : Int) + 1).toNat
          omega
      · gi_wp2
        refine bodyPost_ret (results_none rfl _ _ _) rfl ?_
        exact ⟨⟨_, rfl⟩, .inr ⟨_, ⟨k + 1, by have := HK.out; omega, HUS.out.symm⟩, hJx3⟩⟩

end Go.Proofs.YtdjlcgldplndiaaDoor
