/- The sort's parts: the comparison; ranges swapped. No condition but that the row is the program's own. -/
import Derived.Test.YtfaoifggkfmokaaDoorFnd
import Derived.Lib.Strings
import Derived.Lib.Slices
import Derived.Lib.Walk
import Derived.BigRegion
namespace Go.Proofs.YtfaoifggkfmokaaDoor
open Go.RowKit

set_option maxRecDepth 100000 in
theorem cstring_any (a b : ByteArray) (w : World) :
    Calls Tryd.prog 65 #[.string a, .string b] w fun e w' => e = .returned (.int .i64 (Lib.compareBytes a.data.toList b.data.toList)) ∧ w' = w := by
  go_enter Tryd.func65, Tryd.ntmps65
  go_wp2
  rw [run_callFunc_extern Tryd.func84 (by kernel_rfl) (by kernel_rfl) (by kernel_rfl) (e := Extern.BytealgCompare.compare) (by kernel_rfl), Lib.run_compareString]
  simp only [Result.andThen]
  rw [Oper.upon_value]
  go_wp2
  go_ret
  exact ⟨rfl, rfl⟩

theorem compare_any (a b : ByteArray) (w : World) :
    Calls Tryd.prog 43 #[.string a, .string b] w fun e w' => e = .returned (.int .i64 (Lib.compareBytes a.data.toList b.data.toList)) ∧ w' = w := by
  go_enter Tryd.func43, Tryd.ntmps43
  go_wp2_with (go_at_call 65; refine (cstring_any _ _ _).mono ?_; rintro e w' ⟨rfl, rfl⟩)
  go_ret
  exact ⟨rfl, rfl⟩

/-- The function that the sort is handed. -/
abbrev cmpF : Value := .func (.func 80) #[] #[]

set_option maxRecDepth 100000 in
theorem cmp_any (a b : PRow) (w : World) :
    Calls Tryd.prog 80 #[a.val, b.val] w fun e w' => (∃ z : Int, e = .returned (.int .i64 z) ∧ decide (z < 0) = plt a b) ∧ Touch (fun _ => False) w w' := by
  obtain ⟨aw, an⟩ := a
  obtain ⟨bw, bn⟩ := b
  rw [pval_eq, pval_eq]
  go_enter Tryd.func80, Tryd.ntmps80
  go_wp2_with (go_at_call 43; refine (compare_any aw bw _).mono ?_; rintro e w' ⟨rfl, rfl⟩)
  go_ret
  refine ⟨⟨_, rfl, ?_⟩, ((Touch.refl _ _).alloc _).alloc _⟩
  rw [compare_neg]
  show Op.bytesLess aw.data.toList bw.data.toList = Op.bytesLess aw.toList bw.toList
  rw [Go.ByteArray.toList_eq, Go.ByteArray.toList_eq]

/-! ### swapRange -/
def swrF (X : List PRow) (a b : Nat) : Nat → List PRow
  | 0 => X
  | k + 1 => swpP (swrF X a b k) (a + k) (b + k)
theorem swrF_len (X : List PRow) (a b k : Nat) : (swrF X a b k).length = X.length := by
  induction k with
  | zero => rfl
  | succ k ih => rw [swrF, swpP_len, ih]

set_option maxRecDepth 100000 in
set_option maxHeartbeats 1000000 in
theorem swr_any (w : World) (A : Option Addr) (n c : Nat) (X : List PRow) (h : POwn w A n c X) (a b k : Nat) (ha : a + k ≤ n) (hb : b + k ≤ n) (F : Value) :
    Calls Tryd.prog 98 #[.slice A n c, .int .i64 a, .int .i64 b, .int .i64 k, F] w fun e w' => e = .returned (.tuple #[]) ∧ POwn w' A n c (swrF X a b k) ∧ Touch (fun g => adBlock A = some g) w w' := by
  have hn := own_le h
  unfold maxLen at hn
  have HX := hide h
  have HL := hide (pown_len h)
  clear h
  go_enter Tryd.func98, Tryd.ntmps98
  go_wp2
  go_loopw [10] (fun iv wr => ∃ i : Nat, i ≤ k ∧ iv = .int .i64 i ∧ Hid (POwn wr A n c (swrF X a b i)) ∧ Hid (Touch (fun g => adBlock A = some g) w wr)) (fun iv _ => k - (intOf iv).toNat)
  case atStart => exact ⟨0, Nat.zero_le _, rfl, HX, hide (Touch.refl _ _)⟩
  case round =>
    obtain ⟨i, hi, rfl, HO, HT⟩ := hrel
    by_cases hik : i < k
    · obtain ⟨Y, hY⟩ : ∃ Y, Y = swrF X a b i := ⟨_, rfl⟩
      have HYE := hide hY
      rw [← hY] at HO
      have hl := pown_len HO.out
      obtain ⟨x, hx0⟩ : ∃ x, x = a + i := ⟨_, rfl⟩
      obtain ⟨y, hy0⟩ : ∃ x, x = b + i := ⟨_, rfl⟩
      obtain ⟨g, rfl, hg, a0, a1, f0, f1⟩ := pown_at HO.out hl x (by omega)
      obtain ⟨g', hA, _, b0, b1, f3, f4⟩ := pown_at HO.out hl y (by omega)
      injection hA with hA
      injection hA with hA _
      subst hA
      obtain ⟨⟨xw, xn⟩, hx⟩ : ∃ r, r = Y.getD x PRow.zero := ⟨_, rfl⟩
      obtain ⟨⟨yw, yn⟩, hy⟩ : ∃ r, r = Y.getD y PRow.zero := ⟨_, rfl⟩
      rw [← hx] at a0 a1
      rw [← hy] at b0 b1
      simp only at a0 a1 b0 b1
      have EX := hide hx
      have EY := hide hy
      have EX0 := hide hx0
      have EY0 := hide hy0
      have i0 : (i : Int) < (k : Int) := by omega
      have i1 : x < n := by omega
      have i2 : y < n := by omega
      have i3 : (a : Int) + (i : Int) = (x : Int) := by omega
      have i4 : (b : Int) + (i : Int) = (y : Int) := by omega
      have i5 : (x : Int) < (n : Int) := by omega
      have i6 : (y : Int) < (n : Int) := by omega
      have i7 : IntKind.i64.wrap (x : Int) = (x : Int) := IntWalk.i64_in _ (by omega)
      have i8 : IntKind.i64.wrap (y : Int) = (y : Int) := IntWalk.i64_in _ (by omega)
      obtain ⟨v0, s0⟩ := cell?_setCell_some (p := ⟨g, x * 2, none⟩) (x := .string yw) b0
      obtain ⟨v1, s1⟩ := cell?_setCell_some (p := ⟨g, x * 2, none⟩) (x := .string yw) b1
      obtain ⟨v1, s1⟩ := cell?_setCell_some (p := ⟨g, x * 2 + 1, none⟩) (x := .int .i64 yn) s1
      clear hx hy hY hl hx0 hy0
      go_wp2
      go_region
      all_goals go_wp2
      go_roundw
      · have HS := pown_set2 (pown_set2 HO.out x ⟨yw, yn⟩) y ⟨xw, xn⟩
        have e : swpP Y x y = (Y.set x ⟨yw, yn⟩).set y ⟨xw, xn⟩ := by unfold swpP; rw [← EX.out, ← EY.out]
        rw [← e] at HS
        have e2 : swrF X a b (i + 1) = swpP Y x y := by rw [swrF, ← HYE.out, ← EX0.out, ← EY0.out]
        rw [← e2] at HS
        refine ⟨i + 1, by omega, by simp, hide (own_touch (S := fun _ => False) HS (Touch.refl _ _).drew (fun _ _ f => f)), hide ?_⟩
        refine Touch.drew ?_
        iterate 4 refine Touch.setCell ?_ (fun _ => (rfl : adBlock (some ⟨g, 0, none⟩) = some g)) _
        exact HT.out
      · show k - (intOf (.int .i64 ((i : Int) + 1))).toNat < k - (intOf (.int .i64 (i : Int))).toNat
        simp [intOf]
        omega
    · have hk' : i = k := by omega
      subst hk'
      go_wp2
      go_end0
      exact ⟨rfl, HO.out, HT.out⟩

end Go.Proofs.YtfaoifggkfmokaaDoor
