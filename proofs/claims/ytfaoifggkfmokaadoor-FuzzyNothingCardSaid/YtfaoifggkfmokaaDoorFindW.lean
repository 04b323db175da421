/- (*walk.Walk).Find on a machine in memory. Conditions: the arcs' labels differ in each state; what is added stays small. -/
import Derived.Test.YtfaoifggkfmokaaDoorMake
namespace Go.Proofs.YtfaoifggkfmokaaDoor
open Go.RowKit

/-- A walk in memory. -/
structure WkOk (w : World) (p : Addr) (base : Int) (A : Option Addr) (n c : Nat) (Z : List SV) (wv : Value) : Prop where
  blk : ∃ b, p = ⟨b, 0, none⟩ ∧ Blk w b 92 #[.int .i64 base, .slice A n c, wv]
  sts : StsOk w A n Z
theorem WkOk.quiet {w w' : World} {p : Addr} {base : Int} {A : Option Addr} {n c : Nat} {Z : List SV} {wv : Value} (h : WkOk w p base A n c Z wv) (T : Touch (fun _ => False) w w') : WkOk w' p base A n c Z wv := by
  obtain ⟨b, e, hb⟩ := h.blk
  exact ⟨⟨b, e, hb.touch T (fun f => f)⟩, h.sts.quiet T⟩

theorem root_any (w : World) (b : Nat) (base : Int) (A : Option Addr) (n c : Nat) (wv : Value) (hb : Blk w b 92 #[.int .i64 base, .slice A n c, wv]) (hn : n ≤ 1000000) :
    Calls Tryd.prog 31 #[.pointer (some ⟨b, 0, none⟩)] w fun e w' => e = .returned (.int .i64 ((n : Int) - 1)) ∧ w' = w := by
  obtain ⟨x0, x1, x2⟩ := hb.facts
  have z1 : IntKind.i64.wrap ((n : Int) - 1) = (n : Int) - 1 := IntWalk.i64_in _ (by omega)
  go_enter Tryd.func31, Tryd.ntmps31
  go_wp2
  go_ret
  exact ⟨rfl, rfl⟩
/-- One state, one arc, where they stand. -/
theorem sCells_at (X : List SV) (z0 : SV) (k : Nat) (hk : k < X.length) (j : Nat) (hj : j < 3) : (sCells X)[k * 3 + j]? = some ((X.getD k z0).cells.getD j undef) := by
  induction X generalizing k with
  | nil => simp at hk
  | cons x X ih =>
    have e : sCells (x :: X) = x.cells ++ sCells X := rfl
    cases k with
    | zero =>
      rw [e, Nat.zero_mul, Nat.zero_add]
      obtain rfl | rfl | rfl : j = 0 ∨ j = 1 ∨ j = 2 := by omega
      · rfl
      · rfl
      · rfl
    | succ k =>
      rw [e, List.getElem?_append_right (by simp [SV.cells]; omega)]
      have : (k + 1) * 3 + j - x.cells.length = k * 3 + j := by simp [SV.cells]; omega
      rw [this, ih k (by simp at hk; omega)]
      simp [List.getD]
theorem aCells_at (X : List (Nat × Int × Nat)) (k : Nat) (hk : k < X.length) (j : Nat) (hj : j < 3) : (aCells X)[k * 3 + j]? = some ([.int .i32 ((X.getD k (0, 0, 0)).1 : Int), .int .i64 (X.getD k (0, 0, 0)).2.1, .int .i64 ((X.getD k (0, 0, 0)).2.2 : Int)].getD j undef) := by
  induction X generalizing k with
  | nil => simp at hk
  | cons x X ih =>
    have e : aCells (x :: X) = [.int .i32 (x.1 : Int), .int .i64 x.2.1, .int .i64 (x.2.2 : Int)] ++ aCells X := rfl
    cases k with
    | zero =>
      rw [e, Nat.zero_mul, Nat.zero_add]
      obtain rfl | rfl | rfl : j = 0 ∨ j = 1 ∨ j = 2 := by omega
      · rfl
      · rfl
      · rfl
    | succ k =>
      rw [e, List.getElem?_append_right (by simp; omega)]
      have : (k + 1) * 3 + j - [Value.int .i32 (x.1 : Int), .int .i64 x.2.1, .int .i64 (x.2.2 : Int)].length = k * 3 + j := by simp; omega
      rw [this, ih k (by simp at hk; omega)]
      simp [List.getD]
def svZero : SV := ⟨false, 0, none, 0, 0, []⟩
theorem state_at {w : World} {A : Option Addr} {n : Nat} {X : List SV} (h : Reads w 3 A n (sCells X)) (hn : X.length = n) (k : Nat) (hk : k < n) :
    ∃ g off, A = some ⟨g, off, none⟩ ∧ g < w.heap.size ∧ w.cell? ⟨g, off + k * 3, none⟩ = some (.bool (X.getD k svZero).fin) ∧ w.cell? ⟨g, off + k * 3 + 1, none⟩ = some (.int .i64 (X.getD k svZero).out) ∧ w.cell? ⟨g, off + k * 3 + 2, none⟩ = some (.slice (X.getD k svZero).A (X.getD k svZero).n (X.getD k svZero).c) := by
  obtain ⟨b, off, hA, hb, hc⟩ := h.2 (by omega)
  refine ⟨b, off, hA, hb, ?_, ?_, ?_⟩
  · exact hc (k * 3) _ (sCells_at X svZero k (by omega) 0 (by omega))
  · rw [Nat.add_assoc]; exact hc (k * 3 + 1) _ (sCells_at X svZero k (by omega) 1 (by omega))
  · rw [Nat.add_assoc]; exact hc (k * 3 + 2) _ (sCells_at X svZero k (by omega) 2 (by omega))
theorem arc_at {w : World} {A : Option Addr} {n : Nat} {X : List (Nat × Int × Nat)} (h : Reads w 3 A n (aCells X)) (hn : X.length = n) (k : Nat) (hk : k < n) :
    ∃ g off, A = some ⟨g, off, none⟩ ∧ g < w.heap.size ∧ w.cell? ⟨g, off + k * 3, none⟩ = some (.int .i32 ((X.getD k (0, 0, 0)).1 : Int)) ∧ w.cell? ⟨g, off + k * 3 + 1, none⟩ = some (.int .i64 (X.getD k (0, 0, 0)).2.1) ∧ w.cell? ⟨g, off + k * 3 + 2, none⟩ = some (.int .i64 ((X.getD k (0, 0, 0)).2.2 : Int)) := by
  obtain ⟨b, off, hA, hb, hc⟩ := h.2 (by omega)
  refine ⟨b, off, hA, hb, ?_, ?_, ?_⟩
  · exact hc (k * 3) _ (aCells_at X k (by omega) 0 (by omega))
  · rw [Nat.add_assoc]; exact hc (k * 3 + 1) _ (aCells_at X k (by omega) 1 (by omega))
  · rw [Nat.add_assoc]; exact hc (k * 3 + 2) _ (aCells_at X k (by omega) 2 (by omega))
theorem stepA_snoc (l : List (Nat × Int × Nat)) (a : Nat × Int × Nat) (r : Nat) (p : Int × Int) : stepA (l ++ [a]) r p = if a.1 = r then ((a.2.2 : Int), (stepA l r p).2 + a.2.1) else stepA l r p := by
  unfold stepA
  rw [List.foldl_append]
  rfl
/-- What a walk's machine must be for its sums to stay small. -/
structure Small (n : Nat) (Z : List SV) : Prop where
  lab : ∀ z ∈ Z, (z.arcs.map (·.1)).Nodup
  arc : ∀ z ∈ Z, ∀ a ∈ z.arcs, 0 ≤ a.2.1 ∧ a.2.1 ≤ 1048576 ∧ a.2.2 < n
  out : ∀ z ∈ Z, 0 ≤ z.out ∧ z.out ≤ 1048576
theorem stepA_small {l : List (Nat × Int × Nat)} {n r : Nat} (hn : (l.map (·.1)).Nodup) (hb : ∀ a ∈ l, 0 ≤ a.2.1 ∧ a.2.1 ≤ 1048576 ∧ a.2.2 < n) (sum : Int) : sum ≤ (stepA l r (-1, sum)).2 ∧ (stepA l r (-1, sum)).2 ≤ sum + 1048576 ∧ -1 ≤ (stepA l r (-1, sum)).1 ∧ (stepA l r (-1, sum)).1 < n := by
  by_cases h : r ∈ l.map (·.1)
  · obtain ⟨a, ha, hr⟩ := List.mem_map.1 h
    rw [stepA_some hn ha hr]
    have := hb a ha
    simp only
    omega
  · rw [stepA_none h]
    simp only
    omega

end Go.Proofs.YtfaoifggkfmokaaDoor
