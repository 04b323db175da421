/- A heap's methods on a pile of matches. No condition but that the pile lies there. -/
import Derived.Test.YtcencmjdhaejcaaBetter
import Derived.StillTailTactics
namespace Go.Proofs.Ytcencmjdhaejcaa
open Go.RowKit

theorem infoMatch : (Try.prog.info? 23).map (fun i => (i.zero, i.size, i.bytes)) = some (some (.agg #[.string ByteArray.empty, .int .i64 0, .int .i64 0]), 3, 32) := by kernel_rfl

theorem cells_len (r : MRow) : (MRow.cells r).length = 3 := rfl
theorem mCells_len (X : List MRow) : (mCells X).length = X.length * 3 := flat_len MRow.cells 3 cells_len X
theorem mCells_at (X : List MRow) (k : Nat) (hk : k < X.length) (j : Nat) (hj : j < 3) : (mCells X)[k * 3 + j]? = (X.getD k MRow.zero).cells[j]? := by
  have e : X.getD k MRow.zero = X[k] := by simp [List.getD, hk]
  rw [e]
  exact flat_at MRow.cells 3 cells_len X k j hk hj

/-- A match's three cells in a slice that reads. -/
theorem reads_at {w : World} {A : Option Addr} {n : Nat} {X : List MRow} (h : Reads w 3 A n (mCells X)) (hn : n = X.length) (k : Nat) (hk : k < n) :
    ∃ g off, A = some ⟨g, off, none⟩ ∧ g < w.heap.size ∧ w.cell? ⟨g, off + k * 3, none⟩ = some (.string (X.getD k MRow.zero).word) ∧ w.cell? ⟨g, off + k * 3 + 1, none⟩ = some (.int .i64 (X.getD k MRow.zero).weight) ∧
      w.cell? ⟨g, off + k * 3 + 2, none⟩ = some (.int .i64 (X.getD k MRow.zero).dist) := by
  subst hn
  obtain ⟨b, off, hA, hb, hc⟩ := h.2 (by omega)
  refine ⟨b, off, hA, hb, ?_, ?_, ?_⟩
  · exact hc (k * 3) _ (mCells_at X k hk 0 (by omega))
  · rw [Nat.add_assoc]; exact hc (k * 3 + 1) _ (mCells_at X k hk 1 (by omega))
  · rw [Nat.add_assoc]; exact hc (k * 3 + 2) _ (mCells_at X k hk 2 (by omega))

theorem plen_any (w : World) (A : Option Addr) (n c : Nat) (_hn : n ≤ maxLen) :
    Calls Try.prog 43 #[.slice A n c] w fun e w' => e = .returned (.int .i64 n) ∧ w = w' := by
  unfold maxLen at _hn
  go_enter Try.func43, Try.ntmps43
  go_wp2
  go_ret
  exact ⟨rfl, rfl⟩

set_option maxRecDepth 100000 in
theorem pless_any (w : World) (A : Option Addr) (n c : Nat) (X : List MRow) (hX : n = X.length) (h : Reads w 3 A n (mCells X)) (_hn : n ≤ maxLen) (i j : Nat) (hi : i < n) (hj : j < n) :
    Calls Try.prog 44 #[.slice A n c, .int .i64 i, .int .i64 j] w fun e w' => e = .returned (.bool (better (X.getD j MRow.zero) (X.getD i MRow.zero))) ∧ Touch (fun _ => False) w w' := by
  unfold maxLen at _hn
  obtain ⟨g, off, rfl, hg, a0, a1, a2⟩ := reads_at h hX i hi
  obtain ⟨g', off', hA, _, b0, b1, b2⟩ := reads_at h hX j hj
  injection hA with hA
  injection hA with h1 h2
  subst h1 h2
  obtain ⟨⟨xw, xn, xd⟩, hx⟩ : ∃ x, x = X.getD i MRow.zero := ⟨_, rfl⟩
  obtain ⟨⟨yw, yn, yd⟩, hy⟩ : ∃ x, x = X.getD j MRow.zero := ⟨_, rfl⟩
  rw [← hx] at a0 a1 a2 ⊢
  rw [← hy] at b0 b1 b2 ⊢
  simp only at a0 a1 a2 b0 b1 b2
  have HX := hide h
  clear hx hy h hX
  have i0 : (0 : Int) ≤ (i : Int) := by omega
  have i1 : (i : Int) < (n : Int) := by omega
  have j0 : (0 : Int) ≤ (j : Int) := by omega
  have j1 : (j : Int) < (n : Int) := by omega
  go_enter Try.func44, Try.ntmps44
  go_wp2
  go_still_tail 8, (by kernel_rfl)
  change wpList _ _ _ _ _ w.drew
  have HT : Hid (Touch (fun _ => False) w w.drew) := hide (Touch.refl _ _).drew
  generalize w.drew = w2 at HT ⊢
  go_wp2_with (go_at_call 11; refine (pbetter_any ⟨yw, yn, yd⟩ ⟨xw, xn, xd⟩ _).mono ?_; rintro e w3 ⟨rfl, hc⟩; have HC := hide hc; clear hc)
  go_ret
  exact ⟨rfl, HT.out.then HC.out⟩

/-! ### the slice's row as the program's own -/
theorem own_at {w : World} {A : Option Addr} {n c : Nat} {X : List MRow} (h : w.ownsRow 0 23 3 (.slice A n c) n (mCells X)) (hn : n = X.length) (k : Nat) (hk : k < n) :
    ∃ g, A = some ⟨g, 0, none⟩ ∧ g < w.heap.size ∧ w.cell? ⟨g, k * 3, none⟩ = some (.string (X.getD k MRow.zero).word) ∧ w.cell? ⟨g, k * 3 + 1, none⟩ = some (.int .i64 (X.getD k MRow.zero).weight) ∧
      w.cell? ⟨g, k * 3 + 2, none⟩ = some (.int .i64 (X.getD k MRow.zero).dist) ∧ w.frozen? ⟨g, k * 3, none⟩ = false ∧ w.frozen? ⟨g, k * 3 + 1, none⟩ = false ∧ w.frozen? ⟨g, k * 3 + 2, none⟩ = false := by
  subst hn
  obtain ⟨g, cap, hv, _, _, hg, hc, hf⟩ := own_form h (by omega)
  injection hv with hA' _ _
  exact ⟨g, hA', hg, hc (k * 3) _ (mCells_at X k hk 0 (by omega)), hc (k * 3 + 1) _ (mCells_at X k hk 1 (by omega)), hc (k * 3 + 2) _ (mCells_at X k hk 2 (by omega)), hf _, hf _, hf _⟩

theorem set3 (X : List MRow) (k : Nat) (r : MRow) : (((mCells X).set (k * 3) (.string r.word)).set (k * 3 + 1) (.int .i64 r.weight)).set (k * 3 + 2) (.int .i64 r.dist) = mCells (X.set k r) := by
  induction X generalizing k with
  | nil => simp [mCells]
  | cons x X ih =>
    cases k with
    | zero => simp [mCells, MRow.cells]
    | succ k =>
      have := ih k
      simp only [mCells, List.flatMap_cons, List.set_cons_succ] at this ⊢
      rw [← this]
      simp only [MRow.cells, List.cons_append, List.nil_append, Nat.succ_mul]
      rw [show k * 3 + 3 = (k * 3) + 1 + 1 + 1 by omega, show k * 3 + 1 + 1 + 1 + 1 = (k * 3 + 1) + 1 + 1 + 1 by omega, show k * 3 + 1 + 1 + 1 + 2 = (k * 3 + 2) + 1 + 1 + 1 by omega]
      simp only [List.set_cons_succ]

theorem own_set3 {w : World} {g n c : Nat} {X : List MRow} (h : w.ownsRow 0 23 3 (.slice (some ⟨g, 0, none⟩) n c) n (mCells X)) (k : Nat) (r : MRow) :
    (((w.setCell ⟨g, k * 3, none⟩ (.string r.word)).setCell ⟨g, k * 3 + 1, none⟩ (.int .i64 r.weight)).setCell ⟨g, k * 3 + 2, none⟩ (.int .i64 r.dist)).ownsRow 0 23 3 (.slice (some ⟨g, 0, none⟩) n c) n (mCells (X.set k r)) := by
  rw [← set3]
  exact own_set (own_set (own_set h _ _) _ _) _ _

theorem set_swp (X : List MRow) (i j : Nat) : (X.set i (X.getD j MRow.zero)).set j (X.getD i MRow.zero) = swp X i j := rfl

set_option maxRecDepth 100000 in
set_option maxHeartbeats 1000000 in
theorem pswap_any (w : World) (A : Option Addr) (n c : Nat) (X : List MRow) (hX : n = X.length) (h : w.ownsRow 0 23 3 (.slice A n c) n (mCells X)) (i j : Nat) (hi : i < n) (hj : j < n) :
    Calls Try.prog 45 #[.slice A n c, .int .i64 i, .int .i64 j] w fun e w' => e = .returned (.tuple #[]) ∧ w'.ownsRow 0 23 3 (.slice A n c) n (mCells (swp X i j)) ∧ Touch (fun g => adBlock A = some g) w w' := by
  obtain ⟨g, rfl, hg, a0, a1, a2, f0, f1, f2⟩ := own_at h hX i hi
  obtain ⟨g', hA, _, b0, b1, b2, f3, f4, f5⟩ := own_at h hX j hj
  have hn := own_le h
  injection hA with hA
  injection hA with h1 h2
  subst h1
  have HX := hide h
  obtain ⟨⟨xw, xn, xd⟩, hx⟩ : ∃ x, x = X.getD i MRow.zero := ⟨_, rfl⟩
  obtain ⟨⟨yw, yn, yd⟩, hy⟩ : ∃ x, x = X.getD j MRow.zero := ⟨_, rfl⟩
  rw [← hx] at a0 a1 a2
  rw [← hy] at b0 b1 b2
  simp only at a0 a1 a2 b0 b1 b2
  have EX := hide hx
  have EY := hide hy
  clear hx hy h hX
  unfold maxLen at hn
  have i0 : (0 : Int) ≤ (i : Int) := by omega
  have i1 : (i : Int) < (n : Int) := by omega
  have j0 : (0 : Int) ≤ (j : Int) := by omega
  have j1 : (j : Int) < (n : Int) := by omega
  go_enter Try.func45, Try.ntmps45
  obtain ⟨v0, s0⟩ := cell?_setCell_some (p := ⟨g, i * 3, none⟩) (x := .string yw) b0
  obtain ⟨v1, s1⟩ := cell?_setCell_some (p := ⟨g, i * 3, none⟩) (x := .string yw) b1
  obtain ⟨v1, s1⟩ := cell?_setCell_some (p := ⟨g, i * 3 + 1, none⟩) (x := .int .i64 yn) s1
  obtain ⟨v2, s2⟩ := cell?_setCell_some (p := ⟨g, i * 3, none⟩) (x := .string yw) b2
  obtain ⟨v2, s2⟩ := cell?_setCell_some (p := ⟨g, i * 3 + 1, none⟩) (x := .int .i64 yn) s2
  obtain ⟨v2, s2⟩ := cell?_setCell_some (p := ⟨g, i * 3 + 2, none⟩) (x := .int .i64 yd) s2
  go_region
  all_goals go_wp2
  go_end0
  have HS := own_set3 (own_set3 HX.out i ⟨yw, yn, yd⟩) j ⟨xw, xn, xd⟩
  have e : swp X i j = (X.set i ⟨yw, yn, yd⟩).set j ⟨xw, xn, xd⟩ := by unfold swp; rw [← EX.out, ← EY.out]
  rw [e]
  refine ⟨rfl, own_touch (S := fun _ => False) HS (Touch.refl _ _).drew (fun _ _ f => f), ?_⟩
  refine Touch.drew ?_
  iterate 6 refine Touch.setCell ?_ (fun _ => (rfl : adBlock (some ⟨g, 0, none⟩) = some g)) _
  exact Touch.refl _ _


/-! ### the methods as a heap calls them -/
/-- A keeper's block and the pile in it: pointer, room, the slice value, what is in it. -/
structure Pil (w : World) (p : Nat) (most : Int) (v : Value) (X : List MRow) : Prop where
  blk : Blk w p 44 #[.int .i64 most, v]
  own : w.ownsRow 0 23 3 v X.length (mCells X)

def pfp (p : Nat) (v : Value) : Nat → Prop := fun g => g = p ∨ v.ownBlock = some g

theorem Pil.touch {w w' : World} {p : Nat} {most : Int} {v : Value} {X : List MRow} {S : Nat → Prop} (h : Pil w p most v X) (ht : Touch S w w') (hs : ∀ g, g < w.heap.size → pfp p v g → ¬ S g) : Pil w' p most v X := by
  refine ⟨h.blk.touch ht (hs p h.blk.lt (.inl rfl)), own_touch h.own ht (fun g hg => hs g ?_ (.inr hg))⟩
  rcases h.own.2 with ⟨rfl, _⟩ | ⟨g', cap, cur, rfl, _, hgg, _⟩
  · simp [Value.ownBlock] at hg
  · simp [Value.ownBlock] at hg
    subst hg
    exact (Array.getElem?_eq_some_iff.1 hgg).1
theorem Pil.quiet {w w' : World} {p : Nat} {most : Int} {v : Value} {X : List MRow} (h : Pil w p most v X) (ht : Touch (fun _ => False) w w') : Pil w' p most v X := h.touch ht (fun _ _ _ f => f)

def pth (p : Nat) : Value := .iface 46 (.pointer (some ⟨p, 1, none⟩))

theorem nil_len (n : Nat) (a : Addr) (w : World) : (nilAhead (n + 1) 46 (.pointer (some a)) "Len").run Try.prog w = .ok (some false) w := by kernel_rfl
theorem meth_push (n : Nat) (a : Addr) (w : World) : (method (n + 1) 46 (.pointer (some a)) "Push").run Try.prog w = .ok (47, .pointer (some a)) w := by kernel_rfl
theorem meth_len0 (n : Nat) (a : Addr) (w : World) : (method (n + 1) 46 (.pointer (some a)) "Len").run Try.prog w = (loadVar 42 a >>= fun v => pure (43, v)).run Try.prog w := by
  unfold method
  kernel_rfl

theorem meth_swap0 (n : Nat) (a : Addr) (w : World) : (method (n + 1) 46 (.pointer (some a)) "Swap").run Try.prog w = (loadVar 42 a >>= fun v => pure (45, v)).run Try.prog w := by
  unfold method
  kernel_rfl
theorem meth_less0 (n : Nat) (a : Addr) (w : World) : (method (n + 1) 46 (.pointer (some a)) "Less").run Try.prog w = (loadVar 42 a >>= fun v => pure (44, v)).run Try.prog w := by
  unfold method
  kernel_rfl
theorem meth_pop (n : Nat) (a : Addr) (w : World) : (method (n + 1) 46 (.pointer (some a)) "Pop").run Try.prog w = .ok (46, .pointer (some a)) w := by kernel_rfl
theorem load_pile (a : Addr) (w : World) (v : Value) (f : FuncId) (hc : w.cell? a = some v) : (loadVar 42 a >>= fun v => pure (f, v)).run Try.prog w = .ok (f, v) w := by
  have h : (isAgg 42).run Try.prog w = .ok false w := by kernel_rfl
  simp [loadVar, h, hc]
theorem meth_len (n : Nat) (a : Addr) (w : World) (v : Value) (hc : w.cell? a = some v) : (method (n + 1) 46 (.pointer (some a)) "Len").run Try.prog w = .ok (43, v) w := (meth_len0 n a w).trans (load_pile a w v _ hc)
theorem meth_swap (n : Nat) (a : Addr) (w : World) (v : Value) (hc : w.cell? a = some v) : (method (n + 1) 46 (.pointer (some a)) "Swap").run Try.prog w = .ok (45, v) w := (meth_swap0 n a w).trans (load_pile a w v _ hc)
theorem meth_less (n : Nat) (a : Addr) (w : World) (v : Value) (hc : w.cell? a = some v) : (method (n + 1) 46 (.pointer (some a)) "Less").run Try.prog w = .ok (44, v) w := (meth_less0 n a w).trans (load_pile a w v _ hc)

end Go.Proofs.Ytcencmjdhaejcaa
