/- Pairs in rows: reading, storing, swapping. No condition. -/
import Derived.Test.YtdjlcgldplndiaaDoorPairP
import Derived.Test.YtdjlcgldplndiaaDoorRows
import Derived.BigQuiet
import Derived.Lib.Bytealg
import Derived.StillTailTactics
namespace Go.Proofs.YtdjlcgldplndiaaDoor
open Go.RowKit

theorem infoPair : (Tryd.prog.info? 29).map (fun i => (i.zero, i.size, i.bytes)) = some (some (.agg #[.string ByteArray.empty, .int .i64 0]), 2, 24) := by kernel_rfl
theorem info_parts {t : TypeId} {z : Value} {s b : Nat} (h : (Tryd.prog.info? t).map (fun i => (i.zero, i.size, i.bytes)) = some (some z, s, b)) : ∃ i, Tryd.prog.info? t = some i ∧ i.zero = some z ∧ i.size = s ∧ i.bytes = b := by
  cases hi : Tryd.prog.info? t with
  | none => rw [hi] at h; cases h
  | some i =>
    rw [hi] at h
    simp at h
    exact ⟨i, rfl, h.1, h.2.1, h.2.2⟩

theorem pcells_len (r : PRow) : (PRow.cells r).length = 2 := rfl
theorem pCells_len (X : List PRow) : (pCells X).length = X.length * 2 := flat_len PRow.cells 2 pcells_len X
theorem pCells_at (X : List PRow) (k : Nat) (hk : k < X.length) (j : Nat) (hj : j < 2) : (pCells X)[k * 2 + j]? = (X.getD k PRow.zero).cells[j]? := by
  have e : X.getD k PRow.zero = X[k] := by simp [List.getD, hk]
  rw [e]
  exact flat_at PRow.cells 2 pcells_len X k j hk hj
theorem pCells_app (X Y : List PRow) : pCells (X ++ Y) = pCells X ++ pCells Y := by simp [pCells]
theorem pCells_take (X : List PRow) (n : Nat) : (pCells X).take (n * 2) = pCells (X.take n) := by
  induction X generalizing n with
  | nil => simp [pCells]
  | cons x X ih =>
    cases n with
    | zero => simp [pCells]
    | succ n =>
      have := ih n
      simp only [pCells, List.flatMap_cons, List.take_succ_cons] at this ⊢
      rw [← this]
      simp [PRow.cells, show (n + 1) * 2 = n * 2 + 1 + 1 by omega]
theorem pCells_drop (X : List PRow) (n : Nat) : (pCells X).drop (n * 2) = pCells (X.drop n) := by
  induction X generalizing n with
  | nil => simp [pCells]
  | cons x X ih =>
    cases n with
    | zero => simp [pCells]
    | succ n =>
      have := ih n
      simp only [pCells, List.flatMap_cons, List.drop_succ_cons] at this ⊢
      rw [← this]
      simp [PRow.cells, show (n + 1) * 2 = n * 2 + 1 + 1 by omega]

/-- A pair's two cells in a slice that reads. -/
theorem preads_at {w : World} {A : Option Addr} {n : Nat} {X : List PRow} (h : Reads w 2 A n (pCells X)) (hn : n = X.length) (k : Nat) (hk : k < n) :
    ∃ g off, A = some ⟨g, off, none⟩ ∧ g < w.heap.size ∧ w.cell? ⟨g, off + k * 2, none⟩ = some (.string (X.getD k PRow.zero).word) ∧ w.cell? ⟨g, off + k * 2 + 1, none⟩ = some (.int .i64 (X.getD k PRow.zero).weight) := by
  subst hn
  obtain ⟨b, off, hA, hb, hc⟩ := h.2 (by omega)
  refine ⟨b, off, hA, hb, ?_, ?_⟩
  · exact hc (k * 2) _ (pCells_at X k hk 0 (by omega))
  · rw [Nat.add_assoc]; exact hc (k * 2 + 1) _ (pCells_at X k hk 1 (by omega))

/-- A row of pairs that is the program's own. -/
abbrev POwn (w : World) (A : Option Addr) (n c : Nat) (X : List PRow) : Prop := w.ownsRow 0 29 2 (.slice A n c) n (pCells X)

theorem pown_at {w : World} {A : Option Addr} {n c : Nat} {X : List PRow} (h : POwn w A n c X) (hn : n = X.length) (k : Nat) (hk : k < n) :
    ∃ g, A = some ⟨g, 0, none⟩ ∧ g < w.heap.size ∧ w.cell? ⟨g, k * 2, none⟩ = some (.string (X.getD k PRow.zero).word) ∧ w.cell? ⟨g, k * 2 + 1, none⟩ = some (.int .i64 (X.getD k PRow.zero).weight) ∧
      w.frozen? ⟨g, k * 2, none⟩ = false ∧ w.frozen? ⟨g, k * 2 + 1, none⟩ = false := by
  subst hn
  obtain ⟨g, cap, hv, _, _, hg, hc, hf⟩ := own_form h (by omega)
  injection hv with hA' _ _
  exact ⟨g, hA', hg, hc (k * 2) _ (pCells_at X k hk 0 (by omega)), hc (k * 2 + 1) _ (pCells_at X k hk 1 (by omega)), hf _, hf _⟩
theorem pown_len {w : World} {A : Option Addr} {n c : Nat} {X : List PRow} (h : POwn w A n c X) : n = X.length := by
  have := h.1
  rw [pCells_len] at this
  omega

theorem pset2 (X : List PRow) (k : Nat) (r : PRow) : ((pCells X).set (k * 2) (.string r.word)).set (k * 2 + 1) (.int .i64 r.weight) = pCells (X.set k r) := by
  induction X generalizing k with
  | nil => simp [pCells]
  | cons x X ih =>
    cases k with
    | zero => simp [pCells, PRow.cells]
    | succ k =>
      have := ih k
      simp only [pCells, List.flatMap_cons, List.set_cons_succ] at this ⊢
      rw [← this]
      simp only [PRow.cells, List.cons_append, List.nil_append, Nat.succ_mul]
      rw [show k * 2 + 2 = (k * 2) + 1 + 1 by omega, show k * 2 + 1 + 1 + 1 = (k * 2 + 1) + 1 + 1 by omega]
      simp only [List.set_cons_succ]

theorem pown_set2 {w : World} {g n c : Nat} {X : List PRow} (h : POwn w (some ⟨g, 0, none⟩) n c X) (k : Nat) (r : PRow) :
    POwn ((w.setCell ⟨g, k * 2, none⟩ (.string r.word)).setCell ⟨g, k * 2 + 1, none⟩ (.int .i64 r.weight)) (some ⟨g, 0, none⟩) n c (X.set k r) := by
  unfold POwn
  rw [← pset2]
  exact own_set (own_set h _ _) _ _

def swpP (X : List PRow) (i j : Nat) : List PRow := (X.set i (X.getD j PRow.zero)).set j (X.getD i PRow.zero)
theorem swpP_len (X : List PRow) (i j : Nat) : (swpP X i j).length = X.length := by simp [swpP]

/-- The comparison's answer is below 0 just where the one is ahead. -/
theorem compare_neg (x y : List UInt8) : decide (Lib.compareBytes x y < 0) = Op.bytesLess x y := by
  induction x generalizing y with
  | nil => cases y <;> simp [Lib.compareBytes, Op.bytesLess]
  | cons a x ih =>
    cases y with
    | nil => simp [Lib.compareBytes, Op.bytesLess]
    | cons b y =>
      unfold Lib.compareBytes
      by_cases h : a < b
      · simp [Op.bytesLess, h]
      · rw [if_neg h]
        by_cases h2 : b < a
        · rw [if_pos h2]
          have : ¬ a = b := by rintro rfl; exact h h2
          simp [Op.bytesLess, h, this]
        · rw [if_neg h2, ih]
          have : a = b := by
            refine UInt8.toNat_inj.1 ?_
            simp only [UInt8.lt_iff_toNat_lt] at h h2
            omega
          subst this
          simp [Op.bytesLess, UInt8.lt_irrefl]

end Go.Proofs.YtdjlcgldplndiaaDoor
