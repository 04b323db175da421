/- What the law rests on, part 29. No condition but those that each theorem names. -/
import Derived.Test.YtlnakepcgjfaaaaDoorF28
import Derived.StillTailTactics
import Derived.BigQuiet
import Derived.Deep.QuietTactic
namespace Go.Proofs.YtlnakepcgjfaaaaDoor
open Go.RowKit
set_option linter.unusedSectionVars false
set_option linter.unusedSimpArgs false
set_option linter.unusedVariables false
theorem dist_dict {L : List PRow} (hD : DictP L) {p : PRow} (hp : p ∈ L) {a : List UInt8} {X : List Nat} (hX : runesU a = some X) (hl : X.length ≤ 24) : distU p.word.toList a = some (rowW X (wordR p)) := by
  obtain ⟨w1, _, _, w4⟩ := hD.word p hp
  unfold distU
  rw [w1, hX]
  simp only
  rw [if_pos (by omega)]
  rfl
theorem rowW_le (X text : List Nat) : rowW X text ≤ X.length + text.length := by
  unfold rowW
  refine rowK_le X text.length text rfl _ (memD _ _ ?_)
  rw [rowK_len]
  omega
end Go.Proofs.YtlnakepcgjfaaaaDoor
namespace Go.Proofs.YtlnakepcgjfaaaaDoor
open Go.RowKit
set_option linter.unusedSectionVars false
set_option linter.unusedSimpArgs false
set_option linter.unusedVariables false
theorem cells_len (r : MRow) : (MRow.cells r).length = 3 := rfl
theorem mCells_at (X : List MRow) (k : Nat) (hk : k < X.length) (j : Nat) (hj : j < 3) : (mCells X)[k * 3 + j]? = (X.getD k MRow.zero).cells[j]? := by
  have e : X.getD k MRow.zero = X[k] := by simp [List.getD, hk]
  rw [e]
  exact flat_at MRow.cells 3 cells_len X k j hk hj
theorem reads_at {w : World} {A : Option Addr} {n : Nat} {X : List MRow} (h : Reads w 3 A n (mCells X)) (hn : n = X.length) (k : Nat) (hk : k < n) :
    ∃ g off, A = some ⟨g, off, none⟩ ∧ g < w.heap.size ∧ w.cell? ⟨g, off + k * 3, none⟩ = some (.string (X.getD k MRow.zero).word) ∧ w.cell? ⟨g, off + k * 3 + 1, none⟩ = some (.int .i64 (X.getD k MRow.zero).weight) ∧
      w.cell? ⟨g, off + k * 3 + 2, none⟩ = some (.int .i64 (X.getD k MRow.zero).dist) := by
  subst hn
  obtain ⟨b, off, hA, hb, hc⟩ := h.2 (by omega)
  refine ⟨b, off, hA, hb, ?_, ?_, ?_⟩
  · exact hc (k * 3) _ (mCells_at X k hk 0 (by omega))
  · rw [Nat.add_assoc]; exact hc (k * 3 + 1) _ (mCells_at X k hk 1 (by omega))
  · rw [Nat.add_assoc]; exact hc (k * 3 + 2) _ (mCells_at X k hk 2 (by omega))
end Go.Proofs.YtlnakepcgjfaaaaDoor
namespace Go.Proofs.YtlnakepcgjfaaaaDoor
open Go.RowKit
set_option linter.unusedSectionVars false
set_option linter.unusedSimpArgs false
set_option linter.unusedVariables false
theorem size_toList (a : ByteArray) : a.toList.length = a.size := by
  rw [Go.ByteArray.toList_eq, Array.length_toList]
  rfl
theorem fz_len (L : List PRow) (X : List Nat) (o : Nat) : (fzAllP L X o).length ≤ L.length := List.length_filterMap_le _ _
end Go.Proofs.YtlnakepcgjfaaaaDoor
namespace Go.Proofs.YtlnakepcgjfaaaaDoor
open Go.RowKit
theorem mem_fz {L : List PRow} {p : PRow} (hp : p ∈ L) (X : List Nat) (n : Nat) (hn : n = rowW X (wordR p)) : (⟨p.word, p.weight, (n : Int)⟩ : MRow) ∈ fzAllP L X (min n 3 + 1) ↔ n ≤ 3 := by
  unfold fzAllP
  rw [List.mem_filterMap]
  constructor
  · rintro ⟨q, _, hq⟩
    split at hq
    · rename_i h
      simp only [Option.some.injEq, MRow.mk.injEq] at hq
      have h1 : rowW X (wordR q) = n := by have := hq.2.2; omega
      omega
    · cases hq
  · intro h
    refine ⟨p, hp, ?_⟩
    rw [if_pos (by rw [← hn]; omega), ← hn]
theorem levR_word {a : List UInt8} (h : wordU a = true) (n : Nat) : levR a ((min n 3 : Nat) : Int) = true := by
  unfold levR
  rw [h]
  simp only [Bool.true_and, Bool.and_eq_true, decide_eq_true_eq]
  omega
end Go.Proofs.YtlnakepcgjfaaaaDoor
