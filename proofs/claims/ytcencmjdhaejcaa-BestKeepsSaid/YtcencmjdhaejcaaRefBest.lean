/- abecedaryref12.Best. -/
import Derived.Test.YtcencmjdhaejcaaSelect
import Derived.BigQuiet
namespace Go.Proofs.Ytcencmjdhaejcaa
open Go.RowKit

/-- A list that the program is building: all since w0. -/
structure Nx (w0 w : World) (v : Value) (q : Nat) (N : List MRow) : Prop where
  own : w.ownsRow 0 23 3 v q (mCells N)
  len : N.length = q
  touch : Touch (fun _ => False) w0 w
  fresh : ∀ g, v.ownBlock = some g → w0.heap.size ≤ g

theorem Nx.to {w0 w w2 : World} {v : Value} {q : Nat} {N : List MRow} (h : Nx w0 w v q N) (t : Touch (fun _ => False) w w2) : Nx w0 w2 v q N :=
  ⟨own_touch h.own t (fun _ _ f => f), h.len, h.touch.then t, h.fresh⟩

theorem mCells_snoc (N : List MRow) (m : MRow) : mCells (N ++ [m]) = mCells N ++ m.cells := by simp [mCells]

theorem Nx.app {w0 w1 w3 : World} {v v' : Value} {q : Nat} {N : List MRow} {m : MRow} (h : Nx w0 w1 v q N) (ho : w3.ownsRow 0 23 3 v' (q + 1) (mCells N ++ m.cells)) (hg : w1.grownBy w3 v.ownBlock) (hf : Fresh w1 v v') :
    Nx w0 w3 v' (q + 1) (N ++ [m]) := by
  refine ⟨by rw [mCells_snoc]; exact ho, by simp [h.len], ?_, ?_⟩
  · exact h.touch.trans ((Touch.refl (fun g => v.ownBlock = some g) w1).grown hg (fun k hk _ => hk)) (fun i hi e => by have := h.fresh i e; omega)
  · intro g e
    rcases hf with k | ⟨g', k, hk⟩
    · exact h.fresh g (by rw [← k]; exact e)
    · rw [k] at e
      injection e with e
      have := h.touch.size
      omega

theorem ins_done (m x : MRow) (l : List MRow) (h : ∃ y ∈ l, better m y = true) : ins m (l ++ [x]) = ins m l ++ [x] := by
  induction l with
  | nil => obtain ⟨y, hy, _⟩ := h; cases hy
  | cons a l ih =>
    simp only [List.cons_append, ins]
    split
    · rfl
    · rename_i hb
      rw [ih]
      · rfl
      · obtain ⟨y, hy, hyb⟩ := h
        rcases List.mem_cons.1 hy with rfl | hy
        · exact absurd hyb hb
        · exact ⟨y, hy, hyb⟩

theorem take_snoc (O : List MRow) (j : Nat) (hj : j < O.length) : O.take (j + 1) = O.take j ++ [O.getD j MRow.zero] := by
  rw [List.take_succ_eq_append_getElem hj]
  simp [List.getD, hj]

def NxL (m : MRow) (O : List MRow) (j : Nat) (done : Bool) : List MRow := if done = true then ins m (O.take j) else O.take j
def NxOk (m : MRow) (O : List MRow) (j : Nat) (done : Bool) : Prop := if done = true then ∃ y ∈ O.take j, better m y = true else ∀ y ∈ O.take j, better m y = false

theorem nx_done (m : MRow) (O : List MRow) (j : Nat) (hj : j < O.length) (h : NxOk m O j true) : NxL m O j true ++ [O.getD j MRow.zero] = NxL m O (j + 1) true ∧ NxOk m O (j + 1) true := by
  simp only [NxOk, NxL, if_true] at *
  rw [take_snoc O j hj, ins_done _ _ _ h]
  refine ⟨rfl, ?_⟩
  obtain ⟨y, hy, hb⟩ := h
  exact ⟨y, by simp [hy], hb⟩
theorem nx_turn (m : MRow) (O : List MRow) (j : Nat) (hj : j < O.length) (h : NxOk m O j false) (hb : better m (O.getD j MRow.zero) = true) : (NxL m O j false ++ [m]) ++ [O.getD j MRow.zero] = NxL m O (j + 1) true ∧ NxOk m O (j + 1) true := by
  simp only [NxOk, NxL, Bool.false_eq_true, if_false, if_true] at *
  rw [take_snoc O j hj, ins_front _ _ _ hb, ins_behind _ _ h]
  exact ⟨rfl, O.getD j MRow.zero, by simp, hb⟩
theorem nx_no (m : MRow) (O : List MRow) (j : Nat) (hj : j < O.length) (h : NxOk m O j false) (hb : better m (O.getD j MRow.zero) = false) : NxL m O j false ++ [O.getD j MRow.zero] = NxL m O (j + 1) false ∧ NxOk m O (j + 1) false := by
  simp only [NxOk, NxL, Bool.false_eq_true, if_false] at *
  rw [take_snoc O j hj]
  refine ⟨rfl, fun y hy => ?_⟩
  rcases List.mem_append.1 hy with hy | hy
  · exact h y hy
  · rw [List.mem_singleton.1 hy]; exact hb
theorem nx_end (m : MRow) (O : List MRow) (done : Bool) (h : NxOk m O O.length done) : (if done = true then NxL m O O.length done else NxL m O O.length done ++ [m]) = ins m O := by
  cases done with
  | true => simp [NxL]
  | false =>
    simp only [NxOk, NxL, Bool.false_eq_true, if_false, List.take_length] at *
    exact (ins_behind _ _ h).symm

end Go.Proofs.Ytcencmjdhaejcaa
