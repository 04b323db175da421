/- Pairs that come in, opened; a bound on how many there are. No condition. -/
import Derived.Test.YtfaoifggkfmokaaDoorFnd
import Derived.SizedLaws
namespace Go.Proofs.YtfaoifggkfmokaaDoor
open Go.RowKit Go.ChangeShapes Go.WideShapes Go.ChangeAt

section
variable {H : Type} {enc : TypeId × Value → H} {w : World} {base : Nat} {spare : Nat → Bool} {held : Bool}

theorem list2 {cs : List Value} (h : cs.length = 2) : ∃ a b, cs = [a, b] := by
  match cs, h with
  | [a, b], _ => exact ⟨a, b, rfl⟩

theorem pair_elem (n : Nat) (cs : List Value) (y : DataW H × List MemPlace) (hl : cs.length = 2) (h : DataW.trod enc Tryd.prog w base spare held n 52 cs = some y) : ∃ r : PRow, cs = r.cells ∧ r.Wf := by
  obtain ⟨s, hs, ws⟩ := field_string Tryd.underlying52 h 0 _ rfl (by kernel_rfl) (by kernel_rfl)
  obtain ⟨b, hb, _⟩ := field_int (k := .i64) Tryd.underlying52 h 1 _ rfl (by kernel_rfl) (by kernel_rfl)
  obtain ⟨x0, x1, rfl⟩ := list2 hl
  simp at hs hb
  exact ⟨⟨s, b⟩, by rw [hs, hb]; rfl, ws⟩

set_option maxRecDepth 100000 in
/-- Pairs that come in. -/
theorem open_pairs {r : Reach} {b0 : Nat} {v : Value} {d : DataW H} {p : List MemPlace} (hv : Value.okWide Tryd.prog w r b0 22 v) (h : DataW.Trod enc Tryd.prog w base spare held 22 v d p) :
    ∃ s : SL, v = s.val ∧ s.Ok w ∧ (∀ r ∈ s.L, r.Wf) ∧ s.n ≤ maxLen ∧ s.n ≤ s.c := by
  obtain ⟨a0, len, cap, rfl⟩ := okWide_slice Tryd.underlying22 hv
  obtain ⟨fuel, hf⟩ := h
  obtain ⟨A, len', cap', l, hcs, hl, hlc, hm, hn, hr, hw⟩ := open_rows PRow.cells PRow.Wf 2 (fun _ => rfl) (by decide) Tryd.underlying22 (by kernel_rfl) pair_elem hf
  simp [Value.cells] at hcs
  obtain ⟨rfl, rfl, rfl⟩ := hcs
  exact ⟨⟨_, _, _, l⟩, rfl, ⟨hl, hr, hn⟩, hw, Nat.le_trans hlc hm, hlc⟩

set_option maxRecDepth 100000 in
/-- A pair that comes in by value. -/
theorem open_pair {r : Reach} {b0 : Nat} {v : Value} {d : DataW H} {p : List MemPlace} (hv : Value.okWide Tryd.prog w r b0 52 v) (h : DataW.Trod enc Tryd.prog w base spare held 52 v d p) :
    ∃ o : PRow, v = o.val ∧ o.Wf := by
  obtain ⟨cs, rfl, hsz⟩ := okWide_struct Tryd.underlying52 hv
  obtain ⟨fuel, hf⟩ := h
  have hC : Tryd.prog.cellsOf 52 = 2 := by kernel_rfl
  obtain ⟨o, ho, hw⟩ := pair_elem _ _ _ (by show cs.toList.length = 2; rw [Array.length_toList]; exact hsz.trans hC) hf
  refine ⟨o, ?_, hw⟩
  have : cs.toList = o.cells := ho
  have e : cs = #[.string o.word, .int .i64 o.weight] := by rw [← Array.toArray_toList (xs := cs), this]; rfl
  rw [e]; rfl

/-- A slice's datum has as many elements as the slice. -/
theorem slice_data {t e : TypeId} {A : Option Addr} {n c : Nat} {d : DataW H} {p : List MemPlace} (ht : Tryd.prog.underlying t = some (.slice e)) (h : DataW.Trod enc Tryd.prog w base spare held t (.slice A n c) d p) :
    n = 0 ∨ ∃ elems sp, d = .slice elems sp ∧ elems.length = n := by
  obtain ⟨fuel, hf⟩ := h
  rcases Go.Deep.open_slice ht hf with ⟨hcs, _⟩ | ⟨a, len, cap, m, n', D, Pl, hcs, _, _, _, _, hx, _⟩
  · simp [Value.cells] at hcs
    exact .inl hcs.2.1
  · simp [Value.cells] at hcs
    simp only [Prod.mk.injEq] at hx
    exact .inr ⟨_, _, hx.1, by simp [hcs.2.1]⟩

theorem bulk_pos (d : DataW H) : 1 ≤ Rows.uptoBulk d := by
  cases d with
  | lit l => cases l <;> simp [Rows.uptoBulk]
  | _ => simp [Rows.uptoBulk]
theorem bulk_len (l : List (DataW H)) : l.length ≤ Rows.uptoBulkAll l := by
  induction l with
  | nil => simp [Rows.uptoBulkAll]
  | cons x r ih => have := bulk_pos x; simp only [Rows.uptoBulkAll, List.length_cons]; omega
/-- A slice of pairs is no longer than its bulk. -/
theorem bulk_slice {s : SL} {d : DataW H} {p : List MemPlace} (h : DataW.Trod enc Tryd.prog w base spare held 22 s.val d p) : s.n ≤ Rows.uptoBulk d := by
  rcases slice_data Tryd.underlying22 h with e | ⟨el, sp, hd, he⟩
  · omega
  · rw [hd]
    have := bulk_len el
    simp only [Rows.uptoBulk]
    omega
/-- A slice of pairs takes no more than may be reached. -/
theorem sized_pairs {ts : List TypeId} {ds : List (DataW H)} {j : Nat} {s : SL} {d : DataW H} {p : List MemPlace} (hz : (DataW.weightsEach Tryd.prog ts ds).all (· ≤ reachBytes) = true) (ht : ts[j]? = some 22) (hd : ds[j]? = some d)
    (h : DataW.Trod enc Tryd.prog w base spare held 22 s.val d p) : s.n ≤ 5864062014634 := by
  rcases slice_data Tryd.underlying22 h with e | ⟨el, sp, hd2, he⟩
  · omega
  · subst hd2
    have hs := sized_slice hz ht hd Tryd.underlying22
    have hb : Tryd.prog.bytesOf 52 = 24 := by kernel_rfl
    rw [hb] at hs
    have hr : reachBytes = 140737488351232 := by decide
    omega
end

/-! ### the witness -/
/-- A world in which the listed variable holds what its initialiser lays. -/
noncomputable def laidWorld (os : Os) : World :=
  { World.holding Tryd.prog os ⟨#[], #[], []⟩ with heap := (World.holding Tryd.prog os ⟨#[], #[], []⟩).heap.modify 0 fun
      | .cells _ t frozen => .cells #[.int .i32 0, .int .i32 0, .int .i32 128, .int .i32 2048, .int .i32 65536] t frozen
      | o => o }

end Go.Proofs.YtfaoifggkfmokaaDoor
