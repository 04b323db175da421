/- Matches that come in, opened. No condition. -/
import Derived.Test.YtcencmjdhaejcaaBetter
import Derived.Test.YtcencmjdhaejcaaRows
import Derived.SizedLaws
namespace Go.Proofs.Ytcencmjdhaejcaa
open Go.RowKit Go.ChangeShapes Go.WideShapes Go.ChangeAt

section
variable {H : Type} {enc : TypeId × Value → H} {w : World} {base : Nat} {spare : Nat → Bool} {held : Bool}

theorem list3 {cs : List Value} (h : cs.length = 3) : ∃ a b c, cs = [a, b, c] := by
  match cs, h with
  | [a, b, c], _ => exact ⟨a, b, c, rfl⟩

theorem i64_wf {n : Int} (h : (Lit.int .i64 n).wf = true) : -9223372036854775808 ≤ n ∧ n ≤ 9223372036854775807 := by
  simp [Lit.wf, IntKind.min, IntKind.max, IntKind.signed, IntKind.bits] at h
  omega

theorem match_elem (n : Nat) (cs : List Value) (y : DataW H × List MemPlace) (hl : cs.length = 3) (h : DataW.trod enc Try.prog w base spare held n 23 cs = some y) : ∃ r : MRow, cs = r.cells ∧ r.Wf := by
  obtain ⟨s, hs, ws⟩ := field_string Try.underlying23 h 0 _ rfl (by kernel_rfl) (by kernel_rfl)
  obtain ⟨b, hb, wb⟩ := field_int (k := .i64) Try.underlying23 h 1 _ rfl (by kernel_rfl) (by kernel_rfl)
  obtain ⟨c, hc, wc⟩ := field_int (k := .i64) Try.underlying23 h 2 _ rfl (by kernel_rfl) (by kernel_rfl)
  obtain ⟨x0, x1, x2, rfl⟩ := list3 hl
  simp at hs hb hc
  obtain ⟨b1, b2⟩ := i64_wf wb
  obtain ⟨c1, c2⟩ := i64_wf wc
  exact ⟨⟨s, b, c⟩, by rw [hs, hb, hc]; rfl, ws, b1, b2, c1, c2⟩

/-- Matches that come in. -/
theorem open_matches {r : Reach} {b0 : Nat} {v : Value} {d : DataW H} {p : List MemPlace} (hv : Value.okWide Try.prog w r b0 27 v) (h : DataW.Trod enc Try.prog w base spare held 27 v d p) :
    ∃ A len cap, ∃ l : List MRow, v = .slice A len cap ∧ l.length = len ∧ len ≤ cap ∧ cap ≤ maxLen ∧ (A = none → len = 0 ∧ cap = 0) ∧ Reads w 3 A len (mCells l) ∧ ∀ r ∈ l, r.Wf := by
  obtain ⟨a0, len, cap, rfl⟩ := okWide_slice Try.underlying27 hv
  obtain ⟨fuel, hf⟩ := h
  obtain ⟨A, len', cap', l, hcs, hl, hlc, hm, hn, hr, hw⟩ := open_rows MRow.cells MRow.Wf 3 (fun _ => rfl) (by decide) Try.underlying27 (by kernel_rfl) match_elem hf
  simp [Value.cells] at hcs
  obtain ⟨rfl, rfl, rfl⟩ := hcs
  exact ⟨_, _, _, l, rfl, hl, hlc, hm, hn, hr, hw⟩

/-- A match that comes in by value. -/
theorem open_match {r : Reach} {b0 : Nat} {v : Value} {d : DataW H} {p : List MemPlace} (hv : Value.okWide Try.prog w r b0 23 v) (h : DataW.Trod enc Try.prog w base spare held 23 v d p) :
    ∃ o : MRow, v = o.val ∧ o.Wf := by
  obtain ⟨cs, rfl, hsz⟩ := okWide_struct Try.underlying23 hv
  obtain ⟨fuel, hf⟩ := h
  have hC : Try.prog.cellsOf 23 = 3 := by kernel_rfl
  obtain ⟨o, ho, hw⟩ := match_elem _ _ _ (by show cs.toList.length = 3; rw [Array.length_toList]; exact hsz.trans hC) hf
  refine ⟨o, ?_, hw⟩
  have : cs.toList = o.cells := ho
  have e : cs = #[.string o.word, .int .i64 o.weight, .int .i64 o.dist] := by rw [← Array.toArray_toList (xs := cs), this]; rfl
  rw [e]; rfl
end

end Go.Proofs.Ytcencmjdhaejcaa
