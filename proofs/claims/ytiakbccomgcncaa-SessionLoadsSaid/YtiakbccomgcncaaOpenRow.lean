/- Rows that come in, opened. No condition. -/
import Derived.Test.YtiakbccomgcncaaOpenOp
import Derived.Test.YtiakbccomgcncaaLoadsW
namespace Go.Proofs.Ytiakbccomgcncaa
open Go.RowKit Go.ChangeShapes Go.WideShapes Go.ChangeAt

section
variable {H : Type} {enc : TypeId × Value → H} {w : World} {base : Nat} {spare : Nat → Bool} {held : Bool}

theorem list4 {cs : List Value} (h : cs.length = 4) : ∃ a b c d, cs = [a, b, c, d] := by
  match cs, h with
  | [a, b, c, d], _ => exact ⟨a, b, c, d, rfl⟩

theorem srow_elem (n : Nat) (cs : List Value) (y : DataW H × List MemPlace) (hl : cs.length = 4) (h : DataW.trod enc Try.prog w base spare held n 51 cs = some y) : ∃ r : SRow, cs = r.cells ∧ True := by
  obtain ⟨a, ha, wa⟩ := field_int (k := .u64) Try.underlying51 h 0 _ rfl (by kernel_rfl) (by kernel_rfl)
  obtain ⟨m, z, hz⟩ := field_of Try.underlying51 h 1 _ rfl
  obtain ⟨d, e, f, hd, he, hf, _, _, _⟩ := ans_elem m _ z hz
  obtain ⟨x0, x1, x2, x3, rfl⟩ := list4 hl
  have hC : Try.prog.cellsOf 29 = 3 := by kernel_rfl
  simp [hC] at ha hd he hf
  exact ⟨⟨a, d, e, f⟩, by rw [ha, hd, he, hf]; rfl, trivial⟩

theorem open_srows {r : Reach} {b0 : Nat} {v : Value} {d : DataW H} {p : List MemPlace} (hv : Value.okWide Try.prog w r b0 47 v) (h : DataW.Trod enc Try.prog w base spare held 47 v d p) :
    ∃ A len cap, ∃ l : List SRow, v = .slice A len cap ∧ len = l.length ∧ len ≤ 9223372036854775807 ∧ (A = none → len = 0 ∧ cap = 0) ∧ Reads w 4 A len (rowCells l) := by
  obtain ⟨a0, len, cap, rfl⟩ := okWide_slice Try.underlying47 hv
  obtain ⟨fuel, hf⟩ := h
  obtain ⟨A, len', cap', l, hcs, hl, hlc, hm, hn, hr, hw⟩ := open_rows SRow.cells (fun _ => True) 4 (fun _ => rfl) (by decide) Try.underlying47 (by kernel_rfl) srow_elem hf
  simp [Value.cells] at hcs
  obtain ⟨rfl, rfl, rfl⟩ := hcs
  exact ⟨_, _, _, l, rfl, hl.symm, by unfold maxLen at hm; omega, hn, hr⟩
end

end Go.Proofs.Ytiakbccomgcncaa
