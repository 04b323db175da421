/- A script of calls that comes in, opened. No condition. -/
import Derived.Test.YtiakbccomgcncaaOnceP
namespace Go.Proofs.Ytiakbccomgcncaa
open Go.RowKit Go.ChangeShapes Go.WideShapes Go.ChangeAt

section
variable {H : Type} {enc : TypeId × Value → H} {w : World} {base : Nat} {spare : Nat → Bool} {held : Bool}

theorem ans_elem (n : Nat) (cs : List Value) (y : DataW H × List MemPlace) (h : DataW.trod enc Try.prog w base spare held n 29 cs = some y) :
    ∃ c s h, cs[0]? = some (.int .i64 c) ∧ cs[1]? = some (.int .u64 s) ∧ cs[2]? = some (.int .i64 h) ∧ (Lit.int .i64 c).wf = true ∧ (Lit.int .u64 s).wf = true ∧ (Lit.int .i64 h).wf = true := by
  obtain ⟨c, hc, wc⟩ := field_int (k := .i64) Try.underlying29 h 0 _ rfl (by kernel_rfl) (by kernel_rfl)
  obtain ⟨s, hs, ws⟩ := field_int (k := .u64) Try.underlying29 h 1 _ rfl (by kernel_rfl) (by kernel_rfl)
  obtain ⟨d, hd, wd⟩ := field_int (k := .i64) Try.underlying29 h 2 _ rfl (by kernel_rfl) (by kernel_rfl)
  exact ⟨c, s, d, hc, hs, hd, wc, ws, wd⟩

theorem list6 {cs : List Value} (h : cs.length = 6) : ∃ a b c d e f, cs = [a, b, c, d, e, f] := by
  match cs, h with
  | [a, b, c, d, e, f], _ => exact ⟨a, b, c, d, e, f, rfl⟩

theorem op_elem (n : Nat) (cs : List Value) (y : DataW H × List MemPlace) (hl : cs.length = 6) (h : DataW.trod enc Try.prog w base spare held n 31 cs = some y) : ∃ r : OpR, cs = r.cells ∧ r.wf := by
  obtain ⟨a, ha, wa⟩ := field_int (k := .i64) Try.underlying31 h 0 _ rfl (by kernel_rfl) (by kernel_rfl)
  obtain ⟨b, hb, wb⟩ := field_int (k := .u64) Try.underlying31 h 1 _ rfl (by kernel_rfl) (by kernel_rfl)
  obtain ⟨c, hc, wc⟩ := field_int (k := .u64) Try.underlying31 h 2 _ rfl (by kernel_rfl) (by kernel_rfl)
  obtain ⟨m, z, hz⟩ := field_of Try.underlying31 h 3 _ rfl
  obtain ⟨d, e, f, hd, he, hf, wd, we, wf⟩ := ans_elem m _ z hz
  obtain ⟨x0, x1, x2, x3, x4, x5, rfl⟩ := list6 hl
  have hC : Try.prog.cellsOf 29 = 3 := by kernel_rfl
  simp [hC] at ha hb hc hd he hf
  exact ⟨⟨a, b, c, d, e, f⟩, by rw [ha, hb, hc, hd, he, hf]; rfl, wa, wb, wc, wd, we, wf⟩

/-- A script that comes in. -/
theorem open_ops {r : Reach} {b0 : Nat} {v : Value} {d : DataW H} {p : List MemPlace} (hv : Value.okWide Try.prog w r b0 22 v) (h : DataW.Trod enc Try.prog w base spare held 22 v d p) :
    ∃ A len cap, ∃ l : List OpR, v = .slice A len cap ∧ len = l.length ∧ len ≤ 9223372036854775807 ∧ (A = none → len = 0 ∧ cap = 0) ∧ Reads w 6 A len (opCells l) ∧ ∀ r ∈ l, r.wf := by
  obtain ⟨a0, len, cap, rfl⟩ := okWide_slice Try.underlying22 hv
  obtain ⟨fuel, hf⟩ := h
  obtain ⟨A, len', cap', l, hcs, hl, hlc, hm, hn, hr, hw⟩ := open_rows OpR.cells OpR.wf 6 (fun _ => rfl) (by decide) Try.underlying22 (by kernel_rfl) (op_elem) hf
  simp [Value.cells] at hcs
  obtain ⟨rfl, rfl, rfl⟩ := hcs
  exact ⟨_, _, _, l, rfl, hl.symm, by unfold maxLen at hm; omega, hn, hr, hw⟩

/-- A call that comes in by value. -/
theorem open_op {r : Reach} {b0 : Nat} {v : Value} {d : DataW H} {p : List MemPlace} (hv : Value.okWide Try.prog w r b0 31 v) (h : DataW.Trod enc Try.prog w base spare held 31 v d p) :
    ∃ o : OpR, v = .agg o.cells.toArray ∧ o.wf := by
  obtain ⟨cs, rfl, hsz⟩ := okWide_struct Try.underlying31 hv
  obtain ⟨fuel, hf⟩ := h
  have hC : Try.prog.cellsOf 31 = 6 := by kernel_rfl
  obtain ⟨o, ho, hw⟩ := op_elem _ _ _ (by show cs.toList.length = 6; rw [Array.length_toList]; exact hsz.trans hC) hf
  refine ⟨o, ?_, hw⟩
  have : cs.toList = o.cells := ho
  rw [← this]
end

end Go.Proofs.Ytiakbccomgcncaa
