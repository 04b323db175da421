/- A machine that comes in by value, opened. No condition. -/
import Derived.Test.YtnakpadjlamdeaaDoorOpenP
import Derived.Test.YtnakpadjlamdeaaDoorRfT
namespace Go.Proofs.YtnakpadjlamdeaaDoor
open Go.RowKit Go.ChangeShapes Go.WideShapes Go.ChangeAt
set_option linter.unusedSectionVars false
set_option linter.unusedSimpArgs false
set_option linter.unusedVariables false

instance : Inhabited ZV := ⟨zvZero⟩
section
variable {H : Type} {enc : TypeId × Value → H} {w : World} {base : Nat} {spare : Nat → Bool} {held : Bool} [Inhabited BaseT]
theorem lst3 {cs : List Value} (h : cs.length = 3) : ∃ a b c, cs = [a, b, c] := by
  match cs, h with
  | [a, b, c], _ => exact ⟨a, b, c, rfl⟩
theorem i32_wf {n : Int} (h : (Lit.int .i32 n).wf = true) : I32 n := by
  simp [Lit.wf, IntKind.min, IntKind.max, IntKind.signed, IntKind.bits] at h
  unfold I32
  omega
def arcC (a : Int × Int × Int) : List Value := [.int .i32 a.1, .int .i64 a.2.1, .int .i64 a.2.2]
theorem arc_elem (n : Nat) (cs : List Value) (y : DataW H × List MemPlace) (hl : cs.length = 3) (h : DataW.trod enc Tryd.prog w base spare held n 60 cs = some y) : ∃ r : Int × Int × Int, cs = arcC r ∧ I32 r.1 := by
  obtain ⟨a, ha, wa⟩ := field_int (k := .i32) Tryd.underlying60 h 0 _ rfl (by kernel_rfl) (by kernel_rfl)
  obtain ⟨b, hb, _⟩ := field_int (k := .i64) Tryd.underlying60 h 1 _ rfl (by kernel_rfl) (by kernel_rfl)
  obtain ⟨c, hc, _⟩ := field_int (k := .i64) Tryd.underlying60 h 2 _ rfl (by kernel_rfl) (by kernel_rfl)
  obtain ⟨x0, x1, x2, rfl⟩ := lst3 hl
  simp at ha hb hc
  exact ⟨(a, b, c), by rw [ha, hb, hc]; rfl, i32_wf wa⟩
theorem rdo_old {t : TypeId} {size : Nat} {A : Option Addr} {n : Nat} {xs : List Value} (hbs : w.heap.size ≤ bs) (h : Reads w size A n xs) : RdO w t size A n xs := by
  refine ⟨h, fun hn g hg => ?_⟩
  obtain ⟨b, off, rfl, hb, _⟩ := h.2 hn
  simp only [adBlock, Option.map_some, Option.some.injEq] at hg
  subst hg
  exact .inl ⟨hb, by omega⟩
theorem state_elem (hbs : w.heap.size ≤ bs) (n : Nat) (cs : List Value) (y : DataW H × List MemPlace) (hl : cs.length = 3) (h : DataW.trod enc Tryd.prog w base spare held n 44 cs = some y) : ∃ r : ZV, cs = r.cells ∧ (r.Ok w ∧ ∀ a ∈ r.arcs, I32 a.1) := by
  obtain ⟨a, ha⟩ := field_bool Tryd.underlying44 h 0 _ rfl (by kernel_rfl) (by kernel_rfl)
  obtain ⟨b, hb, _⟩ := field_int (k := .i64) Tryd.underlying44 h 1 _ rfl (by kernel_rfl) (by kernel_rfl)
  obtain ⟨m, z, hz⟩ := field_of Tryd.underlying44 h 2 _ rfl
  obtain ⟨A, len, cap, l, hcs, hll, hlc, hm, _, hr, hw⟩ := open_rows arcC (fun r => I32 r.1) 3 (fun _ => rfl) (by decide) Tryd.underlying42 (by kernel_rfl) arc_elem hz
  have hc1 : Tryd.prog.cellsOf 42 = 1 := by kernel_rfl
  obtain ⟨x0, x1, x2, rfl⟩ := lst3 hl
  simp at ha hb hcs
  rw [hc1] at hcs
  simp at hcs
  refine ⟨⟨a, b, A, len, cap, l⟩, by rw [ha, hb, hcs]; rfl, ⟨hll, rdo_old hbs hr, hlc, hm⟩, hw⟩

set_option maxRecDepth 100000 in
/-- A machine. -/
theorem open_machine (hbs : w.heap.size ≤ bs) {r : Reach} {b0 : Nat} {v : Value} {d : DataW H} {p : List MemPlace} (hv : Value.okWide Tryd.prog w r b0 40 v) (h : DataW.Trod enc Tryd.prog w base spare held 40 v d p) :
    ∃ (bn : Int) (A : Option Addr) (n c : Nat) (Z : List ZV), v = .agg #[.int .i64 bn, .slice A n c] ∧ StsZ w A n Z ∧ n ≤ maxLen ∧ n ≤ c ∧ ∀ z ∈ Z, ∀ a ∈ z.arcs, I32 a.1 := by
  obtain ⟨cs, rfl, hsz⟩ := okWide_struct Tryd.underlying40 hv
  obtain ⟨fuel, hf⟩ := h
  have hC : Tryd.prog.cellsOf 40 = 2 := by kernel_rfl
  have hf2 : DataW.trod enc Tryd.prog w base spare held fuel 40 cs.toList = some (d, p) := hf
  obtain ⟨b, hb, _⟩ := field_int (k := .i64) Tryd.underlying40 hf2 0 _ rfl (by kernel_rfl) (by kernel_rfl)
  obtain ⟨m, z, hz⟩ := field_of Tryd.underlying40 hf2 1 _ rfl
  obtain ⟨A, len, cap, l, hcs, hll, hlc, hm, _, hr, hw⟩ := open_rows ZV.cells (fun r : ZV => r.Ok w ∧ ∀ a ∈ r.arcs, I32 a.1) 3 (fun _ => rfl) (by decide) Tryd.underlying38 (by kernel_rfl) (state_elem hbs) hz
  have hc1 : Tryd.prog.cellsOf 38 = 1 := by kernel_rfl
  obtain ⟨x0, x1, hx⟩ := list2 (cs := cs.toList) (by rw [Array.length_toList]; exact hsz.trans hC)
  rw [hx] at hb hcs
  simp at hb hcs
  rw [hc1] at hcs
  simp at hcs
  subst hb
  subst hcs
  refine ⟨b, A, len, cap, l, ?_, ⟨rdo_old hbs hr, hll, fun z hz => (hw z hz).1⟩, Nat.le_trans hlc hm, hlc, fun z hz => (hw z hz).2⟩
  rw [← Array.toArray_toList (xs := cs), hx]
end

end Go.Proofs.YtnakpadjlamdeaaDoor
