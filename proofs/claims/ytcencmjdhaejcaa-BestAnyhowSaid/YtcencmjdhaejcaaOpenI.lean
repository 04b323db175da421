/- Numbers that come in, opened; how many bytes a slice of matches takes. No condition. -/
import Derived.Test.YtcencmjdhaejcaaOpenM
import Derived.Test.YtcencmjdhaejcaaAnyW
import Derived.SizedLaws
namespace Go.Proofs.Ytcencmjdhaejcaa
open Go.RowKit Go.ChangeShapes Go.WideShapes Go.ChangeAt

section
variable {H : Type} {enc : TypeId × Value → H} {w : World} {base : Nat} {spare : Nat → Bool} {held : Bool}

theorem int_elem (n : Nat) (cs : List Value) (y : DataW H × List MemPlace) (h : DataW.trod enc Try.prog w base spare held n 3 cs = some y) : ∃ r : Int, cs = [.int .i64 r] := by
  obtain ⟨n', h, _, _⟩ := DataW.trod_int Try.underlying3 h
  exact ⟨n', h⟩

/-- Numbers that come in. -/
theorem open_numbers {r : Reach} {b0 : Nat} {v : Value} {d : DataW H} {p : List MemPlace} (hv : Value.okWide Try.prog w r b0 31 v) (h : DataW.Trod enc Try.prog w base spare held 31 v d p) :
    ∃ A len cap, ∃ l : List Int, v = .slice A len cap ∧ l.length = len ∧ len ≤ cap ∧ cap ≤ maxLen ∧ Reads w 1 A len (iCells l) := by
  obtain ⟨a0, len, cap, rfl⟩ := okWide_slice Try.underlying31 hv
  obtain ⟨fuel, hf⟩ := h
  obtain ⟨A, len', cap', l, hcs, hl, hlc, hm, hn, hr, hw⟩ := open_rows (fun x => [Value.int .i64 x]) (fun _ => True) 1 (fun _ => rfl) (by decide) Try.underlying31 (by kernel_rfl) (fun n cs y _ h => by obtain ⟨r, hr⟩ := int_elem n cs y h; exact ⟨r, hr, trivial⟩) hf
  simp [Value.cells] at hcs
  obtain ⟨rfl, rfl, rfl⟩ := hcs
  exact ⟨_, _, _, l, rfl, hl, hlc, hm, hr⟩

/-- A slice's datum has as many elements as the slice. -/
theorem slice_data {t e : TypeId} {A : Option Addr} {n c : Nat} {d : DataW H} {p : List MemPlace} (ht : Try.prog.underlying t = some (.slice e)) (h : DataW.Trod enc Try.prog w base spare held t (.slice A n c) d p) :
    n = 0 ∨ ∃ elems sp, d = .slice elems sp ∧ elems.length = n := by
  obtain ⟨fuel, hf⟩ := h
  rcases Go.Deep.open_slice ht hf with ⟨hcs, _⟩ | ⟨a, len, cap, m, n', D, Pl, hcs, _, _, _, _, hx, _⟩
  · simp [Value.cells] at hcs
    exact .inl hcs.2.1
  · simp [Value.cells] at hcs
    simp only [Prod.mk.injEq] at hx
    exact .inr ⟨_, _, hx.1, by simp [hcs.2.1]⟩
end

end Go.Proofs.Ytcencmjdhaejcaa
