/- A text that comes in is no longer than its bulk. No condition. -/
import Derived.Test.YtfaoifggkfmokaaDoorOpenP
namespace Go.Proofs.YtfaoifggkfmokaaDoor
open Go.RowKit Go.ChangeShapes Go.WideShapes Go.ChangeAt

theorem bulk_string {H : Type} {enc : TypeId × Value → H} {w : World} {base : Nat} {spare : Nat → Bool} {held : Bool} {s : ByteArray} {d : DataW H} {p : List MemPlace} (h : DataW.Trod enc Tryd.prog w base spare held 9 (.string s) d p) : s.size ≤ Rows.uptoBulk d := by
  obtain ⟨fuel, hf⟩ := h
  obtain ⟨s', hc, hx, _⟩ := DataW.trod_string Tryd.underlying9 hf
  simp [Value.cells] at hc
  subst hc
  injection hx with hd _
  subst hd
  simp only [Rows.uptoBulk]
  have e : s.data.toList.length = s.size := Array.length_toList
  omega
theorem string_le {H : Type} {enc : TypeId × Value → H} {w : World} {base : Nat} {spare : Nat → Bool} {held : Bool} {s : ByteArray} {d : DataW H} {p : List MemPlace} (h : DataW.Trod enc Tryd.prog w base spare held 9 (.string s) d p) : s.size ≤ 9223372036854775807 := by
  obtain ⟨fuel, hf⟩ := h
  obtain ⟨s', hc, hx, hm⟩ := DataW.trod_string Tryd.underlying9 hf
  simp [Value.cells] at hc
  subst hc
  have e : maxLen = 9223372036854775807 := by decide
  rw [e] at hm
  exact hm

end Go.Proofs.YtfaoifggkfmokaaDoor
