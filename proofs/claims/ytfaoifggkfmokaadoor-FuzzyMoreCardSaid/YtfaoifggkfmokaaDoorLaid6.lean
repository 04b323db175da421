/- The package's variable of the least runes lies as its initialiser lays it: out of a row's own condition. No condition. -/
import Derived.Test.YtfaoifggkfmokaaDoorUtf
import Derived.Test.YtfaoifggkfmokaaDoorRows
import Derived.Lib.LaidTab
namespace Go.Proofs.YtfaoifggkfmokaaDoor
open Go.RowKit

theorem lst_of_laid {W : World} {laid : List (String × DataW Unit)} (he : laid = [("abecedary/letters.least", Rows.laid_abecedary_letters_least)]) (h : laidMetH Tryd.prog laid W) : Lst W := by
  subst he
  have hL : laidMet Tryd.prog (("abecedary/letters.least", Lib.tabData .i32 [0, 0, 128, 2048, 65536]) :: []) W := h
  have h := Lib.tabIs_of_head (g := 0) (t := 140) (e := 21) (n := 5) (by kernel_rfl) (by kernel_rfl) Tryd.underlying140 Tryd.underlying21 (by kernel_rfl) (by kernel_rfl) hL
  unfold Lib.TabIs World.var? at h
  rw [show Tryd.prog.globalNamed "abecedary/letters.least" = some 0 by kernel_rfl] at h
  simp only [Option.bind_some] at h
  have hg : ∃ cs t fr, W.heap[0]? = some (.cells cs t fr) ∧ cs = (([0, 0, 128, 2048, 65536] : List Int).map fun z => Value.int .i32 z).toArray := by
    cases hh : W.heap[0]? with
    | none => rw [hh] at h; cases h
    | some o =>
      rw [hh] at h
      cases o with
      | cells cs t fr => exact ⟨cs, t, fr, rfl, Option.some.inj h⟩
      | _ => cases h
  obtain ⟨cs, t, fr, hg, rfl⟩ := hg
  refine ⟨(Array.getElem?_eq_some_iff.1 hg).1, ?_, ?_, ?_⟩
  · unfold World.cell?; rw [hg]; rfl
  · unfold World.cell?; rw [hg]; rfl
  · unfold World.cell?; rw [hg]; rfl

end Go.Proofs.YtfaoifggkfmokaaDoor
