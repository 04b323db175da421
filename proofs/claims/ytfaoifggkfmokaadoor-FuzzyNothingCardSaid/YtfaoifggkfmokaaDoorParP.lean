/- States whose arcs may be anything. No condition. -/
import Derived.Test.YtfaoifggkfmokaaDoorNewW
namespace Go.Proofs.YtfaoifggkfmokaaDoor
open Go.RowKit

/-- A state whose arcs may be anything. -/
structure StZ where
  fin : Bool
  out : Int
  arcs : List (Int × Int × Int)
def arcZ (a : Nat × Int × Nat) : Int × Int × Int := ((a.1 : Int), a.2.1, (a.2.2 : Int))
def StP.z (s : StP) : StZ := ⟨s.fin, s.out, s.arcs.map arcZ⟩
theorem arcZ_inj {a b : Nat × Int × Nat} (h : arcZ a = arcZ b) : a = b := by
  obtain ⟨a1, a2, a3⟩ := a
  obtain ⟨b1, b2, b3⟩ := b
  simp only [arcZ, Prod.mk.injEq] at h ⊢
  omega
theorem map_inj {α β : Type} {f : α → β} (hf : ∀ a b, f a = f b → a = b) : ∀ {l m : List α}, l.map f = m.map f → l = m
  | [], [], _ => rfl
  | [], _ :: _, h => by simp at h
  | _ :: _, [], h => by simp at h
  | a :: l, b :: m, h => by
    simp only [List.map_cons, List.cons.injEq] at h
    rw [hf _ _ h.1, map_inj hf h.2]
theorem StP.z_inj {s t : StP} (h : s.z = t.z) : s = t := by
  obtain ⟨a, b, c⟩ := s
  obtain ⟨a', b', c'⟩ := t
  simp only [StP.z, StZ.mk.injEq] at h
  obtain ⟨rfl, rfl, h⟩ := h
  rw [map_inj (fun _ _ => arcZ_inj) h]

end Go.Proofs.YtfaoifggkfmokaaDoor
