/- slices.Clone of a row of arcs: nil stays nil, else the same arcs in a row of their own. Condition: there are no more than 2^21 arcs. -/
import Derived.Test.YtfaoifggkfmokaaDoorPkG
namespace Go.Proofs.YtfaoifggkfmokaaDoor
open Go.RowKit

theorem own_nought (w : World) (e : TypeId) (size : Nat) : (w.alloc (.cells #[] e)).ownsRow 0 e size (.slice (some ⟨w.heap.size, 0, none⟩) 0 0) 0 [] :=
  ⟨by simp, .inr ⟨w.heap.size, 0, #[], rfl, Nat.zero_le _, heap_alloc_new _ _, Nat.le_refl _, Nat.zero_le _, by simp, by simp⟩⟩
theorem run_eql_arcs (w : World) (a : Option Addr) (l c : Nat) : (binOp .eql 61 (.slice a l c) (.slice none 0 0)).run Tryd.prog w = .ok (.bool a.isNone) w := by
  simp only [binOp]
  simp [run_equal_slice_nil (P := Tryd.prog) w 61 74 a l c Tryd.underlying61]
/-- A state's arcs, cloned. -/
structure Cln (w w' : World) (A : Option Addr) (n c : Nat) (arcs : List (Nat × Int × Nat)) : Prop where
  own : w'.ownsRow 0 74 3 (.slice A n c) n (aCells arcs)
  young : ∀ g, adBlock A = some g → w.heap.size ≤ g
  touch : Touch (fun _ => False) w w'

set_option maxRecDepth 100000 in
set_option maxHeartbeats 1000000 in
theorem clone_rd (w : World) (A : Option Addr) (n c : Nat) (arcs : List (Nat × Int × Nat)) (hl : arcs.length = n) (hr : Reads w 3 A n (aCells arcs)) (hn : n ≤ 2097152) :
    Calls Tryd.prog 49 #[.slice A n c] w fun e w' => ∃ A' c', e = .returned (.slice A' n c') ∧ Cln w w' A' n c' arcs := by
  cases A with
  | none =>
    have h0 : n = 0 := by
      rcases Nat.eq_zero_or_pos n with h | h
      · exact h
      · obtain ⟨b, o, hA, _⟩ := hr.2 h
        cases hA
    subst h0
    have : arcs = [] := List.length_eq_zero_iff.1 hl
    subst this
    have hmn := fun wx => run_eql_arcs wx none 0 c
    clear hl hr hn
    go_enter Tryd.func49, Tryd.ntmps49
    go_wp2_with fail
    go_ret
    exact ⟨none, 0, rfl, World.ownsRow_nil _ _ _ _, fun g h => (by cases h), Touch.refl _ _⟩
  | some a =>
    obtain ⟨i1, hi1, hy0, hy1, hy2⟩ := info_parts infoArc
    have HR := hide hr
    have hcl : ∀ u ∈ aCells arcs, u.oneCell' = true := by
      intro u hu
      obtain ⟨x, _, hx⟩ := List.mem_flatMap.1 hu
      simp only [List.mem_cons, List.not_mem_nil, or_false] at hx
      rcases hx with rfl | rfl | rfl <;> rfl
    have HC := hide hcl
    have hO := own_nought w 74 3
    have HO := hide hO
    have hT : Touch (fun _ => False) w (w.alloc (.cells #[] 74)) := (Touch.refl _ _).alloc _
    have HT := hide hT
    have hb1 : 0 + n ≤ maxLen := by unfold maxLen; omega
    have hb2 : (0 + n) * 24 ≤ 140737488355328 := by omega
    have HB := hide (And.intro hb1 hb2)
    have HRD := hide (hr.touch hT (fun _ _ f => f))
    have hmn := fun wx => run_eql_arcs wx (some a) n c
    clear hr hcl hO hT hb1 hb2 hn hl
    go_enter Tryd.func49, Tryd.ntmps49
    go_wp2_with (at_builtin; refine wpList_app _ rfl (.tmp 5) (.tmp 6) 61 rfl 74 i1 _ 3 24 Tryd.underlying61 hi1 hy0 hy1 hy2 rfl (by decide) (.slice (some ⟨w.heap.size, 0, none⟩) 0 0) 0 _ rfl HO.out (some a) n c (aCells arcs) rfl HRD.out (fun h => by cases h) HC.out HB.out.1 HB.out.2 ?_; intro v1 w10 O10 G10 F10 _; rw [Nat.zero_add, List.nil_append] at O10; obtain ⟨A2, c2, hv, _, _⟩ := own_len O10; subst hv; have HO10 := hide O10; have HG := hide G10; have HF := hide F10; clear O10 G10 F10)
    go_ret
    refine ⟨A2, c2, rfl, HO10.out, fun g hg => ?_, HT.out.trans ((Touch.refl (fun y => y = w.heap.size) _).grown HG.out (fun k hk _ => by injection hk with hk; exact hk.symm)) (fun i hi e => by omega)⟩
    have hg2 : (Value.slice A2 n c2).ownBlock = some g := by
      cases A2 with
      | none => cases hg
      | some a2 => exact hg
    rcases HF.out with h | ⟨g2, h, hle⟩
    · rw [hg2] at h
      injection h with h
      have h2 : g = w.heap.size := h
      omega
    · rw [hg2] at h
      injection h with h
      have := HT.out.size
      omega

theorem clone_any (w : World) (A : Option Addr) (n c : Nat) (arcs : List (Nat × Int × Nat)) (hl : arcs.length = n) (hr : RdT w 74 3 A n (aCells arcs)) (hn : n ≤ 2097152) :
    Calls Tryd.prog 49 #[.slice A n c] w fun e w' => ∃ A' c', e = .returned (.slice A' n c') ∧ Cln w w' A' n c' arcs := clone_rd w A n c arcs hl hr.rd hn
end Go.Proofs.YtfaoifggkfmokaaDoor
