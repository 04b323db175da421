/- Rests in order: the end first, then those behind each first rune. Plain laws, no program in sight. No condition. -/
import Derived.Test.YtcmjohaohdgnjaaDoorMach
namespace Go.Proofs.YtcmjohaohdgnjaaDoor

def behR (R : Rs) (c : Nat) : Rs := (underR R c).map fun r => (c :: r.1, r.2)
theorem behR_len (R : Rs) (c : Nat) : (behR R c).length = (underR R c).length := by simp [behR]
theorem mem_beh {R : Rs} {c : Nat} {x : List Nat} {n : Int} : (x, n) ∈ behR R c ↔ ∃ t, x = c :: t ∧ (t, n) ∈ underR R c := by
  unfold behR
  rw [List.mem_map]
  constructor
  · rintro ⟨⟨t, m⟩, hr, e⟩
    simp only [Prod.mk.injEq] at e
    obtain ⟨rfl, rfl⟩ := e
    exact ⟨t, rfl, hr⟩
  · rintro ⟨t, rfl, h⟩
    exact ⟨(t, n), h, rfl⟩
theorem beh_sorted {R : Rs} (h : SortR R) (c : Nat) : SortR (behR R c) := by
  unfold behR SortR
  rw [List.pairwise_map]
  have := sort_under c h
  unfold SortR at this
  refine this.imp fun {a b} hab => ?_
  unfold ltR at hab ⊢
  simp only
  rw [lexN_cons]
  exact hab
/-- Rests in order: the end first, then those behind each first rune. -/
theorem split_sorted {R : Rs} (h : SortR R) : R = (if finR R = true then [([], outR R)] else []) ++ (firstsR R).flatMap (behR R) := by
  refine sort_ext h ?_ ?_
  · unfold SortR
    rw [List.pairwise_append]
    refine ⟨?_, ?_, ?_⟩
    · split
      · exact List.pairwise_singleton _ _
      · exact List.Pairwise.nil
    · rw [List.pairwise_flatMap]
      refine ⟨fun c _ => beh_sorted h c, (firsts_sorted h).imp fun {a b} hab x hx y hy => ?_⟩
      obtain ⟨x, n⟩ := x
      obtain ⟨y, m⟩ := y
      obtain ⟨t, rfl, _⟩ := mem_beh.1 hx
      obtain ⟨t', rfl, _⟩ := mem_beh.1 hy
      unfold ltR
      simp only [lexN]
      rw [if_neg (by omega)]
      simpa using hab
    · intro x hx y hy
      split at hx
      · rw [List.mem_singleton] at hx
        subst hx
        obtain ⟨c, _, hc⟩ := List.mem_flatMap.1 hy
        obtain ⟨y, m⟩ := y
        obtain ⟨t, rfl, _⟩ := mem_beh.1 hc
        rfl
      · cases hx
  · rintro ⟨x, n⟩
    rw [List.mem_append, List.mem_flatMap]
    constructor
    · intro hx
      cases x with
      | nil =>
        left
        rw [if_pos (finR_iff.2 ⟨n, hx⟩), outR_mem h hx]
        exact List.mem_singleton.2 rfl
      | cons c t =>
        right
        have h1 := mem_under.2 hx
        exact ⟨c, mem_firsts.2 (List.ne_nil_of_mem h1), mem_beh.2 ⟨t, rfl, h1⟩⟩
    · rintro (hx | ⟨c, _, hc⟩)
      · split at hx
        · rename_i hf
          rw [List.mem_singleton] at hx
          simp only [Prod.mk.injEq] at hx
          obtain ⟨rfl, rfl⟩ := hx
          obtain ⟨m, hm⟩ := finR_iff.1 hf
          rw [outR_mem h hm]
          exact hm
        · cases hx
      · obtain ⟨t, rfl, h1⟩ := mem_beh.1 hc
        exact mem_under.1 h1
end Go.Proofs.YtcmjohaohdgnjaaDoor
