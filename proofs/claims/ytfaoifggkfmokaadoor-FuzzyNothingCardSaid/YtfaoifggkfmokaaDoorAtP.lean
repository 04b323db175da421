/- A dictionary's machine: a word by its number. Plain laws, no program in sight. No condition. -/
import Derived.Test.YtfaoifggkfmokaaDoorNewW
namespace Go.Proofs.YtfaoifggkfmokaaDoor

def behR (R : Rs) (c : Nat) : Rs := (underR R c).map fun r => (c :: r.1, r.2)
theorem behR_len (R : Rs) (c : Nat) : (behR R c).length = (underR R c).length := by simp [behR]
theorem mem_beh {R : Rs} {c : Nat} {x : List Nat} {n : Int} : (x, n) ∈ behR R c ↔ ∃ t, x = c :: t ∧ (t, n) ∈ underR R c := by
  unfold behR
  rw [List.mem_map]
  constructor
  · rintro ⟨⟨t, m⟩, hr, e⟩
    simp only [Prod.mk.injEq] at e
    obtain ⟨rfl, rfl⟩ := e
    exact ⟨t, rfl, hr⟩
  · rintro ⟨t, rfl, h⟩
    exact ⟨(t, n), h, rfl⟩
theorem beh_sorted {R : Rs} (h : SortR R) (c : Nat) : SortR (behR R c) := by
  unfold behR SortR
  rw [List.pairwise_map]
  have := sort_under c h
  unfold SortR at this
  refine this.imp fun {a b} hab => ?_
  unfold ltR at hab ⊢
  simp only
  rw [lexN_cons]
  exact hab
/-- Rests in order: the end first, then those behind each first rune. -/
theorem split_sorted {R : Rs} (h : SortR R) : R = (if finR R = true then [([], outR R)] else []) ++ (firstsR R).flatMap (behR R) := by
  refine sort_ext h ?_ ?_
  · unfold SortR
    rw [List.pairwise_append]
    refine ⟨?_, ?_, ?_⟩
    · split
      · exact List.pairwise_singleton _ _
      · exact List.Pairwise.nil
    · rw [List.pairwise_flatMap]
      refine ⟨fun c _ => beh_sorted h c, (firsts_sorted h).imp fun {a b} hab x hx y hy => ?_⟩
      obtain ⟨x, n⟩ := x
      obtain ⟨y, m⟩ := y
      obtain ⟨t, rfl, _⟩ := mem_beh.1 hx
      obtain ⟨t', rfl, _⟩ := mem_beh.1 hy
      unfold ltR
      simp only [lexN]
      rw [if_neg (by omega)]
      simpa using hab
    · intro x hx y hy
      split at hx
      · rw [List.mem_singleton] at hx
        subst hx
        obtain ⟨c, _, hc⟩ := List.mem_flatMap.1 hy
        obtain ⟨y, m⟩ := y
        obtain ⟨t, rfl, _⟩ := mem_beh.1 hc
        rfl
      · cases hx
  · rintro ⟨x, n⟩
    rw [List.mem_append, List.mem_flatMap]
    constructor
    · intro hx
      cases x with
      | nil =>
        left
        rw [if_pos (finR_iff.2 ⟨n, hx⟩), outR_mem h hx]
        exact List.mem_singleton.2 rfl
      | cons c t =>
        right
        have h1 := mem_under.2 hx
        exact ⟨c, mem_firsts.2 (List.ne_nil_of_mem h1), mem_beh.2 ⟨t, rfl, h1⟩⟩
    · rintro (hx | ⟨c, _, hc⟩)
      · split at hx
        · rename_i hf
          rw [List.mem_singleton] at hx
          simp only [Prod.mk.injEq] at hx
          obtain ⟨rfl, rfl⟩ := hx
          obtain ⟨m, hm⟩ := finR_iff.1 hf
          rw [outR_mem h hm]
          exact hm
        · cases hx
      · obtain ⟨t, rfl, h1⟩ := mem_beh.1 hc
        exact mem_under.1 h1
/-- From a state on, the word of a number is the one that is looked for. -/
def AtP (k : KnP) (s i : Nat) (l : List Nat) (u : Int) (O : List Nat) (w : Int) : Prop := ∃ R e, k.rests[s]? = some R ∧ R[i]? = some e ∧ l ++ e.1 = O ∧ u + e.2 = w
/-- .. behind so many arcs. -/
def ArP (k : KnP) (s j i : Nat) (l : List Nat) (u : Int) (O : List Nat) (w : Int) : Prop := ∃ R e, k.rests[s]? = some R ∧ (((firstsR R).drop j).flatMap (behR R))[i]? = some e ∧ l ++ e.1 = O ∧ u + e.2 = w
section
variable {k : KnP} (hk : Good k) {s : Nat} {z : StP} (hz : k.states[s]? = some z)
include hk hz
theorem at_final {l : List Nat} {u : Int} {O : List Nat} {w : Int} (h : AtP k s 0 l u O w) (hf : z.fin = true) : l = O ∧ u + z.out = w := by
  obtain ⟨R, e, hR, he, h1, h2⟩ := h
  have hc := hk.corr s R z hR hz
  have hs := split_sorted hc.sort
  rw [← hc.fin, hf, if_pos rfl] at hs
  rw [hs] at he
  simp only [List.cons_append, List.nil_append, List.getElem?_cons_zero, Option.some.injEq] at he
  subst he
  rw [List.append_nil] at h1
  rw [hc.out]
  exact ⟨h1, h2⟩
theorem at_arcs {i : Nat} {l : List Nat} {u : Int} {O : List Nat} {w : Int} (h : AtP k s i l u O w) (hf : z.fin = true → 0 < i) : ArP k s 0 (if z.fin = true then i - 1 else i) l u O w := by
  obtain ⟨R, e, hR, he, h1, h2⟩ := h
  have hc := hk.corr s R z hR hz
  have hs := split_sorted hc.sort
  refine ⟨R, e, hR, ?_, h1, h2⟩
  rw [List.drop_zero]
  cases hz' : z.fin with
  | false =>
    rw [← hc.fin, hz'] at hs
    simp only [Bool.false_eq_true, if_false, List.nil_append] at hs
    rw [← hs]
    simpa using he
  | true =>
    have := hf hz'
    rw [← hc.fin, hz', if_pos rfl] at hs
    rw [hs] at he
    obtain ⟨i, rfl⟩ : ∃ j, i = j + 1 := ⟨i - 1, by omega⟩
    simpa using he
theorem ar_lt {j i : Nat} {l : List Nat} {u : Int} {O : List Nat} {w : Int} (h : ArP k s j i l u O w) : j < z.arcs.length := by
  obtain ⟨R, e, hR, he, _⟩ := h
  have hc := hk.corr s R z hR hz
  rcases Nat.lt_or_ge j z.arcs.length with h | h
  · exact h
  · exfalso
    rw [List.drop_eq_nil_of_le (by rw [← hc.labels, List.length_map]; exact h)] at he
    simp at he
theorem ar_split {j i : Nat} {l : List Nat} {u : Int} {O : List Nat} {w : Int} (h : ArP k s j i l u O w) {a : Nat × Int × Nat} (ha : z.arcs.getD j (0, 0, 0) = a) :
    ∃ R', k.rests[a.2.2]? = some R' ∧ (i < R'.length → AtP k a.2.2 i (l ++ [a.1]) (u + a.2.1) O w) ∧ (R'.length ≤ i → ArP k s (j + 1) (i - R'.length) l u O w) := by
  have hj := ar_lt hk hz h
  obtain ⟨R, e, hR, he, h1, h2⟩ := h
  have hc := hk.corr s R z hR hz
  have hmem : a ∈ z.arcs := by rw [← ha]; exact getD_mem _ _ _ hj
  obtain ⟨q1, q2, q3⟩ := hc.arc a hmem
  refine ⟨_, q3, ?_⟩
  rw [level_len]
  have hlab : (firstsR R).drop j = a.1 :: (firstsR R).drop (j + 1) := by
    have hl : j < (firstsR R).length := by rw [← hc.labels, List.length_map]; exact hj
    rw [List.drop_eq_getElem_cons hl]
    congr 1
    have h3 : (z.arcs.map (·.1))[j]? = some a.1 := by
      rw [List.getElem?_map, getD_get? (d := (0, 0, 0)) hj, ha]
      rfl
    rw [hc.labels, List.getElem?_eq_getElem hl] at h3
    exact Option.some.inj h3
  rw [hlab, List.flatMap_cons] at he
  constructor
  · intro hi
    rw [List.getElem?_append_left (by rw [behR_len]; exact hi)] at he
    unfold behR at he
    rw [List.getElem?_map] at he
    obtain ⟨r, hr, rfl⟩ := Option.map_eq_some_iff.1 he
    refine ⟨_, (r.1, r.2 - leastR (underR R a.1)), q3, ?_, ?_, ?_⟩
    · unfold levelR
      rw [List.getElem?_map, hr]
      rfl
    · simpa using h1
    · simp only at h2 ⊢
      rw [q1]
      omega
  · intro hi
    rw [List.getElem?_append_right (by rw [behR_len]; exact hi), behR_len] at he
    exact ⟨R, e, hR, he, h1, h2⟩
end
/-- What is carried along stays in bounds. -/
theorem at_bound {k : KnP} (hh : ∀ X ∈ k.rests, Her X) {s i : Nat} {l : List Nat} {u : Int} {O : List Nat} {w : Int} (h : AtP k s i l u O w) : u ≤ w ∧ l.length ≤ O.length := by
  obtain ⟨R, e, hR, he, h1, h2⟩ := h
  have := (hh R (List.mem_of_getElem? hR)).wt e (List.mem_of_getElem? he)
  refine ⟨by omega, ?_⟩
  rw [← h1, List.length_append]
  omega
/-- The words of each state, counted. -/
theorem wds_rests {k : KnP} (hk : Good k) (hh : ∀ X ∈ k.rests, Her X) {j : Nat} (hj : j < k.states.length) {R : Rs} (hR : k.rests[j]? = some R) : (wdsF k.states k.states.length)[j]? = some (R.length : Int) := by
  rw [wdsF_get (Nat.le_refl _) hj, (sums_uF hk hh k.states.length (Nat.le_refl _) j hj R hR).words]

end Go.Proofs.YtfaoifggkfmokaaDoor
