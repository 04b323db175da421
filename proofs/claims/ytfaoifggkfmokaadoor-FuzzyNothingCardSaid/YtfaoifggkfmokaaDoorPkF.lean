/- What pack.Right asks of a machine, plainly; a dictionary's machine has it. No program in sight. Condition: it is a dictionary. -/
import Derived.Test.YtfaoifggkfmokaaDoorPkE
namespace Go.Proofs.YtfaoifggkfmokaaDoor

/-- The sums behind so many rounds. -/
def uF (sts : List StP) (n : Nat) : Nat → List S3
  | 0 => List.replicate n z3
  | i + 1 => (uF sts n i).set i (sumP (uF sts n i) (sts.getD i noSt) (sts.getD i noSt).arcs.length)
theorem uF_len (sts : List StP) (n : Nat) : ∀ i, (uF sts n i).length = n
  | 0 => by simp [uF]
  | i + 1 => by simp [uF, uF_len sts n i]
structure RightP (sts : List StP) (base : Int) : Prop where
  pos : 0 < sts.length
  few : sts.length ≤ 98305
  base1 : 1 ≤ base
  base2 : base ≤ 1048576
  root : (sts.getD (sts.length - 1) noSt).fin = false
  form : ∀ i, i < sts.length → FormP i (sts.getD i noSt)
  sumB : ∀ i, i < sts.length → ∀ j, (0 ≤ (sumP (uF sts sts.length i) (sts.getD i noSt) j).1 ∧ (sumP (uF sts sts.length i) (sts.getD i noSt) j).1 ≤ 4096) ∧ (0 ≤ (sumP (uF sts sts.length i) (sts.getD i noSt) j).2.1 ∧ (sumP (uF sts sts.length i) (sts.getD i noSt) j).2.1 ≤ 24) ∧ (0 ≤ (sumP (uF sts sts.length i) (sts.getD i noSt) j).2.2 ∧ (sumP (uF sts sts.length i) (sts.getD i noSt) j).2.2 ≤ 1048576)
  sumE : ∀ i, i < sts.length → ∀ a ∈ (sts.getD i noSt).arcs, (0 ≤ ((uF sts sts.length i).getD a.2.2 z3).1 ∧ ((uF sts sts.length i).getD a.2.2 z3).1 ≤ 4096) ∧ (0 ≤ ((uF sts sts.length i).getD a.2.2 z3).2.1 ∧ ((uF sts sts.length i).getD a.2.2 z3).2.1 ≤ 24) ∧ (0 ≤ ((uF sts sts.length i).getD a.2.2 z3).2.2 ∧ ((uF sts sts.length i).getD a.2.2 z3).2.2 ≤ 1048576)
  top : base + ((uF sts sts.length sts.length).getD (sts.length - 1) z3).2.2 ≤ 1048576
  unalike : ∀ i j, i < sts.length → j < sts.length → sts.getD i noSt = sts.getD j noSt → i = j
  vis : ∃ F s', visF sts F (sts.length - 1) (List.replicate sts.length false) 0 = (true, s', sts.length)

theorem Her.deep {R : Rs} (h : Her R) : depR R ≤ 24 := by
  have : depR R < 25 := depR_lt (by omega) fun r hr => by have := h.dep r hr; omega
  omega
theorem getD_get? {α : Type} {l : List α} {d : α} {i : Nat} (h : i < l.length) : l[i]? = some (l.getD i d) := by
  simp [List.getD, h]
theorem sums_uF {k : KnP} (hk : Good k) (hh : ∀ X ∈ k.rests, Her X) : ∀ i, i ≤ k.states.length → SumsTo k (uF k.states k.states.length i) i
  | 0, _ => fun j hj => absurd hj (Nat.not_lt_zero _)
  | i + 1, hi => fun j hj R hR => by
    have ih := sums_uF hk hh i (by omega)
    simp only [uF]
    by_cases e : j = i
    · subst e
      have hz : k.states[j]? = some (k.states.getD j noSt) := getD_get? (by omega)
      have hc := hk.corr j R _ hR hz
      have hhR := hh R (List.mem_of_getElem? hR)
      have hd := hhR.deep
      have h := (sum_corr ih hc hhR hd (k.states.getD j noSt).arcs.length).2.2.2.1 (Nat.le_refl _)
      rw [List.getD_eq_getElem?_getD, List.getElem?_set_self (by rw [uF_len]; omega)]
      exact h
    · rw [List.getD_eq_getElem?_getD, List.getElem?_set_ne (by omega), ← List.getD_eq_getElem?_getD]
      exact ih j (by omega) R hR
theorem her_rest {R : Rs} (h : Her R) : ∀ r ∈ R, r.2 ≤ 1048576 := fun r hr => (h.wt r hr).2
theorem right_made {L : List PRow} (hD : DictP L) (hne : L ≠ []) : RightP (mach L).states (mach L).base := by
  have hm : mach L = ⟨leastR (restsL L), (stateF 25 ⟨[], []⟩ (restsL L)).1.states⟩ := by unfold mach; rw [if_neg hne]
  rw [hm]
  have M := made hD hne
  have hher := stateF_her 25 ⟨[], []⟩ (restsL L) (fun X hX => (by cases hX)) (her_dict hD)
  have htot := tot_dict hD
  have hne2 := rests_ne hne
  obtain ⟨k, hk⟩ : ∃ k, k = (stateF 25 ⟨[], []⟩ (restsL L)).1 := ⟨_, rfl⟩
  rw [← hk] at M hher ⊢
  simp only
  have hwt : ∀ r ∈ restsL L, 1 ≤ r.2 ∧ r.2 ≤ 1048576 := by
    intro r hr
    obtain ⟨p, hp, rfl⟩ := List.mem_map.1 hr
    exact hD.weight p hp
  obtain ⟨r0, hr0, e0⟩ := leastR_mem hne2
  have hb := hwt r0 hr0
  have hst : ∀ i, i < k.states.length → k.states[i]? = some (k.states.getD i noSt) := fun i hi => getD_get? hi
  have hre : ∀ i, i < k.states.length → ∃ R, k.rests[i]? = some R ∧ Corr k.rests i R (k.states.getD i noSt) ∧ Her R := by
    intro i hi
    have hl : i < k.rests.length := by rw [M.good.len]; exact hi
    refine ⟨k.rests[i], List.getElem?_eq_getElem hl, M.good.corr i _ _ (List.getElem?_eq_getElem hl) (hst i hi), hher _ (List.getElem_mem hl)⟩
  have hsums := sums_uF M.good hher
  have hlast : k.states.length - 1 < k.states.length := by have := M.pos; omega
  refine ⟨M.pos, by have := M.few; omega, by omega, by omega, ?_, ?_, ?_, ?_, ?_, ?_, ⟨25, _, M.vis 25 (Nat.le_refl _)⟩⟩
  · obtain ⟨R, hR, hc, _⟩ := hre _ hlast
    rw [M.root] at hR
    injection hR with hR
    subst hR
    rw [hc.fin]
    cases hf : finR (levelR (restsL L)) with
    | false => rfl
    | true =>
      exfalso
      obtain ⟨n, hn⟩ := finR_iff.1 hf
      have h1 := mem_level.1 hn
      obtain ⟨p, hp, e⟩ := List.mem_map.1 h1
      simp only [Prod.mk.injEq] at e
      have := (hD.word p hp).2.2.1
      rw [e.1] at this
      simp at this
  · intro i hi
    obtain ⟨R, hR, hc, hh⟩ := hre i hi
    exact form_corr hc hh
  · intro i hi j
    obtain ⟨R, hR, hc, hh⟩ := hre i hi
    obtain ⟨h1, h2, h3, _, _⟩ := sum_corr (hsums i (by omega)) hc hh hh.deep j
    refine ⟨h1, ⟨h2.1, ?_⟩, h3.1, h3.2 _ (her_rest hh)⟩
    have := hh.deep
    omega
  · intro i hi a ha
    obtain ⟨R, hR, hc, hh⟩ := hre i hi
    obtain ⟨h1, h2, h3, h4, h5, h6⟩ := (sum_corr (hsums i (by omega)) hc hh hh.deep 0).2.2.2.2 a ha
    exact ⟨⟨h1, h2⟩, ⟨h3, h4⟩, h5, h6⟩
  · have h := hsums k.states.length (Nat.le_refl _) (k.states.length - 1) hlast _ M.root
    have h2 := h.wt1 (1048576 - leastR (restsL L)) fun r hr => by
      have h3 := hwt _ (mem_level.1 (show (r.1, r.2) ∈ levelR (restsL L) from hr))
      simp only at h3
      omega
    omega
  · intro i j hi hj e
    have h1 := hst i hi
    have h2 := hst j hj
    rw [← e] at h2
    exact M.good.unalike h1 h2

end Go.Proofs.YtfaoifggkfmokaaDoor
