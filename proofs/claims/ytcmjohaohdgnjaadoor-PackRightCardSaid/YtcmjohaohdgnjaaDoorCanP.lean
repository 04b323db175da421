/- A machine that is right is the machine of its words: plain laws, no program in sight. No condition. -/
import Derived.Test.YtcmjohaohdgnjaaDoorGrtW
namespace Go.Proofs.YtcmjohaohdgnjaaDoor
open Go.RowKit
set_option linter.unusedSectionVars false
set_option linter.unusedSimpArgs false
set_option linter.unusedVariables false
variable [Inhabited BaseT]

theorem said_write_app {r : Nat} (hr : r < 1114112) (t : List UInt8) : saidU (writeU r).length (writeU r ++ t) = r := by
  unfold writeU
  split
  · simp only [saidU, List.length_cons, List.length_nil, UInt8.toNat_ofNat', List.cons_append, List.nil_append]
    omega
  · split
    · simp only [saidU, List.length_cons, List.length_nil, UInt8.toNat_ofNat', List.cons_append, List.nil_append]
      omega
    · split
      · simp only [saidU, List.length_cons, List.length_nil, UInt8.toNat_ofNat', List.cons_append, List.nil_append]
        omega
      · simp only [saidU, List.length_cons, List.length_nil, UInt8.toNat_ofNat', List.cons_append, List.nil_append]
        omega
/-- Runes that were written are read as they were. -/
theorem runes_flat : ∀ (x : List Nat), (∀ r ∈ x, scal r = true) → runesU (x.flatMap writeU) = some x
  | [], _ => runesU_nil
  | r :: x, h => by
    have hs := h r List.mem_cons_self
    have ih := runes_flat x (fun q hq => h q (List.mem_cons_of_mem _ hq))
    have hl := write_len r
    rw [List.flatMap_cons]
    have hit : utf1 (writeU r ++ x.flatMap writeU) = (r, (writeU r).length) := by
      have := utf1_hit (n := (writeU r).length) (bs := writeU r ++ x.flatMap writeU) hl.1 hl.2 (by rw [List.length_append]; omega) ⟨by rw [said_write_app (scal_lt hs)]; exact hs, by rw [said_write_app (scal_lt hs), List.take_left]⟩
      rw [said_write_app (scal_lt hs)] at this
      exact this
    rw [runesU_step (by rw [List.length_append]; omega), hit]
    simp only
    rw [if_neg (by omega), List.drop_left, ih]
    rfl

/-- What is left from a state on. -/
def rstF (sts : List StP) : Nat → Nat → Rs
  | 0, _ => []
  | f + 1, i => (if (sts.getD i noSt).fin = true then [([], (sts.getD i noSt).out)] else []) ++ (sts.getD i noSt).arcs.flatMap fun a => (rstF sts f a.2.2).map fun r => (a.1 :: r.1, r.2 + a.2.1)
def rst (sts : List StP) (i : Nat) : Rs := rstF sts (i + 1) i
def Down (sts : List StP) : Prop := ∀ i, i < sts.length → ∀ a ∈ (sts.getD i noSt).arcs, a.2.2 < i
theorem flatMap_congr' {α β : Type} {f g : α → List β} : ∀ {l : List α}, (∀ a ∈ l, f a = g a) → l.flatMap f = l.flatMap g
  | [], _ => rfl
  | a :: l, h => by rw [List.flatMap_cons, List.flatMap_cons, h a List.mem_cons_self, flatMap_congr' fun b hb => h b (List.mem_cons_of_mem _ hb)]
theorem rstF_fuel {sts : List StP} (hd : Down sts) : ∀ (f i g : Nat), i < f → i < sts.length → f ≤ g → rstF sts g i = rstF sts f i
  | 0, _, _, h, _, _ => absurd h (Nat.not_lt_zero _)
  | f + 1, i, g, hi, hl, hg => by
    obtain ⟨g, rfl⟩ : ∃ k, g = k + 1 := ⟨g - 1, by omega⟩
    simp only [rstF]
    congr 1
    refine flatMap_congr' fun a ha => ?_
    have := hd i hl a ha
    rw [rstF_fuel hd f a.2.2 g (by omega) (by omega) (by omega)]
theorem rst_eq {sts : List StP} (hd : Down sts) {i : Nat} (hi : i < sts.length) : rst sts i = (if (sts.getD i noSt).fin = true then [([], (sts.getD i noSt).out)] else []) ++ (sts.getD i noSt).arcs.flatMap fun a => (rst sts a.2.2).map fun r => (a.1 :: r.1, r.2 + a.2.1) := by
  have h : rst sts i = (if (sts.getD i noSt).fin = true then [([], (sts.getD i noSt).out)] else []) ++ (sts.getD i noSt).arcs.flatMap fun a => (rstF sts i a.2.2).map fun r => (a.1 :: r.1, r.2 + a.2.1) := rfl
  rw [h]
  congr 1
  refine flatMap_congr' fun a ha => ?_
  have := hd i hi a ha
  show (rstF sts i a.2.2).map _ = (rstF sts (a.2.2 + 1) a.2.2).map _
  rw [rstF_fuel hd (a.2.2 + 1) a.2.2 i (by omega) (by omega) (by omega)]
theorem stP_ext : ∀ {x y : StP}, x.fin = y.fin → x.out = y.out → x.arcs = y.arcs → x = y
  | ⟨_, _, _⟩, ⟨_, _, _⟩, rfl, rfl, rfl => rfl

section
variable {sts : List StP}
theorem mem_rst_nil (hd : Down sts) {i : Nat} (hi : i < sts.length) {n : Int} : ([], n) ∈ rst sts i ↔ (sts.getD i noSt).fin = true ∧ n = (sts.getD i noSt).out := by
  rw [rst_eq hd hi, List.mem_append, List.mem_flatMap]
  constructor
  · rintro (h | ⟨a, _, h⟩)
    · split at h
      · rename_i hf
        simp only [List.mem_singleton, Prod.mk.injEq, true_and] at h
        exact ⟨hf, h⟩
      · cases h
    · obtain ⟨r, _, hr⟩ := List.mem_map.1 h
      simp at hr
  · rintro ⟨hf, rfl⟩
    left
    rw [if_pos hf]
    exact List.mem_singleton.2 rfl
theorem mem_rst_cons (hd : Down sts) {i : Nat} (hi : i < sts.length) {c : Nat} {t : List Nat} {n : Int} : (c :: t, n) ∈ rst sts i ↔ ∃ a ∈ (sts.getD i noSt).arcs, a.1 = c ∧ (t, n - a.2.1) ∈ rst sts a.2.2 := by
  rw [rst_eq hd hi, List.mem_append, List.mem_flatMap]
  constructor
  · rintro (h | ⟨a, ha, h⟩)
    · split at h <;> simp at h
    · obtain ⟨r, hr, he⟩ := List.mem_map.1 h
      simp only [Prod.mk.injEq, List.cons.injEq] at he
      obtain ⟨⟨h1, h2⟩, h3⟩ := he
      refine ⟨a, ha, h1, ?_⟩
      rw [← h2, show n - a.2.1 = r.2 by omega]
      exact hr
  · rintro ⟨a, ha, rfl, h⟩
    right
    refine ⟨a, ha, List.mem_map.2 ⟨_, h, ?_⟩⟩
    simp only [Prod.mk.injEq, true_and]
    omega
/-- The bounds that a machine that is right keeps. -/
structure RsOk (sts : List StP) (i : Nat) : Prop where
  sort : SortR (rst sts i)
  ne : rst sts i ≠ []
  least : leastR (rst sts i) = 0
theorem form_down (hf : ∀ i, i < sts.length → FormP i (sts.getD i noSt)) : Down sts := fun i hi a ha => ((hf i hi).arc a ha).2.2
theorem lab_inj {z : StP} (h : (z.arcs.map (·.1)).Pairwise (· < ·)) {a b : Nat × Int × Nat} (ha : a ∈ z.arcs) (hb : b ∈ z.arcs) (e : a.1 = b.1) : a = b := by
  obtain ⟨i, hi, rfl⟩ := List.getElem_of_mem ha
  obtain ⟨j, hj, rfl⟩ := List.getElem_of_mem hb
  rw [List.pairwise_map] at h
  have h2 := List.pairwise_iff_getElem.1 h
  rcases Nat.lt_trichotomy i j with h3 | h3 | h3
  · have := h2 i j hi hj h3; omega
  · subst h3; rfl
  · have := h2 j i hj hi h3; omega
theorem low_zero {i : Nat} {z : StP} (h : FormP i z) : (z.fin = true ∧ z.out = 0) ∨ ∃ a ∈ z.arcs, a.2.1 = 0 := by
  have hl := h.low
  unfold lowP at hl
  have gen : ∀ (l : List (Nat × Int × Nat)) (m : Int), l.foldl (fun m a => min m a.2.1) m = 0 → m = 0 ∨ ∃ a ∈ l, a.2.1 = 0 := by
    intro l
    induction l with
    | nil => intro m h; exact .inl h
    | cons a l ih =>
      intro m h
      rw [List.foldl_cons] at h
      rcases ih _ h with h1 | ⟨b, hb, h1⟩
      · by_cases hm : m ≤ a.2.1
        · left; omega
        · right; exact ⟨a, List.mem_cons_self, by omega⟩
      · exact .inr ⟨b, List.mem_cons_of_mem _ hb, h1⟩
  rcases gen _ _ hl with h1 | h1
  · left
    split at h1
    · rename_i hf
      exact ⟨hf, h1⟩
    · omega
  · exact .inr h1
theorem rs_ok (hf : ∀ i, i < sts.length → FormP i (sts.getD i noSt)) : ∀ (k i : Nat), i < k → i < sts.length → RsOk sts i
  | 0, _, h, _ => absurd h (Nat.not_lt_zero _)
  | k + 1, i, hk, hi => by
    have hd := form_down hf
    have hF := hf i hi
    have ih : ∀ a ∈ (sts.getD i noSt).arcs, RsOk sts a.2.2 := fun a ha => rs_ok hf k a.2.2 (by have := hd i hi a ha; omega) (by have := hd i hi a ha; omega)
    have hpos : ∀ r ∈ rst sts i, 0 ≤ r.2 := by
      rintro ⟨x, n⟩ hr
      cases x with
      | nil =>
        have := (mem_rst_nil hd hi).1 hr
        have h0 := hF.out0
        simp only
        omega
      | cons c t =>
        obtain ⟨a, ha, _, h⟩ := (mem_rst_cons hd hi).1 hr
        have h1 := leastR_le h
        rw [(ih a ha).least] at h1
        have h2 := (hF.arc a ha).1
        simp only at h1 ⊢
        omega
    have hzero : ∃ x, (x, 0) ∈ rst sts i := by
      rcases low_zero hF with ⟨h1, h2⟩ | ⟨a, ha, h2⟩
      · exact ⟨[], (mem_rst_nil hd hi).2 ⟨h1, h2.symm⟩⟩
      · obtain ⟨r, hr, hr0⟩ := leastR_mem (ih a ha).ne
        rw [(ih a ha).least] at hr0
        obtain ⟨x, n⟩ := r
        simp only at hr0
        subst hr0
        exact ⟨a.1 :: x, (mem_rst_cons hd hi).2 ⟨a, ha, rfl, by rw [h2]; exact hr⟩⟩
    obtain ⟨x0, hx0⟩ := hzero
    have hne : rst sts i ≠ [] := fun e => by rw [e] at hx0; cases hx0
    refine ⟨?_, hne, ?_⟩
    · rw [rst_eq hd hi]
      unfold SortR
      rw [List.pairwise_append]
      refine ⟨by split <;> simp, ?_, ?_⟩
      · rw [List.pairwise_flatMap]
        refine ⟨fun a ha => ?_, ?_⟩
        · have hs := (ih a ha).sort
          unfold SortR at hs
          rw [List.pairwise_map]
          refine hs.imp fun {x y} h => ?_
          unfold ltR at h ⊢
          rw [lexN_cons]
          exact h
        · have hl := hF.lab
          rw [List.pairwise_map] at hl
          refine hl.imp fun {a b} h => ?_
          intro x hx y hy
          obtain ⟨p, _, rfl⟩ := List.mem_map.1 hx
          obtain ⟨q, _, rfl⟩ := List.mem_map.1 hy
          simp only [ltR, lexN]
          rw [if_neg (by omega)]
          simpa using h
      · intro x hx y hy
        split at hx
        · simp only [List.mem_singleton] at hx
          subst hx
          obtain ⟨a, _, hy⟩ := List.mem_flatMap.1 hy
          obtain ⟨q, _, rfl⟩ := List.mem_map.1 hy
          rfl
        · cases hx
    · have h1 := leastR_le hx0
      obtain ⟨r, hr, hr0⟩ := leastR_mem hne
      have := hpos r hr
      simp only at h1
      omega
/-- What is behind a state's arc. -/
theorem under_rst (hf : ∀ i, i < sts.length → FormP i (sts.getD i noSt)) {i : Nat} (hi : i < sts.length) {a : Nat × Int × Nat} (ha : a ∈ (sts.getD i noSt).arcs) :
    underR (rst sts i) a.1 ≠ [] ∧ leastR (underR (rst sts i) a.1) = a.2.1 ∧ levelR (underR (rst sts i) a.1) = rst sts a.2.2 := by
  have hd := form_down hf
  have hF := hf i hi
  have hto := hd i hi a ha
  have ok := rs_ok hf (a.2.2 + 1) a.2.2 (by omega) (by omega)
  have oki := rs_ok hf (i + 1) i (by omega) hi
  have hm : ∀ t n, (t, n) ∈ underR (rst sts i) a.1 ↔ (t, n - a.2.1) ∈ rst sts a.2.2 := by
    intro t n
    rw [mem_under, mem_rst_cons hd hi]
    constructor
    · rintro ⟨b, hb, he, h⟩
      rw [← lab_inj hF.lab hb ha he]
      exact h
    · intro h
      exact ⟨a, ha, rfl, h⟩
  obtain ⟨r, hr, hr0⟩ := leastR_mem ok.ne
  rw [ok.least] at hr0
  have hin : (r.1, a.2.1) ∈ underR (rst sts i) a.1 := by
    rw [hm, Int.sub_self, ← hr0]
    exact hr
  have hne : underR (rst sts i) a.1 ≠ [] := fun e => by rw [e] at hin; cases hin
  have hle : leastR (underR (rst sts i) a.1) = a.2.1 := by
    have h1 := leastR_le hin
    obtain ⟨q, hq, hq0⟩ := leastR_mem hne
    have h2 := (hm q.1 q.2).1 hq
    have h3 := leastR_le h2
    rw [ok.least] at h3
    simp only at h1 h3
    omega
  refine ⟨hne, hle, sort_ext (sort_level (sort_under _ oki.sort)) ok.sort ?_⟩
  rintro ⟨t, n⟩
  rw [mem_level, hm, hle, show n + a.2.1 - a.2.1 = n by omega]
theorem corr_rst (hf : ∀ i, i < sts.length → FormP i (sts.getD i noSt)) {i : Nat} (hi : i < sts.length) : Corr ((List.range sts.length).map (rst sts)) i (rst sts i) (sts.getD i noSt) := by
  have hd := form_down hf
  have hF := hf i hi
  have ok := rs_ok hf (i + 1) i (by omega) hi
  have hfin : (sts.getD i noSt).fin = finR (rst sts i) := by
    rw [Bool.eq_iff_iff, finR_iff]
    constructor
    · intro h
      exact ⟨_, (mem_rst_nil hd hi).2 ⟨h, rfl⟩⟩
    · rintro ⟨n, h⟩
      exact ((mem_rst_nil hd hi).1 h).1
  refine ⟨ok.sort, ok.ne, ok.least, hfin, ?_, ?_, ?_⟩
  · by_cases h : (sts.getD i noSt).fin = true
    · exact (outR_mem ok.sort ((mem_rst_nil hd hi).2 ⟨h, rfl⟩)).symm
    · have h2 : (sts.getD i noSt).fin = false := by simpa using h
      rw [hF.fin0 h2, outR_none ok.sort (by rw [← hfin]; exact h2)]
  · refine sorted_ext (lt := fun a b : Nat => a < b) (fun a h => by omega) (fun a b h g => by omega) hF.lab (firsts_sorted ok.sort) ?_
    intro c
    rw [mem_firsts]
    constructor
    · intro h
      obtain ⟨a, ha, rfl⟩ := List.mem_map.1 h
      exact (under_rst hf hi ha).1
    · intro h
      obtain ⟨r, hr⟩ := List.exists_mem_of_ne_nil _ h
      have h2 := (mem_under (t := r.1) (n := r.2)).1 hr
      obtain ⟨a, ha, he, _⟩ := (mem_rst_cons hd hi).1 h2
      exact List.mem_map.2 ⟨a, ha, he⟩
  · intro a ha
    have hto := hd i hi a ha
    obtain ⟨_, h2, h3⟩ := under_rst hf hi ha
    refine ⟨h2.symm, hto, ?_⟩
    rw [h3]
    simp [show a.2.2 < sts.length by omega]
theorem rst_inj (hf : ∀ i, i < sts.length → FormP i (sts.getD i noSt)) (hu : ∀ i j, i < sts.length → j < sts.length → sts.getD i noSt = sts.getD j noSt → i = j) : ∀ (k i j : Nat), i < k → i < sts.length → j < sts.length → rst sts i = rst sts j → i = j
  | 0, _, _, h, _, _, _ => absurd h (Nat.not_lt_zero _)
  | k + 1, i, j, hk, hi, hj, e => by
    have ci := corr_rst hf hi
    have cj := corr_rst hf hj
    refine hu i j hi hj ?_
    have e1 : (sts.getD i noSt).fin = (sts.getD j noSt).fin := by rw [ci.fin, cj.fin, e]
    have e2 : (sts.getD i noSt).out = (sts.getD j noSt).out := by rw [ci.out, cj.out, e]
    have e3 : (sts.getD i noSt).arcs = (sts.getD j noSt).arcs := by
      have hl : (sts.getD i noSt).arcs.map (·.1) = (sts.getD j noSt).arcs.map (·.1) := by rw [ci.labels, cj.labels, e]
      have hlen : (sts.getD i noSt).arcs.length = (sts.getD j noSt).arcs.length := by have := congrArg List.length hl; simpa using this
      refine List.ext_getElem hlen fun n h1 h2 => ?_
      have hlab : (sts.getD i noSt).arcs[n].1 = (sts.getD j noSt).arcs[n].1 := by
        have := congrArg (fun l => l[n]?) hl
        simp only [List.getElem?_map, List.getElem?_eq_getElem h1, List.getElem?_eq_getElem h2, Option.map_some, Option.some.injEq] at this
        exact this
      have ha := List.getElem_mem h1
      have hb := List.getElem_mem h2
      obtain ⟨_, p2, p3⟩ := under_rst hf hi ha
      obtain ⟨_, q2, q3⟩ := under_rst hf hj hb
      rw [hlab, e] at p2 p3
      have t1 := form_down hf i hi _ ha
      have t2 := form_down hf j hj _ hb
      have hto := rst_inj hf hu k (sts.getD i noSt).arcs[n].2.2 (sts.getD j noSt).arcs[n].2.2 (by omega) (by omega) (by omega) (p3.symm.trans q3)
      exact Prod.ext hlab (Prod.ext (p2.symm.trans q2) hto)
    exact stP_ext e1 e2 e3
end

end Go.Proofs.YtcmjohaohdgnjaaDoor
