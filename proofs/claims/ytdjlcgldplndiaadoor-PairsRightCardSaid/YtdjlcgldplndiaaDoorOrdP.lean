/- Each word once, with its last weight, in order: what it is, and that there is one such list alone. Plain laws, no program in sight. No condition. -/
import Derived.Test.YtdjlcgldplndiaaDoorPairP
namespace Go.Proofs.YtdjlcgldplndiaaDoor

/-- Each word once, the last one of each, in order. -/
def Nrm (X Y : List PRow) : Prop := Y.Pairwise (fun a b => plt a b = true) ∧ ∀ k, key k Y = (key k X).getLast?.toList

theorem strict_unique {A B : List PRow} (hA : A.Pairwise (fun a b => plt a b = true)) (hB : B.Pairwise (fun a b => plt a b = true)) (h : SameK A B) : A = B := by
  induction A generalizing B with
  | nil =>
    cases B with
    | nil => rfl
    | cons b B => have := h.symm.mem (x := b) (by simp); cases this
  | cons a A ih =>
    cases B with
    | nil => have := h.mem (x := a) (by simp); cases this
    | cons b B =>
      obtain ⟨hA1, hA2⟩ := List.pairwise_cons.1 hA
      obtain ⟨hB1, hB2⟩ := List.pairwise_cons.1 hB
      have hab : a = b := by
        rcases List.mem_cons.1 (h.mem (x := a) (by simp)) with e | e
        · exact e
        · rcases List.mem_cons.1 (h.symm.mem (x := b) (by simp)) with f | f
          · exact f.symm
          · have h1 := plt_trans (hB1 a e) (hA1 b f)
            rw [plt_irrefl] at h1
            cases h1
      subst hab
      rw [ih hA2 hB2 fun k => ?_]
      have hk := h k
      unfold key at hk ⊢
      simp only [List.filter_cons] at hk
      split at hk
      · injection hk
      · exact hk

theorem Nrm.unique {X Y Z : List PRow} (h : Nrm X Y) (k : Nrm X Z) : Y = Z := strict_unique h.1 k.1 fun x => (h.2 x).trans (k.2 x).symm
theorem Nrm.of_same {X X' Y : List PRow} (h : Nrm X Y) (k : SameK X X') : Nrm X' Y := ⟨h.1, fun x => by rw [h.2, k]⟩
/-- What is each word once already stays as it is. -/
theorem Nrm.self {Y : List PRow} (h : Y.Pairwise (fun a b => plt a b = true)) : Nrm Y Y := by
  refine ⟨h, fun k => ?_⟩
  have : (key k Y).length ≤ 1 := by
    have hp : (key k Y).Pairwise (fun a b => plt a b = true) := h.sublist List.filter_sublist
    match hk : key k Y with
    | [] => simp
    | [a] => simp
    | a :: b :: l =>
      rw [hk] at hp
      have h1 := (List.pairwise_cons.1 hp).1 b (by simp)
      have ha : a ∈ key k Y := by rw [hk]; simp
      have hb : b ∈ key k Y := by rw [hk]; simp
      have e1 := of_decide_eq_true (List.mem_filter.1 ha).2
      have e2 := of_decide_eq_true (List.mem_filter.1 hb).2
      exact absurd (e1.trans e2.symm) (plt_ne h1)
  match hk : key k Y with
  | [] => rfl
  | [a] => rfl
  | a :: b :: l => rw [hk] at this; simp at this

/-! ### of a sorted list -/
def diffs (x : PRow) : List PRow → Prop
  | [] => True
  | y :: _ => y.word.toList ≠ x.word.toList
instance (x : PRow) (l : List PRow) : Decidable (diffs x l) := by
  cases l <;> (unfold diffs; infer_instance)
def dd : List PRow → List PRow
  | [] => []
  | x :: l => if diffs x l then x :: dd l else dd l
theorem dd_sub (l : List PRow) : (dd l).Sublist l := by
  induction l with
  | nil => exact List.Sublist.slnil
  | cons x l ih =>
    unfold dd
    split
    · exact ih.cons_cons x
    · exact ih.cons x
theorem diffs_plt {x : PRow} {l : List PRow} (hs : SrtP (x :: l)) (hd : diffs x l) : ∀ y ∈ l, plt x y = true := by
  intro y hy
  cases l with
  | nil => cases hy
  | cons z l =>
    obtain ⟨h1, h2⟩ := List.pairwise_cons.1 hs
    have hxz : plt x z = true := by
      rcases plt_total (a := x) (b := z) (fun e => hd e.symm) with e | e
      · exact e
      · have := h1 z (by simp)
        unfold ple at this
        rw [e] at this
        cases this
    rcases List.mem_cons.1 hy with rfl | hy
    · exact hxz
    · exact plt_ple hxz ((List.pairwise_cons.1 h2).1 y hy)
theorem dd_nrm (l : List PRow) (hs : SrtP l) : Nrm l (dd l) := by
  induction l with
  | nil => exact ⟨List.Pairwise.nil, fun k => rfl⟩
  | cons x l ih =>
    obtain ⟨i1, i2⟩ := ih (List.pairwise_cons.1 hs).2
    unfold dd
    by_cases hd : diffs x l
    · rw [if_pos hd]
      have hp := diffs_plt hs hd
      refine ⟨List.pairwise_cons.2 ⟨fun y hy => hp y ((dd_sub l).subset hy), i1⟩, fun k => ?_⟩
      by_cases hk : x.word.toList = k
      · have e1 : key k l = [] := by
          unfold key
          rw [List.filter_eq_nil_iff]
          intro y hy e
          exact plt_ne (hp y hy) (hk.trans (of_decide_eq_true e).symm)
        have e2 := i2 k
        rw [e1] at e2
        have e3 : key k (x :: dd l) = x :: key k (dd l) := by simp [key, hk]
        have e4 : key k (x :: l) = x :: key k l := by simp [key, hk]
        rw [e3, e4, e2, e1]
        rfl
      · have e3 : key k (x :: dd l) = key k (dd l) := by simp [key, hk]
        have e4 : key k (x :: l) = key k l := by simp [key, hk]
        rw [e3, e4, i2]
    · rw [if_neg hd]
      refine ⟨i1, fun k => ?_⟩
      rw [i2]
      by_cases hk : x.word.toList = k
      · have e4 : key k (x :: l) = x :: key k l := by simp [key, hk]
        rw [e4]
        cases l with
        | nil => exact absurd trivial hd
        | cons z l =>
          have hz : z.word.toList = x.word.toList := Classical.byContradiction hd
          have e5 : key k (z :: l) = z :: key k l := by simp [key, hz.trans hk]
          rw [e5]
          simp [List.getLast?_cons_cons]
      · have e4 : key k (x :: l) = key k l := by simp [key, hk]
        rw [e4]

end Go.Proofs.YtdjlcgldplndiaaDoor
