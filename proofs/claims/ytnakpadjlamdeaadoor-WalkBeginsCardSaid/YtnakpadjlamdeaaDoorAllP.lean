/- The words behind a state, in order. Plain laws, no program in sight. No condition. -/
import Derived.Test.YtnakpadjlamdeaaDoorWFindsW
namespace Go.Proofs.YtnakpadjlamdeaaDoor

/-- A word: what was said, what is left. -/
def mkW (l : List Nat) (u : Int) (r : List Nat × Int) : PRow := ⟨⟨((l ++ r.1).flatMap writeU).toArray⟩, u + r.2⟩
def wordsOf (l : List Nat) (u : Int) (R : Rs) : List PRow := R.map (mkW l u)
theorem wordsOf_len (l : List Nat) (u : Int) (R : Rs) : (wordsOf l u R).length = R.length := by simp [wordsOf]
theorem words_beh (l : List Nat) (u : Int) (R : Rs) (c : Nat) : wordsOf l u (behR R c) = wordsOf (l ++ [c]) (u + leastR (underR R c)) (levelR (underR R c)) := by
  unfold wordsOf behR levelR
  rw [List.map_map, List.map_map]
  refine List.map_congr_left fun r _ => ?_
  simp only [Function.comp, mkW, List.append_assoc, List.singleton_append, PRow.mk.injEq, true_and]
  omega
/-- The words told before so many arcs. -/
def preW (l : List Nat) (u : Int) (R : Rs) (j : Nat) : List PRow := wordsOf l u ((if finR R = true then [([], outR R)] else []) ++ ((firstsR R).take j).flatMap (behR R))
theorem preW_zero (l : List Nat) (u : Int) (R : Rs) : preW l u R 0 = if finR R = true then [⟨⟨(l.flatMap writeU).toArray⟩, u + outR R⟩] else [] := by
  unfold preW wordsOf
  simp only [List.take_zero, List.flatMap_nil, List.append_nil]
  split
  · simp [mkW]
  · rfl
theorem preW_succ (l : List Nat) (u : Int) (R : Rs) (j : Nat) (c : Nat) (h : (firstsR R)[j]? = some c) : preW l u R (j + 1) = preW l u R j ++ wordsOf (l ++ [c]) (u + leastR (underR R c)) (levelR (underR R c)) := by
  rw [← words_beh]
  obtain ⟨hj, e⟩ := List.getElem?_eq_some_iff.1 h
  unfold preW wordsOf
  rw [List.take_succ_eq_append_getElem hj, e]
  simp
theorem preW_all {R : Rs} (h : SortR R) (l : List Nat) (u : Int) (j : Nat) (hj : (firstsR R).length ≤ j) : preW l u R j = wordsOf l u R := by
  unfold preW
  rw [List.take_of_length_le hj, ← split_sorted h]
theorem preW_prefix {R : Rs} (h : SortR R) (l : List Nat) (u : Int) (j : Nat) : preW l u R j <+: wordsOf l u R := by
  have hs : wordsOf l u R = preW l u R j ++ wordsOf l u (((firstsR R).drop j).flatMap (behR R)) := by
    conv => lhs; rw [split_sorted h]
    unfold preW wordsOf
    rw [← List.map_append, List.append_assoc, ← List.flatMap_append, List.take_append_drop]
  rw [hs]
  exact List.prefix_append _ _
/-- What is told of words, behind others, up to a number. -/
def upW (T W : List PRow) (most : Nat) : List PRow := T ++ W.take (most - T.length)
theorem upW_part {T A B W : List PRow} {most : Nat} (hA : (T ++ A).length < most) (h : A ++ B <+: W) (hB : most ≤ (T ++ A).length + B.length) : upW (T ++ A) B most = upW T W most := by
  obtain ⟨C, rfl⟩ := h
  unfold upW
  rw [List.length_append] at hA hB ⊢
  rw [List.append_assoc, List.append_assoc, List.take_append, List.take_of_length_le (by omega : A.length ≤ most - T.length), List.take_append_of_le_length (by omega), Nat.sub_sub]
theorem upW_whole {T W : List PRow} {most : Nat} (h : T.length + W.length ≤ most) : upW T W most = T ++ W := by
  unfold upW
  rw [List.take_of_length_le (by omega)]

end Go.Proofs.YtnakpadjlamdeaaDoor
