/- AbecedaryBest, plainly: what is suggested. No condition. -/
import Derived.Test.YthockgmbooefpaaGreatDoorT37
namespace Go.Proofs.YthockgmbooefpaaGreatDoor
open Go.RowKit
set_option linter.unusedSectionVars false
set_option linter.unusedSimpArgs false
set_option linter.unusedVariables false
theorem bestL_lenB (F : List MRow) (k : Nat) : (bestL F k).length ≤ k := by unfold bestL; rw [List.length_take]; omega
theorem bestL_srtB (l : List MRow) (k : Nat) : Srt (bestL l k) := (sortL_both l).1.sublist (List.take_sublist _ _)
theorem sug_mem {L : List PRow} (hD : DictP L) {a : List UInt8} {k y : Int} {m : MRow} (h : m ∈ sugP L a k y) : findP m.word.toList L = (m.weight, true) ∧ m.dist ≤ k ∧ m.WfB ∧ m.word.size ≤ 1099511627776 := by
  unfold sugP at h
  split at h
  · rename_i hr
    have hk : 0 ≤ k ∧ k ≤ 3 := by
      unfold levR at hr
      simp only [Bool.and_eq_true, decide_eq_true_eq] at hr
      exact hr.2
    have hm : m ∈ fzAllP L ((runesU a).getD []) (k.toNat + 1) := (sortL_both _).2.mem_iff.1 (List.mem_of_mem_take h)
    unfold fzAllP at hm
    obtain ⟨p, hp, hpm⟩ := List.mem_filterMap.1 hm
    split at hpm
    · rename_i hlt
      injection hpm with hpm
      subst hpm
      have hw := hD.weight p hp
      have hs := dict_sizes hD p hp
      refine ⟨key_words hD hp, by simp only; omega, ⟨?_, ?_, ?_, ?_, ?_⟩, by simp only; omega⟩
      · unfold maxLen; simp only; omega
      all_goals simp only; omega
    · cases hpm
  · cases h
theorem sug_len64 (L : List PRow) (a : List UInt8) (k y : Int) : (sugP L a k y).length ≤ mostN y := by
  unfold sugP
  split
  · exact bestL_lenB _ _
  · exact Nat.zero_le _
theorem sug_order {L : List PRow} {a : List UInt8} {k y : Int} {i : Nat} (h : i + 1 < (sugP L a k y).length) : better ((sugP L a k y).getD (i + 1) MRow.zero) ((sugP L a k y).getD i MRow.zero) = false := by
  have hs : Srt (sugP L a k y) := by
    unfold sugP
    split
    · exact bestL_srtB _ _
    · exact List.Pairwise.nil
  have h1 : i < (sugP L a k y).length := by omega
  have e1 : (sugP L a k y).getD (i + 1) MRow.zero = (sugP L a k y)[i + 1] := by simp [List.getD, h]
  have e2 : (sugP L a k y).getD i MRow.zero = (sugP L a k y)[i] := by simp [List.getD, h1]
  rw [e1, e2]
  exact List.pairwise_iff_getElem.1 hs i (i + 1) h1 h (by omega)
end Go.Proofs.YthockgmbooefpaaGreatDoor
