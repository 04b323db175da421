/- alive. -/
import Derived.Test.YtcencmjdhaejcaaSelect
namespace Go.Proofs.Ytcencmjdhaejcaa
open Go.RowKit

def al3 : List MRow := [⟨⟨#[98]⟩, 9, 2⟩, ⟨⟨#[97]⟩, 3, 1⟩, ⟨⟨#[99]⟩, 4, 1⟩]
theorem al3_best : bestL al3 (mostN 2) = [⟨⟨#[99]⟩, 4, 1⟩, ⟨⟨#[97]⟩, 3, 1⟩] := by
  have e : mostN 2 = 2 := by decide
  rw [e]
  simp [bestL, sortL, al3, ins, better]

set_option maxRecDepth 100000 in
set_option maxHeartbeats 1000000 in
theorem alive_any (w : World) : Calls Try.prog 10 #[] w fun e w' => e = .returned (.bool true) ∧ Touch (fun _ => False) w w' := by
  go_enter Try.func10, Try.ntmps10
  go_wp2_with (go_at_call 14; refine (select_any _ (some ⟨w.heap.size, 0, none⟩) 3 3 al3 rfl (Reads.new w 23 (mCells al3) 3 rfl) (by decide) 2).mono ?_; rintro e w1 ⟨g, m, hm, rfl, hg, O1, T1⟩; rw [al3_best] at O1 hm; simp only [List.length_cons, List.length_nil, Nat.zero_add, Nat.reduceAdd] at hm; subst hm; obtain ⟨g', hA, hg', a0, a1, a2, _, _, _⟩ := own_at O1 rfl 0 (by decide); injection hA with hA; injection hA with hA _; subst hA; obtain ⟨g', hA, _, b0, b1, b2, _, _, _⟩ := own_at O1 rfl 1 (by decide); injection hA with hA; injection hA with hA _; subst hA; simp at a0 a1 a2 b0 b1 b2; have HT1 := hide (((Touch.refl _ _).alloc _).then T1); clear T1 O1 hg)
  go_still_tail 24, (by kernel_rfl)
  change wpList _ _ _ _ _ w1.drew
  have HT2 : Hid (Touch (fun _ => False) w1 w1.drew) := hide (Touch.refl _ _).drew
  generalize w1.drew = w2 at HT2 ⊢
  go_wp2_with (go_at_call 11; refine (pbetter_any ⟨⟨#[99]⟩, 4, 1⟩ ⟨⟨#[97]⟩, 3, 1⟩ w2).mono ?_; rintro e w3 ⟨rfl, T3⟩; have HT3 := hide T3; clear T3)
  go_ret
  exact ⟨rfl, (HT1.out.then HT2.out).then HT3.out⟩

end Go.Proofs.Ytcencmjdhaejcaa
