/- What a keeper keeps: plain laws. -/
import Derived.Test.YtcencmjdhaejcaaPileD
namespace Go.Proofs.Ytcencmjdhaejcaa
open Go.RowKit

theorem srt_last (S : List MRow) (hs : Srt S) (n : Nat) (hn : S.length = n + 1) : ∀ x ∈ S, wle (S.getD n MRow.zero) x := by
  intro x hx
  obtain ⟨i, hi, rfl⟩ := List.getElem_of_mem hx
  have e : S.getD n MRow.zero = S[n] := by simp [List.getD, hn]
  rw [e]
  by_cases h : i = n
  · subst h; exact wle_refl _
  · exact (List.pairwise_iff_getElem.1 hs) i n hi (by omega) (by omega)

theorem ins_behind (m : MRow) (S : List MRow) (h : ∀ x ∈ S, better m x = false) : ins m S = S ++ [m] := by
  induction S with
  | nil => rfl
  | cons x S ih =>
    unfold ins
    rw [if_neg (by rw [h x (by simp)]; simp), ih (fun y hy => h y (by simp [hy]))]
    rfl
theorem ins_front (m z : MRow) (S : List MRow) (h : better m z = true) : ins m (S ++ [z]) = ins m S ++ [z] := by
  induction S with
  | nil => simp [ins, h]
  | cons x S ih =>
    simp only [List.cons_append, ins]
    split
    · rfl
    · rw [ih]; rfl

/-- A keeper: its pile, in whatever order, has what it keeps. -/
structure Kep (w : World) (p : Nat) (most : Nat) (v : Value) (S : List MRow) : Prop where
  ex : ∃ H, Pil w p (most : Int) v H ∧ H.Perm S ∧ Heap H H.length
  srt : Srt S
  len : S.length ≤ most
  m64 : most ≤ 64

theorem Kep.touch {w w' : World} {p most : Nat} {v : Value} {S : List MRow} {T : Nat → Prop} (h : Kep w p most v S) (ht : Touch T w w') (hs : ∀ g, g < w.heap.size → pfp p v g → ¬ T g) : Kep w' p most v S := by
  obtain ⟨H, hp, h1, h2⟩ := h.ex
  exact ⟨⟨H, hp.touch ht hs, h1, h2⟩, h.srt, h.len, h.m64⟩

def addB (m : MRow) (S : List MRow) (most : Nat) : Bool := decide (S.length < most) || (decide (0 < most) && better m (S.getD (most - 1) MRow.zero))

theorem top_last {H S : List MRow} (hp : H.Perm S) (hh : Heap H H.length) (hs : Srt S) (n : Nat) (hn : S.length = n + 1) : H.getD 0 MRow.zero = S.getD n MRow.zero := by
  have hl := hp.length_eq
  have m1 : H.getD 0 MRow.zero ∈ S := hp.mem_iff.1 (by
    have e : H.getD 0 MRow.zero = H[0]'(by omega) := by simp [List.getD, show 0 < H.length by omega]
    rw [e]; exact List.getElem_mem _)
  have m2 : S.getD n MRow.zero ∈ H := hp.mem_iff.2 (by
    have e : S.getD n MRow.zero = S[n]'(by omega) := by simp [List.getD, hn]
    rw [e]; exact List.getElem_mem _)
  refine wle_antisymm ?_ (srt_last S hs n hn _ m1)
  obtain ⟨i, hi, he⟩ := List.getElem_of_mem m2
  rw [← he]
  have := heap_top hh i hi
  have e : H.getD i MRow.zero = H[i] := by simp [List.getD, hi]
  rwa [e] at this

theorem add_room {H S : List MRow} (hp : H.Perm S) (hh : Heap H H.length) (m : MRow) (most : Nat) (hl : S.length < most) : (pushF H m).Perm ((ins m S).take most) ∧ Heap (pushF H m) (pushF H m).length := by
  obtain ⟨h1, h2, h3⟩ := pushF_spec H m hh
  refine ⟨?_, h2⟩
  rw [List.take_of_length_le (by rw [ins_len]; omega)]
  exact h1.trans (((List.perm_append_comm (l₁ := H) (l₂ := [m])).trans (List.Perm.cons m hp)).trans (ins_perm m S).symm)

theorem drop_last (S : List MRow) (n : Nat) (hn : S.length = n + 1) : S = S.take n ++ [S.getD n MRow.zero] := by
  have e := List.take_succ_eq_append_getElem (show n < S.length by omega)
  rw [List.take_of_length_le (by omega)] at e
  have e2 : S.getD n MRow.zero = S[n] := by simp [List.getD, hn]
  rw [e2]
  exact e

theorem pop_take {H S : List MRow} (hp : H.Perm S) (hh : Heap H H.length) (hs : Srt S) (n : Nat) (hn : S.length = n + 1) : (popF H n).Perm (S.take n) ∧ Heap (popF H n) (popF H n).length ∧ (popF H n).length = n := by
  have hl := hp.length_eq
  obtain ⟨h1, h2, h3⟩ := popF_spec H n (by omega) hh
  refine ⟨?_, h2, h1⟩
  have e := drop_last S n hn
  rw [top_last hp hh hs n hn] at h3
  have q : (S.getD n MRow.zero :: popF H n).Perm (S.getD n MRow.zero :: S.take n) := by
    refine (h3.trans hp).trans ?_
    exact (List.Perm.of_eq e).trans (List.perm_append_comm (l₁ := S.take n) (l₂ := [S.getD n MRow.zero]))
  exact q.cons_inv

theorem add_full {H S : List MRow} (hp : H.Perm S) (hh : Heap H H.length) (hs : Srt S) (m : MRow) (n : Nat) (hn : S.length = n + 1) (hb : better m (S.getD n MRow.zero) = true) :
    (pushF (popF H n) m).Perm ((ins m S).take (n + 1)) ∧ Heap (pushF (popF H n) m) (pushF (popF H n) m).length := by
  obtain ⟨h1, h2, h3⟩ := pop_take hp hh hs n hn
  have hl : (S.take n).length < n + 1 := by rw [List.length_take]; omega
  obtain ⟨q1, q2⟩ := add_room h1 h2 m (n + 1) hl
  refine ⟨?_, q2⟩
  have e : (ins m S).take (n + 1) = (ins m (S.take n)).take (n + 1) := by
    have e0 := drop_last S n hn
    have e1 : ins m S = ins m (S.take n) ++ [S.getD n MRow.zero] := by
      conv => lhs; rw [e0]
      exact ins_front m _ _ hb
    rw [e1, List.take_append_of_le_length (by rw [ins_len, List.length_take]; omega)]
  rw [e]
  exact q1

theorem add_not {S : List MRow} (hs : Srt S) (m : MRow) (n : Nat) (hn : S.length = n + 1) (hb : better m (S.getD n MRow.zero) = false) : (ins m S).take (n + 1) = S := by
  rw [ins_behind m S (fun x hx => wle_trans (show wle m (S.getD n MRow.zero) from hb) (srt_last S hs n hn x hx)), List.take_append_of_le_length (by omega), List.take_of_length_le (by omega)]

theorem ins_take_srt {S : List MRow} (hs : Srt S) (m : MRow) (k : Nat) : Srt ((ins m S).take k) := (ins_srt m S hs).sublist (List.take_sublist _ _)

end Go.Proofs.Ytcencmjdhaejcaa
