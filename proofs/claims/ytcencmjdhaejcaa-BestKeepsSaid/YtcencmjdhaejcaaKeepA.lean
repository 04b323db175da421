/- A keeper's methods: New, Len, Worst, Add. -/
import Derived.Test.YtcencmjdhaejcaaKeepP
namespace Go.Proofs.Ytcencmjdhaejcaa
open Go.RowKit

def mostN (k : Int) : Nat := (min (max k 0) 64).toNat
theorem mostN_le (k : Int) : mostN k ≤ 64 := by unfold mostN; omega
theorem mostN_int (k : Int) : ((mostN k : Nat) : Int) = min (max k 0) 64 := by unfold mostN; omega

theorem new_any (k : Int) (w : World) : Calls Try.prog 16 #[.int .i64 k] w fun e w' =>
    e = .returned (.pointer (some ⟨w.heap.size, 0, none⟩)) ∧ Kep w' w.heap.size (mostN k) (.slice none 0 0) [] ∧ Touch (fun _ => False) w w' := by
  go_enter Try.func16, Try.ntmps16
  have key : ∀ x : Int, x = (mostN k : Int) → Kep (w.alloc (.cells #[.int .i64 x, .slice none 0 0] 44)) w.heap.size (mostN k) (.slice none 0 0) [] := fun x hx => by
    subst hx
    exact ⟨⟨[], ⟨Blk.new _ _ _, World.ownsRow_nil _ _ _ _⟩, List.Perm.refl _, fun c h0 hc => absurd hc (by simp)⟩, List.Pairwise.nil, Nat.zero_le _, mostN_le k⟩
  have KEY := hide key
  clear key
  go_wp2
  all_goals go_ret
  all_goals refine ⟨rfl, KEY.out _ ?_, (Touch.refl _ _).alloc _⟩
  all_goals (rw [mostN_int]; omega)

theorem klen_any (w : World) (p most : Nat) (v : Value) (S : List MRow) (h : Kep w p most v S) :
    Calls Try.prog 18 #[.pointer (some ⟨p, 0, none⟩)] w fun e w' => e = .returned (.int .i64 S.length) ∧ w = w' := by
  obtain ⟨H, hp, hperm, _⟩ := h.ex
  have hl := hperm.length_eq
  have ho := hp.own
  rw [hl] at ho
  obtain ⟨A, c, rfl, _, _⟩ := own_len ho
  have hm := own_le ho
  unfold maxLen at hm
  have c1 := hp.blk.cell 1
  simp at c1
  have hpl := hp.blk.lt
  clear ho hl hperm hp h
  go_enter Try.func18, Try.ntmps18
  go_wp2
  go_ret
  exact ⟨rfl, rfl⟩

set_option maxRecDepth 100000 in
theorem worst_none (w : World) (p most : Nat) (v : Value) (h : Kep w p most v []) :
    Calls Try.prog 19 #[.pointer (some ⟨p, 0, none⟩)] w fun e w' => e = .returned (.tuple #[MRow.zero.val, .bool false]) ∧ Touch (fun _ => False) w w' := by
  obtain ⟨H, hp, hperm, _⟩ := h.ex
  have hl := hperm.length_eq
  have ho := hp.own
  rw [hl] at ho
  obtain ⟨A, c, rfl, _, _⟩ := own_len ho
  have c1 := hp.blk.cell 1
  simp at c1
  have hpl := hp.blk.lt
  clear ho hl hperm hp h
  go_enter Try.func19, Try.ntmps19
  go_wp2
  refine bodyPost_ret (v := .tuple #[MRow.zero.val, .bool false]) (by simp [results, Try.results19, MRow.val, MRow.zero, go_sem]; rfl) rfl ⟨rfl, (Touch.refl _ _).alloc _⟩

set_option maxRecDepth 100000 in
theorem worst_some (w : World) (p most : Nat) (v : Value) (S : List MRow) (h : Kep w p most v S) (n : Nat) (hn : S.length = n + 1) :
    Calls Try.prog 19 #[.pointer (some ⟨p, 0, none⟩)] w fun e w' => e = .returned (.tuple #[(S.getD n MRow.zero).val, .bool true]) ∧ Touch (fun _ => False) w w' := by
  obtain ⟨H, hp, hperm, hh⟩ := h.ex
  rw [← top_last hperm hh h.srt n hn]
  have hl := hperm.length_eq
  have ho := hp.own
  rw [hl, hn] at ho
  obtain ⟨A, c, rfl, _, _⟩ := own_len ho
  have hm := own_le ho
  unfold maxLen at hm
  have c1 := hp.blk.cell 1
  simp at c1
  have hpl := hp.blk.lt
  obtain ⟨g, rfl, hg, a0, a1, a2, _, _, _⟩ := own_at ho (by omega) 0 (by omega)
  obtain ⟨⟨xw, xn, xd⟩, hx⟩ : ∃ x, x = H.getD 0 MRow.zero := ⟨_, rfl⟩
  rw [← hx] at a0 a1 a2 ⊢
  simp only [Nat.zero_mul, Nat.zero_add] at a0 a1 a2
  clear ho hl hperm hp h hx hh hn
  have q0 : (((n + 1 : Nat) : Int) == 0) = false := by simp; omega
  have q1 : (((n : Nat) : Int) + 1 == 0) = false := by simp; omega
  go_enter Try.func19, Try.ntmps19
  go_wp2
  refine bodyPost_ret (v := .tuple #[MRow.val ⟨xw, xn, xd⟩, .bool true]) (by simp [results, Try.results19, MRow.val, go_sem]) rfl ⟨rfl, (Touch.refl _ _).alloc _⟩

set_option maxRecDepth 100000 in
set_option maxHeartbeats 1000000 in
theorem add_zero (w : World) (p : Nat) (v : Value) (S : List MRow) (h : Kep w p 0 v S) (m : MRow) :
    Calls Try.prog 17 #[.pointer (some ⟨p, 0, none⟩), m.val] w fun e w' => e = .returned (.bool false) ∧ Touch (fun _ => False) w w' := by
  obtain ⟨H, hp, hperm, hh⟩ := h.ex
  have c0 := hp.blk.cell 0
  simp at c0
  have hpl := hp.blk.lt
  obtain ⟨mw, mn, md⟩ := m
  rw [val_cells]
  simp only
  clear hp hperm hh h
  go_enter Try.func17, Try.ntmps17
  go_wp2
  go_ret
  exact ⟨rfl, (Touch.refl _ _).alloc _⟩

set_option maxRecDepth 100000 in
set_option maxHeartbeats 1000000 in
theorem add_less (w : World) (p most : Nat) (v : Value) (S : List MRow) (h : Kep w p most v S) (hl : S.length < most) (m : MRow) :
    Calls Try.prog 17 #[.pointer (some ⟨p, 0, none⟩), m.val] w fun e w' =>
      e = .returned (.bool true) ∧ ∃ v', Kep w' p most v' ((ins m S).take most) ∧ Touch (pfp p v) w w' ∧ Fresh w v v' := by
  obtain ⟨H, hp, hperm, hh⟩ := h.ex
  have hlen := hperm.length_eq
  have ho := hp.own
  rw [hlen] at ho
  obtain ⟨A, c, rfl, _, _⟩ := own_len ho
  have c0 := hp.blk.cell 0
  have c1 := hp.blk.cell 1
  simp at c0 c1
  have hpl := hp.blk.lt
  have hm := h.m64
  have HH := hide h
  have HP := hide hp
  have HE := hide hperm
  have HQ := hide hh
  have HLN := hide hlen
  have HLT := hide hl
  have HM := hide hm
  have bX := Blk.new w 23 #[.string m.word, .int .i64 m.weight, .int .i64 m.dist]
  obtain ⟨x1, x2, x3⟩ := bX.facts
  obtain ⟨mw, mn, md⟩ := m
  rw [val_cells]
  simp only at x1 x2 x3 ⊢
  have q0 : ((most : Int) == 0) = false := by simp; omega
  have q1 : ((S.length : Int) == (most : Int)) = false := by simp; omega
  have q2 : (most : Int) ≤ 64 := by omega
  have q3 : S.length ≤ 9223372036854775807 := by omega
  clear ho hlen hperm hp hh h hl hm bX
  go_enter Try.func17, Try.ntmps17
  go_wp2
  go_quiet (fail)
  obtain ⟨w2, hw2⟩ : ∃ w2, w2 = (w.alloc (.cells #[.string mw, .int .i64 mn, .int .i64 md] 23)).drewN nq := ⟨_, rfl⟩
  have hT : Touch (fun _ => False) w w2 := by rw [hw2]; exact ((Touch.refl _ _).alloc _).drewN _
  have hB : Blk w2 w.heap.size 23 #[.string mw, .int .i64 mn, .int .i64 md] := by rw [hw2]; exact (Blk.new w _ _).drewN _
  rw [← hw2]
  clear hw2
  obtain ⟨y1, y2, y3⟩ := hB.facts
  have HT := hide hT
  clear hB hT
  go_wp2
  go_still_tail 6, (by kernel_rfl)
  change wpList _ _ _ _ _ w2.drew
  have HT3 := hide (HT.out.drew)
  generalize w2.drew = w3 at HT3 ⊢
  go_wp2_with (go_at_call 24; refine (hpush_any w3 p most (.slice A S.length c) H (HP.out.quiet HT3.out) (by have := HLN.out; have := HLT.out; have := HM.out; omega) ⟨mw, mn, md⟩).mono ?_; rintro e w4 ⟨rfl, v4, P4, T4, F4⟩; have HP4 := hide P4; have HT4 := hide T4; have HF4 := hide F4; clear P4 T4 F4)
  go_ret
  obtain ⟨r1, r2⟩ := add_room HE.out HQ.out ⟨mw, mn, md⟩ most HLT.out
  refine ⟨rfl, v4, ⟨⟨_, HP4.out, r1, r2⟩, ins_take_srt HH.out.srt _ _, by rw [List.length_take]; omega, HM.out⟩, (HT3.out.up _).then HT4.out, ?_⟩
  rcases HF4.out with e | ⟨g, e, hg⟩
  · exact .inl e
  · exact .inr ⟨g, e, Nat.le_trans HT3.out.size hg⟩

end Go.Proofs.Ytcencmjdhaejcaa
