/- PairsApart: the walk. -/
import Derived.Test.YtdjlcgldplndiaaDoorMergesW
import Derived.Deep.RegionHeld3
import Derived.Deep.CutRange
namespace Go.Proofs.YtdjlcgldplndiaaDoor
open Go.RowKit

theorem apart_list {b Y1 Y2 : List PRow} {p q : PRow} (hne : ¬ p.word.toList = q.word.toList) (h1 : Nrm (b ++ [p, q]) Y1) (h2 : Nrm (b ++ [q, p]) Y2) : Y1 = Y2 := by
  have k : SameK [p, q] [q, p] := SameK.swap (A := [p]) (B := [q]) fun a ha c hc => by
    simp only [List.mem_singleton] at ha hc
    subst ha hc
    exact hne
  exact (h1.of_same ((SameK.refl b).app k)).unique h2

theorem pbox_keep4 {w1 w' : World} {p q : Nat} {t : TypeId} {a b x y : Value} (h : Blk w1 p t #[a, b]) (k : Blk w1 q t #[x, y]) (ht : Touch (fun _ => False) w1 w') :
    w'.cell? ⟨p, 0, none⟩ = some a ∧ w'.cell? ⟨p, 1, none⟩ = some b ∧ w'.cell? ⟨q, 0, none⟩ = some x ∧ w'.cell? ⟨q, 1, none⟩ = some y ∧ Touch (fun _ => False) w1 w' := by
  have h' := h.touch ht (fun f => f)
  have k' := k.touch ht (fun f => f)
  exact ⟨h'.cell 0, h'.cell 1, k'.cell 0, k'.cell 1, ht⟩
theorem reads_new1 (w : World) (X : Obj) (t : TypeId) (xs : List Value) (n size : Nat) (h : xs.length = n * size) : Reads ((w.alloc X).alloc (.cells xs.toArray t)) size (some ⟨w.heap.size + 1, 0, none⟩) n xs := by
  have := Reads.new (size := size) (w.alloc X) t xs n h
  simpa using this
theorem and_last5 {a b c d e : Prop} (h : a ∧ b ∧ c ∧ d ∧ e) : e := h.2.2.2.2

set_option maxRecDepth 100000 in
set_option maxHeartbeats 4000000 in
theorem apart_walk (W : World) (s : SL) (hs : s.Ok W) (p q : PRow) (hsum : s.n + 2 ≤ 5864062014700) :
    Calls Tryd.prog 6 #[s.val, p.val, q.val] W fun e W' => e = .returned (.bool true) ∧ Below W.heap.size W W' := by
  obtain ⟨b4, hb4⟩ : ∃ x, x = W.heap.size := ⟨_, rfl⟩
  obtain ⟨w1, hw1⟩ : ∃ x, x = W.alloc (.cells #[.string p.word, .int .i64 p.weight] 29) := ⟨_, rfl⟩
  obtain ⟨w0, hw0⟩ : ∃ x, x = w1.alloc (.cells #[.string q.word, .int .i64 q.weight] 29) := ⟨_, rfl⟩
  have t1 : Touch (fun _ => False) W w1 := by rw [hw1]; exact (Touch.refl _ _).alloc _
  have t2 : Touch (fun _ => False) w1 w0 := by rw [hw0]; exact (Touch.refl _ _).alloc _
  have k1 : Blk w0 b4 29 #[.string p.word, .int .i64 p.weight] := by
    have : Blk w1 b4 29 #[.string p.word, .int .i64 p.weight] := by rw [hw1, hb4]; exact Blk.new _ _ _
    exact this.touch t2 (fun f => f)
  have hsz : w1.heap.size = b4 + 1 := by rw [hw1, hb4]; simp
  have k2 : Blk w0 (b4 + 1) 29 #[.string q.word, .int .i64 q.weight] := by rw [hw0, ← hsz]; exact Blk.new _ _ _
  have HS := hide hs
  have HT0 := hide (t1.then t2)
  have HK1 := hide k1
  have HK2 := hide k2
  have HW1 := hide hw1
  have HW0 := hide hw0
  have HB4 := hide hb4
  have HSU := hide hsum
  obtain ⟨sA, sn, sc, sL⟩ := s
  obtain ⟨pw, pn⟩ := p
  obtain ⟨qw, qn⟩ := q
  clear hs t1 t2 k1 k2 hw1 hw0 hb4 hsz hsum
  simp only at HK1 HK2 HW1 HW0
  simp only [SL.val]
  rw [pval_eq, pval_eq]
  by_cases hq : pw.toList = qw.toList
  · have q2 : (pw.toList == qw.toList) = true := by simp [hq]
    go_enter Tryd.func6, Tryd.ntmps6
    go_wp2_with fail
    rw [← HW1.out, ← HW0.out]
    refine (alive_any w0).mono ?_
    rintro e w2 ⟨rfl, T2⟩
    have H2 := hide (HT0.out.then T2)
    clear T2
    go_wp2
    go_ret
    exact ⟨rfl, H2.out.below (Nat.le_refl _) (fun _ _ f => f)⟩
  · have q2 : (pw.toList == qw.toList) = false := by simp [hq]
    have q3 : decide (pw.toList = qw.toList) = false := by simp [hq]
    have HQ := hide hq
    go_enter Tryd.func6, Tryd.ntmps6
    go_upto_region 3 with fail
    rw [← HW1.out, ← HW0.out, ← HB4.out]
    go_region_held3 (fun w' => w'.cell? ⟨b4, 0, none⟩ = some (.string pw) ∧ w'.cell? ⟨b4, 1, none⟩ = some (.int .i64 pn) ∧ w'.cell? ⟨b4 + 1, 0, none⟩ = some (.string qw) ∧ w'.cell? ⟨b4 + 1, 1, none⟩ = some (.int .i64 qn) ∧ Touch (fun _ => False) w0 w')
      (first
        | exact pbox_keep4 HK1.out HK2.out (Touch.refl _ _)
        | exact pbox_keep4 HK1.out HK2.out (Touch.refl _ _).drew
        | exact pbox_keep4 HK1.out HK2.out (Touch.alloc (and_last5 (by assumption)) _)
        | exact pbox_keep4 HK1.out HK2.out (Touch.then (and_last5 (by assumption)) (by assumption)))
      (first
        | (go_at_call 11; refine (alive_any _).mono ?_; rintro e w2 ⟨rfl, T2⟩)
        | (go_at_call 15; refine (pmerge_any _ ⟨sA, sn, sc, sL⟩ ⟨some ⟨_, 0, none⟩, 2, 2, [⟨pw, pn⟩, ⟨qw, qn⟩]⟩ (HS.out.touch (HT0.out.then (and_last5 (by assumption)))) ⟨rfl, (by first | exact Reads.new _ _ _ _ rfl | exact (Reads.new _ _ _ _ rfl).alloc _ | exact Reads.touch (S := fun _ => False) (Reads.new _ _ _ _ rfl) T6 (fun _ _ f => f) | exact Reads.touch (S := fun _ => False) ((Reads.new _ _ _ _ rfl).alloc _) T6 (fun _ _ f => f) | exact reads_new1 _ _ _ _ _ _ rfl | exact Reads.touch (S := fun _ => False) (reads_new1 _ _ _ _ _ _ rfl) T6 (fun _ _ f => f)), fun e => by cases e⟩ HSU.out).mono ?_; rintro e w5 ⟨A5, n5, c5, Y5, rfl, O5, N5, T5, _, _, _⟩)
        | (go_at_call 15; refine (pmerge_any _ ⟨sA, sn, sc, sL⟩ ⟨some ⟨_, 0, none⟩, 2, 2, [⟨qw, qn⟩, ⟨pw, pn⟩]⟩ (HS.out.touch (HT0.out.then (and_last5 (by assumption)))) ⟨rfl, (by first | exact Reads.new _ _ _ _ rfl | exact (Reads.new _ _ _ _ rfl).alloc _ | exact Reads.touch (S := fun _ => False) (Reads.new _ _ _ _ rfl) T5 (fun _ _ f => f) | exact Reads.touch (S := fun _ => False) ((Reads.new _ _ _ _ rfl).alloc _) T5 (fun _ _ f => f) | exact reads_new1 _ _ _ _ _ _ rfl | exact Reads.touch (S := fun _ => False) (reads_new1 _ _ _ _ _ _ rfl) T5 (fun _ _ f => f)), fun e => by cases e⟩ HSU.out).mono ?_; rintro e w6 ⟨A6, n6, c6, Y6, rfl, O6, N6, T6, _, _, _⟩)
        | (go_at_call 14; have hY := apart_list HQ.out N5 N6; subst hY; have hl : n6 = n5 := (pown_len O6).trans (pown_len O5).symm; subst hl; refine (psame_yes _ A5 n6 c5 (Y5.filter keepP) (pown_len O5).symm (Reads.of_own (base := 0) (e := 29) (c := c5) (by first | exact O5 | exact own_touch O5 T6 (fun _ _ f => f) | exact own_touch O5 (((Touch.refl _ _).alloc _).then T6) (fun _ _ f => f))) (own_le O5) A6 c6 (Reads.of_own (base := 0) (e := 29) (c := c6) (by first | exact O6 | exact own_touch O6 T5 (fun _ _ f => f) | exact own_touch O6 (((Touch.refl _ _).alloc _).then T5) (fun _ _ f => f)))).mono ?_; rintro e w7 ⟨rfl, T7⟩))
    all_goals
      go_wp2
      go_ret
      exact ⟨rfl, (HT0.out.then (and_last5 (by assumption))).below (Nat.le_refl _) (fun _ _ f => f)⟩

end Go.Proofs.YtdjlcgldplndiaaDoor
