/- BestBetter, BestOrder: the walks. -/
import Derived.Test.YtcencmjdhaejcaaAlive13
import Derived.Deep.RegionHeld3
namespace Go.Proofs.Ytcencmjdhaejcaa
open Go.RowKit

theorem box_keep {w0 w' : World} {p : Nat} {t : TypeId} {a b c : Value} (h : Blk w0 p t #[a, b, c]) (ht : Touch (fun _ => False) w0 w') :
    w'.cell? ⟨p, 0, none⟩ = some a ∧ w'.cell? ⟨p, 1, none⟩ = some b ∧ w'.cell? ⟨p, 2, none⟩ = some c := by
  have := h.touch ht (fun f => f)
  exact ⟨this.cell 0, this.cell 1, this.cell 2⟩

theorem and_last7 {a b c d e f g : Prop} (h : a ∧ b ∧ c ∧ d ∧ e ∧ f ∧ g) : g := h.2.2.2.2.2.2

theorem box_keep2 {w0 w' : World} {p q : Nat} {t : TypeId} {a b c x y z : Value} (h : Blk w0 p t #[a, b, c]) (k : Blk w0 q t #[x, y, z]) (ht : Touch (fun _ => False) w0 w') :
    w'.cell? ⟨p, 0, none⟩ = some a ∧ w'.cell? ⟨p, 1, none⟩ = some b ∧ w'.cell? ⟨p, 2, none⟩ = some c ∧ w'.cell? ⟨q, 0, none⟩ = some x ∧ w'.cell? ⟨q, 1, none⟩ = some y ∧ w'.cell? ⟨q, 2, none⟩ = some z ∧ Touch (fun _ => False) w0 w' :=
  ⟨(box_keep h ht).1, (box_keep h ht).2.1, (box_keep h ht).2.2, (box_keep k ht).1, (box_keep k ht).2.1, (box_keep k ht).2.2, ht⟩

set_option maxRecDepth 100000 in
set_option maxHeartbeats 1000000 in
theorem better_walk (W : World) (a b : MRow) (ha : a.Wf) (hb : b.Wf) : Calls Try.prog 3 #[a.val, b.val] W fun e W' => e = .returned (.bool true) ∧ Below W.heap.size W W' := by
  obtain ⟨x, hx⟩ : ∃ x, x = better a b := ⟨_, rfl⟩
  have HX := hide hx
  clear hx
  have b1 := (Blk.new W 23 #[.string a.word, .int .i64 a.weight, .int .i64 a.dist]).alloc (.cells #[.string b.word, .int .i64 b.weight, .int .i64 b.dist] 23)
  have b2 := blk_new1 W (.cells #[.string a.word, .int .i64 a.weight, .int .i64 a.dist] 23) 23 #[.string b.word, .int .i64 b.weight, .int .i64 b.dist]
  obtain ⟨aw, an, ad⟩ := a
  obtain ⟨bw, bn, bd⟩ := b
  simp only at b1 b2
  have B1 := hide b1
  have B2 := hide b2
  have HA := hide ha
  have HB := hide hb
  clear b1 b2 ha hb
  unfold MRow.val
  go_enter Try.func3, Try.ntmps3
  go_wp2
  have HT := hide (show Touch (fun _ => False) W ((W.alloc (.cells #[.string aw, .int .i64 an, .int .i64 ad] 23)).alloc (.cells #[.string bw, .int .i64 bn, .int .i64 bd] 23)) from ((Touch.refl _ _).alloc _).alloc _)
  generalize ((W.alloc (.cells #[.string aw, .int .i64 an, .int .i64 ad] 23)).alloc (.cells #[.string bw, .int .i64 bn, .int .i64 bd] 23)) = w0 at HT B1 B2 ⊢
  go_region_held3 (fun w' => w'.cell? ⟨W.heap.size, 0, none⟩ = some (.string aw) ∧ w'.cell? ⟨W.heap.size, 1, none⟩ = some (.int .i64 an) ∧ w'.cell? ⟨W.heap.size, 2, none⟩ = some (.int .i64 ad) ∧ w'.cell? ⟨W.heap.size + 1, 0, none⟩ = some (.string bw) ∧ w'.cell? ⟨W.heap.size + 1, 1, none⟩ = some (.int .i64 bn) ∧ w'.cell? ⟨W.heap.size + 1, 2, none⟩ = some (.int .i64 bd) ∧ Touch (fun _ => False) w0 w')
    (first
      | exact box_keep2 B1.out B2.out (Touch.refl _ _)
      | exact box_keep2 B1.out B2.out (Touch.refl _ _).drew
      | (refine box_keep2 B1.out B2.out (Touch.then ?_ (by assumption)); first | assumption | exact and_last7 (by assumption) | exact (Touch.refl _ _).drew | exact Touch.refl _ _))
    (first
      | (go_at_call 10; refine (alive_any _).mono ?_; rintro e w2 ⟨rfl, T2⟩)
      | (go_at_call 11; refine (pbetter_any ⟨aw, an, ad⟩ ⟨bw, bn, bd⟩ _).mono ?_; rw [← HX.out]; rintro e w2 ⟨rfl, T2⟩)
      | (go_at_call 12; refine (rbetter_any ⟨aw, an, ad⟩ ⟨bw, bn, bd⟩ HA.out HB.out _).mono ?_; rw [← HX.out]; rintro e w2 ⟨rfl, T2⟩))
  go_wp2
  go_ret
  exact ⟨rfl, (HT.out.then (and_last7 (by assumption))).below (Nat.le_refl _) (fun _ _ f => f)⟩

set_option maxRecDepth 100000 in
set_option maxHeartbeats 1000000 in
theorem order_walk (W : World) (a b c : MRow) : Calls Try.prog 4 #[a.val, b.val, c.val] W fun e W' => e = .returned (.bool true) ∧ Below W.heap.size W W' := by
  obtain ⟨x, hx⟩ : ∃ x, x = better a b := ⟨_, rfl⟩
  obtain ⟨y, hy⟩ : ∃ x, x = better b a := ⟨_, rfl⟩
  obtain ⟨z, hz⟩ : ∃ x, x = better b c := ⟨_, rfl⟩
  obtain ⟨u, hu⟩ : ∃ x, x = better a c := ⟨_, rfl⟩
  have HX := hide hx
  have HY := hide hy
  have HZ := hide hz
  have HU := hide hu
  clear hx hy hz hu
  have b1 := ((Blk.new W 23 #[.string a.word, .int .i64 a.weight, .int .i64 a.dist]).alloc (.cells #[.string b.word, .int .i64 b.weight, .int .i64 b.dist] 23)).alloc (.cells #[.string c.word, .int .i64 c.weight, .int .i64 c.dist] 23)
  have b2 := (blk_new1 W (.cells #[.string a.word, .int .i64 a.weight, .int .i64 a.dist] 23) 23 #[.string b.word, .int .i64 b.weight, .int .i64 b.dist]).alloc (.cells #[.string c.word, .int .i64 c.weight, .int .i64 c.dist] 23)
  have b3 := blk_new2 W (.cells #[.string a.word, .int .i64 a.weight, .int .i64 a.dist] 23) (.cells #[.string b.word, .int .i64 b.weight, .int .i64 b.dist] 23) 23 #[.string c.word, .int .i64 c.weight, .int .i64 c.dist]
  obtain ⟨aw, an, ad⟩ := a
  obtain ⟨bw, bn, bd⟩ := b
  obtain ⟨cw, cn, cd⟩ := c
  simp only at b1 b2 b3
  have B1 := hide b1
  have B2 := hide b2
  have B3 := hide b3
  clear b1 b2 b3
  unfold MRow.val
  go_enter Try.func4, Try.ntmps4
  go_wp2_with fail
  have HT := hide (show Touch (fun _ => False) W (((W.alloc (.cells #[.string aw, .int .i64 an, .int .i64 ad] 23)).alloc (.cells #[.string bw, .int .i64 bn, .int .i64 bd] 23)).alloc (.cells #[.string cw, .int .i64 cn, .int .i64 cd] 23)) from (((Touch.refl _ _).alloc _).alloc _).alloc _)
  generalize (((W.alloc (.cells #[.string aw, .int .i64 an, .int .i64 ad] 23)).alloc (.cells #[.string bw, .int .i64 bn, .int .i64 bd] 23)).alloc (.cells #[.string cw, .int .i64 cn, .int .i64 cd] 23)) = w0 at HT B1 B2 B3 ⊢
  refine (pbetter_any ⟨aw, an, ad⟩ ⟨bw, bn, bd⟩ _).mono ?_
  rw [← HX.out]
  rintro e w1 ⟨rfl, T1⟩
  have HT1 := hide T1
  obtain ⟨a0, a1, a2⟩ := box_keep B1.out T1
  obtain ⟨b0, b1, b2⟩ := box_keep B2.out T1
  clear T1
  go_wp2_with fail
  refine (pbetter_any ⟨bw, bn, bd⟩ ⟨aw, an, ad⟩ _).mono ?_
  rw [← HY.out]
  rintro e w2 ⟨rfl, T2⟩
  have T2 := HT1.out.then T2
  have HT2 := hide T2
  obtain ⟨a0', a1', a2'⟩ := box_keep B1.out T2
  obtain ⟨b0', b1', b2'⟩ := box_keep B2.out T2
  obtain ⟨c0', c1', c2'⟩ := box_keep B3.out T2
  clear T2 a0 a1 a2 b0 b1 b2
  have hne : (x = true ∨ y = true) → (¬ aw.toList = bw.toList) ∨ (aw.toList = bw.toList ∧ ¬ an = bn) ∨ (aw.toList = bw.toList ∧ an = bn ∧ ¬ ad = bd) := by
    intro hxy
    by_cases e1 : aw.toList = bw.toList
    · by_cases e2 : an = bn
      · by_cases e3 : ad = bd
        · exfalso
          have e : (⟨aw, an, ad⟩ : MRow) = ⟨bw, bn, bd⟩ := MRow.ext' (toList_inj e1) e2 e3
          rw [HX.out, HY.out, e, better_irrefl] at hxy
          simp at hxy
        · exact .inr (.inr ⟨e1, e2, e3⟩)
      · exact .inr (.inl ⟨e1, e2⟩)
    · exact .inl e1
  cases x with
  | true =>
    have hy : y = false := by
      rw [HY.out]
      exact wle_of_better (by rw [← HX.out])
    subst hy
    cases z with
    | true =>
      have hu : u = true := by
        rw [HU.out]
        exact better_trans _ _ _ HX.out.symm HZ.out.symm
      subst hu
      rcases hne (.inl rfl) with h1 | ⟨h1, h2⟩ | ⟨h1, rfl, h3⟩
      all_goals
        go_wp2_with fail
        refine (alive_any _).mono ?_
        rintro e w3 ⟨rfl, T3⟩
        have T3 := HT2.out.then T3
        have HT3 := hide T3
        obtain ⟨p0, p1, p2⟩ := box_keep B1.out T3
        obtain ⟨q0, q1, q2⟩ := box_keep B2.out T3
        obtain ⟨r0, r1, r2⟩ := box_keep B3.out T3
        clear T3 a0' b0' c0' a1' b1' c1' a2' b2' c2'
        go_wp2_with fail
        refine (pbetter_any ⟨bw, _, _⟩ ⟨cw, cn, cd⟩ _).mono ?_
        rintro e w4 ⟨rfl, T4⟩
        have T4 := HT3.out.then T4
        have HT4 := hide T4
        obtain ⟨p0', p1', p2'⟩ := box_keep B1.out T4
        obtain ⟨q0', q1', q2'⟩ := box_keep B2.out T4
        obtain ⟨r0', r1', r2'⟩ := box_keep B3.out T4
        clear T4 p0 p1 p2 q0 q1 q2 r0 r1 r2
        have HZ' := HZ.out
        try rw [← HZ']
        clear HZ'
        go_wp2_with fail
        refine (pbetter_any ⟨aw, _, _⟩ ⟨cw, cn, cd⟩ _).mono ?_
        rintro e w5 ⟨rfl, T5⟩
        have T5 := HT4.out.then T5
        have HU' := HU.out
        rw [← HU']
        clear HU'
        go_wp2
        go_ret
        exact ⟨rfl, (HT.out.then T5).below (Nat.le_refl _) (fun _ _ f => f)⟩
    | false =>
      rcases hne (.inl rfl) with h1 | ⟨h1, h2⟩ | ⟨h1, rfl, h3⟩
      all_goals
        go_wp2_with fail
        refine (alive_any _).mono ?_
        rintro e w3 ⟨rfl, T3⟩
        have T3 := HT2.out.then T3
        have HT3 := hide T3
        obtain ⟨p0, p1, p2⟩ := box_keep B1.out T3
        obtain ⟨q0, q1, q2⟩ := box_keep B2.out T3
        obtain ⟨r0, r1, r2⟩ := box_keep B3.out T3
        clear T3 a0' b0' c0' a1' b1' c1' a2' b2' c2'
        go_wp2_with fail
        refine (pbetter_any ⟨bw, _, _⟩ ⟨cw, cn, cd⟩ _).mono ?_
        rintro e w4 ⟨rfl, T4⟩
        have T4 := HT3.out.then T4
        have HZ' := HZ.out
        rw [← HZ']
        clear HZ'
        go_wp2
        go_ret
        exact ⟨rfl, (HT.out.then T4).below (Nat.le_refl _) (fun _ _ f => f)⟩
  | false =>
    cases y with
    | true =>
      rcases hne (.inr rfl) with h1 | ⟨h1, h2⟩ | ⟨h1, rfl, h3⟩
      all_goals
        go_wp2_with fail
        refine (alive_any _).mono ?_
        rintro e w3 ⟨rfl, T3⟩
        have T3 := HT2.out.then T3
        go_wp2
        go_ret
        exact ⟨rfl, (HT.out.then T3).below (Nat.le_refl _) (fun _ _ f => f)⟩
    | false =>
      have e : (⟨aw, an, ad⟩ : MRow) = ⟨bw, bn, bd⟩ := by
        refine Classical.byContradiction fun h => ?_
        rcases better_total _ _ h with k | k
        · rw [← HX.out] at k; cases k
        · rw [← HY.out] at k; cases k
      injection e with e1 e2 e3
      have h1 : aw.toList = bw.toList := by rw [e1]
      clear hne
      subst e2 e3
      go_wp2_with fail
      refine (alive_any _).mono ?_
      rintro e w3 ⟨rfl, T3⟩
      have T3 := HT2.out.then T3
      go_wp2
      go_ret
      exact ⟨rfl, (HT.out.then T3).below (Nat.le_refl _) (fun _ _ f => f)⟩

end Go.Proofs.Ytcencmjdhaejcaa
