/- A keeper's Add when it is full; Add whatever. -/
import Derived.Test.YtcencmjdhaejcaaKeepA
namespace Go.Proofs.Ytcencmjdhaejcaa
open Go.RowKit

set_option maxRecDepth 100000 in
set_option maxHeartbeats 1000000 in
theorem add_atmost (w : World) (p : Nat) (v : Value) (S : List MRow) (k n : Nat) (hk : n + 1 = k) (h : Kep w p k v S) (hl : S.length = k) (m : MRow) :
    Calls Try.prog 17 #[.pointer (some ⟨p, 0, none⟩), m.val] w fun e w' =>
      e = .returned (.bool (better m (S.getD n MRow.zero))) ∧ ∃ v', Kep w' p k v' ((ins m S).take k) ∧ Touch (pfp p v) w w' ∧ Fresh w v v' := by
  obtain ⟨H, hp, hperm, hh⟩ := h.ex
  have htop := top_last hperm hh h.srt n (hl.trans hk.symm)
  have hlen : H.length = k := by rw [hperm.length_eq, hl]
  have ho := hp.own
  rw [hlen] at ho
  obtain ⟨A, c, rfl, _, _⟩ := own_len ho
  have hle := own_le ho
  obtain ⟨g, rfl, hg, a0, a1, a2, _, _, _⟩ := own_at ho hlen.symm 0 (by omega)
  rw [htop] at a0 a1 a2
  have c0 := hp.blk.cell 0
  have c1 := hp.blk.cell 1
  simp at c0 c1
  have hpl := hp.blk.lt
  have hm := h.m64
  have HH := hide h
  have HP := hide hp
  have HE := hide hperm
  have HQ := hide hh
  have HL := hide hl
  have HLN := hide hlen
  have HM := hide hm
  have HOWN := hide ho
  have HK := hide hk
  have bX := Blk.new w 23 #[.string m.word, .int .i64 m.weight, .int .i64 m.dist]
  obtain ⟨x1, x2, x3⟩ := bX.facts
  obtain ⟨mw, mn, md⟩ := m
  obtain ⟨⟨xw, xn, xd⟩, hx⟩ : ∃ x, x = S.getD n MRow.zero := ⟨_, rfl⟩
  rw [← hx] at a0 a1 a2 ⊢
  simp only [Nat.zero_mul, Nat.zero_add] at a0 a1 a2
  have EX := hide hx
  rw [val_cells]
  simp only at x1 x2 x3 ⊢
  have q0 : ((k : Int) == 0) = false := by simp; omega
  have q2 : (k : Int) ≤ 64 := by omega
  have q3 : 0 < k := by omega
  clear ho hlen hperm hp hh h hl hm bX htop hx hk hle
  cases hb : better ⟨mw, mn, md⟩ ⟨xw, xn, xd⟩ with
  | false =>
    have HB := hide hb
    clear hb
    go_enter Try.func17, Try.ntmps17
    go_wp2
    go_quiet (fail)
    obtain ⟨w2, hw2⟩ : ∃ w2, w2 = (w.alloc (.cells #[.string mw, .int .i64 mn, .int .i64 md] 23)).drewN nq := ⟨_, rfl⟩
    have hT : Touch (fun _ => False) w w2 := by rw [hw2]; exact ((Touch.refl _ _).alloc _).drewN _
    have hB : Blk w2 w.heap.size 23 #[.string mw, .int .i64 mn, .int .i64 md] := by rw [hw2]; exact (Blk.new w _ _).drewN _
    rw [← hw2]
    clear hw2
    obtain ⟨y1, y2, y3⟩ := hB.facts
    have c2 := (HP.out.blk.touch hT (fun f => f)).cell 1
    simp at c2
    have b0 := (hT.cell (a := ⟨g, 0, none⟩) hg (fun f => f)).trans a0
    have b1 := (hT.cell (a := ⟨g, 1, none⟩) hg (fun f => f)).trans a1
    have b2 := (hT.cell (a := ⟨g, 2, none⟩) hg (fun f => f)).trans a2
    have HT := hide hT
    have HB2 := hide hB
    clear hB hT
    go_wp2
    go_still_tail 7, (by kernel_rfl)
    change wpList _ _ _ _ _ w2.drew
    have HT3 := hide (HT.out.drew)
    have HB3 := hide (HB2.out.drew)
    generalize w2.drew = w3 at HT3 HB3 ⊢
    go_wp2_with (go_at_call 11; refine (pbetter_any ⟨mw, mn, md⟩ ⟨xw, xn, xd⟩ w3).mono ?_; rintro e w4 ⟨rfl, T4⟩; have HT4 := hide (HT3.out.then T4); have HB4 := hide (HB3.out.touch T4 (fun f => f)); clear T4; rw [HB.out])
    go_ret
    refine ⟨rfl, _, ?_, HT4.out.up _, .inl rfl⟩
    rw [← HK.out, add_not HH.out.srt ⟨mw, mn, md⟩ n (HL.out.trans HK.out.symm) (by rw [← EX.out]; exact HB.out)]
    rw [HK.out]
    exact HH.out.touch HT4.out (fun _ _ _ f => f)
  | true =>
    have HB := hide hb
    clear hb
    go_enter Try.func17, Try.ntmps17
    go_wp2
    go_quiet (fail)
    obtain ⟨w2, hw2⟩ : ∃ w2, w2 = (w.alloc (.cells #[.string mw, .int .i64 mn, .int .i64 md] 23)).drewN nq := ⟨_, rfl⟩
    have hT : Touch (fun _ => False) w w2 := by rw [hw2]; exact ((Touch.refl _ _).alloc _).drewN _
    have hB : Blk w2 w.heap.size 23 #[.string mw, .int .i64 mn, .int .i64 md] := by rw [hw2]; exact (Blk.new w _ _).drewN _
    rw [← hw2]
    clear hw2
    obtain ⟨y1, y2, y3⟩ := hB.facts
    have c2 := (HP.out.blk.touch hT (fun f => f)).cell 1
    simp at c2
    have b0 := (hT.cell (a := ⟨g, 0, none⟩) hg (fun f => f)).trans a0
    have b1 := (hT.cell (a := ⟨g, 1, none⟩) hg (fun f => f)).trans a1
    have b2 := (hT.cell (a := ⟨g, 2, none⟩) hg (fun f => f)).trans a2
    have HT := hide hT
    have HB2 := hide hB
    clear hB hT
    go_wp2
    go_still_tail 7, (by kernel_rfl)
    change wpList _ _ _ _ _ w2.drew
    have HT3 := hide (HT.out.drew)
    have HB3 := hide (HB2.out.drew)
    generalize w2.drew = w3 at HT3 HB3 ⊢
    go_wp2_with (go_at_call 11; refine (pbetter_any ⟨mw, mn, md⟩ ⟨xw, xn, xd⟩ w3).mono ?_; rintro e w4 ⟨rfl, T4⟩; have HT4 := hide (HT3.out.then T4); have HB4 := hide (HB3.out.touch T4 (fun f => f)); clear T4; rw [HB.out])
    refine (hpop_any w4 p k (.slice (some ⟨g, 0, none⟩) k c) H n (HLN.out.trans HK.out.symm) (by have := HM.out; have := HK.out; omega) (HP.out.quiet HT4.out)).mono ?_
    rintro e w5 ⟨rfl, v5, P5, T5, F5⟩
    have hne : ¬ pfp p (.slice (some ⟨g, 0, none⟩) k c) w.heap.size := by
      rintro (e | e)
      · omega
      · simp [Value.ownBlock] at e
        omega
    have hB5 := HB4.out.touch T5 hne
    obtain ⟨z1, z2, z3⟩ := hB5.facts
    have HP5 := hide P5
    have HT5 := hide ((HT4.out.up _).then T5)
    have HF5 := hide F5
    clear P5 T5 F5 hB5 hne y1 y2 y3 c2 b0 b1 b2
    go_wp2
    go_still_tail 6, (by kernel_rfl)
    change wpList _ _ _ _ _ w5.drew
    have HT6 : Hid (Touch (fun _ => False) w5 w5.drew) := hide (Touch.refl _ _).drew
    generalize w5.drew = w6 at HT6 ⊢
    obtain ⟨r1, r2, r3⟩ := pop_take HE.out HQ.out HH.out.srt n (HL.out.trans HK.out.symm)
    have HR := hide r3
    clear r1 r2 r3
    go_wp2_with (go_at_call 24; refine (hpush_any w6 p k v5 (popF H n) (HP5.out.quiet HT6.out) (by have := HR.out; have := HM.out; have := HK.out; omega) ⟨mw, mn, md⟩).mono ?_; rintro e w7 ⟨rfl, v7, P7, T7, F7⟩; have HP7 := hide P7; have HT7 := hide T7; have HF7 := hide F7; clear P7 T7 F7)
    go_ret
    obtain ⟨r1, r2⟩ := add_full HE.out HQ.out HH.out.srt ⟨mw, mn, md⟩ n (HL.out.trans HK.out.symm) (by rw [← EX.out]; exact HB.out)
    rw [HK.out] at r1
    have hfr : Fresh w (.slice (some ⟨g, 0, none⟩) k c) v7 := by
      rcases HF7.out with e | ⟨g', e, hg'⟩
      · exact .inl (e.trans HF5.out)
      · exact .inr ⟨g', e, Nat.le_trans (Nat.le_trans HT5.out.size HT6.out.size) hg'⟩
    have h57 : Touch (pfp p v5) w5 w7 := (HT6.out.up _).then HT7.out
    refine ⟨rfl, v7, ⟨⟨_, HP7.out, r1, r2⟩, ins_take_srt HH.out.srt _ _, by rw [List.length_take]; omega, HM.out⟩, HT5.out.trans h57 ?_, hfr⟩
    rintro i hi (e | e)
    · exact .inl e
    · exact .inr (by rw [← HF5.out]; exact e)

/-- Add, whatever. -/
theorem add_any (w : World) (p most : Nat) (v : Value) (S : List MRow) (h : Kep w p most v S) (m : MRow) :
    Calls Try.prog 17 #[.pointer (some ⟨p, 0, none⟩), m.val] w fun e w' =>
      e = .returned (.bool (addB m S most)) ∧ ∃ v', Kep w' p most v' ((ins m S).take most) ∧ Touch (pfp p v) w w' ∧ Fresh w v v' := by
  have hl := h.len
  by_cases h0 : most = 0
  · subst h0
    have hS : S = [] := List.eq_nil_of_length_eq_zero (by omega)
    subst hS
    refine (add_zero w p v [] h m).mono ?_
    rintro e w1 ⟨rfl, T1⟩
    exact ⟨by simp [addB], v, by simpa using h.touch T1 (fun _ _ _ f => f), T1.up _, .inl rfl⟩
  · by_cases h1 : S.length < most
    · refine (add_less w p most v S h h1 m).mono ?_
      rintro e w1 ⟨rfl, r⟩
      exact ⟨by simp [addB, h1], r⟩
    · refine (add_atmost w p v S most (most - 1) (by omega) h (by omega) m).mono ?_
      rintro e w1 ⟨rfl, r⟩
      exact ⟨by simp [addB, h1]; omega, r⟩

end Go.Proofs.Ytcencmjdhaejcaa
