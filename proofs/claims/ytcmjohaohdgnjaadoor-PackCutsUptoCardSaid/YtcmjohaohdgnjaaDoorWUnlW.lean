/- PackUnlike: the walk. Condition: no word has more than 2^40 bytes. -/
import Derived.Test.YtcmjohaohdgnjaaDoorAlive8
import Derived.Test.YtcmjohaohdgnjaaDoorParP
namespace Go.Proofs.YtcmjohaohdgnjaaDoor
open Go.RowKit

theorem packB_inj {m1 m2 : MchP} (h1 : RgtP m1.states m1.base) (h2 : RgtP m2.states m2.base) (n1 : m1.states.length ≤ 98305) (n2 : m2.states.length ≤ 98305) (b1 : 0 ≤ m1.base ∧ m1.base ≤ 1048576) (b2 : 0 ≤ m2.base ∧ m2.base ≤ 1048576) (h : packB m1.base m1.states = packB m2.base m2.states) : m1 = m2 := by
  have form : ∀ {m : MchP}, RgtP m.states m.base → ∀ i, i < m.states.length → FormP i (m.states.getD i noSt) := by
    intro m hm
    rcases hm with ⟨h0, _⟩ | hm
    · intro i hi
      rw [h0] at hi
      simp at hi
    · exact hm.form
  obtain ⟨base1, s1⟩ := m1
  obtain ⟨base2, s2⟩ := m2
  obtain ⟨k1, rfl⟩ : ∃ k : Nat, base1 = (k : Int) := ⟨base1.toNat, by simp only at b1; omega⟩
  obtain ⟨k2, rfl⟩ : ∃ k : Nat, base2 = (k : Int) := ⟨base2.toNat, by simp only at b2; omega⟩
  simp only at h n1 n2 b1 b2
  have e1 := mach_write (base := k1) (by omega) n1 (form h1) []
  have e2 := mach_write (base := k2) (by omega) n2 (form h2) []
  rw [h, e2] at e1
  simp only [Option.some.injEq, Prod.mk.injEq, and_true] at e1
  rw [e1.1, map_inj (fun _ _ => StP.z_inj) e1.2]
theorem find_mem {k : List UInt8} {L : List PRow} {n : Int} (h : findP k L = (n, true)) : ∃ p ∈ L, p.word.toList = k ∧ p.weight = n := by
  unfold findP at h
  cases hl : (key k L).getLast? with
  | none => rw [hl] at h; simp at h
  | some p =>
    rw [hl] at h
    simp only [Prod.mk.injEq, and_true] at h
    have hm := List.mem_of_getLast? hl
    simp only [key, List.mem_filter, decide_eq_true_eq] at hm
    exact ⟨p, hm.1, hm.2, h⟩
theorem mach_sub {L M : List PRow} (hL : DictP L) (hM : DictP M) (h : mach L = mach M) : ∀ p ∈ L, p ∈ M := by
  intro p hp
  have hne : L ≠ [] := fun e => by rw [e] at hp; cases hp
  have hlen : 0 < (mach L).states.length := (right_made hL hne).pos
  have hne2 : M ≠ [] := fun e => by
    rw [h, e] at hlen
    simp [mach] at hlen
  have h1 := mach_find hL hne _ _ (hL.word p hp).1
  have h2 := mach_find hM hne2 _ _ (hL.word p hp).1
  rw [h, h2, key_words hL hp] at h1
  obtain ⟨q, hq, e1, e2⟩ := find_mem h1
  have e : q = p := by
    obtain ⟨qw, qn⟩ := q
    obtain ⟨pw, pn⟩ := p
    simp only at e1 e2
    rw [e2, toList_inj e1]
  rw [← e]
  exact hq
theorem mach_inj {L M : List PRow} (hL : DictP L) (hM : DictP M) (h : mach L = mach M) : L = M := by
  have sL := hL.sort
  have sM := hM.sort
  unfold SortR restsL at sL sM
  rw [List.pairwise_map] at sL sM
  exact sorted_ext (lt := fun a b : PRow => ltR (wordR a, a.weight) (wordR b, b.weight)) (fun a e => by simp [ltR, lexN_irr] at e) (fun a b e f => by
    simp only [ltR] at e f
    rw [lexN_asym _ _ e] at f
    cases f) sL sM (fun p => ⟨mach_sub hL hM h p, mach_sub hM hL h.symm p⟩)
theorem packB_pos (base : Int) (sts : List StP) : 0 < (packB base sts).length := by
  have := varN_pos base.toNat
  unfold packB topB
  simp only [List.length_append]
  omega
theorem unlike_iff {L M : List PRow} (hL : DictP L) (hM : DictP M) : packB (mach L).base (mach L).states = packB (mach M).base (mach M).states ↔ L = M :=
  ⟨fun h => mach_inj hL hM (packB_inj (right_mach hL) (right_mach hM) (mach_few hL) (mach_few hM) (base_mach hL) (base_mach hM) h), fun h => by rw [h]⟩
def sameT (sn tn : Nat) (X Y : List PRow) (i : Nat) (b : Bool) : Prop := b = true ↔ (sn = tn ∧ X.take i = Y.take i)

set_option maxRecDepth 100000 in
set_option maxHeartbeats 8000000 in
theorem wunl_walk (W : World) (hL : Lst W) (s : SL) (hs : s.Ok W) (hWz : ∀ r ∈ s.L, r.word.size ≤ 1099511627776) (hm : s.n ≤ maxLen) (t : SL) (ht : t.Ok W) (tWz : ∀ r ∈ t.L, r.word.size ≤ 1099511627776) (tm : t.n ≤ maxLen) :
    Calls Tryd.prog 6 #[s.val, t.val] W fun e W' => e = .returned (.bool true) ∧ Below W.heap.size W W' := by
  have HFB := hide (fbuild_any W hL s hs hWz hm)
  have HFT : Hid (∀ W', Touch (fun _ => False) W W' → Calls Tryd.prog 14 #[t.val] W' fun e w' =>
      (rightU t.L = false ∧ ∃ k : Int, 70 ≤ k ∧ e = .returned (.tuple #[.agg #[.int .i64 0, .slice none 0 0], .int .i64 k]) ∧ Touch (fun _ => False) W' w') ∨
      (rightU t.L = true ∧ ∃ (A : Option Addr) (n c : Nat) (Z : List SV), e = .returned (.tuple #[.agg #[.int .i64 (mach t.L).base, .slice A n c], .int .i64 0]) ∧ StsOk w' A n Z ∧ Z.map SV.p = (mach t.L).states ∧ n ≤ c ∧ Touch (fun _ => False) W' w')) :=
    hide (fun W' T => fbuild_any W' (Lst.touch hL T) t (ht.touch T) tWz tm)
  have HL := hide hL
  have HS := hide hs
  have HT := hide ht
  obtain ⟨sA, sn, sc, sL⟩ := s
  obtain ⟨tA, tn, tc, tL⟩ := t
  simp only [SL.val] at HFB HFT ⊢
  clear hs hWz hL ht tWz
  unfold maxLen at hm tm
  simp only at hm tm
  go_enter Tryd.func6, Tryd.ntmps6
  go_wp2_with fail
  refine HFB.out.mono ?_
  rintro e w1 (⟨_, k, hk, rfl, T1⟩ | ⟨hr, A, n, c, Z, rfl, hst, hz, _, T1⟩)
  · obtain ⟨w2, hw2⟩ : ∃ x, x = w1.alloc (.cells #[.int .i64 0, .slice none 0 0] 24) := ⟨_, rfl⟩
    have hT2 : Touch (fun _ => False) W w2 := by rw [hw2]; exact T1.alloc _
    have HT2 := hide hT2
    have HW2 := hide hw2
    clear hw2 hT2 T1 HFB
    go_wp2_with fail
    rw [← HW2.out]
    refine (HFT.out w2 HT2.out).mono ?_
    rintro e w3 h3
    have hh : ∃ (x : Int) (b : Int) (A : Option Addr) (n c : Nat), e = .returned (.tuple #[.agg #[.int .i64 b, .slice A n c], .int .i64 x]) ∧ Touch (fun _ => False) w2 w3 := by
      rcases h3 with (⟨_, x, _, rfl, T3⟩ | ⟨_, A, n, c, _, rfl, _, _, _, T3⟩)
      · exact ⟨x, _, _, _, _, rfl, T3⟩
      · exact ⟨0, _, _, _, _, rfl, T3⟩
    obtain ⟨x, b, A, n, c, rfl, T3⟩ := hh
    obtain ⟨w4, hw4⟩ : ∃ x, x = w3.alloc (.cells #[.int .i64 b, .slice A n c] 24) := ⟨_, rfl⟩
    have hT4 : Touch (fun _ => False) W w4 := by rw [hw4]; exact (HT2.out.then T3).alloc _
    have HT4 := hide hT4
    have HW4 := hide hw4
    have k1 : (k == 0) = false := by simp; omega
    clear hw4 hT4 T3 h3 hk
    go_wp2_with fail
    rw [← HW4.out]
    refine (alive8_any w4 (Lst.touch HL.out HT4.out)).mono ?_
    rintro e w5 ⟨rfl, T5⟩
    have HT5 := hide (HT4.out.then T5)
    clear T5
    go_wp2_with fail
    go_ret
    exact ⟨rfl, HT5.out.below (Nat.le_refl _) (fun _ _ f => f)⟩
  · have hD := dict_of_right hr
    obtain ⟨bs, hbs⟩ : ∃ b, b = (mach sL).base := ⟨_, rfl⟩
    obtain ⟨w2, hw2⟩ : ∃ x, x = w1.alloc (.cells #[.int .i64 bs, .slice A n c] 24) := ⟨_, rfl⟩
    have hT12 : Touch (fun _ => False) w1 w2 := by rw [hw2]; exact (Touch.refl _ _).alloc _
    have hT2 : Touch (fun _ => False) W w2 := T1.then hT12
    have hbM : Blk w2 w1.heap.size 24 #[.int .i64 bs, .slice A n c] := by rw [hw2]; exact Blk.new _ _ _
    have hst2 := hst.quiet hT12
    rw [← hbs]
    have HT2 := hide hT2
    have HW2 := hide hw2
    have HBM := hide hbM
    have HST := hide hst2
    have HD := hide hD
    have HZ := hide hz
    have HBS := hide hbs
    clear hw2 hT2 T1 HFB hT12 hbM hst2 hst hr hz hD hbs
    go_wp2_with fail
    rw [← HW2.out]
    refine (HFT.out w2 HT2.out).mono ?_
    rintro e w3 (⟨_, k, hk, rfl, T3⟩ | ⟨hr, tB, tq, td, Y, rfl, hst, hz, _, T3⟩)
    · obtain ⟨w4, hw4⟩ : ∃ x, x = w3.alloc (.cells #[.int .i64 0, .slice none 0 0] 24) := ⟨_, rfl⟩
      have hT4 : Touch (fun _ => False) W w4 := by rw [hw4]; exact (HT2.out.then T3).alloc _
      have k1 : (k == 0) = false := by simp; omega
      have HT4 := hide hT4
      have HW4 := hide hw4
      clear hw4 hT4 T3 hk
      go_wp2_with fail
      rw [← HW4.out]
      refine (alive8_any w4 (Lst.touch HL.out HT4.out)).mono ?_
      rintro e w5 ⟨rfl, T5⟩
      have HT5 := hide (HT4.out.then T5)
      clear T5
      go_wp2_with fail
      go_ret
      exact ⟨rfl, HT5.out.below (Nat.le_refl _) (fun _ _ f => f)⟩
    · have hD2 := dict_of_right hr
      obtain ⟨bt, hbt⟩ : ∃ b, b = (mach tL).base := ⟨_, rfl⟩
      obtain ⟨w4, hw4⟩ : ∃ x, x = w3.alloc (.cells #[.int .i64 bt, .slice tB tq td] 24) := ⟨_, rfl⟩
      have hT34 : Touch (fun _ => False) w3 w4 := by rw [hw4]; exact (Touch.refl _ _).alloc _
      have hT24 : Touch (fun _ => False) w2 w4 := T3.then hT34
      have hbN : Blk w4 w3.heap.size 24 #[.int .i64 bt, .slice tB tq td] := by rw [hw4]; exact Blk.new _ _ _
      rw [← hbt]
      have HT4 := hide (HT2.out.then hT24)
      have HT24 := hide hT24
      have HW4 := hide hw4
      have HBN := hide hbN
      have HST2 := hide (hst.quiet hT34)
      have HD2 := hide hD2
      have HZ2 := hide hz
      have HBT := hide hbt
      clear hw4 T3 hT34 hT24 hbN hst hr hz hD2 hbt HFT
      go_wp2_with fail
      rw [← HW4.out]
      have HP1 : Hid (∀ W', Touch (fun _ => False) w4 W' → Calls Tryd.prog 15 #[.agg #[.int .i64 bs, .slice A n c]] W' fun e w' => ∃ (A' : Option Addr) (q c' : Nat), e = .returned (.tuple #[.slice A' q c', .int .i64 0]) ∧ ONx 5 1 W' w' (.slice A' q c') q ((packB (mach sL).base (mach sL).states).map byteV)) :=
        hide (fun W' T => by rw [HBS.out]; exact dpack_any W' (Lst.touch HL.out (HT4.out.then T)) sL HD.out A n c Z (HST.out.quiet (HT24.out.then T)) HZ.out)
      have HP2 : Hid (∀ W', Touch (fun _ => False) w4 W' → Calls Tryd.prog 15 #[.agg #[.int .i64 bt, .slice tB tq td]] W' fun e w' => ∃ (A' : Option Addr) (q c' : Nat), e = .returned (.tuple #[.slice A' q c', .int .i64 0]) ∧ ONx 5 1 W' w' (.slice A' q c') q ((packB (mach tL).base (mach tL).states).map byteV)) :=
        hide (fun W' T => by rw [HBT.out]; exact dpack_any W' (Lst.touch HL.out (HT4.out.then T)) tL HD2.out tB tq td Y (HST2.out.quiet T) HZ2.out)
      have HIF := hide (unlike_iff HD.out HD2.out)
      have HSL := hide (HS.out.len)
      have HTL := hide (HT.out.len)
      have HSR := hide (HS.out.reads.touch HT4.out (fun _ _ f => f))
      have HTR := hide (HT.out.reads.touch HT4.out (fun _ _ f => f))
      simp only at HSL HTL HSR HTR
      have HBM4 := hide (HBM.out.touch HT24.out (fun f => f))
      clear HBM HST HST2 HZ HZ2 HBS HBT HD HD2 HT2 HT24 HW2 HW4 HS HT
      go_loopw [9, 10] (fun bv iv wr => ∃ (b : Bool) (i : Nat), bv = .bool b ∧ iv = .int .i64 i ∧ i ≤ sn ∧ Hid (sameT sn tn sL tL i b) ∧ Hid (Touch (fun _ => False) w4 wr)) (fun _ iv _ => sn - (intOf iv).toNat)
      case atStart => exact ⟨((sn : Int) == (tn : Int)), 0, rfl, rfl, Nat.zero_le _, hide (by simp [sameT]; omega), hide (Touch.refl _ _)⟩
      case round =>
        obtain ⟨b, i, rfl, rfl, hi, HSM, HTT⟩ := hrel
        obtain ⟨kb, hkb⟩ : ∃ kb : ByteArray, kb = ⟨(packB (mach sL).base (mach sL).states).toArray⟩ := ⟨_, rfl⟩
        obtain ⟨kc, hkc⟩ : ∃ kc : ByteArray, kc = ⟨(packB (mach tL).base (mach tL).states).toArray⟩ := ⟨_, rfl⟩
        have hkk : kb.toList = kc.toList ↔ sL = tL := by
          rw [hkb, hkc, toList_mk, toList_mk]
          exact HIF.out
        have hcase : (b = true ∧ i < sn ∧ sn = tn ∧ sL.take i = tL.take i) ∨ (b = false ∧ (kb.toList == kc.toList) = false) ∨ (b = true ∧ ¬ (i : Int) < (sn : Int) ∧ (kb.toList == kc.toList) = true) := by
          have h := HSM.out
          unfold sameT at h
          cases b with
          | false =>
            refine .inr (.inl ⟨rfl, ?_⟩)
            simp only [beq_eq_false_iff_ne, ne_eq]
            intro e
            have e2 := hkk.1 e
            have h2 := h.2 ⟨by rw [← HSL.out, ← HTL.out, e2], by rw [e2]⟩
            cases h2
          | true =>
            obtain ⟨h1, h2⟩ := h.1 rfl
            by_cases hin : i < sn
            · exact .inl ⟨rfl, hin, h1, h2⟩
            · refine .inr (.inr ⟨rfl, by omega, ?_⟩)
              rw [List.take_of_length_le (by rw [HSL.out]; omega), List.take_of_length_le (by rw [HTL.out]; omega)] at h2
              simp only [beq_iff_eq]
              exact hkk.2 h2
        have HKB := hide hkb
        have HKC := hide hkc
        clear hkk hkb hkc HIF HSM
        rcases hcase with ⟨rfl, hin, hst, htk⟩ | ⟨rfl, kq⟩ | ⟨rfl, kn, kq⟩
        · have y3 : (i : Int) < (tn : Int) := by omega
          have y1 : (i : Int) < (sn : Int) := by omega
          have y2 : (0 : Int) ≤ (i : Int) := by omega
          have z2 : IntKind.i64.wrap ((i : Int) + 1) = (i : Int) + 1 := IntWalk.i64_in _ (by omega)
          obtain ⟨g, o, hA, hg, c1, c2⟩ := preads_at (HSR.out.touch HTT.out (fun _ _ f => f)) HSL.out.symm i hin
          obtain ⟨g2, o2, hA2, hg2, d1, d2⟩ := preads_at (HTR.out.touch HTT.out (fun _ _ f => f)) HTL.out.symm i (by omega)
          subst hA
          subst hA2
          have hsx := psnoc sL i (by rw [HSL.out]; exact hin)
          have hsy := psnoc tL i (by rw [HTL.out]; omega)
          obtain ⟨⟨xw, xn⟩, hz⟩ : ∃ z, sL.getD i PRow.zero = z := ⟨_, rfl⟩
          obtain ⟨⟨yw, yn⟩, hz2⟩ : ∃ z, tL.getD i PRow.zero = z := ⟨_, rfl⟩
          rw [hz] at c1 c2 hsx
          rw [hz2] at d1 d2 hsy
          simp only at c1 c2 d1 d2 hsx hsy
          have HSX := hide hsx
          have HSY := hide hsy
          have HTK := hide htk
          have HIN := hide hin
          have hiff : ∀ v : Bool, (v = true ↔ (xw = yw ∧ xn = yn)) → sameT sn tn sL tL (i + 1) v := by
            intro v hv
            unfold sameT
            rw [hv, HSX.out, HSY.out, HTK.out]
            constructor
            · rintro ⟨rfl, rfl⟩
              exact ⟨hst, rfl⟩
            · rintro ⟨_, h⟩
              have h2 := List.append_cancel_left h
              simp only [List.cons.injEq, PRow.mk.injEq, and_true] at h2
              exact h2
          have HIFF := hide hiff
          clear hz hz2 hsx hsy htk hin hiff hi hst
          by_cases p1 : xw = yw
          · subst p1
            by_cases p2 : xn = yn
            · subst p2
              go_wp2_with fail
              go_quiet (fail)
              go_wp2_with fail
              go_roundw
              · exact ⟨true, i + 1, rfl, by simp, by have := HIN.out; omega, hide (HIFF.out _ (by simp)), hide (HTT.out.drewN _)⟩
              · have := HIN.out
                simp only [intOf]; omega
            · have p4 : (xn == yn) = false := by simp; exact p2
              go_wp2_with fail
              go_quiet (fail)
              go_wp2_with fail
              go_roundw
              · exact ⟨false, i + 1, rfl, by simp, by have := HIN.out; omega, hide (HIFF.out _ (by simp; exact p2)), hide (HTT.out.drewN _)⟩
              · have := HIN.out
                simp only [intOf]; omega
          · have p3 : ¬ xw.toList = yw.toList := fun h => p1 (toList_inj h)
            have p4 : (xw.toList == yw.toList) = false := by simp [p3]
            go_wp2_with fail
            go_quiet (fail)
            go_wp2_with fail
            go_roundw
            · exact ⟨false, i + 1, rfl, by simp, by have := HIN.out; omega, hide (HIFF.out _ (by simp; intro h; exact absurd h p1)), hide (HTT.out.drewN _)⟩
            · have := HIN.out
              simp only [intOf]; omega
        all_goals
          clear hi
          obtain ⟨m0, m1, m2⟩ := (HBM4.out.touch HTT.out (fun f => f)).facts
          go_wp2_with fail
          refine (HP1.out _ HTT.out).mono ?_
          rintro e w5 ⟨A5, q5, c5, rfl, hx5⟩
          obtain ⟨n0, n1, n2⟩ := (HBN.out.touch (HTT.out.then hx5.touch) (fun f => f)).facts
          have HX5 := hide hx5
          have HT5 := hide (HTT.out.then hx5.touch)
          clear hx5
          go_wp2_with fail
          refine (HP2.out _ HT5.out).mono ?_
          rintro e w6 ⟨A6, q6, c6, rfl, hx6⟩
          have HT6 := hide (HT4.out.then (HT5.out.then hx6.touch))
          have HX6 := hide hx6
          have HX56 := hide (own_touch HX5.out.own hx6.touch (fun _ _ f => f))
          clear hx6
          go_wp2_with fail
          refine (alive8_any w6 (Lst.touch HL.out HT6.out)).mono ?_
          rintro e w7 ⟨rfl, T7⟩
          obtain ⟨_, hcv5⟩ := conv_bytes w7 A5 q5 c5 _ (own_touch HX56.out T7 (fun _ _ f => f)) (packB_pos _ _)
          obtain ⟨_, hcv6⟩ := conv_bytes w7 A6 q6 c6 _ (own_touch HX6.out.own T7 (fun _ _ f => f)) (packB_pos _ _)
          rw [← HKB.out] at hcv5
          rw [← HKC.out] at hcv6
          have HT7 := hide (HT6.out.then T7)
          clear T7
          go_wp2_with fail
          go_ret
          exact ⟨rfl, HT7.out.below (Nat.le_refl _) (fun _ _ f => f)⟩

end Go.Proofs.YtcmjohaohdgnjaaDoor
