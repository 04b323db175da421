/- WalkRanks: the walk. Condition: the text is no longer than any text. -/
import Derived.Test.YtnakpadjlamdeaaDoorWFindsW
namespace Go.Proofs.YtnakpadjlamdeaaDoor
open Go.RowKit

theorem rank_found {L : List PRow} (hD : DictP L) {s : ByteArray} (h : (findP s.toList L).2 = true) : ∃ n, atP L (rankP s.toList L : Nat) = (⟨s, n⟩, true) := by
  have hex : ∃ p ∈ L, p.word.toList = s.toList := by
    refine Classical.byContradiction fun hno => ?_
    rw [key_none fun p hp e => hno ⟨p, hp, e⟩] at h
    cases h
  obtain ⟨p, hp, e⟩ := hex
  obtain ⟨j, hj, rfl⟩ := List.mem_iff_getElem.1 hp
  have hg : L.getD j PRow.zero = L[j] := by simp [List.getD, hj]
  have hr : rankP s.toList L = j := by
    refine takeWhile_len _ PRow.zero L j (Nat.le_of_lt hj) (fun i hi => ?_) (fun _ => ?_)
    · rw [← e, ← hg]
      exact dict_less hD hi hj
    · rw [hg, e]
      exact bl_irrefl _
  refine ⟨L[j].weight, ?_⟩
  rw [hr]
  unfold atP
  rw [if_pos (by omega)]
  have hw : L[j].word = s := toList_inj e
  rw [show ((j : Nat) : Int).toNat = j by omega, hg, ← hw]

set_option maxRecDepth 100000 in
set_option maxHeartbeats 8000000 in
theorem wranks_walk (W : World) (hL : Lst W) (s : SL) (hs : s.Ok W) (hn : s.n ≤ maxLen) (hWf : ∀ r ∈ s.L, r.Wf) (k : ByteArray) (hk : k.size ≤ 9223372036854775807) :
    Calls Tryd.prog 5 #[s.val, .string k] W fun e W' => e = .returned (.bool true) ∧ Below W.heap.size W W' := by
  have HS := hide hs
  have HN := hide hn
  have HL := hide hL
  have HWf := hide hWf
  have HK := hide hk
  have HON := hide (on_any W hL s hs hWf hn)
  obtain ⟨sA, sn, sc, sL⟩ := s
  clear hs hn hL hWf hk
  simp only [SL.val] at HON ⊢
  go_enter Tryd.func5, Tryd.ntmps5
  go_wp2_with fail
  refine HON.out.mono ?_
  rintro e w1 ⟨hon, T1⟩
  have HT1 := hide T1
  clear HON
  rcases hon with ⟨_, rfl⟩ | ⟨ho, hD, b, n, A, c, Z, wA, wc, rfl, hdw⟩
  · clear T1
    go_wp2_with fail
    refine (alive9_any w1 (Lst.touch HL.out HT1.out)).mono ?_
    rintro e w2 ⟨rfl, T2⟩
    have HT2 := hide (HT1.out.then T2)
    clear T2
    go_wp2_with fail
    go_ret
    exact ⟨by simp, HT2.out.below (Nat.le_refl _) (fun _ _ f => f)⟩
  · have HD := hide hD
    have HDW := hide hdw
    have hsn : sL.length = sn := HS.out.len
    have HSN := hide hsn
    have hn4 : (sn : Int) ≤ 4096 := by have := hD.len; omega
    clear T1 ho hD hdw hsn
    go_wp2_with fail
    go_loopw [7] (fun jv wr => ∃ (j : Nat), jv = .int .i64 j ∧ j ≤ sn ∧ Hid (∀ m, m < j → Op.bytesLess (sL.getD m PRow.zero).word.toList k.toList = true) ∧ Hid (Touch (fun _ => False) w1 wr)) (fun jv _ => sn - (intOf jv).toNat)
    case atStart => exact ⟨0, rfl, by omega, hide (fun m hm => absurd hm (Nat.not_lt_zero _)), hide (Touch.refl _ _)⟩
    case round =>
      obtain ⟨j, rfl, hjn, HP, HT⟩ := hrel
      by_cases hj : j < sn
      · have y1 : (j : Int) < (sn : Int) := by omega
        have y2 : (0 : Int) ≤ (j : Int) := by omega
        have y3 : IntKind.i64.wrap ((j : Int) + 1) = (j : Int) + 1 := IntWalk.i64_in _ (by omega)
        obtain ⟨sg, so, hA, hsg, c0, c1⟩ := preads_at (HS.out.touch (HT1.out.then HT.out)).reads HS.out.len.symm j hj
        simp only at hA
        subst hA
        have hwf := HWf.out _ (getD_mem sL PRow.zero j (by rw [HSN.out]; exact hj))
        obtain ⟨p, hp⟩ : ∃ p, sL.getD j PRow.zero = p := ⟨_, rfl⟩
        rw [hp] at c0 c1 hwf
        obtain ⟨pw, pn⟩ := p
        simp only at c0 c1
        obtain ⟨v, hv⟩ : ∃ v, Op.bytesLess pw.toList k.toList = v := ⟨_, rfl⟩
        have HAH := hide (rahead_is pw k v hv hwf HK.out wr)
        have HPJ := hide hp
        have HV := hide hv
        clear hwf hp hv
        cases v with
        | true =>
          go_wp2_with fail
          refine HAH.out.mono ?_
          rintro e w2 ⟨rfl, T2⟩
          have HT2 := hide (HT.out.then T2)
          clear T2 HAH
          go_wp2_with fail
          go_roundw
          · refine ⟨j + 1, by simp, by omega, hide (fun m hm => ?_), HT2⟩
            rcases Nat.lt_or_ge m j with h | h
            · exact HP.out m h
            · have : m = j := by omega
              subst this
              rw [HPJ.out]
              exact HV.out
          · simp only [intOf]; omega
        | false =>
          have hr : j = rankP k.toList sL := (takeWhile_len _ PRow.zero sL j (by rw [HSN.out]; exact hjn) HP.out (fun _ => by rw [HPJ.out]; exact HV.out)).symm
          have HR := hide hr
          clear hr
          go_wp2_with fail
          refine HAH.out.mono ?_
          rintro e w2 ⟨rfl, T2⟩
          have HT2 := hide (HT.out.then T2)
          clear T2 HAH c0 c1 y1 y3
          have hjI : (j : Int) ≤ 4096 := by omega
          obtain ⟨⟨⟨qw, qn⟩, qb⟩, hq⟩ : ∃ x, x = atP sL (j : Int) := ⟨_, rfl⟩
          have hrk := drank_any (HDW.out.quiet HT2.out) HD.out (Lst.touch HL.out (HT1.out.then HT2.out)) k
          rw [← HR.out] at hrk
          have HRK := hide hrk
          have HQ := hide hq
          clear hrk hq
          go_wp2_with fail
          refine HRK.out.mono ?_
          rintro e w4 ⟨rfl, T4⟩
          have HT4 := hide (HT2.out.then T4)
          clear T4 HRK
          have hat := dat_any (HDW.out.quiet HT4.out) HD.out (Lst.touch HL.out (HT1.out.then HT4.out)) (j : Int)
          rw [← HQ.out] at hat
          simp only at hat
          have HAT := hide hat
          clear hat
          go_wp2_with fail
          refine HAT.out.mono ?_
          rintro e w5 ⟨rfl, T5⟩
          obtain ⟨w6, hw6⟩ : ∃ x, x = w5.alloc (.cells #[.string qw, .int .i64 qn] 32) := ⟨_, rfl⟩
          obtain ⟨P, hP⟩ : ∃ P, P = w5.heap.size := ⟨_, rfl⟩
          have hb6 : Blk w6 P 32 #[.string qw, .int .i64 qn] := by rw [hw6, hP]; exact Blk.new _ _ _
          have hT6 : Touch (fun _ => False) w1 w6 := by rw [hw6]; exact (HT4.out.then T5).alloc _
          have HW6 := hide hw6
          have HPP := hide hP
          have HB6 := hide hb6
          have HT6 := hide hT6
          clear hw6 hP hb6 hT6 T5 HAT
          go_wp2_with fail
          rw [← HW6.out, ← HPP.out]
          obtain ⟨⟨x, t⟩, hx⟩ : ∃ x, x = findP k.toList sL := ⟨_, rfl⟩
          refine (rfind_any w6 _ sn sc sL HS.out.len (HS.out.touch (HT1.out.then HT6.out)).reads HN.out k).mono ?_
          rintro e w7 ⟨rfl, T7⟩
          rw [← hx]
          have HT7 := hide (HT6.out.then T7)
          have HB7 := hide (HB6.out.touch T7 (fun f => f))
          have HX := hide hx
          clear T7 hx
          go_wp2_with fail
          refine (alive9_any w7 (Lst.touch HL.out (HT1.out.then HT7.out))).mono ?_
          rintro e w8 ⟨rfl, T8⟩
          have HT8 := hide (HT7.out.then T8)
          have HB8 := hide (HB7.out.touch T8 (fun f => f))
          clear T8
          have hrk := drank_any (HDW.out.quiet HT8.out) HD.out (Lst.touch HL.out (HT1.out.then HT8.out)) k
          rw [← HR.out] at hrk
          have HRK := hide hrk
          clear hrk
          go_wp2_with fail
          refine HRK.out.mono ?_
          rintro e w9 ⟨rfl, T9⟩
          have HT9 := hide (HT8.out.then T9)
          have hb9 := HB8.out.touch T9 (fun f => f)
          obtain ⟨p1, p2, p3⟩ := hb9.facts
          clear T9 HRK hb9
          cases t with
          | true =>
            obtain ⟨m, hm⟩ := rank_found HD.out (s := k) (by rw [← HX.out])
            rw [← HR.out, ← HQ.out] at hm
            simp only [Prod.mk.injEq, PRow.mk.injEq] at hm
            obtain ⟨⟨hqw, _⟩, rfl⟩ := hm
            have q2 : (qw.toList == k.toList) = true := by rw [hqw]; simp
            clear hqw
            go_wp2_with fail
            go_ret
            exact ⟨by simp, (HT1.out.then HT9.out).below (Nat.le_refl _) (fun _ _ f => f)⟩
          | false =>
            go_wp2_with fail
            go_ret
            exact ⟨by simp, (HT1.out.then HT9.out).below (Nat.le_refl _) (fun _ _ f => f)⟩
      · have hje : j = sn := by omega
        have hr : j = rankP k.toList sL := (takeWhile_len _ PRow.zero sL j (by rw [HSN.out]; exact hjn) HP.out (fun h => absurd h (by rw [HSN.out]; omega))).symm
        have HR := hide hr
        have HT2 := HT
        subst hje
        have y1 : ¬ (j : Int) < (j : Int) := by omega
        have hjI : (j : Int) ≤ 4096 := by omega
        obtain ⟨w2, hw2⟩ : ∃ x, x = wr := ⟨_, rfl⟩
        subst hw2
        clear hr
        obtain ⟨⟨⟨qw, qn⟩, qb⟩, hq⟩ : ∃ x, x = atP sL (j : Int) := ⟨_, rfl⟩
        have hrk := drank_any (HDW.out.quiet HT2.out) HD.out (Lst.touch HL.out (HT1.out.then HT2.out)) k
        rw [← HR.out] at hrk
        have HRK := hide hrk
        have HQ := hide hq
        clear hrk hq
        go_wp2_with fail
        refine HRK.out.mono ?_
        rintro e w4 ⟨rfl, T4⟩
        have HT4 := hide (HT2.out.then T4)
        clear T4 HRK
        have hat := dat_any (HDW.out.quiet HT4.out) HD.out (Lst.touch HL.out (HT1.out.then HT4.out)) (j : Int)
        rw [← HQ.out] at hat
        simp only at hat
        have HAT := hide hat
        clear hat
        go_wp2_with fail
        refine HAT.out.mono ?_
        rintro e w5 ⟨rfl, T5⟩
        obtain ⟨w6, hw6⟩ : ∃ x, x = w5.alloc (.cells #[.string qw, .int .i64 qn] 32) := ⟨_, rfl⟩
        obtain ⟨P, hP⟩ : ∃ P, P = w5.heap.size := ⟨_, rfl⟩
        have hb6 : Blk w6 P 32 #[.string qw, .int .i64 qn] := by rw [hw6, hP]; exact Blk.new _ _ _
        have hT6 : Touch (fun _ => False) w1 w6 := by rw [hw6]; exact (HT4.out.then T5).alloc _
        have HW6 := hide hw6
        have HPP := hide hP
        have HB6 := hide hb6
        have HT6 := hide hT6
        clear hw6 hP hb6 hT6 T5 HAT
        go_wp2_with fail
        rw [← HW6.out, ← HPP.out]
        obtain ⟨⟨x, t⟩, hx⟩ : ∃ x, x = findP k.toList sL := ⟨_, rfl⟩
        refine (rfind_any w6 _ j sc sL HS.out.len (HS.out.touch (HT1.out.then HT6.out)).reads HN.out k).mono ?_
        rintro e w7 ⟨rfl, T7⟩
        rw [← hx]
        have HT7 := hide (HT6.out.then T7)
        have HB7 := hide (HB6.out.touch T7 (fun f => f))
        have HX := hide hx
        clear T7 hx
        go_wp2_with fail
        refine (alive9_any w7 (Lst.touch HL.out (HT1.out.then HT7.out))).mono ?_
        rintro e w8 ⟨rfl, T8⟩
        have HT8 := hide (HT7.out.then T8)
        have HB8 := hide (HB7.out.touch T8 (fun f => f))
        clear T8
        have hrk := drank_any (HDW.out.quiet HT8.out) HD.out (Lst.touch HL.out (HT1.out.then HT8.out)) k
        rw [← HR.out] at hrk
        have HRK := hide hrk
        clear hrk
        go_wp2_with fail
        refine HRK.out.mono ?_
        rintro e w9 ⟨rfl, T9⟩
        have HT9 := hide (HT8.out.then T9)
        have hb9 := HB8.out.touch T9 (fun f => f)
        obtain ⟨p1, p2, p3⟩ := hb9.facts
        clear T9 HRK hb9
        cases t with
        | true =>
          obtain ⟨m, hm⟩ := rank_found HD.out (s := k) (by rw [← HX.out])
          rw [← HR.out, ← HQ.out] at hm
          simp only [Prod.mk.injEq, PRow.mk.injEq] at hm
          obtain ⟨⟨hqw, _⟩, rfl⟩ := hm
          have q2 : (qw.toList == k.toList) = true := by rw [hqw]; simp
          clear hqw
          go_wp2_with fail
          go_ret
          exact ⟨by simp, (HT1.out.then HT9.out).below (Nat.le_refl _) (fun _ _ f => f)⟩
        | false =>
          go_wp2_with fail
          go_ret
          exact ⟨by simp, (HT1.out.then HT9.out).below (Nat.le_refl _) (fun _ _ f => f)⟩

end Go.Proofs.YtnakpadjlamdeaaDoor
