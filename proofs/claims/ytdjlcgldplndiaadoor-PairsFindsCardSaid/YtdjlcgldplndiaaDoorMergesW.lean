/- PairsMerges, PairsNorm, PairsTwice: the walks. -/
import Derived.Test.YtdjlcgldplndiaaDoorAliveQ
import Derived.Test.YtdjlcgldplndiaaDoorRef06B
namespace Go.Proofs.YtdjlcgldplndiaaDoor
open Go.RowKit

set_option maxRecDepth 100000 in
set_option maxHeartbeats 1000000 in
theorem merges_walk (W : World) (s t : SL) (hs : s.Ok W) (ht : t.Ok W) (hsum : s.n + t.n ≤ 5864062014700) (hWs : ∀ r ∈ s.L, r.Wf) (hWt : ∀ r ∈ t.L, r.Wf) :
    Calls Tryd.prog 4 #[s.val, t.val] W fun e W' => e = .returned (.bool true) ∧ Below W.heap.size W W' := by
  have HS := hide hs
  have HT := hide ht
  have HWS := hide hWs
  have HWT := hide hWt
  have HSU := hide hsum
  obtain ⟨sA, sn, sc, sL⟩ := s
  obtain ⟨tA, tn, tc, tL⟩ := t
  clear hs ht hWs hWt hsum
  simp only [SL.val]
  go_enter Tryd.func4, Tryd.ntmps4
  go_wp2_with fail
  refine (alive_any W).mono ?_
  rintro e w1 ⟨rfl, T1⟩
  have H1 := hide T1
  clear T1
  go_wp2_with fail
  refine (pmerge_any w1 _ _ (HS.out.touch H1.out) (HT.out.touch H1.out) HSU.out).mono ?_
  rintro e w2 ⟨A, n, c, Y, rfl, O2, N2, T2, _, _, _⟩
  have HO := hide O2
  have HN := hide N2
  have H2 := hide (H1.out.then T2)
  clear O2 N2 T2
  go_wp2_with fail
  refine (rmerge_any w2 _ _ (HS.out.touch H2.out) (HT.out.touch H2.out) HSU.out HWS.out HWT.out).mono ?_
  rintro e w3 ⟨A', q, c', Y', rfl, N3, nr3⟩
  have hY : Y' = Y := nr3.unique HN.out
  subst hY
  have hl : n = q := (pown_len HO.out).trans N3.len
  subst hl
  have HN3 := hide N3
  have H3 := hide (H2.out.then N3.touch)
  have HO3 := hide (own_touch HO.out N3.touch (fun _ _ f => f))
  clear N3 nr3
  go_wp2_with fail
  refine (psame_yes w3 A n c _ (pown_len HO3.out).symm (Reads.of_own HO3.out) (own_le HO3.out) A' c' (Reads.of_own HN3.out.own)).mono ?_
  rintro e w4 ⟨rfl, T4⟩
  have H4 := hide (H3.out.then T4)
  clear T4
  go_wp2
  go_ret
  exact ⟨rfl, H4.out.below (Nat.le_refl _) (fun _ _ f => f)⟩

set_option maxRecDepth 100000 in
set_option maxHeartbeats 1000000 in
theorem norm_walk (W : World) (s : SL) (hs : s.Ok W) (hsum : s.n ≤ 5864062014700) (hWs : ∀ r ∈ s.L, r.Wf) :
    Calls Tryd.prog 7 #[s.val] W fun e W' => e = .returned (.bool true) ∧ Below W.heap.size W W' := by
  have HS := hide hs
  have HWS := hide hWs
  have HSU := hide hsum
  obtain ⟨sA, sn, sc, sL⟩ := s
  clear hs hWs hsum
  simp only [SL.val]
  go_enter Tryd.func7, Tryd.ntmps7
  go_wp2_with fail
  refine (pnorm_any W _ HS.out HSU.out).mono ?_
  rintro e w1 ⟨A, n, c, Y, rfl, O1, N1, T1, h1, h2, _⟩
  have HO1 := hide O1
  have HN1 := hide N1
  have H1 := hide T1
  have HH := hide (And.intro h1 h2)
  clear O1 N1 T1 h1 h2
  go_wp2_with fail
  refine (alive_any w1).mono ?_
  rintro e w2 ⟨rfl, T2⟩
  have H2 := hide (H1.out.then T2)
  have HO2 := hide (own_touch HO1.out T2 (fun _ _ f => f))
  clear T2
  go_wp2_with fail
  refine (rnorm_any w2 sA sn sc sL HS.out.len (HS.out.touch H2.out).reads HSU.out HWS.out).mono ?_
  rintro e w3 ⟨A', q, c', Y', rfl, N3, nr3, _⟩
  have hY : Y' = Y := nr3.unique HN1.out
  subst hY
  have hl : n = q := (pown_len HO2.out).trans N3.len
  subst hl
  have HN3 := hide N3
  have H3 := hide (H2.out.then N3.touch)
  have HO3 := hide (own_touch HO2.out N3.touch (fun _ _ f => f))
  clear N3 nr3
  go_wp2_with fail
  refine (psame_yes w3 A n c _ (pown_len HO3.out).symm (Reads.of_own HO3.out) (own_le HO3.out) A' c' (Reads.of_own HN3.out.own)).mono ?_
  rintro e w4 ⟨rfl, T4⟩
  have H4 := hide (H3.out.then T4)
  have HO4 := hide (own_touch HO3.out T4 (fun _ _ f => f))
  clear T4
  have hok : SL.Ok ⟨A, n, c, Y'⟩ w4 := ⟨(pown_len HO4.out).symm, Reads.of_own HO4.out, HH.out.2⟩
  have HPN := hide (pnorm_any w4 ⟨A, n, c, Y'⟩ hok (by have := HH.out.1; have := HSU.out; simp only at *; omega))
  clear hok
  simp only [SL.val] at HPN
  go_wp2_with fail
  refine HPN.out.mono ?_
  rintro e w5 ⟨A5, n5, c5, Y5, rfl, O5, N5, T5, _, _, _⟩
  have hY : Y5 = Y' := N5.unique (Nrm.self HN1.out.1)
  subst hY
  have hl : n5 = n := (pown_len O5).trans (pown_len HO4.out).symm
  subst hl
  have HO5 := hide O5
  have H5 := hide (H4.out.then T5)
  have HO6 := hide (own_touch HO4.out T5 (fun _ _ f => f))
  clear O5 N5 T5 HPN
  go_wp2_with fail
  refine (psame_yes w5 A5 n5 c5 _ (pown_len HO5.out).symm (Reads.of_own HO5.out) (own_le HO5.out) A c (Reads.of_own HO6.out)).mono ?_
  rintro e w6 ⟨rfl, T6⟩
  have H6 := hide (H5.out.then T6)
  clear T6
  go_wp2
  go_ret
  exact ⟨rfl, H6.out.below (Nat.le_refl _) (fun _ _ f => f)⟩

theorem key_filter (k : List UInt8) (Y : List PRow) : key k (Y.filter keepP) = (key k Y).filter keepP := by
  unfold key
  rw [List.filter_filter, List.filter_filter]
  congr 1
  funext p
  exact Bool.and_comm _ _
theorem last_keep (l : List PRow) : ((l.getLast?.toList).filter keepP).getLast?.toList = l.getLast?.toList.filter keepP := by
  cases l.getLast? with
  | none => rfl
  | some p =>
    by_cases h : keepP p = true
    · simp [h]
    · simp [h]

/-- Changes laid over one list behind the other are as good as both at once. -/
theorem twice_list {b o t Y1 Y2 Y3 : List PRow} (h1 : Nrm (b ++ o) Y1) (h2 : Nrm (Y1.filter keepP ++ t) Y2) (h3 : Nrm (b ++ (o ++ t)) Y3) : Y2.filter keepP = Y3.filter keepP := by
  refine strict_unique (h2.1.sublist List.filter_sublist) (h3.1.sublist List.filter_sublist) fun k => ?_
  rw [key_filter, key_filter, h2.2, h3.2, key_app k (Y1.filter keepP) t, key_filter, h1.2, ← List.append_assoc, key_app k (b ++ o) t]
  by_cases ht : key k t = []
  · rw [ht, List.append_nil, List.append_nil, last_keep, List.filter_filter]
    congr 1
    funext p
    exact Bool.and_self _
  · have e : ∀ l : List PRow, (l ++ key k t).getLast? = (key k t).getLast? := fun l => by
      rw [List.getLast?_append]
      cases hk : (key k t).getLast? with
      | none => exact absurd (List.getLast?_eq_none_iff.1 hk) ht
      | some p => rfl
    rw [e, e]

set_option maxRecDepth 100000 in
set_option maxHeartbeats 1000000 in
theorem twice_walk (W : World) (b s t : SL) (hb : b.Ok W) (hs : s.Ok W) (ht : t.Ok W) (hsum : b.n + s.n + t.n ≤ 5864062014700) :
    Calls Tryd.prog 5 #[b.val, s.val, t.val] W fun e W' => e = .returned (.bool true) ∧ Below W.heap.size W W' := by
  obtain ⟨i0, hi, hz0, hz1, hz2⟩ := info_parts infoPair
  obtain ⟨wa, hwa⟩ : ∃ wa, wa = W.alloc (.cells #[] 29) := ⟨_, rfl⟩
  obtain ⟨g, hg⟩ : ∃ g, g = W.heap.size := ⟨_, rfl⟩
  have ta : Touch (fun _ => False) W wa := by rw [hwa]; exact (Touch.refl _ _).alloc _
  have oa : wa.ownsRow 0 29 2 (.slice (some ⟨g, 0, none⟩) 0 0) 0 [] := by
    rw [hwa, hg]
    exact ⟨rfl, .inr ⟨W.heap.size, 0, #[], rfl, Nat.zero_le _, Blk.new _ _ _, Nat.le_refl _, by simp [maxLen], rfl, rfl⟩⟩
  have HTA := hide ta
  have HOA := hide oa
  have HWA := hide hwa
  have HG := hide hg
  have HB := hide hb
  have HS := hide hs
  have HT := hide ht
  clear ta oa hwa hg hb hs ht
  obtain ⟨bA, bn, bc, bL⟩ := b
  obtain ⟨sA, sn, sc, sL⟩ := s
  obtain ⟨tA, tn, tc, tL⟩ := t
  simp only at hsum
  simp only [SL.val]
  go_enter Tryd.func5, Tryd.ntmps5
  go_wp2_with (at_builtin; rw [← HWA.out, ← HG.out]; refine wpList_app _ rfl (.tmp 8) (.tmp 9) 22 rfl 29 i0 _ 2 24 Tryd.underlying22 hi hz0 hz1 hz2 rfl (by decide) (.slice (some ⟨g, 0, none⟩) 0 0) 0 _ rfl HOA.out sA sn sc (pCells sL) rfl (HS.out.reads.touch HTA.out (fun _ _ f => f)) ?s1 ?s2 ?s3 ?s4 ?_)
  case s1 => exact HS.out.nil
  case s2 => exact onecell_pairs sL
  case s3 => unfold maxLen; omega
  case s4 => omega
  intro v1 w1 O1 G1 F1 i1
  have T1 := HTA.out.app G1 (fun b hb hlt => by simp [Value.ownBlock] at hb; have := HG.out; omega)
  have hf1 : ∀ b, v1.ownBlock = some b → W.heap.size ≤ b := by
    intro b hb
    rcases F1 with e | ⟨g', e, hg'⟩
    · rw [hb] at e
      simp [Value.ownBlock] at e
      have := HG.out
      omega
    · rw [hb] at e
      injection e with e
      have := HTA.out.size
      omega
  obtain ⟨A1, c1, rfl, _, hm1⟩ := own_len O1
  unfold maxLen at hm1
  have HO1 := hide O1
  have HT1 := hide T1
  have HF1 := hide hf1
  clear O1 T1 hf1 G1 F1 i1
  go_wp2_with (at_builtin; refine wpList_app _ rfl (.tmp 10) (.tmp 11) 22 rfl 29 i0 _ 2 24 Tryd.underlying22 hi hz0 hz1 hz2 rfl (by decide) (.slice A1 sn c1) sn _ rfl HO1.out tA tn tc (pCells tL) rfl (HT.out.reads.touch HT1.out (fun _ _ f => f)) ?s5 ?s6 ?s7 ?s8 ?_)
  case s5 => exact HT.out.nil
  case s6 => exact onecell_pairs tL
  case s7 => unfold maxLen; omega
  case s8 => omega
  intro v2 w2 O2 G2 F2 i2
  have T2 := HT1.out.app G2 (fun b hb hlt => by have := HF1.out b hb; omega)
  obtain ⟨A2, c2, rfl, _, hm2⟩ := own_len O2
  obtain ⟨N, hN⟩ : ∃ N, N = sn + tn := ⟨_, rfl⟩
  have e2 : pCells sL ++ pCells tL = pCells (sL ++ tL) := (pCells_app sL tL).symm
  have O2' : POwn w2 A2 (sn + tn) c2 (sL ++ tL) := by unfold POwn; rw [← e2]; exact O2
  rw [← hN] at O2' ⊢
  have hnil : A2 = none → N = 0 ∧ c2 = 0 := by
    rintro rfl
    rcases O2'.2 with ⟨e, _⟩ | ⟨g, cap, cur, e, _⟩
    · injection e with _ e1 e2
      exact ⟨e1, e2⟩
    · cases e
  have HOK : Hid (SL.Ok ⟨A2, N, c2, sL ++ tL⟩ w2) := hide ⟨(pown_len O2').symm, Reads.of_own O2', hnil⟩
  have H2 := hide T2
  have hN2 : bn + N ≤ 5864062014700 := by omega
  have hN3 : bn + sn ≤ 5864062014700 := by omega
  have HNN := hide hN
  clear O2 O2' T2 G2 F2 i2 e2 hnil hN hm2 hm1
  go_wp2_with fail
  refine (alive_any w2).mono ?_
  rintro e w3 ⟨rfl, T3⟩
  have H3 := hide (H2.out.then T3)
  have HOK3 := hide (HOK.out.touch T3)
  clear T3
  go_wp2_with fail
  refine (pmerge_any w3 _ _ (HB.out.touch H3.out) (HS.out.touch H3.out) hN3).mono ?_
  rintro e w4 ⟨A4, n4, c4, Y1, rfl, O4, N4, T4, h4, k4, _⟩
  have hok4 : SL.Ok ⟨A4, n4, c4, Y1.filter keepP⟩ w4 := ⟨(pown_len O4).symm, Reads.of_own O4, k4⟩
  have hb4 : n4 + tn ≤ 5864062014700 := by simp only at h4; omega
  have H4 := hide (H3.out.then T4)
  have HOK4 := hide (HOK3.out.touch T4)
  have HN4 := hide N4
  have HPM := hide (pmerge_any w4 ⟨A4, n4, c4, Y1.filter keepP⟩ ⟨tA, tn, tc, tL⟩ hok4 (HT.out.touch H4.out) hb4)
  simp only [SL.val] at HPM
  clear O4 N4 T4 h4 k4 hok4 hb4
  go_wp2_with fail
  refine HPM.out.mono ?_
  rintro e w5 ⟨A5, n5, c5, Y2, rfl, O5, N5, T5, _, _, _⟩
  have H5 := hide (H4.out.then T5)
  have HOK5 := hide (HOK4.out.touch T5)
  have HO5 := hide O5
  have HN5 := hide N5
  clear O5 N5 T5 HPM
  go_wp2_with fail
  refine (pmerge_any w5 ⟨bA, bn, bc, bL⟩ ⟨A2, N, c2, sL ++ tL⟩ (HB.out.touch H5.out) HOK5.out hN2).mono ?_
  rintro e w6 ⟨A6, n6, c6, Y3, rfl, O6, N6, T6, _, _, _⟩
  have hY := twice_list HN4.out HN5.out N6
  rw [← hY] at O6
  have hl : n6 = n5 := (pown_len O6).trans (pown_len HO5.out).symm
  subst hl
  have H6 := hide (H5.out.then T6)
  have HO6 := hide O6
  have HO56 := hide (own_touch HO5.out T6 (fun _ _ f => f))
  clear O6 N6 T6 hY
  go_wp2_with fail
  refine (psame_yes w6 A5 n6 c5 _ (pown_len HO56.out).symm (Reads.of_own HO56.out) (own_le HO56.out) A6 c6 (Reads.of_own HO6.out)).mono ?_
  rintro e w7 ⟨rfl, T7⟩
  have H7 := hide (H6.out.then T7)
  clear T7
  go_wp2
  go_ret
  exact ⟨rfl, H7.out.below (Nat.le_refl _) (fun _ _ f => f)⟩

end Go.Proofs.YtdjlcgldplndiaaDoor
