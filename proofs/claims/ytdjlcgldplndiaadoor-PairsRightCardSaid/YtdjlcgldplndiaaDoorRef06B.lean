/- abecedaryref06: Norm, Merge. No condition but that there are no more than 2^40 pairs. -/
import Derived.Test.YtdjlcgldplndiaaDoorRef06
namespace Go.Proofs.YtdjlcgldplndiaaDoor
open Go.RowKit

theorem Nrm.nil : Nrm [] [] := ⟨List.Pairwise.nil, fun _ => rfl⟩
theorem Nrm.put {X O : List PRow} (h : Nrm X O) (p : PRow) : Nrm (X ++ [p]) (putF p false O) := by
  obtain ⟨h1, h2⟩ := putF_ok p O h.1
  refine ⟨h1, fun k => ?_⟩
  rw [h2, key_app]
  by_cases hk : p.word.toList = k
  · rw [if_pos hk]
    have e : key k [p] = [p] := by simp [key, hk]
    rw [e]; simp
  · rw [if_neg hk]
    have e : key k [p] = [] := by simp [key, hk]
    rw [e, List.append_nil]
    exact h.2 k
theorem Nrm.mem {X O : List PRow} (h : Nrm X O) {x : PRow} (hx : x ∈ O) : x ∈ X := by
  have h1 : x ∈ key x.word.toList O := by simp [key, hx]
  rw [h.2] at h1
  have h2 := List.mem_of_getLast? (by simpa using h1)
  exact (List.mem_filter.1 h2).1
theorem nodup_le {O : List PRow} (hn : O.Pairwise (fun a b => a ≠ b)) : ∀ {X : List PRow}, (∀ x ∈ O, x ∈ X) → O.length ≤ X.length := by
  induction O with
  | nil => intro X _; exact Nat.zero_le _
  | cons a O ih =>
    intro X h
    obtain ⟨h1, h2⟩ := List.pairwise_cons.1 hn
    obtain ⟨X1, X2, rfl⟩ := List.append_of_mem (h a (by simp))
    have := ih h2 (X := X1 ++ X2) (fun x hx => by
      rcases List.mem_append.1 (h x (by simp [hx])) with e | e
      · exact List.mem_append.2 (.inl e)
      · rcases List.mem_cons.1 e with e | e
        · exact absurd e.symm (h1 x hx)
        · exact List.mem_append.2 (.inr e))
    simp only [List.length_append, List.length_cons] at this ⊢
    omega
theorem Nrm.len {X O : List PRow} (h : Nrm X O) (k : Nat) (hX : X.length ≤ k) : O.length ≤ k :=
  Nat.le_trans (nodup_le (h.1.imp (fun {a b} hab e => by rw [e, plt_irrefl] at hab; cases hab)) (fun x hx => h.mem hx)) hX

theorem psnoc (L : List PRow) (i : Nat) (hi : i < L.length) : L.take (i + 1) = L.take i ++ [L.getD i PRow.zero] := by
  have e : L.getD i PRow.zero = L[i] := by simp [List.getD, hi]
  rw [List.take_succ_eq_append_getElem hi, e]
theorem pgetD_mem (O : List PRow) (k : Nat) (hk : k < O.length) : O.getD k PRow.zero ∈ O := by
  have e : O.getD k PRow.zero = O[k] := by simp [List.getD, hk]
  rw [e]; exact List.getElem_mem _

set_option maxRecDepth 100000 in
set_option maxHeartbeats 2000000 in
theorem rnorm_any (w : World) (A : Option Addr) (n c : Nat) (L : List PRow) (hL : L.length = n) (hR : Reads w 2 A n (pCells L)) (hn : n ≤ 5864062014700) (hW : ∀ r ∈ L, r.Wf) :
    Calls Tryd.prog 18 #[.slice A n c] w fun e w' => ∃ A' q c' O, e = .returned (.slice A' q c') ∧ PNx w w' (.slice A' q c') q O ∧ Nrm L O ∧ q ≤ n := by
  have HR := hide hR
  have HL := hide hL
  have HW := hide hW
  clear hR hL hW
  go_enter Tryd.func18, Tryd.ntmps18
  go_wp2
  go_loopw [3, 4] (fun ov iv wr => ∃ (i q : Nat) (A3 : Option Addr) (c3 : Nat), iv = .int .i64 i ∧ ov = .slice A3 q c3 ∧ i ≤ n ∧ q ≤ i ∧ Hid (∃ O, PNx w wr (.slice A3 q c3) q O ∧ Nrm (L.take i) O)) (fun _ iv _ => n - (intOf iv).toNat)
  case atStart => exact ⟨0, 0, none, 0, rfl, rfl, Nat.zero_le _, Nat.zero_le _, hide ⟨[], ⟨World.ownsRow_nil _ _ _ _, rfl, Touch.refl _ _, fun g e => by simp [Value.ownBlock] at e⟩, by simpa using Nrm.nil⟩⟩
  case round =>
    obtain ⟨i, q, A3, c3, rfl, rfl, hin', hqi, HE⟩ := hrel
    obtain ⟨O, hN, hO⟩ := HE.out
    have HN := hide hN
    have HO := hide hO
    clear hN hO HE
    by_cases hin : i < n
    · have y0 : (i : Int) < (n : Int) := by omega
      obtain ⟨gl, ol, hAl, _, l0, l1⟩ := preads_at (HR.out.touch HN.out.touch (fun _ _ f => f)) HL.out.symm i hin
      subst hAl
      have hsn := psnoc L i (by rw [HL.out]; exact hin)
      have hwx := HW.out _ (pgetD_mem L i (by rw [HL.out]; exact hin))
      obtain ⟨⟨xw, xn⟩, hx⟩ : ∃ x, x = L.getD i PRow.zero := ⟨_, rfl⟩
      rw [← hx] at l0 l1 hsn hwx
      simp only at l0 l1
      have HSN := hide hsn
      have HPU := hide (put_any wr A3 q c3 O HN.out.len (Reads.of_own HN.out.own) (by omega) (fun r hr => HW.out r (List.mem_of_mem_take (HO.out.mem hr))) ⟨xw, xn⟩ hwx)
      clear hsn hwx hx
      go_wp2_with fail
      refine HPU.out.mono ?_
      rintro e w2 ⟨A5, q5, c5, rfl, N5, h5⟩
      have HN5 := hide N5
      clear N5
      go_wp2_with fail
      go_roundw
      · have N5 := HN5.out
        have hno := HO.out.put ⟨xw, xn⟩
        rw [← HSN.out] at hno
        have hq5 : q5 ≤ i + 1 := by
          have h1 := hno.len (i + 1) (by rw [List.length_take]; omega)
          have h2 := N5.len
          omega
        exact ⟨i + 1, q5, A5, c5, by simp, rfl, by omega, hq5, hide ⟨_, ⟨N5.own, N5.len, HN.out.touch.then N5.touch, fun g hg => by have h1 := N5.fresh g hg; have h2 := HN.out.touch.size; omega⟩, hno⟩⟩
      · show n - (intOf (.int .i64 ((i : Int) + 1))).toNat < n - (intOf (.int .i64 (i : Int))).toNat
        simp [intOf]
        omega
    · have hX : L.take i = L := List.take_of_length_le (by rw [HL.out]; omega)
      have HXX := hide hX
      clear hX
      go_wp2
      go_ret
      have hO := HO.out
      rw [HXX.out] at hO
      exact ⟨A3, q, c3, O, rfl, HN.out, hO, by omega⟩

set_option maxRecDepth 100000 in
set_option maxHeartbeats 2000000 in
theorem rmerge_any (w : World) (s t : SL) (hs : s.Ok w) (ht : t.Ok w) (hsum : s.n + t.n ≤ 5864062014700) (hWs : ∀ r ∈ s.L, r.Wf) (hWt : ∀ r ∈ t.L, r.Wf) :
    Calls Tryd.prog 16 #[s.val, t.val] w fun e w' => ∃ A q c Y, e = .returned (.slice A q c) ∧ PNx w w' (.slice A q c) q (Y.filter keepP) ∧ Nrm (s.L ++ t.L) Y := by
  obtain ⟨i0, hi, hz0, hz1, hz2⟩ := info_parts infoPair
  obtain ⟨wa, hwa⟩ : ∃ wa, wa = w.alloc (.cells #[] 29) := ⟨_, rfl⟩
  obtain ⟨g, hg⟩ : ∃ g, g = w.heap.size := ⟨_, rfl⟩
  have ta : Touch (fun _ => False) w wa := by rw [hwa]; exact (Touch.refl _ _).alloc _
  have oa : wa.ownsRow 0 29 2 (.slice (some ⟨g, 0, none⟩) 0 0) 0 [] := by
    rw [hwa, hg]
    exact ⟨rfl, .inr ⟨w.heap.size, 0, #[], rfl, Nat.zero_le _, Blk.new _ _ _, Nat.le_refl _, by simp [maxLen], rfl, rfl⟩⟩
  have HTA := hide ta
  have HOA := hide oa
  have HWA := hide hwa
  have HG := hide hg
  have HS := hide hs
  have HT := hide ht
  have HWF : Hid (∀ r ∈ s.L ++ t.L, r.Wf) := hide (fun r hr => by rcases List.mem_append.1 hr with h | h; exact hWs r h; exact hWt r h)
  clear ta oa hwa hg hs ht hWs hWt
  obtain ⟨sA, sn, sc, sL⟩ := s
  obtain ⟨tA, tn, tc, tL⟩ := t
  simp only [SL.val]
  simp only at hsum HWF
  go_enter Tryd.func16, Tryd.ntmps16
  go_wp2_with (at_builtin; rw [← HWA.out, ← HG.out]; refine wpList_app _ rfl (.tmp 9) (.tmp 10) 22 rfl 29 i0 _ 2 24 Tryd.underlying22 hi hz0 hz1 hz2 rfl (by decide) (.slice (some ⟨g, 0, none⟩) 0 0) 0 _ rfl HOA.out sA sn sc (pCells sL) rfl (HS.out.reads.touch HTA.out (fun _ _ f => f)) ?s1 ?s2 ?s3 ?s4 ?_)
  case s1 => exact HS.out.nil
  case s2 => exact onecell_pairs sL
  case s3 => unfold maxLen; omega
  case s4 => omega
  intro v1 w1 O1 G1 F1 _
  have T1 := HTA.out.app G1 (fun b hb hlt => by simp [Value.ownBlock] at hb; have := HG.out; omega)
  have hf1 : ∀ b, v1.ownBlock = some b → w.heap.size ≤ b := by
    intro b hb
    rcases F1 with e | ⟨g', e, hg'⟩
    · rw [hb] at e
      simp [Value.ownBlock] at e
      have := HG.out
      omega
    · rw [hb] at e
      injection e with e
      have := HTA.out.size
      omega
  obtain ⟨A1, c1, rfl, _, hm1⟩ := own_len O1
  unfold maxLen at hm1
  have HO1 := hide O1
  have HT1 := hide T1
  have HF1 := hide hf1
  clear O1 T1 hf1 G1 F1
  go_wp2_with (at_builtin; refine wpList_app _ rfl (.tmp 12) (.tmp 13) 22 rfl 29 i0 _ 2 24 Tryd.underlying22 hi hz0 hz1 hz2 rfl (by decide) (.slice A1 sn c1) sn _ rfl HO1.out tA tn tc (pCells tL) rfl (HT.out.reads.touch HT1.out (fun _ _ f => f)) ?s5 ?s6 ?s7 ?s8 ?_)
  case s5 => exact HT.out.nil
  case s6 => exact onecell_pairs tL
  case s7 => unfold maxLen; omega
  case s8 => omega
  intro v2 w2 O2 G2 F2 _
  have T2 := HT1.out.app G2 (fun b hb hlt => by have := HF1.out b hb; omega)
  obtain ⟨A2, c2, rfl, _, hm2⟩ := own_len O2
  unfold maxLen at hm2
  have e2 : pCells sL ++ pCells tL = pCells (sL ++ tL) := (pCells_app sL tL).symm
  have O2' : w2.ownsRow 0 29 2 (.slice A2 (sn + tn) c2) (sn + tn) (pCells (sL ++ tL)) := by rw [← e2]; exact O2
  obtain ⟨N, hN⟩ : ∃ N, N = sn + tn := ⟨_, rfl⟩
  rw [← hN] at O2' hsum ⊢
  have HNO := hide (rnorm_any w2 A2 N c2 (sL ++ tL) (pown_len O2').symm (Reads.of_own O2') hsum HWF.out)
  have HT2 := hide T2
  clear O2 O2' T2 G2 F2 e2 hN
  go_wp2_with fail
  refine HNO.out.mono ?_
  rintro e w3 ⟨A3, q3, c3, Y, rfl, N3, nr3, hq3⟩
  have HN3 := hide N3
  have HNR := hide nr3
  have HT3 := hide (HT2.out.then N3.touch)
  have HYL := hide N3.len
  clear N3 nr3 HNO
  go_wp2_with fail
  go_loopw [7, 8] (fun ov iv wr => ∃ (i q : Nat) (A7 : Option Addr) (c7 : Nat), iv = .int .i64 i ∧ ov = .slice A7 q c7 ∧ i ≤ q3 ∧ q ≤ i ∧ Hid (PNx w3 wr (.slice A7 q c7) q ((Y.take i).filter keepP))) (fun _ iv _ => q3 - (intOf iv).toNat)
  case atStart => exact ⟨0, 0, none, 0, rfl, rfl, Nat.zero_le _, Nat.zero_le _, hide (by simpa using (⟨World.ownsRow_nil _ _ _ _, rfl, Touch.refl _ _, fun g e => by simp [Value.ownBlock] at e⟩ : PNx w3 w3 (.slice none 0 0) 0 []))⟩
  case round =>
    obtain ⟨i, q, A7, c7, rfl, rfl, hin', hqi, HN⟩ := hrel
    by_cases hin : i < q3
    · have y0 : (i : Int) < (q3 : Int) := by omega
      obtain ⟨gl, ol, hAl, _, l0, l1⟩ := preads_at ((Reads.of_own HN3.out.own).touch HN.out.touch (fun _ _ f => f)) HYL.out.symm i hin
      subst hAl
      have hsn := psnoc Y i (by rw [HYL.out]; exact hin)
      obtain ⟨⟨xw, xn⟩, hx⟩ : ∃ x, x = Y.getD i PRow.zero := ⟨_, rfl⟩
      rw [← hx] at l0 l1 hsn
      simp only at l0 l1
      have HSN := hide hsn
      clear hsn hx
      obtain ⟨A7', c7', e7, _, hm7⟩ := own_len HN.out.own
      injection e7 with e71 e72 e73
      subst e71 e73
      unfold maxLen at hm7
      clear e72
      by_cases hz : xn = 0
      · have HZ := hide hz
        have q1 : (xn == 0) = true := by simp [hz]
        clear hz
        go_wp2
        go_roundw
        · refine ⟨i + 1, q, _, _, by simp, rfl, by omega, by omega, hide ?_⟩
          have e : keepP ⟨xw, xn⟩ = false := by unfold keepP; rw [show ((⟨xw, xn⟩ : PRow).weight == 0) = true by simp [HZ.out]]; rfl
          rw [HSN.out, List.filter_append]
          simpa [List.filter_cons, e] using HN.out
        · show q3 - (intOf (.int .i64 ((i : Int) + 1))).toNat < q3 - (intOf (.int .i64 (i : Int))).toNat
          simp [intOf]
          omega
      · have HZ := hide hz
        have q1 : (xn == 0) = false := by simp [hz]
        clear hz
        go_wp2_with (at_builtin; refine wpList_app _ rfl (.tmp 29) (.tmp 34) 22 rfl 29 i0 _ 2 24 Tryd.underlying22 hi hz0 hz1 hz2 rfl (by decide) (.slice A7 q c7) q _ rfl (own_touch HN.out.own ((Touch.refl _ _).alloc _) (fun _ _ f => f)) (some ⟨_, 0, none⟩) 1 1 (PRow.cells ⟨xw, xn⟩) rfl ?r1 ?r2 ?r3 ?r4 ?r5 ?_)
        case r1 => exact Reads.new _ _ _ _ rfl
        try (case r2 => exact fun h => by cases h)
        case r3 => exact List.all_eq_true.1 rfl
        case r4 => unfold maxLen; omega
        case r5 => omega
        intro v5 w5 hown hgrow hfr _
        have N5 := (HN.out.to ((Touch.refl _ _).alloc _)).app hown hgrow hfr
        obtain ⟨A5, c5, rfl, _, _⟩ := own_len hown
        have HN5 := hide N5
        clear N5 hown hgrow hfr
        go_wp2
        go_roundw
        · refine ⟨i + 1, q + 1, _, _, by simp, rfl, by omega, by omega, hide ?_⟩
          have e : keepP ⟨xw, xn⟩ = true := by unfold keepP; rw [show ((⟨xw, xn⟩ : PRow).weight == 0) = false by simp [HZ.out]]; rfl
          rw [HSN.out, List.filter_append]
          simpa [List.filter_cons, e] using HN5.out
        · show q3 - (intOf (.int .i64 ((i : Int) + 1))).toNat < q3 - (intOf (.int .i64 (i : Int))).toNat
          simp [intOf]
          omega
    · have hX : Y.take i = Y := List.take_of_length_le (by rw [HYL.out]; omega)
      have HXX := hide hX
      clear hX
      go_wp2
      go_ret
      have hN := HN.out
      rw [HXX.out] at hN
      exact ⟨A7, q, c7, Y, rfl, ⟨hN.own, hN.len, HT3.out.then hN.touch, fun b hb => by have h1 := hN.fresh b hb; have h2 := HT3.out.size; omega⟩, HNR.out⟩

end Go.Proofs.YtdjlcgldplndiaaDoor
