/- AbecedaryFinds: the walk. Conditions: the arguments can be read; no word has more than 2^40 bytes. -/
import Derived.Test.YtlnakepcgjfaaaaDoorF29
import Derived.Test.YtlnakepcgjfaaaaDoorF30
import Derived.Test.YtlnakepcgjfaaaaDoorF37
import Derived.Test.YtlnakepcgjfaaaaDoorF38
import Derived.Lib.MinMax
namespace Go.Proofs.YtlnakepcgjfaaaaDoor
open Go.RowKit
set_option linter.unusedSectionVars false
set_option linter.unusedSimpArgs false
set_option linter.unusedVariables false
theorem mem_take_succ {F : List MRow} {t : MRow} {i : Nat} (hi : i < F.length) : t ∈ F.take (i + 1) ↔ t ∈ F.take i ∨ F.getD i MRow.zero = t := by
  rw [List.take_succ_eq_append_getElem hi]
  have e : F.getD i MRow.zero = F[i] := by simp [List.getD, hi]
  rw [e, List.mem_append, List.mem_singleton]
  exact ⟨fun h => h.imp id Eq.symm, fun h => h.imp id Eq.symm⟩
theorem dict_nil : DictP [] := dict_of_right rfl
set_option maxRecDepth 100000 in
set_option maxHeartbeats 4000000 in
theorem fin_walk (W : World) (hL : Lst W) (s : SL) (hs : s.Ok W) (hn : s.n ≤ maxLen) (hWf : ∀ r ∈ s.L, r.Wf) (hWz : ∀ r ∈ s.L, r.word.size ≤ 1099511627776) (a : ByteArray) (ha : a.size ≤ 9223372036854775807) (k : Int) :
    Calls Tryd.prog 3 #[s.val, .string a, .int .i64 k] W fun e W' => e = .returned (.bool true) ∧ Below W.heap.size W W' := by
  have HFB := hide (fbuild_any W hL s hs hWz hn)
  have HRR := hide (fun wx T => rright_any wx s (hs.touch (w' := wx) T) hWf hn)
  have HS := hide hs
  have HL := hide hL
  obtain ⟨sA, sn, sc, sL⟩ := s
  simp only [SL.val] at HFB HRR ⊢
  clear hs hWz hn hL hWf
  go_enter Tryd.func3, Tryd.ntmps3
  go_wp2_with fail
  refine HFB.out.mono ?_
  rintro e w1 (⟨hr, k, hk, rfl, T1⟩ | ⟨hr, A, n, c, Z, rfl, hst, hz, _, T1⟩)
  · obtain ⟨w2, hw2⟩ : ∃ x, x = w1.alloc (.cells #[.int .i64 0, .slice none 0 0] 25) := ⟨_, rfl⟩
    have hT2 : Touch (fun _ => False) W w2 := by rw [hw2]; exact T1.alloc _
    have hbM : Blk w2 w1.heap.size 25 #[.int .i64 0, .slice none 0 0] := by rw [hw2]; exact Blk.new _ _ _
    have k1 : (k == 0) = false := by simp; omega
    have k2 : ¬ k = 0 := by omega
    rw [hr] at HRR
    have HDN := hide (dnew_any w2 (Lst.touch HL.out hT2) [] dict_nil none 0 0 [] ⟨⟨Reads.nil _ _ _, fun h => absurd h (by omega)⟩, rfl, fun z hz => (by cases hz)⟩ rfl)
    have HT2 := hide hT2
    have HW2 := hide hw2
    obtain ⟨m0, m1, m2⟩ := hbM.facts
    clear hw2 hT2 T1 HFB hk hbM
    go_wp2_with fail
    rw [← HW2.out]
    go_wp2_with fail
    refine HDN.out.mono ?_
    rintro e w3 ⟨b, A', c', Z', wA, wc, rfl, hdw, hI⟩
    have HT3 := hide (HT2.out.then hI.touch)
    clear hdw hI HDN
    go_wp2_with fail
    refine (HRR.out _ HT3.out).mono ?_
    rintro e w4 ⟨rfl, T4⟩
    have HT4 := hide (HT3.out.then T4)
    clear T4
    go_wp2_with fail
    go_ret
    exact ⟨by simp, HT4.out.below (Nat.le_refl _) (fun _ _ f => f)⟩
  · have hD := dict_of_right hr
    obtain ⟨bs, hbs⟩ : ∃ b, b = (mach sL).base := ⟨_, rfl⟩
    obtain ⟨w2, hw2⟩ : ∃ x, x = w1.alloc (.cells #[.int .i64 bs, .slice A n c] 25) := ⟨_, rfl⟩
    have hT12 : Touch (fun _ => False) w1 w2 := by rw [hw2]; exact (Touch.refl _ _).alloc _
    have hT2 : Touch (fun _ => False) W w2 := T1.then hT12
    have hbM : Blk w2 w1.heap.size 25 #[.int .i64 bs, .slice A n c] := by rw [hw2]; exact Blk.new _ _ _
    have hdn := dnew_any w2 (Lst.touch HL.out hT2) sL hD A n c Z (hst.quiet hT12) hz
    rw [← hbs] at hdn
    have HT2 := hide hT2
    have HW2 := hide hw2
    have HDN := hide hdn
    have HD := hide hD
    obtain ⟨m0, m1, m2⟩ := hbM.facts
    rw [← hbs]
    clear hw2 hT2 T1 HFB hT12 hbM hdn hst hz hr hD hbs
    go_wp2_with fail
    rw [← HW2.out]
    go_wp2_with fail
    refine HDN.out.mono ?_
    rintro e w3 ⟨b, A', c', Z', wA, wc, rfl, hdw, hI⟩
    have HT3 := hide (HT2.out.then hI.touch)
    have HDW := hide hdw
    have hlen := HS.out.len
    simp only at hlen
    have hsn : (sn : Int) ≤ 4096 := by have := HD.out.len; omega
    have HSN := hide hsn
    clear hdw hI HDN m0 m1 m2
    have HLE := hide (dlen_any HDW.out HD.out)
    rw [hlen] at HLE
    by_cases hk0 : k < 0
    · clear hlen
      go_wp2_with fail
      refine HLE.out.mono ?_
      rintro e w4 ⟨rfl, T4⟩
      have HT4 := hide (HT3.out.then T4)
      clear T4
      go_wp2_with fail
      go_ret
      exact ⟨by simp, HT4.out.below (Nat.le_refl _) (fun _ _ f => f)⟩
    · by_cases hkn : (sn : Int) ≤ k
      · clear hlen
        go_wp2_with fail
        refine HLE.out.mono ?_
        rintro e w4 ⟨rfl, T4⟩
        have HT4 := hide (HT3.out.then T4)
        clear T4
        go_wp2_with fail
        go_ret
        exact ⟨by simp, HT4.out.below (Nat.le_refl _) (fun _ _ f => f)⟩
      · obtain ⟨i, rfl⟩ : ∃ i : Nat, k = (i : Int) := ⟨k.toNat, by omega⟩
        have hin : i < sn := by omega
        have HWD := hide (word_any w3 a ha (Lst.touch HL.out HT3.out))
        obtain ⟨v, hv⟩ : ∃ v, v = wordU a.toList := ⟨_, rfl⟩
        rw [← hv] at HWD
        cases v with
        | false =>
          clear hv hlen hin
          go_wp2_with fail
          refine HWD.out.mono ?_
          rintro e w4 ⟨rfl, T4⟩
          have HT4 := hide (HT3.out.then T4)
          have HLE4 := hide (dlen_any (HDW.out.quiet T4) HD.out)
          rw [HS.out.len] at HLE4
          clear T4
          go_wp2_with fail
          refine HLE4.out.mono ?_
          rintro e w5 ⟨rfl, T5⟩
          have HT5 := hide (HT4.out.then T5)
          clear T5
          go_wp2_with fail
          go_ret
          exact ⟨by simp, HT5.out.below (Nat.le_refl _) (fun _ _ f => f)⟩
        | true =>
          obtain ⟨X, hX, _, _, hXl⟩ := word_runes hv.symm
          have hp : sL.getD i PRow.zero ∈ sL := pgetD_mem sL i (by rw [hlen]; exact hin)
          have hdd := dist_dict HD.out hp hX hXl
          obtain ⟨d, hd⟩ : ∃ d, d = rowW X (wordR (sL.getD i PRow.zero)) := ⟨_, rfl⟩
          rw [← hd] at hdd
          have hmm := mem_fz hp X d hd
          have hlv := levR_word hv.symm d
          have ha96 : a.size ≤ 1099511627776 := by
            have := hv.symm
            unfold wordU at this
            simp only [Bool.and_eq_true, decide_eq_true_eq] at this
            have h1 := this.1
            rw [size_toList] at h1
            omega
          have hdl : d ≤ 48 := by
            have h1 := rowW_le X (wordR (sL.getD i PRow.zero))
            have h2 := (HD.out.word _ hp).2.2.2
            omega
          have hpr : ∀ wx, Touch (fun _ => False) w3 wx → Reads wx 2 sA sn (pCells sL) := fun wx T => HS.out.reads.touch (HT3.out.then T) (fun _ _ f => f)
          obtain ⟨g, off, hA, hgl, p0, p1⟩ := preads_at (hpr w3 (Touch.refl _ _)) hlen.symm i hin
          subst hA
          have hpw := (HD.out.word _ hp)
          obtain ⟨⟨xw, xn⟩, hx⟩ : ∃ r, r = sL.getD i PRow.zero := ⟨_, rfl⟩
          rw [← hx] at p0 p1 hdd hmm hp
          simp only at p0 p1 hdd hmm
          have hxs : xw.size ≤ 9223372036854775807 := by
            have h1 := dict_sizes HD.out _ hp
            simp only at h1
            omega
          have hks : ∀ wx, Touch (fun _ => False) w3 wx → wx.cell? ⟨g, off + i * 2, none⟩ = some (.string xw) ∧ wx.cell? ⟨g, off + i * 2 + 1, none⟩ = some (.int .i64 xn) ∧ g < wx.heap.size := fun wx T => ⟨(T.cell (a := ⟨g, off + i * 2, none⟩) hgl (fun f => f)).trans p0, (T.cell (a := ⟨g, off + i * 2 + 1, none⟩) hgl (fun f => f)).trans p1, Nat.lt_of_lt_of_le hgl T.size⟩
          have HKS := hide hks
          have HDA := hide (fun wx T => dist_any wx (Lst.touch HL.out (HT3.out.then (w2 := wx) T)) xw a hxs ha)
          rw [hdd] at HDA
          simp only [distE] at HDA
          have HFZ := hide (fun wx T => fzall_yes wx (Lst.touch HL.out (HT3.out.then (w2 := wx) T)) HD.out (HDW.out.quiet T) a (min d 3) ha96 X hX hlv)
          have hfl : (fzAllP sL X (min d 3 + 1)).length ≤ 4096 := by have h1 := fz_len sL X (min d 3 + 1); have h2 := HD.out.len; omega
          obtain ⟨F, hF⟩ : ∃ F, F = fzAllP sL X (min d 3 + 1) := ⟨_, rfl⟩
          rw [← hF] at hmm hfl
          simp only [← hF] at HFZ
          have HMM := hide hmm
          have HFL := hide hfl
          have hk1 : (0 : Int) ≤ (i : Int) := by omega
          have hk2 : (i : Int) < (sn : Int) := by omega
          have hmn : min (d : Int) 3 = ((min d 3 : Nat) : Int) := by omega
          obtain ⟨m, hm⟩ : ∃ m, m = min d 3 := ⟨_, rfl⟩
          rw [← hm] at HFZ hmn
          have HDL := hide hdl
          clear hv hX hXl hdd hd hmm hlv ha96 hpr p0 p1 hpw hx hxs hks hfl hF hdl hp hm HLE
          go_wp2_with fail
          refine HWD.out.mono ?_
          rintro e w4 ⟨rfl, T4⟩
          have HT4 := hide T4
          obtain ⟨q0, q1, q2⟩ := HKS.out w4 T4
          clear T4
          go_wp2_with fail
          refine (HDA.out w4 HT4.out).mono ?_
          rintro e w5 ⟨rfl, T5⟩
          have HT5 := hide (HT4.out.then T5)
          clear T5 q0 q1 q2
          go_wp2_with fail
          refine (HFZ.out w5 HT5.out).mono ?_
          rintro e w6 ⟨A2, c2, rfl, ho2⟩
          have HT6 := hide (HT5.out.then ho2.touch)
          have HO2 := hide ho2
          have y0 : (0 : Int) ≤ (F.length : Int) := by omega
          clear ho2
          go_wp2_with fail
          go_loopw [15, 75] (fun bv iv wr => ∃ (j : Nat) (b : Bool), bv = .bool b ∧ iv = .int .i64 j ∧ j ≤ F.length ∧ Hid (b = true ↔ (⟨xw, xn, (d : Int)⟩ : MRow) ∈ F.take j) ∧ Hid (Touch (fun _ => False) w6 wr)) (fun _ iv _ => F.length - (intOf iv).toNat)
          case atStart => exact ⟨0, false, rfl, rfl, Nat.zero_le _, hide (by simp), hide (Touch.refl _ _)⟩
          case round =>
            obtain ⟨j, bv, rfl, rfl, hj, HB, HT⟩ := hrel
            by_cases hjb : j < F.length
            · have k1 : (j : Int) < (F.length : Int) := by omega
              have k2 : (0 : Int) ≤ (j : Int) := by omega
              have k3 : IntKind.i64.wrap ((j : Int) + 1) = (j : Int) + 1 := IntWalk.i64_in _ (by have := HFL.out; omega)
              obtain ⟨g2, off2, hA2, hgl2, d0, d1, d2⟩ := reads_at (Reads.of_own (HO2.out.to HT.out).own) rfl j hjb
              subst hA2
              have hms := mem_take_succ (t := (⟨xw, xn, (d : Int)⟩ : MRow)) hjb
              obtain ⟨⟨zw, zn, zd⟩, hr⟩ : ∃ r, r = F.getD j MRow.zero := ⟨_, rfl⟩
              rw [← hr] at d0 d1 d2 hms
              simp only at d0 d1 d2
              have hgt := HKS.out wr (HT6.out.then HT.out)
              obtain ⟨q0, q1, q2⟩ := hgt
              have HJB := hide hjb
              cases bv with
              | true =>
                have HNB : Hid (True ↔ (⟨xw, xn, (d : Int)⟩ : MRow) ∈ F.take (j + 1)) := hide (by rw [hms]; exact iff_of_true trivial (.inl (HB.out.1 rfl)))
                clear hj hjb hms hr
                go_wp2_with fail
                refine wp_region_quiet_lit (by kernel_rfl) (by kernel_rfl) ?_
                iterate 2 quiet_step (fail)
                iterate 14 (rw [wpQuiet_skip]; rotate_left; (· kernel_rfl); go_simp)
                iterate 2 quiet_step (fail)
                refine wpQuiet_nil ?_
                intro nq
                go_wp2_with fail
                go_roundw
                · exact ⟨j + 1, true, rfl, by simp, by have := HJB.out; omega, hide (by simpa using HNB.out), hide ((HT.out.alloc _).drewN _)⟩
                · have := HJB.out
                  simp only [intOf]
                  omega
              | false =>
                have hnb := HB.out
                simp only [Bool.false_eq_true, false_iff] at hnb
                by_cases e1 : zw.toList = xw.toList
                · by_cases e2 : zn = xn
                  · by_cases e3 : zd = (d : Int)
                    · have e0 : zw = xw := toList_inj e1
                      subst e0 e2 e3
                      have HNB : Hid ((⟨zw, zn, (d : Int)⟩ : MRow) ∈ F.take (j + 1)) := hide (by rw [hms]; exact .inr rfl)
                      clear hj hjb hms hr hnb e1
                      go_wp2_with fail
                      go_quiet (fail)
                      go_wp2_with fail
                      go_roundw
                      · exact ⟨j + 1, true, by simp, by simp, by have := HJB.out; omega, hide (by simpa using HNB.out), hide ((HT.out.alloc _).drewN _)⟩
                      · have := HJB.out
                        simp only [intOf]
                        omega
                    · have HNB : Hid (¬ (⟨xw, xn, (d : Int)⟩ : MRow) ∈ F.take (j + 1)) := hide (by rw [hms]; rintro (h | h); exact hnb h; simp only [MRow.mk.injEq] at h; exact e3 h.2.2)
                      clear hj hjb hms hr hnb
                      go_wp2_with fail
                      go_quiet (fail)
                      go_wp2_with fail
                      go_roundw
                      · exact ⟨j + 1, false, by simp [e3], by simp, by have := HJB.out; omega, hide (by simpa using HNB.out), hide ((HT.out.alloc _).drewN _)⟩
                      · have := HJB.out
                        simp only [intOf]
                        omega
                  · have HNB : Hid (¬ (⟨xw, xn, (d : Int)⟩ : MRow) ∈ F.take (j + 1)) := hide (by rw [hms]; rintro (h | h); exact hnb h; simp only [MRow.mk.injEq] at h; exact e2 h.2.1)
                    clear hj hjb hms hr hnb
                    go_wp2_with fail
                    go_quiet (fail)
                    go_wp2_with fail
                    go_roundw
                    · exact ⟨j + 1, false, by simp [e2], by simp, by have := HJB.out; omega, hide (by simpa using HNB.out), hide ((HT.out.alloc _).drewN _)⟩
                    · have := HJB.out
                      simp only [intOf]
                      omega
                · have HNB : Hid (¬ (⟨xw, xn, (d : Int)⟩ : MRow) ∈ F.take (j + 1)) := hide (by rw [hms]; rintro (h | h); exact hnb h; simp only [MRow.mk.injEq] at h; exact e1 (by rw [h.1]))
                  clear hj hjb hms hr hnb
                  go_wp2_with fail
                  go_quiet (fail)
                  go_wp2_with fail
                  go_roundw
                  · exact ⟨j + 1, false, by simp [e1], by simp, by have := HJB.out; omega, hide (by simpa using HNB.out), hide ((HT.out.alloc _).drewN _)⟩
                  · have := HJB.out
                    simp only [intOf]
                    omega
            · have hje : j = F.length := by omega
              subst hje
              have hb := HB.out
              rw [List.take_length, HMM.out] at hb
              have k1 : ¬ ((F.length : Int) < (F.length : Int)) := by omega
              have HT7 := hide (HT3.out.then (HT6.out.then HT.out))
              clear hj hjb
              cases bv with
              | true =>
                have hd3 : (d : Int) ≤ 3 := by have := hb.1 rfl; omega
                clear hb
                go_wp2_with fail
                go_ret
                exact ⟨by simp, HT7.out.below (Nat.le_refl _) (fun _ _ f => f)⟩
              | false =>
                have hd3 : ¬ (d : Int) ≤ 3 := by intro h; have := hb.2 (by omega); cases this
                clear hb
                go_wp2_with fail
                go_ret
                exact ⟨by simp, HT7.out.below (Nat.le_refl _) (fun _ _ f => f)⟩
end Go.Proofs.YtlnakepcgjfaaaaDoor
