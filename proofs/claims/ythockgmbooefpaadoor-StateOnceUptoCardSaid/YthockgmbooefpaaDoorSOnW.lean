/- Law 16, StateOnce: the walk. Conditions: the commands can be read; no word has more than 2^40 bytes. -/
import Derived.Test.YthockgmbooefpaaDoorDS
namespace Go.Proofs.YthockgmbooefpaaDoor
open Go.RowKit
set_option linter.unusedSectionVars false
set_option linter.unusedSimpArgs false
set_option linter.unusedVariables false

theorem Tryd.infoCmd : (Tryd.prog.info? 29).map (fun i => (i.zero, i.size, i.bytes)) = some (some (.agg #[.int .i64 0, .int .u64 0, .int .u64 0, .string ByteArray.empty, .int .i64 0]), 5, 48) := by kernel_rfl
theorem pown_stF {w w' : World} {s d tb : Nat} {v : Value} {L : List PRow} {q : Nat} {R : List SRow} (h : StX w s d tb v L q R) (T : Touch (stF d tb v) w w') {A : Option Addr} {n c : Nat} {X : List PRow} (hp : POwn w A n c X) : POwn w' A n c X :=
  own_touch hp T (fun g hg e => by
    have ht := own_ty hp hg
    rcases e with rfl | e
    · exact ht.ne h.dct.ty (by decide) rfl
    · exact fp_no h.tab ht (by decide) (by decide) e)
theorem StX.notF {w : World} {s d tb : Nat} {v : Value} {L : List PRow} {q : Nat} {R : List SRow} (h : StX w s d tb v L q R) {g : Nat} {t : TypeId} (hg : TyAt w g t) (ht : offT t) : ¬ stF d tb v g := fun e => by
  obtain ⟨o1, o2, o3, o4, o5⟩ := ht
  rcases e with rfl | e
  · exact hg.ne h.dct.ty o2 rfl
  · rcases fp_ty h.tab e with k | k
    · exact hg.ne k o3 rfl
    · exact hg.ne k o4 rfl
theorem ccells_len (D : List CmdP) : (cCells D).length = D.length * 5 := by
  unfold cCells
  induction D with
  | nil => rfl
  | cons c D ih => rw [List.flatMap_cons, List.length_append, ih]; simp [CmdP.cells]; omega
theorem ccells_snoc (D : List CmdP) (c : CmdP) : cCells (D ++ [c]) = cCells D ++ c.cells := by simp [cCells]
theorem dgetD {D : List CmdP} {k : Nat} (h : k < D.length) : D.getD k CmdP.zero ∈ D := by
  have e2 : D.getD k CmdP.zero = D[k] := by simp [List.getD, h]
  rw [e2]; exact List.getElem_mem _

set_option maxRecDepth 100000 in
set_option maxHeartbeats 4000000 in
theorem once_walk (W : World) (hL : Lst W) (A : Option Addr) (n c : Nat) (T : List CmdP) (hT : T.length = n) (hR : Reads W 5 A n (cCells T)) (hWf : ∀ o ∈ T, o.Wf) (hm : n ≤ maxLen) :
    Calls Tryd.prog 3 #[.slice A n c] W fun e W' => e = .returned (.bool true) ∧ Touch (fun _ => False) W W' := by
  have HL := hide hL
  have HTL := hide hT
  have HRD := hide hR
  have HWO := hide hWf
  have HN := hide (snew_y W hL)
  have HFEW := hide (fun w => few_any w A n c)
  have HAL := hide (fun (wx : World) (t : Touch (fun _ => False) W wx) => alive16_any wx (Lst.touch hL t))
  unfold maxLen at hm
  obtain ⟨i0, hi0, hz0, hz1, hz2⟩ := info_parts Tryd.infoCmd
  clear hL hT hR hWf
  by_cases hbig : n ≤ 400
  · have k1 : (n : Int) ≤ 400 := by omega
    have k2 : decide ((n : Int) ≤ 400) = true := by simp [k1]
    rw [k2] at HFEW
    have HNI := hide hbig
    clear hm hbig k2
    go_enter Tryd.func3, Tryd.ntmps3
    go_wp2_with fail
    refine HN.out.mono ?_
    rintro e w1 ⟨s, d, tb, rfl, hy⟩
    have HY := hide hy
    clear hy HN
    go_wp2_with fail
    refine (HFEW.out _).mono ?_
    rintro e w2 ⟨rfl, rfl⟩
    go_wp2_with fail
    go_loopw [4, 25] (fun lv iv wr => ∃ (i n' : Nat) (A' : Option Addr) (c' : Nat) (D : List CmdP) (L : List PRow) (R : List SRow) (q : Nat) (v : Value), iv = .int .i64 i ∧ lv = .slice A' n' c' ∧ i ≤ n ∧ n' ≤ i ∧ Hid (StY W wr s d tb v L q R) ∧ Hid (D.length = n') ∧ Hid (ONx 29 5 W wr (.slice A' n' c') n' (cCells D)) ∧ Hid (DoneB D R)) (fun _ iv _ => n - (intOf iv).toNat)
    case atStart => exact ⟨0, 0, none, 0, [], _, _, _, _, rfl, rfl, Nat.zero_le _, Nat.le_refl _, HY, hide rfl, hide ((ONx.nil _ _ W).to HY.out.t), hide (fun d hd => by cases hd)⟩
    case round =>
      obtain ⟨i, n', A', c', D, L, R, q, v, rfl, rfl, hin', hn'i, HYr, HDL, HO, HDB⟩ := hrel
      by_cases hin : i < n
      · have y0 : (i : Int) < (n : Int) := by omega
        have y1 : (0 : Int) ≤ (i : Int) := by omega
        have y2 : IntKind.i64.wrap ((i : Int) + 1) = (i : Int) + 1 := IntWalk.i64_in _ (by have := HNI.out; omega)
        obtain ⟨gl, ol, hAl, hgl, l0, l1, l2, l3, l4⟩ := cmd_at (HRD.out.touch HYr.out.t (fun _ _ f => f)) HTL.out.symm i hin
        subst hAl
        have hwf : (T.getD i CmdP.zero).Wf := HWO.out _ (dgetD (by rw [HTL.out]; exact hin))
        obtain ⟨⟨kd, sid, sq, kw, kn⟩, ho⟩ : ∃ o, o = T.getD i CmdP.zero := ⟨_, rfl⟩
        rw [← ho] at l0 l1 l2 l3 l4 hwf
        simp only at l0 l1 l2 l3 l4
        obtain ⟨wo, hwo⟩ : ∃ y, y = wr := ⟨_, rfl⟩
        subst hwo
        obtain ⟨wa, hwa⟩ : ∃ y, y = wo.alloc (.cells #[.int .i64 kd, .int .u64 sid, .int .u64 sq, .string kw, .int .i64 kn] 29) := ⟨_, rfl⟩
        obtain ⟨gc, hgc⟩ : ∃ y, y = wo.heap.size := ⟨_, rfl⟩
        have hTa : Touch (fun _ => False) wo wa := by rw [hwa]; exact (Touch.refl _ _).alloc _
        have hcB : Blk wa gc 29 #[.int .i64 kd, .int .u64 sid, .int .u64 sq, .string kw, .int .i64 kn] := by rw [hwa, hgc]; exact Blk.new _ _ _
        have HYA := hide (HYr.out.quiet hTa)
        have HOA := hide (HO.out.to hTa)
        have HCB := hide hcB
        have HWA := hide hwa
        have HGC := hide hgc
        have HWF := hide hwf
        have HIN := hide hin
        have HNI' := hide hn'i
        have HWD := hide (words_st wa HYA.out.l HYA.out.st)
        clear hwa hgc hTa hcB ho hwf hin hn'i
        go_upto_region 8 with fail
        rw [← HWA.out, ← HGC.out]
        clear l0 l1 l2 l3 l4
        go_wp2_with fail
        refine HWD.out.mono ?_
        rintro e w1 ⟨A1, c1, rfl, hp1, T1⟩
        have HY1 := hide (HYA.out.quiet T1)
        have HP1 := hide hp1
        have HC1 := hide (HCB.out.touch T1 (fun f => f))
        have HO1 := hide (HOA.out.to T1)
        have hdo := sdo_y w1 HY1.out ⟨kd, sid, sq, kw, kn⟩ HWF.out
        obtain ⟨Lj, hLj⟩ : ∃ y, y = doL ⟨kd, sid, sq, kw, kn⟩ L R := ⟨_, rfl⟩
        obtain ⟨Rj, hRj⟩ : ∃ y, y = doR ⟨kd, sid, sq, kw, kn⟩ L R := ⟨_, rfl⟩
        obtain ⟨ans, hans⟩ : ∃ y, y = ansV (doA ⟨kd, sid, sq, kw, kn⟩ L R) := ⟨_, rfl⟩
        rw [← hLj, ← hRj, ← hans] at hdo
        simp only [CmdP.val] at hdo
        have HDO := hide hdo
        have HLJ := hide hLj
        have HRJ := hide hRj
        have HDB2 : Hid (DoneB D Rj) := hide (by rw [hRj]; exact done_step HDB.out _ _)
        have HLN : Hid (L.length ≤ 4096) := hide HY1.out.st.dct.dict.len
        obtain ⟨b0, b1, b2⟩ := HC1.out.facts
        clear hp1 T1 hdo hLj hRj hans HWD
        go_wp2_with fail
        refine HDO.out.mono ?_
        rintro e w2 ⟨rfl, ⟨v2, q2, hy2⟩, T2⟩
        have HY2 := hide hy2
        have HP2 := hide (pown_stF HY1.out.st T2 HP1.out)
        have HC2 := hide (HY1.out.st.keep T2 HC1.out off_cmd)
        have HO2 : Hid (ONx 29 5 W w2 (.slice A' n' c') n' (cCells D)) := hide ⟨own_touch HO1.out.own T2 (fun g hg => HY1.out.st.notF (own_ty HO1.out.own hg) off_cmd), hy2.t, HO1.out.fresh⟩
        have HWD2 := hide (words_st w2 hy2.l hy2.st)
        clear hy2 T2 b0 b1 b2 HDO
        go_wp2_with fail
        refine HWD2.out.mono ?_
        rintro e w3 ⟨A3, c3, rfl, hp3, T3⟩
        have HY3 := hide (HY2.out.quiet T3)
        have HC3 := hide (HC2.out.touch T3 (fun f => f))
        have HO3 := hide (HO2.out.to T3)
        have HRA := hide (Reads.of_own (own_touch HP2.out T3 (fun _ _ f => f)))
        have HRB := hide (Reads.of_own hp3)
        clear hp3 T3 HWD2
        have HSM := hide (psame_any w3 A1 L.length c1 L rfl HRA.out (by have := HLN.out; unfold maxLen; omega) A3 Lj.length c3 Lj rfl HRB.out)
        go_wp2_with fail
        refine HSM.out.mono ?_
        rintro e w4 ⟨⟨b, rfl, hb⟩, T4⟩
        have HY4 := hide (HY3.out.quiet T4)
        have HC4 := hide (HC3.out.touch T4 (fun f => f))
        have HO4 := hide (HO3.out.to T4)
        have HB := hide hb
        clear T4 hb HSM HRA HRB HP1 HP2
        cases b with
        | true =>
          go_wp2_with fail
          go_roundw
          · exact ⟨i + 1, n', A', c', D, Lj, Rj, q2, v2, by simp, rfl, by have := HIN.out; omega, by have := HNI'.out; omega, HY4, HDL, HO4, HDB2⟩
          · have := HIN.out
            simp only [intOf]
            omega
        | false =>
          have hgo : goesB ⟨kd, sid, sq, kw, kn⟩ R = true := doL_same (by rw [← HLJ.out]; exact HB.out rfl)
          have HNW := hide (done_new HDB.out hgo)
          have HDB3 : Hid (DoneB (D ++ [⟨kd, sid, sq, kw, kn⟩]) Rj) := hide (by rw [HRJ.out]; exact done_add HDB.out hgo L)
          clear hgo
          obtain ⟨b0, b1, b2⟩ := HC4.out.facts
          go_wp2_with fail
          go_loopw [40] (fun iv wr => ∃ k : Nat, iv = .int .i64 k ∧ k ≤ n' ∧ Hid (Touch (fun _ => False) w4 wr)) (fun iv _ => n' - (intOf iv).toNat)
          case atStart => exact ⟨0, rfl, Nat.zero_le _, hide (Touch.refl _ _)⟩
          case round =>
            obtain ⟨k, rfl, hk, HTk⟩ := hrel
            obtain ⟨wk, hwk⟩ : ∃ y, y = wr := ⟨_, rfl⟩
            subst hwk
            by_cases hkn : k < n'
            · have k0 : (k : Int) < (n' : Int) := by omega
              have k3 : (0 : Int) ≤ (k : Int) := by omega
              have k4 : IntKind.i64.wrap ((k : Int) + 1) = (k : Int) + 1 := IntWalk.i64_in _ (by have := HNI.out; have := HNI'.out; have := HIN.out; omega)
              obtain ⟨g', o', hA', hg', d0, d1, d2, d3, d4⟩ := cmd_at (Reads.of_own (own_touch HO4.out.own HTk.out (fun _ _ f => f))) HDL.out.symm k hkn
              subst hA'
              have hmem : D.getD k CmdP.zero ∈ D := dgetD (by rw [HDL.out]; exact hkn)
              obtain ⟨⟨ekd, esid, esq, ekw, ekn⟩, he⟩ : ∃ o, o = D.getD k CmdP.zero := ⟨_, rfl⟩
              rw [← he] at d0 d1 d2 d3 d4 hmem
              have hno := HNW.out _ hmem
              simp only at d0 d1 d2 d3 d4 hno
              obtain ⟨b0, b1, b2⟩ := (HC4.out.touch HTk.out (fun f => f)).facts
              have HKN := hide hkn
              clear he hmem hk hkn
              by_cases e1 : esid = sid
              · subst e1
                have e2 : ¬ esq = sq := fun e => hno ⟨rfl, e⟩
                clear hno
                go_wp2_with fail
                go_roundw
                · exact ⟨k + 1, by simp, by have := HKN.out; omega, hide (HTk.out.alloc _)⟩
                · have := HKN.out
                  simp only [intOf]
                  omega
              · clear hno
                go_wp2_with fail
                go_roundw
                · exact ⟨k + 1, by simp, by have := HKN.out; omega, hide (HTk.out.alloc _)⟩
                · have := HKN.out
                  simp only [intOf]
                  omega
            · have k0 : ¬ (k : Int) < (n' : Int) := by omega
              have HO5 := hide (HO4.out.to HTk.out)
              have HY5 := hide (HY4.out.quiet HTk.out)
              have HC5 := hide (HC4.out.touch HTk.out (fun f => f))
              clear hkn hk b0 b1 b2
              obtain ⟨b0, b1, b2⟩ := HC5.out.facts
              go_wp2_with (at_builtin; refine wpList_app _ rfl (.tmp 57) (.tmp 59) 22 rfl 29 i0 _ 5 48 Tryd.underlying22 hi0 hz0 hz1 hz2 rfl (by decide) (.slice A' n' c') n' _ rfl (own_touch HO5.out.own ((Touch.refl _ _).alloc _) (fun _ _ f => f)) (some ⟨_, 0, none⟩) 1 1 (CmdP.cells ⟨kd, sid, sq, kw, kn⟩) rfl ?s1a ?s1b ?s1c ?s1d ?s1e ?_)
              case s1a =>
                have h := Reads.new (size := 5) wk 29 [.int .i64 kd, .int .u64 sid, .int .u64 sq, .string kw, .int .i64 kn] 1 rfl
                simpa [CmdP.cells] using h
              try (case s1b => exact fun h => by cases h)
              case s1c => exact List.all_eq_true.1 rfl
              case s1d => have := HNI.out; have := HNI'.out; have := HIN.out; unfold maxLen; omega
              case s1e => have := HNI.out; have := HNI'.out; have := HIN.out; omega
              intro v6 w6 hown hgrow hfr _
              obtain ⟨A6, c6, hv6, _, _⟩ := own_len hown
              subst hv6
              have HN6 := hide ((HO5.out.to ((Touch.refl _ _).alloc _)).app hown hgrow hfr)
              have HY6 : Hid (StY W w6 s d tb v2 Lj q2 Rj) := hide (by
                have T6 := (((Touch.refl (fun g => (Value.slice A' n' c').ownBlock = some g) wk).alloc _).grown hgrow (fun k hk _ => hk))
                exact ⟨HY5.out.st.off T6 (fun g hg => ⟨_, own_ty HO5.out.own hg, off_cmd⟩), HY5.out.y, HN6.out.touch, HY5.out.lw⟩)
              clear hown hgrow hfr
              go_wp2_with fail
              go_roundw
              · refine ⟨i + 1, n' + 1, A6, c6, D ++ [⟨kd, sid, sq, kw, kn⟩], Lj, Rj, q2, v2, by simp, by simp, by have := HIN.out; omega, by have := HNI'.out; omega, HY6, hide (by simp [HDL.out]), hide ?_, HDB3⟩
                rw [ccells_snoc]
                exact HN6.out
              · have := HIN.out
                simp only [intOf]
                omega
      · have y0 : ¬ (i : Int) < (n : Int) := by omega
        have HA2 := hide (HAL.out wr HYr.out.t)
        have HT2 := hide HYr.out.t
        clear hin hin' hn'i
        go_wp2_with fail
        refine HA2.out.mono ?_
        rintro e w3 ⟨rfl, T3⟩
        have HT3 := hide (HT2.out.then T3)
        clear T3
        go_wp2_with fail
        go_ret
        exact ⟨rfl, HT3.out⟩
  · have k1 : ¬ (n : Int) ≤ 400 := by omega
    have k2 : decide ((n : Int) ≤ 400) = false := by simp [k1]
    rw [k2] at HFEW
    clear hm hbig k2
    go_enter Tryd.func3, Tryd.ntmps3
    go_wp2_with fail
    refine HN.out.mono ?_
    rintro e w1 ⟨s, d, tb, rfl, hy⟩
    have HA2 := hide (HAL.out w1 hy.t)
    have HT2 := hide hy.t
    clear hy HN
    go_wp2_with fail
    refine (HFEW.out _).mono ?_
    rintro e w2 ⟨rfl, rfl⟩
    go_wp2_with fail
    refine HA2.out.mono ?_
    rintro e w3 ⟨rfl, T3⟩
    have HT3 := hide (HT2.out.then T3)
    clear T3
    go_wp2_with fail
    go_ret
    exact ⟨rfl, HT3.out⟩

end Go.Proofs.YthockgmbooefpaaDoor
