/- AbecedaryBest: the walk. Conditions: the commands can be read; no word has more than 2^40 bytes. -/
import Derived.Test.YthockgmbooefpaaGreatDoorT38
import Derived.Test.YthockgmbooefpaaGreatDoorBesP
namespace Go.Proofs.YthockgmbooefpaaGreatDoor
open Go.RowKit
set_option linter.unusedSectionVars false
set_option linter.unusedSimpArgs false
set_option linter.unusedVariables false
theorem mgetD {F : List MRow} {k : Nat} (h : k < F.length) : F.getD k MRow.zero ∈ F := by
  have e2 : F.getD k MRow.zero = F[k] := by simp [List.getD, h]
  rw [e2]; exact List.getElem_mem _
set_option maxRecDepth 100000 in
set_option maxHeartbeats 4000000 in
theorem best_walk (W : World) (hL : Lst W) (A : Option Addr) (n c : Nat) (T : List CmdP) (hT : T.length = n) (hR : Reads W 5 A n (cCells T)) (hWf : ∀ o ∈ T, o.Wf) (hm : n ≤ maxLen) (a : ByteArray) (ha : a.size ≤ 9223372036854775807) (k y : Int) :
    Calls Tryz.prog 3 #[.slice A n c, .agg #[.string a, .int .i64 k, .int .i64 y]] W fun e W' => e = .returned (.bool true) ∧ Touch (fun _ => False) W W' := by
  unfold maxLen at hm
  obtain ⟨wa, hwa⟩ : ∃ z, z = W.alloc (.cells #[.string a, .int .i64 k, .int .i64 y] 24) := ⟨_, rfl⟩
  obtain ⟨qb, hqb⟩ : ∃ z, z = W.heap.size := ⟨_, rfl⟩
  have hTa : Touch (fun _ => False) W wa := by rw [hwa]; exact (Touch.refl _ _).alloc _
  have HQB : Hid (Blk wa qb 24 #[.string a, .int .i64 k, .int .i64 y]) := hide (by rw [hwa, hqb]; exact Blk.new _ _ _)
  have HTA := hide hTa
  have HWA := hide hwa
  have HQ0 := hide hqb
  have HN := hide (snew_y wa (Lst.touch hL hTa))
  have HTL := hide hT
  have HRD := hide (hR.touch hTa (fun _ _ f => f))
  have HWO := hide hWf
  have HHA := hide ha
  have HHM := hide hm
  clear hL hT hR hWf hwa hqb hTa ha
  by_cases hbig : n ≤ 400
  · have k1 : ¬ (400 : Int) < (n : Int) := by omega
    have HNI := hide hbig
    clear hm hbig
    go_enter Tryz.func3, Tryz.ntmps3
    go_upto_region 1 with fail
    rw [← HWA.out, ← HQ0.out]
    go_wp2_with fail
    refine HN.out.mono ?_
    rintro e w1 ⟨s, d, tb, rfl, hy⟩
    have HY := hide hy
    clear hy HN
    go_wp2_with fail
    go_loopw [32] (fun iv wr => ∃ (i : Nat) (L : List PRow) (R : List SRow) (q : Nat) (v : Value), iv = .int .i64 i ∧ i ≤ n ∧ Hid (StY wa wr s d tb v L q R)) (fun iv _ => n - (intOf iv).toNat)
    case atStart => exact ⟨0, _, _, _, _, rfl, Nat.zero_le _, HY⟩
    case round =>
      obtain ⟨i, L, R, q, v, rfl, hin', HYr⟩ := hrel
      obtain ⟨wo, hwo⟩ : ∃ y, y = wr := ⟨_, rfl⟩
      subst hwo
      by_cases hin : i < n
      · have y0 : (i : Int) < (n : Int) := by omega
        have y1 : (0 : Int) ≤ (i : Int) := by omega
        have y2 : IntKind.i64.wrap ((i : Int) + 1) = (i : Int) + 1 := IntWalk.i64_in _ (by have := HNI.out; omega)
        obtain ⟨gl, ol, hAl, hgl, l0, l1, l2, l3, l4⟩ := cmd_at (HRD.out.touch HYr.out.t (fun _ _ f => f)) HTL.out.symm i hin
        subst hAl
        have hwf : (T.getD i CmdP.zero).Wf := HWO.out _ (tdgetD (by rw [HTL.out]; exact hin))
        obtain ⟨⟨kd, sid, sq, kw, kn⟩, ho⟩ : ∃ o, o = T.getD i CmdP.zero := ⟨_, rfl⟩
        rw [← ho] at l0 l1 l2 l3 l4 hwf
        simp only at l0 l1 l2 l3 l4
        have hdo := fun (wx : World) (t : StY wa wx s d tb v L q R) => sdo_y wx t ⟨kd, sid, sq, kw, kn⟩ hwf
        obtain ⟨Lj, hLj⟩ : ∃ y, y = doL ⟨kd, sid, sq, kw, kn⟩ L R := ⟨_, rfl⟩
        obtain ⟨Rj, hRj⟩ : ∃ y, y = doR ⟨kd, sid, sq, kw, kn⟩ L R := ⟨_, rfl⟩
        obtain ⟨ans, hans⟩ : ∃ y, y = ansV (doA ⟨kd, sid, sq, kw, kn⟩ L R) := ⟨_, rfl⟩
        rw [← hLj, ← hRj, ← hans] at hdo
        simp only [CmdP.val] at hdo
        have HDO := hide hdo
        have HIN := hide hin
        clear hdo hLj hRj hans ho hwf hin hin'
        go_wp2_with fail
        refine (HDO.out _ (HYr.out.quiet ((Touch.refl _ _).alloc _))).mono ?_
        rintro e w2 ⟨rfl, ⟨v2, q2, hy2⟩, T2⟩
        have HY2 := hide hy2
        clear hy2 T2 HDO l0 l1 l2 l3 l4
        go_wp2_with fail
        go_roundw
        · exact ⟨i + 1, Lj, Rj, q2, v2, by simp, by have := HIN.out; omega, HY2⟩
        · have := HIN.out
          simp only [intOf]
          omega
      · have y0 : ¬ (i : Int) < (n : Int) := by omega
        have HWD := hide (words_st wo HYr.out.l HYr.out.st)
        have HDP := hide HYr.out.st.dct.dict
        clear hin hin'
        go_wp2_with fail
        refine HWD.out.mono ?_
        rintro e w2 ⟨A2, c2, rfl, hp2, T2⟩
        have HT2 := hide T2
        have hld := dload_any w2 (Lst.touch HYr.out.l T2) ⟨A2, L.length, c2, L⟩ (own_okD hp2) (fun r hr => dict_sizes HDP.out r hr) (by have := HDP.out.len; unfold maxLen; simp only; omega)
        simp only [SL.val] at hld
        have HLD := hide hld
        clear hp2 T2 hld HWD
        go_wp2_with fail
        refine HLD.out.mono ?_
        rintro e w3 (⟨hr, _⟩ | ⟨_, d3, rfl, hd3, _, T3⟩)
        · rw [right_dict HDP.out] at hr
          cases hr
        · have HD3 := hide hd3
          have HT3 := hide (HT2.out.then T3)
          have HQ3 := hide (HQB.out.touch (HYr.out.t.then HT3.out) (fun f => f))
          have hs1 := ssug_any w3 (Lst.touch HYr.out.l HT3.out) (HYr.out.st.quiet HT3.out) a HHA.out k y
          have hs2 := fun (wx : World) (t : Touch (fun _ => False) w3 wx) => dsug_any wx (Lst.touch HYr.out.l (HT3.out.then t)) (HD3.out.quiet t) a HHA.out k y
          have HMEM := hide (fun (m : MRow) (h : m ∈ sugP L a.toList k y) => sug_mem HDP.out h)
          have HLN := hide (sug_len64 L a.toList k y)
          have HORD := hide (fun (i : Nat) (h : i + 1 < (sugP L a.toList k y).length) => sug_order h)
          obtain ⟨F, hF⟩ : ∃ F, F = sugP L a.toList k y := ⟨_, rfl⟩
          obtain ⟨E, hE⟩ : ∃ E, E = sugE a.toList k := ⟨_, rfl⟩
          unfold SugPost at hs1 hs2
          simp only [← hF, ← hE] at hs1 hs2
          rw [← hF] at HMEM HLN HORD
          have HS1 := hide hs1
          have HS2 := hide hs2
          clear hd3 T3 HLD hs1 hs2 hF hE
          obtain ⟨q0, q1, q2⟩ := HQ3.out.facts
          go_wp2_with fail
          refine HS1.out.mono ?_
          rintro e w4 ⟨A4, c4, rfl, r4, T4, _⟩
          have HR4 := hide r4
          have HT4 := hide T4
          have HQ4 := hide (HQ3.out.touch T4 (fun f => f))
          clear r4 T4 HS1 q0 q1 q2
          obtain ⟨q0, q1, q2⟩ := HQ4.out.facts
          go_wp2_with fail
          refine (HS2.out _ HT4.out).mono ?_
          rintro e w5 ⟨A5, c5, rfl, r5, T5, _⟩
          have HR5 := hide r5
          have HT5 := hide (HT4.out.then T5)
          have HR45 := hide (HR4.out.touch T5 (fun _ _ f => f))
          have HQ5 := hide (HQ4.out.touch T5 (fun f => f))
          clear r5 T5 HS2 q0 q1 q2
          go_wp2_with fail
          go_loopw [14, 15, 62] (fun nv kv iv wr => ∃ i : Nat, nv = .int .i64 i ∧ kv = .bool true ∧ iv = .int .i64 i ∧ i ≤ F.length ∧ Hid (Touch (fun _ => False) w5 wr)) (fun _ _ iv _ => F.length - (intOf iv).toNat)
          case atStart => exact ⟨0, rfl, rfl, rfl, Nat.zero_le _, hide (Touch.refl _ _)⟩
          case round =>
            obtain ⟨i2, rfl, rfl, rfl, hi2, HTk⟩ := hrel
            obtain ⟨wk, hwk⟩ : ∃ y, y = wr := ⟨_, rfl⟩
            subst hwk
            by_cases hi : i2 < F.length
            · have x0 : (i2 : Int) < (F.length : Int) := by omega
              have x1 : (0 : Int) ≤ (i2 : Int) := by omega
              have hl64 : F.length ≤ 64 := Nat.le_trans HLN.out (mostN_le y)
              have x2 : IntKind.i64.wrap ((i2 : Int) + 1) = (i2 : Int) + 1 := IntWalk.i64_in _ (by omega)
              obtain ⟨g4, o4, hA4, hg4, d0, d1, d2⟩ := reads_at (HR45.out.touch HTk.out (fun _ _ f => f)) rfl i2 hi
              subst hA4
              obtain ⟨⟨mw, mn, md⟩, hm⟩ : ∃ m, m = F.getD i2 MRow.zero := ⟨_, rfl⟩
              have hmem := HMEM.out _ (mgetD hi)
              rw [← hm] at d0 d1 d2 hmem
              simp only at d0 d1 d2 hmem
              obtain ⟨hfi, hmd, hwfm, hsz⟩ := hmem
              obtain ⟨wb, hwb⟩ : ∃ y, y = wk.alloc (.cells #[.string mw, .int .i64 mn, .int .i64 md] 43) := ⟨_, rfl⟩
              obtain ⟨gm, hgm⟩ : ∃ y, y = wk.heap.size := ⟨_, rfl⟩
              have hTb : Touch (fun _ => False) w5 wb := by rw [hwb]; exact HTk.out.alloc _
              have HMB : Hid (Blk wb gm 43 #[.string mw, .int .i64 mn, .int .i64 md]) := hide (by rw [hwb, hgm]; exact Blk.new _ _ _)
              have hdw := dweigh_any wb (Lst.touch HYr.out.l (HT3.out.then (HT5.out.then hTb))) (HD3.out.quiet (HT5.out.then hTb)) mw hsz
              rw [hfi] at hdw
              simp only at hdw
              have HDW := hide hdw
              have HWB := hide hwb
              have HGM := hide hgm
              have HTB := hide hTb
              have HIN2 := hide hi
              have HM := hide hm
              have HWF := hide hwfm
              clear hwb hgm hTb hdw hfi hsz hm hi hi2 hl64 hwfm
              go_upto_region 18 with fail
              rw [← HWB.out, ← HGM.out]
              obtain ⟨e0, e1, e2⟩ := HMB.out.facts
              go_wp2_with fail
              refine HDW.out.mono ?_
              rintro e w6 ⟨rfl, T6⟩
              have HT6 := hide (HTB.out.then T6)
              have HMB6 := hide (HMB.out.touch T6 (fun f => f))
              have HQ6 := hide (HQ5.out.touch HT6.out (fun f => f))
              clear T6 HDW d0 d1 d2 e0 e1 e2 hg4
              obtain ⟨e0, e1, e2⟩ := HMB6.out.facts
              obtain ⟨q0, q1, q2⟩ := HQ6.out.facts
              go_upto_region 20 with fail
              go_cut [101] from 91 to 104 (fun sv wx => sv = .bool false ∧ Hid (Touch (fun _ => False) w5 wx))
              case first =>
                by_cases hz : i2 = 0
                · subst hz
                  refine wp_region_quiet_lit (by kernel_rfl) (by kernel_rfl) ?_
                  quiet_step (fail)
                  quiet_step (fail)
                  quiet_step (fail)
                  iterate 7 (rw [wpQuiet_cons]; go_simp)
                  quiet_step (fail)
                  refine wpQuiet_nil ?_
                  intro nq
                  go_wp2_with fail
                  go_meet
                  case rel => exact ⟨rfl, hide (HT6.out.drewN _)⟩
                · obtain ⟨j, hj⟩ : ∃ j, i2 = j + 1 := ⟨i2 - 1, by omega⟩
                  have hjl : j < F.length := by have := HIN2.out; omega
                  have z0 : (j : Int) < (F.length : Int) := by omega
                  have z1 : (0 : Int) ≤ (j : Int) := by omega
                  have z2 : IntKind.i64.wrap ((i2 : Int) - 1) = (j : Int) := by rw [IntWalk.i64_in _ (by have := HIN2.out; have := Nat.le_trans HLN.out (mostN_le y); omega)]; omega
                  have z3 : (0 : Int) < (i2 : Int) := by omega
                  have z4 : decide ((0 : Int) < (i2 : Int)) = true := by simp; omega
                  have z5 : decide (0 < i2) = true := by simp; omega
                  obtain ⟨g4', o4', hA4', _, p0, p1, p2⟩ := reads_at (HR45.out.touch HT6.out (fun _ _ f => f)) rfl j hjl
                  injection hA4' with hA4'
                  injection hA4' with hA5 hA6
                  subst hA5 hA6
                  obtain ⟨⟨pw, pn, pd⟩, hp⟩ : ∃ m, m = F.getD j MRow.zero := ⟨_, rfl⟩
                  have hord := HORD.out j (by have := HIN2.out; omega)
                  rw [← hj, ← HM.out, ← hp] at hord
                  have hpw := (HMEM.out _ (mgetD hjl)).2.2.1
                  rw [← hp] at p0 p1 p2 hpw
                  simp only at p0 p1 p2
                  have HKS : Hid (∀ w', Touch (fun _ => False) w6 w' → w'.cell? ⟨gm, 0, none⟩ = some (.string mw) ∧ w'.cell? ⟨gm, 1, none⟩ = some (.int .i64 mn) ∧ w'.cell? ⟨gm, 2, none⟩ = some (.int .i64 md) ∧ w'.cell? ⟨g4, o4 + j * 3, none⟩ = some (.string pw) ∧ w'.cell? ⟨g4, o4 + j * 3 + 1, none⟩ = some (.int .i64 pn) ∧ w'.cell? ⟨g4, o4 + j * 3 + 2, none⟩ = some (.int .i64 pd) ∧ Touch (fun _ => False) w6 w') := hide (fun w' T => by
                    have e1 := HMB6.out.touch T (fun f => f)
                    exact ⟨(e1.cell 0).trans rfl, (e1.cell 1).trans rfl, (e1.cell 2).trans rfl, (T.cell (a := ⟨g4, o4 + j * 3, none⟩) (World.block_lt_of_cell? _ _ p0) (fun f => f)).trans p0, (T.cell (a := ⟨g4, o4 + j * 3 + 1, none⟩) (World.block_lt_of_cell? _ _ p1) (fun f => f)).trans p1, (T.cell (a := ⟨g4, o4 + j * 3 + 2, none⟩) (World.block_lt_of_cell? _ _ p2) (fun f => f)).trans p2, T⟩)
                  have hbt := fun (wx : World) => rbetter_any ⟨mw, mn, md⟩ ⟨pw, pn, pd⟩ HWF.out hpw wx
                  rw [hord] at hbt
                  simp only [MRow.val] at hbt
                  have HBT := hide hbt
                  clear hbt hord hpw hp hj hjl
                  go_region_held3 (fun w' => w'.cell? ⟨gm, 0, none⟩ = some (.string mw) ∧ w'.cell? ⟨gm, 1, none⟩ = some (.int .i64 mn) ∧ w'.cell? ⟨gm, 2, none⟩ = some (.int .i64 md) ∧ w'.cell? ⟨g4, o4 + j * 3, none⟩ = some (.string pw) ∧ w'.cell? ⟨g4, o4 + j * 3 + 1, none⟩ = some (.int .i64 pn) ∧ w'.cell? ⟨g4, o4 + j * 3 + 2, none⟩ = some (.int .i64 pd) ∧ Touch (fun _ => False) w6 w')
                    (first
                      | exact HKS.out _ (Touch.refl _ _).drew
                      | exact HKS.out _ HT7.out
                      | (trace_state; fail))
                    (first
                      | (go_simp; refine (HBT.out _).mono ?_; rintro e w7 ⟨rfl, T7⟩; have HT7 := hide ((Touch.refl (fun _ => False) w6).drew.then T7); clear T7; go_simp))
                  go_wp2_with fail
                  go_meet
                  case rel => exact ⟨rfl, hide (HT6.out.then HT7.out)⟩
              case rest =>
                obtain ⟨rfl, HTc⟩ := hcut
                clear e0 e1 e2 q0 q1 q2
                go_wp2_with fail
                go_roundw
                · exact ⟨i2 + 1, by simp, rfl, by simp, by have := HIN2.out; omega, HTc⟩
                · have := HIN2.out
                  simp only [intOf]
                  omega
            · have x0 : ¬ (i2 : Int) < (F.length : Int) := by omega
              have hie : i2 = F.length := by omega
              subst hie
              have hln : (F.length : Int) ≤ min (max y 0) 64 := by rw [← mostN_int]; have := HLN.out; omega
              have HSM := hide (same_yes wk A4 F.length c4 F rfl (HR45.out.touch HTk.out (fun _ _ f => f)) (by have := Nat.le_trans HLN.out (mostN_le y); unfold maxLen; omega) A5 c5 (HR5.out.touch HTk.out (fun _ _ f => f)))
              have HQk := hide (HQ5.out.touch HTk.out (fun f => f))
              clear hi hi2
              go_wp2_with fail
              refine HSM.out.mono ?_
              rintro e w8 ⟨rfl, T8⟩
              have HQ8 := hide (HQk.out.touch T8 (fun f => f))
              have HT8 := hide (HTk.out.then T8)
              clear T8 HSM
              obtain ⟨q0, q1, q2⟩ := HQ8.out.facts
              go_wp2_with fail
              go_ret
              exact ⟨by simp [hln], HTA.out.then (HYr.out.t.then (HT3.out.then (HT5.out.then HT8.out)))⟩
  · have k1 : (400 : Int) < (n : Int) := by omega
    clear hm hbig
    go_enter Tryz.func3, Tryz.ntmps3
    go_upto_region 1 with fail
    rw [← HWA.out, ← HQ0.out]
    go_wp2_with fail
    refine HN.out.mono ?_
    rintro e w1 ⟨s, d, tb, rfl, hy⟩
    have HT2 := hide (HTA.out.then hy.t)
    clear hy HN
    go_wp2_with fail
    go_ret
    exact ⟨rfl, HT2.out⟩
end Go.Proofs.YthockgmbooefpaaGreatDoor
