/- (*walk.Walk).At on a dictionary's machine in memory. Conditions: the machine is Good, its rests are what a dictionary's are. -/
import Derived.Test.YtnakpadjlamdeaaDoorLenW
namespace Go.Proofs.YtnakpadjlamdeaaDoor
open Go.RowKit

set_option maxRecDepth 100000 in
set_option maxHeartbeats 4000000 in
theorem at_none (w : World) (b : Nat) (base : Int) (A : Option Addr) (n c : Nat) (Z : List SV) (wA : Option Addr) (wc : Nat) (W : List Int) (hM : WkM w b base A n c Z wA wc W) (hn : n ≤ 1000000) (i : Int) (hi : i < 0 ∨ lenOf n W ≤ i) :
    Calls Tryd.prog 15 #[.pointer (some ⟨b, 0, none⟩), .int .i64 i] w fun e w' => e = .returned (.tuple #[.agg #[.string ⟨#[]⟩, .int .i64 0], .bool false]) ∧ Touch (fun _ => False) w w' := by
  obtain ⟨R, hR⟩ : ∃ R, R = w.heap.size := ⟨_, rfl⟩
  obtain ⟨w0, hw0⟩ : ∃ x, x = w.alloc (.cells #[.string ⟨#[]⟩, .int .i64 0] 32) := ⟨_, rfl⟩
  have hb : Blk w0 R 32 #[.string ⟨#[]⟩, .int .i64 0] := by rw [hw0, hR]; exact Blk.new _ _ _
  have hT0 : Touch (fun _ => False) w w0 := by rw [hw0]; exact (Touch.refl _ _).alloc _
  have hlen := len_any w0 b base A n c Z wA wc W (hM.quiet hT0) hn
  obtain ⟨N, hN⟩ : ∃ N, lenOf n W = N := ⟨_, rfl⟩
  rw [hN] at hlen hi
  have HW0 := hide hw0
  have HR := hide hR
  have HB := hide hb
  have HT0 := hide hT0
  have HLN := hide hlen
  by_cases h0 : i < 0
  · obtain ⟨p0, p1, p2⟩ := hb.facts
    clear hw0 hR hT0 hlen hM hN hn hi hb
    go_enter Tryd.func15, Tryd.ntmps15
    go_wp2_with fail
    have hbf := HB.out
    rw [HW0.out, HR.out] at hbf
    have f0 := hbf.cell 0
    have f1 := hbf.cell 1
    simp at f0 f1
    have hT := HT0.out
    rw [HW0.out] at hT
    exact bodyPost_ret (v := .tuple #[.agg #[.string ⟨#[]⟩, .int .i64 0], .bool false]) (by simp [results, Tryd.results15, go_sem]) rfl ⟨rfl, hT⟩
  · have h1 : N ≤ i := by omega
    clear hw0 hR hT0 hlen hM hN hn hi hb
    go_enter Tryd.func15, Tryd.ntmps15
    go_wp2_with fail
    rw [← HW0.out]
    refine HLN.out.mono ?_
    rintro e w3 ⟨rfl, T3⟩
    have hb3 := HB.out.touch T3 (fun f => f)
    rw [HR.out] at hb3
    obtain ⟨p0, p1, p2⟩ := hb3.facts
    have HB3 := hide hb3
    have HT3 := hide T3
    clear hb3 T3 HLN
    go_wp2_with fail
    have hbf := (HB3.out.set_ 0 (.string ⟨#[]⟩)).set_ 1 (.int .i64 0)
    have f0 := hbf.cell 0
    have f1 := hbf.cell 1
    simp at f0 f1
    refine bodyPost_ret (v := .tuple #[.agg #[.string ⟨#[]⟩, .int .i64 0], .bool false]) (by simp [results, Tryd.results15, go_sem, f0, f1]) rfl ⟨rfl, ?_⟩
    refine ((HT0.out.then HT3.out).setCell (p := ⟨w.heap.size, 0, none⟩) (fun h => absurd h (Nat.lt_irrefl _)) _).setCell (p := ⟨w.heap.size, 1, none⟩) (fun h => absurd h (Nat.lt_irrefl _)) _

set_option maxRecDepth 100000 in
set_option maxHeartbeats 8000000 in
theorem at_some (w : World) (hL : Lst w) (b : Nat) (base : Int) (A : Option Addr) (n c : Nat) (Z : List SV) (wA : Option Addr) (wc : Nat) (W : List Int) (hM : WkM w b base A n c Z wA wc W) (hn : n ≤ 1000000) (k : KnP) (hk : Good k) (hh : ∀ X ∈ k.rests, Her X) (hZ : Z.map SV.p = k.states) (hW : W = wdsF k.states k.states.length)
    (i : Nat) (hi : (i : Int) < lenOf n W) (O : List Nat) (wt : Int) (hat : AtP k (n - 1) i [] base O wt) (hO : O.length ≤ 24) (hs : ∀ r ∈ O, scal r = true) (hb0 : 0 ≤ base) (hwt : wt ≤ 2097152) :
    Calls Tryd.prog 15 #[.pointer (some ⟨b, 0, none⟩), .int .i64 i] w fun e w' => e = .returned (.tuple #[.agg #[.string ⟨(O.flatMap writeU).toArray⟩, .int .i64 wt], .bool true]) ∧ Touch (fun _ => False) w w' := by
  obtain ⟨i1, hi1, hy0, hy1, hy2⟩ := info_parts infoRune
  obtain ⟨R, hR⟩ : ∃ R, R = w.heap.size := ⟨_, rfl⟩
  obtain ⟨w0, hw0⟩ : ∃ x, x = w.alloc (.cells #[.string ⟨#[]⟩, .int .i64 0] 32) := ⟨_, rfl⟩
  have hb : Blk w0 R 32 #[.string ⟨#[]⟩, .int .i64 0] := by rw [hw0, hR]; exact Blk.new _ _ _
  have hT0 : Touch (fun _ => False) w w0 := by rw [hw0]; exact (Touch.refl _ _).alloc _
  have hlen := len_any w0 b base A n c Z wA wc W (hM.quiet hT0) hn
  have hsl : k.states.length = n := by rw [← hZ, List.length_map]; exact hM.sts.len
  have hpos : 0 < n := by
    obtain ⟨R, e, hR, _⟩ := hat
    have h1 := hi
    unfold lenOf at h1
    rcases Nat.eq_zero_or_pos n with h | h
    · rw [if_pos h] at h1; omega
    · exact h
  have hwl : ∀ s, s < n → ∀ R, k.rests[s]? = some R → W.getD s 0 = (R.length : Int) := by
    intro s hs R hR
    have := wds_rests hk hh (j := s) (by omega) hR
    rw [← hW] at this
    rw [List.getD_eq_getElem?_getD, this]
    rfl
  obtain ⟨N, hN⟩ : ∃ N, lenOf n W = N := ⟨_, rfl⟩
  rw [hN] at hlen hi
  have HW0 := hide hw0
  have HRR := hide hR
  have HB := hide hb
  have HT0 := hide hT0
  have HLN := hide hlen
  have HM := hide hM
  have HK := hide hk
  have HH := hide hh
  have HZ := hide hZ
  have HSL := hide hsl
  have HWL := hide hwl
  have HAT := hide hat
  have HO := hide hO
  have HS := hide hs
  have HN := hide hn
  have HWT := hide hwt
  have HL := hide hL
  have hnI : (n : Int) ≤ 1000000 := by omega
  have z0 : (0 : Int) ≤ (i : Int) := by omega
  clear hw0 hR hb hT0 hlen hM hk hh hZ hW hN hsl hwl hat hO hs hn hwt hL
  go_enter Tryd.func15, Tryd.ntmps15
  go_wp2_with fail
  rw [← HW0.out]
  refine HLN.out.mono ?_
  rintro e w3 ⟨rfl, T3⟩
  have hM3 := HM.out.quiet (HT0.out.then T3)
  obtain ⟨x0, x1, x2⟩ := hM3.blk.facts
  have hb3 := HB.out.touch T3 (fun f => f)
  have HB3 := hide hb3
  have HM3 := hide hM3
  have HT3 := hide (HT0.out.then T3)
  clear hM3 T3 HLN hb3
  go_wp2_with fail
  go_quiet ((go_at_call 20; exact Calls.quiet_of_same (root_any _ b base A n c _ HM3.out.blk HN.out)))
  obtain ⟨w4, hw4⟩ : ∃ x, x = w3.drewN nq := ⟨_, rfl⟩
  have hT4 : Touch (fun _ => False) w3 w4 := by rw [hw4]; exact (Touch.refl _ _).drewN _
  rw [← hw4, ← HRR.out]
  have HB4 := hide (HB3.out.touch hT4 (fun f => f))
  have HM4 := hide (HM3.out.quiet hT4)
  have HT4 := hide (HT3.out.then hT4)
  clear hw4 hT4 x0 x1 x2
  go_wp2_with fail
  go_loopw [1, 6, 7, 8] (fun iv lv av sv wr => ∃ (i s q : Nat) (l : List Nat) (A6 : Option Addr) (c6 : Nat) (u : Int), iv = .int .i64 i ∧ lv = .slice A6 q c6 ∧ av = .int .i64 s ∧ sv = .int .i64 u ∧ s < n ∧ 0 ≤ u ∧ l.length = q ∧ Hid (AtP k s i l u O wt) ∧ Hid (ONx 21 1 w4 wr (.slice A6 q c6) q (l.map runeV))) (fun _ _ av _ _ => (intOf av).toNat)
  case atStart => exact ⟨i, n - 1, 0, [], none, 0, base, rfl, rfl, by simp; omega, rfl, by omega, hb0, rfl, HAT, hide (ONx.nil _ _ _)⟩
  case round =>
    clear HAT z0 hi
    obtain ⟨i, s, q, l, A6, c6, u, rfl, rfl, rfl, rfl, hsn, hu0, hlq, HA, HX⟩ := hrel
    have hbd := at_bound HH.out HA.out
    have hq24 : q ≤ 24 := by have := HO.out; omega
    have hi4 : i ≤ 4096 := by
      obtain ⟨R, e, hR, he, _⟩ := HA.out
      have h1 := (HH.out R (List.mem_of_getElem? hR)).len
      have h2 := (List.getElem?_eq_some_iff.1 he).1
      omega
    have hi4I : (i : Int) ≤ 4096 := by omega
    clear hi4
    have hMr := HM4.out.quiet HX.out.touch
    obtain ⟨x0, x1, x2⟩ := hMr.blk.facts
    have y1 : (0 : Int) ≤ (s : Int) := by omega
    have y2 : (s : Int) < (n : Int) := by omega
    obtain ⟨g, o, hA, hgl, d0, d1, d2⟩ := state_at hMr.sts.rd.rd hMr.sts.len s hsn
    subst hA
    have hzm := getD_mem Z svZero s (by rw [hMr.sts.len]; exact hsn)
    have hzo := hMr.sts.el _ hzm
    have hzk : k.states[s]? = some (Z.getD s svZero).p := by
      rw [← HZ.out, List.getElem?_map, getD_get? (d := svZero) (by rw [hMr.sts.len]; exact hsn)]
      rfl
    obtain ⟨⟨fin, out, zA, zn, zc, arcs⟩, hz⟩ : ∃ z, Z.getD s svZero = z := ⟨_, rfl⟩
    rw [hz] at d0 d1 d2 hzo hzk
    simp only [SV.p] at d0 d1 d2 hzk
    have HZK := hide hzk
    have HZO := hide hzo
    have HMR := hide hMr
    have HLQ := hide hlq
    obtain ⟨wD, hwD⟩ : ∃ x, x = wr.alloc (.cells #[.bool fin, .int .i64 out, .slice zA zn zc] 44) := ⟨_, rfl⟩
    obtain ⟨D, hD⟩ : ∃ D, D = wr.heap.size := ⟨_, rfl⟩
    have hTD : Touch (fun _ => False) wr wD := by rw [hwD]; exact (Touch.refl _ _).alloc _
    have hbD : Blk wD D 44 #[.bool fin, .int .i64 out, .slice zA zn zc] := by rw [hwD, hD]; exact Blk.new _ _ _
    have HWD := hide hwD
    have HD := hide hD
    have HTD := hide hTD
    have HBD := hide hbD
    have hbd1 := hbd.1
    have hwt := HWT.out
    obtain ⟨wo, hwo⟩ : ∃ y, y = wr := ⟨_, rfl⟩
    subst hwo
    clear hMr hzm hzo hzk hz hwD hD hTD hbD hbd
    have hcase : (fin = true ∧ i = 0) ∨ (fin = true ∧ 0 < i) ∨ fin = false := by
      cases fin
      · exact .inr (.inr rfl)
      · rcases Nat.eq_zero_or_pos i with h | h
        · exact .inl ⟨rfl, h⟩
        · exact .inr (.inl ⟨rfl, h⟩)
    rcases hcase with ⟨rfl, rfl⟩ | ⟨rfl, hip⟩ | rfl
    · obtain ⟨rfl, huw⟩ := at_final HK.out HZK.out HA.out rfl
      simp only at huw
      have z1 : IntKind.i64.wrap (u + out) = wt := by rw [huw]; exact IntWalk.i64_in _ (by omega)
      have htx := text_any wD (Lst.touch HL.out (((HT4.out.then HX.out.touch)).then HTD.out)) A6 q c6 l ((HX.out.to HTD.out).own |> RdT.of_own).rd HLQ.out (by omega) HS.out
      have HTX := hide htx
      obtain ⟨s0, s1, s2⟩ := HBD.out.facts
      clear htx
      go_wp2_with fail
      rw [← HWD.out]
      refine HTX.out.mono ?_
      rintro e w7 ⟨rfl, T7⟩
      clear s0 s1 s2
      have hbD7 := HBD.out.touch T7 (fun f => f)
      rw [HD.out] at hbD7
      obtain ⟨s0, s1, s2⟩ := hbD7.facts
      have hbR := HB4.out.touch (HX.out.touch.then (HTD.out.then T7)) (fun f => f)
      obtain ⟨p0, p1, p2⟩ := hbR.facts
      have HBR := hide hbR
      have HT7 := hide T7
      clear hbD7 hbR T7
      go_wp2_with fail
      have hbf := (HBR.out.set_ 0 (.string ⟨(l.flatMap writeU).toArray⟩)).set_ 1 (.int .i64 wt)
      have f0 := hbf.cell 0
      have f1 := hbf.cell 1
      simp at f0 f1
      refine bodyPost_ret (v := .tuple #[.agg #[.string ⟨(l.flatMap writeU).toArray⟩, .int .i64 wt], .bool true]) (by simp [results, Tryd.results15, go_sem, f0, f1]) rfl ⟨rfl, ?_⟩
      have hRw : ¬ R < w.heap.size := by have := HRR.out; omega
      exact ((HT4.out.then (HX.out.touch.then (HTD.out.then HT7.out))).setCell (p := ⟨R, 0, none⟩) (fun h => absurd h hRw) _).setCell (p := ⟨R, 1, none⟩) (fun h => absurd h hRw) _
    · have har := at_arcs HK.out HZK.out HA.out (fun _ => hip)
      rw [if_pos rfl] at har
      have w0 : ((i : Int) == 0) = false := by simp; omega
      have w1 : ¬ (i : Int) = 0 := by omega
      have w2 : IntKind.i64.wrap ((i : Int) - 1) = (i : Int) - 1 := IntWalk.i64_in _ (by omega)
      have HAR := hide har
      obtain ⟨s0, s1, s2⟩ := HBD.out.facts
      clear har
      go_wp2_with fail
      rw [← HWD.out]
      clear x0 x1 x2 d0 d1 d2 s0 s1 s2 HA
      go_loopw [1, 6, 7, 8, 56] (fun iv lv av sv jv wr => ∃ (j i2 : Nat), iv = .int .i64 i2 ∧ lv = .slice A6 q c6 ∧ av = .int .i64 s ∧ sv = .int .i64 u ∧ jv = .int .i64 j ∧ j ≤ zn ∧ (i2 : Int) ≤ 4096 ∧ Hid (ArP k s j i2 l u O wt) ∧ Hid (Touch (fun _ => False) wD wr)) (fun _ _ _ _ jv _ => zn - (intOf jv).toNat)
      case atStart => exact ⟨0, i - 1, congrArg (Value.int .i64) (by omega), rfl, rfl, rfl, rfl, by omega, by omega, HAR, hide (Touch.refl _ _)⟩
      case round =>
        obtain ⟨j, i2, rfl, rfl, rfl, rfl, rfl, hjz, hi24, HARj, HTj⟩ := hrel
        have hjz2 : j < zn := by
          have h1 := ar_lt HK.out HZK.out HARj.out
          have h2 := HZO.out.len
          simp only at h1 h2
          omega
        have j1 : (j : Int) < (zn : Int) := by omega
        have j2 : (0 : Int) ≤ (j : Int) := by omega
        have hznm : zn ≤ maxLen := Nat.le_trans HZO.out.le HZO.out.mx
        have j3 : IntKind.i64.wrap ((j : Int) + 1) = (j : Int) + 1 := IntWalk.i64_in _ (by unfold maxLen at hznm; omega)
        have hTq := HTD.out.then HTj.out
        have hMq := HMR.out.quiet hTq
        obtain ⟨x0, x1, x2⟩ := hMq.blk.facts
        obtain ⟨ag, ao, hA2, _, e0, e1, e2⟩ := arc_at (HZO.out.rd.quiet hTq).rd HZO.out.len j hjz2
        subst hA2
        have ham := getD_mem arcs (0, 0, 0) j (by rw [HZO.out.len]; exact hjz2)
        obtain ⟨R', hR', hin, hout⟩ := ar_split HK.out HZK.out HARj.out (a := arcs.getD j (0, 0, 0)) rfl
        have hrs : (arcs.getD j (0, 0, 0)).2.2 < s ∧ 0 ≤ (arcs.getD j (0, 0, 0)).2.1 := by
          obtain ⟨R1, _, hR1, _⟩ := HARj.out
          have hc := HK.out.corr s R1 _ hR1 HZK.out
          exact ⟨(hc.arc _ ham).2.1, (arc_wt hc (HH.out R1 (List.mem_of_getElem? hR1)) ham).1⟩
        obtain ⟨⟨la, ua, tt⟩, hz⟩ : ∃ z, arcs.getD j (0, 0, 0) = z := ⟨_, rfl⟩
        rw [hz] at e0 e1 e2 hR' hin hrs
        simp only at e0 e1 e2 hR' hin hrs
        obtain ⟨m, hm⟩ : ∃ m, R'.length = m := ⟨_, rfl⟩
        rw [hm] at hin hout
        have hWt := HWL.out tt (by omega) R' hR'
        rw [hm] at hWt
        obtain ⟨wg, wo2, hwA, hwg, v0⟩ := word_cell hMq.wds hMq.len tt (by omega)
        subst hwA
        rw [hWt] at v0
        have k1 : (tt : Int) < (n : Int) := by omega
        have k2 : (0 : Int) ≤ (tt : Int) := by omega
        have hts := hrs.1
        have hua := hrs.2
        have HRS := hide hrs
        have HIN := hide hin
        have HOUT := hide hout
        clear hTq hMq ham hin hout hz hm hWt hR' hrs
        obtain ⟨wv, hwv⟩ : ∃ y, y = wr := ⟨_, rfl⟩
        subst hwv
        by_cases him : i2 < m
        · have m1 : (i2 : Int) < (m : Int) := by omega
          have hap := HIN.out him
          have hub := (at_bound HH.out hap).1
          have m2 : IntKind.i64.wrap (u + ua) = u + ua := IntWalk.i64_in _ (by omega)
          have HAP := hide hap
          clear hap hub
          go_wp2_with fail
          go_quiet (fail)
          obtain ⟨w8, hw8⟩ : ∃ x, x = World.drewN (wv.alloc (.cells #[.int .i32 la, .int .i64 ua, .int .i64 tt] 60)) nq := ⟨_, rfl⟩
          have hT8 : Touch (fun _ => False) wv w8 := by rw [hw8]; exact ((Touch.refl _ _).alloc _).drewN _
          obtain ⟨C, hC⟩ : ∃ C, C = wv.heap.size := ⟨_, rfl⟩
          have hb8 : Blk w8 C 60 #[.int .i32 la, .int .i64 ua, .int .i64 tt] := by rw [hw8, hC]; exact (Blk.new _ _ _).drewN _
          have hX8 := HX.out.to (HTD.out.then (HTj.out.then hT8))
          obtain ⟨r0, r1, r2⟩ := hb8.facts
          have hX9 := hX8.to ((Touch.refl (fun _ => False) w8).alloc (.cells #[.int .i32 la] 21))
          have hrd : Reads (w8.alloc (.cells #[.int .i32 la] 21)) 1 (some ⟨w8.heap.size, 0, none⟩) 1 [.int .i32 la] := Reads.new _ _ _ _ rfl
          have hone : ∀ u ∈ [Value.int .i32 (la : Int)], u.oneCell' = true := List.all_eq_true.1 rfl
          have hbb1 : q + 1 ≤ maxLen := by unfold maxLen; omega
          have hbb2 : (q + 1) * 4 ≤ 140737488355328 := by omega
          have hb9 := hb8.alloc (.cells #[.int .i32 la] 21)
          have hnb : some C ≠ (Value.slice A6 q c6).ownBlock := fun e => (own_ty hX9.own e.symm).ne (blk_ty hb9) (by decide) rfl
          have HX9 := hide hX9
          have HRD := hide hrd
          have HONE := hide hone
          have HBB := hide (And.intro hbb1 hbb2)
          have HB9 := hide hb9
          have HNB := hide hnb
          rw [← hw8, ← hC]
          clear hw8 hT8 hC hb8 hX8 hX9 hrd hone hbb1 hbb2 hb9 hnb
          go_wp2_with (at_builtin; refine wpList_app _ rfl (.tmp 70) (.tmp 73) 62 rfl 21 i1 _ 1 4 Tryd.underlying62 hi1 hy0 hy1 hy2 rfl (by decide) (.slice A6 q c6) q _ rfl HX9.out.own (some ⟨w8.heap.size, 0, none⟩) 1 1 [.int .i32 la] rfl HRD.out (fun h => by cases h) HONE.out HBB.out.1 HBB.out.2 ?_; intro v1 w10 O10 G10 F10 _; obtain ⟨A7, c7, hv, _, _⟩ := own_len O10; subst hv; have hbC := HB9.out.grown G10 HNB.out; clear r0 r1 r2; obtain ⟨r0, r1, r2⟩ := hbC.facts; have HX10 := hide (HX9.out.app O10 G10 F10); clear hbC O10 G10 F10)
          go_roundw
          · exact ⟨i2, tt, q + 1, l ++ [la], A7, c7, u + ua, rfl, by simp, rfl, rfl, by omega, by omega, by rw [List.length_append, HLQ.out]; rfl, HAP, hide (by rw [List.map_append]; exact HX10.out)⟩
          · simp only [intOf]; omega
        · have m1 : ¬ (i2 : Int) < (m : Int) := by omega
          have hax := HOUT.out (by omega)
          have HAX := hide hax
          have m2 : IntKind.i64.wrap ((i2 : Int) - (m : Int)) = (i2 : Int) - (m : Int) := IntWalk.i64_in _ (by omega)
          clear hax
          go_wp2_with fail
          go_quiet (fail)
          go_wp2_with fail
          go_quiet (fail)
          go_wp2_with fail
          go_roundw
          · exact ⟨j + 1, i2 - m, congrArg (Value.int .i64) (by omega), rfl, rfl, rfl, by simp, by omega, by omega, HAX, hide ((HTj.out.alloc _).drewN _)⟩
          · simp only [intOf]; omega
    · have har := at_arcs HK.out HZK.out HA.out (fun h => by cases h)
      simp only [Bool.false_eq_true, if_false] at har
      have HAR := hide har
      obtain ⟨s0, s1, s2⟩ := HBD.out.facts
      clear har
      go_wp2_with fail
      rw [← HWD.out]
      clear x0 x1 x2 d0 d1 d2 s0 s1 s2 HA
      go_loopw [1, 6, 7, 8, 56] (fun iv lv av sv jv wr => ∃ (j i2 : Nat), iv = .int .i64 i2 ∧ lv = .slice A6 q c6 ∧ av = .int .i64 s ∧ sv = .int .i64 u ∧ jv = .int .i64 j ∧ j ≤ zn ∧ (i2 : Int) ≤ 4096 ∧ Hid (ArP k s j i2 l u O wt) ∧ Hid (Touch (fun _ => False) wD wr)) (fun _ _ _ _ jv _ => zn - (intOf jv).toNat)
      case atStart => exact ⟨0, i, congrArg (Value.int .i64) (by omega), rfl, rfl, rfl, rfl, by omega, by omega, HAR, hide (Touch.refl _ _)⟩
      case round =>
        obtain ⟨j, i2, rfl, rfl, rfl, rfl, rfl, hjz, hi24, HARj, HTj⟩ := hrel
        have hjz2 : j < zn := by
          have h1 := ar_lt HK.out HZK.out HARj.out
          have h2 := HZO.out.len
          simp only at h1 h2
          omega
        have j1 : (j : Int) < (zn : Int) := by omega
        have j2 : (0 : Int) ≤ (j : Int) := by omega
        have hznm : zn ≤ maxLen := Nat.le_trans HZO.out.le HZO.out.mx
        have j3 : IntKind.i64.wrap ((j : Int) + 1) = (j : Int) + 1 := IntWalk.i64_in _ (by unfold maxLen at hznm; omega)
        have hTq := HTD.out.then HTj.out
        have hMq := HMR.out.quiet hTq
        obtain ⟨x0, x1, x2⟩ := hMq.blk.facts
        obtain ⟨ag, ao, hA2, _, e0, e1, e2⟩ := arc_at (HZO.out.rd.quiet hTq).rd HZO.out.len j hjz2
        subst hA2
        have ham := getD_mem arcs (0, 0, 0) j (by rw [HZO.out.len]; exact hjz2)
        obtain ⟨R', hR', hin, hout⟩ := ar_split HK.out HZK.out HARj.out (a := arcs.getD j (0, 0, 0)) rfl
        have hrs : (arcs.getD j (0, 0, 0)).2.2 < s ∧ 0 ≤ (arcs.getD j (0, 0, 0)).2.1 := by
          obtain ⟨R1, _, hR1, _⟩ := HARj.out
          have hc := HK.out.corr s R1 _ hR1 HZK.out
          exact ⟨(hc.arc _ ham).2.1, (arc_wt hc (HH.out R1 (List.mem_of_getElem? hR1)) ham).1⟩
        obtain ⟨⟨la, ua, tt⟩, hz⟩ : ∃ z, arcs.getD j (0, 0, 0) = z := ⟨_, rfl⟩
        rw [hz] at e0 e1 e2 hR' hin hrs
        simp only at e0 e1 e2 hR' hin hrs
        obtain ⟨m, hm⟩ : ∃ m, R'.length = m := ⟨_, rfl⟩
        rw [hm] at hin hout
        have hWt := HWL.out tt (by omega) R' hR'
        rw [hm] at hWt
        obtain ⟨wg, wo2, hwA, hwg, v0⟩ := word_cell hMq.wds hMq.len tt (by omega)
        subst hwA
        rw [hWt] at v0
        have k1 : (tt : Int) < (n : Int) := by omega
        have k2 : (0 : Int) ≤ (tt : Int) := by omega
        have hts := hrs.1
        have hua := hrs.2
        have HRS := hide hrs
        have HIN := hide hin
        have HOUT := hide hout
        clear hTq hMq ham hin hout hz hm hWt hR' hrs
        obtain ⟨wv, hwv⟩ : ∃ y, y = wr := ⟨_, rfl⟩
        subst hwv
        by_cases him : i2 < m
        · have m1 : (i2 : Int) < (m : Int) := by omega
          have hap := HIN.out him
          have hub := (at_bound HH.out hap).1
          have m2 : IntKind.i64.wrap (u + ua) = u + ua := IntWalk.i64_in _ (by omega)
          have HAP := hide hap
          clear hap hub
          go_wp2_with fail
          go_quiet (fail)
          obtain ⟨w8, hw8⟩ : ∃ x, x = World.drewN (wv.alloc (.cells #[.int .i32 la, .int .i64 ua, .int .i64 tt] 60)) nq := ⟨_, rfl⟩
          have hT8 : Touch (fun _ => False) wv w8 := by rw [hw8]; exact ((Touch.refl _ _).alloc _).drewN _
          obtain ⟨C, hC⟩ : ∃ C, C = wv.heap.size := ⟨_, rfl⟩
          have hb8 : Blk w8 C 60 #[.int .i32 la, .int .i64 ua, .int .i64 tt] := by rw [hw8, hC]; exact (Blk.new _ _ _).drewN _
          have hX8 := HX.out.to (HTD.out.then (HTj.out.then hT8))
          obtain ⟨r0, r1, r2⟩ := hb8.facts
          have hX9 := hX8.to ((Touch.refl (fun _ => False) w8).alloc (.cells #[.int .i32 la] 21))
          have hrd : Reads (w8.alloc (.cells #[.int .i32 la] 21)) 1 (some ⟨w8.heap.size, 0, none⟩) 1 [.int .i32 la] := Reads.new _ _ _ _ rfl
          have hone : ∀ u ∈ [Value.int .i32 (la : Int)], u.oneCell' = true := List.all_eq_true.1 rfl
          have hbb1 : q + 1 ≤ maxLen := by unfold maxLen; omega
          have hbb2 : (q + 1) * 4 ≤ 140737488355328 := by omega
          have hb9 := hb8.alloc (.cells #[.int .i32 la] 21)
          have hnb : some C ≠ (Value.slice A6 q c6).ownBlock := fun e => (own_ty hX9.own e.symm).ne (blk_ty hb9) (by decide) rfl
          have HX9 := hide hX9
          have HRD := hide hrd
          have HONE := hide hone
          have HBB := hide (And.intro hbb1 hbb2)
          have HB9 := hide hb9
          have HNB := hide hnb
          rw [← hw8, ← hC]
          clear hw8 hT8 hC hb8 hX8 hX9 hrd hone hbb1 hbb2 hb9 hnb
          go_wp2_with (at_builtin; refine wpList_app _ rfl (.tmp 70) (.tmp 73) 62 rfl 21 i1 _ 1 4 Tryd.underlying62 hi1 hy0 hy1 hy2 rfl (by decide) (.slice A6 q c6) q _ rfl HX9.out.own (some ⟨w8.heap.size, 0, none⟩) 1 1 [.int .i32 la] rfl HRD.out (fun h => by cases h) HONE.out HBB.out.1 HBB.out.2 ?_; intro v1 w10 O10 G10 F10 _; obtain ⟨A7, c7, hv, _, _⟩ := own_len O10; subst hv; have hbC := HB9.out.grown G10 HNB.out; clear r0 r1 r2; obtain ⟨r0, r1, r2⟩ := hbC.facts; have HX10 := hide (HX9.out.app O10 G10 F10); clear hbC O10 G10 F10)
          go_roundw
          · exact ⟨i2, tt, q + 1, l ++ [la], A7, c7, u + ua, rfl, by simp, rfl, rfl, by omega, by omega, by rw [List.length_append, HLQ.out]; rfl, HAP, hide (by rw [List.map_append]; exact HX10.out)⟩
          · simp only [intOf]; omega
        · have m1 : ¬ (i2 : Int) < (m : Int) := by omega
          have hax := HOUT.out (by omega)
          have HAX := hide hax
          have m2 : IntKind.i64.wrap ((i2 : Int) - (m : Int)) = (i2 : Int) - (m : Int) := IntWalk.i64_in _ (by omega)
          clear hax
          go_wp2_with fail
          go_quiet (fail)
          go_wp2_with fail
          go_quiet (fail)
          go_wp2_with fail
          go_roundw
          · exact ⟨j + 1, i2 - m, congrArg (Value.int .i64) (by omega), rfl, rfl, rfl, by simp, by omega, by omega, HAX, hide ((HTj.out.alloc _).drewN _)⟩
          · simp only [intOf]; omega

end Go.Proofs.YtnakpadjlamdeaaDoor
