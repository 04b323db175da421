/- BestKeeps: the walk. -/
import Derived.Test.YtcencmjdhaejcaaSelW
import Derived.Test.YtcencmjdhaejcaaBetterW
import Derived.Deep.CutRange
namespace Go.Proofs.Ytcencmjdhaejcaa
open Go.RowKit

theorem Kep.old {w : World} {p most : Nat} {v : Value} {S : List MRow} (h : Kep w p most v S) (g : Nat) (hg : pfp p v g) : g < w.heap.size := by
  obtain ⟨H, hp, _, _⟩ := h.ex
  rcases hg with rfl | hg
  · exact hp.blk.lt
  · rcases hp.own.2 with ⟨rfl, _⟩ | ⟨g', cap, cur, rfl, _, hgg, _⟩
    · simp [Value.ownBlock] at hg
    · simp [Value.ownBlock] at hg
      subst hg
      exact (Array.getElem?_eq_some_iff.1 hgg).1

set_option maxRecDepth 100000 in
set_option maxHeartbeats 1000000 in
theorem keeps_walk (W : World) (A : Option Addr) (n c : Nat) (L : List MRow) (hL : L.length = n) (hR : Reads W 3 A n (mCells L)) (hn : n ≤ maxLen) (hW : ∀ r ∈ L, r.Wf) (hnc : n ≤ c) (kk : Int) :
    Calls Try.prog 9 #[.slice A n c, .int .i64 kk] W fun e W' => e = .returned (.bool true) ∧ Below W.heap.size W W' := by
  have HR := hide hR
  have HL := hide hL
  have HN := hide hn
  have HW := hide hW
  obtain ⟨q, hq⟩ : ∃ q, q = mostN kk := ⟨_, rfl⟩
  obtain ⟨p, hp⟩ : ∃ p, p = W.heap.size := ⟨_, rfl⟩
  have hq64 : q ≤ 64 := by rw [hq]; exact mostN_le kk
  have HQ := hide hq
  have HP := hide hp
  clear hR hL hW hq hp
  unfold maxLen at hn
  go_enter Try.func9, Try.ntmps9
  go_wp2_with fail
  refine (new_any kk W).mono ?_
  rw [← HQ.out, ← HP.out]
  rintro e w1 ⟨rfl, K1, T1⟩
  have HK1 := hide K1
  have HT1 := hide T1
  clear K1 T1
  go_wp2_with fail
  refine (alive_any w1).mono ?_
  rintro e w2 ⟨rfl, T2⟩
  have HK2 := hide (HK1.out.touch T2 (fun _ _ _ f => f))
  have HT2 := hide (HT1.out.then T2)
  clear T2
  by_cases h300 : 300 < n
  · go_wp2
    go_ret
    exact ⟨rfl, HT2.out.below (Nat.le_refl _) (fun _ _ f => f)⟩
  · go_upto_region 6 with fail
    go_cut [6] from 25 to 27 (fun s w => s = .int .i64 (q : Int) ∧ w = w2)
    case first =>
      go_wp2
      all_goals go_meet
      all_goals refine ⟨?_, rfl⟩
      all_goals (congr 1; rw [HQ.out, mostN_int]; omega)
    case rest =>
      obtain ⟨rfl, hcw⟩ := hcut; obtain rfl := hcw.symm; clear hcw
      go_wp2_with fail
      go_loopw [30] (fun i wr => ∃ k : Nat, k ≤ n ∧ i = .int .i64 k ∧ Hid (∃ vr, Kep wr p q vr (bestL (L.take k) q) ∧ Touch (fun _ => False) W wr ∧ ∀ g, pfp p vr g → W.heap.size ≤ g)) (fun i _ => n - (intOf i).toNat)
      case atStart =>
        refine ⟨0, Nat.zero_le _, rfl, hide ⟨.slice none 0 0, ?_, HT2.out, ?_⟩⟩
        · have e : bestL (L.take 0) q = [] := by simp [bestL, sortL]
          rw [e]
          exact HK2.out
        · rintro g (e | e)
          · rw [e, HP.out]; exact Nat.le_refl _
          · simp [Value.ownBlock] at e
      case round =>
        obtain ⟨k, hk, rfl, HE⟩ := hrel
        obtain ⟨vr, K3, T3, F3⟩ := HE.out
        have HK3 := hide K3
        have HT3 := hide T3
        have HF3 := hide F3
        clear K3 T3 F3 HE
        by_cases hkn : k < n
        · obtain ⟨gl, ol, hAl, hgl, c0, c1, c2⟩ := reads_at (HR.out.touch HT3.out (fun _ _ f => f)) HL.out.symm k hkn
          subst hAl
          obtain ⟨O, hO⟩ : ∃ x, x = bestL (L.take k) q := ⟨_, rfl⟩
          obtain ⟨N, hN⟩ : ∃ x, x = bestL (L.take (k + 1)) q := ⟨_, rfl⟩
          obtain ⟨⟨xw, xn, xd⟩, hx⟩ : ∃ x, x = L.getD k MRow.zero := ⟨_, rfl⟩
          have hNO : N = (ins ⟨xw, xn, xd⟩ O).take q := by rw [hN, hO, hx]; exact bestL_take L k (by rw [HL.out]; exact hkn) q
          have hOl : O.length = min q k := by rw [hO, bestL_len, List.length_take, HL.out]; omega
          have hNl : N.length = min q (k + 1) := by rw [hN, bestL_len, List.length_take, HL.out]; omega
          have HXW : Hid (MRow.Wf ⟨xw, xn, xd⟩) := hide (by rw [hx]; exact HW.out _ (getD_mem L k (by rw [HL.out]; exact hkn)))
          have HOW : Hid (∀ i, i < O.length → (O.getD i MRow.zero).Wf) := hide (fun i hi => HW.out _ (bestL_mem (by rw [← hO]; exact getD_mem O i hi)))
          rw [← hx] at c0 c1 c2
          rw [← hO] at HK3
          simp only at c0 c1 c2
          obtain ⟨bt, hbt⟩ : ∃ x, x = addB ⟨xw, xn, xd⟩ O q := ⟨_, rfl⟩
          have HBT := hide hbt
          have HO := hide hO
          have HNN := hide hN
          have HNO := hide hNO
          have HOL := hide hOl
          have HNL := hide hNl
          have n0 : (k : Int) < (n : Int) := by omega
          have n1 : (k : Int) ≤ (c : Int) := by omega
          have n2 : k ≤ c := by omega
          have n3 : (k : Int) + 1 ≤ (c : Int) := by omega
          have n4 : k + 1 ≤ c := by omega
          obtain ⟨b8, hb8⟩ : ∃ x, x = wr.heap.size := ⟨_, rfl⟩
          obtain ⟨wa, hwa⟩ : ∃ x, x = wr.alloc (.cells #[.string xw, .int .i64 xn, .int .i64 xd] 23) := ⟨_, rfl⟩
          have HB8 := hide hb8
          have HWA := hide hwa
          have TA : Touch (fun _ => False) wr wa := by rw [hwa]; exact (Touch.refl _ _).alloc _
          have BA : Blk wa b8 23 #[.string xw, .int .i64 xn, .int .i64 xd] := by rw [hwa, hb8]; exact Blk.new _ _ _
          have HTA := hide (HT3.out.then TA)
          have HBA := hide BA
          have HKA := hide (HK3.out.touch TA (fun _ _ _ f => f))
          clear hO hN hNO hOl hNl hbt hx hb8 hwa TA BA HK3
          go_wp2_with fail
          rw [← HWA.out, ← HB8.out]
          have RT := (HR.out.touch HTA.out (fun _ _ f => f)).take (k := k) (by omega)
          rw [mCells_take] at RT
          refine (rbest_any wa _ k c (L.take k) (by rw [List.length_take, HL.out]; omega) RT (by unfold maxLen; omega) (fun r hr => HW.out r (List.mem_of_mem_take hr)) kk).mono ?_
          clear RT
          rw [← HQ.out]
          rintro e w9 ⟨A9, m9, c9, hm9, hmc9, hc9, rfl, R9, T9, _⟩
          rw [← HO.out] at hm9 R9
          have HT9 := hide (HTA.out.then T9)
          have HB9 := hide (HBA.out.touch T9 (fun f => f))
          have HK9 := hide (HKA.out.touch T9 (fun _ _ _ f => f))
          have HR9 := hide R9
          have HM9 := hide hm9
          have h9 : m9 = min q k := by rw [hm9, HOL.out]
          have H9 := hide h9
          unfold maxLen at hc9
          clear hm9 R9 T9 h9 c0 c1 c2
          go_upto_region 11 with fail
          go_cut [10, 30] from 30 to 98 (fun s10 s30 w => s10 = .bool bt ∧ s30 = .int .i64 (k : Int) ∧ Hid (Touch (fun _ => False) w9 w))
          case first =>
            have h9 := H9.out
            by_cases g1 : m9 < q
            · have hb : bt = true := by
                rw [HBT.out, addB, ← HM9.out]
                simp [g1]
              subst hb
              have g2 : (m9 : Int) < (q : Int) := by omega
              have g3 : decide (m9 < q) = true := by simp; omega
              clear h9
              go_quiet (fail)
              go_wp2
              go_meet
              exact ⟨rfl, rfl, hide ((Touch.refl _ _).drewN _)⟩
            · have g3 : decide (m9 < q) = false := by simp; omega
              by_cases g4 : q = 0
              · have hb : bt = false := by
                  rw [HBT.out, addB, ← HM9.out]
                  simp [g4]
                subst hb
                have g5 : decide (0 < q) = false := by simp; omega
                have g6 : ¬ (0 : Int) < (q : Int) := by omega
                have g2 : ¬ (m9 : Int) < (q : Int) := by omega
                clear h9 g4 g1
                go_quiet (fail)
                go_wp2
                go_meet
                exact ⟨rfl, rfl, hide ((Touch.refl _ _).drewN _)⟩
              · obtain ⟨r, hr⟩ : ∃ r, q = r + 1 := ⟨q - 1, by omega⟩
                have hb : bt = better ⟨xw, xn, xd⟩ (O.getD r MRow.zero) := by
                  rw [HBT.out, addB, ← HM9.out]
                  have e : q - 1 = r := by omega
                  rw [e]
                  simp [g1]
                  omega
                have g5 : decide (0 < q) = true := by simp; omega
                have g7 : (q : Int) - 1 = (r : Int) := by omega
                have g8 : (r : Int) < (m9 : Int) := by omega
                have g9 : r < m9 := by omega
                have g10 : (r : Int) ≤ 64 := by omega
                have g11 : IntKind.i64.wrap (r : Int) = (r : Int) := IntWalk.i64_in _ (by omega)
                obtain ⟨gs, os, hAs, hgs, d0, d1, d2⟩ := reads_at HR9.out HM9.out r g9
                subst hAs
                obtain ⟨⟨yw, yn, yd⟩, hy⟩ : ∃ x, x = O.getD r MRow.zero := ⟨_, rfl⟩
                have HYW : Hid (MRow.Wf ⟨yw, yn, yd⟩) := hide (by rw [hy]; exact HOW.out r (by rw [← HM9.out]; exact g9))
                rw [← hy] at d0 d1 d2 hb
                simp only at d0 d1 d2
                obtain ⟨e0, e1, e2⟩ : w9.cell? ⟨b8, 0, none⟩ = some (.string xw) ∧ w9.cell? ⟨b8, 1, none⟩ = some (.int .i64 xn) ∧ w9.cell? ⟨b8, 2, none⟩ = some (.int .i64 xd) := ⟨HB9.out.cell 0, HB9.out.cell 1, HB9.out.cell 2⟩
                have HBE := hide hb
                clear h9 g4 g1 hr hy hb
                go_wp2_with fail
                go_still_tail 14, (by kernel_rfl)
                change wpList _ _ _ _ _ w9.drew
                have HD : Hid (Touch (fun _ => False) w9 w9.drew) := hide (Touch.refl _ _).drew
                generalize w9.drew = wd at HD ⊢
                go_wp2_with fail
                refine (rbetter_any ⟨xw, xn, xd⟩ ⟨yw, yn, yd⟩ HXW.out HYW.out wd).mono ?_
                rw [← HBE.out]
                rintro e we ⟨rfl, TE⟩
                have HTE := hide (HD.out.then TE)
                clear TE
                go_wp2_with fail
                go_meet
                exact ⟨rfl, rfl, HTE⟩
          case rest =>
            obtain ⟨rfl, rfl, HTC⟩ := hcut
            have HT10 := hide (HT9.out.then HTC.out)
            have HK10 := hide (HK9.out.touch HTC.out (fun _ _ _ f => f))
            have HB10 := hide (HB9.out.touch HTC.out (fun f => f))
            go_wp2_with fail
            have RT := (HR.out.touch HT10.out (fun _ _ f => f)).take (k := k + 1) (by omega)
            rw [mCells_take] at RT
            refine (rbest_any wc _ (k + 1) c (L.take (k + 1)) (by rw [List.length_take, HL.out]; omega) RT (by unfold maxLen; omega) (fun r hr => HW.out r (List.mem_of_mem_take hr)) kk).mono ?_
            clear RT
            rw [← HQ.out]
            rintro e w11 ⟨A11, m11, c11, hm11, hmc11, hc11, rfl, R11, T11, F11⟩
            rw [← HNN.out] at hm11 R11
            have HT11 := hide (HT10.out.then T11)
            have hB := HB10.out.touch T11 (fun f => f)
            obtain ⟨e0, e1, e2⟩ : w11.cell? ⟨b8, 0, none⟩ = some (.string xw) ∧ w11.cell? ⟨b8, 1, none⟩ = some (.int .i64 xn) ∧ w11.cell? ⟨b8, 2, none⟩ = some (.int .i64 xd) := ⟨hB.cell 0, hB.cell 1, hB.cell 2⟩
            have HK11 := hide (HK10.out.touch T11 (fun _ _ _ f => f))
            have HR11 := hide R11
            have HM11 := hide hm11
            have h11 : m11 = min q (k + 1) := by rw [hm11, HNL.out]
            have H11 := hide h11
            have HF11 := hide F11
            unfold maxLen at hc11
            clear hm11 R11 T11 h11 F11 hB
            go_wp2_with fail
            refine (add_any w11 p q vr O HK11.out ⟨xw, xn, xd⟩).mono ?_
            rw [← HBT.out]
            rintro e w12 ⟨rfl, v12, K12, T12, F12⟩
            rw [← HNO.out] at K12
            have HK12 := hide K12
            have HT12 := hide (HT11.out.trans T12 (fun i hi hp => by have := HF3.out i hp; omega))
            have HR12 := hide (HR11.out.touch T12 (fun g hg hp => by
              have h1 := HF11.out g hg
              have h2 := HK10.out.old g hp
              omega))
            have HF12 : Hid (∀ g, pfp p v12 g → W.heap.size ≤ g) := hide (by
              rintro g' (e | e)
              · rw [e, HP.out]; exact Nat.le_refl _
              · rcases F12 with q' | ⟨g2, q', hq⟩
                · rw [q'] at e; exact HF3.out g' (.inr e)
                · rw [q'] at e
                  injection e with e
                  have h1 := HT11.out.size
                  omega)
            clear K12 T12 F12 e0 e1 e2
            go_wp2_with fail
            refine (klen_any w12 p q v12 N HK12.out).mono ?_
            rw [← HM11.out]
            rintro e w13 ⟨rfl, rfl⟩
            go_wp2_with fail
            have h11 := H11.out
            by_cases h0 : m11 = 0
            · have hN0 : N = [] := List.eq_nil_of_length_eq_zero (by rw [← HM11.out]; exact h0)
              have HKN : Hid (Kep w12 p q v12 []) := hide (by rw [← hN0]; exact HK12.out)
              clear hN0
              subst h0
              clear h11
              refine (worst_none w12 p q v12 HKN.out).mono ?_
              have hz0 : MRow.zero.val = .agg #[.string ByteArray.empty, .int .i64 0, .int .i64 0] := rfl
              rw [hz0]
              clear hz0
              rintro e w14 ⟨rfl, T14⟩
              have HT14 := hide (HT12.out.then T14)
              have HK14 := hide (HK12.out.touch T14 (fun _ _ _ f => f))
              clear T14
              go_wp2_with fail
              go_quiet (fail)
              obtain ⟨wz, hwz⟩ : ∃ wz, wz = (w14.alloc (.cells #[.string ByteArray.empty, .int .i64 0, .int .i64 0] 23)).drewN nq := ⟨_, rfl⟩
              have tz : Touch (fun _ => False) w14 wz := by rw [hwz]; exact ((Touch.refl _ _).alloc _).drewN _
              have HTZ := hide tz
              rw [← hwz]
              clear hwz tz
              go_wp2
              go_roundw
              · exact ⟨k + 1, by omega, by simp, hide ⟨v12, by rw [← HNN.out]; exact HK14.out.touch HTZ.out (fun _ _ _ f => f), HT14.out.then HTZ.out, HF12.out⟩⟩
              · show n - (intOf (.int .i64 ((k : Int) + 1))).toNat < n - (intOf (.int .i64 (k : Int))).toNat
                simp [intOf]
                omega
            · obtain ⟨r, hr⟩ : ∃ r, m11 = r + 1 := ⟨m11 - 1, by omega⟩
              have g5 : decide (0 < m11) = true := by simp; omega
              have g6 : decide ((0 : Int) < (m11 : Int)) = true := by simp; omega
              have g7 : (m11 : Int) - 1 = (r : Int) := by omega
              have g9 : r < m11 := by omega
              have g10 : (r : Int) ≤ 64 := by omega
              have g11 : IntKind.i64.wrap (r : Int) = (r : Int) := IntWalk.i64_in _ (by omega)
              obtain ⟨⟨zw, zn, zd⟩, hz⟩ : ∃ x, x = N.getD r MRow.zero := ⟨_, rfl⟩
              have HZ := hide hz
              have HRR := hide hr
              refine (worst_some w12 p q v12 N HK12.out r (by rw [← HM11.out]; exact hr)).mono ?_
              rw [← hz, val_cells]
              rintro e w14 ⟨rfl, T14⟩
              have HT14 := hide (HT12.out.then T14)
              have HK14 := hide (HK12.out.touch T14 (fun _ _ _ f => f))
              obtain ⟨gs, os, hAs, hgs, d0, d1, d2⟩ := reads_at (HR12.out.touch T14 (fun _ _ f => f)) HM11.out r g9
              subst hAs
              rw [← hz] at d0 d1 d2
              simp only at d0 d1 d2
              clear T14 hz hr h0 h11
              go_wp2_with fail
              go_quiet (fail)
              obtain ⟨wz, hwz⟩ : ∃ wz, wz = (w14.alloc (.cells #[.string zw, .int .i64 zn, .int .i64 zd] 23)).drewN nq := ⟨_, rfl⟩
              have tz : Touch (fun _ => False) w14 wz := by rw [hwz]; exact ((Touch.refl _ _).alloc _).drewN _
              have HTZ := hide tz
              rw [← hwz]
              clear hwz tz
              go_wp2
              go_roundw
              · exact ⟨k + 1, by omega, by simp, hide ⟨v12, by rw [← HNN.out]; exact HK14.out.touch HTZ.out (fun _ _ _ f => f), HT14.out.then HTZ.out, HF12.out⟩⟩
              · show n - (intOf (.int .i64 ((k : Int) + 1))).toNat < n - (intOf (.int .i64 (k : Int))).toNat
                simp [intOf]
                omega
        · have hkn' : k = n := by omega
          subst hkn'
          have e : L.take k = L := List.take_of_length_le (by rw [HL.out]; exact Nat.le_refl _)
          have K4 := HK3.out
          rw [e] at K4
          obtain ⟨S, hS⟩ : ∃ S, S = bestL L q := ⟨_, rfl⟩
          obtain ⟨m, hm⟩ : ∃ m, m = S.length := ⟨_, rfl⟩
          rw [← hS] at K4
          have HK4 := hide K4
          have HS := hide hS
          have HM := hide hm
          clear K4 hS hm e HK3
          go_wp2_with fail
          refine (take_any wr p q vr S m HM.out.symm HK4.out).mono ?_
          rintro e w4 ⟨rfl, O4, v4, K4, T4, F4⟩
          have HK5 := hide K4
          have HO4 := hide O4
          have HF4 := hide F4
          have HT4 := hide (HT3.out.trans T4 (fun i hi hp => by have := HF3.out i hp; omega))
          clear K4 O4 T4 F4
          go_wp2_with fail
          refine (rbest_any w4 A k c L HL.out (HR.out.touch HT4.out (fun _ _ f => f)) HN.out HW.out kk).mono ?_
          rw [← HQ.out]
          rintro e w5 ⟨A5, m5, c5, hm5, _, hc5, rfl, R5, T5, F5⟩
          rw [← HS.out] at hm5 R5
          have hm5' : m5 = m := hm5.trans HM.out.symm
          subst hm5'
          have HT5 := hide (HT4.out.then T5)
          have HK6 := hide (HK5.out.touch T5 (fun _ _ _ f => f))
          have HR5 := hide R5
          have HO5 := hide (own_touch HO4.out T5 (fun _ _ f => f))
          clear hm5 hc5 R5 T5 F5
          go_wp2_with fail
          refine (same_yes w5 _ m5 m5 S HM.out.symm (Reads.of_own HO5.out) (own_le HO5.out) _ _ HR5.out).mono ?_
          rintro e w6 ⟨rfl, T6⟩
          have HT6 := hide (HT5.out.then T6)
          have HK7 := hide (HK6.out.touch T6 (fun _ _ _ f => f))
          clear T6
          go_wp2_with fail
          refine (klen_any w6 p q v4 [] HK7.out).mono ?_
          rintro e w7 ⟨rfl, rfl⟩
          go_wp2
          go_ret
          exact ⟨rfl, HT6.out.below (Nat.le_refl _) (fun _ _ f => f)⟩

end Go.Proofs.Ytcencmjdhaejcaa
