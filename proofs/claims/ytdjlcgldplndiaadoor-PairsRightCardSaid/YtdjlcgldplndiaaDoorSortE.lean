/- The sort's parts: a merge in place, one element to the right. No condition but that the row is the program's own. -/
import Derived.Test.YtdjlcgldplndiaaDoorSortD
namespace Go.Proofs.YtdjlcgldplndiaaDoor
open Go.RowKit

set_option maxRecDepth 100000 in
set_option maxHeartbeats 2000000 in
theorem sm_last (w : World) (A : Option Addr) (n c : Nat) (P L Q : List PRow) (x : PRow) (h : POwn w A n c (P ++ (L ++ (x :: Q)))) (a m b : Nat) (ha : a = P.length) (hm : m = a + L.length) (hb : b = m + 1) (hL1 : L.length ≠ 1) (hL : SrtP L) (hn62 : n ≤ 5864062014700) :
    Calls Tryd.prog 50 #[.slice A n c, .int .i64 a, .int .i64 m, .int .i64 b, cmpF] w fun e w' => e = .returned (.tuple #[]) ∧ (∃ Z, POwn w' A n c (P ++ (Z ++ Q)) ∧ SrtP Z ∧ SameK (L ++ [x]) Z) ∧ Touch (fun g => adBlock A = some g) w w' := by
  have hl := pown_len h
  simp only [List.length_append, List.length_cons] at hl
  obtain ⟨X, hX⟩ : ∃ X, X = P ++ (L ++ (x :: Q)) := ⟨_, rfl⟩
  rw [← hX] at h
  have hn := own_le h
  unfold maxLen at hn
  have HX := hide h
  have HE := hide hX
  have HA := hide ha
  have HB := hide hb
  have HL := hide hL
  have HM := hide hm
  have hbn : m < n := by omega
  have ham : a ≤ m := by omega
  have x0 : ((m : Int) - (a : Int) == 1) = false := by simp; omega
  have x1 : ((b : Int) - (m : Int) == 1) = true := by simp; omega
  have x2 : (b : Int) - (m : Int) = 1 := by omega
  have x3 : b ≤ n := by omega
  clear h hX ha hb hl hL hm hL1
  go_enter Tryd.func50, Tryd.ntmps50
  go_wp2
  go_loopw [14, 15] (fun iv jv wr => ∃ i j : Nat, iv = .int .i64 i ∧ jv = .int .i64 j ∧ a ≤ i ∧ i ≤ j ∧ j ≤ m ∧ Hid (POwn wr A n c X) ∧ Hid ((i = a ∨ plt x (X.getD (i - 1) PRow.zero) = false) ∧ (j = m ∨ plt x (X.getD j PRow.zero) = true)) ∧ Hid (Touch (fun _ => False) w wr)) (fun iv jv _ => (intOf jv).toNat - (intOf iv).toNat)
  case atStart => exact ⟨a, m, rfl, rfl, Nat.le_refl _, ham, Nat.le_refl _, HX, hide ⟨.inl rfl, .inl rfl⟩, hide (Touch.refl _ _)⟩
  case round =>
    obtain ⟨i, j, rfl, rfl, hmi, hij, hjb, HO, HI, HT⟩ := hrel
    by_cases h0 : i < j
    · have y0 : (i : Int) < (j : Int) := by omega
      obtain ⟨h, hh⟩ : ∃ h, h = (i + j) / 2 := ⟨_, rfl⟩
      have y1 : ((i : Int) + (j : Int)) / 2 = (h : Int) := by omega
      have y2 : h < n := by omega
      have y3 : (h : Int) < (n : Int) := by omega
      have y4 : (m : Int) < (n : Int) := by omega
      have y5 : IntKind.i64.wrap (h : Int) = (h : Int) := IntWalk.i64_in _ (by omega)
      have y6 : IntKind.i64.wrap (m : Int) = (m : Int) := IntWalk.i64_in _ (by omega)
      have y7 : i ≤ h := by omega
      have y8 : h < j := by omega
      have hl := pown_len HO.out
      obtain ⟨g, hA0, hg, a0, a1, f0, f1⟩ := pown_at HO.out hl h y2
      subst hA0
      obtain ⟨g', hA, _, b0, b1, f3, f4⟩ := pown_at HO.out hl m hbn
      injection hA with hA
      injection hA with hA _
      subst hA
      have ex : X.getD m PRow.zero = x := by
        have l1 : (P ++ L).length = m := by have := HM.out; have := HA.out; rw [List.length_append]; omega
        rw [HE.out, ← List.append_assoc, ← l1, getD_mid]
      rw [ex] at b0 b1
      obtain ⟨⟨zw, zn⟩, hz⟩ : ∃ r, r = X.getD h PRow.zero := ⟨_, rfl⟩
      rw [← hz] at a0 a1
      have EZ := hide hz
      obtain ⟨⟨xw, xn⟩, hx⟩ : ∃ r, r = x := ⟨_, rfl⟩
      rw [← hx] at b0 b1
      have EX := hide hx
      simp only at a0 a1 b0 b1
      clear hl ex hz hx hh
      cases hb : plt ⟨xw, xn⟩ ⟨zw, zn⟩ with
      | true =>
        have HPB := hide hb
        clear hb
        go_wp2_with fail
        go_still_tail 9, (by kernel_rfl)
        change wpList _ _ _ _ _ wr.drew
        have HD : Hid (Touch (fun _ => False) wr wr.drew) := hide (Touch.refl _ _).drew
        generalize wr.drew = wd at HD ⊢
        go_wp2_with (go_at_call 37; refine (cmp_any ⟨xw, xn⟩ ⟨zw, zn⟩ wd).mono ?_; rw [HPB.out]; rintro e w2 ⟨⟨z, rfl, hz⟩, T2⟩; have HT2 := hide (HT.out.then (HD.out.then T2)); have HO2 := hide (own_touch HO.out (HD.out.then T2) (fun _ _ f => f)); clear T2)
        go_roundw
        · refine ⟨i, h, rfl, rfl, hmi, y7, by omega, HO2, hide ⟨HI.out.1, .inr ?_⟩, HT2⟩
          rw [← EZ.out, ← EX.out]
          exact HPB.out
        · show (h : Int).toNat - (i : Int).toNat < (j : Int).toNat - (i : Int).toNat
          omega
      | false =>
        have HPB := hide hb
        clear hb
        go_wp2_with fail
        go_still_tail 9, (by kernel_rfl)
        change wpList _ _ _ _ _ wr.drew
        have HD : Hid (Touch (fun _ => False) wr wr.drew) := hide (Touch.refl _ _).drew
        generalize wr.drew = wd at HD ⊢
        go_wp2_with (go_at_call 37; refine (cmp_any ⟨xw, xn⟩ ⟨zw, zn⟩ wd).mono ?_; rw [HPB.out]; rintro e w2 ⟨⟨z, rfl, hz⟩, T2⟩; have HT2 := hide (HT.out.then (HD.out.then T2)); have HO2 := hide (own_touch HO.out (HD.out.then T2) (fun _ _ f => f)); clear T2)
        go_roundw
        · refine ⟨h + 1, j, by simp, rfl, by omega, by omega, hjb, HO2, hide ⟨.inr ?_, HI.out.2⟩, HT2⟩
          rw [Nat.add_sub_cancel, ← EZ.out, ← EX.out]
          exact HPB.out
        · show (j : Int).toNat - ((h : Int) + 1).toNat < (j : Int).toNat - (i : Int).toNat
          omega
    · have hij' : j = i := by omega
      subst hij'
      obtain ⟨t, ht⟩ : ∃ t, j = a + t := ⟨j - a, by omega⟩
      have htL : t ≤ L.length := by have := HM.out; omega
      have HTT := hide ht
      have HTL := hide htL
      clear ht htL h0 hij hmi
      go_wp2
      obtain ⟨wo, rfl⟩ : ∃ wo : World, wo = wr := ⟨_, rfl⟩
      go_loopw [17] (fun kv wr => ∃ k s : Nat, kv = .int .i64 k ∧ j ≤ k ∧ k ≤ m ∧ Hid (k = a + s) ∧ Hid (POwn wr A n c (P ++ (L.take s ++ (x :: (L.drop s ++ Q))))) ∧ Hid (Touch (fun g => adBlock A = some g) w wr)) (fun kv _ => (intOf kv).toNat)
      case atStart =>
        refine ⟨m, L.length, rfl, hjb, Nat.le_refl _, HM, hide ?_, hide (HT.out.up _)⟩
        have := HO.out
        rw [HE.out] at this
        simpa using this
      case round =>
        obtain ⟨k, s, rfl, hko, hkm, HK, HO2, HT2⟩ := hrel
        by_cases hk : j < k
        · obtain ⟨Y, hY⟩ : ∃ Y, Y = P ++ (L.take s ++ (x :: (L.drop s ++ Q))) := ⟨_, rfl⟩
          rw [← hY] at HO2
          have HYE := hide hY
          have hl := pown_len HO2.out
          obtain ⟨k2, hk2⟩ : ∃ k2, k = k2 + 1 := ⟨k - 1, by omega⟩
          obtain ⟨g, hA0, hg, a0, a1, f0, f1⟩ := pown_at HO2.out hl k (by omega)
          subst hA0
          obtain ⟨g', hA, _, b0, b1, f3, f4⟩ := pown_at HO2.out hl k2 (by omega)
          injection hA with hA
          injection hA with hA _
          subst hA
          obtain ⟨⟨xw, xn⟩, hx⟩ : ∃ r, r = Y.getD k PRow.zero := ⟨_, rfl⟩
          obtain ⟨⟨yw, yn⟩, hy⟩ : ∃ r, r = Y.getD k2 PRow.zero := ⟨_, rfl⟩
          rw [← hx] at a0 a1
          rw [← hy] at b0 b1
          simp only at a0 a1 b0 b1
          have EX := hide hx
          have EY := hide hy
          have HK2 := hide hk2
          have i0 : (j : Int) < (k : Int) := by omega
          have i1 : (k : Int) - 1 = (k2 : Int) := by omega
          have i2 : IntKind.i64.wrap (k : Int) = (k : Int) := IntWalk.i64_in _ (by omega)
          have i3 : IntKind.i64.wrap (k2 : Int) = (k2 : Int) := IntWalk.i64_in _ (by omega)
          have i4 : k < n := by omega
          have i5 : k2 < n := by omega
          have i6 : (k : Int) < (n : Int) := by omega
          have i7 : (k2 : Int) < (n : Int) := by omega
          have i8 : j ≤ k2 := by omega
          have i9 : k2 ≤ m := by omega
          obtain ⟨v0, s0⟩ := cell?_setCell_some (p := ⟨g, k * 2, none⟩) (x := .string yw) b0
          obtain ⟨v1, s1⟩ := cell?_setCell_some (p := ⟨g, k * 2, none⟩) (x := .string yw) b1
          obtain ⟨v1, s1⟩ := cell?_setCell_some (p := ⟨g, k * 2 + 1, none⟩) (x := .int .i64 yn) s1
          clear hx hy hl hk2 hY
          go_wp2
          go_region
          all_goals go_wp2
          go_roundw
          · have HS := pown_set2 (pown_set2 HO2.out k ⟨yw, yn⟩) k2 ⟨xw, xn⟩
            have e : swpP Y k k2 = (Y.set k ⟨yw, yn⟩).set k2 ⟨xw, xn⟩ := by unfold swpP; rw [← EX.out, ← EY.out]
            rw [← e] at HS
            obtain ⟨s', rfl⟩ : ∃ s', s = s' + 1 := ⟨s - 1, by have := HK.out; have := HTT.out; omega⟩
            have hs : s' < L.length := by have := HM.out; have := HK.out; omega
            have e2 : swpP Y k k2 = P ++ (L.take s' ++ (x :: (L.drop s' ++ Q))) := by
              have r1 : L.drop s' = L[s'] :: L.drop (s' + 1) := List.drop_eq_getElem_cons hs
              have r2 : L.take (s' + 1) = L.take s' ++ [L[s']] := List.take_succ_eq_append_getElem hs
              have l1 : (P ++ L.take s').length = k2 := by have := HK.out; have := HK2.out; have := HA.out; rw [List.length_append, List.length_take]; omega
              have e3 : Y = (P ++ L.take s') ++ (L[s'] :: x :: (L.drop (s' + 1) ++ Q)) := by rw [HYE.out, r2]; simp only [List.append_assoc, List.cons_append, List.nil_append]
              rw [e3, swpP_comm_parts (P ++ L.take s') (L.drop (s' + 1) ++ Q) L[s'] x k k2 (by rw [l1, HK2.out]) l1.symm, r1]
              simp only [List.append_assoc, List.cons_append]
            rw [e2] at HS
            refine ⟨k2, s', rfl, i8, i9, hide (by have := HK.out; have := HK2.out; omega), hide (own_touch (S := fun _ => False) HS (Touch.refl _ _).drew (fun _ _ f => f)), hide ?_⟩
            refine Touch.drew ?_
            iterate 4 refine Touch.setCell ?_ (fun _ => (rfl : adBlock (some ⟨g, 0, none⟩) = some g)) _
            exact HT2.out
          · simp [intOf]
            have := HK2.out
            omega
        · have hk' : k = j := by omega
          subst hk'
          go_wp2
          have hst : s = t := by have := HK.out; have := HTT.out; omega
          subst hst
          obtain ⟨i1, i2⟩ := HI.out
          have ht := HTT.out
          have hA := HA.out
          have hM := HM.out
          have hTL := HTL.out
          have eX : X = P ++ (L ++ (x :: Q)) := HE.out
          have hc : ∀ p ∈ L.take s, ple p x := by
            intro p hp
            obtain ⟨q, q1, q2, rfl⟩ := mem_take_at hp
            rcases i1 with e | e
            · omega
            · rw [eX, getD_seg P L (x :: Q) (k - 1) (s - 1) (by omega) (by omega)] at e
              exact ple_trans (srt_at HL.out (by omega) (by omega)) (show ple (L.getD (s - 1) PRow.zero) x from e)
          have hd : ∀ r ∈ L.drop s, plt x r = true := by
            intro r hr
            obtain ⟨q, q1, q2, rfl⟩ := mem_drop_at hr
            rcases i2 with e | e
            · omega
            · rw [eX, getD_seg P L (x :: Q) k s (by omega) (by omega)] at e
              exact plt_ple e (srt_at HL.out q1 q2)
          refine bodyPost_ret (v := .tuple #[]) (by simp [results, Tryd.results50, go_sem]) rfl ⟨rfl, ⟨L.take s ++ (x :: L.drop s), ?_, ?_, ?_⟩, HT2.out⟩
          · have := HO2.out
            simpa using this
          · refine srt_app (srt_take HL.out s) (List.pairwise_cons.2 ⟨fun r hr => ple_of_plt (hd r hr), srt_drop HL.out s⟩) ?_
            intro p hp r hr
            rcases List.mem_cons.1 hr with rfl | hr
            · exact hc p hp
            · exact ple_trans (hc p hp) (ple_of_plt (hd r hr))
          · have k1 : SameK (L.drop s ++ [x]) ([x] ++ L.drop s) := SameK.swap fun p hp r hr he => by
              simp only [List.mem_singleton] at hr
              subst hr
              exact plt_ne (hd p hp) he.symm
            have k2 := (SameK.refl (L.take s)).app k1
            have e1 : L.take s ++ (L.drop s ++ [x]) = L ++ [x] := by rw [← List.append_assoc, List.take_append_drop]
            rw [e1] at k2
            simpa using k2

end Go.Proofs.YtdjlcgldplndiaaDoor
