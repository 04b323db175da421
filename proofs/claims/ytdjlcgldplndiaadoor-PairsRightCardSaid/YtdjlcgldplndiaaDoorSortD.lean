/- The sort's parts: a merge in place, one element to the left, or one to the right. No condition but that the row is the program's own. -/
import Derived.Test.YtdjlcgldplndiaaDoorSortC
import Derived.Deep.CutRange
namespace Go.Proofs.YtdjlcgldplndiaaDoor
open Go.RowKit

theorem getD_seg (S R W : List PRow) (i k : Nat) (hi : i = S.length + k) (hk : k < R.length) : (S ++ (R ++ W)).getD i PRow.zero = R.getD k PRow.zero := by
  subst hi
  rw [List.getD_eq_getElem?_getD, List.getElem?_append_right (Nat.le_add_right _ _), Nat.add_sub_cancel_left, List.getElem?_append_left hk]
  rfl

set_option maxRecDepth 100000 in
set_option maxHeartbeats 2000000 in
theorem sm_one (w : World) (A : Option Addr) (n c : Nat) (P R Q : List PRow) (x : PRow) (h : POwn w A n c (P ++ (x :: (R ++ Q)))) (a m b : Nat) (ha : a = P.length) (hm : m = a + 1) (hb : b = m + R.length) (hR : SrtP R) (hn62 : n ≤ 5864062014700) :
    Calls Tryd.prog 50 #[.slice A n c, .int .i64 a, .int .i64 m, .int .i64 b, cmpF] w fun e w' => e = .returned (.tuple #[]) ∧ (∃ Z, POwn w' A n c (P ++ (Z ++ Q)) ∧ SrtP Z ∧ SameK (x :: R) Z) ∧ Touch (fun g => adBlock A = some g) w w' := by
  have hl := pown_len h
  simp only [List.length_append, List.length_cons] at hl
  obtain ⟨X, hX⟩ : ∃ X, X = P ++ (x :: (R ++ Q)) := ⟨_, rfl⟩
  rw [← hX] at h
  have hn := own_le h
  unfold maxLen at hn
  have HX := hide h
  have HE := hide hX
  have HA := hide ha
  have HB := hide hb
  have HR := hide hR
  have hbn : b ≤ n := by omega
  have hmb : m ≤ b := by omega
  have hab : a < n := by omega
  have x0 : ((m : Int) - (a : Int) == 1) = true := by simp; omega
  have x1 : (m : Int) - (a : Int) = 1 := by omega
  have ham : m = a + 1 := hm
  have HAM := hide ham
  clear h hX ha hb hl hR hm ham
  go_enter Tryd.func50, Tryd.ntmps50
  go_wp2
  go_loopw [10, 11] (fun iv jv wr => ∃ i j : Nat, iv = .int .i64 i ∧ jv = .int .i64 j ∧ m ≤ i ∧ i ≤ j ∧ j ≤ b ∧ Hid (POwn wr A n c X) ∧ Hid ((i = m ∨ plt (X.getD (i - 1) PRow.zero) x = true) ∧ (j = b ∨ plt (X.getD j PRow.zero) x = false)) ∧ Hid (Touch (fun _ => False) w wr)) (fun iv jv _ => (intOf jv).toNat - (intOf iv).toNat)
  case atStart => exact ⟨m, b, rfl, rfl, Nat.le_refl _, hmb, Nat.le_refl _, HX, hide ⟨.inl rfl, .inl rfl⟩, hide (Touch.refl _ _)⟩
  case round =>
    obtain ⟨i, j, rfl, rfl, hmi, hij, hjb, HO, HI, HT⟩ := hrel
    by_cases h0 : i < j
    · have y0 : (i : Int) < (j : Int) := by omega
      obtain ⟨h, hh⟩ : ∃ h, h = (i + j) / 2 := ⟨_, rfl⟩
      have y1 : ((i : Int) + (j : Int)) / 2 = (h : Int) := by omega
      have y2 : h < n := by omega
      have y3 : (h : Int) < (n : Int) := by omega
      have y4 : (a : Int) < (n : Int) := by omega
      have y5 : IntKind.i64.wrap (h : Int) = (h : Int) := IntWalk.i64_in _ (by omega)
      have y6 : IntKind.i64.wrap (a : Int) = (a : Int) := IntWalk.i64_in _ (by omega)
      have y7 : i ≤ h := by omega
      have y8 : h < j := by omega
      have hl := pown_len HO.out
      obtain ⟨g, hA0, hg, a0, a1, f0, f1⟩ := pown_at HO.out hl h y2
      subst hA0
      obtain ⟨g', hA, _, b0, b1, f3, f4⟩ := pown_at HO.out hl a hab
      injection hA with hA
      injection hA with hA _
      subst hA
      have ex : X.getD a PRow.zero = x := by rw [HE.out, HA.out, getD_mid]
      rw [ex] at b0 b1
      obtain ⟨⟨zw, zn⟩, hz⟩ : ∃ r, r = X.getD h PRow.zero := ⟨_, rfl⟩
      rw [← hz] at a0 a1
      have EZ := hide hz
      obtain ⟨⟨xw, xn⟩, hx⟩ : ∃ r, r = x := ⟨_, rfl⟩
      rw [← hx] at b0 b1
      have EX := hide hx
      simp only at a0 a1 b0 b1
      clear hl ex hz hx hh
      cases hb : plt ⟨zw, zn⟩ ⟨xw, xn⟩ with
      | true =>
        have HPB := hide hb
        clear hb
        go_wp2_with fail
        go_still_tail 9, (by kernel_rfl)
        change wpList _ _ _ _ _ wr.drew
        have HD : Hid (Touch (fun _ => False) wr wr.drew) := hide (Touch.refl _ _).drew
        generalize wr.drew = wd at HD ⊢
        go_wp2_with (go_at_call 37; refine (cmp_any ⟨zw, zn⟩ ⟨xw, xn⟩ wd).mono ?_; rw [HPB.out]; rintro e w2 ⟨⟨z, rfl, hz⟩, T2⟩; have HT2 := hide (HT.out.then (HD.out.then T2)); have HO2 := hide (own_touch HO.out (HD.out.then T2) (fun _ _ f => f)); clear T2)
        go_roundw
        · refine ⟨h + 1, j, by simp, rfl, by omega, by omega, hjb, HO2, hide ⟨.inr ?_, HI.out.2⟩, HT2⟩
          rw [Nat.add_sub_cancel, ← EZ.out, ← EX.out]
          exact HPB.out
        · show (j : Int).toNat - ((h : Int) + 1).toNat < (j : Int).toNat - (i : Int).toNat
          omega
      | false =>
        have HPB := hide hb
        clear hb
        go_wp2_with fail
        go_still_tail 9, (by kernel_rfl)
        change wpList _ _ _ _ _ wr.drew
        have HD : Hid (Touch (fun _ => False) wr wr.drew) := hide (Touch.refl _ _).drew
        generalize wr.drew = wd at HD ⊢
        go_wp2_with (go_at_call 37; refine (cmp_any ⟨zw, zn⟩ ⟨xw, xn⟩ wd).mono ?_; rw [HPB.out]; rintro e w2 ⟨⟨z, rfl, hz⟩, T2⟩; have HT2 := hide (HT.out.then (HD.out.then T2)); have HO2 := hide (own_touch HO.out (HD.out.then T2) (fun _ _ f => f)); clear T2)
        go_roundw
        · refine ⟨i, h, rfl, rfl, hmi, y7, by omega, HO2, hide ⟨HI.out.1, .inr ?_⟩, HT2⟩
          rw [← EZ.out, ← EX.out]
          exact HPB.out
        · show (h : Int).toNat - (i : Int).toNat < (j : Int).toNat - (i : Int).toNat
          omega
    · have hij' : j = i := by omega
      subst hij'
      obtain ⟨t, ht⟩ : ∃ t, j = m + t := ⟨j - m, by omega⟩
      obtain ⟨o, ho⟩ : ∃ o, o = a + t := ⟨_, rfl⟩
      have z0 : (j : Int) - 1 = (o : Int) := by have := HAM.out; omega
      have z1 : IntKind.i64.wrap (o : Int) = (o : Int) := IntWalk.i64_in _ (by omega)
      have z2 : a ≤ o := by omega
      have z3 : o < n := by have := HAM.out; omega
      have htR : t ≤ R.length := by have := HB.out; omega
      have HTT := hide ht
      have HOO := hide ho
      have HTR := hide htR
      have HI2 := HI
      clear ht ho htR h0 hij hmi
      go_wp2
      obtain ⟨wo, rfl⟩ : ∃ wo : World, wo = wr := ⟨_, rfl⟩
      go_loopw [13] (fun kv wr => ∃ k s : Nat, kv = .int .i64 k ∧ k ≤ o ∧ Hid (k = a + s) ∧ Hid (POwn wr A n c (P ++ (R.take s ++ (x :: (R.drop s ++ Q))))) ∧ Hid (Touch (fun g => adBlock A = some g) w wr)) (fun kv _ => o - (intOf kv).toNat)
      case atStart =>
        refine ⟨a, 0, rfl, z2, hide rfl, hide ?_, hide (HT.out.up _)⟩
        have := HO.out
        rw [HE.out] at this
        simpa using this
      case round =>
        obtain ⟨k, s, rfl, hko, HK, HO2, HT2⟩ := hrel
        by_cases hk : k < o
        · obtain ⟨Y, hY⟩ : ∃ Y, Y = P ++ (R.take s ++ (x :: (R.drop s ++ Q))) := ⟨_, rfl⟩
          rw [← hY] at HO2
          have HYE := hide hY
          have hl := pown_len HO2.out
          obtain ⟨k2, hk2⟩ : ∃ k2, k2 = k + 1 := ⟨_, rfl⟩
          obtain ⟨g, hA0, hg, a0, a1, f0, f1⟩ := pown_at HO2.out hl k (by omega)
          subst hA0
          obtain ⟨g', hA, _, b0, b1, f3, f4⟩ := pown_at HO2.out hl k2 (by omega)
          injection hA with hA
          injection hA with hA _
          subst hA
          obtain ⟨⟨xw, xn⟩, hx⟩ : ∃ r, r = Y.getD k PRow.zero := ⟨_, rfl⟩
          obtain ⟨⟨yw, yn⟩, hy⟩ : ∃ r, r = Y.getD k2 PRow.zero := ⟨_, rfl⟩
          rw [← hx] at a0 a1
          rw [← hy] at b0 b1
          simp only at a0 a1 b0 b1
          have EX := hide hx
          have EY := hide hy
          have HK2 := hide hk2
          have i0 : (k : Int) < (o : Int) := by omega
          have i1 : (k : Int) + 1 = (k2 : Int) := by omega
          have i2 : IntKind.i64.wrap (k : Int) = (k : Int) := IntWalk.i64_in _ (by omega)
          have i3 : IntKind.i64.wrap (k2 : Int) = (k2 : Int) := IntWalk.i64_in _ (by omega)
          have i4 : k < n := by omega
          have i5 : k2 < n := by omega
          have i6 : (k : Int) < (n : Int) := by omega
          have i7 : (k2 : Int) < (n : Int) := by omega
          have i8 : k2 ≤ o := by omega
          obtain ⟨v0, s0⟩ := cell?_setCell_some (p := ⟨g, k * 2, none⟩) (x := .string yw) b0
          obtain ⟨v1, s1⟩ := cell?_setCell_some (p := ⟨g, k * 2, none⟩) (x := .string yw) b1
          obtain ⟨v1, s1⟩ := cell?_setCell_some (p := ⟨g, k * 2 + 1, none⟩) (x := .int .i64 yn) s1
          clear hx hy hl hk2 hY
          go_wp2
          go_region
          all_goals go_wp2
          go_roundw
          · have HS := pown_set2 (pown_set2 HO2.out k ⟨yw, yn⟩) k2 ⟨xw, xn⟩
            have e : swpP Y k k2 = (Y.set k ⟨yw, yn⟩).set k2 ⟨xw, xn⟩ := by unfold swpP; rw [← EX.out, ← EY.out]
            rw [← e] at HS
            have hs : s < R.length := by have := HTR.out; have := HOO.out; have := HK.out; omega
            have e2 : swpP Y k k2 = P ++ (R.take (s + 1) ++ (x :: (R.drop (s + 1) ++ Q))) := by
              have r1 : R.drop s = R[s] :: R.drop (s + 1) := List.drop_eq_getElem_cons hs
              have r2 : R.take (s + 1) = R.take s ++ [R[s]] := List.take_succ_eq_append_getElem hs
              have l1 : (P ++ R.take s).length = k := by have := HK.out; have := HA.out; rw [List.length_append, List.length_take]; omega
              have e3 : Y = (P ++ R.take s) ++ (x :: ([] ++ (R[s] :: (R.drop (s + 1) ++ Q)))) := by rw [HYE.out, r1]; simp only [List.append_assoc, List.cons_append, List.nil_append]
              rw [e3, swpP_parts (P ++ R.take s) [] (R.drop (s + 1) ++ Q) x R[s] k k2 l1.symm (by rw [l1, HK2.out]; rfl), r2]
              simp only [List.append_assoc, List.cons_append, List.nil_append]
            rw [e2] at HS
            refine ⟨k2, s + 1, rfl, i8, hide (by have := HK.out; have := HK2.out; omega), hide (own_touch (S := fun _ => False) HS (Touch.refl _ _).drew (fun _ _ f => f)), hide ?_⟩
            refine Touch.drew ?_
            iterate 4 refine Touch.setCell ?_ (fun _ => (rfl : adBlock (some ⟨g, 0, none⟩) = some g)) _
            exact HT2.out
          · simp [intOf]
            have := HK2.out
            omega
        · have hk' : k = o := by omega
          subst hk'
          go_wp2
          have hst : s = t := by have := HK.out; have := HOO.out; omega
          subst hst
          obtain ⟨i1, i2⟩ := HI.out
          have hm := HAM.out
          have ht := HTT.out
          have hA := HA.out
          have hB := HB.out
          have eX : X = (P ++ [x]) ++ (R ++ Q) := by rw [HE.out]; simp
          have hc := cut_parts (L := [x]) (R := R) (by simp [SrtP]) HR.out 0 s (Nat.zero_le _) HTR.out (.inl rfl) (by
            rcases i1 with e | e
            · exact .inr (.inl (by omega))
            · by_cases hs0 : s = 0
              · exact .inr (.inl hs0)
              · refine .inr (.inr ?_)
                rw [eX, getD_seg (P ++ [x]) R Q (j - 1) (s - 1) (by simp; omega) (by have := HTR.out; omega)] at e
                simpa using e)
          have hd : ∀ y ∈ R.drop s, ple x y := by
            intro y hy
            obtain ⟨q, q1, q2, rfl⟩ := mem_drop_at hy
            rcases i2 with e | e
            · omega
            · rw [eX, getD_seg (P ++ [x]) R Q j s (by simp; omega) (by omega)] at e
              exact ple_trans (show ple x (R.getD s PRow.zero) from e) (srt_at HR.out q1 q2)
          simp only [List.drop_zero, List.mem_singleton, forall_eq] at hc
          refine bodyPost_ret (v := .tuple #[]) (by simp [results, Tryd.results50, go_sem]) rfl ⟨rfl, ⟨R.take s ++ (x :: R.drop s), ?_, ?_, ?_⟩, HT2.out⟩
          · have := HO2.out
            simpa using this
          · refine srt_app (srt_take HR.out s) (List.pairwise_cons.2 ⟨hd, srt_drop HR.out s⟩) ?_
            intro p hp r hr
            rcases List.mem_cons.1 hr with rfl | hr
            · exact ple_of_plt (hc.2 p hp)
            · exact ple_trans (ple_of_plt (hc.2 p hp)) (hd r hr)
          · have k1 : SameK ([x] ++ R.take s) (R.take s ++ [x]) := SameK.swap fun p hp r hr he => by
              simp only [List.mem_singleton] at hp
              subst hp
              exact plt_ne (hc.2 r hr) he.symm
            have k2 := k1.app (SameK.refl (R.drop s))
            simpa using k2

end Go.Proofs.YtdjlcgldplndiaaDoor
