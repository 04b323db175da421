/- The sort's parts: insertion. No condition but that the row is the program's own. -/
import Derived.Test.YtdjlcgldplndiaaDoorSortB
namespace Go.Proofs.YtdjlcgldplndiaaDoor
open Go.RowKit

set_option maxRecDepth 100000 in
set_option maxHeartbeats 1000000 in
theorem isort_any (w : World) (A : Option Addr) (n c : Nat) (X : List PRow) (h : POwn w A n c X) (a b : Nat) (hab : a ≤ b) (hb : b ≤ n) (hn62 : n ≤ 4611686018427387904) :
    Calls Tryd.prog 49 #[.slice A n c, .int .i64 a, .int .i64 b, cmpF] w fun e w' => e = .returned (.tuple #[]) ∧ POwn w' A n c (insF X a (b - a - 1)) ∧ Touch (fun g => adBlock A = some g) w w' := by
  have HX := hide h
  clear h
  go_enter Tryd.func49, Tryd.ntmps49
  go_wp2
  go_loopw [8] (fun iv wr => ∃ cn i : Nat, iv = .int .i64 i ∧ i = a + 1 + cn ∧ cn ≤ b - a - 1 ∧ Hid (POwn wr A n c (insF X a cn)) ∧ Hid (Touch (fun g => adBlock A = some g) w wr)) (fun iv _ => b - (intOf iv).toNat)
  case atStart => exact ⟨0, a + 1, rfl, rfl, Nat.zero_le _, HX, hide (Touch.refl _ _)⟩
  case round =>
    obtain ⟨cn, i, rfl, hi, hcn, HO, HT⟩ := hrel
    have HI := hide hi
    by_cases hib : i < b
    · have i0 : (i : Int) < (b : Int) := by omega
      obtain ⟨T, hT⟩ : ∃ T, T = insF X a (cn + 1) := ⟨_, rfl⟩
      have HTE := hide hT
      obtain ⟨Y0, hY0⟩ : ∃ Y, Y = insF X a cn := ⟨_, rfl⟩
      rw [← hY0] at HO
      have hbub : bub Y0 a (i - a) = T := by
        have e : i - a = cn + 1 := by omega
        rw [e, hT, hY0, insF]
      have HBU := hide hbub
      have hai : a ≤ i := by omega
      clear hT hY0 hbub hi hcn
      go_wp2
      obtain ⟨wo, rfl⟩ : ∃ wo : World, wo = wr := ⟨_, rfl⟩
      go_loopw [9] (fun jv wr => ∃ j : Nat, jv = .int .i64 j ∧ a ≤ j ∧ j ≤ i ∧ Hid (∃ Y, POwn wr A n c Y ∧ bub Y a (j - a) = T) ∧ Hid (Touch (fun g => adBlock A = some g) w wr)) (fun jv _ => (intOf jv).toNat)
      case atStart => exact ⟨i, rfl, hai, Nat.le_refl _, hide ⟨Y0, HO.out, HBU.out⟩, HT⟩
      case round =>
        obtain ⟨j, rfl, haj, hji, HE, HT2⟩ := hrel
        obtain ⟨Y, OY, hYb⟩ := HE.out
        have HOY := hide OY
        have HYB := hide hYb
        have hl := pown_len OY
        clear OY hYb HE
        by_cases h0 : a < j
        · obtain ⟨d, hd⟩ : ∃ d, j = a + d + 1 := ⟨j - a - 1, by omega⟩
          obtain ⟨q, hq⟩ : ∃ q, q = j - 1 := ⟨_, rfl⟩
          obtain ⟨g, hA0, hg, a0, a1, f0, f1⟩ := pown_at HOY.out hl j (by omega)
          subst hA0
          obtain ⟨g', hA, _, b0, b1, f3, f4⟩ := pown_at HOY.out hl q (by omega)
          injection hA with hA
          injection hA with hA _
          subst hA
          obtain ⟨⟨xw, xn⟩, hx⟩ : ∃ r, r = Y.getD j PRow.zero := ⟨_, rfl⟩
          obtain ⟨⟨yw, yn⟩, hy⟩ : ∃ r, r = Y.getD q PRow.zero := ⟨_, rfl⟩
          have hbu : bub Y a (j - a) = if plt ⟨xw, xn⟩ ⟨yw, yn⟩ = true then bub (swpP Y j q) a (q - a) else Y := by
            have e1 : j - a = d + 1 := by omega
            have e2 : q = a + d := by omega
            have e3 : q - a = d := by omega
            rw [e1, e3, bub, ← hd, ← e2, hx, hy]
          rw [← hx] at a0 a1
          rw [← hy] at b0 b1
          simp only at a0 a1 b0 b1
          have EX := hide hx
          have EY := hide hy
          have HBB := hide hbu
          have y0 : (j : Int) - 1 = (q : Int) := by omega
          have y1 : IntKind.i64.wrap (q : Int) = (q : Int) := IntWalk.i64_in _ (by omega)
          have y2 : IntKind.i64.wrap (j : Int) = (j : Int) := IntWalk.i64_in _ (by omega)
          have y3 : j < n := by omega
          have y4 : q < n := by omega
          have y5 : (j : Int) < (n : Int) := by omega
          have y6 : (q : Int) < (n : Int) := by omega
          have y7 : decide (a < j) = true := by simp [h0]
          have y8 : (a : Int) < (j : Int) := by omega
          have y9 : a ≤ q := by omega
          have y10 : q ≤ i := by omega
          have HDQ := hide (And.intro hd hq)
          have HLL := hide hl
          clear hx hy hbu hd hq hl
          cases hb : plt ⟨xw, xn⟩ ⟨yw, yn⟩ with
          | true =>
            have HPB := hide hb
            clear hb
            go_wp2_with fail
            go_still_tail 14, (by kernel_rfl)
            change wpList _ _ _ _ _ wr.drew
            have HD : Hid (Touch (fun _ => False) wr wr.drew) := hide (Touch.refl _ _).drew
            generalize wr.drew = wd at HD ⊢
            go_wp2_with (go_at_call 37; refine (cmp_any ⟨xw, xn⟩ ⟨yw, yn⟩ wd).mono ?_; rw [HPB.out]; rintro e w2 ⟨⟨z, rfl, hz⟩, T2⟩; have O2 := own_touch HOY.out (HD.out.then T2) (fun _ _ f => f); obtain ⟨g', hA, _, a0, a1, f0, f1⟩ := pown_at O2 HLL.out j y3; injection hA with hA; injection hA with hA _; subst hA; obtain ⟨g', hA, _, b0, b1, f3, f4⟩ := pown_at O2 HLL.out q y4; injection hA with hA; injection hA with hA _; subst hA; rw [← EX.out] at a0 a1; rw [← EY.out] at b0 b1; simp only at a0 a1 b0 b1; obtain ⟨v0, s0⟩ := cell?_setCell_some (p := ⟨g, j * 2, none⟩) (x := .string yw) b0; obtain ⟨v1, s1⟩ := cell?_setCell_some (p := ⟨g, j * 2, none⟩) (x := .string yw) b1; obtain ⟨v1, s1⟩ := cell?_setCell_some (p := ⟨g, j * 2 + 1, none⟩) (x := .int .i64 yn) s1; have HO2 := hide O2; have HT3 := hide (HT2.out.then ((HD.out.then T2).up _)); clear O2 T2)
            go_region
            all_goals go_wp2
            go_roundw
            · have HS := pown_set2 (pown_set2 HO2.out j ⟨yw, yn⟩) q ⟨xw, xn⟩
              have e : swpP Y j q = (Y.set j ⟨yw, yn⟩).set q ⟨xw, xn⟩ := by unfold swpP; rw [← EX.out, ← EY.out]
              rw [← e] at HS
              refine ⟨q, rfl, y9, y10, hide ⟨swpP Y j q, own_touch (S := fun _ => False) HS (Touch.refl _ _).drew (fun _ _ f => f), ?_⟩, hide ?_⟩
              · rw [← HYB.out, HBB.out, if_pos HPB.out]
              · refine Touch.drew ?_
                iterate 4 refine Touch.setCell ?_ (fun _ => (rfl : adBlock (some ⟨g, 0, none⟩) = some g)) _
                exact HT3.out
            · simp [intOf]
              have := HDQ.out
              omega
          | false =>
            have HPB := hide hb
            clear hb
            go_wp2_with fail
            go_still_tail 14, (by kernel_rfl)
            change wpList _ _ _ _ _ wr.drew
            have HD : Hid (Touch (fun _ => False) wr wr.drew) := hide (Touch.refl _ _).drew
            generalize wr.drew = wd at HD ⊢
            go_wp2_with (go_at_call 37; refine (cmp_any ⟨xw, xn⟩ ⟨yw, yn⟩ wd).mono ?_; rw [HPB.out]; rintro e w2 ⟨⟨z, rfl, hz⟩, T2⟩; have HO2 := hide (own_touch HOY.out (HD.out.then T2) (fun _ _ f => f)); have HT3 := hide (HT2.out.then ((HD.out.then T2).up _)); clear T2)
            go_roundw
            · have hi := HI.out
              have e : Y = insF X a (cn + 1) := by rw [← HTE.out, ← HYB.out, HBB.out, if_neg (by rw [HPB.out]; decide)]
              exact ⟨cn + 1, i + 1, by simp, by omega, by omega, hide (by rw [← e]; exact HO2.out), HT3⟩
            · show b - (intOf (.int .i64 ((i : Int) + 1))).toNat < b - (intOf (.int .i64 (i : Int))).toNat
              simp [intOf]
              omega
        · have hja : j = a := by omega
          have hYT : Y = T := by rw [← HYB.out, hja, Nat.sub_self]; rfl
          have HYT := hide hYT
          have y7 : decide (a < j) = false := by simp; omega
          have y8 : ¬ (a : Int) < (j : Int) := by omega
          clear hja hYT h0 hl
          go_wp2_with fail
          go_quiet (fail)
          obtain ⟨wd, hwd⟩ : ∃ wd, wd = wr.drewN nq := ⟨_, rfl⟩
          have hdd : Touch (fun _ => False) wr wd := by rw [hwd]; exact (Touch.refl _ _).drewN _
          have HD := hide hdd
          rw [← hwd]
          clear hwd hdd
          go_wp2
          go_roundw
          · have hi := HI.out
            have e : Y = insF X a (cn + 1) := by rw [HYT.out, HTE.out]
            exact ⟨cn + 1, i + 1, by simp, by omega, by omega, hide (by rw [← e]; exact own_touch HOY.out HD.out (fun _ _ f => f)), hide (HT2.out.then (HD.out.up _))⟩
          · show b - (intOf (.int .i64 ((i : Int) + 1))).toNat < b - (intOf (.int .i64 (i : Int))).toNat
            simp [intOf]
            omega
    · have hc : cn = b - a - 1 := by omega
      clear hi hcn
      go_wp2
      go_end0
      refine ⟨rfl, ?_, HT.out⟩
      rw [← hc]
      exact HO.out

end Go.Proofs.YtdjlcgldplndiaaDoor
