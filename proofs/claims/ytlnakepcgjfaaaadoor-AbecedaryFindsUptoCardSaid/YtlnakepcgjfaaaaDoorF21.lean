/- What the law rests on, part 21. No condition but those that each theorem names. -/
import Derived.Test.YtlnakepcgjfaaaaDoorF01
import Derived.Test.YtlnakepcgjfaaaaDoorF00
namespace Go.Proofs.YtlnakepcgjfaaaaDoor
open Go.RowKit
theorem rword_is (s : ByteArray) (v : Bool) (h : wordU s.toList = v) (hm : s.size ≤ 9223372036854775807) (w : World) :
    Calls Tryd.prog 17 #[.string s] w fun e w' => e = .returned (.bool v) ∧ Touch (fun _ => False) w w' := by
  subst h
  exact rword_any w s hm
theorem rahead_is (a b : ByteArray) (v : Bool) (h : Op.bytesLess a.toList b.toList = v) (ha : a.size ≤ 9223372036854775807) (hb : b.size ≤ 9223372036854775807) (w : World) :
    Calls Tryd.prog 18 #[.string a, .string b] w fun e w' => e = .returned (.bool v) ∧ Touch (fun _ => False) w w' := by
  subst h
  exact ahead_any a b ha hb w
theorem wpQuiet_cons {P : Program} {ops : Array Oper} {C : World → Prop} {Q : Act → Prop} {o : Oper} {l : List Oper} {a : Act} : wpQuiet P ops C Q (o :: l) a = (if Region.wanted o (yielded ops a.tmps) then o.quiet P a C (wpQuiet P ops C Q l) else wpQuiet P ops C Q l (a.put o.dst undef)) := rfl
theorem cells2 {w0 w' : World} {x y : Addr} {a b : Value} (hx : w0.cell? x = some a) (hxb : x.block < w0.heap.size) (hy : w0.cell? y = some b) (hyb : y.block < w0.heap.size) (ht : Touch (fun _ => False) w0 w') :
    w'.cell? x = some a ∧ w'.cell? y = some b ∧ Touch (fun _ => False) w0 w' := ⟨(ht.cell hxb (fun f => f)).trans hx, (ht.cell hyb (fun f => f)).trans hy, ht⟩
set_option maxRecDepth 100000 in
set_option maxHeartbeats 4000000 in
theorem rright_any (w : World) (s : SL) (hs : s.Ok w) (hWf : ∀ r ∈ s.L, r.Wf) (hm : s.n ≤ maxLen) :
    Calls Tryd.prog 6 #[s.val] w fun e w' => e = .returned (.bool (rightU s.L)) ∧ Touch (fun _ => False) w w' := by
  obtain ⟨A, n, c, L⟩ := s
  have HR := hide hs.reads
  have HLN := hide hs.len
  have HWF := hide hWf
  clear hs hWf
  simp only [SL.val]
  simp only at HR HLN HWF hm
  unfold maxLen at hm
  by_cases hbig : n ≤ 4096
  · have i0 : ¬ (4096 : Int) < (n : Int) := by omega
    have HBIG := hide hbig
    clear hbig
    go_enter Tryd.func6, Tryd.ntmps6
    go_wp2
    go_loopw [3] (fun iv wr => ∃ i : Nat, iv = .int .i64 i ∧ i ≤ n ∧ Hid (∀ j, j < i → fitP L j = true) ∧ Hid (Touch (fun _ => False) w wr)) (fun iv _ => n - (intOf iv).toNat)
    case atStart => exact ⟨0, rfl, Nat.zero_le _, hide (fun j hj => by omega), hide (Touch.refl _ _)⟩
    case round =>
      obtain ⟨i, rfl, hin', HA, HT⟩ := hrel
      by_cases hin : i < n
      · have y0 : (i : Int) < (n : Int) := by omega
        have y1 : (0 : Int) ≤ (i : Int) := by omega
        have hpr := preads_at HR.out HLN.out.symm i hin
        obtain ⟨g, o, hA, hg, a0, a1⟩ := hpr
        subst hA
        have hfit := fitP_eq L i
        have hwf := HWF.out _ (pgetD_mem L i (by rw [HLN.out]; exact hin))
        obtain ⟨⟨xw, xn⟩, hx⟩ : ∃ x, x = L.getD i PRow.zero := ⟨_, rfl⟩
        rw [← hx] at a0 a1 hfit hwf
        simp only at a0 a1 hfit
        simp only [PRow.Wf] at hwf
        have hno := fun h => rightU_no (L := L) (i := i) (by rw [HLN.out]; exact hin) h
        have HA0 := hide (And.intro a0 (And.intro a1 hg))
        have HFIT := hide hfit
        have HNO := hide hno
        have HWFX := hide hwf
        have b0 := (HT.out.cell (a := ⟨g, o + i * 2, none⟩) hg (fun f => f)).trans a0
        clear a0 a1 hg hx hfit hno hwf
        cases hwv : wordU xw.toList with
        | false =>
          have HWV := hide hwv
          clear hwv
          go_wp2_with fail
          refine (rword_is xw false HWV.out HWFX.out wr).mono ?_
          rintro e w2 ⟨rfl, T2⟩
          have HT2 := hide (HT.out.then T2)
          clear T2
          go_wp2_with fail
          go_ret
          exact ⟨by rw [HNO.out (by rw [HFIT.out, HWV.out]; simp)]; rfl, HT2.out⟩
        | true =>
          have HWV := hide hwv
          clear hwv
          go_wp2_with fail
          refine (rword_is xw true HWV.out HWFX.out wr).mono ?_
          rintro e w2 ⟨rfl, T2⟩
          have HT2 := hide (HT.out.then T2)
          clear T2
          have b1 := (HT2.out.cell (a := ⟨g, o + i * 2 + 1, none⟩) HA0.out.2.2 (fun f => f)).trans HA0.out.2.1
          by_cases h1 : xn < 1
          · have HH := hide h1
            go_wp2_with fail
            go_ret
            exact ⟨by rw [HNO.out (by rw [HFIT.out]; simp [show ¬ 1 ≤ xn from fun e => by have := HH.out; omega])]; rfl, HT2.out⟩
          · by_cases h2 : 1048576 < xn
            · have HH := hide h2
              go_wp2_with fail
              go_ret
              exact ⟨by rw [HNO.out (by rw [HFIT.out]; simp [show ¬ xn ≤ 1048576 from fun e => by have := HH.out; omega])]; rfl, HT2.out⟩
            · have HH1 := hide h1
              have HH2 := hide h2
              cases i with
              | zero =>
                go_wp2_with fail
                refine wp_region_quiet_lit (by kernel_rfl) (by kernel_rfl) ?_
                quiet_step (fail)
                quiet_step (fail)
                quiet_step (fail)
                rw [wpQuiet_cons]
                go_simp
                rw [wpQuiet_cons]
                go_simp
                rw [wpQuiet_cons]
                go_simp
                rw [wpQuiet_cons]
                go_simp
                rw [wpQuiet_cons]
                go_simp
                rw [wpQuiet_cons]
                go_simp
                rw [wpQuiet_cons]
                go_simp
                rw [wpQuiet_cons]
                go_simp
                rw [wpQuiet_cons]
                go_simp
                rw [wpQuiet_cons]
                go_simp
                rw [wpQuiet_cons]
                go_simp
                rw [wpQuiet_cons]
                go_simp
                rw [wpQuiet_cons]
                go_simp
                quiet_step (fail)
                refine wpQuiet_nil ?_
                intro nq
                go_wp2_with fail
                go_roundw
                · exact ⟨1, rfl, by omega, hide (fun j hj => by
                    obtain rfl : j = 0 := by omega
                    rw [HFIT.out, HWV.out]
                    have h1 := HH1.out
                    have h2 := HH2.out
                    simp [show 1 ≤ xn by omega, show xn ≤ 1048576 by omega]), hide (HT2.out.drewN _)⟩
                · simp [intOf]
                  omega
              | succ m =>
                obtain ⟨g', o', hA, _, z0, _⟩ := preads_at HR.out HLN.out.symm m (by omega)
                injection hA with hA
                injection hA with hA1 hA2
                subst hA1 hA2
                have hfx := HFIT.out
                rw [HWV.out, Nat.add_sub_cancel] at hfx
                have hwf2 := HWF.out _ (pgetD_mem L m (by rw [HLN.out]; omega))
                obtain ⟨⟨yw, yn⟩, hy⟩ : ∃ y, y = L.getD m PRow.zero := ⟨_, rfl⟩
                rw [← hy] at z0 hfx hwf2
                simp only at z0 hfx
                simp only [PRow.Wf] at hwf2
                have HFX := hide hfx
                have HWFY := hide hwf2
                have HZ0 := hide z0
                have HY2 := hide ((HT2.out.cell (a := ⟨g, o + m * 2, none⟩) HA0.out.2.2 (fun f => f)).trans z0)
                have HX2 := hide ((HT2.out.cell (a := ⟨g, o + (m + 1) * 2, none⟩) HA0.out.2.2 (fun f => f)).trans HA0.out.1)
                have HG2 : Hid (g < w2.heap.size) := hide (Nat.lt_of_lt_of_le HA0.out.2.2 HT2.out.size)
                clear hy hfx hwf2 z0
                have k2 : IntKind.i64.wrap ((m : Int) + 1 - 1) = (m : Int) := IntWalk.i64_in _ (by omega) |>.trans (by omega)
                have k3 : IntKind.i64.wrap (m : Int) = (m : Int) := IntWalk.i64_in _ (by omega)
                have k4 : (0 : Int) ≤ (m : Int) := by omega
                have k5 : (m : Int) < (n : Int) := by omega
                have k6 : (0 : Int) < (m : Int) + 1 := by omega
                have k7 : (0 : Int) ≤ (m : Int) + 1 := by omega
                cases hbl : Op.bytesLess yw.toList xw.toList with
                | false =>
                  have HBL := hide hbl
                  clear hbl
                  go_upto_region 9 with fail
                  go_region_held3 (fun w' => w'.cell? ⟨g, o + m * 2, none⟩ = some (.string yw) ∧ w'.cell? ⟨g, o + (m + 1) * 2, none⟩ = some (.string xw) ∧ Touch (fun _ => False) w2 w')
                    (first
                      | exact cells2 HY2.out HG2.out HX2.out HG2.out (Touch.refl _ _)
                      | exact cells2 HY2.out HG2.out HX2.out HG2.out (Touch.refl _ _).drew
                      | (refine cells2 HY2.out HG2.out HX2.out HG2.out (Touch.then ?_ (by assumption)); first | assumption | exact and_last3 (by assumption) | exact (Touch.refl _ _).drew | exact Touch.refl _ _))
                    (first
                      | (go_at_call 18; refine (rahead_is yw xw false HBL.out HWFY.out HWFX.out _).mono ?_; rintro e w3 ⟨rfl, T3⟩))
                  all_goals
                    go_wp2_with fail
                    go_ret
                    exact ⟨by rw [HNO.out (by rw [HFX.out, HBL.out]; simp)]; rfl, HT2.out.then (and_last3 (by assumption))⟩
                | true =>
                  have HBL := hide hbl
                  clear hbl
                  go_upto_region 9 with fail
                  go_region_held3 (fun w' => w'.cell? ⟨g, o + m * 2, none⟩ = some (.string yw) ∧ w'.cell? ⟨g, o + (m + 1) * 2, none⟩ = some (.string xw) ∧ Touch (fun _ => False) w2 w')
                    (first
                      | exact cells2 HY2.out HG2.out HX2.out HG2.out (Touch.refl _ _)
                      | exact cells2 HY2.out HG2.out HX2.out HG2.out (Touch.refl _ _).drew
                      | (refine cells2 HY2.out HG2.out HX2.out HG2.out (Touch.then ?_ (by assumption)); first | assumption | exact and_last3 (by assumption) | exact (Touch.refl _ _).drew | exact Touch.refl _ _))
                    (first
                      | (go_at_call 18; refine (rahead_is yw xw true HBL.out HWFY.out HWFX.out _).mono ?_; rintro e w3 ⟨rfl, T3⟩))
                  all_goals
                    go_wp2_with fail
                    go_roundw
                    · exact ⟨m + 1 + 1, by simp, by omega, hide (fun j hj => by
                        by_cases hj2 : j = m + 1
                        · subst hj2
                          have h1 := HH1.out
                          have h2 := HH2.out
                          rw [HFX.out, HBL.out]
                          simp [show 1 ≤ xn by omega, show xn ≤ 1048576 by omega]
                        · exact HA.out j (by omega)), hide (HT2.out.then (and_last3 (by assumption)))⟩
                    · simp [intOf]
                      omega
      · have HALL := hide (rightU_yes (L := L) (by rw [HLN.out]; exact HBIG.out) (fun j hj => HA.out j (by have := HLN.out; omega)))
        go_wp2_with fail
        go_ret
        exact ⟨by rw [HALL.out]; rfl, HT.out⟩
  · have i0 : (4096 : Int) < (n : Int) := by omega
    have HALL := hide (rightU_long (L := L) (by rw [HLN.out]; exact hbig))
    rw [HALL.out]
    clear hbig
    go_enter Tryd.func6, Tryd.ntmps6
    go_wp2
    go_ret
    exact ⟨rfl, Touch.refl _ _⟩
end Go.Proofs.YtlnakepcgjfaaaaDoor
