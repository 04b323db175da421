/- pack.sum on any state in form. Condition: the sums of the states ahead are small. -/
import Derived.Test.YtfaoifggkfmokaaDoorGfA
import Derived.Test.YtfaoifggkfmokaaDoorPkB
namespace Go.Proofs.YtfaoifggkfmokaaDoor
open Go.RowKit
set_option linter.unusedSectionVars false
set_option linter.unusedSimpArgs false
set_option linter.unusedVariables false
variable [Inhabited BaseT]

def SumB (U : List S3) (z : StP) : Prop := ∀ j, (0 ≤ (sumP U z j).1 ∧ (sumP U z j).1 ≤ 4096) ∧ (0 ≤ (sumP U z j).2.1 ∧ (sumP U z j).2.1 ≤ 24) ∧ (0 ≤ (sumP U z j).2.2 ∧ (sumP U z j).2.2 ≤ 1048576)
def SumE (U : List S3) (N : Nat) (z : StP) : Prop := ∀ a ∈ z.arcs, a.2.2 < N ∧ (0 ≤ a.2.1 ∧ a.2.1 ≤ 1048576) ∧ (0 ≤ (U.getD a.2.2 z3).1 ∧ (U.getD a.2.2 z3).1 ≤ 4096) ∧ (0 ≤ (U.getD a.2.2 z3).2.1 ∧ (U.getD a.2.2 z3).2.1 ≤ 24) ∧ (0 ≤ (U.getD a.2.2 z3).2.2 ∧ (U.getD a.2.2 z3).2.2 ≤ 1048576)
theorem sumP_ge {U : List S3} {N : Nat} {z : StP} (hE : SumE U N z) : ∀ i j, i ≤ j → (sumP U z i).1 ≤ (sumP U z j).1 ∧ (sumP U z i).2.1 ≤ (sumP U z j).2.1 ∧ (sumP U z i).2.2 ≤ (sumP U z j).2.2 := by
  intro i j hij
  induction j with
  | zero =>
    have e : i = 0 := by omega
    subst e
    omega
  | succ j ih =>
    by_cases e : i = j + 1
    · subst e
      omega
    · have h := ih (by omega)
      by_cases hj : j < z.arcs.length
      · have he := hE _ (getD_mem z.arcs (0, 0, 0) j hj)
        rw [sumP_succ U z j hj]
        simp only [sumStep]
        omega
      · have e2 : sumP U z (j + 1) = sumP U z j := by
          unfold sumP
          rw [List.take_of_length_le (by omega), List.take_of_length_le (by omega)]
        rw [e2]
        exact h
theorem sumP_low {U : List S3} {N : Nat} {z : StP} (hE : SumE U N z) (ho : 0 ≤ z.out) (j : Nat) : 0 ≤ (sumP U z j).1 ∧ 0 ≤ (sumP U z j).2.1 ∧ 0 ≤ (sumP U z j).2.2 := by
  have h := sumP_ge hE 0 j (Nat.zero_le _)
  rw [sumP_zero] at h
  simp only at h
  have : (0 : Int) ≤ if z.fin = true then 1 else 0 := by split <;> omega
  omega
theorem sumP_top {U : List S3} {z : StP} {j : Nat} (h : z.arcs.length ≤ j) : sumP U z j = sumP U z z.arcs.length := by
  unfold sumP
  rw [List.take_of_length_le h, List.take_length]
theorem SumB_of {U : List S3} {N : Nat} {z : StP} (hE : SumE U N z) (ho : 0 ≤ z.out) (h : (sumP U z z.arcs.length).1 ≤ 4096 ∧ (sumP U z z.arcs.length).2.1 ≤ 24 ∧ (sumP U z z.arcs.length).2.2 ≤ 1048576) : SumB U z := by
  intro j
  have h1 := sumP_low hE ho j
  have h2 : (sumP U z j).1 ≤ (sumP U z z.arcs.length).1 ∧ (sumP U z j).2.1 ≤ (sumP U z z.arcs.length).2.1 ∧ (sumP U z j).2.2 ≤ (sumP U z z.arcs.length).2.2 := by
    by_cases hj : j ≤ z.arcs.length
    · exact sumP_ge hE j _ hj
    · rw [sumP_top (by omega)]
      omega
  omega
/-- What pack.sum answers. -/
def SumPost (U : List S3) (z : StP) (e : Ending) : Prop :=
  (SumB U z ∧ e = .returned (.tuple #[.agg #[.int .i64 (sumP U z z.arcs.length).1, .int .i64 (sumP U z z.arcs.length).2.1, .int .i64 (sumP U z z.arcs.length).2.2], .bool true])) ∨
  (¬ SumB U z ∧ ∃ a b c : Int, e = .returned (.tuple #[.agg #[.int .i64 a, .int .i64 b, .int .i64 c], .bool false]))

theorem sum_early {wr : World} {X Y : Nat} (hb : Blk wr Y 126 #[.int .i64 0, .int .i64 0, .int .i64 0]) (hne : Y ≠ X) (a b c d e f : Value) (o1 o2 : Obj) :
    ((((((((wr.setCell ⟨X, 0, none⟩ a).setCell ⟨X, 1, none⟩ b).setCell ⟨X, 2, none⟩ c).setCell ⟨Y, 0, none⟩ d).setCell ⟨Y, 1, none⟩ e).setCell ⟨Y, 2, none⟩ f).alloc o1).alloc o2).cell? ⟨Y, 0, none⟩ = some d ∧
    ((((((((wr.setCell ⟨X, 0, none⟩ a).setCell ⟨X, 1, none⟩ b).setCell ⟨X, 2, none⟩ c).setCell ⟨Y, 0, none⟩ d).setCell ⟨Y, 1, none⟩ e).setCell ⟨Y, 2, none⟩ f).alloc o1).alloc o2).cell? ⟨Y, 1, none⟩ = some e ∧
    ((((((((wr.setCell ⟨X, 0, none⟩ a).setCell ⟨X, 1, none⟩ b).setCell ⟨X, 2, none⟩ c).setCell ⟨Y, 0, none⟩ d).setCell ⟨Y, 1, none⟩ e).setCell ⟨Y, 2, none⟩ f).alloc o1).alloc o2).cell? ⟨Y, 2, none⟩ = some f := by
  have h := (((((((hb.far (p := ⟨X, 0, none⟩) hne a).far (p := ⟨X, 1, none⟩) hne b).far (p := ⟨X, 2, none⟩) hne c).set_ 0 d).set_ 1 e).set_ 2 f).alloc o1).alloc o2
  exact ⟨h.cell 0, h.cell 1, h.cell 2⟩
theorem sum_early_touch {w wr : World} {X Y : Nat} (T : Touch (fun _ => False) w wr) (hX : w.heap.size ≤ X) (hY : w.heap.size ≤ Y) (a b c d e f : Value) (o1 o2 : Obj) :
    Touch (fun _ => False) w ((((((((wr.setCell ⟨X, 0, none⟩ a).setCell ⟨X, 1, none⟩ b).setCell ⟨X, 2, none⟩ c).setCell ⟨Y, 0, none⟩ d).setCell ⟨Y, 1, none⟩ e).setCell ⟨Y, 2, none⟩ f).alloc o1).alloc o2) := by
  refine Touch.alloc (Touch.alloc ?_ _) _
  iterate 3 refine Touch.setCell ?_ (fun h => by simp only at h; omega) _
  iterate 3 refine Touch.setCell ?_ (fun h => by simp only at h; omega) _
  exact T

set_option maxRecDepth 100000 in
set_option maxHeartbeats 8000000 in
theorem gsum_any (w : World) (z : SV) (hz : z.Od w) (U : List S3) (uA : Option Addr) (N uc : Nat) (hU : RdT w 126 3 uA N (uCells U)) (hUl : U.length = N) (_ : N ≤ 1000000) (ho : 0 ≤ z.out ∧ z.out ≤ 1048576) (hE : SumE U N z.p) :
    Calls Tryd.prog 68 #[.agg #[.bool z.fin, .int .i64 z.out, .slice z.A z.n z.c], .slice uA N uc] w fun e w' => SumPost U z.p e ∧ Touch (fun _ => False) w w' := by
  have hlow := sumP_low hE ho.1
  have hge := sumP_ge hE
  have hsb := SumB_of hE ho.1
  obtain ⟨fin, out, aA, n, ac, arcs⟩ := z
  obtain ⟨hlen, hrd, hle, hmx⟩ := hz
  simp only [SV.p] at *
  have hnm : n ≤ maxLen := Nat.le_trans hle hmx
  have HU := hide hU
  have HUL := hide hUl
  have HRD := hide hrd
  have HLEN := hide hlen
  have HE := hide hE
  rw [hlen] at hsb
  have HLOW := hide hlow
  have HGE := hide hge
  have HSB := hide hsb
  have HO := hide ho
  clear hU hrd hlen hE hle hmx hUl hlow hge hsb ho
  go_enter Tryd.func68, Tryd.ntmps68
  obtain ⟨x0, hx0⟩ : ∃ x0 : Int, x0 = if fin = true then 1 else 0 := ⟨_, rfl⟩
  have hcase : (fin = true ∧ x0 = 1) ∨ (fin = false ∧ x0 = 0) := by
    cases fin
    · exact .inr ⟨rfl, by rw [hx0]; rfl⟩
    · exact .inl ⟨rfl, by rw [hx0]; rfl⟩
  obtain ⟨Z, hZ⟩ : ∃ Z : StP, (⟨fin, out, arcs⟩ : StP) = Z := ⟨_, rfl⟩
  have HZ0 : Hid (sumP U Z 0 = (x0, 0, out)) := hide (by rw [sumP_zero, ← hZ, hx0])
  have HZA : Hid (Z.arcs = arcs) := hide (by rw [← hZ])
  rw [hZ] at HE HLOW HGE HSB ⊢
  clear hx0 hZ
  rcases hcase with ⟨rfl, hx⟩ | ⟨rfl, hx⟩
  · subst hx
    go_wp2_with fail
    obtain ⟨w3, hw3⟩ : ∃ x, x = ((w.alloc (.cells #[.bool true, .int .i64 out, .slice aA n ac] 63)).alloc (.cells #[.int .i64 0, .int .i64 0, .int .i64 0] 126)).alloc (.cells #[.int .i64 1, .int .i64 0, .int .i64 out] 126) := ⟨_, rfl⟩
    obtain ⟨X, hX⟩ : ∃ X, X = w.heap.size + 1 + 1 := ⟨_, rfl⟩
    obtain ⟨Y, hY⟩ : ∃ Y, Y = w.heap.size + 1 := ⟨_, rfl⟩
    have hT3 : Touch (fun _ => False) w w3 := by
      rw [hw3]
      exact ((((Touch.refl _ _).alloc _).alloc _).alloc _)
    have hbX : Blk w3 X 126 #[.int .i64 1, .int .i64 0, .int .i64 out] := by
      rw [hw3, hX]
      have h := Blk.new ((w.alloc (.cells #[.bool true, .int .i64 out, .slice aA n ac] 63)).alloc (.cells #[.int .i64 0, .int .i64 0, .int .i64 0] 126)) 126 #[.int .i64 1, .int .i64 0, .int .i64 out]
      simpa using h
    have hbY : Blk w3 Y 126 #[.int .i64 0, .int .i64 0, .int .i64 0] := by
      rw [hw3, hY]
      have h := (Blk.new (w.alloc (.cells #[.bool true, .int .i64 out, .slice aA n ac] 63)) 126 #[.int .i64 0, .int .i64 0, .int .i64 0]).alloc (.cells #[.int .i64 1, .int .i64 0, .int .i64 out] 126)
      simpa using h
    rw [← hw3, ← hX]
    try rw [← hY]
    have HT3 := hide hT3
    have HXL := hide (show w.heap.size ≤ X by omega)
    have HXY := hide (show Y ≠ X by omega)
    have HYL := hide (show w.heap.size ≤ Y by omega)
    have HBX := hide hbX
    have HBY := hide hbY
    clear hw3 hT3 hbX hbY hX hY
    go_loopw [19] (fun iv wr => ∃ (i : Nat) (x1 x2 x3 : Int), iv = .int .i64 i ∧ i ≤ n ∧ x1 ≤ 4096 ∧ Hid ((x1, x2, x3) = sumP U Z i) ∧ x2 ≤ 25 ∧ x3 ≤ 2097152 ∧ Hid (Blk wr X 126 #[.int .i64 x1, .int .i64 x2, .int .i64 x3]) ∧ Hid (Touch (fun g => g = X) w3 wr)) (fun iv _ => n - (intOf iv).toNat)
    case atStart => exact ⟨0, 1, 0, out, rfl, by omega, by omega, hide (by rw [HZ0.out]), by omega, by have := HO.out; omega, HBX, hide (Touch.refl _ _)⟩
    case round =>
      obtain ⟨i, x1, x2, x3, rfl, hi, b2, HP, b4, b6, HX, HT⟩ := hrel
      have hlo := HLOW.out i
      rw [← HP.out] at hlo
      simp only at hlo
      obtain ⟨b1, b3, b5⟩ := hlo
      have hq : Touch (fun _ => False) w wr := HT3.out.trans HT.out (fun g hg e => by have := HXL.out; omega)
      by_cases hin : i < n
      · have y1 : (i : Int) < (n : Int) := by omega
        have y2 : (0 : Int) ≤ (i : Int) := by omega
        have z2 : IntKind.i64.wrap ((i : Int) + 1) = (i : Int) + 1 := IntWalk.i64_in _ (by unfold maxLen at hnm; omega)
        obtain ⟨g, o, hA, hg, c1, c2, c3⟩ := arc_at (HRD.out.quiet hq).rd HLEN.out i hin
        subst hA
        have hmem := getD_mem arcs (0, 0, 0) i (by rw [HLEN.out]; exact hin)
        have he := HE.out _ (by rw [HZA.out]; exact hmem)
        have hsu := sumP_succ U Z i (by rw [HZA.out, HLEN.out]; exact hin)
        rw [← HP.out, HZA.out] at hsu
        obtain ⟨⟨la, ao, tt⟩, hz⟩ : ∃ z, arcs.getD i (0, 0, 0) = z := ⟨_, rfl⟩
        rw [hz] at c1 c2 c3 he hsu
        simp only [sumStep] at c1 c2 c3 he hsu
        obtain ⟨g2, o2, hA2, hg2, d1, d2, d3⟩ := sum_at (HU.out.quiet hq).rd HUL.out tt he.1
        subst hA2
        obtain ⟨⟨u1, u2, u3⟩, hu⟩ : ∃ z, U.getD tt z3 = z := ⟨_, rfl⟩
        rw [hu] at d1 d2 d3 he hsu
        simp only at d1 d2 d3 he hsu
        obtain ⟨e0, ⟨e1, e2⟩, ⟨e3, e4⟩, ⟨e5, e6⟩, ⟨e7, e8⟩⟩ := he
        have HSU := hide hsu
        have y3 : (0 : Int) ≤ (tt : Int) := by omega
        have y4 : (tt : Int) < (N : Int) := by omega
        have k1 : IntKind.i64.wrap (x1 + u1) = x1 + u1 := IntWalk.i64_in _ (by omega)
        have k2 : IntKind.i64.wrap (u2 + 1) = u2 + 1 := IntWalk.i64_in _ (by omega)
        have k3 : IntKind.i64.wrap (ao + u3) = ao + u3 := IntWalk.i64_in _ (by omega)
        obtain ⟨q1, q2, q3⟩ := HX.out.facts
        have hby := HBY.out.touch HT.out HXY.out
        have HBY2 := hide hby
        obtain ⟨r1, r2, r3⟩ := hby.facts
        have HQ := hide hq
        clear hmem hsu hz hu e0 hq hby
        by_cases j0 : (4096 : Int) < x1 + u1
        · have hno : ¬ SumB U Z := fun h => by
            have h1 := h (i + 1)
            rw [HSU.out] at h1
            have := h1.1.2
            simp only at this
            omega
          have HNO := hide hno
          have HE9 := hide (sum_early HBY2.out HXY.out)
          have HT9 := hide (sum_early_touch HQ.out HXL.out HYL.out)
          clear hno
          have hxy1 : ¬ X = Y := fun e => HXY.out e.symm
          have hxy2 : ¬ Y = X := HXY.out
          go_wp2_with fail
          · exact bodyPost_ret (v := .tuple #[.agg #[.int .i64 (x1 + u1), .int .i64 (u2 + 1), .int .i64 (ao + u3)], .bool false]) (by simp [results, Tryd.results68, go_sem, HE9.out]) rfl ⟨.inr ⟨HNO.out, _, _, _, rfl⟩, HT9.out _ _ _ _ _ _ _ _⟩
          · exact bodyPost_ret (v := .tuple #[.agg #[.int .i64 (x1 + u1), .int .i64 (u2 + 1), .int .i64 x3], .bool false]) (by simp [results, Tryd.results68, go_sem, HE9.out]) rfl ⟨.inr ⟨HNO.out, _, _, _, rfl⟩, HT9.out _ _ _ _ _ _ _ _⟩
          · exact bodyPost_ret (v := .tuple #[.agg #[.int .i64 (x1 + u1), .int .i64 x2, .int .i64 (ao + u3)], .bool false]) (by simp [results, Tryd.results68, go_sem, HE9.out]) rfl ⟨.inr ⟨HNO.out, _, _, _, rfl⟩, HT9.out _ _ _ _ _ _ _ _⟩
          · exact bodyPost_ret (v := .tuple #[.agg #[.int .i64 (x1 + u1), .int .i64 x2, .int .i64 x3], .bool false]) (by simp [results, Tryd.results68, go_sem, HE9.out]) rfl ⟨.inr ⟨HNO.out, _, _, _, rfl⟩, HT9.out _ _ _ _ _ _ _ _⟩
        · clear r1 r2 r3
          go_wp2_with fail
          go_roundw
          · refine ⟨i + 1, _, _, _, by simp, by omega, by omega, hide ?_, ?_, ?_, hide (((((HX.out.set_ 0 _).set_ 1 _).set_ 2 _).alloc _).alloc _), hide (((((HT.out.setCell (fun _ => rfl) _).setCell (fun _ => rfl) _).setCell (fun _ => rfl) _).alloc _).alloc _)⟩
            · rw [HSU.out]
              simp only [Prod.mk.injEq, true_and]
              constructor
              · split <;> omega
              · split <;> omega
            · split <;> omega
            · split <;> omega
          · simp only [intOf]; omega
      · have hie : i = n := by omega
        have y1 : ¬ (i : Int) < (n : Int) := by omega
        obtain ⟨q1, q2, q3⟩ := HX.out.facts
        have hby := HBY.out.touch HT.out HXY.out
        obtain ⟨r1, r2, r3⟩ := hby.facts
        have HBY2 := hide hby
        have HQ := hide hq
        have hpn : sumP U Z Z.arcs.length = (x1, x2, x3) := by rw [HP.out, HZA.out, HLEN.out, hie]
        have hpost : (x2 ≤ 24 ∧ x3 ≤ 1048576 ∧ SumPost U Z (.returned (.tuple #[.agg #[.int .i64 x1, .int .i64 x2, .int .i64 x3], .bool true]))) ∨ (x2 ≤ 24 ∧ decide (x3 ≤ 1048576) = false ∧ SumPost U Z (.returned (.tuple #[.agg #[.int .i64 x1, .int .i64 x2, .int .i64 x3], .bool false]))) ∨ (decide (x2 ≤ 24) = false ∧ SumPost U Z (.returned (.tuple #[.agg #[.int .i64 x1, .int .i64 x2, .int .i64 x3], .bool false]))) := by
          have hs := HSB.out
          rw [← HLEN.out, ← HZA.out, hpn] at hs
          have hn : SumB U Z → x2 ≤ 24 ∧ x3 ≤ 1048576 := fun h => by
            have h1 := h Z.arcs.length
            rw [hpn] at h1
            exact ⟨h1.2.1.2, h1.2.2.2⟩
          by_cases h1 : x2 ≤ 24
          · by_cases h2 : x3 ≤ 1048576
            · refine .inl ⟨h1, h2, .inl ⟨hs ⟨b2, h1, h2⟩, ?_⟩⟩
              rw [hpn]
            · exact .inr (.inl ⟨h1, by simp; omega, .inr ⟨fun h => h2 (hn h).2, _, _, _, rfl⟩⟩)
          · exact .inr (.inr ⟨by simp; omega, .inr ⟨fun h => h1 (hn h).1, _, _, _, rfl⟩⟩)
        clear hby hq hpn hie hin hi b4 b6
        have hxy1 : ¬ X = Y := fun e => HXY.out e.symm
        have hxy2 : ¬ Y = X := HXY.out
        rcases hpost with ⟨j1, j2, hpo⟩ | ⟨j1, j2, hpo⟩ | ⟨j1, hpo⟩
        all_goals
          have HPO := hide hpo
          clear hpo
          go_wp2_with fail
          go_region
          all_goals go_wp2
          have hbF : Blk (((wr.setCell ⟨Y, 0, none⟩ (.int .i64 x1)).setCell ⟨Y, 1, none⟩ (.int .i64 x2)).setCell ⟨Y, 2, none⟩ (.int .i64 x3)).drew Y 126 #[.int .i64 x1, .int .i64 x2, .int .i64 x3] := (((HBY2.out.set_ 0 _).set_ 1 _).set_ 2 _).drew
          have f0 := hbF.cell 0
          have f1 := hbF.cell 1
          have f2 := hbF.cell 2
          have hTF : Touch (fun _ => False) w (((wr.setCell ⟨Y, 0, none⟩ (.int .i64 x1)).setCell ⟨Y, 1, none⟩ (.int .i64 x2)).setCell ⟨Y, 2, none⟩ (.int .i64 x3)).drew := by
            refine Touch.drew ?_
            iterate 3 refine Touch.setCell ?_ (fun h => by have := HYL.out; simp only at h; omega) _
            exact HQ.out
          refine bodyPost_ret ?_ rfl ⟨HPO.out, hTF⟩
          simp [results, Tryd.results68, go_sem, f0, f1, f2]
          try first | done | omega
  · subst hx
    go_wp2_with fail
    obtain ⟨w3, hw3⟩ : ∃ x, x = ((w.alloc (.cells #[.bool false, .int .i64 out, .slice aA n ac] 63)).alloc (.cells #[.int .i64 0, .int .i64 0, .int .i64 0] 126)).alloc (.cells #[.int .i64 0, .int .i64 0, .int .i64 out] 126) := ⟨_, rfl⟩
    obtain ⟨X, hX⟩ : ∃ X, X = w.heap.size + 1 + 1 := ⟨_, rfl⟩
    obtain ⟨Y, hY⟩ : ∃ Y, Y = w.heap.size + 1 := ⟨_, rfl⟩
    have hT3 : Touch (fun _ => False) w w3 := by
      rw [hw3]
      exact ((((Touch.refl _ _).alloc _).alloc _).alloc _)
    have hbX : Blk w3 X 126 #[.int .i64 0, .int .i64 0, .int .i64 out] := by
      rw [hw3, hX]
      have h := Blk.new ((w.alloc (.cells #[.bool false, .int .i64 out, .slice aA n ac] 63)).alloc (.cells #[.int .i64 0, .int .i64 0, .int .i64 0] 126)) 126 #[.int .i64 0, .int .i64 0, .int .i64 out]
      simpa using h
    have hbY : Blk w3 Y 126 #[.int .i64 0, .int .i64 0, .int .i64 0] := by
      rw [hw3, hY]
      have h := (Blk.new (w.alloc (.cells #[.bool false, .int .i64 out, .slice aA n ac] 63)) 126 #[.int .i64 0, .int .i64 0, .int .i64 0]).alloc (.cells #[.int .i64 0, .int .i64 0, .int .i64 out] 126)
      simpa using h
    rw [← hw3, ← hX]
    try rw [← hY]
    have HT3 := hide hT3
    have HXL := hide (show w.heap.size ≤ X by omega)
    have HXY := hide (show Y ≠ X by omega)
    have HYL := hide (show w.heap.size ≤ Y by omega)
    have HBX := hide hbX
    have HBY := hide hbY
    clear hw3 hT3 hbX hbY hX hY
    go_loopw [19] (fun iv wr => ∃ (i : Nat) (x1 x2 x3 : Int), iv = .int .i64 i ∧ i ≤ n ∧ x1 ≤ 4096 ∧ Hid ((x1, x2, x3) = sumP U Z i) ∧ x2 ≤ 25 ∧ x3 ≤ 2097152 ∧ Hid (Blk wr X 126 #[.int .i64 x1, .int .i64 x2, .int .i64 x3]) ∧ Hid (Touch (fun g => g = X) w3 wr)) (fun iv _ => n - (intOf iv).toNat)
    case atStart => exact ⟨0, 0, 0, out, rfl, by omega, by omega, hide (by rw [HZ0.out]), by omega, by have := HO.out; omega, HBX, hide (Touch.refl _ _)⟩
    case round =>
      obtain ⟨i, x1, x2, x3, rfl, hi, b2, HP, b4, b6, HX, HT⟩ := hrel
      have hlo := HLOW.out i
      rw [← HP.out] at hlo
      simp only at hlo
      obtain ⟨b1, b3, b5⟩ := hlo
      have hq : Touch (fun _ => False) w wr := HT3.out.trans HT.out (fun g hg e => by have := HXL.out; omega)
      by_cases hin : i < n
      · have y1 : (i : Int) < (n : Int) := by omega
        have y2 : (0 : Int) ≤ (i : Int) := by omega
        have z2 : IntKind.i64.wrap ((i : Int) + 1) = (i : Int) + 1 := IntWalk.i64_in _ (by unfold maxLen at hnm; omega)
        obtain ⟨g, o, hA, hg, c1, c2, c3⟩ := arc_at (HRD.out.quiet hq).rd HLEN.out i hin
        subst hA
        have hmem := getD_mem arcs (0, 0, 0) i (by rw [HLEN.out]; exact hin)
        have he := HE.out _ (by rw [HZA.out]; exact hmem)
        have hsu := sumP_succ U Z i (by rw [HZA.out, HLEN.out]; exact hin)
        rw [← HP.out, HZA.out] at hsu
        obtain ⟨⟨la, ao, tt⟩, hz⟩ : ∃ z, arcs.getD i (0, 0, 0) = z := ⟨_, rfl⟩
        rw [hz] at c1 c2 c3 he hsu
        simp only [sumStep] at c1 c2 c3 he hsu
        obtain ⟨g2, o2, hA2, hg2, d1, d2, d3⟩ := sum_at (HU.out.quiet hq).rd HUL.out tt he.1
        subst hA2
        obtain ⟨⟨u1, u2, u3⟩, hu⟩ : ∃ z, U.getD tt z3 = z := ⟨_, rfl⟩
        rw [hu] at d1 d2 d3 he hsu
        simp only at d1 d2 d3 he hsu
        obtain ⟨e0, ⟨e1, e2⟩, ⟨e3, e4⟩, ⟨e5, e6⟩, ⟨e7, e8⟩⟩ := he
        have HSU := hide hsu
        have y3 : (0 : Int) ≤ (tt : Int) := by omega
        have y4 : (tt : Int) < (N : Int) := by omega
        have k1 : IntKind.i64.wrap (x1 + u1) = x1 + u1 := IntWalk.i64_in _ (by omega)
        have k2 : IntKind.i64.wrap (u2 + 1) = u2 + 1 := IntWalk.i64_in _ (by omega)
        have k3 : IntKind.i64.wrap (ao + u3) = ao + u3 := IntWalk.i64_in _ (by omega)
        obtain ⟨q1, q2, q3⟩ := HX.out.facts
        have hby := HBY.out.touch HT.out HXY.out
        have HBY2 := hide hby
        obtain ⟨r1, r2, r3⟩ := hby.facts
        have HQ := hide hq
        clear hmem hsu hz hu e0 hq hby
        by_cases j0 : (4096 : Int) < x1 + u1
        · have hno : ¬ SumB U Z := fun h => by
            have h1 := h (i + 1)
            rw [HSU.out] at h1
            have := h1.1.2
            simp only at this
            omega
          have HNO := hide hno
          have HE9 := hide (sum_early HBY2.out HXY.out)
          have HT9 := hide (sum_early_touch HQ.out HXL.out HYL.out)
          clear hno
          have hxy1 : ¬ X = Y := fun e => HXY.out e.symm
          have hxy2 : ¬ Y = X := HXY.out
          go_wp2_with fail
          · exact bodyPost_ret (v := .tuple #[.agg #[.int .i64 (x1 + u1), .int .i64 (u2 + 1), .int .i64 (ao + u3)], .bool false]) (by simp [results, Tryd.results68, go_sem, HE9.out]) rfl ⟨.inr ⟨HNO.out, _, _, _, rfl⟩, HT9.out _ _ _ _ _ _ _ _⟩
          · exact bodyPost_ret (v := .tuple #[.agg #[.int .i64 (x1 + u1), .int .i64 (u2 + 1), .int .i64 x3], .bool false]) (by simp [results, Tryd.results68, go_sem, HE9.out]) rfl ⟨.inr ⟨HNO.out, _, _, _, rfl⟩, HT9.out _ _ _ _ _ _ _ _⟩
          · exact bodyPost_ret (v := .tuple #[.agg #[.int .i64 (x1 + u1), .int .i64 x2, .int .i64 (ao + u3)], .bool false]) (by simp [results, Tryd.results68, go_sem, HE9.out]) rfl ⟨.inr ⟨HNO.out, _, _, _, rfl⟩, HT9.out _ _ _ _ _ _ _ _⟩
          · exact bodyPost_ret (v := .tuple #[.agg #[.int .i64 (x1 + u1), .int .i64 x2, .int .i64 x3], .bool false]) (by simp [results, Tryd.results68, go_sem, HE9.out]) rfl ⟨.inr ⟨HNO.out, _, _, _, rfl⟩, HT9.out _ _ _ _ _ _ _ _⟩
        · clear r1 r2 r3
          go_wp2_with fail
          go_roundw
          · refine ⟨i + 1, _, _, _, by simp, by omega, by omega, hide ?_, ?_, ?_, hide (((((HX.out.set_ 0 _).set_ 1 _).set_ 2 _).alloc _).alloc _), hide (((((HT.out.setCell (fun _ => rfl) _).setCell (fun _ => rfl) _).setCell (fun _ => rfl) _).alloc _).alloc _)⟩
            · rw [HSU.out]
              simp only [Prod.mk.injEq, true_and]
              constructor
              · split <;> omega
              · split <;> omega
            · split <;> omega
            · split <;> omega
          · simp only [intOf]; omega
      · have hie : i = n := by omega
        have y1 : ¬ (i : Int) < (n : Int) := by omega
        obtain ⟨q1, q2, q3⟩ := HX.out.facts
        have hby := HBY.out.touch HT.out HXY.out
        obtain ⟨r1, r2, r3⟩ := hby.facts
        have HBY2 := hide hby
        have HQ := hide hq
        have hpn : sumP U Z Z.arcs.length = (x1, x2, x3) := by rw [HP.out, HZA.out, HLEN.out, hie]
        have hpost : (x2 ≤ 24 ∧ x3 ≤ 1048576 ∧ SumPost U Z (.returned (.tuple #[.agg #[.int .i64 x1, .int .i64 x2, .int .i64 x3], .bool true]))) ∨ (x2 ≤ 24 ∧ decide (x3 ≤ 1048576) = false ∧ SumPost U Z (.returned (.tuple #[.agg #[.int .i64 x1, .int .i64 x2, .int .i64 x3], .bool false]))) ∨ (decide (x2 ≤ 24) = false ∧ SumPost U Z (.returned (.tuple #[.agg #[.int .i64 x1, .int .i64 x2, .int .i64 x3], .bool false]))) := by
          have hs := HSB.out
          rw [← HLEN.out, ← HZA.out, hpn] at hs
          have hn : SumB U Z → x2 ≤ 24 ∧ x3 ≤ 1048576 := fun h => by
            have h1 := h Z.arcs.length
            rw [hpn] at h1
            exact ⟨h1.2.1.2, h1.2.2.2⟩
          by_cases h1 : x2 ≤ 24
          · by_cases h2 : x3 ≤ 1048576
            · refine .inl ⟨h1, h2, .inl ⟨hs ⟨b2, h1, h2⟩, ?_⟩⟩
              rw [hpn]
            · exact .inr (.inl ⟨h1, by simp; omega, .inr ⟨fun h => h2 (hn h).2, _, _, _, rfl⟩⟩)
          · exact .inr (.inr ⟨by simp; omega, .inr ⟨fun h => h1 (hn h).1, _, _, _, rfl⟩⟩)
        clear hby hq hpn hie hin hi b4 b6
        have hxy1 : ¬ X = Y := fun e => HXY.out e.symm
        have hxy2 : ¬ Y = X := HXY.out
        rcases hpost with ⟨j1, j2, hpo⟩ | ⟨j1, j2, hpo⟩ | ⟨j1, hpo⟩
        all_goals
          have HPO := hide hpo
          clear hpo
          go_wp2_with fail
          go_region
          all_goals go_wp2
          have hbF : Blk (((wr.setCell ⟨Y, 0, none⟩ (.int .i64 x1)).setCell ⟨Y, 1, none⟩ (.int .i64 x2)).setCell ⟨Y, 2, none⟩ (.int .i64 x3)).drew Y 126 #[.int .i64 x1, .int .i64 x2, .int .i64 x3] := (((HBY2.out.set_ 0 _).set_ 1 _).set_ 2 _).drew
          have f0 := hbF.cell 0
          have f1 := hbF.cell 1
          have f2 := hbF.cell 2
          have hTF : Touch (fun _ => False) w (((wr.setCell ⟨Y, 0, none⟩ (.int .i64 x1)).setCell ⟨Y, 1, none⟩ (.int .i64 x2)).setCell ⟨Y, 2, none⟩ (.int .i64 x3)).drew := by
            refine Touch.drew ?_
            iterate 3 refine Touch.setCell ?_ (fun h => by have := HYL.out; simp only at h; omega) _
            exact HQ.out
          refine bodyPost_ret ?_ rfl ⟨HPO.out, hTF⟩
          simp [results, Tryd.results68, go_sem, f0, f1, f2]
          try first | done | omega

end Go.Proofs.YtfaoifggkfmokaaDoor
