/- (*walk.Walk).State, abecedaryref07.SameState. Conditions: there are no more than 2^21 arcs at a state; the states say the same. -/
import Derived.Test.YtnakpadjlamdeaaDoorWFindsW
namespace Go.Proofs.YtnakpadjlamdeaaDoor
open Go.RowKit

set_option maxRecDepth 100000 in
set_option maxHeartbeats 4000000 in
theorem wstate_none (w : World) (b : Nat) (base : Int) (A : Option Addr) (n c : Nat) (Z : List SV) (wA : Option Addr) (wc : Nat) (W : List Int) (hM : WkM w b base A n c Z wA wc W) (i : Int) (hi : i < 0 ∨ (n : Int) ≤ i) :
    Calls Tryd.prog 19 #[.pointer (some ⟨b, 0, none⟩), .int .i64 i] w fun e w' => e = .returned (.tuple #[.agg #[.bool false, .int .i64 0, .slice none 0 0], .bool false]) ∧ Touch (fun _ => False) w w' := by
  obtain ⟨x0, x1, x2⟩ := hM.blk.facts
  have hcase : i < 0 ∨ (¬ i < 0 ∧ (n : Int) ≤ i) := by omega
  clear hM hi
  have hb : Blk (w.alloc (.cells #[.bool false, .int .i64 0, .slice none 0 0] 44)) w.heap.size 44 #[.bool false, .int .i64 0, .slice none 0 0] := Blk.new _ _ _
  have HB := hide hb
  clear hb
  rcases hcase with h0 | ⟨h0, h1⟩
  all_goals
    go_enter Tryd.func19, Tryd.ntmps19
    go_wp2_with fail
    have f0 := HB.out.cell 0
    have f1 := HB.out.cell 1
    have f2 := HB.out.cell 2
    simp at f0 f1 f2
    exact bodyPost_ret (v := .tuple #[.agg #[.bool false, .int .i64 0, .slice none 0 0], .bool false]) (by simp [results, Tryd.results19, go_sem]) rfl ⟨rfl, (Touch.refl _ _).alloc _⟩

set_option maxRecDepth 100000 in
set_option maxHeartbeats 4000000 in
theorem wstate_some (w : World) (b : Nat) (base : Int) (A : Option Addr) (n c : Nat) (Z : List SV) (wA : Option Addr) (wc : Nat) (W : List Int) (hM : WkM w b base A n c Z wA wc W) (i : Nat) (hi : i < n) (z : SV) (hz : Z.getD i svZero = z) (hq : z.n ≤ 2097152) :
    Calls Tryd.prog 19 #[.pointer (some ⟨b, 0, none⟩), .int .i64 i] w fun e w' => ∃ A2 c2, e = .returned (.tuple #[.agg #[.bool z.fin, .int .i64 z.out, .slice A2 z.n c2], .bool true]) ∧ Cln w w' A2 z.n c2 z.arcs := by
  obtain ⟨x0, x1, x2⟩ := hM.blk.facts
  obtain ⟨g, o, hA, hgl, d0, d1, d2⟩ := state_at hM.sts.rd.rd hM.sts.len i hi
  subst hA
  have hzo := hM.sts.el _ (getD_mem Z svZero i (by rw [hM.sts.len]; exact hi))
  rw [hz] at d0 d1 d2 hzo
  obtain ⟨fin, out, zA, q, zc, arcs⟩ := z
  simp only at d0 d1 d2 hq ⊢
  have y0 : ¬ (i : Int) < 0 := by omega
  have y1 : (i : Int) < (n : Int) := by omega
  have y2 : (0 : Int) ≤ (i : Int) := by omega
  obtain ⟨R, hR⟩ : ∃ R, R = w.heap.size := ⟨_, rfl⟩
  obtain ⟨s, hs⟩ : ∃ s, s = w.heap.size + 1 := ⟨_, rfl⟩
  obtain ⟨wa, hwa⟩ : ∃ x, x = (w.alloc (.cells #[.bool false, .int .i64 0, .slice none 0 0] 44)).alloc (.cells #[.bool fin, .int .i64 out, .slice zA q zc] 44) := ⟨_, rfl⟩
  have hTa : Touch (fun _ => False) w wa := by rw [hwa]; exact ((Touch.refl _ _).alloc _).alloc _
  have hbR : Blk wa R 44 #[.bool false, .int .i64 0, .slice none 0 0] := by rw [hwa, hR]; exact (Blk.new _ _ _).alloc _
  have hbs : Blk wa s 44 #[.bool fin, .int .i64 out, .slice zA q zc] := by rw [hwa, hs]; exact blk_new1 _ _ _ _
  have hcc := clone_any wa zA q zc arcs hzo.len (hzo.rd.quiet hTa) hq
  have HWA := hide hwa
  have HR := hide hR
  have HSD := hide hs
  have HTA := hide hTa
  have HBR := hide hbR
  have HBS := hide hbs
  have HCC := hide hcc
  clear hM hzo hz hq hwa hR hs hTa hbR hbs hcc
  go_enter Tryd.func19, Tryd.ntmps19
  go_wp2_with fail
  rw [← HWA.out, ← HSD.out, ← HR.out]
  refine HCC.out.mono ?_
  rintro e w3 ⟨A2, c2, rfl, hcl⟩
  have hbs3 := HBS.out.touch hcl.touch (fun f => f)
  have hbR3 := HBR.out.touch hcl.touch (fun f => f)
  obtain ⟨t0, t1, t2⟩ := hbs3.facts
  obtain ⟨r0, r1, r2⟩ := hbR3.facts
  have hRs : ¬ R = s := by have h1 := HR.out; have h2 := HSD.out; omega
  have hsR : ¬ s = R := fun e => hRs e.symm
  have HCL := hide hcl
  have HBR3 := hide hbR3
  have HBS3 := hide hbs3
  have HRS := hide hRs
  clear hcl hbs3 hbR3 HCC
  go_wp2_with fail
  have hb4 := ((((HBR3.out.far (p := ⟨s, 2, none⟩) HRS.out (.slice A2 q c2)).set_ 0 (.bool fin)).set_ 1 (.int .i64 out)).set_ 2 (.slice A2 q c2))
  have f0 := hb4.cell 0
  have f1 := hb4.cell 1
  have f2 := hb4.cell 2
  simp at f0 f1 f2
  have hT4 : Touch (fun y => y = R ∨ y = s) w3 ((((w3.setCell ⟨s, 2, none⟩ (.slice A2 q c2)).setCell ⟨R, 0, none⟩ (.bool fin)).setCell ⟨R, 1, none⟩ (.int .i64 out)).setCell ⟨R, 2, none⟩ (.slice A2 q c2)) := by
    refine Touch.setCell (Touch.setCell (Touch.setCell (Touch.setCell (Touch.refl _ _) ?_ _) ?_ _) ?_ _) ?_ _
    · exact fun _ => .inr rfl
    · exact fun _ => .inl rfl
    · exact fun _ => .inl rfl
    · exact fun _ => .inl rfl
  refine bodyPost_ret (v := .tuple #[.agg #[.bool fin, .int .i64 out, .slice A2 q c2], .bool true]) (by simp [results, Tryd.results19, go_sem, f0, f1, f2]) rfl ⟨A2, c2, rfl, ?_, ?_, ?_⟩
  · refine own_touch HCL.out.own hT4 ?_
    rintro y hy (e | e)
    · exact (own_ty HCL.out.own hy).ne (blk_ty HBR3.out) (by decide) e
    · exact (own_ty HCL.out.own hy).ne (blk_ty HBS3.out) (by decide) e
  · intro y hy
    have h1 := HCL.out.young y hy
    have h2 := HTA.out.size
    omega
  · refine (HTA.out.then HCL.out.touch).trans hT4 fun y hy e => ?_
    have h1 := HR.out
    have h2 := HSD.out
    omega

set_option maxRecDepth 100000 in
set_option maxHeartbeats 4000000 in
theorem same_state (w : World) (x y : SV) (hx : x.Ok w) (hy : y.Ok w) (he : x.p = y.p) (hq : x.n ≤ 2097152) :
    Calls Tryd.prog 22 #[.agg #[.bool x.fin, .int .i64 x.out, .slice x.A x.n x.c], .agg #[.bool y.fin, .int .i64 y.out, .slice y.A y.n y.c]] w fun e w' => e = .returned (.bool true) ∧ Touch (fun _ => False) w w' := by
  obtain ⟨xf, xo, xA, xn, xc, xa⟩ := x
  obtain ⟨yf, yo, yA, yn, yc, ya⟩ := y
  simp only [SV.p, StP.mk.injEq] at he
  obtain ⟨rfl, rfl, rfl⟩ := he
  obtain ⟨xlen, xrd, xle, xmx⟩ := hx
  obtain ⟨ylen, yrd, yle, ymx⟩ := hy
  simp only at *
  have hyn : xn = yn := by omega
  subst hyn
  have hqI : (xn : Int) ≤ 2097152 := by omega
  have HX := hide xrd
  have HXL := hide xlen
  have HY := hide yrd
  clear xrd xlen yrd ylen xle xmx yle ymx hq
  go_enter Tryd.func22, Tryd.ntmps22
  go_wp2_with fail
  obtain ⟨w3, hw3⟩ : ∃ z, z = (w.alloc (.cells #[.bool xf, .int .i64 xo, .slice xA xn xc] 44)).alloc (.cells #[.bool xf, .int .i64 xo, .slice yA xn yc] 44) := ⟨_, rfl⟩
  obtain ⟨X, hX⟩ : ∃ X, X = w.heap.size := ⟨_, rfl⟩
  obtain ⟨Y, hY⟩ : ∃ Y, Y = w.heap.size + 1 := ⟨_, rfl⟩
  have hT3 : Touch (fun _ => False) w w3 := by
    rw [hw3]
    exact ((Touch.refl _ _).alloc _).alloc _
  have hbX : Blk w3 X 44 #[.bool xf, .int .i64 xo, .slice xA xn xc] := by rw [hw3, hX]; exact (Blk.new _ _ _).alloc _
  have hbY : Blk w3 Y 44 #[.bool xf, .int .i64 xo, .slice yA xn yc] := by rw [hw3, hY]; exact blk_new1 _ _ _ _
  rw [← hw3]
  try rw [← hY]
  rw [← hX]
  have HT3 := hide hT3
  have HBX := hide hbX
  have HBY := hide hbY
  clear hw3 hT3 hbX hbY hX hY
  go_loopw [5] (fun iv wr => ∃ (i : Nat), iv = .int .i64 i ∧ i ≤ xn ∧ Hid (Touch (fun _ => False) w3 wr)) (fun iv _ => xn - (intOf iv).toNat)
  case atStart => exact ⟨0, rfl, by omega, hide (Touch.refl _ _)⟩
  case round =>
    obtain ⟨i, rfl, hi, HT⟩ := hrel
    obtain ⟨q1, q2, q3⟩ := (HBX.out.touch HT.out (fun f => f)).facts
    obtain ⟨r1, r2, r3⟩ := (HBY.out.touch HT.out (fun f => f)).facts
    by_cases hin : i < xn
    · have y1 : (i : Int) < (xn : Int) := by omega
      have y2 : (0 : Int) ≤ (i : Int) := by omega
      have z2 : IntKind.i64.wrap ((i : Int) + 1) = (i : Int) + 1 := IntWalk.i64_in _ (by omega)
      obtain ⟨g, o, hA, hg, c1, c2, c3⟩ := arc_at (HX.out.quiet (HT3.out.then HT.out)).rd HXL.out i hin
      obtain ⟨g2, o2, hA2, hg2, d1, d2, d3⟩ := arc_at (HY.out.quiet (HT3.out.then HT.out)).rd HXL.out i hin
      subst hA
      subst hA2
      obtain ⟨⟨la, ao, tt⟩, hz⟩ : ∃ z, xa.getD i (0, 0, 0) = z := ⟨_, rfl⟩
      rw [hz] at c1 c2 c3 d1 d2 d3
      simp only at c1 c2 c3 d1 d2 d3
      clear hz
      go_wp2_with fail
      go_quiet (fail)
      go_wp2_with fail
      go_roundw
      · exact ⟨i + 1, by simp, by omega, hide (HT.out.drewN _)⟩
      · simp only [intOf]; omega
    · have y1 : ¬ (i : Int) < (xn : Int) := by omega
      go_wp2_with fail
      go_ret
      exact ⟨rfl, HT3.out.then HT.out⟩

end Go.Proofs.YtnakpadjlamdeaaDoor
