/- ref08.formed on any state. No condition. -/
import Derived.Test.YtcmjohaohdgnjaaDoorGfA
import Derived.StillTailTactics
import Derived.Laws.Cover3
namespace Go.Proofs.YtcmjohaohdgnjaaDoor
open Go.RowKit
set_option linter.unusedSectionVars false
set_option linter.unusedSimpArgs false
set_option linter.unusedVariables false
variable [Inhabited BaseT]

theorem wpQuiet_cons7 {P : Program} {ops : Array Oper} {C : World → Prop} {Q : Act → Prop} {o : Oper} {l : List Oper} {a : Act} : wpQuiet P ops C Q (o :: l) a = (if Region.wanted o (yielded ops a.tmps) then o.quiet P a C (wpQuiet P ops C Q l) else wpQuiet P ops C Q l (a.put o.dst undef)) := rfl
/-- What ref08.formed asks of one arc. -/
def rfArc (num : Nat) (a : Int × Int × Int) : Prop := 0 ≤ a.2.2 ∧ a.2.2 < (num : Int) ∧ 0 ≤ a.2.1 ∧ a.2.1 ≤ 1048576
def rfJ (num : Nat) (arcs : List (Int × Int × Int)) (i : Nat) : Prop := (∀ a ∈ arcs.take i, rfArc num a) ∧ ((arcs.take i).map (·.1)).Pairwise (· < ·)
/-- What ref08.formed asks of a state. -/
def RForm (num : Nat) (z : StZ) : Prop := (0 ≤ z.out ∧ z.out ≤ 1048576) ∧ (z.fin = false → z.arcs ≠ []) ∧ rfJ num z.arcs z.arcs.length
theorem rfJ_zero (num : Nat) (arcs : List (Int × Int × Int)) : rfJ num arcs 0 := ⟨by simp, by simp⟩
theorem rfJ_succ {num : Nat} {arcs : List (Int × Int × Int)} {i : Nat} (hi : i < arcs.length) (h : rfJ num arcs i) : rfJ num arcs (i + 1) ↔ rfArc num (arcs.getD i (0, 0, 0)) ∧ (0 < i → (arcs.getD (i - 1) (0, 0, 0)).1 < (arcs.getD i (0, 0, 0)).1) := by
  have htk := take_snoc arcs (0, 0, 0) i hi
  unfold rfJ
  rw [htk, List.map_append, List.pairwise_append]
  constructor
  · rintro ⟨h1, _, _, h3⟩
    refine ⟨h1 _ (by simp), fun h0 => ?_⟩
    obtain ⟨j, rfl⟩ : ∃ j, i = j + 1 := ⟨i - 1, by omega⟩
    have hm : arcs.getD j (0, 0, 0) ∈ arcs.take (j + 1) := by
      rw [take_snoc arcs (0, 0, 0) j (by omega)]
      simp
    exact h3 _ (List.mem_map_of_mem hm) _ (by simp)
  · rintro ⟨h1, h2⟩
    refine ⟨?_, h.2, by simp, ?_⟩
    · intro a ha
      rcases List.mem_append.1 ha with ha | ha
      · exact h.1 a ha
      · rw [List.mem_singleton.1 ha]
        exact h1
    · intro x hx y hy
      simp only [List.map_cons, List.map_nil, List.mem_singleton] at hy
      subst hy
      obtain ⟨a, ha, rfl⟩ := List.mem_map.1 hx
      cases i with
      | zero => simp at ha
      | succ j =>
        have h3 := h2 (by omega)
        simp only [Nat.add_sub_cancel] at h3
        have htj := take_snoc arcs (0, 0, 0) j (by omega)
        rw [htj] at ha
        rcases List.mem_append.1 ha with ha | ha
        · have h4 := h.2
          rw [htj, List.map_append, List.pairwise_append] at h4
          have := h4.2.2 a.1 (List.mem_map_of_mem ha) _ (List.mem_map_of_mem (List.mem_singleton.2 rfl))
          omega
        · rw [List.mem_singleton.1 ha]
          exact h3
theorem rfJ_pre {num : Nat} {arcs : List (Int × Int × Int)} {i : Nat} (h : rfJ num arcs arcs.length) : rfJ num arcs i := by
  obtain ⟨h1, h2⟩ := h
  rw [List.take_length] at h1 h2
  exact ⟨fun a ha => h1 a (List.mem_of_mem_take ha), h2.sublist ((List.take_sublist i arcs).map _)⟩
/-- A state that pack.formed takes, ref08.formed takes too. -/
theorem formZ_rform {num : Nat} {z : StZ} (h : FormZ num z) : RForm num z := by
  obtain ⟨s, rfl, hs⟩ := h
  refine ⟨⟨hs.out0, hs.out1⟩, ?_, ?_, ?_⟩
  · intro hf e
    have hl := hs.low
    unfold lowP at hl
    have e2 : s.arcs = [] := by simpa [StP.z] using e
    have hf2 : s.fin = false := hf
    rw [e2, hf2] at hl
    simp at hl
  · intro a ha
    rw [List.take_length] at ha
    obtain ⟨b, hb, rfl⟩ := List.mem_map.1 ha
    have := hs.arc b hb
    unfold rfArc
    simp only [arcZ]
    omega
  · rw [List.take_length]
    simp only [StP.z, List.map_map]
    have h := hs.lab
    rw [List.pairwise_map] at h ⊢
    refine h.imp fun {a b} hab => ?_
    simp only [Function.comp, arcZ]
    omega

set_option maxRecDepth 100000 in
set_option maxHeartbeats 8000000 in
theorem rformed_any (w : World) (z : ZV) (hz : z.Ok w) (num : Nat) :
    Calls Tryd.prog 44 #[.agg #[.bool z.fin, .int .i64 z.out, .slice z.A z.n z.c], .int .i64 num] w fun e w' => BoolIff (RForm num z.p) e ∧ Touch (fun _ => False) w w' := by
  obtain ⟨fin, out, aA, n, ac, arcs⟩ := z
  obtain ⟨hlen, hrd, hle, hmx⟩ := hz
  simp only [ZV.p] at *
  obtain ⟨Q, hQ⟩ : ∃ Q : Prop, RForm num ⟨fin, out, arcs⟩ = Q := ⟨_, rfl⟩
  have hiff : Q ↔ (0 ≤ out ∧ out ≤ 1048576) ∧ (fin = false → arcs ≠ []) ∧ rfJ num arcs n := by rw [← hQ, ← hlen]; rfl
  rw [hQ]
  clear hQ
  have hnm : n ≤ maxLen := Nat.le_trans hle hmx
  unfold maxLen at hnm
  have HRD := hide hrd
  have HLEN := hide hlen
  have HIFF := hide hiff
  clear hrd hlen hle hmx hiff
  obtain ⟨w2, hw2⟩ : ∃ x, x = w.alloc (.cells #[.bool fin, .int .i64 out, .slice aA n ac] 44) := ⟨_, rfl⟩
  have hT2 : Touch (fun _ => False) w w2 := by rw [hw2]; exact (Touch.refl _ _).alloc _
  have hbS : Blk w2 w.heap.size 44 #[.bool fin, .int .i64 out, .slice aA n ac] := by rw [hw2]; exact Blk.new _ _ _
  obtain ⟨S, hS⟩ : ∃ S, S = w.heap.size := ⟨_, rfl⟩
  rw [← hS] at hbS
  have HT2 := hide hT2
  have HW2 := hide hw2
  have HBS := hide hbS
  have HSS := hide hS
  clear hw2 hT2 hbS hS
  go_enter Tryd.func44, Tryd.ntmps44
  have hcase : (out < 0 ∧ ¬ Q) ∨ (¬ out < 0 ∧ 1048576 < out ∧ ¬ Q) ∨ (¬ out < 0 ∧ ¬ 1048576 < out ∧ fin = false ∧ n = 0 ∧ ¬ Q) ∨ (¬ out < 0 ∧ ¬ 1048576 < out ∧ fin = false ∧ ((n : Int) == 0) = false ∧ (Q ↔ rfJ num arcs n)) ∨ (¬ out < 0 ∧ ¬ 1048576 < out ∧ fin = true ∧ (Q ↔ rfJ num arcs n)) := by
    by_cases o1 : out < 0
    · exact .inl ⟨o1, fun h => by have := (HIFF.out.1 h).1.1; omega⟩
    · by_cases o2 : 1048576 < out
      · exact .inr (.inl ⟨o1, o2, fun h => by have := (HIFF.out.1 h).1.2; omega⟩)
      · cases fin with
        | true => exact .inr (.inr (.inr (.inr ⟨o1, o2, rfl, ⟨fun h => (HIFF.out.1 h).2.2, fun h => HIFF.out.2 ⟨by omega, (fun e => by cases e), h⟩⟩⟩)))
        | false =>
          by_cases hn : n = 0
          · have ha : arcs = [] := List.eq_nil_of_length_eq_zero (by rw [HLEN.out]; exact hn)
            exact .inr (.inr (.inl ⟨o1, o2, rfl, hn, fun h => (HIFF.out.1 h).2.1 rfl ha⟩))
          · refine .inr (.inr (.inr (.inl ⟨o1, o2, rfl, by simp; omega, ⟨fun h => (HIFF.out.1 h).2.2, fun h => HIFF.out.2 ⟨by omega, fun _ e => ?_, h⟩⟩⟩)))
            have := HLEN.out
            rw [e] at this
            simp at this
            omega
  rcases hcase with ⟨o1, hq⟩ | ⟨o1, o2, hq⟩ | ⟨o1, o2, rfl, rfl, hq⟩ | hcase
  · have HQN := hide hq
    clear hq
    go_wp2_with fail
    rw [← HW2.out]
    go_ret
    exact ⟨.mk false ⟨(fun h => by cases h), fun h => absurd h HQN.out⟩, HT2.out⟩
  · have HQN := hide hq
    clear hq
    go_wp2_with fail
    rw [← HW2.out]
    go_ret
    exact ⟨.mk false ⟨(fun h => by cases h), fun h => absurd h HQN.out⟩, HT2.out⟩
  · have HQN := hide hq
    clear hq
    go_wp2_with fail
    rw [← HW2.out]
    go_ret
    exact ⟨.mk false ⟨(fun h => by cases h), fun h => absurd h HQN.out⟩, HT2.out⟩
  · have HIFF2 : Hid (Q ↔ rfJ num arcs n) := hide (by rcases hcase with ⟨_, _, _, _, h⟩ | ⟨_, _, _, h⟩ <;> exact h)
    have hc2 : ¬ out < 0 ∧ ¬ 1048576 < out ∧ (fin = true ∨ (fin = false ∧ ((n : Int) == 0) = false)) := by
      rcases hcase with ⟨h1, h2, h3, h4, _⟩ | ⟨h1, h2, h3, _⟩
      · exact ⟨h1, h2, .inr ⟨h3, h4⟩⟩
      · exact ⟨h1, h2, .inl h3⟩
    clear hcase
    obtain ⟨o1, o2, hc2⟩ := hc2
    rcases hc2 with rfl | ⟨rfl, hn0⟩
    all_goals
      go_wp2_with fail
      rw [← HW2.out]
      try rw [← HSS.out]
      go_loopw [5] (fun iv wr => ∃ i : Nat, iv = .int .i64 i ∧ i ≤ n ∧ Hid (rfJ num arcs i) ∧ Hid (Touch (fun _ => False) w2 wr)) (fun iv _ => n - (intOf iv).toNat)
      case atStart => exact ⟨0, rfl, Nat.zero_le _, hide (rfJ_zero _ _), hide (Touch.refl _ _)⟩
      case round =>
        obtain ⟨i, rfl, hi, HJ, HT⟩ := hrel
        try clear hn0
        clear o1 o2
        obtain ⟨q1, q2, q3⟩ := (HBS.out.touch HT.out (fun f => f)).facts
        by_cases hin : i < n
        · have y1 : (i : Int) < (n : Int) := by omega
          have y2 : (0 : Int) ≤ (i : Int) := by omega
          have z2 : IntKind.i64.wrap ((i : Int) + 1) = (i : Int) + 1 := IntWalk.i64_in _ (by omega)
          obtain ⟨g, o, hA, hg, c1, c2, c3⟩ := zarc_at (HRD.out.quiet (HT2.out.then HT.out)).rd HLEN.out i hin
          have hprev : 0 < i → wr.cell? ⟨g, o + (i - 1) * 3, none⟩ = some (.int .i32 (arcs.getD (i - 1) (0, 0, 0)).1) := fun h0 => by
            obtain ⟨g2, o2, hA2, _, d1, _, _⟩ := zarc_at (HRD.out.quiet (HT2.out.then HT.out)).rd HLEN.out (i - 1) (by omega)
            rw [hA] at hA2
            injection hA2 with hA2
            injection hA2 with e1 e2
            subst e1
            subst e2
            exact d1
          subst hA
          have hs := rfJ_succ (num := num) (by rw [HLEN.out]; exact hin) HJ.out
          have hpre : Q → rfJ num arcs (i + 1) := fun h => rfJ_pre (by rw [HLEN.out]; exact HIFF2.out.1 h)
          obtain ⟨⟨la, ao, tt⟩, hz⟩ : ∃ z, arcs.getD i (0, 0, 0) = z := ⟨_, rfl⟩
          obtain ⟨lp, hlp⟩ : ∃ z, (arcs.getD (i - 1) (0, 0, 0)).1 = z := ⟨_, rfl⟩
          rw [hz, hlp] at hs
          rw [hlp] at hprev
          rw [hz] at c1 c2 c3
          simp only [rfArc] at c1 c2 c3 hs
          have hcs : (((tt < 0) ∨ (¬ tt < 0 ∧ (num : Int) ≤ tt) ∨ (¬ tt < 0 ∧ ¬ (num : Int) ≤ tt ∧ ao < 0) ∨ (¬ tt < 0 ∧ ¬ (num : Int) ≤ tt ∧ ¬ ao < 0 ∧ 1048576 < ao)) ∧ ¬ Q) ∨ (¬ tt < 0 ∧ ¬ (num : Int) ≤ tt ∧ ¬ ao < 0 ∧ ¬ 1048576 < ao ∧
              ((i = 0 ∧ rfJ num arcs (i + 1)) ∨ (0 < i ∧ lp < la ∧ rfJ num arcs (i + 1)) ∨ (0 < i ∧ la ≤ lp ∧ ¬ Q))) := by
            by_cases h1 : tt < 0
            · exact .inl ⟨.inl h1, fun h => by have := (hs.1 (hpre h)).1; omega⟩
            · by_cases h2 : (num : Int) ≤ tt
              · exact .inl ⟨.inr (.inl ⟨h1, h2⟩), fun h => by have := (hs.1 (hpre h)).1; omega⟩
              · by_cases h3 : ao < 0
                · exact .inl ⟨.inr (.inr (.inl ⟨h1, h2, h3⟩)), fun h => by have := (hs.1 (hpre h)).1; omega⟩
                · by_cases h4 : 1048576 < ao
                  · exact .inl ⟨.inr (.inr (.inr ⟨h1, h2, h3, h4⟩)), fun h => by have := (hs.1 (hpre h)).1; omega⟩
                  · refine .inr ⟨h1, h2, h3, h4, ?_⟩
                    by_cases h5 : i = 0
                    · exact .inl ⟨h5, hs.2 ⟨by omega, fun h => by omega⟩⟩
                    · by_cases h6 : lp < la
                      · exact .inr (.inl ⟨by omega, h6, hs.2 ⟨by omega, fun _ => h6⟩⟩)
                      · exact .inr (.inr ⟨by omega, by omega, fun h => by have := (hs.1 (hpre h)).2 (by omega); omega⟩)
          have HIN := hide hin
          have HPV := hide hprev
          clear hs hpre hz hlp hin hi hprev
          rcases hcs with ⟨hb, hq⟩ | ⟨h1, h2, h3, h4, hg⟩
          · have HQN := hide hq
            clear hq
            rcases hb with h1 | ⟨h1, h2⟩ | ⟨h1, h2, h3⟩ | ⟨h1, h2, h3, h4⟩
            all_goals
              go_wp2_with fail
              go_ret
              exact ⟨.mk false ⟨(fun h => by cases h), fun h => absurd h HQN.out⟩, HT2.out.then (HT.out.alloc _)⟩
          · rcases hg with ⟨h0, hj⟩ | ⟨h0, h5, hj⟩ | ⟨h0, h5, hq⟩
            · have HJ2 := hide hj
              have v1 : decide (0 < i) = false := by simp; omega
              have v2 : decide ((0 : Int) < (i : Int)) = false := by simp; omega
              clear hj h0
              go_wp2_with fail
              refine wp_region_quiet_lit (by kernel_rfl) (by kernel_rfl) ?_
              iterate 3 quiet_step (fail)
              iterate 10
                rw [wpQuiet_cons7]
                go_simp
              quiet_step (fail)
              refine wpQuiet_nil ?_
              intro nq
              go_wp2_with fail
              go_roundw
              · exact ⟨i + 1, by simp, by have := HIN.out; omega, HJ2, hide ((HT.out.alloc _).drewN _)⟩
              · have := HIN.out
                simp only [intOf]
                omega
            · have HJ2 := hide hj
              have v1 := HPV.out h0
              have v2 : decide (0 < i) = true := by simp; omega
              have v8 : decide ((0 : Int) < (i : Int)) = true := by simp; omega
              have v3 : IntKind.i64.wrap ((i : Int) - 1) = (i : Int) - 1 := IntWalk.i64_in _ (by omega)
              have v4 : (0 : Int) ≤ (i : Int) - 1 := by omega
              have v9 : (1 : Int) ≤ (i : Int) := by omega
              have v5 : (i : Int) - 1 < (n : Int) := by omega
              have v6 : ((i : Int) - 1).toNat = i - 1 := by omega
              have v7 : ¬ la ≤ lp := by omega
              clear hj h0
              go_wp2_with fail
              refine wp_region_quiet_lit (by kernel_rfl) (by kernel_rfl) ?_
              iterate 14 quiet_step (fail)
              refine wpQuiet_nil ?_
              rintro _ ⟨nq, rfl⟩
              go_wp2_with fail
              go_roundw
              · exact ⟨i + 1, by simp, by have := HIN.out; omega, HJ2, hide ((HT.out.alloc _).drewN _)⟩
              · have := HIN.out
                simp only [intOf]
                omega
            · have HQN := hide hq
              have v1 := HPV.out h0
              have v2 : decide (0 < i) = true := by simp; omega
              have v8 : decide ((0 : Int) < (i : Int)) = true := by simp; omega
              have v3 : IntKind.i64.wrap ((i : Int) - 1) = (i : Int) - 1 := IntWalk.i64_in _ (by omega)
              have v4 : (0 : Int) ≤ (i : Int) - 1 := by omega
              have v9 : (1 : Int) ≤ (i : Int) := by omega
              have v5 : (i : Int) - 1 < (n : Int) := by omega
              have v6 : ((i : Int) - 1).toNat = i - 1 := by omega
              clear hq h0
              go_wp2_with fail
              refine wp_region_quiet_lit (by kernel_rfl) (by kernel_rfl) ?_
              iterate 14 quiet_step (fail)
              refine wpQuiet_nil ?_
              rintro _ ⟨nq, rfl⟩
              go_wp2_with fail
              go_ret
              exact ⟨.mk false ⟨(fun h => by cases h), fun h => absurd h HQN.out⟩, HT2.out.then ((HT.out.alloc _).drewN _)⟩
        · have hie : i = n := by omega
          have y1 : ¬ (i : Int) < (n : Int) := by omega
          have hq : Q := HIFF2.out.2 (by rw [← hie]; exact HJ.out)
          have HQY := hide hq
          clear hie hin hi hq
          go_wp2_with fail
          go_ret
          exact ⟨.mk true ⟨fun _ => HQY.out, fun _ => rfl⟩, HT2.out.then HT.out⟩

end Go.Proofs.YtcmjohaohdgnjaaDoor
