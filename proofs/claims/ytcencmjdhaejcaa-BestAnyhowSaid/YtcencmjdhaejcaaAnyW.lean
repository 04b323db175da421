/- BestAnyhow: the walk. -/
import Derived.Test.YtcencmjdhaejcaaSelW
import Derived.Deep.RegionWith
namespace Go.Proofs.Ytcencmjdhaejcaa
open Go.RowKit

def iCells (l : List Int) : List Value := l.flatMap fun x => [.int .i64 x]

set_option maxRecDepth 100000 in
set_option maxHeartbeats 1000000 in
theorem any_walk (W : World) (A : Option Addr) (n c : Nat) (L : List MRow) (hL : L.length = n) (hR : Reads W 3 A n (mCells L)) (hn : n ≤ maxLen) (hA : A = none → n = 0 ∧ c = 0) (hsz : n * 32 ≤ 140737488355328)
    (B : Option Addr) (nb cb : Nat) (I : List Int) (hI : I.length = nb) (hRI : Reads W 1 B nb (iCells I)) (hnb : nb ≤ maxLen) (kk : Int) :
    Calls Try.prog 6 #[.slice A n c, .slice B nb cb, .int .i64 kk] W fun e W' => e = .returned (.bool true) ∧ Below W.heap.size W W' := by
  have HR := hide hR
  have HL := hide hL
  have HN := hide hn
  have HRI := hide hRI
  have HI := hide hI
  clear hR hL hRI hI
  unfold maxLen at hn hnb
  obtain ⟨i0, hi, hz0, hz1, hz2⟩ := info_parts infoMatch
  go_enter Try.func6, Try.ntmps6
  obtain ⟨w0, hw0⟩ : ∃ w0, w0 = W.alloc (.cells #[] 23) := ⟨_, rfl⟩
  obtain ⟨g, hg⟩ : ∃ g, g = W.heap.size := ⟨_, rfl⟩
  have T0 : Touch (fun _ => False) W w0 := by rw [hw0]; exact (Touch.refl _ _).alloc _
  have O0 : w0.ownsRow 0 23 3 (.slice (some ⟨g, 0, none⟩) 0 0) 0 [] := by
    rw [hw0, hg]
    exact ⟨rfl, .inr ⟨W.heap.size, 0, #[], rfl, Nat.zero_le _, Blk.new _ _ _, Nat.le_refl _, by simp [maxLen], rfl, rfl⟩⟩
  have HT0 := hide T0
  have HO0 := hide O0
  have HG := hide hg
  have HW0 := hide hw0
  clear T0 O0 hg hw0
  go_wp2_with (at_builtin; rw [← HW0.out, ← HG.out]; refine wpList_app _ rfl (.tmp 10) (.tmp 11) 27 rfl 23 i0 _ 3 32 Try.underlying27 hi hz0 hz1 hz2 rfl (by decide) (.slice (some ⟨g, 0, none⟩) 0 0) 0 _ rfl HO0.out A n c (mCells L) rfl (HR.out.touch HT0.out (fun _ _ f => f)) ?s1 ?s2 ?s3 ?s4 ?_)
  case s1 => exact hA
  case s2 =>
    intro u hu
    unfold mCells at hu
    obtain ⟨r, _, hu⟩ := List.mem_flatMap.1 hu
    simp only [MRow.cells, List.mem_cons, List.not_mem_nil, or_false] at hu
    rcases hu with rfl | rfl | rfl <;> rfl
  case s3 => unfold maxLen; omega
  case s4 => omega
  intro v1 w1 O1 G1 F1 _
  obtain ⟨A1, c1, rfl, hc1, hc2⟩ := own_len O1
  have hfr : ∀ b, adBlock A1 = some b → W.heap.size ≤ b := by
    intro b hb
    have hb' : (Value.slice A1 n c1).ownBlock = some b := by rw [← hb]; cases A1 <;> rfl
    have HG' := HG.out
    rcases F1 with e | ⟨g', e, hg'⟩
    · rw [hb'] at e
      simp [Value.ownBlock] at e
      omega
    · rw [hb'] at e
      injection e with e
      have := HT0.out.size
      omega
  have T1 := HT0.out.grown G1 (fun b e hb => by
    have HG' := HG.out
    simp [Value.ownBlock] at e
    omega)
  have HO1 := hide O1
  have HT1 := hide T1
  have HFR := hide hfr
  clear O1 T1 hfr G1 F1 hi hz0 hz1 hz2 hA hc1
  unfold maxLen at hc2
  go_wp2
  go_loopw [15] (fun i wr => ∃ k : Nat, k ≤ nb ∧ i = .int .i64 k ∧ Hid (∃ Y : List MRow, Y.length = n ∧ Y.Perm L ∧ wr.ownsRow 0 23 3 (.slice A1 n c1) n (mCells Y) ∧ Touch (fun _ => False) W wr)) (fun i _ => nb - (intOf i).toNat)
  case atStart => exact ⟨0, Nat.zero_le _, rfl, hide ⟨L, HL.out, List.Perm.refl _, HO1.out, HT1.out⟩⟩
  case round =>
    obtain ⟨k, hk, rfl, HE⟩ := hrel
    obtain ⟨Y, hY, hP, OY, TY⟩ := HE.out
    have HY := hide hY
    have HP := hide hP
    have HOY := hide OY
    have HTY := hide TY
    clear hY hP OY TY HE
    by_cases hkn : k < nb
    · have hkb : (k : Int) < (nb : Int) := by omega
      obtain ⟨gi, oi, rfl, hgi, hci⟩ := (HRI.out.touch HTY.out (fun _ _ f => f)).form (by omega)
      obtain ⟨x, hx⟩ : ∃ x, x = I.getD k 0 := ⟨_, rfl⟩
      have hcx := hci (k * 1 + 0) (.int .i64 x) (by
        rw [iCells, flat_at (fun x => [Value.int .i64 x]) 1 (fun _ => rfl) I k 0 (by rw [HI.out]; exact hkn) (by decide), hx]
        have : I.getD k 0 = I[k]'(by rw [HI.out]; exact hkn) := by simp [List.getD, show k < I.length by rw [HI.out]; exact hkn]
        rw [this]
        rfl)
      simp only [Nat.mul_one, Nat.add_zero] at hcx
      clear hci hx
      by_cases h1 : k < n ∧ 0 ≤ x ∧ x < (n : Int)
      · obtain ⟨h1, h2, h3⟩ := h1
        obtain ⟨j, rfl⟩ : ∃ j : Nat, x = (j : Int) := ⟨x.toNat, by omega⟩
        obtain ⟨g1, rfl, hg1, a0, a1, a2, f0, f1, f2⟩ := own_at HOY.out HY.out.symm k (by omega)
        obtain ⟨g', hA, _, b0, b1, b2, f3, f4, f5⟩ := own_at HOY.out HY.out.symm j (by omega)
        injection hA with hA
        injection hA with hA _
        subst hA
        obtain ⟨⟨xw, xn, xd⟩, hx⟩ : ∃ x, x = Y.getD k MRow.zero := ⟨_, rfl⟩
        obtain ⟨⟨yw, yn, yd⟩, hy⟩ : ∃ x, x = Y.getD j MRow.zero := ⟨_, rfl⟩
        rw [← hx] at a0 a1 a2
        rw [← hy] at b0 b1 b2
        simp only at a0 a1 a2 b0 b1 b2
        have EX := hide hx
        have EY := hide hy
        clear hx hy
        have i0 : (0 : Int) ≤ (k : Int) := by omega
        have j0 : ¬ (j : Int) < 0 := by omega
        have h5 : k < n := by omega
        have h6 : j < n := by omega
        obtain ⟨v0, s0⟩ := cell?_setCell_some (p := ⟨g1, k * 3, none⟩) (x := .string yw) b0
        obtain ⟨v1, s1⟩ := cell?_setCell_some (p := ⟨g1, k * 3, none⟩) (x := .string yw) b1
        obtain ⟨v1, s1⟩ := cell?_setCell_some (p := ⟨g1, k * 3 + 1, none⟩) (x := .int .i64 yn) s1
        obtain ⟨v2, s2⟩ := cell?_setCell_some (p := ⟨g1, k * 3, none⟩) (x := .string yw) b2
        obtain ⟨v2, s2⟩ := cell?_setCell_some (p := ⟨g1, k * 3 + 1, none⟩) (x := .int .i64 yn) s2
        obtain ⟨v2, s2⟩ := cell?_setCell_some (p := ⟨g1, k * 3 + 2, none⟩) (x := .int .i64 yd) s2
        go_wp2
        go_region
        all_goals go_wp2
        go_roundw
        · have HS := own_set3 (own_set3 HOY.out k ⟨yw, yn, yd⟩) j ⟨xw, xn, xd⟩
          have e : swp Y k j = (Y.set k ⟨yw, yn, yd⟩).set j ⟨xw, xn, xd⟩ := by unfold swp; rw [← EX.out, ← EY.out]
          rw [← e] at HS
          have hYl := HY.out
          refine ⟨k + 1, by omega, by simp, hide ⟨swp Y k j, by rw [swp_len]; exact hYl, (swp_perm Y k j (by omega) (by omega)).trans HP.out, own_touch (S := fun _ => False) HS (Touch.refl _ _).drew (fun _ _ f => f), ?_⟩⟩
          refine Touch.drew ?_
          have hge := HFR.out g1 rfl
          iterate 6 refine Touch.setCell ?_ (fun h => by have h' : g1 < W.heap.size := h; omega) _
          exact HTY.out
        · show nb - (intOf (.int .i64 ((k : Int) + 1))).toNat < nb - (intOf (.int .i64 (k : Int))).toNat
          simp [intOf]
          omega
      · have hor : ¬ ((k : Int) < (n : Int)) ∨ ((k : Int) < (n : Int) ∧ x < 0) ∨ ((k : Int) < (n : Int) ∧ ¬ x < 0 ∧ ¬ x < (n : Int)) := by omega
        clear h1
        rcases hor with h1 | ⟨h1, h2⟩ | ⟨h1, h2, h3⟩
        all_goals
          go_wp2
          go_roundw
          · exact ⟨k + 1, by omega, by simp, hide ⟨Y, HY.out, HP.out, HOY.out, HTY.out⟩⟩
          · show nb - (intOf (.int .i64 ((k : Int) + 1))).toNat < nb - (intOf (.int .i64 (k : Int))).toNat
            simp [intOf]
            omega
    · have HPE := hide (sortL_perm HP.out)
      go_wp2_with fail
      refine (alive_any wr).mono ?_
      rintro e w3 ⟨rfl, T3⟩
      have HT3 := hide (HTY.out.then T3)
      have HO3 := hide (own_touch HOY.out T3 (fun _ _ f => f))
      clear T3
      go_wp2_with fail
      refine (select_any w3 A n c L HL.out (HR.out.touch HT3.out (fun _ _ f => f)) HN.out kk).mono ?_
      rintro e w4 ⟨g4, m4, hm4, rfl, hg4, O4, T4⟩
      have HM4 := hide hm4
      have HO4 := hide O4
      have HT4 := hide (HT3.out.then T4)
      have HOY4 := hide (own_touch HO3.out T4 (fun _ _ f => f))
      clear hm4 O4 T4 hg4
      go_wp2_with fail
      refine (select_any w4 A1 n c1 Y HY.out (Reads.of_own HOY4.out) (own_le HOY4.out) kk).mono ?_
      have hb : bestL Y (mostN kk) = bestL L (mostN kk) := by unfold bestL; rw [HPE.out]
      rw [hb, ← HM4.out]
      rintro e w5 ⟨g5, m5, hm5, rfl, hg5, O5, T5⟩
      obtain rfl := hm5.symm
      have HO5 := hide O5
      have HT5 := hide (HT4.out.then T5)
      have HO45 := hide (own_touch HO4.out T5 (fun _ _ f => f))
      clear hm5 O5 T5 hg5 hb
      go_wp2_with fail
      refine (same_yes w5 _ m4 m4 (bestL L (mostN kk)) HM4.out.symm (Reads.of_own HO45.out) (own_le HO45.out) _ _ (Reads.of_own HO5.out)).mono ?_
      rintro e w6 ⟨rfl, T6⟩
      have HT6 := hide (HT5.out.then T6)
      clear T6
      go_wp2
      go_ret
      exact ⟨rfl, HT6.out.below (Nat.le_refl _) (fun _ _ f => f)⟩

end Go.Proofs.Ytcencmjdhaejcaa
