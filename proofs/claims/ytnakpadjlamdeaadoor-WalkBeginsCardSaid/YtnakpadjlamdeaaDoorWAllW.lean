/- WalkAll: the walk. Condition: the list's length is no more than its capacity. -/
import Derived.Test.YtnakpadjlamdeaaDoorAllW
import Derived.Deep.CutRange
namespace Go.Proofs.YtnakpadjlamdeaaDoor
open Go.RowKit

set_option maxRecDepth 100000 in
set_option maxHeartbeats 4000000 in
theorem told_any {w0 : World} (hL : Lst w0) {b : Nat} {L : List PRow} {n : Nat} {A : Option Addr} {c : Nat} {Z : List SV} {wA : Option Addr} {wc : Nat} (h : DWk w0 b L n A c Z wA wc) (hD : DictP L) (B : Nat) (hB : Blk w0 B 23 #[.pointer (some ⟨b, 0, none⟩)]) (mo : Nat) (hmo : mo ≤ 5000) :
    Calls Tryd.prog 28 #[.func (.func 46) #[] #[.pointer (some ⟨B, 0, none⟩)], .int .i64 mo] w0 fun e w' => ∃ A' c', e = .returned (.slice A' (L.take mo).length c') ∧ w'.ownsRow 0 32 2 (.slice A' (L.take mo).length c') (L.take mo).length (pCells (L.take mo)) ∧ Touch (fun _ => False) w0 w' := by
  have hmf : ∀ (fn : Fn) (first cap : Array Value) (w : World), (Instr.makeFunc fn first cap).run Tryd.prog w = .ok (.func fn first cap) w := fun _ _ _ _ => rfl
  obtain ⟨w2, hw2⟩ : ∃ x, x = (w0.alloc (.cells #[.int .i64 mo] 3)).alloc (.cells #[.slice none 0 0] 22) := ⟨_, rfl⟩
  obtain ⟨mb, hmb⟩ : ∃ x, x = w0.heap.size := ⟨_, rfl⟩
  obtain ⟨lb, hlb⟩ : ∃ x, x = w0.heap.size + 1 := ⟨_, rfl⟩
  have hT2 : Touch (fun _ => False) w0 w2 := by rw [hw2]; exact ((Touch.refl _ _).alloc _).alloc _
  have hbm : Blk w2 mb 3 #[.int .i64 mo] := by rw [hw2, hmb]; exact (Blk.new _ _ _).alloc _
  have hbl : Blk w2 lb 22 #[.slice none 0 0] := by rw [hw2, hlb]; exact blk_new1 _ _ _ _
  have hC : Col w0 w2 lb mb none 0 [] mo := ⟨hbl, World.ownsRow_nil _ _ _ _, fun g hg => (by cases hg), by omega, hbm, hT2⟩
  obtain ⟨m0, m1, m2⟩ := hbm.facts
  obtain ⟨l0, l1, l2⟩ := hbl.facts
  have hmoI : (mo : Int) ≤ 5000 := by omega
  by_cases h0 : mo = 0
  · subst h0
    have HW2 := hide hw2
    have HT2 := hide hT2
    clear h hD hB hC hL hmo hmoI hmb hlb m0 m1 m2 l0 l1 l2 hbm hbl hw2 hT2
    go_enter Tryd.func28, Tryd.ntmps28
    go_wp2_with fail
    go_ret
    exact ⟨none, 0, rfl, World.ownsRow_nil _ _ _ _, by have := HT2.out; rw [HW2.out] at this; exact this⟩
  · have h1 := all1_any hL h hD B hB w2 lb mb mo hmo (by omega) hC
    have HA := hide h1
    have HW2 := hide hw2
    have HMB := hide hmb
    have HLB := hide hlb
    have y0 : ¬ (mo : Int) < 1 := by omega
    clear h hD hB hC hL hmo h1 hmb hlb m0 m1 m2 l0 l1 l2 hbm hbl hw2 hT2
    go_enter Tryd.func28, Tryd.ntmps28
    go_wp2_with ((go_at_call 46; rw [← HW2.out, ← HLB.out, ← HMB.out]; refine (HA.out).mono ?_; rintro e w3 ⟨A', c', rfl, hC⟩; have HC := hide hC; obtain ⟨l0, l1, l2⟩ := hC.l.facts; clear hC))
    go_ret
    exact ⟨A', c', by simp, HC.out.own, HC.out.touch⟩

set_option maxRecDepth 100000 in
set_option maxHeartbeats 1000000 in
theorem psame_yes (w : World) (A : Option Addr) (n c : Nat) (X : List PRow) (hX : X.length = n) (hA : Reads w 2 A n (pCells X)) (hn : n ≤ maxLen) (B : Option Addr) (d : Nat) (hB : Reads w 2 B n (pCells X)) :
    Calls Tryd.prog 27 #[.slice A n c, .slice B n d] w fun e w' => e = .returned (.bool true) ∧ Touch (fun _ => False) w w' := by
  unfold maxLen at hn
  have HA := hide hA
  have HB := hide hB
  have HX := hide hX
  clear hA hB hX
  go_enter Tryd.func27, Tryd.ntmps27
  go_wp2
  go_loopw [5] (fun i wr => ∃ k : Nat, k ≤ n ∧ i = .int .i64 k ∧ Hid (Touch (fun _ => False) w wr)) (fun i _ => n - (intOf i).toNat)
  case atStart => exact ⟨0, Nat.zero_le _, rfl, hide (Touch.refl _ _)⟩
  case round =>
    obtain ⟨k, hk, rfl, HT⟩ := hrel
    by_cases hkn : k < n
    · obtain ⟨g, o, hg, _, a0, a1⟩ := preads_at (HA.out.touch HT.out (fun _ _ f => f)) HX.out.symm k hkn
      obtain ⟨g', o', hg', _, b0, b1⟩ := preads_at (HB.out.touch HT.out (fun _ _ f => f)) HX.out.symm k hkn
      subst hg hg'
      obtain ⟨⟨xw, xn⟩, hx⟩ : ∃ x, x = X.getD k PRow.zero := ⟨_, rfl⟩
      rw [← hx] at a0 a1 b0 b1
      simp only at a0 a1 b0 b1
      have k0 : (k : Int) < (n : Int) := by omega
      clear hx
      go_wp2
      go_quiet (fail)
      go_wp2
      go_roundw
      · exact ⟨k + 1, by omega, by simp, hide (HT.out.drewN _)⟩
      · show n - (intOf (.int .i64 ((k : Int) + 1))).toNat < n - (intOf (.int .i64 (k : Int))).toNat
        simp [intOf]
        omega
    · go_wp2
      go_ret
      exact ⟨rfl, HT.out⟩

set_option maxRecDepth 100000 in
set_option maxHeartbeats 8000000 in
theorem wall_walk (W : World) (hL : Lst W) (s : SL) (hs : s.Ok W) (hn : s.n ≤ maxLen) (hWf : ∀ r ∈ s.L, r.Wf) (hsc : s.n ≤ s.c) (cut : Int) :
    Calls Tryd.prog 8 #[s.val, .int .i64 cut] W fun e W' => e = .returned (.bool true) ∧ Below W.heap.size W W' := by
  have HS := hide hs
  have HN := hide hn
  have HL := hide hL
  have HON := hide (on_any W hL s hs hWf hn)
  obtain ⟨sA, sn, sc, sL⟩ := s
  simp only at hsc
  clear hs hn hL hWf
  simp only [SL.val] at HON ⊢
  go_enter Tryd.func8, Tryd.ntmps8
  go_wp2_with fail
  refine HON.out.mono ?_
  rintro e w1 ⟨hon, T1⟩
  have HT1 := hide T1
  clear HON
  rcases hon with ⟨_, rfl⟩ | ⟨ho, hD, b, n, A, c, Z, wA, wc, rfl, hdw⟩
  · clear T1
    go_wp2_with fail
    refine (alive9_any w1 (Lst.touch HL.out HT1.out)).mono ?_
    rintro e w2 ⟨rfl, T2⟩
    have HT2 := hide (HT1.out.then T2)
    clear T2
    go_wp2_with fail
    go_ret
    exact ⟨by simp, HT2.out.below (Nat.le_refl _) (fun _ _ f => f)⟩
  · have HD := hide hD
    have HDW := hide hdw
    have hsl : sL.length = sn := HS.out.len
    have HSL := hide hsl
    have hn4 : (sn : Int) ≤ 4096 := by have := hD.len; omega
    have hn4N := hide (show sn ≤ 4096 by omega)
    have HSC := hide hsc
    have hscI : (sn : Int) ≤ (sc : Int) := by omega
    have z1 : IntKind.i64.wrap ((sn : Int) + 1) = (sn : Int) + 1 := IntWalk.i64_in _ (by omega)
    have htk : sL.take (sn + 1) = sL := List.take_of_length_le (by omega)
    have HTK := hide htk
    clear T1 ho hD hdw hsl hsc htk
    go_wp2_with fail
    refine (alive9_any w1 (Lst.touch HL.out HT1.out)).mono ?_
    rintro e w2 ⟨rfl, T2⟩
    have HT2 := hide T2
    have hln := dlen_any (HDW.out.quiet T2) HD.out
    rw [HSL.out] at hln
    have HLN := hide hln
    clear T2 hln
    go_wp2_with fail
    refine HLN.out.mono ?_
    rintro e w3 ⟨rfl, T3⟩
    have HT3 := hide (HT2.out.then T3)
    clear T3 HLN
    go_wp2_with fail
    refine (all_any w3 b).mono ?_
    rintro e w4 ⟨B, rfl, hB, T4⟩
    have HT4 := hide (HT3.out.then T4)
    have htd := told_any (Lst.touch HL.out (HT1.out.then HT4.out)) (HDW.out.quiet HT4.out) HD.out B hB (sn + 1) (by have := hn4N.out; omega)
    rw [HTK.out, HSL.out, show ((sn + 1 : Nat) : Int) = (sn : Int) + 1 by omega] at htd
    have HTD := hide htd
    clear T4 hB htd
    go_wp2_with fail
    refine HTD.out.mono ?_
    rintro e w5 ⟨A5, c5, rfl, hO5, T5⟩
    have HT5 := hide (HT4.out.then T5)
    have hsm := psame_yes w5 A5 sn c5 sL HSL.out (Reads.of_own hO5) HN.out sA sc (HS.out.touch (HT1.out.then HT5.out)).reads
    have HSM := hide hsm
    clear T5 hO5 hsm HTD
    go_wp2_with fail
    refine HSM.out.mono ?_
    rintro e w6 ⟨rfl, T6⟩
    have HT6 := hide (HT5.out.then T6)
    clear T6 HSM
    have hcase : cut < 0 ∨ (¬ cut < 0 ∧ (sn : Int) < cut) ∨ ∃ k : Nat, cut = (k : Int) ∧ k ≤ sn := by
      by_cases h : cut < 0
      · exact .inl h
      · by_cases h2 : (sn : Int) < cut
        · exact .inr (.inl ⟨h, h2⟩)
        · exact .inr (.inr ⟨cut.toNat, by omega, by omega⟩)
    rcases hcase with h0 | ⟨h0, h1⟩ | ⟨k, rfl, hk⟩
    · go_wp2_with fail
      go_ret
      exact ⟨by simp, (HT1.out.then HT6.out).below (Nat.le_refl _) (fun _ _ f => f)⟩
    · go_wp2_with fail
      go_ret
      exact ⟨by simp, (HT1.out.then HT6.out).below (Nat.le_refl _) (fun _ _ f => f)⟩
    · have k0 : ¬ (k : Int) < 0 := by omega
      have k1 : ¬ (sn : Int) < (k : Int) := by omega
      have k2 : (0 : Int) ≤ (k : Int) := by omega
      have k3 : (k : Int) ≤ (sn : Int) := by omega
      have k4 : (k : Int) ≤ (sc : Int) := by omega
      have k5 : (sn : Int) + 1 ≤ 5000 := by omega
      have htl : (sL.take k).length = k := by rw [List.length_take, HSL.out]; omega
      have HTL := hide htl
      have HK := hide hk
      clear htl hk
      go_wp2_with fail
      obtain ⟨wd, hwd⟩ : ∃ x, x = w6.drew := ⟨_, rfl⟩
      have hd : Touch (fun _ => False) w1 wd := by rw [hwd]; exact HT6.out.drew
      have HDD := hide hd
      refine wp_region_any (by kernel_rfl) ?_
      change wpAny _ _ _ _ _ _ _ (World.drew _)
      rw [← hwd]
      clear hd hwd
      refine wpAny_take (i := 0) (v := ?v0) rfl (by kernel_rfl) (by kernel_rfl) (by kernel_rfl) (fun _ _ _ h => h) (Or.inl ⟨by kernel_rfl, ?h0⟩) ?_
      case h0 => intro w; go_simp; with_reducible rfl
      refine wpAny_take (i := 2) (v := ?v2) rfl (by kernel_rfl) (by kernel_rfl) (by kernel_rfl) (fun _ _ _ h => h) (Or.inl ⟨by kernel_rfl, ?h2⟩) ?_
      case h2 => intro w; go_simp; with_reducible rfl
      refine wpAny_take (i := 4) (v := ?v4) rfl (by kernel_rfl) (by kernel_rfl) (by kernel_rfl) (fun _ _ _ h => h) (Or.inl ⟨by kernel_rfl, ?h4⟩) ?_
      case h4 => intro w; go_simp; with_reducible rfl
      refine wpAny_take (i := 5) (v := ?v5) rfl (by kernel_rfl) (by kernel_rfl) (by kernel_rfl) (fun _ _ _ h => h) (Or.inl ⟨by kernel_rfl, ?h5⟩) ?_
      case h5 => intro w; go_simp; with_reducible rfl
      refine wpAny_take (i := 6) (v := ?v6) rfl (by kernel_rfl) (by kernel_rfl) (by kernel_rfl) (fun _ _ _ h => h) (Or.inl ⟨by kernel_rfl, ?h6⟩) ?_
      case h6 => intro w; go_simp; with_reducible rfl
      refine wpAny_ready (rs := [1]) (by kernel_rfl) (by simp) ?_
      refine AllReady.cons rfl (fun K hK => ?_) AllReady.nil
      go_simp
      refine (all_any wd b).mono ?_
      rintro e wa ⟨B2, rfl, hB2, Ta⟩
      have HTa := hide (HDD.out.then Ta)
      have htd := told_any (Lst.touch HL.out (HT1.out.then HTa.out)) (HDW.out.quiet HTa.out) HD.out B2 hB2 k (by have := hn4N.out; have := HK.out; omega)
      rw [HTL.out] at htd
      have HTD2 := hide htd
      clear Ta hB2 htd
      go_simp
      refine hK _ _ ?_
      clear hK K
      refine wpAny_ready (rs := [3]) (by kernel_rfl) (by simp) ?_
      refine AllReady.cons rfl (fun K hK => ?_) AllReady.nil
      go_simp
      refine HTD2.out.mono ?_
      rintro e wb ⟨A7, c7, rfl, hO7, Tb⟩
      have HTb := hide (HTa.out.then Tb)
      have hrd := (HS.out.touch (HT1.out.then HTb.out)).reads.take HK.out
      rw [pCells_take] at hrd
      have hsm := psame_yes wb A7 k c7 (sL.take k) HTL.out (Reads.of_own hO7) (Nat.le_trans HK.out HN.out) sA sc hrd
      have HSM2 := hide hsm
      clear Tb hO7 hsm hrd HTD2
      go_simp
      refine hK _ _ ?_
      clear hK K
      refine wpAny_ready (rs := [7]) (by kernel_rfl) (by simp) ?_
      refine AllReady.cons rfl (fun K hK => ?_) AllReady.nil
      go_simp
      refine HSM2.out.mono ?_
      rintro e wc2 ⟨rfl, Tc⟩
      have HTc := hide (HTb.out.then Tc)
      clear Tc HSM2
      go_simp
      refine hK _ _ ?_
      clear hK K
      refine wpAny_take (i := 8) (v := ?v8) rfl (by kernel_rfl) (by kernel_rfl) (by kernel_rfl) (fun _ _ _ h => h) (Or.inl ⟨by kernel_rfl, ?h8⟩) ?_
      case h8 => intro w; go_simp; with_reducible rfl
      refine wpAny_take (i := 9) (v := ?v9) rfl (by kernel_rfl) (by kernel_rfl) (by kernel_rfl) (fun _ _ _ h => h) (Or.inl ⟨by kernel_rfl, ?h9⟩) ?_
      case h9 => intro w; go_simp; with_reducible rfl
      refine wpAny_take (i := 11) (v := ?v11) rfl (by kernel_rfl) (by kernel_rfl) (by kernel_rfl) (fun _ _ _ h => h) (Or.inl ⟨by kernel_rfl, ?h11⟩) ?_
      case h11 => intro w; go_simp; with_reducible rfl
      refine wpAny_take (i := 12) (v := ?v12) rfl (by kernel_rfl) (by kernel_rfl) (by kernel_rfl) (fun _ _ _ h => h) (Or.inl ⟨by kernel_rfl, ?h12⟩) ?_
      case h12 => intro w; go_simp; with_reducible rfl
      refine wpAny_take (i := 13) (v := ?v13) rfl (by kernel_rfl) (by kernel_rfl) (by kernel_rfl) (fun _ _ _ h => h) (Or.inl ⟨by kernel_rfl, ?h13⟩) ?_
      case h13 => intro w; go_simp; with_reducible rfl
      refine wpAny_take (i := 15) (v := ?v15) rfl (by kernel_rfl) (by kernel_rfl) (by kernel_rfl) (fun _ _ _ h => h) (Or.inl ⟨by kernel_rfl, ?h15⟩) ?_
      case h15 => intro w; go_simp; with_reducible rfl
      refine wpAny_ready (rs := [10]) (by kernel_rfl) (by simp) ?_
      refine AllReady.cons rfl (fun K hK => ?_) AllReady.nil
      go_simp
      refine (all_any wc2 b).mono ?_
      rintro e we ⟨B3, rfl, hB3, Te⟩
      have HTe := hide (HTc.out.then Te)
      have htd := told_any (Lst.touch HL.out (HT1.out.then HTe.out)) (HDW.out.quiet HTe.out) HD.out B3 hB3 (sn + 1) (by have := hn4N.out; omega)
      rw [HTK.out, HSL.out, show ((sn + 1 : Nat) : Int) = (sn : Int) + 1 by omega] at htd
      have HTD3 := hide htd
      clear Te hB3 htd
      go_simp
      refine hK _ _ ?_
      clear hK K
      refine wpAny_ready (rs := [14]) (by kernel_rfl) (by simp) ?_
      refine AllReady.cons rfl (fun K hK => ?_) AllReady.nil
      go_simp
      refine HTD3.out.mono ?_
      rintro e wf ⟨A8, c8, rfl, hO8, Tf⟩
      have HTf := hide (HTe.out.then Tf)
      have hsm := psame_yes wf A8 sn c8 sL HSL.out (Reads.of_own hO8) HN.out sA sc (HS.out.touch (HT1.out.then HTf.out)).reads
      have HSM3 := hide hsm
      clear Tf hO8 hsm HTD3
      go_simp
      refine hK _ _ ?_
      clear hK K
      refine wpAny_ready (rs := [16]) (by kernel_rfl) (by simp) ?_
      refine AllReady.cons rfl (fun K hK => ?_) AllReady.nil
      go_simp
      refine HSM3.out.mono ?_
      rintro e wg ⟨rfl, Tg⟩
      have HTg := hide (HTf.out.then Tg)
      clear Tg HSM3
      go_simp
      refine hK _ _ ?_
      clear hK K
      refine wpAny_take (i := 17) (v := ?v17) rfl (by kernel_rfl) (by kernel_rfl) (by kernel_rfl) (fun _ _ _ h => h) (Or.inl ⟨by kernel_rfl, ?h17⟩) ?_
      case h17 => intro w; go_simp; with_reducible rfl
      refine wpAny_take (i := 18) (v := ?v18) rfl (by kernel_rfl) (by kernel_rfl) (by kernel_rfl) (fun _ _ _ h => h) (Or.inl ⟨by kernel_rfl, ?h18⟩) ?_
      case h18 => intro w; go_simp; with_reducible rfl
      go_simp
      refine wpAny_done (by kernel_rfl) ?_ 0
      go_wp2_with fail
      go_ret
      exact ⟨by simp, (HT1.out.then HTg.out).below (Nat.le_refl _) (fun _ _ f => f)⟩

end Go.Proofs.YtnakpadjlamdeaaDoor
