/- Law 16: the clone of a state. No condition. -/
import Derived.Test.YthockgmbooefpaaDoorDS
namespace Go.Proofs.YthockgmbooefpaaDoor
open Go.RowKit
set_option linter.unusedSectionVars false
set_option linter.unusedSimpArgs false
set_option linter.unusedVariables false

theorem tclone_any (w : World) (p : Nat) (v : Value) (l : List SRow) (h : Tab w p v l) (hn : l.length ≤ 4096) :
    Calls Tryd.prog 29 #[.pointer (some ⟨p, 0, none⟩)] w fun e w' =>
      ∃ q v', e = .returned (.pointer (some ⟨q, 0, none⟩)) ∧ Tab w' q v' l ∧ Touch (fun _ => False) w w' ∧ w.heap.size ≤ q ∧ ∀ g, v'.ownBlock = some g → w.heap.size ≤ g := by
  obtain ⟨hb, ho⟩ := h
  obtain ⟨A, c, hv, _, hc⟩ := own_len ho
  subst hv
  have c0 := hb.cell 0
  simp at c0
  have H := hide ho
  clear ho hb
  go_enter Tryd.func29, Tryd.ntmps29
  go_wp2_with (go_at_call 45; refine (srow_clone w A l.length c l rfl (Reads.of_own H.out) (own_nilOk H.out) (by omega)).mono ?_; rintro e w' ⟨v', rfl, hown⟩; have H2 := hide hown; obtain ⟨A', c', hv', _⟩ := own_len hown.1; clear hown; subst hv')
  go_ret
  obtain ⟨h1, h2, h3⟩ := H2.out
  exact ⟨_, _, rfl, ⟨Blk.new _ _ _, h1.alloc _⟩, h2.alloc _, h2.size, h3⟩

set_option maxRecDepth 100000 in
set_option maxHeartbeats 4000000 in
theorem sclone_any (w : World) {s d tb : Nat} {v : Value} {L : List PRow} {q : Nat} {R : List SRow} (h : StX w s d tb v L q R) :
    Calls Tryd.prog 15 #[ptrV s] w fun e w' => ∃ s' d' tb' v', e = .returned (ptrV s') ∧ StX w' s' d' tb' v' L q R ∧ w.heap.size ≤ d' ∧ w.heap.size ≤ tb' ∧ (∀ g, v'.ownBlock = some g → w.heap.size ≤ g) ∧ Touch (fun _ => False) w w' := by
  obtain ⟨s0, s1, s2⟩ := h.blk.facts
  have HH := hide h
  have HDC := hide (fun (wx : World) (T : Touch (fun _ => False) w wx) => dclone_any wx (HH.out.quiet T).dct)
  have HTC := hide (fun (wx : World) (T : Touch (fun _ => False) w wx) => tclone_any wx tb v R (HH.out.quiet T).tab HH.out.few)
  have HKS : Hid (∀ wx, Touch (fun _ => False) w wx → wx.cell? ⟨s, 0, none⟩ = some (ptrV d) ∧ wx.cell? ⟨s, 1, none⟩ = some (ptrV tb) ∧ Touch (fun _ => False) w wx) := hide (fun wx T => ⟨((HH.out.blk.touch T (fun f => f)).cell 0).trans rfl, ((HH.out.blk.touch T (fun f => f)).cell 1).trans rfl, T⟩)
  clear h
  go_enter Tryd.func15, Tryd.ntmps15
  go_upto_region 1 with fail
  go_region_held3 (fun w' => w'.cell? ⟨s, 0, none⟩ = some (ptrV d) ∧ w'.cell? ⟨s, 1, none⟩ = some (ptrV tb) ∧ Touch (fun _ => False) w w')
    (first
      | exact HKS.out _ (Touch.refl _ _).drew
      | exact HKS.out _ HT1.out
      | exact HKS.out _ HT2.out
      | exact HKS.out _ (HT2.out.alloc _)
      | (trace_state; fail))
    (first
      | (go_simp; refine (HDC.out _ (Touch.refl _ _).drew).mono ?_; rintro e w1 ⟨d', rfl, hd1, hl1, T1⟩; have HD1 := hide hd1; have HL1 : Hid (w.heap.size ≤ d') := hide (by simpa using hl1); have HT1 := hide ((Touch.refl (fun _ => False) w).drew.then T1); clear hd1 hl1 T1; go_simp)
      | (go_simp; refine (HTC.out _ HT1.out).mono ?_; rintro e w2 ⟨tb', v', rfl, ht2, T2, hl2, hv2⟩; have HD2 := hide (HD1.out.quiet T2); have HTB2 := hide ht2; have HL2 := hide (Nat.le_trans HT1.out.size hl2); have HV2 : Hid (∀ g, v'.ownBlock = some g → w.heap.size ≤ g) := hide (fun g hg => Nat.le_trans HT1.out.size (hv2 g hg)); have HT2 := hide (HT1.out.then T2); clear ht2 T2 hl2 hv2; go_simp))
  go_wp2_with fail
  go_ret
  exact ⟨w2.heap.size, rfl, d', tb', v', ⟨Blk.new _ _ _, HD2.out.quiet ((Touch.refl _ _).alloc _), HTB2.out.alloc _, HH.out.few⟩, HL1.out, HL2.out, HV2.out, HT2.out.alloc _⟩

/-- What is done to one state is not seen in another one. -/
theorem StY.other {W w w' : World} {s d tb : Nat} {v : Value} {L : List PRow} {q : Nat} {R : List SRow} {s' d' tb' : Nat} {v' : Value} {L' : List PRow} {q' : Nat} {R' : List SRow} (h : StY W w s d tb v L q R) (k : StY W w s' d' tb' v' L' q' R') (hd : ¬ d = d') (ht : ¬ tb = tb') (hv : ∀ g, v.ownBlock = some g → ¬ v'.ownBlock = some g)
    (T : Touch (Go.Proofs.YthockgmbooefpaaDoor.stF d' tb' v') w w') : StY W w' s d tb v L q R := by
  have hk := k.st
  have hh := h.st
  refine ⟨⟨hh.blk.touch T (fun e => ?_), hh.dct.far T (fun e => ?_) (fun g t hg ht2 e => ?_), hh.tab.touch T (fun e => ?_) (fun g hg e => ?_), hh.few⟩, h.y, h.t.trans T (fun g hg e => by have := k.stF g e; omega), h.lw⟩
  · rcases e with e | e
    · exact (blk_ty hh.blk).ne hk.dct.ty (by decide) e
    · exact fp_no hk.tab (blk_ty hh.blk) (by decide) (by decide) e
  · rcases e with e | e
    · exact hd e
    · exact fp_no hk.tab hh.dct.ty (by decide) (by decide) e
  · rcases e with e | e
    · exact hg.ne hk.dct.ty (by rcases ht2 with rfl | rfl | rfl | rfl | rfl <;> decide) e
    · exact fp_no hk.tab hg (by rcases ht2 with rfl | rfl | rfl | rfl | rfl <;> decide) (by rcases ht2 with rfl | rfl | rfl | rfl | rfl <;> decide) e
  · rcases e with e | e | e
    · exact (blk_ty hh.tab.1).ne hk.dct.ty (by decide) e
    · exact ht e
    · exact (blk_ty hh.tab.1).ne (own_ty hk.tab.2 e) (by decide) rfl
  · have hgt := own_ty hh.tab.2 hg
    rcases e with e | e | e
    · exact hgt.ne hk.dct.ty (by decide) e
    · exact hgt.ne (blk_ty hk.tab.1) (by decide) e
    · exact hv g hg e

end Go.Proofs.YthockgmbooefpaaDoor
