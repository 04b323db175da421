/- alive of the laws on pairs. -/
import Derived.Test.YtdjlcgldplndiaaDoorLetA
import Derived.Deep.CutRange
import Derived.Deep.RegionHeld3
namespace Go.Proofs.YtdjlcgldplndiaaDoor
open Go.RowKit

theorem pbox_keep {w0 w' : World} {p : Nat} {t : TypeId} {a b : Value} (h : Blk w0 p t #[a, b]) (ht : Touch (fun _ => False) w0 w') :
    w'.cell? ⟨p, 0, none⟩ = some a ∧ w'.cell? ⟨p, 1, none⟩ = some b ∧ Touch (fun _ => False) w0 w' := by
  have := h.touch ht (fun f => f)
  exact ⟨this.cell 0, this.cell 1, ht⟩
theorem pbox_keep2 {w0 w' : World} {p : Nat} {t : TypeId} {a b z : Value} {x : Addr} (h : Blk w0 p t #[a, b]) (hx : w0.cell? x = some z) (hxb : x.block < w0.heap.size) (ht : Touch (fun _ => False) w0 w') :
    w'.cell? ⟨p, 0, none⟩ = some a ∧ w'.cell? ⟨p, 1, none⟩ = some b ∧ w'.cell? x = some z ∧ Touch (fun _ => False) w0 w' := by
  have := h.touch ht (fun f => f)
  exact ⟨this.cell 0, this.cell 1, (ht.cell hxb (fun f => f)).trans hx, ht⟩
theorem and_last3 {a b c : Prop} (h : a ∧ b ∧ c) : c := h.2.2
theorem and_last4 {a b c d : Prop} (h : a ∧ b ∧ c ∧ d) : d := h.2.2.2
theorem toL (c : UInt8) : (⟨#[c]⟩ : ByteArray).toList = [c] := by rw [Go.ByteArray.toList_eq]

def two : List PRow := [⟨⟨#[97]⟩, 1⟩, ⟨⟨#[99]⟩, 5⟩]

set_option maxRecDepth 100000 in
set_option maxHeartbeats 8000000 in
theorem right_two (w : World) (A : Option Addr) (c : Nat) (h : Reads w 2 A 2 (pCells two)) :
    Calls Tryd.prog 12 #[.slice A 2 c] w fun e w' => e = .returned (.bool true) ∧ Touch (fun _ => False) w w' := by
  have HR := hide h
  clear h
  go_enter Tryd.func12, Tryd.ntmps12
  go_wp2
  go_loopw [10] (fun iv wr => ∃ i : Nat, iv = .int .i64 i ∧ i ≤ 2 ∧ Hid (Touch (fun _ => False) w wr)) (fun iv _ => 2 - (intOf iv).toNat)
  case atStart => exact ⟨0, rfl, by omega, hide (Touch.refl _ _)⟩
  case round =>
    obtain ⟨i, rfl, hi, HT⟩ := hrel
    obtain ⟨p, hp⟩ : ∃ p, p = wr.heap.size := ⟨_, rfl⟩
    have hcase : i = 0 ∨ i = 1 ∨ i = 2 := by omega
    rcases hcase with rfl | rfl | rfl
    · obtain ⟨g, o, hA, hg, a0, a1⟩ := preads_at (HR.out.touch HT.out (fun _ _ f => f)) rfl 0 (by decide)
      subst hA
      simp only [two, List.getD_cons_zero, Nat.zero_mul, Nat.add_zero] at a0 a1
      obtain ⟨wa, hwa⟩ : ∃ x, x = wr.alloc (.cells #[.string ⟨#[97]⟩, .int .i64 1] 29) := ⟨_, rfl⟩
      have ta : Touch (fun _ => False) wr wa := by rw [hwa]; exact (Touch.refl _ _).alloc _
      have ba : Blk wa p 29 #[.string ⟨#[97]⟩, .int .i64 1] := by rw [hwa, hp]; exact Blk.new _ _ _
      have HTA := hide (HT.out.then ta)
      have HBA := hide ba
      have HWA := hide hwa
      have HPP := hide hp
      clear ta ba hwa hp hi
      go_upto_region 6 with fail
      rw [← HWA.out, ← HPP.out]
      have hd : Touch (fun _ => False) wa wa.drew := (Touch.refl _ _).drew
      obtain ⟨wd, hwd⟩ : ∃ x, x = wa.drew := ⟨_, rfl⟩
      rw [← hwd] at hd
      have HD := hide hd
      obtain ⟨e0, e1⟩ : wd.cell? ⟨p, 0, none⟩ = some (.string ⟨#[97]⟩) ∧ wd.cell? ⟨p, 1, none⟩ = some (.int .i64 1) := ⟨(HBA.out.touch hd (fun f => f)).cell 0, (HBA.out.touch hd (fun f => f)).cell 1⟩
      refine wp_region_any (by kernel_rfl) ?_
      change wpAny _ _ _ _ _ _ _ (World.drew _)
      rw [← hwd]
      clear hd hwd
      refine wpAny_take (i := 0) (v := ?v0) rfl (by kernel_rfl) (by kernel_rfl) (by kernel_rfl) (fun _ _ _ h => h) (Or.inl ⟨by kernel_rfl, ?h0⟩) ?_
      case h0 => intro w; go_simp; with_reducible rfl
      refine wpAny_ready (rs := [1]) (by kernel_rfl) (by simp) ?_
      refine AllReady.cons rfl (fun K hK => ?_) AllReady.nil
      go_simp
      refine hK _ _ ?_
      clear hK K
      refine wpAny_take (i := 2) (v := ?v2) rfl (by kernel_rfl) (by kernel_rfl) (by kernel_rfl) (fun _ _ _ h => h) (Or.inl ⟨by kernel_rfl, ?h2⟩) ?_
      case h2 => intro w; go_simp; with_reducible rfl
      refine wpAny_take (i := 3) (v := ?v3) rfl (by kernel_rfl) (by kernel_rfl) (by kernel_rfl) (fun _ _ _ h => h) (Or.inl ⟨by kernel_rfl, ?h3⟩) ?_
      case h3 => intro w; go_simp; with_reducible rfl
      refine wpAny_take (i := 4) (v := ?v4) rfl (by kernel_rfl) (by kernel_rfl) (by kernel_rfl) (fun _ _ _ h => h) (Or.inl ⟨by kernel_rfl, ?h4⟩) ?_
      case h4 => intro w; go_simp; with_reducible rfl
      refine wpAny_ready (rs := [5]) (by kernel_rfl) (by simp) ?_
      refine AllReady.cons rfl (fun K hK => ?_) AllReady.nil
      go_simp
      refine hK _ _ ?_
      clear hK K
      refine wpAny_take (i := 6) (v := ?v6) rfl (by kernel_rfl) (by kernel_rfl) (by kernel_rfl) (fun _ _ _ h => h) (Or.inl ⟨by kernel_rfl, ?h6⟩) ?_
      case h6 => intro w; go_simp; with_reducible rfl
      refine wpAny_take (i := 7) (v := ?v7) rfl (by kernel_rfl) (by kernel_rfl) (by kernel_rfl) (fun _ _ _ h => h) (Or.inl ⟨by kernel_rfl, ?h7⟩) ?_
      case h7 => intro w; go_simp; with_reducible rfl
      refine wpAny_take (i := 8) (v := ?v8) rfl (by kernel_rfl) (by kernel_rfl) (by kernel_rfl) (fun _ _ _ h => h) (Or.inl ⟨by kernel_rfl, ?h8⟩) ?_
      case h8 => intro w; go_simp; with_reducible rfl
      refine wpAny_take (i := 9) (v := ?v9) rfl (by kernel_rfl) (by kernel_rfl) (by kernel_rfl) (fun _ _ _ h => h) (Or.inl ⟨by kernel_rfl, ?h9⟩) ?_
      case h9 => intro w; go_simp; with_reducible rfl
      refine wpAny_ready (rs := [10]) (by kernel_rfl) (by simp) ?_
      refine AllReady.cons rfl (fun K hK => ?_) AllReady.nil
      go_simp
      refine hK _ _ ?_
      clear hK K
      refine wpAny_ready (rs := [11]) (by kernel_rfl) (by simp) ?_
      refine AllReady.cons rfl (fun K hK => ?_) AllReady.nil
      go_simp
      refine (word_one 97 (.inl rfl) wd).mono ?_
      rintro e w2 ⟨rfl, T2⟩
      have HT2 := hide ((HTA.out.then HD.out).then T2)
      clear T2
      go_simp
      refine hK _ _ ?_
      clear hK K
      refine wpAny_take (i := 12) (v := ?v12) rfl (by kernel_rfl) (by kernel_rfl) (by kernel_rfl) (fun _ _ _ h => h) (Or.inl ⟨by kernel_rfl, ?h12⟩) ?_
      case h12 => intro w; go_simp; with_reducible rfl
      refine wpAny_take (i := 13) (v := ?v13) rfl (by kernel_rfl) (by kernel_rfl) (by kernel_rfl) (fun _ _ _ h => h) (Or.inl ⟨by kernel_rfl, ?h13⟩) ?_
      case h13 => intro w; go_simp; with_reducible rfl
      refine wpAny_take (i := 14) (v := ?v14) rfl (by kernel_rfl) (by kernel_rfl) (by kernel_rfl) (fun _ _ _ h => h) (Or.inl ⟨by kernel_rfl, ?h14⟩) ?_
      case h14 => intro w; go_simp; with_reducible rfl
      refine wpAny_take (i := 15) (v := ?v15) rfl (by kernel_rfl) (by kernel_rfl) (by kernel_rfl) (fun _ _ _ h => h) (Or.inl ⟨by kernel_rfl, ?h15⟩) ?_
      case h15 => intro w; go_simp; with_reducible rfl
      refine wpAny_take (i := 16) (v := ?v16) rfl (by kernel_rfl) (by kernel_rfl) (by kernel_rfl) (fun _ _ _ h => h) (Or.inl ⟨by kernel_rfl, ?h16⟩) ?_
      case h16 => intro w; go_simp; with_reducible rfl
      refine wpAny_take (i := 17) (v := ?v17) rfl (by kernel_rfl) (by kernel_rfl) (by kernel_rfl) (fun _ _ _ h => h) (Or.inl ⟨by kernel_rfl, ?h17⟩) ?_
      case h17 => intro w; go_simp; with_reducible rfl
      refine wpAny_take (i := 18) (v := undef) rfl (by kernel_rfl) (by kernel_rfl) (by kernel_rfl) (fun _ _ _ h => h) (Or.inr ⟨by kernel_rfl, rfl⟩) ?_
      refine wpAny_take (i := 19) (v := undef) rfl (by kernel_rfl) (by kernel_rfl) (by kernel_rfl) (fun _ _ _ h => h) (Or.inr ⟨by kernel_rfl, rfl⟩) ?_
      refine wpAny_take (i := 20) (v := undef) rfl (by kernel_rfl) (by kernel_rfl) (by kernel_rfl) (fun _ _ _ h => h) (Or.inr ⟨by kernel_rfl, rfl⟩) ?_
      refine wpAny_take (i := 21) (v := undef) rfl (by kernel_rfl) (by kernel_rfl) (by kernel_rfl) (fun _ _ _ h => h) (Or.inr ⟨by kernel_rfl, rfl⟩) ?_
      refine wpAny_take (i := 22) (v := undef) rfl (by kernel_rfl) (by kernel_rfl) (by kernel_rfl) (fun _ _ _ h => h) (Or.inr ⟨by kernel_rfl, rfl⟩) ?_
      refine wpAny_take (i := 23) (v := undef) rfl (by kernel_rfl) (by kernel_rfl) (by kernel_rfl) (fun _ _ _ h => h) (Or.inr ⟨by kernel_rfl, rfl⟩) ?_
      refine wpAny_take (i := 24) (v := undef) rfl (by kernel_rfl) (by kernel_rfl) (by kernel_rfl) (fun _ _ _ h => h) (Or.inr ⟨by kernel_rfl, rfl⟩) ?_
      refine wpAny_take (i := 25) (v := undef) rfl (by kernel_rfl) (by kernel_rfl) (by kernel_rfl) (fun _ _ _ h => h) (Or.inr ⟨by kernel_rfl, rfl⟩) ?_
      refine wpAny_take (i := 26) (v := undef) rfl (by kernel_rfl) (by kernel_rfl) (by kernel_rfl) (fun _ _ _ h => h) (Or.inr ⟨by kernel_rfl, rfl⟩) ?_
      refine wpAny_take (i := 27) (v := undef) rfl (by kernel_rfl) (by kernel_rfl) (by kernel_rfl) (fun _ _ _ h => h) (Or.inr ⟨by kernel_rfl, rfl⟩) ?_
      refine wpAny_take (i := 28) (v := ?v28) rfl (by kernel_rfl) (by kernel_rfl) (by kernel_rfl) (fun _ _ _ h => h) (Or.inl ⟨by kernel_rfl, ?h28⟩) ?_
      case h28 => intro w; go_simp; with_reducible rfl
      refine wpAny_take (i := 29) (v := ?v29) rfl (by kernel_rfl) (by kernel_rfl) (by kernel_rfl) (fun _ _ _ h => h) (Or.inl ⟨by kernel_rfl, ?h29⟩) ?_
      case h29 => intro w; go_simp; with_reducible rfl
      go_simp
      refine wpAny_done (by kernel_rfl) ?_ 0
      go_wp2_with fail
      go_roundw
      · exact ⟨1, rfl, by decide, HT2⟩
      · decide
    · obtain ⟨g, o, hA, hg, a0, a1⟩ := preads_at (HR.out.touch HT.out (fun _ _ f => f)) rfl 1 (by decide)
      subst hA
      obtain ⟨g', o', hA, _, z0, z1⟩ := preads_at (HR.out.touch HT.out (fun _ _ f => f)) rfl 0 (by decide)
      injection hA with hA
      injection hA with hA1 hA2
      subst hA1 hA2
      simp only [two, List.getD_cons_zero, List.getD_cons_succ, Nat.zero_mul, Nat.add_zero, Nat.one_mul] at a0 a1 z0 z1
      obtain ⟨wa, hwa⟩ : ∃ x, x = wr.alloc (.cells #[.string ⟨#[99]⟩, .int .i64 5] 29) := ⟨_, rfl⟩
      have ta : Touch (fun _ => False) wr wa := by rw [hwa]; exact (Touch.refl _ _).alloc _
      have ba : Blk wa p 29 #[.string ⟨#[99]⟩, .int .i64 5] := by rw [hwa, hp]; exact Blk.new _ _ _
      have HTR := hide ta
      have HTA := hide (HT.out.then ta)
      have HBA := hide ba
      have HWA := hide hwa
      have HPP := hide hp
      clear ta ba hwa hp hi
      go_upto_region 6 with fail
      rw [← HWA.out, ← HPP.out]
      have hga : g < wa.heap.size := by have := HTR.out.size; omega
      have z9 := (HTR.out.cell (a := ⟨g, o, none⟩) hg (fun f => f)).trans z0
      have HZ9 := hide z9
      have HGA := hide hga
      have HBL : Hid (Op.bytesLess (⟨#[97]⟩ : ByteArray).toList (⟨#[99]⟩ : ByteArray).toList = true) := hide (by rw [toL, toL]; rfl)
      clear z9 hga
      have k1 : IntKind.i64.wrap 0 = 0 := IntWalk.i64_in _ (by omega)
      have k2 : IntKind.i64.wrap (1 - 1) = 0 := IntWalk.i64_in _ (by omega)
      go_region_held3 (fun w' => w'.cell? ⟨p, 0, none⟩ = some (.string ⟨#[99]⟩) ∧ w'.cell? ⟨p, 1, none⟩ = some (.int .i64 5) ∧ w'.cell? ⟨g, o, none⟩ = some (.string ⟨#[97]⟩) ∧ Touch (fun _ => False) wa w')
        (first
          | exact pbox_keep2 HBA.out HZ9.out HGA.out (Touch.refl _ _)
          | exact pbox_keep2 HBA.out HZ9.out HGA.out (Touch.refl _ _).drew
          | (refine pbox_keep2 HBA.out HZ9.out HGA.out (Touch.then ?_ (by assumption)); first | assumption | exact and_last4 (by assumption) | exact (Touch.refl _ _).drew | exact Touch.refl _ _))
        (first
          | (go_at_call 23; refine (word_one 99 (.inr rfl) _).mono ?_; rintro e w2 ⟨rfl, T2⟩)
          | (go_at_call 24; refine (less_any ⟨#[97]⟩ ⟨#[99]⟩ _).mono ?_; rw [HBL.out]; rintro e w2 ⟨rfl, T2⟩))
      go_wp2_with fail
      go_roundw
      · exact ⟨2, rfl, by decide, hide (HTA.out.then (and_last4 (by assumption)))⟩
      · decide
    · clear hp hi
      go_wp2
      go_ret
      exact ⟨rfl, HT.out⟩

def aX : List PRow := [⟨⟨#[97]⟩, 1⟩, ⟨⟨#[98]⟩, 2⟩]
def aY : List PRow := [⟨⟨#[98]⟩, 0⟩, ⟨⟨#[99]⟩, 5⟩]
theorem alive_list {Y : List PRow} (h : Nrm (aX ++ aY) Y) : Y.filter keepP = two := by
  have hs : SrtP (aX ++ aY) := by
    simp [SrtP, aX, aY, ple, plt]
    decide
  have h1 := dd_nrm _ hs
  have e := h.unique h1
  rw [e]
  simp [aX, aY, dd, diffs, keepP, two]

set_option maxRecDepth 100000 in
set_option maxHeartbeats 1000000 in
theorem alive_any (w : World) : Calls Tryd.prog 11 #[] w fun e w' => e = .returned (.bool true) ∧ Touch (fun _ => False) w w' := by
  obtain ⟨g, hg⟩ : ∃ g, g = w.heap.size := ⟨_, rfl⟩
  obtain ⟨w1, hw1⟩ : ∃ x, x = w.alloc (.cells #[.string ⟨#[97]⟩, .int .i64 1, .string ⟨#[98]⟩, .int .i64 2] 29) := ⟨_, rfl⟩
  obtain ⟨w2, hw2⟩ : ∃ x, x = w1.alloc (.cells #[.string ⟨#[98]⟩, .int .i64 0, .string ⟨#[99]⟩, .int .i64 5] 29) := ⟨_, rfl⟩
  have t1 : Touch (fun _ => False) w w1 := by rw [hw1]; exact (Touch.refl _ _).alloc _
  have t2 : Touch (fun _ => False) w1 w2 := by rw [hw2]; exact (Touch.refl _ _).alloc _
  have r1 : Reads w2 2 (some ⟨g, 0, none⟩) 2 (pCells aX) := by
    have : Reads w1 2 (some ⟨g, 0, none⟩) 2 (pCells aX) := by rw [hw1, hg]; exact Reads.new w _ (pCells aX) 2 rfl
    exact this.touch t2 (fun _ _ f => f)
  have hsz : w1.heap.size = g + 1 := by rw [hw1, hg]; simp
  have r2 : Reads w2 2 (some ⟨g + 1, 0, none⟩) 2 (pCells aY) := by rw [hw2, ← hsz]; exact Reads.new w1 _ (pCells aY) 2 rfl
  have HME := hide (pmerge_any w2 ⟨some ⟨g, 0, none⟩, 2, 2, aX⟩ ⟨some ⟨g + 1, 0, none⟩, 2, 2, aY⟩ ⟨rfl, r1, fun e => by cases e⟩ ⟨rfl, r2, fun e => by cases e⟩ (by show (2 : Nat) + 2 ≤ _; omega))
  have HT2 := hide (t1.then t2)
  have HW1 := hide hw1
  have HW2 := hide hw2
  have HG := hide hg
  clear r1 r2 t1 t2 hsz hw1 hw2 hg
  simp only [SL.val] at HME
  go_enter Tryd.func11, Tryd.ntmps11
  go_wp2_with fail
  rw [← HW1.out, ← HW2.out, ← HG.out]
  refine HME.out.mono ?_
  rintro e w3 ⟨A, n, c, Y, rfl, O3, hN, T3, _, _, _⟩
  have hY := alive_list hN
  rw [hY] at O3
  have hn : n = 2 := by have := pown_len O3; simpa [two] using this
  subst hn
  obtain ⟨g3, hA, hg3, a0, a1, _, _⟩ := pown_at O3 rfl 1 (by decide)
  subst hA
  simp only [two, List.getD_cons_zero, List.getD_cons_succ, Nat.one_mul] at a0 a1
  have HR3 := hide (right_two w3 (some ⟨g3, 0, none⟩) c (Reads.of_own O3))
  have HT3 := hide (HT2.out.then T3)
  have HO3 := hide O3
  clear O3 hN T3 hY HME
  go_wp2_with fail
  refine HR3.out.mono ?_
  rintro e w4 ⟨rfl, T4⟩
  have HT4 := hide (HT3.out.then T4)
  clear T4
  go_wp2
  go_ret
  exact ⟨rfl, HT4.out⟩

end Go.Proofs.YtdjlcgldplndiaaDoor
