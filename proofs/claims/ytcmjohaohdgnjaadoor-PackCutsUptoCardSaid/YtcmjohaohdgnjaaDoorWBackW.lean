/- PackBack: the walk. Condition: no word has more than 2^40 bytes. -/
import Derived.Test.YtcmjohaohdgnjaaDoorSame8
import Derived.Test.YtcmjohaohdgnjaaDoorUnpV
import Derived.Test.YtcmjohaohdgnjaaDoorWUnlW
namespace Go.Proofs.YtcmjohaohdgnjaaDoor
open Go.RowKit

theorem form_few2 {i : Nat} {z : StP} (h : FormP i z) : z.arcs.length ≤ 1114112 := by
  have h1 := incr_len (N := 1114112) (z.arcs.map (·.1)) 0 h.lab (fun x hx => by
    obtain ⟨a, ha, rfl⟩ := List.mem_map.1 hx
    have := (h.run a ha).1
    unfold scal at this
    simp at this
    omega) (by omega)
  rw [List.length_map] at h1
  omega
theorem varN_ten (n : Nat) : (varN n).length ≤ 10 := varF_len 9 n
theorem arcsB_most (i : Nat) : ∀ (l : List (Nat × Int × Nat)) (p : Nat), (arcsB i p l).length ≤ 30 * l.length
  | [], _ => Nat.zero_le _
  | a :: l, p => by
    have h1 := arcsB_most i l a.1
    have h2 := varN_ten (a.1 - p)
    have h3 := varN_ten a.2.1.toNat
    have h4 := varN_ten (i - a.2.2)
    simp only [arcsB, arcB, List.length_append, List.length_cons]
    omega
theorem stB_most {i j : Nat} {s : StP} (h : FormP j s) : (stB i s).length ≤ 33423380 := by
  have h1 := arcsB_most i s.arcs 0
  have h2 := form_few2 h
  have h3 : (headB s).length ≤ 20 := by
    unfold headB
    split
    · have := varN_ten (2 * s.arcs.length + 1)
      have := varN_ten s.out.toNat
      simp only [List.length_append]
      omega
    · have := varN_ten (2 * s.arcs.length)
      omega
  simp only [stB, List.length_append]
  omega
theorem stsB_most : ∀ (l : List StP) (i : Nat), (∀ j, j < l.length → FormP (i + j) (l.getD j noSt)) → (stsB i l).length ≤ 33423380 * l.length
  | [], _, _ => Nat.zero_le _
  | s :: l, i, h => by
    have h0 := h 0 (by simp)
    simp only [List.getD_cons_zero] at h0
    have h1 := stB_most (i := i) h0
    have h2 := stsB_most l (i + 1) (fun j hj => by
      have h3 := h (j + 1) (by simp only [List.length_cons]; omega)
      rw [List.getD_cons_succ, show i + (j + 1) = i + 1 + j by omega] at h3
      exact h3)
    simp only [stsB, List.length_append, List.length_cons]
    omega
theorem packB_most {sts : List StP} {base : Int} (h : RgtP sts base) : (packB base sts).length ≤ 4398046511104 := by
  have h1 := stsB_most sts 0 (fun j hj => by rw [Nat.zero_add]; exact rgtP_form h j hj)
  have h2 := rgtP_few h
  have h3 := varN_ten base.toNat
  have h4 := varN_ten sts.length
  simp only [packB, topB, List.length_append]
  omega
theorem packB_inj2 {b1 b2 : Nat} {s1 s2 : List StP} (h1 : RgtP s1 b1) (h2 : RgtP s2 b2) (k1 : b1 ≤ 1048576) (k2 : b2 ≤ 1048576) (h : packB b1 s1 = packB b2 s2) : b1 = b2 ∧ s1 = s2 := by
  have := packB_inj (m1 := ⟨b1, s1⟩) (m2 := ⟨b2, s2⟩) h1 h2 (rgtP_few h1) (rgtP_few h2) ⟨by simp only; omega, by simp only; omega⟩ ⟨by simp only; omega, by simp only; omega⟩ h
  simp only [MchP.mk.injEq] at this
  exact ⟨by omega, this.2⟩
/-- Unpack on what Pack has written. -/
theorem unpack_mach (w : World) (hL : Lst w) {L : List PRow} (hD : DictP L) (A : Option Addr) (n c : Nat) (hr : Reads w 1 A n ((packB (mach L).base (mach L).states).map byteV)) :
    Calls Tryd.prog 17 #[.slice A n c] w fun e w' => ∃ (A' : Option Addr) (n' c' : Nat) (Z : List SV), e = .returned (.tuple #[.agg #[.int .i64 (mach L).base, .slice A' n' c'], .int .i64 0]) ∧ StsOk w' A' n' Z ∧ Z.map SV.p = (mach L).states ∧ Touch (fun _ => False) w w' := by
  have hg := right_mach hD
  have hb := base_mach hD
  have hl : (packB (mach L).base (mach L).states).length = n := by
    have := hr.1
    rw [List.length_map] at this
    omega
  have hm := packB_most hg
  obtain ⟨bn, hbn⟩ : ∃ k : Nat, (mach L).base = (k : Int) := ⟨(mach L).base.toNat, by omega⟩
  refine (unpack_any w hL A n c _ hr hl (by omega)).mono ?_
  rintro e w' ⟨T, ⟨b2, s2, k1, k2, k3, k4, A', n', c', Z, rfl, h1, h2, _⟩ | ⟨h1, _⟩⟩
  · rw [hbn] at k4 hg hb
    obtain ⟨e1, e2⟩ := packB_inj2 hg k3 (by omega) k1 k4
    subst e1
    exact ⟨A', n', c', Z, by rw [hbn], h1, by rw [h2, e2], T⟩
  · rw [hbn] at h1 hg hb
    exact absurd rfl (h1 bn _ (by omega) hg)

set_option maxRecDepth 100000 in
set_option maxHeartbeats 8000000 in
theorem wback_walk (W : World) (hL : Lst W) (s : SL) (hs : s.Ok W) (hWz : ∀ r ∈ s.L, r.word.size ≤ 1099511627776) (hm : s.n ≤ maxLen) :
    Calls Tryd.prog 8 #[s.val] W fun e W' => e = .returned (.bool true) ∧ Below W.heap.size W W' := by
  have HFB := hide (fbuild_any W hL s hs hWz hm)
  have HL := hide hL
  obtain ⟨sA, sn, sc, sL⟩ := s
  simp only [SL.val] at HFB ⊢
  clear hs hWz hm hL
  go_enter Tryd.func8, Tryd.ntmps8
  go_wp2_with fail
  refine HFB.out.mono ?_
  rintro e w1 (⟨_, k, hk, rfl, T1⟩ | ⟨hr, A, n, c, Z, rfl, hst, hz, _, T1⟩)
  · obtain ⟨w2, hw2⟩ : ∃ x, x = w1.alloc (.cells #[.int .i64 0, .slice none 0 0] 24) := ⟨_, rfl⟩
    have hT2 : Touch (fun _ => False) W w2 := by rw [hw2]; exact T1.alloc _
    have k1 : (k == 0) = false := by simp; omega
    have k2 : ¬ k = 0 := by omega
    have HT2 := hide hT2
    have HW2 := hide hw2
    clear hw2 hT2 T1 HFB hk
    go_wp2_with fail
    rw [← HW2.out]
    refine (alive8_any w2 (Lst.touch HL.out HT2.out)).mono ?_
    rintro e w3 ⟨rfl, T3⟩
    have HT3 := hide (HT2.out.then T3)
    clear T3
    go_wp2_with fail
    go_ret
    exact ⟨rfl, HT3.out.below (Nat.le_refl _) (fun _ _ f => f)⟩
  · have hD := dict_of_right hr
    obtain ⟨bs, hbs⟩ : ∃ b, b = (mach sL).base := ⟨_, rfl⟩
    obtain ⟨w2, hw2⟩ : ∃ x, x = w1.alloc (.cells #[.int .i64 bs, .slice A n c] 24) := ⟨_, rfl⟩
    have hT12 : Touch (fun _ => False) w1 w2 := by rw [hw2]; exact (Touch.refl _ _).alloc _
    have hT2 : Touch (fun _ => False) W w2 := T1.then hT12
    have hbM : Blk w2 w1.heap.size 24 #[.int .i64 bs, .slice A n c] := by rw [hw2]; exact Blk.new _ _ _
    have hst2 := hst.quiet hT12
    have hpk := dpack_any w2 (Lst.touch HL.out hT2) sL hD A n c Z hst2 hz
    rw [← hbs] at hpk ⊢
    have HT2 := hide hT2
    have HW2 := hide hw2
    have HBM := hide hbM
    have HST := hide hst2
    have HPK := hide hpk
    have HZ := hide hz
    have HD := hide hD
    have HBS := hide hbs
    clear hw2 hT2 T1 HFB hT12 hbM hst2 hst hr hz hD hbs hpk
    go_wp2_with fail
    rw [← HW2.out]
    refine HPK.out.mono ?_
    rintro e w3 ⟨A3, q3, c3, rfl, hx3⟩
    have hup := unpack_mach w3 (Lst.touch HL.out (HT2.out.then hx3.touch)) HD.out A3 q3 c3 (by rw [← HBS.out]; exact Reads.of_own hx3.own)
    rw [← HBS.out] at hup
    have HUP := hide hup
    have HT3 := hide (HT2.out.then hx3.touch)
    have HX3 := hide hx3.touch
    clear hx3 hup HPK
    go_wp2_with fail
    refine HUP.out.mono ?_
    rintro e w4 ⟨A4, n4, c4, Y, rfl, hsY, hY, T4⟩
    obtain ⟨w5, hw5⟩ : ∃ x, x = w4.alloc (.cells #[.int .i64 bs, .slice A4 n4 c4] 24) := ⟨_, rfl⟩
    have hT5 : Touch (fun _ => False) w4 w5 := by rw [hw5]; exact (Touch.refl _ _).alloc _
    have hbN : Blk w5 w4.heap.size 24 #[.int .i64 bs, .slice A4 n4 c4] := by rw [hw5]; exact Blk.new _ _ _
    have HT45 := hide (T4.then hT5)
    have HT5 := hide (HT3.out.then (T4.then hT5))
    have HBN := hide hbN
    have HSY := hide (hsY.quiet hT5)
    have HY := hide hY
    have HW5 := hide hw5
    clear hw5 hT5 hbN hsY hY T4 HUP
    go_wp2_with fail
    rw [← HW5.out]
    refine (alive8_any w5 (Lst.touch HL.out HT5.out)).mono ?_
    rintro e w6 ⟨rfl, T6⟩
    have HT6 := hide (HT5.out.then T6)
    have hzm : n ≤ maxLen := by
      have h1 := mach_few HD.out
      rw [← HZ.out, List.length_map, HST.out.len] at h1
      unfold maxLen
      omega
    have HSM := hide (samem_any w6 bs bs A n c Z A4 n4 c4 Y (HST.out.quiet (HX3.out.then (HT45.out.then T6))) (HSY.out.quiet T6) hzm)
    obtain ⟨m0, m1, m2⟩ := (HBM.out.touch (HX3.out.then (HT45.out.then T6)) (fun f => f)).facts
    obtain ⟨n0, n1, n2⟩ := (HBN.out.touch T6 (fun f => f)).facts
    clear T6 hzm
    go_wp2_with fail
    refine HSM.out.mono ?_
    rintro e w7 ⟨⟨v, rfl, hv⟩, T7⟩
    have hvt : v = true := hv.2 ⟨by trivial, by rw [HZ.out, HY.out]⟩
    subst hvt
    have HT7 := hide (HT6.out.then T7)
    clear T7 hv
    go_wp2_with fail
    go_ret
    exact ⟨rfl, HT7.out.below (Nat.le_refl _) (fun _ _ f => f)⟩

end Go.Proofs.YtcmjohaohdgnjaaDoor
