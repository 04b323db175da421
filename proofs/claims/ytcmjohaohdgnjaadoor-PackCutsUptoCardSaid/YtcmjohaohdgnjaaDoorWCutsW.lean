/- PackCuts: the walk. Condition: no word has more than 2^40 bytes. -/
import Derived.Test.YtcmjohaohdgnjaaDoorWAgainW
namespace Go.Proofs.YtcmjohaohdgnjaaDoor
open Go.RowKit

/-- More bytes behind change nothing of what was read. -/
theorem num_more : ∀ (bs : List UInt8) (i acc m : Nat) (t u : List UInt8), numG i acc bs = some (m, t) → numG i acc (bs ++ u) = some (m, t ++ u)
  | [], _, _, _, _, _, h => by simp [numG] at h
  | c :: bs, i, acc, m, t, u, h => by
    simp only [numG, List.cons_append] at h ⊢
    split at h
    · cases h
    · rename_i h9
      rw [if_neg h9]
      split at h
      · rename_i h8
        rw [if_pos h8]
        exact num_more bs _ _ _ _ _ h
      · rename_i h8
        rw [if_neg h8]
        split at h
        · cases h
        · rename_i h0
          rw [if_neg h0]
          simp only [Option.some.injEq, Prod.mk.injEq] at h ⊢
          exact ⟨h.1, by rw [h.2]⟩
theorem uint_more {m m' n : Nat} {bs t : List UInt8} (hm : m ≤ m') (h : uintR m bs = some (n, t)) (u : List UInt8) : uintR m' (bs ++ u) = some (n, t ++ u) := by
  unfold uintR at h ⊢
  split at h
  · cases h
  · rename_i k s hk
    rw [show numR (bs ++ u) = some (k, s ++ u) from num_more bs 0 0 k s u hk]
    simp only
    split at h
    · rename_i hle
      rw [if_pos (by omega)]
      simp only [Option.some.injEq, Prod.mk.injEq] at h ⊢
      exact ⟨h.1, by rw [h.2]⟩
    · cases h
theorem arcs_more2 (i : Nat) : ∀ (k : Nat) (l : Int) (bs : List UInt8) (ars : List (Int × Int × Int)) (t u : List UInt8), arcsR i k l bs = some (ars, t) → arcsR i k l (bs ++ u) = some (ars, t ++ u)
  | 0, l, bs, ars, t, u, h => by
    simp only [arcsR, Option.some.injEq, Prod.mk.injEq] at h ⊢
    exact ⟨h.1, by rw [h.2]⟩
  | k + 1, l, bs, ars, t, u, h => by
    simp only [arcsR] at h ⊢
    split at h
    · cases h
    · rename_i d t1 e1
      rw [uint_more (Nat.le_refl _) e1 u]
      simp only
      split at h
      · cases h
      · rename_i o t2 e2
        rw [uint_more (Nat.le_refl _) e2 u]
        simp only
        split at h
        · cases h
        · rename_i b t3 e3
          rw [uint_more (Nat.le_refl _) e3 u]
          simp only
          split at h
          · cases h
          · rename_i ars' t4 e4
            rw [arcs_more2 i k _ _ _ _ u e4]
            simp only [Option.some.injEq, Prod.mk.injEq] at h ⊢
            exact ⟨h.1, by rw [h.2]⟩
theorem st_more {i : Nat} {bs t : List UInt8} {z : StZ} (h : stR i bs = some (z, t)) (u : List UInt8) : stR i (bs ++ u) = some (z, t ++ u) := by
  unfold stR at h ⊢
  split at h
  · cases h
  · rename_i n t1 e1
    rw [uint_more (m' := 2 * (bs ++ u).length + 1) (by rw [List.length_append]; omega) e1 u]
    simp only
    split at h
    · cases h
    · rename_i o t2 e2
      have e2' : outR8 (decide (n % 2 = 1)) (t1 ++ u) = some (o, t2 ++ u) := by
        unfold outR8 at e2 ⊢
        split at e2
        · rename_i hd
          rw [if_pos hd]
          exact uint_more (Nat.le_refl _) e2 u
        · rename_i hd
          rw [if_neg hd]
          simp only [Option.some.injEq, Prod.mk.injEq] at e2 ⊢
          exact ⟨e2.1, by rw [e2.2]⟩
      rw [e2']
      simp only
      split at h
      · cases h
      · rename_i ars t3 e3
        rw [arcs_more2 _ _ _ _ _ _ u e3]
        simp only [Option.some.injEq, Prod.mk.injEq] at h ⊢
        exact ⟨h.1, by rw [h.2]⟩
theorem stsr_more : ∀ (k i : Nat) (bs : List UInt8) (l : List StZ) (t u : List UInt8), stsR k i bs = some (l, t) → stsR k i (bs ++ u) = some (l, t ++ u)
  | 0, i, bs, l, t, u, h => by
    simp only [stsR, Option.some.injEq, Prod.mk.injEq] at h ⊢
    exact ⟨h.1, by rw [h.2]⟩
  | k + 1, i, bs, l, t, u, h => by
    simp only [stsR] at h ⊢
    split at h
    · cases h
    · rename_i s t1 e1
      rw [st_more e1 u]
      simp only
      split at h
      · cases h
      · rename_i l' t2 e2
        rw [stsr_more k _ _ _ _ u e2]
        simp only [Option.some.injEq, Prod.mk.injEq] at h ⊢
        exact ⟨h.1, by rw [h.2]⟩
theorem mach_more {bs t : List UInt8} {m : Nat × List StZ} (h : machR bs = some (m, t)) (u : List UInt8) : machR (bs ++ u) = some (m, t ++ u) := by
  unfold machR at h ⊢
  split at h
  · cases h
  · rename_i b t1 e1
    rw [uint_more (Nat.le_refl _) e1 u]
    simp only
    split at h
    · cases h
    · rename_i n t2 e2
      rw [uint_more (Nat.le_refl _) e2 u]
      simp only
      split at h
      · cases h
      · rename_i l t3 e3
        rw [stsr_more _ _ _ _ _ u e3]
        simp only [Option.some.injEq, Prod.mk.injEq] at h ⊢
        exact ⟨h.1, by rw [h.2]⟩
/-- No machine's bytes are the beginning of another one's. -/
theorem pack_prefix {b1 b2 : Nat} {s1 s2 : List StP} (h1 : RgtP s1 (b1 : Int)) (h2 : RgtP s2 (b2 : Int)) (k1 : b1 ≤ 1048576) (k2 : b2 ≤ 1048576) {u : List UInt8} (h : packB b1 s1 ++ u = packB b2 s2) : u = [] := by
  have e1 := mach_write k1 (rgtP_few h1) (rgtP_form h1) u
  have e2 := mach_write k2 (rgtP_few h2) (rgtP_form h2) []
  rw [List.append_nil, ← h, e1] at e2
  simp only [Option.some.injEq, Prod.mk.injEq] at e2
  exact e2.2
theorem cut_none {b1 : Nat} {s1 : List StP} (h1 : RgtP s1 (b1 : Int)) (k1 : b1 ≤ 1048576) {n : Nat} (hn : n < (packB b1 s1).length) : ∀ (base : Nat) (sts : List StP), base ≤ 1048576 → RgtP sts (base : Int) → (packB b1 s1).take n ≠ packB base sts := by
  intro base sts kb hr e
  have := pack_prefix hr h1 kb k1 (u := (packB b1 s1).drop n) (by rw [← e, List.take_append_drop])
  have h3 := congrArg List.length this
  rw [List.length_drop, List.length_nil] at h3
  omega
theorem more_none {b1 : Nat} {s1 : List StP} (h1 : RgtP s1 (b1 : Int)) (k1 : b1 ≤ 1048576) (x : UInt8) : ∀ (base : Nat) (sts : List StP), base ≤ 1048576 → RgtP sts (base : Int) → packB b1 s1 ++ [x] ≠ packB base sts := by
  intro base sts kb hr e
  have := pack_prefix h1 hr k1 kb e
  cases this
theorem packB_most2 {sts : List StP} {base : Int} (h : RgtP sts base) : (packB base sts).length ≤ 4398046511000 := by
  have h1 := stsB_most sts 0 (fun j hj => by rw [Nat.zero_add]; exact rgtP_form h j hj)
  have h2 := rgtP_few h
  have h3 := varN_ten base.toNat
  have h4 := varN_ten sts.length
  simp only [packB, topB, List.length_append]
  omega
theorem fresh_or {w : World} {g0 : Nat} {v : Value} {n c : Nat} (h : Fresh w (.slice (some ⟨g0, 0, none⟩) n c) v) : ∀ g, v.ownBlock = some g → g = g0 ∨ w.heap.size ≤ g := by
  intro g hg
  rcases h with e | ⟨g2, e, hle⟩
  · rw [e] at hg
    injection hg with hg
    exact .inl hg.symm
  · rw [e] at hg
    injection hg with hg
    exact .inr (by omega)
/-- Unpack on what is no machine's. -/
theorem unpack_no (w : World) (hL : Lst w) (A : Option Addr) (n c : Nat) (bs : List UInt8) (hr : Reads w 1 A n (bs.map byteV)) (hn : n ≤ 4398046511104) (hno : ∀ (base : Nat) (sts : List StP), base ≤ 1048576 → RgtP sts (base : Int) → bs ≠ packB base sts) :
    Calls Tryd.prog 17 #[.slice A n c] w fun e w' => e = .returned (.tuple #[.agg #[.int .i64 0, .slice none 0 0], .int .i64 80]) ∧ Touch (fun _ => False) w w' := by
  have hl : bs.length = n := by
    have := hr.1
    rw [List.length_map] at this
    omega
  refine (unpack_any w hL A n c bs hr hl hn).mono ?_
  rintro e w' ⟨T, ⟨b2, s2, k1, _, k3, k4, _⟩ | ⟨_, rfl⟩⟩
  · exact absurd k4 (hno b2 s2 k1 k3)
  · exact ⟨rfl, T⟩


set_option maxRecDepth 100000 in
set_option maxHeartbeats 8000000 in
theorem wcuts_walk (W : World) (hL : Lst W) (s : SL) (hs : s.Ok W) (hWz : ∀ r ∈ s.L, r.word.size ≤ 1099511627776) (hm : s.n ≤ maxLen) (k : Int) (mb : UInt8) :
    Calls Tryd.prog 10 #[s.val, .int .i64 k, byteV mb] W fun e W' => e = .returned (.bool true) ∧ Below W.heap.size W W' := by
  have HFB := hide (fbuild_any W hL s hs hWz hm)
  have HL := hide hL
  obtain ⟨sA, sn, sc, sL⟩ := s
  simp only [SL.val] at HFB ⊢
  obtain ⟨mx, hmx⟩ : ∃ mx : Int, (mb.toNat : Int) = mx := ⟨_, rfl⟩
  have hbv : byteV mb = .int .u8 mx := by unfold byteV; rw [hmx]
  have HBV := hide hbv
  rw [hbv]
  clear hs hWz hm hL hbv hmx
  obtain ⟨i1, hi1, hy0, hy1, hy2⟩ := info_parts infoByte
  go_enter Tryd.func10, Tryd.ntmps10
  go_wp2_with fail
  refine HFB.out.mono ?_
  rintro e w1 (⟨_, k2, hk, rfl, T1⟩ | ⟨hr, A, n, c, Z, rfl, hst, hz, _, T1⟩)
  · obtain ⟨w2, hw2⟩ : ∃ x, x = w1.alloc (.cells #[.int .i64 0, .slice none 0 0] 24) := ⟨_, rfl⟩
    have hT2 : Touch (fun _ => False) W w2 := by rw [hw2]; exact T1.alloc _
    have k3 : (k2 == 0) = false := by simp; omega
    have k4 : (k2 != 0) = true := by simp; omega
    have k5 : ¬ k2 = 0 := by omega
    have HT2 := hide hT2
    have HW2 := hide hw2
    clear hw2 hT2 T1 HFB hk
    go_wp2_with fail
    rw [← HW2.out]
    refine (alive8_any w2 (Lst.touch HL.out HT2.out)).mono ?_
    rintro e w3 ⟨rfl, T3⟩
    have HT3 := hide (HT2.out.then T3)
    clear T3
    go_wp2_with fail
    go_ret
    exact ⟨rfl, HT3.out.below (Nat.le_refl _) (fun _ _ f => f)⟩
  · have hD := dict_of_right hr
    have hg := right_mach hD
    have hb := base_mach hD
    have hpm := packB_most2 hg
    have hpp := packB_pos (mach sL).base (mach sL).states
    obtain ⟨bn, hbn⟩ : ∃ k : Nat, (mach sL).base = (k : Int) := ⟨(mach sL).base.toNat, by omega⟩
    obtain ⟨w2, hw2⟩ : ∃ x, x = w1.alloc (.cells #[.int .i64 (mach sL).base, .slice A n c] 24) := ⟨_, rfl⟩
    have hT12 : Touch (fun _ => False) w1 w2 := by rw [hw2]; exact (Touch.refl _ _).alloc _
    have hT2 : Touch (fun _ => False) W w2 := T1.then hT12
    have hbM : Blk w2 w1.heap.size 24 #[.int .i64 (mach sL).base, .slice A n c] := by rw [hw2]; exact Blk.new _ _ _
    have hpk := dpack_any w2 (Lst.touch HL.out hT2) sL hD A n c Z (hst.quiet hT12) hz
    rw [hbn] at hpk hpm hpp hg hb hw2 hbM ⊢
    obtain ⟨pb, hpb⟩ : ∃ pb, packB (bn : Int) (mach sL).states = pb := ⟨_, rfl⟩
    have hcut : ∀ q, q < pb.length → ∀ (base : Nat) (sts : List StP), base ≤ 1048576 → RgtP sts (base : Int) → pb.take q ≠ packB base sts := by
      rw [← hpb]
      exact fun q hq => cut_none hg (by omega) hq
    have hmore : ∀ (base : Nat) (sts : List StP), base ≤ 1048576 → RgtP sts (base : Int) → pb ++ [mb] ≠ packB base sts := by
      rw [← hpb]
      exact more_none hg (by omega) mb
    rw [hpb] at hpk hpm hpp
    have HT2 := hide hT2
    have HW2 := hide hw2
    have HPK := hide hpk
    have HPM := hide hpm
    have HPP := hide hpp
    have HCUT := hide hcut
    have HMORE := hide hmore
    obtain ⟨m0, m1, m2⟩ := hbM.facts
    clear hw2 hT2 T1 HFB hT12 hbM hst hr hz hD hbn hpk hg hb hpm hpp hpb hcut hmore
    go_wp2_with fail
    rw [← HW2.out]
    refine HPK.out.mono ?_
    rintro e w3 ⟨A3, q3, c3, rfl, hx3⟩
    clear m0 m1 m2
    have hql : pb.length = q3 := by
      have := hx3.own.1
      rw [List.length_map] at this
      omega
    have hqc := own_slice hx3.own
    obtain ⟨g3, o3, hA3, _, _⟩ := (Reads.of_own hx3.own).form (by have := HPP.out; omega)
    subst hA3
    have HT3 := hide (HT2.out.then hx3.touch)
    have HX3 := hide hx3.own
    have HQL := hide hql
    have HQC := hide hqc
    have hk : k < 0 ∨ ((0 : Int) ≤ k ∧ (q3 : Int) ≤ k) ∨ ((0 : Int) ≤ k ∧ k < (q3 : Int)) := by omega
    clear hx3 hql hqc HPK
    rcases hk with hk | ⟨hk, hk2⟩ | ⟨hk, hk2⟩
    · go_wp2_with fail
      refine (alive8_any w3 (Lst.touch HL.out HT3.out)).mono ?_
      rintro e w4 ⟨rfl, T4⟩
      have HT4 := hide (HT3.out.then T4)
      clear T4
      go_wp2_with fail
      go_ret
      exact ⟨rfl, HT4.out.below (Nat.le_refl _) (fun _ _ f => f)⟩
    · have hk3 : ¬ k < 0 := by omega
      go_wp2_with fail
      refine (alive8_any w3 (Lst.touch HL.out HT3.out)).mono ?_
      rintro e w4 ⟨rfl, T4⟩
      have HT4 := hide (HT3.out.then T4)
      clear T4
      go_wp2_with fail
      go_ret
      exact ⟨rfl, HT4.out.below (Nat.le_refl _) (fun _ _ f => f)⟩
    · obtain ⟨kn, rfl⟩ : ∃ kn : Nat, k = (kn : Int) := ⟨k.toNat, by omega⟩
      have hkq : kn < q3 := by omega
      have hk3 : ¬ (kn : Int) < 0 := by omega
      have hk4 : ¬ (q3 : Int) ≤ (kn : Int) := by omega
      have hk5 : (kn : Int) ≤ (c3 : Int) := by have := HQC.out; omega
      have hrt : Reads w3 1 (some ⟨g3, o3, none⟩) kn ((pb.take kn).map byteV) := by
        have := (Reads.of_own HX3.out).take (k := kn) (by omega)
        rw [Nat.mul_one, ← List.map_take] at this
        exact this
      have HUN := hide (unpack_no w3 (Lst.touch HL.out HT3.out) (some ⟨g3, o3, none⟩) kn c3 _ hrt (by have := HPM.out; have := HQL.out; omega) (HCUT.out kn (by rw [HQL.out]; exact hkq)))
      clear hrt hkq
      go_wp2_with fail
      refine HUN.out.mono ?_
      rintro e w4 ⟨rfl, T4⟩
      obtain ⟨w5, hw5⟩ : ∃ x, x = w4.alloc (.cells #[.int .i64 0, .slice none 0 0] 24) := ⟨_, rfl⟩
      have hT5 : Touch (fun _ => False) w4 w5 := by rw [hw5]; exact (Touch.refl _ _).alloc _
      obtain ⟨w6, hw6⟩ : ∃ x, x = w5.alloc (.cells #[] 5) := ⟨_, rfl⟩
      have hT6 : Touch (fun _ => False) w5 w6 := by rw [hw6]; exact (Touch.refl _ _).alloc _
      have hsz : w5.heap.size = w4.heap.size + 1 := by rw [hw5]; simp
      have hO6 : w6.ownsRow 0 5 1 (.slice (some ⟨w4.heap.size + 1, 0, none⟩) 0 0) 0 [] := by rw [hw6, ← hsz]; exact own_nought8 _ _ _
      have hR6 := (Reads.of_own HX3.out).touch (T4.then (hT5.then hT6)) (fun _ _ f => f)
      have hbb : 0 + q3 ≤ maxLen ∧ (0 + q3) * 1 ≤ 140737488355328 ∧ q3 + 1 ≤ maxLen ∧ (q3 + 1) * 1 ≤ 140737488355328 := by
        have := HPM.out
        have := HQL.out
        unfold maxLen
        omega
      have HT6 := hide (HT3.out.then (T4.then (hT5.then hT6)))
      have HT6s := hide (HT3.out.then T4).size
      have HW5 := hide hw5
      have HW6 := hide hw6
      have HO6 := hide hO6
      have HR6 := hide hR6
      have HBB := hide hbb
      have HON := hide (onecell_bytes pb)
      clear T4 hw5 hT5 hw6 hT6 hO6 hR6 hsz hbb HUN
      have hone : ∀ u ∈ ([.int .u8 mx] : List Value), u.oneCell' = true := List.all_eq_true.1 rfl
      have HONE := hide hone
      have HW45 := hide (show W.heap.size ≤ w4.heap.size by have := HT6s.out; omega)
      clear hone
      go_wp2_with (first
        | (at_builtin; rw [← HW5.out, ← HW6.out]; refine wpList_app _ rfl (.tmp 45) (.tmp 46) 32 rfl 5 i1 _ 1 1 Tryd.underlying32 hi1 hy0 hy1 hy2 rfl (by decide) (.slice (some ⟨w4.heap.size + 1, 0, none⟩) 0 0) 0 _ rfl HO6.out (some ⟨g3, o3, none⟩) q3 c3 (pb.map byteV) rfl HR6.out (fun h => by cases h) HON.out HBB.out.1 HBB.out.2.1 ?_; intro v1 w7 O7 G7 F7 _; rw [Nat.zero_add, List.nil_append] at O7; obtain ⟨A7, c7, hv, _, _⟩ := own_len O7; subst hv; have HT7 := hide ((Touch.refl (fun g => g = w4.heap.size + 1) w6).grown G7 (fun k hk _ => by injection hk with hk; exact hk.symm)); have HO8 := hide (own_touch O7 ((Touch.refl (fun _ => False) w7).alloc (.cells #[.int .u8 mx] 5)) (fun _ _ f => f)); have HR8 := hide (Reads.new (size := 1) w7 5 [.int .u8 mx] 1 rfl); have HY7 := hide (fresh_or F7); clear O7 G7 F7)
        | (at_builtin; refine wpList_app _ rfl (.tmp 47) (.tmp 49) 32 rfl 5 i1 _ 1 1 Tryd.underlying32 hi1 hy0 hy1 hy2 rfl (by decide) (.slice A7 q3 c7) q3 _ rfl HO8.out (some ⟨w7.heap.size, 0, none⟩) 1 1 [.int .u8 mx] rfl HR8.out (fun h => by cases h) HONE.out HBB.out.2.2.1 HBB.out.2.2.2 ?_; intro v2 w9 O9 G9 F9 _; obtain ⟨A9, c9, hv9, _, _⟩ := own_len O9; subst hv9; have HO9 := hide O9; have HT9 := hide ((Touch.refl (fun g => (Value.slice A7 q3 c7).ownBlock = some g) _).grown G9 (fun k hk _ => hk)); clear O9 G9 F9))
      have h9 := HO9.out
      rw [← HBV.out, show pb.map byteV ++ [byteV mb] = (pb ++ [mb]).map byteV by rw [List.map_append]; rfl] at h9
      have T9 : Touch (fun _ => False) W w9 := ((HT6.out.trans HT7.out (fun k hk e => by have := HW45.out; omega)).then ((Touch.refl _ _).alloc _)).trans HT9.out (fun k hk e => by
        have h1 := HY7.out k e
        have h2 := HW45.out
        have h3 := HT6.out.size
        omega)
      have HT9 := hide T9
      have HUN2 := hide (unpack_no w9 (Lst.touch HL.out T9) A9 (q3 + 1) c9 _ (Reads.of_own h9) (by have := HPM.out; have := HQL.out; omega) HMORE.out)
      clear h9 T9
      go_wp2_with fail
      refine HUN2.out.mono ?_
      rintro e w10 ⟨rfl, T10⟩
      obtain ⟨w11, hw11⟩ : ∃ x, x = w10.alloc (.cells #[.int .i64 0, .slice none 0 0] 24) := ⟨_, rfl⟩
      have hT11 : Touch (fun _ => False) w10 w11 := by rw [hw11]; exact (Touch.refl _ _).alloc _
      have HT11 := hide (HT9.out.then (T10.then hT11))
      have HW11 := hide hw11
      clear hw11 hT11 T10
      go_wp2_with fail
      rw [← HW11.out]
      refine (alive8_any w11 (Lst.touch HL.out HT11.out)).mono ?_
      rintro e w12 ⟨rfl, T12⟩
      have HT12 := hide (HT11.out.then T12)
      clear T12
      go_wp2_with fail
      go_ret
      exact ⟨rfl, HT12.out.below (Nat.le_refl _) (fun _ _ f => f)⟩

end Go.Proofs.YtcmjohaohdgnjaaDoor
