/- pack.state: the walk. Condition: what is not read has no more than 2^42 bytes. -/
import Derived.Test.YtcmjohaohdgnjaaDoorUnpS
import Derived.Deep.RegionHeld3
namespace Go.Proofs.YtcmjohaohdgnjaaDoor
open Go.RowKit

theorem uint_c (w : World) (p : Nat) (A : Option Addr) (n c : Nat) (bs : List UInt8) (h : Rdr w p A n c bs 0) (most : Nat) (m : Int) (hm : m = (most : Int)) :
    Calls Tryd.prog 35 #[.pointer (some ⟨p, 0, none⟩), .int .u64 m] w fun e w' => UintPost p most A n c bs w e w' := by
  subst hm
  exact uint_ok w p A n c bs h most
theorem uint_n (w : World) (p : Nat) (A : Option Addr) (n c : Nat) (bs : List UInt8) (k : Int) (h : Rdr w p A n c bs k) (hk : 1 ≤ k) (m : Int) (hm : 0 ≤ m) :
    Calls Tryd.prog 35 #[.pointer (some ⟨p, 0, none⟩), .int .u64 m] w fun e w' => e = .returned (.int .u64 0) ∧ w = w' := by
  obtain ⟨q, rfl⟩ : ∃ q : Nat, m = (q : Int) := ⟨m.toNat, by omega⟩
  exact (uint_no w p A n c bs k h hk q).mono fun e w' ⟨h1, h2⟩ => ⟨h1, h2.symm⟩
/-- What a state's end wants, whether all was read or not. -/
structure SF (w wr : World) (p S : Nat) (fin : Bool) (out : Int) (aA : Option Addr) (ai ac : Nat) (R : Nat) : Prop where
  blk : Blk wr S 44 #[.bool fin, .int .i64 out, .slice aA ai ac]
  res : Blk wr R 44 #[.bool false, .int .i64 0, .slice none 0 0]
  touch : Touch (fun g => g = p) w wr
theorem SI.sf {w wr : World} {p S R : Nat} {fin : Bool} {out : Int} {aA : Option Addr} {ai ac : Nat} {acc : List (Int × Int × Int)} {A : Option Addr} {n c : Nat} {bs : List UInt8} (h : SI w wr p S fin out aA ai ac acc A n c bs R) : SF w wr p S fin out aA ai ac R := ⟨h.blk, h.res, h.touch⟩
theorem SF.then {w wr wx : World} {p S R : Nat} {fin : Bool} {out : Int} {aA : Option Addr} {ai ac : Nat} (h : SF w wr p S fin out aA ai ac R) {t : TypeId} {cs : Array Value} (hp : Blk wr p t cs) (ht : 44 ≠ t) (T : Touch (fun g => g = p) wr wx) : SF w wx p S fin out aA ai ac R :=
  ⟨h.blk.touch T (fun e => (blk_ty h.blk).ne (blk_ty hp) ht e), h.res.touch T (fun e => (blk_ty h.res).ne (blk_ty hp) ht e), h.touch.then T⟩
theorem SF.out {w wx : World} {p S R : Nat} {fin : Bool} {out : Int} {aA : Option Addr} {ai ac : Nat} (h : SF w wx p S fin out aA ai ac R) (hne : R ≠ S) (hs : w.heap.size ≤ S) (o : Int) : SF w (wx.setCell ⟨S, 1, none⟩ (.int .i64 o)) p S fin o aA ai ac R := by
  have T11 : Touch (fun g => g = S) wx (wx.setCell ⟨S, 1, none⟩ (.int .i64 o)) := (Touch.refl (fun g => g = S) _).setCell (fun _ => rfl) _
  exact ⟨h.blk.set_ 1 _, h.res.touch T11 hne, h.touch.trans T11 (fun k hk e => by omega)⟩
theorem rdr_set {wx : World} {p S : Nat} {A : Option Addr} {n c : Nat} {bs : List UInt8} {k : Int} {cs : Array Value} (h : Rdr wx p A n c bs k) (hS : Blk wx S 44 cs) (o : Int) : Rdr (wx.setCell ⟨S, 1, none⟩ (.int .i64 o)) p A n c bs k := by
  have T11 : Touch (fun g => g = S) wx (wx.setCell ⟨S, 1, none⟩ (.int .i64 o)) := (Touch.refl (fun g => g = S) _).setCell (fun _ => rfl) _
  exact h.touch T11 (fun e => (blk_ty h.blk).ne (blk_ty hS) (by decide) e) (fun g hg e => hg.ne (blk_ty hS) (by decide) e)

set_option maxRecDepth 100000 in
set_option maxHeartbeats 8000000 in
theorem ustate_any (w : World) (p : Nat) (A : Option Addr) (n c : Nat) (bs : List UInt8) (h : Rdr w p A n c bs 0) (hn : n ≤ 4398046511104) (i : Nat) (hi : i ≤ 98305) :
    Calls Tryd.prog 37 #[.pointer (some ⟨p, 0, none⟩), .int .i64 i] w fun e w' => StPost p i bs w e w' := by
  obtain ⟨i1, hi1, hy0, hy1, hy2⟩ := info_parts infoArc8
  obtain ⟨w0, hw0⟩ : ∃ x, x = w.alloc (.cells #[.bool false, .int .i64 0, .slice none 0 0] 44) := ⟨_, rfl⟩
  have hT0 : Touch (fun _ => False) w w0 := by rw [hw0]; exact (Touch.refl _ _).alloc _
  have hbR : Blk w0 w.heap.size 44 #[.bool false, .int .i64 0, .slice none 0 0] := by rw [hw0]; exact Blk.new _ _ _
  have h0 := h.quiet hT0
  have hp0 := h.blk.lt
  obtain ⟨R, hR⟩ : ∃ R, R = w.heap.size := ⟨_, rfl⟩
  rw [← hR] at hbR
  have HP0 := hide hp0
  have HW0 := hide hw0
  have HT0 := hide hT0
  have HBR := hide hbR
  have H0 := hide h0
  have HRR := hide hR
  have HLN := hide h.len
  have HLF := hide (fun wx (hx : Rdr wx p A n c bs 0) => left_any wx p A n c bs 0 hx)
  have y0 : IntKind.u64.wrap (2 * (n : Int) + 1) = 2 * (n : Int) + 1 := by rw [IntKind.wrap_u64]; omega
  have y1 : IntKind.i64.wrap (2 * (n : Int) + 1) = 2 * (n : Int) + 1 := IntWalk.i64_in _ (by omega)
  have y2 : IntKind.i64.wrap (2 * (n : Int)) = 2 * (n : Int) := IntWalk.i64_in _ (by omega)
  have y3 : (0 : Int) ≤ (n : Int) := by omega
  clear hw0 hT0 hbR h0 h hp0 hR
  go_enter Tryd.func37, Tryd.ntmps37
  go_wp2_with fail
  rw [← HW0.out, ← HRR.out]
  refine (HLF.out w0 H0.out).mono ?_
  rintro e wx ⟨rfl, hwx⟩
  subst hwx
  go_wp2_with fail
  refine (uint_c wx p A n c bs H0.out (2 * n + 1) _ (by push_cast; rfl)).mono ?_
  rintro e w1 (⟨v, t1, A1, n1, c1, hu1, rfl, hr1, T1⟩ | ⟨hu1, rfl, k, hk, hr1, T1⟩)
  · -- GEN
    have hv := (uintR_read hu1).2
    have hbp := H0.out.blk
    have hwp : R ≠ p := fun e => (blk_ty HBR.out).ne (blk_ty hbp) (by decide) e
    have hb1 := HBR.out.touch T1 hwp
    obtain ⟨cnt, hcnt⟩ : ∃ cnt, cnt = v / 2 := ⟨_, rfl⟩
    have HCB := hide (show cnt ≤ 4398046511104 by omega)
    have HIB := hide hi
    have v0 : IntKind.i64.wrap (v : Int) = (v : Int) := i64_nat (by omega)
    have v1 : (0 : Int) ≤ (v : Int) := by omega
    have v2 : (v : Int) / 2 = (cnt : Int) := by omega
    have v4 : (0 : Int) ≤ (cnt : Int) := by omega
    have v5 : (cnt : Int) ≤ 4398046511104 := by omega
    obtain ⟨fb, hfb⟩ : ∃ fb, decide (v % 2 = 1) = fb := ⟨_, rfl⟩
    have v3 : ((v : Int) % 2 == 1) = fb := by rw [← hfb, Bool.eq_iff_iff]; simp; omega
    obtain ⟨S, hS⟩ : ∃ S, S = w1.heap.size := ⟨_, rfl⟩
    obtain ⟨w2, hw2⟩ : ∃ x, x = w1.alloc (.cells #[.bool fb, .int .i64 0, .slice none 0 0] 44) := ⟨_, rfl⟩
    have hT2 : Touch (fun _ => False) w1 w2 := by rw [hw2]; exact (Touch.refl _ _).alloc _
    have hbS : Blk w2 S 44 #[.bool fb, .int .i64 0, .slice none 0 0] := by rw [hw2, hS]; exact Blk.new _ _ _
    have hsi : SI w w2 p S fb 0 none 0 0 [] A1 n1 c1 t1 R := ⟨hr1.quiet hT2, hbS, World.ownsRow_nil _ _ _ _, rfl, hb1.touch hT2 (fun f => f), ((HT0.out.up _).then T1).then (hT2.up _), fun g hg => (by cases hg), by have := hb1.lt; omega, by have := T1.size; have := HT0.out.size; omega⟩
    have hst : stR i bs = (match outR8 fb t1 with
        | none => none
        | some (o, t2) => (arcsR i cnt 0 t2).map fun r => ((⟨fb, (o : Int), r.1⟩ : StZ), r.2)) := by
      unfold stR
      rw [← HLN.out] at hu1
      rw [hu1]
      simp only
      rw [hfb, hcnt]
      cases outR8 fb t1 with
      | none => rfl
      | some r =>
        simp only
        cases arcsR i (v / 2) 0 r.2 with
        | none => rfl
        | some q => rfl
    clear hv hbp hwp hb1 hcnt hfb hu1 hr1 T1 hi
    cases fb with
    | false =>
      simp only [outR8, Bool.false_eq_true, if_false] at hst
      have HW2 := hide hw2
      have HS2 := hide hS
      clear hw2 hS hT2 hbS
      go_wp2_with fail
      rw [← HW2.out, ← HS2.out]
      have HSI := hide hsi
      have HST := hide hst
      clear hsi hst
      go_wp2_with fail
      go_loopw [7, 30] (fun lv jv wr => ∃ (j : Nat) (lab : Int) (aA : Option Addr) (ai ac : Nat) (acc : List (Int × Int × Int)) (A3 : Option Addr) (n3 c3 : Nat) (t3 : List UInt8), lv = .int .i32 lab ∧ jv = .int .i64 j ∧ j ≤ cnt ∧ Hid (SI w wr p S false 0 aA ai ac acc A3 n3 c3 t3 R) ∧ Hid (arcsR i cnt 0 t1 = (arcsR i (cnt - j) lab t3).map fun r => (acc ++ r.1, r.2)) ∧ Hid (ai ≤ j)) (fun _ jv _ => cnt - (intOf jv).toNat)
      case atStart => exact ⟨0, 0, none, 0, 0, [], _, _, _, _, rfl, rfl, Nat.zero_le _, HSI, hide (by simp), hide (Nat.le_refl _)⟩
      case round =>
        obtain ⟨j, lab, aA, ai, ac, acc, A3, n3, c3, t3, rfl, rfl, hj, HS, HE, HAI⟩ := hrel
        obtain ⟨wq, hwq⟩ : ∃ x, x = wr := ⟨_, rfl⟩
        subst hwq
        by_cases hjc : j < cnt
        · have j0 : (j : Int) < (cnt : Int) := by omega
          have j1 : (0 : Int) ≤ (j : Int) := by omega
          have j2 : IntKind.i64.wrap ((j : Int) + 1) = (j : Int) + 1 := IntWalk.i64_in _ (by have := HCB.out; omega)
          have hcj : cnt - j = (cnt - (j + 1)) + 1 := by omega
          have hee := HE.out
          rw [hcj] at hee
          have HEE := hide hee
          have HJC := hide hjc
          clear hee hcj hjc hj
          go_wp2_with fail
          refine (uint_c wq p A3 n3 c3 t3 HS.out.rdr 1114111 _ rfl).mono ?_
          rintro e wa (⟨d, s1, Aa, na, ca, hu1, rfl, hra, Ta⟩ | ⟨hu1, rfl, k, hk, hra, Ta⟩)
          · have hd := (uintR_read hu1).2
            have HSA := hide (HS.out.uint Ta hra)
            have HU1 := hide hu1
            have d0 : IntKind.i32.wrap (d : Int) = (d : Int) := i32_nat (by omega)
            obtain ⟨lab2, hl2⟩ : ∃ x, IntKind.i32.wrap (lab + (d : Int)) = x := ⟨_, rfl⟩
            have HL2 := hide hl2
            clear hu1 hra Ta hd
            go_wp2_with fail
            refine (uint_c wa p Aa na ca s1 HSA.out.rdr 1048576 _ rfl).mono ?_
            rintro e wb (⟨o, s2, Ab, nb, cb, hu2, rfl, hrb, Tb⟩ | ⟨hu2, rfl, k, hk, hrb, Tb⟩)
            · have hd := (uintR_read hu2).2
              have HSB := hide (HSA.out.uint Tb hrb)
              have HU2 := hide hu2
              have o0 : IntKind.i64.wrap (o : Int) = (o : Int) := i64_nat (by omega)
              have HOB := hide hd
              clear hu2 hrb Tb hd
              go_wp2_with fail
              refine (uint_c wb p Ab nb cb s2 HSB.out.rdr 98305 _ rfl).mono ?_
              rintro e wc (⟨b, s3, Ac, nc, cc, hu3, rfl, hrc, Tc⟩ | ⟨hu3, rfl, k, hk, hrc, Tc⟩)
              · have hd := (uintR_read hu3).2
                have HSC := hide (HSB.out.uint Tc hrc)
                have hmore := arcs_more HEE.out HU1.out HU2.out hu3
                rw [HL2.out] at hmore
                have HMORE := hide hmore
                have b0 : IntKind.i64.wrap (b : Int) = (b : Int) := i64_nat (by omega)
                have b1 : IntKind.i64.wrap ((i : Int) - (b : Int)) = (i : Int) - (b : Int) := IntWalk.i64_in _ (by have := HIB.out; omega)
                have HER := hide (err_any wc p Ac nc cc s3 0 HSC.out.rdr)
                obtain ⟨wd, hwd⟩ : ∃ x, x = wc.alloc (.cells #[.int .i32 lab2, .int .i64 (o : Int), .int .i64 ((i : Int) - (b : Int))] 74) := ⟨_, rfl⟩
                have hTd : Touch (fun _ => False) wc wd := by rw [hwd]; exact (Touch.refl _ _).alloc _
                have hrd : Reads wd 3 (some ⟨wc.heap.size, 0, none⟩) 1 [.int .i32 lab2, .int .i64 (o : Int), .int .i64 ((i : Int) - (b : Int))] := by rw [hwd]; exact Reads.new wc _ _ 1 rfl
                have hone : ∀ u ∈ ([.int .i32 lab2, .int .i64 (o : Int), .int .i64 ((i : Int) - (b : Int))] : List Value), u.oneCell' = true := by
                  intro u hu
                  simp only [List.mem_cons, List.not_mem_nil, or_false] at hu
                  rcases hu with rfl | rfl | rfl <;> rfl
                have hbb1 : ai + 1 ≤ maxLen := by unfold maxLen; have := HAI.out; have := HJC.out; have := HCB.out; omega
                have hbb2 : (ai + 1) * 24 ≤ 140737488355328 := by have := HAI.out; have := HJC.out; have := HCB.out; omega
                have HOWN := hide (own_touch HSC.out.own hTd (fun _ _ f => f))
                have HRD := hide hrd
                have HONE := hide hone
                have HBB := hide (And.intro hbb1 hbb2)
                have HTD := hide hTd
                have HWD := hide hwd
                obtain ⟨s0, s1', s2'⟩ := HSC.out.blk.facts
                clear hu3 hrc Tc hd hmore hwd hTd hrd hone hbb1 hbb2
                go_wp2_with fail
                refine HER.out.mono ?_
                rintro e wx ⟨rfl, hwx⟩
                subst hwx
                go_wp2_with (at_builtin; rw [← HWD.out]; refine wpList_app _ rfl (.tmp 47) (.tmp 54) 42 rfl 74 i1 _ 3 24 Tryd.underlying42 hi1 hy0 hy1 hy2 rfl (by decide) (.slice aA ai ac) ai _ rfl HOWN.out (some ⟨wx.heap.size, 0, none⟩) 1 1 [.int .i32 lab2, .int .i64 (o : Int), .int .i64 ((i : Int) - (b : Int))] rfl HRD.out (fun h => by cases h) HONE.out HBB.out.1 HBB.out.2 ?_; intro v1 w10 O10 G10 F10 _; obtain ⟨A2x, c2x, hv, _, _⟩ := own_len O10; subst hv; have HNX := hide (HSC.out.app HTD.out _ _ _ O10 G10 F10); obtain ⟨z0, z1, z2⟩ := (HSC.out.blk10 HTD.out G10).facts; clear O10 G10 F10)
                go_roundw
                · exact ⟨j + 1, lab2, _, _, _, _, _, _, _, _, rfl, by simp, by have := HJC.out; omega, HNX, HMORE, hide (by have := HAI.out; omega)⟩
                · have := HJC.out
                  simp only [intOf]
                  omega
              · have hno := arcs_stop HEE.out (.inr ⟨d, s1, HU1.out, .inr ⟨o, s2, HU2.out, hu3⟩⟩)
                have hsx : stR i bs = none := by rw [HST.out, hno]; rfl
                have HNO := hide hsx
                have HK := hide hk
                have HRC := hide hrc
                have HSF := hide (HSB.out.sf.then HSB.out.rdr.blk (by decide) Tc)
                have HER := hide (err_any wc p Ab nb cb s2 k hrc)
                have k0 : (k == 0) = false := by simp; omega
                have k1 : ¬ k = 0 := by omega
                obtain ⟨s0, s1', s2'⟩ := HSF.out.blk.facts
                obtain ⟨r0, r1', r2'⟩ := HSF.out.res.facts
                clear hno hsx hk hrc Tc hu3
                go_wp2_with fail
                refine HER.out.mono ?_
                rintro e wx ⟨rfl, hwx⟩
                subst hwx
                go_wp2_with fail
                have hbF := ((HSF.out.res.set_ 0 (.bool false)).set_ 1 (.int .i64 0)).set_ 2 (.slice aA ai ac)
                have g0 := hbF.cell 0
                have g1 := hbF.cell 1
                have g2 := hbF.cell 2
                have hTF := set3_touch (show w.heap.size ≤ R by rw [HRR.out]; exact Nat.le_refl _) HSF.out.touch (.bool false) (.int .i64 0) (.slice aA ai ac)
                try rw [← HRR.out]
                exact bodyPost_ret (v := .agg #[.bool false, .int .i64 0, .slice aA ai ac]) (by simp [results, Tryd.results37, go_sem, g0, g1, g2]) rfl ⟨⟨false, 0, aA, ai, ac, []⟩, rfl, hTF, .inr ⟨HNO.out, _, _, _, _, _, HK.out, set3_rdr HRC.out HSF.out.res _ _ _⟩⟩
            · have hno := arcs_stop HEE.out (.inr ⟨d, s1, HU1.out, .inl hu2⟩)
              have hsx : stR i bs = none := by rw [HST.out, hno]; rfl
              have HNO := hide hsx
              have HK := hide hk
              have HRC := hide hrb
              have HSF := hide (HSA.out.sf.then HSA.out.rdr.blk (by decide) Tb)
              have HUN := hide (uint_n wb p Aa na ca s1 k hrb hk 98305 (by decide))
              have HER := hide (err_any wb p Aa na ca s1 k hrb)
              have k0 : (k == 0) = false := by simp; omega
              have k1 : ¬ k = 0 := by omega
              obtain ⟨s0, s1', s2'⟩ := HSF.out.blk.facts
              obtain ⟨r0, r1', r2'⟩ := HSF.out.res.facts
              clear hno hsx hk hrb Tb hu2
              go_wp2_with fail
              refine HUN.out.mono ?_
              rintro e wx ⟨rfl, hwx⟩
              subst hwx
              go_wp2_with fail
              refine HER.out.mono ?_
              rintro e wx ⟨rfl, hwx⟩
              subst hwx
              go_wp2_with fail
              have hbF := ((HSF.out.res.set_ 0 (.bool false)).set_ 1 (.int .i64 0)).set_ 2 (.slice aA ai ac)
              have g0 := hbF.cell 0
              have g1 := hbF.cell 1
              have g2 := hbF.cell 2
              have hTF := set3_touch (show w.heap.size ≤ R by rw [HRR.out]; exact Nat.le_refl _) HSF.out.touch (.bool false) (.int .i64 0) (.slice aA ai ac)
              try rw [← HRR.out]
              exact bodyPost_ret (v := .agg #[.bool false, .int .i64 0, .slice aA ai ac]) (by simp [results, Tryd.results37, go_sem, g0, g1, g2]) rfl ⟨⟨false, 0, aA, ai, ac, []⟩, rfl, hTF, .inr ⟨HNO.out, _, _, _, _, _, HK.out, set3_rdr HRC.out HSF.out.res _ _ _⟩⟩
          · have hno := arcs_stop HEE.out (.inl hu1)
            have hsx : stR i bs = none := by rw [HST.out, hno]; rfl
            have HNO := hide hsx
            have HK := hide hk
            have HRC := hide hra
            have HSF := hide (HS.out.sf.then HS.out.rdr.blk (by decide) Ta)
            have HUN := hide (fun m hm => uint_n wa p A3 n3 c3 t3 k hra hk m hm)
            have HER := hide (err_any wa p A3 n3 c3 t3 k hra)
            have k0 : (k == 0) = false := by simp; omega
            have k1 : ¬ k = 0 := by omega
            obtain ⟨s0, s1', s2'⟩ := HSF.out.blk.facts
            obtain ⟨r0, r1', r2'⟩ := HSF.out.res.facts
            clear hno hsx hk hra Ta hu1
            go_wp2_with fail
            refine (HUN.out 1048576 (by decide)).mono ?_
            rintro e wx ⟨rfl, hwx⟩
            subst hwx
            go_wp2_with fail
            refine (HUN.out 98305 (by decide)).mono ?_
            rintro e wx ⟨rfl, hwx⟩
            subst hwx
            go_wp2_with fail
            refine HER.out.mono ?_
            rintro e wx ⟨rfl, hwx⟩
            subst hwx
            go_wp2_with fail
            have hbF := ((HSF.out.res.set_ 0 (.bool false)).set_ 1 (.int .i64 0)).set_ 2 (.slice aA ai ac)
            have g0 := hbF.cell 0
            have g1 := hbF.cell 1
            have g2 := hbF.cell 2
            have hTF := set3_touch (show w.heap.size ≤ R by rw [HRR.out]; exact Nat.le_refl _) HSF.out.touch (.bool false) (.int .i64 0) (.slice aA ai ac)
            try rw [← HRR.out]
            exact bodyPost_ret (v := .agg #[.bool false, .int .i64 0, .slice aA ai ac]) (by simp [results, Tryd.results37, go_sem, g0, g1, g2]) rfl ⟨⟨false, 0, aA, ai, ac, []⟩, rfl, hTF, .inr ⟨HNO.out, _, _, _, _, _, HK.out, set3_rdr HRC.out HSF.out.res _ _ _⟩⟩
        · have j0 : ¬ (j : Int) < (cnt : Int) := by omega
          have hje : cnt - j = 0 := by omega
          have hee := HE.out
          rw [hje] at hee
          have hsx : stR i bs = some ((⟨false, 0, aA, ai, ac, acc⟩ : ZV).p, t3) := by
            rw [HST.out, hee]
            simp [arcsR, ZV.p]
          have HNO := hide hsx
          have HSF := hide HS.out.sf
          obtain ⟨s0, s1', s2'⟩ := HSF.out.blk.facts
          obtain ⟨r0, r1', r2'⟩ := HSF.out.res.facts
          clear hsx hee hje hj
          go_wp2_with fail
          have hbF := ((HSF.out.res.set_ 0 (.bool false)).set_ 1 (.int .i64 0)).set_ 2 (.slice aA ai ac)
          have g0 := hbF.cell 0
          have g1 := hbF.cell 1
          have g2 := hbF.cell 2
          have hTF := set3_touch (show w.heap.size ≤ R by rw [HRR.out]; exact Nat.le_refl _) HSF.out.touch (.bool false) (.int .i64 0) (.slice aA ai ac)
          try rw [← HRR.out]
          exact bodyPost_ret (v := .agg #[.bool false, .int .i64 0, .slice aA ai ac]) (by simp [results, Tryd.results37, go_sem, g0, g1, g2]) rfl ⟨⟨false, 0, aA, ai, ac, acc⟩, rfl, hTF, .inl ⟨t3, HNO.out, set3_zv HS.out.zv HSF.out.res _ _ _, _, _, _, set3_rdr HS.out.rdr HSF.out.res _ _ _⟩⟩
    | true =>
      simp only [outR8, if_true] at hst
      have HSI0 := hide hsi
      have HST0 := hide hst
      have HW2 := hide hw2
      have HS2 := hide hS
      obtain ⟨s0, s1', s2'⟩ := hbS.facts
      clear hw2 hS hT2 hbS hsi hst
      go_wp2_with fail
      rw [← HW2.out, ← HS2.out]
      refine (uint_c w2 p A1 n1 c1 t1 HSI0.out.rdr 1048576 _ rfl).mono ?_
      rintro e wa (⟨oo, t2, A2, n2, c2, hu2, rfl, hr2, T2⟩ | ⟨hu2, rfl, k, hk, hr2, T2⟩)
      · have hob := (uintR_read hu2).2
        have hst := HST0.out
        rw [hu2] at hst
        simp only at hst
        have o0 : IntKind.i64.wrap (oo : Int) = (oo : Int) := i64_nat (by omega)
        have hsi := (HSI0.out.uint T2 hr2).out oo
        clear s0 s1' s2'
        obtain ⟨s0, s1', s2'⟩ := (HSI0.out.uint T2 hr2).blk.facts
        clear hob hu2 hr2 T2 HST0
        have HSI := hide hsi
        have HST := hide hst
        clear hsi hst
        go_wp2_with fail
        go_loopw [7, 30] (fun lv jv wr => ∃ (j : Nat) (lab : Int) (aA : Option Addr) (ai ac : Nat) (acc : List (Int × Int × Int)) (A3 : Option Addr) (n3 c3 : Nat) (t3 : List UInt8), lv = .int .i32 lab ∧ jv = .int .i64 j ∧ j ≤ cnt ∧ Hid (SI w wr p S true (oo : Int) aA ai ac acc A3 n3 c3 t3 R) ∧ Hid (arcsR i cnt 0 t2 = (arcsR i (cnt - j) lab t3).map fun r => (acc ++ r.1, r.2)) ∧ Hid (ai ≤ j)) (fun _ jv _ => cnt - (intOf jv).toNat)
        case atStart => exact ⟨0, 0, none, 0, 0, [], _, _, _, _, rfl, rfl, Nat.zero_le _, HSI, hide (by simp), hide (Nat.le_refl _)⟩
        case round =>
          obtain ⟨j, lab, aA, ai, ac, acc, A3, n3, c3, t3, rfl, rfl, hj, HS, HE, HAI⟩ := hrel
          obtain ⟨wq, hwq⟩ : ∃ x, x = wr := ⟨_, rfl⟩
          subst hwq
          by_cases hjc : j < cnt
          · have j0 : (j : Int) < (cnt : Int) := by omega
            have j1 : (0 : Int) ≤ (j : Int) := by omega
            have j2 : IntKind.i64.wrap ((j : Int) + 1) = (j : Int) + 1 := IntWalk.i64_in _ (by have := HCB.out; omega)
            have hcj : cnt - j = (cnt - (j + 1)) + 1 := by omega
            have hee := HE.out
            rw [hcj] at hee
            have HEE := hide hee
            have HJC := hide hjc
            clear hee hcj hjc hj
            go_wp2_with fail
            refine (uint_c wq p A3 n3 c3 t3 HS.out.rdr 1114111 _ rfl).mono ?_
            rintro e wa (⟨d, s1, Aa, na, ca, hu1, rfl, hra, Ta⟩ | ⟨hu1, rfl, k, hk, hra, Ta⟩)
            · have hd := (uintR_read hu1).2
              have HSA := hide (HS.out.uint Ta hra)
              have HU1 := hide hu1
              have d0 : IntKind.i32.wrap (d : Int) = (d : Int) := i32_nat (by omega)
              obtain ⟨lab2, hl2⟩ : ∃ x, IntKind.i32.wrap (lab + (d : Int)) = x := ⟨_, rfl⟩
              have HL2 := hide hl2
              clear hu1 hra Ta hd
              go_wp2_with fail
              refine (uint_c wa p Aa na ca s1 HSA.out.rdr 1048576 _ rfl).mono ?_
              rintro e wb (⟨o, s2, Ab, nb, cb, hu2, rfl, hrb, Tb⟩ | ⟨hu2, rfl, k, hk, hrb, Tb⟩)
              · have hd := (uintR_read hu2).2
                have HSB := hide (HSA.out.uint Tb hrb)
                have HU2 := hide hu2
                have o0 : IntKind.i64.wrap (o : Int) = (o : Int) := i64_nat (by omega)
                have HOB := hide hd
                clear hu2 hrb Tb hd
                go_wp2_with fail
                refine (uint_c wb p Ab nb cb s2 HSB.out.rdr 98305 _ rfl).mono ?_
                rintro e wc (⟨b, s3, Ac, nc, cc, hu3, rfl, hrc, Tc⟩ | ⟨hu3, rfl, k, hk, hrc, Tc⟩)
                · have hd := (uintR_read hu3).2
                  have HSC := hide (HSB.out.uint Tc hrc)
                  have hmore := arcs_more HEE.out HU1.out HU2.out hu3
                  rw [HL2.out] at hmore
                  have HMORE := hide hmore
                  have b0 : IntKind.i64.wrap (b : Int) = (b : Int) := i64_nat (by omega)
                  have b1 : IntKind.i64.wrap ((i : Int) - (b : Int)) = (i : Int) - (b : Int) := IntWalk.i64_in _ (by have := HIB.out; omega)
                  have HER := hide (err_any wc p Ac nc cc s3 0 HSC.out.rdr)
                  obtain ⟨wd, hwd⟩ : ∃ x, x = wc.alloc (.cells #[.int .i32 lab2, .int .i64 (o : Int), .int .i64 ((i : Int) - (b : Int))] 74) := ⟨_, rfl⟩
                  have hTd : Touch (fun _ => False) wc wd := by rw [hwd]; exact (Touch.refl _ _).alloc _
                  have hrd : Reads wd 3 (some ⟨wc.heap.size, 0, none⟩) 1 [.int .i32 lab2, .int .i64 (o : Int), .int .i64 ((i : Int) - (b : Int))] := by rw [hwd]; exact Reads.new wc _ _ 1 rfl
                  have hone : ∀ u ∈ ([.int .i32 lab2, .int .i64 (o : Int), .int .i64 ((i : Int) - (b : Int))] : List Value), u.oneCell' = true := by
                    intro u hu
                    simp only [List.mem_cons, List.not_mem_nil, or_false] at hu
                    rcases hu with rfl | rfl | rfl <;> rfl
                  have hbb1 : ai + 1 ≤ maxLen := by unfold maxLen; have := HAI.out; have := HJC.out; have := HCB.out; omega
                  have hbb2 : (ai + 1) * 24 ≤ 140737488355328 := by have := HAI.out; have := HJC.out; have := HCB.out; omega
                  have HOWN := hide (own_touch HSC.out.own hTd (fun _ _ f => f))
                  have HRD := hide hrd
                  have HONE := hide hone
                  have HBB := hide (And.intro hbb1 hbb2)
                  have HTD := hide hTd
                  have HWD := hide hwd
                  obtain ⟨s0, s1', s2'⟩ := HSC.out.blk.facts
                  clear hu3 hrc Tc hd hmore hwd hTd hrd hone hbb1 hbb2
                  go_wp2_with fail
                  refine HER.out.mono ?_
                  rintro e wx ⟨rfl, hwx⟩
                  subst hwx
                  go_wp2_with (at_builtin; rw [← HWD.out]; refine wpList_app _ rfl (.tmp 47) (.tmp 54) 42 rfl 74 i1 _ 3 24 Tryd.underlying42 hi1 hy0 hy1 hy2 rfl (by decide) (.slice aA ai ac) ai _ rfl HOWN.out (some ⟨wx.heap.size, 0, none⟩) 1 1 [.int .i32 lab2, .int .i64 (o : Int), .int .i64 ((i : Int) - (b : Int))] rfl HRD.out (fun h => by cases h) HONE.out HBB.out.1 HBB.out.2 ?_; intro v1 w10 O10 G10 F10 _; obtain ⟨A2x, c2x, hv, _, _⟩ := own_len O10; subst hv; have HNX := hide (HSC.out.app HTD.out _ _ _ O10 G10 F10); obtain ⟨z0, z1, z2⟩ := (HSC.out.blk10 HTD.out G10).facts; clear O10 G10 F10)
                  go_roundw
                  · exact ⟨j + 1, lab2, _, _, _, _, _, _, _, _, rfl, by simp, by have := HJC.out; omega, HNX, HMORE, hide (by have := HAI.out; omega)⟩
                  · have := HJC.out
                    simp only [intOf]
                    omega
                · have hno := arcs_stop HEE.out (.inr ⟨d, s1, HU1.out, .inr ⟨o, s2, HU2.out, hu3⟩⟩)
                  have hsx : stR i bs = none := by rw [HST.out, hno]; rfl
                  have HNO := hide hsx
                  have HK := hide hk
                  have HRC := hide hrc
                  have HSF := hide (HSB.out.sf.then HSB.out.rdr.blk (by decide) Tc)
                  have HER := hide (err_any wc p Ab nb cb s2 k hrc)
                  have k0 : (k == 0) = false := by simp; omega
                  have k1 : ¬ k = 0 := by omega
                  obtain ⟨s0, s1', s2'⟩ := HSF.out.blk.facts
                  obtain ⟨r0, r1', r2'⟩ := HSF.out.res.facts
                  clear hno hsx hk hrc Tc hu3
                  go_wp2_with fail
                  refine HER.out.mono ?_
                  rintro e wx ⟨rfl, hwx⟩
                  subst hwx
                  go_wp2_with fail
                  have hbF := ((HSF.out.res.set_ 0 (.bool true)).set_ 1 (.int .i64 (oo : Int))).set_ 2 (.slice aA ai ac)
                  have g0 := hbF.cell 0
                  have g1 := hbF.cell 1
                  have g2 := hbF.cell 2
                  have hTF := set3_touch (show w.heap.size ≤ R by rw [HRR.out]; exact Nat.le_refl _) HSF.out.touch (.bool true) (.int .i64 (oo : Int)) (.slice aA ai ac)
                  try rw [← HRR.out]
                  exact bodyPost_ret (v := .agg #[.bool true, .int .i64 (oo : Int), .slice aA ai ac]) (by simp [results, Tryd.results37, go_sem, g0, g1, g2]) rfl ⟨⟨true, (oo : Int), aA, ai, ac, []⟩, rfl, hTF, .inr ⟨HNO.out, _, _, _, _, _, HK.out, set3_rdr HRC.out HSF.out.res _ _ _⟩⟩
              · have hno := arcs_stop HEE.out (.inr ⟨d, s1, HU1.out, .inl hu2⟩)
                have hsx : stR i bs = none := by rw [HST.out, hno]; rfl
                have HNO := hide hsx
                have HK := hide hk
                have HRC := hide hrb
                have HSF := hide (HSA.out.sf.then HSA.out.rdr.blk (by decide) Tb)
                have HUN := hide (uint_n wb p Aa na ca s1 k hrb hk 98305 (by decide))
                have HER := hide (err_any wb p Aa na ca s1 k hrb)
                have k0 : (k == 0) = false := by simp; omega
                have k1 : ¬ k = 0 := by omega
                obtain ⟨s0, s1', s2'⟩ := HSF.out.blk.facts
                obtain ⟨r0, r1', r2'⟩ := HSF.out.res.facts
                clear hno hsx hk hrb Tb hu2
                go_wp2_with fail
                refine HUN.out.mono ?_
                rintro e wx ⟨rfl, hwx⟩
                subst hwx
                go_wp2_with fail
                refine HER.out.mono ?_
                rintro e wx ⟨rfl, hwx⟩
                subst hwx
                go_wp2_with fail
                have hbF := ((HSF.out.res.set_ 0 (.bool true)).set_ 1 (.int .i64 (oo : Int))).set_ 2 (.slice aA ai ac)
                have g0 := hbF.cell 0
                have g1 := hbF.cell 1
                have g2 := hbF.cell 2
                have hTF := set3_touch (show w.heap.size ≤ R by rw [HRR.out]; exact Nat.le_refl _) HSF.out.touch (.bool true) (.int .i64 (oo : Int)) (.slice aA ai ac)
                try rw [← HRR.out]
                exact bodyPost_ret (v := .agg #[.bool true, .int .i64 (oo : Int), .slice aA ai ac]) (by simp [results, Tryd.results37, go_sem, g0, g1, g2]) rfl ⟨⟨true, (oo : Int), aA, ai, ac, []⟩, rfl, hTF, .inr ⟨HNO.out, _, _, _, _, _, HK.out, set3_rdr HRC.out HSF.out.res _ _ _⟩⟩
            · have hno := arcs_stop HEE.out (.inl hu1)
              have hsx : stR i bs = none := by rw [HST.out, hno]; rfl
              have HNO := hide hsx
              have HK := hide hk
              have HRC := hide hra
              have HSF := hide (HS.out.sf.then HS.out.rdr.blk (by decide) Ta)
              have HUN := hide (fun m hm => uint_n wa p A3 n3 c3 t3 k hra hk m hm)
              have HER := hide (err_any wa p A3 n3 c3 t3 k hra)
              have k0 : (k == 0) = false := by simp; omega
              have k1 : ¬ k = 0 := by omega
              obtain ⟨s0, s1', s2'⟩ := HSF.out.blk.facts
              obtain ⟨r0, r1', r2'⟩ := HSF.out.res.facts
              clear hno hsx hk hra Ta hu1
              go_wp2_with fail
              refine (HUN.out 1048576 (by decide)).mono ?_
              rintro e wx ⟨rfl, hwx⟩
              subst hwx
              go_wp2_with fail
              refine (HUN.out 98305 (by decide)).mono ?_
              rintro e wx ⟨rfl, hwx⟩
              subst hwx
              go_wp2_with fail
              refine HER.out.mono ?_
              rintro e wx ⟨rfl, hwx⟩
              subst hwx
              go_wp2_with fail
              have hbF := ((HSF.out.res.set_ 0 (.bool true)).set_ 1 (.int .i64 (oo : Int))).set_ 2 (.slice aA ai ac)
              have g0 := hbF.cell 0
              have g1 := hbF.cell 1
              have g2 := hbF.cell 2
              have hTF := set3_touch (show w.heap.size ≤ R by rw [HRR.out]; exact Nat.le_refl _) HSF.out.touch (.bool true) (.int .i64 (oo : Int)) (.slice aA ai ac)
              try rw [← HRR.out]
              exact bodyPost_ret (v := .agg #[.bool true, .int .i64 (oo : Int), .slice aA ai ac]) (by simp [results, Tryd.results37, go_sem, g0, g1, g2]) rfl ⟨⟨true, (oo : Int), aA, ai, ac, []⟩, rfl, hTF, .inr ⟨HNO.out, _, _, _, _, _, HK.out, set3_rdr HRC.out HSF.out.res _ _ _⟩⟩
          · have j0 : ¬ (j : Int) < (cnt : Int) := by omega
            have hje : cnt - j = 0 := by omega
            have hee := HE.out
            rw [hje] at hee
            have hsx : stR i bs = some ((⟨true, (oo : Int), aA, ai, ac, acc⟩ : ZV).p, t3) := by
              rw [HST.out, hee]
              simp [arcsR, ZV.p]
            have HNO := hide hsx
            have HSF := hide HS.out.sf
            obtain ⟨s0, s1', s2'⟩ := HSF.out.blk.facts
            obtain ⟨r0, r1', r2'⟩ := HSF.out.res.facts
            clear hsx hee hje hj
            go_wp2_with fail
            have hbF := ((HSF.out.res.set_ 0 (.bool true)).set_ 1 (.int .i64 (oo : Int))).set_ 2 (.slice aA ai ac)
            have g0 := hbF.cell 0
            have g1 := hbF.cell 1
            have g2 := hbF.cell 2
            have hTF := set3_touch (show w.heap.size ≤ R by rw [HRR.out]; exact Nat.le_refl _) HSF.out.touch (.bool true) (.int .i64 (oo : Int)) (.slice aA ai ac)
            try rw [← HRR.out]
            exact bodyPost_ret (v := .agg #[.bool true, .int .i64 (oo : Int), .slice aA ai ac]) (by simp [results, Tryd.results37, go_sem, g0, g1, g2]) rfl ⟨⟨true, (oo : Int), aA, ai, ac, acc⟩, rfl, hTF, .inl ⟨t3, HNO.out, set3_zv HS.out.zv HSF.out.res _ _ _, _, _, _, set3_rdr HS.out.rdr HSF.out.res _ _ _⟩⟩
      · have hst := HST0.out
        rw [hu2] at hst
        simp only at hst
        have HNO := hide hst
        have HK := hide hk
        have hsf := HSI0.out.sf.then HSI0.out.rdr.blk (by decide) T2
        have HSF := hide (hsf.out HSI0.out.ne HSI0.out.sy 0)
        have HRC := hide (rdr_set hr2 hsf.blk 0)
        have k1 : ¬ k = 0 := by omega
        have k2 : (k == 0) = false := by simp; omega
        clear s0 s1' s2'
        obtain ⟨s0, s1', s2'⟩ := hsf.blk.facts
        clear hst hu2 hr2 hsf hk T2 HST0
        go_wp2_with fail
        clear s0 s1' s2'
        go_loopw [7, 30] (fun lv jv wr => lv = .int .i32 0 ∧ jv = .int .i64 0 ∧ Hid (SF w wr p S true 0 none 0 0 R) ∧ Hid (Rdr wr p A1 n1 c1 t1 k)) (fun _ _ _ => 0)
        case atStart => exact ⟨rfl, rfl, HSF, HRC⟩
        case round =>
          obtain ⟨rfl, rfl, HSF, HRC⟩ := hrel
          obtain ⟨wq, hwq⟩ : ∃ x, x = wr := ⟨_, rfl⟩
          subst hwq
          have HUN := hide (fun m hm => uint_n wq p A1 n1 c1 t1 k HRC.out HK.out m hm)
          have HER := hide (err_any wq p A1 n1 c1 t1 k HRC.out)
          obtain ⟨s0, s1', s2'⟩ := HSF.out.blk.facts
          obtain ⟨r0, r1', r2'⟩ := HSF.out.res.facts
          by_cases hc0 : cnt = 0
          · have j0 : ¬ (0 : Int) < (cnt : Int) := by omega
            clear hc0
            go_wp2_with fail
            have hbF := ((HSF.out.res.set_ 0 (.bool true)).set_ 1 (.int .i64 0)).set_ 2 (.slice none 0 0)
            have g0 := hbF.cell 0
            have g1 := hbF.cell 1
            have g2 := hbF.cell 2
            have hTF := set3_touch (show w.heap.size ≤ R by rw [HRR.out]; exact Nat.le_refl _) HSF.out.touch (.bool true) (.int .i64 0) (.slice none 0 0)
            try rw [← HRR.out]
            exact bodyPost_ret (v := .agg #[.bool true, .int .i64 0, .slice none 0 0]) (by simp [results, Tryd.results37, go_sem, g0, g1, g2]) rfl ⟨⟨true, 0, none, 0, 0, []⟩, rfl, hTF, .inr ⟨HNO.out, _, _, _, _, _, HK.out, set3_rdr HRC.out HSF.out.res _ _ _⟩⟩
          · have j0 : (0 : Int) < (cnt : Int) := by omega
            clear hc0
            go_wp2_with fail
            refine (HUN.out 1114111 (by decide)).mono ?_
            rintro e wx ⟨rfl, hwx⟩
            subst hwx
            go_wp2_with fail
            refine (HUN.out 1048576 (by decide)).mono ?_
            rintro e wx ⟨rfl, hwx⟩
            subst hwx
            go_wp2_with fail
            refine (HUN.out 98305 (by decide)).mono ?_
            rintro e wx ⟨rfl, hwx⟩
            subst hwx
            go_wp2_with fail
            refine HER.out.mono ?_
            rintro e wx ⟨rfl, hwx⟩
            subst hwx
            go_wp2_with fail
            have hbF := ((HSF.out.res.set_ 0 (.bool true)).set_ 1 (.int .i64 0)).set_ 2 (.slice none 0 0)
            have g0 := hbF.cell 0
            have g1 := hbF.cell 1
            have g2 := hbF.cell 2
            have hTF := set3_touch (show w.heap.size ≤ R by rw [HRR.out]; exact Nat.le_refl _) HSF.out.touch (.bool true) (.int .i64 0) (.slice none 0 0)
            try rw [← HRR.out]
            exact bodyPost_ret (v := .agg #[.bool true, .int .i64 0, .slice none 0 0]) (by simp [results, Tryd.results37, go_sem, g0, g1, g2]) rfl ⟨⟨true, 0, none, 0, 0, []⟩, rfl, hTF, .inr ⟨HNO.out, _, _, _, _, _, HK.out, set3_rdr HRC.out HSF.out.res _ _ _⟩⟩
  · have hbp := H0.out.blk
    have hwp : R ≠ p := fun e => (blk_ty HBR.out).ne (blk_ty hbp) (by decide) e
    have hb1 := HBR.out.touch T1 hwp
    have hsx : stR i bs = none := by
      unfold stR
      rw [← HLN.out] at hu1
      rw [hu1]
    have HNO := hide hsx
    have HK := hide hk
    obtain ⟨S, hS⟩ : ∃ S, S = w1.heap.size := ⟨_, rfl⟩
    obtain ⟨w2, hw2⟩ : ∃ x, x = w1.alloc (.cells #[.bool false, .int .i64 0, .slice none 0 0] 44) := ⟨_, rfl⟩
    have hT2 : Touch (fun _ => False) w1 w2 := by rw [hw2]; exact (Touch.refl _ _).alloc _
    have hbS : Blk w2 S 44 #[.bool false, .int .i64 0, .slice none 0 0] := by rw [hw2, hS]; exact Blk.new _ _ _
    have HSF : Hid (SF w w2 p S false 0 none 0 0 R) := hide ⟨hbS, hb1.touch hT2 (fun f => f), ((HT0.out.up _).then T1).then (hT2.up _)⟩
    have HRC := hide (hr1.quiet hT2)
    have HW2 := hide hw2
    have HS2 := hide hS
    clear hbp hwp hb1 hsx hk hw2 hS hT2 hbS hr1 T1 hu1
    go_wp2_with fail
    rw [← HW2.out, ← HS2.out]
    go_loopw [7, 30] (fun lv jv wr => lv = .int .i32 0 ∧ jv = .int .i64 0 ∧ Hid (wr = w2)) (fun _ _ _ => 0)
    case atStart => exact ⟨rfl, rfl, hide rfl⟩
    case round =>
      obtain ⟨rfl, rfl, hwr⟩ := hrel
      have hwr := hwr.out
      subst hwr
      obtain ⟨s0, s1', s2'⟩ := HSF.out.blk.facts
      obtain ⟨r0, r1', r2'⟩ := HSF.out.res.facts
      go_wp2_with fail
      have hbF := ((HSF.out.res.set_ 0 (.bool false)).set_ 1 (.int .i64 0)).set_ 2 (.slice none 0 0)
      have g0 := hbF.cell 0
      have g1 := hbF.cell 1
      have g2 := hbF.cell 2
      have hTF := set3_touch (show w.heap.size ≤ R by rw [HRR.out]; exact Nat.le_refl _) HSF.out.touch (.bool false) (.int .i64 0) (.slice none 0 0)
      try rw [← HRR.out]
      exact bodyPost_ret (v := .agg #[.bool false, .int .i64 0, .slice none 0 0]) (by simp [results, Tryd.results37, go_sem, g0, g1, g2]) rfl ⟨⟨false, 0, none, 0, 0, []⟩, rfl, hTF, .inr ⟨HNO.out, _, _, _, _, _, HK.out, set3_rdr HRC.out HSF.out.res _ _ _⟩⟩


end Go.Proofs.YtcmjohaohdgnjaaDoor
