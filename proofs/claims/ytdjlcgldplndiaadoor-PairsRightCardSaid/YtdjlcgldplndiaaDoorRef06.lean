/- abecedaryref06: Put, Norm, Merge. -/
import Derived.Test.YtdjlcgldplndiaaDoorMergeP
import Derived.Test.YtdjlcgldplndiaaDoorAheadP
namespace Go.Proofs.YtdjlcgldplndiaaDoor
open Go.RowKit

/-- A list of pairs that the program is building: all since w0. -/
structure PNx (w0 w : World) (v : Value) (q : Nat) (N : List PRow) : Prop where
  own : w.ownsRow 0 29 2 v q (pCells N)
  len : N.length = q
  touch : Touch (fun _ => False) w0 w
  fresh : ∀ g, v.ownBlock = some g → w0.heap.size ≤ g

theorem PNx.to {w0 w w2 : World} {v : Value} {q : Nat} {N : List PRow} (h : PNx w0 w v q N) (t : Touch (fun _ => False) w w2) : PNx w0 w2 v q N :=
  ⟨own_touch h.own t (fun _ _ f => f), h.len, h.touch.then t, h.fresh⟩

theorem PNx.app {w0 w1 w3 : World} {v v' : Value} {q : Nat} {N : List PRow} {m : PRow} (h : PNx w0 w1 v q N) (ho : w3.ownsRow 0 29 2 v' (q + 1) (pCells N ++ m.cells)) (hg : w1.grownBy w3 v.ownBlock) (hf : Fresh w1 v v') : PNx w0 w3 v' (q + 1) (N ++ [m]) := by
  refine ⟨by rw [pCells_app]; simpa [pCells] using ho, by simp [h.len], h.touch.app hg (fun g hg hlt => by have := h.fresh g hg; omega), ?_⟩
  intro g hg
  rcases hf with e | ⟨g', e, hg'⟩
  · rw [e] at hg; exact h.fresh g hg
  · rw [hg] at e
    injection e with e
    have := h.touch.size
    omega

def PRow.Wf (p : PRow) : Prop := p.word.size ≤ 9223372036854775807

/-- What Put makes of what is left. -/
def putF (p : PRow) : Bool → List PRow → List PRow
  | done, [] => if done = true then [] else [p]
  | true, x :: l => if x.word.toList = p.word.toList then putF p true l else x :: putF p true l
  | false, x :: l => if plt x p = true then x :: putF p false l else p :: (if x.word.toList = p.word.toList then putF p true l else x :: putF p true l)

theorem putF_true (p : PRow) (l : List PRow) : putF p true l = l.filter (fun x => decide (¬ x.word.toList = p.word.toList)) := by
  induction l with
  | nil => rfl
  | cons x l ih =>
    unfold putF
    by_cases h : x.word.toList = p.word.toList
    · rw [if_pos h, ih]; simp [h]
    · rw [if_neg h, ih]; simp [h]

theorem putF_false (p x : PRow) (l : List PRow) (h : ¬ plt x p = true) : putF p false (x :: l) = p :: (x :: l).filter (fun x => decide (¬ x.word.toList = p.word.toList)) := by
  rw [← putF_true]
  unfold putF
  rw [if_neg h]

def Strict (l : List PRow) : Prop := l.Pairwise (fun a b => plt a b = true)

theorem putF_mem (p : PRow) (l : List PRow) : ∀ y ∈ putF p false l, y = p ∨ y ∈ l := by
  induction l with
  | nil => intro y hy; simp [putF] at hy; exact .inl hy
  | cons x l ih =>
    intro y hy
    by_cases h : plt x p = true
    · unfold putF at hy
      rw [if_pos h] at hy
      rcases List.mem_cons.1 hy with e | e
      · exact .inr (by simp [e])
      · rcases ih y e with e | e
        · exact .inl e
        · exact .inr (by simp [e])
    · rw [putF_false p x l h] at hy
      rcases List.mem_cons.1 hy with e | e
      · exact .inl e
      · exact .inr (List.mem_filter.1 e).1

theorem putF_ok (p : PRow) (l : List PRow) (hs : Strict l) : Strict (putF p false l) ∧ ∀ k, key k (putF p false l) = if p.word.toList = k then [p] else key k l := by
  induction l with
  | nil =>
    refine ⟨by simp [putF, Strict], fun k => ?_⟩
    by_cases hk : p.word.toList = k
    · simp [putF, key, hk]
    · simp [putF, key, hk]
  | cons x l ih =>
    obtain ⟨h1, h2⟩ := List.pairwise_cons.1 hs
    obtain ⟨i1, i2⟩ := ih h2
    by_cases h : plt x p = true
    · have e : putF p false (x :: l) = x :: putF p false l := by rw [putF, if_pos h]
      rw [e]
      refine ⟨List.pairwise_cons.2 ⟨fun y hy => ?_, i1⟩, fun k => ?_⟩
      · rcases putF_mem p l y hy with e | e
        · rw [e]; exact h
        · exact h1 y e
      · have hi := i2 k
        by_cases hk : x.word.toList = k
        · have hp : ¬ p.word.toList = k := fun e => plt_ne h (hk.trans e.symm)
          rw [if_neg hp] at hi ⊢
          have e3 : key k (x :: putF p false l) = x :: key k (putF p false l) := by simp [key, hk]
          have e4 : key k (x :: l) = x :: key k l := by simp [key, hk]
          rw [e3, e4, hi]
        · have e3 : key k (x :: putF p false l) = key k (putF p false l) := by simp [key, hk]
          have e4 : key k (x :: l) = key k l := by simp [key, hk]
          rw [e3, e4, hi]
    · rw [putF_false p x l h]
      have hpx : ple p x := by simpa [ple] using h
      have hpl : ∀ y ∈ x :: l, ple p y := by
        intro y hy
        rcases List.mem_cons.1 hy with e | e
        · rw [e]; exact hpx
        · exact ple_trans hpx (ple_of_plt (h1 y e))
      refine ⟨List.pairwise_cons.2 ⟨fun y hy => ?_, hs.sublist List.filter_sublist⟩, fun k => ?_⟩
      · obtain ⟨y1, y2⟩ := List.mem_filter.1 hy
        have y2 := of_decide_eq_true y2
        rcases plt_total (a := p) (b := y) (fun e => y2 e.symm) with e | e
        · exact e
        · have := hpl y y1
          unfold ple at this
          rw [e] at this
          cases this
      · by_cases hk : p.word.toList = k
        · rw [if_pos hk]
          have e3 : key k (p :: (x :: l).filter (fun x => decide (¬ x.word.toList = p.word.toList))) = p :: key k ((x :: l).filter (fun x => decide (¬ x.word.toList = p.word.toList))) := by simp [key, hk]
          have e4 : key k ((x :: l).filter (fun x => decide (¬ x.word.toList = p.word.toList))) = [] := by
            unfold key
            rw [List.filter_eq_nil_iff]
            intro y hy e
            have y2 := of_decide_eq_true (List.mem_filter.1 hy).2
            exact y2 ((of_decide_eq_true e).trans hk.symm)
          rw [e3, e4]
        · rw [if_neg hk]
          have e3 : key k (p :: (x :: l).filter (fun x => decide (¬ x.word.toList = p.word.toList))) = key k ((x :: l).filter (fun x => decide (¬ x.word.toList = p.word.toList))) := by simp [key, hk]
          rw [e3]
          unfold key
          rw [List.filter_filter]
          congr 1
          funext y
          by_cases hy : y.word.toList = k
          · have : ¬ y.word.toList = p.word.toList := fun e => hk (e.symm.trans hy)
            have hkp : ¬ k = p.word.toList := fun e => hk e.symm
            simp [hy, hkp]
          · simp [hy]

set_option maxRecDepth 100000 in
set_option maxHeartbeats 2000000 in
theorem put_any (w : World) (A : Option Addr) (n c : Nat) (L : List PRow) (hL : L.length = n) (hR : Reads w 2 A n (pCells L)) (hn : n ≤ 5864062014700) (hW : ∀ r ∈ L, r.Wf) (p : PRow) (hp : p.Wf) :
    Calls Tryd.prog 30 #[.slice A n c, p.val] w fun e w' => ∃ A' q c', e = .returned (.slice A' q c') ∧ PNx w w' (.slice A' q c') q (putF p false L) ∧ q ≤ n + 1 := by
  obtain ⟨i0, hi, hz0, hz1, hz2⟩ := info_parts infoPair
  obtain ⟨w0, hw0⟩ : ∃ x, x = w.alloc (.cells #[.string p.word, .int .i64 p.weight] 29) := ⟨_, rfl⟩
  obtain ⟨b3, hb3⟩ : ∃ x, x = w.heap.size := ⟨_, rfl⟩
  have t0 : Touch (fun _ => False) w w0 := by rw [hw0]; exact (Touch.refl _ _).alloc _
  have k0 : Blk w0 b3 29 #[.string p.word, .int .i64 p.weight] := by rw [hw0, hb3]; exact Blk.new _ _ _
  have HR := hide (hR.touch t0 (fun _ _ f => f))
  have HL := hide hL
  have HW := hide hW
  have HWP := hide hp
  have HT0 := hide t0
  have HB3 := hide k0
  have HW0 := hide hw0
  have HB := hide hb3
  obtain ⟨pw, pn⟩ := p
  clear hR hL hW hp t0 k0 hw0 hb3
  rw [pval_eq]
  simp only at HB3 HW0
  go_enter Tryd.func30, Tryd.ntmps30
  go_wp2_with fail
  rw [← HW0.out, ← HB.out]
  go_loopw [5, 6, 7] (fun ov dv iv wr => ∃ (i q : Nat) (done : Bool) (A5 : Option Addr) (c5 : Nat), iv = .int .i64 i ∧ ov = .slice A5 q c5 ∧ dv = .bool done ∧ i ≤ n ∧ q ≤ i + done.toNat ∧ Hid (Touch (fun _ => False) w0 wr) ∧ Hid (∃ O, PNx w0 wr (.slice A5 q c5) q O ∧ O ++ putF ⟨pw, pn⟩ done (L.drop i) = putF ⟨pw, pn⟩ false L)) (fun _ _ iv _ => n - (intOf iv).toNat)
  case atStart => exact ⟨0, 0, false, none, 0, rfl, rfl, rfl, Nat.zero_le _, Nat.zero_le _, hide (Touch.refl _ _), hide ⟨[], ⟨World.ownsRow_nil _ _ _ _, rfl, Touch.refl _ _, fun g e => by simp [Value.ownBlock] at e⟩, rfl⟩⟩
  case round =>
    obtain ⟨i, q, done, A5, c5, rfl, rfl, rfl, hin', hqi, HT, HPU⟩ := hrel
    by_cases hin : i < n
    · have y0 : (i : Int) < (n : Int) := by omega
      have hdr : L.drop i = L.getD i PRow.zero :: L.drop (i + 1) := by
        have hl : i < L.length := by rw [HL.out]; exact hin
        have e2 : L.getD i PRow.zero = L[i] := by simp [List.getD, hl]
        rw [e2]; exact List.drop_eq_getElem_cons hl
      obtain ⟨gl, ol, hAl, _, l0, l1⟩ := preads_at (HR.out.touch HT.out (fun _ _ f => f)) HL.out.symm i hin
      subst hAl
      have hwx : (L.getD i PRow.zero).Wf := HW.out _ (by
        have hl : i < L.length := by rw [HL.out]; exact hin
        have e2 : L.getD i PRow.zero = L[i] := by simp [List.getD, hl]
        rw [e2]; exact List.getElem_mem _)
      obtain ⟨⟨xw, xn⟩, hx⟩ : ∃ x, x = L.getD i PRow.zero := ⟨_, rfl⟩
      rw [← hx] at l0 l1 hdr hwx
      simp only at l0 l1
      have HX := hide hx
      have HWX := hide hwx
      have hb3 := HB3.out.touch HT.out (fun f => f)
      obtain ⟨b0, b1⟩ : _ ∧ _ := ⟨hb3.cell 0, hb3.cell 1⟩
      simp at b0 b1
      have hpu := HPU.out
      obtain ⟨O, hN, hpu⟩ := hpu
      rw [hdr] at hpu
      have HNO := hide hN
      have HPO := hide hpu
      obtain ⟨A5', c5', e5, _, hm5⟩ := own_len hN.own
      injection e5 with e51 e52 e53
      subst e51 e53
      unfold maxLen at hm5
      have hd1 : done.toNat ≤ 1 := by cases done <;> decide
      have hq62 : q ≤ 5864062014710 := by omega
      clear hx hdr hwx hb3 hpu hN HPU e52
      cases done with
      | true =>
        go_wp2_with fail
        go_quiet (fail)
        obtain ⟨w1, hw1⟩ : ∃ x, x = wr.drewN nq := ⟨_, rfl⟩
        have HN1 := hide (HNO.out.to (show Touch (fun _ => False) _ w1 by rw [hw1]; exact (Touch.refl _ _).drewN _))
        rw [← hw1]
        clear hw1
        obtain ⟨gl', ol', hAl, _, l0, l1⟩ := preads_at (HR.out.touch HN1.out.touch (fun _ _ f => f)) HL.out.symm i hin
        injection hAl with hAl
        injection hAl with hA1 hA2
        subst hA1 hA2
        rw [← HX.out] at l0 l1
        simp only at l0 l1
        have hb3 := HB3.out.touch HN1.out.touch (fun f => f)
        obtain ⟨b0, b1⟩ : _ ∧ _ := ⟨hb3.cell 0, hb3.cell 1⟩
        simp at b0 b1
        clear hb3
        by_cases q1 : xw.toList = pw.toList
        · have q2 : (xw.toList == pw.toList) = true := by simp [q1]
          go_wp2_with fail
          go_quiet (fail)
          obtain ⟨w2, hw2⟩ : ∃ x, x = w1.drewN nq := ⟨_, rfl⟩
          have HN2 := hide (HN1.out.to (show Touch (fun _ => False) _ w2 by rw [hw2]; exact (Touch.refl _ _).drewN _))
          rw [← hw2]
          clear hw2
          go_wp2_with fail
          go_roundw
          · refine ⟨i + 1, q, true, _, _, by simp, rfl, rfl, by omega, by have e1 : Bool.toNat true = 1 := rfl; have e2 : Bool.toNat false = 0 := rfl; omega, hide HN2.out.touch, hide ⟨O, HN2.out, ?_⟩⟩
            have h := HPO.out
            rw [putF, if_pos q1] at h
            exact h
          · show n - (intOf (.int .i64 ((i : Int) + 1))).toNat < n - (intOf (.int .i64 (i : Int))).toNat
            simp [intOf]
            omega
        · have q2 : (xw.toList == pw.toList) = false := by simp [q1]
          have q3 : decide (xw.toList = pw.toList) = false := by simp [q1]
          have q4 : ¬ xw = pw := fun e => q1 (by rw [e])
          have q5 : decide (xw = pw) = false := by simp [q4]
          go_wp2_with fail
          go_quiet (fail)
          obtain ⟨w2, hw2⟩ : ∃ x, x = w1.drewN nq := ⟨_, rfl⟩
          have HN2 := hide (HN1.out.to (show Touch (fun _ => False) _ w2 by rw [hw2]; exact (Touch.refl _ _).drewN _))
          rw [← hw2]
          clear hw2
          obtain ⟨gl', ol', hAl, _, l0, l1⟩ := preads_at (HR.out.touch HN2.out.touch (fun _ _ f => f)) HL.out.symm i hin
          injection hAl with hAl
          injection hAl with hA1 hA2
          subst hA1 hA2
          rw [← HX.out] at l0 l1
          simp only at l0 l1
          have hb3 := HB3.out.touch HN2.out.touch (fun f => f)
          obtain ⟨b0, b1⟩ : _ ∧ _ := ⟨hb3.cell 0, hb3.cell 1⟩
          simp at b0 b1
          clear hb3
          go_wp2_with (at_builtin; refine wpList_app _ rfl (.tmp 39) (.tmp 44) 22 rfl 29 i0 _ 2 24 Tryd.underlying22 hi hz0 hz1 hz2 rfl (by decide) (.slice A5 q c5) q _ rfl (own_touch HN2.out.own ((Touch.refl _ _).alloc _) (fun _ _ f => f)) (some ⟨_, 0, none⟩) 1 1 (PRow.cells ⟨xw, xn⟩) rfl ?s1a ?s1b ?s1c ?s1d ?s1e ?_)
          case s1a => exact Reads.new _ _ _ _ rfl
          try (case s1b => exact fun h => by cases h)
          case s1c => exact List.all_eq_true.1 rfl
          case s1d => unfold maxLen; omega
          case s1e => omega
          intro v3 w3 hown hgrow hfr _
          have N3 := (HN2.out.to ((Touch.refl _ _).alloc _)).app hown hgrow hfr
          obtain ⟨A3, c3, rfl, _, hm3⟩ := own_len hown
          unfold maxLen at hm3
          have HN3 := hide N3
          clear N3 hown hgrow hfr
          go_wp2_with fail
          go_roundw
          · refine ⟨i + 1, q + 1, true, _, _, by simp, rfl, rfl, by omega, by have e1 : Bool.toNat true = 1 := rfl; have e2 : Bool.toNat false = 0 := rfl; omega, hide HN3.out.touch, hide ⟨O ++ [⟨xw, xn⟩], HN3.out, ?_⟩⟩
            have h := HPO.out
            rw [putF, if_neg q1] at h
            rw [← h, List.append_assoc]; rfl
          · show n - (intOf (.int .i64 ((i : Int) + 1))).toNat < n - (intOf (.int .i64 (i : Int))).toNat
            simp [intOf]
            omega
      | false =>
        cases hb : plt ⟨xw, xn⟩ ⟨pw, pn⟩ with
        | true =>
          have q1 : ¬ xw.toList = pw.toList := plt_ne hb
          have q2 : (xw.toList == pw.toList) = false := by simp [q1]
          have q3 : decide (xw.toList = pw.toList) = false := by simp [q1]
          have q4 : ¬ xw = pw := fun e => q1 (by rw [e])
          have q5 : decide (xw = pw) = false := by simp [q4]
          have HPB := hide hb
          clear hb
          go_wp2_with fail
          go_still_tail 10, (by kernel_rfl)
          change wpList _ _ _ _ _ wr.drew
          have HD : Hid (Touch (fun _ => False) wr wr.drew) := hide (Touch.refl _ _).drew
          generalize wr.drew = wd at HD ⊢
          go_wp2_with fail
          refine (ahead_any xw pw HWX.out HWP.out wd).mono ?_
          rw [show Op.bytesLess xw.toList pw.toList = true from HPB.out]
          rintro e w1 ⟨rfl, T1⟩
          have HN1 := hide (HNO.out.to (HD.out.then T1))
          clear T1
          obtain ⟨gl', ol', hAl, _, l0, l1⟩ := preads_at (HR.out.touch HN1.out.touch (fun _ _ f => f)) HL.out.symm i hin
          injection hAl with hAl
          injection hAl with hA1 hA2
          subst hA1 hA2
          rw [← HX.out] at l0 l1
          simp only at l0 l1
          have hb3 := HB3.out.touch HN1.out.touch (fun f => f)
          obtain ⟨b0, b1⟩ : _ ∧ _ := ⟨hb3.cell 0, hb3.cell 1⟩
          simp at b0 b1
          clear hb3
          go_wp2_with fail
          go_quiet (fail)
          obtain ⟨w2, hw2⟩ : ∃ x, x = w1.drewN nq := ⟨_, rfl⟩
          have HN2 := hide (HN1.out.to (show Touch (fun _ => False) _ w2 by rw [hw2]; exact (Touch.refl _ _).drewN _))
          rw [← hw2]
          clear hw2
          obtain ⟨gl', ol', hAl, _, l0, l1⟩ := preads_at (HR.out.touch HN2.out.touch (fun _ _ f => f)) HL.out.symm i hin
          injection hAl with hAl
          injection hAl with hA1 hA2
          subst hA1 hA2
          rw [← HX.out] at l0 l1
          simp only at l0 l1
          have hb3 := HB3.out.touch HN2.out.touch (fun f => f)
          obtain ⟨b0, b1⟩ : _ ∧ _ := ⟨hb3.cell 0, hb3.cell 1⟩
          simp at b0 b1
          clear hb3
          go_wp2_with (at_builtin; refine wpList_app _ rfl (.tmp 39) (.tmp 44) 22 rfl 29 i0 _ 2 24 Tryd.underlying22 hi hz0 hz1 hz2 rfl (by decide) (.slice A5 q c5) q _ rfl (own_touch HN2.out.own ((Touch.refl _ _).alloc _) (fun _ _ f => f)) (some ⟨_, 0, none⟩) 1 1 (PRow.cells ⟨xw, xn⟩) rfl ?s2a ?s2b ?s2c ?s2d ?s2e ?_)
          case s2a => exact Reads.new _ _ _ _ rfl
          try (case s2b => exact fun h => by cases h)
          case s2c => exact List.all_eq_true.1 rfl
          case s2d => unfold maxLen; omega
          case s2e => omega
          intro v3 w3 hown hgrow hfr _
          have N3 := (HN2.out.to ((Touch.refl _ _).alloc _)).app hown hgrow hfr
          obtain ⟨A3, c3, rfl, _, hm3⟩ := own_len hown
          unfold maxLen at hm3
          have HN3 := hide N3
          clear N3 hown hgrow hfr
          go_wp2_with fail
          go_roundw
          · refine ⟨i + 1, q + 1, false, _, _, by simp, rfl, rfl, by omega, by have e1 : Bool.toNat true = 1 := rfl; have e2 : Bool.toNat false = 0 := rfl; omega, hide HN3.out.touch, hide ⟨O ++ [⟨xw, xn⟩], HN3.out, ?_⟩⟩
            have h := HPO.out
            rw [putF, if_pos HPB.out] at h
            rw [← h, List.append_assoc]; rfl
          · show n - (intOf (.int .i64 ((i : Int) + 1))).toNat < n - (intOf (.int .i64 (i : Int))).toNat
            simp [intOf]
            omega
        | false =>
          have HPB := hide hb
          clear hb
          go_wp2_with fail
          go_still_tail 10, (by kernel_rfl)
          change wpList _ _ _ _ _ wr.drew
          have HD : Hid (Touch (fun _ => False) wr wr.drew) := hide (Touch.refl _ _).drew
          generalize wr.drew = wd at HD ⊢
          go_wp2_with fail
          refine (ahead_any xw pw HWX.out HWP.out wd).mono ?_
          rw [show Op.bytesLess xw.toList pw.toList = false from HPB.out]
          rintro e w1 ⟨rfl, T1⟩
          have HN1 := hide (HNO.out.to (HD.out.then T1))
          clear T1
          obtain ⟨gl', ol', hAl, _, l0, l1⟩ := preads_at (HR.out.touch HN1.out.touch (fun _ _ f => f)) HL.out.symm i hin
          injection hAl with hAl
          injection hAl with hA1 hA2
          subst hA1 hA2
          rw [← HX.out] at l0 l1
          simp only at l0 l1
          have hb3 := HB3.out.touch HN1.out.touch (fun f => f)
          obtain ⟨b0, b1⟩ : _ ∧ _ := ⟨hb3.cell 0, hb3.cell 1⟩
          simp at b0 b1
          clear hb3
          go_wp2_with (at_builtin; refine wpList_app _ rfl (.tmp 27) (.tmp 29) 22 rfl 29 i0 _ 2 24 Tryd.underlying22 hi hz0 hz1 hz2 rfl (by decide) (.slice A5 q c5) q _ rfl (own_touch HN1.out.own ((Touch.refl _ _).alloc _) (fun _ _ f => f)) (some ⟨_, 0, none⟩) 1 1 (PRow.cells ⟨pw, pn⟩) rfl ?s3a ?s3b ?s3c ?s3d ?s3e ?_)
          case s3a => exact Reads.new _ _ _ _ rfl
          try (case s3b => exact fun h => by cases h)
          case s3c => exact List.all_eq_true.1 rfl
          case s3d => unfold maxLen; omega
          case s3e => omega
          intro v2 w2 hown hgrow hfr _
          have N2 := (HN1.out.to ((Touch.refl _ _).alloc _)).app hown hgrow hfr
          obtain ⟨A2, c2, rfl, _, hm2⟩ := own_len hown
          unfold maxLen at hm2
          have HN2 := hide N2
          clear N2 hown hgrow hfr
          obtain ⟨gl', ol', hAl, _, l0, l1⟩ := preads_at (HR.out.touch HN2.out.touch (fun _ _ f => f)) HL.out.symm i hin
          injection hAl with hAl
          injection hAl with hA1 hA2
          subst hA1 hA2
          rw [← HX.out] at l0 l1
          simp only at l0 l1
          have hb3 := HB3.out.touch HN2.out.touch (fun f => f)
          obtain ⟨b0, b1⟩ : _ ∧ _ := ⟨hb3.cell 0, hb3.cell 1⟩
          simp at b0 b1
          clear hb3
          by_cases q1 : xw.toList = pw.toList
          · have q2 : (xw.toList == pw.toList) = true := by simp [q1]
            go_wp2_with fail
            go_quiet (fail)
            obtain ⟨w3, hw3⟩ : ∃ x, x = w2.drewN nq := ⟨_, rfl⟩
            have HN3 := hide (HN2.out.to (show Touch (fun _ => False) _ w3 by rw [hw3]; exact (Touch.refl _ _).drewN _))
            rw [← hw3]
            clear hw3
            go_wp2_with fail
            go_roundw
            · refine ⟨i + 1, q + 1, true, _, _, by simp, rfl, rfl, by omega, by have e1 : Bool.toNat true = 1 := rfl; have e2 : Bool.toNat false = 0 := rfl; omega, hide HN3.out.touch, hide ⟨O ++ [⟨pw, pn⟩], HN3.out, ?_⟩⟩
              have h := HPO.out
              rw [putF, if_neg (by rw [HPB.out]; decide), if_pos q1] at h
              rw [← h, List.append_assoc]; rfl
            · show n - (intOf (.int .i64 ((i : Int) + 1))).toNat < n - (intOf (.int .i64 (i : Int))).toNat
              simp [intOf]
              omega
          · have q2 : (xw.toList == pw.toList) = false := by simp [q1]
            have q3 : decide (xw.toList = pw.toList) = false := by simp [q1]
            have q4 : ¬ xw = pw := fun e => q1 (by rw [e])
            have q5 : decide (xw = pw) = false := by simp [q4]
            go_wp2_with fail
            go_quiet (fail)
            obtain ⟨w3, hw3⟩ : ∃ x, x = w2.drewN nq := ⟨_, rfl⟩
            have HN3 := hide (HN2.out.to (show Touch (fun _ => False) _ w3 by rw [hw3]; exact (Touch.refl _ _).drewN _))
            rw [← hw3]
            clear hw3
            obtain ⟨gl', ol', hAl, _, l0, l1⟩ := preads_at (HR.out.touch HN3.out.touch (fun _ _ f => f)) HL.out.symm i hin
            injection hAl with hAl
            injection hAl with hA1 hA2
            subst hA1 hA2
            rw [← HX.out] at l0 l1
            simp only at l0 l1
            have hb3 := HB3.out.touch HN3.out.touch (fun f => f)
            obtain ⟨b0, b1⟩ : _ ∧ _ := ⟨hb3.cell 0, hb3.cell 1⟩
            simp at b0 b1
            clear hb3
            go_wp2_with (at_builtin; refine wpList_app _ rfl (.tmp 39) (.tmp 44) 22 rfl 29 i0 _ 2 24 Tryd.underlying22 hi hz0 hz1 hz2 rfl (by decide) (.slice A2 (q + 1) c2) (q + 1) _ rfl (own_touch HN3.out.own ((Touch.refl _ _).alloc _) (fun _ _ f => f)) (some ⟨_, 0, none⟩) 1 1 (PRow.cells ⟨xw, xn⟩) rfl ?s4a ?s4b ?s4c ?s4d ?s4e ?_)
            case s4a => exact Reads.new _ _ _ _ rfl
            try (case s4b => exact fun h => by cases h)
            case s4c => exact List.all_eq_true.1 rfl
            case s4d => unfold maxLen; omega
            case s4e => omega
            intro v4 w4 hown hgrow hfr _
            have N4 := (HN3.out.to ((Touch.refl _ _).alloc _)).app hown hgrow hfr
            obtain ⟨A4, c4, rfl, _, hm4⟩ := own_len hown
            unfold maxLen at hm4
            have HN4 := hide N4
            clear N4 hown hgrow hfr
            go_wp2_with fail
            go_roundw
            · refine ⟨i + 1, q + 1 + 1, true, _, _, by simp, rfl, rfl, by omega, by have e1 : Bool.toNat true = 1 := rfl; have e2 : Bool.toNat false = 0 := rfl; omega, hide HN4.out.touch, hide ⟨(O ++ [⟨pw, pn⟩]) ++ [⟨xw, xn⟩], HN4.out, ?_⟩⟩
              have h := HPO.out
              rw [putF, if_neg (by rw [HPB.out]; decide), if_neg q1] at h
              rw [← h]
              simp
            · show n - (intOf (.int .i64 ((i : Int) + 1))).toNat < n - (intOf (.int .i64 (i : Int))).toNat
              simp [intOf]
              omega
    · have hdr : L.drop i = [] := List.drop_of_length_le (by rw [HL.out]; omega)
      have hpu := HPU.out
      obtain ⟨O, hN, hpu⟩ := hpu
      rw [hdr] at hpu
      have HNO := hide hN
      have HPO := hide hpu
      obtain ⟨A5', c5', e5, _, hm5⟩ := own_len hN.own
      injection e5 with e51 e52 e53
      subst e51 e53
      unfold maxLen at hm5
      have hd1 : done.toNat ≤ 1 := by cases done <;> decide
      have hq62 : q ≤ n + 1 := by omega
      have hb3 := HB3.out.touch HT.out (fun f => f)
      obtain ⟨b0, b1⟩ : _ ∧ _ := ⟨hb3.cell 0, hb3.cell 1⟩
      simp at b0 b1
      have HQI := hide hqi
      clear hb3 hpu hN HPU e52 hdr hqi
      cases done with
      | true =>
        go_wp2_with fail
        go_ret
        have h := HPO.out
        simp [putF] at h
        refine ⟨A5, q, c5, rfl, ?_, hq62⟩
        rw [← h]
        exact ⟨HNO.out.own, HNO.out.len, HT0.out.then HT.out, fun g hg => by have h1 := HNO.out.fresh g hg; have h2 := HT0.out.size; omega⟩
      | false =>
        go_wp2_with (at_builtin; refine wpList_app _ rfl (.tmp 48) (.tmp 50) 22 rfl 29 i0 _ 2 24 Tryd.underlying22 hi hz0 hz1 hz2 rfl (by decide) (.slice A5 q c5) q _ rfl (own_touch HNO.out.own ((Touch.refl _ _).alloc _) (fun _ _ f => f)) (some ⟨_, 0, none⟩) 1 1 (PRow.cells ⟨pw, pn⟩) rfl ?s5a ?s5b ?s5c ?s5d ?s5e ?_)
        case s5a => exact Reads.new _ _ _ _ rfl
        try (case s5b => exact fun h => by cases h)
        case s5c => exact List.all_eq_true.1 rfl
        case s5d => unfold maxLen; omega
        case s5e => omega
        intro v2 w2 hown hgrow hfr _
        have N2 := (HNO.out.to ((Touch.refl _ _).alloc _)).app hown hgrow hfr
        obtain ⟨A2, c2, rfl, _, hm2⟩ := own_len hown
        unfold maxLen at hm2
        have HN2 := hide N2
        clear N2 hown hgrow hfr
        go_wp2_with fail
        go_ret
        have h := HPO.out
        simp [putF] at h
        refine ⟨A2, q + 1, c2, rfl, ?_, by have := HQI.out; simp at this; omega⟩
        rw [← h]
        exact ⟨HN2.out.own, HN2.out.len, HT0.out.then HN2.out.touch, fun g hg => by have h1 := HN2.out.fresh g hg; have h2 := HT0.out.size; omega⟩

end Go.Proofs.YtdjlcgldplndiaaDoor
