/- abecedaryref12.put; sorted lists of matches. Conditions: no more than 2^40 matches, no text beyond the model's bound. abecedaryref12.Merge. Conditions: no more than 2^42 matches and changes, no text beyond 2^40 bytes. fuzzy.Merge. Conditions: no more than 2^42 matches and changes, no text beyond 2^40 bytes; the laid variable. FuzzyMerges: the walk. Conditions: the arguments can be read; no more than 2^42 matches and changes, no change's text beyond 2^40 bytes. -/
import Derived.Test.YtfaoifggkfmokaaDoorMso
import Derived.Test.YtfaoifggkfmokaaDoorNrm
import Derived.Test.YtfaoifggkfmokaaDoorLevB
import Derived.Test.YtfaoifggkfmokaaDoorBack
import Derived.Test.YtfaoifggkfmokaaDoorEdits
import Derived.Test.YtfaoifggkfmokaaDoorWFAllW
namespace Go.Proofs.YtfaoifggkfmokaaDoor
open Go.RowKit

/-- A list of matches that the program is building: all since w0. -/
structure MNx (w0 w : World) (v : Value) (q : Nat) (N : List MRow) : Prop where
  own : w.ownsRow 0 35 3 v q (mCells N)
  len : N.length = q
  touch : Touch (fun _ => False) w0 w
  fresh : ∀ g, v.ownBlock = some g → w0.heap.size ≤ g

theorem mrows_app (X Y : List MRow) : mCells (X ++ Y) = mCells X ++ mCells Y := by simp [mCells]

theorem MNx.nil (w : World) : MNx w w (.slice none 0 0) 0 [] := ⟨World.ownsRow_nil _ _ _ _, rfl, Touch.refl _ _, fun g e => by simp [Value.ownBlock] at e⟩
theorem MNx.to {w0 w w2 : World} {v : Value} {q : Nat} {N : List MRow} (h : MNx w0 w v q N) (t : Touch (fun _ => False) w w2) : MNx w0 w2 v q N :=
  ⟨own_touch h.own t (fun _ _ f => f), h.len, h.touch.then t, h.fresh⟩
theorem MNx.from {w0 w1 w : World} {v : Value} {q : Nat} {N : List MRow} (h : MNx w1 w v q N) (t : Touch (fun _ => False) w0 w1) : MNx w0 w v q N :=
  ⟨h.own, h.len, t.then h.touch, fun g hg => by have h1 := h.fresh g hg; have h2 := t.size; omega⟩

theorem MNx.app {w0 w1 w3 : World} {v v' : Value} {q : Nat} {N : List MRow} {m : MRow} (h : MNx w0 w1 v q N) (ho : w3.ownsRow 0 35 3 v' (q + 1) (mCells N ++ m.cells)) (hg : w1.grownBy w3 v.ownBlock) (hf : Fresh w1 v v') : MNx w0 w3 v' (q + 1) (N ++ [m]) := by
  refine ⟨by rw [mrows_app]; simpa [mCells] using ho, by simp [h.len], h.touch.app hg (fun g hg hlt => by have := h.fresh g hg; omega), ?_⟩
  intro g hg
  rcases hf with e | ⟨g', e, hg'⟩
  · rw [e] at hg; exact h.fresh g hg
  · rw [hg] at e
    injection e with e
    have := h.touch.size
    omega

def MRow.Wf (p : MRow) : Prop := p.word.size ≤ 9223372036854775807

/-- A match's three cells in a slice that reads. -/
theorem mreads_at {w : World} {A : Option Addr} {n : Nat} {X : List MRow} (h : Reads w 3 A n (mCells X)) (hn : n = X.length) (k : Nat) (hk : k < n) :
    ∃ g off, A = some ⟨g, off, none⟩ ∧ g < w.heap.size ∧ w.cell? ⟨g, off + k * 3, none⟩ = some (.string (X.getD k MRow.zero).word) ∧ w.cell? ⟨g, off + k * 3 + 1, none⟩ = some (.int .i64 (X.getD k MRow.zero).weight) ∧
      w.cell? ⟨g, off + k * 3 + 2, none⟩ = some (.int .i64 (X.getD k MRow.zero).dist) := by
  subst hn
  obtain ⟨b, off, hA, hb, hc⟩ := h.2 (by omega)
  refine ⟨b, off, hA, hb, ?_, ?_, ?_⟩
  · exact hc (k * 3) _ (mrows_at X k hk 0 (by omega))
  · rw [Nat.add_assoc]; exact hc (k * 3 + 1) _ (mrows_at X k hk 1 (by omega))
  · rw [Nat.add_assoc]; exact hc (k * 3 + 2) _ (mrows_at X k hk 2 (by omega))

/-! ### one more, behind those of the same word -/
def insM (p : MRow) : List MRow → List MRow
  | [] => [p]
  | x :: l => if m_plt p x = true then p :: x :: l else x :: insM p l
def insD (p : MRow) (done : Bool) (l : List MRow) : List MRow := if done = true then l else insM p l

theorem insM_mem (p : MRow) (l : List MRow) : ∀ y ∈ insM p l, y = p ∨ y ∈ l := by
  induction l with
  | nil => intro y hy; simp [insM] at hy; exact .inl hy
  | cons x l ih =>
    intro y hy
    unfold insM at hy
    by_cases h : m_plt p x = true
    · rw [if_pos h] at hy
      exact List.mem_cons.1 hy
    · rw [if_neg h] at hy
      rcases List.mem_cons.1 hy with e | e
      · exact .inr (by simp [e])
      · rcases ih y e with e | e
        · exact .inl e
        · exact .inr (by simp [e])
theorem insM_len (p : MRow) (l : List MRow) : (insM p l).length = l.length + 1 := by
  induction l with
  | nil => rfl
  | cons x l ih =>
    unfold insM
    split
    · rfl
    · simp [ih]
theorem insM_ok (p : MRow) (l : List MRow) (hs : m_SrtP l) : m_SrtP (insM p l) ∧ m_SameK (l ++ [p]) (insM p l) := by
  induction l with
  | nil => exact ⟨by simp [insM, m_SrtP], m_SameK.refl _⟩
  | cons x l ih =>
    obtain ⟨h1, h2⟩ := List.pairwise_cons.1 hs
    obtain ⟨i1, i2⟩ := ih h2
    by_cases h : m_plt p x = true
    · have e : insM p (x :: l) = p :: x :: l := by rw [insM, if_pos h]
      have hp : ∀ y ∈ x :: l, m_plt p y = true := by
        intro y hy
        rcases List.mem_cons.1 hy with rfl | hy
        · exact h
        · exact m_plt_ple h (h1 y hy)
      rw [e]
      refine ⟨List.pairwise_cons.2 ⟨fun y hy => m_ple_of_plt (hp y hy), hs⟩, ?_⟩
      exact m_SameK.swap (A := x :: l) (B := [p]) fun a ha b hb he => by
        have hb' := List.mem_singleton.1 hb
        rw [hb'] at he
        exact m_plt_ne (hp a ha) he.symm
    · have e : insM p (x :: l) = x :: insM p l := by rw [insM, if_neg h]
      have hxp : m_ple x p := by simpa [m_ple] using h
      rw [e]
      refine ⟨List.pairwise_cons.2 ⟨fun y hy => ?_, i1⟩, ?_⟩
      · rcases insM_mem p l y hy with rfl | hy
        · exact hxp
        · exact h1 y hy
      · exact (m_SameK.refl [x]).app i2

theorem m_key_cons (k : List UInt8) (x : MRow) (l : List MRow) : m_key k (x :: l) = if x.word.toList = k then x :: m_key k l else m_key k l := by
  unfold m_key
  by_cases h : x.word.toList = k
  · rw [if_pos h, List.filter_cons_of_pos (by simp [h])]
  · rw [if_neg h, List.filter_cons_of_neg (by simp [h])]
theorem srtM_unique : ∀ {A B : List MRow}, m_SrtP A → m_SrtP B → m_SameK A B → A = B := by
  intro A
  induction A with
  | nil =>
    intro B _ _ h
    cases B with
    | nil => rfl
    | cons b B => exact absurd (h.symm.mem (x := b) (by simp)) (by simp)
  | cons a A ih =>
    intro B hA hB h
    cases B with
    | nil => exact absurd (h.mem (x := a) (by simp)) (by simp)
    | cons b B =>
      obtain ⟨a1, a2⟩ := List.pairwise_cons.1 hA
      obtain ⟨b1, b2⟩ := List.pairwise_cons.1 hB
      have p1 : m_ple a b := by
        rcases List.mem_cons.1 (h.symm.mem (x := b) (by simp)) with e | e
        · rw [e]; exact m_ple_refl _
        · exact a1 b e
      have p2 : m_ple b a := by
        rcases List.mem_cons.1 (h.mem (x := a) (by simp)) with e | e
        · rw [e]; exact m_ple_refl _
        · exact b1 a e
      have hw : a.word.toList = b.word.toList := by
        by_cases e : a.word.toList = b.word.toList
        · exact e
        · rcases m_plt_total e with x | x
          · unfold m_ple at p2
            rw [x] at p2
            cases p2
          · unfold m_ple at p1
            rw [x] at p1
            cases p1
      have hk := h a.word.toList
      rw [m_key_cons, m_key_cons, if_pos rfl, if_pos hw.symm] at hk
      injection hk with hab _
      subst hab
      refine congrArg _ (ih a2 b2 fun k => ?_)
      have hk := h k
      rw [m_key_cons, m_key_cons] at hk
      split at hk
      · injection hk
      · exact hk

set_option maxRecDepth 100000 in
set_option maxHeartbeats 2000000 in
theorem mput_any (w : World) (A : Option Addr) (n c : Nat) (L : List MRow) (hL : L.length = n) (hR : Reads w 3 A n (mCells L)) (hn : n ≤ 4398046511000) (hW : ∀ r ∈ L, r.Wf) (p : MRow) (hp : p.Wf) :
    Calls Tryd.prog 44 #[.slice A n c, mval p] w fun e w' => ∃ A' q c', e = .returned (.slice A' q c') ∧ MNx w w' (.slice A' q c') q (insM p L) := by
  obtain ⟨i0, hi, hz0, hz1, hz2⟩ := info_parts infoMso
  obtain ⟨w0, hw0⟩ : ∃ x, x = w.alloc (.cells #[.string p.word, .int .i64 p.weight, .int .i64 p.dist] 35) := ⟨_, rfl⟩
  obtain ⟨b3, hb3⟩ : ∃ x, x = w.heap.size := ⟨_, rfl⟩
  have t0 : Touch (fun _ => False) w w0 := by rw [hw0]; exact (Touch.refl _ _).alloc _
  have k0 : Blk w0 b3 35 #[.string p.word, .int .i64 p.weight, .int .i64 p.dist] := by rw [hw0, hb3]; exact Blk.new _ _ _
  have HR := hide (hR.touch t0 (fun _ _ f => f))
  have HL := hide hL
  have HW := hide hW
  have HWP := hide hp
  have HT0 := hide t0
  have HB3 := hide k0
  have HW0 := hide hw0
  have HB := hide hb3
  obtain ⟨pw, pn, pd⟩ := p
  clear hR hL hW hp t0 k0 hw0 hb3
  rw [mval_eq]
  simp only at HB3 HW0
  go_enter Tryd.func44, Tryd.ntmps44
  go_wp2_with fail
  rw [← HW0.out, ← HB.out]
  go_loopw [5, 6, 7] (fun ov dv iv wr => ∃ (i q : Nat) (done : Bool) (A5 : Option Addr) (c5 : Nat), iv = .int .i64 i ∧ ov = .slice A5 q c5 ∧ dv = .bool done ∧ i ≤ n ∧ q ≤ i + done.toNat ∧ Hid (Touch (fun _ => False) w0 wr) ∧ Hid (∃ O, MNx w0 wr (.slice A5 q c5) q O ∧ O ++ insD ⟨pw, pn, pd⟩ done (L.drop i) = insM ⟨pw, pn, pd⟩ L)) (fun _ _ iv _ => n - (intOf iv).toNat)
  case atStart => exact ⟨0, 0, false, none, 0, rfl, rfl, rfl, Nat.zero_le _, Nat.zero_le _, hide (Touch.refl _ _), hide ⟨[], MNx.nil _, rfl⟩⟩
  case round =>
    obtain ⟨i, q, done, A5, c5, rfl, rfl, rfl, hin', hqi, HT, HPU⟩ := hrel
    by_cases hin : i < n
    · have y0 : (i : Int) < (n : Int) := by omega
      have hdr : L.drop i = L.getD i MRow.zero :: L.drop (i + 1) := by
        have hl : i < L.length := by rw [HL.out]; exact hin
        have e2 : L.getD i MRow.zero = L[i] := by simp [List.getD, hl]
        rw [e2]; exact List.drop_eq_getElem_cons hl
      obtain ⟨gl, ol, hAl, _, l0, l1, l2⟩ := mreads_at (HR.out.touch HT.out (fun _ _ f => f)) HL.out.symm i hin
      subst hAl
      have hwx : (L.getD i MRow.zero).Wf := HW.out _ (by
        have hl : i < L.length := by rw [HL.out]; exact hin
        have e2 : L.getD i MRow.zero = L[i] := by simp [List.getD, hl]
        rw [e2]; exact List.getElem_mem _)
      obtain ⟨⟨xw, xn, xd⟩, hx⟩ : ∃ x, x = L.getD i MRow.zero := ⟨_, rfl⟩
      rw [← hx] at l0 l1 l2 hdr hwx
      simp only at l0 l1 l2
      have HX := hide hx
      have HWX := hide hwx
      have hb3 := HB3.out.touch HT.out (fun f => f)
      obtain ⟨b0, b1, b2⟩ : _ ∧ _ ∧ _ := ⟨hb3.cell 0, hb3.cell 1, hb3.cell 2⟩
      simp at b0 b1 b2
      have hpu := HPU.out
      obtain ⟨O, hN, hpu⟩ := hpu
      rw [hdr] at hpu
      have HNO := hide hN
      have HPO := hide hpu
      obtain ⟨A5', c5', e5, _, hm5⟩ := own_len hN.own
      injection e5 with e51 e52 e53
      subst e51 e53
      unfold maxLen at hm5
      have hd1 : done.toNat ≤ 1 := by cases done <;> decide
      have hq62 : q ≤ 4398046511010 := by omega
      clear hx hdr hwx hb3 hpu hN HPU e52
      cases done with
      | true =>
        go_wp2_with fail
        go_quiet (fail)
        obtain ⟨w1, hw1⟩ : ∃ x, x = wr.drewN nq := ⟨_, rfl⟩
        have HN1 := hide (HNO.out.to (show Touch (fun _ => False) _ w1 by rw [hw1]; exact (Touch.refl _ _).drewN _))
        rw [← hw1]
        clear hw1
        obtain ⟨gl', ol', hAl, _, l0, l1, l2⟩ := mreads_at (HR.out.touch HN1.out.touch (fun _ _ f => f)) HL.out.symm i hin
        injection hAl with hAl
        injection hAl with hA1 hA2
        subst hA1 hA2
        rw [← HX.out] at l0 l1 l2
        simp only at l0 l1 l2
        have hb3 := HB3.out.touch HN1.out.touch (fun f => f)
        obtain ⟨b0, b1, b2⟩ : _ ∧ _ ∧ _ := ⟨hb3.cell 0, hb3.cell 1, hb3.cell 2⟩
        simp at b0 b1 b2
        clear hb3
        go_wp2_with (at_builtin; refine wpList_app _ rfl (.tmp 30) (.tmp 35) 27 rfl 35 i0 _ 3 32 Tryd.underlying27 hi hz0 hz1 hz2 rfl (by decide) (.slice A5 q c5) q _ rfl (own_touch HN1.out.own ((Touch.refl _ _).alloc _) (fun _ _ f => f)) (some ⟨_, 0, none⟩) 1 1 (MRow.cells ⟨xw, xn, xd⟩) rfl ?s1a ?s1b ?s1c ?s1d ?s1e ?_)
        case s1a => exact Reads.new _ _ _ _ rfl
        try (case s1b => exact fun h => by cases h)
        case s1c => exact List.all_eq_true.1 rfl
        case s1d => unfold maxLen; omega
        case s1e => omega
        intro v2 w2 hown hgrow hfr _
        have N2 := (HN1.out.to ((Touch.refl _ _).alloc _)).app hown hgrow hfr
        obtain ⟨A2, c2, rfl, _, hm2⟩ := own_len hown
        unfold maxLen at hm2
        have HN2 := hide N2
        clear N2 hown hgrow hfr
        go_wp2_with fail
        go_roundw
        · refine ⟨i + 1, q + 1, true, _, _, by simp, rfl, rfl, by omega, by have e1 : Bool.toNat true = 1 := rfl; have e2 : Bool.toNat false = 0 := rfl; omega, hide HN2.out.touch, hide ⟨O ++ [⟨xw, xn, xd⟩], HN2.out, ?_⟩⟩
          have h := HPO.out
          rw [insD, if_pos rfl] at h
          rw [insD, if_pos rfl, ← h]
          simp
        · show n - (intOf (.int .i64 ((i : Int) + 1))).toNat < n - (intOf (.int .i64 (i : Int))).toNat
          simp [intOf]
          omega
      | false =>
        cases hb : m_plt ⟨pw, pn, pd⟩ ⟨xw, xn, xd⟩ with
        | false =>
          have HPB := hide hb
          clear hb
          go_wp2_with fail
          go_still_tail 10, (by kernel_rfl)
          change wpList _ _ _ _ _ wr.drew
          have HD : Hid (Touch (fun _ => False) wr wr.drew) := hide (Touch.refl _ _).drew
          generalize wr.drew = wd at HD ⊢
          go_wp2_with fail
          refine (ahead_any pw xw HWP.out HWX.out wd).mono ?_
          rw [show Op.bytesLess pw.toList xw.toList = false from HPB.out]
          rintro e w1 ⟨rfl, T1⟩
          have HN1 := hide (HNO.out.to (HD.out.then T1))
          clear T1
          obtain ⟨gl', ol', hAl, _, l0, l1, l2⟩ := mreads_at (HR.out.touch HN1.out.touch (fun _ _ f => f)) HL.out.symm i hin
          injection hAl with hAl
          injection hAl with hA1 hA2
          subst hA1 hA2
          rw [← HX.out] at l0 l1 l2
          simp only at l0 l1 l2
          have hb3 := HB3.out.touch HN1.out.touch (fun f => f)
          obtain ⟨b0, b1, b2⟩ : _ ∧ _ ∧ _ := ⟨hb3.cell 0, hb3.cell 1, hb3.cell 2⟩
          simp at b0 b1 b2
          clear hb3
          go_wp2_with (at_builtin; refine wpList_app _ rfl (.tmp 30) (.tmp 35) 27 rfl 35 i0 _ 3 32 Tryd.underlying27 hi hz0 hz1 hz2 rfl (by decide) (.slice A5 q c5) q _ rfl (own_touch HN1.out.own ((Touch.refl _ _).alloc _) (fun _ _ f => f)) (some ⟨_, 0, none⟩) 1 1 (MRow.cells ⟨xw, xn, xd⟩) rfl ?s2a ?s2b ?s2c ?s2d ?s2e ?_)
          case s2a => exact Reads.new _ _ _ _ rfl
          try (case s2b => exact fun h => by cases h)
          case s2c => exact List.all_eq_true.1 rfl
          case s2d => unfold maxLen; omega
          case s2e => omega
          intro v2 w2 hown hgrow hfr _
          have N2 := (HN1.out.to ((Touch.refl _ _).alloc _)).app hown hgrow hfr
          obtain ⟨A2, c2, rfl, _, hm2⟩ := own_len hown
          unfold maxLen at hm2
          have HN2 := hide N2
          clear N2 hown hgrow hfr
          go_wp2_with fail
          go_roundw
          · refine ⟨i + 1, q + 1, false, _, _, by simp, rfl, rfl, by omega, by have e1 : Bool.toNat true = 1 := rfl; have e2 : Bool.toNat false = 0 := rfl; omega, hide HN2.out.touch, hide ⟨O ++ [⟨xw, xn, xd⟩], HN2.out, ?_⟩⟩
            have h := HPO.out
            rw [insD, if_neg (by decide), insM, if_neg (by rw [HPB.out]; decide)] at h
            rw [insD, if_neg (by decide), ← h]
            simp
          · show n - (intOf (.int .i64 ((i : Int) + 1))).toNat < n - (intOf (.int .i64 (i : Int))).toNat
            simp [intOf]
            omega
        | true =>
          have HPB := hide hb
          clear hb
          go_wp2_with fail
          go_still_tail 10, (by kernel_rfl)
          change wpList _ _ _ _ _ wr.drew
          have HD : Hid (Touch (fun _ => False) wr wr.drew) := hide (Touch.refl _ _).drew
          generalize wr.drew = wd at HD ⊢
          go_wp2_with fail
          refine (ahead_any pw xw HWP.out HWX.out wd).mono ?_
          rw [show Op.bytesLess pw.toList xw.toList = true from HPB.out]
          rintro e w1 ⟨rfl, T1⟩
          have HN1 := hide (HNO.out.to (HD.out.then T1))
          clear T1
          obtain ⟨gl', ol', hAl, _, l0, l1, l2⟩ := mreads_at (HR.out.touch HN1.out.touch (fun _ _ f => f)) HL.out.symm i hin
          injection hAl with hAl
          injection hAl with hA1 hA2
          subst hA1 hA2
          rw [← HX.out] at l0 l1 l2
          simp only at l0 l1 l2
          have hb3 := HB3.out.touch HN1.out.touch (fun f => f)
          obtain ⟨b0, b1, b2⟩ : _ ∧ _ ∧ _ := ⟨hb3.cell 0, hb3.cell 1, hb3.cell 2⟩
          simp at b0 b1 b2
          clear hb3
          go_wp2_with (at_builtin; refine wpList_app _ rfl (.tmp 26) (.tmp 28) 27 rfl 35 i0 _ 3 32 Tryd.underlying27 hi hz0 hz1 hz2 rfl (by decide) (.slice A5 q c5) q _ rfl (own_touch HN1.out.own ((Touch.refl _ _).alloc _) (fun _ _ f => f)) (some ⟨_, 0, none⟩) 1 1 (MRow.cells ⟨pw, pn, pd⟩) rfl ?s3a ?s3b ?s3c ?s3d ?s3e ?_)
          case s3a => exact Reads.new _ _ _ _ rfl
          try (case s3b => exact fun h => by cases h)
          case s3c => exact List.all_eq_true.1 rfl
          case s3d => unfold maxLen; omega
          case s3e => omega
          intro v2 w2 hown hgrow hfr _
          have N2 := (HN1.out.to ((Touch.refl _ _).alloc _)).app hown hgrow hfr
          obtain ⟨A2, c2, rfl, _, hm2⟩ := own_len hown
          unfold maxLen at hm2
          have HN2 := hide N2
          clear N2 hown hgrow hfr
          obtain ⟨gl', ol', hAl, _, l0, l1, l2⟩ := mreads_at (HR.out.touch HN2.out.touch (fun _ _ f => f)) HL.out.symm i hin
          injection hAl with hAl
          injection hAl with hA1 hA2
          subst hA1 hA2
          rw [← HX.out] at l0 l1 l2
          simp only at l0 l1 l2
          have hb3 := HB3.out.touch HN2.out.touch (fun f => f)
          obtain ⟨b0, b1, b2⟩ : _ ∧ _ ∧ _ := ⟨hb3.cell 0, hb3.cell 1, hb3.cell 2⟩
          simp at b0 b1 b2
          clear hb3
          go_wp2_with (at_builtin; refine wpList_app _ rfl (.tmp 30) (.tmp 35) 27 rfl 35 i0 _ 3 32 Tryd.underlying27 hi hz0 hz1 hz2 rfl (by decide) (.slice A2 (q + 1) c2) (q + 1) _ rfl (own_touch HN2.out.own ((Touch.refl _ _).alloc _) (fun _ _ f => f)) (some ⟨_, 0, none⟩) 1 1 (MRow.cells ⟨xw, xn, xd⟩) rfl ?s4a ?s4b ?s4c ?s4d ?s4e ?_)
          case s4a => exact Reads.new _ _ _ _ rfl
          try (case s4b => exact fun h => by cases h)
          case s4c => exact List.all_eq_true.1 rfl
          case s4d => unfold maxLen; omega
          case s4e => omega
          intro v4 w4 hown hgrow hfr _
          have N4 := (HN2.out.to ((Touch.refl _ _).alloc _)).app hown hgrow hfr
          obtain ⟨A4, c4, rfl, _, hm4⟩ := own_len hown
          unfold maxLen at hm4
          have HN4 := hide N4
          clear N4 hown hgrow hfr
          go_wp2_with fail
          go_roundw
          · refine ⟨i + 1, q + 1 + 1, true, _, _, by simp, rfl, rfl, by omega, by have e1 : Bool.toNat true = 1 := rfl; have e2 : Bool.toNat false = 0 := rfl; omega, hide HN4.out.touch, hide ⟨(O ++ [⟨pw, pn, pd⟩]) ++ [⟨xw, xn, xd⟩], HN4.out, ?_⟩⟩
            have h := HPO.out
            rw [insD, if_neg (by decide), insM, if_pos HPB.out] at h
            rw [insD, if_pos rfl, ← h]
            simp
          · show n - (intOf (.int .i64 ((i : Int) + 1))).toNat < n - (intOf (.int .i64 (i : Int))).toNat
            simp [intOf]
            omega
    · have hdr : L.drop i = [] := List.drop_of_length_le (by rw [HL.out]; omega)
      have hpu := HPU.out
      obtain ⟨O, hN, hpu⟩ := hpu
      rw [hdr] at hpu
      have HNO := hide hN
      have HPO := hide hpu
      obtain ⟨A5', c5', e5, _, hm5⟩ := own_len hN.own
      injection e5 with e51 e52 e53
      subst e51 e53
      unfold maxLen at hm5
      have hd1 : done.toNat ≤ 1 := by cases done <;> decide
      have hq62 : q ≤ n + 1 := by omega
      have hb3 := HB3.out.touch HT.out (fun f => f)
      obtain ⟨b0, b1, b2⟩ : _ ∧ _ ∧ _ := ⟨hb3.cell 0, hb3.cell 1, hb3.cell 2⟩
      simp at b0 b1 b2
      have HQI := hide hqi
      clear hb3 hpu hN HPU e52 hdr hqi
      cases done with
      | true =>
        go_wp2_with fail
        go_ret
        have h := HPO.out
        rw [insD, if_pos rfl, List.append_nil] at h
        refine ⟨A5, q, c5, rfl, ?_⟩
        rw [← h]
        exact ⟨HNO.out.own, HNO.out.len, HT0.out.then HT.out, fun g hg => by have h1 := HNO.out.fresh g hg; have h2 := HT0.out.size; omega⟩
      | false =>
        go_wp2_with (at_builtin; refine wpList_app _ rfl (.tmp 39) (.tmp 41) 27 rfl 35 i0 _ 3 32 Tryd.underlying27 hi hz0 hz1 hz2 rfl (by decide) (.slice A5 q c5) q _ rfl (own_touch HNO.out.own ((Touch.refl _ _).alloc _) (fun _ _ f => f)) (some ⟨_, 0, none⟩) 1 1 (MRow.cells ⟨pw, pn, pd⟩) rfl ?s5a ?s5b ?s5c ?s5d ?s5e ?_)
        case s5a => exact Reads.new _ _ _ _ rfl
        try (case s5b => exact fun h => by cases h)
        case s5c => exact List.all_eq_true.1 rfl
        case s5d => unfold maxLen; omega
        case s5e => omega
        intro v2 w2 hown hgrow hfr _
        have N2 := (HNO.out.to ((Touch.refl _ _).alloc _)).app hown hgrow hfr
        obtain ⟨A2, c2, rfl, _, hm2⟩ := own_len hown
        unfold maxLen at hm2
        have HN2 := hide N2
        clear N2 hown hgrow hfr
        go_wp2_with fail
        go_ret
        have h := HPO.out
        rw [insD, if_neg (by decide), insM] at h
        refine ⟨A2, q + 1, c2, rfl, ?_⟩
        rw [← h]
        exact ⟨HN2.out.own, HN2.out.len, HT0.out.then HN2.out.touch, fun g hg => by have h1 := HN2.out.fresh g hg; have h2 := HT0.out.size; omega⟩

end Go.Proofs.YtfaoifggkfmokaaDoor

namespace Go.Proofs.YtfaoifggkfmokaaDoor
open Go.RowKit
set_option linter.unusedSimpArgs false
set_option linter.unusedVariables false

/-! ### what the merge says -/
def keptM (V : List PRow) (M : List MRow) : List MRow := M.filter (fun m => !(findP m.word.toList V).2)
def distZ (o : Option Nat) : Int × Bool := match o with
  | some d => ((d : Int), true)
  | none => (0, false)
theorem distE_eq (o : Option Nat) : distE o = .returned (.tuple #[.int .i64 (distZ o).1, .bool (distZ o).2]) := by cases o <;> rfl
def nearM (a : List UInt8) (k : Int) (p : PRow) : Option MRow :=
  if 0 < p.weight ∧ wordU p.word.toList = true ∧ (distZ (distU p.word.toList a)).2 = true ∧ (distZ (distU p.word.toList a)).1 ≤ k then some ⟨p.word, p.weight, (distZ (distU p.word.toList a)).1⟩ else none
def overM (a : List UInt8) (k : Int) (Y : List PRow) : List MRow := Y.filterMap (nearM a k)
def foldM (l : List MRow) : List MRow := l.foldl (fun o m => insM m o) []
theorem foldM_snoc (l : List MRow) (m : MRow) : foldM (l ++ [m]) = insM m (foldM l) := by simp [foldM]
theorem foldM_ok (l : List MRow) : m_SrtP (foldM l) ∧ m_SameK l (foldM l) := by
  obtain ⟨r, hr⟩ : ∃ r, r = l.reverse := ⟨_, rfl⟩
  have hl : l = r.reverse := by rw [hr, List.reverse_reverse]
  rw [hl]
  clear hl hr
  induction r with
  | nil => exact ⟨List.Pairwise.nil, m_SameK.refl _⟩
  | cons m r ih =>
    rw [List.reverse_cons, foldM_snoc]
    obtain ⟨h1, h2⟩ := insM_ok m _ ih.1
    exact ⟨h1, (ih.2.app (m_SameK.refl [m])).trans h2⟩
theorem foldM_mem {l : List MRow} {m : MRow} (h : m ∈ foldM l) : m ∈ l := (foldM_ok l).2.symm.mem h
theorem keptM_snoc (V : List PRow) (M : List MRow) (m : MRow) : keptM V (M ++ [m]) = keptM V M ++ (if (findP m.word.toList V).2 = true then [] else [m]) := by
  unfold keptM
  rw [List.filter_append]
  cases h : (findP m.word.toList V).2 <;> simp [h]
theorem overM_snoc (a : List UInt8) (k : Int) (Y : List PRow) (p : PRow) : overM a k (Y ++ [p]) = overM a k Y ++ (nearM a k p).toList := by
  unfold overM
  rw [List.filterMap_append]
  cases h : nearM a k p <;> simp [h]
theorem msnoc (L : List MRow) (i : Nat) (hi : i < L.length) : L.take (i + 1) = L.take i ++ [L.getD i MRow.zero] := by
  have e : L.getD i MRow.zero = L[i] := by simp [List.getD, hi]
  rw [List.take_succ_eq_append_getElem hi, e]
theorem mgetD_mem (O : List MRow) (k : Nat) (hk : k < O.length) : O.getD k MRow.zero ∈ O := by
  have e : O.getD k MRow.zero = O[k] := by simp [List.getD, hk]
  rw [e]; exact List.getElem_mem _

set_option maxRecDepth 100000 in
theorem rmrg_no (w : World) (lv ov : Value) (a : ByteArray) (k : Int) (ha : a.size ≤ 9223372036854775807) (hr : levR a.toList k = false) :
    Calls Tryd.prog 16 #[lv, ov, .string a, .int .i64 k] w fun e w' => e = .returned (.tuple #[.slice none 0 0, .int .i64 110]) ∧ Touch (fun _ => False) w w' := by
  have HN := hide (rlev_any w a k ha)
  rw [hr] at HN
  clear hr ha
  go_enter Tryd.func16, Tryd.ntmps16
  go_wp2_with fail
  refine HN.out.mono ?_
  rintro e w1 ⟨rfl, T1⟩
  have HT1 := hide T1
  clear T1 HN
  go_wp2_with fail
  go_ret2
  exact ⟨rfl, HT1.out⟩

/-- What Merge leaves. -/
def MrgR (w : World) (V : List PRow) (M : List MRow) (a : List UInt8) (k : Int) (e : Ending) (w' : World) : Prop :=
  ∃ A q c Y, e = .returned (.tuple #[.slice A q c, .int .i64 0]) ∧ MNx w w' (.slice A q c) q (foldM (keptM V M ++ overM a k Y)) ∧ Nrm V Y

set_option maxRecDepth 100000 in
set_option maxHeartbeats 4000000 in
theorem rmrg_yes (w : World) (A : Option Addr) (n c : Nat) (M : List MRow) (hM : M.length = n) (hRM : Reads w 3 A n (mCells M)) (sA : Option Addr) (sn sc : Nat) (V : List PRow) (hs : V.length = sn) (hRV : Reads w 2 sA sn (pCells V)) (hsum : n + sn ≤ 4398046510000)
    (hWM : ∀ r ∈ M, r.Wf) (hWV : ∀ r ∈ V, r.word.size ≤ 1099511627776) (a : ByteArray) (k : Int) (ha : a.size ≤ 1099511627776) (hr : levR a.toList k = true) :
    Calls Tryd.prog 16 #[.slice A n c, .slice sA sn sc, .string a, .int .i64 k] w (MrgR w V M a.toList k) := by
  have HN := hide (rlev_any w a k (by omega))
  rw [hr] at HN
  have HM := hide hM
  have HRM := hide hRM
  have HV := hide hs
  have HRV := hide hRV
  have HWM := hide hWM
  have HWV := hide hWV
  have HA := hide ha
  clear hM hRM hs hRV hWM hWV ha hr
  go_enter Tryd.func16, Tryd.ntmps16
  go_wp2_with fail
  refine HN.out.mono ?_
  rintro e w1 ⟨rfl, T1⟩
  have HT1 := hide T1
  clear T1 HN
  go_wp2_with fail
  go_loopw [10, 11] (fun ov iv wr => ∃ (i q : Nat) (A3 : Option Addr) (c3 : Nat), iv = .int .i64 i ∧ ov = .slice A3 q c3 ∧ i ≤ n ∧ q ≤ i ∧ Hid (MNx w wr (.slice A3 q c3) q (foldM (keptM V (M.take i))))) (fun _ iv _ => n - (intOf iv).toNat)
  case atStart => exact ⟨0, 0, none, 0, rfl, rfl, Nat.zero_le _, Nat.zero_le _, hide ((MNx.nil _).from HT1.out)⟩
  case round =>
    obtain ⟨i, q, A3, c3, rfl, rfl, hin', hqi, HN⟩ := hrel
    by_cases hin : i < n
    · have y0 : (i : Int) < (n : Int) := by omega
      obtain ⟨gl, ol, hAl, _, l0, l1, l2⟩ := mreads_at (HRM.out.touch HN.out.touch (fun _ _ f => f)) HM.out.symm i hin
      subst hAl
      have hsn := msnoc M i (by rw [HM.out]; exact hin)
      have hwx := HWM.out _ (mgetD_mem M i (by rw [HM.out]; exact hin))
      obtain ⟨⟨xw, xn, xd⟩, hx⟩ : ∃ x, x = M.getD i MRow.zero := ⟨_, rfl⟩
      rw [← hx] at l0 l1 l2 hsn hwx
      simp only at l0 l1 l2
      have hkp := keptM_snoc V (M.take i) ⟨xw, xn, xd⟩
      rw [← hsn] at hkp
      have HKP := hide hkp
      have HWX := hide hwx
      have HF := hide (rfind_any wr sA sn sc V HV.out (HRV.out.touch HN.out.touch (fun _ _ f => f)) (by unfold maxLen; omega) xw)
      have HX := hide hx
      clear hsn hwx hx hkp
      cases hf : (findP xw.toList V).2 with
      | true =>
        have HFF := hide hf
        rw [hf] at HF
        clear hf
        go_wp2_with fail
        refine HF.out.mono ?_
        rintro e w2 ⟨rfl, T2⟩
        have HT2 := hide T2
        clear T2
        go_wp2_with fail
        go_roundw
        · refine ⟨i + 1, q, A3, c3, by simp, rfl, by omega, by omega, hide ?_⟩
          rw [HKP.out, if_pos HFF.out, List.append_nil]
          exact HN.out.to HT2.out
        · show n - (intOf (.int .i64 ((i : Int) + 1))).toNat < n - (intOf (.int .i64 (i : Int))).toNat
          simp [intOf]
          omega
      | false =>
        have HFF := hide hf
        rw [hf] at HF
        clear hf
        go_wp2_with fail
        refine HF.out.mono ?_
        rintro e w2 ⟨rfl, T2⟩
        have HN2 := hide (HN.out.to T2)
        clear T2 l0 l1 l2
        obtain ⟨gl', ol', hAl, _, l0, l1, l2⟩ := mreads_at (HRM.out.touch HN2.out.touch (fun _ _ f => f)) HM.out.symm i hin
        injection hAl with hAl
        injection hAl with hA1 hA2
        subst hA1 hA2
        rw [← HX.out] at l0 l1 l2
        simp only at l0 l1 l2
        have HPU := hide (mput_any w2 A3 q c3 _ HN2.out.len (Reads.of_own HN2.out.own) (by omega) (fun r hr => HWM.out r (List.mem_of_mem_take (List.mem_filter.1 (foldM_mem hr)).1)) ⟨xw, xn, xd⟩ HWX.out)
        go_wp2_with fail
        refine HPU.out.mono ?_
        rintro e w5 ⟨A5, q5, c5, rfl, N5⟩
        have HN5 := hide N5
        clear N5
        go_wp2_with fail
        go_roundw
        · have h5 := HN5.out.len
          rw [insM_len, HN2.out.len] at h5
          refine ⟨i + 1, q5, A5, c5, by simp, rfl, by omega, by omega, hide ?_⟩
          rw [HKP.out, if_neg (by rw [HFF.out]; decide), foldM_snoc]
          exact HN5.out.from HN2.out.touch
        · show n - (intOf (.int .i64 ((i : Int) + 1))).toNat < n - (intOf (.int .i64 (i : Int))).toNat
          simp [intOf]
          omega
    · have hX : M.take i = M := List.take_of_length_le (by rw [HM.out]; omega)
      rw [hX] at HN
      obtain ⟨K, hK⟩ : ∃ K, K = keptM V M := ⟨_, rfl⟩
      rw [← hK] at HN
      have HK := hide hK
      have HWK : Hid (∀ r ∈ K, r.Wf) := hide (fun r hr => HWM.out r (by rw [hK] at hr; exact (List.mem_filter.1 hr).1))
      have HNO := hide (rnorm_any wr sA sn sc V HV.out (HRV.out.touch HN.out.touch (fun _ _ f => f)) (by omega) (fun r hr => by have := HWV.out r hr; unfold PRow.Wf; omega))
      have hqn : q ≤ n := by omega
      have y0 : ¬ (i : Int) < (n : Int) := by omega
      clear hX hK hin hin' hqi
      go_wp2_with fail
      refine HNO.out.mono ?_
      rintro e w3 ⟨A6, q6, c6, Y, rfl, N6, nr6, hq6⟩
      have HN6 := hide N6
      have HNR := hide nr6
      have HN3 := hide (HN.out.to N6.touch)
      have HYL := hide N6.len
      clear N6 nr6 HNO HN
      go_wp2_with fail
      go_loopw [10, 15] (fun ov jv wr => ∃ (j q : Nat) (A3 : Option Addr) (c3 : Nat), jv = .int .i64 j ∧ ov = .slice A3 q c3 ∧ j ≤ q6 ∧ q ≤ n + j ∧ Hid (Touch (fun _ => False) w3 wr) ∧ Hid (MNx w wr (.slice A3 q c3) q (foldM (K ++ overM a.toList k (Y.take j))))) (fun _ jv _ => q6 - (intOf jv).toNat)
      case atStart => exact ⟨0, q, A3, c3, rfl, rfl, Nat.zero_le _, by omega, hide (Touch.refl _ _), hide (by simpa [overM] using HN3.out)⟩
      case round =>
        clear HN3 hqn
        obtain ⟨j, q, A3, c3, rfl, rfl, hjn', hqj, HT, HN⟩ := hrel
        by_cases hjn : j < q6
        · have y0 : (j : Int) < (q6 : Int) := by omega
          obtain ⟨gl, ol, hAl, hgl, l0, l1⟩ := preads_at ((Reads.of_own HN6.out.own).touch HT.out (fun _ _ f => f)) HYL.out.symm j hjn
          subst hAl
          have hsn := psnoc Y j (by rw [HYL.out]; exact hjn)
          have hwx := HWV.out _ (HNR.out.mem (pgetD_mem Y j (by rw [HYL.out]; exact hjn)))
          obtain ⟨⟨xw, xn⟩, hx⟩ : ∃ x, x = Y.getD j PRow.zero := ⟨_, rfl⟩
          rw [← hx] at l0 l1 hsn hwx
          simp only at l0 l1 hwx
          have hov := overM_snoc a.toList k (Y.take j) ⟨xw, xn⟩
          rw [← hsn] at hov
          unfold nearM at hov
          simp only at hov
          have hD := rdist_any wr xw a hwx HA.out
          rw [distE_eq] at hD
          obtain ⟨z, hz⟩ : ∃ z, z = (distZ (distU xw.toList a.toList)).1 := ⟨_, rfl⟩
          obtain ⟨b, hb⟩ : ∃ b, b = (distZ (distU xw.toList a.toList)).2 := ⟨_, rfl⟩
          obtain ⟨v, hv⟩ : ∃ v, v = wordU xw.toList := ⟨_, rfl⟩
          rw [← hz, ← hb] at hov hD
          rw [← hv] at hov
          have HOV := hide hov
          have HD := hide hD
          have HVV := hide hv
          have HWX := hide hwx
          clear hov hD hsn hx hz hb hv hwx
          go_wp2_with fail
          refine HD.out.mono ?_
          rintro e w4 ⟨rfl, T4⟩
          have l3 : gl < w4.heap.size := Nat.lt_of_lt_of_le hgl T4.size
          have e0 : w4.cell? ⟨gl, ol + j * 2, none⟩ = some (.string xw) := (T4.cell (a := ⟨gl, ol + j * 2, none⟩) hgl (fun f => f)).trans l0
          have e1 : w4.cell? ⟨gl, ol + j * 2 + 1, none⟩ = some (.int .i64 xn) := (T4.cell (a := ⟨gl, ol + j * 2 + 1, none⟩) hgl (fun f => f)).trans l1
          have HN4 := hide (HN.out.to T4)
          have HT4 := hide (HT.out.then T4)
          have HW := hide (rword_any w4 xw (by have := HWX.out; omega))
          rw [← HVV.out] at HW
          clear T4 l0 l1 hgl
          go_wp2_with fail
          refine HW.out.mono ?_
          rintro e w5 ⟨rfl, T5⟩
          have l5 : gl < w5.heap.size := Nat.lt_of_lt_of_le l3 T5.size
          have d0 : w5.cell? ⟨gl, ol + j * 2, none⟩ = some (.string xw) := (T5.cell (a := ⟨gl, ol + j * 2, none⟩) l3 (fun f => f)).trans e0
          have d1 : w5.cell? ⟨gl, ol + j * 2 + 1, none⟩ = some (.int .i64 xn) := (T5.cell (a := ⟨gl, ol + j * 2 + 1, none⟩) l3 (fun f => f)).trans e1
          have HN5 := hide (HN4.out.to T5)
          have HT5 := hide (HT4.out.then T5)
          clear T5 e0 e1 l3 HW HD
          have main : (0 < xn ∧ v = true ∧ b = true ∧ z ≤ k) ∨ (¬ (0 < xn) ∨ (0 < xn ∧ v = false) ∨ (0 < xn ∧ v = true ∧ b = false) ∨ (0 < xn ∧ v = true ∧ b = true ∧ ¬ z ≤ k)) := by
            by_cases h1 : 0 < xn
            · cases v with
              | false => exact .inr (.inr (.inl ⟨h1, rfl⟩))
              | true =>
                cases b with
                | false => exact .inr (.inr (.inr (.inl ⟨h1, rfl, rfl⟩)))
                | true =>
                  by_cases h2 : z ≤ k
                  · exact .inl ⟨h1, rfl, rfl, h2⟩
                  · exact .inr (.inr (.inr (.inr ⟨h1, rfl, rfl, h2⟩)))
            · exact .inr (.inl h1)
          rcases main with ⟨h1, h2, h3, h4⟩ | main
          · have h2' := h2
            have h3' := h3
            subst h2 h3
            have HH := hide (And.intro h1 h4)
            clear h2' h3'
            have HPU := hide (fun (wd : World) (hT : Touch (fun _ => False) w5 wd) => mput_any wd A3 q c3 _ (HN5.out.to hT).len (Reads.of_own (HN5.out.to hT).own) (by omega) (fun r hr => by
              rcases List.mem_append.1 (foldM_mem hr) with hr | hr
              · exact HWK.out r hr
              · obtain ⟨p, hp, he⟩ := List.mem_filterMap.1 hr
                unfold nearM at he
                split at he
                · injection he with he
                  rw [← he]
                  have := HWV.out p (HNR.out.mem (List.mem_of_mem_take hp))
                  show p.word.size ≤ _
                  omega
                · cases he) ⟨xw, xn, z⟩ (by have := HWX.out; show xw.size ≤ _; omega))
            go_wp2_with fail
            go_still_tail 13, (by kernel_rfl)
            change wpList _ _ _ _ _ w5.drew
            have HDR : Hid (Touch (fun _ => False) w5 w5.drew) := hide (Touch.refl _ _).drew
            generalize w5.drew = wd at HDR ⊢
            go_wp2_with fail
            refine (HPU.out wd HDR.out).mono ?_
            rintro e w6 ⟨A7, q7, c7, rfl, N7⟩
            have HN7 := hide N7
            clear N7
            go_wp2_with fail
            go_roundw
            · have h5 := HN7.out.len
              rw [insM_len, HN5.out.len] at h5
              have hT7 := HDR.out.then HN7.out.touch
              refine ⟨j + 1, q7, A7, c7, by simp, rfl, by omega, by omega, hide (HT5.out.then hT7), hide ?_⟩
              rw [HOV.out, if_pos (by refine ⟨HH.out.1, ?_, ?_, HH.out.2⟩ <;> simp), ← List.append_assoc]
              show MNx _ _ _ _ (foldM (_ ++ [_]))
              rw [foldM_snoc]
              exact HN7.out.from (HN5.out.touch.then HDR.out)
            · simp only [intOf]
              omega
          · have hno : ¬ (0 < xn ∧ v = true ∧ b = true ∧ z ≤ k) := by
              rintro ⟨a1, a2, a3, a4⟩
              rcases main with h | ⟨_, h⟩ | ⟨_, _, h⟩ | ⟨_, _, _, h⟩
              · exact h a1
              · rw [a2] at h; cases h
              · rw [a3] at h; cases h
              · exact h a4
            have hov := HOV.out
            rw [if_neg hno, Option.toList_none, List.append_nil] at hov
            have HOV2 := hide hov
            clear hov hno HOV
            rcases main with h | ⟨h, h'⟩ | ⟨h, h', h''⟩ | ⟨h, h', h'', h3⟩
            all_goals
              try subst h'
              try subst h''
              go_wp2_with fail
              go_roundw
              · refine ⟨j + 1, q, A3, c3, by simp, rfl, by omega, by omega, HT5, hide ?_⟩
                rw [HOV2.out]
                exact HN5.out
              · simp only [intOf]
                omega
        · have hX : Y.take j = Y := List.take_of_length_le (by rw [HYL.out]; omega)
          rw [hX] at HN
          have y0 : ¬ (j : Int) < (q6 : Int) := by omega
          clear hX hjn hjn' hqj
          go_wp2_with fail
          go_ret2
          refine ⟨A3, q, c3, Y, rfl, ?_, HNR.out⟩
          rw [← HK.out]
          exact HN.out

end Go.Proofs.YtfaoifggkfmokaaDoor

namespace Go.Proofs.YtfaoifggkfmokaaDoor
open Go.RowKit
set_option linter.unusedSimpArgs false
set_option linter.unusedVariables false

theorem nearM_in (a : List UInt8) (k : Int) (p : PRow) : nearM a k p = if 0 < p.weight ∧ wordU p.word.toList = true ∧ withinB (distU p.word.toList a) k = true then some ⟨p.word, p.weight, (distZ (distU p.word.toList a)).1⟩ else none := by
  unfold nearM
  cases distU p.word.toList a with
  | none => simp [distZ, withinB]
  | some d => simp [distZ, withinB]

set_option maxRecDepth 100000 in
theorem fmrg_no (w : World) (hL : Lst w) (lv ov : Value) (a : ByteArray) (k : Int) (ha : a.size ≤ 9223372036854775807) (hr : levR a.toList k = false) :
    Calls Tryd.prog 15 #[lv, ov, .string a, .int .i64 k] w fun e w' => e = .returned (.tuple #[.slice none 0 0, .int .i64 110]) ∧ Touch (fun _ => False) w w' := by
  have HN := hide (lnew_no w hL a k ha hr)
  clear hr ha hL
  go_enter Tryd.func15, Tryd.ntmps15
  go_wp2_with fail
  refine HN.out.mono ?_
  rintro e w1 ⟨rfl, T1⟩
  have HT1 := hide T1
  clear T1 HN
  go_wp2_with fail
  go_ret2
  exact ⟨rfl, HT1.out⟩

/-- What Merge leaves. -/
def FMrgR (w : World) (V : List PRow) (M : List MRow) (a : List UInt8) (k : Int) (e : Ending) (w' : World) : Prop :=
  ∃ A q c Y Z, e = .returned (.tuple #[.slice A q c, .int .i64 0]) ∧ MNx w w' (.slice A q c) q Z ∧ Nrm V Y ∧ m_SrtP Z ∧ m_SameK (keptM Y M ++ overM a k Y) Z

set_option maxRecDepth 100000 in
set_option maxHeartbeats 8000000 in
theorem fmrg_yes (w : World) (hL : Lst w) (A : Option Addr) (n c : Nat) (M : List MRow) (hM : M.length = n) (hRM : Reads w 3 A n (mCells M)) (s : SL) (hs : s.Ok w) (hsum : n + s.n ≤ 4398046510000)
    (hWV : ∀ r ∈ s.L, r.word.size ≤ 1099511627776) (a : ByteArray) (k : Nat) (ha : a.size ≤ 1099511627776) (X : List Nat) (hX : runesU a.toList = some X) (hr : levR a.toList k = true) :
    Calls Tryd.prog 15 #[.slice A n c, s.val, .string a, .int .i64 (k : Int)] w (FMrgR w s.L M a.toList k) := by
  have HN := hide (lnew_yes w hL a k ha X hX hr)
  have HL := hide hL
  have HM := hide hM
  have HRM := hide hRM
  have HS := hide hs
  have HWV := hide hWV
  have HA := hide ha
  obtain ⟨i0, hi, hz0, hz1, hz2⟩ := info_parts infoMso
  obtain ⟨sA, sn, sc, V⟩ := s
  simp only [SL.val]
  simp only at hsum HWV
  clear hM hRM hs hWV ha hr hL hX
  go_enter Tryd.func15, Tryd.ntmps15
  go_wp2_with fail
  refine HN.out.mono ?_
  rintro e w1 ⟨lb, lA, ln, lc, rfl, _, T1, _⟩
  have HT1 := hide T1
  have HPN := hide (pnorm_any w1 ⟨sA, sn, sc, V⟩ ⟨HS.out.len, HS.out.reads.touch T1 (fun _ _ f => f), HS.out.nil⟩ (by show sn ≤ _; omega))
  clear T1 HN
  simp only [SL.val] at HPN
  go_wp2_with fail
  refine HPN.out.mono ?_
  rintro e w2 ⟨A6, q6, c6, Y, rfl, O6, N6, T6, hq6, _, h6⟩
  have HYO := hide O6
  have HNR := hide N6
  have HT2 := hide (HT1.out.then T6)
  have HYL := hide (pown_len O6)
  have hqs : q6 ≤ sn := hq6
  clear O6 N6 T6 hq6 h6 HPN
  go_wp2_with fail
  go_loopw [12, 34] (fun ov iv wr => ∃ (i q : Nat) (A3 : Option Addr) (c3 : Nat), iv = .int .i64 i ∧ ov = .slice A3 q c3 ∧ i ≤ n ∧ q ≤ i ∧ Hid (MNx w2 wr (.slice A3 q c3) q (keptM Y (M.take i)))) (fun _ iv _ => n - (intOf iv).toNat)
  case atStart => exact ⟨0, 0, none, 0, rfl, rfl, Nat.zero_le _, Nat.zero_le _, hide (MNx.nil _)⟩
  case round =>
    obtain ⟨i, q, A3, c3, rfl, rfl, hin', hqi, HN⟩ := hrel
    have HT := hide HN.out.touch
    by_cases hin : i < n
    · have y0 : (i : Int) < (n : Int) := by omega
      obtain ⟨gl, ol, hAl, _, l0, l1, l2⟩ := mreads_at (HRM.out.touch (HT2.out.then HN.out.touch) (fun _ _ f => f)) HM.out.symm i hin
      subst hAl
      have hsn := msnoc M i (by rw [HM.out]; exact hin)
      obtain ⟨⟨xw, xn, xd⟩, hx⟩ : ∃ x, x = M.getD i MRow.zero := ⟨_, rfl⟩
      rw [← hx] at l0 l1 l2 hsn
      simp only at l0 l1 l2
      have hkp := keptM_snoc Y (M.take i) ⟨xw, xn, xd⟩
      rw [← hsn] at hkp
      have HKP := hide hkp
      clear hsn hx hkp
      go_upto_region 9 with fail
      obtain ⟨wa, hwa⟩ : ∃ x, x = wr.alloc (.cells #[.string xw, .int .i64 xn, .int .i64 xd] 35) := ⟨_, rfl⟩
      obtain ⟨b, hb⟩ : ∃ x, x = wr.heap.size := ⟨_, rfl⟩
      rw [← hwa, ← hb]
      have hTa : Touch (fun _ => False) wr wa := by rw [hwa]; exact (Touch.refl _ _).alloc _
      have hba : Blk wa b 35 #[.string xw, .int .i64 xn, .int .i64 xd] := by rw [hwa, hb]; exact Blk.new _ _ _
      obtain ⟨b0, b1, b2⟩ : _ ∧ _ ∧ _ := ⟨hba.cell 0, hba.cell 1, hba.cell 2⟩
      simp at b0 b1 b2
      have lb1 := hba.lt
      have HTA := hide hTa
      have HBA := hide hba
      have HF := hide (pfind_any wa A6 q6 c6 Y HYL.out.symm ((Reads.of_own HYO.out).touch (HT.out.then hTa) (fun _ _ f => f)) (by unfold maxLen; omega) xw)
      clear hwa hb hTa hba l0 l1 l2
      cases hf : (findP xw.toList Y).2 with
      | true =>
        have HFF := hide hf
        rw [hf] at HF
        clear hf
        go_wp2_with fail
        refine HF.out.mono ?_
        rintro e w3 ⟨rfl, T3⟩
        have HT3 := hide (HTA.out.then T3)
        clear T3
        go_wp2_with fail
        go_roundw
        · refine ⟨i + 1, q, A3, c3, by simp, rfl, by omega, by omega, hide ?_⟩
          rw [HKP.out, if_pos HFF.out, List.append_nil]
          exact HN.out.to HT3.out
        · show n - (intOf (.int .i64 ((i : Int) + 1))).toNat < n - (intOf (.int .i64 (i : Int))).toNat
          simp [intOf]
          omega
      | false =>
        have HFF := hide hf
        rw [hf] at HF
        clear hf b0 b1 b2 lb1
        have hba := HBA.out
        obtain ⟨b0, b1, b2⟩ : _ ∧ _ ∧ _ := ⟨hba.cell 0, hba.cell 1, hba.cell 2⟩
        simp at b0 b1 b2
        have lb1 := hba.lt
        clear hba
        go_wp2_with fail
        refine HF.out.mono ?_
        rintro e w3 ⟨rfl, T3⟩
        have hb3 := HBA.out.touch T3 (fun f => f)
        clear b0 b1 b2 lb1
        obtain ⟨b0, b1, b2⟩ : _ ∧ _ ∧ _ := ⟨hb3.cell 0, hb3.cell 1, hb3.cell 2⟩
        simp at b0 b1 b2
        have lb1 := hb3.lt
        have HN3 := hide (HN.out.to (HTA.out.then T3))
        have HT3 := hide (HT.out.then (HTA.out.then T3))
        clear T3 hb3 HF
        go_wp2_with (at_builtin; refine wpList_app _ rfl (.tmp 47) (.tmp 49) 27 rfl 35 i0 _ 3 32 Tryd.underlying27 hi hz0 hz1 hz2 rfl (by decide) (.slice A3 q c3) q _ rfl (own_touch HN3.out.own ((Touch.refl _ _).alloc _) (fun _ _ f => f)) (some ⟨_, 0, none⟩) 1 1 (MRow.cells ⟨xw, xn, xd⟩) rfl ?s1a ?s1b ?s1c ?s1d ?s1e ?_)
        case s1a => exact Reads.new _ _ _ _ rfl
        try (case s1b => exact fun h => by cases h)
        case s1c => exact List.all_eq_true.1 rfl
        case s1d => unfold maxLen; omega
        case s1e => omega
        intro v4 w4 hown hgrow hfr _
        have N4 := (HN3.out.to ((Touch.refl _ _).alloc _)).app hown hgrow hfr
        obtain ⟨A4, c4, rfl, _, hm4⟩ := own_len hown
        have HN4 := hide N4
        clear N4 hown hgrow hfr hm4
        go_wp2_with fail
        go_roundw
        · refine ⟨i + 1, q + 1, A4, c4, by simp, rfl, by omega, by omega, hide ?_⟩
          rw [HKP.out, if_neg (by rw [HFF.out]; decide)]
          exact HN4.out
        · show n - (intOf (.int .i64 ((i : Int) + 1))).toNat < n - (intOf (.int .i64 (i : Int))).toNat
          simp [intOf]
          omega
    · have hX : M.take i = M := List.take_of_length_le (by rw [HM.out]; omega)
      rw [hX] at HN
      obtain ⟨K, hK⟩ : ∃ K, K = keptM Y M := ⟨_, rfl⟩
      rw [← hK] at HN
      have HK := hide hK
      have hqn : q ≤ n := by omega
      have y0 : ¬ (i : Int) < (n : Int) := by omega
      have HN0 := HN
      clear hX hK hin hin' hqi HN HT
      go_wp2_with fail
      go_loopw [12, 54] (fun ov jv wr => ∃ (j q : Nat) (A3 : Option Addr) (c3 : Nat), jv = .int .i64 j ∧ ov = .slice A3 q c3 ∧ j ≤ q6 ∧ q ≤ n + j ∧ Hid (MNx w2 wr (.slice A3 q c3) q (K ++ overM a.toList (k : Int) (Y.take j)))) (fun _ jv _ => q6 - (intOf jv).toNat)
      case atStart => exact ⟨0, q, A3, c3, rfl, rfl, Nat.zero_le _, by omega, hide (by simpa [overM] using HN0.out)⟩
      case round =>
        clear HN0 hqn
        obtain ⟨j, q, A3, c3, rfl, rfl, hjn', hqj, HN⟩ := hrel
        have HT := hide HN.out.touch
        by_cases hjn : j < q6
        · have y0 : (j : Int) < (q6 : Int) := by omega
          obtain ⟨gl, ol, hAl, _, l0, l1⟩ := preads_at ((Reads.of_own HYO.out).touch HT.out (fun _ _ f => f)) HYL.out j hjn
          subst hAl
          have hsn := psnoc Y j (by rw [← HYL.out]; exact hjn)
          have hwx := HWV.out _ (HNR.out.mem (pgetD_mem Y j (by rw [← HYL.out]; exact hjn)))
          obtain ⟨⟨xw, xn⟩, hx⟩ : ∃ x, x = Y.getD j PRow.zero := ⟨_, rfl⟩
          rw [← hx] at l0 l1 hsn hwx
          simp only at l0 l1 hwx
          have hov := overM_snoc a.toList (k : Int) (Y.take j) ⟨xw, xn⟩
          rw [← hsn, nearM_in] at hov
          simp only at hov
          have HWX := hide hwx
          clear hsn hx hwx
          go_upto_region 16 with fail
          obtain ⟨wa, hwa⟩ : ∃ x, x = wr.alloc (.cells #[.string xw, .int .i64 xn] 52) := ⟨_, rfl⟩
          obtain ⟨b, hb⟩ : ∃ x, x = wr.heap.size := ⟨_, rfl⟩
          rw [← hwa, ← hb]
          have hTa : Touch (fun _ => False) wr wa := by rw [hwa]; exact (Touch.refl _ _).alloc _
          have hba : Blk wa b 52 #[.string xw, .int .i64 xn] := by rw [hwa, hb]; exact Blk.new _ _ _
          have HTA := hide hTa
          have HBA := hide hba
          have HLA := hide (Lst.touch HL.out (HT2.out.then (HN.out.touch.then hTa)))
          have hwd := word_any wa xw (by have := HWX.out; omega) HLA.out
          obtain ⟨v, hv⟩ : ∃ v, v = wordU xw.toList := ⟨_, rfl⟩
          rw [← hv] at hwd hov
          obtain ⟨u, hu⟩ : ∃ u, u = withinB (distU xw.toList a.toList) (k : Int) := ⟨_, rfl⟩
          rw [← hu] at hov
          have HWD := hide hwd
          have HU := hide hu
          have HOV := hide hov
          clear hwa hb hTa hba l0 l1 hwd hv hu hov
          have hba := HBA.out
          obtain ⟨b0, b1⟩ : _ ∧ _ := ⟨hba.cell 0, hba.cell 1⟩
          simp at b0 b1
          have lb1 := hba.lt
          clear hba
          by_cases hx0 : 0 < xn
          · cases v with
            | false =>
              go_wp2_with fail
              refine HWD.out.mono ?_
              rintro e w3 ⟨rfl, T3⟩
              have HT3 := hide (HTA.out.then T3)
              clear T3
              go_wp2_with fail
              go_roundw
              · refine ⟨j + 1, q, A3, c3, by simp, rfl, by omega, by omega, hide ?_⟩
                rw [HOV.out, if_neg (by simp), Option.toList_none, List.append_nil]
                exact HN.out.to HT3.out
              · simp only [intOf]
                omega
            | true =>
              go_wp2_with fail
              refine HWD.out.mono ?_
              rintro e w3 ⟨rfl, T3⟩
              have HT3 := hide (HTA.out.then T3)
              have hb3 := HBA.out.touch T3 (fun f => f)
              clear b0 b1 lb1
              obtain ⟨b0, b1⟩ : _ ∧ _ := ⟨hb3.cell 0, hb3.cell 1⟩
              simp at b0 b1
              have lb1 := hb3.lt
              have HB3 := hide hb3
              have HWI := hide (within_any w3 (Lst.touch HLA.out T3) xw a (by have := HWX.out; omega) (by have := HA.out; omega) (k : Int))
              have HLB := hide (Lst.touch HLA.out T3)
              rw [← HU.out] at HWI
              clear T3 hb3
              cases u with
              | false =>
                go_wp2_with fail
                refine HWI.out.mono ?_
                rintro e w4 ⟨rfl, T4⟩
                have HT4 := hide (HT3.out.then T4)
                clear T4
                go_wp2_with fail
                go_roundw
                · refine ⟨j + 1, q, A3, c3, by simp, rfl, by omega, by omega, hide ?_⟩
                  rw [HOV.out, if_neg (by simp), Option.toList_none, List.append_nil]
                  exact HN.out.to HT4.out
                · simp only [intOf]
                  omega
              | true =>
                go_wp2_with fail
                refine HWI.out.mono ?_
                rintro e w4 ⟨rfl, T4⟩
                have HT4 := hide (HT3.out.then T4)
                have hb4 := HB3.out.touch T4 (fun f => f)
                clear b0 b1 lb1
                obtain ⟨b0, b1⟩ : _ ∧ _ := ⟨hb4.cell 0, hb4.cell 1⟩
                simp at b0 b1
                have lb1 := hb4.lt
                have HB4 := hide hb4
                have hd4 := dist_any w4 (Lst.touch HLB.out T4) xw a (by have := HWX.out; omega) (by have := HA.out; omega)
                rw [distE_eq] at hd4
                obtain ⟨z, hz⟩ : ∃ z, z = (distZ (distU xw.toList a.toList)).1 := ⟨_, rfl⟩
                obtain ⟨y, hy⟩ : ∃ y, y = (distZ (distU xw.toList a.toList)).2 := ⟨_, rfl⟩
                rw [← hz, ← hy] at hd4
                have HZ := hide hz
                have HD4 := hide hd4
                clear T4 hb4 hd4 hz hy
                go_wp2_with fail
                refine HD4.out.mono ?_
                rintro e w5 ⟨rfl, T5⟩
                have HN5 := hide (HN.out.to (HT4.out.then T5))
                have HT5 := hide (HT.out.then (HT4.out.then T5))
                have hb5 := HB4.out.touch T5 (fun f => f)
                clear b0 b1 lb1
                obtain ⟨b0, b1⟩ : _ ∧ _ := ⟨hb5.cell 0, hb5.cell 1⟩
                simp at b0 b1
                have lb1 := hb5.lt
                clear T5 hb5 HD4
                go_wp2_with (at_builtin; refine wpList_app _ rfl (.tmp 80) (.tmp 87) 27 rfl 35 i0 _ 3 32 Tryd.underlying27 hi hz0 hz1 hz2 rfl (by decide) (.slice A3 q c3) q _ rfl (own_touch HN5.out.own ((Touch.refl _ _).alloc _) (fun _ _ f => f)) (some ⟨_, 0, none⟩) 1 1 (MRow.cells ⟨xw, xn, z⟩) rfl ?s2a ?s2b ?s2c ?s2d ?s2e ?_)
                case s2a => exact Reads.new _ _ _ _ rfl
                try (case s2b => exact fun h => by cases h)
                case s2c => exact List.all_eq_true.1 rfl
                case s2d => unfold maxLen; omega
                case s2e => omega
                intro v6 w6 hown hgrow hfr _
                have N6 := (HN5.out.to ((Touch.refl _ _).alloc _)).app hown hgrow hfr
                obtain ⟨A6, c6, rfl, _, hm6⟩ := own_len hown
                have HN6 := hide N6
                clear N6 hown hgrow hfr hm6
                go_wp2_with fail
                go_roundw
                · refine ⟨j + 1, q + 1, A6, c6, by simp, rfl, by omega, by omega, hide ?_⟩
                  rw [HOV.out, if_pos (by simp [hx0]), ← HZ.out, ← List.append_assoc]
                  exact HN6.out
                · simp only [intOf]
                  omega
          · have hx1 : ¬ (0 : Int) < xn := hx0
            go_wp2_with fail
            go_roundw
            · refine ⟨j + 1, q, A3, c3, by simp, rfl, by omega, by omega, hide ?_⟩
              rw [HOV.out, if_neg (by simp [hx0]), Option.toList_none, List.append_nil]
              exact HN.out.to HTA.out
            · simp only [intOf]
              omega
        · have hX : Y.take j = Y := List.take_of_length_le (by rw [← HYL.out]; omega)
          rw [hX, HK.out] at HN
          have y0 : ¬ (j : Int) < (q6 : Int) := by omega
          have hown := HN.out.own
          have HSO := hide (m_sortfunc_any wr A3 q c3 _ hown (by omega))
          clear hX hjn hjn' hqj hown
          go_wp2_with fail
          refine HSO.out.mono ?_
          rintro e w7 ⟨rfl, ⟨Z, O7, s7, k7⟩, T7⟩
          have HO7 := hide O7
          have HZ := hide (And.intro s7 k7)
          have HT7 := hide T7
          clear O7 s7 k7 T7 HSO
          go_wp2_with fail
          go_ret2
          refine ⟨A3, q, c3, Y, Z, rfl, ⟨HO7.out, (mown_len HO7.out).symm, ?_, fun g hg => by have h1 := HN.out.fresh g hg; have h2 := HT2.out.size; omega⟩, HNR.out, HZ.out.1, HZ.out.2⟩
          refine Touch.trans (HT2.out.then HN.out.touch) HT7.out (fun g hg e => ?_)
          have h1 := HN.out.fresh g (by
            cases A3 with
            | none => simp [adBlock] at e
            | some p =>
              rcases HO7.out.2 with ⟨e1, _⟩ | ⟨g', cap, cur, e1, _, _⟩
              · cases e1
              · cases e1
                simpa [adBlock, Value.ownBlock] using e)
          have h2 := HT2.out.size
          omega

end Go.Proofs.YtfaoifggkfmokaaDoor

namespace Go.Proofs.YtfaoifggkfmokaaDoor
open Go.RowKit
set_option linter.unusedSectionVars false
set_option linter.unusedSimpArgs false
set_option linter.unusedVariables false

theorem findP_nrm {V Y : List PRow} (h : Nrm V Y) (k : List UInt8) : findP k Y = findP k V := by
  unfold findP
  rw [h.2 k]
  cases (key k V).getLast? <;> rfl
theorem keptM_nrm {V Y : List PRow} (h : Nrm V Y) (M : List MRow) : keptM Y M = keptM V M := by
  unfold keptM
  congr 1
  funext m
  rw [findP_nrm h]
theorem nrm_unique {V Y Z : List PRow} (h : Nrm V Y) (k : Nrm V Z) : Y = Z := strict_unique h.1 k.1 fun x => (h.2 x).trans (k.2 x).symm

set_option maxRecDepth 100000 in
set_option maxHeartbeats 4000000 in
theorem fmerges_walk (W : World) (hL : Lst W) (A : Option Addr) (n c : Nat) (M : List MRow) (hM : M.length = n) (hRM : Reads W 3 A n (mCells M)) (hWM : ∀ r ∈ M, r.Wf) (s : SL) (hs : s.Ok W) (hWV : ∀ r ∈ s.L, r.word.size ≤ 1099511627776) (hsum : n + s.n ≤ 4398046510000) (a : ByteArray) (ha : a.size ≤ 9223372036854775807) (k y : Int) :
    Calls Tryd.prog 6 #[.slice A n c, s.val, .agg #[.string a, .int .i64 k, .int .i64 y]] W fun e W' => e = .returned (.bool true) ∧ Below W.heap.size W W' := by
  obtain ⟨w0, hw0⟩ : ∃ x, x = W.alloc (.cells #[.string a, .int .i64 k, .int .i64 y] 40) := ⟨_, rfl⟩
  obtain ⟨b, hb⟩ : ∃ x, x = W.heap.size := ⟨_, rfl⟩
  have hT0 : Touch (fun _ => False) W w0 := by rw [hw0]; exact (Touch.refl _ _).alloc _
  have hb0 : Blk w0 b 40 #[.string a, .int .i64 k, .int .i64 y] := by rw [hw0, hb]; exact Blk.new _ _ _
  have HT0 := hide hT0
  have HB0 := hide hb0
  have HW0 := hide hw0
  have HBB := hide hb
  have HL := hide (Lst.touch hL hT0)
  have HRM := hide (hRM.touch hT0 (fun _ _ f => f))
  have hs0 : s.Ok w0 := ⟨hs.len, hs.reads.touch hT0 (fun _ _ f => f), hs.nil⟩
  have HS := hide hs0
  have HM := hide hM
  have HWM := hide hWM
  have HWV := hide hWV
  have hwb := HBB.out
  clear hT0 hb0 hw0 hL hRM hs hs0 hM hWM hWV hwb hb
  cases hlv : levR a.toList k with
  | false =>
    have HFZ := hide (fmrg_no w0 HL.out (.slice A n c) s.val a k ha hlv)
    have HRA := hide (fun wx => rmrg_no wx (.slice A n c) s.val a k ha hlv)
    obtain ⟨sA, sn, sc, V⟩ := s
    simp only [SL.val] at HFZ HRA ⊢
    clear hlv
    go_enter Tryd.func6, Tryd.ntmps6
    go_upto_region 1 with fail
    rw [← HW0.out, ← HBB.out]
    have hb1 := HB0.out
    obtain ⟨b0, b1⟩ : _ ∧ _ := ⟨hb1.cell 0, hb1.cell 1⟩
    simp at b0 b1
    have l1 := hb1.lt
    clear hb1
    go_wp2_with fail
    refine HFZ.out.mono ?_
    rintro e w2 ⟨rfl, T2⟩
    have HT2 := hide T2
    have hb1 := HB0.out.touch T2 (fun f => f)
    clear b0 b1 l1
    obtain ⟨b0, b1⟩ : _ ∧ _ := ⟨hb1.cell 0, hb1.cell 1⟩
    simp at b0 b1
    have l1 := hb1.lt
    clear hb1 T2
    go_wp2_with fail
    refine (HRA.out _).mono ?_
    rintro e w3 ⟨rfl, T3⟩
    have HT3 := hide (HT2.out.then T3)
    have HAL := hide (alive12_any w3 (Lst.touch HL.out (HT2.out.then T3)))
    clear T3 b0 b1 l1
    go_wp2_with fail
    refine HAL.out.mono ?_
    rintro e w4 ⟨rfl, T4⟩
    have HT4 := hide (HT3.out.then T4)
    have HSM := hide (same_yes w4 none 0 0 [] rfl (Reads.nil _ _ _) (by unfold maxLen; omega) none 0 (Reads.nil _ _ _))
    clear T4
    go_wp2_with fail
    refine HSM.out.mono ?_
    rintro e w5 ⟨rfl, T5⟩
    have HT5 := hide (HT0.out.then (HT4.out.then T5))
    clear T5
    go_wp2_with fail
    go_ret
    exact ⟨rfl, HT5.out.below (Nat.le_refl _) (fun _ _ f => f)⟩
  | true =>
    obtain ⟨X, kn, hX, hXl, hal, rfl, hkn⟩ := lev_parts hlv
    rw [size_toList] at hal
    have HFZ := hide (fmrg_yes w0 HL.out A n c M HM.out HRM.out s HS.out hsum HWV.out a kn (by omega) X hX hlv)
    have HRA := hide (fun wx (T : Touch (fun _ => False) w0 wx) => rmrg_yes wx A n c M HM.out (HRM.out.touch T (fun _ _ f => f)) s.A s.n s.c s.L HS.out.len (HS.out.reads.touch T (fun _ _ f => f)) hsum HWM.out HWV.out a (kn : Int) (by omega) hlv)
    obtain ⟨sA, sn, sc, V⟩ := s
    simp only [SL.val] at HFZ HRA ⊢
    simp only at HWV hsum
    clear hlv hX hXl hal hkn
    go_enter Tryd.func6, Tryd.ntmps6
    go_upto_region 1 with fail
    rw [← HW0.out, ← HBB.out]
    have hb1 := HB0.out
    obtain ⟨b0, b1⟩ : _ ∧ _ := ⟨hb1.cell 0, hb1.cell 1⟩
    simp at b0 b1
    have l1 := hb1.lt
    clear hb1
    go_wp2_with fail
    refine HFZ.out.mono ?_
    rintro e w2 ⟨A2, q2, c2, Y, Z, rfl, N2, nr2, s2, k2⟩
    have HN2 := hide N2
    have HNR := hide nr2
    have HSK := hide (And.intro s2 k2)
    have HT2 := hide N2.touch
    have hb1 := HB0.out.touch N2.touch (fun f => f)
    clear b0 b1 l1
    obtain ⟨b0, b1⟩ : _ ∧ _ := ⟨hb1.cell 0, hb1.cell 1⟩
    simp at b0 b1
    have l1 := hb1.lt
    clear hb1 N2 nr2 s2 k2
    go_wp2_with fail
    refine (HRA.out _ HT2.out).mono ?_
    rintro e w3 ⟨A3, q3, c3, Y3, rfl, N3, nr3⟩
    have hYY := nrm_unique nr3 HNR.out
    subst hYY
    have hZ : Z = foldM (keptM V M ++ overM a.toList (kn : Int) Y3) := by
      have h2 := foldM_ok (keptM V M ++ overM a.toList (kn : Int) Y3)
      have h3 := HSK.out.2
      rw [keptM_nrm HNR.out] at h3
      exact srtM_unique HSK.out.1 h2.1 (h3.symm.trans h2.2)
    have HN3 := hide N3
    have HT3 := hide (HT2.out.then N3.touch)
    have HZ := hide hZ
    have hq : q3 = q2 := by
      have e1 := N3.len
      have e2 := HN2.out.len
      rw [hZ] at e2
      omega
    subst hq
    have HAL := hide (alive12_any w3 (Lst.touch HL.out (HT2.out.then N3.touch)))
    clear N3 nr3 b0 b1 l1 hZ
    go_wp2_with fail
    refine HAL.out.mono ?_
    rintro e w4 ⟨rfl, T4⟩
    have HT4 := hide (HT3.out.then T4)
    have hq6 : q3 ≤ maxLen := own_le HN2.out.own
    have HSM := hide (same_yes w4 A2 q3 c2 Z HN2.out.len ((Reads.of_own HN2.out.own).touch (HN3.out.touch.then T4) (fun _ _ f => f)) hq6 A3 c3 (by rw [HZ.out]; exact (Reads.of_own HN3.out.own).touch T4 (fun _ _ f => f)))
    clear T4 hq6
    go_wp2_with fail
    refine HSM.out.mono ?_
    rintro e w5 ⟨rfl, T5⟩
    have HT5 := hide (HT0.out.then (HT4.out.then T5))
    clear T5
    go_wp2_with fail
    go_ret
    exact ⟨rfl, HT5.out.below (Nat.le_refl _) (fun _ _ f => f)⟩

end Go.Proofs.YtfaoifggkfmokaaDoor
