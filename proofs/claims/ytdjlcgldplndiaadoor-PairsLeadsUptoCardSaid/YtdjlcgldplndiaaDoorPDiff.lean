/- pairs.Diff. No condition but that there are no more than 2^42 pairs. -/
import Derived.Test.YtdjlcgldplndiaaDoorDiff6
namespace Go.Proofs.YtdjlcgldplndiaaDoor
open Go.RowKit

theorem less_is (a b : ByteArray) (v : Bool) (h : Op.bytesLess a.toList b.toList = v) (w : World) :
    Calls Tryd.prog 24 #[.string a, .string b] w fun e w' => e = .returned (.bool v) ∧ w' = w := by
  subst h
  go_enter Tryd.func24, Tryd.ntmps24
  go_wp2
  go_ret
  exact ⟨rfl, rfl⟩

theorem wpQuiet_cons {P : Program} {ops : Array Oper} {C : World → Prop} {Q : Act → Prop} {o : Oper} {l : List Oper} {a : Act} : wpQuiet P ops C Q (o :: l) a = (if Region.wanted o (yielded ops a.tmps) then o.quiet P a C (wpQuiet P ops C Q l) else wpQuiet P ops C Q l (a.put o.dst undef)) := rfl
theorem preads_cons {w : World} {A : Option Addr} {p : Nat} {x : PRow} {P : List PRow} (h : Reads w 2 A (p + 1) (pCells (x :: P))) :
    ∃ g off, A = some ⟨g, off, none⟩ ∧ g < w.heap.size ∧ w.cell? ⟨g, off, none⟩ = some (.string x.word) ∧ w.cell? ⟨g, off + 1, none⟩ = some (.int .i64 x.weight) := by
  obtain ⟨g, off, hA, hg, hc⟩ := h.2 (by omega)
  refine ⟨g, off, hA, hg, ?_, ?_⟩
  · have := hc 0 (.string x.word) rfl
    simpa using this
  · have := hc 1 (.int .i64 x.weight) rfl
    simpa using this
theorem preads_any {w : World} {A : Option Addr} {p : Nat} {x : PRow} {P : List PRow} (h : Reads w 2 A (p + 1) (pCells (x :: P))) :
    ∃ g off, A = some ⟨g, off, none⟩ ∧ ∀ w', Touch (fun _ => False) w w' → w'.cell? ⟨g, off, none⟩ = some (.string x.word) ∧ w'.cell? ⟨g, off + 1, none⟩ = some (.int .i64 x.weight) := by
  obtain ⟨g, off, hA, hg, h1, h2⟩ := preads_cons h
  exact ⟨g, off, hA, fun w' T => ⟨(T.cell (a := ⟨g, off, none⟩) hg (fun f => f)).trans h1, (T.cell (a := ⟨g, off + 1, none⟩) hg (fun f => f)).trans h2⟩⟩
theorem preads_tail {w : World} {g off c p : Nat} {x : PRow} {P : List PRow} (h : Reads w 2 (some ⟨g, off, none⟩) (p + 1) (pCells (x :: P))) (hc : p + 1 ≤ c) :
    Reads w 2 (if c = 1 then some ⟨g, off, none⟩ else some ⟨g, off + 2, none⟩) p (pCells P) := by
  have := h.cut (k := 1) (cap := c) (by omega) hc
  simpa [pCells, PRow.cells, Addr.add_lit] using this

/-- What is left of a list: its row, its rest, its room. -/
def Lft (w : World) (v : Value) (p c : Nat) (P : List PRow) : Prop := ∃ A, v = .slice A p c ∧ P.length = p ∧ Reads w 2 A p (pCells P) ∧ p ≤ c ∧ c ≤ maxLen

def MD (O P Q M : List PRow) : Prop := ∃ f, P.length + Q.length ≤ f ∧ O ++ mdiff f P Q = M
theorem MD.x0 {x : ByteArray} {n : Int} {O P M : List PRow} (h : MD O (⟨x, n⟩ :: P) [] M) : MD (O ++ [⟨x, 0⟩]) P [] M := by
  obtain ⟨f, hf, e⟩ := h
  cases f with
  | zero => simp at hf
  | succ f => exact ⟨f, by simp at hf ⊢; omega, by rw [← e, List.append_assoc]; rfl⟩
theorem MD.y0 {y : PRow} {O Q M : List PRow} (h : MD O [] (y :: Q) M) : MD (O ++ [y]) [] Q M := by
  obtain ⟨f, hf, e⟩ := h
  cases f with
  | zero => simp at hf
  | succ f => exact ⟨f, by simp at hf ⊢; omega, by rw [← e, List.append_assoc]; rfl⟩
theorem MD.lt {x y : ByteArray} {n m : Int} {O P Q M : List PRow} (h : MD O (⟨x, n⟩ :: P) (⟨y, m⟩ :: Q) M) (h1 : Op.bytesLess x.toList y.toList = true) : MD (O ++ [⟨x, 0⟩]) P (⟨y, m⟩ :: Q) M := by
  obtain ⟨f, hf, e⟩ := h
  cases f with
  | zero => simp at hf
  | succ f => exact ⟨f, by simp at hf ⊢; omega, by rw [← e, List.append_assoc, mdiff, if_pos (show plt ⟨x, n⟩ ⟨y, m⟩ = true from h1)]; rfl⟩
theorem MD.gt {x y : ByteArray} {n m : Int} {O P Q M : List PRow} (h : MD O (⟨x, n⟩ :: P) (⟨y, m⟩ :: Q) M) (h1 : Op.bytesLess x.toList y.toList = false) (h2 : Op.bytesLess y.toList x.toList = true) : MD (O ++ [⟨y, m⟩]) (⟨x, n⟩ :: P) Q M := by
  obtain ⟨f, hf, e⟩ := h
  cases f with
  | zero => simp at hf
  | succ f => exact ⟨f, by simp at hf ⊢; omega, by rw [← e, List.append_assoc, mdiff, if_neg (show ¬ plt ⟨x, n⟩ ⟨y, m⟩ = true from fun e => by rw [show Op.bytesLess x.toList y.toList = true from e] at h1; cases h1), if_pos (show plt ⟨y, m⟩ ⟨x, n⟩ = true from h2)]; rfl⟩
theorem MD.eq {x : ByteArray} {n : Int} {O P Q M : List PRow} (h : MD O (⟨x, n⟩ :: P) (⟨x, n⟩ :: Q) M) (h1 : Op.bytesLess x.toList x.toList = false) (_ : Op.bytesLess x.toList x.toList = false) : MD O P Q M := by
  obtain ⟨f, hf, e⟩ := h
  cases f with
  | zero => simp at hf
  | succ f =>
    have hn : ¬ plt ⟨x, n⟩ ⟨x, n⟩ = true := fun e => by rw [show Op.bytesLess x.toList x.toList = true from e] at h1; cases h1
    exact ⟨f, by simp at hf ⊢; omega, by rw [← e, mdiff, if_neg hn, if_neg hn, if_pos rfl]⟩
theorem MD.ne {x : ByteArray} {n m : Int} {O P Q M : List PRow} (h : MD O (⟨x, n⟩ :: P) (⟨x, m⟩ :: Q) M) (h1 : Op.bytesLess x.toList x.toList = false) (_ : Op.bytesLess x.toList x.toList = false) (hne : ¬ n = m) : MD (O ++ [⟨x, m⟩]) P Q M := by
  obtain ⟨f, hf, e⟩ := h
  cases f with
  | zero => simp at hf
  | succ f =>
    have hn : ∀ a b : Int, ¬ plt ⟨x, a⟩ ⟨x, b⟩ = true := fun a b e => by rw [show Op.bytesLess x.toList x.toList = true from e] at h1; cases h1
    exact ⟨f, by simp at hf ⊢; omega, by rw [← e, List.append_assoc, mdiff, if_neg (hn _ _), if_neg (hn _ _), if_neg hne]; rfl⟩

set_option maxRecDepth 100000 in
set_option maxHeartbeats 4000000 in
theorem pdiff_any (w : World) (s t : SL) (hs : s.Ok w) (ht : t.Ok w) (hsum : s.n + t.n ≤ 5864062014700) :
    Calls Tryd.prog 21 #[s.val, t.val] w fun e w' => ∃ A q c O X Y, e = .returned (.slice A q c) ∧ PNx w w' (.slice A q c) q O ∧ Nrm s.L X ∧ Nrm t.L Y ∧ Strict O ∧ (∀ k, key k O = d2 (key k X) (key k Y) (key k Y)) ∧ q ≤ s.n + t.n ∧ (A = none → q = 0 ∧ c = 0) := by
  obtain ⟨i0, hi, hz0, hz1, hz2⟩ := info_parts infoPair
  have HPN := hide (pnorm_any w s hs (by omega))
  have HPM := hide (fun w1 (T : Touch (fun _ => False) w w1) => pnorm_any w1 t (ht.touch T) (by omega))
  obtain ⟨sA, sn, sc, sL⟩ := s
  obtain ⟨tA, tn, tc, tL⟩ := t
  clear hs ht
  simp only at hsum
  simp only [SL.val] at HPN HPM
  simp only [SL.val]
  go_enter Tryd.func21, Tryd.ntmps21
  go_wp2_with fail
  refine HPN.out.mono ?_
  rintro e w1 ⟨A6, n6, c6, X, rfl, O6, nr6, T6, h6, k6, f6⟩
  have HT6 := hide T6
  have HO6 := hide O6
  have HNX := hide nr6
  clear T6 O6 nr6 k6 f6 HPN
  have HPM1 := hide (HPM.out w1 HT6.out)
  clear HPM
  go_wp2_with fail
  refine HPM1.out.mono ?_
  rintro e w2 ⟨A7, n7, c7, Y, rfl, O7, nr7, T7, h7, k7, f7⟩
  have HT2 := hide (HT6.out.then T7)
  have HNY := hide nr7
  obtain ⟨_, _, e6, hc6, hm6⟩ := own_len (own_touch HO6.out T7 (fun _ _ f => f))
  injection e6 with e61 e62 e63
  subst e61 e63
  obtain ⟨_, _, e7, hc7, hm7⟩ := own_len O7
  injection e7 with e71 e72 e73
  subst e71 e73
  clear e62 e72
  have lx : Lft w2 (.slice A6 n6 c6) n6 c6 X := ⟨_, rfl, (pown_len HO6.out).symm, Reads.of_own (own_touch HO6.out T7 (fun _ _ f => f)), by omega, hm6⟩
  have ly : Lft w2 (.slice A7 n7 c7) n7 c7 Y := ⟨_, rfl, (pown_len O7).symm, Reads.of_own O7, by omega, hm7⟩
  have HLX := hide lx
  have HLY := hide ly
  obtain ⟨F, hF⟩ : ∃ F, F = n6 + n7 := ⟨_, rfl⟩
  have HOK := hide (mdiff_ok F X Y HNX.out.1 HNY.out.1 (by rw [hF, pown_len HO6.out, pown_len O7]; exact Nat.le_refl _))
  have hFb : F ≤ sn + tn := by omega
  have HF := hide hF
  have HLL := hide (And.intro (pown_len HO6.out) (pown_len O7))
  clear T7 O7 nr7 k7 f7 h6 h7 hc6 hc7 hm6 hm7 lx ly hF HPM1 HO6
  go_wp2_with fail
  go_loopw [0, 1, 5] (fun xv yv ov wr => ∃ (p r q cx cy : Nat) (P Q O : List PRow) (A3 : Option Addr) (c3 : Nat), Hid (Lft w2 xv p cx P) ∧ Hid (Lft w2 yv r cy Q) ∧ ov = .slice A3 q c3 ∧ q + p + r ≤ F ∧ Hid (PNx w2 wr (.slice A3 q c3) q O) ∧ Hid (MD O P Q (mdiff F X Y))) (fun xv yv _ _ => (match xv with | .slice _ p _ => p | _ => 0) + (match yv with | .slice _ p _ => p | _ => 0))
  case atStart =>
    exact ⟨n6, n7, 0, c6, c7, X, Y, [], none, 0, HLX, HLY, rfl, by have := HF.out; omega, hide ⟨World.ownsRow_nil _ _ _ _, rfl, Touch.refl _ _, fun g e => by simp [Value.ownBlock] at e⟩, hide ⟨F, by rw [HF.out, HLL.out.1, HLL.out.2]; exact Nat.le_refl _, rfl⟩⟩
  case round =>
    obtain ⟨p, r, q, cx, cy, P, Q, O, A3, c3, HX, HY, rfl, hb, HN, HM⟩ := hrel
    obtain ⟨Ax, rfl, hpl, rx, hcx, hmx⟩ := HX.out
    obtain ⟨Ay, rfl, hql, ry, hcy, hmy⟩ := HY.out
    unfold maxLen at hmx hmy
    have HRX := hide rx
    have HRY := hide ry
    clear rx ry
    obtain ⟨_, _, e3, _, hm3⟩ := own_len HN.out.own
    injection e3 with e31 e32 e33
    subst e31 e33
    unfold maxLen at hm3
    clear e32
    cases P with
    | nil =>
      cases Q with
      | nil =>
        simp only [List.length_nil] at hpl hql
        subst hpl hql
        go_wp2_with fail
        go_ret
        obtain ⟨f, _, h⟩ := HM.out
        have hmo : O = mdiff F X Y := by
          rw [← h]
          cases f <;> simp [mdiff]
        have hN := HN.out
        refine ⟨A3, q, c3, O, X, Y, rfl, ⟨hN.own, hN.len, HT2.out.then hN.touch, fun b hb => by have h1 := hN.fresh b hb; have h2 := HT2.out.size; omega⟩, HNX.out, HNY.out, by rw [hmo]; exact HOK.out.1, by rw [hmo]; exact HOK.out.2, by omega, ?_⟩
        rintro rfl
        rcases hN.own.2 with ⟨e, _⟩ | ⟨g, cap, cur, e, _⟩
        · injection e with _ e1 e2
          exact ⟨e1, e2⟩
        · cases e
      | cons y Q =>
        obtain ⟨hp0, r, rfl⟩ : p = 0 ∧ ∃ r', r = r' + 1 := by simp only [List.length_cons, List.length_nil] at hpl hql; exact ⟨hpl.symm, Q.length, hql.symm⟩
        subst hp0
        have HQL : Hid (Q.length = r) := hide (by simpa using hql)
        obtain ⟨h, oy, rfl, hl2⟩ := preads_any HRY.out
        have HL2 := hide hl2
        have HTY := hide (preads_tail HRY.out hcy)
        obtain ⟨yw, yn⟩ := y
        simp only at HL2
        have j0 : (0 : Int) < ((r : Int) + 1) := by omega
        have j1 : (1 : Int) ≤ ((r : Int) + 1) := by omega
        have j3 : r + 1 ≤ cy := hcy
        have j4 : (1 : Int) ≤ (cy : Int) := by omega
        have j5 : ((r : Int) + 1) ≤ (cy : Int) := by omega
        have j6 : ¬ ((r : Int) + 1 = 0) := by omega
        clear hl2
        clear hpl hql
        go_wp2_with fail
        refine wp_region_quiet_lit (by kernel_rfl) (by kernel_rfl) ?_
        quiet_step (fail)
        quiet_step (fail)
        quiet_step (fail)
        quiet_step (fail)
        quiet_step (fail)
        quiet_step (fail)
        quiet_step (fail)
        quiet_step (fail)
        rw [wpQuiet_cons]
        go_simp
        rw [wpQuiet_cons]
        go_simp
        rw [wpQuiet_cons]
        go_simp
        rw [wpQuiet_cons]
        go_simp
        rw [wpQuiet_cons]
        go_simp
        rw [wpQuiet_cons]
        go_simp
        rw [wpQuiet_cons]
        go_simp
        rw [wpQuiet_cons]
        go_simp
        rw [wpQuiet_cons]
        go_simp
        quiet_step (fail)
        quiet_step (fail)
        quiet_step (fail)
        refine wpQuiet_nil ?_
        intro nq
        obtain ⟨wd, hwd⟩ : ∃ x, x = wr.drewN nq := ⟨_, rfl⟩
        have HN_wd := hide (HN.out.to (show Touch (fun _ => False) _ wd by rw [hwd]; exact (Touch.refl _ _).drewN _))
        rw [← hwd]
        clear hwd
        obtain ⟨m0, m1⟩ := HL2.out wd HN_wd.out.touch
        go_wp2_with fail
        go_quiet (fail)
        obtain ⟨we, hwd⟩ : ∃ x, x = wd.drewN nq := ⟨_, rfl⟩
        have HN_we := hide (HN_wd.out.to (show Touch (fun _ => False) _ we by rw [hwd]; exact (Touch.refl _ _).drewN _))
        rw [← hwd]
        clear hwd
        obtain ⟨m0, m1⟩ := HL2.out we HN_we.out.touch
        go_wp2_with (at_builtin; refine wpList_app _ rfl (.tmp 80) (.tmp 84) 22 rfl 29 i0 _ 2 24 Tryd.underlying22 hi hz0 hz1 hz2 rfl (by decide) (.slice A3 q c3) q _ rfl (own_touch HN_we.out.own ((Touch.refl _ _).alloc _) (fun _ _ f => f)) (some ⟨_, 0, none⟩) 1 1 (PRow.cells ⟨yw, yn⟩) rfl ?s1a ?s1b ?s1c ?s1d ?s1e ?_)
        case s1a => exact Reads.new _ _ _ _ rfl
        try (case s1b => exact fun h => by cases h)
        case s1c => exact List.all_eq_true.1 rfl
        case s1d => unfold maxLen; omega
        case s1e => omega
        intro v4 w4 hown hgrow hfr _
        have N4 := (HN_we.out.to ((Touch.refl _ _).alloc _)).app hown hgrow hfr
        obtain ⟨A4, c4, rfl, _, _⟩ := own_len hown
        have HN4 := hide N4
        clear N4 hown hgrow hfr
        go_wp2_with fail
        go_roundw
        · exact ⟨0, r, q + 1, cx, cy - 1, _, _, _, A4, c4, HX, hide ⟨_, rfl, HQL.out, HTY.out, by omega, by unfold maxLen; omega⟩, rfl, by omega, HN4, hide HM.out.y0⟩
        · simp only
          omega
    | cons x P =>
      cases Q with
      | nil =>
        obtain ⟨⟨p, rfl⟩, hr0⟩ : (∃ p', p = p' + 1) ∧ r = 0 := by simp only [List.length_cons, List.length_nil] at hpl hql; exact ⟨⟨P.length, hpl.symm⟩, hql.symm⟩
        subst hr0
        have HPL : Hid (P.length = p) := hide (by simpa using hpl)
        obtain ⟨g, off, rfl, hl⟩ := preads_any HRX.out
        have HL := hide hl
        have HTX := hide (preads_tail HRX.out hcx)
        obtain ⟨xw, xn⟩ := x
        simp only at HL
        have k0 : (0 : Int) < ((p : Int) + 1) := by omega
        have k1 : (1 : Int) ≤ ((p : Int) + 1) := by omega
        have k3 : p + 1 ≤ cx := hcx
        have k4 : (1 : Int) ≤ (cx : Int) := by omega
        have k5 : ((p : Int) + 1) ≤ (cx : Int) := by omega
        have k6 : ¬ ((p : Int) + 1 = 0) := by omega
        clear hl
        clear hpl hql
        go_wp2_with fail
        go_quiet (fail)
        obtain ⟨wd, hwd⟩ : ∃ x, x = wr.drewN nq := ⟨_, rfl⟩
        have HN_wd := hide (HN.out.to (show Touch (fun _ => False) _ wd by rw [hwd]; exact (Touch.refl _ _).drewN _))
        rw [← hwd]
        clear hwd
        obtain ⟨l0, l1⟩ := HL.out wd HN_wd.out.touch
        go_wp2_with (at_builtin; refine wpList_app _ rfl (.tmp 55) (.tmp 61) 22 rfl 29 i0 _ 2 24 Tryd.underlying22 hi hz0 hz1 hz2 rfl (by decide) (.slice A3 q c3) q _ rfl (own_touch HN_wd.out.own ((Touch.refl _ _).alloc _) (fun _ _ f => f)) (some ⟨_, 0, none⟩) 1 1 (PRow.cells ⟨xw, 0⟩) rfl ?s2a ?s2b ?s2c ?s2d ?s2e ?_)
        case s2a => exact Reads.new _ _ _ _ rfl
        try (case s2b => exact fun h => by cases h)
        case s2c => exact List.all_eq_true.1 rfl
        case s2d => unfold maxLen; omega
        case s2e => omega
        intro v4 w4 hown hgrow hfr _
        have N4 := (HN_wd.out.to ((Touch.refl _ _).alloc _)).app hown hgrow hfr
        obtain ⟨A4, c4, rfl, _, _⟩ := own_len hown
        have HN4 := hide N4
        clear N4 hown hgrow hfr
        go_wp2_with fail
        go_roundw
        · exact ⟨p, 0, q + 1, cx - 1, cy, _, _, _, A4, c4, hide ⟨_, rfl, HPL.out, HTX.out, by omega, by unfold maxLen; omega⟩, HY, rfl, by omega, HN4, hide HM.out.x0⟩
        · simp only
          omega
      | cons y Q =>
        obtain ⟨⟨p, rfl⟩, r, rfl⟩ : (∃ p', p = p' + 1) ∧ ∃ r', r = r' + 1 := by simp only [List.length_cons] at hpl hql; exact ⟨⟨P.length, hpl.symm⟩, Q.length, hql.symm⟩
        have HPL : Hid (P.length = p) := hide (by simpa using hpl)
        have HQL : Hid (Q.length = r) := hide (by simpa using hql)
        obtain ⟨g, off, rfl, hl⟩ := preads_any HRX.out
        have HL := hide hl
        have HTX := hide (preads_tail HRX.out hcx)
        obtain ⟨xw, xn⟩ := x
        simp only at HL
        have k0 : (0 : Int) < ((p : Int) + 1) := by omega
        have k1 : (1 : Int) ≤ ((p : Int) + 1) := by omega
        have k3 : p + 1 ≤ cx := hcx
        have k4 : (1 : Int) ≤ (cx : Int) := by omega
        have k5 : ((p : Int) + 1) ≤ (cx : Int) := by omega
        have k6 : ¬ ((p : Int) + 1 = 0) := by omega
        clear hl
        obtain ⟨h, oy, rfl, hl2⟩ := preads_any HRY.out
        have HL2 := hide hl2
        have HTY := hide (preads_tail HRY.out hcy)
        obtain ⟨yw, yn⟩ := y
        simp only at HL2
        have j0 : (0 : Int) < ((r : Int) + 1) := by omega
        have j1 : (1 : Int) ≤ ((r : Int) + 1) := by omega
        have j3 : r + 1 ≤ cy := hcy
        have j4 : (1 : Int) ≤ (cy : Int) := by omega
        have j5 : ((r : Int) + 1) ≤ (cy : Int) := by omega
        have j6 : ¬ ((r : Int) + 1 = 0) := by omega
        clear hl2
        clear hpl hql
        obtain ⟨l0, l1⟩ := HL.out wr HN.out.touch
        obtain ⟨m0, m1⟩ := HL2.out wr HN.out.touch
        cases hb1 : Op.bytesLess xw.toList yw.toList with
        | true =>
          have HB1 := hide hb1
          go_wp2_with fail
          go_quiet ((go_at_call 24; exact Calls.quiet_of_same (less_is _ _ _ HB1.out _)))
          obtain ⟨wd, hwd⟩ : ∃ x, x = wr.drewN nq := ⟨_, rfl⟩
          have HN_wd := hide (HN.out.to (show Touch (fun _ => False) _ wd by rw [hwd]; exact (Touch.refl _ _).drewN _))
          rw [← hwd]
          clear hwd
          obtain ⟨l0, l1⟩ := HL.out wd HN_wd.out.touch
          obtain ⟨m0, m1⟩ := HL2.out wd HN_wd.out.touch
          go_wp2_with (at_builtin; refine wpList_app _ rfl (.tmp 55) (.tmp 61) 22 rfl 29 i0 _ 2 24 Tryd.underlying22 hi hz0 hz1 hz2 rfl (by decide) (.slice A3 q c3) q _ rfl (own_touch HN_wd.out.own ((Touch.refl _ _).alloc _) (fun _ _ f => f)) (some ⟨_, 0, none⟩) 1 1 (PRow.cells ⟨xw, 0⟩) rfl ?s3a ?s3b ?s3c ?s3d ?s3e ?_)
          case s3a => exact Reads.new _ _ _ _ rfl
          try (case s3b => exact fun h => by cases h)
          case s3c => exact List.all_eq_true.1 rfl
          case s3d => unfold maxLen; omega
          case s3e => omega
          intro v4 w4 hown hgrow hfr _
          have N4 := (HN_wd.out.to ((Touch.refl _ _).alloc _)).app hown hgrow hfr
          obtain ⟨A4, c4, rfl, _, _⟩ := own_len hown
          have HN4 := hide N4
          clear N4 hown hgrow hfr
          go_wp2_with fail
          go_roundw
          · exact ⟨p, r + 1, q + 1, cx - 1, cy, _, _, _, A4, c4, hide ⟨_, rfl, HPL.out, HTX.out, by omega, by unfold maxLen; omega⟩, HY, rfl, by omega, HN4, hide (HM.out.lt HB1.out)⟩
          · simp only
            omega
        | false =>
          have HB1 := hide hb1
          cases hb2 : Op.bytesLess yw.toList xw.toList with
          | true =>
            have HB2 := hide hb2
            clear hb1 hb2
            go_wp2_with fail
            go_quiet ((go_at_call 24; exact Calls.quiet_of_same (less_is _ _ _ HB1.out _)))
            obtain ⟨wd, hwd⟩ : ∃ x, x = wr.drewN nq := ⟨_, rfl⟩
            have HN_wd := hide (HN.out.to (show Touch (fun _ => False) _ wd by rw [hwd]; exact (Touch.refl _ _).drewN _))
            rw [← hwd]
            clear hwd
            obtain ⟨l0, l1⟩ := HL.out wd HN_wd.out.touch
            obtain ⟨m0, m1⟩ := HL2.out wd HN_wd.out.touch
            go_wp2_with fail
            go_quiet ((go_at_call 24; exact Calls.quiet_of_same (less_is _ _ _ HB2.out _)))
            obtain ⟨we, hwd⟩ : ∃ x, x = wd.drewN nq := ⟨_, rfl⟩
            have HN_we := hide (HN_wd.out.to (show Touch (fun _ => False) _ we by rw [hwd]; exact (Touch.refl _ _).drewN _))
            rw [← hwd]
            clear hwd
            obtain ⟨l0, l1⟩ := HL.out we HN_we.out.touch
            obtain ⟨m0, m1⟩ := HL2.out we HN_we.out.touch
            go_wp2_with (at_builtin; refine wpList_app _ rfl (.tmp 80) (.tmp 84) 22 rfl 29 i0 _ 2 24 Tryd.underlying22 hi hz0 hz1 hz2 rfl (by decide) (.slice A3 q c3) q _ rfl (own_touch HN_we.out.own ((Touch.refl _ _).alloc _) (fun _ _ f => f)) (some ⟨_, 0, none⟩) 1 1 (PRow.cells ⟨yw, yn⟩) rfl ?s4a ?s4b ?s4c ?s4d ?s4e ?_)
            case s4a => exact Reads.new _ _ _ _ rfl
            try (case s4b => exact fun h => by cases h)
            case s4c => exact List.all_eq_true.1 rfl
            case s4d => unfold maxLen; omega
            case s4e => omega
            intro v4 w4 hown hgrow hfr _
            have N4 := (HN_we.out.to ((Touch.refl _ _).alloc _)).app hown hgrow hfr
            obtain ⟨A4, c4, rfl, _, _⟩ := own_len hown
            have HN4 := hide N4
            clear N4 hown hgrow hfr
            go_wp2_with fail
            go_roundw
            · exact ⟨p + 1, r, q + 1, cx, cy - 1, _, _, _, A4, c4, HX, hide ⟨_, rfl, HQL.out, HTY.out, by omega, by unfold maxLen; omega⟩, rfl, by omega, HN4, hide (HM.out.gt HB1.out HB2.out)⟩
            · simp only
              omega
          | false =>
            have hw : xw = yw := toList_inj (Classical.byContradiction fun hne => by
              rcases bl_total _ _ hne with e | e
              · rw [hb1] at e; cases e
              · rw [hb2] at e; cases e)
            subst hw
            have HB2 := hide hb2
            clear hb1 hb2
            by_cases hn : xn = yn
            · subst hn
              go_wp2_with fail
              go_quiet ((go_at_call 24; exact Calls.quiet_of_same (less_is _ _ _ HB1.out _)))
              obtain ⟨wd, hwd⟩ : ∃ x, x = wr.drewN nq := ⟨_, rfl⟩
              have HN_wd := hide (HN.out.to (show Touch (fun _ => False) _ wd by rw [hwd]; exact (Touch.refl _ _).drewN _))
              rw [← hwd]
              clear hwd
              obtain ⟨l0, l1⟩ := HL.out wd HN_wd.out.touch
              obtain ⟨m0, m1⟩ := HL2.out wd HN_wd.out.touch
              go_wp2_with fail
              go_quiet ((go_at_call 24; exact Calls.quiet_of_same (less_is _ _ _ HB2.out _)))
              obtain ⟨we, hwd⟩ : ∃ x, x = wd.drewN nq := ⟨_, rfl⟩
              have HN_we := hide (HN_wd.out.to (show Touch (fun _ => False) _ we by rw [hwd]; exact (Touch.refl _ _).drewN _))
              rw [← hwd]
              clear hwd
              obtain ⟨l0, l1⟩ := HL.out we HN_we.out.touch
              obtain ⟨m0, m1⟩ := HL2.out we HN_we.out.touch
              go_wp2_with fail
              go_quiet (fail)
              obtain ⟨wf, hwd⟩ : ∃ x, x = we.drewN nq := ⟨_, rfl⟩
              have HN_wf := hide (HN_we.out.to (show Touch (fun _ => False) _ wf by rw [hwd]; exact (Touch.refl _ _).drewN _))
              rw [← hwd]
              clear hwd
              obtain ⟨l0, l1⟩ := HL.out wf HN_wf.out.touch
              obtain ⟨m0, m1⟩ := HL2.out wf HN_wf.out.touch
              go_wp2_with fail
              go_quiet (fail)
              obtain ⟨wg, hwd⟩ : ∃ x, x = wf.drewN nq := ⟨_, rfl⟩
              have HN_wg := hide (HN_wf.out.to (show Touch (fun _ => False) _ wg by rw [hwd]; exact (Touch.refl _ _).drewN _))
              rw [← hwd]
              clear hwd
              obtain ⟨l0, l1⟩ := HL.out wg HN_wg.out.touch
              obtain ⟨m0, m1⟩ := HL2.out wg HN_wg.out.touch
              go_wp2_with fail
              go_roundw
              · exact ⟨p, r, q, cx - 1, cy - 1, _, _, _, A3, c3, hide ⟨_, rfl, HPL.out, HTX.out, by omega, by unfold maxLen; omega⟩, hide ⟨_, rfl, HQL.out, HTY.out, by omega, by unfold maxLen; omega⟩, rfl, by omega, HN_wg, hide (HM.out.eq HB1.out HB2.out)⟩
              · simp only
                omega
            · have q1 : (xn == yn) = false := by simp [hn]
              have q2 : decide (xn = yn) = false := by simp [hn]
              have HNE := hide hn
              go_wp2_with fail
              go_quiet ((go_at_call 24; exact Calls.quiet_of_same (less_is _ _ _ HB1.out _)))
              obtain ⟨wd, hwd⟩ : ∃ x, x = wr.drewN nq := ⟨_, rfl⟩
              have HN_wd := hide (HN.out.to (show Touch (fun _ => False) _ wd by rw [hwd]; exact (Touch.refl _ _).drewN _))
              rw [← hwd]
              clear hwd
              obtain ⟨l0, l1⟩ := HL.out wd HN_wd.out.touch
              obtain ⟨m0, m1⟩ := HL2.out wd HN_wd.out.touch
              go_wp2_with fail
              go_quiet ((go_at_call 24; exact Calls.quiet_of_same (less_is _ _ _ HB2.out _)))
              obtain ⟨we, hwd⟩ : ∃ x, x = wd.drewN nq := ⟨_, rfl⟩
              have HN_we := hide (HN_wd.out.to (show Touch (fun _ => False) _ we by rw [hwd]; exact (Touch.refl _ _).drewN _))
              rw [← hwd]
              clear hwd
              obtain ⟨l0, l1⟩ := HL.out we HN_we.out.touch
              obtain ⟨m0, m1⟩ := HL2.out we HN_we.out.touch
              go_wp2_with fail
              go_quiet (fail)
              obtain ⟨wf, hwd⟩ : ∃ x, x = we.drewN nq := ⟨_, rfl⟩
              have HN_wf := hide (HN_we.out.to (show Touch (fun _ => False) _ wf by rw [hwd]; exact (Touch.refl _ _).drewN _))
              rw [← hwd]
              clear hwd
              obtain ⟨l0, l1⟩ := HL.out wf HN_wf.out.touch
              obtain ⟨m0, m1⟩ := HL2.out wf HN_wf.out.touch
              go_wp2_with (at_builtin; refine wpList_app _ rfl (.tmp 25) (.tmp 29) 22 rfl 29 i0 _ 2 24 Tryd.underlying22 hi hz0 hz1 hz2 rfl (by decide) (.slice A3 q c3) q _ rfl (own_touch HN_wf.out.own ((Touch.refl _ _).alloc _) (fun _ _ f => f)) (some ⟨_, 0, none⟩) 1 1 (PRow.cells ⟨xw, yn⟩) rfl ?s5a ?s5b ?s5c ?s5d ?s5e ?_)
              case s5a => exact Reads.new _ _ _ _ rfl
              try (case s5b => exact fun h => by cases h)
              case s5c => exact List.all_eq_true.1 rfl
              case s5d => unfold maxLen; omega
              case s5e => omega
              intro v4 w4 hown hgrow hfr _
              have N4 := (HN_wf.out.to ((Touch.refl _ _).alloc _)).app hown hgrow hfr
              obtain ⟨A4, c4, rfl, _, _⟩ := own_len hown
              have HN4 := hide N4
              clear N4 hown hgrow hfr
              go_wp2_with fail
              go_quiet (fail)
              obtain ⟨wg, hwd⟩ : ∃ x, x = w4.drewN nq := ⟨_, rfl⟩
              have HN_wg := hide (HN4.out.to (show Touch (fun _ => False) _ wg by rw [hwd]; exact (Touch.refl _ _).drewN _))
              rw [← hwd]
              clear hwd
              obtain ⟨l0, l1⟩ := HL.out wg HN_wg.out.touch
              obtain ⟨m0, m1⟩ := HL2.out wg HN_wg.out.touch
              go_wp2_with fail
              go_roundw
              · exact ⟨p, r, q + 1, cx - 1, cy - 1, _, _, _, A4, c4, hide ⟨_, rfl, HPL.out, HTX.out, by omega, by unfold maxLen; omega⟩, hide ⟨_, rfl, HQL.out, HTY.out, by omega, by unfold maxLen; omega⟩, rfl, by omega, HN_wg, hide (HM.out.ne HB1.out HB2.out HNE.out)⟩
              · simp only
                omega

end Go.Proofs.YtdjlcgldplndiaaDoor
