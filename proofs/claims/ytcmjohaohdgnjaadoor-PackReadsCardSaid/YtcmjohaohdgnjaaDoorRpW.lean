/- ref08.Pairs on any machine. Condition: the labels are numbers of 32 bits. -/
import Derived.Test.YtcmjohaohdgnjaaDoorRfW
import Derived.Test.YtcmjohaohdgnjaaDoorRfT
namespace Go.Proofs.YtcmjohaohdgnjaaDoor
open Go.RowKit
set_option linter.unusedSectionVars false
set_option linter.unusedSimpArgs false
set_option linter.unusedVariables false
variable [Inhabited BaseT]

def natP (r : List Nat × Int) : Wz := (r.1.map natI, r.2)
def rowP (r : List Nat × Int) : PRow := ⟨⟨(r.1.flatMap writeU).toArray⟩, r.2⟩
def wC0 (sts : List StZ) (base : Int) : List Wz := wC sts 26 (sts.length - 1) [] base []
/-- What ref08.Pairs asks ahead of the words. -/
def RHead (sts : List StZ) (base : Int) : Prop := sts.length ≤ 98305 ∧ 1 ≤ base ∧ base ≤ 1048576 ∧ ∀ j, j < sts.length → RForm j (sts.getD j zSt)
def PreZ (W : List Wz) (L : List PRow) : Prop := ∃ Rs : List (List Nat × Int), W = Rs.map natP ∧ (∀ r ∈ Rs, ∀ c ∈ r.1, scal c = true) ∧ L = Rs.map rowP
/-- The pairs that ref08.Pairs tells. -/
def RPz (sts : List StZ) (base : Int) (L : List PRow) : Prop := (sts = [] ∧ L = []) ∨ (sts ≠ [] ∧ RHead sts base ∧ PreZ (wC0 sts base) L)
def RPairsPost (sts : List StZ) (base : Int) (e : Ending) (w' : World) : Prop :=
  (∃ (L : List PRow) (A : Option Addr) (n c : Nat), e = .returned (.tuple #[.slice A n c, .bool true]) ∧ RPz sts base L ∧ SL.Ok ⟨A, n, c, L⟩ w' ∧ n ≤ 4097 ∧ ∀ r ∈ L, r.word.size ≤ 100) ∨
  (e = .returned (.tuple #[.slice none 0 0, .bool false]) ∧ ¬ ∃ L, RPz sts base L)
def WzOk (e : Wz) : Prop := e.1.length ≤ 25 ∧ ∀ x ∈ e.1, I32 x
theorem wC_ok (sts : List StZ) (hl : ∀ z ∈ sts, ∀ a ∈ z.arcs, I32 a.1) : ∀ (f i : Nat) (hd : List Int) (sm : Int) (fd : List Wz), hd.length ≤ 25 → (∀ x ∈ hd, I32 x) → (∀ e ∈ fd, WzOk e) → ∀ e ∈ wC sts f i hd sm fd, WzOk e
  | 0, _, _, _, _, _, _, h => h
  | f + 1, i, hd, sm, fd, h1, h2, h3 => by
    have hap : ∀ e ∈ fd ++ [(hd, sm + (sts.getD i zSt).out)], WzOk e := fun e he => by
      rcases List.mem_append.1 he with he | he
      · exact h3 e he
      · rw [List.mem_singleton.1 he]
        exact ⟨h1, h2⟩
    simp only [wC]
    split
    · exact h3
    · split
      · exact hap
      · rename_i hlt
        have hla : ∀ a ∈ (sts.getD i zSt).arcs, I32 a.1 := by
          by_cases hi : i < sts.length
          · exact hl _ (getD_mem sts zSt i hi)
          · intro a ha
            rw [show sts.getD i zSt = zSt by simp [List.getD, Nat.le_of_not_lt hi]] at ha
            cases ha
        have gen : ∀ (l : List (Int × Int × Int)) (fd : List Wz), (∀ a ∈ l, I32 a.1) → (∀ e ∈ fd, WzOk e) → ∀ e ∈ l.foldl (fun fd a => wC sts f a.2.2.toNat (hd ++ [a.1]) (sm + a.2.1) fd) fd, WzOk e := by
          intro l
          induction l with
          | nil => intro fd _ h; exact h
          | cons a l ih =>
            intro fd ha h
            refine ih _ (fun b hb => ha b (List.mem_cons_of_mem _ hb)) (wC_ok sts hl f _ _ _ _ (by simp; omega) ?_ h)
            intro x hx
            rcases List.mem_append.1 hx with hx | hx
            · exact h2 x hx
            · rw [List.mem_singleton.1 hx]
              exact ha a List.mem_cons_self
        refine gen _ _ hla ?_
        split
        · exact hap
        · exact h3
theorem preZ_zero (W : List Wz) : PreZ (W.take 0) [] := ⟨[], rfl, fun r hr => (by cases hr), rfl⟩
theorem preZ_step {W : List Wz} {i : Nat} {L : List PRow} (hi : i < W.length) (h : PreZ (W.take i) L) {R : List Nat} {O : List Int} {x : Int} (hW : W.getD i ([], 0) = (O, x)) (hO : O = R.map natI) (hR : ∀ r ∈ R, scal r = true) : PreZ (W.take (i + 1)) (L ++ [⟨⟨(R.flatMap writeU).toArray⟩, x⟩]) := by
  obtain ⟨Rs, h1, h2, h3⟩ := h
  refine ⟨Rs ++ [(R, x)], ?_, ?_, ?_⟩
  · rw [take_snoc W ([], 0) i hi, h1, hW, hO, List.map_append]
    rfl
  · intro r hr
    rcases List.mem_append.1 hr with hr | hr
    · exact h2 r hr
    · rw [List.mem_singleton.1 hr]
      exact hR
  · rw [h3, List.map_append]
    rfl
theorem preZ_no {W : List Wz} {i : Nat} (hi : i < W.length) {O : List Int} {x : Int} (hW : W.getD i ([], 0) = (O, x)) (hno : ¬ ∃ R : List Nat, O = R.map natI ∧ ∀ r ∈ R, scal r = true) : ¬ ∃ L, PreZ W L := by
  rintro ⟨L, Rs, rfl, h2, _⟩
  rw [List.length_map] at hi
  have e : (Rs.map natP).getD i ([], 0) = natP (Rs.getD i ([], 0)) := by simp [List.getD, hi]
  rw [e] at hW
  simp only [natP, Prod.mk.injEq] at hW
  exact hno ⟨(Rs.getD i ([], 0)).1, hW.1.symm, h2 _ (getD_mem Rs ([], 0) i hi)⟩
theorem flat_size (R : List Nat) : (R.flatMap writeU).length ≤ 4 * R.length := by
  induction R with
  | nil => simp
  | cons r R ih =>
    rw [List.flatMap_cons, List.length_append, List.length_cons]
    have := write_len r
    omega
theorem rzCells_at (X : List RVz) (k : Nat) (hk : k < X.length) (j : Nat) (hj : j < 2) : (rzCells X)[k * 2 + j]? = some ((X.getD k ⟨none, 0, 0, [], 0⟩).cells.getD j undef) := by
  have h := flat_at RVz.cells 2 (fun _ => rfl) X k j hk hj
  unfold rzCells
  rw [h]
  have e : X.getD k ⟨none, 0, 0, [], 0⟩ = X[k] := by simp [List.getD, hk]
  rw [e]
  have hl : (X[k].cells).length = 2 := rfl
  rw [List.getD_eq_getElem?_getD, List.getElem?_eq_getElem (by rw [hl]; exact hj)]
  rfl
theorem rz_at {w : World} {A : Option Addr} {n : Nat} {X : List RVz} (h : Reads w 2 A n (rzCells X)) (hn : X.length = n) (k : Nat) (hk : k < n) :
    ∃ g off, A = some ⟨g, off, none⟩ ∧ g < w.heap.size ∧ w.cell? ⟨g, off + k * 2, none⟩ = some (.slice (X.getD k ⟨none, 0, 0, [], 0⟩).A (X.getD k ⟨none, 0, 0, [], 0⟩).q (X.getD k ⟨none, 0, 0, [], 0⟩).c) ∧ w.cell? ⟨g, off + k * 2 + 1, none⟩ = some (.int .i64 (X.getD k ⟨none, 0, 0, [], 0⟩).wt) := by
  obtain ⟨g, off, hA, hg, hc⟩ := h.2 (by omega)
  refine ⟨g, off, hA, hg, ?_, ?_⟩
  · exact hc _ _ (rzCells_at X k (by omega) 0 (by omega))
  · exact hc _ _ (rzCells_at X k (by omega) 1 (by omega))
theorem sl_of_own {w : World} {A : Option Addr} {n c : Nat} {L : List PRow} (h : w.ownsRow 0 36 2 (.slice A n c) n (pCells L)) (hl : L.length = n) : SL.Ok ⟨A, n, c, L⟩ w := by
  refine ⟨hl, Reads.of_own h, fun e => ?_⟩
  simp only at e
  subst e
  rcases h.2 with ⟨e, e2⟩ | ⟨g', cap, cur, e, _⟩
  · injection e with _ e3 e4
    exact ⟨e3, e4⟩
  · injection e with e
    cases e
theorem pCells_snoc (L : List PRow) (s : ByteArray) (x : Int) : pCells L ++ [.string s, .int .i64 x] = pCells (L ++ [⟨s, x⟩]) := by
  unfold pCells
  rw [List.flatMap_append]
  rfl

set_option maxRecDepth 100000 in
set_option maxHeartbeats 8000000 in
theorem rpairs_any (w : World) (base : Int) (A : Option Addr) (n c : Nat) (Z : List ZV) (hst : StsZ w A n Z) (hnm : n ≤ maxLen) (hlab : ∀ z ∈ Z, ∀ a ∈ z.arcs, I32 a.1) (hbs : bs ≤ w.heap.size) :
    Calls Tryd.prog 25 #[.agg #[.int .i64 base, .slice A n c]] w fun e w' => RPairsPost (Z.map ZV.p) base e w' ∧ Touch (fun _ => False) w w' := by
  obtain ⟨w1, hw1⟩ : ∃ x, x = w.alloc (.cells #[.int .i64 base, .slice A n c] 24) := ⟨_, rfl⟩
  have hT1 : Touch (fun _ => False) w w1 := by rw [hw1]; exact (Touch.refl _ _).alloc _
  have hb1 : Blk w1 w.heap.size 24 #[.int .i64 base, .slice A n c] := by rw [hw1]; exact Blk.new _ _ _
  have HT1 := hide hT1
  have HB1 := hide hb1
  have HW1 := hide hw1
  have hzl := hst.len
  clear hT1 hb1 hw1
  by_cases hn0 : n = 0
  · subst hn0
    have hz : Z = [] := List.eq_nil_of_length_eq_zero hzl
    subst hz
    clear hst hlab hbs hzl
    go_enter Tryd.func25, Tryd.ntmps25
    go_wp2_with fail
    go_ret2
    exact ⟨.inl ⟨[], none, 0, 0, rfl, .inl ⟨rfl, rfl⟩, ⟨rfl, Reads.nil _ _ _, fun _ => ⟨rfl, rfl⟩⟩, Nat.zero_le _, fun r hr => by cases hr⟩, (Touch.refl _ _).alloc _⟩
  have hpos : 0 < n := by omega
  have y4 : ((n : Int) == 0) = false := by simp; omega
  have hne : Z.map ZV.p ≠ [] := fun e => by
    have := congrArg List.length e
    rw [List.length_map, hzl] at this
    exact hn0 this
  have hbad : ¬ RHead (Z.map ZV.p) base → ¬ ∃ L, RPz (Z.map ZV.p) base L := by
    rintro h ⟨L, ⟨h1, _⟩ | ⟨_, h2, _⟩⟩
    · exact hne h1
    · exact h h2
  by_cases hbig : 98305 < n
  · have y0 : (98305 : Int) < (n : Int) := by omega
    have hno := hbad (fun h => by have := h.1; rw [List.length_map, hzl] at this; omega)
    have HNO := hide hno
    clear hst hlab hbs hzl hno hbad hne hbig hn0
    go_enter Tryd.func25, Tryd.ntmps25
    go_wp2_with fail
    go_ret2
    exact ⟨.inr ⟨rfl, HNO.out⟩, (Touch.refl _ _).alloc _⟩
  have y0 : ¬ (98305 : Int) < (n : Int) := by omega
  by_cases hb1 : base < 1
  · have hno := hbad (fun h => by have := h.2.1; omega)
    have HNO := hide hno
    clear hst hlab hbs hzl hno hbad hne hbig hn0
    go_enter Tryd.func25, Tryd.ntmps25
    go_wp2_with fail
    go_ret2
    exact ⟨.inr ⟨rfl, HNO.out⟩, (Touch.refl _ _).alloc _⟩
  by_cases hb2 : 1048576 < base
  · have hno := hbad (fun h => by have := h.2.2.1; omega)
    have HNO := hide hno
    clear hst hlab hbs hzl hno hbad hne hbig hn0
    go_enter Tryd.func25, Tryd.ntmps25
    go_wp2_with fail
    go_ret2
    exact ⟨.inr ⟨rfl, HNO.out⟩, (Touch.refl _ _).alloc _⟩
  have z1 : IntKind.i64.wrap ((n : Int) - 1) = (n : Int) - 1 := IntWalk.i64_in _ (by omega)
  have HST := hide hst
  have HLAB := hide hlab
  have HBS := hide hbs
  have HZL := hide hzl
  have HBAD := hide hbad
  have HNE := hide hne
  have HN := hide hbig
  have HBB := hide (show 1 ≤ base ∧ base ≤ 1048576 by omega)
  obtain ⟨g, o, hA, _⟩ := zstate_at hst.rd.rd hzl 0 hpos
  subst hA
  clear hst hlab hbs hzl hbad hne hbig hn0
  go_enter Tryd.func25, Tryd.ntmps25
  go_wp2_with fail
  rw [← HW1.out]
  go_loopw [4] (fun iv wr => ∃ i : Nat, iv = .int .i64 i ∧ i ≤ n ∧ Hid (∀ k, k < i → RForm k (Z.getD k zvZero).p) ∧ Hid (Touch (fun _ => False) w1 wr)) (fun iv _ => n - (intOf iv).toNat)
  case atStart => exact ⟨0, rfl, Nat.zero_le _, hide (fun k h => absurd h (Nat.not_lt_zero _)), hide (Touch.refl _ _)⟩
  case round =>
    obtain ⟨i, rfl, hin, HF, HT⟩ := hrel
    obtain ⟨m0, m1, m2⟩ := (HB1.out.touch HT.out (fun f => f)).facts
    by_cases hin2 : i < n
    · have x1 : (i : Int) < (n : Int) := by omega
      have x2 : (0 : Int) ≤ (i : Int) := by omega
      have x3 : IntKind.i64.wrap ((i : Int) + 1) = (i : Int) + 1 := IntWalk.i64_in _ (by omega)
      have hstr := HST.out.quiet (HT1.out.then HT.out)
      obtain ⟨g', o', hA, _, d0, d1, d2⟩ := zstate_at hstr.rd.rd HZL.out i hin2
      obtain ⟨rfl, rfl⟩ : g' = g ∧ o' = o := by injection hA with hA; injection hA with e1 e2; exact ⟨e1.symm, e2.symm⟩
      have hzo := hstr.el _ (getD_mem Z zvZero i (by rw [HZL.out]; exact hin2))
      have hgz : (Z.map ZV.p).getD i zSt = (Z.getD i zvZero).p := by simp [List.getD, HZL.out, hin2]
      have hbadf : ¬ RForm i (Z.getD i zvZero).p → ¬ ∃ L, RPz (Z.map ZV.p) base L := fun h => HBAD.out (fun hh => h (by rw [← hgz]; exact hh.2.2.2 i (by rw [List.length_map, HZL.out]; exact hin2)))
      have hcall := rformed_any wr _ hzo i
      obtain ⟨z, hz⟩ : ∃ z, Z.getD i zvZero = z := ⟨_, rfl⟩
      rw [hz] at d0 d1 d2 hbadf hcall
      have HZ := hide hz
      have HIN := hide hin2
      have HBADF := hide hbadf
      have HCALL := hide hcall
      clear hA hstr hzo hgz hz hbadf hcall hin2 hin
      go_wp2_with fail
      refine HCALL.out.mono ?_
      rintro e w2 ⟨⟨v, rfl, hv⟩, T2⟩
      have HT2 := hide (HT.out.then T2)
      have HV := hide hv
      clear hv T2
      cases v with
      | true =>
        go_wp2_with fail
        go_roundw
        · refine ⟨i + 1, by simp, by have := HIN.out; omega, hide ?_, HT2⟩
          intro k hk
          rcases Nat.lt_or_ge k i with h | h
          · exact HF.out k h
          · rw [show k = i by omega, HZ.out]
            exact HV.out.1 (by simp)
        · have := HIN.out
          simp only [intOf]
          omega
      | false =>
        go_wp2_with fail
        go_ret2
        exact ⟨.inr ⟨rfl, HBADF.out (fun h => by have := HV.out.2 h; cases this)⟩, HT1.out.then HT2.out⟩
    · have hie : i = n := by omega
      subst hie
      have x1 : ¬ (i : Int) < (i : Int) := by omega
      have hnw := words_any Z i HF.out (by have := HN.out; omega) 26 wr (i - 1) none 0 0 [] base none 0 0 [] base (some ⟨g, o, none⟩) c (HST.out.quiet (HT1.out.then HT.out)) (by omega) ⟨Reads.nil _ _ _, fun h => absurd h (Nat.lt_irrefl _)⟩ (fun _ => ⟨rfl, rfl⟩) rfl (by omega) (by omega) (by have := HBB.out; omega) (by have := HBB.out; simp; omega) (World.ownsRow_nil _ _ _ _) rfl (by omega) (fun v hv => by cases hv) (fun g h => by cases h) (by have h1 := HBS.out; have h2 := (HT1.out.then HT.out).size; omega)
      rw [show (((i - 1 : Nat) : Int)) = (i : Int) - 1 by omega] at hnw
      obtain ⟨W, hW⟩ : ∃ W, wC (Z.map ZV.p) 26 (i - 1) [] base (([] : List RVz).map RVz.p) = W := ⟨_, rfl⟩
      have hW0 : wC0 (Z.map ZV.p) base = W := by
        rw [← hW]
        unfold wC0
        rw [List.length_map, HZL.out]
        rfl
      have hWl : W.length ≤ 4097 := by rw [← hW]; exact wC_len _ _ _ _ _ _ (Nat.zero_le _)
      have hWo : ∀ e ∈ W, WzOk e := by
        rw [← hW]
        refine wC_ok _ ?_ _ _ _ _ _ (Nat.zero_le _) (fun x hx => by cases hx) (fun e he => by cases he)
        intro z hz
        obtain ⟨y, hy, rfl⟩ := List.mem_map.1 hz
        exact HLAB.out y hy
      have hhead : RHead (Z.map ZV.p) base := by
        refine ⟨by rw [List.length_map, HZL.out]; have := HN.out; omega, HBB.out.1, HBB.out.2, fun j hj => ?_⟩
        rw [List.length_map, HZL.out] at hj
        have e : (Z.map ZV.p).getD j zSt = (Z.getD j zvZero).p := by simp [List.getD, HZL.out, hj]
        rw [e]
        exact HF.out j hj
      rw [hW] at hnw
      have HCALL := hide hnw
      have HWO := hide hWo
      have HWL := hide hWl
      have HW0 := hide hW0
      have HH := hide hhead
      clear hnw hWo hWl hW0 hhead hW hin2
      go_wp2_with fail
      refine HCALL.out.mono ?_
      rintro e w3 ⟨A3, n3, c3, V, rfl, hO3, hl3, he3, hp3, T3, _⟩
      have HT3 := hide (HT.out.then (T3.mono (fun _ _ h => by cases h)))
      have HO3 := hide hO3
      have HL3 := hide hl3
      have HE3 := hide he3
      have HP3 := hide hp3
      have hn3 : n3 ≤ 4097 := by rw [← hl3, ← List.length_map (f := RVz.p), hp3]; exact HWL.out
      clear hO3 hl3 he3 hp3 T3 m0 m1 m2
      go_wp2_with fail
      go_loopw [5, 7] (fun lv iv wr => ∃ (i : Nat) (A2 : Option Addr) (c2 : Nat) (L : List PRow), lv = .slice A2 i c2 ∧ iv = .int .i64 i ∧ i ≤ n3 ∧ Hid (ONx 36 2 w3 wr (.slice A2 i c2) i (pCells L)) ∧ Hid (L.length = i) ∧ Hid (PreZ (W.take i) L) ∧ Hid (∀ r ∈ L, r.word.size ≤ 100)) (fun _ iv _ => n3 - (intOf iv).toNat)
      case atStart => exact ⟨0, none, 0, [], rfl, rfl, Nat.zero_le _, hide (ONx.nil _ _ _), hide rfl, hide (preZ_zero _), hide (fun r hr => by cases hr)⟩
      case round =>
        obtain ⟨k, A2, c2, L, rfl, rfl, hkn, HON, HLL, HPR, HSZ⟩ := hrel
        by_cases hk2 : k < n3
        · have x1 : (k : Int) < (n3 : Int) := by omega
          have x2 : (0 : Int) ≤ (k : Int) := by omega
          have x3 : IntKind.i64.wrap ((k : Int) + 1) = (k : Int) + 1 := IntWalk.i64_in _ (by omega)
          have hkV : k < V.length := by rw [HL3.out]; exact hk2
          obtain ⟨ga, oa, hA, _, _⟩ := rz_at (Reads.of_own HO3.out) HL3.out k hk2
          subst hA
          have hcell : ∀ wx, Touch (fun _ => False) w3 wx → wx.cell? ⟨ga, oa + k * 2, none⟩ = some (.slice (V.getD k ⟨none, 0, 0, [], 0⟩).A (V.getD k ⟨none, 0, 0, [], 0⟩).q (V.getD k ⟨none, 0, 0, [], 0⟩).c) ∧ wx.cell? ⟨ga, oa + k * 2 + 1, none⟩ = some (.int .i64 (V.getD k ⟨none, 0, 0, [], 0⟩).wt) := fun wx T => by
            obtain ⟨gb, ob, hB, _, b0, b1⟩ := rz_at ((Reads.of_own HO3.out).touch T (fun _ _ f => f)) HL3.out k hk2
            injection hB with hB
            injection hB with e1 e2
            subst e1
            subst e2
            exact ⟨b0, b1⟩
          have hvo := HE3.out _ (getD_mem V ⟨none, 0, 0, [], 0⟩ k hkV)
          have hWk : W.getD k ([], 0) = (V.getD k ⟨none, 0, 0, [], 0⟩).p := by
            rw [← HP3.out]
            simp [List.getD, hkV]
          have hkW : k < W.length := by rw [← HP3.out, List.length_map]; exact hkV
          have hwz := HWO.out _ (getD_mem W ([], 0) k hkW)
          rw [hWk] at hwz
          obtain ⟨⟨vA, vq, vc, O, x⟩, hv⟩ : ∃ v, V.getD k ⟨none, 0, 0, [], 0⟩ = v := ⟨_, rfl⟩
          rw [hv] at hvo hWk hwz hcell
          simp only [RVz.p] at hWk hwz
          simp only at hcell
          have hvl := hvo.len
          simp only at hvl
          have hcall : ∀ wx, Touch (fun _ => False) w3 wx → Calls Tryd.prog 46 #[.slice vA vq vc] wx fun e w' => RTextPost O e ∧ Touch (fun _ => False) wx w' := fun wx T =>
            rtext_any wx vA vq vc O (hvo.rd.rd.touch T (fun _ _ f => f)) hvl (by have := hwz.1; simp only at this; omega) hwz.2
          obtain ⟨b0, b1⟩ := hcell wr HON.out.touch
          have HCELL := hide hcell
          have HC2 := hide hcall
          have HWK := hide hWk
          have HWZ := hide hwz.1
          have HKW := hide hkW
          have HK2 := hide hk2
          clear hkV hcell hvo hWk hkW hwz hv hvl hcall hk2 hkn
          go_wp2_with fail
          refine (HC2.out wr HON.out.touch).mono ?_
          rintro e w4 ⟨⟨R, hO, hR, rfl⟩ | ⟨hno, rfl⟩, T4⟩
          · have HO := hide hO
            have HR := hide hR
            have hON4 := HON.out.to T4
            obtain ⟨b0, b1⟩ := HCELL.out w4 hON4.touch
            have HON4 := hide hON4
            obtain ⟨s, hs⟩ : ∃ s : ByteArray, s = ⟨(R.flatMap writeU).toArray⟩ := ⟨_, rfl⟩
            rw [← hs]
            have HS := hide hs
            clear hO hR T4 hON4 hs
            obtain ⟨i1, hi1, hy0, hy1, hy2⟩ := info_parts infoPair
            have hbb : k + 1 ≤ maxLen ∧ (k + 1) * 24 ≤ 140737488355328 := by
              have := HK2.out
              unfold maxLen
              omega
            have HB := hide hbb
            clear hbb
            go_wp2_with (at_builtin; refine wpList_app _ rfl (.tmp 68) (.tmp 76) 27 rfl 36 i1 _ 2 24 Tryd.underlying27 hi1 hy0 hy1 hy2 rfl (by decide) (.slice A2 k c2) k _ rfl (own_touch HON4.out.own ((Touch.refl _ _).alloc _) (fun _ _ f => f)) (some ⟨w4.heap.size, 0, none⟩) 1 1 [.string s, .int .i64 x] rfl (Reads.new w4 _ _ 1 rfl) (fun h => by cases h) (List.all_eq_true.1 rfl) HB.out.1 HB.out.2 ?_; intro v1 w5 O5 G5 F5 _; obtain ⟨A5, c5, hv, _, _⟩ := own_len O5; subst hv; have HON5 := hide ((HON4.out.to ((Touch.refl _ _).alloc _)).app O5 G5 F5); clear O5 G5 F5)
            go_roundw
            · refine ⟨k + 1, A5, c5, L ++ [⟨s, x⟩], rfl, by simp, by have := HK2.out; omega, hide ?_, hide (by rw [List.length_append, HLL.out]; rfl), hide ?_, hide ?_⟩
              · rw [← pCells_snoc]
                exact HON5.out
              · rw [HS.out]
                exact preZ_step HKW.out HPR.out HWK.out HO.out HR.out
              · intro r hr
                rcases List.mem_append.1 hr with hr | hr
                · exact HSZ.out r hr
                · rw [List.mem_singleton.1 hr, HS.out]
                  have h1 := HWZ.out
                  rw [HO.out] at h1
                  simp only [List.length_map] at h1
                  have h2 := flat_size R
                  have h3 : (⟨(R.flatMap writeU).toArray⟩ : ByteArray).size = (R.flatMap writeU).length := List.size_toArray
                  simp only
                  omega
            · have := HK2.out
              simp only [intOf]
              omega
          · have HNO := hide hno
            have HT4 := hide (HON.out.touch.then T4)
            clear hno T4
            go_wp2_with fail
            go_ret2
            refine ⟨.inr ⟨rfl, ?_⟩, HT1.out.then (HT3.out.then HT4.out)⟩
            rintro ⟨L', ⟨h1, _⟩ | ⟨_, _, h3⟩⟩
            · exact HNE.out h1
            · rw [HW0.out] at h3
              exact preZ_no HKW.out HWK.out HNO.out ⟨L', h3⟩
        · have hke : k = n3 := by omega
          subst hke
          have x1 : ¬ (k : Int) < (k : Int) := by omega
          have hWk : W.take k = W := by
            rw [List.take_of_length_le]
            rw [← HP3.out, List.length_map, HL3.out]
            exact Nat.le_refl _
          have HPW := hide (show PreZ W L by have := HPR.out; rw [hWk] at this; exact this)
          clear hWk hk2
          go_wp2_with fail
          go_ret2
          exact ⟨.inl ⟨L, A2, k, c2, rfl, .inr ⟨HNE.out, HH.out, by rw [HW0.out]; exact HPW.out⟩, sl_of_own HON.out.own HLL.out, hn3, HSZ.out⟩, HT1.out.then (HT3.out.then HON.out.touch)⟩

end Go.Proofs.YtcmjohaohdgnjaaDoor
