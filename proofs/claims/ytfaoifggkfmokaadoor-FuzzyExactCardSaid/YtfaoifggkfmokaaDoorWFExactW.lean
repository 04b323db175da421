/- FuzzyExact: the walk. Condition: the arguments can be read. -/
import Derived.Test.YtfaoifggkfmokaaDoorWFAllW
namespace Go.Proofs.YtfaoifggkfmokaaDoor
open Go.RowKit
set_option linter.unusedSectionVars false
set_option linter.unusedSimpArgs false
set_option linter.unusedVariables false

/-! ### What is nowhere apart is the same -/
theorem row_zero (X : List Nat) : ∀ (k : Nat) (Y : List Nat), Y.length = k → ∀ j, j ≤ X.length → ((rowK X Y).getD j 0 = 0 ↔ Y = X.take j)
  | 0, Y, h, j, hj => by
    rw [List.eq_nil_of_length_eq_zero h]
    unfold rowK
    rw [List.foldl_nil]
    have e : (List.range (X.length + 1)).getD j 0 = j := by simp [List.getD, show j < X.length + 1 by omega]
    rw [e]
    constructor
    · intro h0; rw [h0]; rfl
    · intro h0
      have h1 := congrArg List.length h0
      rw [List.length_take, Nat.min_eq_left hj] at h1
      exact h1.symm
  | k + 1, Y, h, j, hj => by
    have ih := row_zero X k (Y.take k) (by rw [List.length_take]; omega)
    have hl := rowK_len X (Y.take k)
    have hY := last_snoc h
    obtain ⟨r, hr⟩ : ∃ r, r = Y.getD k 0 := ⟨_, rfl⟩
    obtain ⟨Z, hZ⟩ : ∃ Z, Z = Y.take k := ⟨_, rfl⟩
    rw [← hr, ← hZ] at hY
    rw [← hZ] at ih hl
    rw [hY, rowK_snoc]
    cases j with
    | zero =>
      have e : (stepD X (rowK X Z) r).getD 0 0 = (rowK X Z).headD 0 + 1 := by
        unfold stepD
        rfl
      rw [e]
      simp
    | succ j =>
      rw [stepD_get r hl (by omega)]
      have h1 := ih j (by omega)
      rw [takeN_snoc X j (by omega)]
      constructor
      · intro h0
        have h2 : (rowK X Z).getD j 0 = 0 ∧ X.getD j 0 = r := by
          by_cases hc : X.getD j 0 = r
          · rw [if_pos hc] at h0
            exact ⟨by omega, hc⟩
          · rw [if_neg hc] at h0
            omega
        rw [h1.1 h2.1, h2.2]
      · intro h0
        obtain ⟨h2, h3⟩ := List.append_inj' h0 rfl
        simp only [List.cons.injEq, and_true] at h3
        rw [h1.2 h2, if_pos h3.symm]
        omega
theorem rowW_zero (X Y : List Nat) : rowW X Y = 0 ↔ Y = X := by
  have := row_zero X Y.length Y rfl X.length (Nat.le_refl _)
  rw [List.take_length] at this
  exact this
theorem one_word {L : List PRow} (hD : DictP L) {a : ByteArray} {X : List Nat} (hX : runesU a.toList = some X) : ∀ M : List PRow, (∀ p ∈ M, p ∈ L) → M.Nodup → fzAllP M X 1 = M.filterMap fun p => if p.word.toList = a.toList then some ⟨p.word, p.weight, 0⟩ else none := by
  intro M hM _
  unfold fzAllP
  apply filterMap_congr'
  intro p hp
  have h1 := (hD.word p (hM p hp)).1
  by_cases e : p.word.toList = a.toList
  · rw [if_pos e]
    have h2 : wordR p = X := by
      rw [e, hX] at h1
      injection h1 with h1
      exact h1.symm
    have h3 := (rowW_zero X (wordR p)).2 h2
    rw [h3]
    rfl
  · rw [if_neg e]
    have h2 : wordR p ≠ X := fun h => e (by rw [h] at h1; exact runesU_inj h1 hX)
    have h3 : rowW X (wordR p) ≠ 0 := fun h => h2 ((rowW_zero X _).1 h)
    rw [if_neg (by omega)]
theorem map_key (M : List PRow) (k : List UInt8) : (M.filterMap fun p => if p.word.toList = k then some (⟨p.word, p.weight, 0⟩ : MRow) else none) = (key k M).map fun p => ⟨p.word, p.weight, 0⟩ := by
  induction M with
  | nil => rfl
  | cons p M ih =>
    unfold key at ih ⊢
    by_cases e : p.word.toList = k
    · simp [List.filterMap_cons, e, ih]
    · simp [List.filterMap_cons, e, ih]
theorem key_le_one {L : List PRow} (hD : DictP L) (k : List UInt8) : (key k L).length ≤ 1 := by
  have hs := hD.sort
  unfold SortR restsL at hs
  rw [List.pairwise_map] at hs
  have hk : (key k L).Pairwise fun p q => ltR (wordR p, p.weight) (wordR q, q.weight) := hs.sublist List.filter_sublist
  match hl : key k L with
  | [] => simp
  | [p] => simp
  | p :: q :: M =>
    exfalso
    rw [hl] at hk
    have hpq : ltR (wordR p, p.weight) (wordR q, q.weight) := (List.pairwise_cons.1 hk).1 q List.mem_cons_self
    have hp : p ∈ key k L := by rw [hl]; exact List.mem_cons_self
    have hq : q ∈ key k L := by rw [hl]; exact List.mem_cons_of_mem _ List.mem_cons_self
    unfold key at hp hq
    rw [List.mem_filter, decide_eq_true_eq] at hp hq
    have h1 := (hD.word p hp.1).1
    have h2 := (hD.word q hq.1).1
    rw [hp.2] at h1
    rw [hq.2, h1] at h2
    injection h2 with h2
    unfold ltR at hpq
    simp only at hpq
    rw [h2, lexN_irr] at hpq
    cases hpq
/-- Without edits there is the word itself, or nothing. -/
theorem exact_plain {L : List PRow} (hD : DictP L) {a : ByteArray} {X : List Nat} (hX : runesU a.toList = some X) :
    (∃ n, findP a.toList L = (n, true) ∧ fzAllP L X 1 = [⟨a, n, 0⟩]) ∨ ((findP a.toList L).2 = false ∧ fzAllP L X 1 = []) := by
  have hn : L.Nodup := by
    have hs := hD.sort
    unfold SortR restsL at hs
    rw [List.pairwise_map] at hs
    refine hs.imp fun {p q} h e => ?_
    subst e
    unfold ltR at h
    rw [lexN_irr] at h
    cases h
  have h1 := one_word hD hX L (fun p h => h) hn
  rw [map_key] at h1
  have h2 := key_le_one hD a.toList
  unfold findP
  match hl : key a.toList L with
  | [] => exact .inr ⟨by simp, by rw [h1, hl]; rfl⟩
  | [p] =>
    refine .inl ⟨p.weight, by simp, ?_⟩
    have hp : p ∈ key a.toList L := by rw [hl]; exact List.mem_cons_self
    unfold key at hp
    rw [List.mem_filter, decide_eq_true_eq] at hp
    rw [h1, hl, ← toList_inj hp.2]
    rfl
  | p :: q :: M => rw [hl] at h2; simp at h2

set_option maxRecDepth 100000 in
set_option maxHeartbeats 4000000 in
theorem fexact_walk (W : World) (hL : Lst W) (s : SL) (hs : s.Ok W) (hn : s.n ≤ maxLen) (hWf : ∀ r ∈ s.L, r.Wf) (a : ByteArray) (ha : a.size ≤ 9223372036854775807) :
    Calls Tryd.prog 5 #[s.val, .string a] W fun e W' => e = .returned (.bool true) ∧ Below W.heap.size W W' := by
  have HON := hide (on_any W hL s hs hWf hn)
  have HL := hide hL
  have HFD := hide (fun wx T => rfind_any wx s.A s.n s.c s.L hs.len (hs.touch (w' := wx) T).reads hn a)
  obtain ⟨A0, n0, c0, L⟩ := s
  simp only [SL.val] at HON ⊢
  simp only at HFD
  clear hL hs hn hWf
  go_enter Tryd.func5, Tryd.ntmps5
  go_wp2_with fail
  refine HON.out.mono ?_
  rintro e w1 ⟨hon, T1⟩
  rcases hon with ⟨_, rfl⟩ | ⟨hop, hD, b, n, A, c, Z, wA, wc, rfl, hdw⟩
  · have HT1 := hide T1
    have HAL := hide (alive12_any w1 (Lst.touch HL.out T1))
    clear T1 HON
    go_wp2_with fail
    refine HAL.out.mono ?_
    rintro e w2 ⟨rfl, T2⟩
    have HT2 := hide (HT1.out.then T2)
    clear T2
    go_wp2_with fail
    go_ret
    exact ⟨rfl, HT2.out.below (Nat.le_refl _) (fun _ _ f => f)⟩
  · have HT1 := hide T1
    cases hlv : levR a.toList 0 with
    | false =>
      have HFZ := hide (fzall_no w1 (Lst.touch HL.out T1) (some ⟨b, 0, none⟩) a 0 ha hlv)
      clear T1 HON hop hD hdw hlv
      go_wp2_with fail
      refine HFZ.out.mono ?_
      rintro e w2 ⟨rfl, T2⟩
      have HT2 := hide (HT1.out.then T2)
      clear T2
      go_wp2_with fail
      refine (HFD.out _ HT2.out).mono ?_
      rintro e w3 ⟨rfl, T3⟩
      have HT3 := hide (HT2.out.then T3)
      have HAL := hide (alive12_any w3 (Lst.touch HL.out (HT2.out.then T3)))
      clear T3
      go_wp2_with fail
      refine HAL.out.mono ?_
      rintro e w4 ⟨rfl, T4⟩
      have HT4 := hide (HT3.out.then T4)
      clear T4
      go_wp2_with fail
      go_ret
      exact ⟨rfl, HT4.out.below (Nat.le_refl _) (fun _ _ f => f)⟩
    | true =>
      obtain ⟨X, m, hX, hXl, ha96, hm0, hm⟩ := lev_parts hlv
      have has : a.size ≤ 1099511627776 := by rw [← size_toList]; omega
      have hex := exact_plain hD hX
      have hfz := fzall_yes w1 (Lst.touch HL.out T1) hD hdw a 0 has X hX hlv
      rw [show ((0 : Nat) : Int) = 0 from rfl, show (0 + 1 : Nat) = 1 from rfl] at hfz
      clear HON hop hD hdw hlv hX hXl ha96 hm hm0 has
      rcases hex with ⟨wt, hf, hz⟩ | ⟨hf, hz⟩
      · rw [hz] at hfz
        rw [hf] at HFD
        have HFZ := hide hfz
        clear hf hz hfz T1
        go_wp2_with fail
        refine HFZ.out.mono ?_
        rintro e w2 ⟨A2, c2, rfl, ho2⟩
        have HT2 := hide (HT1.out.then ho2.touch)
        have HO2 := hide ho2
        clear ho2
        go_wp2_with fail
        refine (HFD.out _ HT2.out).mono ?_
        rintro e w3 ⟨rfl, T3⟩
        have HT3 := hide (HT2.out.then T3)
        have HO3 := hide (HO2.out.to T3)
        have HAL := hide (alive12_any w3 (Lst.touch HL.out (HT2.out.then T3)))
        clear T3
        go_wp2_with fail
        refine HAL.out.mono ?_
        rintro e w4 ⟨rfl, T4⟩
        have HT4 := hide (HT3.out.then T4)
        obtain ⟨g, off, hA, hgl, d0, d1, d2⟩ := reads_at (Reads.of_own (HO3.out.to T4).own) rfl 0 (by simp)
        subst hA
        simp only [List.getD_eq_getElem?_getD, List.getElem?_cons_zero, Option.getD_some, Nat.zero_mul, Nat.add_zero] at d0 d1 d2
        clear T4
        go_wp2_with fail
        go_ret
        exact ⟨rfl, HT4.out.below (Nat.le_refl _) (fun _ _ f => f)⟩
      · rw [hz] at hfz
        rw [hf] at HFD
        have HFZ := hide hfz
        clear hf hz hfz T1
        go_wp2_with fail
        refine HFZ.out.mono ?_
        rintro e w2 ⟨A2, c2, rfl, ho2⟩
        have HT2 := hide (HT1.out.then ho2.touch)
        clear ho2
        go_wp2_with fail
        refine (HFD.out _ HT2.out).mono ?_
        rintro e w3 ⟨rfl, T3⟩
        have HT3 := hide (HT2.out.then T3)
        have HAL := hide (alive12_any w3 (Lst.touch HL.out (HT2.out.then T3)))
        clear T3
        go_wp2_with fail
        refine HAL.out.mono ?_
        rintro e w4 ⟨rfl, T4⟩
        have HT4 := hide (HT3.out.then T4)
        clear T4
        go_wp2_with fail
        go_ret
        exact ⟨rfl, HT4.out.below (Nat.le_refl _) (fun _ _ f => f)⟩

end Go.Proofs.YtfaoifggkfmokaaDoor
