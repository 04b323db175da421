/- Ranges swapped, rows rotated, insertion: what they make of a list. Plain laws, no program in sight. No condition. -/
import Derived.Test.YtdjlcgldplndiaaDoorSortA
namespace Go.Proofs.YtdjlcgldplndiaaDoor

theorem getD_mid (S W : List PRow) (x : PRow) : (S ++ (x :: W)).getD S.length PRow.zero = x := by
  simp [List.getD]
theorem set_mid (S W : List PRow) (x y : PRow) : (S ++ (x :: W)).set S.length y = S ++ (y :: W) := by
  rw [List.set_append_right _ _ (Nat.le_refl _), Nat.sub_self, List.set_cons_zero]

theorem swpP_parts (S T W : List PRow) (u v : PRow) (i j : Nat) (hi : i = S.length) (hj : j = S.length + 1 + T.length) : swpP (S ++ (u :: (T ++ (v :: W)))) i j = S ++ (v :: (T ++ (u :: W))) := by
  subst hi
  have e1 : S ++ (u :: (T ++ (v :: W))) = (S ++ (u :: T)) ++ (v :: W) := by simp
  have l1 : (S ++ (u :: T)).length = j := by simp; omega
  have g2 : (S ++ (u :: (T ++ (v :: W)))).getD j PRow.zero = v := by rw [e1, ← l1, getD_mid]
  unfold swpP
  rw [g2, getD_mid, set_mid]
  have e2 : S ++ (v :: (T ++ (v :: W))) = (S ++ (v :: T)) ++ (v :: W) := by simp
  have l2 : (S ++ (v :: T)).length = j := by simp; omega
  rw [e2, ← l2, set_mid]
  simp

theorem snoc_of {l : List PRow} {k : Nat} (h : l.length = k + 1) : ∃ l' x, l = l' ++ [x] ∧ l'.length = k := by
  have hne : l ≠ [] := by intro e; rw [e] at h; simp at h
  refine ⟨l.dropLast, l.getLast hne, (List.dropLast_concat_getLast hne).symm, ?_⟩
  rw [List.length_dropLast]; omega

theorem swr_parts (k : Nat) : ∀ (P U M V Q : List PRow) (a b : Nat), a = P.length → U.length = k → V.length = k → b = P.length + k + M.length →
    swrF (P ++ (U ++ (M ++ (V ++ Q)))) a b k = P ++ (V ++ (M ++ (U ++ Q))) := by
  induction k with
  | zero =>
    intro P U M V Q a b ha hU hV hb
    have hU' := List.eq_nil_of_length_eq_zero hU
    have hV' := List.eq_nil_of_length_eq_zero hV
    subst hU' hV'
    rfl
  | succ k ih =>
    intro P U M V Q a b ha hU hV hb
    obtain ⟨U', u, rfl, hU'⟩ := snoc_of hU
    obtain ⟨V', v, rfl, hV'⟩ := snoc_of hV
    have := ih P U' (u :: M) V' (v :: Q) a b ha hU' hV' (by rw [hb]; simp; omega)
    have e : P ++ ((U' ++ [u]) ++ (M ++ ((V' ++ [v]) ++ Q))) = P ++ (U' ++ ((u :: M) ++ (V' ++ (v :: Q)))) := by simp
    rw [e, swrF, this]
    have e2 : P ++ (V' ++ ((u :: M) ++ (U' ++ (v :: Q)))) = (P ++ V') ++ (u :: ((M ++ U') ++ (v :: Q))) := by simp
    rw [e2, swpP_parts (P ++ V') (M ++ U') Q u v (a + k) (b + k) (by simp; omega) (by simp; omega)]
    simp

/-! ### insertion -/
def bub (X : List PRow) (a : Nat) : Nat → List PRow
  | 0 => X
  | d + 1 => if plt (X.getD (a + d + 1) PRow.zero) (X.getD (a + d) PRow.zero) = true then bub (swpP X (a + d + 1) (a + d)) a d else X
def insF (X : List PRow) (a : Nat) : Nat → List PRow
  | 0 => X
  | c + 1 => bub (insF X a c) a (c + 1)

theorem swpP_comm_parts (S W : List PRow) (u v : PRow) (i j : Nat) (hi : i = S.length + 1) (hj : j = S.length) : swpP (S ++ (u :: v :: W)) i j = S ++ (v :: u :: W) := by
  subst hi hj
  unfold swpP
  have g1 : (S ++ (u :: v :: W)).getD (S.length + 1) PRow.zero = v := by
    simp [List.getD]
  have s1 : ∀ y, (S ++ (u :: v :: W)).set (S.length + 1) y = S ++ (u :: y :: W) := by
    intro y
    rw [List.set_append_right _ _ (Nat.le_succ _)]
    simp
  rw [g1, getD_mid, s1, set_mid]

theorem bub_len (d : Nat) : ∀ (X : List PRow) (a : Nat), (bub X a d).length = X.length := by
  induction d with
  | zero => intro X a; rfl
  | succ d ih =>
    intro X a
    unfold bub
    split
    · rw [ih, swpP_len]
    · rfl
theorem insF_len (X : List PRow) (a c : Nat) : (insF X a c).length = X.length := by
  induction c with
  | zero => rfl
  | succ c ih => rw [insF, bub_len, ih]

theorem bub_parts (d : Nat) : ∀ (P Y Q : List PRow) (x : PRow) (a : Nat), a = P.length → Y.length = d → SrtP Y → ∃ Z, bub (P ++ (Y ++ (x :: Q))) a d = P ++ (Z ++ Q) ∧ SrtP Z ∧ SameK (Y ++ [x]) Z := by
  induction d with
  | zero =>
    intro P Y Q x a ha hY hs
    have := List.eq_nil_of_length_eq_zero hY
    subst this
    exact ⟨[x], by simp [bub], by simp [SrtP], SameK.refl _⟩
  | succ d ih =>
    intro P Y Q x a ha hY hs
    obtain ⟨Y', y, rfl, hY'⟩ := snoc_of hY
    have e : P ++ ((Y' ++ [y]) ++ (x :: Q)) = (P ++ Y') ++ (y :: x :: Q) := by simp
    have g0 : (P ++ ((Y' ++ [y]) ++ (x :: Q))).getD (a + d) PRow.zero = y := by
      have l : (P ++ Y').length = a + d := by simp; omega
      rw [e, ← l, getD_mid]
    have g1 : (P ++ ((Y' ++ [y]) ++ (x :: Q))).getD (a + d + 1) PRow.zero = x := by
      have l : (P ++ Y' ++ [y]).length = a + d + 1 := by simp; omega
      have e' : (P ++ Y') ++ (y :: x :: Q) = (P ++ Y' ++ [y]) ++ (x :: Q) := by simp
      rw [e, e', ← l, getD_mid]
    have hs1 := List.pairwise_append.1 hs
    unfold bub
    rw [g0, g1]
    by_cases hb : plt x y = true
    · rw [if_pos hb, e, swpP_comm_parts (P ++ Y') Q y x (a + d + 1) (a + d) (by simp; omega) (by simp; omega)]
      obtain ⟨Z, h1, h2, h3⟩ := ih P Y' (y :: Q) x a ha hY' hs1.1
      have e2 : (P ++ Y') ++ (x :: y :: Q) = P ++ (Y' ++ (x :: (y :: Q))) := by simp
      refine ⟨Z ++ [y], by rw [e2, h1]; simp, srt_app h2 (by simp [SrtP]) ?_, ?_⟩
      · intro z hz w hw
        simp at hw
        subst hw
        rcases List.mem_append.1 (h3.symm.mem hz) with hz' | hz'
        · exact hs1.2.2 z hz' _ (by simp)
        · simp at hz'
          subst hz'
          exact ple_of_plt hb
      · have k1 : SameK ([y] ++ [x]) ([x] ++ [y]) := SameK.swap (by
          intro p hp q hq heq
          simp at hp hq
          subst hp hq
          exact plt_ne hb heq.symm)
        have k2 := (SameK.refl Y').app k1
        have k3 := h3.app (SameK.refl [y])
        have e3 : Y' ++ [y] ++ [x] = Y' ++ ([y] ++ [x]) := by simp
        have e4 : Y' ++ ([x] ++ [y]) = Y' ++ [x] ++ [y] := by simp
        rw [e3]
        exact k2.trans (by rw [e4]; exact k3)
    · rw [if_neg hb]
      have hb' : ple y x := by simpa [ple] using hb
      refine ⟨Y' ++ [y] ++ [x], by simp, srt_app hs (by simp [SrtP]) ?_, SameK.refl _⟩
      intro z hz w hw
      simp at hw
      subst hw
      rcases List.mem_append.1 hz with hz | hz
      · exact ple_trans (hs1.2.2 z hz y (by simp)) hb'
      · simp at hz
        subst hz
        exact hb'

theorem ins_parts (c : Nat) : ∀ (P Y Q : List PRow) (a : Nat), a = P.length → c < Y.length → ∃ Z, insF (P ++ (Y ++ Q)) a c = P ++ (Z ++ (Y.drop (c + 1) ++ Q)) ∧ SrtP Z ∧ SameK (Y.take (c + 1)) Z := by
  induction c with
  | zero =>
    intro P Y Q a ha hc
    cases Y with
    | nil => simp at hc
    | cons y Y => exact ⟨[y], by simp [insF], by simp [SrtP], by simpa using SameK.refl _⟩
  | succ c ih =>
    intro P Y Q a ha hc
    obtain ⟨Z, h1, h2, h3⟩ := ih P Y Q a ha (by omega)
    have hZ : Z.length = c + 1 := by
      have l1 := congrArg List.length h1
      rw [insF_len] at l1
      simp at l1
      omega
    have e : Y.drop (c + 1) = Y[c + 1] :: Y.drop (c + 1 + 1) := List.drop_eq_getElem_cons hc
    rw [e] at h1
    obtain ⟨Z', k1, k2, k3⟩ := bub_parts (c + 1) P Z (Y.drop (c + 1 + 1) ++ Q) (Y[c + 1]) a ha hZ h2
    refine ⟨Z', ?_, k2, ?_⟩
    · rw [insF, h1, List.cons_append]
      exact k1
    · have e2 : Y.take (c + 1 + 1) = Y.take (c + 1) ++ [Y[c + 1]] := List.take_succ_eq_append_getElem hc
      rw [e2]
      exact (h3.app (SameK.refl _)).trans k3

/-- insertion over a whole part. -/
theorem ins_whole (P Y Q : List PRow) (a b : Nat) (ha : a = P.length) (hb : b = a + Y.length) : ∃ Z, insF (P ++ (Y ++ Q)) a (b - a - 1) = P ++ (Z ++ Q) ∧ SrtP Z ∧ SameK Y Z := by
  by_cases h0 : Y.length = 0
  · have := List.eq_nil_of_length_eq_zero h0
    subst this
    have : b - a - 1 = 0 := by simp at hb; omega
    rw [this]
    exact ⟨[], by simp [insF], List.Pairwise.nil, SameK.refl _⟩
  · obtain ⟨Z, h1, h2, h3⟩ := ins_parts (b - a - 1) P Y Q a ha (by omega)
    have e : b - a - 1 + 1 = Y.length := by omega
    rw [e, List.drop_length, List.nil_append] at h1
    rw [e, List.take_length] at h3
    exact ⟨Z, h1, h2, h3⟩

end Go.Proofs.YtdjlcgldplndiaaDoor
