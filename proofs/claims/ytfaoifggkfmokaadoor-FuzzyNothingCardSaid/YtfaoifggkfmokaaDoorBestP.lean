/- Matches: their order, sorted lists, heaps. Plain laws, no program in sight. No condition. -/
import Derived.Test.YtfaoifggkfmokaaDoorFnd
namespace Go.Proofs.YtfaoifggkfmokaaDoor

structure MRow where
  word : ByteArray
  weight : Int
  dist : Int

theorem MRow.ext' {a b : MRow} (h1 : a.word = b.word) (h2 : a.weight = b.weight) (h3 : a.dist = b.dist) : a = b := by
  cases a; cases b; simp_all

def MRow.zero : MRow := ⟨ByteArray.empty, 0, 0⟩
instance : Inhabited MRow := ⟨MRow.zero⟩
def MRow.cells (r : MRow) : List Value := [.string r.word, .int .i64 r.weight, .int .i64 r.dist]
def mCells (l : List MRow) : List Value := l.flatMap MRow.cells

/-! ### bytes -/
/-! ### which match is ahead -/
def better (a b : MRow) : Bool :=
  if a.dist = b.dist then (if a.weight = b.weight then Op.bytesLess a.word.toList b.word.toList else decide (b.weight < a.weight)) else decide (a.dist < b.dist)

theorem better_irrefl (a : MRow) : better a a = false := by simp [better, bl_irrefl]
theorem better_total (a b : MRow) (h : a ≠ b) : better a b = true ∨ better b a = true := by
  unfold better
  by_cases h1 : a.dist = b.dist
  · rw [if_pos h1, if_pos h1.symm]
    by_cases h2 : a.weight = b.weight
    · rw [if_pos h2, if_pos h2.symm]
      exact bl_total _ _ (fun e => h (MRow.ext' (toList_inj e) h2 h1))
    · rw [if_neg h2, if_neg (fun e => h2 e.symm)]
      simp; omega
  · rw [if_neg h1, if_neg (fun e => h1 e.symm)]
    simp; omega
theorem better_trans (a b c : MRow) (h : better a b = true) (k : better b c = true) : better a c = true := by
  unfold better at *
  split at h <;> split at k
  · rename_i h1 k1
    rw [if_pos (h1.trans k1)]
    split at h <;> split at k
    · rename_i h2 k2
      rw [if_pos (h2.trans k2)]
      exact bl_trans _ _ _ h k
    · rename_i h2 k2
      rw [if_neg (by omega)]
      simp at k ⊢; omega
    · rename_i h2 k2
      rw [if_neg (by omega)]
      simp at h ⊢; omega
    · simp at h k
      rw [if_neg (by omega)]
      simp; omega
  · rename_i h1 k1
    rw [if_neg (by omega)]
    simp at k ⊢; omega
  · rename_i h1 k1
    rw [if_neg (by omega)]
    simp at h ⊢; omega
  · simp at h k
    rw [if_neg (by omega)]
    simp; omega

/-- Not better: worse or the same. -/
def wle (a b : MRow) : Prop := better a b = false
theorem wle_refl (a : MRow) : wle a a := better_irrefl a
theorem wle_of_better {a b : MRow} (h : better a b = true) : wle b a := by
  unfold wle
  cases hb : better b a with
  | false => rfl
  | true =>
    have := better_trans _ _ _ h hb
    rw [better_irrefl] at this
    cases this
theorem wle_trans {a b c : MRow} (h : wle a b) (k : wle b c) : wle a c := by
  unfold wle at *
  cases hac : better a c with
  | false => rfl
  | true =>
    by_cases hab : a = b
    · subst hab; rw [hac] at k; cases k
    · rcases better_total a b hab with e | e
      · rw [h] at e; cases e
      · have := better_trans _ _ _ e hac
        rw [k] at this; cases this
theorem wle_antisymm {a b : MRow} (h : wle a b) (k : wle b a) : a = b := by
  by_cases e : a = b
  · exact e
  · rcases better_total a b e with x | x
    · rw [h] at x; cases x
    · rw [k] at x; cases x
theorem wle_total (a b : MRow) : wle a b ∨ wle b a := by
  cases h : better a b with
  | false => exact .inl h
  | true => exact .inr (wle_of_better h)

/-! ### sorted lists -/
/-- The best one first. -/
def Srt (l : List MRow) : Prop := l.Pairwise fun a b => wle b a

theorem srt_unique {l m : List MRow} (hp : l.Perm m) (hl : Srt l) (hm : Srt m) : l = m := by
  induction l generalizing m with
  | nil => exact (List.Perm.nil_eq hp)
  | cons a l ih =>
    cases m with
    | nil => exact absurd hp.length_eq (by simp)
    | cons b m =>
      have hab : a = b := by
        have ha : a ∈ b :: m := hp.mem_iff.1 (by simp)
        have hb : b ∈ a :: l := hp.mem_iff.2 (by simp)
        rcases List.mem_cons.1 ha with e | ha
        · exact e
        · rcases List.mem_cons.1 hb with e | hb
          · exact e.symm
          · exact wle_antisymm ((List.pairwise_cons.1 hm).1 a ha) ((List.pairwise_cons.1 hl).1 b hb)
      subst hab
      rw [ih (List.Perm.cons_inv hp) (List.pairwise_cons.1 hl).2 (List.pairwise_cons.1 hm).2]

def ins (m : MRow) : List MRow → List MRow
  | [] => [m]
  | x :: l => if better m x = true then m :: x :: l else x :: ins m l

theorem ins_perm (m : MRow) (l : List MRow) : (ins m l).Perm (m :: l) := by
  induction l with
  | nil => exact List.Perm.refl _
  | cons x l ih =>
    unfold ins
    split
    · exact List.Perm.refl _
    · exact (List.Perm.cons x ih).trans (List.Perm.swap m x l)
theorem ins_len (m : MRow) (l : List MRow) : (ins m l).length = l.length + 1 := by rw [(ins_perm m l).length_eq]; rfl
theorem ins_srt (m : MRow) (l : List MRow) (h : Srt l) : Srt (ins m l) := by
  induction l with
  | nil => exact List.pairwise_cons.2 ⟨by simp, List.Pairwise.nil⟩
  | cons x l ih =>
    obtain ⟨h1, h2⟩ := List.pairwise_cons.1 h
    unfold ins
    split
    · rename_i hb
      refine List.pairwise_cons.2 ⟨fun y hy => ?_, h⟩
      rcases List.mem_cons.1 hy with rfl | hy
      · exact wle_of_better hb
      · exact wle_trans (h1 y hy) (wle_of_better hb)
    · rename_i hb
      refine List.pairwise_cons.2 ⟨fun y hy => ?_, ih h2⟩
      rcases List.mem_cons.1 ((ins_perm m l).mem_iff.1 hy) with rfl | hy
      · simpa [wle] using hb
      · exact h1 y hy

def sortL (l : List MRow) : List MRow := l.foldl (fun out m => ins m out) []
theorem sortL_snoc (l : List MRow) (m : MRow) : sortL (l ++ [m]) = ins m (sortL l) := by simp [sortL, List.foldl_append]

theorem sortL_both (l : List MRow) : Srt (sortL l) ∧ (sortL l).Perm l := by
  have : ∀ (r l : List MRow), Srt l → Srt (r.foldl (fun out m => ins m out) l) ∧ (r.foldl (fun out m => ins m out) l).Perm (l ++ r) := by
    intro r
    induction r with
    | nil => intro l h; exact ⟨h, by simp⟩
    | cons m r ih =>
      intro l h
      obtain ⟨h1, h2⟩ := ih (ins m l) (ins_srt m l h)
      refine ⟨h1, h2.trans ?_⟩
      exact ((ins_perm m l).append_right r).trans List.perm_middle.symm
  have h := this l [] List.Pairwise.nil
  refine ⟨h.1, ?_⟩
  have h2 := h.2
  rw [List.nil_append] at h2
  exact h2
theorem sortL_len (l : List MRow) : (sortL l).length = l.length := (sortL_both l).2.length_eq
theorem sortL_perm {l m : List MRow} (h : l.Perm m) : sortL l = sortL m :=
  srt_unique ((sortL_both l).2.trans (h.trans (sortL_both m).2.symm)) (sortL_both l).1 (sortL_both m).1
theorem sortL_srt {l : List MRow} (h : Srt l) : sortL l = l := srt_unique (sortL_both l).2 (sortL_both l).1 h

theorem ins_take (m : MRow) (l : List MRow) (k : Nat) : (ins m (l.take k)).take k = (ins m l).take k := by
  induction l generalizing k with
  | nil => simp
  | cons x l ih =>
    cases k with
    | zero => simp
    | succ k =>
      simp only [List.take_succ_cons, ins]
      split
      · cases k with
        | zero => simp
        | succ k => simp [List.take_take]
      · simp only [List.take_succ_cons]
        rw [ih]

/-- The best ones. -/
def bestL (l : List MRow) (k : Nat) : List MRow := (sortL l).take k
theorem bestL_snoc (l : List MRow) (m : MRow) (k : Nat) : bestL (l ++ [m]) k = (ins m (bestL l k)).take k := by
  unfold bestL
  rw [sortL_snoc, ins_take]
theorem bestL_srt (l : List MRow) (k : Nat) : Srt (bestL l k) := (sortL_both l).1.sublist (List.take_sublist _ _)
theorem bestL_len (l : List MRow) (k : Nat) : (bestL l k).length = min k l.length := by unfold bestL; rw [List.length_take, sortL_len]

/-! ### heaps: the worst on top -/
def swp (X : List MRow) (i j : Nat) : List MRow := (X.set i (X.getD j MRow.zero)).set j (X.getD i MRow.zero)
theorem swp_len (X : List MRow) (i j : Nat) : (swp X i j).length = X.length := by simp [swp]
theorem swp_get (X : List MRow) (i j c : Nat) (hi : i < X.length) (hj : j < X.length) : (swp X i j).getD c MRow.zero = if c = i then X.getD j MRow.zero else if c = j then X.getD i MRow.zero else X.getD c MRow.zero := by
  unfold swp
  simp only [List.getD_eq_getElem?_getD, List.getElem?_set]
  by_cases h1 : c = i
  · subst h1
    by_cases h2 : j = c
    · subst h2; simp [hi]
    · simp [h2, hi]
  · by_cases h2 : c = j
    · subst h2; simp [h1, hj]
    · simp [h1, h2, Ne.symm h1, Ne.symm h2]
theorem swp_perm (X : List MRow) (i j : Nat) (hi : i < X.length) (hj : j < X.length) : (swp X i j).Perm X := by
  unfold swp
  have e1 : X.getD j MRow.zero = X[j] := by simp [List.getD, hj]
  have e2 : X.getD i MRow.zero = X[i] := by simp [List.getD, hi]
  rw [e1, e2]
  exact List.set_set_perm hi hj

def Heap (X : List MRow) (n : Nat) : Prop := ∀ c, 0 < c → c < n → wle (X.getD ((c - 1) / 2) MRow.zero) (X.getD c MRow.zero)

theorem heap_top {X : List MRow} {n : Nat} (h : Heap X n) : ∀ c, c < n → wle (X.getD 0 MRow.zero) (X.getD c MRow.zero) := by
  intro c
  induction c using Nat.strongRecOn with
  | _ c ih =>
    intro hc
    by_cases h0 : c = 0
    · subst h0; exact wle_refl _
    · exact wle_trans (ih ((c - 1) / 2) (by omega) (by omega)) (h c (by omega) hc)

def upF : Nat → List MRow → Nat → List MRow
  | 0, X, _ => X
  | f + 1, X, j => if j = 0 then X else if better (X.getD ((j - 1) / 2) MRow.zero) (X.getD j MRow.zero) = true then upF f (swp X ((j - 1) / 2) j) ((j - 1) / 2) else X

theorem upF_spec (f : Nat) : ∀ (X : List MRow) (j : Nat), j < X.length → j ≤ f →
    (∀ c, 0 < c → c < X.length → c ≠ j → wle (X.getD ((c - 1) / 2) MRow.zero) (X.getD c MRow.zero)) →
    (0 < j → ∀ c, 0 < c → c < X.length → (c - 1) / 2 = j → wle (X.getD ((j - 1) / 2) MRow.zero) (X.getD c MRow.zero)) →
    (upF f X j).Perm X ∧ Heap (upF f X j) X.length ∧ (upF f X j).length = X.length := by
  induction f with
  | zero =>
    intro X j hj hf h1 h2
    have : j = 0 := by omega
    subst this
    exact ⟨List.Perm.refl _, fun c h0 hc => h1 c h0 hc (by omega), rfl⟩
  | succ f ih =>
    intro X j hj hf h1 h2
    unfold upF
    by_cases h0 : j = 0
    · rw [if_pos h0]
      subst h0
      exact ⟨List.Perm.refl _, fun c h0 hc => h1 c h0 hc (by omega), rfl⟩
    · rw [if_neg h0]
      by_cases hb : better (X.getD ((j - 1) / 2) MRow.zero) (X.getD j MRow.zero) = true
      · rw [if_pos hb]
        have hi : (j - 1) / 2 < X.length := by omega
        have hw : wle (X.getD j MRow.zero) (X.getD ((j - 1) / 2) MRow.zero) := wle_of_better hb
        obtain ⟨i, hie⟩ : ∃ i, i = (j - 1) / 2 := ⟨_, rfl⟩
        rw [← hie] at hb hi hw h2 ⊢
        have hij : i ≠ j := by omega
        have key := ih (swp X i j) i (by rw [swp_len]; exact hi) (by omega) ?_ ?_
        · rw [swp_len] at key
          exact ⟨key.1.trans (swp_perm X i j hi hj), key.2.1, key.2.2⟩
        · intro c hc0 hc hci
          rw [swp_len] at hc
          rw [swp_get X i j _ hi hj, swp_get X i j _ hi hj, if_neg hci]
          by_cases hcj : c = j
          · subst hcj
            rw [if_pos hie.symm, if_pos rfl]
            exact hw
          · rw [if_neg hcj]
            by_cases hp : (c - 1) / 2 = i
            · rw [if_pos hp]
              have := h1 c hc0 hc hcj
              rw [hp] at this
              exact wle_trans hw this
            · rw [if_neg hp]
              by_cases hp2 : (c - 1) / 2 = j
              · rw [if_pos hp2]
                exact h2 (by omega) c hc0 hc hp2
              · rw [if_neg hp2]
                exact h1 c hc0 hc hcj
        · intro hi0 c hc0 hc hpc
          rw [swp_len] at hc
          have hgi : (i - 1) / 2 ≠ i := by omega
          have hgj : (i - 1) / 2 ≠ j := by omega
          rw [swp_get X i j _ hi hj, swp_get X i j _ hi hj, if_neg hgi, if_neg hgj, if_neg (by omega)]
          have hii := h1 i hi0 hi hij
          by_cases hcj : c = j
          · subst hcj
            rw [if_pos rfl]
            exact hii
          · rw [if_neg hcj]
            have := h1 c hc0 hc hcj
            rw [hpc] at this
            exact wle_trans hii this
      · rw [if_neg hb]
        refine ⟨List.Perm.refl _, fun c h0' hc => ?_, rfl⟩
        by_cases hcj : c = j
        · subst hcj
          simpa [wle] using hb
        · exact h1 c h0' hc hcj

def kid (X : List MRow) (i n : Nat) : Nat :=
  if 2 * i + 2 < n ∧ better (X.getD (2 * i + 1) MRow.zero) (X.getD (2 * i + 2) MRow.zero) = true then 2 * i + 2 else 2 * i + 1

def downF : Nat → List MRow → Nat → Nat → List MRow
  | 0, X, _, _ => X
  | f + 1, X, i, n => if n ≤ 2 * i + 1 then X else if better (X.getD i MRow.zero) (X.getD (kid X i n) MRow.zero) = true then downF f (swp X i (kid X i n)) (kid X i n) n else X

theorem downF_spec (f : Nat) : ∀ (X : List MRow) (i n : Nat), i < n → n ≤ X.length → n ≤ f + i →
    (∀ c, 0 < c → c < n → (c - 1) / 2 ≠ i → wle (X.getD ((c - 1) / 2) MRow.zero) (X.getD c MRow.zero)) →
    (0 < i → ∀ c, 0 < c → c < n → (c - 1) / 2 = i → wle (X.getD ((i - 1) / 2) MRow.zero) (X.getD c MRow.zero)) →
    (downF f X i n).Perm X ∧ Heap (downF f X i n) n ∧ (downF f X i n).length = X.length ∧ ∀ c, n ≤ c → (downF f X i n).getD c MRow.zero = X.getD c MRow.zero := by
  induction f with
  | zero => intro X i n hi _ hf; omega
  | succ f ih =>
    intro X i n hi hn hf h1 h2
    unfold downF
    by_cases h0 : n ≤ 2 * i + 1
    · rw [if_pos h0]
      exact ⟨List.Perm.refl _, fun c hc0 hc => h1 c hc0 hc (by omega), rfl, fun _ _ => rfl⟩
    · rw [if_neg h0]
      have hk : (kid X i n = 2 * i + 1 ∨ kid X i n = 2 * i + 2) ∧ kid X i n < n := by
        unfold kid; split
        · rename_i h; exact ⟨.inr rfl, h.1⟩
        · exact ⟨.inl rfl, by omega⟩
      have hkw : ∀ c, 0 < c → c < n → (c - 1) / 2 = i → wle (X.getD (kid X i n) MRow.zero) (X.getD c MRow.zero) := by
        intro c hc0 hc hp
        have : c = 2 * i + 1 ∨ c = 2 * i + 2 := by omega
        unfold kid
        split
        · rename_i h
          rcases this with e | e
          · subst e; exact wle_of_better h.2
          · subst e; exact wle_refl _
        · rename_i h
          rcases this with e | e
          · subst e; exact wle_refl _
          · subst e
            cases hb : better (X.getD (2 * i + 1) MRow.zero) (X.getD (2 * i + 2) MRow.zero) with
            | false => exact hb
            | true => exact absurd ⟨hc, hb⟩ h
      by_cases hb : better (X.getD i MRow.zero) (X.getD (kid X i n) MRow.zero) = true
      · rw [if_pos hb]
        have hw : wle (X.getD (kid X i n) MRow.zero) (X.getD i MRow.zero) := wle_of_better hb
        obtain ⟨j, hj⟩ : ∃ j, j = kid X i n := ⟨_, rfl⟩
        rw [← hj] at hb hk hkw hw ⊢
        have hil : i < X.length := by omega
        have hjl : j < X.length := by omega
        have hji : j ≠ i := by omega
        have hpj : (j - 1) / 2 = i := by omega
        have key := ih (swp X i j) j n hk.2 (by rw [swp_len]; exact hn) (by omega) ?_ ?_
        · rw [swp_len] at key
          refine ⟨key.1.trans (swp_perm X i j hil hjl), key.2.1, key.2.2.1, fun c hc => ?_⟩
          rw [key.2.2.2 c hc, swp_get X i j c hil hjl, if_neg (by omega), if_neg (by omega)]
        · intro c hc0 hc hcp
          rw [swp_get X i j _ hil hjl, swp_get X i j _ hil hjl]
          by_cases hci : c = i
          · subst hci
            rw [if_pos rfl, if_neg (by omega), if_neg (by omega)]
            exact h2 hc0 j (by omega) hk.2 hpj
          · rw [if_neg hci]
            by_cases hcj : c = j
            · subst hcj
              rw [if_pos rfl, if_pos hpj]
              exact hw
            · rw [if_neg hcj, if_neg hcp]
              by_cases hpi : (c - 1) / 2 = i
              · rw [if_pos hpi]
                exact hkw c hc0 hc hpi
              · rw [if_neg hpi]
                exact h1 c hc0 hc hpi
        · intro _ c hc0 hc hcp
          rw [hpj, swp_get X i j _ hil hjl, swp_get X i j _ hil hjl, if_pos rfl, if_neg (by omega), if_neg (by omega)]
          have := h1 c hc0 hc (by omega)
          rwa [hcp] at this
      · rw [if_neg hb]
        refine ⟨List.Perm.refl _, fun c hc0 hc => ?_, rfl, fun _ _ => rfl⟩
        by_cases hp : (c - 1) / 2 = i
        · rw [hp]
          refine wle_trans ?_ (hkw c hc0 hc hp)
          simpa [wle] using hb
        · exact h1 c hc0 hc hp

end Go.Proofs.YtfaoifggkfmokaaDoor
