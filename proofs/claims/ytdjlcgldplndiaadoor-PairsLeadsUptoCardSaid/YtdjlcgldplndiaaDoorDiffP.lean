/- The changes from one list to the other: what they are, word by word. Plain laws, no program in sight. No condition. -/
import Derived.Test.YtdjlcgldplndiaaDoorFind6
namespace Go.Proofs.YtdjlcgldplndiaaDoor

def d1 (la lb : List PRow) : List PRow := match la.getLast?, lb with | some p, [] => [⟨p.word, 0⟩] | _, _ => []
def d2 (la lj lb : List PRow) : List PRow := match lj.getLast? with
  | some q => (match la.getLast? with | some p => if p.weight = q.weight then [] else [q] | none => [q])
  | none => d1 la lb

theorem key_one (k : List UInt8) (x : PRow) : key k [x] = if x.word.toList = k then [x] else [] := by
  by_cases h : x.word.toList = k
  · simp [key, h]
  · simp [key, h]

/-- The first loop's round. -/
theorem d1_put {A B O : List PRow} {x : PRow} (hO : Strict O) (h : ∀ k, key k O = d1 (key k A) (key k B)) (hx : key x.word.toList B = []) :
    Strict (putF ⟨x.word, 0⟩ false O) ∧ ∀ k, key k (putF ⟨x.word, 0⟩ false O) = d1 (key k (A ++ [x])) (key k B) := by
  obtain ⟨h1, h2⟩ := putF_ok ⟨x.word, 0⟩ O hO
  refine ⟨h1, fun k => ?_⟩
  rw [h2, key_app, key_one]
  by_cases hk : x.word.toList = k
  · subst hk
    rw [if_pos rfl, if_pos rfl, hx]
    simp [d1]
  · rw [if_neg hk, if_neg hk, List.append_nil]
    exact h k
theorem d1_skip {A B O : List PRow} {x : PRow} (h : ∀ k, key k O = d1 (key k A) (key k B)) (hx : key x.word.toList B ≠ []) : ∀ k, key k O = d1 (key k (A ++ [x])) (key k B) := by
  intro k
  rw [h, key_app, key_one]
  by_cases hk : x.word.toList = k
  · subst hk
    cases hb : key x.word.toList B with
    | nil => exact absurd hb hx
    | cons q l => unfold d1; simp
  · rw [if_neg hk, List.append_nil]

/-- The second loop's round. -/
theorem d2_put {A B Bj O : List PRow} {y : PRow} (hO : Strict O) (h : ∀ k, key k O = d2 (key k A) (key k Bj) (key k B)) (hy : findP y.word.toList A = (0, false) ∨ (findP y.word.toList A).1 ≠ y.weight) :
    Strict (putF y false O) ∧ ∀ k, key k (putF y false O) = d2 (key k A) (key k (Bj ++ [y])) (key k B) := by
  obtain ⟨h1, h2⟩ := putF_ok y O hO
  refine ⟨h1, fun k => ?_⟩
  rw [h2, key_app, key_one]
  by_cases hk : y.word.toList = k
  · subst hk
    rw [if_pos rfl, if_pos rfl]
    unfold findP at hy
    cases ha : (key y.word.toList A).getLast? with
    | none => simp [d2, ha]
    | some p =>
      rw [ha] at hy
      simp at hy
      simp [d2, ha, hy]
  · rw [if_neg hk, if_neg hk, List.append_nil]
    exact h k
theorem d2_skip {A B Bj O : List PRow} {y : PRow} (h : ∀ k, key k O = d2 (key k A) (key k Bj) (key k B)) (hj : key y.word.toList Bj = []) (hB : key y.word.toList B ≠ []) (hy : findP y.word.toList A = (y.weight, true)) :
    ∀ k, key k O = d2 (key k A) (key k (Bj ++ [y])) (key k B) := by
  intro k
  rw [h, key_app, key_one]
  by_cases hk : y.word.toList = k
  · subst hk
    rw [hj, if_pos rfl]
    unfold findP at hy
    cases ha : (key y.word.toList A).getLast? with
    | none => rw [ha] at hy; simp at hy
    | some p =>
      rw [ha] at hy
      simp at hy
      cases hb : key y.word.toList B with
      | nil => exact absurd hb hB
      | cons q l => simp [d2, d1, ha, hy]
  · rw [if_neg hk, List.append_nil]

theorem strict_key_nil {l : List PRow} {x : PRow} (h : ∀ y ∈ l, plt x y = true) : key x.word.toList l = [] := by
  unfold key
  rw [List.filter_eq_nil_iff]
  intro y hy e
  exact plt_ne (h y hy) (of_decide_eq_true e).symm
theorem strict_key_nil' {l : List PRow} {x : PRow} (h : ∀ y ∈ l, plt y x = true) : key x.word.toList l = [] := by
  unfold key
  rw [List.filter_eq_nil_iff]
  intro y hy e
  exact plt_ne (h y hy) (of_decide_eq_true e)

/-! ### the merge -/
def mdiff : Nat → List PRow → List PRow → List PRow
  | 0, _, _ => []
  | _ + 1, [], [] => []
  | f + 1, x :: A, [] => ⟨x.word, 0⟩ :: mdiff f A []
  | f + 1, [], y :: B => y :: mdiff f [] B
  | f + 1, x :: A, y :: B => if plt x y = true then ⟨x.word, 0⟩ :: mdiff f A (y :: B) else if plt y x = true then y :: mdiff f (x :: A) B else if x.weight = y.weight then mdiff f A B else y :: mdiff f A B

theorem mem_r {u y : PRow} {A B : List PRow} (h : u ∈ A ++ B) : u ∈ A ++ (y :: B) :=
  (List.mem_append.1 h).elim (fun h => List.mem_append.2 (.inl h)) (fun h => List.mem_append.2 (.inr (List.mem_cons_of_mem _ h)))
theorem mem_l {u x : PRow} {A B : List PRow} (h : u ∈ A ++ B) : u ∈ (x :: A) ++ B := List.mem_cons_of_mem _ h

theorem mdiff_mem (f : Nat) : ∀ (A B : List PRow), ∀ z ∈ mdiff f A B, ∃ x ∈ A ++ B, x.word = z.word := by
  induction f with
  | zero => intro A B z hz; simp [mdiff] at hz
  | succ f ih =>
    intro A B z hz
    match A, B with
    | [], [] => simp [mdiff] at hz
    | x :: A, [] =>
      simp only [mdiff, List.mem_cons] at hz
      rcases hz with rfl | hz
      · exact ⟨x, by simp, rfl⟩
      · obtain ⟨u, hu, e⟩ := ih A [] z hz
        exact ⟨u, mem_l hu, e⟩
    | [], y :: B =>
      simp only [mdiff, List.mem_cons] at hz
      rcases hz with rfl | hz
      · exact ⟨z, by simp, rfl⟩
      · obtain ⟨u, hu, e⟩ := ih [] B z hz
        exact ⟨u, mem_r hu, e⟩
    | x :: A, y :: B =>
      simp only [mdiff] at hz
      split at hz
      · rcases List.mem_cons.1 hz with rfl | hz
        · exact ⟨x, by simp, rfl⟩
        · obtain ⟨u, hu, e⟩ := ih A (y :: B) z hz
          exact ⟨u, mem_l hu, e⟩
      · split at hz
        · rcases List.mem_cons.1 hz with rfl | hz
          · exact ⟨z, by simp, rfl⟩
          · obtain ⟨u, hu, e⟩ := ih (x :: A) B z hz
            exact ⟨u, mem_r hu, e⟩
        · split at hz
          · obtain ⟨u, hu, e⟩ := ih A B z hz
            exact ⟨u, mem_l (mem_r hu), e⟩
          · rcases List.mem_cons.1 hz with rfl | hz
            · exact ⟨z, by simp, rfl⟩
            · obtain ⟨u, hu, e⟩ := ih A B z hz
              exact ⟨u, mem_l (mem_r hu), e⟩

theorem plt_word {a b c : PRow} (h : plt a b = true) (e : b.word = c.word) : plt a c = true := by
  unfold plt at h ⊢
  rw [← e]
  exact h
/-- What is behind both is behind whatever the merge tells. -/
theorem mdiff_behind {f : Nat} {A B : List PRow} {x : PRow} (hA : ∀ a ∈ A, plt x a = true) (hB : ∀ b ∈ B, plt x b = true) : ∀ z ∈ mdiff f A B, plt x z = true := by
  intro z hz
  obtain ⟨u, hu, e⟩ := mdiff_mem f A B z hz
  rcases List.mem_append.1 hu with h | h
  · exact plt_word (hA u h) e
  · exact plt_word (hB u h) e

theorem mdiff_ok (f : Nat) : ∀ (A B : List PRow), Strict A → Strict B → A.length + B.length ≤ f → Strict (mdiff f A B) ∧ ∀ k, key k (mdiff f A B) = d2 (key k A) (key k B) (key k B) := by
  induction f with
  | zero =>
    intro A B _ _ h
    have hA := List.eq_nil_of_length_eq_zero (show A.length = 0 by omega)
    have hB := List.eq_nil_of_length_eq_zero (show B.length = 0 by omega)
    subst hA hB
    exact ⟨List.Pairwise.nil, fun k => rfl⟩
  | succ f ih =>
    intro A B sA sB h
    match A, B with
    | [], [] => exact ⟨List.Pairwise.nil, fun k => rfl⟩
    | x :: A, [] =>
      obtain ⟨a1, a2⟩ := List.pairwise_cons.1 sA
      obtain ⟨i1, i2⟩ := ih A [] a2 sB (by simp at h ⊢; omega)
      have hb := mdiff_behind (f := f) (B := []) a1 (fun b hb => by cases hb)
      refine ⟨List.pairwise_cons.2 ⟨hb, i1⟩, fun k => ?_⟩
      simp only [mdiff]
      rw [key_cons, key_cons, i2]
      by_cases hk : x.word.toList = k
      · subst hk
        rw [if_pos rfl, if_pos rfl, strict_key_nil a1]
        rfl
      · rw [if_neg hk, if_neg hk]
    | [], y :: B =>
      obtain ⟨b1, b2⟩ := List.pairwise_cons.1 sB
      obtain ⟨i1, i2⟩ := ih [] B sA b2 (by simp at h ⊢; omega)
      have hb := mdiff_behind (f := f) (A := []) (fun b hb => by cases hb) b1
      refine ⟨List.pairwise_cons.2 ⟨hb, i1⟩, fun k => ?_⟩
      simp only [mdiff]
      rw [key_cons, key_cons, i2]
      by_cases hk : y.word.toList = k
      · subst hk
        rw [if_pos rfl, if_pos rfl, strict_key_nil b1]
        rfl
      · rw [if_neg hk, if_neg hk]
    | x :: A, y :: B =>
      obtain ⟨a1, a2⟩ := List.pairwise_cons.1 sA
      obtain ⟨b1, b2⟩ := List.pairwise_cons.1 sB
      simp only [mdiff]
      by_cases hxy : plt x y = true
      · rw [if_pos hxy]
        have hxB : ∀ b ∈ y :: B, plt x b = true := fun b hb => by
          rcases List.mem_cons.1 hb with rfl | hb
          · exact hxy
          · exact plt_trans hxy (b1 b hb)
        obtain ⟨i1, i2⟩ := ih A (y :: B) a2 sB (by simp at h ⊢; omega)
        refine ⟨List.pairwise_cons.2 ⟨mdiff_behind a1 hxB, i1⟩, fun k => ?_⟩
        rw [key_cons, i2, key_cons k x A]
        by_cases hk : x.word.toList = k
        · subst hk
          rw [if_pos rfl, if_pos rfl, strict_key_nil a1, strict_key_nil hxB]
          rfl
        · rw [if_neg hk, if_neg hk]
      · rw [if_neg hxy]
        by_cases hyx : plt y x = true
        · rw [if_pos hyx]
          have hyA : ∀ a ∈ x :: A, plt y a = true := fun a ha => by
            rcases List.mem_cons.1 ha with rfl | ha
            · exact hyx
            · exact plt_trans hyx (a1 a ha)
          obtain ⟨i1, i2⟩ := ih (x :: A) B sA b2 (by simp at h ⊢; omega)
          refine ⟨List.pairwise_cons.2 ⟨mdiff_behind hyA b1, i1⟩, fun k => ?_⟩
          rw [key_cons, i2, key_cons k y B]
          by_cases hk : y.word.toList = k
          · subst hk
            rw [if_pos rfl, if_pos rfl, strict_key_nil b1, strict_key_nil hyA]
            rfl
          · rw [if_neg hk, if_neg hk]
        · rw [if_neg hyx]
          have hw : x.word.toList = y.word.toList := Classical.byContradiction fun hne => by
            rcases plt_total hne with e | e
            · exact hxy e
            · exact hyx e
          have hyA : ∀ a ∈ A, plt y a = true := fun a ha => ple_plt (show ple y x by simpa [ple] using hxy) (a1 a ha)
          obtain ⟨i1, i2⟩ := ih A B a2 b2 (by simp at h ⊢; omega)
          by_cases he : x.weight = y.weight
          · rw [if_pos he]
            refine ⟨i1, fun k => ?_⟩
            rw [i2, key_cons k x A, key_cons k y B]
            by_cases hk : y.word.toList = k
            · have hk' : x.word.toList = k := hw.trans hk
              rw [if_pos hk, if_pos hk']
              subst hk
              rw [strict_key_nil b1, strict_key_nil hyA]
              simp [d2, d1, he]
            · have hk' : ¬ x.word.toList = k := fun e => hk (hw.symm.trans e)
              rw [if_neg hk, if_neg hk']
          · rw [if_neg he]
            refine ⟨List.pairwise_cons.2 ⟨mdiff_behind hyA b1, i1⟩, fun k => ?_⟩
            rw [key_cons, i2, key_cons k x A, key_cons k y B]
            by_cases hk : y.word.toList = k
            · have hk' : x.word.toList = k := hw.trans hk
              rw [if_pos hk, if_pos hk, if_pos hk']
              subst hk
              rw [strict_key_nil b1, strict_key_nil hyA]
              simp [d2, d1, he]
            · have hk' : ¬ x.word.toList = k := fun e => hk (hw.symm.trans e)
              rw [if_neg hk, if_neg hk, if_neg hk']

end Go.Proofs.YtdjlcgldplndiaaDoor
