/- Pairs: their order, stable sorting, merging. Plain laws, no program in sight. No condition. -/
import Derived.Test.YtdjlcgldplndiaaDoorFrame
namespace Go.Proofs.YtdjlcgldplndiaaDoor

structure PRow where
  word : ByteArray
  weight : Int

def PRow.zero : PRow := ⟨ByteArray.empty, 0⟩
instance : Inhabited PRow := ⟨PRow.zero⟩
def PRow.cells (r : PRow) : List Value := [.string r.word, .int .i64 r.weight]
def PRow.val (r : PRow) : Value := .agg #[.string r.word, .int .i64 r.weight]
def pCells (l : List PRow) : List Value := l.flatMap PRow.cells
theorem pval_eq (w : ByteArray) (n : Int) : PRow.val ⟨w, n⟩ = .agg #[.string w, .int .i64 n] := rfl

theorem toList_inj {a b : ByteArray} (h : a.toList = b.toList) : a = b := by
  rw [Go.ByteArray.toList_eq, Go.ByteArray.toList_eq] at h
  exact Go.WideShapes.bytes_inj h

/-! ### bytes -/
theorem bl_irrefl (x : List UInt8) : Op.bytesLess x x = false := by
  induction x with
  | nil => rfl
  | cons a x ih => simp [Op.bytesLess, ih, UInt8.lt_irrefl]
theorem bl_total (x y : List UInt8) (h : x ≠ y) : Op.bytesLess x y = true ∨ Op.bytesLess y x = true := by
  induction x generalizing y with
  | nil => cases y with
    | nil => exact absurd rfl h
    | cons b y => left; rfl
  | cons a x ih => cases y with
    | nil => right; rfl
    | cons b y =>
      by_cases hab : a = b
      · subst hab
        rcases ih y (fun e => h (by rw [e])) with k | k
        · left; simp [Op.bytesLess, k]
        · right; simp [Op.bytesLess, k]
      · rcases Nat.lt_or_gt_of_ne (fun e : a.toNat = b.toNat => hab (UInt8.toNat_inj.1 e)) with k | k
        · left; simp [Op.bytesLess, UInt8.lt_iff_toNat_lt, k]
        · right; simp [Op.bytesLess, UInt8.lt_iff_toNat_lt, k]
theorem bl_trans (x y z : List UInt8) (h : Op.bytesLess x y = true) (k : Op.bytesLess y z = true) : Op.bytesLess x z = true := by
  induction x generalizing y z with
  | nil => cases z with
    | nil => cases y <;> simp [Op.bytesLess] at k
    | cons c z => rfl
  | cons a x ih => cases y with
    | nil => simp [Op.bytesLess] at h
    | cons b y => cases z with
      | nil => simp [Op.bytesLess] at k
      | cons c z =>
        simp only [Op.bytesLess, Bool.or_eq_true, Bool.and_eq_true, decide_eq_true_eq, beq_iff_eq, UInt8.lt_iff_toNat_lt] at h k ⊢
        rcases h with h | ⟨h, h'⟩
        · rcases k with k | ⟨k, k'⟩
          · left; omega
          · subst k; left; exact h
        · subst h
          rcases k with k | ⟨k, k'⟩
          · left; exact k
          · right; exact ⟨k, ih y z h' k'⟩

/-! ### the order by words -/
def plt (a b : PRow) : Bool := Op.bytesLess a.word.toList b.word.toList
def ple (a b : PRow) : Prop := plt b a = false
theorem ple_refl (a : PRow) : ple a a := bl_irrefl _
theorem ple_of_plt {a b : PRow} (h : plt a b = true) : ple a b := by
  unfold ple
  cases hb : plt b a with
  | false => rfl
  | true =>
    have := bl_trans _ _ _ h hb
    rw [bl_irrefl] at this
    cases this
theorem ple_plt {a b c : PRow} (h : ple a b) (k : plt b c = true) : plt a c = true := by
  by_cases e : a.word.toList = b.word.toList
  · unfold plt at k ⊢
    rw [e]
    exact k
  · rcases bl_total _ _ e with x | x
    · exact bl_trans _ _ _ x k
    · have h' : plt b a = false := h
      unfold plt at h'
      rw [x] at h'
      cases h'
theorem plt_ple {a b c : PRow} (h : plt a b = true) (k : ple b c) : plt a c = true := by
  by_cases e : b.word.toList = c.word.toList
  · unfold plt at h ⊢
    rw [← e]
    exact h
  · rcases bl_total _ _ e with x | x
    · exact bl_trans _ _ _ h x
    · have k' : plt c b = false := k
      unfold plt at k'
      rw [x] at k'
      cases k'
theorem ple_trans {a b c : PRow} (h : ple a b) (k : ple b c) : ple a c := by
  unfold ple
  cases hb : plt c a with
  | false => rfl
  | true =>
    have h1 := plt_ple hb h
    rw [show plt c b = false from k] at h1
    cases h1
theorem plt_ne {a b : PRow} (h : plt a b = true) : a.word.toList ≠ b.word.toList := by
  intro e
  unfold plt at h
  rw [e, bl_irrefl] at h
  cases h
theorem plt_irrefl (a : PRow) : plt a a = false := bl_irrefl _
theorem plt_trans {a b c : PRow} (h : plt a b = true) (k : plt b c = true) : plt a c = true := bl_trans _ _ _ h k
theorem plt_total {a b : PRow} (h : a.word.toList ≠ b.word.toList) : plt a b = true ∨ plt b a = true := bl_total _ _ h

/-! ### what stands under a word -/
def SrtP (l : List PRow) : Prop := l.Pairwise ple
def key (k : List UInt8) (l : List PRow) : List PRow := l.filter (fun p => decide (p.word.toList = k))
def SameK (A B : List PRow) : Prop := ∀ k, key k A = key k B
theorem key_app (k : List UInt8) (A B : List PRow) : key k (A ++ B) = key k A ++ key k B := by simp [key]
theorem SameK.refl (A : List PRow) : SameK A A := fun _ => rfl
theorem SameK.trans {A B C : List PRow} (h : SameK A B) (k : SameK B C) : SameK A C := fun x => (h x).trans (k x)
theorem SameK.symm {A B : List PRow} (h : SameK A B) : SameK B A := fun x => (h x).symm
theorem SameK.app {A B C D : List PRow} (h : SameK A B) (k : SameK C D) : SameK (A ++ C) (B ++ D) := fun x => by rw [key_app, key_app, h x, k x]
theorem SameK.mem {A B : List PRow} (h : SameK A B) {x : PRow} (hx : x ∈ A) : x ∈ B := by
  have h1 : x ∈ key x.word.toList A := by simp [key, hx]
  rw [h] at h1
  exact (List.mem_filter.1 h1).1
theorem SameK.swap {A B : List PRow} (h : ∀ a ∈ A, ∀ b ∈ B, a.word.toList ≠ b.word.toList) : SameK (A ++ B) (B ++ A) := by
  intro k
  rw [key_app, key_app]
  by_cases hA : key k A = []
  · rw [hA]; simp
  · obtain ⟨a, ha⟩ := List.exists_mem_of_ne_nil _ hA
    have ha' := List.mem_filter.1 ha
    have hB : key k B = [] := by
      unfold key
      rw [List.filter_eq_nil_iff]
      intro b hb hk
      exact h a ha'.1 b hb ((of_decide_eq_true ha'.2).trans (of_decide_eq_true hk).symm)
    rw [hB]; simp
/-! ### two sorted lists become one -/
theorem srt_app {A B : List PRow} (hA : SrtP A) (hB : SrtP B) (h : ∀ a ∈ A, ∀ b ∈ B, ple a b) : SrtP (A ++ B) := List.pairwise_append.2 ⟨hA, hB, h⟩

/-- What a merge of the two halves' halves makes. -/
theorem merge_parts {L1 L2 R1 R2 Z1 Z2 : List PRow} (hL : SrtP (L1 ++ L2)) (hR : SrtP (R1 ++ R2)) (h1 : ∀ x ∈ L1, ∀ y ∈ R2, ple x y) (h2 : ∀ x ∈ R1, ∀ y ∈ L2, plt x y = true)
    (s1 : SrtP Z1) (k1 : SameK (L1 ++ R1) Z1) (s2 : SrtP Z2) (k2 : SameK (L2 ++ R2) Z2) : SrtP (Z1 ++ Z2) ∧ SameK ((L1 ++ L2) ++ (R1 ++ R2)) (Z1 ++ Z2) := by
  refine ⟨srt_app s1 s2 fun a ha b hb => ?_, ?_⟩
  · have ha' := List.mem_append.1 (k1.symm.mem ha)
    have hb' := List.mem_append.1 (k2.symm.mem hb)
    rcases ha' with ha' | ha' <;> rcases hb' with hb' | hb'
    · exact (List.pairwise_append.1 hL).2.2 a ha' b hb'
    · exact h1 a ha' b hb'
    · exact ple_of_plt (h2 a ha' b hb')
    · exact (List.pairwise_append.1 hR).2.2 a ha' b hb'
  · have e1 : SameK (L2 ++ R1) (R1 ++ L2) := SameK.swap fun a ha b hb e => plt_ne (h2 b hb a ha) e.symm
    have e2 : (L1 ++ L2) ++ (R1 ++ R2) = L1 ++ ((L2 ++ R1) ++ R2) := by simp
    have e3 : SameK (L1 ++ ((L2 ++ R1) ++ R2)) ((L1 ++ R1) ++ (L2 ++ R2)) := by
      have := (SameK.refl L1).app (e1.app (SameK.refl R2))
      refine this.trans ?_
      simp only [List.append_assoc]
      exact SameK.refl _
    rw [e2]
    exact e3.trans (k1.app k2)

theorem srt_take {l : List PRow} (h : SrtP l) (k : Nat) : SrtP (l.take k) := h.sublist (List.take_sublist _ _)
theorem srt_drop {l : List PRow} (h : SrtP l) (k : Nat) : SrtP (l.drop k) := h.sublist (List.drop_sublist _ _)

/-- In a sorted list, by places. -/
theorem srt_at {l : List PRow} (h : SrtP l) {i j : Nat} (hij : i ≤ j) (hj : j < l.length) : ple (l.getD i PRow.zero) (l.getD j PRow.zero) := by
  have e1 : l.getD i PRow.zero = l[i]'(by omega) := by simp [List.getD, show i < l.length by omega]
  have e2 : l.getD j PRow.zero = l[j] := by simp [List.getD, hj]
  by_cases h0 : i = j
  · subst h0; exact ple_refl _
  · rw [e1, e2]
    exact List.pairwise_iff_getElem.1 h i j (by omega) hj (by omega)
theorem mem_take_at {l : List PRow} {k : Nat} {x : PRow} (h : x ∈ l.take k) : ∃ i, i < k ∧ i < l.length ∧ l.getD i PRow.zero = x := by
  obtain ⟨i, hi, e⟩ := List.mem_iff_getElem.1 h
  rw [List.length_take] at hi
  refine ⟨i, by omega, by omega, ?_⟩
  rw [← e]
  simp [List.getD, show i < l.length by omega]
theorem mem_drop_at {l : List PRow} {k : Nat} {x : PRow} (h : x ∈ l.drop k) : ∃ i, k ≤ i ∧ i < l.length ∧ l.getD i PRow.zero = x := by
  obtain ⟨i, hi, e⟩ := List.mem_iff_getElem.1 h
  rw [List.length_drop] at hi
  refine ⟨k + i, by omega, by omega, ?_⟩
  rw [← e]
  simp [List.getD, show k + i < l.length by omega]

/-- How the halves lie to one another. -/
theorem cut_parts {L R : List PRow} (hL : SrtP L) (hR : SrtP R) (s e : Nat) (hs : s ≤ L.length) (he : e ≤ R.length)
    (hA : s = 0 ∨ e = R.length ∨ ple (L.getD (s - 1) PRow.zero) (R.getD e PRow.zero)) (hB : s = L.length ∨ e = 0 ∨ plt (R.getD (e - 1) PRow.zero) (L.getD s PRow.zero) = true) :
    (∀ x ∈ L.take s, ∀ y ∈ R.drop e, ple x y) ∧ (∀ x ∈ R.take e, ∀ y ∈ L.drop s, plt x y = true) := by
  constructor
  · intro x hx y hy
    obtain ⟨i, i1, i2, rfl⟩ := mem_take_at hx
    obtain ⟨j, j1, j2, rfl⟩ := mem_drop_at hy
    rcases hA with h | h | h
    · omega
    · omega
    · exact ple_trans (srt_at hL (by omega) (by omega)) (ple_trans h (srt_at hR j1 j2))
  · intro x hx y hy
    obtain ⟨i, i1, i2, rfl⟩ := mem_take_at hx
    obtain ⟨j, j1, j2, rfl⟩ := mem_drop_at hy
    rcases hB with h | h | h
    · omega
    · omega
    · exact plt_ple (ple_plt (srt_at hR (by omega) (by omega)) h) (srt_at hL j1 j2)

end Go.Proofs.YtdjlcgldplndiaaDoor
