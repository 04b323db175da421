/- SessionOnce's plain law: what was kept of each session, and that each number is new once. No program in sight. -/
import Derived.Test.YtiakbccomgcncaaSessA
import Derived.Test.YtiakbccomgcncaaFrame
namespace Go.Proofs.Ytiakbccomgcncaa
open Go.RowKit Go.ChangeShapes Go.WideShapes Go.ChangeAt

/-- A call of a script. -/
structure OpR where
  kind : Int
  id : Int
  seq : Int
  code : Int
  sess : Int
  had : Int
deriving DecidableEq, Inhabited

def OpR.zero : OpR := ⟨0, 0, 0, 0, 0, 0⟩
def OpR.cells (r : OpR) : List Value := [.int .i64 r.kind, .int .u64 r.id, .int .u64 r.seq, .int .i64 r.code, .int .u64 r.sess, .int .i64 r.had]
def OpR.wf (r : OpR) : Prop := (Lit.int .i64 r.kind).wf = true ∧ (Lit.int .u64 r.id).wf = true ∧ (Lit.int .u64 r.seq).wf = true ∧ (Lit.int .i64 r.code).wf = true ∧ (Lit.int .u64 r.sess).wf = true ∧ (Lit.int .i64 r.had).wf = true
def opCells (l : List OpR) : List Value := l.flatMap OpR.cells
theorem opCells_len (l : List OpR) : (opCells l).length = l.length * 6 := flat_len OpR.cells 6 (fun _ => rfl) l
theorem opCells_snoc (l : List OpR) (r : OpR) : opCells (l ++ [r]) = opCells l ++ r.cells := by simp [opCells]
theorem opCells_one (l : List OpR) : ∀ u ∈ opCells l, u.oneCell' = true := by
  intro u hu
  simp only [opCells, List.mem_flatMap] at hu
  obtain ⟨r, _, hu⟩ := hu
  simp only [OpR.cells, List.mem_cons, List.not_mem_nil, or_false] at hu
  rcases hu with rfl | rfl | rfl | rfl | rfl | rfl <;> rfl

/-- The six cells of a call. -/
theorem op_at {w : World} {A : Option Addr} {n : Nat} {l : List OpR} (h : Reads w 6 A n (opCells l)) (hl : n = l.length) (k : Nat) (hk : k < n) :
    ∃ b off, A = some ⟨b, off, none⟩ ∧ b < w.heap.size ∧ w.cell? ⟨b, off + k * 6, none⟩ = some (.int .i64 (l.getD k OpR.zero).kind) ∧ w.cell? ⟨b, off + k * 6 + 1, none⟩ = some (.int .u64 (l.getD k OpR.zero).id) ∧
      w.cell? ⟨b, off + k * 6 + 2, none⟩ = some (.int .u64 (l.getD k OpR.zero).seq) ∧ w.cell? ⟨b, off + k * 6 + 3, none⟩ = some (.int .i64 (l.getD k OpR.zero).code) ∧
      w.cell? ⟨b, off + k * 6 + 4, none⟩ = some (.int .u64 (l.getD k OpR.zero).sess) ∧ w.cell? ⟨b, off + k * 6 + 5, none⟩ = some (.int .i64 (l.getD k OpR.zero).had) := by
  obtain ⟨b, off, hA, hb, hc⟩ := h.form (by omega)
  have hkl : k < l.length := by omega
  have e : l.getD k OpR.zero = l[k] := by simp [List.getD, hkl]
  rw [e]
  have key : ∀ j, j < 6 → ∀ u, (l[k].cells)[j]? = some u → w.cell? ⟨b, off + k * 6 + j, none⟩ = some u := fun j hj u hu => by
    rw [Nat.add_assoc]
    exact hc _ u (by rw [← hu]; exact flat_at OpR.cells 6 (fun _ => rfl) l k j hkl hj)
  exact ⟨b, off, hA, hb, key 0 (by omega) _ rfl, key 1 (by omega) _ rfl, key 2 (by omega) _ rfl, key 3 (by omega) _ rfl, key 4 (by omega) _ rfl, key 5 (by omega) _ rfl⟩

def OpR.row (x : OpR) : SRow := ⟨x.seq, x.code, x.sess, x.had⟩

/-- The last call of a session. -/
def lastOp (l : List OpR) (id : Int) : OpR := l.foldl (fun k x => if x.id = id then x else k) OpR.zero
theorem lastOp_snoc (l : List OpR) (x : OpR) (id : Int) : lastOp (l ++ [x]) id = if x.id = id then x else lastOp l id := by
  simp [lastOp, List.foldl_append]
theorem lastOp_take (l : List OpR) (k : Nat) (hk : k < l.length) (id : Int) : lastOp (l.take (k + 1)) id = if (l.getD k OpR.zero).id = id then l.getD k OpR.zero else lastOp (l.take k) id := by
  have e : l.getD k OpR.zero = l[k] := by simp [List.getD, hk]
  rw [List.take_succ_eq_append_getElem hk, lastOp_snoc, e]

/-- The table has of each session the last call that was done in it; the numbers rise. -/
structure Once (l : List SRow) (done : List OpR) : Prop where
  row : ∀ k, k < l.length → rowAt l ((k : Int) + 1) = (lastOp done ((k : Int) + 1)).row
  is : ∀ k : Nat, k < l.length → rowAt l ((k : Int) + 1) ≠ SRow.zero → (lastOp done ((k : Int) + 1)).id = (k : Int) + 1
  le : ∀ x ∈ done, ∃ k : Nat, k < l.length ∧ x.id = (k : Int) + 1 ∧ x.seq ≤ (rowAt l x.id).seq

theorem Once.start : Once [] [] := ⟨fun k hk => by simp at hk, fun k hk => by simp at hk, fun x hx => by simp at hx⟩

theorem lastOp_zero (done : List OpR) (id : Int) (h : ∀ x ∈ done, x.id ≠ id) : lastOp done id = OpR.zero := by
  unfold lastOp
  have : ∀ (l : List OpR) (z : OpR), (∀ x ∈ l, x.id ≠ id) → l.foldl (fun k x => if x.id = id then x else k) z = z := by
    intro l
    induction l with
    | nil => intro z _; rfl
    | cons x l ih =>
      intro z hl
      rw [List.foldl_cons, if_neg (hl x (by simp))]
      exact ih z (fun y hy => hl y (by simp [hy]))
  exact this done _ h

theorem rowAt_snoc (l : List SRow) (r : SRow) (k : Nat) (hk : k < l.length) : rowAt (l ++ [r]) ((k : Int) + 1) = rowAt l ((k : Int) + 1) := by
  rw [rowAt_succ _ _ (by simp; omega), rowAt_succ _ _ hk, List.getElem_append_left hk]
theorem rowAt_last (l : List SRow) (r : SRow) : rowAt (l ++ [r]) ((l.length : Int) + 1) = r := by
  rw [rowAt_succ _ _ (by simp)]
  simp

theorem Once.open {l : List SRow} {done : List OpR} (h : Once l done) : Once (l ++ [SRow.zero]) done := by
  refine ⟨fun k hk => ?_, fun k hk hne => ?_, fun x hx => ?_⟩
  · rcases Nat.lt_or_ge k l.length with hlt | hge
    · rw [rowAt_snoc l _ k hlt]; exact h.row k hlt
    · have : k = l.length := by simp at hk; omega
      subst this
      rw [rowAt_last, lastOp_zero]
      · rfl
      · intro x hx hid
        obtain ⟨j, hj, hxj, _⟩ := h.le x hx
        omega
  · rcases Nat.lt_or_ge k l.length with hlt | hge
    · rw [rowAt_snoc l _ k hlt] at hne; exact h.is k hlt hne
    · have : k = l.length := by simp at hk; omega
      subst this
      rw [rowAt_last] at hne
      exact absurd rfl hne
  · obtain ⟨k, hk, he, hs⟩ := h.le x hx
    exact ⟨k, by simp; omega, he, by rw [he, rowAt_snoc l _ k hk, ← he]; exact hs⟩

/-- A repeated request finds the answer that was kept. -/
theorem Once.again {l : List SRow} {done : List OpR} (h : Once l done) (id seq : Int) (ht : thereB l id = true) (h0 : seq ≠ 0) (he : seq = (rowAt l id).seq) :
    (lastOp done id).id = id ∧ (lastOp done id).row = rowAt l id := by
  obtain ⟨k, rfl, hk⟩ := thereB_at l id ht
  refine ⟨h.is k hk ?_, (h.row k hk).symm⟩
  intro hz
  rw [hz] at he
  exact h0 he

/-- A new request has a number that was never done. -/
theorem Once.new {l : List SRow} {done : List OpR} (h : Once l done) (id seq : Int) (hs : (rowAt l id).seq < seq) : ∀ x ∈ done, ¬ (x.id = id ∧ x.seq = seq) := by
  rintro x hx ⟨h1, h2⟩
  obtain ⟨k, hk, he, hle⟩ := h.le x hx
  rw [h1, h2] at hle
  omega

theorem rowAt_set (l : List SRow) (k j : Nat) (r : SRow) (hk : k < l.length) (hj : j < l.length) : rowAt (l.set k r) ((j : Int) + 1) = if k = j then r else rowAt l ((j : Int) + 1) := by
  rw [rowAt_succ _ _ (by simp; exact hj), rowAt_succ _ _ hj, List.getElem_set]

theorem Once.keep {l : List SRow} {done : List OpR} (h : Once l done) (o : OpR) (ht : thereB l o.id = true) (h0 : o.seq ≠ 0) (hs : (rowAt l o.id).seq < o.seq) :
    Once (l.set (o.id - 1).toNat o.row) (done ++ [o]) := by
  obtain ⟨k, hid, hk⟩ := thereB_at l o.id ht
  have e : (o.id - 1).toNat = k := by omega
  rw [e]
  refine ⟨fun j hj => ?_, fun j hj hne => ?_, fun x hx => ?_⟩
  · simp at hj
    rw [rowAt_set l k j _ hk hj, lastOp_snoc]
    by_cases hkj : k = j
    · subst hkj
      rw [if_pos rfl, if_pos hid]
    · rw [if_neg hkj, if_neg (by omega)]
      exact h.row j hj
  · simp at hj
    rw [rowAt_set l k j _ hk hj] at hne
    rw [lastOp_snoc]
    by_cases hkj : k = j
    · subst hkj
      rw [if_pos hid]
      exact hid
    · rw [if_neg (by omega)]
      rw [if_neg hkj] at hne
      exact h.is j hj hne
  · rcases List.mem_append.1 hx with hx | hx
    · obtain ⟨j, hj, hxj, hle⟩ := h.le x hx
      refine ⟨j, by simp; exact hj, hxj, ?_⟩
      rw [hxj, rowAt_set l k j _ hk hj]
      rw [hxj] at hle
      by_cases hkj : k = j
      · subst hkj
        rw [if_pos rfl]
        rw [hid] at hs
        show x.seq ≤ o.seq
        omega
      · rw [if_neg hkj]; exact hle
    · simp at hx
      subst hx
      refine ⟨k, by simp; exact hk, hid, ?_⟩
      rw [hid, rowAt_set l k k _ hk hk, if_pos rfl]
      exact Int.le_refl _

theorem chk_cases (t : Bool) (r : SRow) (seq : Int) :
    chk t r seq = ⟨0, 0, 0, false, 150⟩ ∨ chk t r seq = ⟨0, 0, 0, false, 151⟩ ∨ (t = true ∧ seq ≠ 0 ∧ seq = r.seq ∧ chk t r seq = ⟨r.code, r.sess, r.had, true, 0⟩) ∨
      (t = true ∧ seq ≠ 0 ∧ r.seq < seq ∧ chk t r seq = ⟨0, 0, 0, false, 0⟩) := by
  unfold chk
  cases t
  · left; rfl
  · rw [if_neg (by simp)]
    by_cases h : seq = 0 ∨ seq < r.seq
    · rw [if_pos h]; right; left; rfl
    · rw [if_neg h]
      have h0 : seq ≠ 0 := fun e => h (.inl e)
      by_cases h2 : seq = r.seq
      · rw [if_pos h2]; right; right; left; exact ⟨rfl, h0, h2, rfl⟩
      · rw [if_neg h2]; right; right; right; exact ⟨rfl, h0, by omega, rfl⟩

end Go.Proofs.Ytiakbccomgcncaa
