/- States whose arcs may be anything, in memory; pack.formed on such. No condition. -/
import Derived.Test.YtfaoifggkfmokaaDoorParP
import Derived.Test.YtfaoifggkfmokaaDoorPkA
namespace Go.Proofs.YtfaoifggkfmokaaDoor
open Go.RowKit
set_option linter.unusedSectionVars false
set_option linter.unusedSimpArgs false
set_option linter.unusedVariables false

/-- What pack.formed asks of a state's out and of its first arcs. -/
def okJ (num : Nat) (out : Int) (arcs : List (Int × Int × Int)) (j : Nat) : Prop :=
  (0 ≤ out ∧ out ≤ 1048576) ∧ ∃ l : List (Nat × Int × Nat), arcs.take j = l.map arcZ ∧ (l.map (·.1)).Pairwise (· < ·) ∧ (∀ a ∈ l, scal a.1 = true ∧ fitU a.1 = true) ∧ ∀ a ∈ l, 0 ≤ a.2.1 ∧ a.2.1 ≤ 1048576 ∧ a.2.2 < num
def labZ (arcs : List (Int × Int × Int)) : Nat → Int
  | 0 => 32
  | j + 1 => (arcs.getD j (0, 0, 0)).1
def lowZ (l0 : Int) (arcs : List (Int × Int × Int)) (j : Nat) : Int := (arcs.take j).foldl (fun m a => min m a.2.1) l0
theorem lowZ_succ (l0 : Int) (arcs : List (Int × Int × Int)) (j : Nat) (hj : j < arcs.length) : lowZ l0 arcs (j + 1) = min (lowZ l0 arcs j) (arcs.getD j (0, 0, 0)).2.1 := by
  unfold lowZ
  rw [List.take_succ_eq_append_getElem hj, List.foldl_append]
  simp [List.getD, hj]
theorem fold_low (l : List (Nat × Int × Nat)) : ∀ m : Int, (l.map arcZ).foldl (fun m a => min m a.2.1) m = l.foldl (fun m a => min m a.2.1) m := by
  induction l with
  | nil => intro m; rfl
  | cons a l ih => intro m; simp only [List.map_cons, List.foldl_cons, ih, arcZ]
theorem okJ_zero (num : Nat) (out : Int) (arcs : List (Int × Int × Int)) : okJ num out arcs 0 ↔ 0 ≤ out ∧ out ≤ 1048576 :=
  ⟨fun h => h.1, fun h => ⟨h, [], by simp, by simp, by simp, by simp⟩⟩
def letZ (x : Int) : Prop := ∃ r : Nat, x = (r : Int) ∧ scal r = true ∧ fitU r = true
theorem okJ_succ {num : Nat} {out : Int} {arcs : List (Int × Int × Int)} {j : Nat} (hj : j < arcs.length) {la ao tt : Int} (ha : arcs.getD j (0, 0, 0) = (la, ao, tt)) :
    okJ num out arcs (j + 1) ↔ okJ num out arcs j ∧ labZ arcs j < la ∧ letZ la ∧ 0 ≤ tt ∧ tt < (num : Int) ∧ 0 ≤ ao ∧ ao ≤ 1048576 := by
  have htk := take_snoc arcs (0, 0, 0) j hj
  rw [ha] at htk
  constructor
  · rintro ⟨ho, l, h1, h2, h3, h4⟩
    rw [htk] at h1
    obtain ⟨l1, l2, rfl, e1, e2⟩ := List.map_eq_append_iff.1 h1.symm
    have hl2 : l2.length = 1 := by
      have := congrArg List.length e2
      simpa using this
    obtain ⟨b, rfl⟩ := List.length_eq_one_iff.1 hl2
    simp only [List.map_cons, List.map_nil, List.cons.injEq, and_true, arcZ, Prod.mk.injEq] at e2
    obtain ⟨r1, r2, r3⟩ := e2
    have hb3 := h3 b (by simp)
    have hb4 := h4 b (by simp)
    rw [List.map_append, List.pairwise_append] at h2
    refine ⟨⟨ho, l1, e1.symm, h2.1, fun a h => h3 a (by simp [h]), fun a h => h4 a (by simp [h])⟩, ?_, ⟨b.1, r1.symm, hb3⟩, by omega, by omega, by omega, by omega⟩
    cases j with
    | zero =>
      simp only [labZ]
      have := hb3.2
      unfold fitU at this
      simp only [Bool.and_eq_true, decide_eq_true_eq] at this
      omega
    | succ j =>
      simp only [labZ]
      have hjl : j < arcs.length := by omega
      have hlast := take_snoc arcs (0, 0, 0) j hjl
      have hmem : arcs.getD j (0, 0, 0) ∈ l1.map arcZ := by rw [e1, hlast]; simp
      obtain ⟨c, hc, hc2⟩ := List.mem_map.1 hmem
      have := h2.2.2 c.1 (List.mem_map_of_mem hc) b.1 (by simp)
      rw [← hc2]
      simp only [arcZ]
      omega
  · rintro ⟨⟨ho, l, h1, h2, h3, h4⟩, g1, ⟨r, rfl, g2⟩, g3, g4, g5, g6⟩
    refine ⟨ho, l ++ [(r, ao, tt.toNat)], ?_, ?_, ?_, ?_⟩
    · rw [htk, h1]
      simp only [List.map_append, List.map_cons, List.map_nil, arcZ]
      rw [show ((tt.toNat : Nat) : Int) = tt by omega]
    · rw [List.map_append, List.pairwise_append]
      refine ⟨h2, by simp, ?_⟩
      intro x hx y hy
      simp only [List.map_cons, List.map_nil, List.mem_singleton] at hy
      subst hy
      obtain ⟨c, hc, rfl⟩ := List.mem_map.1 hx
      cases j with
      | zero =>
        have hnil : l = [] := by
          rw [List.take_zero] at h1
          exact List.map_eq_nil_iff.1 h1.symm
        rw [hnil] at hc
        cases hc
      | succ j =>
        simp only [labZ] at g1
        have hjl : j < arcs.length := by omega
        have hlast := take_snoc arcs (0, 0, 0) j hjl
        rw [hlast] at h1
        obtain ⟨l1, l2, rfl, e1, e2⟩ := List.map_eq_append_iff.1 h1.symm
        have hl2 : l2.length = 1 := by
          have := congrArg List.length e2
          simpa using this
        obtain ⟨b, rfl⟩ := List.length_eq_one_iff.1 hl2
        simp only [List.map_cons, List.map_nil, List.cons.injEq, and_true] at e2
        rw [← e2] at g1
        simp only [arcZ] at g1
        rw [List.map_append, List.pairwise_append] at h2
        rcases List.mem_append.1 hc with hc | hc
        · have := h2.2.2 c.1 (List.mem_map_of_mem hc) b.1 (by simp)
          omega
        · simp only [List.mem_singleton] at hc
          subst hc
          omega
    · intro a h
      rcases List.mem_append.1 h with h | h
      · exact h3 a h
      · simp only [List.mem_singleton] at h
        subst h
        exact g2
    · intro a h
      rcases List.mem_append.1 h with h | h
      · exact h4 a h
      · simp only [List.mem_singleton] at h
        subst h
        simp only
        omega
/-- A state of which pack.formed says yes. -/
def FormZ (num : Nat) (z : StZ) : Prop := ∃ s : StP, s.z = z ∧ FormP num s
theorem formZ_iff (num : Nat) (z : StZ) : FormZ num z ↔ (z.fin = false → z.out = 0) ∧ okJ num z.out z.arcs z.arcs.length ∧ lowZ (if z.fin = true then z.out else 1048577) z.arcs z.arcs.length = 0 := by
  constructor
  · rintro ⟨s, rfl, h⟩
    refine ⟨h.fin0, ⟨⟨h.out0, h.out1⟩, s.arcs, by simp only [StP.z]; rw [List.take_of_length_le (by simp)], h.lab, h.run, h.arc⟩, ?_⟩
    have hl := h.low
    unfold lowP at hl
    unfold lowZ
    simp only [StP.z, List.take_length, fold_low]
    exact hl
  · rintro ⟨h1, ⟨h2, l, h3, h4, h5, h6⟩, h7⟩
    rw [List.take_length] at h3
    refine ⟨⟨z.fin, z.out, l⟩, ?_, h2.1, h2.2, h1, h4, h5, h6, ?_⟩
    · obtain ⟨f, o, a⟩ := z
      simp only at h3
      simp only [StP.z]
      rw [h3]
    · unfold lowZ at h7
      rw [List.take_length, h3, fold_low] at h7
      exact h7

/-- Blocks below a number are old: a machine that came in may lie there, whatever the blocks' types are. -/
structure BaseT where
  b : Nat
def bs [Inhabited BaseT] : Nat := (default : BaseT).b
section
variable [Inhabited BaseT]
def OT (w : World) (g : Nat) (t : TypeId) : Prop := (g < w.heap.size ∧ g < bs) ∨ TyAt w g t
theorem OT.ne {w : World} {b b' : Nat} {t t' : TypeId} (h : OT w b t) (h' : TyAt w b' t') (ht : t ≠ t') (hb : bs ≤ b') : b ≠ b' := by
  rcases h with ⟨_, h⟩ | h
  · omega
  · exact h.ne h' ht
theorem OT.lt {w : World} {b : Nat} {t : TypeId} (h : OT w b t) : b < w.heap.size := by
  rcases h with h | h
  · exact h.1
  · exact h.lt
theorem OT.touch {w w' : World} {S : Nat → Prop} {b : Nat} {t : TypeId} (h : OT w b t) (T : Touch S w w') (hS : ¬ S b) : OT w' b t := by
  rcases h with h | h
  · exact .inl ⟨Nat.lt_of_lt_of_le h.1 T.size, h.2⟩
  · exact .inr (h.touch T hS)
/-- A slice that reads as cells, in an old block or in one of elements of type t. -/
structure RdO (w : World) (t : TypeId) (size : Nat) (A : Option Addr) (n : Nat) (xs : List Value) : Prop where
  rd : Reads w size A n xs
  ty : 0 < n → ∀ g, adBlock A = some g → OT w g t
theorem RdO.touch {w w' : World} {S : Nat → Prop} {t : TypeId} {size : Nat} {A : Option Addr} {n : Nat} {xs : List Value} (h : RdO w t size A n xs) (T : Touch S w w') (hS : ∀ g, OT w g t → ¬ S g) : RdO w' t size A n xs := by
  by_cases hn : 0 < n
  · exact ⟨h.rd.touch T fun g hg => hS g (h.ty hn g hg), fun _ g hg => (h.ty hn g hg).touch T (hS g (h.ty hn g hg))⟩
  · exact ⟨⟨h.rd.1, fun h => absurd h hn⟩, fun h => absurd h hn⟩
theorem RdO.quiet {w w' : World} {t : TypeId} {size : Nat} {A : Option Addr} {n : Nat} {xs : List Value} (h : RdO w t size A n xs) (T : Touch (fun _ => False) w w') : RdO w' t size A n xs := h.touch T fun _ _ f => f
theorem RdT.o {w : World} {t : TypeId} {size : Nat} {A : Option Addr} {n : Nat} {xs : List Value} (h : RdT w t size A n xs) : RdO w t size A n xs := ⟨h.rd, fun hn g hg => .inr (h.ty hn g hg)⟩
theorem RdO.of_own {w : World} {base : Nat} {t : TypeId} {size : Nat} {A : Option Addr} {n c : Nat} {xs : List Value} (h : w.ownsRow base t size (.slice A n c) n xs) : RdO w t size A n xs := (RdT.of_own h).o
structure SV.Od (s : SV) (w : World) : Prop where
  len : s.arcs.length = s.n
  rd : RdO w 74 3 s.A s.n (aCells s.arcs)
  le : s.n ≤ s.c
  mx : s.c ≤ maxLen
theorem SV.Od.touch {s : SV} {w w' : World} {S : Nat → Prop} (h : s.Od w) (T : Touch S w w') (hS : ∀ g, OT w g 74 → ¬ S g) : s.Od w' := ⟨h.len, h.rd.touch T hS, h.le, h.mx⟩
theorem SV.Ok.od {s : SV} {w : World} (h : s.Ok w) : s.Od w := ⟨h.len, h.rd.o, h.le, h.mx⟩
structure StsOd (w : World) (A : Option Addr) (n : Nat) (Z : List SV) : Prop where
  rd : RdO w 63 3 A n (sCells Z)
  len : Z.length = n
  el : ∀ z ∈ Z, z.Od w
theorem StsOd.quiet {w w' : World} {A : Option Addr} {n : Nat} {Z : List SV} (h : StsOd w A n Z) (T : Touch (fun _ => False) w w') : StsOd w' A n Z := ⟨h.rd.quiet T, h.len, fun z hz => (h.el z hz).touch T (fun _ _ f => f)⟩
theorem StsOk.od {w : World} {A : Option Addr} {n : Nat} {Z : List SV} (h : StsOk w A n Z) : StsOd w A n Z := ⟨h.rd.o, h.len, fun z hz => (h.el z hz).od⟩

/-- Such a state in memory. -/
structure ZV where
  fin : Bool
  out : Int
  A : Option Addr
  n : Nat
  c : Nat
  arcs : List (Int × Int × Int)
def zaCells (l : List (Int × Int × Int)) : List Value := l.flatMap fun a => [.int .i32 a.1, .int .i64 a.2.1, .int .i64 a.2.2]
def ZV.cells (s : ZV) : List Value := [.bool s.fin, .int .i64 s.out, .slice s.A s.n s.c]
def ZV.p (s : ZV) : StZ := ⟨s.fin, s.out, s.arcs⟩
structure ZV.Ok (s : ZV) (w : World) : Prop where
  len : s.arcs.length = s.n
  rd : RdO w 74 3 s.A s.n (zaCells s.arcs)
  le : s.n ≤ s.c
  mx : s.c ≤ maxLen
def zCells (Z : List ZV) : List Value := Z.flatMap ZV.cells
end
theorem zCells_app (V W : List ZV) : zCells (V ++ W) = zCells V ++ zCells W := List.flatMap_append
section
variable [Inhabited BaseT]
theorem ZV.Ok.touch {s : ZV} {w w' : World} {S : Nat → Prop} (h : s.Ok w) (T : Touch S w w') (hS : ∀ g, OT w g 74 → ¬ S g) : s.Ok w' := ⟨h.len, h.rd.touch T hS, h.le, h.mx⟩
theorem ZV.Ok.quiet {s : ZV} {w w' : World} (h : s.Ok w) (T : Touch (fun _ => False) w w') : s.Ok w' := h.touch T (fun _ _ f => f)
structure StsZ (w : World) (A : Option Addr) (n : Nat) (Z : List ZV) : Prop where
  rd : RdO w 63 3 A n (zCells Z)
  len : Z.length = n
  el : ∀ z ∈ Z, z.Ok w
theorem StsZ.quiet {w w' : World} {A : Option Addr} {n : Nat} {Z : List ZV} (h : StsZ w A n Z) (T : Touch (fun _ => False) w w') : StsZ w' A n Z := ⟨h.rd.quiet T, h.len, fun z hz => (h.el z hz).quiet T⟩
end
theorem zaCells_map (l : List (Nat × Int × Nat)) : zaCells (l.map arcZ) = aCells l := by
  unfold zaCells aCells
  rw [List.flatMap_map]
  rfl
section
variable [Inhabited BaseT]
/-- The same state, seen as one whose arcs are in form. -/
def ZV.sv (z : ZV) (s : StP) : SV := ⟨z.fin, z.out, z.A, z.n, z.c, s.arcs⟩
theorem ZV.sv_ok {z : ZV} {w : World} {s : StP} (h : z.Ok w) (hs : s.z = z.p) : (z.sv s).Od w ∧ (z.sv s).p = s ∧ (z.sv s).cells = z.cells := by
  obtain ⟨f, o, A, n, c, a⟩ := z
  obtain ⟨f', o', a'⟩ := s
  simp only [StP.z, ZV.p, StZ.mk.injEq] at hs
  obtain ⟨rfl, rfl, rfl⟩ := hs
  refine ⟨⟨?_, ?_, h.le, h.mx⟩, rfl, rfl⟩
  · have := h.len
    simpa [ZV.sv] using this
  · have := h.rd
    rw [zaCells_map] at this
    exact this
def SV.zv (s : SV) : ZV := ⟨s.fin, s.out, s.A, s.n, s.c, s.arcs.map arcZ⟩
theorem SV.zv_ok {s : SV} {w : World} (h : s.Od w) : s.zv.Ok w ∧ s.zv.p = s.p.z ∧ s.zv.cells = s.cells :=
  ⟨⟨by simp only [SV.zv, List.length_map]; exact h.len, by simp only [SV.zv]; rw [zaCells_map]; exact h.rd, h.le, h.mx⟩, rfl, rfl⟩
theorem stsZ_of {w : World} {A : Option Addr} {n : Nat} {Z : List SV} (h : StsOd w A n Z) : StsZ w A n (Z.map SV.zv) := by
  refine ⟨?_, by rw [List.length_map]; exact h.len, fun z hz => ?_⟩
  · have e : zCells (Z.map SV.zv) = sCells Z := by
      unfold zCells sCells
      rw [List.flatMap_map]
      rfl
    rw [e]
    exact h.rd
  · obtain ⟨s, hs, rfl⟩ := List.mem_map.1 hz
    exact (SV.zv_ok (h.el s hs)).1
/-- Rows of such states whose arcs are in form. -/
theorem stsOk_of {w : World} {A : Option Addr} {n : Nat} : ∀ (Z : List ZV) (sts : List StP), Z.map ZV.p = sts.map StP.z → (∀ z ∈ Z, z.Ok w) → ∃ Y : List SV, Y.map SV.p = sts ∧ sCells Y = zCells Z ∧ Y.length = Z.length ∧ ∀ y ∈ Y, y.Od w
  | [], [], _, _ => ⟨[], rfl, rfl, rfl, fun y hy => by cases hy⟩
  | [], _ :: _, h, _ => by simp at h
  | _ :: _, [], h, _ => by simp at h
  | z :: Z, s :: sts, h, hz => by
    simp only [List.map_cons, List.cons.injEq] at h
    obtain ⟨Y, h1, h2, h3, h4⟩ := stsOk_of (A := A) (n := n) Z sts h.2 (fun x hx => hz x (List.mem_cons_of_mem _ hx))
    obtain ⟨g1, g2, g3⟩ := ZV.sv_ok (hz z List.mem_cons_self) h.1.symm
    refine ⟨z.sv s :: Y, by rw [List.map_cons, h1, g2], ?_, by rw [List.length_cons, List.length_cons, h3], ?_⟩
    · unfold sCells zCells at *
      rw [List.flatMap_cons, List.flatMap_cons, h2, g3]
    · intro y hy
      rcases List.mem_cons.1 hy with rfl | hy
      · exact g1
      · exact h4 y hy
theorem StsZ.ok {w : World} {A : Option Addr} {n : Nat} {Z : List ZV} (h : StsZ w A n Z) {sts : List StP} (hs : Z.map ZV.p = sts.map StP.z) : ∃ Y : List SV, Y.map SV.p = sts ∧ StsOd w A n Y := by
  obtain ⟨Y, h1, h2, h3, h4⟩ := stsOk_of (A := A) (n := n) Z sts hs h.el
  exact ⟨Y, h1, by rw [h2]; exact h.rd, by rw [h3]; exact h.len, h4⟩
def zvZero : ZV := ⟨false, 0, none, 0, 0, []⟩
end
theorem zCells_at (X : List ZV) (k : Nat) (hk : k < X.length) (j : Nat) (hj : j < 3) : (zCells X)[k * 3 + j]? = some ((X.getD k zvZero).cells.getD j undef) := by
  have h := flat_at ZV.cells 3 (fun _ => rfl) X k j hk hj
  unfold zCells
  rw [h]
  have e : X.getD k zvZero = X[k] := by simp [List.getD, hk]
  rw [e]
  have hl : (X[k].cells).length = 3 := rfl
  rw [List.getD_eq_getElem?_getD, List.getElem?_eq_getElem (by rw [hl]; exact hj)]
  rfl
theorem zaCells_at (X : List (Int × Int × Int)) (k : Nat) (hk : k < X.length) (j : Nat) (hj : j < 3) : (zaCells X)[k * 3 + j]? = some ([.int .i32 (X.getD k (0, 0, 0)).1, .int .i64 (X.getD k (0, 0, 0)).2.1, .int .i64 (X.getD k (0, 0, 0)).2.2].getD j undef) := by
  have h := flat_at (fun a : Int × Int × Int => [Value.int .i32 a.1, .int .i64 a.2.1, .int .i64 a.2.2]) 3 (fun _ => rfl) X k j hk hj
  unfold zaCells
  rw [h]
  have e : X.getD k (0, 0, 0) = X[k] := by simp [List.getD, hk]
  rw [e, List.getD_eq_getElem?_getD, List.getElem?_eq_getElem (by simpa using hj)]
  rfl
theorem zstate_at {w : World} {A : Option Addr} {n : Nat} {X : List ZV} (h : Reads w 3 A n (zCells X)) (hn : X.length = n) (k : Nat) (hk : k < n) :
    ∃ g off, A = some ⟨g, off, none⟩ ∧ g < w.heap.size ∧ w.cell? ⟨g, off + k * 3, none⟩ = some (.bool (X.getD k zvZero).fin) ∧ w.cell? ⟨g, off + k * 3 + 1, none⟩ = some (.int .i64 (X.getD k zvZero).out) ∧ w.cell? ⟨g, off + k * 3 + 2, none⟩ = some (.slice (X.getD k zvZero).A (X.getD k zvZero).n (X.getD k zvZero).c) := by
  obtain ⟨g, off, hA, hg, hc⟩ := h.2 (by omega)
  refine ⟨g, off, hA, hg, ?_, ?_, ?_⟩
  · exact hc _ _ (zCells_at X k (by omega) 0 (by omega))
  · exact hc _ _ (zCells_at X k (by omega) 1 (by omega))
  · exact hc _ _ (zCells_at X k (by omega) 2 (by omega))
theorem zarc_at {w : World} {A : Option Addr} {n : Nat} {X : List (Int × Int × Int)} (h : Reads w 3 A n (zaCells X)) (hn : X.length = n) (k : Nat) (hk : k < n) :
    ∃ g off, A = some ⟨g, off, none⟩ ∧ g < w.heap.size ∧ w.cell? ⟨g, off + k * 3, none⟩ = some (.int .i32 (X.getD k (0, 0, 0)).1) ∧ w.cell? ⟨g, off + k * 3 + 1, none⟩ = some (.int .i64 (X.getD k (0, 0, 0)).2.1) ∧ w.cell? ⟨g, off + k * 3 + 2, none⟩ = some (.int .i64 (X.getD k (0, 0, 0)).2.2) := by
  obtain ⟨g, off, hA, hg, hc⟩ := h.2 (by omega)
  refine ⟨g, off, hA, hg, ?_, ?_, ?_⟩
  · exact hc _ _ (zaCells_at X k (by omega) 0 (by omega))
  · exact hc _ _ (zaCells_at X k (by omega) 1 (by omega))
  · exact hc _ _ (zaCells_at X k (by omega) 2 (by omega))
section
variable [Inhabited BaseT]

end
end Go.Proofs.YtfaoifggkfmokaaDoor
