/- pack.Unpack: what it leaves; between two states. No condition. -/
import Derived.Test.YtcmjohaohdgnjaaDoorUnpW
import Derived.Test.YtcmjohaohdgnjaaDoorGrtW
namespace Go.Proofs.YtcmjohaohdgnjaaDoor
open Go.RowKit

/-- What pack.Unpack answers: the machine whose bytes these are, or that they are none's. -/
def UnpPost (bs : List UInt8) (w : World) (e : Ending) (w' : World) : Prop := Touch (fun _ => False) w w' ∧
  ((∃ (base : Nat) (sts : List StP), base ≤ 1048576 ∧ sts.length ≤ 98305 ∧ RgtP sts base ∧ bs = packB base sts ∧ ∃ (A : Option Addr) (n c : Nat) (Z : List SV), e = .returned (.tuple #[.agg #[.int .i64 base, .slice A n c], .int .i64 0]) ∧ StsOk w' A n Z ∧ Z.map SV.p = sts ∧ n ≤ c) ∨
    ((∀ (base : Nat) (sts : List StP), base ≤ 1048576 → RgtP sts base → bs ≠ packB base sts) ∧ e = .returned (.tuple #[.agg #[.int .i64 0, .slice none 0 0], .int .i64 80])))
theorem rgtP_few {sts : List StP} {base : Int} (h : RgtP sts base) : sts.length ≤ 98305 := by
  rcases h with ⟨h, _⟩ | h
  · rw [h]; simp
  · exact h.few
theorem rgtP_form {sts : List StP} {base : Int} (h : RgtP sts base) : ∀ i, i < sts.length → FormP i (sts.getD i noSt) := by
  rcases h with ⟨h, _⟩ | h
  · intro i hi
    rw [h] at hi
    simp at hi
  · exact h.form
/-- No machine's bytes: what is read is none, or something stands behind, or what is read is not right. -/
theorem unp_none {bs : List UInt8} (h : ∀ (base : Nat) (zs : List StZ), machR bs = some ((base, zs), []) → ¬ RgtZ zs base) : ∀ (base : Nat) (sts : List StP), base ≤ 1048576 → RgtP sts base → bs ≠ packB base sts := by
  intro base sts hb hr e
  have h1 := mach_write hb (rgtP_few hr) (rgtP_form hr) []
  rw [List.append_nil, ← e] at h1
  exact h base _ h1 ⟨sts, rfl, hr⟩
theorem unp_some {bs : List UInt8} {base : Nat} {sts : List StP} (h : machR bs = some ((base, sts.map StP.z), [])) (hr : RgtP sts base) : bs = packB base sts := by
  have := mach_read (rgtP_form hr) h
  rw [List.append_nil] at this
  exact this
/-- Between two states, nothing amiss. -/
structure UI (w wr : World) (p M R : Nat) (base : Nat) (sA : Option Addr) (i sc : Nat) (Z : List ZV) (A : Option Addr) (n c : Nat) (t : List UInt8) : Prop where
  rdr : Rdr wr p A n c t 0
  blk : Blk wr M 24 #[.int .i64 base, .slice sA i sc]
  own : wr.ownsRow 0 44 3 (.slice sA i sc) i (zCells Z)
  len : Z.length = i
  el : ∀ z ∈ Z, z.Ok wr
  res : Blk wr R 24 #[.int .i64 0, .slice none 0 0]
  touch : Touch (fun _ => False) w wr
  fresh : ∀ g, (Value.slice sA i sc).ownBlock = some g → w.heap.size ≤ g
  py : w.heap.size ≤ p
  my : w.heap.size ≤ M
  ne : R ≠ M
/-- Something is amiss. -/
structure UB (w wr : World) (p M R : Nat) : Prop where
  rdr : ∃ (A : Option Addr) (n c : Nat) (t : List UInt8) (k : Int), 1 ≤ k ∧ Rdr wr p A n c t k
  res : Blk wr R 24 #[.int .i64 0, .slice none 0 0]
  touch : Touch (fun _ => False) w wr
  py : w.heap.size ≤ p
  my : w.heap.size ≤ M
  ne : R ≠ M
section
variable {w wr wx wS w10 : World} {p M R base : Nat} {sA : Option Addr} {i sc : Nat} {Z : List ZV} {A : Option Addr} {n c : Nat} {t : List UInt8}
theorem UI.quiet (h : UI w wr p M R base sA i sc Z A n c t) (T : Touch (fun _ => False) wr wx) : UI w wx p M R base sA i sc Z A n c t :=
  ⟨h.rdr.quiet T, h.blk.touch T (fun f => f), own_touch h.own T (fun _ _ f => f), h.len, fun z hz => (h.el z hz).quiet T, h.res.touch T (fun f => f), h.touch.then T, h.fresh, h.py, h.my, h.ne⟩
/-- What a call on the reader leaves alone. -/
theorem UI.kept (h : UI w wr p M R base sA i sc Z A n c t) (T : Touch (fun g => g = p) wr wx) : Blk wx M 24 #[.int .i64 base, .slice sA i sc] ∧ wx.ownsRow 0 44 3 (.slice sA i sc) i (zCells Z) ∧ (∀ z ∈ Z, z.Ok wx) ∧ Blk wx R 24 #[.int .i64 0, .slice none 0 0] ∧ Touch (fun _ => False) w wx := by
  have hp := blk_ty h.rdr.blk
  exact ⟨h.blk.touch T (fun e => (blk_ty h.blk).ne hp (by decide) e), own_touch h.own T (fun g hg e => (own_ty h.own hg).ne hp (by decide) e), fun z hz => (h.el z hz).touch T (fun g hg e => hg.ne hp (by decide) e), h.res.touch T (fun e => (blk_ty h.res).ne hp (by decide) e), h.touch.trans T (fun k hk e => by have := h.py; omega)⟩
/-- Where the machine's box stands behind the append. -/
theorem UI.blk10 (h : UI w wr p M R base sA i sc Z A n c t) (T : Touch (fun g => g = p) wr wS) (o : Obj) (hg : (wS.alloc o).grownBy w10 (Value.slice sA i sc).ownBlock) : Blk w10 M 24 #[.int .i64 base, .slice sA i sc] := by
  obtain ⟨k1, k2, k3, k4, k5⟩ := h.kept T
  have T1 : Touch (fun _ => False) wS (wS.alloc o) := (Touch.refl _ _).alloc _
  have hb := k1.touch T1 (fun f => f)
  have ho := own_touch k2 T1 (fun _ _ f => f)
  exact hb.grown hg (fun e => (own_ty ho e.symm).ne (blk_ty hb) (by decide) rfl)
theorem UI.grow (h : UI w wr p M R base sA i sc Z A n c t) (T : Touch (fun g => g = p) wr wS) (o : Obj) (hg : (wS.alloc o).grownBy w10 (Value.slice sA i sc).ownBlock) (v : Value) {A' : Option Addr} {n' c' : Nat} {t' : List UInt8} {k : Int} (hr : Rdr wS p A' n' c' t' k) :
    Rdr (w10.setCell ⟨M, 1, none⟩ v) p A' n' c' t' k ∧ Blk (w10.setCell ⟨M, 1, none⟩ v) M 24 #[.int .i64 base, v] ∧ Blk (w10.setCell ⟨M, 1, none⟩ v) R 24 #[.int .i64 0, .slice none 0 0] ∧ Touch (fun _ => False) w (w10.setCell ⟨M, 1, none⟩ v) ∧ (∀ z : ZV, z.Ok wS → z.Ok (w10.setCell ⟨M, 1, none⟩ v)) ∧ Touch (fun g => g = M ∨ (Value.slice sA i sc).ownBlock = some g) wS (w10.setCell ⟨M, 1, none⟩ v) := by
  obtain ⟨k1, k2, k3, k4, k5⟩ := h.kept T
  have T1 : Touch (fun _ => False) wS (wS.alloc o) := (Touch.refl _ _).alloc _
  have ho := own_touch k2 T1 (fun _ _ f => f)
  have T10 : Touch (fun g => (Value.slice sA i sc).ownBlock = some g) (wS.alloc o) w10 := (Touch.refl _ _).grown hg (fun k hk _ => hk)
  have hno : ∀ {ty : TypeId} {g : Nat}, TyAt (wS.alloc o) g ty → ty ≠ 44 → ¬ (Value.slice sA i sc).ownBlock = some g := fun hg ht e => hg.ne (own_ty ho e) ht rfl
  have hbM := h.blk10 T o hg
  have T11 : Touch (fun g => g = M) w10 (w10.setCell ⟨M, 1, none⟩ v) := (Touch.refl (fun g => g = M) _).setCell (fun _ => rfl) _
  have hM := blk_ty hbM
  have hr10 := (hr.quiet T1).touch T10 (hno (blk_ty (hr.quiet T1).blk) (by decide)) (fun g hg => hno hg (by decide))
  have hR10 := (k4.touch T1 (fun f => f)).touch T10 (hno (blk_ty (k4.touch T1 (fun f => f))) (by decide))
  refine ⟨hr10.touch T11 (fun e => (blk_ty hr10.blk).ne hM (by decide) e) (fun g hg e => hg.ne hM (by decide) e), hbM.set_ 1 v, hR10.touch T11 h.ne, ?_, ?_, ?_⟩
  · exact ((k5.then T1).trans T10 (fun k hk e => absurd (h.fresh k e) (by omega))).trans T11 (fun k hk e => by have := h.my; omega)
  · intro z hz
    exact ((hz.quiet T1).touch T10 (fun g hg => hno hg (by decide))).touch T11 (fun g hg e => hg.ne hM (by decide) e)
  · exact ((T1.up _).trans T10 (fun _ _ e => .inr e)).trans T11 (fun _ _ e => .inl e)
/-- Another state. -/
theorem UI.step (h : UI w wr p M R base sA i sc Z A n c t) (T : Touch (fun g => g = p) wr wS) {z : ZV} (hz : z.Ok wS) {o : Obj} {g4 cap4 : Nat} (hg : (wS.alloc o).grownBy w10 (Value.slice sA i sc).ownBlock) (hl : (Value.slice sA i sc).ownBlock = some g4 ∨ g4 = (wS.alloc o).heap.size) (ho : w10.ownsRow 0 44 3 (.slice (some ⟨g4, 0, none⟩) (i + 1) cap4) (i + 1) (zCells Z ++ z.cells)) {A' : Option Addr} {n' c' : Nat} {t' : List UInt8} (hr : Rdr wS p A' n' c' t' 0) :
    UI w (w10.setCell ⟨M, 1, none⟩ (.slice (some ⟨g4, 0, none⟩) (i + 1) cap4)) p M R base (some ⟨g4, 0, none⟩) (i + 1) cap4 (Z ++ [z]) A' n' c' t' := by
  obtain ⟨r1, r2, r3, r4, r5, r6⟩ := h.grow T o hg (.slice (some ⟨g4, 0, none⟩) (i + 1) cap4) hr
  obtain ⟨k1, k2, k3, k4, k5⟩ := h.kept T
  have hbM := h.blk10 T o hg
  have T11 : Touch (fun g => g = M) w10 (w10.setCell ⟨M, 1, none⟩ (.slice (some ⟨g4, 0, none⟩) (i + 1) cap4)) := (Touch.refl (fun g => g = M) _).setCell (fun _ => rfl) _
  refine ⟨r1, r2, ?_, by rw [List.length_append, h.len]; rfl, ?_, r3, r4, ?_, h.py, h.my, h.ne⟩
  · have e : zCells (Z ++ [z]) = zCells Z ++ z.cells := by simp [zCells]
    rw [e]
    exact own_touch ho T11 (fun g hg e => (own_ty ho hg).ne (blk_ty hbM) (by decide) e)
  · intro x hx
    rcases List.mem_append.1 hx with hx | hx
    · exact r5 x (k3 x hx)
    · rw [List.mem_singleton.1 hx]
      exact r5 z hz
  · intro g hg'
    injection hg' with hg'
    rcases hl with e | e
    · exact h.fresh g (hg' ▸ e)
    · have := k5.size
      simp only at hg'
      rw [← hg', e]
      simp
      omega
theorem UI.fail (h : UI w wr p M R base sA i sc Z A n c t) (T : Touch (fun g => g = p) wr wS) {o : Obj} (hg : (wS.alloc o).grownBy w10 (Value.slice sA i sc).ownBlock) (v : Value) {A' : Option Addr} {n' c' : Nat} {t' : List UInt8} {k : Int} (hk : 1 ≤ k) (hr : Rdr wS p A' n' c' t' k) : UB w (w10.setCell ⟨M, 1, none⟩ v) p M R := by
  obtain ⟨r1, r2, r3, r4, r5, r6⟩ := h.grow T o hg v hr
  exact ⟨⟨_, _, _, _, _, hk, r1⟩, r3, r4, h.py, h.my, h.ne⟩
theorem UI.sts (h : UI w wr p M R base sA i sc Z A n c t) : StsZ wr sA i Z := ⟨RdT.of_own h.own, h.len, h.el⟩
end
theorem sts_more {cnt i : Nat} {t2 t t' : List UInt8} {acc : List StZ} (hi : i < cnt) (h : stsR cnt 0 t2 = (stsR (cnt - i) i t).map fun r => (acc ++ r.1, r.2)) {z : StZ} (hz : stR i t = some (z, t')) : stsR cnt 0 t2 = (stsR (cnt - (i + 1)) (i + 1) t').map fun r => ((acc ++ [z]) ++ r.1, r.2) := by
  rw [h, show cnt - i = (cnt - (i + 1)) + 1 by omega]
  simp only [stsR, hz]
  cases stsR (cnt - (i + 1)) (i + 1) t' with
  | none => rfl
  | some r => simp
theorem sts_stop {cnt i : Nat} {t2 t : List UInt8} {acc : List StZ} (hi : i < cnt) (h : stsR cnt 0 t2 = (stsR (cnt - i) i t).map fun r => (acc ++ r.1, r.2)) (hz : stR i t = none) : stsR cnt 0 t2 = none := by
  rw [h, show cnt - i = (cnt - (i + 1)) + 1 by omega]
  simp only [stsR, hz]
  rfl

end Go.Proofs.YtcmjohaohdgnjaaDoor
