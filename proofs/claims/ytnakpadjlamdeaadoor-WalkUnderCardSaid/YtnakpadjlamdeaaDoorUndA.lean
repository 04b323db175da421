/- What a loop's body may turn while an iterator stands still: newer pairs and their slices. No condition. -/
import Derived.Test.YtnakpadjlamdeaaDoorAllW
namespace Go.Proofs.YtnakpadjlamdeaaDoor
open Go.RowKit

/-- Nothing below B0, and of what lies above only pairs and slices of pairs. -/
structure KpT (B0 : Nat) (w w' : World) : Prop where
  os : w'.os = w.os
  tape : w'.tape = w.tape
  output : w'.output = w.output
  size : w.heap.size ≤ w'.heap.size
  low : ∀ g : Nat, g < w.heap.size → g < B0 → w'.heap[g]? = w.heap[g]?
  ty : ∀ (g : Nat) (t : TypeId) (cs : Array Value) (fr : Nat × Nat), w.heap[g]? = some (Obj.cells cs t fr) → t ≠ 32 → t ≠ 22 → w'.heap[g]? = w.heap[g]?
theorem KpT.refl (B0 : Nat) (w : World) : KpT B0 w w := ⟨rfl, rfl, rfl, Nat.le_refl _, fun _ _ _ => rfl, fun _ _ _ _ _ _ _ => rfl⟩
theorem KpT.trans {B0 : Nat} {a b c : World} (h : KpT B0 a b) (k : KpT B0 b c) : KpT B0 a c :=
  ⟨k.os.trans h.os, k.tape.trans h.tape, k.output.trans h.output, Nat.le_trans h.size k.size, fun g h1 h2 => (k.low g (Nat.lt_of_lt_of_le h1 h.size) h2).trans (h.low g h1 h2), fun g t cs fr e h1 h2 => by
    have e1 := h.ty g t cs fr e h1 h2
    exact (k.ty g t cs fr (e1.trans e) h1 h2).trans e1⟩
theorem KpT.of {B0 : Nat} {a b : World} (h : Touch (fun _ => False) a b) : KpT B0 a b :=
  ⟨h.os, h.tape, h.output, h.size, fun g h1 _ => h.block g h1 (fun f => f), fun g _ _ _ e _ _ => h.block g (Array.getElem?_eq_some_iff.1 e).1 (fun f => f)⟩
theorem Blk.kp {B0 : Nat} {a b : World} {g : Nat} {t : TypeId} {cs : Array Value} (h : Blk a g t cs) (k : KpT B0 a b) (h1 : t ≠ 32) (h2 : t ≠ 22) : Blk b g t cs := (k.ty g t cs _ h h1 h2).trans h
theorem TyAt.kp {B0 : Nat} {a b : World} {g : Nat} {t : TypeId} (h : TyAt a g t) (k : KpT B0 a b) (h1 : t ≠ 32) (h2 : t ≠ 22) : TyAt b g t := by
  obtain ⟨cs, u, e⟩ := h
  exact ⟨cs, u, (k.ty g t cs _ e h1 h2).trans e⟩
theorem TyAt.cell_kp {B0 : Nat} {a b : World} {g : Nat} {t : TypeId} (h : TyAt a g t) (k : KpT B0 a b) (h1 : t ≠ 32) (h2 : t ≠ 22) (j : Nat) : b.cell? ⟨g, j, none⟩ = a.cell? ⟨g, j, none⟩ := by
  obtain ⟨cs, u, e⟩ := h
  exact World.cell?_of_block (k.ty g t cs _ e h1 h2)
theorem RdT.kp {B0 : Nat} {a b : World} {t : TypeId} {size : Nat} {A : Option Addr} {n : Nat} {xs : List Value} (h : RdT a t size A n xs) (k : KpT B0 a b) (h1 : t ≠ 32) (h2 : t ≠ 22) : RdT b t size A n xs := by
  refine ⟨⟨h.rd.1, fun hn => ?_⟩, fun hn g hg => (h.ty hn g hg).kp k h1 h2⟩
  obtain ⟨g, o, hA, hg, hc⟩ := h.rd.2 hn
  have ht := h.ty hn g (by rw [hA]; rfl)
  exact ⟨g, o, hA, Nat.lt_of_lt_of_le hg k.size, fun j u hu => (ht.cell_kp k h1 h2 _).trans (hc j u hu)⟩
theorem StsOk.kp {B0 : Nat} {a b : World} {A : Option Addr} {n : Nat} {Z : List SV} (h : StsOk a A n Z) (k : KpT B0 a b) : StsOk b A n Z :=
  ⟨h.rd.kp k (by decide) (by decide), h.len, fun z hz => ⟨(h.el z hz).len, (h.el z hz).rd.kp k (by decide) (by decide), (h.el z hz).le, (h.el z hz).mx⟩⟩
theorem WkM.kp {B0 : Nat} {a w : World} {b : Nat} {base : Int} {A : Option Addr} {n c : Nat} {Z : List SV} {wA : Option Addr} {wc : Nat} {W : List Int} (h : WkM a b base A n c Z wA wc W) (k : KpT B0 a w) : WkM w b base A n c Z wA wc W :=
  ⟨h.blk.kp k (by decide) (by decide), h.sts.kp k, h.wds.kp k (by decide) (by decide), h.len⟩
theorem Lst.kp {B0 : Nat} {a b : World} (h : Lst a) (k : KpT B0 a b) (hB : 0 < B0) : Lst b := by
  have e : ∀ j, b.cell? ⟨0, j, none⟩ = a.cell? ⟨0, j, none⟩ := fun j => World.cell?_of_block (k.low 0 h.1 hB)
  exact ⟨Nat.lt_of_lt_of_le h.1 k.size, (e 2).trans h.2.1, (e 3).trans h.2.2.1, (e 4).trans h.2.2.2⟩

end Go.Proofs.YtnakpadjlamdeaaDoor
