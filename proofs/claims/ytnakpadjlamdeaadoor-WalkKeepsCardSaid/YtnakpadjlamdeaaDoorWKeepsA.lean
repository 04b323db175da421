/- A machine whose arcs and marks are written over: what stays. No condition. -/
import Derived.Test.YtnakpadjlamdeaaDoorWAllW
import Derived.Test.YtnakpadjlamdeaaDoorWStateW
namespace Go.Proofs.YtnakpadjlamdeaaDoor
open Go.RowKit

theorem TyAt.frozen {w : World} {b : Nat} {t : TypeId} (h : TyAt w b t) (j : Nat) : w.frozen? ⟨b, j, none⟩ = false := by
  obtain ⟨cs, _, e⟩ := h
  exact Blk.frozen e j
theorem TyAt.set {w : World} {b : Nat} {t : TypeId} (h : TyAt w b t) (g i : Nat) (u : Value) : TyAt (w.setCell ⟨g, i, none⟩ u) b t := by
  obtain ⟨cs, _, e⟩ := h
  by_cases hg : g = b
  · subst hg
    exact blk_ty (Blk.set_ e i u)
  · exact blk_ty (Blk.far e (p := ⟨g, i, none⟩) (fun e => hg e.symm) u)
theorem cell_set {w : World} {b : Nat} {t : TypeId} (h : TyAt w b t) {j : Nat} {v : Value} (hc : w.cell? ⟨b, j, none⟩ = some v) (g i : Nat) (u : Value) :
    (w.setCell ⟨g, i, none⟩ u).cell? ⟨b, j, none⟩ = some (if g = b ∧ i = j then u else v) := by
  obtain ⟨cs, _, e⟩ := h
  have hc2 : cs[j]? = some v := by rw [← Blk.cell e j]; exact hc
  by_cases hg : g = b
  · subst hg
    rw [(Blk.set_ e i u).cell j, Array.getElem?_setIfInBounds]
    by_cases hi : i = j
    · subst hi
      have hl : i < cs.size := by
        rcases Nat.lt_or_ge i cs.size with h | h
        · exact h
        · rw [Array.getElem?_eq_none h] at hc2; cases hc2
      simp [hl]
    · simp [hi, hc2]
  · rw [(Blk.far e (p := ⟨g, i, none⟩) (fun e => hg e.symm) u).cell j, hc2]
    simp [hg]
/-- What of a machine can be relied on. -/
structure MK (w : World) (A : Option Addr) (n : Nat) (Z : List SV) : Prop where
  hd : ∀ k, k < n → ∃ g o, A = some ⟨g, o, none⟩ ∧ TyAt w g 44 ∧ (∃ bo, w.cell? ⟨g, o + k * 3, none⟩ = some (.bool bo)) ∧ w.cell? ⟨g, o + k * 3 + 2, none⟩ = some (.slice (Z.getD k svZero).A (Z.getD k svZero).n (Z.getD k svZero).c)
  ar : ∀ z ∈ Z, ∀ j, j < z.n → ∃ g o, z.A = some ⟨g, o, none⟩ ∧ TyAt w g 60 ∧ (∃ v, w.cell? ⟨g, o + j * 3, none⟩ = some v) ∧ (∃ v, w.cell? ⟨g, o + j * 3 + 1, none⟩ = some v) ∧ ∃ v, w.cell? ⟨g, o + j * 3 + 2, none⟩ = some v
theorem MK.of {w : World} {A : Option Addr} {n : Nat} {Z : List SV} (h : StsOk w A n Z) : MK w A n Z := by
  refine ⟨fun k hk => ?_, fun z hz j hj => ?_⟩
  · obtain ⟨g, o, hA, _, c0, _, c2⟩ := state_at h.rd.rd h.len k hk
    exact ⟨g, o, hA, h.rd.ty (by omega) g (by rw [hA]; rfl), ⟨_, c0⟩, c2⟩
  · obtain ⟨g, o, hA, _, c0, c1, c2⟩ := arc_at (h.el z hz).rd.rd (h.el z hz).len j hj
    exact ⟨g, o, hA, (h.el z hz).rd.ty (by omega) g (by rw [hA]; rfl), ⟨_, c0⟩, ⟨_, c1⟩, ⟨_, c2⟩⟩
theorem MK.quiet {w w' : World} {A : Option Addr} {n : Nat} {Z : List SV} (h : MK w A n Z) (T : Touch (fun _ => False) w w') : MK w' A n Z := by
  refine ⟨fun k hk => ?_, fun z hz j hj => ?_⟩
  · obtain ⟨g, o, hA, ht, ⟨bo, c0⟩, c2⟩ := h.hd k hk
    exact ⟨g, o, hA, ht.touch T (fun f => f), ⟨bo, (T.cell ht.lt (fun f => f)).trans c0⟩, (T.cell ht.lt (fun f => f)).trans c2⟩
  · obtain ⟨g, o, hA, ht, ⟨v0, c0⟩, ⟨v1, c1⟩, v2, c2⟩ := h.ar z hz j hj
    exact ⟨g, o, hA, ht.touch T (fun f => f), ⟨v0, (T.cell ht.lt (fun f => f)).trans c0⟩, ⟨v1, (T.cell ht.lt (fun f => f)).trans c1⟩, v2, (T.cell ht.lt (fun f => f)).trans c2⟩
theorem MK.arc {w : World} {A : Option Addr} {n : Nat} {Z : List SV} (h : MK w A n Z) {g : Nat} (hg : TyAt w g 60) (i : Nat) (u : Value) : MK (w.setCell ⟨g, i, none⟩ u) A n Z := by
  refine ⟨fun k hk => ?_, fun z hz j hj => ?_⟩
  · obtain ⟨g', o, hA, ht, ⟨bo, c0⟩, c2⟩ := h.hd k hk
    have hne : ¬ g = g' := hg.ne ht (by decide)
    refine ⟨g', o, hA, ht.set _ _ _, ⟨bo, ?_⟩, ?_⟩
    · rw [cell_set ht c0, if_neg (fun e => hne e.1)]
    · rw [cell_set ht c2, if_neg (fun e => hne e.1)]
  · obtain ⟨g', o, hA, ht, ⟨v0, c0⟩, ⟨v1, c1⟩, v2, c2⟩ := h.ar z hz j hj
    exact ⟨g', o, hA, ht.set _ _ _, ⟨_, cell_set ht c0 _ _ _⟩, ⟨_, cell_set ht c1 _ _ _⟩, _, cell_set ht c2 _ _ _⟩
theorem MK.fin {w : World} {A : Option Addr} {n : Nat} {Z : List SV} (h : MK w A n Z) {g o : Nat} (hA : A = some ⟨g, o, none⟩) (_ : TyAt w g 44) (i : Nat) (b : Bool) : MK (w.setCell ⟨g, o + i * 3, none⟩ (.bool b)) A n Z := by
  refine ⟨fun k hk => ?_, fun z hz j hj => ?_⟩
  · obtain ⟨g', o', hA', ht, ⟨bo, c0⟩, c2⟩ := h.hd k hk
    rw [hA] at hA'
    injection hA' with hA'
    injection hA' with e1 e2
    subst e1 e2
    refine ⟨g, o, hA, ht.set _ _ _, ?_, ?_⟩
    · rw [cell_set ht c0]
      split
      · exact ⟨b, rfl⟩
      · exact ⟨bo, rfl⟩
    · rw [cell_set ht c2, if_neg (fun e => by omega)]
  · obtain ⟨g', o', hA', ht, ⟨v0, c0⟩, ⟨v1, c1⟩, v2, c2⟩ := h.ar z hz j hj
    exact ⟨g', o', hA', ht.set _ _ _, ⟨_, cell_set ht c0 _ _ _⟩, ⟨_, cell_set ht c1 _ _ _⟩, _, cell_set ht c2 _ _ _⟩
/-- A walk is not seen to change where only older memory, or newer, is written. -/
theorem NewI.keeps {w2 w4 wr : World} {b : Nat} {base : Int} {A : Option Addr} {n c : Nat} {Z : List SV} {wA : Option Addr} {wc : Nat} {W : List Int} {S : Nat → Prop} (h : NewI w2 w4 b base A n c Z wA n wc W) (hl : Z.length = n) (hW : W.length = n) (T : Touch S w4 wr) (hS : ∀ g, S g → g < w2.heap.size) : WkM wr b base A n c Z wA wc W := by
  have own : ∀ {A : Option Addr} {n c g : Nat}, adBlock A = some g → (Value.slice A n c).ownBlock = some g := by
    intro A n c g hg
    cases A with
    | none => cases hg
    | some a => exact hg
  refine ⟨h.blk.touch T (fun s => by have := hS _ s; have := h.yb; omega), ⟨(RdT.of_own h.own).touch' T (fun _ g hg s => ?_), hl, fun z hz => ?_⟩, (RdT.of_own h.wds).touch' T (fun _ g hg s => ?_), hW⟩
  · have h1 := hS _ s
    have h2 := h.yA g (own hg)
    omega
  · have hz1 := h.el z hz
    refine ⟨hz1.len, hz1.rd.touch' T (fun _ g hg s => ?_), hz1.le, hz1.mx⟩
    have h1 := hS _ s
    have h2 := h.yZ z hz g hg
    omega
  · have h1 := hS _ s
    have h2 := h.yW g (own hg)
    omega

theorem own_head {w : World} {base : Nat} {e : TypeId} {size n c : Nat} {A : Option Addr} {xs : List Value} (h : w.ownsRow base e size (.slice A n c) n xs) (hn : 0 < n) : ∃ g, A = some ⟨g, 0, none⟩ ∧ (∀ (j : Nat) (u : Value), xs[j]? = some u → w.cell? ⟨g, j, none⟩ = some u) ∧ TyAt w g e ∧ xs.length = n * size := by
  obtain ⟨hl, h | ⟨g, cap, cur, hv, _, hg, _, _, _, htk⟩⟩ := h
  · omega
  · injection hv with h1 _ _
    subst h1
    refine ⟨g, rfl, fun j u hu => ?_, blk_ty hg, hl⟩
    rw [Blk.cell hg j]
    rw [← htk, List.getElem?_take] at hu
    split at hu
    · simpa using hu
    · cases hu

end Go.Proofs.YtnakpadjlamdeaaDoor
