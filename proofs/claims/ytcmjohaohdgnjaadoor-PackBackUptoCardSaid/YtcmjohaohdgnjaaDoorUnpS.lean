/- pack.state: a state read. No condition. -/
import Derived.Test.YtcmjohaohdgnjaaDoorRdr
import Derived.Test.YtcmjohaohdgnjaaDoorGrtP
namespace Go.Proofs.YtcmjohaohdgnjaaDoor
open Go.RowKit

/-- What pack.state leaves. -/
def StPost (p i : Nat) (bs : List UInt8) (w : World) (e : Ending) (w' : World) : Prop :=
  ∃ z : ZV, e = .returned (.agg #[.bool z.fin, .int .i64 z.out, .slice z.A z.n z.c]) ∧ Touch (fun g => g = p) w w' ∧
    ((∃ t, stR i bs = some (z.p, t) ∧ z.Ok w' ∧ ∃ (A : Option Addr) (n c : Nat), Rdr w' p A n c t 0) ∨ (stR i bs = none ∧ ∃ (A : Option Addr) (n c : Nat) (t : List UInt8) (k : Int), 1 ≤ k ∧ Rdr w' p A n c t k))
theorem arcs_more {i k : Nat} {l : Int} {bs : List UInt8} {acc : List (Int × Int × Int)} {cnt : Nat} {t2 : List UInt8} (h : arcsR i cnt 0 t2 = (arcsR i (k + 1) l bs).map fun r => (acc ++ r.1, r.2)) {d o b : Nat} {s1 s2 s3 : List UInt8}
    (h1 : uintR 1114111 bs = some (d, s1)) (h2 : uintR 1048576 s1 = some (o, s2)) (h3 : uintR 98305 s2 = some (b, s3)) :
    arcsR i cnt 0 t2 = (arcsR i k (IntKind.i32.wrap (l + d)) s3).map fun r => ((acc ++ [(IntKind.i32.wrap (l + d), (o : Int), (i : Int) - (b : Int))]) ++ r.1, r.2) := by
  rw [h]
  simp only [arcsR, h1, h2, h3]
  cases arcsR i k (IntKind.i32.wrap (l + d)) s3 with
  | none => rfl
  | some r => simp
theorem arcs_stop {i k : Nat} {l : Int} {bs : List UInt8} {acc : List (Int × Int × Int)} {cnt : Nat} {t2 : List UInt8} (h : arcsR i cnt 0 t2 = (arcsR i (k + 1) l bs).map fun r => (acc ++ r.1, r.2))
    (hf : uintR 1114111 bs = none ∨ (∃ d s1, uintR 1114111 bs = some (d, s1) ∧ (uintR 1048576 s1 = none ∨ ∃ o s2, uintR 1048576 s1 = some (o, s2) ∧ uintR 98305 s2 = none))) : arcsR i cnt 0 t2 = none := by
  rw [h]
  rcases hf with h1 | ⟨d, s1, h1, h2 | ⟨o, s2, h2, h3⟩⟩
  · simp only [arcsR, h1]; rfl
  · simp only [arcsR, h1, h2]; rfl
  · simp only [arcsR, h1, h2, h3]; rfl
theorem i64_nat {n : Nat} (h : n < 9223372036854775808) : IntKind.i64.wrap (n : Int) = (n : Int) := IntWalk.i64_in _ (by omega)
theorem i32_nat {n : Nat} (h : n < 2147483648) : IntKind.i32.wrap (n : Int) = (n : Int) := IntWalk.i32_in _ (by omega)
theorem infoArc8 : (Tryd.prog.info? 74).map (fun i => (i.zero, i.size, i.bytes)) = some (some (.agg #[.int .i32 0, .int .i64 0, .int .i64 0]), 3, 24) := by kernel_rfl
/-- What stands between two arcs. -/
structure SI (w wr : World) (p S : Nat) (fin : Bool) (out : Int) (aA : Option Addr) (ai ac : Nat) (acc : List (Int × Int × Int)) (A : Option Addr) (n c : Nat) (bs : List UInt8) (R : Nat) : Prop where
  rdr : Rdr wr p A n c bs 0
  blk : Blk wr S 44 #[.bool fin, .int .i64 out, .slice aA ai ac]
  own : wr.ownsRow 0 74 3 (.slice aA ai ac) ai (zaCells acc)
  len : acc.length = ai
  res : Blk wr R 44 #[.bool false, .int .i64 0, .slice none 0 0]
  touch : Touch (fun g => g = p) w wr
  fresh : ∀ g, (Value.slice aA ai ac).ownBlock = some g → w.heap.size ≤ g
  ne : R ≠ S
  sy : w.heap.size ≤ S
/-- A Uint leaves the rest as it was. -/
theorem SI.uint {w wr wx : World} {p S R : Nat} {fin : Bool} {out : Int} {aA : Option Addr} {ai ac : Nat} {acc : List (Int × Int × Int)} {A A' : Option Addr} {n c n' c' : Nat} {bs t : List UInt8} (h : SI w wr p S fin out aA ai ac acc A n c bs R) (T : Touch (fun g => g = p) wr wx) (hr : Rdr wx p A' n' c' t 0) : SI w wx p S fin out aA ai ac acc A' n' c' t R := by
  have hp := blk_ty h.rdr.blk
  exact ⟨hr, h.blk.touch T (fun e => (blk_ty h.blk).ne hp (by decide) e), own_touch h.own T (fun g hg e => (own_ty h.own hg).ne hp (by decide) e), h.len, h.res.touch T (fun e => (blk_ty h.res).ne hp (by decide) e), h.touch.then T, h.fresh, h.ne, h.sy⟩
theorem SI.blk10 {w wx wy w10 : World} {p S R : Nat} {fin : Bool} {out : Int} {aA : Option Addr} {ai ac : Nat} {acc : List (Int × Int × Int)} {A : Option Addr} {n c : Nat} {bs : List UInt8} (h : SI w wx p S fin out aA ai ac acc A n c bs R) (T : Touch (fun _ => False) wx wy) (hg : wy.grownBy w10 (Value.slice aA ai ac).ownBlock) :
    Blk w10 S 44 #[.bool fin, .int .i64 out, .slice aA ai ac] := by
  have hown := own_touch h.own T (fun _ _ f => f)
  have T10 : Touch (fun g => (Value.slice aA ai ac).ownBlock = some g) wy w10 := (Touch.refl _ _).grown hg (fun k hk _ => hk)
  have hb := h.blk.touch T (fun f => f)
  exact hb.touch T10 (fun e => (blk_ty hb).ne (own_ty hown e) (by decide) rfl)
theorem SI.out {w wx : World} {p S R : Nat} {fin : Bool} {out : Int} {A : Option Addr} {n c : Nat} {bs : List UInt8} (h : SI w wx p S fin out none 0 0 [] A n c bs R) (o : Int) : SI w (wx.setCell ⟨S, 1, none⟩ (.int .i64 o)) p S fin o none 0 0 [] A n c bs R := by
  have T11 : Touch (fun g => g = S) wx (wx.setCell ⟨S, 1, none⟩ (.int .i64 o)) := (Touch.refl (fun g => g = S) _).setCell (fun _ => rfl) _
  have hS := blk_ty h.blk
  exact ⟨h.rdr.touch T11 (fun e => (blk_ty h.rdr.blk).ne hS (by decide) e) (fun g hg e => hg.ne hS (by decide) e), h.blk.set_ 1 _, World.ownsRow_nil _ _ _ _, rfl, h.res.touch T11 h.ne, h.touch.trans T11 (fun k hk e => by have := h.sy; omega), fun g hg => (by cases hg), h.ne, h.sy⟩
/-- Another arc. -/
theorem SI.app {w wx wy w10 : World} {p S R : Nat} {fin : Bool} {out : Int} {aA : Option Addr} {ai ac : Nat} {acc : List (Int × Int × Int)} {A : Option Addr} {n c : Nat} {bs : List UInt8} (h : SI w wx p S fin out aA ai ac acc A n c bs R) (T : Touch (fun _ => False) wx wy) {a' : Option Addr} {cap : Nat} (l o b : Int)
    (ho : w10.ownsRow 0 74 3 (.slice a' (ai + 1) cap) (ai + 1) (zaCells acc ++ [.int .i32 l, .int .i64 o, .int .i64 b])) (hg : wy.grownBy w10 (Value.slice aA ai ac).ownBlock) (hf : Fresh wy (.slice aA ai ac) (.slice a' (ai + 1) cap)) :
    SI w (w10.setCell ⟨S, 2, none⟩ (.slice a' (ai + 1) cap)) p S fin out a' (ai + 1) cap (acc ++ [(l, o, b)]) A n c bs R := by
  have hown := own_touch h.own T (fun _ _ f => f)
  have T10 : Touch (fun g => (Value.slice aA ai ac).ownBlock = some g) wy w10 := (Touch.refl _ _).grown hg (fun k hk _ => hk)
  have hno : ∀ {t : TypeId} {g : Nat}, TyAt wy g t → t ≠ 74 → ¬ (Value.slice aA ai ac).ownBlock = some g := fun hg ht e => hg.ne (own_ty hown e) ht rfl
  have hb10 := (h.blk.touch T (fun f => f)).touch T10 (hno (blk_ty (h.blk.touch T (fun f => f))) (by decide))
  have T11 : Touch (fun g => g = S) w10 (w10.setCell ⟨S, 2, none⟩ (.slice a' (ai + 1) cap)) := (Touch.refl (fun g => g = S) _).setCell (fun _ => rfl) _
  have hS := blk_ty hb10
  have hr10 := (h.rdr.quiet T).touch T10 (hno (blk_ty (h.rdr.quiet T).blk) (by decide)) (fun g hg => hno hg (by decide))
  have hR10 := (h.res.touch T (fun f => f)).touch T10 (hno (blk_ty (h.res.touch T (fun f => f))) (by decide))
  refine ⟨hr10.touch T11 (fun e => (blk_ty hr10.blk).ne hS (by decide) e) (fun g hg e => hg.ne hS (by decide) e), hb10.set_ 2 _, ?_, by rw [List.length_append, h.len]; rfl, hR10.touch T11 h.ne, ?_, ?_, h.ne, h.sy⟩
  · have e : zaCells (acc ++ [(l, o, b)]) = zaCells acc ++ [.int .i32 l, .int .i64 o, .int .i64 b] := by simp [zaCells]
    rw [e]
    exact own_touch ho T11 (fun g hg e => (own_ty ho hg).ne hS (by decide) e)
  · have t1 : Touch (fun g => g = p) w w10 := (h.touch.trans T (fun _ _ f => f.elim)).trans T10 (fun k hk e => absurd (h.fresh k e) (by omega))
    exact t1.trans T11 (fun k hk e => by have := h.sy; omega)
  · intro g hg'
    rcases hf with e | ⟨g2, e, hle⟩
    · rw [e] at hg'
      exact h.fresh g hg'
    · rw [e] at hg'
      injection hg' with hg'
      have := h.touch.size
      have := T.size
      omega
/-- What a state's end wants, whether all was read or not. -/
theorem set3_touch {w wr : World} {p R : Nat} (hR : w.heap.size ≤ R) (T : Touch (fun g => g = p) w wr) (a b c : Value) : Touch (fun g => g = p) w (((wr.setCell ⟨R, 0, none⟩ a).setCell ⟨R, 1, none⟩ b).setCell ⟨R, 2, none⟩ c) := by
  iterate 3 refine Touch.setCell ?_ (fun h => by simp only at h; omega) _
  exact T
theorem set3_rdr {wr : World} {p R : Nat} {A : Option Addr} {n c : Nat} {bs : List UInt8} {e : Int} (h : Rdr wr p A n c bs e) {cs : Array Value} (hR : Blk wr R 44 cs) (x y z : Value) : Rdr (((wr.setCell ⟨R, 0, none⟩ x).setCell ⟨R, 1, none⟩ y).setCell ⟨R, 2, none⟩ z) p A n c bs e := by
  have T : Touch (fun g => g = R) wr (((wr.setCell ⟨R, 0, none⟩ x).setCell ⟨R, 1, none⟩ y).setCell ⟨R, 2, none⟩ z) := by
    exact (((Touch.refl (fun g => g = R) wr).setCell (p := ⟨R, 0, none⟩) (fun _ => rfl) _).setCell (p := ⟨R, 1, none⟩) (fun _ => rfl) _).setCell (p := ⟨R, 2, none⟩) (fun _ => rfl) _
  exact h.touch T (fun e => (blk_ty h.blk).ne (blk_ty hR) (by decide) e) (fun g hg e => hg.ne (blk_ty hR) (by decide) e)
theorem set3_zv {wr : World} {R : Nat} {z : ZV} (h : z.Ok wr) {cs : Array Value} (hR : Blk wr R 44 cs) (a b c : Value) : z.Ok (((wr.setCell ⟨R, 0, none⟩ a).setCell ⟨R, 1, none⟩ b).setCell ⟨R, 2, none⟩ c) := by
  have T : Touch (fun g => g = R) wr (((wr.setCell ⟨R, 0, none⟩ a).setCell ⟨R, 1, none⟩ b).setCell ⟨R, 2, none⟩ c) := by
    exact (((Touch.refl (fun g => g = R) wr).setCell (p := ⟨R, 0, none⟩) (fun _ => rfl) _).setCell (p := ⟨R, 1, none⟩) (fun _ => rfl) _).setCell (p := ⟨R, 2, none⟩) (fun _ => rfl) _
  exact h.touch T (fun g hg e => hg.ne (blk_ty hR) (by decide) e)
theorem SI.zv {w wr : World} {p S R : Nat} {fin : Bool} {out : Int} {aA : Option Addr} {ai ac : Nat} {acc : List (Int × Int × Int)} {A : Option Addr} {n c : Nat} {bs : List UInt8} (h : SI w wr p S fin out aA ai ac acc A n c bs R) : (⟨fin, out, aA, ai, ac, acc⟩ : ZV).Ok wr :=
  ⟨h.len, RdT.of_own h.own, (own_slice h.own).1, (own_slice h.own).2⟩

end Go.Proofs.YtcmjohaohdgnjaaDoor
