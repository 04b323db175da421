/- Push and Pop of a pile of matches. -/
import Derived.Test.YtcencmjdhaejcaaPileA
import Derived.Deep.AppendLies
import Derived.Deep.RegionLaw
namespace Go.Proofs.Ytcencmjdhaejcaa
open Go.RowKit

theorem assert_match (cs : Array Value) (w : World) : (Instr.typeAssert (.iface 23 (.agg cs)) 20 23 false).run Try.prog w = .ok (.agg cs) w := by kernel_rfl

theorem val_cells (m : MRow) : m.val = .agg #[.string m.word, .int .i64 m.weight, .int .i64 m.dist] := rfl

set_option maxRecDepth 100000 in
set_option maxHeartbeats 1000000 in
theorem ppush_any (w : World) (p : Nat) (most : Int) (v : Value) (X : List MRow) (h : Pil w p most v X) (hX : X.length ≤ 64) (m : MRow) :
    Calls Try.prog 47 #[.pointer (some ⟨p, 1, none⟩), .iface 23 m.val] w fun e w' =>
      e = .returned (.tuple #[]) ∧ ∃ v', Pil w' p most v' (X ++ [m]) ∧ Touch (pfp p v) w w' ∧ Fresh w v v' := by
  obtain ⟨hb, ho⟩ := h
  obtain ⟨A, c, hv, _, hc⟩ := own_len ho
  have c1 := hb.cell 1
  have f1 := hb.frozen 1
  simp at c1
  have hp := hb.lt
  have HO := hide ho
  have HB := hide hb
  subst hv
  clear ho hb
  obtain ⟨i0, hi, hz0, hz1, hz2⟩ := info_parts infoMatch
  obtain ⟨mw, mn, md⟩ := m
  rw [val_cells]
  simp only
  have ta := assert_match #[.string mw, .int .i64 mn, .int .i64 md]
  go_enter Try.func47, Try.ntmps47
  go_region_law (refine step_append_lies _ rfl (.tmp 7) (.tmp 10) 42 rfl 0 23 i0 _ 3 32 Try.underlying42 hi hz0 hz1 hz2 (by decide) (by decide) (.slice A X.length c) X.length (mCells X) (by simp [Act.eval]) ?own ⟨w.heap.size, 0, none⟩ 1 1 (MRow.cells ⟨mw, mn, md⟩) (by simp [Act.eval]) rfl ?news ?one (by decide) ?b1 ?b2 (Nat.zero_le _) _ rfl ?_; (case own => exact own_touch HO.out ((Touch.refl _ _).alloc _).drew (fun _ _ f => f)); (case news => exact World.news_of_block (Blk.new w _ _)); (case one => exact List.all_eq_true.1 rfl); (case b1 => unfold maxLen; omega); (case b2 => omega); intro g cap w1 hown hgrow hlies hsz; have hgr : (w.alloc (.cells #[.string mw, .int .i64 mn, .int .i64 md] 23)).drew.grownBy w1 (Value.slice A X.length c).ownBlock := hgrow; clear hgrow; have hb1 : Blk w1 p 44 #[.int .i64 most, .slice A X.length c] := (HB.out.alloc _).drew.grown hgr (fun e => own_blk_ne HO.out HB.out (by decide) e.symm); obtain ⟨k1, k2, k3⟩ := hb1.facts; have HOW := hide hown; have HG := hide hgr; have HL := hide hlies; have HB1 := hide hb1; clear hown hgr hlies hb1)
  all_goals go_end0
  all_goals refine ⟨rfl, .slice (some ⟨g, 0, none⟩) (X.length + 1) cap, ⟨HB1.out.set_ 1 _, ?_⟩, ?_, ?_⟩
  any_goals
    have e1 : (X ++ [(⟨mw, mn, md⟩ : MRow)]).length = X.length + 1 := by simp
    have e2 : mCells (X ++ [(⟨mw, mn, md⟩ : MRow)]) = mCells X ++ MRow.cells ⟨mw, mn, md⟩ := by simp [mCells]
    first
      | exact (by rw [e1, e2]; exact own_setCell_far HOW.out (own_blk_ne HOW.out HB1.out (by decide)) _)
      | exact ((((Touch.refl _ _).alloc _).drew.app HG.out (fun g' hg' _ => .inr hg')).setCell (fun _ => .inl rfl) _)
      | exact (by
          rcases HL.out with e | e
          · exact .inl e.symm
          · exact .inr ⟨g, rfl, by rw [e]; simp⟩)

theorem own_cut {w : World} {base : Nat} {e : TypeId} {size : Nat} {A : Option Addr} {n c : Nat} {xs : List Value} (h : w.ownsRow base e size (.slice A (n + 1) c) (n + 1) xs) :
    w.ownsRow base e size (.slice A n c) n (xs.take (n * size)) := by
  refine ⟨by rw [List.length_take, h.1]; exact Nat.min_eq_left (Nat.mul_le_mul_right _ (by omega)), ?_⟩
  rcases h.2 with ⟨h0, _⟩ | ⟨g', cap', cur, hv, hge, hgg, hle, hm, hsz, ht⟩
  · cases h0
  · injection hv with ha _ hc
    subst ha hc
    refine .inr ⟨g', c, cur, rfl, hge, hgg, by omega, hm, hsz, ?_⟩
    rw [← ht, List.take_take, Nat.min_eq_left (Nat.mul_le_mul_right _ (by omega))]

theorem mCells_take (X : List MRow) (n : Nat) : (mCells X).take (n * 3) = mCells (X.take n) := by
  induction X generalizing n with
  | nil => simp [mCells]
  | cons x X ih =>
    cases n with
    | zero => simp [mCells]
    | succ n =>
      simp only [mCells, List.flatMap_cons, List.take_succ_cons] at ih ⊢
      rw [List.take_append, cells_len, List.take_of_length_le (by rw [cells_len]; omega), show (n + 1) * 3 - 3 = n * 3 by omega, ih]

set_option maxRecDepth 100000 in
set_option maxHeartbeats 1000000 in
theorem ppop_any (w : World) (p : Nat) (most : Int) (v : Value) (X : List MRow) (n : Nat) (hX : X.length = n + 1) (h : Pil w p most v X) :
    Calls Try.prog 46 #[.pointer (some ⟨p, 1, none⟩)] w fun e w' =>
      e = .returned (.iface 23 (X.getD n MRow.zero).val) ∧ ∃ v', Pil w' p most v' (X.take n) ∧ Touch (pfp p v) w w' ∧ v'.ownBlock = v.ownBlock := by
  obtain ⟨hb, ho⟩ := h
  rw [hX] at ho
  obtain ⟨A, c, hv, _, hc⟩ := own_len ho
  subst hv
  have hlen : n + 1 ≤ maxLen := own_le ho
  obtain ⟨g, rfl, hg, a0, a1, a2, _, _, _⟩ := own_at ho hX.symm n (by omega)
  have c1 := hb.cell 1
  have f1 := hb.frozen 1
  simp at c1
  have hp := hb.lt
  have HO := hide ho
  have HB := hide hb
  have HX := hide hX
  clear ho hb hX
  unfold maxLen at hc hlen
  obtain ⟨⟨xw, xn, xd⟩, hx⟩ : ∃ x, x = X.getD n MRow.zero := ⟨_, rfl⟩
  rw [← hx] at a0 a1 a2 ⊢
  simp only at a0 a1 a2
  rw [val_cells]
  simp only
  clear hx
  have i0 : (0 : Int) ≤ (n : Int) := by omega
  have i1 : ((n + 1 : Nat) : Int) - 1 = (n : Int) := by omega
  have i2 : (n : Int) < ((n + 1 : Nat) : Int) := by omega
  go_enter Try.func46, Try.ntmps46
  go_wp2
  go_ret
  refine ⟨rfl, .slice (some ⟨g, 0, none⟩) n c, ⟨(HB.out.set_ 1 _).alloc _, ?_⟩, ((Touch.refl _ _).setCell (fun _ => .inl rfl) _).alloc _, rfl⟩
  rw [← mCells_take, show (X.take n).length = n by rw [List.length_take, HX.out]; omega]
  refine own_touch (S := fun _ => False) ?_ ((Touch.refl _ _).alloc _) (fun _ _ f => f)
  refine own_setCell_far (own_cut HO.out) ?_ _
  exact own_blk_ne HO.out HB.out (by decide)

end Go.Proofs.Ytcencmjdhaejcaa
