/- fst: slices.Backward over arcs, told to a loop's body. No condition but the model's own bound on a slice's length. -/
import Derived.Test.YtcmjohaohdgnjaaDoorFstA
import Derived.RangeFuncNested
import Derived.RangeFuncBound
import Derived.RangeFuncCalls
import Derived.RangeFuncLeaves
import Derived.Shelf.Abstract
import Derived.Shelf.RegionOpen
import Derived.OwnWalkIn
import Derived.TacticsInMore
import Derived.LoopNIn
import Derived.LoopIn
namespace Go.Proofs.YtcmjohaohdgnjaaDoor
open Go.RowKit Go.Shelf

attribute [local go_sem] Oper.semAt_some

/-- Blocks of certain types stay as they are. -/
structure KpP (p : TypeId → Prop) (w w' : World) : Prop where
  size : w.heap.size ≤ w'.heap.size
  ty : ∀ (g : Nat) (t : TypeId), TyAt w g t → p t → w'.heap[g]? = w.heap[g]?
theorem KpP.refl (p : TypeId → Prop) (w : World) : KpP p w w := ⟨Nat.le_refl _, fun _ _ _ _ => rfl⟩
theorem KpP.trans {p : TypeId → Prop} {a b c : World} (h : KpP p a b) (k : KpP p b c) : KpP p a c :=
  ⟨Nat.le_trans h.size k.size, fun g t e h1 => by
    have e1 := h.ty g t e h1
    obtain ⟨cs, u, e2⟩ := e
    exact (k.ty g t ⟨cs, u, e1.trans e2⟩ h1).trans e1⟩
theorem KpP.touch {p : TypeId → Prop} {S : Nat → Prop} {w w' : World} (h : Touch S w w') (hS : ∀ g t, p t → TyAt w g t → ¬ S g) : KpP p w w' :=
  ⟨h.size, fun g t e h1 => h.block g e.lt (hS g t h1 e)⟩
theorem KpP.of {p : TypeId → Prop} {w w' : World} (h : Touch (fun _ => False) w w') : KpP p w w' := ⟨h.size, fun g _ e _ => h.block g e.lt (fun f => f)⟩
theorem Blk.kpp {p : TypeId → Prop} {a b : World} {g : Nat} {t : TypeId} {cs : Array Value} (h : Blk a g t cs) (k : KpP p a b) (ht : p t) : Blk b g t cs := (k.ty g t ⟨cs, (), h⟩ ht).trans h
theorem TyAt.kpp {p : TypeId → Prop} {a b : World} {g : Nat} {t : TypeId} (h : TyAt a g t) (k : KpP p a b) (ht : p t) : TyAt b g t := by
  obtain ⟨cs, u, e⟩ := h
  exact ⟨cs, u, (k.ty g t ⟨cs, u, e⟩ ht).trans e⟩
theorem RdT.kpp {p : TypeId → Prop} {a b : World} {t : TypeId} {size : Nat} {A : Option Addr} {n : Nat} {xs : List Value} (h : RdT a t size A n xs) (k : KpP p a b) (ht : p t) : RdT b t size A n xs := by
  refine ⟨⟨h.rd.1, fun hn => ?_⟩, fun hn g hg => (h.ty hn g hg).kpp k ht⟩
  obtain ⟨g, o, hA, hg, hc⟩ := h.rd.2 hn
  have e := h.ty hn g (by rw [hA]; rfl)
  exact ⟨g, o, hA, Nat.lt_of_lt_of_le hg k.size, fun j u hu => (World.cell?_of_block (k.ty g t e ht)).trans (hc j u hu)⟩
theorem kpP_b {p : TypeId → Prop} {n : Nat} (W : World) (l : Nat) (o o' : Obj) (_ : n ≤ l) (h : W.heap[l]? = some o) (hc : o.isCells = false) (_ : o.isWalk = false) : KpP p W (W.putObj l o') := by
  have hg := grownBy_putObj' W l o'
  refine ⟨hg.size, fun g t e _ => hg.block g e.lt (fun e2 => ?_)⟩
  obtain ⟨cs, u, e⟩ := e
  cases e2
  rw [h] at e
  cases e
  cases hc
theorem round_wide {P : Program} {l : Nat} {f : FuncId} {tmps : Array Value} {assign body : Code} {w : World} {R : Ending → World → Prop} {n : Nat} (m : Nat) (h : RoundIn Fence.wide n P l f tmps assign body w R) : RoundIn Fence.wide m P l f tmps assign body w R := ⟨h.1, fun c cs _ => h.2 c cs (room_wide _)⟩

/-- What the iterator hands over in round j: the place, and the arc that stands there. -/
def arcBack (L : List (Nat × Int × Nat)) (j : Nat) : Int × (Nat × Int × Nat) := (((L.length - 1 - j : Nat) : Int), L.getD (L.length - 1 - j) (0, 0, 0))
def arcEnc (x : Int × (Nat × Int × Nat)) : Array Value := #[.int .i64 x.1, .agg #[.int .i32 (x.2.1 : Int), .int .i64 x.2.2.1, .int .i64 (x.2.2.2 : Int)]]
def isArc (t : TypeId) : Prop := t = 74 ∨ t = 42

set_option maxRecDepth 100000 in
set_option maxHeartbeats 2000000 in
theorem backa1_in (l Bs : Nat) (w0 : World) (A : Option Addr) (len cap : Nat) (L : List (Nat × Int × Nat)) (hL : L.length = len) (hR : RdT w0 74 3 A len (aCells L)) (hlen : len ≤ maxLen) (J Jx : List Nat → World → Prop)
    (hY : ∀ pre x W, J pre W → pre.length < len → YieldAt Fence.wide 8 Tryd.prog l (arcEnc (arcBack L x)) W fun e W' =>
      (e = .returned (.bool true) ∧ J (pre ++ [x]) W' ∧ KpP isArc W W') ∨ (e = .returned (.bool false) ∧ Jx (pre ++ [x]) W'))
    (W : World) (hW : KpP isArc w0 W) (hBs : Blk W Bs 42 #[.slice A len cap]) (h0 : J [] W) :
    CallsIn Fence.wide 9 Tryd.prog 74 #[.func (.yield l) #[] #[], .pointer (some ⟨Bs, 0, none⟩)] W fun e W' => (∃ v, e = .returned v) ∧
      ((∃ ys, ys = List.range len ∧ J ys W') ∨ (∃ pre, (∃ k, k ≤ len ∧ pre = List.range k) ∧ Jx pre W')) := by
  unfold maxLen at hlen
  have HR := hide hR
  have HL := hide hL
  have HW := hide hW
  have HBs := hide hBs
  have hw : IntKind.i64.wrap ((len : Int) - 1) = (len : Int) - 1 := IntWalk.i64_in _ (by omega)
  have HST : ((len : Int) - 1 = -1 ∧ len = 0) ∨ ∃ i : Nat, (len : Int) - 1 = (i : Int) ∧ len = i + 1 := by
    by_cases h : len = 0
    · exact .inl ⟨by omega, h⟩
    · exact .inr ⟨len - 1, by omega, by omega⟩
  have HST := hide HST
  obtain ⟨c0, c1, c2⟩ := hBs.facts
  clear hR hL hW hBs
  refine callsIn_of_wp Tryd.func74 rfl trivial ?_ rfl
  simp only [Tryd.ntmps74, List.size_toArray, List.length_cons, List.length_nil, Nat.reduceAdd, Nat.reduceSub, Array.replicate_succ, Array.replicate_zero, List.push_toArray, List.append_toArray, List.nil_append, List.cons_append]
  gi_wp2
  gi_loopw [3] (fun iv wr => ∃ (z : Int) (k m : Nat), iv = .int .i64 z ∧ Hid (k + m = len) ∧ Hid ((z = -1 ∧ m = 0) ∨ ∃ i : Nat, z = (i : Int) ∧ m = i + 1) ∧ Hid (J (List.range k) wr) ∧ Hid (KpP isArc W wr)) (fun iv _ => (intOf iv + 1).toNat)
  case atStart => exact ⟨_, 0, len, rfl, hide (Nat.zero_add _), HST, hide h0, hide (KpP.refl _ _)⟩
  case round =>
    clear c0 c1 c2
    obtain ⟨z, k, m, rfl, HK, HZ, HJ, HB⟩ := hrel
    obtain ⟨c0, c1, c2⟩ := (HBs.out.kpp HB.out (.inr rfl)).facts
    rcases HZ.out with ⟨rfl, rfl⟩ | ⟨i, rfl, rfl⟩
    · clear HZ
      gi_wp2
      go_end0
      have hk : k = len := by have := HK.out; omega
      exact ⟨⟨_, rfl⟩, .inl ⟨_, rfl, by rw [← hk]; exact HJ.out⟩⟩
    · clear HZ
      have y0 : ¬ (i : Int) < 0 := by omega
      have y1 : (0 : Int) ≤ (i : Int) := by omega
      have y2 : i < len := by have := HK.out; omega
      have y3 : (i : Int) < (len : Int) := by omega
      have y4 : L.length - 1 - k = i := by have := HK.out; rw [HL.out]; omega
      obtain ⟨g, o, hA, _, a0, a1, a2⟩ := arc_at (HR.out.kpp (HW.out.trans HB.out) (.inl rfl)).rd HL.out i y2
      subst hA
      have hbf : arcBack L k = ((i : Int), L.getD i (0, 0, 0)) := by unfold arcBack; rw [y4]
      have hus : List.range (k + 1) = List.range k ++ [k] := List.range_succ
      obtain ⟨⟨xl, xo, xt⟩, hx⟩ : ∃ x, x = L.getD i (0, 0, 0) := ⟨_, rfl⟩
      rw [← hx] at a0 a1 a2 hbf
      simp only at a0 a1 a2
      have HUS := hide hus
      obtain ⟨fn, tmps, assign, body, hy, hR⟩ := hY _ k wr HJ.out (by rw [List.length_range]; have := HK.out; omega)
      rw [hbf] at hy
      simp only [arcEnc] at hy
      clear hx hus hbf
      obtain ⟨z2, hz2⟩ : ∃ z2 : Int, (i : Int) - 1 = z2 := ⟨_, rfl⟩
      have hw2 : IntKind.i64.wrap z2 = z2 := IntWalk.i64_in _ (by omega)
      have HZ2 := hide hz2
      gi_wp2
      refine hR.mono ?_
      rintro e W3 (⟨rfl, hJ3, hk3⟩ | ⟨rfl, hJx3⟩)
      · have HJ3 := hide hJ3
        have HK3 := hide hk3
        clear hJ3 hk3
        gi_wp2
        go_roundw
        case rel =>
          have hz2 := HZ2.out
          refine ⟨z2, k + 1, i, rfl, hide (by have := HK.out; omega), hide ?_, hide (by rw [HUS.out]; exact HJ3.out), hide (HB.out.trans HK3.out)⟩
          by_cases hi0 : i = 0
          · exact .inl ⟨by omega, hi0⟩
          · exact .inr ⟨i - 1, by omega, by omega⟩
        case measure =>
          have hz2 := HZ2.out
          show (z2 + 1).toNat < ((i : Int) + 1).toNat
          omega
      · gi_wp2
        refine bodyPost_ret (results_none rfl _ _ _) rfl ?_
        exact ⟨⟨_, rfl⟩, .inr ⟨_, ⟨k + 1, by have := HK.out; omega, HUS.out.symm⟩, hJx3⟩⟩

theorem backwarda_any (w : World) (a : Option Addr) (len cap : Nat) :
    Calls Tryd.prog 67 #[.slice a len cap] w fun e w' => ∃ Bs, e = .returned (.func (.func 74) #[] #[.pointer (some ⟨Bs, 0, none⟩)]) ∧ Blk w' Bs 42 #[.slice a len cap] ∧ Touch (fun _ => False) w w' := by
  have hmf : ∀ (fn : Fn) (first cap : Array Value) (w : World), (Instr.makeFunc fn first cap).run Tryd.prog w = .ok (.func fn first cap) w := fun _ _ _ _ => rfl
  go_enter Tryd.func67, Tryd.ntmps67
  go_wp2_with fail
  go_ret
  exact ⟨w.heap.size, rfl, Blk.new _ _ _, (Touch.refl _ _).alloc _⟩

theorem backa_stops (Bs : Nat) (w0 : World) (A : Option Addr) (len cap : Nat) (L : List (Nat × Int × Nat)) (hL : L.length = len) (hR : RdT w0 74 3 A len (aCells L)) (hlen : len ≤ maxLen) (hB : Blk w0 Bs 42 #[.slice A len cap]) :
    SeqStopsK Fence.wide 9 Tryd.prog 74 #[.pointer (some ⟨Bs, 0, none⟩)] (fun j => arcEnc (arcBack L j)) (KpP isArc) (fun ys => ys = List.range len) (fun pre => ∃ k, k ≤ len ∧ pre = List.range k) len w0 := fun l J Jx W hW _ _ hY h0 =>
  have hk : KpP isArc w0 W := KpP.of (Touch.of_below hW _)
  backa1_in l Bs w0 A len cap L hL hR hlen J Jx hY W hk (hB.kpp hk (.inr rfl)) h0

end Go.Proofs.YtcmjohaohdgnjaaDoor
