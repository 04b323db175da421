/- SessionAll's walk: it returns true at every script. No condition. -/
import Derived.Test.YtiakbccomgcncaaStands
import Derived.Test.YtiakbccomgcncaaOnceW
namespace Go.Proofs.Ytiakbccomgcncaa
open Go.RowKit

/-- What holds at each call's head: both tables, and the variable that has the document's. -/
structure AllRel (B : Nat) (w : World) (p g : Nat) (wr : World) (v kv : Value) (l : List SRow) (m : Int) (ks : List KRow) : Prop where
  two : Two wr p v kv l m ks
  my : B ≤ p ∧ ∀ g, v.ownBlock = some g → B ≤ g
  var : Blk wr g 42 #[.int .u64 m, kv]
  mine : B ≤ g
  bel : Below B w wr
  base : B = w.heap.size

theorem AllRel.off {B : Nat} {w : World} {p g : Nat} {wr : World} {v kv : Value} {l : List SRow} {m : Int} {ks : List KRow} (h : AllRel B w p g wr v kv l m ks) : ∀ k, k < B → ¬ fp p v k := by
  rintro k hk (rfl | hf)
  · have := h.my.1; omega
  · have := h.my.2 _ hf; omega
theorem AllRel.quiet {B : Nat} {w : World} {p g : Nat} {wr w' : World} {v kv : Value} {l : List SRow} {m : Int} {ks : List KRow} (h : AllRel B w p g wr v kv l m ks) (ht : Touch (fun _ => False) wr w') : AllRel B w p g w' v kv l m ks :=
  ⟨h.two.quiet ht, h.my, h.var.touch ht (fun f => f), h.mine, below_touch h.bel ht (Nat.le_of_eq h.base) (fun _ _ f => f), h.base⟩
theorem AllRel.var_off {B : Nat} {w : World} {p g : Nat} {wr : World} {v kv : Value} {l : List SRow} {m : Int} {ks : List KRow} (h : AllRel B w p g wr v kv l m ks) : ¬ fp p v g := by
  rintro (he | hf)
  · exact Blk.ne_ h.two.tab.1 h.var (by decide) he.symm
  · exact own_blk_ne h.two.tab.2 h.var (by decide) hf
/-- Behind a call: the variable is written anew. -/
theorem AllRel.next {B : Nat} {w : World} {p g : Nat} {wr w' : World} {v kv v' kv' : Value} {l l' : List SRow} {m m' : Int} {ks ks' : List KRow} (h : AllRel B w p g wr v kv l m ks) (h2 : Two w' p v' kv' l' m' ks') (ht : Touch (fp p v) wr w') (hf : Fresh wr v v') :
    AllRel B w p g ((w'.setCell ⟨g, 0, none⟩ (.int .u64 m')).setCell ⟨g, 1, none⟩ kv') v' kv' l' m' ks' := by
  have hb := h.var.touch ht h.var_off
  refine ⟨h2.far hb (two_set (S := fun k => k = g) (Touch.refl _ _) (fun _ => rfl) _ _), ⟨h.my.1, ?_⟩, (hb.set_ 0 _).set_ 1 _, h.mine, ?_, h.base⟩
  · intro g' hg
    rcases hf with f | ⟨g'', f, hg'⟩
    · exact h.my.2 g' (by rw [← f]; exact hg)
    · have := h.bel.size; have := h.base; rw [f] at hg; injection hg with hg; omega
  · exact below_touch (below_touch h.bel ht (Nat.le_of_eq h.base) h.off) (two_set (S := fun k => k = g) (Touch.refl _ _) (fun _ => rfl) _ _) (Nat.le_of_eq h.base) (fun k hk e => by have := h.mine; omega)

def allAt (n : Nat) (B : Nat) (w : World) (p g : Nat) (i : Value) (wr : World) : Prop :=
  ∃ (k : Nat) (v kv : Value) (l : List SRow) (m : Int) (ks : List KRow), k ≤ n ∧ i = .int .i64 k ∧ ks.length ≤ k ∧ AllRel B w p g wr v kv l m ks

set_option maxRecDepth 100000 in
set_option maxHeartbeats 1000000 in
theorem all_walk (w : World) (A : Option Addr) (n c : Nat) (s : List OpR) (hs : n = s.length) (hr : Reads w 6 A n (opCells s)) (hn : n ≤ 9223372036854775807) :
    Calls Try.prog 6 #[.slice A n c] w fun e w' => e = .returned (.bool true) ∧ Below w.heap.size w w' := by
  have q23 : ∀ (w : World) (a : Addr), (binOp .eql 23 (.pointer (some a)) (.pointer none)).run Try.prog w = .ok (.bool false) w := fun w a => by kernel_rfl
  have q23n : ∀ (w : World) (a : Addr), (binOp .neq 23 (.pointer (some a)) (.pointer none)).run Try.prog w = .ok (.bool true) w := fun w a => by kernel_rfl
  have HS := hide hs
  have HR := hide hr
  clear hs hr
  obtain ⟨B, hB⟩ : ∃ B, B = w.heap.size := ⟨_, rfl⟩
  have HB := hide hB
  rw [← hB]
  clear hB
  by_cases h3 : (5000 : Int) < (n : Int)
  · go_enter Try.func6, Try.ntmps6
    go_wp2_with (first
      | (go_at_call 9; refine (new_any _).mono ?_; rintro e w1 ⟨rfl, ht1, hc1⟩; have C1 := hide hc1; clear ht1 hc1)
      | (go_at_call 10; refine (alive_any _).mono ?_; rintro e w2 ⟨rfl, hc2⟩; have C2 := hide hc2; clear hc2))
    go_ret
    exact ⟨rfl, (C1.out.then C2.out).below (Nat.le_of_eq HB.out) (fun _ _ f => f)⟩
  · go_enter Try.func6, Try.ntmps6
    go_wp2_with (go_at_call 9; refine (new_any _).mono ?_; rintro e w1 ⟨rfl, ht1, hc1⟩; have T1 := hide ht1; have C1 := hide hc1; clear ht1 hc1)
    have M1 := hide (show AllRel B w w.heap.size w1.heap.size (w1.alloc (.cells #[.int .u64 0, .slice none 0 0] 42)) (.slice none 0 0) (.slice none 0 0) [] 0 [] from
      ⟨⟨T1.out.alloc _, by simp, World.ownsRow_nil _ _ _ _, Same.start⟩, ⟨by have := HB.out; omega, (fun g hg => by cases hg)⟩, Blk.new _ _ _, by have := C1.out.size; have := HB.out; omega, below_touch (Below.refl _ _) (C1.out.alloc _) (Nat.le_of_eq HB.out) (fun _ _ f => f), HB.out⟩)
    obtain ⟨p, hp⟩ : ∃ p, p = w.heap.size := ⟨_, rfl⟩
    obtain ⟨g, hg⟩ : ∃ g, g = w1.heap.size := ⟨_, rfl⟩
    rw [← hp, ← hg] at M1 ⊢
    clear hp hg
    go_loopw [24] (fun i wr => allAt n B w p g i wr) (fun i _ => n - (intOf i).toNat)
    case atStart => exact ⟨0, _, _, [], 0, [], Nat.zero_le _, rfl, Nat.le_refl _, M1.out⟩
    case round =>
      obtain ⟨wo, rfl⟩ : ∃ wo : World, wo = wr := ⟨_, rfl⟩
      obtain ⟨k, v, kv, l, m, ks, hk, rfl, hkk, hM⟩ := hrel
      have HM := hide hM
      obtain ⟨g1, g2, g3⟩ := hM.var.facts
      obtain ⟨Ak, ck, hkv, _⟩ := own_len hM.two.ktab
      clear hM M1
      subst hkv
      by_cases hkn : k < n
      · obtain ⟨b, off, hA, hb, c0, c1, c2, c3, c4, c5⟩ := op_at (HR.out.old (HB.out ▸ HM.out.bel)) HS.out k hkn
        subst hA
        obtain ⟨o, ho⟩ : ∃ o, o = s.getD k OpR.zero := ⟨_, rfl⟩
        rw [← ho] at c0 c1 c2 c3 c4 c5
        clear ho
        go_wp2_with (go_at_call 15; go_loud (refine (does_any _ p v _ l m ks (HM.out.quiet ((Touch.refl _ _).alloc _)).two (by omega) o).mono ?_); go_loud (rintro e w2 ⟨m2, kv2, rfl, v2, l2, ks2, htwo, hkl, hc2, hf2, hk2⟩); go_loud (have bV := (HM.out.quiet ((Touch.refl _ _).alloc _)).var.touch hc2 HM.out.var_off; clear g1 g2 g3; obtain ⟨g1, g2, g3⟩ := bV.facts; obtain ⟨A2, c2, hkv2, _⟩ := own_len htwo.ktab; have HW := hide htwo; have HKL := hide hkl; have C2 := hide hc2; have F2 := hide hf2; clear htwo hkl hc2 hf2 hk2 bV; subst hkv2; unfold kV))
        go_roundw
        case rel => exact ⟨k + 1, v2, _, l2, m2, ks2, by omega, by go_num, by have := HKL.out; omega, ((HM.out.quiet ((Touch.refl _ _).alloc _)).next HW.out C2.out F2.out).quiet ((Touch.refl _ _).alloc _)⟩
        case measure => simp [intOf]; omega
      · go_wp2_with (first
          | (go_at_call 10; refine (alive_any _).mono ?_; rintro e w2 ⟨rfl, hc2⟩; have Q2 := hide (HM.out.quiet hc2); clear g1 g2 g3; obtain ⟨g1, g2, g3⟩ := Q2.out.var.facts; clear hc2)
          | (go_at_call 17; refine (stands_any _ p v _ l m ks Q2.out.two).mono ?_; rintro e w3 ⟨rfl, hc3⟩; have C3 := hide hc3; clear hc3))
        go_ret
        exact ⟨rfl, (Q2.out.quiet C3.out).bel⟩

end Go.Proofs.Ytiakbccomgcncaa
