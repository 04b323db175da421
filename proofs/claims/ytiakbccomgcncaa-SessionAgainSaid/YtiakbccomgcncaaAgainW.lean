/- SessionAgain's walk: it returns true at every two scripts. No condition. -/
import Derived.Test.YtiakbccomgcncaaAllW
namespace Go.Proofs.Ytiakbccomgcncaa
open Go.RowKit

def againAt (n n0 : Nat) (B : Nat) (w : World) (p g : Nat) (i : Value) (wr : World) : Prop :=
  ∃ (k : Nat) (v kv : Value) (l : List SRow) (m : Int) (ks : List KRow), k ≤ n ∧ i = .int .i64 k ∧ ks.length ≤ n0 + k ∧ AllRel B w p g wr v kv l m ks

set_option maxRecDepth 100000 in
set_option maxHeartbeats 1000000 in
theorem again_walk (w : World) (A : Option Addr) (n c : Nat) (s : List OpR) (hs : n = s.length) (hr : Reads w 6 A n (opCells s)) (hn : n ≤ 9223372036854775807) (A' : Option Addr) (n' c' : Nat) (s' : List OpR) (hs' : n' = s'.length) (hr' : Reads w 6 A' n' (opCells s')) (hn' : n' ≤ 9223372036854775807) :
    Calls Try.prog 8 #[.slice A n c, .slice A' n' c'] w fun e w' => e = .returned (.bool true) ∧ Below w.heap.size w w' := by
  have q23 : ∀ (w : World) (a : Addr), (binOp .eql 23 (.pointer (some a)) (.pointer none)).run Try.prog w = .ok (.bool false) w := fun w a => by kernel_rfl
  have q23n : ∀ (w : World) (a : Addr), (binOp .neq 23 (.pointer (some a)) (.pointer none)).run Try.prog w = .ok (.bool true) w := fun w a => by kernel_rfl
  have HS := hide hs
  have HR := hide hr
  have HS' := hide hs'
  have HR' := hide hr'
  clear hs hr hs' hr'
  obtain ⟨B, hB⟩ : ∃ B, B = w.heap.size := ⟨_, rfl⟩
  have HB := hide hB
  rw [← hB]
  clear hB
  by_cases h3 : (5000 : Int) < (n : Int)
  · go_enter Try.func8, Try.ntmps8
    go_wp2_with (first
      | (go_at_call 9; refine (new_any _).mono ?_; rintro e w1 ⟨rfl, ht1, hc1⟩; have C1 := hide hc1; clear ht1 hc1)
      | (go_at_call 10; refine (alive_any _).mono ?_; rintro e w2 ⟨rfl, hc2⟩; have C2 := hide hc2; clear hc2))
    go_ret
    exact ⟨rfl, (C1.out.then C2.out).below (Nat.le_of_eq HB.out) (fun _ _ f => f)⟩
  by_cases h4 : (5000 : Int) < (n' : Int)
  · go_enter Try.func8, Try.ntmps8
    go_wp2_with (first
      | (go_at_call 9; refine (new_any _).mono ?_; rintro e w1 ⟨rfl, ht1, hc1⟩; have C1 := hide hc1; clear ht1 hc1)
      | (go_at_call 10; refine (alive_any _).mono ?_; rintro e w2 ⟨rfl, hc2⟩; have C2 := hide hc2; clear hc2))
    go_ret
    exact ⟨rfl, (C1.out.then C2.out).below (Nat.le_of_eq HB.out) (fun _ _ f => f)⟩
  go_enter Try.func8, Try.ntmps8
  go_wp2_with (go_at_call 9; refine (new_any _).mono ?_; rintro e w1 ⟨rfl, ht1, hc1⟩; have T1 := hide ht1; have C1 := hide hc1; clear ht1 hc1)
  have M1 := hide (show AllRel B w w.heap.size w1.heap.size (w1.alloc (.cells #[.int .u64 0, .slice none 0 0] 42)) (.slice none 0 0) (.slice none 0 0) [] 0 [] from
    ⟨⟨T1.out.alloc _, by simp, World.ownsRow_nil _ _ _ _, Same.start⟩, ⟨by have := HB.out; omega, (fun g hg => by cases hg)⟩, Blk.new _ _ _, by have := C1.out.size; have := HB.out; omega, below_touch (Below.refl _ _) (C1.out.alloc _) (Nat.le_of_eq HB.out) (fun _ _ f => f), HB.out⟩)
  obtain ⟨p, hp⟩ : ∃ p, p = w.heap.size := ⟨_, rfl⟩
  obtain ⟨g, hg⟩ : ∃ g, g = w1.heap.size := ⟨_, rfl⟩
  rw [← hp, ← hg] at M1 ⊢
  clear hp hg
  go_loopw [37] (fun i wr => allAt n B w p g i wr) (fun i _ => n - (intOf i).toNat)
  case atStart => exact ⟨0, _, _, [], 0, [], Nat.zero_le _, rfl, Nat.le_refl _, M1.out⟩
  case round =>
    obtain ⟨wo, rfl⟩ : ∃ wo : World, wo = wr := ⟨_, rfl⟩
    obtain ⟨k, v, kv, l, m, ks, hk, rfl, hkk, hM⟩ := hrel
    have HM := hide hM
    obtain ⟨g1, g2, g3⟩ := hM.var.facts
    obtain ⟨Ak, ck, hkv, _⟩ := own_len hM.two.ktab
    clear hM M1
    subst hkv
    by_cases hkn : k < n
    · obtain ⟨b, off, hA, hb, c0, c1, c2, c3, c4, c5⟩ := op_at (HR.out.old (HB.out ▸ HM.out.bel)) HS.out k hkn
      subst hA
      obtain ⟨o, ho⟩ : ∃ o, o = s.getD k OpR.zero := ⟨_, rfl⟩
      rw [← ho] at c0 c1 c2 c3 c4 c5
      clear ho
      go_wp2_with (go_at_call 15; go_loud (refine (does_any _ p v _ l m ks (HM.out.quiet ((Touch.refl _ _).alloc _)).two (by omega) o).mono ?_); go_loud (rintro e w2 ⟨m2, kv2, rfl, v2, l2, ks2, htwo, hkl, hc2, hf2, hk2⟩); go_loud (have bV := (HM.out.quiet ((Touch.refl _ _).alloc _)).var.touch hc2 HM.out.var_off; clear g1 g2 g3; obtain ⟨g1, g2, g3⟩ := bV.facts; obtain ⟨A2, c2, hkv2, _⟩ := own_len htwo.ktab; have HW := hide htwo; have HKL := hide hkl; have C2 := hide hc2; have F2 := hide hf2; clear htwo hkl hc2 hf2 hk2 bV; subst hkv2; unfold kV))
      go_roundw
      case rel => exact ⟨k + 1, v2, _, l2, m2, ks2, by omega, by go_num, by have := HKL.out; omega, ((HM.out.quiet ((Touch.refl _ _).alloc _)).next HW.out C2.out F2.out).quiet ((Touch.refl _ _).alloc _)⟩
      case measure => simp [intOf]; omega
    · have hks : ks.length ≤ 5000 := by omega
      go_wp2_with (first
        | (go_at_call 19; refine (rows_any _ p v l HM.out.two.tab HM.out.two.few).mono ?_; rintro e w2 ⟨v2, rfl, ho2, hc2, hf2⟩; obtain ⟨A2, c2, hv2, _⟩ := own_len ho2; have Q2 := hide (HM.out.quiet hc2); have O2 := hide ho2; clear hc2 ho2 hf2; subst hv2)
        | (go_at_call 18; refine (load_any _ A2 l.length c2 l rfl (Reads.of_own O2.out) (own_nilOk O2.out) HM.out.two.few).mono ?_; rintro e w3 ⟨hc3, hor⟩; rcases hor with ⟨hbad, _⟩ | ⟨_, q, v3, rfl, ht3, hq3, hv3⟩; (exact absurd HM.out.two.same.good (by rw [hbad]; decide)); have Q3 := hide (Q2.out.quiet hc3); have T3 := hide ht3; have H3 := hide hq3; have V3 := hide hv3; clear hc3 ht3 hq3 hv3))
      have M3 := hide (show AllRel B w q g w3 v3 (.slice Ak ks.length ck) l m ks from
        ⟨⟨T3.out, HM.out.two.few, Q3.out.two.ktab, Q3.out.two.same⟩, ⟨by have := H3.out; have := Q2.out.bel.size; have := HB.out; omega, fun g hg => by have := V3.out g hg; have := Q2.out.bel.size; have := HB.out; omega⟩, Q3.out.var, Q3.out.mine, Q3.out.bel, HB.out⟩)
      clear HM Q2 Q3 T3 H3 V3 O2 g1 g2 g3
      obtain ⟨n0, hn0⟩ : ∃ n0, n0 = ks.length := ⟨_, rfl⟩
      have HN0 := hide (show ks.length ≤ n0 + 0 ∧ n0 ≤ 5000 from by omega)
      clear hn0 hks hkk
      go_loopw [62] (fun i wr => againAt n' n0 B w q g i wr) (fun i _ => n' - (intOf i).toNat)
      case atStart => exact ⟨0, _, _, l, m, ks, Nat.zero_le _, rfl, HN0.out.1, M3.out⟩
      case round =>
        obtain ⟨wo, rfl⟩ : ∃ wo : World, wo = wr := ⟨_, rfl⟩
        obtain ⟨k, v, kv, l, m, ks, hk, rfl, hkk, hM⟩ := hrel
        have hn5 := HN0.out.2
        have HM := hide hM
        obtain ⟨g1, g2, g3⟩ := hM.var.facts
        obtain ⟨Ak, ck, hkv, _⟩ := own_len hM.two.ktab
        clear hM M3
        subst hkv
        by_cases hkn : k < n'
        · obtain ⟨b, off, hA, hb, c0, c1, c2, c3, c4, c5⟩ := op_at (HR'.out.old (HB.out ▸ HM.out.bel)) HS'.out k hkn
          subst hA
          obtain ⟨o, ho⟩ : ∃ o, o = s'.getD k OpR.zero := ⟨_, rfl⟩
          rw [← ho] at c0 c1 c2 c3 c4 c5
          clear ho
          go_wp2_with (go_at_call 15; go_loud (refine (does_any _ q v _ l m ks (HM.out.quiet ((Touch.refl _ _).alloc _)).two (by omega) o).mono ?_); go_loud (rintro e w2 ⟨m2, kv2, rfl, v2, l2, ks2, htwo, hkl, hc2, hf2, hk2⟩); go_loud (have bV := (HM.out.quiet ((Touch.refl _ _).alloc _)).var.touch hc2 HM.out.var_off; clear g1 g2 g3; obtain ⟨g1, g2, g3⟩ := bV.facts; obtain ⟨A2, c2, hkv2, _⟩ := own_len htwo.ktab; have HW := hide htwo; have HKL := hide hkl; have C2 := hide hc2; have F2 := hide hf2; clear htwo hkl hc2 hf2 hk2 bV; subst hkv2; unfold kV))
          go_roundw
          case rel => exact ⟨k + 1, v2, _, l2, m2, ks2, by omega, by go_num, by have := HKL.out; omega, ((HM.out.quiet ((Touch.refl _ _).alloc _)).next HW.out C2.out F2.out).quiet ((Touch.refl _ _).alloc _)⟩
          case measure => simp [intOf]; omega
        · go_wp2_with (first
            | (go_at_call 10; refine (alive_any _).mono ?_; rintro e w2 ⟨rfl, hc2⟩; have Q2 := hide (HM.out.quiet hc2); clear g1 g2 g3; obtain ⟨g1, g2, g3⟩ := Q2.out.var.facts; clear hc2)
            | (go_at_call 17; refine (stands_any _ q v _ l m ks Q2.out.two).mono ?_; rintro e w3 ⟨rfl, hc3⟩; have C3 := hide hc3; clear hc3))
          go_ret
          exact ⟨rfl, (Q2.out.quiet C3.out).bel⟩


end Go.Proofs.Ytiakbccomgcncaa
