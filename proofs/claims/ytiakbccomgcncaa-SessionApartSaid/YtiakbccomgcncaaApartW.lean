/- SessionApart's walk: it returns true at every script and every two calls. No condition. -/
import Derived.Test.YtiakbccomgcncaaDoesZ
namespace Go.Proofs.Ytiakbccomgcncaa
open Go.RowKit

/-- What holds at each call's head. -/
structure ApRel (B : Nat) (w : World) (p : Nat) (wr : World) (v : Value) (l : List SRow) (a b : OpR) (g1 g2 : Nat) : Prop where
  tab : MyTab B wr p v l
  few : l.length ≤ 4096
  opa : Blk wr g1 31 #[.int .i64 a.kind, .int .u64 a.id, .int .u64 a.seq, .int .i64 a.code, .int .u64 a.sess, .int .i64 a.had]
  opb : Blk wr g2 31 #[.int .i64 b.kind, .int .u64 b.id, .int .u64 b.seq, .int .i64 b.code, .int .u64 b.sess, .int .i64 b.had]
  bel : Below B w wr
  base : B = w.heap.size

theorem ApRel.off {B : Nat} {w : World} {p : Nat} {wr : World} {v : Value} {l : List SRow} {a b : OpR} {g1 g2 : Nat} (h : ApRel B w p wr v l a b g1 g2) {g : Nat} {cs : Array Value} (hb : Blk wr g 31 cs) : ¬ fp p v g := by
  rintro (e | e)
  · exact Blk.ne_ h.tab.1.1 hb (by decide) e.symm
  · exact own_blk_ne h.tab.1.2 hb (by decide) e
theorem ApRel.quiet {B : Nat} {w : World} {p : Nat} {wr w' : World} {v : Value} {l : List SRow} {a b : OpR} {g1 g2 : Nat} (h : ApRel B w p wr v l a b g1 g2) (ht : Touch (fun _ => False) wr w') : ApRel B w p w' v l a b g1 g2 :=
  ⟨h.tab.quiet ht, h.few, h.opa.touch ht (fun f => f), h.opb.touch ht (fun f => f), below_touch h.bel ht (Nat.le_of_eq h.base) (fun _ _ f => f), h.base⟩
theorem ApRel.turned {B : Nat} {w : World} {p : Nat} {wr w' : World} {v v' : Value} {l l' : List SRow} {a b : OpR} {g1 g2 : Nat} (h : ApRel B w p wr v l a b g1 g2) (htab : Tab w' p v' l') (hl : l'.length ≤ 4096) (ht : Touch (fp p v) wr w') (hf : Fresh wr v v') : ApRel B w p w' v' l' a b g1 g2 :=
  ⟨h.tab.fresh htab (by have := h.bel.size; have := h.base; omega) hf, hl, h.opa.touch ht (h.off h.opa), h.opb.touch ht (h.off h.opb), below_touch h.bel ht (Nat.le_of_eq h.base) h.tab.off, h.base⟩
/-- What is done to another table, all of whose blocks are newer. -/
theorem ApRel.other {B : Nat} {w : World} {p : Nat} {wr w1 w' : World} {v : Value} {l : List SRow} {a b : OpR} {g1 g2 q : Nat} {vq : Value} (h : ApRel B w p wr v l a b g1 g2) (h1 : Touch (fun _ => False) wr w1) (ht : Touch (fp q vq) w1 w') (hq : ∀ k, fp q vq k → wr.heap.size ≤ k) : ApRel B w p w' v l a b g1 g2 := by
  have T : Touch (fun _ => False) wr w' := h1.trans ht (fun i hi f => by have := hq i f; omega)
  exact h.quiet T

def apAt (n B : Nat) (w : World) (p : Nat) (a b : OpR) (g1 g2 : Nat) (i : Value) (wr : World) : Prop :=
  ∃ (k : Nat) (v : Value) (l : List SRow), k ≤ n ∧ i = .int .i64 k ∧ ApRel B w p wr v l a b g1 g2

set_option maxRecDepth 100000 in
set_option maxHeartbeats 1000000 in
theorem apart_walk (w : World) (A : Option Addr) (n c : Nat) (s : List OpR) (hs : n = s.length) (hr : Reads w 6 A n (opCells s)) (hn : n ≤ 9223372036854775807) (a b : OpR) :
    Calls Try.prog 5 #[.slice A n c, a.val, b.val] w fun e w' => e = .returned (.bool true) ∧ Below w.heap.size w w' := by
  have q23 : ∀ (w : World) (a : Addr), (binOp .eql 23 (.pointer (some a)) (.pointer none)).run Try.prog w = .ok (.bool false) w := fun w a => by kernel_rfl
  have q23n : ∀ (w : World) (a : Addr), (binOp .neq 23 (.pointer (some a)) (.pointer none)).run Try.prog w = .ok (.bool true) w := fun w a => by kernel_rfl
  have HS := hide hs
  have HR := hide hr
  clear hs hr
  obtain ⟨B, hB⟩ : ∃ B, B = w.heap.size := ⟨_, rfl⟩
  have HB := hide hB
  rw [← hB]
  clear hB
  obtain ⟨ak, ai, as', ac, ae, ah⟩ := a
  obtain ⟨bk, bi, bs, bc, be, bh⟩ := b
  unfold OpR.val
  simp only
  by_cases h3 : (5000 : Int) < (n : Int)
  · go_enter Try.func5, Try.ntmps5
    go_wp2_with (first
      | (go_at_call 9; refine (new_any _).mono ?_; rintro e w1 ⟨rfl, ht1, hc1⟩; have C1 := hide hc1; clear ht1 hc1)
      | (go_at_call 10; refine (alive_any _).mono ?_; rintro e w2 ⟨rfl, hc2⟩; have C2 := hide hc2; clear hc2))
    go_ret
    exact ⟨rfl, ((((Touch.refl _ _).alloc _).alloc _).then C1.out |>.then C2.out).below (Nat.le_of_eq HB.out) (fun _ _ f => f)⟩
  · go_enter Try.func5, Try.ntmps5
    go_wp2_with (go_at_call 9; refine (new_any _).mono ?_; rintro e w1 ⟨rfl, ht1, hc1⟩; have bA := (Blk.touch ((Blk.new w 31 _).alloc _) hc1 (fun f => f)); have bB := (blk_new1 _ _ _ _).touch hc1 (fun f => f); have BA := hide bA; have BB := hide bB; have T1 := hide ht1; have C1 := hide hc1; clear ht1 hc1 bA bB)
    have M1 := hide (show ApRel B w (w.heap.size + 1 + 1) w1 (.slice none 0 0) [] ⟨ak, ai, as', ac, ae, ah⟩ ⟨bk, bi, bs, bc, be, bh⟩ w.heap.size (w.heap.size + 1) from
      ⟨⟨by simpa using T1.out, by have := HB.out; omega, (fun g hg => by cases hg)⟩, by simp, BA.out, BB.out, below_touch (Below.refl B w) ((((Touch.refl _ _).alloc _).alloc _).then C1.out) (Nat.le_of_eq HB.out) (fun _ _ f => f), HB.out⟩)
    obtain ⟨p, hp⟩ : ∃ p, p = w.heap.size + 1 + 1 := ⟨_, rfl⟩
    obtain ⟨g1, hg1⟩ : ∃ g1, g1 = w.heap.size := ⟨_, rfl⟩
    obtain ⟨g2, hg2⟩ : ∃ g2, g2 = w.heap.size + 1 := ⟨_, rfl⟩
    rw [← hp, ← hg2, ← hg1] at M1 ⊢
    clear hp hg1 hg2 BA BB T1 C1
    go_loopw [32] (fun i wr => apAt n B w p ⟨ak, ai, as', ac, ae, ah⟩ ⟨bk, bi, bs, bc, be, bh⟩ g1 g2 i wr) (fun i _ => n - (intOf i).toNat)
    case atStart => exact ⟨0, _, [], Nat.zero_le _, rfl, M1.out⟩
    case round =>
      obtain ⟨wo, rfl⟩ : ∃ wo : World, wo = wr := ⟨_, rfl⟩
      obtain ⟨k, v, l, hk, rfl, hM⟩ := hrel
      have HM := hide hM
      clear hM M1
      by_cases hkn : k < n
      · obtain ⟨b', off, hA, hb, c0, c1, c2, c3, c4, c5⟩ := op_at (HR.out.old (HB.out ▸ HM.out.bel)) HS.out k hkn
        subst hA
        obtain ⟨o, ho⟩ : ∃ o, o = s.getD k OpR.zero := ⟨_, rfl⟩
        rw [← ho] at c0 c1 c2 c3 c4 c5
        clear ho
        go_wp2_with (go_at_call 15; refine (does0_any _ p v l (HM.out.tab.1.alloc _) HM.out.few o).mono ?_; rintro e w2 ⟨x, bb, rfl, v2, l2, ht2, hl2, hc2, hf2⟩; have T2 := hide ht2; have L2 := hide hl2; have C2 := hide hc2; have F2 := hide hf2; clear ht2 hl2 hc2 hf2)
        go_roundw
        case rel => exact ⟨k + 1, v2, l2, by omega, by go_num, (HM.out.quiet ((Touch.refl _ _).alloc _)).turned T2.out L2.out C2.out F2.out⟩
        case measure => simp [intOf]; omega
      · obtain ⟨f1, f2, f3⟩ := HM.out.opa.facts
        obtain ⟨⟨rc, rs, rh, rb, re⟩, hR⟩ : ∃ R, R = chk (thereB l ai) (rowAt l ai) as' := ⟨_, rfl⟩
        have RR := hide hR.symm
        clear hR
        go_wp2_with fail
        refine (check_any _ p v l HM.out.tab.1 ai as' _ RR.out).mono ?_
        rintro e w2 ⟨rfl, hc2⟩
        have M2 := hide (HM.out.quiet hc2)
        clear hc2 f1 f2 f3
        unfold CRes.val
        go_wp2_with fail
        have M2a := fun o => hide (M2.out.quiet ((Touch.refl _ _).alloc o))
        refine (tclone_any _ p v l (M2a _).out.tab.1 HM.out.few).mono ?_
        rintro e w3 ⟨q, vq, rfl, htq, hc3, hq, hvq⟩
        have b10 := (Blk.new w2 29 #[.int .i64 rc, .int .u64 rs, .int .i64 rh]).touch hc3 (fun f => f)
        have M3 := hide ((M2a _).out.quiet hc3)
        have TQ := hide htq
        have HQ := hide (show ∀ k, fp q vq k → w2.heap.size ≤ k from by
          rintro k (rfl | hk)
          · simp at hq; omega
          · have := hvq k hk; simp at this; omega)
        have C3 := hide (((Touch.refl (fun _ => False) w2).alloc _).then hc3)
        have B10 := hide b10
        obtain ⟨f1, f2, f3⟩ := M3.out.opa.facts
        clear htq hc3 hq hvq b10 M2a
        go_wp2_with fail
        refine (keep_any _ q vq l TQ.out ai as' ⟨0, ac, ae, ah⟩).mono ?_
        rintro e w4 ⟨bb, rfl, ht4, hc4⟩
        have M4 := hide (M2.out.other C3.out hc4 HQ.out)
        have b10' := B10.out.touch hc4 (fun f => by
          rcases f with f | f
          · exact Blk.ne_ TQ.out.1 B10.out (by decide) f.symm
          · exact own_blk_ne TQ.out.2 B10.out (by decide) f)
        have T4 := hide ht4
        have B104 := hide b10'
        have C4 := hide hc4
        clear ht4 hc4 b10' f1 f2 f3
        go_wp2_with fail
        refine (open_any _ q vq _ T4.out (by rw [keepL_len]; exact HM.out.few)).mono ?_
        rintro e w5 ⟨x5, y5, rfl, hc5⟩
        have M5 := hide (M2.out.other C3.out (C4.out.then hc5) HQ.out)
        have b10' := B104.out.touch hc5 (fun f => by
          rcases f with f | f
          · exact Blk.ne_ T4.out.1 B104.out (by decide) f.symm
          · exact own_blk_ne T4.out.2 B104.out (by decide) f)
        have B105 := hide b10'
        obtain ⟨f1, f2, f3⟩ := M5.out.opa.facts
        obtain ⟨e1, e2, e3⟩ := M5.out.opb.facts
        clear hc5 b10'
        by_cases hid : ai = bi
        · have bne : (ai != bi) = false := by simpa using hid
          clear hid

          go_wp2_with fail
          refine (check_any _ p v _ M5.out.tab.1 ai as' _ RR.out).mono ?_
          rintro e w7 ⟨rfl, hc7⟩
          have M7 := hide (M5.out.quiet hc7)
          have b10' := B105.out.touch hc7 (fun f => f)
          obtain ⟨z1, z2, z3⟩ := b10'.facts
          have B107 := hide b10'
          clear hc7 b10' f1 f2 f3 e1 e2 e3
          unfold CRes.val
          go_wp2_with fail
          refine (alive_any _).mono ?_
          rintro e w8 ⟨rfl, hc8⟩
          have M8 := hide ((M7.out.quiet ((Touch.refl _ _).alloc _)).quiet hc8)
          have b10' := (B107.out.alloc _).touch hc8 (fun f => f)
          have b14 := (Blk.new w7 29 #[.int .i64 rc, .int .u64 rs, .int .i64 rh]).touch hc8 (fun f => f)
          obtain ⟨y1, y2, y3⟩ := b10'.facts
          obtain ⟨x1, x2, x3⟩ := b14.facts
          clear hc8 b10' b14 z1 z2 z3
          go_wp2
          go_ret
          exact ⟨rfl, M8.out.bel⟩
        · have bne : (ai != bi) = true := by simpa using hid
          have RR6 := hide (show chk (thereB (keepL l bi bs ⟨0, bc, be, bh⟩) ai) (rowAt (keepL l bi bs ⟨0, bc, be, bh⟩) ai) as' = ⟨rc, rs, rh, rb, re⟩ from by
            rw [keepL_chk l bi bs _ ai hid]; exact RR.out)
          clear hid
          go_wp2_with fail
          refine (keep_any _ p v l M5.out.tab.1 bi bs ⟨0, bc, be, bh⟩).mono ?_
          rintro e w6 ⟨bb6, rfl, ht6, hc6⟩
          have M6 := hide (M5.out.turned ht6 (by rw [keepL_len]; exact HM.out.few) hc6 (.inl rfl))
          have b10' := B105.out.touch hc6 (fun f => by
            rcases f with f | f
            · exact Blk.ne_ M5.out.tab.1.1 B105.out (by decide) f.symm
            · exact own_blk_ne M5.out.tab.1.2 B105.out (by decide) f)
          have B106 := hide b10'
          clear ht6 hc6 b10' f1 f2 f3 e1 e2 e3
          obtain ⟨f1, f2, f3⟩ := M6.out.opa.facts

          go_wp2_with fail
          refine (check_any _ p v _ M6.out.tab.1 ai as' _ RR6.out).mono ?_
          rintro e w7 ⟨rfl, hc7⟩
          have M7 := hide (M6.out.quiet hc7)
          have b10' := B106.out.touch hc7 (fun f => f)
          obtain ⟨z1, z2, z3⟩ := b10'.facts
          have B107 := hide b10'
          clear hc7 b10' f1 f2 f3
          unfold CRes.val
          go_wp2_with fail
          refine (alive_any _).mono ?_
          rintro e w8 ⟨rfl, hc8⟩
          have M8 := hide ((M7.out.quiet ((Touch.refl _ _).alloc _)).quiet hc8)
          have b10' := (B107.out.alloc _).touch hc8 (fun f => f)
          have b14 := (Blk.new w7 29 #[.int .i64 rc, .int .u64 rs, .int .i64 rh]).touch hc8 (fun f => f)
          obtain ⟨y1, y2, y3⟩ := b10'.facts
          obtain ⟨x1, x2, x3⟩ := b14.facts
          clear hc8 b10' b14 z1 z2 z3
          go_wp2
          go_ret
          exact ⟨rfl, M8.out.bel⟩

end Go.Proofs.Ytiakbccomgcncaa
