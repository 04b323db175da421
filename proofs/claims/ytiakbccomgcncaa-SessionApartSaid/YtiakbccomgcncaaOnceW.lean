/- SessionOnce's walk: it returns true at every script. No condition. -/
import Derived.Test.YtiakbccomgcncaaOnceP
import Derived.Test.YtiakbccomgcncaaSessL
namespace Go.Proofs.Ytiakbccomgcncaa
open Go.RowKit

theorem Try.infoOp : (Try.prog.info? 31).map (fun i => (i.zero, i.size, i.bytes)) = some (some (.agg #[.int .i64 0, .int .u64 0, .int .u64 0, .int .i64 0, .int .u64 0, .int .i64 0]), 6, 48) := by kernel_rfl

/-- What holds at each call's head. -/
structure OnceRel (B : Nat) (w : World) (p : Nat) (wr : World) (v vd : Value) (l : List SRow) (dn : List OpR) : Prop where
  tab : MyTab B wr p v l
  few : l.length ≤ 4096
  own : wr.ownsRow 0 31 6 vd dn.length (opCells dn)
  mine : ∀ g, vd.ownBlock = some g → B ≤ g
  once : Once l dn
  bel : Below B w wr
  base : B = w.heap.size

theorem OnceRel.quiet {B : Nat} {w : World} {p : Nat} {wr w' : World} {v vd : Value} {l : List SRow} {dn : List OpR} (h : OnceRel B w p wr v vd l dn) (ht : Touch (fun _ => False) wr w') : OnceRel B w p w' v vd l dn :=
  ⟨h.tab.quiet ht, h.few, own_touch h.own ht (fun _ _ f => f), h.mine, h.once, below_touch h.bel ht (Nat.le_of_eq h.base) (fun _ _ f => f), h.base⟩

theorem fp_op {B : Nat} {w : World} {p : Nat} {wr : World} {v vd : Value} {l : List SRow} {dn : List OpR} (h : OnceRel B w p wr v vd l dn) : ∀ g, vd.ownBlock = some g → ¬ fp p v g := by
  rintro g hg (rfl | hf)
  · exact own_blk_ne h.own h.tab.1.1 (by decide) hg
  · exact own_own_ne h.own h.tab.1.2 (by decide) hg hf

theorem OnceRel.turned {B : Nat} {w : World} {p : Nat} {wr w' : World} {v v' vd : Value} {l l' : List SRow} {dn : List OpR} (h : OnceRel B w p wr v vd l dn) (ht : Touch (fp p v) wr w') (htab : Tab w' p v' l') (hf : Fresh wr v v') (hl : l'.length ≤ 4096) (ho : Once l' dn) :
    OnceRel B w p w' v' vd l' dn :=
  ⟨h.tab.fresh htab (by have := h.bel.size; have := h.base; omega) hf, hl, own_touch h.own ht (fp_op h), h.mine, ho, below_touch h.bel ht (Nat.le_of_eq h.base) h.tab.off, h.base⟩

/-- A new request is kept: the table, and what was done, have one more. -/
theorem OnceRel.kept {B : Nat} {w : World} {p : Nat} {wr w3 w4 : World} {v vd v4 : Value} {l : List SRow} {dn : List OpR} (h : OnceRel B w p wr v vd l dn) (o : OpR) {t : TypeId}
    (ht : Touch (fp p v) wr w3) (htab : Tab w3 p v (l.set (o.id - 1).toNat o.row)) (honce : Once (l.set (o.id - 1).toNat o.row) (dn ++ [o]))
    (hown : w4.ownsRow 0 31 6 v4 (dn.length + 1) (opCells dn ++ o.cells)) (hgrow : (w3.alloc (.cells o.cells.toArray t)).grownBy w4 vd.ownBlock) (hfr : Fresh (w3.alloc (.cells o.cells.toArray t)) vd v4) :
    OnceRel B w p w4 v v4 (l.set (o.id - 1).toNat o.row) (dn ++ [o]) := by
  have hsz : B ≤ w3.heap.size := by have := h.bel.size; have := h.base; have := ht.size; omega
  have T4 : Touch (fun k => vd.ownBlock = some k) w3 w4 := ((Touch.refl _ _).alloc _).grown hgrow (fun k hk _ => hk)
  have hown3 := own_touch h.own ht (fp_op h)
  have n1 : ¬ vd.ownBlock = some p := own_blk_ne hown3 htab.1 (by decide)
  have n2 : ∀ g, v.ownBlock = some g → ¬ vd.ownBlock = some g := fun g hg => own_own_ne htab.2 hown3 (by decide) hg
  refine ⟨⟨htab.touch T4 n1 n2, h.tab.2⟩, by rw [List.length_set]; exact h.few, ?_, ?_, honce, ?_, h.base⟩
  · rw [opCells_snoc, List.length_append]; exact hown
  · intro g hg
    rcases hfr with f | ⟨g', f, hg'⟩
    · exact h.mine g (by rw [← f]; exact hg)
    · rw [f] at hg; injection hg with hg; simp at hg'; omega
  · exact below_touch (below_touch h.bel ht (Nat.le_of_eq h.base) h.tab.off) T4 (Nat.le_of_eq h.base) (fun k hk e => by have := h.mine k e; omega)

theorem blk_set6 {w : World} {g : Nat} {t : TypeId} {a0 a1 a2 a3 a4 a5 : Value} (h : Blk w g t #[a0, a1, a2, a3, a4, a5]) (b0 b1 b2 b3 b4 b5 : Value) :
    Blk ((((((w.setCell ⟨g, 0, none⟩ b0).setCell ⟨g, 1, none⟩ b1).setCell ⟨g, 2, none⟩ b2).setCell ⟨g, 3, none⟩ b3).setCell ⟨g, 4, none⟩ b4).setCell ⟨g, 5, none⟩ b5) g t #[b0, b1, b2, b3, b4, b5] :=
  (((((h.set_ 0 b0).set_ 1 b1).set_ 2 b2).set_ 3 b3).set_ 4 b4).set_ 5 b5
theorem blk_far6 {w : World} {g g' : Nat} {t : TypeId} {cs : Array Value} (h : Blk w g t cs) (hne : g ≠ g') (b0 b1 b2 b3 b4 b5 : Value) :
    Blk ((((((w.setCell ⟨g', 0, none⟩ b0).setCell ⟨g', 1, none⟩ b1).setCell ⟨g', 2, none⟩ b2).setCell ⟨g', 3, none⟩ b3).setCell ⟨g', 4, none⟩ b4).setCell ⟨g', 5, none⟩ b5) g t cs :=
  (((((h.far (p := ⟨g', 0, none⟩) hne b0).far (p := ⟨g', 1, none⟩) hne b1).far (p := ⟨g', 2, none⟩) hne b2).far (p := ⟨g', 3, none⟩) hne b3).far (p := ⟨g', 4, none⟩) hne b4).far (p := ⟨g', 5, none⟩) hne b5
theorem touch_set6 {S : Nat → Prop} {w w' : World} (h : Touch S w w') {g' : Nat} (hg : g' < w.heap.size → S g') (b0 b1 b2 b3 b4 b5 : Value) :
    Touch S w ((((((w'.setCell ⟨g', 0, none⟩ b0).setCell ⟨g', 1, none⟩ b1).setCell ⟨g', 2, none⟩ b2).setCell ⟨g', 3, none⟩ b3).setCell ⟨g', 4, none⟩ b4).setCell ⟨g', 5, none⟩ b5) :=
  (((((h.setCell (p := ⟨g', 0, none⟩) hg b0).setCell (p := ⟨g', 1, none⟩) hg b1).setCell (p := ⟨g', 2, none⟩) hg b2).setCell (p := ⟨g', 3, none⟩) hg b3).setCell (p := ⟨g', 4, none⟩) hg b4).setCell (p := ⟨g', 5, none⟩) hg b5

theorem op_facts {w : World} {g : Nat} {t : TypeId} (r : OpR) (h : Blk w g t r.cells.toArray) : (∀ i, w.cell? ⟨g, i, none⟩ = #[Value.int .i64 r.kind, .int .u64 r.id, .int .u64 r.seq, .int .i64 r.code, .int .u64 r.sess, .int .i64 r.had][i]?) ∧ (∀ i, w.frozen? ⟨g, i, none⟩ = false) ∧ g < w.heap.size := h.facts

def onceAt (n : Nat) (B : Nat) (w : World) (p : Nat) (vd i : Value) (wr : World) : Prop :=
  ∃ (k : Nat) (v : Value) (l : List SRow) (dn : List OpR), k ≤ n ∧ i = .int .i64 k ∧ dn.length ≤ k ∧ OnceRel B w p wr v vd l dn

set_option maxRecDepth 100000 in
set_option maxHeartbeats 1000000 in
theorem once_walk (w : World) (A : Option Addr) (n c : Nat) (s : List OpR) (hs : n = s.length) (hr : Reads w 6 A n (opCells s)) (hn : n ≤ 9223372036854775807) :
    Calls Try.prog 3 #[.slice A n c] w fun e w' => e = .returned (.bool true) ∧ Below w.heap.size w w' := by
  have q23 : ∀ (w : World) (a : Addr), (binOp .eql 23 (.pointer (some a)) (.pointer none)).run Try.prog w = .ok (.bool false) w := fun w a => by kernel_rfl
  have q23n : ∀ (w : World) (a : Addr), (binOp .neq 23 (.pointer (some a)) (.pointer none)).run Try.prog w = .ok (.bool true) w := fun w a => by kernel_rfl
  have HS := hide hs
  have HR := hide hr
  clear hs hr
  obtain ⟨B, hB⟩ : ∃ B, B = w.heap.size := ⟨_, rfl⟩
  have HB := hide hB
  rw [← hB]
  clear hB
  by_cases h3 : (3000 : Int) < (n : Int)
  · go_enter Try.func3, Try.ntmps3
    go_wp2_with (first
      | (go_at_call 9; refine (new_any _).mono ?_; rintro e w1 ⟨rfl, ht1, hc1⟩; have C1 := hide hc1; clear ht1 hc1)
      | (go_at_call 10; refine (alive_any _).mono ?_; rintro e w2 ⟨rfl, hc2⟩; have C2 := hide hc2; clear hc2))
    go_ret
    exact ⟨rfl, (C1.out.then C2.out).below (Nat.le_of_eq HB.out) (fun _ _ f => f)⟩
  · obtain ⟨i0, hi, hz0, hz1, hz2⟩ := info_parts Try.infoOp
    go_enter Try.func3, Try.ntmps3
    go_wp2_with (go_at_call 9; refine (new_any _).mono ?_; rintro e w1 ⟨rfl, ht1, hc1⟩; go_loud (have M1 := hide (show OnceRel B w w.heap.size w1 (.slice none 0 0) (.slice none 0 0) [] [] from ⟨⟨ht1, by have := HB.out; omega, (fun g hg => by cases hg)⟩, by simp, World.ownsRow_nil _ _ _ _, (fun g hg => by cases hg), Once.start, hc1.below (Nat.le_of_eq HB.out) (fun _ _ f => f), HB.out⟩)); clear ht1 hc1)
    obtain ⟨p, hp⟩ : ∃ p, p = w.heap.size := ⟨_, rfl⟩
    rw [← hp] at M1 ⊢
    clear hp
    go_loopw [4, 30] (fun vd i wr => onceAt n B w p vd i wr) (fun _ i _ => n - (intOf i).toNat)
    case atStart => exact ⟨0, _, [], [], Nat.zero_le _, rfl, Nat.le_refl _, M1.out⟩
    case round =>
      obtain ⟨wo, rfl⟩ : ∃ wo : World, wo = wr := ⟨_, rfl⟩
      obtain ⟨k, v, l, dn, hk, rfl, hdk, hM⟩ := hrel
      obtain ⟨Ad, cd, hvd, _⟩ := own_len hM.own
      subst hvd
      have HM := hide hM
      clear hM M1
      by_cases hkn : k < n
      · obtain ⟨b, off, hA, hb, c0, c1, c2, c3, c4, c5⟩ := op_at (HR.out.old (HB.out ▸ HM.out.bel)) HS.out k hkn
        subst hA
        obtain ⟨⟨ok, oi, os, oc, oe, oh⟩, ho⟩ : ∃ o, o = s.getD k OpR.zero := ⟨_, rfl⟩
        rw [← ho] at c0 c1 c2 c3 c4 c5
        clear ho
        simp only at c0 c1 c2 c3 c4 c5
        by_cases hk0 : ok = 0
        · subst hk0
          by_cases hf : l.length = 4096
          · have HF := hide hf
            clear hf
            go_wp2_with (go_at_call 11; refine (open_full _ p v l (HM.out.tab.1.alloc _) HF.out).mono ?_; rintro e w2 ⟨rfl, rfl⟩)
            go_roundw
            case rel => exact ⟨k + 1, v, l, dn, by omega, by go_num, by omega, HM.out.quiet ((Touch.refl _ _).alloc _)⟩
            case measure => simp [intOf]; omega
          · have HF := hide (show l.length < 4096 by have := HM.out.few; omega)
            clear hf
            go_wp2_with (go_at_call 11; refine (open_room _ p v l (HM.out.tab.1.alloc _) HF.out).mono ?_; rintro e w2 ⟨rfl, v2, ht2, hc2, hf2⟩; have T2 := hide ht2; have C2 := hide hc2; have F2 := hide hf2; clear ht2 hc2 hf2)
            go_roundw
            case rel => exact ⟨k + 1, v2, l ++ [SRow.zero], dn, by omega, by go_num, by omega, (HM.out.quiet ((Touch.refl _ _).alloc _)).turned C2.out T2.out F2.out (by have := HF.out; simp; omega) HM.out.once.open⟩
            case measure => simp [intOf]; omega
        · have bk : (ok == 0) = false := by simpa using hk0
          clear hk0
          have hch := chk_cases (thereB l oi) (rowAt l oi) os
          rcases hch with h1 | h1 | ⟨ht, hz, he, h1⟩ | ⟨ht, hz, hlt, h1⟩
          · have H1 := hide h1
            clear h1
            go_wp2_with (go_at_call 12; refine (check_any _ p v l (HM.out.tab.1.alloc _) oi os _ H1.out).mono ?_; rintro e w2 ⟨rfl, hc2⟩; have C2 := hide hc2; clear hc2; unfold CRes.val)
            go_roundw
            case rel => exact ⟨k + 1, v, l, dn, by omega, by go_num, by omega, HM.out.quiet ((((Touch.refl _ _).alloc _).then C2.out).alloc _)⟩
            case measure => simp [intOf]; omega
          · have H1 := hide h1
            clear h1
            go_wp2_with (go_at_call 12; refine (check_any _ p v l (HM.out.tab.1.alloc _) oi os _ H1.out).mono ?_; rintro e w2 ⟨rfl, hc2⟩; have C2 := hide hc2; clear hc2; unfold CRes.val)
            go_roundw
            case rel => exact ⟨k + 1, v, l, dn, by omega, by go_num, by omega, HM.out.quiet ((((Touch.refl _ _).alloc _).then C2.out).alloc _)⟩
            case measure => simp [intOf]; omega
          · have HA := hide (HM.out.once.again oi os ht hz he)
            obtain ⟨⟨rs, rc, rr, rh⟩, hr⟩ : ∃ r, r = rowAt l oi := ⟨_, rfl⟩
            have H1 := hide (show chk (thereB l oi) (rowAt l oi) os = ⟨rc, rr, rh, true, 0⟩ from by rw [h1, ← hr])
            rw [← hr] at HA he
            clear hr h1 ht hz
            have HE := hide he
            clear he
            go_wp2_with (go_at_call 12; refine (check_any _ p v l (HM.out.tab.1.alloc _) oi os _ H1.out).mono ?_; rintro e w2 ⟨rfl, hc2⟩; have bO := (Blk.new wo 31 _).touch hc2 (fun f => f); obtain ⟨o1, o2, o3⟩ := bO.facts; have BO := hide bO; have C2 := hide hc2; clear hc2 bO; unfold CRes.val)
            have b29 := ((Blk.new w2 29 #[.int .i64 rc, .int .u64 rr, .int .i64 rh]).alloc (.cells OpR.zero.cells.toArray 31))
            have b31 := blk_new1 w2 (.cells #[.int .i64 rc, .int .u64 rr, .int .i64 rh] 29) 31 OpR.zero.cells.toArray
            have H29 := hide b29
            have H31 := hide b31
            have hws := C2.out.size
            simp at hws
            clear b29 b31 o1 o2 o3
            go_loopw [54] (fun i wr => ∃ j : Nat, j ≤ dn.length ∧ i = .int .i64 j ∧ Blk wr wo.heap.size 31 #[.int .i64 ok, .int .u64 oi, .int .u64 os, .int .i64 oc, .int .u64 oe, .int .i64 oh] ∧ Blk wr w2.heap.size 29 #[.int .i64 rc, .int .u64 rr, .int .i64 rh] ∧
                Blk wr (w2.heap.size + 1) 31 (lastOp (dn.take j) oi).cells.toArray ∧ Touch (fun _ => False) wo wr) (fun i _ => dn.length - (intOf i).toNat)
            case atStart => exact ⟨0, Nat.zero_le _, rfl, (BO.out.alloc _).alloc _, H29.out, H31.out, ((((Touch.refl _ _).alloc _).then C2.out).alloc _).alloc _⟩
            case round =>
              obtain ⟨j, hj, rfl, bO, bA, bL, hT⟩ := hrel
              clear BO H29 H31
              obtain ⟨o1, o2, o3⟩ := bO.facts
              obtain ⟨a1, a2, a3⟩ := bA.facts
              have BO := hide bO
              have BA := hide bA
              have BL := hide bL
              have HT := hide hT
              clear bO bA bL hT
              by_cases hjl : j < dn.length
              · obtain ⟨xb, xoff, hxA, hxb, d0, d1, d2, d3, d4, d5⟩ := op_at (Reads.of_own (HM.out.quiet HT.out).own) rfl j hjl
                subst hxA
                have HL := hide (lastOp_take dn j hjl oi)
                obtain ⟨⟨xk, xi, xs, xc, xe, xh⟩, hx⟩ : ∃ o, o = dn.getD j OpR.zero := ⟨_, rfl⟩
                rw [← hx] at d0 d1 d2 d3 d4 d5 HL
                clear hx
                simp only at d0 d1 d2 d3 d4 d5
                by_cases hxo : xi = oi
                · have b0 : (xi == oi) = true := by simpa using hxo
                  rw [if_pos hxo] at HL
                  clear hxo
                  obtain ⟨l1, l2, l3⟩ := op_facts _ BL.out
                  go_wp2
                  go_roundw
                  case rel => exact ⟨j + 1, by omega, by go_num, (blk_far6 BO.out (by omega) _ _ _ _ _ _).alloc _, (blk_far6 BA.out (by omega) _ _ _ _ _ _).alloc _, by rw [HL.out]; exact (blk_set6 BL.out _ _ _ _ _ _).alloc _, (touch_set6 HT.out (fun h => by omega) _ _ _ _ _ _).alloc _⟩
                  case measure => simp [intOf]; omega
                · have b0 : (xi == oi) = false := by simpa using hxo
                  rw [if_neg hxo] at HL
                  clear hxo
                  go_wp2
                  go_roundw
                  case rel => exact ⟨j + 1, by omega, by go_num, BO.out.alloc _, BA.out.alloc _, by rw [HL.out]; exact BL.out.alloc _, HT.out.alloc _⟩
                  case measure => simp [intOf]; omega
              · have hjd : dn.take j = dn := List.take_of_length_le (by omega)
                have hlast := HA.out
                obtain ⟨⟨lk, li, ls, lc, le, lh⟩, hlo⟩ : ∃ o, o = lastOp dn oi := ⟨_, rfl⟩
                rw [← hlo] at hlast
                have hbl := BL.out
                rw [hjd, ← hlo] at hbl
                obtain ⟨h1, h2⟩ := hlast
                simp only [OpR.row, SRow.mk.injEq] at h1 h2
                obtain ⟨h2, h3', h4, h5⟩ := h2
                subst h1 h2 h3' h4 h5
                have he := HE.out
                subst he
                clear hlo hjd
                obtain ⟨l1, l2, l3⟩ := op_facts _ hbl
                simp only at l1
                have HBL := hide hbl
                clear hbl
                go_wp2
                go_roundw
                case rel => exact ⟨k + 1, v, l, dn, by omega, by go_num, by omega, HM.out.quiet HT.out⟩
                case measure => simp [intOf]; omega
          · have HNEW := hide (HM.out.once.new oi os hlt)
            have HKEEP := hide (HM.out.once.keep ⟨ok, oi, os, oc, oe, oh⟩ ht hz hlt)
            have HKB := hide (show keepB l oi os = true by unfold keepB; rw [ht]; simpa using hlt)
            have H1 := hide h1
            clear h1 ht hz hlt
            go_wp2_with (go_at_call 12; refine (check_any _ p v l (HM.out.tab.1.alloc _) oi os _ H1.out).mono ?_; rintro e w2 ⟨rfl, hc2⟩; have bO := (Blk.new wo 31 _).touch hc2 (fun f => f); obtain ⟨o1, o2, o3⟩ := bO.facts; have BO := hide bO; have C2 := hide hc2; clear hc2 bO; unfold CRes.val)
            clear o1 o2 o3
            go_loopw [85] (fun i wr => ∃ j : Nat, j ≤ dn.length ∧ i = .int .i64 j ∧ Blk wr wo.heap.size 31 #[.int .i64 ok, .int .u64 oi, .int .u64 os, .int .i64 oc, .int .u64 oe, .int .i64 oh] ∧ Touch (fun _ => False) wo wr) (fun i _ => dn.length - (intOf i).toNat)
            case atStart => exact ⟨0, Nat.zero_le _, rfl, BO.out.alloc _, (((Touch.refl _ _).alloc _).then C2.out).alloc _⟩
            case round =>
              obtain ⟨j, hj, rfl, bO, hT⟩ := hrel
              clear BO
              obtain ⟨o1, o2, o3⟩ := bO.facts
              have BO := hide bO
              have HT := hide hT
              clear bO hT
              by_cases hjl : j < dn.length
              · obtain ⟨xb, xoff, hxA, hxb, d0, d1, d2, d3, d4, d5⟩ := op_at (Reads.of_own (HM.out.quiet HT.out).own) rfl j hjl
                subst hxA
                have hne := HNEW.out (dn.getD j OpR.zero) (by simp [List.getD, hjl])
                obtain ⟨⟨xk, xi, xs, xc, xe, xh⟩, hx⟩ : ∃ o, o = dn.getD j OpR.zero := ⟨_, rfl⟩
                rw [← hx] at d0 d1 d2 d3 d4 d5 hne
                clear hx
                simp only at d0 d1 d2 d3 d4 d5 hne
                by_cases hxo : xi = oi
                · have b0 : (xi == oi) = true := by simpa using hxo
                  have b1 : (xs == os) = false := by simpa using fun h => hne ⟨hxo, h⟩
                  clear hxo hne
                  go_wp2
                  go_roundw
                  case rel => exact ⟨j + 1, by omega, by go_num, BO.out.alloc _, HT.out.alloc _⟩
                  case measure => simp [intOf]; omega
                · have b0 : (xi == oi) = false := by simpa using hxo
                  clear hxo hne
                  go_wp2
                  go_roundw
                  case rel => exact ⟨j + 1, by omega, by go_num, BO.out.alloc _, HT.out.alloc _⟩
                  case measure => simp [intOf]; omega
              · go_wp2_with (first
                  | (go_at_call 13; refine (keep_yes _ p v l (HM.out.quiet HT.out).tab.1 oi os ⟨0, oc, oe, oh⟩ HKB.out).mono ?_; rintro e w3 ⟨rfl, ht3, hc3⟩; have bO3 := BO.out.touch hc3 (fun h => by rcases h with h | h; exact (Blk.ne_ (HM.out.quiet HT.out).tab.1.1 BO.out (by decide)) h.symm; exact own_blk_ne (HM.out.quiet HT.out).tab.1.2 BO.out (by decide) h); obtain ⟨p1, p2, p3⟩ := bO3.facts; have T3 := hide ht3; have C3 := hide hc3; have BO3 := hide bO3; have HO3 := hide (own_touch (HM.out.quiet HT.out).own hc3 (fp_op (HM.out.quiet HT.out))); clear ht3 hc3 bO3)
                  | (at_builtin; refine wpList_app _ rfl (.tmp 111) (.tmp 113) 22 rfl 31 i0 (.agg #[.int .i64 0, .int .u64 0, .int .u64 0, .int .i64 0, .int .u64 0, .int .i64 0]) 6 48 Try.underlying22 hi hz0 hz1 hz2 rfl (by decide) (.slice Ad dn.length cd) dn.length (opCells dn) rfl (HO3.out.alloc _) (some ⟨w3.heap.size, 0, none⟩) 1 1 (OpR.cells ⟨ok, oi, os, oc, oe, oh⟩) rfl ?s1 ?s2 ?s3 ?s4 ?s5 ?_))
                case s1 => exact Reads.new _ _ _ _ rfl
                case s2 => exact fun h => by cases h
                case s3 => exact List.all_eq_true.1 rfl
                case s4 => unfold maxLen; omega
                case s5 => omega
                intro v4 w4 hown hgrow hfr _
                have HN := hide (show onceAt n B w p v4 (.int .i64 ((k : Int) + 1)) w4 from by
                  exact ⟨k + 1, v, _, _, by omega, by go_num, by simp; omega, (HM.out.quiet HT.out).kept ⟨ok, oi, os, oc, oe, oh⟩ C3.out T3.out HKEEP.out hown hgrow hfr⟩)
                clear hown hgrow hfr
                go_wp2
                go_roundw
                case rel => exact HN.out
                case measure => simp [intOf]; omega
      · go_wp2_with (go_at_call 10; refine (alive_any _).mono ?_; rintro e w2 ⟨rfl, hc2⟩; have C2 := hide hc2; clear hc2)
        go_ret
        exact ⟨rfl, (HM.out.quiet C2.out).bel⟩

end Go.Proofs.Ytiakbccomgcncaa
