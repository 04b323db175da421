/- What (*walk.Walk).Under tells told's collector. Condition: it is a dictionary. -/
import Derived.Test.YtnakpadjlamdeaaDoorUndC
namespace Go.Proofs.YtnakpadjlamdeaaDoor
open Go.RowKit Go.Shelf

attribute [local go_sem] Oper.semAt_some

def begP (k : ByteArray) (p : PRow) : Bool := Lib.hasPrefix p.word.toList k.toList

theorem blk_row {w : World} {row : Option Nat} (hr : ∀ r, row = some r → ∃ o : Obj, w.heap[r]? = some o ∧ o.isCells = false) {g : Nat} {t : TypeId} (h : TyAt w g t) : some g ≠ row := by
  intro e
  obtain ⟨cs, _, h⟩ := h
  obtain ⟨o, ho, hc⟩ := hr g e.symm
  rw [h] at ho
  cases ho
  cases hc
theorem Col.row {w0 w w' : World} {lb mb : Nat} {A : Option Addr} {c : Nat} {T : List PRow} {mo : Nat} {row : Option Nat} (h : Col w0 w lb mb A c T mo) (hg : w.grownBy w' row) (hr : ∀ r, row = some r → w0.heap.size ≤ r ∧ ∃ o : Obj, w.heap[r]? = some o ∧ o.isCells = false) : Col w0 w' lb mb A c T mo := by
  have hr2 : ∀ r, row = some r → ∃ o : Obj, w.heap[r]? = some o ∧ o.isCells = false := fun r e => (hr r e).2
  have hT : Touch (fun k => row = some k) w w' := (Touch.refl _ _).grown hg (fun k e _ => e)
  exact ⟨h.l.grown hg (blk_row hr2 (blk_ty h.l)), own_touch h.own hT (fun g e1 e2 => blk_row hr2 (own_ty h.own e1) e2.symm), h.young, h.lb0, h.m.grown hg (blk_row hr2 (blk_ty h.m)), h.touch.grown hg (fun k e hk => by have := (hr k e).1; omega)⟩
theorem KpT.touch {S : Nat → Prop} {B0 : Nat} {w w' : World} (h : Touch S w w') (hS : ∀ g, S g → B0 ≤ g ∧ (TyAt w g 32 ∨ TyAt w g 22)) : KpT B0 w w' := by
  refine ⟨h.os, h.tape, h.output, h.size, fun g h1 h2 => h.block g h1 (fun s => by have := (hS g s).1; omega), fun g t cs fr e h1 h2 => h.block g (Array.getElem?_eq_some_iff.1 e).1 (fun s => ?_)⟩
  rcases (hS g s).2 with ⟨cs2, _, e2⟩ | ⟨cs2, _, e2⟩
  · rw [e] at e2
    cases e2
    exact h1 rfl
  · rw [e] at e2
    cases e2
    exact h2 rfl
theorem keeps_touch {S : Nat → Prop} {B : Nat} {w w' : World} (h : Touch S w w') (hS : ∀ g, S g → ∃ t, TyAt w g t) : KeepsFrom B w w' :=
  ⟨h.size, fun k o _ hk ho => (h.block k (Array.getElem?_eq_some_iff.1 hk).1 (fun s => by
    obtain ⟨t, cs, _, e⟩ := hS k s
    rw [e] at hk
    cases hk
    cases ho)).trans hk⟩
theorem kpT_b {B0 n : Nat} (hB : B0 ≤ n) (W : World) (l : Nat) (o o' : Obj) (hl : n ≤ l) (h : W.heap[l]? = some o) (hc : o.isCells = false) (_ : o.isWalk = false) : KpT B0 W (W.putObj l o') := by
  have hg := grownBy_putObj' W l o'
  refine ⟨hg.os, hg.tape, hg.output, hg.size, fun g h1 h2 => hg.block g h1 (fun e => by cases e; omega), fun g t cs fr e _ _ => hg.block g (Array.getElem?_eq_some_iff.1 e).1 (fun e2 => ?_)⟩
  cases e2
  rw [h] at e
  cases e
  cases hc
theorem yield_wide {m m' : Nat} {P : Program} {l : Nat} {args : Array Value} {W : World} {R : Ending → World → Prop} (h : YieldAt Fence.wide m P l args W R) : YieldAt Fence.wide m' P l args W R := by
  obtain ⟨fn, tmps, assign, body, h1, h2⟩ := h
  exact ⟨fn, tmps, assign, body, h1, round_wide m' h2⟩

theorem all_stops {w0 : World} (hL : Lst w0) {b : Nat} {L : List PRow} {n : Nat} {A : Option Addr} {c : Nat} {Z : List SV} {wA : Option Addr} {wc : Nat} (h : DWk w0 b L n A c Z wA wc) (hD : DictP L) (B : Nat) (hB : Blk w0 B 23 #[.pointer (some ⟨b, 0, none⟩)]) (B0 : Nat) (hB0 : 0 < B0) :
    SeqStopsK Fence.wide 8 Tryd.prog 46 #[.pointer (some ⟨B, 0, none⟩)] pEnc (KpT B0) (fun xs => xs = L) (fun pre => pre <+: L) L.length w0 := by
  intro l J Jx W hW hJ hJx hY h0
  refine callsIn_wide.2 ((all1_yield hL h hD B hB W l B0 hB0 J Jx (fun pre X Y hs ht => hJ pre X Y none hs (ht.grownBy_none none) (fun r e => by cases e)) (fun pre X Y hs ht => hJx pre X Y none hs (ht.grownBy_none none) (fun r e => by cases e)) (fun pre x W1 h1 h2 => yield_wide (hY pre x W1 h1 h2)) (KpT.of (Touch.of_below hW _)) h0).mono ?_)
  rintro e W' ⟨rfl, h1 | ⟨q, hq, h1⟩⟩
  · exact ⟨⟨_, rfl⟩, .inl ⟨_, rfl, h1⟩⟩
  · exact ⟨⟨_, rfl⟩, .inr ⟨q, hq, h1⟩⟩

set_option maxRecDepth 100000 in
set_option maxHeartbeats 4000000 in
theorem under1_any {w0 : World} (hL : Lst w0) {b : Nat} {L : List PRow} {n : Nat} {A : Option Addr} {c : Nat} {Z : List SV} {wA : Option Addr} {wc : Nat} (h : DWk w0 b L n A c Z wA wc) (hD : DictP L) (k : ByteArray) (B2 B3 : Nat) (hB2 : Blk w0 B2 23 #[.pointer (some ⟨b, 0, none⟩)]) (hB3 : Blk w0 B3 9 #[.string k]) (w : World) (lb mb mo : Nat) (hmo : mo ≤ 5000) (hmo0 : L.length < mo) (hC : Col w0 w lb mb none 0 [] mo) :
    Calls Tryd.prog 49 #[.func (.func 45) #[] #[.pointer (some ⟨lb, 0, none⟩), .pointer (some ⟨mb, 0, none⟩)], .pointer (some ⟨B2, 0, none⟩), .pointer (some ⟨B3, 0, none⟩)] w fun e w' => ∃ A' c', e = .returned (.tuple #[]) ∧ Col w0 w' lb mb A' c' (L.filter (begP k)) mo := by
  obtain ⟨x0, x1, x2⟩ := (hB2.touch hC.touch (fun f => f)).facts
  have HC := hide hC
  have HH := hide h
  have HL := hide hL
  have HB3 := hide hB3
  have HMO := hide hmo
  have HMO0 := hide hmo0
  clear h hB2 hC hL hB3
  refine (callsIn_wide (n := 9)).1 ?_
  refine callsIn_of_wp_marks Tryd.func49 rfl trivial ?_ rfl
  simp only [Tryd.ntmps49, List.size_toArray, List.length_cons, List.length_nil, Nat.reduceAdd, Nat.reduceSub, Array.replicate_succ, Array.replicate_zero, List.push_toArray, List.append_toArray, List.nil_append, List.cons_append]
  gi_wp2
  refine ⟨trivial, (callsIn_wide (n := 8).2 (all_any _ b)).mono ?_⟩
  rintro e w2 ⟨B, rfl, hB, T2⟩
  have hyb := (Blk.new w 87 #[.func (.func 45) #[] #[.pointer (some ⟨lb, 0, none⟩), .pointer (some ⟨mb, 0, none⟩)]]).touch T2 (fun f => f)
  have hC2 := HC.out.quiet (((Touch.refl _ _).alloc _).then T2)
  have hst := all_stops (Lst.touch HL.out hC2.touch) (HH.out.quiet hC2.touch) hD B hB w0.heap.size HL.out.1
  have hb3 := HB3.out.touch hC2.touch (fun f => f)
  have hpos : w0.heap.size ≤ w2.heap.size := hC2.touch.size
  have hyw : w0.heap.size ≤ w.heap.size := HC.out.touch.size
  obtain ⟨yb, hyy⟩ : ∃ x, x = w.heap.size := ⟨_, rfl⟩
  rw [← hyy] at hyb hyw
  clear T2 hD
  gi_wp2
  rw [← hyy]
  clear hyy HC HH
  refine wpIn_rangeFunc_ownH rfl (by decide) (gf := 46) (lb := #[.pointer (some ⟨B, 0, none⟩)]) rfl trivial (enters_of Tryd.func46 (by kernel_rfl) rfl)
    hst (fun h k => KpT.trans h k) (kpT_b hpos) (Below.refl _ _) (fun _ => rfl)
    (fun pre W => ∃ A c, Col w0 W lb mb A c (pre.filter (begP k)) mo ∧ Blk W yb 87 #[.func (.func 45) #[] #[.pointer (some ⟨lb, 0, none⟩), .pointer (some ⟨mb, 0, none⟩)]])
    (fun _ _ _ => False)
    (fun pre X Y row hs hg hr => by
      obtain ⟨A, c, h1, h2⟩ := hs
      exact ⟨A, c, h1.row hg (fun r e => ⟨Nat.le_trans hpos (hr r e).1, (hr r e).2⟩), h2.grown hg (blk_row (fun r e => (hr r e).2) (blk_ty h2))⟩)
    (fun _ _ _ _ _ hs _ _ => hs)
    ⟨none, 0, hC2, hyb⟩
    (fun x a' W => ∃ Bx, Blk W Bx 32 #[.string x.word, .int .i64 x.weight] ∧ a' = { tmps := #[.func (.func 45) #[] #[.pointer (some ⟨lb, 0, none⟩), .pointer (some ⟨mb, 0, none⟩)], .pointer (some ⟨B2, 0, none⟩), .pointer (some ⟨B3, 0, none⟩), .pointer (some ⟨yb, 0, none⟩), .pointer (some ⟨Bx, 0, none⟩), .pointer (some ⟨b, 0, none⟩), .func (.func 46) #[] #[.pointer (some ⟨B, 0, none⟩)], .agg #[.string x.word, .int .i64 x.weight], undef, undef, undef, undef, undef, undef, undef, undef, undef, undef], defers := [] })
    (fun x a' _ X Y row hs hg hr => by
      obtain ⟨Bx, e1, e2⟩ := hs
      exact ⟨Bx, e1.grown hg (blk_row (fun r e => (hr r e).2) (blk_ty e1)), e2⟩)
    ?assign ?body ?done ?stop
  case assign =>
    rintro l pre ⟨xw, xn⟩ W K ⟨A2, c2, h1, h2⟩ hK
    simp only [pEnc]
    gi_wp2
    exact hK _ _ ((KeepsOthers.alloc _ _).from _) (KpT.of ((Touch.refl _ _).alloc _)) ⟨A2, c2, h1.quiet ((Touch.refl _ _).alloc _), h2.alloc _⟩ ⟨W.heap.size, Blk.new _ _ _, rfl⟩
  case body =>
    rintro l pre ⟨xw, xn⟩ a' W _ _ ⟨A2, c2, h1, h2⟩ ⟨Bx, hbx, rfl⟩ hlt
    obtain ⟨p0, p1, p2⟩ := hbx.facts
    obtain ⟨q0, q1, q2⟩ := (HB3.out.touch h1.touch (fun f => f)).facts
    have hpx := prefix_any W xw k
    have hlen : (pre.filter (begP k)).length + 1 < mo := by
      have h1 := List.length_filter_le (begP k) pre
      have h2 := HMO0.out
      omega
    have HC := hide h1
    have HY2 := hide h2
    have HBX := hide hbx
    have HPX := hide (CallsIn.inRound l ((callsIn_wide (n := 6)).2 hpx))
    have HLEN := hide hlen
    clear h1 h2 hbx hpx hlt hlen
    gi_wp2
    refine ⟨trivial, HPX.out.mono ?_⟩
    rintro e W2 ⟨rfl, T2⟩
    have HC2 := hide (HC.out.quiet T2)
    have HY3 := hide (HY2.out.touch T2 (fun f => f))
    have HBX2 := hide (HBX.out.touch T2 (fun f => f))
    have HT2 := hide T2
    obtain ⟨p0, p1, p2⟩ := HBX2.out.facts
    obtain ⟨y0, y1, y2⟩ := HY3.out.facts
    clear T2 HPX
    by_cases hp : Lib.hasPrefix xw.toList k.toList = true
    · rw [hp]
      have hf : (pre ++ [(⟨xw, xn⟩ : PRow)]).filter (begP k) = pre.filter (begP k) ++ [⟨xw, xn⟩] := by
        rw [List.filter_append]
        congr 1
        simp [begP, hp]
      have HF := hide hf
      have hyi := yield_any w0 W2 lb mb A2 c2 (pre.filter (begP k)) mo HC2.out (by have := HLEN.out; have := HMO.out; omega) ⟨xw, xn⟩
      rw [decide_eq_true HLEN.out] at hyi
      have HYI := hide (CallsIn.inRound l ((callsIn_wide (n := 6)).2 hyi))
      clear hp hf hyi
      gi_wp2
      refine ⟨trivial, HYI.out.mono ?_⟩
      rintro e W3 ⟨A3, c3, rfl, hC3, T3⟩
      have HC3 := hide hC3
      have HT3 := hide T3
      clear hC3 T3 HYI
      gi_wp2
      have hS : ∀ g, (g = lb ∨ (Value.slice A2 (pre.filter (begP k)).length c2).ownBlock = some g) → w0.heap.size ≤ g ∧ (TyAt W2 g 32 ∨ TyAt W2 g 22) := by
        rintro g (rfl | e)
        · exact ⟨HC2.out.lb0, .inr (blk_ty HC2.out.l)⟩
        · exact ⟨HC2.out.young g e, .inl (own_ty HC2.out.own e)⟩
      refine ⟨(keeps_touch HT2.out (fun g f => f.elim)).trans (keeps_touch HT3.out (fun g e => (hS g e).2.elim (fun h => ⟨_, h⟩) (fun h => ⟨_, h⟩))), (KpT.of HT2.out).trans (KpT.touch HT3.out hS), A3, c3, by rw [HF.out]; exact HC3.out, HY3.out.touch HT3.out ?_⟩
      rintro (e | e)
      · exact (HY3.out.ne_ HC2.out.l (by decide)) e
      · exact (own_ty HC2.out.own e).ne (blk_ty HY3.out) (by decide) rfl
    · have hp2 : Lib.hasPrefix xw.toList k.toList = false := by simpa using hp
      rw [hp2]
      have hf : (pre ++ [(⟨xw, xn⟩ : PRow)]).filter (begP k) = pre.filter (begP k) := by
        rw [List.filter_append]
        simp [begP, hp2]
      have HF := hide hf
      clear hp hp2 hf
      gi_wp2
      refine ⟨fun _ h => (by cases h), ?_⟩
      rename_i Q3 K1 a1 K0 a0 xx hhh ww heqq
      clear heqq xx hhh ww
      refine a0 _ _ ?_
      clear a0 K0
      gi_wp2
      exact ⟨keeps_touch HT2.out (fun g f => f.elim), KpT.of HT2.out, A2, c2, by rw [HF.out]; exact HC2.out, HY3.out⟩
  case done =>
    rintro D ys W hD rfl ⟨A2, c2, h1, h2⟩ hK
    gi_wp2
    refine ⟨by simp, .inl ⟨_, _, rfl, run_takeDeferred hK, ?_⟩⟩
    exact ⟨.tuple #[], by simp [results, Tryd.f49, go_sem], A2, c2, rfl, h1.row (grownBy_putObj' W D _) (fun r e => by cases e; exact ⟨Nat.le_trans hpos hD, _, hK, rfl⟩)⟩
  case stop =>
    rintro D c pre W _ _ hf
    exact hf.elim

end Go.Proofs.YtnakpadjlamdeaaDoor
