/- ref08.Right on any machine. Condition: the labels are numbers of 32 bits. -/
import Derived.Test.YtcmjohaohdgnjaaDoorRrP
import Derived.Test.YtcmjohaohdgnjaaDoorSame8
namespace Go.Proofs.YtcmjohaohdgnjaaDoor
open Go.RowKit
set_option linter.unusedSectionVars false
set_option linter.unusedSimpArgs false
set_option linter.unusedVariables false
variable [Inhabited BaseT]

set_option maxRecDepth 100000 in
set_option maxHeartbeats 8000000 in
theorem rright_any (w : World) (base : Int) (A : Option Addr) (n c : Nat) (Z : List ZV) (hst : StsZ w A n Z) (hnm : n ≤ maxLen) (hlab : ∀ z ∈ Z, ∀ a ∈ z.arcs, I32 a.1) (hbs : bs ≤ w.heap.size) :
    Calls Tryd.prog 13 #[.agg #[.int .i64 base, .slice A n c]] w fun e w' => BoolIff (RgtZ (Z.map ZV.p) base) e ∧ Touch (fun _ => False) w w' := by
  rw [← rrt_iff]
  obtain ⟨w1, hw1⟩ : ∃ x, x = w.alloc (.cells #[.int .i64 base, .slice A n c] 24) := ⟨_, rfl⟩
  have hT1 : Touch (fun _ => False) w w1 := by rw [hw1]; exact (Touch.refl _ _).alloc _
  have hb1 : Blk w1 w.heap.size 24 #[.int .i64 base, .slice A n c] := by rw [hw1]; exact Blk.new _ _ _
  have hcall := rpairs_any w1 base A n c Z (hst.quiet hT1) hnm hlab (by have := hT1.size; omega)
  have HT1 := hide hT1
  have HB1 := hide hb1
  have HW1 := hide hw1
  have HST := hide hst
  have HC := hide hcall
  clear hT1 hb1 hw1 hst hcall hlab hbs
  go_enter Tryd.func13, Tryd.ntmps13
  go_wp2_with fail
  rw [← HW1.out]
  refine HC.out.mono ?_
  rintro e w2 ⟨⟨L, A2, n2, c2, rfl, hR, hS, hn2, hsz⟩ | ⟨rfl, hno⟩, T2⟩
  · have hcb := rbuild_any w2 ⟨A2, n2, c2, L⟩ hS (fun r hr => by have := hsz r hr; omega) (by simp only; unfold maxLen; omega)
    simp only [SL.val] at hcb
    obtain ⟨m0, m1, m2⟩ := (HB1.out.touch T2 (fun f => f)).facts
    have HT2 := hide T2
    have HCB := hide hcb
    have HR := hide hR
    clear hcb T2 hR hS hsz
    go_wp2_with fail
    refine HCB.out.mono ?_
    rintro e w3 ⟨T3, ⟨hrf, k, hk, rfl⟩ | ⟨hrt, A3, n3, c3, Y, rfl, hY, hYp, _⟩⟩
    · have hk0 : (k == 0) = false := by simp; omega
      have hno : ¬ RRt (Z.map ZV.p) base := by
        rintro ⟨L', h1, h2, _⟩
        rw [rpz_inj h1 HR.out, hrf] at h2
        cases h2
      have HNO := hide hno
      have HT3 := hide T3
      clear hno T3 m0 m1 m2
      go_wp2_with fail
      go_ret
      exact ⟨.mk false ⟨(fun h => by cases h), fun h => absurd h HNO.out⟩, HT1.out.then (HT2.out.then (HT3.out.alloc _))⟩
    · obtain ⟨w4, hw4⟩ : ∃ x, x = w3.alloc (.cells #[.int .i64 (mach L).base, .slice A3 n3 c3] 24) := ⟨_, rfl⟩
      have hT4 : Touch (fun _ => False) w3 w4 := by rw [hw4]; exact (Touch.refl _ _).alloc _
      have hst4 : StsZ w4 A n Z := HST.out.quiet (HT1.out.then (HT2.out.then (T3.then hT4)))
      have hY4 : StsZ w4 A3 n3 (Y.map SV.zv) := stsZ_of (hY.od.quiet hT4)
      have hcs := samemz_any w4 base (mach L).base A n c Z A3 n3 c3 _ hst4 hY4 hnm
      have hiff : (base = (mach L).base ∧ Z.map ZV.p = (Y.map SV.zv).map ZV.p) ↔ RRt (Z.map ZV.p) base := by
        rw [zv_map, hYp]
        constructor
        · rintro ⟨h1, h2⟩
          exact ⟨L, HR.out, hrt, h1.symm, h2.symm⟩
        · rintro ⟨L', h1, h2, h3, h4⟩
          rw [rpz_inj h1 HR.out] at h3 h4
          exact ⟨h3.symm, h4.symm⟩
      rw [propext hiff] at hcs
      have hT3 : Touch (fun _ => False) w w3 := HT1.out.then (HT2.out.then T3)
      obtain ⟨m0, m1, m2⟩ := (HB1.out.touch (HT2.out.then T3) (fun f => f)).facts
      have HW4 := hide hw4
      have HCS := hide hcs
      have HT := hide (hT3.then hT4)
      clear hst4 hY4 hcs hiff hT3 hT4 hw4 hY hYp hrt T3
      obtain ⟨mb, hmb⟩ : ∃ b, b = (mach L).base := ⟨_, rfl⟩
      rw [← hmb] at HCS HW4 ⊢
      clear hmb
      go_wp2_with fail
      rw [← HW4.out]
      refine HCS.out.mono ?_
      rintro e w5 ⟨⟨v, rfl, hv⟩, T5⟩
      have HV := hide hv
      have HT5 := hide T5
      clear hv T5
      go_wp2_with fail
      go_ret
      exact ⟨.mk _ (by first | exact HV.out | (simpa using HV.out)), HT.out.then HT5.out⟩
  · have HNO := hide hno
    have HT2 := hide T2
    clear hno T2
    go_wp2_with fail
    go_ret
    exact ⟨.mk false ⟨(fun h => by cases h), (fun h => by obtain ⟨L, h1, _⟩ := h; exact absurd ⟨L, h1⟩ HNO.out)⟩, HT1.out.then HT2.out⟩

end Go.Proofs.YtcmjohaohdgnjaaDoor
