/- PackWrites: the walk. Condition: the labels are numbers of 32 bits. -/
import Derived.Test.YtcmjohaohdgnjaaDoorRbB
import Derived.Test.YtcmjohaohdgnjaaDoorRrW
import Derived.Test.YtcmjohaohdgnjaaDoorAlive8
namespace Go.Proofs.YtcmjohaohdgnjaaDoor
open Go.RowKit
set_option linter.unusedSectionVars false
set_option linter.unusedSimpArgs false
set_option linter.unusedVariables false
variable [Inhabited BaseT]

theorem rgtp_few {sts : List StP} {base : Int} (h : RgtP sts base) : sts.length ≤ 98305 := by
  rcases h with ⟨rfl, _⟩ | h
  · simp
  · exact h.few
theorem rgtp_form {sts : List StP} {base : Int} (h : RgtP sts base) : ∀ i, i < sts.length → FormP i (sts.getD i noSt) := by
  rcases h with ⟨rfl, _⟩ | h
  · intro i hi
    simp at hi
  · exact h.form
theorem rgtp_base {sts : List StP} {base : Int} (h : RgtP sts base) : ∃ bn : Nat, base = (bn : Int) ∧ bn ≤ 1048576 := by
  rcases h with ⟨_, rfl⟩ | h
  · exact ⟨0, rfl, by omega⟩
  · have h1 := h.base1
    have h2 := h.base2
    exact ⟨base.toNat, by omega, by omega⟩
theorem od_form {w : World} {A : Option Addr} {n : Nat} {Y : List SV} {base : Int} (h : StsOd w A n Y) (hR : RgtP (Y.map SV.p) base) : n ≤ 98305 ∧ ∀ i, i < n → FormP i (Y.getD i svZero).p := by
  have hl := h.len
  refine ⟨?_, fun i hi => ?_⟩
  · have := rgtp_few hR
    rw [List.length_map, hl] at this
    exact this
  · have h1 := rgtp_form hR i (by rw [List.length_map, hl]; exact hi)
    have e : (Y.map SV.p).getD i noSt = (Y.getD i svZero).p := by simp [List.getD, hl, hi]
    rw [e] at h1
    exact h1

set_option maxRecDepth 100000 in
set_option maxHeartbeats 4000000 in
theorem pack_no (w : World) (hL : Lst w) (base : Int) (A : Option Addr) (n c : Nat) (Z : List ZV) (hst : StsZ w A n Z) (hnm : n ≤ maxLen) (hbs : bs ≤ w.heap.size) (hR : ¬ RgtZ (Z.map ZV.p) base) :
    Calls Tryd.prog 15 #[.agg #[.int .i64 base, .slice A n c]] w fun e w' => e = .returned (.tuple #[.slice none 0 0, .int .i64 80]) ∧ Touch (fun _ => False) w w' := by
  obtain ⟨w1, hw1⟩ : ∃ x, x = w.alloc (.cells #[.int .i64 base, .slice A n c] 24) := ⟨_, rfl⟩
  have hT1 : Touch (fun _ => False) w w1 := by rw [hw1]; exact (Touch.refl _ _).alloc _
  have hc := gright_any w1 (Lst.touch hL hT1) base A n c Z (hst.quiet hT1) hnm (by have := hT1.size; omega)
  have HT1 := hide hT1
  have HW1 := hide hw1
  have HC := hide hc
  have HR := hide hR
  clear hT1 hw1 hc hR hst hnm hbs hL
  go_enter Tryd.func15, Tryd.ntmps15
  go_wp2_with fail
  rw [← HW1.out]
  refine HC.out.mono ?_
  rintro e w2 ⟨⟨v, rfl, hv⟩, T2⟩
  have hvf : v = false := by
    cases v
    · rfl
    · exact absurd (hv.1 rfl) HR.out
  subst hvf
  have HT2 := hide (HT1.out.then T2)
  clear hv T2
  go_wp2_with fail
  go_ret2
  exact ⟨rfl, HT2.out⟩

set_option maxRecDepth 100000 in
set_option maxHeartbeats 4000000 in
theorem rpack_no (w : World) (base : Int) (A : Option Addr) (n c : Nat) (Z : List ZV) (hst : StsZ w A n Z) (hnm : n ≤ maxLen) (hlab : ∀ z ∈ Z, ∀ a ∈ z.arcs, I32 a.1) (hbs : bs ≤ w.heap.size) (hR : ¬ RgtZ (Z.map ZV.p) base) :
    Calls Tryd.prog 16 #[.agg #[.int .i64 base, .slice A n c]] w fun e w' => e = .returned (.tuple #[.slice none 0 0, .int .i64 80]) ∧ Touch (fun _ => False) w w' := by
  obtain ⟨w1, hw1⟩ : ∃ x, x = w.alloc (.cells #[.int .i64 base, .slice A n c] 24) := ⟨_, rfl⟩
  have hT1 : Touch (fun _ => False) w w1 := by rw [hw1]; exact (Touch.refl _ _).alloc _
  have hc := rright_any w1 base A n c Z (hst.quiet hT1) hnm hlab (by have := hT1.size; omega)
  have HT1 := hide hT1
  have HW1 := hide hw1
  have HC := hide hc
  have HR := hide hR
  clear hT1 hw1 hc hR hst hnm hbs hlab
  go_enter Tryd.func16, Tryd.ntmps16
  go_wp2_with fail
  rw [← HW1.out]
  refine HC.out.mono ?_
  rintro e w2 ⟨⟨v, rfl, hv⟩, T2⟩
  have hvf : v = false := by
    cases v
    · rfl
    · exact absurd (hv.1 rfl) HR.out
  subst hvf
  have HT2 := hide (HT1.out.then T2)
  clear hv T2
  go_wp2_with fail
  go_ret2
  exact ⟨rfl, HT2.out⟩

set_option maxRecDepth 100000 in
set_option maxHeartbeats 4000000 in
theorem rpack_yes (w : World) (bn : Nat) (A : Option Addr) (n c : Nat) (Z : List ZV) (Y : List SV) (hst : StsZ w A n Z) (hY : StsOd w A n Y) (hnm : n ≤ maxLen) (hlab : ∀ z ∈ Z, ∀ a ∈ z.arcs, I32 a.1) (hbs : bs ≤ w.heap.size) (hZ : RgtZ (Z.map ZV.p) (bn : Int)) (hR : RgtP (Y.map SV.p) (bn : Int)) (hbn : bn ≤ 1048576) :
    Calls Tryd.prog 16 #[.agg #[.int .i64 bn, .slice A n c]] w fun e w' => ∃ (A' : Option Addr) (q c' : Nat), e = .returned (.tuple #[.slice A' q c', .int .i64 0]) ∧ ONx 5 1 w w' (.slice A' q c') q ((packB bn (Y.map SV.p)).map byteV) := by
  obtain ⟨w1, hw1⟩ : ∃ x, x = w.alloc (.cells #[.int .i64 bn, .slice A n c] 24) := ⟨_, rfl⟩
  have hT1 : Touch (fun _ => False) w w1 := by rw [hw1]; exact (Touch.refl _ _).alloc _
  have hb1 : Blk w1 w.heap.size 24 #[.int .i64 bn, .slice A n c] := by rw [hw1]; exact Blk.new _ _ _
  have hc := rright_any w1 (bn : Int) A n c Z (hst.quiet hT1) hnm hlab (by have := hT1.size; omega)
  obtain ⟨hn, hf⟩ := od_form hY hR
  have hcb := fun wx (T : Touch (fun _ => False) w wx) => rbytes_any wx bn A n c Y (hY.quiet T) hbn hn hf (by have := T.size; omega)
  have HT1 := hide hT1
  have HB1 := hide hb1
  have HW1 := hide hw1
  have HC := hide hc
  have HCB := hide hcb
  have HZ := hide hZ
  clear hT1 hb1 hw1 hc hcb hst hY hnm hbs hlab hZ hR hbn hn hf
  go_enter Tryd.func16, Tryd.ntmps16
  go_wp2_with fail
  rw [← HW1.out]
  refine HC.out.mono ?_
  rintro e w2 ⟨⟨v, rfl, hv⟩, T2⟩
  have hvf : v = true := hv.2 HZ.out
  subst hvf
  obtain ⟨m0, m1, m2⟩ := (HB1.out.touch T2 (fun f => f)).facts
  have HT2 := hide (HT1.out.then T2)
  clear hv T2
  go_wp2_with fail
  refine (HCB.out w2 HT2.out).mono ?_
  rintro e w3 ⟨A3, q3, c3, rfl, hx3⟩
  have HX3 := hide (hx3.from HT2.out)
  clear hx3 m0 m1 m2
  go_wp2_with fail
  go_ret2
  exact ⟨A3, q3, c3, rfl, HX3.out⟩

set_option maxRecDepth 100000 in
set_option maxHeartbeats 4000000 in
theorem wpwrites_walk (W : World) (hL : Lst W) (base : Int) (A : Option Addr) (n c : Nat) (Z : List ZV) (hst : StsZ W A n Z) (hnm : n ≤ maxLen) (hlab : ∀ z ∈ Z, ∀ a ∈ z.arcs, I32 a.1) (hbs : bs ≤ W.heap.size) :
    Calls Tryd.prog 5 #[.agg #[.int .i64 base, .slice A n c]] W fun e W' => e = .returned (.bool true) ∧ Below W.heap.size W W' := by
  obtain ⟨w1, hw1⟩ : ∃ x, x = W.alloc (.cells #[.int .i64 base, .slice A n c] 24) := ⟨_, rfl⟩
  have hT1 : Touch (fun _ => False) W w1 := by rw [hw1]; exact (Touch.refl _ _).alloc _
  have hb1 : Blk w1 W.heap.size 24 #[.int .i64 base, .slice A n c] := by rw [hw1]; exact Blk.new _ _ _
  have HT1 := hide hT1
  have HB1 := hide hb1
  have HW1 := hide hw1
  have HL := hide hL
  have hbs1 : ∀ wx, Touch (fun _ => False) W wx → bs ≤ wx.heap.size := fun wx T => by have := T.size; omega
  clear hw1 hb1
  by_cases hbig : 300 < n
  · have y0 : (300 : Int) < (n : Int) := by omega
    clear hbig hst hlab hbs hbs1 hnm hT1 hL
    go_enter Tryd.func5, Tryd.ntmps5
    go_wp2_with fail
    rw [← HW1.out]
    refine (alive8_any w1 (Lst.touch HL.out HT1.out)).mono ?_
    rintro e w2 ⟨rfl, T2⟩
    have HT2 := hide (HT1.out.then T2)
    clear T2
    go_wp2_with fail
    go_ret
    exact ⟨rfl, HT2.out.below (Nat.le_refl _) (fun _ _ f => f)⟩
  have y0 : ¬ (300 : Int) < (n : Int) := by omega
  by_cases hR : RgtZ (Z.map ZV.p) base
  · obtain ⟨sts, hz, hRp⟩ := hR
    obtain ⟨bn, rfl, hbn⟩ := rgtp_base hRp
    obtain ⟨Y, hYp, hY⟩ := hst.ok hz
    have hRY : RgtP (Y.map SV.p) (bn : Int) := by rw [hYp]; exact hRp
    obtain ⟨hn, hf⟩ := od_form hY hRY
    have hc1 := packo_any w1 (Lst.touch hL hT1) bn A n c Y (hY.quiet hT1) hRY hbn hn hf (hbs1 _ hT1)
    have hc2 := fun wx (T : Touch (fun _ => False) W wx) => rpack_yes wx bn A n c Z Y (hst.quiet T) (hY.quiet T) hnm hlab (hbs1 _ T) ⟨sts, hz, hRp⟩ hRY hbn
    have HC1 := hide hc1
    have HC2 := hide hc2
    obtain ⟨bys, hby⟩ : ∃ b, b = packB bn (Y.map SV.p) := ⟨_, rfl⟩
    rw [← hby] at HC1 HC2
    clear hbig hst hlab hbs hbs1 hnm hT1 hL hc1 hc2 hz hRp hbn hYp hY hRY hn hf hby
    go_enter Tryd.func5, Tryd.ntmps5
    go_wp2_with fail
    rw [← HW1.out]
    refine HC1.out.mono ?_
    rintro e w2 ⟨A2, q2, c2, rfl, hx2⟩
    have HX2 := hide hx2.own
    have HT2 := hide (HT1.out.then hx2.touch)
    obtain ⟨m0, m1, m2⟩ := (HB1.out.touch hx2.touch (fun f => f)).facts
    clear hx2 HC1
    go_wp2_with fail
    refine (HC2.out w2 HT2.out).mono ?_
    rintro e w3 ⟨A3, q3, c3, rfl, hx3⟩
    have HX3 := hide hx3.own
    have HX23 := hide (own_touch HX2.out hx3.touch (fun _ _ f => f))
    have HT3 := hide (HT2.out.then hx3.touch)
    clear hx3 HC2 m0 m1 m2
    go_wp2_with fail
    refine (alive8_any w3 (Lst.touch HL.out HT3.out)).mono ?_
    rintro e w4 ⟨rfl, T4⟩
    have hv1 := conv_own w4 A2 q2 c2 bys (Reads.of_own (own_touch HX23.out T4 (fun _ _ f => f)))
    have hv2 := conv_own w4 A3 q3 c3 bys (Reads.of_own (own_touch HX3.out T4 (fun _ _ f => f)))
    have HT4 := hide (HT3.out.then T4)
    clear T4
    go_wp2_with fail
    go_ret
    exact ⟨by simp, HT4.out.below (Nat.le_refl _) (fun _ _ f => f)⟩
  · have hc1 := pack_no w1 (Lst.touch hL hT1) base A n c Z (hst.quiet hT1) hnm (hbs1 _ hT1) hR
    have hc2 := fun wx (T : Touch (fun _ => False) W wx) => rpack_no wx base A n c Z (hst.quiet T) hnm hlab (hbs1 _ T) hR
    have HC1 := hide hc1
    have HC2 := hide hc2
    clear hbig hst hlab hbs hbs1 hnm hT1 hL hc1 hc2 hR
    go_enter Tryd.func5, Tryd.ntmps5
    go_wp2_with fail
    rw [← HW1.out]
    refine HC1.out.mono ?_
    rintro e w2 ⟨rfl, T2⟩
    have HT2 := hide (HT1.out.then T2)
    obtain ⟨m0, m1, m2⟩ := (HB1.out.touch T2 (fun f => f)).facts
    clear T2 HC1
    go_wp2_with fail
    refine (HC2.out w2 HT2.out).mono ?_
    rintro e w3 ⟨rfl, T3⟩
    have HT3 := hide (HT2.out.then T3)
    clear T3 HC2 m0 m1 m2
    go_wp2_with fail
    refine (alive8_any w3 (Lst.touch HL.out HT3.out)).mono ?_
    rintro e w4 ⟨rfl, T4⟩
    have hv1 := conv_own w4 none 0 0 [] (Reads.nil _ _ _)
    have HT4 := hide (HT3.out.then T4)
    clear T4
    go_wp2_with fail
    go_ret
    exact ⟨by simp, HT4.out.below (Nat.le_refl _) (fun _ _ f => f)⟩

end Go.Proofs.YtcmjohaohdgnjaaDoor
