/- PackAgain: the walk. Condition: there are no more than 2^42 bytes. -/
import Derived.Test.YtcmjohaohdgnjaaDoorWBackW
namespace Go.Proofs.YtcmjohaohdgnjaaDoor
open Go.RowKit

theorem bytes_str (w : World) (A : Option Addr) (n c : Nat) (bs : List UInt8) (hr : Reads w 1 A n (bs.map byteV)) : (convert 32 9 (.slice A n c)).run Tryd.prog w = .ok (.string ⟨bs.toArray⟩) w := conv_own w A n c bs hr
theorem packB_inv {base : Nat} {sts : List StP} (hr : RgtP sts (base : Int)) (hb : base ≤ 1048576) : ∀ (w : World), Lst w → ∀ (A : Option Addr) (n c : Nat) (Z : List SV), StsOk w A n Z → Z.map SV.p = sts →
    Calls Tryd.prog 15 #[.agg #[.int .i64 base, .slice A n c]] w fun e w' => ∃ (A' : Option Addr) (q c' : Nat), e = .returned (.tuple #[.slice A' q c', .int .i64 0]) ∧ ONx 5 1 w w' (.slice A' q c') q ((packB base sts).map byteV) := by
  intro w hL A n c Z hst hz
  have hn : n ≤ 98305 := by
    have := rgtP_few hr
    rw [← hz, List.length_map, hst.len] at this
    exact this
  have h := pack_any w hL base A n c Z hst (by rw [hz]; exact hr) hb hn (fun i hi => by
    have h1 := rgtP_form hr i (by rw [← hz, List.length_map, hst.len]; exact hi)
    rw [← hz, getD_map SV.p Z i svZero noSt (by rw [hst.len]; exact hi)] at h1
    exact h1)
  rw [hz] at h
  exact h

set_option maxRecDepth 100000 in
set_option maxHeartbeats 8000000 in
theorem wagain_walk (W : World) (hL : Lst W) (A : Option Addr) (n c : Nat) (bs : List UInt8) (hr : Reads W 1 A n (bs.map byteV)) (hl : bs.length = n) (hn : n ≤ 4398046511104) :
    Calls Tryd.prog 9 #[.slice A n c] W fun e W' => e = .returned (.bool true) ∧ Below W.heap.size W W' := by
  have HUP := hide (unpack_any W hL A n c bs hr hl hn)
  have HL := hide hL
  have HR := hide hr
  clear hL hr hl
  go_enter Tryd.func9, Tryd.ntmps9
  go_wp2_with fail
  refine HUP.out.mono ?_
  rintro e w1 ⟨T1, ⟨base, sts, hb, hf, hrg, hbs, A1, n1, c1, Z, rfl, hst, hz, _⟩ | ⟨_, rfl⟩⟩
  · obtain ⟨w2, hw2⟩ : ∃ x, x = w1.alloc (.cells #[.int .i64 base, .slice A1 n1 c1] 24) := ⟨_, rfl⟩
    have hT12 : Touch (fun _ => False) w1 w2 := by rw [hw2]; exact (Touch.refl _ _).alloc _
    have hbM : Blk w2 w1.heap.size 24 #[.int .i64 base, .slice A1 n1 c1] := by rw [hw2]; exact Blk.new _ _ _
    have hpk := packB_inv hrg hb w2 (Lst.touch HL.out (T1.then hT12)) A1 n1 c1 Z (hst.quiet hT12) hz
    rw [← hbs] at hpk
    have HT2 := hide (T1.then hT12)
    have HW2 := hide hw2
    have HPK := hide hpk
    obtain ⟨m0, m1, m2⟩ := hbM.facts
    clear hw2 hT12 hbM hpk hst hz hrg hbs T1 HUP hb hf
    go_wp2_with fail
    rw [← HW2.out]
    refine HPK.out.mono ?_
    rintro e w3 ⟨A3, q3, c3, rfl, hx3⟩
    have HT3 := hide (HT2.out.then hx3.touch)
    have HX3 := hide hx3.own
    clear hx3 HPK m0 m1 m2
    go_wp2_with fail
    refine (alive8_any w3 (Lst.touch HL.out HT3.out)).mono ?_
    rintro e w4 ⟨rfl, T4⟩
    have hc1 := bytes_str w4 A3 q3 c3 bs (Reads.of_own (own_touch HX3.out T4 (fun _ _ f => f)))
    have hc2 := bytes_str w4 A n c bs ((HR.out.touch HT3.out (fun _ _ f => f)).touch T4 (fun _ _ f => f))
    have HT4 := hide (HT3.out.then T4)
    clear T4
    go_wp2_with fail
    go_ret
    exact ⟨by simp, HT4.out.below (Nat.le_refl _) (fun _ _ f => f)⟩
  · obtain ⟨w2, hw2⟩ : ∃ x, x = w1.alloc (.cells #[.int .i64 0, .slice none 0 0] 24) := ⟨_, rfl⟩
    have hT2 : Touch (fun _ => False) W w2 := by rw [hw2]; exact T1.alloc _
    have HT2 := hide hT2
    have HW2 := hide hw2
    clear hw2 hT2 T1 HUP
    go_wp2_with fail
    rw [← HW2.out]
    refine (alive8_any w2 (Lst.touch HL.out HT2.out)).mono ?_
    rintro e w3 ⟨rfl, T3⟩
    have HT3 := hide (HT2.out.then T3)
    clear T3
    go_wp2_with fail
    go_ret
    exact ⟨by simp, HT3.out.below (Nat.le_refl _) (fun _ _ f => f)⟩

end Go.Proofs.YtcmjohaohdgnjaaDoor
