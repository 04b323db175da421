/- best.Select. -/
import Derived.Test.YtcencmjdhaejcaaTake
namespace Go.Proofs.Ytcencmjdhaejcaa
open Go.RowKit

theorem bestL_take (L : List MRow) (i : Nat) (hi : i < L.length) (k : Nat) : bestL (L.take (i + 1)) k = (ins (L.getD i MRow.zero) (bestL (L.take i) k)).take k := by
  have e : L.getD i MRow.zero = L[i] := by simp [List.getD, hi]
  rw [List.take_succ_eq_append_getElem hi, bestL_snoc, e]

set_option maxRecDepth 100000 in
set_option maxHeartbeats 1000000 in
theorem select_any (w : World) (A : Option Addr) (n c : Nat) (L : List MRow) (hL : L.length = n) (hR : Reads w 3 A n (mCells L)) (hn : n ≤ maxLen) (kk : Int) :
    Calls Try.prog 14 #[.slice A n c, .int .i64 kk] w fun e w' => ∃ g m, m = (bestL L (mostN kk)).length ∧
      e = .returned (.slice (some ⟨g, 0, none⟩) m m) ∧ w.heap.size ≤ g ∧ w'.ownsRow 0 23 3 (.slice (some ⟨g, 0, none⟩) m m) m (mCells (bestL L (mostN kk))) ∧ Touch (fun _ => False) w w' := by
  obtain ⟨p, hp⟩ : ∃ p, p = w.heap.size := ⟨_, rfl⟩
  obtain ⟨most, hmo⟩ : ∃ x, x = mostN kk := ⟨_, rfl⟩
  rw [← hmo]
  unfold maxLen at hn
  have HR := hide hR
  have HL := hide hL
  have HMO := hide hmo
  have HPP := hide hp
  clear hR hL
  go_enter Try.func14, Try.ntmps14
  go_wp2_with (go_at_call 16; refine (new_any kk w).mono ?_; rintro e w1 ⟨rfl, K1, T1⟩; rw [← hmo, ← hp] at K1; rw [← hp]; have HK1 := hide K1; have HT1 := hide T1; clear K1 T1 hmo hp)
  go_loopw [15] (fun i wr => ∃ k : Nat, k ≤ n ∧ i = .int .i64 k ∧ Hid (∃ vr, Kep wr p most vr (bestL (L.take k) most) ∧ Touch (fun _ => False) w wr ∧ ∀ g, pfp p vr g → w.heap.size ≤ g)) (fun i _ => n - (intOf i).toNat)
  case atStart =>
    refine ⟨0, Nat.zero_le _, rfl, hide ⟨.slice none 0 0, ?_, HT1.out, ?_⟩⟩
    · have e : bestL (L.take 0) most = [] := by simp [bestL, sortL]
      rw [e]
      exact HK1.out
    · rintro g (e | e)
      · rw [e, HPP.out]; exact Nat.le_refl _
      · simp [Value.ownBlock] at e
  case round =>
    obtain ⟨k, hk, rfl, HE⟩ := hrel
    obtain ⟨vr, K1, T1, F1⟩ := HE.out
    have HK := hide K1
    have HT := hide T1
    have HF := hide F1
    by_cases hkn : k < n
    · have hRr := HR.out.touch T1 (fun _ _ f => f)
      obtain ⟨g, off, rfl, hg, a0, a1, a2⟩ := reads_at hRr HL.out.symm k hkn
      obtain ⟨⟨xw, xn, xd⟩, hx⟩ : ∃ x, x = L.getD k MRow.zero := ⟨_, rfl⟩
      rw [← hx] at a0 a1 a2
      simp only at a0 a1 a2
      have HX := hide hx
      have n0 : (k : Int) < (n : Int) := by omega
      have n1 : (0 : Int) ≤ (k : Int) := by omega
      clear hRr K1 T1 F1 hx
      have n2 : k < n := hkn
      go_wp2_with (go_at_call 17; refine (add_any _ p most vr _ (HK.out.touch ((Touch.refl (fun _ => False) _).alloc _) (fun _ _ _ f => f)) ⟨xw, xn, xd⟩).mono ?_; rintro e w2 ⟨rfl, v2, K2, T2, F2⟩; have HK2 := hide K2; have HT2 := hide T2; have HF2 := hide F2; clear K2 T2 F2)
      go_roundw
      · refine ⟨k + 1, by omega, by simp, hide ⟨v2, ?_, ?_, ?_⟩⟩
        · rw [bestL_take L k (by rw [HL.out]; exact hkn), ← HX.out]
          exact HK2.out
        · refine (HT.out.alloc _).trans HT2.out ?_
          intro i hi hp
          have := HF.out i hp
          omega
        · rintro g' (e | e)
          · rw [e, HPP.out]; exact Nat.le_refl _
          · rcases HF2.out with q | ⟨g2, q, hq⟩
            · rw [q] at e; exact HF.out g' (.inr e)
            · rw [q] at e
              injection e with e
              have h1 := HT.out.size
              simp at hq
              omega
      · show n - (intOf (.int .i64 ((k : Int) + 1))).toNat < n - (intOf (.int .i64 (k : Int))).toNat
        simp [intOf]
        omega
    · have hkn' : k = n := by omega
      subst hkn'
      have e : L.take k = L := List.take_of_length_le (by rw [HL.out]; exact Nat.le_refl _)
      rw [e] at K1
      have HK2 := hide K1
      clear K1 T1 F1 e HK
      go_wp2_with (go_at_call 20; refine (take_any wr p most vr _ _ rfl HK2.out).mono ?_; rintro e w2 ⟨rfl, O2, v2, K2, T2, F2⟩; have HO2 := hide O2; have HT2 := hide T2; clear K2 T2 F2 O2)
      go_ret
      refine ⟨_, _, rfl, rfl, HT.out.size, HO2.out, HT.out.trans HT2.out ?_⟩
      intro i hi hp
      have := HF.out i hp
      omega

end Go.Proofs.Ytcencmjdhaejcaa
