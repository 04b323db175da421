/- abecedaryref12.Best, whatever k; abecedaryref12.Same. -/
import Derived.Test.YtcencmjdhaejcaaRefBestW
namespace Go.Proofs.Ytcencmjdhaejcaa
open Go.RowKit

theorem rbest_any (w : World) (A : Option Addr) (n c : Nat) (L : List MRow) (hL : L.length = n) (hR : Reads w 3 A n (mCells L)) (hn : n ≤ maxLen) (hW : ∀ r ∈ L, r.Wf) (kk : Int) :
    Calls Try.prog 15 #[.slice A n c, .int .i64 kk] w (RbPost w L (mostN kk)) := by
  have hm := mostN_int kk
  have hle := mostN_le kk
  by_cases h1 : kk < 0
  · exact rbest_neg w A n c L hL hR hn hW kk h1 _ (by omega)
  · by_cases h2 : 64 < kk
    · exact rbest_big w A n c L hL hR hn hW kk h2 _ (by omega)
    · have e : kk = (mostN kk : Int) := by omega
      have := rbest_mid w A n c L hL hR hn hW (mostN kk) hle
      rw [← e] at this
      exact this

theorem ne_cases {a b : MRow} (h : a ≠ b) : (¬ a.word.toList = b.word.toList) ∨ (a.word.toList = b.word.toList ∧ ¬ a.weight = b.weight) ∨ (a.word.toList = b.word.toList ∧ a.weight = b.weight ∧ ¬ a.dist = b.dist) := by
  by_cases e1 : a.word.toList = b.word.toList
  · by_cases e2 : a.weight = b.weight
    · by_cases e3 : a.dist = b.dist
      · exact absurd (MRow.ext' (toList_inj e1) e2 e3) h
      · exact .inr (.inr ⟨e1, e2, e3⟩)
    · exact .inr (.inl ⟨e1, e2⟩)
  · exact .inl e1

set_option maxRecDepth 100000 in
set_option maxHeartbeats 1000000 in
theorem same_yes (w : World) (A : Option Addr) (n c : Nat) (X : List MRow) (hX : X.length = n) (hA : Reads w 3 A n (mCells X)) (hn : n ≤ maxLen) (B : Option Addr) (d : Nat) (hB : Reads w 3 B n (mCells X)) :
    Calls Try.prog 13 #[.slice A n c, .slice B n d] w fun e w' => e = .returned (.bool true) ∧ Touch (fun _ => False) w w' := by
  unfold maxLen at hn
  have HA := hide hA
  have HB := hide hB
  have HX := hide hX
  clear hA hB hX
  go_enter Try.func13, Try.ntmps13
  go_wp2
  go_loopw [5] (fun i wr => ∃ k : Nat, k ≤ n ∧ i = .int .i64 k ∧ Hid (Touch (fun _ => False) w wr)) (fun i _ => n - (intOf i).toNat)
  case atStart => exact ⟨0, Nat.zero_le _, rfl, hide (Touch.refl _ _)⟩
  case round =>
    obtain ⟨k, hk, rfl, HT⟩ := hrel
    by_cases hkn : k < n
    · obtain ⟨g, o, hg, _, a0, a1, a2⟩ := reads_at (HA.out.touch HT.out (fun _ _ f => f)) HX.out.symm k hkn
      obtain ⟨g', o', hg', _, b0, b1, b2⟩ := reads_at (HB.out.touch HT.out (fun _ _ f => f)) HX.out.symm k hkn
      subst hg hg'
      obtain ⟨⟨xw, xn, xd⟩, hx⟩ : ∃ x, x = X.getD k MRow.zero := ⟨_, rfl⟩
      rw [← hx] at a0 a1 a2 b0 b1 b2
      simp only at a0 a1 a2 b0 b1 b2
      have k0 : (k : Int) < (n : Int) := by omega
      clear hx
      go_wp2
      go_quiet (fail)
      go_wp2
      go_roundw
      · exact ⟨k + 1, by omega, by simp, hide (HT.out.drewN _)⟩
      · show n - (intOf (.int .i64 ((k : Int) + 1))).toNat < n - (intOf (.int .i64 (k : Int))).toNat
        simp [intOf]
        omega
    · go_wp2
      go_ret
      exact ⟨rfl, HT.out⟩

end Go.Proofs.Ytcencmjdhaejcaa
