/- Which match is ahead: the program and the reference; are two lists the same? No condition. -/
import Derived.Test.YtcencmjdhaejcaaAhead
namespace Go.Proofs.Ytcencmjdhaejcaa
open Go.RowKit

def MRow.val (r : MRow) : Value := .agg #[.string r.word, .int .i64 r.weight, .int .i64 r.dist]
/-- Fields that the types allow. -/
structure MRow.Wf (r : MRow) : Prop where
  word : r.word.size ≤ maxLen
  w1 : -9223372036854775808 ≤ r.weight
  w2 : r.weight ≤ 9223372036854775807
  d1 : -9223372036854775808 ≤ r.dist
  d2 : r.dist ≤ 9223372036854775807

theorem less_any (a b : ByteArray) (w : World) :
    Calls Try.prog 21 #[.string a, .string b] w fun e w' => e = .returned (.bool (Op.bytesLess a.toList b.toList)) ∧ w = w' := by
  go_enter Try.func21, Try.ntmps21
  go_wp2
  go_ret
  exact ⟨rfl, rfl⟩

set_option maxRecDepth 100000 in
theorem pbetter_any (a b : MRow) (w : World) :
    Calls Try.prog 11 #[a.val, b.val] w fun e w' => e = .returned (.bool (better a b)) ∧ Touch (fun _ => False) w w' := by
  obtain ⟨aw, an, ad⟩ := a
  obtain ⟨bw, bn, bd⟩ := b
  unfold MRow.val better
  have b1 := (Blk.new w 23 #[.string aw, .int .i64 an, .int .i64 ad]).alloc (.cells #[.string bw, .int .i64 bn, .int .i64 bd] 23)
  have b2 := blk_new1 w (.cells #[.string aw, .int .i64 an, .int .i64 ad] 23) 23 #[.string bw, .int .i64 bn, .int .i64 bd]
  obtain ⟨k1, k2, k3⟩ := b1.facts
  obtain ⟨l1, l2, l3⟩ := b2.facts
  clear b1 b2
  by_cases h1 : ad = bd
  · have g1 : (ad != bd) = false := by simp [h1]
    by_cases h2 : an = bn
    · have g2 : (an != bn) = false := by simp [h2]
      have H1 := hide h1
      have H2 := hide h2
      clear h1 h2
      go_enter Try.func11, Try.ntmps11
      go_wp2_with (go_at_call 21; refine (less_any aw bw _).mono ?_; rintro e w2 ⟨rfl, rfl⟩)
      go_ret
      exact ⟨by simp, ((Touch.refl _ _).alloc _).alloc _⟩
    · have g2 : (an != bn) = true := by simp [h2]
      have H1 := hide h1
      have H2 := hide h2
      clear h1 h2
      go_enter Try.func11, Try.ntmps11
      go_wp2
      go_ret
      exact ⟨by simp, ((Touch.refl _ _).alloc _).alloc _⟩
  · have g1 : (ad != bd) = true := by simp [h1]
    have H1 := hide h1
    clear h1
    go_enter Try.func11, Try.ntmps11
    go_wp2
    go_ret
    exact ⟨by simp, ((Touch.refl _ _).alloc _).alloc _⟩

set_option maxRecDepth 100000 in
theorem rbetter_any (a b : MRow) (ha : a.Wf) (hb : b.Wf) (w : World) :
    Calls Try.prog 12 #[a.val, b.val] w fun e w' => e = .returned (.bool (better a b)) ∧ Touch (fun _ => False) w w' := by
  obtain ⟨aw, an, ad⟩ := a
  obtain ⟨bw, bn, bd⟩ := b
  unfold MRow.val better
  have b1 := (Blk.new w 23 #[.string aw, .int .i64 an, .int .i64 ad]).alloc (.cells #[.string bw, .int .i64 bn, .int .i64 bd] 23)
  have b2 := blk_new1 w (.cells #[.string aw, .int .i64 an, .int .i64 ad] 23) 23 #[.string bw, .int .i64 bn, .int .i64 bd]
  obtain ⟨k1, k2, k3⟩ := b1.facts
  obtain ⟨l1, l2, l3⟩ := b2.facts
  have HA := hide ha.word
  have HB := hide hb.word
  clear b1 b2 ha hb
  by_cases h1 : ad = bd
  · have g1 : (ad != bd) = false := by simp [h1]
    by_cases h2 : an = bn
    · have g2 : (an != bn) = false := by simp [h2]
      have H1 := hide h1
      have H2 := hide h2
      clear h1 h2
      go_enter Try.func12, Try.ntmps12
      go_wp2_with (go_at_call 22; refine (ahead_any aw bw HA.out HB.out _).mono ?_; rintro e w2 ⟨rfl, hc⟩; have HC := hide hc; clear hc)
      go_ret
      exact ⟨by simp, (((Touch.refl _ _).alloc _).alloc _).then HC.out⟩
    · have g2 : (an != bn) = true := by simp [h2]
      have H1 := hide h1
      have H2 := hide h2
      clear h1 h2
      go_enter Try.func12, Try.ntmps12
      go_wp2
      go_ret
      exact ⟨by simp, ((Touch.refl _ _).alloc _).alloc _⟩
  · have g1 : (ad != bd) = true := by simp [h1]
    have H1 := hide h1
    clear h1
    go_enter Try.func12, Try.ntmps12
    go_wp2
    go_ret
    exact ⟨by simp, ((Touch.refl _ _).alloc _).alloc _⟩

end Go.Proofs.Ytcencmjdhaejcaa
