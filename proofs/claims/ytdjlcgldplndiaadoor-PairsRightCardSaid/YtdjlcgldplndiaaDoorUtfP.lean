/- A rune's writing, and the text that begins with it: plain laws, no program in sight. No condition. -/
import Derived.Test.YtdjlcgldplndiaaDoorUtfC
namespace Go.Proofs.YtdjlcgldplndiaaDoor

/-- A rune's bytes. -/
def writeU (r : Nat) : List UInt8 :=
  if r < 128 then [UInt8.ofNat r] else if r < 2048 then [UInt8.ofNat (192 + r / 64), UInt8.ofNat (128 + r % 64)]
  else if r < 65536 then [UInt8.ofNat (224 + r / 4096), UInt8.ofNat (128 + r / 64 % 64), UInt8.ofNat (128 + r % 64)]
  else [UInt8.ofNat (240 + r / 262144), UInt8.ofNat (128 + r / 4096 % 64), UInt8.ofNat (128 + r / 64 % 64), UInt8.ofNat (128 + r % 64)]
/-- The number that so many bytes would say. -/
def saidU (n : Nat) (bs : List UInt8) : Nat := match n, bs with
  | 1, b :: _ => b.toNat
  | 2, b :: c :: _ => b.toNat % 32 * 64 + c.toNat % 64
  | 3, b :: c :: d :: _ => (b.toNat % 16 * 64 + c.toNat % 64) * 64 + d.toNat % 64
  | 4, b :: c :: d :: e :: _ => ((b.toNat % 8 * 64 + c.toNat % 64) * 64 + d.toNat % 64) * 64 + e.toNat % 64
  | _, _ => 0
def Hit (n : Nat) (bs : List UInt8) : Prop := scal (saidU n bs) = true ∧ writeU (saidU n bs) = bs.take n

theorem u8_eq {x : Nat} (hx : x < 256) {b : UInt8} : UInt8.ofNat x = b ↔ x = b.toNat := by
  constructor
  · intro h; rw [← h, UInt8.toNat_ofNat']; omega
  · intro h; rw [h]; simp
theorem writeU1 {r : Nat} {b : UInt8} (hr : r < 1114112) : writeU r = [b] ↔ r < 128 ∧ r = b.toNat := by
  unfold writeU
  split
  · simp [u8_eq (show r < 256 by omega), *]
  · split
    · simp [*]
    · split <;> simp [*]
theorem writeU2 {r : Nat} {b c : UInt8} (hr : r < 1114112) : writeU r = [b, c] ↔ (128 ≤ r ∧ r < 2048) ∧ 192 + r / 64 = b.toNat ∧ 128 + r % 64 = c.toNat := by
  unfold writeU
  split
  · simp; omega
  · split
    · simp only [List.cons.injEq, and_true, u8_eq (show 192 + r / 64 < 256 by omega), u8_eq (show 128 + r % 64 < 256 by omega)]; omega
    · split <;> (simp; omega)
theorem writeU3 {r : Nat} {b c d : UInt8} (hr : r < 1114112) : writeU r = [b, c, d] ↔ (2048 ≤ r ∧ r < 65536) ∧ 224 + r / 4096 = b.toNat ∧ 128 + r / 64 % 64 = c.toNat ∧ 128 + r % 64 = d.toNat := by
  unfold writeU
  split
  · simp; omega
  · split
    · simp; omega
    · split
      · simp only [List.cons.injEq, and_true, u8_eq (show 224 + r / 4096 < 256 by omega), u8_eq (show 128 + r / 64 % 64 < 256 by omega), u8_eq (show 128 + r % 64 < 256 by omega)]; omega
      · simp; omega
theorem writeU4 {r : Nat} {b c d e : UInt8} (hr : r < 1114112) : writeU r = [b, c, d, e] ↔ 65536 ≤ r ∧ 240 + r / 262144 = b.toNat ∧ 128 + r / 4096 % 64 = c.toNat ∧ 128 + r / 64 % 64 = d.toNat ∧ 128 + r % 64 = e.toNat := by
  unfold writeU
  split
  · simp; omega
  · split
    · simp; omega
    · split
      · simp; omega
      · simp only [List.cons.injEq, and_true, u8_eq (show 240 + r / 262144 < 256 by omega), u8_eq (show 128 + r / 4096 % 64 < 256 by omega), u8_eq (show 128 + r / 64 % 64 < 256 by omega), u8_eq (show 128 + r % 64 < 256 by omega)]; omega
theorem scal_lt {r : Nat} (h : scal r = true) : r < 1114112 := by
  unfold scal at h
  simp at h
  omega

theorem seqU_tl {r0 k least r : Nat} {t : List UInt8} (hk : k ≤ t.length) (h : tlU r0 (t.take k) = some r) (hl : ¬ r < least) (hs : scal r = true) : seqU r0 k least t = (r, k + 1) := by
  unfold seqU
  rw [if_neg (by omega), h]
  simp only
  rw [if_neg hl, if_pos hs]

theorem utf1_hit {n : Nat} {bs : List UInt8} (h1 : 1 ≤ n) (h4 : n ≤ 4) (hl : n ≤ bs.length) (h : Hit n bs) : utf1 bs = (saidU n bs, n) := by
  obtain ⟨hs, hw⟩ := h
  have hr := scal_lt hs
  obtain rfl | rfl | rfl | rfl : n = 1 ∨ n = 2 ∨ n = 3 ∨ n = 4 := by omega
  · match bs, hl with
    | b :: t, _ =>
      simp only [saidU] at hs hw hr ⊢
      rw [List.take_succ_cons, List.take_zero, writeU1 hr] at hw
      rw [utf1, if_pos hw.1]
  · match bs, hl with
    | b :: c :: t, _ =>
      simp only [saidU] at hs hw hr ⊢
      rw [List.take_succ_cons, List.take_succ_cons, List.take_zero, writeU2 hr] at hw
      obtain ⟨⟨a1, a2⟩, a3, a4⟩ := hw
      rw [utf1, if_neg (by omega), if_pos (by omega)]
      exact seqU_tl (by simp) (by simp only [List.take_succ_cons, List.take_zero, tlU]; rw [if_pos (by omega)]) (by omega) hs
  · match bs, hl with
    | b :: c :: d :: t, _ =>
      simp only [saidU] at hs hw hr ⊢
      rw [List.take_succ_cons, List.take_succ_cons, List.take_succ_cons, List.take_zero, writeU3 hr] at hw
      obtain ⟨⟨a1, a2⟩, a3, a4, a5⟩ := hw
      rw [utf1, if_neg (by omega), if_neg (by omega), if_pos (by omega)]
      exact seqU_tl (by simp) (by simp only [List.take_succ_cons, List.take_zero, tlU]; rw [if_pos (by omega), if_pos (by omega)]) (by omega) hs
  · match bs, hl with
    | b :: c :: d :: e :: t, _ =>
      simp only [saidU] at hs hw hr ⊢
      rw [List.take_succ_cons, List.take_succ_cons, List.take_succ_cons, List.take_succ_cons, List.take_zero, writeU4 hr] at hw
      obtain ⟨a1, a3, a4, a5, a6⟩ := hw
      rw [utf1, if_neg (by omega), if_neg (by omega), if_neg (by omega), if_pos (by omega)]
      exact seqU_tl (by simp) (by simp only [List.take_succ_cons, List.take_zero, tlU]; rw [if_pos (by omega), if_pos (by omega), if_pos (by omega)]) (by omega) hs

theorem seqU_some {r0 k least : Nat} {t : List UInt8} (h : (seqU r0 k least t).2 ≠ 0) : k ≤ t.length ∧ ∃ r, tlU r0 (t.take k) = some r ∧ ¬ r < least ∧ scal r = true := by
  unfold seqU at h
  split at h
  · simp at h
  · refine ⟨by omega, ?_⟩
    split at h
    · simp at h
    · rename_i r hr
      refine ⟨r, hr, ?_⟩
      split at h
      · simp at h
      · rename_i h1
        split at h
        · rename_i h2; exact ⟨h1, h2⟩
        · simp at h
theorem tlU_cons {r q : Nat} {c : UInt8} {t : List UInt8} (h : tlU r (c :: t) = some q) : c.toNat / 64 = 2 ∧ tlU (r * 64 + c.toNat % 64) t = some q := by
  simp only [tlU] at h
  split at h
  · rename_i hc; exact ⟨hc, h⟩
  · cases h
theorem seqU_zero {r0 k least : Nat} {t : List UInt8} (h : (seqU r0 k least t).2 = 0) : seqU r0 k least t = (0, 0) := by
  unfold seqU at h ⊢
  split
  · rfl
  · rename_i h1
    rw [if_neg h1] at h
    split
    · rfl
    · rename_i r hr
      rw [hr] at h
      simp only at h
      split
      · rfl
      · rename_i h2
        rw [if_neg h2] at h
        split
        · rename_i h3; rw [if_pos h3] at h; simp at h
        · rfl
theorem utf1_zero {bs : List UInt8} (h : (utf1 bs).2 = 0) : utf1 bs = (0, 0) := by
  cases bs with
  | nil => rfl
  | cons b t =>
    simp only [utf1] at h ⊢
    split
    · rename_i h1; rw [if_pos h1] at h; simp at h
    · rename_i h1
      rw [if_neg h1] at h
      split
      · rename_i h2; rw [if_pos h2] at h; exact seqU_zero h
      · rename_i h2
        rw [if_neg h2] at h
        split
        · rename_i h3; rw [if_pos h3] at h; exact seqU_zero h
        · rename_i h3
          rw [if_neg h3] at h
          split
          · rename_i h4; rw [if_pos h4] at h; exact seqU_zero h
          · rfl
/-- What no number of bytes says begins nothing. -/
theorem utf1_miss {bs : List UInt8} (h : ∀ n, 1 ≤ n → n ≤ 4 → n ≤ bs.length → ¬ Hit n bs) : utf1 bs = (0, 0) := by
  refine Classical.byContradiction fun hne => ?_
  have h0 : (utf1 bs).2 ≠ 0 := fun e => hne (utf1_zero e)
  cases bs with
  | nil => exact h0 rfl
  | cons b t =>
    have hb := b.toNat_lt
    simp only [utf1] at h0
    by_cases h1 : b.toNat < 128
    · refine h 1 (by omega) (by omega) (by simp) ⟨?_, ?_⟩
      · simp only [saidU, scal]; simp; omega
      · simp only [saidU]; rw [List.take_succ_cons, List.take_zero, writeU1 (by omega)]; exact ⟨h1, rfl⟩
    · rw [if_neg h1] at h0
      by_cases h2 : b.toNat / 32 = 6
      · rw [if_pos h2] at h0
        obtain ⟨hk, r, ht, hl, hs⟩ := seqU_some h0
        match t, hk with
        | c :: t, _ =>
          rw [List.take_succ_cons, List.take_zero] at ht
          obtain ⟨c1, ht⟩ := tlU_cons ht
          simp only [tlU, Option.some.injEq] at ht
          subst ht
          refine h 2 (by omega) (by omega) (by simp) ⟨hs, ?_⟩
          simp only [saidU]
          rw [List.take_succ_cons, List.take_succ_cons, List.take_zero, writeU2 (by omega)]
          omega
      · rw [if_neg h2] at h0
        by_cases h3 : b.toNat / 16 = 14
        · rw [if_pos h3] at h0
          obtain ⟨hk, r, ht, hl, hs⟩ := seqU_some h0
          match t, hk with
          | c :: d :: t, _ =>
            rw [List.take_succ_cons, List.take_succ_cons, List.take_zero] at ht
            obtain ⟨c1, ht⟩ := tlU_cons ht
            obtain ⟨c2, ht⟩ := tlU_cons ht
            simp only [tlU, Option.some.injEq] at ht
            subst ht
            refine h 3 (by omega) (by omega) (by simp) ⟨hs, ?_⟩
            simp only [saidU]
            rw [List.take_succ_cons, List.take_succ_cons, List.take_succ_cons, List.take_zero, writeU3 (by omega)]
            omega
        · rw [if_neg h3] at h0
          by_cases h4 : b.toNat / 8 = 30
          · rw [if_pos h4] at h0
            obtain ⟨hk, r, ht, hl, hs⟩ := seqU_some h0
            match t, hk with
            | c :: d :: e :: t, _ =>
              rw [List.take_succ_cons, List.take_succ_cons, List.take_succ_cons, List.take_zero] at ht
              obtain ⟨c1, ht⟩ := tlU_cons ht
              obtain ⟨c2, ht⟩ := tlU_cons ht
              obtain ⟨c3, ht⟩ := tlU_cons ht
              simp only [tlU, Option.some.injEq] at ht
              subst ht
              refine h 4 (by omega) (by omega) (by simp) ⟨hs, ?_⟩
              simp only [saidU]
              rw [List.take_succ_cons, List.take_succ_cons, List.take_succ_cons, List.take_succ_cons, List.take_zero, writeU4 (scal_lt hs)]
              omega
          · rw [if_neg h4] at h0
            simp at h0

end Go.Proofs.YtdjlcgldplndiaaDoor
