/- codec.number. No condition. codec.Reader: a number read. No condition. -/
import Derived.Test.YtcmjohaohdgnjaaDoorParP
import Derived.Laws.Bits64b
import Derived.Laws.Cover3
namespace Go.Proofs.YtcmjohaohdgnjaaDoor
open Go.RowKit

theorem u64_in (x : Nat) (h : x < 18446744073709551616) : IntKind.u64.wrap (x : Int) = (x : Int) := by rw [IntKind.wrap_u64]; omega
theorem and127 (b : UInt8) : bits .and .u8 (b.toNat : Int) 127 = ((b.toNat % 128 : Nat) : Int) := by
  have h := bits_mask .u8 8 (by decide) (fun n h0 h1 => wraps_u8 n h0 h1) 7 (by decide) (b.toNat : Int) (by omega) (by have := b.toNat_lt; omega)
  have e : (2 : Int) ^ 7 - 1 = 127 := by decide
  rw [e] at h
  rw [h]
  omega
theorem p128 (k : Nat) : (2 : Nat) ^ (7 * k) = 128 ^ k := by rw [Nat.pow_mul]
theorem or_num (acc x k : Nat) (hk : k ≤ 9) (ha : acc < 128 ^ k) (hx : x * 128 ^ k < 18446744073709551616) : bits .or .u64 (acc : Int) ((x * 128 ^ k : Nat) : Int) = ((acc + x * 128 ^ k : Nat) : Int) := by
  have h9 : 128 ^ k ≤ 128 ^ 9 := Nat.pow_le_pow_right (by decide) hk
  have e9 : (128 : Nat) ^ 9 = 9223372036854775808 := by decide
  rw [bits_or_u64_nat acc _ (by omega) hx]
  congr 1
  rw [Nat.or_comm, Nat.mul_comm x, ← p128, ← Nat.two_pow_add_eq_or_of_lt (by rw [p128]; exact ha), Nat.add_comm]
theorem byte_rd {w : World} {A : Option Addr} {n : Nat} {bs : List UInt8} (h : Reads w 1 A n (bs.map byteV)) (hl : bs.length = n) (j : Nat) (hj : j < n) :
    ∃ g off, A = some ⟨g, off, none⟩ ∧ g < w.heap.size ∧ w.cell? ⟨g, off + j, none⟩ = some (.int .u8 ((bs.getD j 0).toNat : Int)) := by
  obtain ⟨g, off, hA, hg, hc⟩ := h.2 (by omega)
  refine ⟨g, off, hA, hg, hc j _ ?_⟩
  simp [List.getD, byteV, show j < bs.length by omega]
/-- What codec.number says of bytes. -/
def NumV (bs : List UInt8) (e : Ending) : Prop := (∃ (v k : Nat) (t : List UInt8), numR bs = some (v, t) ∧ t = bs.drop k ∧ 0 < k ∧ k ≤ bs.length ∧ e = .returned (.tuple #[.int .u64 v, .int .i64 k, .int .i64 0])) ∨
  (numR bs = none ∧ ∃ c : Int, 20 ≤ c ∧ e = .returned (.tuple #[.int .u64 0, .int .i64 0, .int .i64 c]))

set_option maxRecDepth 100000 in
set_option maxHeartbeats 4000000 in
theorem number_any (w : World) (A : Option Addr) (n c : Nat) (bs : List UInt8) (hr : Reads w 1 A n (bs.map byteV)) (hl : bs.length = n) (hm : n ≤ maxLen) :
    Calls Tryd.prog 55 #[.slice A n c] w fun e w' => NumV bs e ∧ w' = w := by
  unfold maxLen at hm
  have HR := hide hr
  have HL := hide hl
  clear hr hl
  go_enter Tryd.func55, Tryd.ntmps55
  go_wp2_with fail
  go_loop [5, 10] (fun nv iv => ∃ acc i : Nat, nv = .int .u64 acc ∧ iv = .int .i64 i ∧ i ≤ n ∧ i ≤ 9 ∧ Hid (acc < 128 ^ i ∧ numR bs = numG i acc (bs.drop i))) (fun _ iv => n - (intOf iv).toNat)
  case atStart => exact ⟨0, 0, rfl, rfl, Nat.zero_le _, Nat.zero_le _, hide ⟨by decide, rfl⟩⟩
  case round =>
    obtain ⟨acc, i, rfl, rfl, hi, hi9, HN⟩ := hrel
    by_cases hin : i < n
    · obtain ⟨g, o, hA, _, b0⟩ := byte_rd HR.out HL.out i hin
      subst hA
      have hdr : bs.drop i = bs.getD i 0 :: bs.drop (i + 1) := by
        have h1 : i < bs.length := by rw [HL.out]; exact hin
        rw [List.drop_eq_getElem_cons h1]
        simp [List.getD, h1]
      obtain ⟨b, hb⟩ : ∃ b, bs.getD i 0 = b := ⟨_, rfl⟩
      rw [hb] at b0 hdr
      have hb255 := b.toNat_lt
      have f1 := and127 b
      have hstep : numR bs = if i = 9 ∧ 1 < b.toNat then none else if 128 ≤ b.toNat then numG (i + 1) (acc + (b.toNat - 128) * 128 ^ i) (bs.drop (i + 1)) else if b.toNat = 0 ∧ 0 < i then none else some (acc + b.toNat * 128 ^ i, bs.drop (i + 1)) := by
        rw [HN.out.2, hdr]
        rfl
      have HA := hide HN.out.1
      obtain ⟨bn, hbn⟩ : ∃ m, b.toNat = m := ⟨_, rfl⟩
      rw [hbn] at hstep b0 f1 hb255
      clear hdr hb hbn HN
      have hbig : ¬ (i = 9 ∧ 1 < bn) → bn % 128 * 128 ^ i < 18446744073709551616 := by
        intro h
        have e9 : (128 : Nat) ^ 9 = 9223372036854775808 := by decide
        by_cases h9 : i = 9
        · subst h9
          rw [e9]
          omega
        · have h1 : bn % 128 * 128 ^ i < 128 * 128 ^ i := Nat.mul_lt_mul_of_pos_right (by omega) (Nat.pow_pos (by decide))
          have h2 : 128 * 128 ^ i = 128 ^ (i + 1) := by rw [Nat.pow_succ, Nat.mul_comm]
          have h3 : 128 ^ (i + 1) ≤ 128 ^ 9 := Nat.pow_le_pow_right (by decide) (by omega)
          omega
      have y0 : (i : Int) < (n : Int) := by omega
      have y8 : (0 : Int) ≤ (i : Int) := by omega
      have y9 : (i : Int) ≤ 9 := by omega
      have HIN := hide hin
      have HI9 := hide hi9
      by_cases h9 : i = 9 ∧ 1 < bn
      · rw [if_pos h9] at hstep
        obtain ⟨h9a, h9b⟩ := h9
        have q9 : ((i : Int) == 9) = true := by simp; omega
        have y1 : (1 : Int) < (bn : Int) := by omega
        have HS := hide hstep
        clear hstep hbig h9b h9a f1 hb255 hin
        go_wp2_with fail
        refine bodyPost_ret (v := .tuple #[.int .u64 0, .int .i64 0, .int .i64 21]) (by simp [results, Tryd.results55, go_sem]) rfl ⟨.inr ⟨HS.out, 21, by decide, rfl⟩, rfl⟩
      · rw [if_neg h9] at hstep
        have hbg := hbig h9
        have s1 := or_num acc (bn % 128) i hi9 HA.out hbg
        have hacc : acc + bn % 128 * 128 ^ i < 128 ^ (i + 1) := by
          have h1 : bn % 128 * 128 ^ i ≤ 127 * 128 ^ i := Nat.mul_le_mul_right _ (by omega)
          have h2 := HA.out
          rw [Nat.pow_succ]
          omega
        have f3 : IntKind.u64.wrap (((bn % 128 : Nat) : Int) * 2 ^ (7 * i)) = ((bn % 128 * 128 ^ i : Nat) : Int) := by
          have e : ((bn % 128 : Nat) : Int) * 2 ^ (7 * i) = ((bn % 128 * 128 ^ i : Nat) : Int) := by rw [← p128]; push_cast; rfl
          rw [e, u64_in _ hbg]
        have f2 : IntKind.u64.wrap ((bn % 128 : Nat) : Int) = ((bn % 128 : Nat) : Int) := u64_in _ (by omega)
        have hx1 : 128 ≤ bn → (bn - 128) * 128 ^ i = bn % 128 * 128 ^ i := fun h => by rw [show bn % 128 = bn - 128 by omega]
        have hx2 : ¬ 128 ≤ bn → bn * 128 ^ i = bn % 128 * 128 ^ i := fun h => by rw [show bn % 128 = bn by omega]
        obtain ⟨x, hx⟩ : ∃ x, bn % 128 * 128 ^ i = x := ⟨_, rfl⟩
        obtain ⟨m, hmm⟩ : ∃ m, bn % 128 = m := ⟨_, rfl⟩
        rw [hx] at s1 f3 hx1 hx2 hacc
        rw [hmm] at f1 f2 f3
        obtain ⟨ac, hac⟩ : ∃ y, acc + x = y := ⟨_, rfl⟩
        rw [hac] at s1 hacc
        have HAC := hide hacc
        have h91 : i = 9 → bn ≤ 1 := by omega
        have y1 : i = 9 → ¬ (1 : Int) < (bn : Int) := by omega
        have HA2 := hide hac
        clear hbig hbg hacc hx hmm hac HA
        by_cases hb8 : 128 ≤ bn
        · rw [if_pos hb8, hx1 hb8, HA2.out] at hstep
          have y1 : (128 : Int) ≤ (bn : Int) := by omega
          have q9 : ((i : Int) == 9) = false := by simp; omega
          have hi8 : i ≤ 8 := by omega
          have HI8 := hide hi8
          have HS := hide hstep
          clear hstep hx1 hx2 h91 h9 hb8 hb255 hi8 hi hi9 hin
          go_wp2_with fail
          go_round
          case rel => exact ⟨ac, i + 1, rfl, by simp, by have := HIN.out; omega, by have := HI8.out; omega, hide ⟨HAC.out, HS.out⟩⟩
          case measure =>
            have := HIN.out
            simp only [intOf]
            omega
        · rw [if_neg hb8, hx2 hb8, HA2.out] at hstep
          have y2 : ¬ (128 : Int) ≤ (bn : Int) := by omega
          by_cases hz : bn = 0 ∧ 0 < i
          · rw [if_pos hz] at hstep
            obtain ⟨hz0, hzi⟩ := hz
            have z0 : ((bn : Int) == 0) = true := by simp; omega
            have z1 : (0 : Int) < (i : Int) := by omega
            have HS := hide hstep
            by_cases h9i : i = 9
            · have q9 : ((i : Int) == 9) = true := by simp; omega
              have q1 := y1 h9i
              clear hstep hx1 hx2 h91 h9 hb8 hb255 hi hi9 hin hz0 hzi y1 h9i
              go_wp2_with fail
              refine bodyPost_ret (v := .tuple #[.int .u64 0, .int .i64 0, .int .i64 21]) (by simp [results, Tryd.results55, go_sem]) rfl ⟨.inr ⟨HS.out, 21, by decide, rfl⟩, rfl⟩
            · have q9 : ((i : Int) == 9) = false := by simp; omega
              clear hstep hx1 hx2 h91 h9 hb8 hb255 hi hi9 hin hz0 hzi y1 h9i
              go_wp2_with fail
              refine bodyPost_ret (v := .tuple #[.int .u64 0, .int .i64 0, .int .i64 21]) (by simp [results, Tryd.results55, go_sem]) rfl ⟨.inr ⟨HS.out, 21, by decide, rfl⟩, rfl⟩
          · rw [if_neg hz] at hstep
            have HS := hide hstep
            have HL2 := HL.out
            have hok : ∃ (v k : Nat) (t : List UInt8), numR bs = some (v, t) ∧ t = bs.drop k ∧ 0 < k ∧ k ≤ bs.length ∧ Ending.returned (.tuple #[.int .u64 ac, .int .i64 ((i : Int) + 1), .int .i64 0]) = .returned (.tuple #[.int .u64 v, .int .i64 k, .int .i64 0]) :=
              ⟨ac, i + 1, _, hstep, rfl, by omega, by omega, by simp⟩
            have HOK := hide hok
            clear HL2 hok
            by_cases hb0 : bn = 0
            · have z0 : ((bn : Int) == 0) = true := by simp; omega
              have z1 : ¬ (0 : Int) < (i : Int) := by omega
              have q9 : ((i : Int) == 9) = false := by simp; omega
              clear hstep hx1 hx2 h91 h9 hb8 hb255 hi hi9 hin hz y1 hb0
              go_wp2_with fail
              refine bodyPost_ret (v := .tuple #[.int .u64 ac, .int .i64 ((i : Int) + 1), .int .i64 0]) (by simp [results, Tryd.results55, go_sem]) rfl ⟨.inl HOK.out, rfl⟩
            · have z0 : ((bn : Int) == 0) = false := by simp; omega
              by_cases h9i : i = 9
              · have q9 : ((i : Int) == 9) = true := by simp; omega
                have q1 := y1 h9i
                clear hstep hx1 hx2 h91 h9 hb8 hb255 hi hi9 hin hz y1 h9i hb0
                go_wp2_with fail
                refine bodyPost_ret (v := .tuple #[.int .u64 ac, .int .i64 ((i : Int) + 1), .int .i64 0]) (by simp [results, Tryd.results55, go_sem]) rfl ⟨.inl HOK.out, rfl⟩
              · have q9 : ((i : Int) == 9) = false := by simp; omega
                clear hstep hx1 hx2 h91 h9 hb8 hb255 hi hi9 hin hz y1 h9i hb0
                go_wp2_with fail
                refine bodyPost_ret (v := .tuple #[.int .u64 ac, .int .i64 ((i : Int) + 1), .int .i64 0]) (by simp [results, Tryd.results55, go_sem]) rfl ⟨.inl HOK.out, rfl⟩
    · have hie : i = n := by omega
      have y0 : ¬ (i : Int) < (n : Int) := by omega
      have hno : numR bs = none := by
        rw [HN.out.2, List.drop_of_length_le (by rw [HL.out]; omega)]
        rfl
      have HNO := hide hno
      clear hno hie hin hi
      go_wp2_with fail
      refine bodyPost_ret (v := .tuple #[.int .u64 0, .int .i64 0, .int .i64 20]) (by simp [results, Tryd.results55, go_sem]) rfl ⟨.inr ⟨HNO.out, 20, by decide, rfl⟩, rfl⟩

end Go.Proofs.YtcmjohaohdgnjaaDoor

namespace Go.Proofs.YtcmjohaohdgnjaaDoor
open Go.RowKit

/-- A reader in memory: what is not read, and how it has failed. -/
structure Rdr (w : World) (p : Nat) (A : Option Addr) (n c : Nat) (bs : List UInt8) (e : Int) : Prop where
  blk : Blk w p 102 #[.slice A n c, .int .i64 e]
  rd : RdT w 5 1 A n (bs.map byteV)
  len : bs.length = n
  le : n ≤ c
  mx : c ≤ maxLen
theorem Rdr.touch {w w' : World} {p : Nat} {A : Option Addr} {n c : Nat} {bs : List UInt8} {e : Int} {S : Nat → Prop} (h : Rdr w p A n c bs e) (T : Touch S w w') (h1 : ¬ S p) (h2 : ∀ g, TyAt w g 5 → ¬ S g) : Rdr w' p A n c bs e :=
  ⟨h.blk.touch T h1, h.rd.touch T h2, h.len, h.le, h.mx⟩
theorem Rdr.quiet {w w' : World} {p : Nat} {A : Option Addr} {n c : Nat} {bs : List UInt8} {e : Int} (h : Rdr w p A n c bs e) (T : Touch (fun _ => False) w w') : Rdr w' p A n c bs e := h.touch T (fun f => f) (fun _ _ f => f)
theorem Rdr.fail {w : World} {p : Nat} {A : Option Addr} {n c : Nat} {bs : List UInt8} {e : Int} (h : Rdr w p A n c bs e) (k : Int) : Rdr (w.setCell ⟨p, 1, none⟩ (.int .i64 k)) p A n c bs k :=
  ⟨h.blk.set_ 1 _, h.rd.touch ((Touch.refl (fun g => g = p) w).setCell (fun _ => rfl) _) (fun _ hg e => hg.ne (blk_ty h.blk) (by decide) e), h.len, h.le, h.mx⟩
theorem Rdr.step {w : World} {p : Nat} {A : Option Addr} {n c : Nat} {bs : List UInt8} {e : Int} (h : Rdr w p A n c bs e) {k : Nat} (hk : k ≤ n) :
    Rdr (w.setCell ⟨p, 0, none⟩ (.slice (if c = k then A else A.map (·.add k)) (n - k) (c - k))) p (if c = k then A else A.map (·.add k)) (n - k) (c - k) (bs.drop k) e := by
  have T : Touch (fun g => g = p) w (w.setCell ⟨p, 0, none⟩ (.slice (if c = k then A else A.map (·.add k)) (n - k) (c - k))) := (Touch.refl (fun g => g = p) w).setCell (fun _ => rfl) _
  have hr := h.rd.touch T (fun _ hg e => hg.ne (blk_ty h.blk) (by decide) e)
  refine ⟨h.blk.set_ 0 _, ⟨?_, ?_⟩, by rw [List.length_drop, h.len], by have := h.le; omega, by have := h.mx; omega⟩
  · have := hr.rd.cut hk h.le
    rw [Nat.mul_one] at this
    rw [List.map_drop]
    exact this
  · intro hn g hg
    refine hr.ty (by omega) g ?_
    split at hg
    · exact hg
    · cases A with
      | none => cases hg
      | some a =>
        simp only [adBlock, Option.map_some, Option.some.injEq] at hg ⊢
        rw [← hg]
        unfold Addr.add
        split <;> rfl
/-- What a Uint that has not failed before leaves. -/
def UintPost (p most : Nat) (A : Option Addr) (n c : Nat) (bs : List UInt8) (w : World) (e : Ending) (w' : World) : Prop :=
  (∃ (v : Nat) (t : List UInt8) (A' : Option Addr) (n' c' : Nat), uintR most bs = some (v, t) ∧ e = .returned (.int .u64 v) ∧ Rdr w' p A' n' c' t 0 ∧ Touch (fun g => g = p) w w') ∨
  (uintR most bs = none ∧ e = .returned (.int .u64 0) ∧ ∃ k : Int, 1 ≤ k ∧ Rdr w' p A n c bs k ∧ Touch (fun g => g = p) w w')

set_option maxRecDepth 100000 in
set_option maxHeartbeats 4000000 in
theorem uint_ok (w : World) (p : Nat) (A : Option Addr) (n c : Nat) (bs : List UInt8) (h : Rdr w p A n c bs 0) (most : Nat) :
    Calls Tryd.prog 35 #[.pointer (some ⟨p, 0, none⟩), .int .u64 most] w fun e w' => UintPost p most A n c bs w e w' := by
  have HR := hide h
  have hnm : n ≤ maxLen := Nat.le_trans h.le h.mx
  have HN := hide (number_any w A n c bs h.rd.rd h.len hnm)
  obtain ⟨f0, f1, f2⟩ := h.blk.facts
  have hle := h.le
  have hmx := h.mx
  unfold maxLen at hmx
  clear h hnm
  go_enter Tryd.func35, Tryd.ntmps35
  go_wp2_with fail
  refine HN.out.mono ?_
  rintro e w1 ⟨hnv, rfl⟩
  rcases hnv with ⟨v, k, t, h1, h2, hk0, hk, rfl⟩ | ⟨h1, c', hc', rfl⟩
  · rw [HR.out.len] at hk
    by_cases hm : v ≤ most
    · have hu : uintR most bs = some (v, t) := by
        unfold uintR
        rw [h1]
        simp only
        rw [if_pos hm]
      have y0 : ¬ (most : Int) < (v : Int) := by omega
      have hst := HR.out.step hk
      rw [← h2] at hst
      have HST := hide hst
      have HU := hide hu
      obtain ⟨g, o, hA, _, _⟩ := HR.out.rd.rd.form (by omega)
      subst hA
      clear h1 h2 hst hu hm
      by_cases hck : c = k
      · rw [if_pos hck] at HST
        subst hck
        have hnc : n = c := by omega
        subst hnc
        simp only [Nat.sub_self] at HST
        go_wp2_with fail
        go_ret
        exact .inl ⟨v, t, _, _, _, HU.out, rfl, HST.out, (Touch.refl (fun g => g = p) w1).setCell (fun _ => rfl) _⟩
      · rw [if_neg hck] at HST
        simp only [Option.map_some, Addr.add_lit] at HST
        have hck1 : ¬ (c : Int) = (k : Int) := by omega
        go_wp2_with fail
        go_ret
        exact .inl ⟨v, t, _, _, _, HU.out, rfl, HST.out, (Touch.refl (fun g => g = p) w1).setCell (fun _ => rfl) _⟩
    · have hu : uintR most bs = none := by
        unfold uintR
        rw [h1]
        simp only
        rw [if_neg hm]
      have y0 : (most : Int) < (v : Int) := by omega
      have HU := hide hu
      clear h1 h2 hu hm
      go_wp2_with fail
      go_ret
      exact .inr ⟨HU.out, rfl, 22, by decide, HR.out.fail 22, (Touch.refl (fun g => g = p) w1).setCell (fun _ => rfl) _⟩
  · have hu : uintR most bs = none := by
      unfold uintR
      rw [h1]
    have HU := hide hu
    have y0 : (c' == 0) = false := by simp; omega
    have y1 : ¬ c' = 0 := by omega
    clear h1 hu
    go_wp2_with fail
    go_ret
    exact .inr ⟨HU.out, rfl, c', by omega, HR.out.fail c', (Touch.refl (fun g => g = p) w1).setCell (fun _ => rfl) _⟩

set_option maxRecDepth 100000 in
theorem uint_no (w : World) (p : Nat) (A : Option Addr) (n c : Nat) (bs : List UInt8) (k : Int) (h : Rdr w p A n c bs k) (hk : 1 ≤ k) (most : Nat) :
    Calls Tryd.prog 35 #[.pointer (some ⟨p, 0, none⟩), .int .u64 most] w fun e w' => e = .returned (.int .u64 0) ∧ w' = w := by
  obtain ⟨f0, f1, f2⟩ := h.blk.facts
  have y0 : (k == 0) = false := by simp; omega
  have y1 : ¬ k = 0 := by omega
  clear h
  go_enter Tryd.func35, Tryd.ntmps35
  go_wp2_with fail
  go_ret
  exact ⟨rfl, rfl⟩
set_option maxRecDepth 100000 in
theorem err_any (w : World) (p : Nat) (A : Option Addr) (n c : Nat) (bs : List UInt8) (k : Int) (h : Rdr w p A n c bs k) :
    Calls Tryd.prog 36 #[.pointer (some ⟨p, 0, none⟩)] w fun e w' => e = .returned (.int .i64 k) ∧ w' = w := by
  obtain ⟨f0, f1, f2⟩ := h.blk.facts
  clear h
  go_enter Tryd.func36, Tryd.ntmps36
  go_wp2_with fail
  go_ret
  exact ⟨rfl, rfl⟩
set_option maxRecDepth 100000 in
theorem left_any (w : World) (p : Nat) (A : Option Addr) (n c : Nat) (bs : List UInt8) (k : Int) (h : Rdr w p A n c bs k) :
    Calls Tryd.prog 56 #[.pointer (some ⟨p, 0, none⟩)] w fun e w' => e = .returned (.int .i64 n) ∧ w' = w := by
  obtain ⟨f0, f1, f2⟩ := h.blk.facts
  clear h
  go_enter Tryd.func56, Tryd.ntmps56
  go_wp2_with fail
  go_ret
  exact ⟨rfl, rfl⟩
/-- What End says: nothing amiss, and nothing left. -/
def EndV (n : Nat) (k x : Int) : Prop := (x = 0 ↔ k = 0 ∧ n = 0)
set_option maxRecDepth 100000 in
theorem end_any (w : World) (p : Nat) (A : Option Addr) (n c : Nat) (bs : List UInt8) (k : Int) (h : Rdr w p A n c bs k) :
    Calls Tryd.prog 38 #[.pointer (some ⟨p, 0, none⟩)] w fun e w' => ∃ x : Int, e = .returned (.int .i64 x) ∧ EndV n k x ∧ w' = w := by
  obtain ⟨f0, f1, f2⟩ := h.blk.facts
  clear h
  have hc : (k = 0 ∧ 0 < n) ∨ (k = 0 ∧ n = 0) ∨ k ≠ 0 := by omega
  go_enter Tryd.func38, Tryd.ntmps38
  rcases hc with ⟨rfl, hn⟩ | ⟨rfl, rfl⟩ | hk
  · have y0 : (0 : Int) < (n : Int) := by omega
    go_wp2_with fail
    go_ret
    exact ⟨23, rfl, by unfold EndV; omega, rfl⟩
  · go_wp2_with fail
    go_ret
    exact ⟨0, rfl, by unfold EndV; omega, rfl⟩
  · have y0 : (k == 0) = false := by simp; omega
    go_wp2_with fail
    go_ret
    exact ⟨k, rfl, by unfold EndV; omega, rfl⟩
theorem own_nought8 (w : World) (e : TypeId) (size : Nat) : (w.alloc (.cells #[] e)).ownsRow 0 e size (.slice (some ⟨w.heap.size, 0, none⟩) 0 0) 0 [] :=
  ⟨by simp, .inr ⟨w.heap.size, 0, #[], rfl, Nat.zero_le _, heap_alloc_new _ _, Nat.le_refl _, Nat.zero_le _, by simp, by simp⟩⟩
theorem run_eql_bytes (w : World) (a : Option Addr) (l c : Nat) : (binOp .eql 32 (.slice a l c) (.slice none 0 0)).run Tryd.prog w = .ok (.bool a.isNone) w := by
  simp only [binOp]
  simp [run_equal_slice_nil (P := Tryd.prog) w 32 5 a l c Tryd.underlying32]
set_option maxRecDepth 100000 in
set_option maxHeartbeats 1000000 in
theorem clone8_any (w : World) (A : Option Addr) (n c : Nat) (bs : List UInt8) (hr : Reads w 1 A n (bs.map byteV)) (hl : bs.length = n) (hn : n ≤ 35184372088832) :
    Calls Tryd.prog 54 #[.slice A n c] w fun e w' => ∃ (A' : Option Addr) (n' c' : Nat), e = .returned (.slice A' n' c') ∧ n' = n ∧ ONx 5 1 w w' (.slice A' n' c') n' (bs.map byteV) := by
  cases A with
  | none =>
    have h0 : n = 0 := by
      rcases Nat.eq_zero_or_pos n with h | h
      · exact h
      · obtain ⟨b, o, hA, _⟩ := hr.2 h
        cases hA
    subst h0
    have : bs = [] := List.length_eq_zero_iff.1 hl
    subst this
    have hmn := fun wx => run_eql_bytes wx none 0 c
    clear hl hr hn
    go_enter Tryd.func54, Tryd.ntmps54
    go_wp2_with fail
    go_ret
    exact ⟨none, 0, 0, rfl, rfl, ONx.nil _ _ _⟩
  | some a =>
    obtain ⟨i1, hi1, hy0, hy1, hy2⟩ := info_parts infoByte
    have HC := hide (onecell_bytes bs)
    have hO := own_nought8 w 5 1
    have HO := hide hO
    have hT : Touch (fun _ => False) w (w.alloc (.cells #[] 5)) := (Touch.refl _ _).alloc _
    have HT := hide hT
    have hb1 : 0 + n ≤ maxLen := by unfold maxLen; omega
    have hb2 : (0 + n) * 1 ≤ 140737488355328 := by omega
    have HB := hide (And.intro hb1 hb2)
    have HRD := hide (hr.touch hT (fun _ _ f => f))
    have hmn := fun wx => run_eql_bytes wx (some a) n c
    clear hr hO hT hb1 hb2 hn hl
    go_enter Tryd.func54, Tryd.ntmps54
    go_wp2_with (at_builtin; refine wpList_app _ rfl (.tmp 5) (.tmp 6) 32 rfl 5 i1 _ 1 1 Tryd.underlying32 hi1 hy0 hy1 hy2 rfl (by decide) (.slice (some ⟨w.heap.size, 0, none⟩) 0 0) 0 _ rfl HO.out (some a) n c (bs.map byteV) rfl HRD.out (fun h => by cases h) HC.out HB.out.1 HB.out.2 ?_; intro v1 w10 O10 G10 F10 _; rw [Nat.zero_add, List.nil_append] at O10; obtain ⟨A2, c2, hv, _, _⟩ := own_len O10; subst hv; have HO10 := hide O10; have HG := hide G10; have HF := hide F10; clear O10 G10 F10)
    go_ret
    refine ⟨A2, n, c2, rfl, rfl, HO10.out, HT.out.trans ((Touch.refl (fun y => y = w.heap.size) _).grown HG.out (fun k hk _ => by injection hk with hk; exact hk.symm)) (fun i hi e => by omega), fun g hg2 => ?_⟩
    rcases HF.out with h | ⟨g2, h, hle⟩
    · rw [hg2] at h
      injection h with h
      have h2 : g = w.heap.size := h
      omega
    · rw [hg2] at h
      injection h with h
      have := HT.out.size
      omega
set_option maxRecDepth 100000 in
theorem read_any (w : World) (A : Option Addr) (n c : Nat) (bs : List UInt8) (hr : Reads w 1 A n (bs.map byteV)) (hl : bs.length = n) (hn : n ≤ 35184372088832) :
    Calls Tryd.prog 34 #[.slice A n c] w fun e w' => ∃ (p : Nat) (A' : Option Addr) (n' c' : Nat), e = .returned (.pointer (some ⟨p, 0, none⟩)) ∧ Rdr w' p A' n' c' bs 0 ∧ w.heap.size ≤ p ∧ Touch (fun _ => False) w w' := by
  have HC := hide (clone8_any w A n c bs hr hl hn)
  have HL := hide hl
  clear hr hl
  go_enter Tryd.func34, Tryd.ntmps34
  go_wp2_with fail
  refine HC.out.mono ?_
  rintro e w1 ⟨A', n', c', rfl, hn', hx⟩
  subst hn'
  have HX := hide hx
  have HXT := hide hx.touch
  clear hx
  go_wp2_with fail
  go_ret
  refine ⟨_, A', _, c', rfl, ⟨Blk.new _ _ _, (RdT.of_own HX.out.own).quiet ((Touch.refl _ _).alloc _), HL.out, ?_, ?_⟩, HXT.out.size, HXT.out.alloc _⟩
  · have := own_slice HX.out.own; omega
  · have := own_slice HX.out.own; omega

end Go.Proofs.YtcmjohaohdgnjaaDoor
