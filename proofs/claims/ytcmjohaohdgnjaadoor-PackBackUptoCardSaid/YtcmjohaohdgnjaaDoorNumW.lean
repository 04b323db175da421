/- codec.number. No condition. -/
import Derived.Test.YtcmjohaohdgnjaaDoorParP
import Derived.Laws.Bits64b
namespace Go.Proofs.YtcmjohaohdgnjaaDoor
open Go.RowKit

theorem u64_in (x : Nat) (h : x < 18446744073709551616) : IntKind.u64.wrap (x : Int) = (x : Int) := by rw [IntKind.wrap_u64]; omega
theorem and127 (b : UInt8) : bits .and .u8 (b.toNat : Int) 127 = ((b.toNat % 128 : Nat) : Int) := by
  have h := bits_mask .u8 8 (by decide) (fun n h0 h1 => wraps_u8 n h0 h1) 7 (by decide) (b.toNat : Int) (by omega) (by have := b.toNat_lt; omega)
  have e : (2 : Int) ^ 7 - 1 = 127 := by decide
  rw [e] at h
  rw [h]
  omega
theorem p128 (k : Nat) : (2 : Nat) ^ (7 * k) = 128 ^ k := by rw [Nat.pow_mul]
theorem or_num (acc x k : Nat) (hk : k ≤ 9) (ha : acc < 128 ^ k) (hx : x * 128 ^ k < 18446744073709551616) : bits .or .u64 (acc : Int) ((x * 128 ^ k : Nat) : Int) = ((acc + x * 128 ^ k : Nat) : Int) := by
  have h9 : 128 ^ k ≤ 128 ^ 9 := Nat.pow_le_pow_right (by decide) hk
  have e9 : (128 : Nat) ^ 9 = 9223372036854775808 := by decide
  rw [bits_or_u64_nat acc _ (by omega) hx]
  congr 1
  rw [Nat.or_comm, Nat.mul_comm x, ← p128, ← Nat.two_pow_add_eq_or_of_lt (by rw [p128]; exact ha), Nat.add_comm]
theorem byte_rd {w : World} {A : Option Addr} {n : Nat} {bs : List UInt8} (h : Reads w 1 A n (bs.map byteV)) (hl : bs.length = n) (j : Nat) (hj : j < n) :
    ∃ g off, A = some ⟨g, off, none⟩ ∧ g < w.heap.size ∧ w.cell? ⟨g, off + j, none⟩ = some (.int .u8 ((bs.getD j 0).toNat : Int)) := by
  obtain ⟨g, off, hA, hg, hc⟩ := h.2 (by omega)
  refine ⟨g, off, hA, hg, hc j _ ?_⟩
  simp [List.getD, byteV, show j < bs.length by omega]
/-- What codec.number says of bytes. -/
def NumV (bs : List UInt8) (e : Ending) : Prop := (∃ (v k : Nat) (t : List UInt8), numR bs = some (v, t) ∧ t = bs.drop k ∧ 0 < k ∧ k ≤ bs.length ∧ e = .returned (.tuple #[.int .u64 v, .int .i64 k, .int .i64 0])) ∨
  (numR bs = none ∧ ∃ c : Int, 20 ≤ c ∧ e = .returned (.tuple #[.int .u64 0, .int .i64 0, .int .i64 c]))

set_option maxRecDepth 100000 in
set_option maxHeartbeats 4000000 in
theorem number_any (w : World) (A : Option Addr) (n c : Nat) (bs : List UInt8) (hr : Reads w 1 A n (bs.map byteV)) (hl : bs.length = n) (hm : n ≤ maxLen) :
    Calls Tryd.prog 55 #[.slice A n c] w fun e w' => NumV bs e ∧ w' = w := by
  unfold maxLen at hm
  have HR := hide hr
  have HL := hide hl
  clear hr hl
  go_enter Tryd.func55, Tryd.ntmps55
  go_wp2_with fail
  go_loop [5, 10] (fun nv iv => ∃ acc i : Nat, nv = .int .u64 acc ∧ iv = .int .i64 i ∧ i ≤ n ∧ i ≤ 9 ∧ Hid (acc < 128 ^ i ∧ numR bs = numG i acc (bs.drop i))) (fun _ iv => n - (intOf iv).toNat)
  case atStart => exact ⟨0, 0, rfl, rfl, Nat.zero_le _, Nat.zero_le _, hide ⟨by decide, rfl⟩⟩
  case round =>
    obtain ⟨acc, i, rfl, rfl, hi, hi9, HN⟩ := hrel
    by_cases hin : i < n
    · obtain ⟨g, o, hA, _, b0⟩ := byte_rd HR.out HL.out i hin
      subst hA
      have hdr : bs.drop i = bs.getD i 0 :: bs.drop (i + 1) := by
        have h1 : i < bs.length := by rw [HL.out]; exact hin
        rw [List.drop_eq_getElem_cons h1]
        simp [List.getD, h1]
      obtain ⟨b, hb⟩ : ∃ b, bs.getD i 0 = b := ⟨_, rfl⟩
      rw [hb] at b0 hdr
      have hb255 := b.toNat_lt
      have f1 := and127 b
      have hstep : numR bs = if i = 9 ∧ 1 < b.toNat then none else if 128 ≤ b.toNat then numG (i + 1) (acc + (b.toNat - 128) * 128 ^ i) (bs.drop (i + 1)) else if b.toNat = 0 ∧ 0 < i then none else some (acc + b.toNat * 128 ^ i, bs.drop (i + 1)) := by
        rw [HN.out.2, hdr]
        rfl
      have HA := hide HN.out.1
      obtain ⟨bn, hbn⟩ : ∃ m, b.toNat = m := ⟨_, rfl⟩
      rw [hbn] at hstep b0 f1 hb255
      clear hdr hb hbn HN
      have hbig : ¬ (i = 9 ∧ 1 < bn) → bn % 128 * 128 ^ i < 18446744073709551616 := by
        intro h
        have e9 : (128 : Nat) ^ 9 = 9223372036854775808 := by decide
        by_cases h9 : i = 9
        · subst h9
          rw [e9]
          omega
        · have h1 : bn % 128 * 128 ^ i < 128 * 128 ^ i := Nat.mul_lt_mul_of_pos_right (by omega) (Nat.pow_pos (by decide))
          have h2 : 128 * 128 ^ i = 128 ^ (i + 1) := by rw [Nat.pow_succ, Nat.mul_comm]
          have h3 : 128 ^ (i + 1) ≤ 128 ^ 9 := Nat.pow_le_pow_right (by decide) (by omega)
          omega
      have y0 : (i : Int) < (n : Int) := by omega
      have y8 : (0 : Int) ≤ (i : Int) := by omega
      have y9 : (i : Int) ≤ 9 := by omega
      have HIN := hide hin
      have HI9 := hide hi9
      by_cases h9 : i = 9 ∧ 1 < bn
      · rw [if_pos h9] at hstep
        obtain ⟨h9a, h9b⟩ := h9
        have q9 : ((i : Int) == 9) = true := by simp; omega
        have y1 : (1 : Int) < (bn : Int) := by omega
        have HS := hide hstep
        clear hstep hbig h9b h9a f1 hb255 hin
        go_wp2_with fail
        refine bodyPost_ret (v := .tuple #[.int .u64 0, .int .i64 0, .int .i64 21]) (by simp [results, Tryd.results55, go_sem]) rfl ⟨.inr ⟨HS.out, 21, by decide, rfl⟩, rfl⟩
      · rw [if_neg h9] at hstep
        have hbg := hbig h9
        have s1 := or_num acc (bn % 128) i hi9 HA.out hbg
        have hacc : acc + bn % 128 * 128 ^ i < 128 ^ (i + 1) := by
          have h1 : bn % 128 * 128 ^ i ≤ 127 * 128 ^ i := Nat.mul_le_mul_right _ (by omega)
          have h2 := HA.out
          rw [Nat.pow_succ]
          omega
        have f3 : IntKind.u64.wrap (((bn % 128 : Nat) : Int) * 2 ^ (7 * i)) = ((bn % 128 * 128 ^ i : Nat) : Int) := by
          have e : ((bn % 128 : Nat) : Int) * 2 ^ (7 * i) = ((bn % 128 * 128 ^ i : Nat) : Int) := by rw [← p128]; push_cast; rfl
          rw [e, u64_in _ hbg]
        have f2 : IntKind.u64.wrap ((bn % 128 : Nat) : Int) = ((bn % 128 : Nat) : Int) := u64_in _ (by omega)
        have hx1 : 128 ≤ bn → (bn - 128) * 128 ^ i = bn % 128 * 128 ^ i := fun h => by rw [show bn % 128 = bn - 128 by omega]
        have hx2 : ¬ 128 ≤ bn → bn * 128 ^ i = bn % 128 * 128 ^ i := fun h => by rw [show bn % 128 = bn by omega]
        obtain ⟨x, hx⟩ : ∃ x, bn % 128 * 128 ^ i = x := ⟨_, rfl⟩
        obtain ⟨m, hmm⟩ : ∃ m, bn % 128 = m := ⟨_, rfl⟩
        rw [hx] at s1 f3 hx1 hx2 hacc
        rw [hmm] at f1 f2 f3
        obtain ⟨ac, hac⟩ : ∃ y, acc + x = y := ⟨_, rfl⟩
        rw [hac] at s1 hacc
        have HAC := hide hacc
        have h91 : i = 9 → bn ≤ 1 := by omega
        have y1 : i = 9 → ¬ (1 : Int) < (bn : Int) := by omega
        have HA2 := hide hac
        clear hbig hbg hacc hx hmm hac HA
        by_cases hb8 : 128 ≤ bn
        · rw [if_pos hb8, hx1 hb8, HA2.out] at hstep
          have y1 : (128 : Int) ≤ (bn : Int) := by omega
          have q9 : ((i : Int) == 9) = false := by simp; omega
          have hi8 : i ≤ 8 := by omega
          have HI8 := hide hi8
          have HS := hide hstep
          clear hstep hx1 hx2 h91 h9 hb8 hb255 hi8 hi hi9 hin
          go_wp2_with fail
          go_round
          case rel => exact ⟨ac, i + 1, rfl, by simp, by have := HIN.out; omega, by have := HI8.out; omega, hide ⟨HAC.out, HS.out⟩⟩
          case measure =>
            have := HIN.out
            simp only [intOf]
            omega
        · rw [if_neg hb8, hx2 hb8, HA2.out] at hstep
          have y2 : ¬ (128 : Int) ≤ (bn : Int) := by omega
          by_cases hz : bn = 0 ∧ 0 < i
          · rw [if_pos hz] at hstep
            obtain ⟨hz0, hzi⟩ := hz
            have z0 : ((bn : Int) == 0) = true := by simp; omega
            have z1 : (0 : Int) < (i : Int) := by omega
            have HS := hide hstep
            by_cases h9i : i = 9
            · have q9 : ((i : Int) == 9) = true := by simp; omega
              have q1 := y1 h9i
              clear hstep hx1 hx2 h91 h9 hb8 hb255 hi hi9 hin hz0 hzi y1 h9i
              go_wp2_with fail
              refine bodyPost_ret (v := .tuple #[.int .u64 0, .int .i64 0, .int .i64 21]) (by simp [results, Tryd.results55, go_sem]) rfl ⟨.inr ⟨HS.out, 21, by decide, rfl⟩, rfl⟩
            · have q9 : ((i : Int) == 9) = false := by simp; omega
              clear hstep hx1 hx2 h91 h9 hb8 hb255 hi hi9 hin hz0 hzi y1 h9i
              go_wp2_with fail
              refine bodyPost_ret (v := .tuple #[.int .u64 0, .int .i64 0, .int .i64 21]) (by simp [results, Tryd.results55, go_sem]) rfl ⟨.inr ⟨HS.out, 21, by decide, rfl⟩, rfl⟩
          · rw [if_neg hz] at hstep
            have HS := hide hstep
            have HL2 := HL.out
            have hok : ∃ (v k : Nat) (t : List UInt8), numR bs = some (v, t) ∧ t = bs.drop k ∧ 0 < k ∧ k ≤ bs.length ∧ Ending.returned (.tuple #[.int .u64 ac, .int .i64 ((i : Int) + 1), .int .i64 0]) = .returned (.tuple #[.int .u64 v, .int .i64 k, .int .i64 0]) :=
              ⟨ac, i + 1, _, hstep, rfl, by omega, by omega, by simp⟩
            have HOK := hide hok
            clear HL2 hok
            by_cases hb0 : bn = 0
            · have z0 : ((bn : Int) == 0) = true := by simp; omega
              have z1 : ¬ (0 : Int) < (i : Int) := by omega
              have q9 : ((i : Int) == 9) = false := by simp; omega
              clear hstep hx1 hx2 h91 h9 hb8 hb255 hi hi9 hin hz y1 hb0
              go_wp2_with fail
              refine bodyPost_ret (v := .tuple #[.int .u64 ac, .int .i64 ((i : Int) + 1), .int .i64 0]) (by simp [results, Tryd.results55, go_sem]) rfl ⟨.inl HOK.out, rfl⟩
            · have z0 : ((bn : Int) == 0) = false := by simp; omega
              by_cases h9i : i = 9
              · have q9 : ((i : Int) == 9) = true := by simp; omega
                have q1 := y1 h9i
                clear hstep hx1 hx2 h91 h9 hb8 hb255 hi hi9 hin hz y1 h9i hb0
                go_wp2_with fail
                refine bodyPost_ret (v := .tuple #[.int .u64 ac, .int .i64 ((i : Int) + 1), .int .i64 0]) (by simp [results, Tryd.results55, go_sem]) rfl ⟨.inl HOK.out, rfl⟩
              · have q9 : ((i : Int) == 9) = false := by simp; omega
                clear hstep hx1 hx2 h91 h9 hb8 hb255 hi hi9 hin hz y1 h9i hb0
                go_wp2_with fail
                refine bodyPost_ret (v := .tuple #[.int .u64 ac, .int .i64 ((i : Int) + 1), .int .i64 0]) (by simp [results, Tryd.results55, go_sem]) rfl ⟨.inl HOK.out, rfl⟩
    · have hie : i = n := by omega
      have y0 : ¬ (i : Int) < (n : Int) := by omega
      have hno : numR bs = none := by
        rw [HN.out.2, List.drop_of_length_le (by rw [HL.out]; omega)]
        rfl
      have HNO := hide hno
      clear hno hie hin hi
      go_wp2_with fail
      refine bodyPost_ret (v := .tuple #[.int .u64 0, .int .i64 0, .int .i64 20]) (by simp [results, Tryd.results55, go_sem]) rfl ⟨.inr ⟨HNO.out, 20, by decide, rfl⟩, rfl⟩

end Go.Proofs.YtcmjohaohdgnjaaDoor
