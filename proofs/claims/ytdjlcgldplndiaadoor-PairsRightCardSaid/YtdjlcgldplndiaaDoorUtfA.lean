/- A text's first rune: letters.first. Condition: the package's variable lies as its initialiser lays it. -/
import Derived.Test.YtdjlcgldplndiaaDoorAheadP
import Derived.Lib.ConvBytes
import Derived.Laws.BitsLemmas
namespace Go.Proofs.YtdjlcgldplndiaaDoor
open Go.RowKit

theorem bytes_touch (w : World) (e : TypeId) (s : ByteArray) : Touch (fun _ => False) w (Lib.bytesWorld w e s) := by
  refine ⟨?_, ?_, ?_, ?_, fun k hk _ => Lib.bytesWorld_at_old w e s k hk⟩
  · simp [Lib.bytesWorld, World.freeze, World.alloc, World.drew, -World.alloc_eq, -World.drew_eq]
  · simp [Lib.bytesWorld, World.freeze, World.alloc, World.drew, -World.alloc_eq, -World.drew_eq]
  · simp [Lib.bytesWorld, World.freeze, World.alloc, World.drew, -World.alloc_eq, -World.drew_eq]
  · rw [Lib.bytesWorld_size]; omega

/-! ### Plain: what a text begins with -/
def scal (r : Nat) : Bool := decide (r ≤ 1114111) && (decide (r < 55296) || decide (57343 < r))
def tlU : Nat → List UInt8 → Option Nat
  | r, [] => some r
  | r, c :: t => if c.toNat / 64 = 2 then tlU (r * 64 + c.toNat % 64) t else none
def seqU (r0 k least : Nat) (t : List UInt8) : Nat × Nat :=
  if t.length < k then (0, 0) else match tlU r0 (t.take k) with
    | none => (0, 0)
    | some r => if r < least then (0, 0) else if scal r = true then (r, k + 1) else (0, 0)
def utf1 : List UInt8 → Nat × Nat
  | [] => (0, 0)
  | b :: t => if b.toNat < 128 then (b.toNat, 1) else if b.toNat / 32 = 6 then seqU (b.toNat % 32) 1 128 t else if b.toNat / 16 = 14 then seqU (b.toNat % 16) 2 2048 t else if b.toNat / 8 = 30 then seqU (b.toNat % 8) 3 65536 t else (0, 0)

/-- The package's variable lies as it was laid. -/
def Lst (w : World) : Prop := 0 < w.heap.size ∧ w.cell? ⟨0, 2, none⟩ = some (.int .i32 128) ∧ w.cell? ⟨0, 3, none⟩ = some (.int .i32 2048) ∧ w.cell? ⟨0, 4, none⟩ = some (.int .i32 65536)
theorem Lst.touch {w w' : World} (h : Lst w) (T : Touch (fun _ => False) w w') : Lst w' :=
  ⟨Nat.lt_of_lt_of_le h.1 T.size, (T.cell (a := ⟨0, 2, none⟩) h.1 (fun f => f)).trans h.2.1, (T.cell (a := ⟨0, 3, none⟩) h.1 (fun f => f)).trans h.2.2.1, (T.cell (a := ⟨0, 4, none⟩) h.1 (fun f => f)).trans h.2.2.2⟩

theorem list_cons (s : ByteArray) (h : 0 < s.size) : s.toList = s[0] :: s.toList.drop 1 := by
  have h1 : 0 < s.toList.length := by rw [toList_len]; exact h
  have h2 := byte_at s 0 h
  cases hs : s.toList with
  | nil => rw [hs] at h1; simp at h1
  | cons x l => rw [hs] at h2; simp at h2; subst h2; rfl

theorem scalar_any (r : Nat) (w : World) :
    Calls Tryd.prog 45 #[.int .i32 r] w fun e w' => e = .returned (.bool (scal r)) ∧ w' = w := by
  go_enter Tryd.func45, Tryd.ntmps45
  have h0 : (0 : Int) ≤ (r : Int) := by omega
  by_cases h1 : r ≤ 1114111
  · have i1 : (r : Int) ≤ 1114111 := by omega
    by_cases h2 : r < 55296
    · have i2 : (r : Int) < 55296 := by omega
      go_wp2
      go_ret
      exact ⟨by simp [scal, h1, h2], rfl⟩
    · have i2 : ¬ (r : Int) < 55296 := by omega
      by_cases h3 : 57343 < r
      · have i3 : (57343 : Int) < (r : Int) := by omega
        go_wp2
        go_ret
        exact ⟨by simp [scal, h1, h3], rfl⟩
      · have i3 : ¬ (57343 : Int) < (r : Int) := by omega
        go_wp2
        go_ret
        exact ⟨by simp [scal, h1, h2, h3], rfl⟩
  · have i1 : ¬ (r : Int) ≤ 1114111 := by omega
    go_wp2
    go_ret
    exact ⟨by simp [scal, h1], rfl⟩

theorem and_i32 (i : Nat) (hi : i ≤ 31) (r : Nat) (h : r < 2147483648) : bits .and .i32 (r : Int) (2 ^ i - 1) = ((r % 2 ^ i : Nat) : Int) := by
  rw [bits_mask .i32 31 (by decide) (fun n h0 h1 => IntWalk.i32_in _ (by omega)) i hi (r : Int) (by omega) (by omega)]
  simp
theorem and_u8 (r : Nat) (h : r < 256) : bits .and .u8 (r : Int) 63 = ((r % 64 : Nat) : Int) := by
  have := bits_mask .u8 8 (by decide) (fun n h0 h1 => IntWalk.u8_in _ (by omega)) 6 (by decide) (r : Int) (by omega) (by omega)
  simpa using this
theorem or_i32 (r m : Nat) (hr : r * 64 + m < 2147483648) (hm : m < 64) : bits .or .i32 ((r : Int) * 64) (m : Int) = ((r * 64 + m : Nat) : Int) := by
  rw [bits_join .i32 31 (by decide) (fun n h0 h1 => IntWalk.i32_in _ (by omega)) 6 ((r : Int) * 64) (m : Int) (by omega) (by omega) (by omega) (by omega) (by omega) (by omega)]
  simp

theorem ext_bytes (s : ByteArray) (k : Nat) (h : k + 1 ≤ s.size) : (s.extract 1 (k + 1)).data.toList = (s.toList.drop 1).take k := by
  rw [Go.ByteArray.toList_eq]
  simp [ByteArray.data_extract]

set_option maxRecDepth 100000 in
set_option maxHeartbeats 2000000 in
theorem first_two (w : World) (s : ByteArray) (hs : 2 ≤ s.size) (hm : s.size ≤ 9223372036854775807) (h1 : 192 ≤ s[0].toNat) (h2 : s[0].toNat < 224) (hL : Lst w) (x : Nat × Nat) (hx : seqU (s[0].toNat % 32) 1 128 (s.toList.drop 1) = x) :
    Calls Tryd.prog 40 #[.string s] w fun e w' => e = .returned (.tuple #[.int .i32 x.1, .int .i64 x.2]) ∧ Touch (fun _ => False) w w' := by
  have y0 : (0 : Int) < (s.size : Int) := by omega
  have kc := fun (w : World) (s : ByteArray) => Lib.run_convert_string_bytes (P := Tryd.prog) w 9 60 5 s Tryd.underlying9 Tryd.underlying60 Tryd.underlying5
  have hsz : (s.extract 1 2).size = 1 := by simp; omega
  have ha : bits .and .i32 (s[0].toNat : Int) (31) = ((s[0].toNat % 32 : Nat) : Int) := and_i32 5 (by decide) _ (by have := s[0].toNat_lt; omega)
  obtain ⟨r0, hr0⟩ : ∃ r0, s[0].toNat % 32 = r0 := ⟨_, rfl⟩
  have hrb : r0 < 32 := by omega
  rw [hr0] at ha hx
  obtain ⟨D, hD⟩ : ∃ D, (s.toList.drop 1).take 1 = D := ⟨_, rfl⟩
  have hlen : D.length = 1 := by rw [← hD, List.length_take, List.length_drop, toList_len]; omega
  have hX : (match tlU r0 D with | none => (0, 0) | some r => if r < 128 then (0, 0) else if scal r = true then (r, 1 + 1) else (0, 0)) = x := by
    rw [← hx, ← hD]
    unfold seqU
    rw [if_neg (by rw [List.length_drop, toList_len]; omega)]
  have HX := hide hX
  obtain ⟨w1, hw1⟩ : ∃ w1, w1 = Lib.bytesWorld w 5 (s.extract 1 2) := ⟨_, rfl⟩
  have hT1 : Touch (fun _ => False) w w1 := by rw [hw1]; exact bytes_touch _ _ _
  have hsz1 : w.heap.size < w1.heap.size := by rw [hw1, Lib.bytesWorld_size]; omega
  have hcell : ∀ j, j < 1 → w1.cell? ⟨w.heap.size, j, none⟩ = some (.int .u8 (D.getD j 0).toNat) := by
    intro j hj
    rw [hw1, Lib.bytesWorld_cell _ _ _ _ (by rw [hsz]; exact hj), show (s.extract 1 2).data.toList = D from (ext_bytes s 1 hs).trans hD]
  have HCELL := hide hcell
  have HT1 := hide hT1
  have HLEN := hide hlen
  have HL := hide hL
  have HS1 := hide hsz1
  have HW1 := hide hw1
  clear hX hx hD hT1 hsz1 hcell hw1 hlen hL hr0
  go_enter Tryd.func40, Tryd.ntmps40
  go_wp2
  rw [← HW1.out]
  go_loopw [5, 44] (fun rv iv wr => ∃ (r j : Nat), rv = .int .i32 r ∧ iv = .int .i64 j ∧ Hid ((j = 1 ∧ r < 8388608) ∨ (j + 1 = 1 ∧ r < 131072) ∨ (j + 2 = 1 ∧ r < 2048) ∨ (j + 3 = 1 ∧ r < 32)) ∧ Hid (tlU r0 D = tlU r (D.drop j)) ∧ Hid (Touch (fun _ => False) w1 wr)) (fun _ iv _ => 1 - (intOf iv).toNat)
  case atStart => exact ⟨r0, 0, rfl, rfl, hide (by omega), hide rfl, hide (Touch.refl _ _)⟩
  case round =>
    obtain ⟨r, j, rfl, rfl, HB, HE, HT⟩ := hrel
    have hLw := HL.out.touch (HT1.out.then HT.out)
    have g1 : wr.cell? ⟨0, 2, none⟩ = some (.int .i32 128) := hLw.2.1
    by_cases hj : j < 1
    · have hr : r * 64 + 63 < 8388608 := by rcases HB.out with h | h | h | h <;> omega
      have c0 := (HT.out.cell (a := ⟨w.heap.size, j, none⟩) HS1.out (fun f => f)).trans (HCELL.out j hj)
      have hdr : D.drop j = D.getD j 0 :: D.drop (j + 1) := by
        rw [List.drop_eq_getElem_cons (by rw [HLEN.out]; exact hj)]
        simp [List.getD, HLEN.out, hj]
      have hstep := HE.out
      rw [hdr, tlU] at hstep
      have hv := (D.getD j 0).toNat_lt
      obtain ⟨v, hvv⟩ : ∃ v, (D.getD j 0).toNat = v := ⟨_, rfl⟩
      rw [hvv] at c0 hstep hv
      have HV := hide hvv
      clear hvv hdr
      have i0 : (j : Int) < 1 := by omega
      have hvb : v < 256 := by omega
      by_cases hc : v / 64 = 2
      · rw [if_pos hc] at hstep
        have hand := and_u8 v hvb
        obtain ⟨m, hmm⟩ : ∃ m, v % 64 = m := ⟨_, rfl⟩
        rw [hmm] at hand hstep
        have hmb : m < 64 := by omega
        have hor := or_i32 r m (by omega) hmb
        obtain ⟨q, hq⟩ : ∃ q, r * 64 + m = q := ⟨_, rfl⟩
        rw [hq] at hor hstep
        have HST := hide hstep
        have HQ := hide (And.intro hq hmb)
        clear hstep hq hmm
        go_wp2
        go_roundw
        · exact ⟨q, j + 1, rfl, by simp, hide (by have h1 := HQ.out; rcases HB.out with h | h | h | h <;> omega), HST, HT⟩
        · show 1 - (intOf (.int .i64 ((j : Int) + 1))).toNat < 1 - (intOf (.int .i64 (j : Int))).toNat
          simp [intOf]
          omega
      · rw [if_neg hc] at hstep
        have hxx := HX.out
        rw [hstep] at hxx
        simp only at hxx
        subst hxx
        clear hstep
        go_wp2
        exact bodyPost_ret (v := .tuple #[.int .i32 0, .int .i64 0]) (by simp [results, Tryd.results40, go_sem]) rfl ⟨rfl, HT1.out.then HT.out⟩
    · have hjk : j = 1 := by rcases HB.out with h | h | h | h <;> omega
      subst hjk
      have hend := HE.out
      rw [List.drop_of_length_le (by rw [HLEN.out]; exact Nat.le_refl _), tlU] at hend
      have hxx := HX.out
      rw [hend] at hxx
      simp only at hxx
      have hrb2 : r < 8388608 := by rcases HB.out with h | h | h | h <;> omega
      clear hend
      by_cases hl : r < 128
      · rw [if_pos hl] at hxx
        subst hxx
        have i1 : (r : Int) < 128 := by omega
        go_wp2
        exact bodyPost_ret (v := .tuple #[.int .i32 0, .int .i64 0]) (by simp [results, Tryd.results40, go_sem]) rfl ⟨rfl, HT1.out.then HT.out⟩
      · rw [if_neg hl] at hxx
        have i1 : ¬ (r : Int) < 128 := by omega
        have HXX := hide hxx
        clear hxx
        cases hsc : scal r with
        | true =>
          have hxx := HXX.out
          rw [if_pos hsc] at hxx
          subst hxx
          go_wp2_with fail
          refine (scalar_any r _).mono ?_
          rintro e w2 ⟨rfl, rfl⟩
          rw [hsc]
          go_wp2_with fail
          exact bodyPost_ret (v := .tuple #[.int .i32 r, .int .i64 2]) (by simp [results, Tryd.results40, go_sem]) rfl ⟨rfl, HT1.out.then HT.out⟩
        | false =>
          have hxx := HXX.out
          rw [if_neg (by rw [hsc]; decide)] at hxx
          subst hxx
          go_wp2_with fail
          refine (scalar_any r _).mono ?_
          rintro e w2 ⟨rfl, rfl⟩
          rw [hsc]
          go_wp2_with fail
          exact bodyPost_ret (v := .tuple #[.int .i32 0, .int .i64 0]) (by simp [results, Tryd.results40, go_sem]) rfl ⟨rfl, HT1.out.then HT.out⟩

set_option maxRecDepth 100000 in
set_option maxHeartbeats 2000000 in
theorem first_three (w : World) (s : ByteArray) (hs : 3 ≤ s.size) (hm : s.size ≤ 9223372036854775807) (h1 : 224 ≤ s[0].toNat) (h2 : s[0].toNat < 240) (hL : Lst w) (x : Nat × Nat) (hx : seqU (s[0].toNat % 16) 2 2048 (s.toList.drop 1) = x) :
    Calls Tryd.prog 40 #[.string s] w fun e w' => e = .returned (.tuple #[.int .i32 x.1, .int .i64 x.2]) ∧ Touch (fun _ => False) w w' := by
  have y0 : (0 : Int) < (s.size : Int) := by omega
  have kc := fun (w : World) (s : ByteArray) => Lib.run_convert_string_bytes (P := Tryd.prog) w 9 60 5 s Tryd.underlying9 Tryd.underlying60 Tryd.underlying5
  have hsz : (s.extract 1 3).size = 2 := by simp; omega
  have ha : bits .and .i32 (s[0].toNat : Int) (15) = ((s[0].toNat % 16 : Nat) : Int) := and_i32 4 (by decide) _ (by have := s[0].toNat_lt; omega)
  obtain ⟨r0, hr0⟩ : ∃ r0, s[0].toNat % 16 = r0 := ⟨_, rfl⟩
  have hrb : r0 < 32 := by omega
  rw [hr0] at ha hx
  obtain ⟨D, hD⟩ : ∃ D, (s.toList.drop 1).take 2 = D := ⟨_, rfl⟩
  have hlen : D.length = 2 := by rw [← hD, List.length_take, List.length_drop, toList_len]; omega
  have hX : (match tlU r0 D with | none => (0, 0) | some r => if r < 2048 then (0, 0) else if scal r = true then (r, 2 + 1) else (0, 0)) = x := by
    rw [← hx, ← hD]
    unfold seqU
    rw [if_neg (by rw [List.length_drop, toList_len]; omega)]
  have HX := hide hX
  obtain ⟨w1, hw1⟩ : ∃ w1, w1 = Lib.bytesWorld w 5 (s.extract 1 3) := ⟨_, rfl⟩
  have hT1 : Touch (fun _ => False) w w1 := by rw [hw1]; exact bytes_touch _ _ _
  have hsz1 : w.heap.size < w1.heap.size := by rw [hw1, Lib.bytesWorld_size]; omega
  have hcell : ∀ j, j < 2 → w1.cell? ⟨w.heap.size, j, none⟩ = some (.int .u8 (D.getD j 0).toNat) := by
    intro j hj
    rw [hw1, Lib.bytesWorld_cell _ _ _ _ (by rw [hsz]; exact hj), show (s.extract 1 3).data.toList = D from (ext_bytes s 2 hs).trans hD]
  have HCELL := hide hcell
  have HT1 := hide hT1
  have HLEN := hide hlen
  have HL := hide hL
  have HS1 := hide hsz1
  have HW1 := hide hw1
  clear hX hx hD hT1 hsz1 hcell hw1 hlen hL hr0
  go_enter Tryd.func40, Tryd.ntmps40
  go_wp2
  rw [← HW1.out]
  go_loopw [5, 44] (fun rv iv wr => ∃ (r j : Nat), rv = .int .i32 r ∧ iv = .int .i64 j ∧ Hid ((j = 2 ∧ r < 8388608) ∨ (j + 1 = 2 ∧ r < 131072) ∨ (j + 2 = 2 ∧ r < 2048) ∨ (j + 3 = 2 ∧ r < 32)) ∧ Hid (tlU r0 D = tlU r (D.drop j)) ∧ Hid (Touch (fun _ => False) w1 wr)) (fun _ iv _ => 2 - (intOf iv).toNat)
  case atStart => exact ⟨r0, 0, rfl, rfl, hide (by omega), hide rfl, hide (Touch.refl _ _)⟩
  case round =>
    obtain ⟨r, j, rfl, rfl, HB, HE, HT⟩ := hrel
    have hLw := HL.out.touch (HT1.out.then HT.out)
    have g1 : wr.cell? ⟨0, 3, none⟩ = some (.int .i32 2048) := hLw.2.2.1
    by_cases hj : j < 2
    · have hr : r * 64 + 63 < 8388608 := by rcases HB.out with h | h | h | h <;> omega
      have c0 := (HT.out.cell (a := ⟨w.heap.size, j, none⟩) HS1.out (fun f => f)).trans (HCELL.out j hj)
      have hdr : D.drop j = D.getD j 0 :: D.drop (j + 1) := by
        rw [List.drop_eq_getElem_cons (by rw [HLEN.out]; exact hj)]
        simp [List.getD, HLEN.out, hj]
      have hstep := HE.out
      rw [hdr, tlU] at hstep
      have hv := (D.getD j 0).toNat_lt
      obtain ⟨v, hvv⟩ : ∃ v, (D.getD j 0).toNat = v := ⟨_, rfl⟩
      rw [hvv] at c0 hstep hv
      have HV := hide hvv
      clear hvv hdr
      have i0 : (j : Int) < 2 := by omega
      have hvb : v < 256 := by omega
      by_cases hc : v / 64 = 2
      · rw [if_pos hc] at hstep
        have hand := and_u8 v hvb
        obtain ⟨m, hmm⟩ : ∃ m, v % 64 = m := ⟨_, rfl⟩
        rw [hmm] at hand hstep
        have hmb : m < 64 := by omega
        have hor := or_i32 r m (by omega) hmb
        obtain ⟨q, hq⟩ : ∃ q, r * 64 + m = q := ⟨_, rfl⟩
        rw [hq] at hor hstep
        have HST := hide hstep
        have HQ := hide (And.intro hq hmb)
        clear hstep hq hmm
        go_wp2
        go_roundw
        · exact ⟨q, j + 1, rfl, by simp, hide (by have h1 := HQ.out; rcases HB.out with h | h | h | h <;> omega), HST, HT⟩
        · show 2 - (intOf (.int .i64 ((j : Int) + 1))).toNat < 2 - (intOf (.int .i64 (j : Int))).toNat
          simp [intOf]
          omega
      · rw [if_neg hc] at hstep
        have hxx := HX.out
        rw [hstep] at hxx
        simp only at hxx
        subst hxx
        clear hstep
        go_wp2
        exact bodyPost_ret (v := .tuple #[.int .i32 0, .int .i64 0]) (by simp [results, Tryd.results40, go_sem]) rfl ⟨rfl, HT1.out.then HT.out⟩
    · have hjk : j = 2 := by rcases HB.out with h | h | h | h <;> omega
      subst hjk
      have hend := HE.out
      rw [List.drop_of_length_le (by rw [HLEN.out]; exact Nat.le_refl _), tlU] at hend
      have hxx := HX.out
      rw [hend] at hxx
      simp only at hxx
      have hrb2 : r < 8388608 := by rcases HB.out with h | h | h | h <;> omega
      clear hend
      by_cases hl : r < 2048
      · rw [if_pos hl] at hxx
        subst hxx
        have i1 : (r : Int) < 2048 := by omega
        go_wp2
        exact bodyPost_ret (v := .tuple #[.int .i32 0, .int .i64 0]) (by simp [results, Tryd.results40, go_sem]) rfl ⟨rfl, HT1.out.then HT.out⟩
      · rw [if_neg hl] at hxx
        have i1 : ¬ (r : Int) < 2048 := by omega
        have HXX := hide hxx
        clear hxx
        cases hsc : scal r with
        | true =>
          have hxx := HXX.out
          rw [if_pos hsc] at hxx
          subst hxx
          go_wp2_with fail
          refine (scalar_any r _).mono ?_
          rintro e w2 ⟨rfl, rfl⟩
          rw [hsc]
          go_wp2_with fail
          exact bodyPost_ret (v := .tuple #[.int .i32 r, .int .i64 3]) (by simp [results, Tryd.results40, go_sem]) rfl ⟨rfl, HT1.out.then HT.out⟩
        | false =>
          have hxx := HXX.out
          rw [if_neg (by rw [hsc]; decide)] at hxx
          subst hxx
          go_wp2_with fail
          refine (scalar_any r _).mono ?_
          rintro e w2 ⟨rfl, rfl⟩
          rw [hsc]
          go_wp2_with fail
          exact bodyPost_ret (v := .tuple #[.int .i32 0, .int .i64 0]) (by simp [results, Tryd.results40, go_sem]) rfl ⟨rfl, HT1.out.then HT.out⟩

set_option maxRecDepth 100000 in
set_option maxHeartbeats 2000000 in
theorem first_four (w : World) (s : ByteArray) (hs : 4 ≤ s.size) (hm : s.size ≤ 9223372036854775807) (h1 : 240 ≤ s[0].toNat) (h2 : s[0].toNat < 248) (hL : Lst w) (x : Nat × Nat) (hx : seqU (s[0].toNat % 8) 3 65536 (s.toList.drop 1) = x) :
    Calls Tryd.prog 40 #[.string s] w fun e w' => e = .returned (.tuple #[.int .i32 x.1, .int .i64 x.2]) ∧ Touch (fun _ => False) w w' := by
  have y0 : (0 : Int) < (s.size : Int) := by omega
  have kc := fun (w : World) (s : ByteArray) => Lib.run_convert_string_bytes (P := Tryd.prog) w 9 60 5 s Tryd.underlying9 Tryd.underlying60 Tryd.underlying5
  have hsz : (s.extract 1 4).size = 3 := by simp; omega
  have ha : bits .and .i32 (s[0].toNat : Int) (7) = ((s[0].toNat % 8 : Nat) : Int) := and_i32 3 (by decide) _ (by have := s[0].toNat_lt; omega)
  obtain ⟨r0, hr0⟩ : ∃ r0, s[0].toNat % 8 = r0 := ⟨_, rfl⟩
  have hrb : r0 < 32 := by omega
  rw [hr0] at ha hx
  obtain ⟨D, hD⟩ : ∃ D, (s.toList.drop 1).take 3 = D := ⟨_, rfl⟩
  have hlen : D.length = 3 := by rw [← hD, List.length_take, List.length_drop, toList_len]; omega
  have hX : (match tlU r0 D with | none => (0, 0) | some r => if r < 65536 then (0, 0) else if scal r = true then (r, 3 + 1) else (0, 0)) = x := by
    rw [← hx, ← hD]
    unfold seqU
    rw [if_neg (by rw [List.length_drop, toList_len]; omega)]
  have HX := hide hX
  obtain ⟨w1, hw1⟩ : ∃ w1, w1 = Lib.bytesWorld w 5 (s.extract 1 4) := ⟨_, rfl⟩
  have hT1 : Touch (fun _ => False) w w1 := by rw [hw1]; exact bytes_touch _ _ _
  have hsz1 : w.heap.size < w1.heap.size := by rw [hw1, Lib.bytesWorld_size]; omega
  have hcell : ∀ j, j < 3 → w1.cell? ⟨w.heap.size, j, none⟩ = some (.int .u8 (D.getD j 0).toNat) := by
    intro j hj
    rw [hw1, Lib.bytesWorld_cell _ _ _ _ (by rw [hsz]; exact hj), show (s.extract 1 4).data.toList = D from (ext_bytes s 3 hs).trans hD]
  have HCELL := hide hcell
  have HT1 := hide hT1
  have HLEN := hide hlen
  have HL := hide hL
  have HS1 := hide hsz1
  have HW1 := hide hw1
  clear hX hx hD hT1 hsz1 hcell hw1 hlen hL hr0
  go_enter Tryd.func40, Tryd.ntmps40
  go_wp2
  rw [← HW1.out]
  go_loopw [5, 44] (fun rv iv wr => ∃ (r j : Nat), rv = .int .i32 r ∧ iv = .int .i64 j ∧ Hid ((j = 3 ∧ r < 8388608) ∨ (j + 1 = 3 ∧ r < 131072) ∨ (j + 2 = 3 ∧ r < 2048) ∨ (j + 3 = 3 ∧ r < 32)) ∧ Hid (tlU r0 D = tlU r (D.drop j)) ∧ Hid (Touch (fun _ => False) w1 wr)) (fun _ iv _ => 3 - (intOf iv).toNat)
  case atStart => exact ⟨r0, 0, rfl, rfl, hide (by omega), hide rfl, hide (Touch.refl _ _)⟩
  case round =>
    obtain ⟨r, j, rfl, rfl, HB, HE, HT⟩ := hrel
    have hLw := HL.out.touch (HT1.out.then HT.out)
    have g1 : wr.cell? ⟨0, 4, none⟩ = some (.int .i32 65536) := hLw.2.2.2
    by_cases hj : j < 3
    · have hr : r * 64 + 63 < 8388608 := by rcases HB.out with h | h | h | h <;> omega
      have c0 := (HT.out.cell (a := ⟨w.heap.size, j, none⟩) HS1.out (fun f => f)).trans (HCELL.out j hj)
      have hdr : D.drop j = D.getD j 0 :: D.drop (j + 1) := by
        rw [List.drop_eq_getElem_cons (by rw [HLEN.out]; exact hj)]
        simp [List.getD, HLEN.out, hj]
      have hstep := HE.out
      rw [hdr, tlU] at hstep
      have hv := (D.getD j 0).toNat_lt
      obtain ⟨v, hvv⟩ : ∃ v, (D.getD j 0).toNat = v := ⟨_, rfl⟩
      rw [hvv] at c0 hstep hv
      have HV := hide hvv
      clear hvv hdr
      have i0 : (j : Int) < 3 := by omega
      have hvb : v < 256 := by omega
      by_cases hc : v / 64 = 2
      · rw [if_pos hc] at hstep
        have hand := and_u8 v hvb
        obtain ⟨m, hmm⟩ : ∃ m, v % 64 = m := ⟨_, rfl⟩
        rw [hmm] at hand hstep
        have hmb : m < 64 := by omega
        have hor := or_i32 r m (by omega) hmb
        obtain ⟨q, hq⟩ : ∃ q, r * 64 + m = q := ⟨_, rfl⟩
        rw [hq] at hor hstep
        have HST := hide hstep
        have HQ := hide (And.intro hq hmb)
        clear hstep hq hmm
        go_wp2
        go_roundw
        · exact ⟨q, j + 1, rfl, by simp, hide (by have h1 := HQ.out; rcases HB.out with h | h | h | h <;> omega), HST, HT⟩
        · show 3 - (intOf (.int .i64 ((j : Int) + 1))).toNat < 3 - (intOf (.int .i64 (j : Int))).toNat
          simp [intOf]
          omega
      · rw [if_neg hc] at hstep
        have hxx := HX.out
        rw [hstep] at hxx
        simp only at hxx
        subst hxx
        clear hstep
        go_wp2
        exact bodyPost_ret (v := .tuple #[.int .i32 0, .int .i64 0]) (by simp [results, Tryd.results40, go_sem]) rfl ⟨rfl, HT1.out.then HT.out⟩
    · have hjk : j = 3 := by rcases HB.out with h | h | h | h <;> omega
      subst hjk
      have hend := HE.out
      rw [List.drop_of_length_le (by rw [HLEN.out]; exact Nat.le_refl _), tlU] at hend
      have hxx := HX.out
      rw [hend] at hxx
      simp only at hxx
      have hrb2 : r < 8388608 := by rcases HB.out with h | h | h | h <;> omega
      clear hend
      by_cases hl : r < 65536
      · rw [if_pos hl] at hxx
        subst hxx
        have i1 : (r : Int) < 65536 := by omega
        go_wp2
        exact bodyPost_ret (v := .tuple #[.int .i32 0, .int .i64 0]) (by simp [results, Tryd.results40, go_sem]) rfl ⟨rfl, HT1.out.then HT.out⟩
      · rw [if_neg hl] at hxx
        have i1 : ¬ (r : Int) < 65536 := by omega
        have HXX := hide hxx
        clear hxx
        cases hsc : scal r with
        | true =>
          have hxx := HXX.out
          rw [if_pos hsc] at hxx
          subst hxx
          go_wp2_with fail
          refine (scalar_any r _).mono ?_
          rintro e w2 ⟨rfl, rfl⟩
          rw [hsc]
          go_wp2_with fail
          exact bodyPost_ret (v := .tuple #[.int .i32 r, .int .i64 4]) (by simp [results, Tryd.results40, go_sem]) rfl ⟨rfl, HT1.out.then HT.out⟩
        | false =>
          have hxx := HXX.out
          rw [if_neg (by rw [hsc]; decide)] at hxx
          subst hxx
          go_wp2_with fail
          refine (scalar_any r _).mono ?_
          rintro e w2 ⟨rfl, rfl⟩
          rw [hsc]
          go_wp2_with fail
          exact bodyPost_ret (v := .tuple #[.int .i32 0, .int .i64 0]) (by simp [results, Tryd.results40, go_sem]) rfl ⟨rfl, HT1.out.then HT.out⟩

end Go.Proofs.YtdjlcgldplndiaaDoor
