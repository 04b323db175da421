/- The reference's first rune of a text: said, First. Condition: the text is no longer than any text. -/
import Derived.Test.YtdjlcgldplndiaaDoorUtfR
import Derived.Deep.RegionHeld3
namespace Go.Proofs.YtdjlcgldplndiaaDoor
open Go.RowKit

def sdF : Nat → List UInt8 → Nat
  | r, [] => r
  | r, c :: t => sdF (r * 64 + c.toNat % 64) t
theorem sdF_take {r i n : Nat} {E : List UInt8} (hn : E.length = n) (hi : i < n) : sdF r (E.drop i) = sdF (r * 64 + (E.getD i 0).toNat % 64) (E.drop (i + 1)) := by
  rw [List.drop_eq_getElem_cons (by omega)]
  simp [sdF, List.getD, show i < E.length by omega]
theorem said_2 (b c : UInt8) (t : List UInt8) : saidU 2 (b :: c :: t) = sdF (b.toNat % 32) ((b :: c :: t).take 2 |>.drop 1) := by simp [saidU, sdF]
theorem said_3 (b c d : UInt8) (t : List UInt8) : saidU 3 (b :: c :: d :: t) = sdF (b.toNat % 16) ((b :: c :: d :: t).take 3 |>.drop 1) := by simp [saidU, sdF]
theorem said_4 (b c d e : UInt8) (t : List UInt8) : saidU 4 (b :: c :: d :: e :: t) = sdF (b.toNat % 8) ((b :: c :: d :: e :: t).take 4 |>.drop 1) := by simp [saidU, sdF]
theorem saidU_lt (n : Nat) (bs : List UInt8) : saidU n bs < 2097152 := by
  unfold saidU
  split
  · rename_i b _; have := b.toNat_lt; omega
  · omega
  · omega
  · omega
  · omega

set_option maxRecDepth 100000 in
theorem said_one (w : World) (s : ByteArray) (hs : 1 ≤ s.size) :
    Calls Tryd.prog 46 #[.string s, .int .i64 1] w fun e w' => e = .returned (.int .i64 (saidU 1 s.toList)) ∧ Touch (fun _ => False) w w' := by
  have hlc := list_cons s hs
  have hx : saidU 1 s.toList = s[0].toNat := by rw [hlc]; rfl
  rw [hx]
  clear hlc hx
  have v0 : ((s[0].toNat : Nat) : Int) < 256 := by have := s[0].toNat_lt; omega
  have y0 : (0 : Int) < (s.size : Int) := by omega
  go_enter Tryd.func46, Tryd.ntmps46
  go_wp2
  go_ret
  exact ⟨rfl, Touch.refl _ _⟩

theorem said_two_plain (s : ByteArray) (hs : 2 ≤ s.size) : saidU 2 s.toList = sdF (s[0].toNat % 32) ((s.toList.take 2).drop 1) := by
  have h := list_cons s (by omega)
  have hl : 2 ≤ s.toList.length := by rw [toList_len]; exact hs
  rw [h] at hl ⊢
  match hd : s.toList.drop 1, hl with
  | c :: t, _ => exact said_2 _ c t

set_option maxRecDepth 100000 in
set_option maxHeartbeats 1000000 in
theorem said_two (w : World) (s : ByteArray) (hs : 2 ≤ s.size) (hm : s.size ≤ 9223372036854775807) :
    Calls Tryd.prog 46 #[.string s, .int .i64 2] w fun e w' => e = .returned (.int .i64 (saidU 2 s.toList)) ∧ Touch (fun _ => False) w w' := by
  have hx := said_two_plain s hs
  obtain ⟨x, hxx⟩ : ∃ x, saidU 2 s.toList = x := ⟨_, rfl⟩
  rw [hxx] at hx ⊢
  have y0 : (0 : Int) < (s.size : Int) := by omega
  obtain ⟨b, hb⟩ : ∃ b, s[0].toNat % 32 = b := ⟨_, rfl⟩
  have e1 : ((s[0].toNat : Nat) : Int) % 32 = (b : Int) := by omega
  have bb : b < 32 := by omega
  have v0 : ((s[0].toNat : Nat) : Int) < 256 := by have := s[0].toNat_lt; omega
  rw [hb] at hx
  obtain ⟨E, hE⟩ : ∃ E, s.toList.take 2 = E := ⟨_, rfl⟩
  have hlen : E.length = 2 := by rw [← hE, List.length_take, toList_len]; omega
  have hbyte : ∀ j (h : j < 2), (E.getD j 0) = s[j]'(by omega) := by
    intro j h
    have h1 := byte_at s j (by omega)
    have h2 : E[j]? = some (s[j]'(by omega)) := by rw [← hE, List.getElem?_take, if_pos h, h1]
    rw [List.getD_eq_getElem?_getD, h2]
    rfl
  rw [hE] at hx
  have HX := hide hx
  have HB := hide hbyte
  have HLEN := hide hlen
  clear hx hxx hb hE hbyte hlen
  go_enter Tryd.func46, Tryd.ntmps46
  go_wp2
  go_loopw [5, 6] (fun rv iv wr => ∃ (r i : Nat), rv = .int .i64 r ∧ iv = .int .i64 i ∧ Hid ((i = 2 ∧ r < 8388608) ∨ (i + 1 = 2 ∧ r < 131072) ∨ (i + 2 = 2 ∧ r < 2048) ∨ (i + 3 = 2 ∧ r < 32)) ∧ Hid (x = sdF r (E.drop i)) ∧ Hid (Touch (fun _ => False) w wr)) (fun _ iv _ => 2 - (intOf iv).toNat)
  case atStart => exact ⟨b, 1, by rw [e1], rfl, hide (by omega), HX, hide (Touch.refl _ _)⟩
  case round =>
    obtain ⟨r, i, rfl, rfl, HBD, HE, HT⟩ := hrel
    by_cases hi : i < 2
    · have h1 : i < s.size := by omega
      have i0 : (i : Int) < 2 := by omega
      have i1 : (i : Int) < (s.size : Int) := by omega
      have i2 : (0 : Int) ≤ (i : Int) := by omega
      have v1 : (((s[i]'h1).toNat : Nat) : Int) < 256 := by have := (s[i]'h1).toNat_lt; omega
      have hst := HE.out
      rw [sdF_take HLEN.out hi, HB.out i hi] at hst
      obtain ⟨m, hmm⟩ : ∃ m, (s[i]'h1).toNat % 64 = m := ⟨_, rfl⟩
      rw [hmm] at hst
      have e2 : (((s[i]'h1).toNat : Nat) : Int) % 64 = (m : Int) := by omega
      obtain ⟨q, hq⟩ : ∃ q, r * 64 + m = q := ⟨_, rfl⟩
      rw [hq] at hst
      have e3 : (r : Int) * 64 + (m : Int) = (q : Int) := by omega
      have i4 : (r : Int) < 8388608 := by rcases HBD.out with h | h | h | h <;> omega
      have i5 : (q : Int) < 1000000000 := by omega
      have i6 : (m : Int) < 64 := by omega
      have HST := hide hst
      have HQ := hide (And.intro hq i6)
      clear hst hq hmm
      go_wp2
      go_roundw
      · exact ⟨q, i + 1, rfl, by simp, hide (by have h1 := HQ.out; rcases HBD.out with h | h | h | h <;> omega), HST, HT⟩
      · show 2 - (intOf (.int .i64 ((i : Int) + 1))).toNat < 2 - (intOf (.int .i64 (i : Int))).toNat
        simp [intOf]
        omega
    · have i0 : ¬ (i : Int) < 2 := by omega
      have hend := HE.out
      rw [List.drop_of_length_le (by rw [HLEN.out]; omega), sdF] at hend
      subst hend
      go_wp2
      go_ret
      exact ⟨rfl, HT.out⟩

theorem said_three_plain (s : ByteArray) (hs : 3 ≤ s.size) : saidU 3 s.toList = sdF (s[0].toNat % 16) ((s.toList.take 3).drop 1) := by
  have h := list_cons s (by omega)
  have hl : 3 ≤ s.toList.length := by rw [toList_len]; exact hs
  rw [h] at hl ⊢
  match hd : s.toList.drop 1, hl with
  | c :: d :: t, _ => exact said_3 _ c d t

set_option maxRecDepth 100000 in
set_option maxHeartbeats 1000000 in
theorem said_three (w : World) (s : ByteArray) (hs : 3 ≤ s.size) (hm : s.size ≤ 9223372036854775807) :
    Calls Tryd.prog 46 #[.string s, .int .i64 3] w fun e w' => e = .returned (.int .i64 (saidU 3 s.toList)) ∧ Touch (fun _ => False) w w' := by
  have hx := said_three_plain s hs
  obtain ⟨x, hxx⟩ : ∃ x, saidU 3 s.toList = x := ⟨_, rfl⟩
  rw [hxx] at hx ⊢
  have y0 : (0 : Int) < (s.size : Int) := by omega
  obtain ⟨b, hb⟩ : ∃ b, s[0].toNat % 16 = b := ⟨_, rfl⟩
  have e1 : ((s[0].toNat : Nat) : Int) % 16 = (b : Int) := by omega
  have bb : b < 32 := by omega
  have v0 : ((s[0].toNat : Nat) : Int) < 256 := by have := s[0].toNat_lt; omega
  rw [hb] at hx
  obtain ⟨E, hE⟩ : ∃ E, s.toList.take 3 = E := ⟨_, rfl⟩
  have hlen : E.length = 3 := by rw [← hE, List.length_take, toList_len]; omega
  have hbyte : ∀ j (h : j < 3), (E.getD j 0) = s[j]'(by omega) := by
    intro j h
    have h1 := byte_at s j (by omega)
    have h2 : E[j]? = some (s[j]'(by omega)) := by rw [← hE, List.getElem?_take, if_pos h, h1]
    rw [List.getD_eq_getElem?_getD, h2]
    rfl
  rw [hE] at hx
  have HX := hide hx
  have HB := hide hbyte
  have HLEN := hide hlen
  clear hx hxx hb hE hbyte hlen
  go_enter Tryd.func46, Tryd.ntmps46
  go_wp2
  go_loopw [5, 6] (fun rv iv wr => ∃ (r i : Nat), rv = .int .i64 r ∧ iv = .int .i64 i ∧ Hid ((i = 3 ∧ r < 8388608) ∨ (i + 1 = 3 ∧ r < 131072) ∨ (i + 2 = 3 ∧ r < 2048) ∨ (i + 3 = 3 ∧ r < 32)) ∧ Hid (x = sdF r (E.drop i)) ∧ Hid (Touch (fun _ => False) w wr)) (fun _ iv _ => 3 - (intOf iv).toNat)
  case atStart => exact ⟨b, 1, by rw [e1], rfl, hide (by omega), HX, hide (Touch.refl _ _)⟩
  case round =>
    obtain ⟨r, i, rfl, rfl, HBD, HE, HT⟩ := hrel
    by_cases hi : i < 3
    · have h1 : i < s.size := by omega
      have i0 : (i : Int) < 3 := by omega
      have i1 : (i : Int) < (s.size : Int) := by omega
      have i2 : (0 : Int) ≤ (i : Int) := by omega
      have v1 : (((s[i]'h1).toNat : Nat) : Int) < 256 := by have := (s[i]'h1).toNat_lt; omega
      have hst := HE.out
      rw [sdF_take HLEN.out hi, HB.out i hi] at hst
      obtain ⟨m, hmm⟩ : ∃ m, (s[i]'h1).toNat % 64 = m := ⟨_, rfl⟩
      rw [hmm] at hst
      have e2 : (((s[i]'h1).toNat : Nat) : Int) % 64 = (m : Int) := by omega
      obtain ⟨q, hq⟩ : ∃ q, r * 64 + m = q := ⟨_, rfl⟩
      rw [hq] at hst
      have e3 : (r : Int) * 64 + (m : Int) = (q : Int) := by omega
      have i4 : (r : Int) < 8388608 := by rcases HBD.out with h | h | h | h <;> omega
      have i5 : (q : Int) < 1000000000 := by omega
      have i6 : (m : Int) < 64 := by omega
      have HST := hide hst
      have HQ := hide (And.intro hq i6)
      clear hst hq hmm
      go_wp2
      go_roundw
      · exact ⟨q, i + 1, rfl, by simp, hide (by have h1 := HQ.out; rcases HBD.out with h | h | h | h <;> omega), HST, HT⟩
      · show 3 - (intOf (.int .i64 ((i : Int) + 1))).toNat < 3 - (intOf (.int .i64 (i : Int))).toNat
        simp [intOf]
        omega
    · have i0 : ¬ (i : Int) < 3 := by omega
      have hend := HE.out
      rw [List.drop_of_length_le (by rw [HLEN.out]; omega), sdF] at hend
      subst hend
      go_wp2
      go_ret
      exact ⟨rfl, HT.out⟩

theorem said_four_plain (s : ByteArray) (hs : 4 ≤ s.size) : saidU 4 s.toList = sdF (s[0].toNat % 8) ((s.toList.take 4).drop 1) := by
  have h := list_cons s (by omega)
  have hl : 4 ≤ s.toList.length := by rw [toList_len]; exact hs
  rw [h] at hl ⊢
  match hd : s.toList.drop 1, hl with
  | c :: d :: e :: t, _ => exact said_4 _ c d e t

set_option maxRecDepth 100000 in
set_option maxHeartbeats 1000000 in
theorem said_four (w : World) (s : ByteArray) (hs : 4 ≤ s.size) (hm : s.size ≤ 9223372036854775807) :
    Calls Tryd.prog 46 #[.string s, .int .i64 4] w fun e w' => e = .returned (.int .i64 (saidU 4 s.toList)) ∧ Touch (fun _ => False) w w' := by
  have hx := said_four_plain s hs
  obtain ⟨x, hxx⟩ : ∃ x, saidU 4 s.toList = x := ⟨_, rfl⟩
  rw [hxx] at hx ⊢
  have y0 : (0 : Int) < (s.size : Int) := by omega
  obtain ⟨b, hb⟩ : ∃ b, s[0].toNat % 8 = b := ⟨_, rfl⟩
  have e1 : ((s[0].toNat : Nat) : Int) % 8 = (b : Int) := by omega
  have bb : b < 32 := by omega
  have v0 : ((s[0].toNat : Nat) : Int) < 256 := by have := s[0].toNat_lt; omega
  rw [hb] at hx
  obtain ⟨E, hE⟩ : ∃ E, s.toList.take 4 = E := ⟨_, rfl⟩
  have hlen : E.length = 4 := by rw [← hE, List.length_take, toList_len]; omega
  have hbyte : ∀ j (h : j < 4), (E.getD j 0) = s[j]'(by omega) := by
    intro j h
    have h1 := byte_at s j (by omega)
    have h2 : E[j]? = some (s[j]'(by omega)) := by rw [← hE, List.getElem?_take, if_pos h, h1]
    rw [List.getD_eq_getElem?_getD, h2]
    rfl
  rw [hE] at hx
  have HX := hide hx
  have HB := hide hbyte
  have HLEN := hide hlen
  clear hx hxx hb hE hbyte hlen
  go_enter Tryd.func46, Tryd.ntmps46
  go_wp2
  go_loopw [5, 6] (fun rv iv wr => ∃ (r i : Nat), rv = .int .i64 r ∧ iv = .int .i64 i ∧ Hid ((i = 4 ∧ r < 8388608) ∨ (i + 1 = 4 ∧ r < 131072) ∨ (i + 2 = 4 ∧ r < 2048) ∨ (i + 3 = 4 ∧ r < 32)) ∧ Hid (x = sdF r (E.drop i)) ∧ Hid (Touch (fun _ => False) w wr)) (fun _ iv _ => 4 - (intOf iv).toNat)
  case atStart => exact ⟨b, 1, by rw [e1], rfl, hide (by omega), HX, hide (Touch.refl _ _)⟩
  case round =>
    obtain ⟨r, i, rfl, rfl, HBD, HE, HT⟩ := hrel
    by_cases hi : i < 4
    · have h1 : i < s.size := by omega
      have i0 : (i : Int) < 4 := by omega
      have i1 : (i : Int) < (s.size : Int) := by omega
      have i2 : (0 : Int) ≤ (i : Int) := by omega
      have v1 : (((s[i]'h1).toNat : Nat) : Int) < 256 := by have := (s[i]'h1).toNat_lt; omega
      have hst := HE.out
      rw [sdF_take HLEN.out hi, HB.out i hi] at hst
      obtain ⟨m, hmm⟩ : ∃ m, (s[i]'h1).toNat % 64 = m := ⟨_, rfl⟩
      rw [hmm] at hst
      have e2 : (((s[i]'h1).toNat : Nat) : Int) % 64 = (m : Int) := by omega
      obtain ⟨q, hq⟩ : ∃ q, r * 64 + m = q := ⟨_, rfl⟩
      rw [hq] at hst
      have e3 : (r : Int) * 64 + (m : Int) = (q : Int) := by omega
      have i4 : (r : Int) < 8388608 := by rcases HBD.out with h | h | h | h <;> omega
      have i5 : (q : Int) < 1000000000 := by omega
      have i6 : (m : Int) < 64 := by omega
      have HST := hide hst
      have HQ := hide (And.intro hq i6)
      clear hst hq hmm
      go_wp2
      go_roundw
      · exact ⟨q, i + 1, rfl, by simp, hide (by have h1 := HQ.out; rcases HBD.out with h | h | h | h <;> omega), HST, HT⟩
      · show 4 - (intOf (.int .i64 ((i : Int) + 1))).toNat < 4 - (intOf (.int .i64 (i : Int))).toNat
        simp [intOf]
        omega
    · have i0 : ¬ (i : Int) < 4 := by omega
      have hend := HE.out
      rw [List.drop_of_length_le (by rw [HLEN.out]; omega), sdF] at hend
      subst hend
      go_wp2
      go_ret
      exact ⟨rfl, HT.out⟩

theorem said_any (w : World) (s : ByteArray) (n : Nat) (h1 : 1 ≤ n) (h4 : n ≤ 4) (hs : n ≤ s.size) (hm : s.size ≤ 9223372036854775807) :
    Calls Tryd.prog 46 #[.string s, .int .i64 n] w fun e w' => e = .returned (.int .i64 (saidU n s.toList)) ∧ Touch (fun _ => False) w w' := by
  obtain rfl | rfl | rfl | rfl : n = 1 ∨ n = 2 ∨ n = 3 ∨ n = 4 := by omega
  · exact said_one w s hs
  · exact said_two w s hs hm
  · exact said_three w s hs hm
  · exact said_four w s hs hm

end Go.Proofs.YtdjlcgldplndiaaDoor
