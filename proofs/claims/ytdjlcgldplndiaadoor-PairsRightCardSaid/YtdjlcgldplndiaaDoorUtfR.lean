/- The reference's way of reading a text's first rune: said, Rune, Write. No condition but the sizes that are named. -/
import Derived.Test.YtdjlcgldplndiaaDoorUtfP
namespace Go.Proofs.YtdjlcgldplndiaaDoor
open Go.RowKit

theorem rune_any (r : Nat) (w : World) :
    Calls Tryd.prog 47 #[.int .i64 r] w fun e w' => e = .returned (.bool (scal r)) ∧ w' = w := by
  go_enter Tryd.func47, Tryd.ntmps47
  have h0 : (0 : Int) ≤ (r : Int) := by omega
  by_cases h1 : r ≤ 1114111
  · have i1 : (r : Int) ≤ 1114111 := by omega
    by_cases h2 : r < 55296
    · have i2 : (r : Int) < 55296 := by omega
      go_wp2
      go_ret
      exact ⟨by simp [scal, h1, h2], rfl⟩
    · have i2 : ¬ (r : Int) < 55296 := by omega
      by_cases h3 : 57343 < r
      · have i3 : (57343 : Int) < (r : Int) := by omega
        go_wp2
        go_ret
        exact ⟨by simp [scal, h1, h3], rfl⟩
      · have i3 : ¬ (57343 : Int) < (r : Int) := by omega
        go_wp2
        go_ret
        exact ⟨by simp [scal, h1, h2, h3], rfl⟩
  · have i1 : ¬ (r : Int) ≤ 1114111 := by omega
    go_wp2
    go_ret
    exact ⟨by simp [scal, h1], rfl⟩

/-- The bytes of a new row, as a text. -/
theorem conv_new (w : World) (l : List UInt8) (cs : Array Value) (n : Nat) (hn : n = l.length) (hcs : cs.toList = l.map (fun b => .int .u8 (b.toNat : Int))) :
    (convert 60 9 (.slice (some ⟨w.heap.size, 0, none⟩) n n)).run Tryd.prog (w.alloc (.cells cs 5)) = .ok (.string ⟨l.toArray⟩) (w.alloc (.cells cs 5)) := by
  subst hn
  refine run_convert_bytes_back _ _ _ _ _ _ l Tryd.underlying60 Tryd.underlying5 Tryd.underlying9 fun j hj => ?_
  rw [Addr.add_lit, Nat.zero_add, World.cell?_alloc_new, ← Array.getElem?_toList, hcs]
  simp [hj]
theorem u8_cell {n x : Nat} (h : n + x < 256) : Value.int .u8 (((UInt8.ofNat (n + x)).toNat : Nat) : Int) = .int .u8 ((n : Int) + (x : Int)) := by
  rw [UInt8.toNat_ofNat', Nat.mod_eq_of_lt (by omega)]
  congr 1

set_option maxRecDepth 100000 in
set_option maxHeartbeats 1000000 in
theorem write_two (w : World) (r : Nat) (h1 : 128 ≤ r) (h2 : r < 2048) :
    Calls Tryd.prog 48 #[.int .i64 r] w fun e w' => e = .returned (.string ⟨(writeU r).toArray⟩) ∧ Touch (fun _ => False) w w' := by
  have h0 : (0 : Int) ≤ (r : Int) := by omega
  obtain ⟨l, hl⟩ : ∃ l, r % 64 = l := ⟨_, rfl⟩
  obtain ⟨a, ha⟩ : ∃ a, r / 64 = a := ⟨_, rfl⟩
  have hwr : writeU r = [UInt8.ofNat (192 + a), UInt8.ofNat (128 + l)] := by
    unfold writeU
    rw [if_neg (by omega), if_pos h2, hl, ha]
  have e1 : (r : Int) % 64 = (l : Int) := by omega
  have e2 : (r : Int) / 64 = (a : Int) := by omega
  have b1 : l < 64 := by omega
  have b2 : a < 32 := by omega
  obtain ⟨S, hS⟩ : ∃ S, S = (⟨(writeU r).toArray⟩ : ByteArray) := ⟨_, rfl⟩
  rw [← hS]
  rw [hwr] at hS
  have kc0 := fun (w : World) => conv_new w [UInt8.ofNat (192 + a), UInt8.ofNat (128 + l)] #[.int .u8 ((192 : Int) + (a : Int)), .int .u8 ((128 : Int) + (l : Int))] 2 rfl (by simp only [List.map_cons, List.map_nil, u8_cell (n := 192) (x := a) (by omega), u8_cell (n := 128) (x := l) (by omega)]; rfl)
  rw [← hS] at kc0
  have HYS := hide (show True from trivial)
  clear HYS hl ha hwr hS
  go_enter Tryd.func48, Tryd.ntmps48
  go_wp2
  go_ret
  exact ⟨rfl, (Touch.refl _ _).alloc _⟩

set_option maxRecDepth 100000 in
set_option maxHeartbeats 1000000 in
theorem write_three (w : World) (r : Nat) (h1 : 2048 ≤ r) (h2 : (r : Int) < 65536) :
    Calls Tryd.prog 48 #[.int .i64 r] w fun e w' => e = .returned (.string ⟨(writeU r).toArray⟩) ∧ Touch (fun _ => False) w w' := by
  have h0 : (0 : Int) ≤ (r : Int) := by omega
  obtain ⟨l, hl⟩ : ∃ l, r % 64 = l := ⟨_, rfl⟩
  obtain ⟨a, ha⟩ : ∃ a, r / 64 = a := ⟨_, rfl⟩
  obtain ⟨m, hm⟩ : ∃ m, a % 64 = m := ⟨_, rfl⟩
  obtain ⟨c, hc⟩ : ∃ c, r / 4096 = c := ⟨_, rfl⟩
  have hwr : writeU r = [UInt8.ofNat (224 + c), UInt8.ofNat (128 + m), UInt8.ofNat (128 + l)] := by
    unfold writeU
    rw [if_neg (by omega), if_neg (by omega), if_pos (by omega), hl, ha, hm, hc]
  have e1 : (r : Int) % 64 = (l : Int) := by omega
  have e2 : (r : Int) / 64 = (a : Int) := by omega
  have e3 : (a : Int) % 64 = (m : Int) := by omega
  have e4 : (r : Int) / 4096 = (c : Int) := by omega
  have i0 : ¬ (r : Int) < 128 := by omega
  have i1 : ¬ (r : Int) < 2048 := by omega
  have b1 : l < 64 := by omega
  have b2 : m < 64 := by omega
  have b3 : c < 16 := by omega
  obtain ⟨S, hS⟩ : ∃ S, S = (⟨(writeU r).toArray⟩ : ByteArray) := ⟨_, rfl⟩
  rw [← hS]
  rw [hwr] at hS
  have kc0 := fun (w : World) => conv_new w [UInt8.ofNat (224 + c), UInt8.ofNat (128 + m), UInt8.ofNat (128 + l)] #[.int .u8 ((224 : Int) + (c : Int)), .int .u8 ((128 : Int) + (m : Int)), .int .u8 ((128 : Int) + (l : Int))] 3 rfl (by simp only [List.map_cons, List.map_nil, u8_cell (n := 224) (x := c) (by omega), u8_cell (n := 128) (x := m) (by omega), u8_cell (n := 128) (x := l) (by omega)]; rfl)
  rw [← hS] at kc0
  have HYS := hide (show True from trivial)
  clear HYS hl ha hm hc hwr hS
  go_enter Tryd.func48, Tryd.ntmps48
  go_wp2
  go_ret
  exact ⟨rfl, (Touch.refl _ _).alloc _⟩

set_option maxRecDepth 100000 in
set_option maxHeartbeats 1000000 in
theorem write_four (w : World) (r : Nat) (h1 : (65536 : Int) ≤ (r : Int)) (h2 : (r : Int) < 1114112) :
    Calls Tryd.prog 48 #[.int .i64 r] w fun e w' => e = .returned (.string ⟨(writeU r).toArray⟩) ∧ Touch (fun _ => False) w w' := by
  have h0 : (0 : Int) ≤ (r : Int) := by omega
  obtain ⟨l, hl⟩ : ∃ l, r % 64 = l := ⟨_, rfl⟩
  obtain ⟨a, ha⟩ : ∃ a, r / 64 = a := ⟨_, rfl⟩
  obtain ⟨m, hm⟩ : ∃ m, a % 64 = m := ⟨_, rfl⟩
  obtain ⟨c, hc⟩ : ∃ c, r / 4096 = c := ⟨_, rfl⟩
  obtain ⟨d, hd⟩ : ∃ d, c % 64 = d := ⟨_, rfl⟩
  obtain ⟨f, hf⟩ : ∃ f, r / 262144 = f := ⟨_, rfl⟩
  have hwr : writeU r = [UInt8.ofNat (240 + f), UInt8.ofNat (128 + d), UInt8.ofNat (128 + m), UInt8.ofNat (128 + l)] := by
    unfold writeU
    rw [if_neg (by omega), if_neg (by omega), if_neg (by omega), hl, ha, hm, hc, hd, hf]
  have e1 : (r : Int) % 64 = (l : Int) := by omega
  have e2 : (r : Int) / 64 = (a : Int) := by omega
  have e3 : (a : Int) % 64 = (m : Int) := by omega
  have e4 : (r : Int) / 4096 = (c : Int) := by omega
  have e5 : (c : Int) % 64 = (d : Int) := by omega
  have e6 : (r : Int) / 262144 = (f : Int) := by omega
  have i0 : ¬ (r : Int) < 128 := by omega
  have i1 : ¬ (r : Int) < 2048 := by omega
  have i2 : ¬ (r : Int) < 65536 := by omega
  have b1 : l < 64 := by omega
  have b2 : m < 64 := by omega
  have b3 : d < 64 := by omega
  have b4 : f < 8 := by omega
  obtain ⟨S, hS⟩ : ∃ S, S = (⟨(writeU r).toArray⟩ : ByteArray) := ⟨_, rfl⟩
  rw [← hS]
  rw [hwr] at hS
  have kc0 := fun (w : World) => conv_new w [UInt8.ofNat (240 + f), UInt8.ofNat (128 + d), UInt8.ofNat (128 + m), UInt8.ofNat (128 + l)] #[.int .u8 ((240 : Int) + (f : Int)), .int .u8 ((128 : Int) + (d : Int)), .int .u8 ((128 : Int) + (m : Int)), .int .u8 ((128 : Int) + (l : Int))] 4 rfl (by simp only [List.map_cons, List.map_nil, u8_cell (n := 240) (x := f) (by omega), u8_cell (n := 128) (x := d) (by omega), u8_cell (n := 128) (x := m) (by omega), u8_cell (n := 128) (x := l) (by omega)]; rfl)
  rw [← hS] at kc0
  have HYS := hide (show True from trivial)
  clear HYS hl ha hm hc hd hf hwr hS
  go_enter Tryd.func48, Tryd.ntmps48
  go_wp2
  go_ret
  exact ⟨rfl, (Touch.refl _ _).alloc _⟩

set_option maxRecDepth 100000 in
set_option maxHeartbeats 1000000 in
theorem write_any (w : World) (r : Nat) (hr : (r : Int) < 1114112) :
    Calls Tryd.prog 48 #[.int .i64 r] w fun e w' => e = .returned (.string ⟨(writeU r).toArray⟩) ∧ Touch (fun _ => False) w w' := by
  by_cases h1 : r < 128
  · have i1 : (r : Int) < 128 := by omega
    have hwr : writeU r = [UInt8.ofNat r] := by unfold writeU; rw [if_pos h1]
    rw [hwr]
    have kc := fun (w : World) => conv_new w [UInt8.ofNat r] #[.int .u8 (r : Int)] 1 rfl (by simp only [List.map_cons, List.map_nil]; rw [UInt8.toNat_ofNat', Nat.mod_eq_of_lt (by omega)])
    clear hwr hr
    go_enter Tryd.func48, Tryd.ntmps48
    go_wp2
    go_ret
    exact ⟨rfl, (Touch.refl _ _).alloc _⟩
  · by_cases h2 : r < 2048
    · exact write_two w r (by omega) h2
    · by_cases h3 : (r : Int) < 65536
      · exact write_three w r (by omega) h3
      · exact write_four w r (by omega) hr

end Go.Proofs.YtdjlcgldplndiaaDoor
