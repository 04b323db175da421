/- Which of two texts, which of two matches is ahead: the program and the reference. No condition. -/
import Derived.Test.YtdjlcgldplndiaaDoorPairR
import Derived.Test.YtdjlcgldplndiaaDoorRows
import Derived.BigQuiet
import Derived.Deep.QuietTactic
namespace Go.Proofs.YtdjlcgldplndiaaDoor
open Go.RowKit

/-- A text as a list of bytes. -/
theorem byte_at (s : ByteArray) (k : Nat) (h : k < s.size) : s.toList[k]? = some s[k] := by
  rw [Go.ByteArray.toList_eq]
  show s.data.toList[k]? = some s.data[k]
  simp [h]
theorem toList_len (s : ByteArray) : s.toList.length = s.size := by
  rw [Go.ByteArray.toList_eq, Array.length_toList]; rfl

theorem bl_step (x y : List UInt8) (k : Nat) (a b : UInt8) (hx : x[k]? = some a) (hy : y[k]? = some b) (hab : a ≠ b) (hp : x.take k = y.take k) : Op.bytesLess x y = decide (a < b) := by
  induction k generalizing x y with
  | zero =>
    cases x with
    | nil => simp at hx
    | cons c x => cases y with
      | nil => simp at hy
      | cons d y =>
        simp at hx hy
        subst hx hy
        simp [Op.bytesLess, hab]
  | succ k ih =>
    cases x with
    | nil => simp at hx
    | cons c x => cases y with
      | nil => simp at hy
      | cons d y =>
        simp at hx hy hp
        obtain ⟨rfl, hp⟩ := hp
        simp [Op.bytesLess, ih x y hx hy hp, UInt8.lt_irrefl]

theorem bl_pre (x y : List UInt8) (k : Nat) (hp : x.take k = y.take k) (hk : k = x.length ∨ k = y.length) (hx : k ≤ x.length) (hy : k ≤ y.length) : Op.bytesLess x y = decide (x.length < y.length) := by
  induction k generalizing x y with
  | zero =>
    cases x with
    | nil => cases y <;> simp [Op.bytesLess]
    | cons c x => cases y with
      | nil => simp [Op.bytesLess]
      | cons d y => simp at hk
  | succ k ih =>
    cases x with
    | nil => simp at hx
    | cons c x => cases y with
      | nil => simp at hy
      | cons d y =>
        simp at hp hx hy hk
        obtain ⟨rfl, hp⟩ := hp
        simp [Op.bytesLess, ih x y hp hk hx hy, UInt8.lt_irrefl]

set_option maxRecDepth 100000 in
theorem ahead_any (a b : ByteArray) (ha : a.size ≤ 9223372036854775807) (hb : b.size ≤ 9223372036854775807) (w : World) :
    Calls Tryd.prog 26 #[.string a, .string b] w fun e w' => e = .returned (.bool (Op.bytesLess a.toList b.toList)) ∧ Touch (fun _ => False) w w' := by
  go_enter Tryd.func26, Tryd.ntmps26
  go_wp2
  go_loopw [5] (fun i wr => ∃ k : Nat, k ≤ a.size ∧ k ≤ b.size ∧ i = .int .i64 k ∧ Hid (a.toList.take k = b.toList.take k) ∧ Touch (fun _ => False) w wr) (fun i _ => a.size - (intOf i).toNat)
  case atStart => exact ⟨0, Nat.zero_le _, Nat.zero_le _, rfl, hide rfl, Touch.refl _ _⟩
  case round =>
    obtain ⟨k, hka, hkb, rfl, HP, hT⟩ := hrel
    have HT := hide hT
    clear hT
    by_cases h1 : k < a.size
    · by_cases h2 : k < b.size
      · have i0 : (0 : Int) ≤ (k : Int) := by omega
        have i1 : (k : Int) < (a.size : Int) := by omega
        have i2 : (k : Int) < (b.size : Int) := by omega
        by_cases he : a[k] = b[k]
        · have hbne : (((a[k]'h1).toNat : Int) != ((b[k]'h2).toNat : Int)) = false := by rw [he]; simp
          have HE := hide he
          clear he
          go_wp2
          go_quiet (fail)
          go_wp2
          go_roundw
          · refine ⟨k + 1, by omega, by omega, by simp, hide ?_, HT.out.drewN _⟩
            rw [List.take_add_one, List.take_add_one, byte_at _ _ h1, byte_at _ _ h2, HE.out, HP.out]
          · show a.size - (k + 1) < a.size - k
            omega
        · have hbne : (((a[k]'h1).toNat : Int) != ((b[k]'h2).toNat : Int)) = true := by
            rw [bne_iff_ne]
            exact fun e => he (UInt8.toNat_inj.1 (by omega))
          have HE := hide (bl_step a.toList b.toList k _ _ (byte_at _ _ h1) (byte_at _ _ h2) he HP.out)
          clear he
          go_wp2
          go_quiet (fail)
          go_wp2
          go_quiet (fail)
          go_wp2
          go_ret
          refine ⟨?_, (HT.out.drewN _).drewN _⟩
          rw [HE.out]
          rfl
      · have hk : k = b.size := by omega
        have i0 : (0 : Int) ≤ (k : Int) := by omega
        have i1 : (k : Int) < (a.size : Int) := by omega
        have i2 : ¬ (k : Int) < (b.size : Int) := by omega
        have HE := hide (bl_pre a.toList b.toList k HP.out (.inr (by rw [toList_len]; exact hk)) (by rw [toList_len]; exact hka) (by rw [toList_len]; exact hkb))
        clear hk
        go_wp2
        go_ret
        refine ⟨?_, HT.out⟩
        rw [HE.out, toList_len, toList_len]
        rfl
    · have hk : k = a.size := by omega
      have i1 : ¬ (k : Int) < (a.size : Int) := by omega
      have HE := hide (bl_pre a.toList b.toList k HP.out (.inl (by rw [toList_len]; exact hk)) (by rw [toList_len]; exact hka) (by rw [toList_len]; exact hkb))
      clear hk
      go_wp2
      go_ret
      refine ⟨?_, HT.out⟩
      rw [HE.out, toList_len, toList_len]
      rfl

end Go.Proofs.YtdjlcgldplndiaaDoor
