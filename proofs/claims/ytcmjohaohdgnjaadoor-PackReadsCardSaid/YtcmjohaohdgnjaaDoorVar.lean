/- codec.PutUint and pack.put: a number behind bytes. Condition: what is there has no more than 2^45 bytes. -/
import Derived.Test.YtcmjohaohdgnjaaDoorRgt
import Derived.Laws.BitsLemmas
namespace Go.Proofs.YtcmjohaohdgnjaaDoor
open Go.RowKit

def varF : Nat → Nat → List UInt8
  | 0, n => [UInt8.ofNat n]
  | f + 1, n => if n < 128 then [UInt8.ofNat n] else UInt8.ofNat (n % 128 + 128) :: varF f (n / 128)
def varN (n : Nat) : List UInt8 := varF 9 n
theorem varF_len : ∀ (f n : Nat), (varF f n).length ≤ f + 1
  | 0, _ => Nat.le_refl _
  | f + 1, n => by
    unfold varF
    split
    · simp
    · have := varF_len f (n / 128)
      simp
      omega
theorem byteV_nat {m : Nat} (h : m < 256) : byteV (UInt8.ofNat m) = .int .u8 (m : Int) := by unfold byteV; rw [UInt8.toNat_ofNat', Nat.mod_eq_of_lt h]

theorem shr7 (m : Nat) : (m : Int).fdiv (2 ^ min (Int.toNat 7) IntKind.u64.bits) = ((m / 128 : Nat) : Int) := by
  have h : min (Int.toNat 7) IntKind.u64.bits = 7 := by decide
  rw [h, Int.fdiv_eq_ediv_of_nonneg _ (by decide)]
  omega
theorem or128_all : ∀ a : Fin 256, bits .or .u8 (a.val : Int) 128 = ((a.val % 128 + 128 : Nat) : Int) := by decide +kernel
theorem or128 (m : Nat) : bits .or .u8 ((m : Int) % 256) 128 = (m : Int) % 128 + 128 := by
  have h := or128_all ⟨m % 256, by omega⟩
  simp only at h
  rw [show (m : Int) % 256 = ((m % 256 : Nat) : Int) by omega, h]
  omega

set_option maxRecDepth 100000 in
set_option maxHeartbeats 4000000 in
theorem putuint_any (w0 w : World) (A : Option Addr) (q c : Nat) (xs : List Value) (h : ONx 5 1 w0 w (.slice A q c) q xs) (n : Nat) (hn : n < 9223372036854775808) (hq : q ≤ 35184372088832) :
    Calls Tryd.prog 52 #[.slice A q c, .int .u64 n] w fun e w' => ∃ (A' : Option Addr) (q' c' : Nat), e = .returned (.slice A' q' c') ∧ ONx 5 1 w0 w' (.slice A' q' c') q' (xs ++ (varN n).map byteV) ∧ q' ≤ q + 10 ∧ Touch (fun g => (Value.slice A q c).ownBlock = some g) w w' := by
  obtain ⟨i0, hi0, hz0, hz1, hz2⟩ := info_parts infoByte
  have H := hide h
  have HN := hide hn
  have HQ := hide hq
  clear h hn hq
  go_enter Tryd.func52, Tryd.ntmps52
  go_wp2_with fail
  go_loopw [0, 1] (fun bv nv wr => ∃ (A3 : Option Addr) (k c3 m f : Nat) (ys : List UInt8), bv = .slice A3 (q + k) c3 ∧ nv = .int .u64 m ∧ Hid (ONx 5 1 w0 wr (.slice A3 (q + k) c3) (q + k) (xs ++ ys.map byteV)) ∧ Hid (ys ++ varF f m = varN n) ∧ Hid (m < 128 ^ (f + 1) ∧ m ≤ n ∧ k + f = 9) ∧ Hid (Touch (fun g => (Value.slice A q c).ownBlock = some g) w wr) ∧ Hid (Fresh w (.slice A q c) (.slice A3 (q + k) c3))) (fun _ nv _ => (intOf nv).toNat)
  case atStart => exact ⟨A, 0, c, n, 9, [], rfl, rfl, hide (by rw [List.map_nil, List.append_nil]; exact H.out), hide rfl, hide ⟨Nat.lt_of_lt_of_le HN.out (by decide), Nat.le_refl _, rfl⟩, hide (Touch.refl _ _), hide (.inl rfl)⟩
  case round =>
    obtain ⟨A3, k, c3, m, f, ys, rfl, rfl, HX, HY, HB, HT, HF⟩ := hrel
    by_cases hm : 128 ≤ m
    · have m0 : (128 : Int) ≤ (m : Int) := by omega
      have m1 := or128 m
      have m2 := shr7 m
      have hf : ∃ f', f = f' + 1 := by
        cases f with
        | zero => have := HB.out.1; simp at this; omega
        | succ f' => exact ⟨f', rfl⟩
      obtain ⟨f', rfl⟩ := hf
      have hvf : varF (f' + 1) m = UInt8.ofNat (m % 128 + 128) :: varF f' (m / 128) := by
        conv => lhs; unfold varF
        rw [if_neg (by omega)]
      have HVF := hide hvf
      have HM := hide hm
      clear hvf
      obtain ⟨wa, hwa⟩ : ∃ y, y = wr.alloc (.cells #[.int .u8 ((m : Int) % 128 + 128)] 5) := ⟨_, rfl⟩
      have hTa : Touch (fun _ => False) wr wa := by rw [hwa]; exact (Touch.refl _ _).alloc _
      have hrd : Reads wa 1 (some ⟨wr.heap.size, 0, none⟩) 1 [.int .u8 ((m : Int) % 128 + 128)] := by
        rw [hwa]
        have h := Reads.new (size := 1) wr 5 [.int .u8 ((m : Int) % 128 + 128)] 1 rfl
        simpa using h
      have hone : ∀ u ∈ ([.int .u8 ((m : Int) % 128 + 128)] : List Value), u.oneCell' = true := by
        intro u hu
        rw [List.mem_singleton] at hu
        subst hu
        rfl
      have hbb : q + k + 1 ≤ maxLen ∧ (q + k + 1) * 1 ≤ 140737488355328 := by
        have h1 := HQ.out
        have h2 := HB.out.2.2
        unfold maxLen
        omega
      have HXA := hide (HX.out.to hTa)
      have HWA := hide hwa
      have HRD := hide hrd
      have HONE := hide hone
      have HBB := hide hbb
      have HTA := hide hTa
      clear hm hwa hTa hrd hone hbb
      go_wp2_with (at_builtin; rw [← HWA.out]; refine wpList_app _ rfl (.tmp 7) (.tmp 11) 32 rfl 5 i0 _ 1 1 Tryd.underlying32 hi0 hz0 hz1 hz2 rfl (by decide) (.slice A3 (q + k) c3) (q + k) _ rfl HXA.out.own (some ⟨wr.heap.size, 0, none⟩) 1 1 [.int .u8 ((m : Int) % 128 + 128)] rfl HRD.out (fun h => by cases h) HONE.out HBB.out.1 HBB.out.2 ?_; intro v1 w10 O10 G10 F10 _; obtain ⟨A7, c7, hv, _, _⟩ := own_len O10; subst hv; have HX10 := hide (HXA.out.app O10 G10 F10); have HG10 := hide G10; have HF10 := hide F10; clear O10 G10 F10)
      have hT10 : Touch (fun g => (Value.slice A q c).ownBlock = some g) w w10 := (HT.out.then (HTA.out.up _)).trans ((Touch.refl (fun g => (Value.slice A3 (q + k) c3).ownBlock = some g) wa).grown HG10.out (fun k e _ => e)) (fun g hg e => by
        rcases HF.out with e2 | ⟨g', e2, hle⟩
        · exact e2.symm.trans e
        · rw [e2] at e
          injection e with e
          omega)
      go_roundw
      case rel =>
        refine ⟨A7, k + 1, c7, m / 128, f', ys ++ [UInt8.ofNat (m % 128 + 128)], rfl, rfl, hide ?_, hide ?_, hide ⟨?_, ?_, ?_⟩, hide hT10, hide ?_⟩
        · rw [List.map_append, ← List.append_assoc]
          simp only [List.map_cons, List.map_nil]
          rw [byteV_nat (by omega), show ((m % 128 + 128 : Nat) : Int) = (m : Int) % 128 + 128 by omega]
          exact HX10.out
        · rw [List.append_assoc, ← HY.out, HVF.out]
          rfl
        · have := HB.out.1
          rw [Nat.pow_succ] at this
          exact Nat.div_lt_of_lt_mul (by omega)
        · have := HB.out.2.1
          omega
        · have := HB.out.2.2
          omega
        · exact HF.out.up HF10.out (Nat.le_trans HT.out.size HTA.out.size)
      case measure =>
        have := HM.out
        simp only [intOf]
        omega
    · have m0 : ¬ (128 : Int) ≤ (m : Int) := by omega
      have m1 : (m : Int) % 256 = (m : Int) := by omega
      have hvf : varF f m = [UInt8.ofNat m] := by
        cases f with
        | zero => rfl
        | succ f' =>
          unfold varF
          rw [if_pos (by omega)]
      have HVF := hide hvf
      have HM := hide hm
      clear hvf
      obtain ⟨wa, hwa⟩ : ∃ y, y = wr.alloc (.cells #[.int .u8 (m : Int)] 5) := ⟨_, rfl⟩
      have hTa : Touch (fun _ => False) wr wa := by rw [hwa]; exact (Touch.refl _ _).alloc _
      have hrd : Reads wa 1 (some ⟨wr.heap.size, 0, none⟩) 1 [.int .u8 (m : Int)] := by
        rw [hwa]
        have h := Reads.new (size := 1) wr 5 [.int .u8 (m : Int)] 1 rfl
        simpa using h
      have hone : ∀ u ∈ ([.int .u8 (m : Int)] : List Value), u.oneCell' = true := by
        intro u hu
        rw [List.mem_singleton] at hu
        subst hu
        rfl
      have hbb : q + k + 1 ≤ maxLen ∧ (q + k + 1) * 1 ≤ 140737488355328 := by
        have h1 := HQ.out
        have h2 := HB.out.2.2
        unfold maxLen
        omega
      have HXA := hide (HX.out.to hTa)
      have HWA := hide hwa
      have HRD := hide hrd
      have HONE := hide hone
      have HBB := hide hbb
      have HTA := hide hTa
      clear hm hwa hTa hrd hone hbb
      go_wp2_with (at_builtin; rw [← HWA.out]; refine wpList_app _ rfl (.tmp 15) (.tmp 18) 32 rfl 5 i0 _ 1 1 Tryd.underlying32 hi0 hz0 hz1 hz2 rfl (by decide) (.slice A3 (q + k) c3) (q + k) _ rfl HXA.out.own (some ⟨wr.heap.size, 0, none⟩) 1 1 [.int .u8 (m : Int)] rfl HRD.out (fun h => by cases h) HONE.out HBB.out.1 HBB.out.2 ?_; intro v1 w10 O10 G10 F10 _; obtain ⟨A7, c7, hv, _, _⟩ := own_len O10; subst hv; have HX10 := hide (HXA.out.app O10 G10 F10); have HG10 := hide G10; have HF10 := hide F10; clear O10 G10 F10)
      have hT10 : Touch (fun g => (Value.slice A q c).ownBlock = some g) w w10 := (HT.out.then (HTA.out.up _)).trans ((Touch.refl (fun g => (Value.slice A3 (q + k) c3).ownBlock = some g) wa).grown HG10.out (fun k e _ => e)) (fun g hg e => by
        rcases HF.out with e2 | ⟨g', e2, hle⟩
        · exact e2.symm.trans e
        · rw [e2] at e
          injection e with e
          omega)
      go_ret
      refine ⟨A7, q + k + 1, c7, rfl, ?_, by have := HB.out.2.2; omega, hT10⟩
      have h := HX10.out
      rw [← HY.out, HVF.out, List.map_append, ← List.append_assoc]
      simp only [List.map_cons, List.map_nil]
      rw [byteV_nat (by have := HM.out; omega)]
      exact h

theorem put_any (w0 w : World) (A : Option Addr) (q c : Nat) (xs : List Value) (h : ONx 5 1 w0 w (.slice A q c) q xs) (n : Nat) (hn : n < 9223372036854775808) (hq : q ≤ 35184372088832) :
    Calls Tryd.prog 32 #[.slice A q c, .int .i64 n] w fun e w' => ∃ (A' : Option Addr) (q' c' : Nat), e = .returned (.slice A' q' c') ∧ ONx 5 1 w0 w' (.slice A' q' c') q' (xs ++ (varN n).map byteV) ∧ q' ≤ q + 10 ∧ Touch (fun g => (Value.slice A q c).ownBlock = some g) w w' := by
  have HP := hide (putuint_any w0 w A q c xs h n hn hq)
  have z1 : IntKind.u64.wrap (n : Int) = (n : Int) := IntWalk.u64_in _ (by omega)
  clear h hn hq
  go_enter Tryd.func32, Tryd.ntmps32
  go_wp2_with ((go_at_call 52; refine HP.out.mono ?_; rintro e w2 ⟨A', q', c', rfl, h2, hq2, T2⟩; have H2 := hide (And.intro h2 (And.intro hq2 T2)); clear h2 hq2 T2))
  go_ret
  exact ⟨A', q', c', rfl, H2.out⟩

end Go.Proofs.YtcmjohaohdgnjaaDoor
