/- ref02.Number, ref02.GetUint, ref02.End. Condition: there are no more than 2^40 bytes. ref02.GetUint and ref02.End on a reader's value; what ref08.Unpack reads, plainly. Condition: there are no more than 2^42 bytes. ref08.Unpack on any bytes. Condition: there are no more than 2^40 bytes. -/
import Derived.Test.YtcmjohaohdgnjaaDoorRbB
import Derived.Test.YtcmjohaohdgnjaaDoorParP
import Derived.Test.YtcmjohaohdgnjaaDoorRrW
namespace Go.Proofs.YtcmjohaohdgnjaaDoor
open Go.RowKit
set_option linter.unusedSectionVars false
set_option linter.unusedSimpArgs false
set_option linter.unusedVariables false

/-- What ref02.Number says of bytes. -/
def NumPost (xs : List UInt8) (e : Ending) : Prop :=
  (∃ (v k : Nat), numR xs = some (v, xs.drop k) ∧ 0 < k ∧ k ≤ xs.length ∧ v < 18446744073709551616 ∧ e = .returned (.tuple #[.int .u64 v, .int .i64 k, .int .i64 0])) ∨
  (numR xs = none ∧ ∃ k : Int, 1 ≤ k ∧ e = .returned (.tuple #[.int .u64 0, .int .i64 0, .int .i64 k]))
theorem byte_cell {w : World} {A : Option Addr} {n : Nat} {xs : List UInt8} (h : Reads w 1 A n (xs.map byteV)) (hl : xs.length = n) (i : Nat) (hi : i < n) :
    ∃ g off, A = some ⟨g, off, none⟩ ∧ w.cell? ⟨g, off + i, none⟩ = some (.int .u8 ((xs.getD i 0).toNat : Int)) := by
  obtain ⟨g, off, hA, _, hc⟩ := h.2 (by omega)
  refine ⟨g, off, hA, hc i _ ?_⟩
  simp [List.getD, byteV, show i < xs.length by omega]
theorem pow_small {i : Nat} (h : i ≤ 9) : 128 ^ i ≤ 9223372036854775808 := by
  have : 128 ^ i ≤ 128 ^ 9 := Nat.pow_le_pow_right (by omega) h
  exact Nat.le_trans this (by decide)
def P9 (i : Nat) : Nat := 128 ^ i
theorem p9_succ (i : Nat) : P9 (i + 1) = P9 i * 128 := Nat.pow_succ ..
theorem p9_le {i : Nat} (h : i ≤ 9) : P9 i ≤ 9223372036854775808 := pow_small h
theorem p9_le8 {i : Nat} (h : i ≤ 8) : P9 i ≤ 72057594037927936 := by
  have : 128 ^ i ≤ 128 ^ 8 := Nat.pow_le_pow_right (by omega) h
  exact Nat.le_trans this (by decide)
theorem mul_p9 {r i : Nat} (hr : r ≤ 127) : r * P9 i ≤ 127 * P9 i := Nat.mul_le_mul_right _ hr
theorem numG_step (i acc : Nat) (c : UInt8) (t : List UInt8) : numG i acc (c :: t) = if i = 9 ∧ 1 < c.toNat then none else if 128 ≤ c.toNat then numG (i + 1) (acc + (c.toNat - 128) * P9 i) t else if c.toNat = 0 ∧ 0 < i then none else some (acc + c.toNat * P9 i, t) := rfl
theorem getD_drop (xs : List UInt8) (i : Nat) (hi : i < xs.length) : xs.drop i = xs.getD i 0 :: xs.drop (i + 1) := by
  rw [List.drop_eq_getElem_cons hi]
  simp [List.getD, hi]

set_option maxRecDepth 100000 in
set_option maxHeartbeats 8000000 in
theorem rnumber_any (w : World) (A : Option Addr) (n c : Nat) (xs : List UInt8) (hr : Reads w 1 A n (xs.map byteV)) (hl : xs.length = n) (hn : n ≤ 4398046511104) :
    Calls Tryd.prog 57 #[.slice A n c] w fun e w' => NumPost xs e ∧ Touch (fun _ => False) w w' := by
  have HR := hide hr
  have HL := hide hl
  have HN := hide hn
  clear hr hl hn
  go_enter Tryd.func57, Tryd.ntmps57
  go_wp2_with fail
  go_loopw [5, 6, 7] (fun av pv iv wr => ∃ i acc P : Nat, av = .int .u64 acc ∧ pv = .int .u64 P ∧ iv = .int .i64 i ∧ i ≤ n ∧ Hid (numR xs = numG i acc (xs.drop i)) ∧ Hid (P = P9 i ∧ acc < P9 i ∧ i ≤ 9) ∧ Hid (Touch (fun _ => False) w wr)) (fun _ _ iv _ => n - (intOf iv).toNat)
  case atStart => exact ⟨0, 0, 1, rfl, rfl, rfl, Nat.zero_le _, hide rfl, hide ⟨rfl, by decide, by omega⟩, hide (Touch.refl _ _)⟩
  case round =>
    obtain ⟨i, acc, P, rfl, rfl, rfl, hin, HE, HP, HT⟩ := hrel
    by_cases hi2 : i < n
    · have y0 : (i : Int) < (n : Int) := by omega
      have y1 : (0 : Int) ≤ (i : Int) := by omega
      have y2 : IntKind.i64.wrap ((i : Int) + 1) = (i : Int) + 1 := IntWalk.i64_in _ (by have := HN.out; omega)
      obtain ⟨g, o, hA, c0⟩ := byte_cell (HR.out.touch HT.out (fun _ _ f => f)) HL.out i hi2
      subst hA
      have he := HE.out
      rw [getD_drop xs i (by rw [HL.out]; exact hi2), numG_step] at he
      obtain ⟨m, hm⟩ : ∃ m, m = (xs.getD i 0).toNat := ⟨_, rfl⟩
      have hm256 : m < 256 := by rw [hm]; exact UInt8.toNat_lt _
      rw [← hm] at he c0
      obtain ⟨hp1, hp2, hp3⟩ := HP.out
      have HI2 := hide hi2
      clear hm hi2 hin
      by_cases hA : i = 9 ∧ 1 < m
      · rw [if_pos hA] at he
        have HEE := hide he
        have g9 : ((i : Int) == 9) = true := by simp; omega
        have g1 : (1 : Int) < (m : Int) := by omega
        clear he hA hp1 hp2 hp3
        go_wp2_with fail
        exact bodyPost_ret (v := .tuple #[.int .u64 0, .int .i64 0, .int .i64 21]) (by simp [results, Tryd.results57, go_sem]) rfl ⟨.inr ⟨HEE.out, 21, by omega, rfl⟩, HT.out⟩
      · rw [if_neg hA] at he
        obtain ⟨r, hr⟩ : ∃ r, r = m % 128 := ⟨_, rfl⟩
        have hr127 : r ≤ 127 := by omega
        have e3 : Int.tmod (m : Int) 128 = (r : Int) := by rw [Int.tmod_eq_emod_of_nonneg (by omega)]; omega
        obtain ⟨Q, hQ⟩ : ∃ Q, Q = r * P := ⟨_, rfl⟩
        have hQP : Q ≤ 127 * P9 i := by rw [hQ, hp1]; exact mul_p9 hr127
        have hQ9 : i = 9 → Q ≤ P9 i := by
          intro h9
          have : r ≤ 1 := by omega
          rw [hQ, hp1]
          calc r * P9 i ≤ 1 * P9 i := Nat.mul_le_mul_right _ this
            _ = P9 i := Nat.one_mul _
        have hSb : acc + Q < 18446744073709551616 := by
          by_cases h9 : i = 9
          · have h1 := hQ9 h9
            have h2 := p9_le hp3
            omega
          · have h2 := p9_le8 (i := i) (by omega)
            omega
        have hQb : Q < 18446744073709551616 := by omega
        have z0 : IntKind.u8.wrap (r : Int) = (r : Int) := IntWalk.u8_in _ (by omega)
        have z1 : IntKind.u64.wrap (r : Int) = (r : Int) := IntWalk.u64_in _ (by omega)
        have z2 : IntKind.u64.wrap ((r : Int) * (P : Int)) = (Q : Int) := by
          rw [show (r : Int) * (P : Int) = (Q : Int) by rw [hQ]; push_cast; rfl]
          exact IntWalk.u64_in _ (by omega)
        obtain ⟨S, hS⟩ : ∃ S, S = acc + Q := ⟨_, rfl⟩
        have z3 : IntKind.u64.wrap ((acc : Int) + (Q : Int)) = (S : Int) := by
          rw [show (acc : Int) + (Q : Int) = (S : Int) by rw [hS]; push_cast; rfl]
          exact IntWalk.u64_in _ (by omega)
        obtain ⟨P2, hP2⟩ : ∃ P2 : Nat, IntKind.u64.wrap ((P : Int) * 128) = (P2 : Int) ∧ (i ≤ 8 → P2 = P9 (i + 1)) := by
          by_cases h8 : i ≤ 8
          · refine ⟨P9 (i + 1), ?_, fun _ => rfl⟩
            have h2 := p9_le8 h8
            rw [p9_succ, hp1]
            rw [show ((P9 i : Nat) : Int) * 128 = ((P9 i * 128 : Nat) : Int) by push_cast; rfl]
            exact IntWalk.u64_in _ (by omega)
          · have hPe : (P : Int) * 128 = 1180591620717411303424 := by
              rw [hp1, show i = 9 by omega]
              decide
            exact ⟨0, by rw [hPe]; decide, fun h => absurd h h8⟩
        obtain ⟨z4, hP28⟩ := hP2
        have HS := hide hS
        have HQ := hide (And.intro hQ hQP)
        have HRR := hide hr
        have HPP := hide (And.intro hp1 (And.intro hp2 hp3))
        have HP28 := hide hP28
        have HNA := hide hA
        have HSB := hide hSb
        clear hS hQ hQP hr hp1 hp2 hp3 hP28 hQ9 hSb hQb hr127
        have hgd : (((i : Int) == 9) = true ∧ ¬ (1 : Int) < (m : Int)) ∨ ((i : Int) == 9) = false := by
          by_cases h9 : i = 9
          · left
            exact ⟨by simp; omega, by omega⟩
          · right
            simp
            omega
        by_cases hB : 128 ≤ m
        · rw [if_pos hB] at he
          have g128 : ¬ (m : Int) < 128 := by omega
          have g9 : ((i : Int) == 9) = false := by
            rcases hgd with ⟨_, h⟩ | h
            · omega
            · exact h
          have hm128 : m - 128 = r := by have := HRR.out; omega
          rw [hm128] at he
          have HEE := hide he
          have h8 : i ≤ 8 := by
            have h1 := HPP.out.2.2
            have h2 : ¬ (i : Int) = 9 := by simpa using g9
            omega
          have HI8 := hide h8
          clear he hB hA hgd hm128 h8
          go_wp2_with fail
          go_roundw
          · refine ⟨i + 1, S, P2, rfl, rfl, by simp, by have := HI2.out; omega, hide ?_, hide ⟨HP28.out HI8.out, ?_, by have := HI8.out; omega⟩, HT⟩
            · rw [HEE.out, HS.out, HQ.out.1, HPP.out.1]
            · have h1 := HQ.out.2
              have h2 := HPP.out.2.1
              have h3 := HS.out
              rw [p9_succ]
              omega
          · have := HI2.out
            simp only [intOf]
            omega
        · rw [if_neg hB] at he
          have g128 : (m : Int) < 128 := by omega
          have hrm : r = m := by have := HRR.out; omega
          by_cases hZ : m = 0 ∧ 0 < i
          · rw [if_pos hZ] at he
            have HEE := hide he
            have gz : ((m : Int) == 0) = true := by simp; omega
            have gi : (0 : Int) < (i : Int) := by omega
            clear he hB hA hZ hrm
            rcases hgd with ⟨g9, g1⟩ | g9
            all_goals
              go_wp2_with fail
              exact bodyPost_ret (v := .tuple #[.int .u64 0, .int .i64 0, .int .i64 21]) (by simp [results, Tryd.results57, go_sem]) rfl ⟨.inr ⟨HEE.out, 21, by omega, rfl⟩, HT.out⟩
          · rw [if_neg hZ] at he
            have hfin : numR xs = some (S, xs.drop (i + 1)) := by
              rw [he, HS.out, HQ.out.1, HPP.out.1, hrm]
            have HEE := hide hfin
            have hgz : (((m : Int) == 0) = true ∧ ¬ (0 : Int) < (i : Int)) ∨ ((m : Int) == 0) = false := by
              by_cases h0 : m = 0
              · left
                exact ⟨by simp; omega, by omega⟩
              · right
                simp
                omega
            clear he hB hA hZ hrm hfin
            rcases hgd with ⟨g9, g1⟩ | g9
            all_goals
              rcases hgz with ⟨gz, gi⟩ | gz
              all_goals
                go_wp2_with fail
                exact bodyPost_ret (v := .tuple #[.int .u64 S, .int .i64 ((i : Int) + 1), .int .i64 0]) (by simp [results, Tryd.results57, go_sem]) rfl ⟨.inl ⟨S, i + 1, HEE.out, by omega, by have := HI2.out; have := HL.out; omega, by have := HSB.out; have := HS.out; omega, by simp⟩, HT.out⟩
    · have hie : i = n := by omega
      have y0 : ¬ (i : Int) < (n : Int) := by omega
      have he := HE.out
      rw [List.drop_of_length_le (by rw [HL.out]; omega)] at he
      have HEE := hide (show numR xs = none by rw [he]; rfl)
      clear he hie hi2 hin
      go_wp2_with fail
      exact bodyPost_ret (v := .tuple #[.int .u64 0, .int .i64 0, .int .i64 20]) (by simp [results, Tryd.results57, go_sem]) rfl ⟨.inr ⟨HEE.out, 20, by omega, rfl⟩, HT.out⟩

end Go.Proofs.YtcmjohaohdgnjaaDoor

namespace Go.Proofs.YtcmjohaohdgnjaaDoor
open Go.RowKit
set_option linter.unusedSectionVars false
set_option linter.unusedSimpArgs false
set_option linter.unusedVariables false

/-! ### the plain part -/
def arcsQ (i : Nat) : Nat → Int → List UInt8 → Option (List (Int × Int × Int) × List UInt8)
  | 0, _, xs => some ([], xs)
  | k + 1, l, xs => match uintR 1114111 xs with
    | none => none
    | some (d, t1) => match uintR 1048576 t1 with
      | none => none
      | some (o, t2) => match uintR 98305 t2 with
        | none => none
        | some (b, t3) => if 1114111 < l + (d : Int) then none else match arcsQ i k (l + d) t3 with
          | none => none
          | some (ars, t4) => some ((l + d, (o : Int), (i : Int) - (b : Int)) :: ars, t4)
def stQ (N i : Nat) (xs : List UInt8) : Option (StZ × List UInt8) := match uintR (2 * N + 1) xs with
  | none => none
  | some (n, t1) => match outR8 (decide (n % 2 = 1)) t1 with
    | none => none
    | some (o, t2) => match arcsQ i (n / 2) 0 t2 with
      | none => none
      | some (ars, t3) => some (⟨decide (n % 2 = 1), (o : Int), ars⟩, t3)
def stsQ (N : Nat) : Nat → Nat → List UInt8 → Option (List StZ × List UInt8)
  | 0, _, xs => some ([], xs)
  | k + 1, i, xs => match stQ N i xs with
    | none => none
    | some (s, t1) => match stsQ N k (i + 1) t1 with
      | none => none
      | some (l, t2) => some (s :: l, t2)
def machQ (N : Nat) (xs : List UInt8) : Option ((Nat × List StZ) × List UInt8) := match uintR 1048576 xs with
  | none => none
  | some (base, t1) => match uintR 98305 t1 with
    | none => none
    | some (n, t2) => match stsQ N n 0 t2 with
      | none => none
      | some (l, t3) => some ((base, l), t3)
theorem arcsQ_write (i : Nat) (hi : i ≤ 98305) : ∀ (l : List (Nat × Int × Nat)) (p : Nat) (t : List UInt8), (∀ a ∈ l, p ≤ a.1) → (l.map (·.1)).Pairwise (· < ·) → (∀ a ∈ l, a.1 < 1114112 ∧ 0 ≤ a.2.1 ∧ a.2.1 ≤ 1048576 ∧ a.2.2 < i) →
    arcsQ i l.length p (arcsB i p l ++ t) = some (l.map arcZ, t)
  | [], p, t, _, _, _ => rfl
  | a :: l, p, t, hp, hs, hb => by
    obtain ⟨h1, h2, h3, h4⟩ := hb a List.mem_cons_self
    have h5 := hp a List.mem_cons_self
    rw [List.map_cons, List.pairwise_cons] at hs
    have ih := arcsQ_write i hi l a.1 t (fun b hb' => Nat.le_of_lt (hs.1 _ (List.mem_map_of_mem hb'))) hs.2 (fun b hb' => hb b (List.mem_cons_of_mem _ hb'))
    simp only [arcsB, arcB, List.length_cons, arcsQ, List.append_assoc]
    rw [uintR_write (by omega) (by omega)]
    simp only
    rw [uintR_write (by omega) (by omega)]
    simp only
    rw [uintR_write (by omega) (by omega)]
    simp only
    have e : (p : Int) + ((a.1 - p : Nat) : Int) = (a.1 : Int) := by omega
    rw [e, if_neg (by omega), ih]
    simp only [List.map_cons, arcZ]
    rw [show ((a.2.1.toNat : Nat) : Int) = a.2.1 by omega, show (i : Int) - ((i - a.2.2 : Nat) : Int) = (a.2.2 : Int) by omega]
theorem stQ_write (N i : Nat) (hi : i ≤ 98305) {s : StP} (hf : FormP i s) (hlen : s.arcs.length ≤ 2097152) (t : List UInt8) (hN : (stB i s ++ t).length ≤ N) : stQ N i (stB i s ++ t) = some (s.z, t) := by
  have ha := arcsQ_write i hi s.arcs 0 t (fun _ _ => Nat.zero_le _) hf.lab (fun a h => by
    have h1 := (hf.run a h).1
    have h2 := hf.arc a h
    refine ⟨?_, h2⟩
    unfold scal at h1
    simp at h1
    omega)
  have hl := arcsB_len i s.arcs 0
  have ho0 := hf.out0
  have ho1 := hf.out1
  have hN2 : s.arcs.length ≤ N := by
    unfold stB at hN
    simp only [List.length_append] at hN
    omega
  unfold stQ stB headB
  by_cases hfin : s.fin = true
  · rw [if_pos hfin]
    simp only [List.append_assoc]
    rw [uintR_write (by omega) (by omega)]
    simp only [outR8]
    rw [if_pos (by simp), uintR_write (by omega) (by omega)]
    simp only
    rw [show (2 * s.arcs.length + 1) / 2 = s.arcs.length by omega]
    have ha' : arcsQ i s.arcs.length 0 (arcsB i 0 s.arcs ++ t) = some (s.arcs.map arcZ, t) := ha
    rw [ha']
    simp only [StP.z, hfin]
    rw [show decide ((2 * s.arcs.length + 1) % 2 = 1) = true by simp, show ((s.out.toNat : Nat) : Int) = s.out by omega]
  · have hff : s.fin = false := by simpa using hfin
    rw [if_neg hfin]
    simp only [List.append_assoc]
    rw [uintR_write (by omega) (by omega)]
    simp only [outR8]
    rw [if_neg (by simp)]
    simp only
    rw [show (2 * s.arcs.length) / 2 = s.arcs.length by omega]
    have ha' : arcsQ i s.arcs.length 0 (arcsB i 0 s.arcs ++ t) = some (s.arcs.map arcZ, t) := ha
    rw [ha']
    simp only [StP.z, hff]
    rw [show decide ((2 * s.arcs.length) % 2 = 1) = false by simp, hf.fin0 hff]
    rfl
theorem stsQ_write (N : Nat) : ∀ (l : List StP) (i : Nat) (t : List UInt8), i + l.length ≤ 98305 → (∀ j, j < l.length → FormP (i + j) (l.getD j noSt)) → (stsB i l ++ t).length ≤ N → stsQ N l.length i (stsB i l ++ t) = some (l.map StP.z, t)
  | [], _, _, _, _, _ => rfl
  | s :: l, i, t, hi, hf, hN => by
    have h0 := hf 0 (by simp)
    simp only [Nat.add_zero, List.getD_cons_zero] at h0
    have hl : (s :: l).length = l.length + 1 := rfl
    rw [hl] at hi
    simp only [stsB, List.append_assoc] at hN
    have ih := stsQ_write N l (i + 1) t (by omega) (fun j hj => by
      have h := hf (j + 1) (by rw [hl]; omega)
      rw [List.getD_cons_succ, show i + (j + 1) = i + 1 + j by omega] at h
      exact h) (by rw [List.length_append] at hN; omega)
    simp only [stsB, List.length_cons, stsQ, List.append_assoc]
    rw [stQ_write N i (by omega) h0 (form_few h0) _ hN]
    simp only
    rw [ih]
    rfl
theorem machQ_write {sts : List StP} {base : Nat} (hb : base ≤ 1048576) (hn : sts.length ≤ 98305) (hf : ∀ i, i < sts.length → FormP i (sts.getD i noSt)) (N : Nat) (hN : (packB base sts).length ≤ N) : machQ N (packB base sts) = some ((base, sts.map StP.z), []) := by
  have h := stsQ_write N sts 0 [] (by omega) (fun j hj => by rw [Nat.zero_add]; exact hf j hj) (by
    unfold packB at hN
    rw [List.length_append] at hN
    rw [List.append_nil]
    omega)
  rw [List.append_nil] at h
  unfold machQ packB topB
  simp only [List.append_assoc, Int.toNat_natCast]
  rw [uintR_write hb (by omega)]
  simp only
  rw [uintR_write hn (by omega)]
  simp only
  rw [h]
theorem uintR_num (most : Nat) (xs : List UInt8) : uintR most xs = match numR xs with
  | none => none
  | some (n, t) => if n ≤ most then some (n, t) else none := rfl
theorem uintR_drop {most v : Nat} {xs t : List UInt8} (h : uintR most xs = some (v, t)) : ∃ k, t = xs.drop k ∧ 0 < k ∧ k ≤ xs.length := by
  obtain ⟨h1, _⟩ := uintR_read h
  have := varN_pos v
  refine ⟨(varN v).length, ?_, this, ?_⟩
  · rw [h1]
    simp
  · rw [h1, List.length_append]
    omega

/-! ### the walks -/
/-- A reader's value: what is left to be read. -/
def RdV (A : Option Addr) (n c : Nat) (p : Int) (e : Int) : Value := .agg #[.slice A n c, .int .i64 p, .int .i64 e]
/-- What ref02.GetUint tells: the reader behind it. -/
def GetPost (A : Option Addr) (n c : Nat) (xs : List UInt8) (p : Nat) (most : Nat) (e : Ending) : Prop :=
  (∃ v k : Nat, uintR most (xs.drop p) = some (v, xs.drop (p + k)) ∧ p + k ≤ n ∧ v ≤ most ∧ e = .returned (.tuple #[RdV A n c ((p + k : Nat) : Int) 0, .int .u64 v])) ∨
  (uintR most (xs.drop p) = none ∧ ∃ k : Int, 1 ≤ k ∧ e = .returned (.tuple #[RdV A n c p k, .int .u64 0]))
theorem cut_bytes {w : World} {A : Option Addr} {n c : Nat} {xs : List UInt8} (h : Reads w 1 A n (xs.map byteV)) {p : Nat} (hp : p ≤ n) (hc : n ≤ c) :
    Reads w 1 (if c = p then A else A.map (·.add p)) (n - p) ((xs.drop p).map byteV) := by
  have := h.cut (cap := c) hp hc
  simp only [Nat.mul_one] at this
  rw [← List.map_drop] at this
  exact this

set_option maxRecDepth 100000 in
set_option maxHeartbeats 4000000 in
theorem rgetuint_any (w : World) (A : Option Addr) (n c : Nat) (xs : List UInt8) (hr : Reads w 1 A n (xs.map byteV)) (hl : xs.length = n) (hn : n ≤ 4398046511104) (hnc : n ≤ c) (hA : A = none → n = 0 ∧ c = 0) (p : Nat) (hp : p ≤ n) (most : Nat) :
    Calls Tryd.prog 39 #[RdV A n c p 0, .int .u64 most] w fun e w' => GetPost A n c xs p most e ∧ Touch (fun _ => False) w w' := by
  obtain ⟨w1, hw1⟩ : ∃ x, x = (w.alloc (.cells #[.slice A n c, .int .i64 p, .int .i64 0] 83)).alloc (.cells #[.slice none 0 0, .int .i64 0, .int .i64 0] 83) := ⟨_, rfl⟩
  have hT1 : Touch (fun _ => False) w w1 := by rw [hw1]; exact ((Touch.refl _ _).alloc _).alloc _
  have hb1 : Blk w1 w.heap.size 83 #[.slice A n c, .int .i64 p, .int .i64 0] := by rw [hw1]; exact (Blk.new _ _ _).alloc _
  have hb2 : Blk w1 (w.heap.size + 1) 83 #[.slice none 0 0, .int .i64 0, .int .i64 0] := by rw [hw1]; exact blk_new1 _ _ _ _
  have y0 : (0 : Int) ≤ (p : Int) := by omega
  have y1 : (p : Int) ≤ (n : Int) := by omega
  have y2 : (n : Int) ≤ (c : Int) := by omega
  have y3 : (p : Int) ≤ (c : Int) := by omega
  have hdl : (xs.drop p).length = n - p := by rw [List.length_drop, hl]
  have HT1 := hide hT1
  have HB1 := hide hb1
  have HB2 := hide hb2
  have HW1 := hide hw1
  have HDL := hide hdl
  have HPN := hide (And.intro hp hn)
  unfold RdV
  by_cases hpn : p < n
  · obtain ⟨ad, rfl⟩ : ∃ ad, A = some ad := by
      cases A with
      | none => have := (hA rfl).1; omega
      | some ad => exact ⟨ad, rfl⟩
    have hcp : ¬ c = p := by omega
    have hcut := cut_bytes (hr.touch hT1 (fun _ _ f => f)) hp hnc
    rw [if_neg hcp] at hcut
    have hcall := rnumber_any w1 (some (ad.add p)) (n - p) (c - p) (xs.drop p) hcut hdl (by omega)
    have HC := hide hcall
    clear hcall hcut hr hl hn hnc hA hT1 hb1 hb2 hw1 hdl hp
    go_enter Tryd.func39, Tryd.ntmps39
    go_wp2_with fail
    rw [← HW1.out]
    refine HC.out.mono ?_
    rintro e w2 ⟨⟨v, k, h1, hk0, hk1, hv, rfl⟩ | ⟨h1, k, hk, rfl⟩, T2⟩
    · have hkn : p + k ≤ n := by have := HDL.out; have := HPN.out.1; omega
      have z1 : IntKind.i64.wrap ((p : Int) + (k : Int)) = (p : Int) + (k : Int) := IntWalk.i64_in _ (by have := HPN.out.2; omega)
      obtain ⟨r0, r1, r2⟩ := (HB1.out.touch T2 (fun f => f)).facts
      obtain ⟨q0, q1, q2⟩ := (HB2.out.touch T2 (fun f => f)).facts
      have HT2 := hide (HT1.out.then T2)
      have HKN := hide hkn
      have hu := uintR_num most (xs.drop p)
      rw [h1] at hu
      simp only at hu
      by_cases hvm : v ≤ most
      · rw [if_pos hvm, List.drop_drop] at hu
        have g0 : ¬ (most : Int) < (v : Int) := by omega
        have g1 : decide ((most : Int) < (v : Int)) = false := by simp; omega
        have HU := hide hu
        have HVM := hide hvm
        clear hu hvm h1 hk0 hk1 hv T2 hkn HC
        go_wp2_with fail
        refine bodyPost_ret (v := .tuple #[.agg #[.slice _ n c, .int .i64 ((p : Int) + (k : Int)), .int .i64 0], .int .u64 v]) (by simp [results, Tryd.results39, go_sem, q0, q1]; try rfl) rfl ⟨.inl ⟨v, k, HU.out, HKN.out, HVM.out, by simp [RdV]⟩, ?_⟩
        repeat' first | exact HT2.out | exact Touch.drew ?_ | exact Touch.drewN ?_ _ | refine Touch.setCell ?_ (fun h => by simp only at h; omega) _
      · rw [if_neg hvm] at hu
        have g0 : (most : Int) < (v : Int) := by omega
        have g1 : decide ((most : Int) < (v : Int)) = true := by simp; omega
        have HU := hide hu
        clear hu hvm h1 hk0 hk1 hv T2 hkn HC
        go_wp2_with fail
        refine bodyPost_ret (v := .tuple #[.agg #[.slice _ n c, .int .i64 p, .int .i64 22], .int .u64 0]) (by simp [results, Tryd.results39, go_sem, q0, q1]; try rfl) rfl ⟨.inr ⟨HU.out, 22, by omega, rfl⟩, ?_⟩
        repeat' first | exact HT2.out | exact Touch.drew ?_ | exact Touch.drewN ?_ _ | refine Touch.setCell ?_ (fun h => by simp only at h; omega) _
    · have k0 : (k != 0) = true := by simp; omega
      have k1 : (k == 0) = false := by simp; omega
      obtain ⟨r0, r1, r2⟩ := (HB1.out.touch T2 (fun f => f)).facts
      obtain ⟨q0, q1, q2⟩ := (HB2.out.touch T2 (fun f => f)).facts
      have HT2 := hide (HT1.out.then T2)
      have hu := uintR_num most (xs.drop p)
      rw [h1] at hu
      have HU := hide (show uintR most (xs.drop p) = none from hu)
      have HK := hide hk
      clear hu h1 hk T2 HC
      go_wp2_with fail
      refine bodyPost_ret (v := .tuple #[.agg #[.slice _ n c, .int .i64 p, .int .i64 k], .int .u64 0]) (by simp [results, Tryd.results39, go_sem, q0, q1]; try rfl) rfl ⟨.inr ⟨HU.out, k, HK.out, rfl⟩, ?_⟩
      repeat' first | exact HT2.out | exact Touch.drew ?_ | exact Touch.drewN ?_ _ | refine Touch.setCell ?_ (fun h => by simp only at h; omega) _
  · have hdn : xs.drop p = [] := List.drop_of_length_le (by omega)
    have hnp : n - p = 0 := by omega
    have hcall : ∀ A' m' c', m' = 0 → Calls Tryd.prog 57 #[.slice A' m' c'] w1 fun e w' => (∃ k : Int, 1 ≤ k ∧ e = .returned (.tuple #[.int .u64 0, .int .i64 0, .int .i64 k])) ∧ Touch (fun _ => False) w1 w' := fun A' m' c' h0 => by
      subst h0
      refine (rnumber_any w1 A' 0 c' [] (Reads.nil _ _ _) rfl (Nat.zero_le _)).mono ?_
      rintro e w' ⟨⟨v, k, h1, _⟩ | ⟨_, h2⟩, T⟩
      · cases h1
      · exact ⟨h2, T⟩
    have hu : uintR most (xs.drop p) = none := by rw [hdn]; rfl
    have HU := hide hu
    have HC := hide hcall
    have HNP := hide hnp
    cases A with
    | none =>
      obtain ⟨h0, h1⟩ := hA rfl
      have hp0 : p = 0 := by omega
      subst h0
      subst h1
      subst hp0
      have hz : ((0 : Nat) : Int) = 0 := rfl
      rw [hz] at HB1 HW1 ⊢
      clear hcall hr hl hn hnc hA hT1 hb1 hb2 hw1 hdl hp hdn hpn hnp hu hz
      go_enter Tryd.func39, Tryd.ntmps39
      go_wp2_with fail
      rw [← HW1.out]
      replace HC := hide (HC.out none 0 0 rfl)
      refine HC.out.mono ?_
      rintro e w2 ⟨⟨k, hk, rfl⟩, T2⟩
      have k0 : (k != 0) = true := by simp; omega
      have k1 : (k == 0) = false := by simp; omega
      obtain ⟨r0, r1, r2⟩ := (HB1.out.touch T2 (fun f => f)).facts
      obtain ⟨q0, q1, q2⟩ := (HB2.out.touch T2 (fun f => f)).facts
      have HT2 := hide (HT1.out.then T2)
      have HK := hide hk
      clear hk T2 HC
      go_wp2_with fail
      refine bodyPost_ret (v := .tuple #[.agg #[.slice _ 0 0, .int .i64 0, .int .i64 k], .int .u64 0]) (by simp [results, Tryd.results39, go_sem, q0, q1]; try rfl) rfl ⟨.inr ⟨HU.out, k, HK.out, rfl⟩, ?_⟩
      repeat' first | exact HT2.out | exact Touch.drew ?_ | exact Touch.drewN ?_ _ | refine Touch.setCell ?_ (fun h => by simp only at h; omega) _
    | some ad =>
      by_cases hcp : p = c
      · subst hcp
        clear hcall hr hl hn hnc hA hT1 hb1 hb2 hw1 hdl hp hdn hpn hnp hu
        go_enter Tryd.func39, Tryd.ntmps39
        go_wp2_with fail
        rw [← HW1.out]
        replace HC := hide (HC.out (some ad) (n - p) 0 HNP.out)
        refine HC.out.mono ?_
        rintro e w2 ⟨⟨k, hk, rfl⟩, T2⟩
        have k0 : (k != 0) = true := by simp; omega
        have k1 : (k == 0) = false := by simp; omega
        obtain ⟨r0, r1, r2⟩ := (HB1.out.touch T2 (fun f => f)).facts
        obtain ⟨q0, q1, q2⟩ := (HB2.out.touch T2 (fun f => f)).facts
        have HT2 := hide (HT1.out.then T2)
        have HK := hide hk
        clear hk T2 HC
        go_wp2_with fail
        refine bodyPost_ret (v := .tuple #[.agg #[.slice _ n p, .int .i64 p, .int .i64 k], .int .u64 0]) (by simp [results, Tryd.results39, go_sem, q0, q1]; try rfl) rfl ⟨.inr ⟨HU.out, k, HK.out, rfl⟩, ?_⟩
        repeat' first | exact HT2.out | exact Touch.drew ?_ | exact Touch.drewN ?_ _ | refine Touch.setCell ?_ (fun h => by simp only at h; omega) _
      · have hcp2 : ¬ c = p := fun h => hcp h.symm
        clear hcall hr hl hn hnc hA hT1 hb1 hb2 hw1 hdl hp hdn hpn hnp hu
        go_enter Tryd.func39, Tryd.ntmps39
        go_wp2_with fail
        rw [← HW1.out]
        replace HC := hide (HC.out (some (ad.add p)) (n - p) (c - p) HNP.out)
        refine HC.out.mono ?_
        rintro e w2 ⟨⟨k, hk, rfl⟩, T2⟩
        have k0 : (k != 0) = true := by simp; omega
        have k1 : (k == 0) = false := by simp; omega
        obtain ⟨r0, r1, r2⟩ := (HB1.out.touch T2 (fun f => f)).facts
        obtain ⟨q0, q1, q2⟩ := (HB2.out.touch T2 (fun f => f)).facts
        have HT2 := hide (HT1.out.then T2)
        have HK := hide hk
        clear hk T2 HC
        go_wp2_with fail
        refine bodyPost_ret (v := .tuple #[.agg #[.slice _ n c, .int .i64 p, .int .i64 k], .int .u64 0]) (by simp [results, Tryd.results39, go_sem, q0, q1]; try rfl) rfl ⟨.inr ⟨HU.out, k, HK.out, rfl⟩, ?_⟩
        repeat' first | exact HT2.out | exact Touch.drew ?_ | exact Touch.drewN ?_ _ | refine Touch.setCell ?_ (fun h => by simp only at h; omega) _
set_option maxRecDepth 100000 in
set_option maxHeartbeats 4000000 in
theorem rgetuint_no (w : World) (A : Option Addr) (n c : Nat) (p : Int) (k : Int) (hk : 1 ≤ k) (most : Nat) :
    Calls Tryd.prog 39 #[RdV A n c p k, .int .u64 most] w fun e w' => e = .returned (.tuple #[RdV A n c p k, .int .u64 0]) ∧ Touch (fun _ => False) w w' := by
  have k0 : (k != 0) = true := by simp; omega
  have k1 : (k == 0) = false := by simp; omega
  unfold RdV
  go_enter Tryd.func39, Tryd.ntmps39
  go_wp2_with fail
  exact bodyPost_ret (v := .tuple #[.agg #[.slice A n c, .int .i64 p, .int .i64 k], .int .u64 0]) (by simp [results, Tryd.results39, go_sem]) rfl ⟨rfl, ((Touch.refl _ _).alloc _).alloc _⟩
set_option maxRecDepth 100000 in
theorem rend_any (w : World) (A : Option Addr) (n c : Nat) (p : Nat) (k : Int) :
    Calls Tryd.prog 40 #[RdV A n c p k] w fun e w' => (∃ k' : Int, e = .returned (.int .i64 k') ∧ (k' = 0 ↔ (k = 0 ∧ n ≤ p))) ∧ Touch (fun _ => False) w w' := by
  unfold RdV
  by_cases hk : k = 0
  · subst hk
    by_cases hp : p < n
    · have y0 : (p : Int) < (n : Int) := by omega
      go_enter Tryd.func40, Tryd.ntmps40
      go_wp2_with fail
      go_ret
      exact ⟨⟨23, rfl, by omega⟩, (Touch.refl _ _).alloc _⟩
    · have y0 : ¬ (p : Int) < (n : Int) := by omega
      go_enter Tryd.func40, Tryd.ntmps40
      go_wp2_with fail
      go_ret
      exact ⟨⟨0, rfl, by omega⟩, (Touch.refl _ _).alloc _⟩
  · have k1 : (k == 0) = false := by simp; omega
    go_enter Tryd.func40, Tryd.ntmps40
    go_wp2_with fail
    go_ret
    exact ⟨⟨k, rfl, by omega⟩, (Touch.refl _ _).alloc _⟩

end Go.Proofs.YtcmjohaohdgnjaaDoor

namespace Go.Proofs.YtcmjohaohdgnjaaDoor
open Go.RowKit
set_option linter.unusedSectionVars false
set_option linter.unusedSimpArgs false
set_option linter.unusedVariables false
variable [Inhabited BaseT]

/-! ### what is still to be read -/
def contS (N many bn : Nat) (Zp : List StZ) (i : Nat) (t : List UInt8) : Option ((Nat × List StZ) × List UInt8) := match stsQ N (many - i) i t with
  | none => none
  | some (l, t') => some ((bn, Zp ++ l), t')
def contA (N many bn : Nat) (Zp : List StZ) (i : Nat) (fin : Bool) (out : Int) (acc : List (Int × Int × Int)) (k : Nat) (last : Int) (t : List UInt8) : Option ((Nat × List StZ) × List UInt8) := match arcsQ i k last t with
  | none => none
  | some (ars, t3) => contS N many bn (Zp ++ [⟨fin, out, acc ++ ars⟩]) (i + 1) t3
theorem contS_end {N many bn : Nat} {Zp : List StZ} {i : Nat} {t : List UInt8} (h : many ≤ i) : contS N many bn Zp i t = some ((bn, Zp), t) := by
  unfold contS
  rw [show many - i = 0 by omega]
  simp [stsQ]
theorem contS_step {N many bn : Nat} {Zp : List StZ} {i : Nat} {t : List UInt8} (h : i < many) : contS N many bn Zp i t = match uintR (2 * N + 1) t with
    | none => none
    | some (v, t1) => match outR8 (decide (v % 2 = 1)) t1 with
      | none => none
      | some (o, t2) => contA N many bn Zp i (decide (v % 2 = 1)) (o : Int) [] (v / 2) 0 t2 := by
  unfold contS contA
  obtain ⟨k, hk⟩ : ∃ k, many - i = k + 1 := ⟨many - i - 1, by omega⟩
  have hk2 : many - (i + 1) = k := by omega
  rw [hk]
  simp only [stsQ, stQ]
  cases uintR (2 * N + 1) t with
  | none => rfl
  | some x =>
    obtain ⟨v, t1⟩ := x
    simp only
    cases outR8 (decide (v % 2 = 1)) t1 with
    | none => rfl
    | some y =>
      obtain ⟨o, t2⟩ := y
      simp only
      cases arcsQ i (v / 2) 0 t2 with
      | none => rfl
      | some z =>
        obtain ⟨ars, t3⟩ := z
        simp only [contS, hk2]
        cases stsQ N k (i + 1) t3 with
        | none => rfl
        | some u =>
          obtain ⟨l, t4⟩ := u
          simp
theorem contA_end {N many bn : Nat} {Zp : List StZ} {i : Nat} {fin : Bool} {out : Int} {acc : List (Int × Int × Int)} {last : Int} {t : List UInt8} : contA N many bn Zp i fin out acc 0 last t = contS N many bn (Zp ++ [⟨fin, out, acc⟩]) (i + 1) t := by
  simp [contA, arcsQ]
theorem contA_step {N many bn : Nat} {Zp : List StZ} {i : Nat} {fin : Bool} {out : Int} {acc : List (Int × Int × Int)} {k : Nat} {last : Int} {t : List UInt8} : contA N many bn Zp i fin out acc (k + 1) last t = match uintR 1114111 t with
    | none => none
    | some (d, t1) => match uintR 1048576 t1 with
      | none => none
      | some (o, t2) => match uintR 98305 t2 with
        | none => none
        | some (b, t3) => if 1114111 < last + (d : Int) then none else contA N many bn Zp i fin out (acc ++ [(last + d, (o : Int), (i : Int) - (b : Int))]) k (last + d) t3 := by
  unfold contA
  simp only [arcsQ]
  cases uintR 1114111 t with
  | none => rfl
  | some x =>
    obtain ⟨d, t1⟩ := x
    simp only
    cases uintR 1048576 t1 with
    | none => rfl
    | some y =>
      obtain ⟨o, t2⟩ := y
      simp only
      cases uintR 98305 t2 with
      | none => rfl
      | some z =>
        obtain ⟨b, t3⟩ := z
        simp only
        by_cases h : 1114111 < last + (d : Int)
        · rw [if_pos h, if_pos h]
        · rw [if_neg h, if_neg h]
          cases arcsQ i k (last + d) t3 with
          | none => rfl
          | some u =>
            obtain ⟨ars, t4⟩ := u
            simp
/-- ref02.GetUint on a reader that may have failed. -/
def GetB (xs : List UInt8) (most p : Nat) (e : Int) (p' : Nat) (e' : Int) (v : Nat) : Prop :=
  p' ≤ xs.length ∧ v ≤ most ∧ 0 ≤ e' ∧ ((e = 0 ∧ e' = 0 ∧ uintR most (xs.drop p) = some (v, xs.drop p')) ∨ (1 ≤ e' ∧ (e = 0 → uintR most (xs.drop p) = none)))
theorem rget_any (w : World) (A : Option Addr) (n c : Nat) (xs : List UInt8) (hr : Reads w 1 A n (xs.map byteV)) (hl : xs.length = n) (hn : n ≤ 4398046511104) (hnc : n ≤ c) (hA : A = none → n = 0 ∧ c = 0) (p : Nat) (hp : p ≤ n) (e : Int) (he : 0 ≤ e) (most : Nat) :
    Calls Tryd.prog 39 #[.agg #[.slice A n c, .int .i64 p, .int .i64 e], .int .u64 most] w fun en w' => ∃ (p' : Nat) (e' : Int) (v : Nat), en = .returned (.tuple #[.agg #[.slice A n c, .int .i64 p', .int .i64 e'], .int .u64 v]) ∧ GetB xs most p e p' e' v ∧ Touch (fun _ => False) w w' := by
  by_cases h0 : e = 0
  · subst h0
    refine (rgetuint_any w A n c xs hr hl hn hnc hA p hp most).mono ?_
    rintro en w' ⟨⟨v, k, h1, h2, h3, rfl⟩ | ⟨h1, k, hk, rfl⟩, T⟩
    · exact ⟨p + k, 0, v, rfl, ⟨by omega, h3, Int.le_refl _, .inl ⟨rfl, rfl, h1⟩⟩, T⟩
    · exact ⟨p, k, 0, rfl, ⟨by omega, Nat.zero_le _, by omega, .inr ⟨hk, fun _ => h1⟩⟩, T⟩
  · refine (rgetuint_no w A n c p e (by omega) most).mono ?_
    rintro en w' ⟨rfl, T⟩
    exact ⟨p, e, 0, rfl, ⟨by omega, Nat.zero_le _, he, .inr ⟨by omega, fun h => absurd h h0⟩⟩, T⟩

/-! ### memory -/
def Rt : TypeId := 83
/-- What ref08.Unpack holds between two states. -/
structure QI (w wr : World) (A : Option Addr) (n c : Nat) (p : Nat) (e : Int) (base : Int) (sA : Option Addr) (i sc : Nat) (Z : List ZV) : Prop where
  res : Blk wr w.heap.size 24 #[.int .i64 0, .slice none 0 0]
  rd : Blk wr (w.heap.size + 1) 83 #[.slice A n c, .int .i64 p, .int .i64 e]
  mc : Blk wr (w.heap.size + 1 + 1) 24 #[.int .i64 base, .slice sA i sc]
  own : wr.ownsRow 0 44 3 (.slice sA i sc) i (zCells Z)
  len : Z.length = i
  el : ∀ z ∈ Z, z.Ok wr
  touch : Touch (fun _ => False) w wr
  yo : ∀ g, (Value.slice sA i sc).ownBlock = some g → w.heap.size ≤ g
theorem QI.quiet {w wr wx : World} {A : Option Addr} {n c p : Nat} {e base : Int} {sA : Option Addr} {i sc : Nat} {Z : List ZV} (h : QI w wr A n c p e base sA i sc Z) (T : Touch (fun _ => False) wr wx) : QI w wx A n c p e base sA i sc Z :=
  ⟨h.res.touch T (fun f => f), h.rd.touch T (fun f => f), h.mc.touch T (fun f => f), own_touch h.own T (fun _ _ f => f), h.len, fun z hz => (h.el z hz).quiet T, h.touch.then T, h.yo⟩
/-- A store of a reader into its variable. -/
def setR (w : World) (b : Nat) (A : Option Addr) (n c : Nat) (p e : Int) : World := ((w.setCell ⟨b, 0, none⟩ (.slice A n c)).setCell ⟨b, 1, none⟩ (.int .i64 p)).setCell ⟨b, 2, none⟩ (.int .i64 e)
theorem setR_touch (w : World) (b : Nat) (A : Option Addr) (n c : Nat) (p e : Int) : Touch (fun g => g = b) w (setR w b A n c p e) := by
  unfold setR
  exact (((Touch.refl (fun g => g = b) w).setCell (fun _ => rfl) _).setCell (fun _ => rfl) _).setCell (fun _ => rfl) _
theorem setR_blk {w : World} {b : Nat} {t : TypeId} {x y z : Value} (h : Blk w b t #[x, y, z]) (A : Option Addr) (n c : Nat) (p e : Int) : Blk (setR w b A n c p e) b t #[.slice A n c, .int .i64 p, .int .i64 e] := by
  have h1 := ((h.set_ 0 (.slice A n c)).set_ 1 (.int .i64 p)).set_ 2 (.int .i64 e)
  simpa [setR] using h1
theorem QI.setR {w wr : World} {A : Option Addr} {n c p : Nat} {e base : Int} {sA : Option Addr} {i sc : Nat} {Z : List ZV} (h : QI w wr A n c p e base sA i sc Z) (hbs : bs ≤ w.heap.size) (p' : Nat) (e' : Int) : QI w (setR wr (w.heap.size + 1) A n c p' e') A n c p' e' base sA i sc Z := by
  have T := setR_touch wr (w.heap.size + 1) A n c p' e'
  refine ⟨h.res.touch T (by omega), setR_blk h.rd _ _ _ _ _, h.mc.touch T (by omega), own_touch h.own T (fun g hg e => (own_ty h.own hg).ne (blk_ty h.rd) (by decide) e), h.len, fun z hz => (h.el z hz).touch T (fun g hg e => hg.ne (blk_ty h.rd) (by decide) (by omega) e), h.touch.trans T (fun g hg e => by omega), h.yo⟩

theorem QI.far {w wr0 wr : World} {A : Option Addr} {n c p0 p : Nat} {e0 e base : Int} {sA : Option Addr} {i sc : Nat} {Z : List ZV} (h : QI w wr0 A n c p0 e0 base sA i sc Z) (hbs : bs ≤ w.heap.size) (T : Touch (fun g => g = w.heap.size + 1) wr0 wr) (hr : Blk wr (w.heap.size + 1) 83 #[.slice A n c, .int .i64 p, .int .i64 e]) : QI w wr A n c p e base sA i sc Z :=
  ⟨h.res.touch T (by omega), hr, h.mc.touch T (by omega), own_touch h.own T (fun g hg e => (own_ty h.own hg).ne (blk_ty h.rd) (by decide) e), h.len, fun z hz => (h.el z hz).touch T (fun g hg e => hg.ne (blk_ty h.rd) (by decide) (by omega) e), h.touch.trans T (fun g hg e => by omega), h.yo⟩
theorem QI.setBase {w wr : World} {A : Option Addr} {n c p : Nat} {e base : Int} {sA : Option Addr} {i sc : Nat} {Z : List ZV} (h : QI w wr A n c p e base sA i sc Z) (hbs : bs ≤ w.heap.size) (b' : Int) : QI w (wr.setCell ⟨w.heap.size + 1 + 1, 0, none⟩ (.int .i64 b')) A n c p e b' sA i sc Z := by
  have T : Touch (fun g => g = w.heap.size + 1 + 1) wr (wr.setCell ⟨w.heap.size + 1 + 1, 0, none⟩ (.int .i64 b')) := (Touch.refl (fun g => g = w.heap.size + 1 + 1) wr).setCell (fun _ => rfl) _
  refine ⟨h.res.touch T (by omega), h.rd.touch T (by omega), ?_, own_touch h.own T (fun g hg e => (own_ty h.own hg).ne (blk_ty h.mc) (by decide) e), h.len, fun z hz => (h.el z hz).touch T (fun g hg e => hg.ne (blk_ty h.mc) (by decide) (by omega) e), h.touch.trans T (fun g hg e => by omega), h.yo⟩
  have := h.mc.set_ 0 (.int .i64 b')
  simpa using this
/-- A state that is being read. -/
structure SQ (w wr0 wr : World) (A : Option Addr) (n c p : Nat) (e : Int) (S : Nat) (fin : Bool) (out : Int) (aA : Option Addr) (ai ac : Nat) (acc : List (Int × Int × Int)) : Prop where
  t0 : Touch (fun g => g = w.heap.size + 1) wr0 wr
  rd : Blk wr (w.heap.size + 1) 83 #[.slice A n c, .int .i64 p, .int .i64 e]
  st : Blk wr S 44 #[.bool fin, .int .i64 out, .slice aA ai ac]
  arc : wr.ownsRow 0 74 3 (.slice aA ai ac) ai (zaCells acc)
  al : acc.length = ai
  ay : ∀ g, (Value.slice aA ai ac).ownBlock = some g → wr0.heap.size ≤ g
  sy : wr0.heap.size ≤ S
section
variable {w wr0 wr wx : World} {A : Option Addr} {n c p : Nat} {e : Int} {S : Nat} {fin : Bool} {out : Int} {aA : Option Addr} {ai ac : Nat} {acc : List (Int × Int × Int)}
theorem SQ.quiet (h : SQ w wr0 wr A n c p e S fin out aA ai ac acc) (T : Touch (fun _ => False) wr wx) : SQ w wr0 wx A n c p e S fin out aA ai ac acc :=
  ⟨h.t0.then (T.up _), h.rd.touch T (fun f => f), h.st.touch T (fun f => f), own_touch h.arc T (fun _ _ f => f), h.al, h.ay, h.sy⟩
theorem SQ.setR (h : SQ w wr0 wr A n c p e S fin out aA ai ac acc) (p' : Nat) (e' : Int) : SQ w wr0 (setR wr (w.heap.size + 1) A n c p' e') A n c p' e' S fin out aA ai ac acc := by
  have T := setR_touch wr (w.heap.size + 1) A n c p' e'
  exact ⟨h.t0.then T, setR_blk h.rd _ _ _ _ _, h.st.touch T (fun e => (blk_ty h.st).ne (blk_ty h.rd) (by decide) e), own_touch h.arc T (fun g hg e => (own_ty h.arc hg).ne (blk_ty h.rd) (by decide) e), h.al, h.ay, h.sy⟩
theorem SQ.setS (h : SQ w wr0 wr A n c p e S fin out aA ai ac acc) {k : Nat} {u : Value} {fin' : Bool} {out' : Int} (hk : (#[.bool fin, .int .i64 out, .slice aA ai ac] : Array Value).setIfInBounds k u = #[.bool fin', .int .i64 out', .slice aA ai ac]) : SQ w wr0 (wr.setCell ⟨S, k, none⟩ u) A n c p e S fin' out' aA ai ac acc := by
  have T : Touch (fun g => g = S) wr (wr.setCell ⟨S, k, none⟩ u) := (Touch.refl (fun g => g = S) wr).setCell (fun _ => rfl) _
  have hs := h.sy
  refine ⟨h.t0.trans T (fun g hg e => by omega), h.rd.touch T (fun e => (blk_ty h.rd).ne (blk_ty h.st) (by decide) e), ?_, own_touch h.arc T (fun g hg e => (own_ty h.arc hg).ne (blk_ty h.st) (by decide) e), h.al, h.ay, h.sy⟩
  have := h.st.set_ k u
  rw [hk] at this
  exact this
theorem SQ.setP (h : SQ w wr0 wr A n c p e S fin out aA ai ac acc) {P : Nat} {x y z : Value} (hP : Blk wr P 83 #[x, y, z]) (hw : wr0.heap.size ≤ P) (hne : P ≠ w.heap.size + 1) (p' : Nat) (e' : Int) : SQ w wr0 (Go.Proofs.YtcmjohaohdgnjaaDoor.setR wr P A n c p' e') A n c p e S fin out aA ai ac acc := by
  have T := setR_touch wr P A n c p' e'
  exact ⟨h.t0.trans T (fun g hg e => by omega), h.rd.touch T (fun e => hne e.symm), h.st.touch T (fun e => (blk_ty h.st).ne (blk_ty hP) (by decide) e), own_touch h.arc T (fun g hg e => (own_ty h.arc hg).ne (blk_ty hP) (by decide) e), h.al, h.ay, h.sy⟩
theorem sq_cells {w10 : World} (h : SQ w wr0 wr A n c p e S fin out aA ai ac acc) (hg : wr.grownBy w10 (Value.slice aA ai ac).ownBlock) : (∀ k, w10.cell? ⟨S, k, none⟩ = (#[.bool fin, .int .i64 out, .slice aA ai ac] : Array Value)[k]?) ∧ (∀ k, w10.frozen? ⟨S, k, none⟩ = false) ∧ S < w10.heap.size :=
  (h.st.grown hg (fun e => (own_ty h.arc e.symm).ne (blk_ty h.st) (by decide) rfl)).facts
theorem qi_cells {p0 : Nat} {e0 base : Int} {sA : Option Addr} {i sc : Nat} {Z : List ZV} {w10 : World} (hq : QI w wr A n c p0 e0 base sA i sc Z) (hbs : bs ≤ w.heap.size) (hg : wr.grownBy w10 (Value.slice sA i sc).ownBlock) : (∀ k, w10.cell? ⟨w.heap.size + 1 + 1, k, none⟩ = (#[.int .i64 base, .slice sA i sc] : Array Value)[k]?) ∧ (∀ k, w10.frozen? ⟨w.heap.size + 1 + 1, k, none⟩ = false) ∧ w.heap.size + 1 + 1 < w10.heap.size :=
  (hq.mc.grown hg (fun e => (own_ty hq.own e.symm).ne (blk_ty hq.mc) (by decide) rfl)).facts
/-- Another arc. -/
theorem SQ.app {w10 : World} (h : SQ w wr0 wr A n c p e S fin out aA ai ac acc) {a' : Option Addr} {cap : Nat} (l o b : Int)
    (ho : w10.ownsRow 0 74 3 (.slice a' (ai + 1) cap) (ai + 1) (zaCells acc ++ [.int .i32 l, .int .i64 o, .int .i64 b])) (hg : wr.grownBy w10 (Value.slice aA ai ac).ownBlock) (hf : Fresh wr (.slice aA ai ac) (.slice a' (ai + 1) cap)) :
    SQ w wr0 (w10.setCell ⟨S, 2, none⟩ (.slice a' (ai + 1) cap)) A n c p e S fin out a' (ai + 1) cap (acc ++ [(l, o, b)]) := by
  have T10 : Touch (fun g => (Value.slice aA ai ac).ownBlock = some g) wr w10 := (Touch.refl _ _).grown hg (fun k hk _ => hk)
  have hno : ∀ {t : TypeId} {g : Nat}, TyAt wr g t → t ≠ 74 → ¬ (Value.slice aA ai ac).ownBlock = some g := fun hg ht e => hg.ne (own_ty h.arc e) ht rfl
  have hs10 := h.st.touch T10 (hno (blk_ty h.st) (by decide))
  have hr10 := h.rd.touch T10 (hno (blk_ty h.rd) (by decide))
  have T11 : Touch (fun g => g = S) w10 (w10.setCell ⟨S, 2, none⟩ (.slice a' (ai + 1) cap)) := (Touch.refl (fun g => g = S) _).setCell (fun _ => rfl) _
  have hs := h.sy
  have hsz := h.t0.size
  refine ⟨(h.t0.trans T10 (fun g hg e => absurd (h.ay g e) (by omega))).trans T11 (fun g hg e => by omega), hr10.touch T11 (fun e => (blk_ty hr10).ne (blk_ty hs10) (by decide) e), hs10.set_ 2 _, ?_, by rw [List.length_append, h.al]; rfl, ?_, h.sy⟩
  · have e : zaCells (acc ++ [(l, o, b)]) = zaCells acc ++ [.int .i32 l, .int .i64 o, .int .i64 b] := by simp [zaCells]
    rw [e]
    exact own_touch ho T11 (fun g hg e => (own_ty ho hg).ne (blk_ty hs10) (by decide) e)
  · intro g hg'
    rcases hf with e | ⟨g2, e, hle⟩
    · rw [e] at hg'
      exact h.ay g hg'
    · rw [e] at hg'
      injection hg' with hg'
      omega
/-- The state is laid to the others. -/
theorem QI.push {p0 : Nat} {e0 base : Int} {sA sA' : Option Addr} {i sc sc' : Nat} {Z : List ZV} {wy w10 : World} (hq : QI w wr0 A n c p0 e0 base sA i sc Z) (hbs : bs ≤ w.heap.size) (h : SQ w wr0 wr A n c p e S fin out aA ai ac acc) (Ty : Touch (fun _ => False) wr wy)
    (ho : w10.ownsRow 0 44 3 (.slice sA' (i + 1) sc') (i + 1) (zCells Z ++ [.bool fin, .int .i64 out, .slice aA ai ac])) (hg : wy.grownBy w10 (Value.slice sA i sc).ownBlock) (hf : Fresh wy (.slice sA i sc) (.slice sA' (i + 1) sc')) :
    QI w (w10.setCell ⟨w.heap.size + 1 + 1, 1, none⟩ (.slice sA' (i + 1) sc')) A n c p e base sA' (i + 1) sc' (Z ++ [⟨fin, out, aA, ai, ac, acc⟩]) := by
  have hy := (hq.far hbs h.t0 h.rd).quiet Ty
  have hay := own_touch h.arc Ty (fun _ _ f => f)
  have T10 : Touch (fun g => (Value.slice sA i sc).ownBlock = some g) wy w10 := (Touch.refl _ _).grown hg (fun k hk _ => hk)
  have hno : ∀ {t : TypeId} {g : Nat}, OT wy g t → t ≠ 44 → ¬ (Value.slice sA i sc).ownBlock = some g := fun hg ht e => hg.ne (own_ty hy.own e) ht (by have := hy.yo _ e; omega) rfl
  have hm10 := hy.mc.touch T10 (hno (.inr (blk_ty hy.mc)) (by decide))
  have hr10 := hy.res.touch T10 (hno (.inr (blk_ty hy.res)) (by decide))
  have hd10 := hy.rd.touch T10 (hno (.inr (blk_ty hy.rd)) (by decide))
  have T11 : Touch (fun g => g = w.heap.size + 1 + 1) w10 (w10.setCell ⟨w.heap.size + 1 + 1, 1, none⟩ (.slice sA' (i + 1) sc')) := (Touch.refl (fun g => g = w.heap.size + 1 + 1) _).setCell (fun _ => rfl) _
  have hM := blk_ty hm10
  obtain ⟨_, _, he, hle, hmx⟩ := own_len h.arc
  injection he with _ _ he
  refine ⟨hr10.touch T11 (by omega), hd10.touch T11 (by omega), hm10.set_ 1 _, ?_, by rw [List.length_append, hy.len]; rfl, ?_, ?_, ?_⟩
  · have e : zCells (Z ++ [⟨fin, out, aA, ai, ac, acc⟩]) = zCells Z ++ [.bool fin, .int .i64 out, .slice aA ai ac] := by simp [zCells, ZV.cells]
    rw [e]
    exact own_touch ho T11 (fun g hg e => (own_ty ho hg).ne hM (by decide) e)
  · intro z hz
    have hz10 : z.Ok w10 := by
      rcases List.mem_append.1 hz with hz | hz
      · exact (hy.el z hz).touch T10 (fun g hg => hno hg (by decide))
      · rw [List.mem_singleton.1 hz]
        exact ⟨h.al, (RdO.of_own hay).touch T10 (fun g hg => hno hg (by decide)), by simp only; omega, by simp only; omega⟩
    exact hz10.touch T11 (fun g hg e => hg.ne hM (by decide) (by omega) e)
  · exact (hy.touch.trans T10 (fun g hg e => absurd (hy.yo g e) (by omega))).trans T11 (fun g hg e => by omega)
  · intro g hg'
    rcases hf with e | ⟨g2, e, hle⟩
    · rw [e] at hg'
      exact hy.yo g hg'
    · rw [e] at hg'
      injection hg' with hg'
      have := hy.touch.size
      omega
end

/-! ### what was read tells what the bytes say -/
def JS (xs : List UInt8) (many bn : Nat) (Zp : List StZ) (i p : Nat) (e : Int) : Prop := (e = 0 → machQ xs.length xs = contS xs.length many bn Zp i (xs.drop p)) ∧ (e ≠ 0 → machQ xs.length xs = none)
def JA (xs : List UInt8) (many bn : Nat) (Zp : List StZ) (i : Nat) (fin : Bool) (out : Int) (acc : List (Int × Int × Int)) (k last p : Nat) (e : Int) : Prop := (e = 0 → machQ xs.length xs = contA xs.length many bn Zp i fin out acc k last (xs.drop p)) ∧ (e ≠ 0 → machQ xs.length xs = none)
section
variable {xs : List UInt8}
theorem js_start {p1 p2 v1 v2 : Nat} {e1 e2 : Int} (h1 : GetB xs 1048576 0 0 p1 e1 v1) (h2 : GetB xs 98305 p1 e1 p2 e2 v2) : JS xs v2 v1 [] 0 p2 e2 := by
  obtain ⟨_, _, _, h1⟩ := h1
  obtain ⟨_, _, _, h2⟩ := h2
  rw [List.drop_zero] at h1
  constructor
  · intro he
    rcases h2 with ⟨g1, _, g2⟩ | ⟨g1, _⟩
    · rcases h1 with ⟨_, _, k2⟩ | ⟨k1, _⟩
      · unfold machQ contS
        rw [k2]
        simp only
        rw [g2]
        simp only [Nat.sub_zero, List.nil_append]
        all_goals (cases stsQ xs.length v2 0 (xs.drop p2) <;> rfl)
      · omega
    · omega
  · intro he
    unfold machQ
    rcases h1 with ⟨_, k1, k2⟩ | ⟨_, k2⟩
    · rw [k2]
      simp only
      rcases h2 with ⟨_, g1, _⟩ | ⟨_, g2⟩
      · exact absurd g1 he
      · rw [g2 k1]
    · rw [k2 rfl]
variable {many bn : Nat} {Zp : List StZ} {i : Nat}
theorem ja_plain {p p3 v3 : Nat} {e3 : Int} (hi : i < many) (h : JS xs many bn Zp i p 0) (h3 : GetB xs (2 * xs.length + 1) p 0 p3 e3 v3) (hv : v3 % 2 ≠ 1) : JA xs many bn Zp i false 0 [] (v3 / 2) 0 p3 e3 := by
  obtain ⟨_, _, _, h3⟩ := h3
  have h := h.1 rfl
  rw [contS_step hi] at h
  constructor
  · intro he
    rcases h3 with ⟨_, _, g2⟩ | ⟨g1, _⟩
    · rw [g2] at h
      have hd : decide (v3 % 2 = 1) = false := decide_eq_false hv
      simp only [hd, outR8] at h
      rw [if_neg (by simp)] at h
      exact h
    · omega
  · intro he
    rcases h3 with ⟨_, g1, _⟩ | ⟨_, g2⟩
    · exact absurd g1 he
    · rw [g2 rfl] at h
      exact h
theorem ja_fin {p p3 v3 p4 v4 : Nat} {e3 e4 : Int} (hi : i < many) (h : JS xs many bn Zp i p 0) (h3 : GetB xs (2 * xs.length + 1) p 0 p3 e3 v3) (hv : v3 % 2 = 1) (h4 : GetB xs 1048576 p3 e3 p4 e4 v4) : JA xs many bn Zp i true v4 [] (v3 / 2) 0 p4 e4 := by
  obtain ⟨_, _, _, h3⟩ := h3
  obtain ⟨_, _, _, h4⟩ := h4
  have h := h.1 rfl
  rw [contS_step hi] at h
  have hd : decide (v3 % 2 = 1) = true := decide_eq_true hv
  constructor
  · intro he
    rcases h4 with ⟨k1, _, k2⟩ | ⟨k1, _⟩
    · rcases h3 with ⟨_, _, g2⟩ | ⟨g1, _⟩
      · rw [g2] at h
        simp only [hd, outR8] at h
        rw [if_pos (by simp), k2] at h
        exact h
      · omega
    · omega
  · intro he
    rcases h3 with ⟨_, g1, g2⟩ | ⟨_, g2⟩
    · rw [g2] at h
      simp only [hd, outR8] at h
      rcases h4 with ⟨_, k1, _⟩ | ⟨_, k2⟩
      · exact absurd k1 he
      · rw [if_pos (by simp), k2 g1] at h
        exact h
    · rw [g2 rfl] at h
      exact h
variable {fin : Bool} {out : Int} {acc : List (Int × Int × Int)}
theorem ja_step {k last p p1 p2 p3 d o b : Nat} {e1 e2 e3 : Int} (h : JA xs many bn Zp i fin out acc (k + 1) last p 0) (h1 : GetB xs 1114111 p 0 p1 e1 d) (h2 : GetB xs 1048576 p1 e1 p2 e2 o) (h3 : GetB xs 98305 p2 e2 p3 e3 b) :
    (1114111 < last + d → machQ xs.length xs = none) ∧ (last + d ≤ 1114111 → JA xs many bn Zp i fin out (acc ++ [(((last + d : Nat) : Int), (o : Int), (i : Int) - (b : Int))]) k (last + d) p3 e3) := by
  obtain ⟨_, _, _, h1⟩ := h1
  obtain ⟨_, _, _, h2⟩ := h2
  obtain ⟨_, _, _, h3⟩ := h3
  have h := h.1 rfl
  rw [contA_step] at h
  have hbad : e3 ≠ 0 → machQ xs.length xs = none := by
    intro he
    rcases h1 with ⟨_, a1, a2⟩ | ⟨_, a2⟩
    · rw [a2] at h
      simp only at h
      rcases h2 with ⟨_, b1, b2⟩ | ⟨_, b2⟩
      · rw [b2] at h
        simp only at h
        rcases h3 with ⟨_, c1, _⟩ | ⟨_, c2⟩
        · exact absurd c1 he
        · rw [c2 b1] at h
          exact h
      · rw [b2 a1] at h
        exact h
    · rw [a2 rfl] at h
      exact h
  have hgood : e3 = 0 → machQ xs.length xs = if 1114111 < (last : Int) + (d : Int) then none else contA xs.length many bn Zp i fin out (acc ++ [((last : Int) + d, (o : Int), (i : Int) - (b : Int))]) k ((last : Int) + d) (xs.drop p3) := by
    intro he
    rcases h3 with ⟨c1, _, c2⟩ | ⟨c1, _⟩
    · rcases h2 with ⟨b1, _, b2⟩ | ⟨b1, _⟩
      · rcases h1 with ⟨_, _, a2⟩ | ⟨a1, _⟩
        · rw [a2] at h
          simp only at h
          rw [b2] at h
          simp only at h
          rw [c2] at h
          exact h
        · omega
      · omega
    · omega
  constructor
  · intro hl
    by_cases he : e3 = 0
    · rw [hgood he, if_pos (by omega)]
    · exact hbad he
  · intro hl
    refine ⟨fun he => ?_, hbad⟩
    rw [hgood he, if_neg (by omega)]
    push_cast
    rfl
theorem ja_end {k last p : Nat} {e : Int} (h : JA xs many bn Zp i fin out acc k last p e) (hk : k = 0 ∨ e ≠ 0) : JS xs many bn (Zp ++ [⟨fin, out, acc⟩]) (i + 1) p e := by
  refine ⟨fun he => ?_, h.2⟩
  rcases hk with rfl | hk
  · rw [h.1 he, contA_end]
  · exact absurd he hk
theorem js_end {p : Nat} {e : Int} (h : JS xs many bn Zp i p e) (hi : many ≤ i) : e = 0 → machQ xs.length xs = some ((bn, Zp), xs.drop p) := fun he => by rw [h.1 he, contS_end hi]
/-- The bytes are some machine's. -/
def Packs (xs : List UInt8) : Prop := ∃ (bn : Nat) (sts : List StP), bn ≤ 1048576 ∧ RgtP sts (bn : Int) ∧ xs = packB bn sts
theorem rgtp_few2 {sts : List StP} {base : Int} (h : RgtP sts base) : sts.length ≤ 98305 := by
  rcases h with ⟨rfl, _⟩ | h
  · simp
  · exact h.few
theorem rgtp_form2 {sts : List StP} {base : Int} (h : RgtP sts base) : ∀ i, i < sts.length → FormP i (sts.getD i noSt) := by
  rcases h with ⟨rfl, _⟩ | h
  · intro i hi
    simp at hi
  · exact h.form
theorem packs_mach (h : Packs xs) : ∃ (bn : Nat) (sts : List StP), machQ xs.length xs = some ((bn, sts.map StP.z), []) ∧ bn ≤ 1048576 ∧ RgtP sts (bn : Int) ∧ xs = packB bn sts := by
  obtain ⟨bn, sts, hb, hR, rfl⟩ := h
  exact ⟨bn, sts, machQ_write hb (rgtp_few2 hR) (rgtp_form2 hR) _ (Nat.le_refl _), hb, hR, rfl⟩
theorem no_packs (h : machQ xs.length xs = none) : ¬ Packs xs := fun hp => by
  obtain ⟨bn, sts, h1, _⟩ := packs_mach hp
  rw [h] at h1
  cases h1
theorem packs_of {bn : Nat} {Zp : List StZ} {t : List UInt8} (h : machQ xs.length xs = some ((bn, Zp), t)) (hp : Packs xs) : t = [] ∧ RgtZ Zp (bn : Int) ∧ ∀ sts : List StP, Zp = sts.map StP.z → xs = packB bn sts := by
  obtain ⟨b2, sts, h1, _, hR, hx⟩ := packs_mach hp
  rw [h] at h1
  simp only [Option.some.injEq, Prod.mk.injEq] at h1
  obtain ⟨⟨rfl, rfl⟩, rfl⟩ := h1
  refine ⟨rfl, ⟨sts, rfl, hR⟩, fun s2 h2 => ?_⟩
  have e := map_inj (f := StP.z) (fun _ _ e => StP.z_inj e) h2
  rw [← e]
  exact hx
end

end Go.Proofs.YtcmjohaohdgnjaaDoor
