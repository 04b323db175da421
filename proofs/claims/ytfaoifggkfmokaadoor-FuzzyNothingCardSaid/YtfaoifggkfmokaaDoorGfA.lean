/- pack.formed on any state. No condition. -/
import Derived.Test.YtfaoifggkfmokaaDoorZst
namespace Go.Proofs.YtfaoifggkfmokaaDoor
open Go.RowKit
set_option linter.unusedSectionVars false
set_option linter.unusedSimpArgs false
set_option linter.unusedVariables false
section
variable [Inhabited BaseT]

/-- A call has returned a bool that tells whether P. -/
def BoolIff (P : Prop) (e : Ending) : Prop := ∃ v : Bool, e = .returned (.bool v) ∧ (v = true ↔ P)
end
theorem BoolIff.mk {P : Prop} (v : Bool) (h : v = true ↔ P) : BoolIff P (.returned (.bool v)) := ⟨v, rfl, h⟩
section
variable [Inhabited BaseT]
def scalZ (x : Int) : Bool := decide (0 ≤ x) && scal x.toNat
end
theorem scalZ_nat (r : Nat) : scalZ (r : Int) = scal r := by simp [scalZ]
set_option maxRecDepth 100000 in
theorem scalarZ_any (x : Int) (w : World) : Calls Tryd.prog 55 #[.int .i32 x] w fun e w' => e = .returned (.bool (scalZ x)) ∧ w' = w := by
  by_cases h0 : 0 ≤ x
  · obtain ⟨r, rfl⟩ : ∃ r : Nat, x = (r : Int) := ⟨x.toNat, by omega⟩
    rw [scalZ_nat]
    exact scalar_any r w
  · have e : scalZ x = false := by simp [scalZ, h0]
    rw [e]
    go_enter Tryd.func55, Tryd.ntmps55
    go_wp2_with fail
    go_ret
    exact ⟨rfl, rfl⟩
theorem text_bad (w : World) (g : Nat) (x : Int) (hR : Reads w 1 (some ⟨g, 0, none⟩) 1 [.int .i32 x]) (hs : scalZ x = false) :
    Calls Tryd.prog 26 #[.slice (some ⟨g, 0, none⟩) 1 1] w fun e w' => e = .returned (.tuple #[.string ByteArray.empty, .bool false]) ∧ Touch (fun _ => False) w w' := by
  obtain ⟨b, off, hA, _, hc⟩ := hR.2 (by omega)
  have h0 := hc 0 _ rfl
  injection hA with hA
  injection hA with hA ho
  subst hA
  subst ho
  simp only [Nat.add_zero] at h0
  have HSC := hide (scalarZ_any x)
  rw [hs] at HSC
  clear hc hR
  go_enter Tryd.func26, Tryd.ntmps26
  go_wp2_with fail
  go_loop [4, 9] (fun bv iv => bv = .slice none 0 0 ∧ iv = .int .i64 0) (fun _ _ => 0)
  case atStart => exact ⟨rfl, rfl⟩
  case round =>
    obtain ⟨rfl, rfl⟩ := hrel
    go_wp2_with fail
    refine (HSC.out w).mono ?_
    rintro e w2 ⟨rfl, hw⟩
    subst hw
    go_wp2_with fail
    exact bodyPost_ret (v := .tuple #[.string ByteArray.empty, .bool false]) (by simp [results, Tryd.results26, go_sem]; try rfl) rfl ⟨rfl, Touch.refl _ _⟩
theorem word_empty (w : World) (hL : Lst w) :
    Calls Tryd.prog 38 #[.string ByteArray.empty] w fun e w' => e = .returned (.bool false) ∧ Touch (fun _ => False) w w' := by
  have h := word_any w ByteArray.empty (by decide) hL
  have e : wordU ByteArray.empty.toList = false := by decide +kernel
  rw [e] at h
  exact h
theorem word_bad {r : Nat} (hs : scal r = true) (hf : fitU r = false) : wordU (writeU r) = false := by
  have h := runes_write hs
  unfold wordU
  rw [h]
  simp [hf]
/-- A label's text, and whether it is a word. -/
theorem label_any (x : Int) : ∃ (tx : ByteArray) (tv wv : Bool), (wv = true ↔ letZ x) ∧
    (∀ (w : World) (g : Nat), Lst w → Reads w 1 (some ⟨g, 0, none⟩) 1 [.int .i32 x] → Calls Tryd.prog 26 #[.slice (some ⟨g, 0, none⟩) 1 1] w fun e w' => e = .returned (.tuple #[.string tx, .bool tv]) ∧ Touch (fun _ => False) w w') ∧
    ∀ w : World, Lst w → Calls Tryd.prog 38 #[.string tx] w fun e w' => e = .returned (.bool wv) ∧ Touch (fun _ => False) w w' := by
  by_cases hs : scalZ x = true
  · obtain ⟨r, rfl⟩ : ∃ r : Nat, x = (r : Int) := ⟨x.toNat, by simp [scalZ] at hs; omega⟩
    rw [scalZ_nat] at hs
    refine ⟨⟨(writeU r).toArray⟩, true, fitU r, ?_, ?_, ?_⟩
    · constructor
      · intro h
        exact ⟨r, rfl, hs, h⟩
      · rintro ⟨q, hq, _, h2⟩
        have e : r = q := by omega
        rw [e]
        exact h2
    · intro w g hL hR
      have h := text_any w hL (some ⟨g, 0, none⟩) 1 1 [r] hR rfl (by omega) (fun q hq => by simp only [List.mem_singleton] at hq; rw [hq]; exact hs)
      simpa using h
    · intro w hL
      have hl := write_len r
      have h := word_any w ⟨(writeU r).toArray⟩ (by show (writeU r).toArray.size ≤ _; rw [List.size_toArray]; omega) hL
      rw [toList_mk] at h
      have e : wordU (writeU r) = fitU r := by
        cases hf : fitU r with
        | true => exact word_write hs hf
        | false => exact word_bad hs hf
      rw [e] at h
      exact h
  · have hs' : scalZ x = false := by simpa using hs
    refine ⟨ByteArray.empty, false, false, ?_, fun w g _ hR => text_bad w g x hR hs', fun w hL => word_empty w hL⟩
    constructor
    · intro h
      cases h
    · rintro ⟨q, rfl, h1, _⟩
      rw [scalZ_nat, h1] at hs'
      cases hs'
section
variable [Inhabited BaseT]

def okB (num : Nat) (out : Int) (arcs : List (Int × Int × Int)) (i : Nat) (b : Bool) : Prop := b = true ↔ okJ num out arcs i

set_option maxRecDepth 100000 in
set_option maxHeartbeats 8000000 in
theorem gformed_any (w : World) (hL : Lst w) (z : ZV) (hz : z.Ok w) (num : Nat) :
    Calls Tryd.prog 67 #[.agg #[.bool z.fin, .int .i64 z.out, .slice z.A z.n z.c], .int .i64 num] w fun e w' => BoolIff (FormZ num z.p) e ∧ Touch (fun _ => False) w w' := by
  have hiff := formZ_iff num z.p
  obtain ⟨fin, out, aA, n, ac, arcs⟩ := z
  obtain ⟨hlen, hrd, hle, hmx⟩ := hz
  simp only [ZV.p] at *
  obtain ⟨FZ, hFZ⟩ : ∃ FZ : Prop, FormZ num ⟨fin, out, arcs⟩ = FZ := ⟨_, rfl⟩
  rw [hFZ] at hiff ⊢
  clear hFZ
  have hnm : n ≤ maxLen := Nat.le_trans hle hmx
  have HL := hide hL
  have HRD := hide hrd
  have HLEN := hide hlen
  rw [hlen] at hiff
  have HIFF := hide hiff
  clear hL hrd hlen hle hmx hiff
  obtain ⟨w2, hw2⟩ : ∃ x, x = w.alloc (.cells #[.bool fin, .int .i64 out, .slice aA n ac] 63) := ⟨_, rfl⟩
  have hT2 : Touch (fun _ => False) w w2 := by rw [hw2]; exact (Touch.refl _ _).alloc _
  have HT2 := hide hT2
  have HW2 := hide hw2
  clear hw2 hT2
  go_enter Tryd.func67, Tryd.ntmps67
  have hcase : ∃ l0 : Int, l0 = (if fin = true then out else 1048577) ∧ ((fin = false ∧ (out == 0) = false ∧ ¬ FZ) ∨ (fin = true ∧ l0 = out) ∨ (fin = false ∧ (out == 0) = true ∧ l0 = 1048577)) := by
    refine ⟨_, rfl, ?_⟩
    cases fin with
    | true => exact .inr (.inl ⟨rfl, by simp⟩)
    | false =>
      by_cases h : out = 0
      · exact .inr (.inr ⟨rfl, by simp [h], by simp⟩)
      · refine .inl ⟨rfl, by simp [h], fun hf => h ((HIFF.out.1 hf).1 rfl)⟩
  obtain ⟨l0, hl0, hcase⟩ := hcase
  have HL0 := hide hl0
  clear hl0
  rcases hcase with ⟨rfl, y0, hno⟩ | hcase
  · have HNO := hide hno
    clear hno
    go_wp2_with fail
    rw [← HW2.out]
    go_ret
    exact ⟨.mk false ⟨(fun h => by cases h), fun h => absurd h HNO.out⟩, HT2.out⟩
  · have hb0 : (0 ≤ out ∧ out ≤ 1048576) ↔ okJ num out arcs 0 := (okJ_zero num out arcs).symm
    have HB0 := hide hb0
    clear hb0
    have HF0 : Hid (fin = false → out = 0) := hide (by
      rcases hcase with ⟨h, _⟩ | ⟨_, h, _⟩
      · intro e
        rw [h] at e
        cases e
      · intro _
        simpa using h)
    have ho : (0 ≤ out ∧ out ≤ 1048576) ∨ (0 ≤ out ∧ ¬ out ≤ 1048576) ∨ ¬ 0 ≤ out := by omega
    rcases hcase with ⟨rfl, hl1⟩ | ⟨rfl, y0, hl1⟩ <;> rcases ho with ⟨o1, o2⟩ | ⟨o1, o2⟩ | o1
    all_goals first | (exfalso; have h0 : out = 0 := (by simpa using y0); omega) | skip
    all_goals
      have HL1 := hide hl1
      clear hl1
      go_wp2_with fail
      rw [← HW2.out]
      try clear y0
      go_loopw [5, 6, 7, 30] (fun lv kv bv iv wr => ∃ (i : Nat) (lo : Int) (b : Bool) (lab : Int), lv = .int .i64 lo ∧ kv = .bool b ∧ bv = .int .i32 lab ∧ iv = .int .i64 i ∧ i ≤ n ∧ Hid (lo = lowZ l0 arcs i) ∧ Hid (lab = labZ arcs i) ∧ Hid (okB num out arcs i b) ∧ Hid (Touch (fun _ => False) w2 wr)) (fun _ _ _ iv _ => n - (intOf iv).toNat)
      case atStart =>
        refine ⟨0, _, _, 32, rfl, rfl, rfl, rfl, Nat.zero_le _, hide HL1.out.symm, hide rfl, hide ?_, hide (Touch.refl _ _)⟩
        unfold okB
        rw [← HB0.out]
        first
        | (simp; done)
        | (simp; omega)
      case round =>
        obtain ⟨i, lo, b, lab, rfl, rfl, rfl, rfl, hi, HLO, HLB, HB, HT⟩ := hrel
        try clear o1
        try clear o2
        by_cases hin : i < n
        · have y1 : (i : Int) < (n : Int) := by omega
          have y2 : (0 : Int) ≤ (i : Int) := by omega
          have z2 : IntKind.i64.wrap ((i : Int) + 1) = (i : Int) + 1 := IntWalk.i64_in _ (by unfold maxLen at hnm; omega)
          obtain ⟨g, o, hA, hg, c1, c2, c3⟩ := zarc_at (HRD.out.quiet (HT2.out.then HT.out)).rd HLEN.out i hin
          subst hA
          have hsu := lowZ_succ l0 arcs i (by rw [HLEN.out]; exact hin)
          rw [← HLO.out] at hsu
          have hlb : labZ arcs (i + 1) = (arcs.getD i (0, 0, 0)).1 := rfl
          obtain ⟨⟨la, ao, tt⟩, hz⟩ : ∃ z, arcs.getD i (0, 0, 0) = z := ⟨_, rfl⟩
          have hok := okJ_succ (num := num) (out := out) (by rw [HLEN.out]; exact hin) hz
          rw [hz] at c1 c2 c3 hsu hlb
          simp only at c1 c2 c3 hsu hlb
          obtain ⟨tx, tv, wv, hwv, hTx, hWd⟩ := label_any la
          have hcs : ∃ v : Bool, Hid (okB num out arcs (i + 1) v) ∧ ((v = false ∧ b = false) ∨ (v = false ∧ b = true ∧ ¬ lab < la) ∨ (v = false ∧ b = true ∧ lab < la ∧ wv = false) ∨ (v = false ∧ b = true ∧ lab < la ∧ wv = true ∧ ¬ 0 ≤ tt) ∨
              (v = false ∧ b = true ∧ lab < la ∧ wv = true ∧ 0 ≤ tt ∧ ¬ tt < (num : Int)) ∨ (v = false ∧ b = true ∧ lab < la ∧ wv = true ∧ 0 ≤ tt ∧ tt < (num : Int) ∧ ¬ 0 ≤ ao) ∨ (v = false ∧ b = true ∧ lab < la ∧ wv = true ∧ 0 ≤ tt ∧ tt < (num : Int) ∧ 0 ≤ ao ∧ ¬ ao ≤ 1048576) ∨
              (v = true ∧ b = true ∧ lab < la ∧ wv = true ∧ 0 ≤ tt ∧ tt < (num : Int) ∧ 0 ≤ ao ∧ ao ≤ 1048576)) := by
            have hbo := HB.out
            unfold okB at hbo
            rw [← hbo, ← HLB.out, ← hwv] at hok
            refine ⟨decide (b = true ∧ lab < la ∧ wv = true ∧ 0 ≤ tt ∧ tt < (num : Int) ∧ 0 ≤ ao ∧ ao ≤ 1048576), hide (by unfold okB; rw [hok, decide_eq_true_iff]), ?_⟩
            cases b with
            | false => exact .inl ⟨by simp, rfl⟩
            | true =>
              by_cases d1 : lab < la
              · cases wv with
                | false => exact .inr (.inr (.inl ⟨by simp, rfl, d1, rfl⟩))
                | true =>
                  by_cases d2 : 0 ≤ tt
                  · by_cases d3 : tt < (num : Int)
                    · by_cases d4 : 0 ≤ ao
                      · by_cases d5 : ao ≤ 1048576
                        · exact .inr (.inr (.inr (.inr (.inr (.inr (.inr ⟨by simp [d1, d2, d3, d4, d5], rfl, d1, rfl, d2, d3, d4, d5⟩))))))
                        · exact .inr (.inr (.inr (.inr (.inr (.inr (.inl ⟨by simp [d5], rfl, d1, rfl, d2, d3, d4, d5⟩))))))
                      · exact .inr (.inr (.inr (.inr (.inr (.inl ⟨by simp [d4], rfl, d1, rfl, d2, d3, d4⟩)))))
                    · exact .inr (.inr (.inr (.inr (.inl ⟨by simp [d3], rfl, d1, rfl, d2, d3⟩))))
                  · exact .inr (.inr (.inr (.inl ⟨by simp [d2], rfl, d1, rfl, d2⟩)))
              · exact .inr (.inl ⟨by simp [d1], rfl, d1⟩)
          obtain ⟨v, HV, hcs⟩ := hcs
          have HSU := hide hsu
          have HLB2 := hide hlb
          have HTX := hide hTx
          have HWD := hide hWd
          have HIN := hide hin
          clear hsu hlb hz hok hwv hTx hWd hin hi HB
          obtain ⟨w5, hw5⟩ : ∃ x, x = (wr.alloc (.cells #[.int .i32 la, .int .i64 ao, .int .i64 tt] 74)).alloc (.cells #[.int .i32 la] 21) := ⟨_, rfl⟩
          have hb5 : Blk w5 wr.heap.size 74 #[.int .i32 la, .int .i64 ao, .int .i64 tt] := by rw [hw5]; exact (Blk.new _ _ _).alloc _
          have hr5 : Reads w5 1 (some ⟨wr.heap.size + 1, 0, none⟩) 1 [.int .i32 la] := by
            have := Reads.new (size := 1) (wr.alloc (.cells #[.int .i32 la, .int .i64 ao, .int .i64 tt] 74)) 21 [.int .i32 la] 1 rfl
            rw [hw5]
            simpa using this
          have hT5 : Touch (fun _ => False) wr w5 := by rw [hw5]; exact ((Touch.refl _ _).alloc _).alloc _
          have HB5 := hide hb5
          have HR5 := hide hr5
          have HT5 := hide hT5
          have HW5 := hide hw5
          clear hb5 hr5 hT5 hw5
          rcases hcs with ⟨rfl, rfl⟩ | ⟨rfl, rfl, d1⟩ | ⟨rfl, rfl, d1, rfl⟩ | ⟨rfl, rfl, d1, rfl, d2⟩ | ⟨rfl, rfl, d1, rfl, d2, d3⟩ | ⟨rfl, rfl, d1, rfl, d2, d3, d4⟩ | ⟨rfl, rfl, d1, rfl, d2, d3, d4, d5⟩ | ⟨rfl, rfl, d1, rfl, d2, d3, d4, d5⟩
          all_goals
            go_wp2_with (first
              | (go_at_call 26; rw [← HW5.out]; refine (HTX.out w5 _ (HL.out.touch (HT2.out.then (HT.out.then HT5.out))) HR5.out).mono ?_; rintro e w6 ⟨rfl, T6⟩; have HT6 := hide T6; have hb := HB5.out.touch T6 (fun f => f); obtain ⟨x0, x1, x2⟩ := hb.facts; have HB6 := hide hb; clear T6 hb)
              | (go_at_call 38; refine (HWD.out _ (HL.out.touch (HT2.out.then (HT.out.then (HT5.out.then HT6.out))))).mono ?_; rintro e w7 ⟨rfl, T7⟩; have HT7 := hide T7; have hb := HB6.out.touch T7 (fun f => f); obtain ⟨x3, x4, x5⟩ := hb.facts; have HB7 := hide hb; clear T7 hb))
            go_roundw
            · refine ⟨i + 1, _, _, la, rfl, rfl, rfl, by simp, by have := HIN.out; omega, hide ?_, hide HLB2.out.symm, ?_, hide (HT.out.then (HT5.out.then ?_))⟩
              · rw [HSU.out]
                split <;> omega
              · first
                | exact HV
                | (rw [show decide (ao ≤ 1048576) = false by simp; omega]; exact HV)
              · first
                | exact HT6.out.then HT7.out
                | exact HT6.out
            · have := HIN.out
              simp only [intOf]; omega
        · have hie : i = n := by omega
          have y1 : ¬ (i : Int) < (n : Int) := by omega
          have hres : ∃ q : Bool, q = (lo == 0) ∧ ((b && q) = true ↔ FZ) := by
            refine ⟨_, rfl, ?_⟩
            have hbo := HB.out
            unfold okB at hbo
            rw [HIFF.out, Bool.and_eq_true, hbo, hie]
            simp only [beq_iff_eq]
            rw [HLO.out, HL0.out, hie]
            constructor
            · rintro ⟨h1, h2⟩
              exact ⟨HF0.out, h1, h2⟩
            · rintro ⟨_, h1, h2⟩
              exact ⟨h1, h2⟩
          obtain ⟨q, hq, hres⟩ := hres
          have HRES := hide hres
          have hq' : (lo == 0) = q := hq.symm
          clear hq hres hie hi hin HB HLO
          cases b <;> cases q
          all_goals
            go_wp2_with fail
            go_ret
            exact ⟨.mk _ HRES.out, HT2.out.then HT.out⟩

end
end Go.Proofs.YtfaoifggkfmokaaDoor
