/- What the law rests on, part 27. No condition but those that each theorem names. -/
import Derived.Test.YtlnakepcgjfaaaaDoorF02
import Derived.Test.YtlnakepcgjfaaaaDoorF22
import Derived.Test.YtlnakepcgjfaaaaDoorF05
namespace Go.Proofs.YtlnakepcgjfaaaaDoor
open Go.RowKit
set_option linter.unusedSectionVars false
set_option linter.unusedSimpArgs false
set_option linter.unusedVariables false
def levR (a : List UInt8) (k : Int) : Bool := wordU a && (decide (0 ≤ k) && decide (k ≤ 3))
end Go.Proofs.YtlnakepcgjfaaaaDoor
namespace Go.Proofs.YtlnakepcgjfaaaaDoor
open Go.RowKit
set_option linter.unusedSectionVars false
set_option linter.unusedSimpArgs false
set_option linter.unusedVariables false
def levC (A : Option Addr) (n c o : Nat) (s : List Nat) : Array Value := #[.slice A n c, u8V o] ++ rowV s
theorem levC_zero (o : Nat) : levC none 0 0 o [] = #[.slice none 0 0, .int .u8 (o : Int), .int .u8 0, .int .u8 0, .int .u8 0, .int .u8 0, .int .u8 0, .int .u8 0, .int .u8 0, .int .u8 0, .int .u8 0, .int .u8 0, .int .u8 0, .int .u8 0, .int .u8 0, .int .u8 0, .int .u8 0, .int .u8 0, .int .u8 0, .int .u8 0, .int .u8 0, .int .u8 0, .int .u8 0, .int .u8 0, .int .u8 0, .int .u8 0, .int .u8 0] := by
  unfold levC
  rw [rowV_nil]
  simp [u8V]
theorem levC_at (A : Option Addr) (n c o : Nat) (s : List Nat) : (levC A n c o s)[0]? = some (.slice A n c) ∧ (levC A n c o s)[1]? = some (.int .u8 (o : Int)) ∧ ∀ j, j < 25 → (levC A n c o s)[2 + j]? = some (.int .u8 ((s.getD j 0 : Nat) : Int)) := by
  unfold levC
  refine ⟨?_, ?_, fun j hj => ?_⟩
  · rw [Array.getElem?_append_left (by simp)]; rfl
  · rw [Array.getElem?_append_left (by simp)]; rfl
  · rw [Array.getElem?_append_right (by simp)]
    have : 2 + j - (#[.slice A n c, u8V o] : Array Value).size = j := by simp
    rw [this, rowV_get _ _ hj]
    rfl
theorem levC_set0 (A B : Option Addr) (n c m d o : Nat) (s : List Nat) : (levC A n c o s).setIfInBounds 0 (.slice B m d) = levC B m d o s := by
  unfold levC
  rw [Array.setIfInBounds_append_left (by simp)]
  rfl
theorem levC_setj (A : Option Addr) (n c o : Nat) (s : List Nat) (j : Nat) (v : Value) : (levC A n c o s).setIfInBounds (2 + j) v = #[.slice A n c, u8V o] ++ (rowV s).setIfInBounds j v := by
  unfold levC
  rw [Array.setIfInBounds_append_right (by simp)]
  congr 2
  simp
def LNewT (w : World) (X : List Nat) (o : Nat) (e : Ending) (w' : World) : Prop := ∃ b A n c, e = .returned (.tuple #[.pointer (some ⟨b, 0, none⟩), .int .i64 0]) ∧ LevM w' b A n c X o ∧ Touch (fun _ => False) w w' ∧ w.heap.size ≤ b
set_option maxRecDepth 100000 in
set_option maxHeartbeats 8000000 in
theorem lnew_yes (w : World) (hL : Lst w) (a : ByteArray) (k : Nat) (ha : a.size ≤ 1099511627776) (X : List Nat) (hX : runesU a.toList = some X) (hr : levR a.toList k = true) :
    Calls Tryd.prog 22 #[.string a, .int .i64 (k : Int)] w (LNewT w X (k + 1)) := by
  have hr0 := hr
  unfold levR at hr
  simp only [Bool.and_eq_true, decide_eq_true_eq] at hr
  obtain ⟨hw, h0, h3⟩ := hr
  have HR := hide (word_any w a (by omega) hL)
  rw [hw] at HR
  have hXl : X.length ≤ 24 := by
    obtain ⟨x, h1, _, _, h4⟩ := word_runes hw
    rw [hX] at h1
    injection h1 with h1
    rw [h1]; exact h4
  have HXL := hide hXl
  have HX := hide hX
  have HL := hide hL
  have HA := hide ha
  have y0 : (0 : Int) ≤ (k : Int) := h0
  have y1 : (k : Int) ≤ 3 := h3
  have z1 : IntKind.u8.wrap ((k : Int)) = (k : Int) := wrap_u8 _ (by omega) (by omega)
  have z2 : IntKind.u8.wrap ((k : Int) + 1) = (k : Int) + 1 := wrap_u8 _ (by omega) (by omega)
  clear hr0 hw hXl hX hL ha h0 h3
  go_enter Tryd.func22, Tryd.ntmps22
  go_wp2_with fail
  refine HR.out.mono ?_
  rintro e w1 ⟨rfl, T1⟩
  have HT1 := hide T1
  clear T1
  go_upto_region 4 with fail
  have hk1 : (k : Int) + 1 = ((k + 1 : Nat) : Int) := by omega
  rw [hk1, ← levC_zero (k + 1)]
  obtain ⟨wa, hwa⟩ : ∃ x, x = w1.alloc (.cells (levC none 0 0 (k + 1) []) 105) := ⟨_, rfl⟩
  obtain ⟨b, hb⟩ : ∃ x, x = w1.heap.size := ⟨_, rfl⟩
  rw [← hwa, ← hb]
  have hTa : Touch (fun _ => False) w wa := by rw [hwa]; exact HT1.out.alloc _
  have hba : Blk wa b 105 (levC none 0 0 (k + 1) []) := by rw [hwa, hb]; exact Blk.new _ _ _
  have HBF := hide (show w.heap.size ≤ b by rw [hb]; exact HT1.out.size)
  have HTA := hide hTa
  have HBA := hide hba
  have HRU := hide (runes_any wa a HA.out (Lst.touch HL.out hTa))
  clear hk1 hwa hb hTa hba
  go_wp2_with fail
  refine HRU.out.mono ?_
  rintro e w2 ⟨A, n, c, O, ok, rfl, ho, hl, hs, hx⟩
  have hx2 := HX.out
  rw [hx2] at hx
  cases ok with
  | false => simp at hx
  | true =>
    simp only [if_true, Option.some.injEq] at hx
    subst hx
    have hb2 := HBA.out.touch ho.touch (fun f => f)
    have c0 : w2.cell? ⟨b, 0, none⟩ = some (.slice none 0 0) := by rw [hb2.cell]; exact (levC_at _ _ _ _ _).1
    have f0 : w2.frozen? ⟨b, 0, none⟩ = false := hb2.frozen 0
    have l0 := hb2.lt
    have HB2 := hide hb2
    have HO := hide ho
    have HLN := hide hl
    clear ho hl hs hb2 hx2
    go_upto_region 5 with fail
    obtain ⟨w3, hw3⟩ : ∃ x, x = w2.setCell ⟨b, 0, none⟩ (.slice A n c) := ⟨_, rfl⟩
    rw [← hw3]
    have hb3 : Blk w3 b 105 (levC A n c (k + 1) []) := by
      rw [hw3]
      have := HB2.out.set_ 0 (.slice A n c)
      rw [levC_set0] at this
      exact this
    have hT3 : Touch (fun g => g = b) w2 w3 := by rw [hw3]; exact (Touch.refl (fun g => g = b) w2).setCell (p := ⟨b, 0, none⟩) (fun _ => rfl) _
    have hr3 : RdT w3 21 1 A n (X.map runeV) := (RdT.of_own HO.out.own).touch hT3 (fun g hg e => hg.ne (blk_ty HB2.out) (by decide) e)
    have HB3 := hide hb3
    have HT3 := hide hT3
    have HR3 := hide hr3
    have d0 : w3.cell? ⟨b, 0, none⟩ = some (.slice A n c) := by rw [hb3.cell]; exact (levC_at _ _ _ _ _).1
    have l3 := hb3.lt
    have hn : (n : Int) ≤ 24 := by have := HXL.out; have := HLN.out; omega
    clear hw3 hb3 hT3 hr3 c0 f0 l0
    go_wp2_with fail
    clear d0 l3
    go_loopw [7, 38] (fun _ iv wr => ∃ (j : Nat), iv = .int .i64 j ∧ j ≤ n + 1 ∧ Hid (Blk wr b 105 (levC A n c (k + 1) (List.replicate j (k + 1)))) ∧ Hid (Touch (fun g => g = b) w3 wr)) (fun _ iv _ => n + 1 - (intOf iv).toNat)
    case atStart => exact ⟨0, rfl, by omega, HB3, hide (Touch.refl _ _)⟩
    case round =>
      obtain ⟨j, rfl, hj, HB, HT⟩ := hrel
      by_cases hjn : j ≤ n
      · have y1 : (j : Int) < (n : Int) + 1 := by omega
        have y2 : (0 : Int) ≤ (j : Int) := by omega
        have y3 : (j : Int) < 25 := by omega
        have y4 : IntKind.i64.wrap ((j : Int) + 1) = (j : Int) + 1 := IntWalk.i64_in _ (by omega)
        obtain ⟨_, a1, a2⟩ := levC_at A n c (k + 1) (List.replicate j (k + 1))
        have c1 : wr.cell? ⟨b, 1, none⟩ = some (.int .u8 ((k + 1 : Nat) : Int)) := by rw [HB.out.cell]; exact a1
        have c2 : wr.cell? ⟨b, 2 + j, none⟩ = some (.int .u8 (((List.replicate j (k + 1)).getD j 0 : Nat) : Int)) := by rw [HB.out.cell]; exact a2 j (by omega)
        have f2 : wr.frozen? ⟨b, 2 + j, none⟩ = false := HB.out.frozen _
        have l1 := HB.out.lt
        obtain ⟨u, hu⟩ : ∃ x, x = (List.replicate j (k + 1)).getD j 0 := ⟨_, rfl⟩
        rw [← hu] at c2
        have HJ := hide hjn
        clear hu a1 a2 hj hjn
        go_wp2_with fail
        go_region
        go_wp2_with fail
        go_roundw
        · have h1 := rowV_snoc (List.replicate j (k + 1)) (k + 1) (by rw [List.length_replicate]; have := HJ.out; omega)
          rw [List.length_replicate] at h1
          have h2 := HB.out.set_ (2 + j) (u8V (k + 1))
          rw [levC_setj, h1, ← List.replicate_succ'] at h2
          exact ⟨j + 1, by simp, by have := HJ.out; omega, hide h2.drew, hide ((HT.out.setCell (p := ⟨b, 2 + j, none⟩) (fun _ => rfl) _).drew)⟩
        · have := HJ.out
          simp only [intOf]
          omega
      · have hje : j = n + 1 := by omega
        subst hje
        have y1 : ¬ ((n + 1 : Nat) : Int) < (n : Int) + 1 := by omega
        clear hj hjn
        go_wp2_with fail
        go_ret2
        have hT : Touch (fun g => g = b) w2 wr := HT3.out.then HT.out
        refine ⟨b, A, n, c, rfl, ⟨HB.out, HR3.out.touch HT.out (fun g hg e => hg.ne (blk_ty HB3.out) (by decide) e), HLN.out, by omega, by omega, by omega⟩, ?_, HBF.out⟩
        refine Touch.trans (HTA.out.then HO.out.touch) hT (fun i hi e => ?_)
        have := HBF.out
        omega
end Go.Proofs.YtlnakepcgjfaaaaDoor
