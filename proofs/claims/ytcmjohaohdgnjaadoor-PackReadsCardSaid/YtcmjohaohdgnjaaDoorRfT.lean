/- ref01.Text on any numbers. Condition: there are no more than 2^30. -/
import Derived.Test.YtcmjohaohdgnjaaDoorRfA
namespace Go.Proofs.YtcmjohaohdgnjaaDoor
open Go.RowKit
set_option linter.unusedSectionVars false
set_option linter.unusedSimpArgs false
set_option linter.unusedVariables false

def I32 (x : Int) : Prop := -2147483648 ≤ x ∧ x < 2147483648
def iV (x : Int) : Value := .int .i32 x
def natI (r : Nat) : Int := (r : Int)
/-- What ref01.Text says of numbers. -/
def RTextPost (O : List Int) (e : Ending) : Prop :=
  (∃ R : List Nat, O = R.map natI ∧ (∀ r ∈ R, scal r = true) ∧ e = .returned (.tuple #[.string ⟨(R.flatMap writeU).toArray⟩, .bool true])) ∨
  ((¬ ∃ R : List Nat, O = R.map natI ∧ ∀ r ∈ R, scal r = true) ∧ e = .returned (.tuple #[.string ByteArray.empty, .bool false]))
theorem rune_z (x : Int) (w : World) : Calls Tryd.prog 60 #[.int .i64 x] w fun e w' => e = .returned (.bool (scalZ x)) ∧ w' = w := by
  by_cases h0 : 0 ≤ x
  · obtain ⟨r, rfl⟩ : ∃ r : Nat, x = (r : Int) := ⟨x.toNat, by omega⟩
    rw [scalZ_nat]
    exact rune_any r w
  · have e : scalZ x = false := by simp [scalZ, h0]
    rw [e]
    go_enter Tryd.func60, Tryd.ntmps60
    go_wp2_with fail
    go_ret
    exact ⟨rfl, rfl⟩
theorem i_at {w : World} {A : Option Addr} {q : Nat} {O : List Int} (h : Reads w 1 A q (O.map iV)) (hl : O.length = q) (j : Nat) (hj : j < q) :
    ∃ g off, A = some ⟨g, off, none⟩ ∧ w.cell? ⟨g, off + j, none⟩ = some (.int .i32 (O.getD j 0)) := by
  obtain ⟨g, off, hA, _, hc⟩ := h.2 (by omega)
  refine ⟨g, off, hA, hc j _ ?_⟩
  simp [List.getD, iV, show j < O.length by omega]
theorem textZ_no {O : List Int} {i : Nat} (hi : i < O.length) (h : scalZ (O.getD i 0) = false) : ¬ ∃ R : List Nat, O = R.map natI ∧ ∀ r ∈ R, scal r = true := by
  rintro ⟨R, rfl, hR⟩
  rw [List.length_map] at hi
  have e : (R.map natI).getD i 0 = ((R.getD i 0 : Nat) : Int) := by simp [List.getD, hi, natI]
  rw [e, scalZ_nat, hR _ (getD_mem R 0 i hi)] at h
  cases h
theorem ba_app (a b : List UInt8) : (⟨a.toArray⟩ : ByteArray) ++ ⟨b.toArray⟩ = ⟨(a ++ b).toArray⟩ := by
  apply ByteArray.ext
  simp

set_option maxRecDepth 100000 in
set_option maxHeartbeats 4000000 in
theorem rtext_any (w : World) (A : Option Addr) (n c : Nat) (O : List Int) (hR : Reads w 1 A n (O.map iV)) (hO : O.length = n) (hn : n ≤ 1073741824) (hi : ∀ x ∈ O, I32 x) :
    Calls Tryd.prog 46 #[.slice A n c] w fun e w' => RTextPost O e ∧ Touch (fun _ => False) w w' := by
  have HR := hide hR
  have HO := hide hO
  have HI := hide hi
  clear hR hO hi
  go_enter Tryd.func46, Tryd.ntmps46
  go_wp2_with fail
  go_loopw [4, 5] (fun sv iv wr => ∃ (i : Nat) (s : ByteArray), iv = .int .i64 i ∧ sv = .string s ∧ i ≤ n ∧ Hid (∃ R : List Nat, O.take i = R.map natI ∧ (∀ r ∈ R, scal r = true) ∧ s = ⟨(R.flatMap writeU).toArray⟩ ∧ s.size ≤ 4 * i) ∧ Hid (Touch (fun _ => False) w wr)) (fun _ iv _ => n - (intOf iv).toNat)
  case atStart => exact ⟨0, ByteArray.empty, rfl, rfl, Nat.zero_le _, hide ⟨[], by simp, by simp, rfl, Nat.le_refl _⟩, hide (Touch.refl _ _)⟩
  case round =>
    obtain ⟨i, s, rfl, rfl, hin, HS, HT⟩ := hrel
    by_cases hin2 : i < n
    · have y0 : (i : Int) < (n : Int) := by omega
      have y1 : (0 : Int) ≤ (i : Int) := by omega
      have y2 : IntKind.i64.wrap ((i : Int) + 1) = (i : Int) + 1 := IntWalk.i64_in _ (by omega)
      obtain ⟨g, o, hA, c0⟩ := i_at (HR.out.touch HT.out (fun _ _ f => f)) HO.out i hin2
      subst hA
      have hx := HI.out _ (getD_mem O 0 i (by rw [HO.out]; exact hin2))
      have htk := take_snoc O 0 i (by rw [HO.out]; exact hin2)
      have hno := textZ_no (O := O) (i := i) (by rw [HO.out]; exact hin2)
      obtain ⟨x, hxx⟩ : ∃ x, O.getD i 0 = x := ⟨_, rfl⟩
      rw [hxx] at hx htk c0 hno
      have x0 : IntKind.i64.wrap x = x := IntWalk.i64_in _ (by unfold I32 at hx; omega)
      have HTK := hide htk
      have HNO := hide hno
      have HIN := hide hin2
      have HRU := hide (rune_z x)
      clear hx htk hno hxx hin2 hin
      by_cases hsc : scalZ x = true
      · rw [hsc] at HRU
        obtain ⟨r, hr⟩ : ∃ r : Nat, x = (r : Int) := ⟨x.toNat, by simp [scalZ] at hsc; omega⟩
        subst hr
        rw [scalZ_nat] at hsc
        have HSC := hide hsc
        have HW := hide (fun wx => write_any wx r (by have := scal_lt hsc; omega))
        clear hsc HNO
        go_wp2_with fail
        refine (HRU.out wr).mono ?_
        rintro e w2 ⟨rfl, hw2⟩
        subst hw2
        go_wp2_with fail
        refine (HW.out w2).mono ?_
        rintro e w3 ⟨rfl, T3⟩
        have HT3 := hide T3
        clear T3
        have hsz : ¬ 9223372036854775807 < s.size + (writeU r).length := by
          obtain ⟨R, _, _, _, h4⟩ := HS.out
          have := write_len r
          have := HIN.out
          omega
        go_wp2_with fail
        go_roundw
        · refine ⟨i + 1, _, by simp, rfl, by have := HIN.out; omega, hide ?_, hide (HT.out.then HT3.out)⟩
          obtain ⟨R, h1, h2, h3, h4⟩ := HS.out
          refine ⟨R ++ [r], ?_, ?_, ?_, ?_⟩
          · rw [HTK.out, h1, List.map_append]
            rfl
          · intro q hq
            rcases List.mem_append.1 hq with hq | hq
            · exact h2 q hq
            · rw [List.mem_singleton.1 hq]
              exact HSC.out
          · rw [h3, ba_app, List.flatMap_append]
            simp
          · have := write_len r
            rw [ByteArray.size_append]
            have e : (⟨(writeU r).toArray⟩ : ByteArray).size = (writeU r).length := List.size_toArray
            omega
        · have := HIN.out
          simp only [intOf]
          omega
      · have hsf : scalZ x = false := by simpa using hsc
        rw [hsf] at HRU
        have HNO2 := hide (HNO.out hsf)
        clear hsc hsf HNO
        go_wp2_with fail
        refine (HRU.out wr).mono ?_
        rintro e w2 ⟨rfl, hw2⟩
        subst hw2
        go_wp2_with fail
        exact bodyPost_ret (v := .tuple #[.string ByteArray.empty, .bool false]) (by simp [results, Tryd.results46, go_sem]; try rfl) rfl ⟨.inr ⟨HNO2.out, rfl⟩, HT.out⟩
    · have hie : i = n := by omega
      have y0 : ¬ (i : Int) < (n : Int) := by omega
      have hfin : RTextPost O (.returned (.tuple #[.string s, .bool true])) := by
        obtain ⟨R, h1, h2, h3, _⟩ := HS.out
        rw [List.take_of_length_le (by rw [HO.out]; omega)] at h1
        exact .inl ⟨R, h1, h2, by rw [h3]⟩
      have HFIN := hide hfin
      clear hfin hie hin2 hin
      go_wp2_with fail
      exact bodyPost_ret (v := .tuple #[.string s, .bool true]) (by simp [results, Tryd.results46, go_sem]) rfl ⟨HFIN.out, HT.out⟩

end Go.Proofs.YtcmjohaohdgnjaaDoor
