/- The writing of runes: letters.Text. Condition: all are runes. -/
import Derived.Test.YtfaoifggkfmokaaDoorTextA
import Derived.Test.YtfaoifggkfmokaaDoorRep
import Derived.Laws.BytesArg
namespace Go.Proofs.YtfaoifggkfmokaaDoor
open Go.RowKit

theorem conv_own (w : World) (A : Option Addr) (q c : Nat) (l : List UInt8) (h : Reads w 1 A q (l.map byteV)) :
    (convert 107 9 (.slice A q c)).run Tryd.prog w = .ok (.string ⟨l.toArray⟩) w := by
  have hl : l.length = q := by have := h.1; simpa using this
  cases A with
  | none =>
    have h0 : q = 0 := by
      rcases Nat.eq_zero_or_pos q with e | e
      · exact e
      · obtain ⟨b, off, hA, _⟩ := h.2 e
        cases hA
    subst h0
    obtain rfl := List.eq_nil_of_length_eq_zero hl
    exact run_convert_bytes_nil _ _ _ Tryd.underlying107 Tryd.underlying5 0 c _ Tryd.underlying9
  | some ad =>
    subst hl
    rcases Nat.eq_zero_or_pos l.length with e | e
    · refine run_convert_bytes_back _ _ _ _ _ _ l Tryd.underlying107 Tryd.underlying5 Tryd.underlying9 fun j hj => ?_
      rw [e] at hj
      exact absurd hj (Nat.not_lt_zero _)
    · obtain ⟨b, off, hA, _, hc⟩ := h.2 e
      obtain rfl : ad = ⟨b, off, none⟩ := Option.some.inj hA
      refine run_convert_bytes_back _ _ _ _ _ _ l Tryd.underlying107 Tryd.underlying5 Tryd.underlying9 fun j hj => ?_
      rw [Addr.add_lit]
      exact hc j _ (by simp [hj, byteV])
theorem write_len (r : Nat) : 1 ≤ (writeU r).length ∧ (writeU r).length ≤ 4 := by
  unfold writeU
  split
  · simp
  · split
    · simp
    · split
      · simp
      · simp
set_option maxRecDepth 100000 in
set_option maxHeartbeats 2000000 in
theorem text_any (w : World) (hL : Lst w) (A : Option Addr) (n c : Nat) (O : List Nat) (hR : Reads w 1 A n (O.map runeV)) (hO : O.length = n) (hn : n ≤ 4294967296) (hs : ∀ r ∈ O, scal r = true) :
    Calls Tryd.prog 26 #[.slice A n c] w fun e w' => e = .returned (.tuple #[.string ⟨(O.flatMap writeU).toArray⟩, .bool true]) ∧ Touch (fun _ => False) w w' := by
  have HL := hide hL
  have HR := hide hR
  have HS := hide hs
  have HO := hide hO
  have hnm : n ≤ maxLen := by unfold maxLen; omega
  clear hL hR hs hO
  go_enter Tryd.func26, Tryd.ntmps26
  go_wp2
  go_loopw [4, 9] (fun bv iv wr => ∃ (i q : Nat) (A3 : Option Addr) (c3 : Nat), iv = .int .i64 i ∧ bv = .slice A3 q c3 ∧ i ≤ n ∧ q ≤ 4 * i ∧ Hid (ONx 5 1 w wr (.slice A3 q c3) q (((O.take i).flatMap writeU).map byteV)) ) (fun _ iv _ => n - (intOf iv).toNat)
  case atStart => exact ⟨0, 0, none, 0, rfl, rfl, by omega, by omega, hide (ONx.nil _ _ _)⟩
  case round =>
    obtain ⟨i, q, A3, c3, rfl, rfl, hi, hq, HB⟩ := hrel
    by_cases hin : i < n
    · have y1 : (i : Int) < (n : Int) := by omega
      have y2 : (0 : Int) ≤ (i : Int) := by omega
      have z2 : IntKind.i64.wrap ((i : Int) + 1) = (i : Int) + 1 := IntWalk.i64_in _ (by omega)
      obtain ⟨g, o, hA, c0⟩ := rune_at (HR.out.touch HB.out.touch (fun _ _ f => f)) HO.out i hin
      subst hA
      have hsc := HS.out _ (getD_mem O 0 i (by rw [HO.out]; exact hin))
      have htk := take_snoc O 0 i (by rw [HO.out]; exact hin)
      obtain ⟨r, hr⟩ : ∃ r, O.getD i 0 = r := ⟨_, rfl⟩
      rw [hr] at c0 hsc htk
      have HSC := hide hsc
      have HTK := hide htk
      have HW := hide (wrow_any wr (.slice A3 q c3) q _ HB.out.own (HL.out.touch HB.out.touch) (by omega) r (scal_lt hsc))
      have hsc2 : (scal r) = true := hsc
      clear hr hsc htk
      go_wp2_with (first
        | (go_at_call 55; refine (scalar_any r _).mono ?_; rintro e w2 ⟨rfl, rfl⟩; rw [hsc2])
        | (go_at_call 56; refine HW.out.mono ?_; rintro e w3 ⟨v', rfl, hown, hgr, hfr⟩))
      obtain ⟨A4, c4, rfl, _, _⟩ := own_len hown
      have HN4 := hide (HB.out.app hown hgr hfr)
      clear hown hgr hfr
      go_wp2_with fail
      go_roundw
      · refine ⟨i + 1, q + (writeU r).length, A4, c4, by simp, rfl, by omega, ?_, hide ?_⟩
        · have := write_len r; omega
        · rw [HTK.out, List.flatMap_append, List.map_append]
          have := HN4.out
          simpa using this
      · simp only [intOf]; omega
    · have hie : i = n := by omega
      subst hie
      have hb := HB.out
      rw [List.take_of_length_le (by rw [HO.out]; exact Nat.le_refl _)] at hb
      have kc := conv_own wr A3 q c3 _ (Reads.of_own hb.own)
      have HT := hide hb.touch
      clear hb
      go_wp2_with fail
      exact bodyPost_ret (v := .tuple #[.string ⟨(O.flatMap writeU).toArray⟩, .bool true]) (by simp [results, Tryd.results26, go_sem]) rfl ⟨rfl, HT.out⟩

end Go.Proofs.YtfaoifggkfmokaaDoor
