/- What a word is: letters.Word and the reference's. Condition: the package's variable lies as its initialiser lays it; a text is no longer than any text. -/
import Derived.Test.YtdjlcgldplndiaaDoorUtfT
namespace Go.Proofs.YtdjlcgldplndiaaDoor
open Go.RowKit

theorem seqU_lt (r0 k least : Nat) (t : List UInt8) : (seqU r0 k least t).1 < 1114112 := by
  unfold seqU
  split
  · simp
  · split
    · simp
    · split
      · simp
      · split
        · rename_i h; exact scal_lt h
        · simp
theorem utf1_lt (bs : List UInt8) : (utf1 bs).1 < 1114112 := by
  cases bs with
  | nil => simp [utf1]
  | cons b t =>
    simp only [utf1]
    split
    · simp only; omega
    · split
      · exact seqU_lt _ _ _ _
      · split
        · exact seqU_lt _ _ _ _
        · split
          · exact seqU_lt _ _ _ _
          · simp

set_option maxRecDepth 100000 in
set_option maxHeartbeats 2000000 in
theorem rrunes_any (w : World) (S : ByteArray) (hm : S.size ≤ 1099511627776) :
    Calls Tryd.prog 33 #[.string S] w fun e w' => ∃ A q c O ok, e = .returned (.tuple #[.slice A q c, .bool ok]) ∧ ONx 21 1 w w' (.slice A q c) q (O.map runeV) ∧ O.length = q ∧ q ≤ S.size ∧ runesU S.toList = (if ok = true then some O else none) := by
  obtain ⟨i0, hi, hz0, hz1, hz2⟩ := info_parts infoRune
  go_enter Tryd.func33, Tryd.ntmps33
  go_wp2
  go_loopw [0, 4] (fun sv ov wr => ∃ (s : ByteArray) (q : Nat) (A3 : Option Addr) (c3 : Nat) (O : List Nat), sv = .string s ∧ ov = .slice A3 q c3 ∧ q + s.size ≤ S.size ∧ s.size ≤ 1099511627776 ∧ Hid (ONx 21 1 w wr (.slice A3 q c3) q (O.map runeV) ∧ O.length = q) ∧ Hid (runesU S.toList = (runesU s.toList).map (O ++ ·))) (fun sv _ _ => match sv with | .string s => s.size | _ => 0)
  case atStart => exact ⟨S, 0, none, 0, [], rfl, rfl, by omega, hm, hide ⟨ONx.nil _ _ _, rfl⟩, hide (by cases runesU S.toList <;> rfl)⟩
  case round =>
    obtain ⟨s, q, A3, c3, O, rfl, rfl, hqs, hsb, HO, HR⟩ := hrel
    by_cases hz : 0 < s.size
    · have y0 : (0 : Int) < (s.size : Int) := by omega
      have hst := runesU_step (bs := s.toList) (by rw [toList_len]; exact hz)
      have hle := utf1_le s.toList
      have hlt := utf1_lt s.toList
      rw [toList_len] at hle
      have HF := hide (rfirst_any wr s (by omega))
      obtain ⟨⟨r, n⟩, hx⟩ : ∃ x, utf1 s.toList = x := ⟨_, rfl⟩
      rw [hx] at hst hle HF hlt
      simp only at hst hle HF hlt
      have HST := hide hst
      have hr2 : (r : Int) < 1114112 := by omega
      clear hst hx hlt
      by_cases hn : n = 0
      · subst hn
        go_wp2_with fail
        refine HF.out.mono ?_
        rintro e w1 ⟨rfl, T1⟩
        have HT1 := hide T1
        clear T1
        go_wp2_with fail
        have hres : runesU S.toList = none := by rw [HR.out, HST.out]; rfl
        exact bodyPost_ret (v := .tuple #[.slice none 0 0, .bool false]) (by simp [results, Tryd.results33, go_sem]) rfl ⟨none, 0, 0, [], false, rfl, (ONx.nil _ _ _).to (HO.out.1.touch.then HT1.out), rfl, Nat.zero_le _, hres⟩
      · have n1 : ((n : Int) == 0) = false := by simp [hn]
        have n2 : (0 : Int) ≤ (n : Int) := by omega
        have n3 : (n : Int) ≤ (s.size : Int) := by omega
        go_wp2_with fail
        refine HF.out.mono ?_
        rintro e w1 ⟨rfl, T1⟩
        have HO1 := hide (HO.out.1.to T1)
        clear T1
        go_wp2_with (at_builtin; refine wpList_app _ rfl (.tmp 17) (.tmp 20) 44 rfl 21 i0 _ 1 4 Tryd.underlying44 hi hz0 hz1 hz2 rfl (by decide) (.slice A3 q c3) q _ rfl (own_touch HO1.out.own ((Touch.refl _ _).alloc _) (fun _ _ f => f)) (some ⟨_, 0, none⟩) 1 1 [runeV r] rfl ?sa ?sb ?sc ?sd ?se ?_)
        case sa => exact Reads.new _ _ _ _ rfl
        try (case sb => exact fun h => by cases h)
        case sc => exact List.all_eq_true.1 rfl
        case sd => unfold maxLen; omega
        case se => omega
        intro v4 w4 hown hgrow hfr _
        have N4 := (HO1.out.to ((Touch.refl _ _).alloc _)).app hown hgrow hfr
        obtain ⟨A4, c4, rfl, _, _⟩ := own_len hown
        have HN4 := hide N4
        clear N4 hown hgrow hfr
        go_wp2_with fail
        go_roundw
        · refine ⟨s.extract n s.size, q + 1, A4, c4, O ++ [r], rfl, rfl, ?_, ?_, hide ⟨?_, ?_⟩, hide ?_⟩
          · simp; omega
          · simp; omega
          · have := HN4.out
            rw [List.map_append]
            exact this
          · rw [List.length_append, HO.out.2]; rfl
          · rw [HR.out, HST.out, if_neg hn, extract_drop s n hle, Option.map_map]
            congr 1
            funext l
            simp
        · show (s.extract n s.size).size < s.size
          simp
          omega
    · have hz0 : s.toList = [] := List.eq_nil_of_length_eq_zero (by rw [toList_len]; omega)
      have y0 : ¬ (0 : Int) < (s.size : Int) := by omega
      have hres : runesU S.toList = some O := by rw [HR.out, hz0, runesU_nil]; simp
      have HRES := hide hres
      clear hres hz0
      go_wp2_with fail
      exact bodyPost_ret (v := .tuple #[.slice A3 q c3, .bool true]) (by simp [results, Tryd.results33, go_sem]) rfl ⟨A3, q, c3, O, .inr ⟨rfl, HO.out.1, HO.out.2, by omega, HRES.out⟩⟩

/-! ### Words -/
def fitU (r : Nat) : Bool := decide (32 < r) && !(r == 127)
def wordU (bs : List UInt8) : Bool := decide (bs.length ≤ 96) && match runesU bs with
  | none => false
  | some l => l.all fitU && (decide (0 < l.length) && decide (l.length ≤ 24))
theorem rune_at {w : World} {A : Option Addr} {q : Nat} {O : List Nat} (h : Reads w 1 A q (O.map runeV)) (hl : O.length = q) (j : Nat) (hj : j < q) :
    ∃ g off, A = some ⟨g, off, none⟩ ∧ w.cell? ⟨g, off + j, none⟩ = some (.int .i32 (O.getD j 0 : Int)) := by
  obtain ⟨g, off, hA, _, hc⟩ := h.2 (by omega)
  refine ⟨g, off, hA, hc j _ ?_⟩
  simp [List.getD, runeV, show j < O.length by omega]
theorem take_all (O : List Nat) (j : Nat) (hj : j < O.length) : (O.take (j + 1)).all fitU = ((O.take j).all fitU && fitU (O.getD j 0)) := by
  rw [List.take_succ_eq_append_getElem hj, List.all_append]
  simp [List.getD, hj]

set_option maxRecDepth 100000 in
set_option maxHeartbeats 2000000 in
theorem word_any (w : World) (s : ByteArray) (hm : s.size ≤ 9223372036854775807) (hL : Lst w) :
    Calls Tryd.prog 23 #[.string s] w fun e w' => e = .returned (.bool (wordU s.toList)) ∧ Touch (fun _ => False) w w' := by
  by_cases hs : s.size ≤ 96
  · have i0 : ¬ (96 : Int) < (s.size : Int) := by omega
    have HRA := hide (runes_any w s (by omega) hL)
    have hlen : s.toList.length ≤ 96 := by rw [toList_len]; exact hs
    have HLEN := hide hlen
    clear hL hlen
    go_enter Tryd.func23, Tryd.ntmps23
    go_wp2_with fail
    refine HRA.out.mono ?_
    rintro e w1 ⟨A, q, c, O, ok, rfl, N1, hl, hq, hru⟩
    have HN := hide N1
    have HL1 := hide hl
    have HRU := hide hru
    clear N1 hl hru HRA
    go_wp2_with fail
    go_loopw [4, 17] (fun bv iv wr => ∃ (b : Bool) (j : Nat), bv = .bool b ∧ iv = .int .i64 j ∧ j ≤ q ∧ Hid (b = (ok && (O.take j).all fitU)) ∧ Hid (Touch (fun _ => False) w1 wr)) (fun _ iv _ => q - (intOf iv).toNat)
    case atStart => exact ⟨ok, 0, rfl, rfl, Nat.zero_le _, hide (by simp), hide (Touch.refl _ _)⟩
    case round =>
      obtain ⟨b, j, rfl, rfl, hjq, HB, HT⟩ := hrel
      by_cases hj : j < q
      · have y0 : (j : Int) < (q : Int) := by omega
        obtain ⟨g, off, hA, hc⟩ := rune_at (Reads.of_own (own_touch HN.out.own HT.out (fun _ _ f => f))) HL1.out j hj
        subst hA
        have hta := take_all O j (by rw [HL1.out]; exact hj)
        obtain ⟨r, hr⟩ : ∃ r, O.getD j 0 = r := ⟨_, rfl⟩
        rw [hr] at hc hta
        have HTA := hide hta
        clear hr hta
        cases b with
        | false =>
          go_wp2_with fail
          go_roundw
          · exact ⟨false, j + 1, rfl, by simp, by omega, hide (by rw [HTA.out, ← Bool.and_assoc, ← HB.out]; rfl), HT⟩
          · show q - (intOf (.int .i64 ((j : Int) + 1))).toNat < q - (intOf (.int .i64 (j : Int))).toNat
            simp [intOf]
            omega
        | true =>
          by_cases h1 : 32 < r
          · have i1 : (32 : Int) < (r : Int) := by omega
            by_cases h2 : r = 127
            · subst h2
              go_wp2_with fail
              go_roundw
              · exact ⟨false, j + 1, rfl, by simp, by omega, hide (by rw [HTA.out, ← Bool.and_assoc, ← HB.out]; rfl), HT⟩
              · show q - (intOf (.int .i64 ((j : Int) + 1))).toNat < q - (intOf (.int .i64 (j : Int))).toNat
                simp [intOf]
                omega
            · have i2 : ¬ (r : Int) = 127 := by omega
              have i3 : ((r : Int) != 127) = true := by simp [i2]
              have HH := hide (And.intro h1 h2)
              clear h2
              go_wp2_with fail
              go_roundw
              · exact ⟨true, j + 1, rfl, by simp, by omega, hide (by rw [HTA.out, ← Bool.and_assoc, ← HB.out]; simp [fitU, HH.out.1, HH.out.2]), HT⟩
              · show q - (intOf (.int .i64 ((j : Int) + 1))).toNat < q - (intOf (.int .i64 (j : Int))).toNat
                simp [intOf]
                omega
          · have i1 : ¬ (32 : Int) < (r : Int) := by omega
            have HH := hide h1
            go_wp2_with fail
            go_roundw
            · exact ⟨false, j + 1, rfl, by simp, by omega, hide (by rw [HTA.out, ← Bool.and_assoc, ← HB.out]; simp [fitU, HH.out]), HT⟩
            · show q - (intOf (.int .i64 ((j : Int) + 1))).toNat < q - (intOf (.int .i64 (j : Int))).toNat
              simp [intOf]
              omega
      · have hO : O.take j = O := List.take_of_length_le (by rw [HL1.out]; omega)
        have hb := HB.out
        rw [hO] at hb
        have hW : wordU s.toList = (b && (decide (0 < q) && decide (q ≤ 24))) := by
          unfold wordU
          rw [HRU.out, hb]
          cases ok with
          | false => simp
          | true => simp [HLEN.out, HL1.out]
        have HWW := hide hW
        have y0 : ¬ (j : Int) < (q : Int) := by omega
        clear hW hb hO
        cases b with
        | false =>
          go_wp2_with fail
          go_ret
          exact ⟨by rw [HWW.out]; rfl, HN.out.touch.then HT.out⟩
        | true =>
          by_cases h1 : 0 < q
          · have i1 : (0 : Int) < (q : Int) := by omega
            by_cases h2 : q ≤ 24
            · have i2 : (q : Int) ≤ 24 := by omega
              have hW2 : wordU s.toList = true := by rw [HWW.out]; simp [h1, h2]
              have HW2 := hide hW2
              clear hW2
              go_wp2_with fail
              go_ret
              exact ⟨by rw [HW2.out]; rfl, HN.out.touch.then HT.out⟩
            · have i2 : ¬ (q : Int) ≤ 24 := by omega
              have hW2 : wordU s.toList = false := by rw [HWW.out]; simp [h2]
              have HW2 := hide hW2
              clear hW2
              go_wp2_with fail
              go_ret
              exact ⟨by rw [HW2.out]; rfl, HN.out.touch.then HT.out⟩
          · have i1 : ¬ (0 : Int) < (q : Int) := by omega
            have hW2 : wordU s.toList = false := by rw [HWW.out]; simp [h1]
            have HW2 := hide hW2
            clear hW2
            go_wp2_with fail
            go_ret
            exact ⟨by rw [HW2.out]; rfl, HN.out.touch.then HT.out⟩
  · have i0 : (96 : Int) < (s.size : Int) := by omega
    have hW : wordU s.toList = false := by unfold wordU; rw [toList_len]; simp [hs]
    rw [hW]
    clear hW
    go_enter Tryd.func23, Tryd.ntmps23
    go_wp2
    go_ret
    exact ⟨rfl, Touch.refl _ _⟩

end Go.Proofs.YtdjlcgldplndiaaDoor
