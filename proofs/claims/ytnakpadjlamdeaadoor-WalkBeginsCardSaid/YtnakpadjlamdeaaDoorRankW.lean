/- (*walk.Walk).Rank on a dictionary's walk. Condition: it is a dictionary. -/
import Derived.Test.YtnakpadjlamdeaaDoorDwk
namespace Go.Proofs.YtnakpadjlamdeaaDoor
open Go.RowKit

theorem less_is (a b : ByteArray) (v : Bool) (h : Op.bytesLess a.toList b.toList = v) (w : World) :
    Calls Tryd.prog 34 #[.string a, .string b] w fun e w' => e = .returned (.bool v) ∧ w' = w := by
  subst h
  go_enter Tryd.func34, Tryd.ntmps34
  go_wp2
  go_ret
  exact ⟨rfl, rfl⟩
/-- How many words are ahead. -/
def rankP (s : List UInt8) (L : List PRow) : Nat := (L.takeWhile fun p => Op.bytesLess p.word.toList s).length
theorem takeWhile_len {α : Type} (p : α → Bool) (d : α) : ∀ (l : List α) (m : Nat), m ≤ l.length → (∀ j, j < m → p (l.getD j d) = true) → (m < l.length → p (l.getD m d) = false) → (l.takeWhile p).length = m
  | [], m, h, _, _ => by simp at h; subst h; rfl
  | x :: l, 0, _, _, h => by
    have := h (by simp)
    simp only [List.getD_cons_zero] at this
    simp [this]
  | x :: l, m + 1, hm, h1, h2 => by
    have h0 := h1 0 (by omega)
    simp only [List.getD_cons_zero] at h0
    rw [List.takeWhile_cons, if_pos h0, List.length_cons, takeWhile_len p d l m (by simpa using hm) (fun j hj => by simpa using h1 (j + 1) (by omega)) (fun hl => by simpa using h2 (by simpa using hl))]
theorem dict_less {L : List PRow} (hD : DictP L) {i j : Nat} (hij : i < j) (hj : j < L.length) : Op.bytesLess (L.getD i PRow.zero).word.toList (L.getD j PRow.zero).word.toList = true := by
  have hi : i < L.length := by omega
  have hs := hD.sort
  unfold SortR restsL at hs
  rw [List.pairwise_map] at hs
  have h := List.pairwise_iff_getElem.1 hs i j hi hj hij
  have e1 : L.getD i PRow.zero = L[i] := by simp [List.getD, hi]
  have e2 : L.getD j PRow.zero = L[j] := by simp [List.getD, hj]
  rw [e1, e2]
  have w1 := runesU_write _ _ _ (Nat.le_refl _) (hD.word _ (List.getElem_mem hi)).1
  have w2 := runesU_write _ _ _ (Nat.le_refl _) (hD.word _ (List.getElem_mem hj)).1
  rw [w1.1, w2.1, less_runes _ _ (fun r hr => by have := w1.2 r hr; unfold scal at this; simp at this; omega) (fun r hr => by have := w2.2 r hr; unfold scal at this; simp at this; omega)]
  exact h

set_option maxRecDepth 100000 in
set_option maxHeartbeats 4000000 in
theorem drank_any {w : World} {b : Nat} {L : List PRow} {n : Nat} {A : Option Addr} {c : Nat} {Z : List SV} {wA : Option Addr} {wc : Nat} (h : DWk w b L n A c Z wA wc) (hD : DictP L) (hL : Lst w) (s : ByteArray) :
    Calls Tryd.prog 17 #[.pointer (some ⟨b, 0, none⟩), .string s] w fun e w' => e = .returned (.int .i64 (rankP s.toList L : Nat)) ∧ Touch (fun _ => False) w w' := by
  have HDW := hide h
  have HD := hide hD
  have HL := hide hL
  have HLN := hide (dlen_any h hD)
  obtain ⟨N, hN⟩ : ∃ N, N = L.length := ⟨_, rfl⟩
  rw [← hN] at HLN
  have HN := hide hN
  have hN4 : (N : Int) ≤ 4096 := by have := hD.len; omega
  clear h hD hL hN
  go_enter Tryd.func17, Tryd.ntmps17
  go_wp2_with fail
  refine HLN.out.mono ?_
  rintro e w3 ⟨rfl, T3⟩
  have HT3 := hide T3
  clear T3 HLN
  go_wp2_with fail
  go_loopw [5, 6] (fun lv hv wr => ∃ (lo hi : Nat), lv = .int .i64 lo ∧ hv = .int .i64 hi ∧ lo ≤ hi ∧ hi ≤ N ∧ Hid (∀ j, j < lo → Op.bytesLess (L.getD j PRow.zero).word.toList s.toList = true) ∧ Hid (∀ j, hi ≤ j → j < N → Op.bytesLess (L.getD j PRow.zero).word.toList s.toList = false) ∧ Hid (Touch (fun _ => False) w wr)) (fun lv hv _ => (intOf hv - intOf lv).toNat)
  case atStart => exact ⟨0, N, rfl, rfl, by omega, Nat.le_refl _, hide (fun j hj => absurd hj (Nat.not_lt_zero _)), hide (fun j h1 h2 => absurd h2 (by omega)), HT3⟩
  case round =>
    obtain ⟨lo, hi, rfl, rfl, hlh, hhn, HP, HQ, HT⟩ := hrel
    by_cases hlt : lo < hi
    · obtain ⟨m, hm⟩ : ∃ m, m = (lo + hi) / 2 := ⟨_, rfl⟩
      have hm1 : lo ≤ m := by omega
      have hm2 : m < hi := by omega
      have y1 : (lo : Int) < (hi : Int) := by omega
      have y2 : IntKind.i64.wrap ((lo : Int) + (hi : Int)) = (lo : Int) + (hi : Int) := IntWalk.i64_in _ (by omega)
      have y3 : Int.tdiv ((lo : Int) + (hi : Int)) 2 = (m : Int) := by
        rw [Int.tdiv_eq_ediv_of_nonneg (by omega)]
        omega
      have y4 : IntKind.i64.wrap (m : Int) = (m : Int) := IntWalk.i64_in _ (by omega)
      have y5 : IntKind.i64.wrap ((m : Int) + 1) = (m : Int) + 1 := IntWalk.i64_in _ (by omega)
      obtain ⟨p, hp⟩ : ∃ p, L.getD m PRow.zero = p := ⟨_, rfl⟩
      have hat := dat_any (HDW.out.quiet HT.out) HD.out (Lst.touch HL.out HT.out) (m : Int)
      have e : atP L (m : Int) = (p, true) := by
        unfold atP
        rw [if_pos (by have := HN.out; omega), ← hp]
        rfl
      rw [e] at hat
      simp only at hat
      obtain ⟨v, hv⟩ : ∃ v, Op.bytesLess p.word.toList s.toList = v := ⟨_, rfl⟩
      have HLS := hide (less_is p.word s v hv)
      have HAT := hide hat
      have HPM := hide hp
      have HV := hide hv
      obtain ⟨pw, pn⟩ := p
      simp only at HLS HAT HV
      clear hm e hat hp hv
      go_wp2_with fail
      refine HAT.out.mono ?_
      rintro e w5 ⟨rfl, T5⟩
      have HT5 := hide (HT.out.then T5)
      clear T5 HAT
      go_wp2_with fail
      refine (HLS.out _).mono ?_
      rintro e w6 ⟨rfl, rfl⟩
      clear HLS
      cases v with
      | true =>
        go_wp2_with fail
        go_roundw
        · refine ⟨m + 1, hi, by simp, rfl, by omega, hhn, hide (fun j hj => ?_), HQ, hide (HT5.out.alloc _)⟩
          rcases Nat.lt_or_ge j m with h | h
          · exact bl_trans _ _ _ (dict_less HD.out h (by have := HN.out; omega)) (by rw [HPM.out]; exact HV.out)
          · have : j = m := by omega
            subst this
            rw [HPM.out]
            exact HV.out
        · simp only [intOf]; omega
      | false =>
        go_wp2_with fail
        go_roundw
        · refine ⟨lo, m, rfl, rfl, hm1, by omega, HP, hide (fun j h1 h2 => ?_), hide (HT5.out.alloc _)⟩
          rcases Nat.lt_or_ge m j with h | h
          · cases hb : Op.bytesLess (L.getD j PRow.zero).word.toList s.toList with
            | false => rfl
            | true =>
              exfalso
              have h3 := bl_trans _ _ _ (dict_less HD.out h (by have := HN.out; omega)) hb
              rw [HPM.out] at h3
              have := HV.out
              rw [h3] at this
              cases this
          · have : j = m := by omega
            subst this
            rw [HPM.out]
            exact HV.out
        · simp only [intOf]; omega
    · have hle : lo = hi := by omega
      subst hle
      have y1 : ¬ (lo : Int) < (lo : Int) := by omega
      have hr : rankP s.toList L = lo := by
        refine takeWhile_len _ PRow.zero L lo (by have := HN.out; omega) HP.out fun hl => HQ.out lo (Nat.le_refl _) (by have := HN.out; omega)
      have HR := hide hr
      clear hr
      go_wp2_with fail
      go_ret
      exact ⟨by rw [HR.out]; rfl, HT.out⟩

end Go.Proofs.YtnakpadjlamdeaaDoor
