/- abecedarylaw09: alive, on. Conditions: none; for on: the list has come in from outside, its words have no more than 2^40 bytes. -/
import Derived.Test.YtnakpadjlamdeaaDoorRankW
import Derived.Test.YtnakpadjlamdeaaDoorRightB
namespace Go.Proofs.YtnakpadjlamdeaaDoor
open Go.RowKit

theorem dnew_any (w : World) (hL : Lst w) (L : List PRow) (hD : DictP L) (A : Option Addr) (n c : Nat) (Z : List SV) (hst : StsOk w A n Z) (hs : Z.map SV.p = (mach L).states) :
    Calls Tryd.prog 23 #[.agg #[.int .i64 (mach L).base, .slice A n c]] w fun e w' => ∃ b A' c' Z' wA wc, e = .returned (.tuple #[.pointer (some ⟨b, 0, none⟩), .bool true]) ∧ DWk w' b L n A' c' Z' wA wc ∧ NewI w w' b (mach L).base A' n c' Z' wA n wc (wdsF (mach L).states n) := by
  have hn : (mach L).states.length = n := by rw [← hs, List.length_map]; exact hst.len
  have hfew : n ≤ 1000000 := by
    rcases right_mach hD with ⟨h, _⟩ | h
    · rw [h] at hn; simp at hn; omega
    · have := h.few; omega
  have hc := new_any w hL (mach L).base A n c Z hst (by rw [hs]; exact right_mach hD) hfew
  refine hc.mono ?_
  rintro e w' ⟨b, A', c', Z', wA, wc, rfl, hI, hZ⟩
  rw [hs] at hI hZ
  have hl : Z'.length = n := by rw [← List.length_map (f := SV.p), hZ, hn]
  exact ⟨b, A', c', Z', wA, wc, rfl, ⟨hI.wk hl (wdsF_len (by omega)), hZ, hfew⟩, hI⟩
def aliveL : List PRow := [⟨⟨#[97]⟩, 3⟩, ⟨⟨#[97, 98]⟩, 5⟩, ⟨⟨#[98]⟩, 2⟩]
theorem alive_right : rightU aliveL = true := by kernel_rfl
theorem alive_dict : DictP aliveL := dict_of_right alive_right
theorem alive_find : findP (⟨#[97, 98]⟩ : ByteArray).toList aliveL = (5, true) := by kernel_rfl
theorem alive_rank : rankP (⟨#[97, 97]⟩ : ByteArray).toList aliveL = 1 := by kernel_rfl

set_option maxRecDepth 100000 in
set_option maxHeartbeats 4000000 in
theorem alive9_any (w : World) (hL : Lst w) : Calls Tryd.prog 12 #[] w fun e w' => e = .returned (.bool true) ∧ Touch (fun _ => False) w w' := by
  obtain ⟨w0, hw0⟩ : ∃ x, x = w.alloc (.cells #[.string ⟨#[97]⟩, .int .i64 3, .string ⟨#[97, 98]⟩, .int .i64 5, .string ⟨#[98]⟩, .int .i64 2] 32) := ⟨_, rfl⟩
  have hT0 : Touch (fun _ => False) w w0 := by rw [hw0]; exact (Touch.refl _ _).alloc _
  have hso : SL.Ok ⟨some ⟨w.heap.size, 0, none⟩, 3, 3, aliveL⟩ w0 := by
    refine ⟨rfl, ?_, ?_⟩
    · rw [hw0]
      exact Reads.new w _ _ 3 rfl
    · intro h; cases h
  have hmk := make_any w0 ⟨some ⟨w.heap.size, 0, none⟩, 3, 3, aliveL⟩ hso alive_dict (by
    intro r hr
    simp only [aliveL, List.mem_cons, List.not_mem_nil, or_false] at hr
    rcases hr with rfl | rfl | rfl <;> decide)
  have HW0 := hide hw0
  have HT0 := hide hT0
  have HMK := hide hmk
  have HL := hide hL
  clear hw0 hT0 hso hmk hL
  go_enter Tryd.func12, Tryd.ntmps12
  go_wp2_with fail
  rw [← HW0.out]
  refine HMK.out.mono ?_
  rintro e w1 ⟨A, n, c, Z, rfl, hst, hs, hnc, hcm, T1⟩
  have hdn := dnew_any w1 (Lst.touch HL.out (HT0.out.then T1)) aliveL alive_dict A n c Z hst hs
  have HDN := hide hdn
  have HT1 := hide (HT0.out.then T1)
  clear hst hs hnc hcm T1 hdn HMK
  go_wp2_with fail
  refine HDN.out.mono ?_
  rintro e w2 ⟨b, A', c', Z', wA, wc, rfl, hdw, hI⟩
  have HDW := hide hdw
  have HT2 := hide (HT1.out.then hI.touch)
  have hfd := dfind_any hdw alive_dict (Lst.touch HL.out HT2.out) ⟨#[97, 98]⟩ (by decide)
  rw [alive_find] at hfd
  have HFD := hide hfd
  clear hdw hI HDN hfd
  go_wp2_with fail
  refine HFD.out.mono ?_
  rintro e w3 ⟨rfl, T3⟩
  have HT3 := hide (HT2.out.then T3)
  have hln := dlen_any (HDW.out.quiet T3) alive_dict
  have HLN := hide hln
  have HDW3 := hide (HDW.out.quiet T3)
  clear T3 HFD hln
  go_wp2_with fail
  refine HLN.out.mono ?_
  rintro e w4 ⟨rfl, T4⟩
  have HT4 := hide (HT3.out.then T4)
  have hrk := drank_any (HDW3.out.quiet T4) alive_dict (Lst.touch HL.out HT4.out) ⟨#[97, 97]⟩
  rw [alive_rank] at hrk
  have HRK := hide hrk
  have hlen3 : ((aliveL.length : Nat) : Int) = 3 := rfl
  rw [hlen3]
  clear T4 HLN hrk hlen3
  go_wp2_with fail
  refine HRK.out.mono ?_
  rintro e w5 ⟨rfl, T5⟩
  have HT5 := hide (HT4.out.then T5)
  clear T5 HRK
  go_wp2_with fail
  go_ret
  exact ⟨rfl, HT5.out⟩

theorem writeU_size (r : Nat) : (writeU r).length ≤ 4 := by
  unfold writeU
  repeat' split
  all_goals simp
theorem flat_size : ∀ x : List Nat, (x.flatMap writeU).length ≤ 4 * x.length
  | [] => by simp
  | r :: x => by
    have h1 := writeU_size r
    have h2 := flat_size x
    simp only [List.flatMap_cons, List.length_append, List.length_cons]
    omega
theorem dict_sizes {L : List PRow} (hD : DictP L) : ∀ r ∈ L, r.word.size ≤ 1099511627776 := by
  intro r hr
  obtain ⟨h1, _, _, h4⟩ := hD.word r hr
  have h := (runesU_write _ _ _ (Nat.le_refl _) h1).1
  have h2 := flat_size (wordR r)
  rw [← h, ByteArray.toList_eq] at h2
  have e : r.word.size = r.word.data.toList.length := by rw [Array.length_toList]; rfl
  omega
def onP (L : List PRow) : Bool := decide (L.length ≤ 300) && rightU L
/-- What on tells: a walk on the dictionary, or none. -/
def OnT (L : List PRow) (e : Ending) (w' : World) : Prop := (onP L = false ∧ e = .returned (.tuple #[.pointer none, .bool false])) ∨ (onP L = true ∧ DictP L ∧ ∃ b n A c Z wA wc, e = .returned (.tuple #[.pointer (some ⟨b, 0, none⟩), .bool true]) ∧ DWk w' b L n A c Z wA wc)

set_option maxRecDepth 100000 in
set_option maxHeartbeats 4000000 in
theorem on_any (w : World) (hL : Lst w) (s : SL) (hs : s.Ok w) (hWf : ∀ r ∈ s.L, r.Wf) (hm : s.n ≤ maxLen) :
    Calls Tryd.prog 11 #[s.val] w fun e w' => OnT s.L e w' ∧ Touch (fun _ => False) w w' := by
  have hlen := hs.len
  have HL := hide hL
  have HS := hide hs
  have HRR := hide (rright_any w s hs hWf hm)
  by_cases h3 : s.n ≤ 300
  · cases hr : rightU s.L with
    | false =>
      have ho : onP s.L = false := by unfold onP; rw [hr, Bool.and_false]
      have HO := hide ho
      have y1 : ¬ (300 : Int) < (s.n : Int) := by omega
      rw [hr] at HRR
      obtain ⟨A, n, c, L⟩ := s
      simp only [SL.val] at HRR y1 HO ⊢
      clear hs hL hWf hm h3 hr ho hlen HS
      go_enter Tryd.func11, Tryd.ntmps11
      go_wp2_with fail
      refine HRR.out.mono ?_
      rintro e w1 ⟨rfl, T1⟩
      have HT1 := hide T1
      clear T1 HRR
      go_wp2_with fail
      exact bodyPost_ret (v := .tuple #[.pointer none, .bool false]) (by simp [results, Tryd.results11, go_sem]) rfl ⟨.inl ⟨HO.out, rfl⟩, HT1.out⟩
    | true =>
      have hD := dict_of_right hr
      have ho : onP s.L = true := by unfold onP; rw [hr, Bool.and_true, decide_eq_true_eq]; omega
      have HO := hide ho
      have HD := hide hD
      have y1 : ¬ (300 : Int) < (s.n : Int) := by omega
      have HMK := hide (fun w1 T => make_any w1 s (hs.touch (w' := w1) T) hD (dict_sizes hD))
      rw [hr] at HRR
      obtain ⟨A, n, c, L⟩ := s
      simp only [SL.val] at HRR HMK y1 HO HD ⊢
      clear hs hL hWf hm h3 hr ho hlen HS hD
      go_enter Tryd.func11, Tryd.ntmps11
      go_wp2_with fail
      refine HRR.out.mono ?_
      rintro e w1 ⟨rfl, T1⟩
      have HM2 := hide (HMK.out w1 T1)
      have HT1 := hide T1
      clear T1 HRR HMK
      go_wp2_with fail
      refine HM2.out.mono ?_
      rintro e w2 ⟨A2, n2, c2, Z, rfl, hst, hs2, _, _, T2⟩
      have HT2 := hide (HT1.out.then T2)
      have HDN := hide (dnew_any w2 (Lst.touch HL.out HT2.out) L HD.out A2 n2 c2 Z hst hs2)
      clear hst hs2 T2 HM2
      go_wp2_with fail
      refine HDN.out.mono ?_
      rintro e w3 ⟨b, A', c', Z', wA, wc, rfl, hdw, hI⟩
      have HDW := hide hdw
      have HT3 := hide (HT2.out.then hI.touch)
      clear hdw hI HDN
      go_wp2_with fail
      exact bodyPost_ret (v := .tuple #[.pointer (some ⟨b, 0, none⟩), .bool true]) (by simp [results, Tryd.results11, go_sem]) rfl ⟨.inr ⟨HO.out, HD.out, b, n2, A', c', Z', wA, wc, rfl, HDW.out⟩, HT3.out⟩
  · have ho : onP s.L = false := by unfold onP; rw [decide_eq_false (by omega)]; rfl
    have HO := hide ho
    have y1 : (300 : Int) < (s.n : Int) := by omega
    obtain ⟨A, n, c, L⟩ := s
    simp only [SL.val] at y1 HO ⊢
    clear hs hL hWf hm h3 ho hlen HS HRR
    go_enter Tryd.func11, Tryd.ntmps11
    go_wp2_with fail
    exact bodyPost_ret (v := .tuple #[.pointer none, .bool false]) (by simp [results, Tryd.results11, go_sem]) rfl ⟨.inl ⟨HO.out, rfl⟩, Touch.refl _ _⟩

end Go.Proofs.YtnakpadjlamdeaaDoor
