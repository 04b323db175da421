/- Which lists are dictionaries: pairs.Right. Conditions: the package's variable lies as its initialiser lays it; the words are no longer than any text. -/
import Derived.Test.YtdjlcgldplndiaaDoorUtfX
import Derived.Test.YtdjlcgldplndiaaDoorAliveQ
import Derived.Test.YtdjlcgldplndiaaDoorRef06B
namespace Go.Proofs.YtdjlcgldplndiaaDoor
open Go.RowKit

def fitP (L : List PRow) (i : Nat) : Bool := (decide (1 ≤ (L.getD i PRow.zero).weight) && decide ((L.getD i PRow.zero).weight ≤ 1048576)) && (wordU (L.getD i PRow.zero).word.toList && (decide (i = 0) || Op.bytesLess (L.getD (i - 1) PRow.zero).word.toList (L.getD i PRow.zero).word.toList))
theorem fitP_eq (L : List PRow) (i : Nat) : fitP L i = ((decide (1 ≤ (L.getD i PRow.zero).weight) && decide ((L.getD i PRow.zero).weight ≤ 1048576)) && (wordU (L.getD i PRow.zero).word.toList && (decide (i = 0) || Op.bytesLess (L.getD (i - 1) PRow.zero).word.toList (L.getD i PRow.zero).word.toList))) := rfl
def rightU (L : List PRow) : Bool := decide (L.length ≤ 4096) && (List.range L.length).all (fitP L)
theorem rightU_long {L : List PRow} (h : ¬ L.length ≤ 4096) : rightU L = false := by simp [rightU, h]
theorem rightU_yes {L : List PRow} (h : L.length ≤ 4096) (ha : ∀ j, j < L.length → fitP L j = true) : rightU L = true := by
  simp only [rightU, h, decide_true, Bool.true_and, List.all_eq_true, List.mem_range]
  exact ha
theorem rightU_no {L : List PRow} {i : Nat} (hi : i < L.length) (hf : fitP L i = false) : rightU L = false := by
  refine Bool.eq_false_iff.2 fun e => ?_
  simp only [rightU, Bool.and_eq_true, List.all_eq_true, List.mem_range] at e
  have := e.2 i hi
  rw [hf] at this
  cases this

theorem word_is (s : ByteArray) (v : Bool) (h : wordU s.toList = v) (hm : s.size ≤ 9223372036854775807) (w : World) (hL : Lst w) :
    Calls Tryd.prog 23 #[.string s] w fun e w' => e = .returned (.bool v) ∧ Touch (fun _ => False) w w' := by
  subst h
  exact word_any w s hm hL
theorem pless_is (a b : ByteArray) (v : Bool) (h : Op.bytesLess a.toList b.toList = v) (w : World) :
    Calls Tryd.prog 24 #[.string a, .string b] w fun e w' => e = .returned (.bool v) ∧ w' = w := by
  subst h
  go_enter Tryd.func24, Tryd.ntmps24
  go_wp2
  go_ret
  exact ⟨rfl, rfl⟩

set_option maxRecDepth 100000 in
set_option maxHeartbeats 4000000 in
theorem right_any (w : World) (s : SL) (hs : s.Ok w) (hWf : ∀ r ∈ s.L, r.Wf) (hm : s.n ≤ maxLen) (hL : Lst w) :
    Calls Tryd.prog 12 #[s.val] w fun e w' => e = .returned (.bool (rightU s.L)) ∧ Touch (fun _ => False) w w' := by
  obtain ⟨A, n, c, L⟩ := s
  have HR := hide hs.reads
  have HLN := hide hs.len
  have HWF := hide hWf
  have HLS := hide hL
  clear hs hWf hL
  simp only [SL.val]
  simp only at HR HLN HWF hm
  unfold maxLen at hm
  by_cases hbig : n ≤ 4096
  · have i0 : ¬ (4096 : Int) < (n : Int) := by omega
    have HBIG := hide hbig
    clear hbig
    go_enter Tryd.func12, Tryd.ntmps12
    go_wp2
    go_loopw [10] (fun iv wr => ∃ i : Nat, iv = .int .i64 i ∧ i ≤ n ∧ Hid (∀ j, j < i → fitP L j = true) ∧ Hid (Touch (fun _ => False) w wr)) (fun iv _ => n - (intOf iv).toNat)
    case atStart => exact ⟨0, rfl, Nat.zero_le _, hide (fun j hj => by omega), hide (Touch.refl _ _)⟩
    case round =>
      obtain ⟨i, rfl, hin', HA, HT⟩ := hrel
      by_cases hin : i < n
      · have y0 : (i : Int) < (n : Int) := by omega
        obtain ⟨p, hp⟩ : ∃ p, p = wr.heap.size := ⟨_, rfl⟩
        obtain ⟨g, o, hA, hg, a0, a1⟩ := preads_at (HR.out.touch HT.out (fun _ _ f => f)) HLN.out.symm i hin
        subst hA
        have hfit := fitP_eq L i
        have hwf := HWF.out _ (pgetD_mem L i (by rw [HLN.out]; exact hin))
        obtain ⟨⟨xw, xn⟩, hx⟩ : ∃ x, x = L.getD i PRow.zero := ⟨_, rfl⟩
        rw [← hx] at a0 a1 hfit hwf
        simp only at a0 a1 hfit
        simp only [PRow.Wf] at hwf
        have HX := hide hx
        have hno := fun h => rightU_no (L := L) (i := i) (by rw [HLN.out]; exact hin) h
        obtain ⟨wa, hwa⟩ : ∃ x, x = wr.alloc (.cells #[.string xw, .int .i64 xn] 29) := ⟨_, rfl⟩
        have ta : Touch (fun _ => False) wr wa := by rw [hwa]; exact (Touch.refl _ _).alloc _
        have ba : Blk wa p 29 #[.string xw, .int .i64 xn] := by rw [hwa, hp]; exact Blk.new _ _ _
        have HTR := hide ta
        have HTA := hide (HT.out.then ta)
        have HBA := hide ba
        have HWA := hide hwa
        have HPP := hide hp
        have HFIT := hide hfit
        have HNO := hide hno
        have HWFX := hide hwf
        clear ta ba hwa hp hx hfit hno hwf
        have hd : Touch (fun _ => False) wa wa.drew := (Touch.refl _ _).drew
        obtain ⟨wd, hwd⟩ : ∃ x, x = wa.drew := ⟨_, rfl⟩
        rw [← hwd] at hd
        have HD := hide hd
        have HWD := hide hwd
        obtain ⟨e0, e1⟩ : wd.cell? ⟨p, 0, none⟩ = some (.string xw) ∧ wd.cell? ⟨p, 1, none⟩ = some (.int .i64 xn) := ⟨(HBA.out.touch hd (fun f => f)).cell 0, (HBA.out.touch hd (fun f => f)).cell 1⟩
        clear hd hwd
        have HLD := hide (HLS.out.touch (HTA.out.then HD.out))
        by_cases h1 : xn < 1
        · have d1 : decide (xn < 1) = true := by simp [h1]
          go_upto_region 6 with fail
          rw [← HWA.out, ← HPP.out]
          refine wp_region_any (by kernel_rfl) ?_
          change wpAny _ _ _ _ _ _ _ (World.drew _)
          rw [← HWD.out]
          refine wpAny_take (i := 0) (v := ?v1_0) rfl (by kernel_rfl) (by kernel_rfl) (by kernel_rfl) (fun _ _ _ h => h) (Or.inl ⟨by kernel_rfl, ?h1_0⟩) ?_
          case h1_0 => intro w; go_simp; try with_reducible rfl
          refine wpAny_ready (rs := [1]) (by kernel_rfl) (by simp) ?_
          refine AllReady.cons rfl (fun K hK => ?_) AllReady.nil
          go_simp
          refine hK _ _ ?_
          clear hK K
          refine wpAny_take (i := 2) (v := .bool true) rfl (by kernel_rfl) (by kernel_rfl) (by kernel_rfl) (fun _ _ _ h => h) (Or.inl ⟨by kernel_rfl, ?h2_2⟩) ?_
          case h2_2 => intro w; go_simp; try simp only [d1]
          refine wpAny_take (i := 3) (v := ?v3_3) rfl (by kernel_rfl) (by kernel_rfl) (by kernel_rfl) (fun _ _ _ h => h) (Or.inl ⟨by kernel_rfl, ?h3_3⟩) ?_
          case h3_3 => intro w; go_simp; try with_reducible rfl
          refine wpAny_take (i := 4) (v := undef) rfl (by kernel_rfl) (by kernel_rfl) (by kernel_rfl) (fun _ _ _ h => h) (Or.inr ⟨by kernel_rfl, rfl⟩) ?_
          refine wpAny_take (i := 5) (v := undef) rfl (by kernel_rfl) (by kernel_rfl) (by kernel_rfl) (fun _ _ _ h => h) (Or.inr ⟨by kernel_rfl, rfl⟩) ?_
          refine wpAny_take (i := 6) (v := undef) rfl (by kernel_rfl) (by kernel_rfl) (by kernel_rfl) (fun _ _ _ h => h) (Or.inr ⟨by kernel_rfl, rfl⟩) ?_
          refine wpAny_take (i := 7) (v := ?v4_7) rfl (by kernel_rfl) (by kernel_rfl) (by kernel_rfl) (fun _ _ _ h => h) (Or.inl ⟨by kernel_rfl, ?h4_7⟩) ?_
          case h4_7 => intro w; go_simp; try with_reducible rfl
          refine wpAny_take (i := 8) (v := ?v5_8) rfl (by kernel_rfl) (by kernel_rfl) (by kernel_rfl) (fun _ _ _ h => h) (Or.inl ⟨by kernel_rfl, ?h5_8⟩) ?_
          case h5_8 => intro w; go_simp; try with_reducible rfl
          refine wpAny_take (i := 9) (v := undef) rfl (by kernel_rfl) (by kernel_rfl) (by kernel_rfl) (fun _ _ _ h => h) (Or.inr ⟨by kernel_rfl, rfl⟩) ?_
          refine wpAny_take (i := 10) (v := undef) rfl (by kernel_rfl) (by kernel_rfl) (by kernel_rfl) (fun _ _ _ h => h) (Or.inr ⟨by kernel_rfl, rfl⟩) ?_
          refine wpAny_take (i := 11) (v := undef) rfl (by kernel_rfl) (by kernel_rfl) (by kernel_rfl) (fun _ _ _ h => h) (Or.inr ⟨by kernel_rfl, rfl⟩) ?_
          refine wpAny_take (i := 12) (v := undef) rfl (by kernel_rfl) (by kernel_rfl) (by kernel_rfl) (fun _ _ _ h => h) (Or.inr ⟨by kernel_rfl, rfl⟩) ?_
          refine wpAny_take (i := 13) (v := ?v6_13) rfl (by kernel_rfl) (by kernel_rfl) (by kernel_rfl) (fun _ _ _ h => h) (Or.inl ⟨by kernel_rfl, ?h6_13⟩) ?_
          case h6_13 => intro w; go_simp; try with_reducible rfl
          refine wpAny_take (i := 14) (v := ?v7_14) rfl (by kernel_rfl) (by kernel_rfl) (by kernel_rfl) (fun _ _ _ h => h) (Or.inl ⟨by kernel_rfl, ?h7_14⟩) ?_
          case h7_14 => intro w; go_simp; try with_reducible rfl
          refine wpAny_take (i := 15) (v := undef) rfl (by kernel_rfl) (by kernel_rfl) (by kernel_rfl) (fun _ _ _ h => h) (Or.inr ⟨by kernel_rfl, rfl⟩) ?_
          refine wpAny_take (i := 16) (v := undef) rfl (by kernel_rfl) (by kernel_rfl) (by kernel_rfl) (fun _ _ _ h => h) (Or.inr ⟨by kernel_rfl, rfl⟩) ?_
          refine wpAny_take (i := 17) (v := undef) rfl (by kernel_rfl) (by kernel_rfl) (by kernel_rfl) (fun _ _ _ h => h) (Or.inr ⟨by kernel_rfl, rfl⟩) ?_
          refine wpAny_take (i := 18) (v := undef) rfl (by kernel_rfl) (by kernel_rfl) (by kernel_rfl) (fun _ _ _ h => h) (Or.inr ⟨by kernel_rfl, rfl⟩) ?_
          refine wpAny_take (i := 19) (v := undef) rfl (by kernel_rfl) (by kernel_rfl) (by kernel_rfl) (fun _ _ _ h => h) (Or.inr ⟨by kernel_rfl, rfl⟩) ?_
          refine wpAny_take (i := 20) (v := undef) rfl (by kernel_rfl) (by kernel_rfl) (by kernel_rfl) (fun _ _ _ h => h) (Or.inr ⟨by kernel_rfl, rfl⟩) ?_
          refine wpAny_take (i := 21) (v := undef) rfl (by kernel_rfl) (by kernel_rfl) (by kernel_rfl) (fun _ _ _ h => h) (Or.inr ⟨by kernel_rfl, rfl⟩) ?_
          refine wpAny_take (i := 22) (v := undef) rfl (by kernel_rfl) (by kernel_rfl) (by kernel_rfl) (fun _ _ _ h => h) (Or.inr ⟨by kernel_rfl, rfl⟩) ?_
          refine wpAny_take (i := 23) (v := undef) rfl (by kernel_rfl) (by kernel_rfl) (by kernel_rfl) (fun _ _ _ h => h) (Or.inr ⟨by kernel_rfl, rfl⟩) ?_
          refine wpAny_take (i := 24) (v := undef) rfl (by kernel_rfl) (by kernel_rfl) (by kernel_rfl) (fun _ _ _ h => h) (Or.inr ⟨by kernel_rfl, rfl⟩) ?_
          refine wpAny_take (i := 25) (v := undef) rfl (by kernel_rfl) (by kernel_rfl) (by kernel_rfl) (fun _ _ _ h => h) (Or.inr ⟨by kernel_rfl, rfl⟩) ?_
          refine wpAny_take (i := 26) (v := undef) rfl (by kernel_rfl) (by kernel_rfl) (by kernel_rfl) (fun _ _ _ h => h) (Or.inr ⟨by kernel_rfl, rfl⟩) ?_
          refine wpAny_take (i := 27) (v := undef) rfl (by kernel_rfl) (by kernel_rfl) (by kernel_rfl) (fun _ _ _ h => h) (Or.inr ⟨by kernel_rfl, rfl⟩) ?_
          refine wpAny_take (i := 28) (v := undef) rfl (by kernel_rfl) (by kernel_rfl) (by kernel_rfl) (fun _ _ _ h => h) (Or.inr ⟨by kernel_rfl, rfl⟩) ?_
          refine wpAny_take (i := 29) (v := ?v8_29) rfl (by kernel_rfl) (by kernel_rfl) (by kernel_rfl) (fun _ _ _ h => h) (Or.inl ⟨by kernel_rfl, ?h8_29⟩) ?_
          case h8_29 => intro w; go_simp; try with_reducible rfl
          go_simp
          refine wpAny_done (by kernel_rfl) ?_ 0
          go_wp2_with fail
          go_ret
          exact ⟨by rw [HNO.out (by rw [HFIT.out]; simp [show ¬ 1 ≤ xn by omega])]; rfl, HTA.out.then HD.out⟩
        · have d1 : decide (xn < 1) = false := by simp [h1]
          by_cases h2 : 1048576 < xn
          · have d2 : decide (1048576 < xn) = true := by simp [h2]
            go_upto_region 6 with fail
            rw [← HWA.out, ← HPP.out]
            refine wp_region_any (by kernel_rfl) ?_
            change wpAny _ _ _ _ _ _ _ (World.drew _)
            rw [← HWD.out]
            refine wpAny_take (i := 0) (v := ?v9_0) rfl (by kernel_rfl) (by kernel_rfl) (by kernel_rfl) (fun _ _ _ h => h) (Or.inl ⟨by kernel_rfl, ?h9_0⟩) ?_
            case h9_0 => intro w; go_simp; try with_reducible rfl
            refine wpAny_ready (rs := [1]) (by kernel_rfl) (by simp) ?_
            refine AllReady.cons rfl (fun K hK => ?_) AllReady.nil
            go_simp
            refine hK _ _ ?_
            clear hK K
            refine wpAny_take (i := 2) (v := .bool false) rfl (by kernel_rfl) (by kernel_rfl) (by kernel_rfl) (fun _ _ _ h => h) (Or.inl ⟨by kernel_rfl, ?h10_2⟩) ?_
            case h10_2 => intro w; go_simp; try simp only [d1]
            refine wpAny_take (i := 3) (v := ?v11_3) rfl (by kernel_rfl) (by kernel_rfl) (by kernel_rfl) (fun _ _ _ h => h) (Or.inl ⟨by kernel_rfl, ?h11_3⟩) ?_
            case h11_3 => intro w; go_simp; try with_reducible rfl
            refine wpAny_take (i := 4) (v := ?v12_4) rfl (by kernel_rfl) (by kernel_rfl) (by kernel_rfl) (fun _ _ _ h => h) (Or.inl ⟨by kernel_rfl, ?h12_4⟩) ?_
            case h12_4 => intro w; go_simp; try with_reducible rfl
            refine wpAny_ready (rs := [5]) (by kernel_rfl) (by simp) ?_
            refine AllReady.cons rfl (fun K hK => ?_) AllReady.nil
            go_simp
            refine hK _ _ ?_
            clear hK K
            refine wpAny_take (i := 6) (v := .bool true) rfl (by kernel_rfl) (by kernel_rfl) (by kernel_rfl) (fun _ _ _ h => h) (Or.inl ⟨by kernel_rfl, ?h13_6⟩) ?_
            case h13_6 => intro w; go_simp; try simp only [d2]
            refine wpAny_take (i := 7) (v := ?v14_7) rfl (by kernel_rfl) (by kernel_rfl) (by kernel_rfl) (fun _ _ _ h => h) (Or.inl ⟨by kernel_rfl, ?h14_7⟩) ?_
            case h14_7 => intro w; go_simp; try with_reducible rfl
            refine wpAny_take (i := 8) (v := ?v15_8) rfl (by kernel_rfl) (by kernel_rfl) (by kernel_rfl) (fun _ _ _ h => h) (Or.inl ⟨by kernel_rfl, ?h15_8⟩) ?_
            case h15_8 => intro w; go_simp; try with_reducible rfl
            refine wpAny_take (i := 9) (v := undef) rfl (by kernel_rfl) (by kernel_rfl) (by kernel_rfl) (fun _ _ _ h => h) (Or.inr ⟨by kernel_rfl, rfl⟩) ?_
            refine wpAny_take (i := 10) (v := undef) rfl (by kernel_rfl) (by kernel_rfl) (by kernel_rfl) (fun _ _ _ h => h) (Or.inr ⟨by kernel_rfl, rfl⟩) ?_
            refine wpAny_take (i := 11) (v := undef) rfl (by kernel_rfl) (by kernel_rfl) (by kernel_rfl) (fun _ _ _ h => h) (Or.inr ⟨by kernel_rfl, rfl⟩) ?_
            refine wpAny_take (i := 12) (v := undef) rfl (by kernel_rfl) (by kernel_rfl) (by kernel_rfl) (fun _ _ _ h => h) (Or.inr ⟨by kernel_rfl, rfl⟩) ?_
            refine wpAny_take (i := 13) (v := ?v16_13) rfl (by kernel_rfl) (by kernel_rfl) (by kernel_rfl) (fun _ _ _ h => h) (Or.inl ⟨by kernel_rfl, ?h16_13⟩) ?_
            case h16_13 => intro w; go_simp; try with_reducible rfl
            refine wpAny_take (i := 14) (v := ?v17_14) rfl (by kernel_rfl) (by kernel_rfl) (by kernel_rfl) (fun _ _ _ h => h) (Or.inl ⟨by kernel_rfl, ?h17_14⟩) ?_
            case h17_14 => intro w; go_simp; try with_reducible rfl
            refine wpAny_take (i := 15) (v := undef) rfl (by kernel_rfl) (by kernel_rfl) (by kernel_rfl) (fun _ _ _ h => h) (Or.inr ⟨by kernel_rfl, rfl⟩) ?_
            refine wpAny_take (i := 16) (v := undef) rfl (by kernel_rfl) (by kernel_rfl) (by kernel_rfl) (fun _ _ _ h => h) (Or.inr ⟨by kernel_rfl, rfl⟩) ?_
            refine wpAny_take (i := 17) (v := undef) rfl (by kernel_rfl) (by kernel_rfl) (by kernel_rfl) (fun _ _ _ h => h) (Or.inr ⟨by kernel_rfl, rfl⟩) ?_
            refine wpAny_take (i := 18) (v := undef) rfl (by kernel_rfl) (by kernel_rfl) (by kernel_rfl) (fun _ _ _ h => h) (Or.inr ⟨by kernel_rfl, rfl⟩) ?_
            refine wpAny_take (i := 19) (v := undef) rfl (by kernel_rfl) (by kernel_rfl) (by kernel_rfl) (fun _ _ _ h => h) (Or.inr ⟨by kernel_rfl, rfl⟩) ?_
            refine wpAny_take (i := 20) (v := undef) rfl (by kernel_rfl) (by kernel_rfl) (by kernel_rfl) (fun _ _ _ h => h) (Or.inr ⟨by kernel_rfl, rfl⟩) ?_
            refine wpAny_take (i := 21) (v := undef) rfl (by kernel_rfl) (by kernel_rfl) (by kernel_rfl) (fun _ _ _ h => h) (Or.inr ⟨by kernel_rfl, rfl⟩) ?_
            refine wpAny_take (i := 22) (v := undef) rfl (by kernel_rfl) (by kernel_rfl) (by kernel_rfl) (fun _ _ _ h => h) (Or.inr ⟨by kernel_rfl, rfl⟩) ?_
            refine wpAny_take (i := 23) (v := undef) rfl (by kernel_rfl) (by kernel_rfl) (by kernel_rfl) (fun _ _ _ h => h) (Or.inr ⟨by kernel_rfl, rfl⟩) ?_
            refine wpAny_take (i := 24) (v := undef) rfl (by kernel_rfl) (by kernel_rfl) (by kernel_rfl) (fun _ _ _ h => h) (Or.inr ⟨by kernel_rfl, rfl⟩) ?_
            refine wpAny_take (i := 25) (v := undef) rfl (by kernel_rfl) (by kernel_rfl) (by kernel_rfl) (fun _ _ _ h => h) (Or.inr ⟨by kernel_rfl, rfl⟩) ?_
            refine wpAny_take (i := 26) (v := undef) rfl (by kernel_rfl) (by kernel_rfl) (by kernel_rfl) (fun _ _ _ h => h) (Or.inr ⟨by kernel_rfl, rfl⟩) ?_
            refine wpAny_take (i := 27) (v := undef) rfl (by kernel_rfl) (by kernel_rfl) (by kernel_rfl) (fun _ _ _ h => h) (Or.inr ⟨by kernel_rfl, rfl⟩) ?_
            refine wpAny_take (i := 28) (v := undef) rfl (by kernel_rfl) (by kernel_rfl) (by kernel_rfl) (fun _ _ _ h => h) (Or.inr ⟨by kernel_rfl, rfl⟩) ?_
            refine wpAny_take (i := 29) (v := ?v18_29) rfl (by kernel_rfl) (by kernel_rfl) (by kernel_rfl) (fun _ _ _ h => h) (Or.inl ⟨by kernel_rfl, ?h18_29⟩) ?_
            case h18_29 => intro w; go_simp; try with_reducible rfl
            go_simp
            refine wpAny_done (by kernel_rfl) ?_ 0
            go_wp2_with fail
            go_ret
            exact ⟨by rw [HNO.out (by rw [HFIT.out]; simp [show ¬ xn ≤ 1048576 by omega])]; rfl, HTA.out.then HD.out⟩
          · have d2 : decide (1048576 < xn) = false := by simp [h2]
            cases hwv : wordU xw.toList with
            | false =>
              have HWV := hide hwv
              clear hwv
              go_upto_region 6 with fail
              rw [← HWA.out, ← HPP.out]
              refine wp_region_any (by kernel_rfl) ?_
              change wpAny _ _ _ _ _ _ _ (World.drew _)
              rw [← HWD.out]
              refine wpAny_take (i := 0) (v := ?v19_0) rfl (by kernel_rfl) (by kernel_rfl) (by kernel_rfl) (fun _ _ _ h => h) (Or.inl ⟨by kernel_rfl, ?h19_0⟩) ?_
              case h19_0 => intro w; go_simp; try with_reducible rfl
              refine wpAny_ready (rs := [1]) (by kernel_rfl) (by simp) ?_
              refine AllReady.cons rfl (fun K hK => ?_) AllReady.nil
              go_simp
              refine hK _ _ ?_
              clear hK K
              refine wpAny_take (i := 2) (v := .bool false) rfl (by kernel_rfl) (by kernel_rfl) (by kernel_rfl) (fun _ _ _ h => h) (Or.inl ⟨by kernel_rfl, ?h20_2⟩) ?_
              case h20_2 => intro w; go_simp; try simp only [d1]
              refine wpAny_take (i := 3) (v := ?v21_3) rfl (by kernel_rfl) (by kernel_rfl) (by kernel_rfl) (fun _ _ _ h => h) (Or.inl ⟨by kernel_rfl, ?h21_3⟩) ?_
              case h21_3 => intro w; go_simp; try with_reducible rfl
              refine wpAny_take (i := 4) (v := ?v22_4) rfl (by kernel_rfl) (by kernel_rfl) (by kernel_rfl) (fun _ _ _ h => h) (Or.inl ⟨by kernel_rfl, ?h22_4⟩) ?_
              case h22_4 => intro w; go_simp; try with_reducible rfl
              refine wpAny_ready (rs := [5]) (by kernel_rfl) (by simp) ?_
              refine AllReady.cons rfl (fun K hK => ?_) AllReady.nil
              go_simp
              refine hK _ _ ?_
              clear hK K
              refine wpAny_take (i := 6) (v := .bool false) rfl (by kernel_rfl) (by kernel_rfl) (by kernel_rfl) (fun _ _ _ h => h) (Or.inl ⟨by kernel_rfl, ?h23_6⟩) ?_
              case h23_6 => intro w; go_simp; try simp only [d2]
              refine wpAny_take (i := 7) (v := ?v24_7) rfl (by kernel_rfl) (by kernel_rfl) (by kernel_rfl) (fun _ _ _ h => h) (Or.inl ⟨by kernel_rfl, ?h24_7⟩) ?_
              case h24_7 => intro w; go_simp; try with_reducible rfl
              refine wpAny_take (i := 8) (v := ?v25_8) rfl (by kernel_rfl) (by kernel_rfl) (by kernel_rfl) (fun _ _ _ h => h) (Or.inl ⟨by kernel_rfl, ?h25_8⟩) ?_
              case h25_8 => intro w; go_simp; try with_reducible rfl
              refine wpAny_take (i := 9) (v := ?v26_9) rfl (by kernel_rfl) (by kernel_rfl) (by kernel_rfl) (fun _ _ _ h => h) (Or.inl ⟨by kernel_rfl, ?h26_9⟩) ?_
              case h26_9 => intro w; go_simp; try with_reducible rfl
              refine wpAny_ready (rs := [10]) (by kernel_rfl) (by simp) ?_
              refine AllReady.cons rfl (fun K hK => ?_) AllReady.nil
              go_simp
              refine hK _ _ ?_
              clear hK K
              refine wpAny_ready (rs := [11]) (by kernel_rfl) (by simp) ?_
              refine AllReady.cons rfl (fun K hK => ?_) AllReady.nil
              go_simp
              refine (word_is xw false HWV.out HWFX.out wd HLD.out).mono ?_
              rintro e w2 ⟨rfl, T2⟩
              have HT2 := hide ((HTA.out.then HD.out).then T2)
              clear T2
              go_simp
              refine hK _ _ ?_
              clear hK K
              refine wpAny_take (i := 12) (v := ?v27_12) rfl (by kernel_rfl) (by kernel_rfl) (by kernel_rfl) (fun _ _ _ h => h) (Or.inl ⟨by kernel_rfl, ?h27_12⟩) ?_
              case h27_12 => intro w; go_simp; try with_reducible rfl
              refine wpAny_take (i := 13) (v := ?v28_13) rfl (by kernel_rfl) (by kernel_rfl) (by kernel_rfl) (fun _ _ _ h => h) (Or.inl ⟨by kernel_rfl, ?h28_13⟩) ?_
              case h28_13 => intro w; go_simp; try with_reducible rfl
              refine wpAny_take (i := 14) (v := ?v29_14) rfl (by kernel_rfl) (by kernel_rfl) (by kernel_rfl) (fun _ _ _ h => h) (Or.inl ⟨by kernel_rfl, ?h29_14⟩) ?_
              case h29_14 => intro w; go_simp; try with_reducible rfl
              refine wpAny_take (i := 15) (v := undef) rfl (by kernel_rfl) (by kernel_rfl) (by kernel_rfl) (fun _ _ _ h => h) (Or.inr ⟨by kernel_rfl, rfl⟩) ?_
              refine wpAny_take (i := 16) (v := undef) rfl (by kernel_rfl) (by kernel_rfl) (by kernel_rfl) (fun _ _ _ h => h) (Or.inr ⟨by kernel_rfl, rfl⟩) ?_
              refine wpAny_take (i := 17) (v := undef) rfl (by kernel_rfl) (by kernel_rfl) (by kernel_rfl) (fun _ _ _ h => h) (Or.inr ⟨by kernel_rfl, rfl⟩) ?_
              refine wpAny_take (i := 18) (v := undef) rfl (by kernel_rfl) (by kernel_rfl) (by kernel_rfl) (fun _ _ _ h => h) (Or.inr ⟨by kernel_rfl, rfl⟩) ?_
              refine wpAny_take (i := 19) (v := undef) rfl (by kernel_rfl) (by kernel_rfl) (by kernel_rfl) (fun _ _ _ h => h) (Or.inr ⟨by kernel_rfl, rfl⟩) ?_
              refine wpAny_take (i := 20) (v := undef) rfl (by kernel_rfl) (by kernel_rfl) (by kernel_rfl) (fun _ _ _ h => h) (Or.inr ⟨by kernel_rfl, rfl⟩) ?_
              refine wpAny_take (i := 21) (v := undef) rfl (by kernel_rfl) (by kernel_rfl) (by kernel_rfl) (fun _ _ _ h => h) (Or.inr ⟨by kernel_rfl, rfl⟩) ?_
              refine wpAny_take (i := 22) (v := undef) rfl (by kernel_rfl) (by kernel_rfl) (by kernel_rfl) (fun _ _ _ h => h) (Or.inr ⟨by kernel_rfl, rfl⟩) ?_
              refine wpAny_take (i := 23) (v := undef) rfl (by kernel_rfl) (by kernel_rfl) (by kernel_rfl) (fun _ _ _ h => h) (Or.inr ⟨by kernel_rfl, rfl⟩) ?_
              refine wpAny_take (i := 24) (v := undef) rfl (by kernel_rfl) (by kernel_rfl) (by kernel_rfl) (fun _ _ _ h => h) (Or.inr ⟨by kernel_rfl, rfl⟩) ?_
              refine wpAny_take (i := 25) (v := undef) rfl (by kernel_rfl) (by kernel_rfl) (by kernel_rfl) (fun _ _ _ h => h) (Or.inr ⟨by kernel_rfl, rfl⟩) ?_
              refine wpAny_take (i := 26) (v := undef) rfl (by kernel_rfl) (by kernel_rfl) (by kernel_rfl) (fun _ _ _ h => h) (Or.inr ⟨by kernel_rfl, rfl⟩) ?_
              refine wpAny_take (i := 27) (v := undef) rfl (by kernel_rfl) (by kernel_rfl) (by kernel_rfl) (fun _ _ _ h => h) (Or.inr ⟨by kernel_rfl, rfl⟩) ?_
              refine wpAny_take (i := 28) (v := undef) rfl (by kernel_rfl) (by kernel_rfl) (by kernel_rfl) (fun _ _ _ h => h) (Or.inr ⟨by kernel_rfl, rfl⟩) ?_
              refine wpAny_take (i := 29) (v := ?v30_29) rfl (by kernel_rfl) (by kernel_rfl) (by kernel_rfl) (fun _ _ _ h => h) (Or.inl ⟨by kernel_rfl, ?h30_29⟩) ?_
              case h30_29 => intro w; go_simp; try with_reducible rfl
              go_simp
              refine wpAny_done (by kernel_rfl) ?_ 0
              go_wp2_with fail
              go_ret
              exact ⟨by rw [HNO.out (by rw [HFIT.out, HWV.out]; simp)]; rfl, HT2.out⟩
            | true =>
              have HWV := hide hwv
              clear hwv
              cases i with
              | zero =>
                simp only [Nat.zero_mul, Nat.add_zero] at a0 a1
                go_upto_region 6 with fail
                rw [← HWA.out, ← HPP.out]
                refine wp_region_any (by kernel_rfl) ?_
                change wpAny _ _ _ _ _ _ _ (World.drew _)
                rw [← HWD.out]
                refine wpAny_take (i := 0) (v := ?v31_0) rfl (by kernel_rfl) (by kernel_rfl) (by kernel_rfl) (fun _ _ _ h => h) (Or.inl ⟨by kernel_rfl, ?h31_0⟩) ?_
                case h31_0 => intro w; go_simp; try with_reducible rfl
                refine wpAny_ready (rs := [1]) (by kernel_rfl) (by simp) ?_
                refine AllReady.cons rfl (fun K hK => ?_) AllReady.nil
                go_simp
                refine hK _ _ ?_
                clear hK K
                refine wpAny_take (i := 2) (v := .bool false) rfl (by kernel_rfl) (by kernel_rfl) (by kernel_rfl) (fun _ _ _ h => h) (Or.inl ⟨by kernel_rfl, ?h32_2⟩) ?_
                case h32_2 => intro w; go_simp; try simp only [d1]
                refine wpAny_take (i := 3) (v := ?v33_3) rfl (by kernel_rfl) (by kernel_rfl) (by kernel_rfl) (fun _ _ _ h => h) (Or.inl ⟨by kernel_rfl, ?h33_3⟩) ?_
                case h33_3 => intro w; go_simp; try with_reducible rfl
                refine wpAny_take (i := 4) (v := ?v34_4) rfl (by kernel_rfl) (by kernel_rfl) (by kernel_rfl) (fun _ _ _ h => h) (Or.inl ⟨by kernel_rfl, ?h34_4⟩) ?_
                case h34_4 => intro w; go_simp; try with_reducible rfl
                refine wpAny_ready (rs := [5]) (by kernel_rfl) (by simp) ?_
                refine AllReady.cons rfl (fun K hK => ?_) AllReady.nil
                go_simp
                refine hK _ _ ?_
                clear hK K
                refine wpAny_take (i := 6) (v := .bool false) rfl (by kernel_rfl) (by kernel_rfl) (by kernel_rfl) (fun _ _ _ h => h) (Or.inl ⟨by kernel_rfl, ?h35_6⟩) ?_
                case h35_6 => intro w; go_simp; try simp only [d2]
                refine wpAny_take (i := 7) (v := ?v36_7) rfl (by kernel_rfl) (by kernel_rfl) (by kernel_rfl) (fun _ _ _ h => h) (Or.inl ⟨by kernel_rfl, ?h36_7⟩) ?_
                case h36_7 => intro w; go_simp; try with_reducible rfl
                refine wpAny_take (i := 8) (v := ?v37_8) rfl (by kernel_rfl) (by kernel_rfl) (by kernel_rfl) (fun _ _ _ h => h) (Or.inl ⟨by kernel_rfl, ?h37_8⟩) ?_
                case h37_8 => intro w; go_simp; try with_reducible rfl
                refine wpAny_take (i := 9) (v := ?v38_9) rfl (by kernel_rfl) (by kernel_rfl) (by kernel_rfl) (fun _ _ _ h => h) (Or.inl ⟨by kernel_rfl, ?h38_9⟩) ?_
                case h38_9 => intro w; go_simp; try with_reducible rfl
                refine wpAny_ready (rs := [10]) (by kernel_rfl) (by simp) ?_
                refine AllReady.cons rfl (fun K hK => ?_) AllReady.nil
                go_simp
                refine hK _ _ ?_
                clear hK K
                refine wpAny_ready (rs := [11]) (by kernel_rfl) (by simp) ?_
                refine AllReady.cons rfl (fun K hK => ?_) AllReady.nil
                go_simp
                refine (word_is xw true HWV.out HWFX.out wd HLD.out).mono ?_
                rintro e w2 ⟨rfl, T2⟩
                have HT2 := hide ((HTA.out.then HD.out).then T2)
                clear T2
                go_simp
                refine hK _ _ ?_
                clear hK K
                refine wpAny_take (i := 12) (v := ?v39_12) rfl (by kernel_rfl) (by kernel_rfl) (by kernel_rfl) (fun _ _ _ h => h) (Or.inl ⟨by kernel_rfl, ?h39_12⟩) ?_
                case h39_12 => intro w; go_simp; try with_reducible rfl
                refine wpAny_take (i := 13) (v := ?v40_13) rfl (by kernel_rfl) (by kernel_rfl) (by kernel_rfl) (fun _ _ _ h => h) (Or.inl ⟨by kernel_rfl, ?h40_13⟩) ?_
                case h40_13 => intro w; go_simp; try with_reducible rfl
                refine wpAny_take (i := 14) (v := ?v41_14) rfl (by kernel_rfl) (by kernel_rfl) (by kernel_rfl) (fun _ _ _ h => h) (Or.inl ⟨by kernel_rfl, ?h41_14⟩) ?_
                case h41_14 => intro w; go_simp; try with_reducible rfl
                refine wpAny_take (i := 15) (v := ?v42_15) rfl (by kernel_rfl) (by kernel_rfl) (by kernel_rfl) (fun _ _ _ h => h) (Or.inl ⟨by kernel_rfl, ?h42_15⟩) ?_
                case h42_15 => intro w; go_simp; try with_reducible rfl
                refine wpAny_take (i := 16) (v := ?v43_16) rfl (by kernel_rfl) (by kernel_rfl) (by kernel_rfl) (fun _ _ _ h => h) (Or.inl ⟨by kernel_rfl, ?h43_16⟩) ?_
                case h43_16 => intro w; go_simp; try with_reducible rfl
                refine wpAny_take (i := 17) (v := ?v44_17) rfl (by kernel_rfl) (by kernel_rfl) (by kernel_rfl) (fun _ _ _ h => h) (Or.inl ⟨by kernel_rfl, ?h44_17⟩) ?_
                case h44_17 => intro w; go_simp; try with_reducible rfl
                refine wpAny_take (i := 18) (v := undef) rfl (by kernel_rfl) (by kernel_rfl) (by kernel_rfl) (fun _ _ _ h => h) (Or.inr ⟨by kernel_rfl, rfl⟩) ?_
                refine wpAny_take (i := 19) (v := undef) rfl (by kernel_rfl) (by kernel_rfl) (by kernel_rfl) (fun _ _ _ h => h) (Or.inr ⟨by kernel_rfl, rfl⟩) ?_
                refine wpAny_take (i := 20) (v := undef) rfl (by kernel_rfl) (by kernel_rfl) (by kernel_rfl) (fun _ _ _ h => h) (Or.inr ⟨by kernel_rfl, rfl⟩) ?_
                refine wpAny_take (i := 21) (v := undef) rfl (by kernel_rfl) (by kernel_rfl) (by kernel_rfl) (fun _ _ _ h => h) (Or.inr ⟨by kernel_rfl, rfl⟩) ?_
                refine wpAny_take (i := 22) (v := undef) rfl (by kernel_rfl) (by kernel_rfl) (by kernel_rfl) (fun _ _ _ h => h) (Or.inr ⟨by kernel_rfl, rfl⟩) ?_
                refine wpAny_take (i := 23) (v := undef) rfl (by kernel_rfl) (by kernel_rfl) (by kernel_rfl) (fun _ _ _ h => h) (Or.inr ⟨by kernel_rfl, rfl⟩) ?_
                refine wpAny_take (i := 24) (v := undef) rfl (by kernel_rfl) (by kernel_rfl) (by kernel_rfl) (fun _ _ _ h => h) (Or.inr ⟨by kernel_rfl, rfl⟩) ?_
                refine wpAny_take (i := 25) (v := undef) rfl (by kernel_rfl) (by kernel_rfl) (by kernel_rfl) (fun _ _ _ h => h) (Or.inr ⟨by kernel_rfl, rfl⟩) ?_
                refine wpAny_take (i := 26) (v := undef) rfl (by kernel_rfl) (by kernel_rfl) (by kernel_rfl) (fun _ _ _ h => h) (Or.inr ⟨by kernel_rfl, rfl⟩) ?_
                refine wpAny_take (i := 27) (v := undef) rfl (by kernel_rfl) (by kernel_rfl) (by kernel_rfl) (fun _ _ _ h => h) (Or.inr ⟨by kernel_rfl, rfl⟩) ?_
                refine wpAny_take (i := 28) (v := ?v45_28) rfl (by kernel_rfl) (by kernel_rfl) (by kernel_rfl) (fun _ _ _ h => h) (Or.inl ⟨by kernel_rfl, ?h45_28⟩) ?_
                case h45_28 => intro w; go_simp; try with_reducible rfl
                refine wpAny_take (i := 29) (v := ?v46_29) rfl (by kernel_rfl) (by kernel_rfl) (by kernel_rfl) (fun _ _ _ h => h) (Or.inl ⟨by kernel_rfl, ?h46_29⟩) ?_
                case h46_29 => intro w; go_simp; try with_reducible rfl
                go_simp
                refine wpAny_done (by kernel_rfl) ?_ 0
                go_wp2_with fail
                go_roundw
                · exact ⟨1, rfl, by omega, hide (fun j hj => by
                    obtain rfl : j = 0 := by omega
                    rw [HFIT.out, HWV.out]
                    simp [show 1 ≤ xn by omega, show xn ≤ 1048576 by omega]), HT2⟩
                · simp [intOf]
                  omega
              | succ m =>
                obtain ⟨g', o', hA, hg', z0, _⟩ := preads_at (HR.out.touch HT.out (fun _ _ f => f)) HLN.out.symm m (by omega)
                injection hA with hA
                injection hA with hA1 hA2
                subst hA1 hA2
                have hfx := HFIT.out
                rw [HWV.out, Nat.add_sub_cancel] at hfx
                obtain ⟨⟨yw, yn⟩, hy⟩ : ∃ y, y = L.getD m PRow.zero := ⟨_, rfl⟩
                rw [← hy] at z0 hfx
                simp only at z0 hfx
                have HFX := hide hfx
                clear hy hfx
                have hga : g < wa.heap.size := by have := HTR.out.size; omega
                have z9 := (HTR.out.cell (a := ⟨g, o + m * 2, none⟩) hg (fun f => f)).trans z0
                have HZ9 := hide z9
                have HGA := hide hga
                have HLA := hide (HLS.out.touch HTA.out)
                clear z9 hga z0
                have k2 : IntKind.i64.wrap ((m : Int) + 1 - 1) = (m : Int) := IntWalk.i64_in _ (by omega) |>.trans (by omega)
                have k3 : IntKind.i64.wrap (m : Int) = (m : Int) := IntWalk.i64_in _ (by omega)
                have k4 : (0 : Int) ≤ (m : Int) := by omega
                have k5 : (m : Int) < (n : Int) := by omega
                have k6 : (0 : Int) < (m : Int) + 1 := by omega
                cases hbl : Op.bytesLess yw.toList xw.toList with
                | false =>
                  have HBL := hide hbl
                  clear hbl
                  go_upto_region 6 with fail
                  rw [← HWA.out, ← HPP.out]
                  go_region_held3 (fun w' => w'.cell? ⟨p, 0, none⟩ = some (.string xw) ∧ w'.cell? ⟨p, 1, none⟩ = some (.int .i64 xn) ∧ w'.cell? ⟨g, o + m * 2, none⟩ = some (.string yw) ∧ Touch (fun _ => False) wa w')
                    (first
                      | exact pbox_keep2 HBA.out HZ9.out HGA.out (Touch.refl _ _)
                      | exact pbox_keep2 HBA.out HZ9.out HGA.out (Touch.refl _ _).drew
                      | (refine pbox_keep2 HBA.out HZ9.out HGA.out (Touch.then ?_ (by assumption)); first | assumption | exact and_last4 (by assumption) | exact (Touch.refl _ _).drew | exact Touch.refl _ _))
                    (first
                      | (go_at_call 23; refine (word_is xw true HWV.out HWFX.out _ (HLA.out.touch (and_last4 (by assumption)))).mono ?_; rintro e w2 ⟨rfl, T2⟩)
                      | (go_at_call 24; refine (pless_is yw xw false HBL.out _).mono ?_; rintro e w2 ⟨rfl, rfl⟩))
                  all_goals
                    go_wp2_with fail
                    go_ret
                    exact ⟨by rw [HNO.out (by rw [HFX.out, HBL.out]; simp)]; rfl, HTA.out.then (and_last4 (by assumption))⟩
                | true =>
                  have HBL := hide hbl
                  clear hbl
                  go_upto_region 6 with fail
                  rw [← HWA.out, ← HPP.out]
                  go_region_held3 (fun w' => w'.cell? ⟨p, 0, none⟩ = some (.string xw) ∧ w'.cell? ⟨p, 1, none⟩ = some (.int .i64 xn) ∧ w'.cell? ⟨g, o + m * 2, none⟩ = some (.string yw) ∧ Touch (fun _ => False) wa w')
                    (first
                      | exact pbox_keep2 HBA.out HZ9.out HGA.out (Touch.refl _ _)
                      | exact pbox_keep2 HBA.out HZ9.out HGA.out (Touch.refl _ _).drew
                      | (refine pbox_keep2 HBA.out HZ9.out HGA.out (Touch.then ?_ (by assumption)); first | assumption | exact and_last4 (by assumption) | exact (Touch.refl _ _).drew | exact Touch.refl _ _))
                    (first
                      | (go_at_call 23; refine (word_is xw true HWV.out HWFX.out _ (HLA.out.touch (and_last4 (by assumption)))).mono ?_; rintro e w2 ⟨rfl, T2⟩)
                      | (go_at_call 24; refine (pless_is yw xw true HBL.out _).mono ?_; rintro e w2 ⟨rfl, rfl⟩))
                  all_goals
                    go_wp2_with fail
                    go_roundw
                    · exact ⟨m + 1 + 1, by simp, by omega, hide (fun j hj => by
                        by_cases hj2 : j = m + 1
                        · subst hj2
                          rw [HFX.out, HBL.out]
                          simp [show 1 ≤ xn by omega, show xn ≤ 1048576 by omega]
                        · exact HA.out j (by omega)), hide (HTA.out.then (and_last4 (by assumption)))⟩
                    · simp [intOf]
                      omega
      · have HALL := hide (rightU_yes (L := L) (by rw [HLN.out]; exact HBIG.out) (fun j hj => HA.out j (by have := HLN.out; omega)))
        go_wp2_with fail
        go_ret
        exact ⟨by rw [HALL.out]; rfl, HT.out⟩
  · have i0 : (4096 : Int) < (n : Int) := by omega
    have HALL := hide (rightU_long (L := L) (by rw [HLN.out]; exact hbig))
    rw [HALL.out]
    clear hbig
    go_enter Tryd.func12, Tryd.ntmps12
    go_wp2
    go_ret
    exact ⟨rfl, Touch.refl _ _⟩

end Go.Proofs.YtdjlcgldplndiaaDoor
