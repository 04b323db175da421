/- WalkUnder: the walk. No condition. -/
import Derived.Test.YtnakpadjlamdeaaDoorUndD
import Derived.Test.YtnakpadjlamdeaaDoorWAllW
namespace Go.Proofs.YtnakpadjlamdeaaDoor
open Go.RowKit

set_option maxRecDepth 100000 in
set_option maxHeartbeats 4000000 in
theorem told_under {w0 : World} (hL : Lst w0) {b : Nat} {L : List PRow} {n : Nat} {A : Option Addr} {c : Nat} {Z : List SV} {wA : Option Addr} {wc : Nat} (h : DWk w0 b L n A c Z wA wc) (hD : DictP L) (k : ByteArray) (B2 B3 : Nat) (hB2 : Blk w0 B2 23 #[.pointer (some ⟨b, 0, none⟩)]) (hB3 : Blk w0 B3 9 #[.string k]) (mo : Nat) (hmo : mo ≤ 5000) (hmo0 : L.length < mo) :
    Calls Tryd.prog 28 #[.func (.func 49) #[] #[.pointer (some ⟨B2, 0, none⟩), .pointer (some ⟨B3, 0, none⟩)], .int .i64 mo] w0 fun e w' => ∃ A' c', e = .returned (.slice A' (L.filter (begP k)).length c') ∧ w'.ownsRow 0 32 2 (.slice A' (L.filter (begP k)).length c') (L.filter (begP k)).length (pCells (L.filter (begP k))) ∧ Touch (fun _ => False) w0 w' := by
  have hmf : ∀ (fn : Fn) (first cap : Array Value) (w : World), (Instr.makeFunc fn first cap).run Tryd.prog w = .ok (.func fn first cap) w := fun _ _ _ _ => rfl
  obtain ⟨w2, hw2⟩ : ∃ x, x = (w0.alloc (.cells #[.int .i64 mo] 3)).alloc (.cells #[.slice none 0 0] 22) := ⟨_, rfl⟩
  obtain ⟨mb, hmb⟩ : ∃ x, x = w0.heap.size := ⟨_, rfl⟩
  obtain ⟨lb, hlb⟩ : ∃ x, x = w0.heap.size + 1 := ⟨_, rfl⟩
  have hT2 : Touch (fun _ => False) w0 w2 := by rw [hw2]; exact ((Touch.refl _ _).alloc _).alloc _
  have hbm : Blk w2 mb 3 #[.int .i64 mo] := by rw [hw2, hmb]; exact (Blk.new _ _ _).alloc _
  have hbl : Blk w2 lb 22 #[.slice none 0 0] := by rw [hw2, hlb]; exact blk_new1 _ _ _ _
  have hC : Col w0 w2 lb mb none 0 [] mo := ⟨hbl, World.ownsRow_nil _ _ _ _, fun g hg => (by cases hg), by omega, hbm, hT2⟩
  obtain ⟨m0, m1, m2⟩ := hbm.facts
  obtain ⟨l0, l1, l2⟩ := hbl.facts
  have hmoI : (mo : Int) ≤ 5000 := by omega
  have h1 := under1_any hL h hD k B2 B3 hB2 hB3 w2 lb mb mo hmo hmo0 hC
  have HA := hide h1
  have HW2 := hide hw2
  have HMB := hide hmb
  have HLB := hide hlb
  have y0 : ¬ (mo : Int) < 1 := by omega
  clear h hD hB2 hB3 hC hL hmo hmo0 h1 hmb hlb m0 m1 m2 l0 l1 l2 hbm hbl hw2 hT2
  go_enter Tryd.func28, Tryd.ntmps28
  go_wp2_with ((go_at_call 49; rw [← HW2.out, ← HLB.out, ← HMB.out]; refine (HA.out).mono ?_; rintro e w3 ⟨A', c', rfl, hC⟩; have HC := hide hC; obtain ⟨l0, l1, l2⟩ := hC.l.facts; clear hC))
  go_ret
  exact ⟨A', c', by simp, HC.out.own, HC.out.touch⟩

set_option maxRecDepth 100000 in
set_option maxHeartbeats 8000000 in
theorem wunder_walk (W : World) (hL : Lst W) (s : SL) (hs : s.Ok W) (hn : s.n ≤ maxLen) (hWf : ∀ r ∈ s.L, r.Wf) (hd : ByteArray) :
    Calls Tryd.prog 10 #[s.val, .string hd] W fun e W' => e = .returned (.bool true) ∧ Below W.heap.size W W' := by
  obtain ⟨i1, hi1, hy0, hy1, hy2⟩ := info_parts infoPair
  have HS := hide hs
  have HN := hide hn
  have HL := hide hL
  have HON := hide (on_any W hL s hs hWf hn)
  obtain ⟨sA, sn, sc, sL⟩ := s
  clear hs hn hL hWf
  simp only [SL.val] at HON ⊢
  go_enter Tryd.func10, Tryd.ntmps10
  go_wp2_with fail
  refine HON.out.mono ?_
  rintro e w1 ⟨hon, T1⟩
  have HT1 := hide T1
  clear HON
  rcases hon with ⟨_, rfl⟩ | ⟨ho, hD, b, n, A, c, Z, wA, wc, rfl, hdw⟩
  · clear T1
    go_wp2_with fail
    refine (alive9_any w1 (Lst.touch HL.out HT1.out)).mono ?_
    rintro e w2 ⟨rfl, T2⟩
    have HT2 := hide (HT1.out.then T2)
    clear T2
    go_wp2_with fail
    go_ret
    exact ⟨by simp, HT2.out.below (Nat.le_refl _) (fun _ _ f => f)⟩
  · have HD := hide hD
    have HDW := hide hdw
    have hsl : sL.length = sn := HS.out.len
    have HSL := hide hsl
    have hn4 : (sn : Int) ≤ 4096 := by have := hD.len; omega
    have hn4N := hide (show sn ≤ 4096 by omega)
    have z1 : IntKind.i64.wrap ((sn : Int) + 1) = (sn : Int) + 1 := IntWalk.i64_in _ (by omega)
    clear T1 ho hD hdw hsl
    go_wp2_with fail
    go_loopw [7, 28] (fun av jv wr => ∃ (j q : Nat) (A5 : Option Addr) (c5 : Nat), av = .slice A5 q c5 ∧ jv = .int .i64 j ∧ j ≤ sn ∧ ((sL.take j).filter (begP hd)).length = q ∧ Hid (ONx 32 2 w1 wr (.slice A5 q c5) q (pCells ((sL.take j).filter (begP hd))))) (fun _ jv _ => sn - (intOf jv).toNat)
    case atStart => exact ⟨0, 0, none, 0, rfl, rfl, by omega, rfl, hide (ONx.nil _ _ _)⟩
    case round =>
      obtain ⟨j, q, A5, c5, rfl, rfl, hj, hq, HX⟩ := hrel
      have HQ := hide hq
      have HJ := hide hj
      have hqI : (q : Int) ≤ 4096 := by
        have h1 := List.length_filter_le (begP hd) (sL.take j)
        rw [List.length_take] at h1
        have := hn4N.out
        omega
      clear hq
      by_cases hjn : j < sn
      · obtain ⟨g, o, hA, _, a0, a1⟩ := preads_at (HS.out.touch (HT1.out.then HX.out.touch)).reads HSL.out.symm j hjn
        subst hA
        have htk : sL.take (j + 1) = sL.take j ++ [sL.getD j PRow.zero] := by
          rw [List.take_succ_eq_append_getElem (by rw [HSL.out]; exact hjn), List.getD_eq_getElem?_getD, List.getElem?_eq_getElem (by rw [HSL.out]; exact hjn)]
          rfl
        obtain ⟨⟨xw, xn⟩, hx⟩ : ∃ x, x = sL.getD j PRow.zero := ⟨_, rfl⟩
        rw [← hx] at a0 a1 htk
        simp only at a0 a1
        have j0 : (j : Int) < (sn : Int) := by omega
        have j1 : (0 : Int) ≤ (j : Int) := by omega
        have j2 : IntKind.i64.wrap ((j : Int) + 1) = (j : Int) + 1 := IntWalk.i64_in _ (by omega)
        have hh := Lib.hasPrefix_of_take xw.toList hd.toList
        rw [← size_list, ← size_list] at hh
        have hfl : (sL.take (j + 1)).filter (begP hd) = (sL.take j).filter (begP hd) ++ if Lib.hasPrefix xw.toList hd.toList = true then [(⟨xw, xn⟩ : PRow)] else [] := by
          rw [htk, List.filter_append]
          congr 1
          cases h : Lib.hasPrefix xw.toList hd.toList <;> simp [begP, h]
        have HFL := hide hfl
        clear hx htk hfl
        by_cases hc : hd.size ≤ xw.size
        · have c1 : (hd.size : Int) ≤ (xw.size : Int) := by omega
          have he : (xw.extract 0 hd.size).toList = xw.toList.take hd.size := by
            rw [Lib.extract_toList, Lib.toList_data]
            simp
          rw [decide_eq_true hc, Bool.true_and, ← he] at hh
          by_cases hp : Lib.hasPrefix xw.toList hd.toList = true
          · rw [hp] at hh HFL
            rw [if_pos rfl] at HFL
            have hh2 : (xw.extract 0 hd.size).toList = hd.toList := eq_of_beq hh
            clear hc he hp hjn hj
            obtain ⟨wa, hwa⟩ : ∃ x, x = (wr.alloc (.cells #[.string xw, .int .i64 xn] 32)).alloc (.cells #[.string xw, .int .i64 xn] 32) := ⟨_, rfl⟩
            have hTa : Touch (fun _ => False) wr wa := by rw [hwa]; exact ((Touch.refl _ _).alloc _).alloc _
            have hrd : Reads wa 2 (some ⟨wr.heap.size + 1, 0, none⟩) 1 [.string xw, .int .i64 xn] := by
              rw [hwa]
              have h := Reads.new (size := 2) (wr.alloc (.cells #[.string xw, .int .i64 xn] 32)) 32 [.string xw, .int .i64 xn] 1 rfl
              simpa using h
            have hone : ∀ u ∈ [Value.string xw, .int .i64 xn], u.oneCell' = true := by
              intro u hu
              simp only [List.mem_cons, List.not_mem_nil, or_false] at hu
              rcases hu with rfl | rfl <;> rfl
            have hbb1 : q + 1 ≤ maxLen := by unfold maxLen; omega
            have hbb2 : (q + 1) * 24 ≤ 140737488355328 := by omega
            have HXa := hide (HX.out.to hTa)
            have HWA := hide hwa
            have HRD := hide hrd
            have HONE := hide hone
            have HBB := hide (And.intro hbb1 hbb2)
            clear hwa hTa hrd hone hbb1 hbb2 hh
            go_wp2_with (at_builtin; rw [← HWA.out]; refine wpList_app _ rfl (.tmp 47) (.tmp 49) 22 rfl 32 i1 _ 2 24 Tryd.underlying22 hi1 hy0 hy1 hy2 rfl (by decide) (.slice A5 q c5) q _ rfl HXa.out.own (some ⟨wr.heap.size + 1, 0, none⟩) 1 1 [.string xw, .int .i64 xn] rfl HRD.out (fun h => by cases h) HONE.out HBB.out.1 HBB.out.2 ?_; intro v1 w10 O10 G10 F10 _; obtain ⟨A7, c7, hv, _, _⟩ := own_len O10; subst hv; have HX10 := hide (HXa.out.app O10 G10 F10); clear O10 G10 F10)
            go_roundw
            case rel =>
              refine ⟨j + 1, q + 1, A7, c7, rfl, by simp, by omega, by rw [HFL.out, List.length_append, HQ.out]; rfl, hide ?_⟩
              have h := HX10.out
              rw [HFL.out]
              simpa [pCells, PRow.cells] using h
            case measure => simp only [intOf]; omega
          · have hp2 : Lib.hasPrefix xw.toList hd.toList = false := by simpa using hp
            rw [hp2] at hh HFL
            rw [if_neg (by decide), List.append_nil] at HFL
            have hh2 : decide ((xw.extract 0 hd.size).toList = hd.toList) = false := by
              rw [decide_eq_false_iff_not]
              exact fun e => by rw [e] at hh; simp at hh
            clear hc he hp hp2 hjn hj
            go_wp2_with fail
            go_roundw
            case rel => exact ⟨j + 1, q, A5, c5, rfl, by simp, by omega, by rw [HFL.out]; exact HQ.out, hide (by rw [HFL.out]; exact HX.out.to ((Touch.refl _ _).alloc _))⟩
            case measure => simp only [intOf]; omega
        · have c1 : ¬ (hd.size : Int) ≤ (xw.size : Int) := by omega
          rw [decide_eq_false hc, Bool.false_and] at hh
          rw [← hh] at HFL
          rw [if_neg (by decide), List.append_nil] at HFL
          clear hc hh hjn hj
          go_wp2_with fail
          go_roundw
          case rel => exact ⟨j + 1, q, A5, c5, rfl, by simp, by omega, by rw [HFL.out]; exact HQ.out, hide (by rw [HFL.out]; exact HX.out.to ((Touch.refl _ _).alloc _))⟩
          case measure => simp only [intOf]; omega
      · have hje : j = sn := by omega
        subst hje
        have hall : sL.take j = sL := List.take_of_length_le (by have := HSL.out; omega)
        rw [hall] at HX HQ
        have j0 : ¬ (j : Int) < (j : Int) := by omega
        clear hj hjn hall
        go_wp2_with fail
        refine (alive9_any wr (Lst.touch HL.out (HT1.out.then HX.out.touch))).mono ?_
        rintro e w2 ⟨rfl, T2⟩
        have HX2 := hide (HX.out.to T2)
        clear T2 HX
        go_wp2_with fail
        refine (wunder_any w2 b hd).mono ?_
        rintro e w4 ⟨B2, B3, rfl, hB2, hB3, T4⟩
        have HX4 := hide (HX2.out.to T4)
        have htd := told_under (Lst.touch HL.out (HT1.out.then HX4.out.touch)) (HDW.out.quiet HX4.out.touch) HD.out hd B2 B3 hB2 hB3 (j + 1) (by have := hn4N.out; omega) (by have := HSL.out; omega)
        rw [HQ.out, show ((j + 1 : Nat) : Int) = (j : Int) + 1 by omega] at htd
        have HTD := hide htd
        clear T4 hB2 hB3 htd HX2
        go_wp2_with fail
        refine HTD.out.mono ?_
        rintro e w5 ⟨A6, c6, rfl, hO6, T5⟩
        have HX5 := hide (HX4.out.to T5)
        have hsm := psame_yes w5 A6 q c6 (sL.filter (begP hd)) HQ.out (Reads.of_own hO6) (by unfold maxLen; omega) A5 c5 (Reads.of_own HX5.out.own)
        have HSM := hide hsm
        clear T5 hO6 hsm HTD
        go_wp2_with fail
        refine HSM.out.mono ?_
        rintro e w6 ⟨rfl, T6⟩
        have HX6 := hide (HX5.out.to T6)
        clear T6 HSM
        go_wp2_with fail
        go_ret
        exact ⟨by simp, (HT1.out.then HX6.out.touch).below (Nat.le_refl _) (fun _ _ f => f)⟩

end Go.Proofs.YtnakpadjlamdeaaDoor
