/- The reference's first rune of a text: First. Condition: the text is no longer than any text. -/
import Derived.Test.YtdjlcgldplndiaaDoorUtfS
namespace Go.Proofs.YtdjlcgldplndiaaDoor
open Go.RowKit

theorem rune_is (r : Nat) (v : Bool) (h : scal r = v) (w : World) :
    Calls Tryd.prog 47 #[.int .i64 r] w fun e w' => e = .returned (.bool v) ∧ w' = w := by
  subst h
  exact rune_any r w
theorem extract_take (s : ByteArray) (n : Nat) : (s.extract 0 n).toList = s.toList.take n := by
  rw [Go.ByteArray.toList_eq, Go.ByteArray.toList_eq, ByteArray.data_extract]
  simp only [Array.toList_extract, List.extract_eq_take_drop]
  simp

set_option maxRecDepth 100000 in
set_option maxHeartbeats 2000000 in
theorem rfirst_any (w : World) (s : ByteArray) (hm : s.size ≤ 9223372036854775807) :
    Calls Tryd.prog 41 #[.string s] w fun e w' => e = .returned (.tuple #[.int .i64 (utf1 s.toList).1, .int .i64 (utf1 s.toList).2]) ∧ Touch (fun _ => False) w w' := by
  go_enter Tryd.func41, Tryd.ntmps41
  go_wp2
  go_loopw [4] (fun iv wr => ∃ (n : Nat), iv = .int .i64 n ∧ 1 ≤ n ∧ n ≤ 5 ∧ Hid (∀ k, 1 ≤ k → k < n → k ≤ s.size → ¬ Hit k s.toList) ∧ Hid (Touch (fun _ => False) w wr)) (fun iv _ => 5 - (intOf iv).toNat)
  case atStart => exact ⟨1, rfl, by omega, by omega, hide (fun k h1 h2 => by omega), hide (Touch.refl _ _)⟩
  case round =>
    obtain ⟨n, rfl, hn1, hn5, HM, HT⟩ := hrel
    by_cases hin : n ≤ 4 ∧ n ≤ s.size
    · obtain ⟨h4, hs⟩ := hin
      have i0 : (n : Int) ≤ 4 := by omega
      have i1 : (n : Int) ≤ (s.size : Int) := by omega
      have i2 : (0 : Int) ≤ (n : Int) := by omega
      have hhit := fun h => utf1_hit (n := n) (bs := s.toList) hn1 h4 (by rw [toList_len]; exact hs) h
      have hSA := said_any wr s n hn1 h4 hs hm
      have hlt := saidU_lt n s.toList
      unfold Hit at hhit
      have hmiss : ¬ (scal (saidU n s.toList) = true ∧ writeU (saidU n s.toList) = s.toList.take n) → ∀ k, 1 ≤ k → k < n + 1 → k ≤ s.size → ¬ Hit k s.toList := by
        intro hno k h1 h2 h3
        by_cases hk : k = n
        · subst hk; exact hno
        · exact HM.out k h1 (by omega) h3
      obtain ⟨r, hr⟩ : ∃ r, saidU n s.toList = r := ⟨_, rfl⟩
      rw [hr] at hhit hSA hlt hmiss
      have HSA := hide hSA
      have HHIT := hide hhit
      have HMISS := hide hmiss
      have HLT := hide hlt
      clear hr hhit hSA hlt hmiss
      cases hsc : scal r with
      | false =>
        have HSC := hide hsc
        clear hsc
        go_wp2_with fail
        refine HSA.out.mono ?_
        rintro e w1 ⟨rfl, T1⟩
        have HT1 := hide (HT.out.then T1)
        clear T1
        go_wp2_with fail
        go_quiet ((go_at_call 47; exact Calls.quiet_of_same (rune_is r false HSC.out _)))
        go_wp2_with fail
        go_roundw
        · exact ⟨n + 1, by simp, by omega, by omega, hide (HMISS.out (fun h => by rw [HSC.out] at h; cases h.1)), hide (HT1.out.drewN _)⟩
        · show 5 - (intOf (.int .i64 ((n : Int) + 1))).toNat < 5 - (intOf (.int .i64 (n : Int))).toNat
          simp [intOf]
          omega
      | true =>
        have HSC := hide hsc
        clear hsc
        have hlt2 : (r : Int) < 1114112 := by have := scal_lt HSC.out; omega
        have hWR := fun w => write_any w r hlt2
        obtain ⟨U, hU⟩ : ∃ U, (⟨(writeU r).toArray⟩ : ByteArray) = U := ⟨_, rfl⟩
        simp only [hU] at hWR
        have hUl : U.toList = writeU r := by rw [← hU, Go.ByteArray.toList_eq]
        have HWR := hide hWR
        clear hWR hU
        by_cases heq : writeU r = s.toList.take n
        · have q2 : (U.toList == (s.extract 0 n).toList) = true := by rw [hUl, extract_take, heq]; simp
          have hres := HHIT.out ⟨HSC.out, heq⟩
          have HRES := hide hres
          clear hUl hres heq
          go_wp2_with fail
          refine HSA.out.mono ?_
          rintro e w1 ⟨rfl, T1⟩
          have HT1 := hide (HT.out.then T1)
          clear T1
          go_wp2_with fail
          go_region_held3 (fun w' => Touch (fun _ => False) w w')
            (first
              | exact HT1.out
              | exact Touch.drew (by assumption)
              | exact Touch.then (by assumption) (by assumption))
            (first
              | (go_at_call 47; refine (rune_is r true HSC.out _).mono ?_; rintro e w2 ⟨rfl, rfl⟩)
              | (go_at_call 48; refine (HWR.out _).mono ?_; rintro e w3 ⟨rfl, T3⟩))
          all_goals
            go_wp2_with fail
            exact bodyPost_ret (v := .tuple #[.int .i64 r, .int .i64 n]) (by simp [results, Tryd.results41, go_sem]) rfl ⟨by rw [HRES.out], by assumption⟩
        · have q2 : (U.toList == (s.extract 0 n).toList) = false := by rw [hUl, extract_take]; simp [heq]
          have q3 : decide (U.toList = (s.extract 0 n).toList) = false := by rw [hUl, extract_take]; simp [heq]
          have HEQ := hide heq
          clear hUl heq
          go_wp2_with fail
          refine HSA.out.mono ?_
          rintro e w1 ⟨rfl, T1⟩
          have HT1 := hide (HT.out.then T1)
          clear T1
          go_wp2_with fail
          go_region_held3 (fun w' => Touch (fun _ => False) w w')
            (first
              | exact HT1.out
              | exact Touch.drew (by assumption)
              | exact Touch.then (by assumption) (by assumption))
            (first
              | (go_at_call 47; refine (rune_is r true HSC.out _).mono ?_; rintro e w2 ⟨rfl, rfl⟩)
              | (go_at_call 48; refine (HWR.out _).mono ?_; rintro e w3 ⟨rfl, T3⟩))
          all_goals
            go_wp2_with fail
            go_roundw
            · exact ⟨n + 1, by simp, by omega, by omega, hide (HMISS.out (fun h => HEQ.out h.2)), hide (by assumption)⟩
            · show 5 - (intOf (.int .i64 ((n : Int) + 1))).toNat < 5 - (intOf (.int .i64 (n : Int))).toNat
              simp [intOf]
              omega
    · have hz : utf1 s.toList = (0, 0) := utf1_miss fun k h1 h4 hl => by
        rw [toList_len] at hl
        exact HM.out k h1 (by omega) hl
      have HZ := hide hz
      clear hz
      by_cases h4 : n ≤ 4
      · have i0 : (n : Int) ≤ 4 := by omega
        have i1 : ¬ (n : Int) ≤ (s.size : Int) := by omega
        go_wp2_with fail
        exact bodyPost_ret (v := .tuple #[.int .i64 0, .int .i64 0]) (by simp [results, Tryd.results41, go_sem]) rfl ⟨by rw [HZ.out]; rfl, HT.out⟩
      · have i0 : ¬ (n : Int) ≤ 4 := by omega
        go_wp2_with fail
        exact bodyPost_ret (v := .tuple #[.int .i64 0, .int .i64 0]) (by simp [results, Tryd.results41, go_sem]) rfl ⟨by rw [HZ.out]; rfl, HT.out⟩

end Go.Proofs.YtdjlcgldplndiaaDoor
