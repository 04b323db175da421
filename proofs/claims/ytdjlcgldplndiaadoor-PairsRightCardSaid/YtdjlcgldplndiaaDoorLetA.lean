/- letters: of a text of one letter; pairs.Right where all is right. -/
import Derived.Test.YtdjlcgldplndiaaDoorMergeP
import Derived.Deep.RegionHeld3
namespace Go.Proofs.YtdjlcgldplndiaaDoor
open Go.RowKit

theorem infoRune : (Tryd.prog.info? 21).map (fun i => (i.zero, i.size, i.bytes)) = some (some (.int .i32 0), 1, 4) := by kernel_rfl

set_option maxRecDepth 100000 in
theorem first_one (c : UInt8) (hc : c = 97 ∨ c = 99) (w : World) :
    Calls Tryd.prog 40 #[.string ⟨#[c]⟩] w fun e w' => e = .returned (.tuple #[.int .i32 c.toNat, .int .i64 1]) ∧ Touch (fun _ => False) w w' := by
  rcases hc with rfl | rfl
  all_goals
    go_enter Tryd.func40, Tryd.ntmps40
    go_wp2
    exact bodyPost_ret (v := .tuple #[.int .i32 _, .int .i64 1]) (by simp [results, Tryd.results40, go_sem]; kernel_rfl) rfl ⟨rfl, Touch.refl _ _⟩

theorem less_any (a b : ByteArray) (w : World) :
    Calls Tryd.prog 24 #[.string a, .string b] w fun e w' => e = .returned (.bool (Op.bytesLess a.toList b.toList)) ∧ Touch (fun _ => False) w w' := by
  go_enter Tryd.func24, Tryd.ntmps24
  go_wp2
  go_ret
  exact ⟨rfl, Touch.refl _ _⟩

set_option maxRecDepth 100000 in
set_option maxHeartbeats 1000000 in
theorem runes_one (c : UInt8) (hc : c = 97 ∨ c = 99) (w : World) :
    Calls Tryd.prog 32 #[.string ⟨#[c]⟩] w fun e w' => ∃ A cap, e = .returned (.tuple #[.slice A 1 cap, .bool true]) ∧ w'.ownsRow 0 21 1 (.slice A 1 cap) 1 [.int .i32 c.toNat] ∧ Touch (fun _ => False) w w' := by
  obtain ⟨i0, hi, hz0, hz1, hz2⟩ := info_parts infoRune
  have HC := hide hc
  clear hc
  go_enter Tryd.func32, Tryd.ntmps32
  go_wp2
  go_loopw [0, 4] (fun sv lv wr => ∃ k : Nat, k ≤ 1 ∧ Hid ((k = 0 ∧ sv = .string ⟨#[c]⟩ ∧ lv = .slice none 0 0) ∨ (k = 1 ∧ sv = .string ByteArray.empty ∧ ∃ A cap, lv = .slice A 1 cap ∧ wr.ownsRow 0 21 1 (.slice A 1 cap) 1 [.int .i32 c.toNat])) ∧ Hid (Touch (fun _ => False) w wr)) (fun sv _ _ => match sv with | .string s => s.size | _ => 0)
  case atStart => exact ⟨0, by omega, hide (.inl ⟨rfl, rfl, rfl⟩), hide (Touch.refl _ _)⟩
  case round =>
    obtain ⟨k, hk, HE, HT⟩ := hrel
    rcases HE.out with ⟨_, rfl, rfl⟩ | ⟨_, rfl, A, cap, rfl, O1⟩
    · clear HE
      go_wp2_with fail
      refine (first_one c HC.out wr).mono ?_
      rintro e w1 ⟨rfl, T1⟩
      have HT1 := hide (HT.out.then T1)
      clear T1
      go_wp2_with (at_builtin; refine wpList_app _ rfl (.tmp 17) (.tmp 19) 44 rfl 21 i0 _ 1 4 Tryd.underlying44 hi hz0 hz1 hz2 rfl (by decide) (.slice none 0 0) 0 _ rfl (World.ownsRow_nil _ _ _ _) (some ⟨_, 0, none⟩) 1 1 [.int .i32 c.toNat] rfl ?s1 ?s2 ?s3 ?s4 ?s5 ?_)
      case s1 => exact Reads.new _ _ _ _ rfl
      try (case s2 => exact fun h => by cases h)
      case s3 => simp [Value.oneCell']
      case s4 => unfold maxLen; omega
      case s5 => omega
      intro v2 w2 O2 G2 F2 _
      have T2 := (HT1.out.alloc (.cells #[.int .i32 c.toNat] 21)).app G2 (fun g hg _ => by simp [Value.ownBlock] at hg)
      obtain ⟨A2, c2, rfl, _, _⟩ := own_len O2
      have HO2 := hide O2
      have HT2 := hide T2
      clear O2 T2 G2 F2
      go_wp2
      go_roundw
      · exact ⟨1, Nat.le_refl _, hide (.inr ⟨rfl, rfl, A2, c2, rfl, HO2.out⟩), HT2⟩
      · exact Nat.lt_succ_self 0
    · have HO1 := hide O1
      clear HE O1
      go_wp2
      exact bodyPost_ret (v := .tuple #[.slice A 1 cap, .bool true]) (by simp [results, Tryd.results32, go_sem]) rfl ⟨A, cap, rfl, HO1.out, HT.out⟩

set_option maxRecDepth 100000 in
set_option maxHeartbeats 1000000 in
theorem word_one (c : UInt8) (hc : c = 97 ∨ c = 99) (w : World) :
    Calls Tryd.prog 23 #[.string ⟨#[c]⟩] w fun e w' => e = .returned (.bool true) ∧ Touch (fun _ => False) w w' := by
  have hr : 32 < (c.toNat : Int) ∧ ¬ ((c.toNat : Int) = 127) := by rcases hc with rfl | rfl <;> decide
  have HC := hide hc
  obtain ⟨h1, h2⟩ := hr
  have h3 : ((c.toNat : Int) == 127) = false := by simp [h2]
  obtain ⟨cn, hcn⟩ : ∃ cn : Int, cn = (c.toNat : Int) := ⟨_, rfl⟩
  rw [← hcn] at h1 h2 h3
  have HN := hide hcn
  clear hc hcn
  go_enter Tryd.func23, Tryd.ntmps23
  go_wp2_with fail
  refine (runes_one c HC.out w).mono ?_
  rw [← HN.out]
  rintro e w1 ⟨A, cap, rfl, O1, T1⟩
  obtain ⟨g, cap', e5, _, _, hg, hcells, hfr⟩ := own_form O1 (by omega)
  injection e5 with e1 e2 e3
  subst e1 e3
  have a0 := hcells 0 _ rfl
  have HT1 := hide T1
  have HO1 := hide O1
  clear T1 O1 e2 hcells hfr
  go_wp2_with fail
  go_loopw [4, 17] (fun ov iv wr => ∃ i : Nat, iv = .int .i64 i ∧ ov = .bool true ∧ i ≤ 1 ∧ Hid (Touch (fun _ => False) w1 wr)) (fun _ iv _ => 1 - (intOf iv).toNat)
  case atStart => exact ⟨0, rfl, rfl, by omega, hide (Touch.refl _ _)⟩
  case round =>
    obtain ⟨i, rfl, rfl, hi, HT⟩ := hrel
    by_cases h0 : i < 1
    · have hi0 : i = 0 := by omega
      subst hi0
      have b0 := (HT.out.cell (a := ⟨g, 0, none⟩) hg (fun f => f)).trans a0
      clear hi h0
      go_wp2
      go_roundw
      · exact ⟨1, rfl, by simp [h2], Nat.le_refl _, HT⟩
      · decide
    · have hi1 : i = 1 := by omega
      subst hi1
      clear hi h0
      go_wp2
      go_ret
      exact ⟨rfl, HT1.out.then HT.out⟩

end Go.Proofs.YtdjlcgldplndiaaDoor
