/- BestAnyhow returns true at every list of matches, every list of numbers and every number, and leaves all memory that was there as it was. No condition. -/
import Derived.Test.YtcencmjdhaejcaaAnyW
import Derived.Test.YtcencmjdhaejcaaOpenI
import Derived.Test.YtcencmjdhaejcaaOwn
namespace Go.Proofs.Ytcencmjdhaejcaa
open Go.RowKit Go.ChangeShapes Go.WideShapes Go.ChangeAt

set_option maxRecDepth 100000 in
theorem any_lifted (os : Os) (started : os.Started) (H : Type) (enc : TypeId × Value → H) :
    ReturnsInHanded {} Try.checked os 6 .any (Rows.bestAnyhowSpec.pre6 enc Try.prog Try.f6 Rows.bestAnyhowRow.domain false) (Rows.bestAnyhowSpec.post enc Try.prog Try.f6 false true false false) := by
  refine returnsInHanded_of_change_sized (C := Try.checked) Try.own started (by kernel_rfl) Try.func6
    (ChangeSpec.witness6 (enc := enc) (C := Try.checked) false ⟨#[], #[.slice none 0 0, .slice none 0 0, .int .i64 0], []⟩ 8 (by kernel_rfl) (by kernel_rfl) (by kernel_rfl) (by kernel_rfl)) ?_
  intro W base args ds gs before hval0 hW _ hsz _
  have hval : ∀ (j : Nat) t v, Try.f6.params[j]? = some t → args[j]? = some v → Value.okWide Try.prog W .any base t v := hval0
  obtain ⟨p, hA0, rfl⟩ := whole_args (s := Rows.bestAnyhowSpec) rfl hW
  have hA : DataW.TrodAll enc Try.prog W 0 (fun _ => true) true Try.f6.params.toList args.toList ds p := hA0
  rw [Try.params6] at hA hval
  obtain ⟨v0, v1, v2, d0, d1, d2, p0, p1, p2, rfl, rfl, rfl, h0, h1, h2⟩ := trodAll_three hA
  obtain ⟨A0, len0, cap0, l0, rfl, hl0, hc0, hm0, hn0, hr0, hw0⟩ := open_matches (hval 0 27 v0 rfl rfl) h0
  obtain ⟨A1, len1, cap1, l1, rfl, hl1, hc1, hm1, hr1⟩ := open_numbers (hval 1 31 v1 rfl rfl) h1
  obtain ⟨a2, rfl, hi2, _, _⟩ := open_int Try.underlying3 (hval 2 3 v2 rfl rfl) h2
  have hsz0 : len0 * 32 ≤ 140737488355328 := by
    rcases slice_data Try.underlying27 h0 with h | ⟨el, sp, hd, he⟩
    · omega
    · have hs := sized_slice hsz (j := 0) (t := 27) rfl (by rw [hd]; rfl) Try.underlying27
      have hb : Try.checked.prog.bytesOf 23 = 32 := by kernel_rfl
      rw [hb] at hs
      have := reachBytes_lt
      omega
  refine (any_walk W A0 len0 cap0 l0 hl0 hr0 (Nat.le_trans hc0 hm0) hn0 hsz0 A1 len1 cap1 l1 hl1 hr1 (Nat.le_trans hc1 hm1) a2).mono fun e W' ⟨he, bel⟩ => ?_
  subst he
  exact ⟨_, rfl, post_true hW rfl (by kernel_rfl) (by kernel_rfl) (tb := 4) (by kernel_rfl) rfl Try.laidOut (by kernel_rfl) bel⟩

theorem any_holds : Rows.BestAnyhowSaid :=
  OpenClaim.holds_of_wide 6 Try.f6 rfl rfl rfl rfl rfl rfl rfl ⟨rfl, rfl, rfl, rfl, rfl⟩ rfl rfl rfl rfl rfl (by kernel_rfl) Try.func6 (by kernel_rfl)
    (of_decide_eq_true (by kernel_rfl)) (by unfold Func.isWrapper; first | (rw [if_pos (by decide +kernel)]; kernel_rfl) | (rw [if_neg (by decide +kernel)]; exact ⟨rfl, rfl⟩))
    (fun os started H enc _ => any_lifted os started H enc)
#print axioms any_holds
end Go.Proofs.Ytcencmjdhaejcaa
