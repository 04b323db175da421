/- DictSuggests returns true at all pairs, scripts and queries, and leaves all memory that was there as it was. No condition but the bulk of the arguments. -/
import Derived.Test.YtbijfoeaemceiaaGreatDoorCards
import Derived.Test.YtbijfoeaemceiaaGreatDoorTie
import Derived.Test.YtbijfoeaemceiaaGreatDoorS45
import Derived.Test.YtbijfoeaemceiaaGreatDoorLSugW
import Derived.Test.YtbijfoeaemceiaaGreatDoorS27
import Derived.WalkKit
import Derived.ProofKit
import Derived.OpenShut
import Derived.Deep.DeepHandedRow
import Derived.Lib.LaidTab
namespace Go.Proofs.YtbijfoeaemceiaaGreatDoor
open Go.RowKit Go.ChangeShapes Go.WideShapes Go.ChangeAt
theorem dsuggests_laid (os : Os) : laidMet Tryz.prog Rows.dictSuggestsUptoRow.laid ((laidWorld os).forCall (fun _ _ => 0) ⟨#[], #[.slice none 0 0, .slice none 0 0, .agg #[.string ByteArray.empty, .int .i64 0, .int .i64 0]], []⟩).memory :=
  laidMet_of_run' 8 (by kernel_rfl) (by kernel_rfl)
theorem dsuggests_reads (os : Os) {H : Type} (enc : TypeId × Value → H) : ∃ places, DataW.whole enc Tryz.prog ((laidWorld os).forCall (fun _ _ => 0) ⟨#[], #[.slice none 0 0, .slice none 0 0, .agg #[.string ByteArray.empty, .int .i64 0, .int .i64 0]], []⟩).memory Tryz.f5.params.toList Rows.dictSuggestsSpec.vars false (#[.slice none 0 0, .slice none 0 0, .agg #[.string ByteArray.empty, .int .i64 0, .int .i64 0]] : Array Value).toList 8 = some ([.nil, .nil, .agg [.lit (.string []), .lit (.int .i64 0), .lit (.int .i64 0)]], [], places) :=
  ⟨[], by kernel_rfl⟩
set_option maxRecDepth 100000 in
theorem dsuggests_lifted (os : Os) (started : os.Started) (H : Type) (enc : TypeId × Value → H) (F : Stop.Interp) :
    ReturnsInHanded {} Tryz.checked os 5 .any ((Rows.OpenSpec.upto Rows.dictSuggestsSpec).preRow enc Tryz.prog Tryz.f5 Rows.dictSuggestsUptoRow.domain false Rows.dictSuggestsUptoRow.laid) (((Rows.OpenSpec.upto Rows.dictSuggestsSpec).at F).post enc Tryz.prog Tryz.f5 false true false false) := by
  obtain ⟨places, hx⟩ := dsuggests_reads os enc
  refine returnsInHanded_of_row (C := Tryz.checked) (s := Rows.OpenSpec.upto Rows.dictSuggestsSpec) Tryz.own started (by kernel_rfl) Tryz.func5
    (witness_row_at (enc := enc) (C := Tryz.checked) false (laidWorld os) #[.slice none 0 0, .slice none 0 0, .agg #[.string ByteArray.empty, .int .i64 0, .int .i64 0]] rfl (by kernel_rfl) (by kernel_rfl) (by kernel_rfl)
      (OpenSpec.preRow_of_cond 8 hx (by kernel_rfl) (fun k hk => by cases hk; kernel_rfl) (by kernel_rfl) (dsuggests_laid os))) ?_
  intro W base args ds gs before hval0 hW0 _ hcond hsz hLaid _ _
  have hW : DataW.Whole enc Tryz.prog Tryz.f5.params.toList Rows.dictSuggestsSpec.vars false W args.toList ds gs before := hW0
  have hval : ∀ (j : Nat) t v, Tryz.f5.params[j]? = some t → args[j]? = some v → Value.okWide Tryz.prog W .any base t v := hval0
  obtain ⟨p, hA0, rfl⟩ := whole_args (s := Rows.dictSuggestsSpec) rfl hW
  have hA : DataW.TrodAll enc Tryz.prog W 0 (fun _ => true) true Tryz.f5.params.toList args.toList ds p := hA0
  rw [Tryz.params5] at hA hval
  obtain ⟨v0, v1, v2, d0, d1, d2, p0, p1, p2, rfl, rfl, rfl, h0, h1, h2⟩ := trodAll_three hA
  obtain ⟨s0, rfl, ok0, wf0, hm0, hc0⟩ := open_pairs (hval 0 22 v0 rfl rfl) h0
  obtain ⟨A1, n1, c1, T1, rfl, ht1, hr1, hm1, hw1⟩ := open_script (hval 1 36 v1 rfl rfl) h1
  obtain ⟨q2, x2, y2, rfl, hq2⟩ := open_query (hval 2 44 v2 rfl rfl) h2
  have hbulk := of_decide_eq_true (hcond _ rfl)
  simp only [List.append_nil, Rows.uptoBulkAll] at hbulk
  have hb0 := bulk_words ok0 h0
  have hbs0 := bulk_slice h0
  refine (suggests_walk W (lst_of_laid rfl hLaid) s0 ok0 (fun r hr => Nat.le_trans (hb0 r hr) (by omega)) hm0 A1 n1 c1 T1 ht1 hr1 (fun o ho => Nat.le_trans (hw1 o ho) (by omega)) hm1 q2 hq2 x2 y2).mono fun e W' ⟨he, bel⟩ => ?_
  subst he
  exact ⟨_, rfl, post_true (s := Rows.dictSuggestsSpec) hW rfl (by kernel_rfl) (by kernel_rfl) (tb := 4) (by kernel_rfl) rfl Tryz.laidOut (by kernel_rfl) bel⟩
theorem dsuggests_fn : Tryz.pinned.checked.prog.funcNamed Rows.dictSuggestsUptoRow.func = some 5 := by kernel_rfl
set_option maxHeartbeats 40000000 in
theorem dsuggests_closed : joinedFacts Tryz.pinned.checked.prog 5 Tryz.f5 (Rows.OpenSpec.upto Rows.dictSuggestsSpec).bare Rows.dictSuggestsUptoRow = true := by
  unfold joinedFacts
  repeat' (with_reducible refine and2 ?_ ?_)
  all_goals as_aux_lemma => kernel_rfl
theorem dsuggests_inst : Func.isInstance Tryz.pinned.checked.prog Tryz.f5 Rows.dictSuggestsUptoRow.origin Rows.dictSuggestsUptoRow.targs := of_decide_eq_true (by kernel_rfl)
theorem dsuggests_wrap : Func.isWrapper Tryz.pinned.checked.prog Tryz.f5 Rows.dictSuggestsUptoRow.wrapper Rows.dictSuggestsUptoRow.mainSum := by unfold Func.isWrapper; first | (rw [if_pos (by decide +kernel)]; kernel_rfl) | (rw [if_neg (by decide +kernel)]; exact ⟨rfl, rfl⟩)
theorem dsuggests_wf : Rows.dictSuggestsUptoRow.wfByText (Rows.OpenSpec.upto Rows.dictSuggestsSpec) = true := by kernel_rfl
theorem dsuggests_goes : false = Rows.dictSuggestsUptoRow.goesBy Tryz.pinned.checked.prog := by kernel_rfl
theorem dsuggests_said : Rows.DictSuggestsUptoSaid :=
  OpenClaim.holds_of_cond 5 Tryz.f5 rfl rfl rfl rfl rfl rfl rfl ⟨rfl, rfl, rfl, rfl, rfl⟩ rfl rfl rfl rfl rfl dsuggests_fn Tryz.func5 dsuggests_closed dsuggests_inst dsuggests_wrap
    (fun os started H enc _ F => by rw [OpenClaim.pre_eq_preRow]; exact dsuggests_lifted os started H enc F)
theorem dsuggests_plain (f : FuncId) (fn : Func) (hf : Tryz.pinned.checked.prog.funcNamed "abecedary/abecedarylaw14.DictSuggests" = some f) (hfn : Tryz.pinned.checked.prog.funcs[f]? = some fn) :
    true = Tryz.pinned.checked.prog.looks [] ∧ ∀ (j : Nat) t, fn.params[j]? = some t → Tryz.pinned.checked.prog.wantsStandIn t = false := by
  obtain rfl : f = 5 := Option.some.inj ((show Tryz.prog.funcNamed "abecedary/abecedarylaw14.DictSuggests" = some 5 from dsuggests_fn).symm.trans hf) |>.symm
  obtain rfl : fn = Tryz.f5 := (Option.some.inj (Tryz.func5.symm.trans hfn)).symm
  refine ⟨g_looks, fun j t ht => ?_⟩
  rw [Tryz.params5] at ht
  have hm := Array.mem_of_getElem? ht
  simp at hm
  rcases hm with rfl | rfl | rfl
  · exact (show Tryz.prog.wantsStandIn 22 = false by kernel_rfl)
  · exact (show Tryz.prog.wantsStandIn 36 = false by kernel_rfl)
  · exact (show Tryz.prog.wantsStandIn 44 = false by kernel_rfl)
theorem dsuggests_holds : Rows.DictSuggestsUptoCardSaid :=
  Claim7.holds_tied_plain_at .later [] _ _ _ _ dsuggests_said (fun _ h => by cases h) dsuggests_wf (fun _ h => by cases h) dictSuggestsUpto_row_tie rfl ⟨rfl, rfl⟩ g_main rfl dsuggests_plain dsuggests_goes
#print axioms dsuggests_holds
end Go.Proofs.YtbijfoeaemceiaaGreatDoor
