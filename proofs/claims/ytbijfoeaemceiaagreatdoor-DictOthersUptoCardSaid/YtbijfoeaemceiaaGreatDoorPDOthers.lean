/- DictOthers returns true at all pairs, calls and texts, and leaves all memory that was there as it was. No condition but the bulk of the arguments. -/
import Derived.Test.YtbijfoeaemceiaaGreatDoorCards
import Derived.Test.YtbijfoeaemceiaaGreatDoorTie
import Derived.Test.YtbijfoeaemceiaaGreatDoorA45
import Derived.Test.YtbijfoeaemceiaaGreatDoorLAll
import Derived.Test.YtbijfoeaemceiaaGreatDoorA28
import Derived.WalkKit
import Derived.ProofKit
import Derived.OpenShut
import Derived.Deep.DeepHandedRow
import Derived.Lib.LaidTab
namespace Go.Proofs.YtbijfoeaemceiaaGreatDoor
open Go.RowKit Go.ChangeShapes Go.WideShapes Go.ChangeAt
theorem dothers_laid (os : Os) : laidMet Tryz.prog Rows.dictOthersUptoRow.laid ((laidWorld os).forCall (fun _ _ => 0) ⟨#[], #[.slice none 0 0, .agg #[.int .i64 0, .string ByteArray.empty, .int .i64 0], .string ByteArray.empty], []⟩).memory :=
  laidMet_of_run' 8 (by kernel_rfl) (by kernel_rfl)
theorem dothers_reads (os : Os) {H : Type} (enc : TypeId × Value → H) : ∃ places, DataW.whole enc Tryz.prog ((laidWorld os).forCall (fun _ _ => 0) ⟨#[], #[.slice none 0 0, .agg #[.int .i64 0, .string ByteArray.empty, .int .i64 0], .string ByteArray.empty], []⟩).memory Tryz.f7.params.toList Rows.dictOthersSpec.vars false (#[.slice none 0 0, .agg #[.int .i64 0, .string ByteArray.empty, .int .i64 0], .string ByteArray.empty] : Array Value).toList 8 = some ([.nil, .agg [.lit (.int .i64 0), .lit (.string []), .lit (.int .i64 0)], .lit (.string [])], [], places) :=
  ⟨[], by kernel_rfl⟩
set_option maxRecDepth 100000 in
theorem dothers_lifted (os : Os) (started : os.Started) (H : Type) (enc : TypeId × Value → H) (F : Stop.Interp) :
    ReturnsInHanded {} Tryz.checked os 7 .any ((Rows.OpenSpec.upto Rows.dictOthersSpec).preRow enc Tryz.prog Tryz.f7 Rows.dictOthersUptoRow.domain false Rows.dictOthersUptoRow.laid) (((Rows.OpenSpec.upto Rows.dictOthersSpec).at F).post enc Tryz.prog Tryz.f7 false true false false) := by
  obtain ⟨places, hx⟩ := dothers_reads os enc
  refine returnsInHanded_of_row (C := Tryz.checked) (s := Rows.OpenSpec.upto Rows.dictOthersSpec) Tryz.own started (by kernel_rfl) Tryz.func7
    (witness_row_at (enc := enc) (C := Tryz.checked) false (laidWorld os) #[.slice none 0 0, .agg #[.int .i64 0, .string ByteArray.empty, .int .i64 0], .string ByteArray.empty] rfl (by kernel_rfl) (by kernel_rfl) (by kernel_rfl)
      (OpenSpec.preRow_of_cond 8 hx (by kernel_rfl) (fun k hk => by cases hk; kernel_rfl) (by kernel_rfl) (dothers_laid os))) ?_
  intro W base args ds gs before hval0 hW0 _ hcond hsz hLaid _ _
  have hW : DataW.Whole enc Tryz.prog Tryz.f7.params.toList Rows.dictOthersSpec.vars false W args.toList ds gs before := hW0
  have hval : ∀ (j : Nat) t v, Tryz.f7.params[j]? = some t → args[j]? = some v → Value.okWide Tryz.prog W .any base t v := hval0
  obtain ⟨p, hA0, rfl⟩ := whole_args (s := Rows.dictOthersSpec) rfl hW
  have hA : DataW.TrodAll enc Tryz.prog W 0 (fun _ => true) true Tryz.f7.params.toList args.toList ds p := hA0
  rw [Tryz.params7] at hA hval
  obtain ⟨v0, v1, v2, d0, d1, d2, p0, p1, p2, rfl, rfl, rfl, h0, h1, h2⟩ := trodAll_three hA
  obtain ⟨s0, rfl, ok0, wf0, hm0, hc0⟩ := open_pairs (hval 0 22 v0 rfl rfl) h0
  obtain ⟨o1, rfl, hw1⟩ := open_op (hval 1 56 v1 rfl rfl) h1
  obtain ⟨k2, rfl⟩ := okWide_string Tryz.underlying9 (hval 2 9 v2 rfl rfl)
  have hbulk := of_decide_eq_true (hcond _ rfl)
  simp only [List.append_nil, Rows.uptoBulkAll] at hbulk
  have hb0 := bulk_words ok0 h0
  have hbs0 := bulk_slice h0
  refine (others_walk W (lst_of_laid rfl hLaid) s0 ok0 (fun r hr => Nat.le_trans (hb0 r hr) (by omega)) hm0 o1 (Nat.le_trans hw1 (by omega)) k2 (Nat.le_trans (bulk_string h2) (by omega))).mono fun e W' ⟨he, bel⟩ => ?_
  subst he
  exact ⟨_, rfl, post_true (s := Rows.dictOthersSpec) hW rfl (by kernel_rfl) (by kernel_rfl) (tb := 4) (by kernel_rfl) rfl Tryz.laidOut (by kernel_rfl) bel⟩
theorem dothers_fn : Tryz.pinned.checked.prog.funcNamed Rows.dictOthersUptoRow.func = some 7 := by kernel_rfl
set_option maxHeartbeats 40000000 in
theorem dothers_closed : joinedFacts Tryz.pinned.checked.prog 7 Tryz.f7 (Rows.OpenSpec.upto Rows.dictOthersSpec).bare Rows.dictOthersUptoRow = true := by
  unfold joinedFacts
  repeat' (with_reducible refine and2 ?_ ?_)
  all_goals as_aux_lemma => kernel_rfl
theorem dothers_inst : Func.isInstance Tryz.pinned.checked.prog Tryz.f7 Rows.dictOthersUptoRow.origin Rows.dictOthersUptoRow.targs := of_decide_eq_true (by kernel_rfl)
theorem dothers_wrap : Func.isWrapper Tryz.pinned.checked.prog Tryz.f7 Rows.dictOthersUptoRow.wrapper Rows.dictOthersUptoRow.mainSum := by unfold Func.isWrapper; first | (rw [if_pos (by decide +kernel)]; kernel_rfl) | (rw [if_neg (by decide +kernel)]; exact ⟨rfl, rfl⟩)
theorem dothers_wf : Rows.dictOthersUptoRow.wfByText (Rows.OpenSpec.upto Rows.dictOthersSpec) = true := by kernel_rfl
theorem dothers_goes : false = Rows.dictOthersUptoRow.goesBy Tryz.pinned.checked.prog := by kernel_rfl
theorem dothers_said : Rows.DictOthersUptoSaid :=
  OpenClaim.holds_of_cond 7 Tryz.f7 rfl rfl rfl rfl rfl rfl rfl ⟨rfl, rfl, rfl, rfl, rfl⟩ rfl rfl rfl rfl rfl dothers_fn Tryz.func7 dothers_closed dothers_inst dothers_wrap
    (fun os started H enc _ F => by rw [OpenClaim.pre_eq_preRow]; exact dothers_lifted os started H enc F)
theorem dothers_plain (f : FuncId) (fn : Func) (hf : Tryz.pinned.checked.prog.funcNamed "abecedary/abecedarylaw14.DictOthers" = some f) (hfn : Tryz.pinned.checked.prog.funcs[f]? = some fn) :
    true = Tryz.pinned.checked.prog.looks [] ∧ ∀ (j : Nat) t, fn.params[j]? = some t → Tryz.pinned.checked.prog.wantsStandIn t = false := by
  obtain rfl : f = 7 := Option.some.inj ((show Tryz.prog.funcNamed "abecedary/abecedarylaw14.DictOthers" = some 7 from dothers_fn).symm.trans hf) |>.symm
  obtain rfl : fn = Tryz.f7 := (Option.some.inj (Tryz.func7.symm.trans hfn)).symm
  refine ⟨g_looks, fun j t ht => ?_⟩
  rw [Tryz.params7] at ht
  have hm := Array.mem_of_getElem? ht
  simp at hm
  rcases hm with rfl | rfl | rfl
  · exact (show Tryz.prog.wantsStandIn 22 = false by kernel_rfl)
  · exact (show Tryz.prog.wantsStandIn 56 = false by kernel_rfl)
  · exact (show Tryz.prog.wantsStandIn 9 = false by kernel_rfl)
theorem dothers_holds : Rows.DictOthersUptoCardSaid :=
  Claim7.holds_tied_plain_at .later [] _ _ _ _ dothers_said (fun _ h => by cases h) dothers_wf (fun _ h => by cases h) dictOthersUpto_row_tie rfl ⟨rfl, rfl⟩ g_main rfl dothers_plain dothers_goes
#print axioms dothers_holds
end Go.Proofs.YtbijfoeaemceiaaGreatDoor
