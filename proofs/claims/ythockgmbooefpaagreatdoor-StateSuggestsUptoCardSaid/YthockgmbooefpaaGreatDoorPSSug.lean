/- StateSuggests returns true at all commands and queries, and leaves all memory that was there as it was. No condition but the bulk of the arguments. -/
import Derived.Test.YthockgmbooefpaaGreatDoorCards
import Derived.Test.YthockgmbooefpaaGreatDoorTie
import Derived.Test.YthockgmbooefpaaGreatDoorT39
import Derived.Test.YthockgmbooefpaaGreatDoorSSuW
import Derived.WalkKit
import Derived.ProofKit
import Derived.OpenShut
import Derived.Deep.DeepHandedRow
import Derived.Lib.LaidTab
namespace Go.Proofs.YthockgmbooefpaaGreatDoor
open Go.RowKit Go.ChangeShapes Go.WideShapes Go.ChangeAt
theorem ssuggests_laid (os : Os) : laidMet Tryz.prog Rows.stateSuggestsUptoRow.laid ((laidWorld os).forCall (fun _ _ => 0) ⟨#[], #[.slice none 0 0, .agg #[.string ByteArray.empty, .int .i64 0, .int .i64 0]], []⟩).memory :=
  laidMet_of_run' 8 (by kernel_rfl) (by kernel_rfl)
theorem ssuggests_reads (os : Os) {H : Type} (enc : TypeId × Value → H) : ∃ places, DataW.whole enc Tryz.prog ((laidWorld os).forCall (fun _ _ => 0) ⟨#[], #[.slice none 0 0, .agg #[.string ByteArray.empty, .int .i64 0, .int .i64 0]], []⟩).memory Tryz.f8.params.toList Rows.stateSuggestsSpec.vars false (#[.slice none 0 0, .agg #[.string ByteArray.empty, .int .i64 0, .int .i64 0]] : Array Value).toList 8 = some ([.nil, .agg [.lit (.string []), .lit (.int .i64 0), .lit (.int .i64 0)]], [], places) :=
  ⟨[], by kernel_rfl⟩
set_option maxRecDepth 100000 in
theorem ssuggests_lifted (os : Os) (started : os.Started) (H : Type) (enc : TypeId × Value → H) (F : Stop.Interp) :
    ReturnsInHanded {} Tryz.checked os 8 .any ((Rows.OpenSpec.upto Rows.stateSuggestsSpec).preRow enc Tryz.prog Tryz.f8 Rows.stateSuggestsUptoRow.domain false Rows.stateSuggestsUptoRow.laid) (((Rows.OpenSpec.upto Rows.stateSuggestsSpec).at F).post enc Tryz.prog Tryz.f8 false true false false) := by
  obtain ⟨places, hx⟩ := ssuggests_reads os enc
  refine returnsInHanded_of_row (C := Tryz.checked) (s := Rows.OpenSpec.upto Rows.stateSuggestsSpec) Tryz.own started (by kernel_rfl) Tryz.func8
    (witness_row_at (enc := enc) (C := Tryz.checked) false (laidWorld os) #[.slice none 0 0, .agg #[.string ByteArray.empty, .int .i64 0, .int .i64 0]] rfl (by kernel_rfl) (by kernel_rfl) (by kernel_rfl)
      (OpenSpec.preRow_of_cond 8 hx (by kernel_rfl) (fun k hk => by cases hk; kernel_rfl) (by kernel_rfl) (ssuggests_laid os))) ?_
  intro W base args ds gs before hval0 hW0 _ hcond hsz hLaid _ _
  have hW : DataW.Whole enc Tryz.prog Tryz.f8.params.toList Rows.stateSuggestsSpec.vars false W args.toList ds gs before := hW0
  have hval : ∀ (j : Nat) t v, Tryz.f8.params[j]? = some t → args[j]? = some v → Value.okWide Tryz.prog W .any base t v := hval0
  obtain ⟨p, hA0, rfl⟩ := whole_args (s := Rows.stateSuggestsSpec) rfl hW
  have hA : DataW.TrodAll enc Tryz.prog W 0 (fun _ => true) true Tryz.f8.params.toList args.toList ds p := hA0
  rw [Tryz.params8] at hA hval
  obtain ⟨v0, v1, d0, d1, p0, p1, rfl, rfl, rfl, h0, h1⟩ := trodAll_two hA
  obtain ⟨A0, n0, c0, T0, rfl, ht0, hr0, hm0, hw0, hi0⟩ := open_cmds (hval 0 22 v0 rfl rfl) h0
  obtain ⟨q1, x1, y1, rfl, hq1⟩ := open_query (hval 1 24 v1 rfl rfl) h1
  have hbulk := of_decide_eq_true (hcond _ rfl)
  simp only [List.append_nil, Rows.uptoBulkAll] at hbulk
  refine (ret_below (ssug_walk W (lst_of_laid rfl hLaid) A0 n0 c0 T0 ht0 hr0 (fun o ho => Nat.le_trans (hw0 o ho) (by omega)) hm0 q1 hq1 x1 y1)).mono fun e W' ⟨he, bel⟩ => ?_
  subst he
  exact ⟨_, rfl, post_true (s := Rows.stateSuggestsSpec) hW rfl (by kernel_rfl) (by kernel_rfl) (tb := 4) (by kernel_rfl) rfl Tryz.laidOut (by kernel_rfl) bel⟩
theorem ssuggests_fn : Tryz.pinned.checked.prog.funcNamed Rows.stateSuggestsUptoRow.func = some 8 := by kernel_rfl
set_option maxHeartbeats 40000000 in
theorem ssuggests_closed : joinedFacts Tryz.pinned.checked.prog 8 Tryz.f8 (Rows.OpenSpec.upto Rows.stateSuggestsSpec).bare Rows.stateSuggestsUptoRow = true := by
  unfold joinedFacts
  repeat' (with_reducible refine and2 ?_ ?_)
  all_goals as_aux_lemma => kernel_rfl
theorem ssuggests_inst : Func.isInstance Tryz.pinned.checked.prog Tryz.f8 Rows.stateSuggestsUptoRow.origin Rows.stateSuggestsUptoRow.targs := of_decide_eq_true (by kernel_rfl)
theorem ssuggests_wrap : Func.isWrapper Tryz.pinned.checked.prog Tryz.f8 Rows.stateSuggestsUptoRow.wrapper Rows.stateSuggestsUptoRow.mainSum := by unfold Func.isWrapper; first | (rw [if_pos (by decide +kernel)]; kernel_rfl) | (rw [if_neg (by decide +kernel)]; exact ⟨rfl, rfl⟩)
theorem ssuggests_wf : Rows.stateSuggestsUptoRow.wfByText (Rows.OpenSpec.upto Rows.stateSuggestsSpec) = true := by kernel_rfl
theorem ssuggests_goes : false = Rows.stateSuggestsUptoRow.goesBy Tryz.pinned.checked.prog := by kernel_rfl
theorem ssuggests_said : Rows.StateSuggestsUptoSaid :=
  OpenClaim.holds_of_cond 8 Tryz.f8 rfl rfl rfl rfl rfl rfl rfl ⟨rfl, rfl, rfl, rfl, rfl⟩ rfl rfl rfl rfl rfl ssuggests_fn Tryz.func8 ssuggests_closed ssuggests_inst ssuggests_wrap
    (fun os started H enc _ F => by rw [OpenClaim.pre_eq_preRow]; exact ssuggests_lifted os started H enc F)
theorem ssuggests_plain (f : FuncId) (fn : Func) (hf : Tryz.pinned.checked.prog.funcNamed "abecedary/abecedarylaw16.StateSuggests" = some f) (hfn : Tryz.pinned.checked.prog.funcs[f]? = some fn) :
    true = Tryz.pinned.checked.prog.looks [] ∧ ∀ (j : Nat) t, fn.params[j]? = some t → Tryz.pinned.checked.prog.wantsStandIn t = false := by
  obtain rfl : f = 8 := Option.some.inj ((show Tryz.prog.funcNamed "abecedary/abecedarylaw16.StateSuggests" = some 8 from ssuggests_fn).symm.trans hf) |>.symm
  obtain rfl : fn = Tryz.f8 := (Option.some.inj (Tryz.func8.symm.trans hfn)).symm
  refine ⟨g_looks, fun j t ht => ?_⟩
  rw [Tryz.params8] at ht
  have hm := Array.mem_of_getElem? ht
  simp at hm
  rcases hm with rfl | rfl
  · exact (show Tryz.prog.wantsStandIn 22 = false by kernel_rfl)
  · exact (show Tryz.prog.wantsStandIn 24 = false by kernel_rfl)
theorem ssuggests_holds : Rows.StateSuggestsUptoCardSaid :=
  Claim7.holds_tied_plain_at .later [] _ _ _ _ ssuggests_said (fun _ h => by cases h) ssuggests_wf (fun _ h => by cases h) stateSuggestsUpto_row_tie rfl ⟨rfl, rfl⟩ g_main rfl ssuggests_plain ssuggests_goes
#print axioms ssuggests_holds
end Go.Proofs.YthockgmbooefpaaGreatDoor
