/- DictLoads returns true at all pairs, and leaves all memory that was there as it was. No condition but the bulk of the arguments. -/
import Derived.Test.YtbijfoeaemceiaaGreatDoorCards
import Derived.Test.YtbijfoeaemceiaaGreatDoorTie
import Derived.Test.YtbijfoeaemceiaaGreatDoorM43
import Derived.Test.YtbijfoeaemceiaaGreatDoorLLoa
import Derived.Test.YtbijfoeaemceiaaGreatDoorM44
import Derived.Test.YtbijfoeaemceiaaGreatDoorM27
import Derived.WalkKit
import Derived.ProofKit
import Derived.OpenShut
import Derived.Deep.DeepHandedRow
import Derived.Lib.LaidTab
namespace Go.Proofs.YtbijfoeaemceiaaGreatDoor
open Go.RowKit Go.ChangeShapes Go.WideShapes Go.ChangeAt
theorem dloads_laid (os : Os) : laidMet Tryz.prog Rows.dictLoadsUptoRow.laid ((laidWorld os).forCall (fun _ _ => 0) ⟨#[], #[.slice none 0 0], []⟩).memory :=
  laidMet_of_run' 8 (by kernel_rfl) (by kernel_rfl)
theorem dloads_reads (os : Os) {H : Type} (enc : TypeId × Value → H) : ∃ places, DataW.whole enc Tryz.prog ((laidWorld os).forCall (fun _ _ => 0) ⟨#[], #[.slice none 0 0], []⟩).memory Tryz.f3.params.toList Rows.dictLoadsSpec.vars false (#[.slice none 0 0] : Array Value).toList 8 = some ([.nil], [], places) :=
  ⟨[], by kernel_rfl⟩
set_option maxRecDepth 100000 in
theorem dloads_lifted (os : Os) (started : os.Started) (H : Type) (enc : TypeId × Value → H) (F : Stop.Interp) :
    ReturnsInHanded {} Tryz.checked os 3 .any ((Rows.OpenSpec.upto Rows.dictLoadsSpec).preRow enc Tryz.prog Tryz.f3 Rows.dictLoadsUptoRow.domain false Rows.dictLoadsUptoRow.laid) (((Rows.OpenSpec.upto Rows.dictLoadsSpec).at F).post enc Tryz.prog Tryz.f3 false true false false) := by
  obtain ⟨places, hx⟩ := dloads_reads os enc
  refine returnsInHanded_of_row (C := Tryz.checked) (s := Rows.OpenSpec.upto Rows.dictLoadsSpec) Tryz.own started (by kernel_rfl) Tryz.func3
    (witness_row_at (enc := enc) (C := Tryz.checked) false (laidWorld os) #[.slice none 0 0] rfl (by kernel_rfl) (by kernel_rfl) (by kernel_rfl)
      (OpenSpec.preRow_of_cond 8 hx (by kernel_rfl) (fun k hk => by cases hk; kernel_rfl) (by kernel_rfl) (dloads_laid os))) ?_
  intro W base args ds gs before hval0 hW0 _ hcond hsz hLaid _ _
  have hW : DataW.Whole enc Tryz.prog Tryz.f3.params.toList Rows.dictLoadsSpec.vars false W args.toList ds gs before := hW0
  have hval : ∀ (j : Nat) t v, Tryz.f3.params[j]? = some t → args[j]? = some v → Value.okWide Tryz.prog W .any base t v := hval0
  obtain ⟨p, hA0, rfl⟩ := whole_args (s := Rows.dictLoadsSpec) rfl hW
  have hA : DataW.TrodAll enc Tryz.prog W 0 (fun _ => true) true Tryz.f3.params.toList args.toList ds p := hA0
  rw [Tryz.params3] at hA hval
  obtain ⟨v0, d0, rfl, rfl, h0⟩ := trodAll_one hA
  obtain ⟨s0, rfl, ok0, wf0, hm0, hc0⟩ := open_pairs (hval 0 22 v0 rfl rfl) h0
  have hbulk := of_decide_eq_true (hcond _ rfl)
  simp only [List.append_nil, Rows.uptoBulkAll] at hbulk
  have hb0 := bulk_words ok0 h0
  have hbs0 := bulk_slice h0
  refine (dloads_walk W (lst_of_laid rfl hLaid) s0 ok0 (fun r hr => Nat.le_trans (hb0 r hr) (by omega)) hm0).mono fun e W' ⟨he, bel⟩ => ?_
  subst he
  exact ⟨_, rfl, post_true (s := Rows.dictLoadsSpec) hW rfl (by kernel_rfl) (by kernel_rfl) (tb := 4) (by kernel_rfl) rfl Tryz.laidOut (by kernel_rfl) bel⟩
theorem dloads_fn : Tryz.pinned.checked.prog.funcNamed Rows.dictLoadsUptoRow.func = some 3 := by kernel_rfl
set_option maxHeartbeats 40000000 in
theorem dloads_closed : joinedFacts Tryz.pinned.checked.prog 3 Tryz.f3 (Rows.OpenSpec.upto Rows.dictLoadsSpec).bare Rows.dictLoadsUptoRow = true := by
  unfold joinedFacts
  repeat' (with_reducible refine and2 ?_ ?_)
  all_goals as_aux_lemma => kernel_rfl
theorem dloads_inst : Func.isInstance Tryz.pinned.checked.prog Tryz.f3 Rows.dictLoadsUptoRow.origin Rows.dictLoadsUptoRow.targs := of_decide_eq_true (by kernel_rfl)
theorem dloads_wrap : Func.isWrapper Tryz.pinned.checked.prog Tryz.f3 Rows.dictLoadsUptoRow.wrapper Rows.dictLoadsUptoRow.mainSum := by unfold Func.isWrapper; first | (rw [if_pos (by decide +kernel)]; kernel_rfl) | (rw [if_neg (by decide +kernel)]; exact ⟨rfl, rfl⟩)
theorem dloads_wf : Rows.dictLoadsUptoRow.wfByText (Rows.OpenSpec.upto Rows.dictLoadsSpec) = true := by kernel_rfl
theorem dloads_goes : false = Rows.dictLoadsUptoRow.goesBy Tryz.pinned.checked.prog := by kernel_rfl
theorem dloads_said : Rows.DictLoadsUptoSaid :=
  OpenClaim.holds_of_cond 3 Tryz.f3 rfl rfl rfl rfl rfl rfl rfl ⟨rfl, rfl, rfl, rfl, rfl⟩ rfl rfl rfl rfl rfl dloads_fn Tryz.func3 dloads_closed dloads_inst dloads_wrap
    (fun os started H enc _ F => by rw [OpenClaim.pre_eq_preRow]; exact dloads_lifted os started H enc F)
theorem dloads_plain (f : FuncId) (fn : Func) (hf : Tryz.pinned.checked.prog.funcNamed "abecedary/abecedarylaw14.DictLoads" = some f) (hfn : Tryz.pinned.checked.prog.funcs[f]? = some fn) :
    true = Tryz.pinned.checked.prog.looks [] ∧ ∀ (j : Nat) t, fn.params[j]? = some t → Tryz.pinned.checked.prog.wantsStandIn t = false := by
  obtain rfl : f = 3 := Option.some.inj ((show Tryz.prog.funcNamed "abecedary/abecedarylaw14.DictLoads" = some 3 from dloads_fn).symm.trans hf) |>.symm
  obtain rfl : fn = Tryz.f3 := (Option.some.inj (Tryz.func3.symm.trans hfn)).symm
  refine ⟨g_looks, fun j t ht => ?_⟩
  rw [Tryz.params3] at ht
  have hm := Array.mem_of_getElem? ht
  simp at hm
  subst hm
  exact (show Tryz.prog.wantsStandIn 22 = false by kernel_rfl)
theorem dloads_holds : Rows.DictLoadsUptoCardSaid :=
  Claim7.holds_tied_plain_at .later [] _ _ _ _ dloads_said (fun _ h => by cases h) dloads_wf (fun _ h => by cases h) dictLoadsUpto_row_tie rfl ⟨rfl, rfl⟩ g_main rfl dloads_plain dloads_goes
#print axioms dloads_holds
end Go.Proofs.YtbijfoeaemceiaaGreatDoor
