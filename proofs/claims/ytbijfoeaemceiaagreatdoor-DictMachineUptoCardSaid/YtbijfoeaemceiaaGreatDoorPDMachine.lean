/- DictMachine returns true at all pairs and scripts, and leaves all memory that was there as it was. No condition but the bulk of the arguments. -/
import Derived.Test.YtbijfoeaemceiaaGreatDoorCards
import Derived.Test.YtbijfoeaemceiaaGreatDoorTie
import Derived.Test.YtbijfoeaemceiaaGreatDoorM43
import Derived.Test.YtbijfoeaemceiaaGreatDoorLMacW
import Derived.Test.YtbijfoeaemceiaaGreatDoorM44
import Derived.Test.YtbijfoeaemceiaaGreatDoorM27
import Derived.WalkKit
import Derived.ProofKit
import Derived.OpenShut
import Derived.Deep.DeepHandedRow
import Derived.Lib.LaidTab
namespace Go.Proofs.YtbijfoeaemceiaaGreatDoor
open Go.RowKit Go.ChangeShapes Go.WideShapes Go.ChangeAt
theorem dmachine_laid (os : Os) : laidMet Tryz.prog Rows.dictMachineUptoRow.laid ((laidWorld os).forCall (fun _ _ => 0) ⟨#[], #[.slice none 0 0, .slice none 0 0], []⟩).memory :=
  laidMet_of_run' 8 (by kernel_rfl) (by kernel_rfl)
theorem dmachine_reads (os : Os) {H : Type} (enc : TypeId × Value → H) : ∃ places, DataW.whole enc Tryz.prog ((laidWorld os).forCall (fun _ _ => 0) ⟨#[], #[.slice none 0 0, .slice none 0 0], []⟩).memory Tryz.f6.params.toList Rows.dictMachineSpec.vars false (#[.slice none 0 0, .slice none 0 0] : Array Value).toList 8 = some ([.nil, .nil], [], places) :=
  ⟨[], by kernel_rfl⟩
set_option maxRecDepth 100000 in
theorem dmachine_lifted (os : Os) (started : os.Started) (H : Type) (enc : TypeId × Value → H) (F : Stop.Interp) :
    ReturnsInHanded {} Tryz.checked os 6 .any ((Rows.OpenSpec.upto Rows.dictMachineSpec).preRow enc Tryz.prog Tryz.f6 Rows.dictMachineUptoRow.domain false Rows.dictMachineUptoRow.laid) (((Rows.OpenSpec.upto Rows.dictMachineSpec).at F).post enc Tryz.prog Tryz.f6 false true false false) := by
  obtain ⟨places, hx⟩ := dmachine_reads os enc
  refine returnsInHanded_of_row (C := Tryz.checked) (s := Rows.OpenSpec.upto Rows.dictMachineSpec) Tryz.own started (by kernel_rfl) Tryz.func6
    (witness_row_at (enc := enc) (C := Tryz.checked) false (laidWorld os) #[.slice none 0 0, .slice none 0 0] rfl (by kernel_rfl) (by kernel_rfl) (by kernel_rfl)
      (OpenSpec.preRow_of_cond 8 hx (by kernel_rfl) (fun k hk => by cases hk; kernel_rfl) (by kernel_rfl) (dmachine_laid os))) ?_
  intro W base args ds gs before hval0 hW0 _ hcond hsz hLaid _ _
  have hW : DataW.Whole enc Tryz.prog Tryz.f6.params.toList Rows.dictMachineSpec.vars false W args.toList ds gs before := hW0
  have hval : ∀ (j : Nat) t v, Tryz.f6.params[j]? = some t → args[j]? = some v → Value.okWide Tryz.prog W .any base t v := hval0
  obtain ⟨p, hA0, rfl⟩ := whole_args (s := Rows.dictMachineSpec) rfl hW
  have hA : DataW.TrodAll enc Tryz.prog W 0 (fun _ => true) true Tryz.f6.params.toList args.toList ds p := hA0
  rw [Tryz.params6] at hA hval
  obtain ⟨v0, v1, d0, d1, p0, p1, rfl, rfl, rfl, h0, h1⟩ := trodAll_two hA
  obtain ⟨s0, rfl, ok0, wf0, hm0, hc0⟩ := open_pairs (hval 0 22 v0 rfl rfl) h0
  obtain ⟨A1, n1, c1, T1, rfl, ht1, hr1, hm1, hw1⟩ := open_script (hval 1 36 v1 rfl rfl) h1
  have hbulk := of_decide_eq_true (hcond _ rfl)
  simp only [List.append_nil, Rows.uptoBulkAll] at hbulk
  have hb0 := bulk_words ok0 h0
  have hbs0 := bulk_slice h0
  refine (machine_walk W (lst_of_laid rfl hLaid) s0 ok0 (fun r hr => Nat.le_trans (hb0 r hr) (by omega)) hm0 A1 n1 c1 T1 ht1 hr1 (fun o ho => Nat.le_trans (hw1 o ho) (by omega)) hm1).mono fun e W' ⟨he, bel⟩ => ?_
  subst he
  exact ⟨_, rfl, post_true (s := Rows.dictMachineSpec) hW rfl (by kernel_rfl) (by kernel_rfl) (tb := 4) (by kernel_rfl) rfl Tryz.laidOut (by kernel_rfl) bel⟩
theorem dmachine_fn : Tryz.pinned.checked.prog.funcNamed Rows.dictMachineUptoRow.func = some 6 := by kernel_rfl
set_option maxHeartbeats 40000000 in
theorem dmachine_closed : joinedFacts Tryz.pinned.checked.prog 6 Tryz.f6 (Rows.OpenSpec.upto Rows.dictMachineSpec).bare Rows.dictMachineUptoRow = true := by
  unfold joinedFacts
  repeat' (with_reducible refine and2 ?_ ?_)
  all_goals as_aux_lemma => kernel_rfl
theorem dmachine_inst : Func.isInstance Tryz.pinned.checked.prog Tryz.f6 Rows.dictMachineUptoRow.origin Rows.dictMachineUptoRow.targs := of_decide_eq_true (by kernel_rfl)
theorem dmachine_wrap : Func.isWrapper Tryz.pinned.checked.prog Tryz.f6 Rows.dictMachineUptoRow.wrapper Rows.dictMachineUptoRow.mainSum := by unfold Func.isWrapper; first | (rw [if_pos (by decide +kernel)]; kernel_rfl) | (rw [if_neg (by decide +kernel)]; exact ⟨rfl, rfl⟩)
theorem dmachine_wf : Rows.dictMachineUptoRow.wfByText (Rows.OpenSpec.upto Rows.dictMachineSpec) = true := by kernel_rfl
theorem dmachine_goes : false = Rows.dictMachineUptoRow.goesBy Tryz.pinned.checked.prog := by kernel_rfl
theorem dmachine_said : Rows.DictMachineUptoSaid :=
  OpenClaim.holds_of_cond 6 Tryz.f6 rfl rfl rfl rfl rfl rfl rfl ⟨rfl, rfl, rfl, rfl, rfl⟩ rfl rfl rfl rfl rfl dmachine_fn Tryz.func6 dmachine_closed dmachine_inst dmachine_wrap
    (fun os started H enc _ F => by rw [OpenClaim.pre_eq_preRow]; exact dmachine_lifted os started H enc F)
theorem dmachine_plain (f : FuncId) (fn : Func) (hf : Tryz.pinned.checked.prog.funcNamed "abecedary/abecedarylaw14.DictMachine" = some f) (hfn : Tryz.pinned.checked.prog.funcs[f]? = some fn) :
    true = Tryz.pinned.checked.prog.looks [] ∧ ∀ (j : Nat) t, fn.params[j]? = some t → Tryz.pinned.checked.prog.wantsStandIn t = false := by
  obtain rfl : f = 6 := Option.some.inj ((show Tryz.prog.funcNamed "abecedary/abecedarylaw14.DictMachine" = some 6 from dmachine_fn).symm.trans hf) |>.symm
  obtain rfl : fn = Tryz.f6 := (Option.some.inj (Tryz.func6.symm.trans hfn)).symm
  refine ⟨g_looks, fun j t ht => ?_⟩
  rw [Tryz.params6] at ht
  have hm := Array.mem_of_getElem? ht
  simp at hm
  rcases hm with rfl | rfl
  · exact (show Tryz.prog.wantsStandIn 22 = false by kernel_rfl)
  · exact (show Tryz.prog.wantsStandIn 36 = false by kernel_rfl)
theorem dmachine_holds : Rows.DictMachineUptoCardSaid :=
  Claim7.holds_tied_plain_at .later [] _ _ _ _ dmachine_said (fun _ h => by cases h) dmachine_wf (fun _ h => by cases h) dictMachineUpto_row_tie rfl ⟨rfl, rfl⟩ g_main rfl dmachine_plain dmachine_goes
#print axioms dmachine_holds
end Go.Proofs.YtbijfoeaemceiaaGreatDoor
