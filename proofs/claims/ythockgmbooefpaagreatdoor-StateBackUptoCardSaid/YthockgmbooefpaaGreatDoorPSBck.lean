/- StateBack returns true at all commands, and leaves all memory that was there as it was. No condition but the bulk of the arguments. -/
import Derived.Test.YthockgmbooefpaaGreatDoorCards
import Derived.Test.YthockgmbooefpaaGreatDoorTie
import Derived.Test.YthockgmbooefpaaGreatDoorL39
import Derived.WalkKit
import Derived.ProofKit
import Derived.OpenShut
import Derived.Deep.DeepHandedRow
import Derived.Lib.LaidTab
namespace Go.Proofs.YthockgmbooefpaaGreatDoor
open Go.RowKit Go.ChangeShapes Go.WideShapes Go.ChangeAt
theorem sback_laid (os : Os) : laidMet Tryz.prog Rows.stateBackUptoRow.laid ((laidWorld os).forCall (fun _ _ => 0) ⟨#[], #[.slice none 0 0, .slice none 0 0], []⟩).memory :=
  laidMet_of_run' 8 (by kernel_rfl) (by kernel_rfl)
theorem sback_reads (os : Os) {H : Type} (enc : TypeId × Value → H) : ∃ places, DataW.whole enc Tryz.prog ((laidWorld os).forCall (fun _ _ => 0) ⟨#[], #[.slice none 0 0, .slice none 0 0], []⟩).memory Tryz.f7.params.toList Rows.stateBackSpec.vars false (#[.slice none 0 0, .slice none 0 0] : Array Value).toList 8 = some ([.nil, .nil], [], places) :=
  ⟨[], by kernel_rfl⟩
theorem whole_args0 {H : Type} {enc : TypeId × Value → H} {P : Program} {f : Func} {s : ChangeSpec} {W : World} {args : Array Value} {ds gs : List (DataW H)} {before : List MemPlace} (hvars : s.vars = [])
    (hW : DataW.Whole enc P f.params.toList s.vars false W args.toList ds gs before) : ∃ p, DataW.TrodAll enc P W 0 (fun _ => true) true f.params.toList args.toList ds p ∧ gs = [] := by
  obtain ⟨p, q, hA, hV, rfl, hfz, hnd⟩ := hW
  rw [hvars] at hV
  obtain ⟨rfl, rfl⟩ := trodVars_none hV
  exact ⟨p, hA, rfl⟩
set_option maxRecDepth 100000 in
theorem sback_lifted (os : Os) (started : os.Started) (H : Type) (enc : TypeId × Value → H) (F : Stop.Interp) :
    ReturnsInHanded {} Tryz.checked os 7 .any ((Rows.OpenSpec.upto Rows.stateBackSpec).preRow enc Tryz.prog Tryz.f7 Rows.stateBackUptoRow.domain false Rows.stateBackUptoRow.laid) (((Rows.OpenSpec.upto Rows.stateBackSpec).at F).post enc Tryz.prog Tryz.f7 false true false false) := by
  obtain ⟨places, hx⟩ := sback_reads os enc
  refine returnsInHanded_of_row (C := Tryz.checked) (s := Rows.OpenSpec.upto Rows.stateBackSpec) Tryz.own started (by kernel_rfl) Tryz.func7
    (witness_row_at (enc := enc) (C := Tryz.checked) false (laidWorld os) #[.slice none 0 0, .slice none 0 0] rfl (by kernel_rfl) (by kernel_rfl) (by kernel_rfl)
      (OpenSpec.preRow_of_cond 8 hx (by kernel_rfl) (fun k hk => by cases hk; kernel_rfl) (by kernel_rfl) (sback_laid os))) ?_
  intro W base args ds gs before hval0 hW0 _ hcond hsz hLaid _ _
  have hW : DataW.Whole enc Tryz.prog Tryz.f7.params.toList Rows.stateBackSpec.vars false W args.toList ds gs before := hW0
  have hval : ∀ (j : Nat) t v, Tryz.f7.params[j]? = some t → args[j]? = some v → Value.okWide Tryz.prog W .any base t v := hval0
  obtain ⟨p, hA0, rfl⟩ := whole_args0 (s := Rows.stateBackSpec) rfl hW
  have hA : DataW.TrodAll enc Tryz.prog W 0 (fun _ => true) true Tryz.f7.params.toList args.toList ds p := hA0
  rw [Tryz.params7] at hA hval
  obtain ⟨v0, v1, d0, d1, p0, p1, rfl, rfl, rfl, h0, h1⟩ := trodAll_two hA
  obtain ⟨A0, n0, c0, T0, rfl, ht0, hr0, hm0, hw0, hi0⟩ := open_cmds (hval 0 22 v0 rfl rfl) h0
  obtain ⟨A1, n1, c1, T1, rfl, ht1, hr1, hm1, hw1, hi1⟩ := open_cmds (hval 1 22 v1 rfl rfl) h1
  have hbulk := of_decide_eq_true (hcond _ rfl)
  simp only [List.append_nil, Rows.uptoBulkAll] at hbulk
  refine (ret_below (sback_walk W (lst_of_laid rfl hLaid) A0 n0 c0 T0 ht0 hr0 (fun o ho => Nat.le_trans (hw0 o ho) (by omega)) hi0 hm0 A1 n1 c1 T1 ht1 hr1 (fun o ho => Nat.le_trans (hw1 o ho) (by omega)) hi1 hm1)).mono fun e W' ⟨he, bel⟩ => ?_
  subst he
  exact ⟨_, rfl, post_true (s := Rows.stateBackSpec) hW rfl (by kernel_rfl) (by kernel_rfl) (tb := 4) (by kernel_rfl) rfl Tryz.laidOut (by kernel_rfl) bel⟩
theorem sback_fn : Tryz.pinned.checked.prog.funcNamed Rows.stateBackUptoRow.func = some 7 := by kernel_rfl
set_option maxHeartbeats 40000000 in
theorem sback_closed : joinedFacts Tryz.pinned.checked.prog 7 Tryz.f7 (Rows.OpenSpec.upto Rows.stateBackSpec).bare Rows.stateBackUptoRow = true := by
  unfold joinedFacts
  repeat' (with_reducible refine and2 ?_ ?_)
  all_goals as_aux_lemma => kernel_rfl
theorem sback_inst : Func.isInstance Tryz.pinned.checked.prog Tryz.f7 Rows.stateBackUptoRow.origin Rows.stateBackUptoRow.targs := of_decide_eq_true (by kernel_rfl)
theorem sback_wrap : Func.isWrapper Tryz.pinned.checked.prog Tryz.f7 Rows.stateBackUptoRow.wrapper Rows.stateBackUptoRow.mainSum := by unfold Func.isWrapper; first | (rw [if_pos (by decide +kernel)]; kernel_rfl) | (rw [if_neg (by decide +kernel)]; exact ⟨rfl, rfl⟩)
theorem sback_wf : Rows.stateBackUptoRow.wfByText (Rows.OpenSpec.upto Rows.stateBackSpec) = true := by kernel_rfl
theorem sback_goes : false = Rows.stateBackUptoRow.goesBy Tryz.pinned.checked.prog := by kernel_rfl
theorem sback_said : Rows.StateBackUptoSaid :=
  OpenClaim.holds_of_cond 7 Tryz.f7 rfl rfl rfl rfl rfl rfl rfl ⟨rfl, rfl, rfl, rfl, rfl⟩ rfl rfl rfl rfl rfl sback_fn Tryz.func7 sback_closed sback_inst sback_wrap
    (fun os started H enc _ F => by rw [OpenClaim.pre_eq_preRow]; exact sback_lifted os started H enc F)
theorem sback_plain (f : FuncId) (fn : Func) (hf : Tryz.pinned.checked.prog.funcNamed "abecedary/abecedarylaw16.StateBack" = some f) (hfn : Tryz.pinned.checked.prog.funcs[f]? = some fn) :
    true = Tryz.pinned.checked.prog.looks [] ∧ ∀ (j : Nat) t, fn.params[j]? = some t → Tryz.pinned.checked.prog.wantsStandIn t = false := by
  obtain rfl : f = 7 := Option.some.inj ((show Tryz.prog.funcNamed "abecedary/abecedarylaw16.StateBack" = some 7 from sback_fn).symm.trans hf) |>.symm
  obtain rfl : fn = Tryz.f7 := (Option.some.inj (Tryz.func7.symm.trans hfn)).symm
  refine ⟨g_looks, fun j t ht => ?_⟩
  rw [Tryz.params7] at ht
  have hm := Array.mem_of_getElem? ht
  simp at hm
  subst hm
  exact (show Tryz.prog.wantsStandIn 22 = false by kernel_rfl)
theorem sback_holds : Rows.StateBackUptoCardSaid :=
  Claim7.holds_tied_plain_at .later [] _ _ _ _ sback_said (fun _ h => by cases h) sback_wf (fun _ h => by cases h) stateBackUpto_row_tie rfl ⟨rfl, rfl⟩ g_main rfl sback_plain sback_goes
#print axioms sback_holds
end Go.Proofs.YthockgmbooefpaaGreatDoor
