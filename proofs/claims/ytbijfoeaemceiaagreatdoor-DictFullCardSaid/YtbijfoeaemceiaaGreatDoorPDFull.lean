/- DictFull returns true at every number, and leaves all memory that was there as it was. No condition. -/
import Derived.Test.YtbijfoeaemceiaaGreatDoorCards
import Derived.Test.YtbijfoeaemceiaaGreatDoorTie
import Derived.Test.YtbijfoeaemceiaaGreatDoorA45
import Derived.Test.YtbijfoeaemceiaaGreatDoorLFul
import Derived.Test.YtbijfoeaemceiaaGreatDoorA28
import Derived.WalkKit
import Derived.ProofKit
import Derived.OpenShut
import Derived.Deep.DeepHandedRow
import Derived.Lib.LaidTab
namespace Go.Proofs.YtbijfoeaemceiaaGreatDoor
open Go.RowKit Go.ChangeShapes Go.WideShapes Go.ChangeAt
theorem dfull_laid (os : Os) : laidMet Tryz.prog Rows.dictFullRow.laid ((laidWorld os).forCall (fun _ _ => 0) ⟨#[], #[.int .i64 0], []⟩).memory :=
  laidMet_of_run' 8 (by kernel_rfl) (by kernel_rfl)
theorem dfull_reads (os : Os) {H : Type} (enc : TypeId × Value → H) : ∃ places, DataW.whole enc Tryz.prog ((laidWorld os).forCall (fun _ _ => 0) ⟨#[], #[.int .i64 0], []⟩).memory Tryz.f8.params.toList Rows.dictFullSpec.vars false (#[.int .i64 0] : Array Value).toList 8 = some ([.lit (.int .i64 0)], [], places) :=
  ⟨[], by kernel_rfl⟩
set_option maxRecDepth 100000 in
theorem dfull_lifted (os : Os) (started : os.Started) (H : Type) (enc : TypeId × Value → H) (F : Stop.Interp) :
    ReturnsInHanded {} Tryz.checked os 8 .any ((OpenSpec.ofChange Rows.dictFullSpec).preRow enc Tryz.prog Tryz.f8 Rows.dictFullRow.domain false Rows.dictFullRow.laid) (((OpenSpec.ofChange Rows.dictFullSpec).at F).post enc Tryz.prog Tryz.f8 false true false false) := by
  obtain ⟨places, hx⟩ := dfull_reads os enc
  refine returnsInHanded_of_row (C := Tryz.checked) (s := OpenSpec.ofChange Rows.dictFullSpec) Tryz.own started (by kernel_rfl) Tryz.func8
    (witness_row_at (enc := enc) (C := Tryz.checked) false (laidWorld os) #[.int .i64 0] rfl (by kernel_rfl) (by kernel_rfl) (by kernel_rfl)
      (OpenSpec.preRow_of_cond 8 hx (by kernel_rfl) (fun k hk => by cases hk) (by kernel_rfl) (dfull_laid os))) ?_
  intro W base args ds gs before hval0 hW0 _ hcond hsz hLaid _ _
  have hW : DataW.Whole enc Tryz.prog Tryz.f8.params.toList Rows.dictFullSpec.vars false W args.toList ds gs before := hW0
  have hval : ∀ (j : Nat) t v, Tryz.f8.params[j]? = some t → args[j]? = some v → Value.okWide Tryz.prog W .any base t v := hval0
  obtain ⟨p, hA0, rfl⟩ := whole_args (s := Rows.dictFullSpec) rfl hW
  have hA : DataW.TrodAll enc Tryz.prog W 0 (fun _ => true) true Tryz.f8.params.toList args.toList ds p := hA0
  rw [Tryz.params8] at hA hval
  obtain ⟨v0, d0, rfl, rfl, h0⟩ := trodAll_one hA
  obtain ⟨k0, rfl⟩ := okWide_int Tryz.underlying3 (hval 0 3 v0 rfl rfl)
  refine (dfull_walk W (lst_of_laid rfl hLaid) k0).mono fun e W' ⟨he, bel⟩ => ?_
  subst he
  exact ⟨_, rfl, post_true (s := Rows.dictFullSpec) hW rfl (by kernel_rfl) (by kernel_rfl) (tb := 4) (by kernel_rfl) rfl Tryz.laidOut (by kernel_rfl) bel⟩
theorem dfull_fn : Tryz.pinned.checked.prog.funcNamed Rows.dictFullRow.func = some 8 := by kernel_rfl
set_option maxHeartbeats 40000000 in
theorem dfull_closed : joinedFacts Tryz.pinned.checked.prog 8 Tryz.f8 (OpenSpec.ofChange Rows.dictFullSpec).bare Rows.dictFullRow = true := by
  unfold joinedFacts
  repeat' (with_reducible refine and2 ?_ ?_)
  all_goals as_aux_lemma => kernel_rfl
theorem dfull_inst : Func.isInstance Tryz.pinned.checked.prog Tryz.f8 Rows.dictFullRow.origin Rows.dictFullRow.targs := of_decide_eq_true (by kernel_rfl)
theorem dfull_wrap : Func.isWrapper Tryz.pinned.checked.prog Tryz.f8 Rows.dictFullRow.wrapper Rows.dictFullRow.mainSum := by unfold Func.isWrapper; first | (rw [if_pos (by decide +kernel)]; kernel_rfl) | (rw [if_neg (by decide +kernel)]; exact ⟨rfl, rfl⟩)
theorem dfull_wf : Rows.dictFullRow.wfByText (OpenSpec.ofChange Rows.dictFullSpec) = true := by kernel_rfl
theorem dfull_goes : false = Rows.dictFullRow.goesBy Tryz.pinned.checked.prog := by kernel_rfl
theorem dfull_said : Rows.DictFullSaid :=
  OpenClaim.holds_of_cond 8 Tryz.f8 rfl rfl rfl rfl rfl rfl rfl ⟨rfl, rfl, rfl, rfl, rfl⟩ rfl rfl rfl rfl rfl dfull_fn Tryz.func8 dfull_closed dfull_inst dfull_wrap
    (fun os started H enc _ F => by rw [OpenClaim.pre_eq_preRow]; exact dfull_lifted os started H enc F)
theorem dfull_plain (f : FuncId) (fn : Func) (hf : Tryz.pinned.checked.prog.funcNamed "abecedary/abecedarylaw14.DictFull" = some f) (hfn : Tryz.pinned.checked.prog.funcs[f]? = some fn) :
    true = Tryz.pinned.checked.prog.looks [] ∧ ∀ (j : Nat) t, fn.params[j]? = some t → Tryz.pinned.checked.prog.wantsStandIn t = false := by
  obtain rfl : f = 8 := Option.some.inj ((show Tryz.prog.funcNamed "abecedary/abecedarylaw14.DictFull" = some 8 from dfull_fn).symm.trans hf) |>.symm
  obtain rfl : fn = Tryz.f8 := (Option.some.inj (Tryz.func8.symm.trans hfn)).symm
  refine ⟨g_looks, fun j t ht => ?_⟩
  rw [Tryz.params8] at ht
  have hm := Array.mem_of_getElem? ht
  simp at hm
  subst hm
  exact (show Tryz.prog.wantsStandIn 3 = false by kernel_rfl)
theorem dfull_holds : Rows.DictFullCardSaid :=
  Claim7.holds_tied_plain_at .later [] _ _ _ _ dfull_said (fun _ h => by cases h) dfull_wf (fun _ h => by cases h) dictFull_row_tie rfl ⟨rfl, rfl⟩ g_main rfl dfull_plain dfull_goes
#print axioms dfull_holds
end Go.Proofs.YtbijfoeaemceiaaGreatDoor
