/- PairsNorm returns true at every list of pairs, and leaves all memory that was there as it was. No condition. -/
import Derived.Test.YtdjlcgldplndiaaDoorCards
import Derived.Test.YtdjlcgldplndiaaDoorTie
import Derived.Test.YtdjlcgldplndiaaDoorMergesW
import Derived.Test.YtdjlcgldplndiaaDoorOpenP
import Derived.Test.YtdjlcgldplndiaaDoorOwn
import Derived.WalkKit
import Derived.ProofKit
import Derived.OpenShut
import Derived.Deep.DeepHandedRow
import Derived.Lib.LaidTab
namespace Go.Proofs.YtdjlcgldplndiaaDoor
open Go.RowKit Go.ChangeShapes Go.WideShapes Go.ChangeAt

theorem norm_laid (os : Os) : laidMet Tryd.prog Rows.pairsNormRow.laid ((laidWorld os).forCall (fun _ _ => 0) ⟨#[], #[.slice none 0 0], []⟩).memory :=
  laidMet_of_run' 8 (by kernel_rfl) (by kernel_rfl)
theorem norm_reads (os : Os) {H : Type} (enc : TypeId × Value → H) : ∃ places, DataW.whole enc Tryd.prog ((laidWorld os).forCall (fun _ _ => 0) ⟨#[], #[.slice none 0 0], []⟩).memory Tryd.f7.params.toList Rows.pairsNormSpec.vars false (#[.slice none 0 0] : Array Value).toList 8 = some ([.nil], [], places) :=
  ⟨[], by kernel_rfl⟩

set_option maxRecDepth 100000 in
theorem norm_lifted (os : Os) (started : os.Started) (H : Type) (enc : TypeId × Value → H) (F : Stop.Interp) :
    ReturnsInHanded {} Tryd.checked os 7 .any ((OpenSpec.ofChange Rows.pairsNormSpec).preRow enc Tryd.prog Tryd.f7 Rows.pairsNormRow.domain false Rows.pairsNormRow.laid) (((OpenSpec.ofChange Rows.pairsNormSpec).at F).post enc Tryd.prog Tryd.f7 false true false false) := by
  obtain ⟨places, hx⟩ := norm_reads os enc
  refine returnsInHanded_of_row (C := Tryd.checked) (s := OpenSpec.ofChange Rows.pairsNormSpec) Tryd.own started (by kernel_rfl) Tryd.func7
    (witness_row_at (enc := enc) (C := Tryd.checked) false (laidWorld os) #[.slice none 0 0] rfl (by kernel_rfl) (by kernel_rfl) (by kernel_rfl)
      (OpenSpec.preRow_of_cond 8 hx (by kernel_rfl) (fun k hk => by cases hk) (by kernel_rfl) (norm_laid os))) ?_
  intro W base args ds gs before hval0 hW0 _ hcond hsz _ _ _
  have hW : DataW.Whole enc Tryd.prog Tryd.f7.params.toList Rows.pairsNormSpec.vars false W args.toList ds gs before := hW0
  have hval : ∀ (j : Nat) t v, Tryd.f7.params[j]? = some t → args[j]? = some v → Value.okWide Tryd.prog W .any base t v := hval0
  obtain ⟨p, hA0, rfl⟩ := whole_args (s := Rows.pairsNormSpec) rfl hW
  have hA : DataW.TrodAll enc Tryd.prog W 0 (fun _ => true) true Tryd.f7.params.toList args.toList ds p := hA0
  rw [Tryd.params7] at hA hval
  obtain ⟨v0, d0, rfl, rfl, h0⟩ := trodAll_one hA
  obtain ⟨s0, rfl, ok0, wf0, hm0, hc0⟩ := open_pairs (hval 0 22 v0 rfl rfl) h0
  have hz0 := sized_pairs (j := 0) hsz rfl rfl h0
  refine (norm_walk W s0 ok0 hz0 wf0).mono fun e W' ⟨he, bel⟩ => ?_
  subst he
  exact ⟨_, rfl, post_true (s := Rows.pairsNormSpec) hW rfl (by kernel_rfl) (by kernel_rfl) (tb := 4) (by kernel_rfl) rfl Tryd.laidOut (by kernel_rfl) bel⟩

theorem norm_said : Rows.PairsNormSaid :=
  OpenClaim.holds_of_cond 7 Tryd.f7 rfl rfl rfl rfl rfl rfl rfl ⟨rfl, rfl, rfl, rfl, rfl⟩ rfl rfl rfl rfl rfl (by kernel_rfl) Tryd.func7 (by kernel_rfl)
    (of_decide_eq_true (by kernel_rfl)) (by unfold Func.isWrapper; first | (rw [if_pos (by decide +kernel)]; kernel_rfl) | (rw [if_neg (by decide +kernel)]; exact ⟨rfl, rfl⟩))
    (fun os started H enc _ F => by rw [OpenClaim.pre_eq_preRow]; exact norm_lifted os started H enc F)

theorem norm_plain (f : FuncId) (fn : Func) (hf : Tryd.pinned.checked.prog.funcNamed "abecedary/abecedarylaw06.PairsNorm" = some f) (hfn : Tryd.pinned.checked.prog.funcs[f]? = some fn) :
    false = Tryd.pinned.checked.prog.looks [] ∧ ∀ (j : Nat) t, fn.params[j]? = some t → Tryd.pinned.checked.prog.wantsStandIn t = false := by
  obtain rfl : f = 7 := Option.some.inj ((show Tryd.prog.funcNamed "abecedary/abecedarylaw06.PairsNorm" = some 7 by kernel_rfl).symm.trans hf) |>.symm
  obtain rfl : fn = Tryd.f7 := (Option.some.inj (Tryd.func7.symm.trans hfn)).symm
  refine ⟨by kernel_rfl, fun j t ht => ?_⟩
  rw [Tryd.params7] at ht
  have hm := Array.mem_of_getElem? ht
  simp at hm
  subst hm
  exact (show Tryd.prog.wantsStandIn 22 = false by kernel_rfl)
theorem norm_holds : Rows.PairsNormCardSaid :=
  Claim7.holds_tied_plain_at .later [] _ _ _ _ norm_said (fun _ h => by cases h) (by kernel_rfl) (fun _ h => by cases h) pairsNorm_row_tie rfl ⟨rfl, rfl⟩ (by kernel_rfl) rfl norm_plain (by kernel_rfl)
#print axioms norm_holds
end Go.Proofs.YtdjlcgldplndiaaDoor
