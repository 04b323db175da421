/- PackBack returns true at every list of pairs, and leaves all memory that was there as it was. Condition: the arguments are of bulk at most 1048576. -/
import Derived.Test.YtcmjohaohdgnjaaDoorCards
import Derived.Test.YtcmjohaohdgnjaaDoorTie
import Derived.Test.YtcmjohaohdgnjaaDoorWBackW
import Derived.Test.YtcmjohaohdgnjaaDoorLaid6
import Derived.Test.YtcmjohaohdgnjaaDoorOpenP
import Derived.Test.YtcmjohaohdgnjaaDoorBulkP
import Derived.Test.YtcmjohaohdgnjaaDoorOwn
import Derived.WalkKit
import Derived.ProofKit
import Derived.OpenShut
import Derived.Deep.DeepHandedRow
import Derived.Lib.LaidTab
namespace Go.Proofs.YtcmjohaohdgnjaaDoor
open Go.RowKit Go.ChangeShapes Go.WideShapes Go.ChangeAt

theorem wback_laid (os : Os) : laidMet Tryd.prog Rows.packBackUptoRow.laid ((laidWorld os).forCall (fun _ _ => 0) ⟨#[], #[.slice none 0 0], []⟩).memory :=
  laidMet_of_run' 8 (by kernel_rfl) (by kernel_rfl)
theorem wback_reads (os : Os) {H : Type} (enc : TypeId × Value → H) : ∃ places, DataW.whole enc Tryd.prog ((laidWorld os).forCall (fun _ _ => 0) ⟨#[], #[.slice none 0 0], []⟩).memory Tryd.f8.params.toList Rows.packBackSpec.vars false (#[.slice none 0 0] : Array Value).toList 8 = some ([.nil], [], places) :=
  ⟨[], by kernel_rfl⟩

set_option maxRecDepth 100000 in
theorem wback_lifted (os : Os) (started : os.Started) (H : Type) (enc : TypeId × Value → H) (F : Stop.Interp) :
    ReturnsInHanded {} Tryd.checked os 8 .any ((Rows.OpenSpec.upto Rows.packBackSpec).preRow enc Tryd.prog Tryd.f8 Rows.packBackUptoRow.domain false Rows.packBackUptoRow.laid) (((Rows.OpenSpec.upto Rows.packBackSpec).at F).post enc Tryd.prog Tryd.f8 false true false false) := by
  obtain ⟨places, hx⟩ := wback_reads os enc
  refine returnsInHanded_of_row (C := Tryd.checked) (s := Rows.OpenSpec.upto Rows.packBackSpec) Tryd.own started (by kernel_rfl) Tryd.func8
    (witness_row_at (enc := enc) (C := Tryd.checked) false (laidWorld os) #[.slice none 0 0] rfl (by kernel_rfl) (by kernel_rfl) (by kernel_rfl)
      (OpenSpec.preRow_of_cond 8 hx (by kernel_rfl) (fun k hk => by cases hk; kernel_rfl) (by kernel_rfl) (wback_laid os))) ?_
  intro W base args ds gs before hval0 hW0 _ hcond hsz hLaid _ _
  have hW : DataW.Whole enc Tryd.prog Tryd.f8.params.toList Rows.packBackSpec.vars false W args.toList ds gs before := hW0
  have hval : ∀ (j : Nat) t v, Tryd.f8.params[j]? = some t → args[j]? = some v → Value.okWide Tryd.prog W .any base t v := hval0
  obtain ⟨p, hA0, rfl⟩ := whole_args (s := Rows.packBackSpec) rfl hW
  have hA : DataW.TrodAll enc Tryd.prog W 0 (fun _ => true) true Tryd.f8.params.toList args.toList ds p := hA0
  rw [Tryd.params8] at hA hval
  obtain ⟨v0, d0, rfl, rfl, h0⟩ := trodAll_one hA
  obtain ⟨s0, rfl, ok0, wf0, hm0, hc0⟩ := open_pairs (hval 0 27 v0 rfl rfl) h0
  have hbulk := of_decide_eq_true (hcond _ rfl)
  simp only [List.append_nil, Rows.uptoBulkAll] at hbulk
  have hw0 := bulk_words ok0 h0
  refine (wback_walk W (lst_of_laid rfl hLaid) s0 ok0 (fun r hr => Nat.le_trans (hw0 r hr) (by omega)) hm0).mono fun e W' ⟨he, bel⟩ => ?_
  subst he
  exact ⟨_, rfl, post_true (s := Rows.packBackSpec) hW rfl (by kernel_rfl) (by kernel_rfl) (tb := 4) (by kernel_rfl) rfl Tryd.laidOut (by kernel_rfl) bel⟩

theorem wback_said : Rows.PackBackUptoSaid :=
  OpenClaim.holds_of_cond 8 Tryd.f8 rfl rfl rfl rfl rfl rfl rfl ⟨rfl, rfl, rfl, rfl, rfl⟩ rfl rfl rfl rfl rfl (by kernel_rfl) Tryd.func8 (by kernel_rfl)
    (of_decide_eq_true (by kernel_rfl)) (by unfold Func.isWrapper; first | (rw [if_pos (by decide +kernel)]; kernel_rfl) | (rw [if_neg (by decide +kernel)]; exact ⟨rfl, rfl⟩))
    (fun os started H enc _ F => by rw [OpenClaim.pre_eq_preRow]; exact wback_lifted os started H enc F)

theorem wback_plain (f : FuncId) (fn : Func) (hf : Tryd.pinned.checked.prog.funcNamed "abecedary/abecedarylaw08.PackBack" = some f) (hfn : Tryd.pinned.checked.prog.funcs[f]? = some fn) :
    false = Tryd.pinned.checked.prog.looks [] ∧ ∀ (j : Nat) t, fn.params[j]? = some t → Tryd.pinned.checked.prog.wantsStandIn t = false := by
  obtain rfl : f = 8 := Option.some.inj ((show Tryd.prog.funcNamed "abecedary/abecedarylaw08.PackBack" = some 8 by kernel_rfl).symm.trans hf) |>.symm
  obtain rfl : fn = Tryd.f8 := (Option.some.inj (Tryd.func8.symm.trans hfn)).symm
  refine ⟨by kernel_rfl, fun j t ht => ?_⟩
  rw [Tryd.params8] at ht
  have hm := Array.mem_of_getElem? ht
  simp at hm
  subst hm
  exact (show Tryd.prog.wantsStandIn 27 = false by kernel_rfl)
theorem wback_holds : Rows.PackBackUptoCardSaid :=
  Claim7.holds_tied_plain_at .later [] _ _ _ _ wback_said (fun _ h => by cases h) (by kernel_rfl) (fun _ h => by cases h) packBackUpto_row_tie rfl ⟨rfl, rfl⟩ (by kernel_rfl) rfl wback_plain (by kernel_rfl)
#print axioms wback_holds
end Go.Proofs.YtcmjohaohdgnjaaDoor
