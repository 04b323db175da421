/- WalkBegins returns true at every machine, and leaves all memory that was there as it was. No condition. -/
import Derived.Test.YtnakpadjlamdeaaDoorCards
import Derived.Test.YtnakpadjlamdeaaDoorTie
import Derived.Test.YtnakpadjlamdeaaDoorWBegW
import Derived.Test.YtnakpadjlamdeaaDoorLaid6
import Derived.Test.YtnakpadjlamdeaaDoorOpenZ
import Derived.Test.YtnakpadjlamdeaaDoorOwn
import Derived.WalkKit
import Derived.ProofKit
import Derived.OpenShut
import Derived.Deep.DeepHandedRow
import Derived.Lib.LaidTab
namespace Go.Proofs.YtnakpadjlamdeaaDoor
open Go.RowKit Go.ChangeShapes Go.WideShapes Go.ChangeAt

theorem wbegins_laid (os : Os) : laidMet Tryd.prog Rows.walkBeginsRow.laid ((laidWorld os).forCall (fun _ _ => 0) ⟨#[], #[.agg #[.int .i64 0, .slice none 0 0]], []⟩).memory :=
  laidMet_of_run' 8 (by kernel_rfl) (by kernel_rfl)
theorem wbegins_reads (os : Os) {H : Type} (enc : TypeId × Value → H) : ∃ places, DataW.whole enc Tryd.prog ((laidWorld os).forCall (fun _ _ => 0) ⟨#[], #[.agg #[.int .i64 0, .slice none 0 0]], []⟩).memory Tryd.f7.params.toList Rows.walkBeginsSpec.vars false (#[.agg #[.int .i64 0, .slice none 0 0]] : Array Value).toList 8 = some ([.agg [.lit (.int .i64 0), .nil]], [], places) :=
  ⟨[], by kernel_rfl⟩

set_option maxRecDepth 100000 in
theorem wbegins_lifted (os : Os) (started : os.Started) (H : Type) (enc : TypeId × Value → H) (F : Stop.Interp) :
    ReturnsInHanded {} Tryd.checked os 7 .any ((OpenSpec.ofChange Rows.walkBeginsSpec).preRow enc Tryd.prog Tryd.f7 Rows.walkBeginsRow.domain false Rows.walkBeginsRow.laid) (((OpenSpec.ofChange Rows.walkBeginsSpec).at F).post enc Tryd.prog Tryd.f7 false true false false) := by
  obtain ⟨places, hx⟩ := wbegins_reads os enc
  refine returnsInHanded_of_row (C := Tryd.checked) (s := OpenSpec.ofChange Rows.walkBeginsSpec) Tryd.own started (by kernel_rfl) Tryd.func7
    (witness_row_at (enc := enc) (C := Tryd.checked) false (laidWorld os) #[.agg #[.int .i64 0, .slice none 0 0]] rfl (by kernel_rfl) (by kernel_rfl) (by kernel_rfl)
      (OpenSpec.preRow_of_cond 8 hx (by kernel_rfl) (fun k hk => by cases hk) (by kernel_rfl) (wbegins_laid os))) ?_
  intro W base args ds gs before hval0 hW0 _ hcond hsz hLaid _ _
  have hW : DataW.Whole enc Tryd.prog Tryd.f7.params.toList Rows.walkBeginsSpec.vars false W args.toList ds gs before := hW0
  have hval : ∀ (j : Nat) t v, Tryd.f7.params[j]? = some t → args[j]? = some v → Value.okWide Tryd.prog W .any base t v := hval0
  obtain ⟨p, hA0, rfl⟩ := whole_args (s := Rows.walkBeginsSpec) rfl hW
  have hA : DataW.TrodAll enc Tryd.prog W 0 (fun _ => true) true Tryd.f7.params.toList args.toList ds p := hA0
  rw [Tryd.params7] at hA hval
  obtain ⟨v0, d0, rfl, rfl, h0⟩ := trodAll_one hA
  obtain ⟨I, hI⟩ : ∃ I : Inhabited BaseT, @bs I = W.heap.size := ⟨⟨⟨W.heap.size⟩⟩, rfl⟩
  obtain ⟨bn0, A0, n0, c0, Z0, rfl, hst0, hnm0, hnc0, hlab0⟩ := open_machine (Nat.le_of_eq hI.symm) (hval 0 40 v0 rfl rfl) h0
  refine (wbegins_walk W (lst_of_laid rfl hLaid) bn0 A0 n0 c0 Z0 hst0 hnm0 hlab0 (Nat.le_of_eq hI)).mono fun e W' ⟨he, bel⟩ => ?_
  subst he
  exact ⟨_, rfl, post_true (s := Rows.walkBeginsSpec) hW rfl (by kernel_rfl) (by kernel_rfl) (tb := 4) (by kernel_rfl) rfl Tryd.laidOut (by kernel_rfl) bel⟩

theorem wbegins_said : Rows.WalkBeginsSaid :=
  OpenClaim.holds_of_cond 7 Tryd.f7 rfl rfl rfl rfl rfl rfl rfl ⟨rfl, rfl, rfl, rfl, rfl⟩ rfl rfl rfl rfl rfl (by kernel_rfl) Tryd.func7 (by kernel_rfl)
    (of_decide_eq_true (by kernel_rfl)) (by unfold Func.isWrapper; first | (rw [if_pos (by decide +kernel)]; kernel_rfl) | (rw [if_neg (by decide +kernel)]; exact ⟨rfl, rfl⟩))
    (fun os started H enc _ F => by rw [OpenClaim.pre_eq_preRow]; exact wbegins_lifted os started H enc F)

theorem wbegins_plain (f : FuncId) (fn : Func) (hf : Tryd.pinned.checked.prog.funcNamed "abecedary/abecedarylaw09.WalkBegins" = some f) (hfn : Tryd.pinned.checked.prog.funcs[f]? = some fn) :
    false = Tryd.pinned.checked.prog.looks [] ∧ ∀ (j : Nat) t, fn.params[j]? = some t → Tryd.pinned.checked.prog.wantsStandIn t = false := by
  obtain rfl : f = 7 := Option.some.inj ((show Tryd.prog.funcNamed "abecedary/abecedarylaw09.WalkBegins" = some 7 by kernel_rfl).symm.trans hf) |>.symm
  obtain rfl : fn = Tryd.f7 := (Option.some.inj (Tryd.func7.symm.trans hfn)).symm
  refine ⟨by kernel_rfl, fun j t ht => ?_⟩
  rw [Tryd.params7] at ht
  have hm := Array.mem_of_getElem? ht
  simp at hm
  subst hm
  exact (show Tryd.prog.wantsStandIn 40 = false by kernel_rfl)
theorem wbegins_holds : Rows.WalkBeginsCardSaid :=
  Claim7.holds_tied_plain_at .later [] _ _ _ _ wbegins_said (fun _ h => by cases h) (by kernel_rfl) (fun _ h => by cases h) walkBegins_row_tie rfl ⟨rfl, rfl⟩ (by kernel_rfl) rfl wbegins_plain (by kernel_rfl)
#print axioms wbegins_holds
end Go.Proofs.YtnakpadjlamdeaaDoor
