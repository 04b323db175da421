/- DictApart returns true at all pairs and scripts, and leaves all memory that was there as it was. No condition but the bulk of the arguments. -/
import Derived.Test.YtbijfoeaemceiaaGreatDoorCards
import Derived.Test.YtbijfoeaemceiaaGreatDoorTie
import Derived.Test.YtbijfoeaemceiaaGreatDoorA45
import Derived.Test.YtbijfoeaemceiaaGreatDoorLApa
import Derived.Test.YtbijfoeaemceiaaGreatDoorA28
import Derived.WalkKit
import Derived.ProofKit
import Derived.OpenShut
import Derived.Deep.DeepHandedRow
import Derived.Lib.LaidTab
namespace Go.Proofs.YtbijfoeaemceiaaGreatDoor
open Go.RowKit Go.ChangeShapes Go.WideShapes Go.ChangeAt
theorem dapart_laid (os : Os) : laidMet Tryz.prog Rows.dictApartUptoRow.laid ((laidWorld os).forCall (fun _ _ => 0) ⟨#[], #[.slice none 0 0, .slice none 0 0, .slice none 0 0], []⟩).memory :=
  laidMet_of_run' 8 (by kernel_rfl) (by kernel_rfl)
theorem dapart_reads (os : Os) {H : Type} (enc : TypeId × Value → H) : ∃ places, DataW.whole enc Tryz.prog ((laidWorld os).forCall (fun _ _ => 0) ⟨#[], #[.slice none 0 0, .slice none 0 0, .slice none 0 0], []⟩).memory Tryz.f11.params.toList Rows.dictApartSpec.vars false (#[.slice none 0 0, .slice none 0 0, .slice none 0 0] : Array Value).toList 8 = some ([.nil, .nil, .nil], [], places) :=
  ⟨[], by kernel_rfl⟩
set_option maxRecDepth 100000 in
theorem dapart_lifted (os : Os) (started : os.Started) (H : Type) (enc : TypeId × Value → H) (F : Stop.Interp) :
    ReturnsInHanded {} Tryz.checked os 11 .any ((Rows.OpenSpec.upto Rows.dictApartSpec).preRow enc Tryz.prog Tryz.f11 Rows.dictApartUptoRow.domain false Rows.dictApartUptoRow.laid) (((Rows.OpenSpec.upto Rows.dictApartSpec).at F).post enc Tryz.prog Tryz.f11 false true false false) := by
  obtain ⟨places, hx⟩ := dapart_reads os enc
  refine returnsInHanded_of_row (C := Tryz.checked) (s := Rows.OpenSpec.upto Rows.dictApartSpec) Tryz.own started (by kernel_rfl) Tryz.func11
    (witness_row_at (enc := enc) (C := Tryz.checked) false (laidWorld os) #[.slice none 0 0, .slice none 0 0, .slice none 0 0] rfl (by kernel_rfl) (by kernel_rfl) (by kernel_rfl)
      (OpenSpec.preRow_of_cond 8 hx (by kernel_rfl) (fun k hk => by cases hk; kernel_rfl) (by kernel_rfl) (dapart_laid os))) ?_
  intro W base args ds gs before hval0 hW0 _ hcond hsz hLaid _ _
  have hW : DataW.Whole enc Tryz.prog Tryz.f11.params.toList Rows.dictApartSpec.vars false W args.toList ds gs before := hW0
  have hval : ∀ (j : Nat) t v, Tryz.f11.params[j]? = some t → args[j]? = some v → Value.okWide Tryz.prog W .any base t v := hval0
  obtain ⟨p, hA0, rfl⟩ := whole_args (s := Rows.dictApartSpec) rfl hW
  have hA : DataW.TrodAll enc Tryz.prog W 0 (fun _ => true) true Tryz.f11.params.toList args.toList ds p := hA0
  rw [Tryz.params11] at hA hval
  obtain ⟨v0, v1, v2, d0, d1, d2, p0, p1, p2, rfl, rfl, rfl, h0, h1, h2⟩ := trodAll_three hA
  obtain ⟨s0, rfl, ok0, wf0, hm0, hc0⟩ := open_pairs (hval 0 22 v0 rfl rfl) h0
  obtain ⟨A1, n1, c1, T1, rfl, ht1, hr1, hm1, hw1⟩ := open_script (hval 1 36 v1 rfl rfl) h1
  obtain ⟨A2, n2, c2, T2, rfl, ht2, hr2, hm2, hw2⟩ := open_script (hval 2 36 v2 rfl rfl) h2
  have hbulk := of_decide_eq_true (hcond _ rfl)
  simp only [List.append_nil, Rows.uptoBulkAll] at hbulk
  have hb0 := bulk_words ok0 h0
  have hbs0 := bulk_slice h0
  refine (dapart_walk W (lst_of_laid rfl hLaid) s0 ok0 (fun r hr => Nat.le_trans (hb0 r hr) (by omega)) hm0 A1 n1 c1 T1 ht1 hr1 (fun o ho => Nat.le_trans (hw1 o ho) (by omega)) hm1 A2 n2 c2 T2 ht2 hr2 (fun o ho => Nat.le_trans (hw2 o ho) (by omega)) hm2).mono fun e W' ⟨he, bel⟩ => ?_
  subst he
  exact ⟨_, rfl, post_true (s := Rows.dictApartSpec) hW rfl (by kernel_rfl) (by kernel_rfl) (tb := 4) (by kernel_rfl) rfl Tryz.laidOut (by kernel_rfl) bel⟩
theorem dapart_fn : Tryz.pinned.checked.prog.funcNamed Rows.dictApartUptoRow.func = some 11 := by kernel_rfl
set_option maxHeartbeats 40000000 in
theorem dapart_closed : joinedFacts Tryz.pinned.checked.prog 11 Tryz.f11 (Rows.OpenSpec.upto Rows.dictApartSpec).bare Rows.dictApartUptoRow = true := by
  unfold joinedFacts
  repeat' (with_reducible refine and2 ?_ ?_)
  all_goals as_aux_lemma => kernel_rfl
theorem dapart_inst : Func.isInstance Tryz.pinned.checked.prog Tryz.f11 Rows.dictApartUptoRow.origin Rows.dictApartUptoRow.targs := of_decide_eq_true (by kernel_rfl)
theorem dapart_wrap : Func.isWrapper Tryz.pinned.checked.prog Tryz.f11 Rows.dictApartUptoRow.wrapper Rows.dictApartUptoRow.mainSum := by unfold Func.isWrapper; first | (rw [if_pos (by decide +kernel)]; kernel_rfl) | (rw [if_neg (by decide +kernel)]; exact ⟨rfl, rfl⟩)
theorem dapart_wf : Rows.dictApartUptoRow.wfByText (Rows.OpenSpec.upto Rows.dictApartSpec) = true := by kernel_rfl
theorem dapart_goes : false = Rows.dictApartUptoRow.goesBy Tryz.pinned.checked.prog := by kernel_rfl
theorem dapart_said : Rows.DictApartUptoSaid :=
  OpenClaim.holds_of_cond 11 Tryz.f11 rfl rfl rfl rfl rfl rfl rfl ⟨rfl, rfl, rfl, rfl, rfl⟩ rfl rfl rfl rfl rfl dapart_fn Tryz.func11 dapart_closed dapart_inst dapart_wrap
    (fun os started H enc _ F => by rw [OpenClaim.pre_eq_preRow]; exact dapart_lifted os started H enc F)
theorem dapart_plain (f : FuncId) (fn : Func) (hf : Tryz.pinned.checked.prog.funcNamed "abecedary/abecedarylaw14.DictApart" = some f) (hfn : Tryz.pinned.checked.prog.funcs[f]? = some fn) :
    true = Tryz.pinned.checked.prog.looks [] ∧ ∀ (j : Nat) t, fn.params[j]? = some t → Tryz.pinned.checked.prog.wantsStandIn t = false := by
  obtain rfl : f = 11 := Option.some.inj ((show Tryz.prog.funcNamed "abecedary/abecedarylaw14.DictApart" = some 11 from dapart_fn).symm.trans hf) |>.symm
  obtain rfl : fn = Tryz.f11 := (Option.some.inj (Tryz.func11.symm.trans hfn)).symm
  refine ⟨g_looks, fun j t ht => ?_⟩
  rw [Tryz.params11] at ht
  have hm := Array.mem_of_getElem? ht
  simp at hm
  rcases hm with rfl | rfl
  · exact (show Tryz.prog.wantsStandIn 22 = false by kernel_rfl)
  · exact (show Tryz.prog.wantsStandIn 36 = false by kernel_rfl)
theorem dapart_holds : Rows.DictApartUptoCardSaid :=
  Claim7.holds_tied_plain_at .later [] _ _ _ _ dapart_said (fun _ h => by cases h) dapart_wf (fun _ h => by cases h) dictApartUpto_row_tie rfl ⟨rfl, rfl⟩ g_main rfl dapart_plain dapart_goes
#print axioms dapart_holds
end Go.Proofs.YtbijfoeaemceiaaGreatDoor
