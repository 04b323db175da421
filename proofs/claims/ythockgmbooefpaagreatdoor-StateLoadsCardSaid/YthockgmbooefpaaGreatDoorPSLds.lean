/- StateLoads returns true at any bytes, and leaves all memory that was there as it was. No condition. -/
import Derived.Test.YthockgmbooefpaaGreatDoorCards
import Derived.Test.YthockgmbooefpaaGreatDoorTie
import Derived.Test.YthockgmbooefpaaGreatDoorM19
import Derived.WalkKit
import Derived.ProofKit
import Derived.OpenShut
import Derived.Deep.DeepHandedRow
import Derived.Lib.LaidTab
namespace Go.Proofs.YthockgmbooefpaaGreatDoor
open Go.RowKit Go.ChangeShapes Go.WideShapes Go.ChangeAt
theorem Jm(os : Os) : laidMet Tryz.prog Rows.stateLoadsRow.laid ((laidWorld os).forCall (λ_ _ => 0) ⟨#[], #[.slice none 0 0], []⟩).memory :=
  laidMet_of_run' 8 (by kernel_rfl) (by kernel_rfl)
theorem Fp(os : Os){H : Type}(enc : TypeId × Value -> H) : ∃ places, DataW.whole enc Tryz.prog ((laidWorld os).forCall (λ_ _ => 0) ⟨#[], #[.slice none 0 0], []⟩).memory Tryz.f6.params.toList Rows.stateLoadsSpec.vars false (#[.slice none 0 0] : Array Value).toList 8 = some ([.nil], [], places) :=
  ⟨[], by kernel_rfl⟩
set_option maxRecDepth 100000 in
theorem Bh(os : Os)(started : os.Started)(H : Type)(enc : TypeId × Value -> H)(F : Stop.Interp) :
    ReturnsInHanded {} Tryz.checked os 6 .any ((OpenSpec.ofChange Rows.stateLoadsSpec).preRow enc Tryz.prog Tryz.f6 Rows.stateLoadsRow.domain false Rows.stateLoadsRow.laid) (((OpenSpec.ofChange Rows.stateLoadsSpec).at F).post enc Tryz.prog Tryz.f6 false true false false) := by
  obtain⟨places, hx⟩ := Fp os enc
  refine returnsInHanded_of_row (C := Tryz.checked) (s := OpenSpec.ofChange Rows.stateLoadsSpec) Tryz.own started (by kernel_rfl) Tryz.func6
    (witness_row_at (enc := enc) (C := Tryz.checked) false (laidWorld os) #[.slice none 0 0] rfl (by kernel_rfl) (by kernel_rfl) (by kernel_rfl)
      (OpenSpec.preRow_of_cond 8 hx (by kernel_rfl) (λk hk => by cases hk) (by kernel_rfl) (Jm os))) ?_
  intro W base args ds gs before hval0 hW0 _ hcond hsz hLaid _ _
  have hW : DataW.Whole enc Tryz.prog Tryz.f6.params.toList Rows.stateLoadsSpec.vars false W args.toList ds gs before := hW0
  have hval : ∀ (j : Nat) t v, Tryz.f6.params[j]? = some t -> args[j]? = some v -> Value.okWide Tryz.prog W .any base t v := hval0
  obtain⟨p, hA0, rfl⟩ := Nl (s := Rows.stateLoadsSpec) rfl hW
  have hA : DataW.TrodAll enc Tryz.prog W 0 (λ_ => true) true Tryz.f6.params.toList args.toList ds p := hA0
  rw[Tryz.params6] at hA hval
  obtain⟨v0, d0, rfl, rfl, h0⟩ := trodAll_one hA
  obtain⟨A0, n0, c0, bs0, rfl, hr0, hl0, hnc0, hcm0, hA0⟩ := Ig (hval 0 50 v0 rfl rfl) h0
  refine (Sj (Jo W (Hv rfl hLaid) A0 n0 c0 bs0 hr0 hl0 hnc0 hcm0 hA0)).mono λe W' ⟨he, bel⟩ => ?_
  subst he
  exact⟨_, rfl, Sb (s := Rows.stateLoadsSpec) hW rfl (by kernel_rfl) (by kernel_rfl) (tb := 4) (by kernel_rfl) rfl Tryz.laidOut (by kernel_rfl) bel⟩
theorem Dp : Tryz.pinned.checked.prog.funcNamed Rows.stateLoadsRow.func = some 6 := by kernel_rfl
set_option maxHeartbeats 40000000 in
theorem Bg : joinedFacts Tryz.pinned.checked.prog 6 Tryz.f6 (OpenSpec.ofChange Rows.stateLoadsSpec).bare Rows.stateLoadsRow = true := by
  unfold joinedFacts
  repeat' (with_reducible refine aHa ?_ ?_)
  all_goals as_aux_lemma => kernel_rfl
theorem Jl : Func.isInstance Tryz.pinned.checked.prog Tryz.f6 Rows.stateLoadsRow.origin Rows.stateLoadsRow.targs := of_decide_eq_true (by kernel_rfl)
theorem Jp : Func.isWrapper Tryz.pinned.checked.prog Tryz.f6 Rows.stateLoadsRow.wrapper Rows.stateLoadsRow.mainSum := by unfold Func.isWrapper; first | (rw[if_pos (by decide +kernel)]; kernel_rfl) | (rw[if_neg (by decide +kernel)]; exact⟨rfl, rfl⟩)
theorem Sw : Rows.stateLoadsRow.wfByText (OpenSpec.ofChange Rows.stateLoadsSpec) = true := by kernel_rfl
theorem Jk : false = Rows.stateLoadsRow.goesBy Tryz.pinned.checked.prog := by kernel_rfl
theorem Jn : Rows.StateLoadsSaid :=
  OpenClaim.holds_of_cond 6 Tryz.f6 rfl rfl rfl rfl rfl rfl rfl ⟨rfl, rfl, rfl, rfl, rfl⟩ rfl rfl rfl rfl rfl Dp Tryz.func6 Bg Jl Jp
    (λos started H enc _ F => by rw[OpenClaim.pre_eq_preRow]; exact Bh os started H enc F)
theorem Fo(f : FuncId)(fn : Func)(hf : Tryz.pinned.checked.prog.funcNamed "abecedary/abecedarylaw16.StateLoads" = some f)(hfn : Tryz.pinned.checked.prog.funcs[f]? = some fn) :
    true = Tryz.pinned.checked.prog.looks [] /\ ∀ (j : Nat) t, fn.params[j]? = some t -> Tryz.pinned.checked.prog.wantsStandIn t = false := by
  obtain rfl : f = 6 := Option.some.inj ((show Tryz.prog.funcNamed "abecedary/abecedarylaw16.StateLoads" = some 6 from Dp).symm.trans hf) |>.symm
  obtain rfl : fn = Tryz.f6 := (Option.some.inj (Tryz.func6.symm.trans hfn)).symm
  refine⟨aAc, λj t ht => ?_⟩
  rw[Tryz.params6] at ht
  have hm := Array.mem_of_getElem? ht
  simp at hm
  subst hm
  exact (show Tryz.prog.wantsStandIn 50 = false by kernel_rfl)
theorem sloads_holds : Rows.StateLoadsCardSaid :=
  Claim7.holds_tied_plain_at .later [] _ _ _ _ Jn (λ_ h => by cases h) Sw (λ_ h => by cases h) stateLoads_row_tie rfl ⟨rfl, rfl⟩ aDn rfl Fo Jk
#print axioms sloads_holds
end Go.Proofs.YthockgmbooefpaaGreatDoor
