/- AbecedaryShips returns true at all commands, sizes and queries, and leaves all memory that was there as it was. No condition but the bulk of the arguments. -/
import Derived.Test.YthockgmbooefpaaGreatDoorCards
import Derived.Test.YthockgmbooefpaaGreatDoorTie
import Derived.Test.YthockgmbooefpaaGreatDoorV19
import Derived.WalkKit
import Derived.ProofKit
import Derived.OpenShut
import Derived.Deep.DeepHandedRow
import Derived.Lib.LaidTab
namespace Go.Proofs.YthockgmbooefpaaGreatDoor
open Go.RowKit Go.ChangeShapes Go.WideShapes Go.ChangeAt
theorem La(os : Os) : laidMet Tryz.prog Rows.abecedaryShipsUptoRow.laid ((laidWorld os).forCall (λ_ _ => 0) ⟨#[], #[.slice none 0 0, .slice none 0 0, .agg #[.string ByteArray.empty, .int .i64 0, .int .i64 0]], []⟩).memory :=
  laidMet_of_run' 8 (by kernel_rfl) (by kernel_rfl)
theorem Ja(os : Os){H : Type}(enc : TypeId × Value -> H) : ∃ places, DataW.whole enc Tryz.prog ((laidWorld os).forCall (λ_ _ => 0) ⟨#[], #[.slice none 0 0, .slice none 0 0, .agg #[.string ByteArray.empty, .int .i64 0, .int .i64 0]], []⟩).memory Tryz.f4.params.toList Rows.abecedaryShipsSpec.vars false (#[.slice none 0 0, .slice none 0 0, .agg #[.string ByteArray.empty, .int .i64 0, .int .i64 0]] : Array Value).toList 8 = some ([.nil, .nil, .agg [.lit (.string []), .lit (.int .i64 0), .lit (.int .i64 0)]], [], places) :=
  ⟨[], by kernel_rfl⟩
set_option maxRecDepth 100000 in
theorem Ev(os : Os)(started : os.Started)(H : Type)(enc : TypeId × Value -> H)(F : Stop.Interp) :
    ReturnsInHanded {} Tryz.checked os 4 .any ((Rows.OpenSpec.upto Rows.abecedaryShipsSpec).preRow enc Tryz.prog Tryz.f4 Rows.abecedaryShipsUptoRow.domain false Rows.abecedaryShipsUptoRow.laid) (((Rows.OpenSpec.upto Rows.abecedaryShipsSpec).at F).post enc Tryz.prog Tryz.f4 false true false false) := by
  obtain⟨places, hx⟩ := Ja os enc
  refine returnsInHanded_of_row (C := Tryz.checked) (s := Rows.OpenSpec.upto Rows.abecedaryShipsSpec) Tryz.own started (by kernel_rfl) Tryz.func4
    (witness_row_at (enc := enc) (C := Tryz.checked) false (laidWorld os) #[.slice none 0 0, .slice none 0 0, .agg #[.string ByteArray.empty, .int .i64 0, .int .i64 0]] rfl (by kernel_rfl) (by kernel_rfl) (by kernel_rfl)
      (OpenSpec.preRow_of_cond 8 hx (by kernel_rfl) (λk hk => by cases hk; kernel_rfl) (by kernel_rfl) (La os))) ?_
  intro W base args ds gs before hval0 hW0 _ hcond hsz hLaid _ _
  have hW : DataW.Whole enc Tryz.prog Tryz.f4.params.toList Rows.abecedaryShipsSpec.vars false W args.toList ds gs before := hW0
  have hval : ∀ (j : Nat) t v, Tryz.f4.params[j]? = some t -> args[j]? = some v -> Value.okWide Tryz.prog W .any base t v := hval0
  obtain⟨p, hA0, rfl⟩ := Tm (s := Rows.abecedaryShipsSpec) rfl hW
  have hA : DataW.TrodAll enc Tryz.prog W 0 (λ_ => true) true Tryz.f4.params.toList args.toList ds p := hA0
  rw[Tryz.params4] at hA hval
  obtain⟨v0, v1, v2, d0, d1, d2, p0, p1, p2, rfl, rfl, rfl, h0, h1, h2⟩ := trodAll_three hA
  obtain⟨A0, n0, c0, T0, rfl, ht0, hr0, hm0, hw0, hi0⟩ := Ya (hval 0 22 v0 rfl rfl) h0
  obtain⟨A1, n1, c1, I1, rfl, ht1, hr1, hm1⟩ := Rr (hval 1 49 v1 rfl rfl) h1
  obtain⟨q2, x2, y2, rfl, hq2⟩ := Ru (hval 2 24 v2 rfl rfl) h2
  have hbulk := of_decide_eq_true (hcond _ rfl)
  simp only[List.append_nil, Rows.uptoBulkAll] at hbulk
  refine (Yp (Sm W (Mm rfl hLaid) A0 n0 c0 T0 ht0 hr0 (λo ho => Nat.le_trans (hw0 o ho) (by omega)) hi0 hm0 A1 n1 c1 I1 ht1 hr1 hm1 q2 hq2 x2 y2)).mono λe W' ⟨he, bel⟩ => ?_
  subst he
  exact⟨_, rfl, Yh (s := Rows.abecedaryShipsSpec) hW rfl (by kernel_rfl) (by kernel_rfl) (tb := 4) (by kernel_rfl) rfl Tryz.laidOut (by kernel_rfl) bel⟩
theorem Fu : Tryz.pinned.checked.prog.funcNamed Rows.abecedaryShipsUptoRow.func = some 4 := by kernel_rfl
set_option maxHeartbeats 40000000 in
theorem Eu : joinedFacts Tryz.pinned.checked.prog 4 Tryz.f4 (Rows.OpenSpec.upto Rows.abecedaryShipsSpec).bare Rows.abecedaryShipsUptoRow = true := by
  unfold joinedFacts
  repeat' (with_reducible refine aLi ?_ ?_)
  all_goals as_aux_lemma => kernel_rfl
theorem Kz : Func.isInstance Tryz.pinned.checked.prog Tryz.f4 Rows.abecedaryShipsUptoRow.origin Rows.abecedaryShipsUptoRow.targs := of_decide_eq_true (by kernel_rfl)
theorem Lc : Func.isWrapper Tryz.pinned.checked.prog Tryz.f4 Rows.abecedaryShipsUptoRow.wrapper Rows.abecedaryShipsUptoRow.mainSum := by unfold Func.isWrapper; first | (rw[if_pos (by decide +kernel)]; kernel_rfl) | (rw[if_neg (by decide +kernel)]; exact⟨rfl, rfl⟩)
theorem Vu : Rows.abecedaryShipsUptoRow.wfByText (Rows.OpenSpec.upto Rows.abecedaryShipsSpec) = true := by kernel_rfl
theorem Ky : false = Rows.abecedaryShipsUptoRow.goesBy Tryz.pinned.checked.prog := by kernel_rfl
theorem Lb : Rows.AbecedaryShipsUptoSaid :=
  OpenClaim.holds_of_cond 4 Tryz.f4 rfl rfl rfl rfl rfl rfl rfl ⟨rfl, rfl, rfl, rfl, rfl⟩ rfl rfl rfl rfl rfl Fu Tryz.func4 Eu Kz Lc
    (λos started H enc _ F => by rw[OpenClaim.pre_eq_preRow]; exact Ev os started H enc F)
theorem Iz(f : FuncId)(fn : Func)(hf : Tryz.pinned.checked.prog.funcNamed "abecedary/abecedarytop.AbecedaryShips" = some f)(hfn : Tryz.pinned.checked.prog.funcs[f]? = some fn) :
    true = Tryz.pinned.checked.prog.looks [] /\ ∀ (j : Nat) t, fn.params[j]? = some t -> Tryz.pinned.checked.prog.wantsStandIn t = false := by
  obtain rfl : f = 4 := Option.some.inj ((show Tryz.prog.funcNamed "abecedary/abecedarytop.AbecedaryShips" = some 4 from Fu).symm.trans hf) |>.symm
  obtain rfl : fn = Tryz.f4 := (Option.some.inj (Tryz.func4.symm.trans hfn)).symm
  refine⟨aFz, λj t ht => ?_⟩
  rw[Tryz.params4] at ht
  have hm := Array.mem_of_getElem? ht
  simp at hm
  rcases hm with rfl | rfl | rfl
  · exact (show Tryz.prog.wantsStandIn 22 = false by kernel_rfl)
  · exact (show Tryz.prog.wantsStandIn 49 = false by kernel_rfl)
  · exact (show Tryz.prog.wantsStandIn 24 = false by kernel_rfl)
theorem aships_holds : Rows.AbecedaryShipsUptoCardSaid :=
  Claim7.holds_tied_plain_at .later [] _ _ _ _ Lb (λ_ h => by cases h) Vu (λ_ h => by cases h) abecedaryShipsUpto_row_tie rfl ⟨rfl, rfl⟩ aJa rfl Iz Ky
#print axioms aships_holds
end Go.Proofs.YthockgmbooefpaaGreatDoor
