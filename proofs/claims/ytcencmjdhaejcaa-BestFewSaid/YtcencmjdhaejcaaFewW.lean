/- BestFew: the walk. -/
import Derived.Test.YtcencmjdhaejcaaSelW
import Derived.Deep.CutRange
namespace Go.Proofs.Ytcencmjdhaejcaa
open Go.RowKit

theorem few_count (L : List MRow) (k r : Nat) (h : (bestL L k).length = r + 1) : L.countP (fun x => better x ((bestL L k).getD r MRow.zero)) ≤ r := by
  obtain ⟨z, hz⟩ : ∃ z, z = (bestL L k).getD r MRow.zero := ⟨_, rfl⟩
  rw [← hz]
  have e1 : L.countP (fun x => better x z) = (sortL L).countP (fun x => better x z) := ((sortL_both L).2.countP_eq _).symm
  have e2 : sortL L = bestL L k ++ (sortL L).drop k := (List.take_append_drop k (sortL L)).symm
  have hs := (sortL_both L).1
  rw [e2] at hs
  have hs' := (List.pairwise_append.1 hs).2.2
  have hzm : z ∈ bestL L k := by rw [hz]; exact getD_mem _ _ (by omega)
  have e3 : ((sortL L).drop k).countP (fun x => better x z) = 0 := by
    rw [List.countP_eq_zero]
    intro x hx
    have := hs' z hzm x hx
    unfold wle at this
    simp [this]
  have e4 : (bestL L k).countP (fun x => better x z) ≤ r := by
    have e := drop_last (bestL L k) r h
    rw [← hz] at e
    rw [e, List.countP_append]
    have c1 : ((bestL L k).take r).countP (fun x => better x z) ≤ ((bestL L k).take r).length := List.countP_le_length
    have c2 : [z].countP (fun x => better x z) = 0 := by simp [better_irrefl]
    rw [List.length_take] at c1
    omega
  rw [e1, e2, List.countP_append, e3]
  exact e4

theorem few_le (L : List MRow) (z : MRow) (k : Nat) : (L.take k).countP (fun x => better x z) ≤ k := by
  have : (L.take k).countP (fun x => better x z) ≤ (L.take k).length := List.countP_le_length
  rw [List.length_take] at this
  omega

theorem few_step (L : List MRow) (z : MRow) (k : Nat) (hk : k < L.length) : (L.take (k + 1)).countP (fun x => better x z) = (L.take k).countP (fun x => better x z) + (if better (L.getD k MRow.zero) z = true then 1 else 0) := by
  rw [take_snoc L k hk, List.countP_append]
  simp [List.countP_cons]

set_option maxRecDepth 100000 in
set_option maxHeartbeats 1000000 in
theorem few_walk (W : World) (A : Option Addr) (n c : Nat) (L : List MRow) (hL : L.length = n) (hR : Reads W 3 A n (mCells L)) (hn : n ≤ maxLen) (hW : ∀ r ∈ L, r.Wf) (kk : Int) :
    Calls Try.prog 7 #[.slice A n c, .int .i64 kk] W fun e W' => e = .returned (.bool true) ∧ Below W.heap.size W W' := by
  have HR := hide hR
  have HL := hide hL
  have HN := hide hn
  have HW := hide hW
  obtain ⟨q, hq⟩ : ∃ q, q = mostN kk := ⟨_, rfl⟩
  obtain ⟨S, hS⟩ : ∃ S, S = bestL L q := ⟨_, rfl⟩
  obtain ⟨m, hm⟩ : ∃ m, m = S.length := ⟨_, rfl⟩
  have hq64 : q ≤ 64 := by rw [hq]; exact mostN_le kk
  have hmq : m = min q n := by rw [hm, hS, bestL_len, hL]
  have HQ := hide hq
  have HS := hide hS
  have HM := hide hm
  have HMQ := hide hmq
  clear hR hL hW hS hm hmq hq
  unfold maxLen at hn
  go_enter Try.func7, Try.ntmps7
  go_wp2_with fail
  refine (select_any W A n c L HL.out HR.out HN.out kk).mono ?_
  rw [← HQ.out, ← HS.out, ← HM.out]
  rintro e w1 ⟨g, m', hm', rfl, hg, O1, T1⟩
  obtain rfl := hm'.symm
  clear hm'
  have H1 := hide T1
  have HO := hide O1
  clear T1 O1
  go_upto_region 2 with fail
  go_cut [6] from 14 to 16 (fun s w => s = .int .i64 (q : Int) ∧ w = w1)
  case first =>
    go_wp2
    all_goals go_meet
    all_goals refine ⟨?_, rfl⟩
    all_goals (congr 1; rw [HQ.out, mostN_int]; omega)
  case rest =>
    obtain ⟨rfl, hcw⟩ := hcut; obtain rfl := hcw.symm; clear hcw
    go_upto_region 3 with fail
    go_cut [23] from 17 to 23 (fun s w => s = .bool false ∧ w = w1)
    case first =>
      go_wp2
      all_goals go_meet
      all_goals refine ⟨?_, rfl⟩
      all_goals (have := HMQ.out; congr 1; simp; omega)
    case rest =>
      obtain ⟨rfl, hcw⟩ := hcut; obtain rfl := hcw.symm; clear hcw
      by_cases h0 : m = 0
      · have h1 : ((m : Int) == 0) = true := by simp [h0]
        clear h0
        go_wp2_with fail
        refine (alive_any _).mono ?_
        rintro e w2 ⟨rfl, T2⟩
        have H2 := hide (H1.out.then T2)
        clear T2
        go_wp2
        go_ret
        exact ⟨rfl, H2.out.below (Nat.le_refl _) (fun _ _ f => f)⟩
      · have h1 : ((m : Int) == 0) = false := by simp [h0]
        obtain ⟨r, hr⟩ : ∃ r, m = r + 1 := ⟨m - 1, by omega⟩
        have n0 : (m : Int) - 1 = (r : Int) := by omega
        have n1 : r < m := by omega
        have n2 : (r : Int) < (m : Int) := by omega
        have n3 : m ≤ 64 := by have := HMQ.out; omega
        obtain ⟨g', hA, hg', a0, a1, a2, _, _, _⟩ := own_at HO.out HM.out r n1
        injection hA with hA
        injection hA with hA _
        subst hA
        obtain ⟨⟨zw, zn, zd⟩, hz⟩ : ∃ x, x = S.getD r MRow.zero := ⟨_, rfl⟩
        rw [← hz] at a0 a1 a2
        simp only at a0 a1 a2
        have hb := Blk.new w1 23 #[.string zw, .int .i64 zn, .int .i64 zd]
        have hcnt := few_count L q r (by rw [← HS.out, ← HM.out]; exact hr)
        rw [← HS.out, ← hz] at hcnt
        have hzw : MRow.Wf ⟨zw, zn, zd⟩ := by
          rw [hz]
          refine HW.out _ ((sortL_both L).2.mem_iff.1 ?_)
          have := getD_mem S r (by rw [← HM.out]; exact n1)
          rw [HS.out] at this ⊢
          exact List.mem_of_mem_take this
        have HB := hide hb
        have HZ := hide hz
        have HCN := hide hcnt
        have HZW := hide hzw
        have HRR := hide hr
        have hp : ∃ p, p = w1.heap.size := ⟨_, rfl⟩
        obtain ⟨p, hp⟩ := hp
        rw [← hp] at HB
        have HP := hide hp
        clear hb hz hcnt hzw h0 hr
        go_wp2_with fail
        rw [← hp]
        clear hp
        go_loopw [7, 36] (fun a i wr => ∃ k : Nat, k ≤ n ∧ i = .int .i64 k ∧ a = .int .i64 ((L.take k).countP (fun x => better x ⟨zw, zn, zd⟩) : Nat) ∧ Hid (Blk wr p 23 #[.string zw, .int .i64 zn, .int .i64 zd]) ∧ Hid (Touch (fun _ => False) W wr)) (fun _ i _ => n - (intOf i).toNat)
        case atStart => exact ⟨0, Nat.zero_le _, rfl, by simp, HB, hide (H1.out.alloc _)⟩
        case round =>
          obtain ⟨k, hk, rfl, rfl, HBr, HT⟩ := hrel
          have hcle := few_le L ⟨zw, zn, zd⟩ k
          obtain ⟨b0, b1, b2⟩ : wr.cell? ⟨p, 0, none⟩ = some (.string zw) ∧ wr.cell? ⟨p, 1, none⟩ = some (.int .i64 zn) ∧ wr.cell? ⟨p, 2, none⟩ = some (.int .i64 zd) := ⟨HBr.out.cell 0, HBr.out.cell 1, HBr.out.cell 2⟩
          have hpl := HBr.out.lt
          by_cases hkn : k < n
          · obtain ⟨gx, ox, rfl, hgx, c0, c1, c2⟩ := reads_at (HR.out.touch HT.out (fun _ _ f => f)) HL.out.symm k hkn
            have hst := few_step L ⟨zw, zn, zd⟩ k (by rw [HL.out]; exact hkn)
            obtain ⟨⟨xw, xn, xd⟩, hx⟩ : ∃ x, x = L.getD k MRow.zero := ⟨_, rfl⟩
            have HXW : Hid (MRow.Wf ⟨xw, xn, xd⟩) := hide (by rw [hx]; exact HW.out _ (getD_mem L k (by rw [HL.out]; exact hkn)))
            rw [← hx] at c0 c1 c2 hst
            simp only at c0 c1 c2
            obtain ⟨cnt, hc⟩ : ∃ x, x = (L.take k).countP (fun x => better x ⟨zw, zn, zd⟩) := ⟨_, rfl⟩
            obtain ⟨bt, hbt⟩ : ∃ x, x = better ⟨xw, xn, xd⟩ ⟨zw, zn, zd⟩ := ⟨_, rfl⟩
            rw [← hc] at hst hcle ⊢
            rw [← hbt] at hst
            have HST := hide hst
            have HBT := hide hbt
            have k0 : (k : Int) < (n : Int) := by omega
            have k1 : (cnt : Int) ≤ (k : Int) := by omega
            clear hx hc hst hbt
            cases bt
            all_goals
              go_wp2_with (go_at_call 12; refine (rbetter_any ⟨xw, xn, xd⟩ ⟨zw, zn, zd⟩ HXW.out HZW.out _).mono ?_; rw [← HBT.out]; rintro e w3 ⟨rfl, T3⟩; have HT3 := hide ((HT.out.alloc _).then T3); have HB3 := hide ((HBr.out.alloc _).touch T3 (fun f => f)); clear T3)
              go_roundw
              · have hst := HST.out
                refine ⟨k + 1, by omega, by simp, ?_, HB3, HT3⟩
                rw [hst]
                simp
              · show n - (intOf (.int .i64 ((k : Int) + 1))).toNat < n - (intOf (.int .i64 (k : Int))).toNat
                simp [intOf]
                omega
          · have hk' : k = n := by omega
            subst hk'
            have e : L.take k = L := List.take_of_length_le (by rw [HL.out]; exact Nat.le_refl _)
            have hc := HCN.out
            rw [e]
            obtain ⟨cnt, hcd⟩ : ∃ x, x = L.countP (fun x => better x ⟨zw, zn, zd⟩) := ⟨_, rfl⟩
            rw [← hcd] at hc ⊢
            have k1 : (cnt : Int) < (m : Int) := by omega
            have k2 : decide ((cnt : Int) < (m : Int)) = true := by simp; omega
            clear hcd e hcle
            go_wp2_with fail
            refine (alive_any _).mono ?_
            rintro e w2 ⟨rfl, T2⟩
            have H2 := hide (HT.out.then T2)
            clear T2
            go_wp2
            go_ret
            exact ⟨rfl, H2.out.below (Nat.le_refl _) (fun _ _ f => f)⟩

end Go.Proofs.Ytcencmjdhaejcaa
