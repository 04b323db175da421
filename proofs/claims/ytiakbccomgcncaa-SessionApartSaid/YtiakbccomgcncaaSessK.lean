/- What the reference's Keep does where it keeps. Condition: at most 20000 rows were kept. -/
import Derived.Test.YtiakbccomgcncaaSessR
namespace Go.Proofs.Ytiakbccomgcncaa
open Go.RowKit

theorem kkeep_yes (w : World) (m : Int) (v : Value) (l : List KRow) (h : KTab w v l) (hl : l.length ≤ 20000) (id seq : Int) (a : SRow) (hk : kkeepB m l id seq = true) :
    Calls Try.prog 23 #[kV m v, .int .u64 id, .int .u64 seq, .agg #[.int .i64 a.code, .int .u64 a.sess, .int .i64 a.had]] w fun e w' =>
      ∃ v', e = .returned (.tuple #[kV m v', .bool true]) ∧ KTab w' v' (l ++ [⟨id, seq, a.code, a.sess, a.had⟩]) ∧ Touch (fun _ => False) w w' ∧ ∀ g, v'.ownBlock = some g → w.heap.size ≤ g := by
  obtain ⟨A, c, hv, _, hc⟩ := own_len h
  subst hv
  have H := hide h
  clear h
  unfold kV
  have hor : 1 ≤ id ∧ id ≤ m ∧ (latest l id).seq < seq := by unfold kkeepB thereK at hk; simp at hk; omega
  clear hk
  obtain ⟨h1, h2, h3⟩ := hor
  obtain ⟨r, hr⟩ : ∃ r, r = latest l id := ⟨_, rfl⟩
  have HR := hide hr
  rw [← hr] at h3
  clear hr
  have hfld := Try.keptSeq
  obtain ⟨i0, hi, hz0, hz1, hz2⟩ := info_parts Try.infoKept
  go_enter Try.func23, Try.ntmps23
  go_wp2_with (first | (go_at_call 25; refine (latest_any _ m _ l (((H.out.alloc _).alloc _).alloc _) id).mono ?_; rintro e w' ⟨rfl, ht⟩; have bF := (blk_new2 _ _ _ _ _).touch ht (fun f => f); have bG := (Blk.touch (((Blk.new w 42 _).alloc _).alloc _) ht (fun f => f)); have bI := (Blk.touch ((blk_new1 _ _ _ _).alloc _) ht (fun f => f)); obtain ⟨F1, F2, F3⟩ := bF.facts; obtain ⟨G1, G2, G3⟩ := bG.facts; obtain ⟨I1, I2, I3⟩ := bI.facts; have BF := hide bF; have BG := hide bG; have BI := hide bI; clear bF bG bI; have HT := hide ht; clear ht; rw [← HR.out]; unfold KRow.val) | (at_builtin; refine wpList_app _ rfl (.tmp 28) (.tmp 30) 40 rfl 64 i0 (.agg #[.int .u64 0, .int .u64 0, .int .i64 0, .int .u64 0, .int .i64 0]) 5 40 Try.underlying40 hi hz0 hz1 hz2 rfl (by decide) _ 0 [] rfl (World.ownsRow_made _ #[] 0 (Nat.zero_le _) (by decide) rfl) A l.length c (kCells l) rfl ?s1 ?s2 (krow_one l) ?s4 ?s5 ?_))
  case s1 => exact ((((H.out.alloc _).alloc _).alloc _).touch HT.out (fun _ _ f => f)) |> fun k => (Reads.of_own k).alloc _
  case s2 => exact own_nilOk H.out
  case s4 => unfold maxLen; omega
  case s5 => omega
  intro v1 w2 hown hgrow hfr _
  have T2 : Touch (fun _ => False) w' w2 := ((Touch.refl _ _).alloc _).grown hgrow (fun k hk hlt => by simp [Value.ownBlock] at hk; omega)
  have hv1 : ∀ g, v1.ownBlock = some g → w.heap.size ≤ g := by
    intro g hg
    have := HT.out.size
    simp at this
    rcases hfr with h | ⟨g', h, hg'⟩
    · rw [h] at hg; simp [Value.ownBlock] at hg; omega
    · rw [h] at hg; simp at hg hg'; omega
  have bF := BF.out.touch T2 (fun f => f)
  have bG := BG.out.touch T2 (fun f => f)
  have bI := BI.out.touch T2 (fun f => f)
  clear F1 F2 F3 G1 G2 G3 I1 I2 I3 BF BG BI
  obtain ⟨F1, F2, F3⟩ := bF.facts
  obtain ⟨G1, G2, G3⟩ := bG.facts
  obtain ⟨I1, I2, I3⟩ := bI.facts
  have BF := hide bF
  have BG := hide bG
  obtain ⟨A1, c1, hv, _⟩ := own_len hown
  subst hv
  have HV := hide hv1
  have HO := hide hown
  have HT2 := hide T2
  clear bF bG bI hown hgrow hfr T2 hv1
  go_wp2_with (at_builtin; refine wpList_app _ rfl (.tmp 32) (.tmp 37) 40 rfl 64 i0 (.agg #[.int .u64 0, .int .u64 0, .int .i64 0, .int .u64 0, .int .i64 0]) 5 40 Try.underlying40 hi hz0 hz1 hz2 rfl (by decide) (.slice A1 l.length c1) l.length (kCells l) rfl (HO.out.alloc _) (some ⟨w2.heap.size, 0, none⟩) 1 1 (KRow.cells ⟨id, seq, a.code, a.sess, a.had⟩) rfl ?r1 ?r2 ?r3 ?r4 ?r5 ?_)
  case r1 => exact Reads.new _ _ _ _ rfl
  case r2 => exact fun h => by cases h
  case r3 => exact List.all_eq_true.1 rfl
  case r4 => unfold maxLen; omega
  case r5 => omega
  intro v2 w3 hown hgrow hfr _
  have T3 : Touch (fun k => (Value.slice A1 l.length c1).ownBlock = some k) w2 w3 := ((Touch.refl _ _).alloc _).grown hgrow (fun k hk _ => hk)
  have bF := BF.out.touch T3 (own_blk_ne HO.out BF.out (by decide))
  have bG := BG.out.touch T3 (own_blk_ne HO.out BG.out (by decide))
  clear F1 F2 F3 G1 G2 G3 I1 I2 I3 BF BG
  obtain ⟨F1, F2, F3⟩ := bF.facts
  obtain ⟨G1, G2, G3⟩ := bG.facts
  have BF := hide bF
  have BG := hide bG
  have HV2 := hide (show ∀ g, v2.ownBlock = some g → w.heap.size ≤ g from by
    intro g hg
    rcases hfr with h | ⟨g', h, hg'⟩
    · exact HV.out g (by rw [← h]; exact hg)
    · have s1 := HT.out.size
      have s2 := HT2.out.size
      rw [h] at hg; simp at hg hg' s1; omega)
  obtain ⟨A2, c2, hv, _⟩ := own_len hown
  have HVV := hide hv
  have HO2 := hide hown
  have HT3 := hide T3
  clear bF bG hown hgrow hfr T3
  rw [hv]
  clear hv
  go_wp2
  have hne := own_blk_ne HO2.out BF.out (by decide)
  have hne' := own_blk_ne HO2.out BG.out (by decide)
  refine bodyPost_ret (v := .tuple #[kV m v2, .bool true]) (by simp [results, Try.results23, kV, go_sem, F1, F3, G1, HVV.out]) rfl ⟨v2, rfl, ?_, ?_, HV2.out⟩
  · unfold KTab
    rw [kCells_snoc, List.length_append]
    exact own_setCell_far (own_setCell_far (own_setCell_far HO2.out hne' _) hne _) hne _
  · have t0 : Touch (fun _ => False) w w' := (((Touch.refl _ _).alloc _).alloc _).alloc _ |>.then HT.out
    have t1 := t0.then HT2.out
    have t2 := t1.trans HT3.out (T := _) (fun i hi h => by have := HV.out i h; omega)
    exact ((t2.setCell (p := ⟨_, _, none⟩) (fun h => by simp at h) _).setCell (p := ⟨_, _, none⟩) (fun h => by simp at h; omega) _).setCell (p := ⟨_, _, none⟩) (fun h => by simp at h; omega) _

end Go.Proofs.Ytiakbccomgcncaa
