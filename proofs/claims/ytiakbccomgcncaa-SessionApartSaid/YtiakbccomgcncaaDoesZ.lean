/- A call on a table, and on a document's table without sessions. No condition. -/
import Derived.Test.YtiakbccomgcncaaAllW
namespace Go.Proofs.Ytiakbccomgcncaa
open Go.RowKit

/-- A call against a document's table that has no sessions: whatever is told, the table stays a table. -/
def Step (w : World) (p : Nat) (v : Value) (w' : World) : Prop := ∃ v' l', Tab w' p v' l' ∧ l'.length ≤ 4096 ∧ Touch (fp p v) w w' ∧ Fresh w v v'

theorem keep_any (w : World) (p : Nat) (v : Value) (l : List SRow) (h : Tab w p v l) (id seq : Int) (a : SRow) :
    Calls Try.prog 13 #[.pointer (some ⟨p, 0, none⟩), .int .u64 id, .int .u64 seq, .agg #[.int .i64 a.code, .int .u64 a.sess, .int .i64 a.had]] w fun e w' =>
      ∃ b, e = .returned (.bool b) ∧ Tab w' p v (keepL l id seq a) ∧ Touch (fp p v) w w' := by
  cases hk : keepB l id seq with
  | false =>
    refine (keep_no w p v l h id seq a hk).mono ?_
    rintro e w' ⟨rfl, ht⟩
    exact ⟨false, rfl, by unfold keepL; rw [hk]; exact h.touch ht (fun f => f) (fun _ _ f => f), ht.up _⟩
  | true =>
    refine (keep_yes w p v l h id seq a hk).mono ?_
    rintro e w' ⟨rfl, htab, ht⟩
    exact ⟨true, rfl, by unfold keepL; rw [hk]; exact htab, ht⟩

theorem keepL_len (l : List SRow) (id seq : Int) (a : SRow) : (keepL l id seq a).length = l.length := by
  unfold keepL; split <;> simp

theorem keepL_there (l : List SRow) (id seq : Int) (a : SRow) (id' : Int) : thereB (keepL l id seq a) id' = thereB l id' := by
  unfold thereB; rw [keepL_len]

theorem keepL_row (l : List SRow) (id seq : Int) (a : SRow) (id' : Int) (hne : id' ≠ id) (ht : thereB l id' = true) : rowAt (keepL l id seq a) id' = rowAt l id' := by
  unfold keepL
  split
  · rename_i hk
    have ht2 : thereB l id = true := by unfold keepB at hk; simp at hk; exact hk.1
    obtain ⟨k, rfl, hkl⟩ := thereB_at l id ht2
    obtain ⟨j, rfl, hjl⟩ := thereB_at l id' ht
    rw [show ((k : Int) + 1 - 1).toNat = k by omega, rowAt_set l k j _ hkl hjl, if_neg (by omega)]
  · rfl

theorem keepL_chk (l : List SRow) (id seq : Int) (a : SRow) (id' : Int) (hne : id' ≠ id) (s : Int) : chk (thereB (keepL l id seq a) id') (rowAt (keepL l id seq a) id') s = chk (thereB l id') (rowAt l id') s := by
  rw [keepL_there]
  cases ht : thereB l id' with
  | false => rfl
  | true => rw [keepL_row l id seq a id' hne ht]

theorem open_any (w : World) (p : Nat) (v : Value) (l : List SRow) (h : Tab w p v l) (hl : l.length ≤ 4096) :
    Calls Try.prog 11 #[.pointer (some ⟨p, 0, none⟩)] w fun e w' => ∃ n c, e = .returned (.tuple #[.int .u64 n, .int .i64 c]) ∧ Touch (fp p v) w w' := by
  rcases Nat.lt_or_ge l.length 4096 with hlt | hge
  · refine (open_room w p v l h hlt).mono ?_
    rintro e w' ⟨rfl, v', _, ht, _⟩
    exact ⟨_, _, rfl, ht⟩
  · refine (open_full w p v l h (by omega)).mono ?_
    rintro e w' ⟨rfl, rfl⟩
    exact ⟨_, _, rfl, Touch.refl _ _⟩

theorem kzero (w : World) : KTab w (.slice none 0 0) [] := World.ownsRow_nil _ _ _ _
theorem Step.of {w w' : World} {p : Nat} {v : Value} {l : List SRow} (h : Tab w p v l) (hl : l.length ≤ 4096) (ht : Touch (fun _ => False) w w') : Step w p v w' :=
  ⟨v, l, h.touch ht (fun f => f) (fun _ _ f => f), hl, ht.up _, .inl rfl⟩
/-- Stores into the result's variable. -/
theorem Step.store {w w' w2 : World} {p g : Nat} {v : Value} {cs : Array Value} (h : Step w p v w') (hb : Blk w' g 42 cs) (hg : w.heap.size ≤ g) (ht : Touch (fun k => k = g) w' w2) : Step w p v w2 := by
  obtain ⟨v', l', h1, h2, h3, h4⟩ := h
  refine ⟨v', l', h1.touch ht ?_ ?_, h2, h3.trans ht (fun i hi e => by omega), h4⟩
  · intro e; exact Blk.ne_ h1.1 hb (by decide) e
  · rintro k hk rfl
    exact own_blk_ne h1.2 hb (by decide) hk
theorem Step.quiet {w w' w2 : World} {p : Nat} {v : Value} (h : Step w p v w') (ht : Touch (fun _ => False) w' w2) : Step w p v w2 := by
  obtain ⟨v', l', h1, h2, h3, h4⟩ := h
  exact ⟨v', l', h1.touch ht (fun f => f) (fun _ _ f => f), h2, h3.trans ht (fun _ _ f => False.elim f), h4⟩

set_option maxRecDepth 100000 in
set_option maxHeartbeats 2000000 in
theorem does0_any (w : World) (p : Nat) (v : Value) (l : List SRow) (h : Tab w p v l) (hl : l.length ≤ 4096) (o : OpR) :
    Calls Try.prog 15 #[.pointer (some ⟨p, 0, none⟩), kV 0 (.slice none 0 0), o.val] w fun e w' => ∃ x b, e = .returned (.tuple #[x, .bool b]) ∧ Step w p v w' := by
  have HT := hide h
  have HF := hide hl
  clear h hl
  have K0 := kzero
  obtain ⟨ok, oi, os, oc, oe, oh⟩ := o
  unfold OpR.val kV
  simp only
  by_cases h0 : ok = 0
  · subst h0
    by_cases hf : l.length = 4096
    · have HFF := hide hf
      clear hf
      go_enter Try.func15, Try.ntmps15
      go_wp2_with (first
        | (go_at_call 11; refine (open_full _ p v l (((HT.out.alloc _).alloc _).alloc _) HFF.out).mono ?_; rintro e w2 ⟨rfl, rfl⟩)
        | (go_at_call 21; refine (kopen_room _ 0 _ [] (K0 _) (by decide) (by decide)).mono ?_; rintro e w2 ⟨rfl, hc2⟩; have bR := (blk_new2 _ _ _ _ _).touch hc2 (fun f => f); obtain ⟨r1, r2, r3⟩ := bR.facts; have C2 := hide hc2; have BR := hide bR; clear hc2 bR; unfold kV))
      refine bodyPost_ret (v := .tuple #[kV 1 (.slice none 0 0), .bool false]) (by simp [results, Try.results15, kV, go_sem, r1, r3]) rfl ⟨_, _, rfl, ?_⟩
      have t1 : Touch (fun _ => False) w w2 := ((((Touch.refl _ _).alloc _).alloc _).alloc _).then C2.out
      exact ((Step.of HT.out HF.out t1).store BR.out (by omega) (two_set (S := fun k => k = w.heap.size + 1 + 1) (Touch.refl _ _) (fun _ => rfl) _ _)).quiet ((Touch.refl _ _).alloc _)
    · have hlt : l.length < 4096 := by have := HF.out; omega
      have HFF := hide hlt
      clear hf
      obtain ⟨bb, hbb⟩ : ∃ bb, bb = ((l.length : Int) + 1 == 1) := ⟨_, rfl⟩
      have hbb' := hbb.symm
      cases bb
      all_goals
        have HBB := hide hbb
        clear hbb
        go_enter Try.func15, Try.ntmps15
        go_wp2_with (first
          | (go_at_call 11; refine (open_room _ p v l (((HT.out.alloc _).alloc _).alloc _) HFF.out).mono ?_; rintro e w2 ⟨rfl, v2, ht2, hc2, hf2⟩; have hlt := fp_lt HT.out; have bK := (Blk.touch (((Blk.new w 42 _).alloc _).alloc _) hc2 (fun f => by have := hlt _ f; omega)); obtain ⟨k1, k2, k3⟩ := bK.facts; clear bK; have bR := ((blk_new2 _ _ _ _ _).touch hc2 (fun f => by have := hlt _ f; omega)); have BR := hide bR; have T2 := hide ht2; have C2 := hide hc2; have F2 := hide hf2; clear ht2 hc2 hf2 bR hlt)
          | (go_at_call 21; refine (kopen_room _ 0 _ [] (K0 _) (by decide) (by decide)).mono ?_; rintro e w3 ⟨rfl, hc3⟩; have bR := BR.out.touch hc3 (fun f => f); obtain ⟨r1, r2, r3⟩ := bR.facts; have C3 := hide hc3; have BR3 := hide bR; clear hc3 bR; unfold kV))
        have t1 := (((Touch.refl (fun _ => False) w).alloc (.cells #[.int .u64 0, .slice none 0 0] 42)).alloc (.cells #[.int .i64 0, .int .u64 oi, .int .u64 os, .int .i64 oc, .int .u64 oe, .int .i64 oh] 31)).alloc (.cells #[.int .u64 0, .slice none 0 0] 42)
        have s1 : Step w p v w2 := ⟨v2, _, T2.out, by have := HFF.out; simp; omega, (t1.up (fp p v)).trans C2.out (fun _ _ f => f), by
          rcases F2.out with f | ⟨g, f, hg⟩
          · exact .inl f
          · exact .inr ⟨g, f, by simp at hg; omega⟩⟩
      · refine bodyPost_ret (v := .tuple #[kV 1 (.slice none 0 0), .bool false]) (by simp [results, Try.results15, kV, go_sem, r1, r3]) rfl ⟨_, _, rfl, ?_⟩
        exact ((s1.quiet C3.out).store BR3.out (by omega) (two_set (S := fun k => k = w.heap.size + 1 + 1) (Touch.refl _ _) (fun _ => rfl) _ _)).quiet ((Touch.refl _ _).alloc _)
      · refine bodyPost_ret (v := .tuple #[kV 1 (.slice none 0 0), .bool true]) (by simp [results, Try.results15, kV, go_sem, r1, r3]) rfl ⟨_, _, rfl, ?_⟩
        exact ((s1.quiet C3.out).store BR3.out (by omega) (two_set (S := fun k => k = w.heap.size + 1 + 1) (Touch.refl _ _) (fun _ => rfl) _ _)).quiet ((Touch.refl _ _).alloc _)
  have b0 : (ok == 0) = false := by simpa using h0
  clear h0
  by_cases h1 : ok = 1
  · subst h1
    have HR2 := hide (show chk (thereK 0 oi) (latest [] oi).row os = ⟨0, 0, 0, false, 150⟩ from by
      have : thereK 0 oi = false := by unfold thereK; simp; omega
      rw [this]; rfl)
    rcases chk_cases (thereB l oi) (rowAt l oi) os with h1 | h1 | ⟨ht, hz, he, h1⟩ | ⟨ht, hz, hlt, h1⟩
    · have HR := hide h1
      clear h1
      · go_enter Try.func15, Try.ntmps15
        go_wp2_with (first
          | (go_at_call 12; refine (check_any _ p v l (((HT.out.alloc _).alloc _).alloc _) oi os _ HR.out).mono ?_; rintro e w2 ⟨rfl, hc2⟩; have bO := (Blk.touch ((blk_new1 _ _ _ _).alloc _) hc2 (fun f => f)); have bK := (Blk.touch (((Blk.new w 42 _).alloc _).alloc _) hc2 (fun f => f)); have bR := ((blk_new2 _ _ _ _ _).touch hc2 (fun f => f)); have BK := hide bK; have BR := hide bR; obtain ⟨o1, o2, o3⟩ := bO.facts; obtain ⟨k1, k2, k3⟩ := bK.facts; have C2 := hide hc2; clear hc2 bK bR bO; unfold CRes.val)
          | (go_at_call 22; refine (kcheck_any _ 0 _ [] (K0 _) oi os _ HR2.out).mono ?_; rintro e w3 ⟨rfl, hc3⟩; have bR := (BR.out.alloc _).touch hc3 (fun f => f); have bK := (BK.out.alloc _).touch hc3 (fun f => f); have bA := (Blk.new w2 29 _).touch hc3 (fun f => f); obtain ⟨r1, r2, r3⟩ := bR.facts; obtain ⟨x1, x2, x3⟩ := bK.facts; obtain ⟨a1, a2, a3⟩ := bA.facts; have C3 := hide hc3; have BR3 := hide bR; clear hc3 bR bK bA o1 o2 o3 k1 k2 k3; unfold CRes.val))
        go_region
        go_wp2
        refine bodyPost_ret (v := .tuple #[kV 0 (.slice none 0 0), .bool true]) (by simp [results, Try.results15, kV, go_sem, r1, r3]) rfl ⟨_, _, rfl, ?_⟩
        have t1 : Touch (fun _ => False) w w3 := (((((Touch.refl _ _).alloc _).alloc _).alloc _).then C2.out |>.alloc _).then C3.out
        exact ((Step.of HT.out HF.out t1).store BR3.out (by omega) (two_set (S := fun k => k = w.heap.size + 1 + 1) (Touch.refl _ _) (fun _ => rfl) _ _)).quiet (((Touch.refl _ _).alloc _).drew)
    · have HR := hide h1
      clear h1
      · go_enter Try.func15, Try.ntmps15
        go_wp2_with (first
          | (go_at_call 12; refine (check_any _ p v l (((HT.out.alloc _).alloc _).alloc _) oi os _ HR.out).mono ?_; rintro e w2 ⟨rfl, hc2⟩; have bO := (Blk.touch ((blk_new1 _ _ _ _).alloc _) hc2 (fun f => f)); have bK := (Blk.touch (((Blk.new w 42 _).alloc _).alloc _) hc2 (fun f => f)); have bR := ((blk_new2 _ _ _ _ _).touch hc2 (fun f => f)); have BK := hide bK; have BR := hide bR; obtain ⟨o1, o2, o3⟩ := bO.facts; obtain ⟨k1, k2, k3⟩ := bK.facts; have C2 := hide hc2; clear hc2 bK bR bO; unfold CRes.val)
          | (go_at_call 22; refine (kcheck_any _ 0 _ [] (K0 _) oi os _ HR2.out).mono ?_; rintro e w3 ⟨rfl, hc3⟩; have bR := (BR.out.alloc _).touch hc3 (fun f => f); have bK := (BK.out.alloc _).touch hc3 (fun f => f); have bA := (Blk.new w2 29 _).touch hc3 (fun f => f); obtain ⟨r1, r2, r3⟩ := bR.facts; obtain ⟨x1, x2, x3⟩ := bK.facts; obtain ⟨a1, a2, a3⟩ := bA.facts; have C3 := hide hc3; have BR3 := hide bR; clear hc3 bR bK bA o1 o2 o3 k1 k2 k3; unfold CRes.val))
        go_region
        go_wp2
        refine bodyPost_ret (v := .tuple #[kV 0 (.slice none 0 0), .bool false]) (by simp [results, Try.results15, kV, go_sem, r1, r3]) rfl ⟨_, _, rfl, ?_⟩
        have t1 : Touch (fun _ => False) w w3 := (((((Touch.refl _ _).alloc _).alloc _).alloc _).then C2.out |>.alloc _).then C3.out
        exact ((Step.of HT.out HF.out t1).store BR3.out (by omega) (two_set (S := fun k => k = w.heap.size + 1 + 1) (Touch.refl _ _) (fun _ => rfl) _ _)).quiet (((Touch.refl _ _).alloc _).drew)
    · obtain ⟨⟨rs, rc, rr, rh⟩, hr⟩ : ∃ r, r = rowAt l oi := ⟨_, rfl⟩
      have HR := hide (show chk (thereB l oi) (rowAt l oi) os = ⟨rc, rr, rh, true, 0⟩ from by rw [h1, ← hr])
      clear ht hz he h1 hr
      by_cases e1 : rc = 0
      · subst e1
        by_cases e2 : rr = 0
        · subst e2
          by_cases e3 : rh = 0
          · subst e3
            go_enter Try.func15, Try.ntmps15
            go_wp2_with (first
              | (go_at_call 12; refine (check_any _ p v l (((HT.out.alloc _).alloc _).alloc _) oi os _ HR.out).mono ?_; rintro e w2 ⟨rfl, hc2⟩; have bO := (Blk.touch ((blk_new1 _ _ _ _).alloc _) hc2 (fun f => f)); have bK := (Blk.touch (((Blk.new w 42 _).alloc _).alloc _) hc2 (fun f => f)); have bR := ((blk_new2 _ _ _ _ _).touch hc2 (fun f => f)); have BK := hide bK; have BR := hide bR; obtain ⟨o1, o2, o3⟩ := bO.facts; obtain ⟨k1, k2, k3⟩ := bK.facts; have C2 := hide hc2; clear hc2 bK bR bO; unfold CRes.val)
              | (go_at_call 22; refine (kcheck_any _ 0 _ [] (K0 _) oi os _ HR2.out).mono ?_; rintro e w3 ⟨rfl, hc3⟩; have bR := (BR.out.alloc _).touch hc3 (fun f => f); have bK := (BK.out.alloc _).touch hc3 (fun f => f); have bA := (Blk.new w2 29 _).touch hc3 (fun f => f); obtain ⟨r1, r2, r3⟩ := bR.facts; obtain ⟨x1, x2, x3⟩ := bK.facts; obtain ⟨a1, a2, a3⟩ := bA.facts; have C3 := hide hc3; have BR3 := hide bR; clear hc3 bR bK bA o1 o2 o3 k1 k2 k3; unfold CRes.val))
            go_region
            go_wp2
            refine bodyPost_ret (v := .tuple #[kV 0 (.slice none 0 0), .bool false]) (by simp [results, Try.results15, kV, go_sem, r1, r3]) rfl ⟨_, _, rfl, ?_⟩
            have t1 : Touch (fun _ => False) w w3 := (((((Touch.refl _ _).alloc _).alloc _).alloc _).then C2.out |>.alloc _).then C3.out
            exact ((Step.of HT.out HF.out t1).store BR3.out (by omega) (two_set (S := fun k => k = w.heap.size + 1 + 1) (Touch.refl _ _) (fun _ => rfl) _ _)).quiet (((Touch.refl _ _).alloc _).drew)
          · go_enter Try.func15, Try.ntmps15
            go_wp2_with (first
              | (go_at_call 12; refine (check_any _ p v l (((HT.out.alloc _).alloc _).alloc _) oi os _ HR.out).mono ?_; rintro e w2 ⟨rfl, hc2⟩; have bO := (Blk.touch ((blk_new1 _ _ _ _).alloc _) hc2 (fun f => f)); have bK := (Blk.touch (((Blk.new w 42 _).alloc _).alloc _) hc2 (fun f => f)); have bR := ((blk_new2 _ _ _ _ _).touch hc2 (fun f => f)); have BK := hide bK; have BR := hide bR; obtain ⟨o1, o2, o3⟩ := bO.facts; obtain ⟨k1, k2, k3⟩ := bK.facts; have C2 := hide hc2; clear hc2 bK bR bO; unfold CRes.val)
              | (go_at_call 22; refine (kcheck_any _ 0 _ [] (K0 _) oi os _ HR2.out).mono ?_; rintro e w3 ⟨rfl, hc3⟩; have bR := (BR.out.alloc _).touch hc3 (fun f => f); have bK := (BK.out.alloc _).touch hc3 (fun f => f); have bA := (Blk.new w2 29 _).touch hc3 (fun f => f); obtain ⟨r1, r2, r3⟩ := bR.facts; obtain ⟨x1, x2, x3⟩ := bK.facts; obtain ⟨a1, a2, a3⟩ := bA.facts; have C3 := hide hc3; have BR3 := hide bR; clear hc3 bR bK bA o1 o2 o3 k1 k2 k3; unfold CRes.val))
            go_region
            go_wp2
            refine bodyPost_ret (v := .tuple #[kV 0 (.slice none 0 0), .bool false]) (by simp [results, Try.results15, kV, go_sem, r1, r3]) rfl ⟨_, _, rfl, ?_⟩
            have t1 : Touch (fun _ => False) w w3 := (((((Touch.refl _ _).alloc _).alloc _).alloc _).then C2.out |>.alloc _).then C3.out
            exact ((Step.of HT.out HF.out t1).store BR3.out (by omega) (two_set (S := fun k => k = w.heap.size + 1 + 1) (Touch.refl _ _) (fun _ => rfl) _ _)).quiet (((Touch.refl _ _).alloc _).drew)
        · go_enter Try.func15, Try.ntmps15
          go_wp2_with (first
            | (go_at_call 12; refine (check_any _ p v l (((HT.out.alloc _).alloc _).alloc _) oi os _ HR.out).mono ?_; rintro e w2 ⟨rfl, hc2⟩; have bO := (Blk.touch ((blk_new1 _ _ _ _).alloc _) hc2 (fun f => f)); have bK := (Blk.touch (((Blk.new w 42 _).alloc _).alloc _) hc2 (fun f => f)); have bR := ((blk_new2 _ _ _ _ _).touch hc2 (fun f => f)); have BK := hide bK; have BR := hide bR; obtain ⟨o1, o2, o3⟩ := bO.facts; obtain ⟨k1, k2, k3⟩ := bK.facts; have C2 := hide hc2; clear hc2 bK bR bO; unfold CRes.val)
            | (go_at_call 22; refine (kcheck_any _ 0 _ [] (K0 _) oi os _ HR2.out).mono ?_; rintro e w3 ⟨rfl, hc3⟩; have bR := (BR.out.alloc _).touch hc3 (fun f => f); have bK := (BK.out.alloc _).touch hc3 (fun f => f); have bA := (Blk.new w2 29 _).touch hc3 (fun f => f); obtain ⟨r1, r2, r3⟩ := bR.facts; obtain ⟨x1, x2, x3⟩ := bK.facts; obtain ⟨a1, a2, a3⟩ := bA.facts; have C3 := hide hc3; have BR3 := hide bR; clear hc3 bR bK bA o1 o2 o3 k1 k2 k3; unfold CRes.val))
          go_region
          go_wp2
          refine bodyPost_ret (v := .tuple #[kV 0 (.slice none 0 0), .bool false]) (by simp [results, Try.results15, kV, go_sem, r1, r3]) rfl ⟨_, _, rfl, ?_⟩
          have t1 : Touch (fun _ => False) w w3 := (((((Touch.refl _ _).alloc _).alloc _).alloc _).then C2.out |>.alloc _).then C3.out
          exact ((Step.of HT.out HF.out t1).store BR3.out (by omega) (two_set (S := fun k => k = w.heap.size + 1 + 1) (Touch.refl _ _) (fun _ => rfl) _ _)).quiet (((Touch.refl _ _).alloc _).drew)
      · go_enter Try.func15, Try.ntmps15
        go_wp2_with (first
          | (go_at_call 12; refine (check_any _ p v l (((HT.out.alloc _).alloc _).alloc _) oi os _ HR.out).mono ?_; rintro e w2 ⟨rfl, hc2⟩; have bO := (Blk.touch ((blk_new1 _ _ _ _).alloc _) hc2 (fun f => f)); have bK := (Blk.touch (((Blk.new w 42 _).alloc _).alloc _) hc2 (fun f => f)); have bR := ((blk_new2 _ _ _ _ _).touch hc2 (fun f => f)); have BK := hide bK; have BR := hide bR; obtain ⟨o1, o2, o3⟩ := bO.facts; obtain ⟨k1, k2, k3⟩ := bK.facts; have C2 := hide hc2; clear hc2 bK bR bO; unfold CRes.val)
          | (go_at_call 22; refine (kcheck_any _ 0 _ [] (K0 _) oi os _ HR2.out).mono ?_; rintro e w3 ⟨rfl, hc3⟩; have bR := (BR.out.alloc _).touch hc3 (fun f => f); have bK := (BK.out.alloc _).touch hc3 (fun f => f); have bA := (Blk.new w2 29 _).touch hc3 (fun f => f); obtain ⟨r1, r2, r3⟩ := bR.facts; obtain ⟨x1, x2, x3⟩ := bK.facts; obtain ⟨a1, a2, a3⟩ := bA.facts; have C3 := hide hc3; have BR3 := hide bR; clear hc3 bR bK bA o1 o2 o3 k1 k2 k3; unfold CRes.val))
        go_region
        go_wp2
        refine bodyPost_ret (v := .tuple #[kV 0 (.slice none 0 0), .bool false]) (by simp [results, Try.results15, kV, go_sem, r1, r3]) rfl ⟨_, _, rfl, ?_⟩
        have t1 : Touch (fun _ => False) w w3 := (((((Touch.refl _ _).alloc _).alloc _).alloc _).then C2.out |>.alloc _).then C3.out
        exact ((Step.of HT.out HF.out t1).store BR3.out (by omega) (two_set (S := fun k => k = w.heap.size + 1 + 1) (Touch.refl _ _) (fun _ => rfl) _ _)).quiet (((Touch.refl _ _).alloc _).drew)
    · have HR := hide h1
      clear h1 ht hz hlt
      · go_enter Try.func15, Try.ntmps15
        go_wp2_with (first
          | (go_at_call 12; refine (check_any _ p v l (((HT.out.alloc _).alloc _).alloc _) oi os _ HR.out).mono ?_; rintro e w2 ⟨rfl, hc2⟩; have bO := (Blk.touch ((blk_new1 _ _ _ _).alloc _) hc2 (fun f => f)); have bK := (Blk.touch (((Blk.new w 42 _).alloc _).alloc _) hc2 (fun f => f)); have bR := ((blk_new2 _ _ _ _ _).touch hc2 (fun f => f)); have BK := hide bK; have BR := hide bR; obtain ⟨o1, o2, o3⟩ := bO.facts; obtain ⟨k1, k2, k3⟩ := bK.facts; have C2 := hide hc2; clear hc2 bK bR bO; unfold CRes.val)
          | (go_at_call 22; refine (kcheck_any _ 0 _ [] (K0 _) oi os _ HR2.out).mono ?_; rintro e w3 ⟨rfl, hc3⟩; have bR := (BR.out.alloc _).touch hc3 (fun f => f); have bK := (BK.out.alloc _).touch hc3 (fun f => f); have bA := (Blk.new w2 29 _).touch hc3 (fun f => f); obtain ⟨r1, r2, r3⟩ := bR.facts; obtain ⟨x1, x2, x3⟩ := bK.facts; obtain ⟨a1, a2, a3⟩ := bA.facts; have C3 := hide hc3; have BR3 := hide bR; clear hc3 bR bK bA o1 o2 o3 k1 k2 k3; unfold CRes.val))
        go_region
        go_wp2
        refine bodyPost_ret (v := .tuple #[kV 0 (.slice none 0 0), .bool false]) (by simp [results, Try.results15, kV, go_sem, r1, r3]) rfl ⟨_, _, rfl, ?_⟩
        have t1 : Touch (fun _ => False) w w3 := (((((Touch.refl _ _).alloc _).alloc _).alloc _).then C2.out |>.alloc _).then C3.out
        exact ((Step.of HT.out HF.out t1).store BR3.out (by omega) (two_set (S := fun k => k = w.heap.size + 1 + 1) (Touch.refl _ _) (fun _ => rfl) _ _)).quiet (((Touch.refl _ _).alloc _).drew)
  have b1 : (ok == 1) = false := by simpa using h1
  clear h1
  by_cases h2 : ok = 2
  · subst h2
    have HK2 := hide (show kkeepB 0 [] oi os = false from by
      have : thereK 0 oi = false := by unfold thereK; simp; omega
      unfold kkeepB; rw [this]; rfl)
    cases hkb : keepB l oi os with
    | false =>
      have HK := hide hkb
      clear hkb
      go_enter Try.func15, Try.ntmps15
      go_wp2_with (first
        | (go_at_call 13; refine (keep_no _ p v l (((HT.out.alloc _).alloc _).alloc _) oi os ⟨0, oc, oe, oh⟩ HK.out).mono ?_; rintro e w2 ⟨rfl, hc2⟩; have bO := (Blk.touch ((blk_new1 _ _ _ _).alloc _) hc2 (fun f => f)); have bK := (Blk.touch (((Blk.new w 42 _).alloc _).alloc _) hc2 (fun f => f)); have bR := ((blk_new2 _ _ _ _ _).touch hc2 (fun f => f)); have BR := hide bR; obtain ⟨o1, o2, o3⟩ := bO.facts; obtain ⟨k1, k2, k3⟩ := bK.facts; have C2 := hide hc2; clear hc2 bK bR bO)
        | (go_at_call 23; refine (kkeep_no _ 0 _ [] (K0 _) oi os ⟨0, oc, oe, oh⟩ HK2.out).mono ?_; rintro e w3 ⟨rfl, hc3⟩; have bR := BR.out.touch hc3 (fun f => f); obtain ⟨r1, r2, r3⟩ := bR.facts; have C3 := hide hc3; have BR3 := hide bR; clear hc3 bR o1 o2 o3 k1 k2 k3; unfold kV))
      refine bodyPost_ret (v := .tuple #[kV 0 (.slice none 0 0), .bool true]) (by simp [results, Try.results15, kV, go_sem, r1, r3]) rfl ⟨_, _, rfl, ?_⟩
      have t1 : Touch (fun _ => False) w w3 := ((((Touch.refl _ _).alloc _).alloc _).alloc _).then C2.out |>.then C3.out
      exact ((Step.of HT.out HF.out t1).store BR3.out (by omega) (two_set (S := fun k => k = w.heap.size + 1 + 1) (Touch.refl _ _) (fun _ => rfl) _ _)).quiet ((Touch.refl _ _).alloc _)
    | true =>
      have HK := hide hkb
      clear hkb
      go_enter Try.func15, Try.ntmps15
      go_wp2_with (first
        | (go_at_call 13; refine (keep_yes _ p v l (((HT.out.alloc _).alloc _).alloc _) oi os ⟨0, oc, oe, oh⟩ HK.out).mono ?_; rintro e w2 ⟨rfl, ht2, hc2⟩; have hlt := fp_lt HT.out; have bO := (Blk.touch ((blk_new1 _ _ _ _).alloc _) hc2 (fun f => by have := hlt _ f; omega)); have bK := (Blk.touch (((Blk.new w 42 _).alloc _).alloc _) hc2 (fun f => by have := hlt _ f; omega)); have bR := ((blk_new2 _ _ _ _ _).touch hc2 (fun f => by have := hlt _ f; omega)); have BR := hide bR; obtain ⟨o1, o2, o3⟩ := bO.facts; obtain ⟨k1, k2, k3⟩ := bK.facts; have C2 := hide hc2; have T2 := hide ht2; clear hc2 bK bR bO ht2 hlt)
        | (go_at_call 23; refine (kkeep_no _ 0 _ [] (K0 _) oi os ⟨0, oc, oe, oh⟩ HK2.out).mono ?_; rintro e w3 ⟨rfl, hc3⟩; have bR := BR.out.touch hc3 (fun f => f); obtain ⟨r1, r2, r3⟩ := bR.facts; have C3 := hide hc3; have BR3 := hide bR; clear hc3 bR o1 o2 o3 k1 k2 k3; unfold kV))
      refine bodyPost_ret (v := .tuple #[kV 0 (.slice none 0 0), .bool false]) (by simp [results, Try.results15, kV, go_sem, r1, r3]) rfl ⟨_, _, rfl, ?_⟩
      have t1 := (((Touch.refl (fun _ => False) w).alloc (.cells #[.int .u64 0, .slice none 0 0] 42)).alloc (.cells #[.int .i64 2, .int .u64 oi, .int .u64 os, .int .i64 oc, .int .u64 oe, .int .i64 oh] 31)).alloc (.cells #[.int .u64 0, .slice none 0 0] 42)
      have s1 : Step w p v w2 := ⟨v, _, T2.out, by rw [List.length_set]; exact HF.out, (t1.up (fp p v)).trans C2.out (fun _ _ f => f), .inl rfl⟩
      exact ((s1.quiet C3.out).store BR3.out (by omega) (two_set (S := fun k => k = w.heap.size + 1 + 1) (Touch.refl _ _) (fun _ => rfl) _ _)).quiet ((Touch.refl _ _).alloc _)
  · have b2 : (ok == 2) = false := by simpa using h2
    clear h2
    go_enter Try.func15, Try.ntmps15
    go_wp2
    refine bodyPost_ret (v := .tuple #[kV 0 (.slice none 0 0), .bool true]) (by simp [results, Try.results15, kV, go_sem]) rfl ⟨_, _, rfl, ?_⟩
    have t1 := fun X Y Z => (((Touch.refl (fun _ => False) w).alloc X).alloc Y).alloc Z
    exact Step.of HT.out HF.out (t1 _ _ _)

end Go.Proofs.Ytiakbccomgcncaa
