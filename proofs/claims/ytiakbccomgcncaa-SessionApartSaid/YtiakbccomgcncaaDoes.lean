/- A call on a table and on the document's: both answer alike. Condition: both have the same rows. -/
import Derived.Test.YtiakbccomgcncaaSessK
import Derived.Test.YtiakbccomgcncaaOnceP
import Derived.Test.YtiakbccomgcncaaSessL
namespace Go.Proofs.Ytiakbccomgcncaa
open Go.RowKit

/-- The table and the document's table have the same rows. -/
structure Same (l : List SRow) (m : Int) (ks : List KRow) : Prop where
  many : m = l.length
  row : ∀ k, k < l.length → rowAt l ((k : Int) + 1) = (latest ks ((k : Int) + 1)).row
  ids : ∀ x ∈ ks, ∃ k : Nat, k < l.length ∧ x.id = (k : Int) + 1
  pos : ∀ x ∈ ks, 0 < x.seq

theorem latest_mem (ks : List KRow) (id : Int) : latest ks id = ⟨id, 0, 0, 0, 0⟩ ∨ latest ks id ∈ ks := by
  have : ∀ (l r : List KRow), (latest l id = ⟨id, 0, 0, 0, 0⟩ ∨ latest l id ∈ l) → latest (l ++ r) id = ⟨id, 0, 0, 0, 0⟩ ∨ latest (l ++ r) id ∈ l ++ r := by
    intro l r
    induction r generalizing l with
    | nil => intro h; simpa using h
    | cons x r ih =>
      intro h
      have e : l ++ x :: r = (l ++ [x]) ++ r := by simp
      rw [e]
      refine ih _ ?_
      rw [latest_snoc]
      split
      · right; simp
      · rcases h with h | h
        · left; exact h
        · right; simp [h]
  have h := this [] ks (.inl rfl)
  simpa using h
theorem latest_nonneg {ks : List KRow} (h : ∀ x ∈ ks, 0 < x.seq) (id : Int) : 0 ≤ (latest ks id).seq := by
  rcases latest_mem ks id with e | e
  · rw [e]; exact Int.le_refl _
  · have := h _ e; omega

theorem latest_none (ks : List KRow) (id : Int) (h : ∀ x ∈ ks, x.id ≠ id) : latest ks id = ⟨id, 0, 0, 0, 0⟩ := by
  unfold latest
  have : ∀ (l : List KRow) (z : KRow), (∀ x ∈ l, x.id ≠ id) → l.foldl (fun k x => if x.id = id then x else k) z = z := by
    intro l
    induction l with
    | nil => intro z _; rfl
    | cons x l ih =>
      intro z hl
      rw [List.foldl_cons, if_neg (hl x (by simp))]
      exact ih z (fun y hy => hl y (by simp [hy]))
  exact this ks _ h

theorem Same.start : Same [] 0 [] := ⟨rfl, fun k hk => by simp at hk, fun x hx => by simp at hx, fun x hx => by simp at hx⟩
/-- What a table has may be loaded. -/
theorem Same.good {l : List SRow} {m : Int} {ks : List KRow} (h : Same l m ks) : l.all goodRow = true := by
  rw [List.all_eq_true]
  intro r hr
  obtain ⟨k, hk, rfl⟩ := List.mem_iff_getElem.1 hr
  have e := h.row k hk
  rw [rowAt_succ l k hk] at e
  rcases latest_mem ks ((k : Int) + 1) with z | z
  · rw [e, z]; rfl
  · have := h.pos _ z
    rw [e]
    have hne : ((latest ks ((k : Int) + 1)).row.seq == 0) = false := by
      show ((latest ks ((k : Int) + 1)).seq == 0) = false
      simp; omega
    simp [goodRow, hne]
theorem Same.there {l : List SRow} {m : Int} {ks : List KRow} (h : Same l m ks) (id : Int) : thereK m id = thereB l id := by unfold thereK thereB; rw [h.many]
theorem Same.chk {l : List SRow} {m : Int} {ks : List KRow} (h : Same l m ks) (id seq : Int) : chk (thereK m id) (latest ks id).row seq = chk (thereB l id) (rowAt l id) seq := by
  rw [h.there]
  cases ht : thereB l id with
  | false => rfl
  | true =>
    obtain ⟨k, rfl, hk⟩ := thereB_at l id ht
    rw [h.row k hk]
theorem Same.keepB {l : List SRow} {m : Int} {ks : List KRow} (h : Same l m ks) (id seq : Int) : kkeepB m ks id seq = keepB l id seq := by
  unfold kkeepB Go.Proofs.Ytiakbccomgcncaa.keepB
  rw [h.there]
  cases ht : thereB l id with
  | false => rfl
  | true =>
    obtain ⟨k, rfl, hk⟩ := thereB_at l id ht
    rw [h.row k hk]
    rfl
theorem Same.open {l : List SRow} {m : Int} {ks : List KRow} (h : Same l m ks) : Same (l ++ [SRow.zero]) (m + 1) ks := by
  refine ⟨by rw [h.many]; simp, fun k hk => ?_, fun x hx => ?_, h.pos⟩
  · rcases Nat.lt_or_ge k l.length with hlt | hge
    · rw [rowAt_snoc l _ k hlt]; exact h.row k hlt
    · have : k = l.length := by simp at hk; omega
      subst this
      rw [rowAt_last, latest_none]
      · rfl
      · intro x hx hid
        obtain ⟨j, hj, hxj⟩ := h.ids x hx
        omega
  · obtain ⟨k, hk, he⟩ := h.ids x hx
    exact ⟨k, by simp; omega, he⟩
theorem Same.keep {l : List SRow} {m : Int} {ks : List KRow} (h : Same l m ks) (id seq : Int) (a : SRow) (hk : Go.Proofs.Ytiakbccomgcncaa.keepB l id seq = true) :
    Same (l.set (id - 1).toNat { a with seq := seq }) m (ks ++ [⟨id, seq, a.code, a.sess, a.had⟩]) := by
  have ht : thereB l id = true := by unfold Go.Proofs.Ytiakbccomgcncaa.keepB at hk; simp at hk; exact hk.1
  obtain ⟨k, hid, hkl⟩ := thereB_at l id ht
  have e : (id - 1).toNat = k := by omega
  rw [e]
  refine ⟨by rw [h.many, List.length_set], fun j hj => ?_, fun x hx => ?_, fun x hx => ?_⟩
  · simp at hj
    rw [rowAt_set l k j _ hkl hj, latest_snoc]
    by_cases hkj : k = j
    · subst hkj
      rw [if_pos rfl, if_pos hid]
      rfl
    · rw [if_neg hkj, if_neg (by show ¬ id = _; omega)]
      exact h.row j hj
  · rcases List.mem_append.1 hx with hx | hx
    · obtain ⟨j, hj, he⟩ := h.ids x hx
      exact ⟨j, by simp; exact hj, he⟩
    · simp at hx
      subst hx
      exact ⟨k, by simp; exact hkl, hid⟩
  · rcases List.mem_append.1 hx with hx | hx
    · exact h.pos x hx
    · simp at hx
      subst hx
      have hs : (rowAt l id).seq < seq := by unfold Go.Proofs.Ytiakbccomgcncaa.keepB at hk; simp at hk; exact hk.2
      rw [hid, h.row k hkl] at hs
      have := latest_nonneg h.pos ((k : Int) + 1)
      show 0 < seq
      have e2 : (latest ks ((k : Int) + 1)).row.seq = (latest ks ((k : Int) + 1)).seq := rfl
      omega

theorem fp_lt {w : World} {p : Nat} {v : Value} {l : List SRow} (h : Tab w p v l) : ∀ k, fp p v k → k < w.heap.size := by
  rintro k (rfl | hk)
  · exact h.1.lt
  · exact (h.2.lt k hk).2

/-- Both tables. -/
structure Two (w : World) (p : Nat) (v kv : Value) (l : List SRow) (m : Int) (ks : List KRow) : Prop where
  tab : Tab w p v l
  few : l.length ≤ 4096
  ktab : KTab w kv ks
  same : Same l m ks

/-- What a call leaves. -/
def Done (w : World) (p : Nat) (v kv : Value) (ks : List KRow) (w' : World) (m' : Int) (kv' : Value) : Prop :=
  ∃ v' l' ks', Two w' p v' kv' l' m' ks' ∧ ks'.length ≤ ks.length + 1 ∧ Touch (fp p v) w w' ∧ Fresh w v v' ∧ (∀ g, kv'.ownBlock = some g → kv.ownBlock = some g ∨ w.heap.size ≤ g)

def OpR.val (o : OpR) : Value := .agg #[.int .i64 o.kind, .int .u64 o.id, .int .u64 o.seq, .int .i64 o.code, .int .u64 o.sess, .int .i64 o.had]

theorem Two.quiet {w w' : World} {p : Nat} {v kv : Value} {l : List SRow} {m : Int} {ks : List KRow} (h : Two w p v kv l m ks) (ht : Touch (fun _ => False) w w') : Two w' p v kv l m ks :=
  ⟨h.tab.touch ht (fun f => f) (fun _ _ f => f), h.few, h.ktab.touch ht (fun _ _ f => f), h.same⟩
theorem Two.touch {w w' : World} {p : Nat} {v kv : Value} {l : List SRow} {m : Int} {ks : List KRow} {S : Nat → Prop} (h : Two w p v kv l m ks) (ht : Touch S w w') (h1 : ∀ k, fp p v k → ¬ S k) (h2 : ∀ g, kv.ownBlock = some g → ¬ S g) : Two w' p v kv l m ks :=
  ⟨h.tab.touch ht (h1 p (.inl rfl)) (fun g hg => h1 g (.inr hg)), h.few, h.ktab.touch ht h2, h.same⟩
/-- Stores into a block of another type. -/
theorem Two.far {w w' : World} {p : Nat} {v kv : Value} {l : List SRow} {m : Int} {ks : List KRow} (h : Two w p v kv l m ks) {g : Nat} {cs : Array Value} (hb : Blk w g 42 cs) (ht : Touch (fun k => k = g) w w') : Two w' p v kv l m ks := by
  refine h.touch ht ?_ ?_
  · rintro k (rfl | hk) rfl
    · exact Blk.ne_ h.tab.1 hb (by decide) rfl
    · exact own_blk_ne h.tab.2 hb (by decide) hk
  · rintro k hk rfl
    exact own_blk_ne h.ktab hb (by decide) hk
theorem two_set {S : Nat → Prop} {w w' : World} (h : Touch S w w') {g : Nat} (hg : g < w.heap.size → S g) (a b : Value) : Touch S w ((w'.setCell ⟨g, 0, none⟩ a).setCell ⟨g, 1, none⟩ b) :=
  (h.setCell (p := ⟨g, 0, none⟩) hg a).setCell (p := ⟨g, 1, none⟩) hg b
theorem fp_k {w : World} {p : Nat} {v kv : Value} {l : List SRow} {ks : List KRow} (h : Tab w p v l) (hk : KTab w kv ks) : ∀ g, kv.ownBlock = some g → ¬ fp p v g := by
  rintro g hg (rfl | hf)
  · exact own_blk_ne hk h.1 (by decide) hg
  · exact own_own_ne hk h.2 (by decide) hg hf

set_option maxRecDepth 100000 in
set_option maxHeartbeats 1000000 in
theorem does_open (w : World) (p : Nat) (v kv : Value) (l : List SRow) (m : Int) (ks : List KRow) (h : Two w p v kv l m ks) (o : OpR) (ho : o.kind = 0) :
    Calls Try.prog 15 #[.pointer (some ⟨p, 0, none⟩), kV m kv, o.val] w fun e w' => ∃ m' kv', e = .returned (.tuple #[kV m' kv', .bool true]) ∧ Done w p v kv ks w' m' kv' := by
  obtain ⟨Ak, ck, hkv, _⟩ := own_len h.ktab
  subst hkv
  have HT := hide h
  have hm := h.same.many
  have hfew := h.few
  clear h
  subst hm
  obtain ⟨ok, oi, os, oc, oe, oh⟩ := o
  simp only at ho
  subst ho
  unfold OpR.val kV
  simp only
  by_cases hf : l.length = 4096
  · have hm2 : (4096 : Int) ≤ (l.length : Int) := by omega
    have HF := hide hf
    clear hf
    go_enter Try.func15, Try.ntmps15
    go_wp2_with (first
      | (go_at_call 11; refine (open_full _ p v l (((HT.out.tab.alloc _).alloc _).alloc _) HF.out).mono ?_; rintro e w2 ⟨rfl, rfl⟩)
      | (go_at_call 21; refine (kopen_full _ _ _ ks (((HT.out.ktab.alloc _).alloc _).alloc _) hm2).mono ?_; rintro e w2 ⟨rfl, hc2⟩; have bR := (blk_new2 _ _ _ _ _).touch hc2 (fun f => f); obtain ⟨r1, r2, r3⟩ := bR.facts; have C2 := hide hc2; clear hc2 bR; unfold kV))
    refine bodyPost_ret (v := .tuple #[kV l.length (.slice Ak ks.length ck), .bool true]) (by simp [results, Try.results15, kV, go_sem, r1, r3]) rfl ⟨_, _, rfl, ?_⟩
    have t1 : Touch (fun _ => False) w w2 := (((Touch.refl _ _).alloc _).alloc _).alloc _ |>.then C2.out
    refine ⟨v, l, ks, HT.out.quiet ?_, by omega, Touch.up ?_ _, .inl rfl, fun g hg => .inl hg⟩
    all_goals exact ((t1.setCell (p := ⟨_, _, none⟩) (fun h => by simp at h; omega) _).setCell (p := ⟨_, _, none⟩) (fun h => by simp at h; omega) _).alloc _
  · have HF := hide (show l.length < 4096 by omega)
    have hm2 : (l.length : Int) < 4096 := by omega
    have hm0 : (0 : Int) ≤ (l.length : Int) := by omega
    clear hf hfew
    go_enter Try.func15, Try.ntmps15
    go_wp2_with (first
      | (go_at_call 11; refine (open_room _ p v l (((HT.out.tab.alloc _).alloc _).alloc _) HF.out).mono ?_; rintro e w2 ⟨rfl, v2, ht2, hc2, hf2⟩; have hlt := fp_lt HT.out.tab; have bK := (Blk.touch (((Blk.new w 42 _).alloc _).alloc _) hc2 (fun f => by have := hlt _ f; omega)); have bR := ((blk_new2 _ _ _ _ _).touch hc2 (fun f => by have := hlt _ f; omega)); have BK := hide bK; have BR := hide bR; obtain ⟨r1, r2, r3⟩ := bR.facts; obtain ⟨k1, k2, k3⟩ := bK.facts; have T2 := hide ht2; have C2 := hide hc2; have F2 := hide hf2; clear ht2 hc2 hf2 bK bR hlt)
      | (go_at_call 21; refine (kopen_room _ _ _ ks (((((HT.out.ktab.alloc _).alloc _).alloc _)).touch C2.out (fp_k HT.out.tab HT.out.ktab)) hm0 hm2).mono ?_; rintro e w3 ⟨rfl, hc3⟩; have bR := BR.out.touch hc3 (fun f => f); clear r1 r2 r3; obtain ⟨r1, r2, r3⟩ := bR.facts; have C3 := hide hc3; have BR3 := hide bR; clear hc3 bR; unfold kV))
    refine bodyPost_ret (v := .tuple #[kV ((l.length : Int) + 1) (.slice Ak ks.length ck), .bool true]) (by simp [results, Try.results15, kV, go_sem, r1, r3]) rfl ⟨_, _, rfl, ?_⟩
    have t1 := (((Touch.refl (fun _ => False) w).alloc (.cells #[.int .u64 l.length, .slice Ak ks.length ck] 42)).alloc (.cells #[.int .i64 0, .int .u64 oi, .int .u64 os, .int .i64 oc, .int .u64 oe, .int .i64 oh] 31)).alloc (.cells #[.int .u64 0, .slice none 0 0] 42)
    have hlt := fp_lt HT.out.tab
    have h2 : Two w3 p v2 (.slice Ak ks.length ck) (l ++ [SRow.zero]) ((l.length : Int) + 1) ks := by
      refine ⟨T2.out.touch C3.out (fun f => f) (fun _ _ f => f), by have := HF.out; simp; omega, ?_, HT.out.same.open⟩
      exact ((((HT.out.ktab.alloc _).alloc _).alloc _).touch C2.out (fp_k HT.out.tab HT.out.ktab)).touch C3.out (fun _ _ f => f)
    have t2 : Touch (fp p v) w w3 := (t1.up (fp p v)).trans C2.out (fun _ _ f => f) |>.then (C3.out.up _)
    refine ⟨v2, _, ks, (h2.far BR3.out (two_set (S := fun k => k = w.heap.size + 1 + 1) (Touch.refl _ _) (fun _ => rfl) _ _)).quiet ((Touch.refl _ _).alloc _), by omega, (two_set t2 (fun h => by omega) _ _).alloc _, ?_, fun g hg => .inl hg⟩
    rcases F2.out with f | ⟨g, f, hg⟩
    · exact .inl f
    · exact .inr ⟨g, f, by simp at hg; omega⟩

set_option maxRecDepth 100000 in
set_option maxHeartbeats 1000000 in
theorem does_check (w : World) (p : Nat) (v kv : Value) (l : List SRow) (m : Int) (ks : List KRow) (h : Two w p v kv l m ks) (o : OpR) (ho : o.kind = 1) :
    Calls Try.prog 15 #[.pointer (some ⟨p, 0, none⟩), kV m kv, o.val] w fun e w' => ∃ m' kv', e = .returned (.tuple #[kV m' kv', .bool true]) ∧ Done w p v kv ks w' m' kv' := by
  obtain ⟨Ak, ck, hkv, _⟩ := own_len h.ktab
  subst hkv
  have HT := hide h
  clear h
  obtain ⟨ok, oi, os, oc, oe, oh⟩ := o
  simp only at ho
  subst ho
  unfold OpR.val kV
  simp only
  obtain ⟨⟨rc, rs, rh, rb, re⟩, hR⟩ : ∃ R, R = chk (thereB l oi) (rowAt l oi) os := ⟨_, rfl⟩
  have HR := hide hR.symm
  have HR2 := hide ((HT.out.same.chk oi os).trans hR.symm)
  clear hR
  go_enter Try.func15, Try.ntmps15
  go_wp2_with (first
    | (go_at_call 12; refine (check_any _ p v l (((HT.out.tab.alloc _).alloc _).alloc _) oi os _ HR.out).mono ?_; rintro e w2 ⟨rfl, hc2⟩; have bO := (Blk.touch ((blk_new1 _ _ _ _).alloc _) hc2 (fun f => f)); have bK := (Blk.touch (((Blk.new w 42 _).alloc _).alloc _) hc2 (fun f => f)); have bR := ((blk_new2 _ _ _ _ _).touch hc2 (fun f => f)); have BK := hide bK; have BR := hide bR; obtain ⟨o1, o2, o3⟩ := bO.facts; obtain ⟨k1, k2, k3⟩ := bK.facts; have C2 := hide hc2; clear hc2 bK bR bO; unfold CRes.val)
    | (go_at_call 22; refine (kcheck_any _ _ _ ks ((((((HT.out.ktab.alloc _).alloc _).alloc _)).touch C2.out (fun _ _ f => f)).alloc _) oi os _ HR2.out).mono ?_; rintro e w3 ⟨rfl, hc3⟩; have bR := (BR.out.alloc _).touch hc3 (fun f => f); have bK := (BK.out.alloc _).touch hc3 (fun f => f); have bA := (Blk.new w2 29 _).touch hc3 (fun f => f); obtain ⟨r1, r2, r3⟩ := bR.facts; obtain ⟨x1, x2, x3⟩ := bK.facts; obtain ⟨a1, a2, a3⟩ := bA.facts; have C3 := hide hc3; have BR3 := hide bR; clear hc3 bR bK bA o1 o2 o3 k1 k2 k3; unfold CRes.val))
  go_region
  go_wp2
  refine bodyPost_ret (v := .tuple #[kV m (.slice Ak ks.length ck), .bool true]) (by simp [results, Try.results15, kV, go_sem, r1, r3]) rfl ⟨_, _, rfl, ?_⟩
  have t1 : Touch (fun _ => False) w w3 := (((((Touch.refl _ _).alloc _).alloc _).alloc _).then C2.out |>.alloc _).then C3.out
  refine ⟨v, l, ks, (((HT.out.quiet t1).far BR3.out (two_set (S := fun k => k = w.heap.size + 1 + 1) (Touch.refl _ _) (fun _ => rfl) _ _)).quiet (((Touch.refl _ _).alloc _).drew)), by omega, ((two_set (t1.up _) (fun h => by omega) _ _).alloc _).drew, .inl rfl, fun g hg => .inl hg⟩

set_option maxRecDepth 100000 in
set_option maxHeartbeats 1000000 in
theorem does_else (w : World) (p : Nat) (v kv : Value) (l : List SRow) (m : Int) (ks : List KRow) (h : Two w p v kv l m ks) (o : OpR) (h0 : o.kind ≠ 0) (h1 : o.kind ≠ 1) (h2 : o.kind ≠ 2) :
    Calls Try.prog 15 #[.pointer (some ⟨p, 0, none⟩), kV m kv, o.val] w fun e w' => ∃ m' kv', e = .returned (.tuple #[kV m' kv', .bool true]) ∧ Done w p v kv ks w' m' kv' := by
  obtain ⟨Ak, ck, hkv, _⟩ := own_len h.ktab
  subst hkv
  have HT := hide h
  clear h
  obtain ⟨ok, oi, os, oc, oe, oh⟩ := o
  simp only at h0 h1 h2
  have b0 : (ok == 0) = false := by simpa using h0
  have b1 : (ok == 1) = false := by simpa using h1
  have b2 : (ok == 2) = false := by simpa using h2
  clear h0 h1 h2
  unfold OpR.val kV
  simp only
  go_enter Try.func15, Try.ntmps15
  go_wp2
  refine bodyPost_ret (v := .tuple #[kV m (.slice Ak ks.length ck), .bool true]) (by simp [results, Try.results15, kV, go_sem]) rfl ⟨_, _, rfl, ?_⟩
  have t1 := fun X Y Z => (((Touch.refl (fun _ => False) w).alloc X).alloc Y).alloc Z
  exact ⟨v, l, ks, HT.out.quiet (t1 _ _ _), by omega, (t1 _ _ _).up _, .inl rfl, fun g hg => .inl hg⟩

set_option maxRecDepth 100000 in
set_option maxHeartbeats 1000000 in
theorem does_keep (w : World) (p : Nat) (v kv : Value) (l : List SRow) (m : Int) (ks : List KRow) (h : Two w p v kv l m ks) (hks : ks.length ≤ 20000) (o : OpR) (ho : o.kind = 2) :
    Calls Try.prog 15 #[.pointer (some ⟨p, 0, none⟩), kV m kv, o.val] w fun e w' => ∃ m' kv', e = .returned (.tuple #[kV m' kv', .bool true]) ∧ Done w p v kv ks w' m' kv' := by
  obtain ⟨Ak, ck, hkv, _⟩ := own_len h.ktab
  subst hkv
  have HT := hide h
  clear h
  obtain ⟨ok, oi, os, oc, oe, oh⟩ := o
  simp only at ho
  subst ho
  unfold OpR.val kV
  simp only
  cases hkb : keepB l oi os with
  | false =>
    have HK := hide hkb
    have HK2 := hide ((HT.out.same.keepB oi os).trans hkb)
    clear hkb
    go_enter Try.func15, Try.ntmps15
    go_wp2_with (first
      | (go_at_call 13; refine (keep_no _ p v l (((HT.out.tab.alloc _).alloc _).alloc _) oi os ⟨0, oc, oe, oh⟩ HK.out).mono ?_; rintro e w2 ⟨rfl, hc2⟩; have bO := (Blk.touch ((blk_new1 _ _ _ _).alloc _) hc2 (fun f => f)); have bK := (Blk.touch (((Blk.new w 42 _).alloc _).alloc _) hc2 (fun f => f)); have bR := ((blk_new2 _ _ _ _ _).touch hc2 (fun f => f)); have BK := hide bK; have BR := hide bR; obtain ⟨o1, o2, o3⟩ := bO.facts; obtain ⟨k1, k2, k3⟩ := bK.facts; have C2 := hide hc2; clear hc2 bK bR bO)
      | (go_at_call 23; refine (kkeep_no _ _ _ ks ((((HT.out.ktab.alloc _).alloc _).alloc _).touch C2.out (fun _ _ f => f)) oi os ⟨0, oc, oe, oh⟩ HK2.out).mono ?_; rintro e w3 ⟨rfl, hc3⟩; have bR := BR.out.touch hc3 (fun f => f); obtain ⟨r1, r2, r3⟩ := bR.facts; have C3 := hide hc3; have BR3 := hide bR; clear hc3 bR o1 o2 o3 k1 k2 k3; unfold kV))
    refine bodyPost_ret (v := .tuple #[kV m (.slice Ak ks.length ck), .bool true]) (by simp [results, Try.results15, kV, go_sem, r1, r3]) rfl ⟨_, _, rfl, ?_⟩
    have t1 : Touch (fun _ => False) w w3 := ((((Touch.refl _ _).alloc _).alloc _).alloc _).then C2.out |>.then C3.out
    refine ⟨v, l, ks, (((HT.out.quiet t1).far BR3.out (two_set (S := fun k => k = w.heap.size + 1 + 1) (Touch.refl _ _) (fun _ => rfl) _ _)).quiet ((Touch.refl _ _).alloc _)), by omega, (two_set (t1.up _) (fun h => by omega) _ _).alloc _, .inl rfl, fun g hg => .inl hg⟩
  | true =>
    have HK := hide hkb
    have HK2 := hide ((HT.out.same.keepB oi os).trans hkb)
    clear hkb
    go_enter Try.func15, Try.ntmps15
    go_wp2_with (first
      | (go_at_call 13; refine (keep_yes _ p v l (((HT.out.tab.alloc _).alloc _).alloc _) oi os ⟨0, oc, oe, oh⟩ HK.out).mono ?_; rintro e w2 ⟨rfl, ht2, hc2⟩; have hlt := fp_lt HT.out.tab; have bO := (Blk.touch ((blk_new1 _ _ _ _).alloc _) hc2 (fun f => by have := hlt _ f; omega)); have bK := (Blk.touch (((Blk.new w 42 _).alloc _).alloc _) hc2 (fun f => by have := hlt _ f; omega)); have bR := ((blk_new2 _ _ _ _ _).touch hc2 (fun f => by have := hlt _ f; omega)); have BK := hide bK; have BR := hide bR; obtain ⟨o1, o2, o3⟩ := bO.facts; obtain ⟨k1, k2, k3⟩ := bK.facts; have C2 := hide hc2; have T2 := hide ht2; clear hc2 bK bR bO ht2 hlt)
      | (go_at_call 23; refine (kkeep_yes _ _ _ ks ((((HT.out.ktab.alloc _).alloc _).alloc _).touch C2.out (fp_k HT.out.tab HT.out.ktab)) hks oi os ⟨0, oc, oe, oh⟩ HK2.out).mono ?_; rintro e w3 ⟨kv3, rfl, hk3, hc3, hf3⟩; have bR := BR.out.touch hc3 (fun f => f); obtain ⟨r1, r2, r3⟩ := bR.facts; have C3 := hide hc3; have BR3 := hide bR; have K3 := hide hk3; have F3 := hide hf3; obtain ⟨A3, c3, hkv3, _⟩ := own_len hk3; clear hc3 bR o1 o2 o3 k1 k2 k3 hk3 hf3; subst hkv3; unfold kV))
    refine bodyPost_ret (v := .tuple #[kV m (.slice A3 _ c3), .bool true]) (by simp [results, Try.results15, kV, go_sem, r1, r3]; rfl) rfl ⟨_, _, rfl, ?_⟩
    have t1 : Touch (fp p v) w w3 := ((((Touch.refl _ _).alloc _).alloc _).alloc _).trans C2.out (fun _ _ f => f) |>.then (C3.out.up _)
    obtain ⟨kr, hkr⟩ : ∃ kr : KRow, kr = ⟨oi, os, oc, oe, oh⟩ := ⟨_, rfl⟩
    have h2 : Two w3 p v (.slice A3 (ks.length + 1) c3) (l.set (oi - 1).toNat { (⟨0, oc, oe, oh⟩ : SRow) with seq := os }) m (ks ++ [kr]) := by
      have K4 := K3.out
      rw [← hkr] at K4
      rw [show (ks ++ [kr]).length = ks.length + 1 from by simp] at K4
      have hs := HT.out.same.keep oi os ⟨0, oc, oe, oh⟩ HK.out
      rw [← hkr] at hs
      exact ⟨T2.out.touch C3.out (fun f => f) (fun _ _ f => f), by rw [List.length_set]; exact HT.out.few, K4, hs⟩
    have hl : (ks ++ [kr]).length ≤ ks.length + 1 := by simp
    subst hkr
    refine ⟨v, _, _, (h2.far BR3.out (two_set (S := fun k => k = w.heap.size + 1 + 1) (Touch.refl _ _) (fun _ => rfl) _ _)).quiet ((Touch.refl _ _).alloc _), hl, (two_set t1 (fun h => by omega) _ _).alloc _, .inl rfl, fun g hg => .inr ?_⟩
    have s1 := F3.out g (by cases A3 <;> exact hg)
    have s2 := C2.out.size
    simp at s2
    omega

theorem does_any (w : World) (p : Nat) (v kv : Value) (l : List SRow) (m : Int) (ks : List KRow) (h : Two w p v kv l m ks) (hks : ks.length ≤ 20000) (o : OpR) :
    Calls Try.prog 15 #[.pointer (some ⟨p, 0, none⟩), kV m kv, o.val] w fun e w' => ∃ m' kv', e = .returned (.tuple #[kV m' kv', .bool true]) ∧ Done w p v kv ks w' m' kv' := by
  by_cases h0 : o.kind = 0
  · exact does_open w p v kv l m ks h o h0
  by_cases h1 : o.kind = 1
  · exact does_check w p v kv l m ks h o h1
  by_cases h2 : o.kind = 2
  · exact does_keep w p v kv l m ks h hks o h2
  · exact does_else w p v kv l m ks h o h0 h1 h2

end Go.Proofs.Ytiakbccomgcncaa
