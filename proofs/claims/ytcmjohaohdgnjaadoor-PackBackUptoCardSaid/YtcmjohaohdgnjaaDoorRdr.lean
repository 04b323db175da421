/- codec.Reader: a number read. No condition. -/
import Derived.Test.YtcmjohaohdgnjaaDoorNumW
import Derived.Laws.Cover3
namespace Go.Proofs.YtcmjohaohdgnjaaDoor
open Go.RowKit

/-- A reader in memory: what is not read, and how it has failed. -/
structure Rdr (w : World) (p : Nat) (A : Option Addr) (n c : Nat) (bs : List UInt8) (e : Int) : Prop where
  blk : Blk w p 102 #[.slice A n c, .int .i64 e]
  rd : RdT w 5 1 A n (bs.map byteV)
  len : bs.length = n
  le : n ≤ c
  mx : c ≤ maxLen
theorem Rdr.touch {w w' : World} {p : Nat} {A : Option Addr} {n c : Nat} {bs : List UInt8} {e : Int} {S : Nat → Prop} (h : Rdr w p A n c bs e) (T : Touch S w w') (h1 : ¬ S p) (h2 : ∀ g, TyAt w g 5 → ¬ S g) : Rdr w' p A n c bs e :=
  ⟨h.blk.touch T h1, h.rd.touch T h2, h.len, h.le, h.mx⟩
theorem Rdr.quiet {w w' : World} {p : Nat} {A : Option Addr} {n c : Nat} {bs : List UInt8} {e : Int} (h : Rdr w p A n c bs e) (T : Touch (fun _ => False) w w') : Rdr w' p A n c bs e := h.touch T (fun f => f) (fun _ _ f => f)
theorem Rdr.fail {w : World} {p : Nat} {A : Option Addr} {n c : Nat} {bs : List UInt8} {e : Int} (h : Rdr w p A n c bs e) (k : Int) : Rdr (w.setCell ⟨p, 1, none⟩ (.int .i64 k)) p A n c bs k :=
  ⟨h.blk.set_ 1 _, h.rd.touch ((Touch.refl (fun g => g = p) w).setCell (fun _ => rfl) _) (fun _ hg e => hg.ne (blk_ty h.blk) (by decide) e), h.len, h.le, h.mx⟩
theorem Rdr.step {w : World} {p : Nat} {A : Option Addr} {n c : Nat} {bs : List UInt8} {e : Int} (h : Rdr w p A n c bs e) {k : Nat} (hk : k ≤ n) :
    Rdr (w.setCell ⟨p, 0, none⟩ (.slice (if c = k then A else A.map (·.add k)) (n - k) (c - k))) p (if c = k then A else A.map (·.add k)) (n - k) (c - k) (bs.drop k) e := by
  have T : Touch (fun g => g = p) w (w.setCell ⟨p, 0, none⟩ (.slice (if c = k then A else A.map (·.add k)) (n - k) (c - k))) := (Touch.refl (fun g => g = p) w).setCell (fun _ => rfl) _
  have hr := h.rd.touch T (fun _ hg e => hg.ne (blk_ty h.blk) (by decide) e)
  refine ⟨h.blk.set_ 0 _, ⟨?_, ?_⟩, by rw [List.length_drop, h.len], by have := h.le; omega, by have := h.mx; omega⟩
  · have := hr.rd.cut hk h.le
    rw [Nat.mul_one] at this
    rw [List.map_drop]
    exact this
  · intro hn g hg
    refine hr.ty (by omega) g ?_
    split at hg
    · exact hg
    · cases A with
      | none => cases hg
      | some a =>
        simp only [adBlock, Option.map_some, Option.some.injEq] at hg ⊢
        rw [← hg]
        unfold Addr.add
        split <;> rfl
/-- What a Uint that has not failed before leaves. -/
def UintPost (p most : Nat) (A : Option Addr) (n c : Nat) (bs : List UInt8) (w : World) (e : Ending) (w' : World) : Prop :=
  (∃ (v : Nat) (t : List UInt8) (A' : Option Addr) (n' c' : Nat), uintR most bs = some (v, t) ∧ e = .returned (.int .u64 v) ∧ Rdr w' p A' n' c' t 0 ∧ Touch (fun g => g = p) w w') ∨
  (uintR most bs = none ∧ e = .returned (.int .u64 0) ∧ ∃ k : Int, 1 ≤ k ∧ Rdr w' p A n c bs k ∧ Touch (fun g => g = p) w w')

set_option maxRecDepth 100000 in
set_option maxHeartbeats 4000000 in
theorem uint_ok (w : World) (p : Nat) (A : Option Addr) (n c : Nat) (bs : List UInt8) (h : Rdr w p A n c bs 0) (most : Nat) :
    Calls Tryd.prog 35 #[.pointer (some ⟨p, 0, none⟩), .int .u64 most] w fun e w' => UintPost p most A n c bs w e w' := by
  have HR := hide h
  have hnm : n ≤ maxLen := Nat.le_trans h.le h.mx
  have HN := hide (number_any w A n c bs h.rd.rd h.len hnm)
  obtain ⟨f0, f1, f2⟩ := h.blk.facts
  have hle := h.le
  have hmx := h.mx
  unfold maxLen at hmx
  clear h hnm
  go_enter Tryd.func35, Tryd.ntmps35
  go_wp2_with fail
  refine HN.out.mono ?_
  rintro e w1 ⟨hnv, rfl⟩
  rcases hnv with ⟨v, k, t, h1, h2, hk0, hk, rfl⟩ | ⟨h1, c', hc', rfl⟩
  · rw [HR.out.len] at hk
    by_cases hm : v ≤ most
    · have hu : uintR most bs = some (v, t) := by
        unfold uintR
        rw [h1]
        simp only
        rw [if_pos hm]
      have y0 : ¬ (most : Int) < (v : Int) := by omega
      have hst := HR.out.step hk
      rw [← h2] at hst
      have HST := hide hst
      have HU := hide hu
      obtain ⟨g, o, hA, _, _⟩ := HR.out.rd.rd.form (by omega)
      subst hA
      clear h1 h2 hst hu hm
      by_cases hck : c = k
      · rw [if_pos hck] at HST
        subst hck
        have hnc : n = c := by omega
        subst hnc
        simp only [Nat.sub_self] at HST
        go_wp2_with fail
        go_ret
        exact .inl ⟨v, t, _, _, _, HU.out, rfl, HST.out, (Touch.refl (fun g => g = p) w1).setCell (fun _ => rfl) _⟩
      · rw [if_neg hck] at HST
        simp only [Option.map_some, Addr.add_lit] at HST
        have hck1 : ¬ (c : Int) = (k : Int) := by omega
        go_wp2_with fail
        go_ret
        exact .inl ⟨v, t, _, _, _, HU.out, rfl, HST.out, (Touch.refl (fun g => g = p) w1).setCell (fun _ => rfl) _⟩
    · have hu : uintR most bs = none := by
        unfold uintR
        rw [h1]
        simp only
        rw [if_neg hm]
      have y0 : (most : Int) < (v : Int) := by omega
      have HU := hide hu
      clear h1 h2 hu hm
      go_wp2_with fail
      go_ret
      exact .inr ⟨HU.out, rfl, 22, by decide, HR.out.fail 22, (Touch.refl (fun g => g = p) w1).setCell (fun _ => rfl) _⟩
  · have hu : uintR most bs = none := by
      unfold uintR
      rw [h1]
    have HU := hide hu
    have y0 : (c' == 0) = false := by simp; omega
    have y1 : ¬ c' = 0 := by omega
    clear h1 hu
    go_wp2_with fail
    go_ret
    exact .inr ⟨HU.out, rfl, c', by omega, HR.out.fail c', (Touch.refl (fun g => g = p) w1).setCell (fun _ => rfl) _⟩

set_option maxRecDepth 100000 in
theorem uint_no (w : World) (p : Nat) (A : Option Addr) (n c : Nat) (bs : List UInt8) (k : Int) (h : Rdr w p A n c bs k) (hk : 1 ≤ k) (most : Nat) :
    Calls Tryd.prog 35 #[.pointer (some ⟨p, 0, none⟩), .int .u64 most] w fun e w' => e = .returned (.int .u64 0) ∧ w' = w := by
  obtain ⟨f0, f1, f2⟩ := h.blk.facts
  have y0 : (k == 0) = false := by simp; omega
  have y1 : ¬ k = 0 := by omega
  clear h
  go_enter Tryd.func35, Tryd.ntmps35
  go_wp2_with fail
  go_ret
  exact ⟨rfl, rfl⟩
set_option maxRecDepth 100000 in
theorem err_any (w : World) (p : Nat) (A : Option Addr) (n c : Nat) (bs : List UInt8) (k : Int) (h : Rdr w p A n c bs k) :
    Calls Tryd.prog 36 #[.pointer (some ⟨p, 0, none⟩)] w fun e w' => e = .returned (.int .i64 k) ∧ w' = w := by
  obtain ⟨f0, f1, f2⟩ := h.blk.facts
  clear h
  go_enter Tryd.func36, Tryd.ntmps36
  go_wp2_with fail
  go_ret
  exact ⟨rfl, rfl⟩
set_option maxRecDepth 100000 in
theorem left_any (w : World) (p : Nat) (A : Option Addr) (n c : Nat) (bs : List UInt8) (k : Int) (h : Rdr w p A n c bs k) :
    Calls Tryd.prog 56 #[.pointer (some ⟨p, 0, none⟩)] w fun e w' => e = .returned (.int .i64 n) ∧ w' = w := by
  obtain ⟨f0, f1, f2⟩ := h.blk.facts
  clear h
  go_enter Tryd.func56, Tryd.ntmps56
  go_wp2_with fail
  go_ret
  exact ⟨rfl, rfl⟩
/-- What End says: nothing amiss, and nothing left. -/
def EndV (n : Nat) (k x : Int) : Prop := (x = 0 ↔ k = 0 ∧ n = 0)
set_option maxRecDepth 100000 in
theorem end_any (w : World) (p : Nat) (A : Option Addr) (n c : Nat) (bs : List UInt8) (k : Int) (h : Rdr w p A n c bs k) :
    Calls Tryd.prog 38 #[.pointer (some ⟨p, 0, none⟩)] w fun e w' => ∃ x : Int, e = .returned (.int .i64 x) ∧ EndV n k x ∧ w' = w := by
  obtain ⟨f0, f1, f2⟩ := h.blk.facts
  clear h
  have hc : (k = 0 ∧ 0 < n) ∨ (k = 0 ∧ n = 0) ∨ k ≠ 0 := by omega
  go_enter Tryd.func38, Tryd.ntmps38
  rcases hc with ⟨rfl, hn⟩ | ⟨rfl, rfl⟩ | hk
  · have y0 : (0 : Int) < (n : Int) := by omega
    go_wp2_with fail
    go_ret
    exact ⟨23, rfl, by unfold EndV; omega, rfl⟩
  · go_wp2_with fail
    go_ret
    exact ⟨0, rfl, by unfold EndV; omega, rfl⟩
  · have y0 : (k == 0) = false := by simp; omega
    go_wp2_with fail
    go_ret
    exact ⟨k, rfl, by unfold EndV; omega, rfl⟩
theorem own_nought8 (w : World) (e : TypeId) (size : Nat) : (w.alloc (.cells #[] e)).ownsRow 0 e size (.slice (some ⟨w.heap.size, 0, none⟩) 0 0) 0 [] :=
  ⟨by simp, .inr ⟨w.heap.size, 0, #[], rfl, Nat.zero_le _, heap_alloc_new _ _, Nat.le_refl _, Nat.zero_le _, by simp, by simp⟩⟩
theorem run_eql_bytes (w : World) (a : Option Addr) (l c : Nat) : (binOp .eql 32 (.slice a l c) (.slice none 0 0)).run Tryd.prog w = .ok (.bool a.isNone) w := by
  simp only [binOp]
  simp [run_equal_slice_nil (P := Tryd.prog) w 32 5 a l c Tryd.underlying32]
set_option maxRecDepth 100000 in
set_option maxHeartbeats 1000000 in
theorem clone8_any (w : World) (A : Option Addr) (n c : Nat) (bs : List UInt8) (hr : Reads w 1 A n (bs.map byteV)) (hl : bs.length = n) (hn : n ≤ 35184372088832) :
    Calls Tryd.prog 54 #[.slice A n c] w fun e w' => ∃ (A' : Option Addr) (n' c' : Nat), e = .returned (.slice A' n' c') ∧ n' = n ∧ ONx 5 1 w w' (.slice A' n' c') n' (bs.map byteV) := by
  cases A with
  | none =>
    have h0 : n = 0 := by
      rcases Nat.eq_zero_or_pos n with h | h
      · exact h
      · obtain ⟨b, o, hA, _⟩ := hr.2 h
        cases hA
    subst h0
    have : bs = [] := List.length_eq_zero_iff.1 hl
    subst this
    have hmn := fun wx => run_eql_bytes wx none 0 c
    clear hl hr hn
    go_enter Tryd.func54, Tryd.ntmps54
    go_wp2_with fail
    go_ret
    exact ⟨none, 0, 0, rfl, rfl, ONx.nil _ _ _⟩
  | some a =>
    obtain ⟨i1, hi1, hy0, hy1, hy2⟩ := info_parts infoByte
    have HC := hide (onecell_bytes bs)
    have hO := own_nought8 w 5 1
    have HO := hide hO
    have hT : Touch (fun _ => False) w (w.alloc (.cells #[] 5)) := (Touch.refl _ _).alloc _
    have HT := hide hT
    have hb1 : 0 + n ≤ maxLen := by unfold maxLen; omega
    have hb2 : (0 + n) * 1 ≤ 140737488355328 := by omega
    have HB := hide (And.intro hb1 hb2)
    have HRD := hide (hr.touch hT (fun _ _ f => f))
    have hmn := fun wx => run_eql_bytes wx (some a) n c
    clear hr hO hT hb1 hb2 hn hl
    go_enter Tryd.func54, Tryd.ntmps54
    go_wp2_with (at_builtin; refine wpList_app _ rfl (.tmp 5) (.tmp 6) 32 rfl 5 i1 _ 1 1 Tryd.underlying32 hi1 hy0 hy1 hy2 rfl (by decide) (.slice (some ⟨w.heap.size, 0, none⟩) 0 0) 0 _ rfl HO.out (some a) n c (bs.map byteV) rfl HRD.out (fun h => by cases h) HC.out HB.out.1 HB.out.2 ?_; intro v1 w10 O10 G10 F10 _; rw [Nat.zero_add, List.nil_append] at O10; obtain ⟨A2, c2, hv, _, _⟩ := own_len O10; subst hv; have HO10 := hide O10; have HG := hide G10; have HF := hide F10; clear O10 G10 F10)
    go_ret
    refine ⟨A2, n, c2, rfl, rfl, HO10.out, HT.out.trans ((Touch.refl (fun y => y = w.heap.size) _).grown HG.out (fun k hk _ => by injection hk with hk; exact hk.symm)) (fun i hi e => by omega), fun g hg2 => ?_⟩
    rcases HF.out with h | ⟨g2, h, hle⟩
    · rw [hg2] at h
      injection h with h
      have h2 : g = w.heap.size := h
      omega
    · rw [hg2] at h
      injection h with h
      have := HT.out.size
      omega
set_option maxRecDepth 100000 in
theorem read_any (w : World) (A : Option Addr) (n c : Nat) (bs : List UInt8) (hr : Reads w 1 A n (bs.map byteV)) (hl : bs.length = n) (hn : n ≤ 35184372088832) :
    Calls Tryd.prog 34 #[.slice A n c] w fun e w' => ∃ (p : Nat) (A' : Option Addr) (n' c' : Nat), e = .returned (.pointer (some ⟨p, 0, none⟩)) ∧ Rdr w' p A' n' c' bs 0 ∧ w.heap.size ≤ p ∧ Touch (fun _ => False) w w' := by
  have HC := hide (clone8_any w A n c bs hr hl hn)
  have HL := hide hl
  clear hr hl
  go_enter Tryd.func34, Tryd.ntmps34
  go_wp2_with fail
  refine HC.out.mono ?_
  rintro e w1 ⟨A', n', c', rfl, hn', hx⟩
  subst hn'
  have HX := hide hx
  have HXT := hide hx.touch
  clear hx
  go_wp2_with fail
  go_ret
  refine ⟨_, A', _, c', rfl, ⟨Blk.new _ _ _, (RdT.of_own HX.out.own).quiet ((Touch.refl _ _).alloc _), HL.out, ?_, ?_⟩, HXT.out.size, HXT.out.alloc _⟩
  · have := own_slice HX.out.own; omega
  · have := own_slice HX.out.own; omega

end Go.Proofs.YtcmjohaohdgnjaaDoor
