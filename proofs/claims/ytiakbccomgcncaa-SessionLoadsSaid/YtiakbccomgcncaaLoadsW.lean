/- SessionLoads's walk: it returns true at every list of rows. No condition. -/
import Derived.Test.YtiakbccomgcncaaSessL
import Derived.Test.YtiakbccomgcncaaFrame
import Derived.BigQuiet
import Derived.Deep.QuietTactic
namespace Go.Proofs.Ytiakbccomgcncaa
open Go.RowKit Go.ChangeShapes Go.WideShapes Go.ChangeAt

instance : Inhabited SRow := ⟨SRow.zero⟩

/-- The four cells of a row that came in. -/
theorem srow_at {w : World} {A : Option Addr} {n : Nat} {l : List SRow} (h : Reads w 4 A n (rowCells l)) (hl : n = l.length) (k : Nat) (hk : k < n) :
    ∃ b off, A = some ⟨b, off, none⟩ ∧ b < w.heap.size ∧ w.cell? ⟨b, off + k * 4, none⟩ = some (.int .u64 (l.getD k SRow.zero).seq) ∧ w.cell? ⟨b, off + k * 4 + 1, none⟩ = some (.int .i64 (l.getD k SRow.zero).code) ∧
      w.cell? ⟨b, off + k * 4 + 2, none⟩ = some (.int .u64 (l.getD k SRow.zero).sess) ∧ w.cell? ⟨b, off + k * 4 + 3, none⟩ = some (.int .i64 (l.getD k SRow.zero).had) := by
  obtain ⟨b, off, hA, hb, hc⟩ := h.form (by omega)
  have hkl : k < l.length := by omega
  have e : l.getD k SRow.zero = l[k] := by simp [List.getD, hkl]
  rw [e]
  have key : ∀ j, j < 4 → ∀ u, (l[k].cells)[j]? = some u → w.cell? ⟨b, off + k * 4 + j, none⟩ = some u := fun j hj u hu => by
    rw [Nat.add_assoc]
    exact hc _ u (by rw [← hu]; exact flat_at SRow.cells 4 (fun _ => rfl) l k j hkl hj)
  exact ⟨b, off, hA, hb, key 0 (by omega) _ rfl, key 1 (by omega) _ rfl, key 2 (by omega) _ rfl, key 3 (by omega) _ rfl⟩

theorem load_all (w : World) (A : Option Addr) (n c : Nat) (l : List SRow) (hl : n = l.length) (hr : Reads w 4 A n (rowCells l)) (hA : A = none → n = 0 ∧ c = 0) (hm : n ≤ 9223372036854775807) :
    Calls Try.prog 18 #[.slice A n c] w fun e w' => ∃ tv ok, e = .returned (.tuple #[tv, .bool ok]) ∧ Touch (fun _ => False) w w' ∧ ok = (decide (n ≤ 4096) && l.all goodRow) ∧
      ((ok = false ∧ tv = .pointer none) ∨ (ok = true ∧ ∃ q v', tv = .pointer (some ⟨q, 0, none⟩) ∧ Tab w' q v' l)) := by
  by_cases hn : n ≤ 4096
  · refine (load_any w A n c l hl hr hA hn).mono ?_
    rintro e w' ⟨ht, h | ⟨h, q, v', rfl, htab, _, _⟩⟩
    · obtain ⟨h, rfl⟩ := h
      exact ⟨_, _, rfl, ht, by rw [h]; simp, .inl ⟨rfl, rfl⟩⟩
    · exact ⟨_, _, rfl, ht, by rw [h]; simp [hn], .inr ⟨rfl, q, v', rfl, htab⟩⟩
  · refine (load_many w A n c (by omega) hm).mono ?_
    rintro e w' ⟨rfl, ht⟩
    exact ⟨_, _, rfl, ht, by simp [hn], .inl ⟨rfl, rfl⟩⟩

def loadsAt (n : Nat) (l : List SRow) (w : World) (u i : Value) (wr : World) : Prop :=
  ∃ (k : Nat) (b : Bool), k ≤ n ∧ i = .int .i64 k ∧ u = .bool b ∧ b = (decide (n ≤ 4096) && (l.take k).all goodRow) ∧ Touch (fun _ => False) w wr

theorem take_all_snoc (l : List SRow) (k : Nat) (hk : k < l.length) : (l.take (k + 1)).all goodRow = ((l.take k).all goodRow && goodRow (l.getD k SRow.zero)) := by
  have e : l.getD k SRow.zero = l[k] := by simp [List.getD, hk]
  rw [List.take_succ_eq_append_getElem hk, List.all_append, e]
  simp

set_option maxRecDepth 100000 in
set_option maxHeartbeats 1000000 in
theorem loads_walk (w : World) (A : Option Addr) (n c : Nat) (l : List SRow) (hl : n = l.length) (hr : Reads w 4 A n (rowCells l)) (hA : A = none → n = 0 ∧ c = 0) (hm : n ≤ 9223372036854775807) :
    Calls Try.prog 7 #[.slice A n c] w fun e w' => e = .returned (.bool true) ∧ Touch (fun _ => False) w w' := by
  have q23n : ∀ (w : World) (a : Addr), (binOp .neq 23 (.pointer (some a)) (.pointer none)).run Try.prog w = .ok (.bool true) w := fun w a => by kernel_rfl
  have q23z : ∀ (w : World), (binOp .neq 23 (.pointer none) (.pointer none)).run Try.prog w = .ok (.bool false) w := fun w => by kernel_rfl
  have HL := hide hl
  have HR := hide hr
  have HA := hide hA
  clear hl hr hA
  go_enter Try.func7, Try.ntmps7
  go_wp2_with (go_at_call 18; refine (load_all _ A n c l HL.out HR.out HA.out hm).mono ?_; rintro e w1 ⟨tv, ok, rfl, hc1, hok, hor⟩; have C1 := hide hc1; have HOK := hide hok; have HOR := hide hor; clear hc1 hok hor)
  go_loopw [5, 20] (fun u i wr => loadsAt n l w1 u i wr) (fun _ i _ => n - (intOf i).toNat)
  case atStart => exact ⟨0, _, Nat.zero_le _, rfl, rfl, by simp; omega, Touch.refl _ _⟩
  case round =>
    obtain ⟨k, b, hk, rfl, rfl, hb, hT⟩ := hrel
    have HB := hide hb
    have HT := hide hT
    clear hb hT
    by_cases hkn : k < n
    · obtain ⟨bb, off, hA', hbl, c0, c1, c2, c3⟩ := srow_at (HR.out.touch (C1.out.then HT.out) (fun _ _ f => f)) HL.out k hkn
      subst hA'
      have HS := hide (take_all_snoc l k (by have := HL.out; omega))
      obtain ⟨⟨rs, rc, rr, rh⟩, hrr⟩ : ∃ r, r = l.getD k SRow.zero := ⟨_, rfl⟩
      rw [← hrr] at c0 c1 c2 c3 HS
      clear hrr
      simp only at c0 c1 c2 c3
      by_cases h0 : rs = 0
      · subst h0
        by_cases hz : rc = 0 ∧ rr = 0 ∧ rh = 0
        · obtain ⟨rfl, rfl, rfl⟩ := hz
          go_wp2
          go_roundw
          case rel => exact ⟨k + 1, b, by omega, by go_num, rfl, by rw [HS.out, HB.out]; simp [goodRow, SRow.zero], HT.out.alloc _⟩
          case measure => simp [intOf]; omega
        · have HZ := hide hz
          clear hz
          go_wp2
          all_goals first
            | (have e1 : rc = 0 := by assumption
               have e2 : rr = 0 := by assumption
               have e3 : rh = 0 := by assumption
               exact absurd ⟨e1, e2, e3⟩ HZ.out)
            | (go_roundw
               case rel => exact ⟨k + 1, false, by omega, by go_num, rfl, by rw [HS.out]; simp [goodRow, SRow.zero]; intros; have := HZ.out; simp_all, HT.out.alloc _⟩
               case measure => simp [intOf]; omega)
      · have b0 : (rs == 0) = false := by simpa using h0
        go_wp2
        go_roundw
        case rel => exact ⟨k + 1, b, by omega, by go_num, rfl, by rw [HS.out, HB.out]; simp [goodRow, b0], HT.out.alloc _⟩
        case measure => simp [intOf]; omega
    · have hbo : b = ok := by
        rw [HB.out, HOK.out, List.take_of_length_le (by have := HL.out; omega)]
      subst hbo
      rcases HOR.out with ⟨rfl, rfl⟩ | ⟨rfl, q, v', rfl, htab⟩
      · go_wp2_with (go_at_call 10; refine (alive_any _).mono ?_; rintro e w2 ⟨rfl, hc2⟩; have C2 := hide hc2; clear hc2)
        go_ret
        exact ⟨rfl, (C1.out.then HT.out).then C2.out⟩
      · have hn4 : n ≤ 4096 := by have := HOK.out; simp at this; exact this.1
        have TAB := hide (htab.touch HT.out (fun f => f) (fun _ _ f => f))
        clear htab
        go_wp2_with (first
          | (go_at_call 10; refine (alive_any _).mono ?_; rintro e w2 ⟨rfl, hc2⟩; have TAB2 := hide (TAB.out.touch hc2 (fun f => f) (fun _ _ f => f)); have C2 := hide hc2; clear hc2)
          | (go_at_call 19; refine (rows_any _ q v' l TAB2.out (by have := HL.out; omega)).mono ?_; rintro e w3 ⟨v3, rfl, ho3, hc3, hf3⟩; rw [← HL.out] at ho3; obtain ⟨A3, c3, hv3, _⟩ := own_len ho3; have TAB3 := hide (TAB2.out.touch hc3 (fun f => f) (fun _ _ f => f)); have C3 := hide hc3; have O3 := hide ho3; clear hc3 ho3 hf3; subst hv3)
          | (go_at_call 14; refine (len_any _ q v' l TAB3.out).mono ?_; rintro e w4 ⟨rfl, rfl⟩; rw [← HL.out]))
        go_loopw [65] (fun i wr => ∃ k : Nat, k ≤ n ∧ i = .int .i64 k ∧ Touch (fun _ => False) w3 wr) (fun i _ => n - (intOf i).toNat)
        case atStart => exact ⟨0, Nat.zero_le _, rfl, Touch.refl _ _⟩
        case round =>
          obtain ⟨k', hk', rfl, hT⟩ := hrel
          have HT3 := hide hT
          clear hT
          by_cases hkn' : k' < n
          · obtain ⟨bb, off, hA', hbl, c0, c1, c2, c4⟩ := srow_at (HR.out.touch ((((C1.out.then HT.out).then C2.out).then C3.out).then HT3.out) (fun _ _ f => f)) HL.out k' hkn'
            obtain ⟨g, hg, hgl, d0, d1, d2, d3⟩ := own_row (own_touch O3.out HT3.out (fun _ _ f => f)) HL.out k' hkn'
            subst hA' hg
            have hlt : (k' : Int) < (n : Int) := by omega
            have h00 : (0 : Int) ≤ (k' : Int) := by omega
            go_wp2
            go_region
            go_wp2
            go_roundw
            case rel => exact ⟨k' + 1, by omega, by go_num, HT3.out.drew⟩
            case measure => simp [intOf]; omega
          · go_wp2
            go_ret
            exact ⟨rfl, (((C1.out.then HT.out).then C2.out).then C3.out).then HT3.out⟩

end Go.Proofs.Ytiakbccomgcncaa
