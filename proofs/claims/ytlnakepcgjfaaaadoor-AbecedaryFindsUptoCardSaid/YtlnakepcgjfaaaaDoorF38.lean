/- What the law rests on, part 38. No condition but those that each theorem names. -/
import Derived.Test.YtlnakepcgjfaaaaDoorF22
import Derived.BigQuiet
import Derived.Deep.QuietTactic
import Derived.Test.YtlnakepcgjfaaaaDoorF01
import Derived.Test.YtlnakepcgjfaaaaDoorRows
import Derived.Lib.LaidTab
import Derived.Test.YtlnakepcgjfaaaaDoorF00
import Derived.SizedLaws
import Derived.Deep.SlicePairs
namespace Go.Proofs.YtlnakepcgjfaaaaDoor
open Go.RowKit
set_option maxRecDepth 100000 in
set_option maxHeartbeats 2000000 in
theorem len_any (w : World) (b : Nat) (base : Int) (A : Option Addr) (n c : Nat) (Z : List SV) (wA : Option Addr) (wc : Nat) (W : List Int) (hM : WkM w b base A n c Z wA wc W) (hn : n ≤ 1000000) :
    Calls Tryd.prog 8 #[.pointer (some ⟨b, 0, none⟩)] w fun e w' => e = .returned (.int .i64 (lenOf n W)) ∧ Touch (fun _ => False) w w' := by
  obtain ⟨x0, x1, x2⟩ := hM.blk.facts
  have HB := hide hM.blk
  have HN := hide hn
  by_cases h0 : n = 0
  · subst h0
    clear hM
    go_enter Tryd.func8, Tryd.ntmps8
    go_wp2_with fail
    go_ret
    exact ⟨rfl, Touch.refl _ _⟩
  · obtain ⟨g, o, hA, hg, c0⟩ := word_cell hM.wds hM.len (n - 1) (by omega)
    subst hA
    have e : lenOf n W = W.getD (n - 1) 0 := by unfold lenOf; rw [if_neg h0]
    rw [e]
    obtain ⟨x, hx⟩ : ∃ x, W.getD (n - 1) 0 = x := ⟨_, rfl⟩
    rw [hx] at c0 ⊢
    have y0 : ((n : Int) == 0) = false := by simp; omega
    have y1 : ¬ (n : Int) = 0 := by omega
    have y2 : (0 : Int) ≤ (n : Int) - 1 := by omega
    have y3 : (n : Int) - 1 < (n : Int) := by omega
    have y4 : ((n : Int) - 1).toNat = n - 1 := by omega
    clear hM e hx hn
    go_enter Tryd.func8, Tryd.ntmps8
    go_wp2_with fail
    go_quiet ((go_at_call 19; exact Calls.quiet_of_same (root_any _ b base A n c _ HB.out HN.out)))
    go_wp2_with fail
    go_ret
    exact ⟨rfl, (Touch.refl _ _).drewN _⟩
section
variable {w : World} {b : Nat} {L : List PRow} {n : Nat} {A : Option Addr} {c : Nat} {Z : List SV} {wA : Option Addr} {wc : Nat}
theorem DWk.lenOf (h : DWk w b L n A c Z wA wc) (hD : DictP L) : Go.Proofs.YtlnakepcgjfaaaaDoor.lenOf n (wdsF (mach L).states n) = (L.length : Int) := by
  have hn := h.n_len
  by_cases he : L = []
  · subst he
    have : n = 0 := by rw [← hn]; rfl
    subst this
    rfl
  · have hm := mach_ne he
    rw [hm] at hn ⊢
    simp only at hn ⊢
    have M := made hD he
    have hher := stateF_her 25 ⟨[], []⟩ (restsL L) (fun X hX => (by cases hX)) (her_dict hD)
    have hpos := M.pos
    unfold Go.Proofs.YtlnakepcgjfaaaaDoor.lenOf
    rw [if_neg (by omega), ← hn]
    have := wds_rests M.good hher (j := (stateF 25 ⟨[], []⟩ (restsL L)).1.states.length - 1) (by omega) M.root
    rw [List.getD_eq_getElem?_getD, this, level_len]
    simp [restsL]
theorem dlen_any (h : DWk w b L n A c Z wA wc) (hD : DictP L) :
    Calls Tryd.prog 8 #[.pointer (some ⟨b, 0, none⟩)] w fun e w' => e = .returned (.int .i64 L.length) ∧ Touch (fun _ => False) w w' := by
  have := len_any w b _ A n c Z wA wc _ h.wk h.few
  rw [h.lenOf hD] at this
  exact this
end
end Go.Proofs.YtlnakepcgjfaaaaDoor
namespace Go.Proofs.YtlnakepcgjfaaaaDoor
open Go.RowKit
theorem lst_of_laid {W : World} {laid : List (String × DataW Unit)} (he : laid = [("abecedary/letters.least", Rows.laid_abecedary_letters_least)]) (h : laidMetH Tryd.prog laid W) : Lst W := by
  subst he
  have hL : laidMet Tryd.prog (("abecedary/letters.least", Lib.tabData .i32 [0, 0, 128, 2048, 65536]) :: []) W := h
  have h := Lib.tabIs_of_head (g := 0) (t := 112) (e := 21) (n := 5) (by kernel_rfl) (by kernel_rfl) Tryd.underlying112 Tryd.underlying21 (by kernel_rfl) (by kernel_rfl) hL
  unfold Lib.TabIs World.var? at h
  rw [show Tryd.prog.globalNamed "abecedary/letters.least" = some 0 by kernel_rfl] at h
  simp only [Option.bind_some] at h
  have hg : ∃ cs t fr, W.heap[0]? = some (.cells cs t fr) ∧ cs = (([0, 0, 128, 2048, 65536] : List Int).map fun z => Value.int .i32 z).toArray := by
    cases hh : W.heap[0]? with
    | none => rw [hh] at h; cases h
    | some o =>
      rw [hh] at h
      cases o with
      | cells cs t fr => exact ⟨cs, t, fr, rfl, Option.some.inj h⟩
      | _ => cases h
  obtain ⟨cs, t, fr, hg, rfl⟩ := hg
  refine ⟨(Array.getElem?_eq_some_iff.1 hg).1, ?_, ?_, ?_⟩
  · unfold World.cell?; rw [hg]; rfl
  · unfold World.cell?; rw [hg]; rfl
  · unfold World.cell?; rw [hg]; rfl
end Go.Proofs.YtlnakepcgjfaaaaDoor
namespace Go.Proofs.YtlnakepcgjfaaaaDoor
open Go.RowKit Go.ChangeShapes Go.WideShapes Go.ChangeAt
section
variable {H : Type} {enc : TypeId × Value → H} {w : World} {base : Nat} {spare : Nat → Bool} {held : Bool}
theorem list2 {cs : List Value} (h : cs.length = 2) : ∃ a b, cs = [a, b] := by
  match cs, h with
  | [a, b], _ => exact ⟨a, b, rfl⟩
theorem pair_elem (n : Nat) (cs : List Value) (y : DataW H × List MemPlace) (hl : cs.length = 2) (h : DataW.trod enc Tryd.prog w base spare held n 38 cs = some y) : ∃ r : PRow, cs = r.cells ∧ r.Wf := by
  obtain ⟨s, hs, ws⟩ := field_string Tryd.underlying38 h 0 _ rfl (by kernel_rfl) (by kernel_rfl)
  obtain ⟨b, hb, _⟩ := field_int (k := .i64) Tryd.underlying38 h 1 _ rfl (by kernel_rfl) (by kernel_rfl)
  obtain ⟨x0, x1, rfl⟩ := list2 hl
  simp at hs hb
  exact ⟨⟨s, b⟩, by rw [hs, hb]; rfl, ws⟩
set_option maxRecDepth 100000 in
theorem open_pairs {r : Reach} {b0 : Nat} {v : Value} {d : DataW H} {p : List MemPlace} (hv : Value.okWide Tryd.prog w r b0 22 v) (h : DataW.Trod enc Tryd.prog w base spare held 22 v d p) :
    ∃ s : SL, v = s.val ∧ s.Ok w ∧ (∀ r ∈ s.L, r.Wf) ∧ s.n ≤ maxLen ∧ s.n ≤ s.c := by
  obtain ⟨a0, len, cap, rfl⟩ := okWide_slice Tryd.underlying22 hv
  obtain ⟨fuel, hf⟩ := h
  obtain ⟨A, len', cap', l, hcs, hl, hlc, hm, hn, hr, hw⟩ := open_rows PRow.cells PRow.Wf 2 (fun _ => rfl) (by decide) Tryd.underlying22 (by kernel_rfl) pair_elem hf
  simp [Value.cells] at hcs
  obtain ⟨rfl, rfl, rfl⟩ := hcs
  exact ⟨⟨_, _, _, l⟩, rfl, ⟨hl, hr, hn⟩, hw, Nat.le_trans hlc hm, hlc⟩
theorem slice_data {t e : TypeId} {A : Option Addr} {n c : Nat} {d : DataW H} {p : List MemPlace} (ht : Tryd.prog.underlying t = some (.slice e)) (h : DataW.Trod enc Tryd.prog w base spare held t (.slice A n c) d p) :
    n = 0 ∨ ∃ elems sp, d = .slice elems sp ∧ elems.length = n := by
  obtain ⟨fuel, hf⟩ := h
  rcases Go.Deep.open_slice ht hf with ⟨hcs, _⟩ | ⟨a, len, cap, m, n', D, Pl, hcs, _, _, _, _, hx, _⟩
  · simp [Value.cells] at hcs
    exact .inl hcs.2.1
  · simp [Value.cells] at hcs
    simp only [Prod.mk.injEq] at hx
    exact .inr ⟨_, _, hx.1, by simp [hcs.2.1]⟩
theorem bulk_pos (d : DataW H) : 1 ≤ Rows.uptoBulk d := by
  cases d with
  | lit l => cases l <;> simp [Rows.uptoBulk]
  | _ => simp [Rows.uptoBulk]
theorem bulk_len (l : List (DataW H)) : l.length ≤ Rows.uptoBulkAll l := by
  induction l with
  | nil => simp [Rows.uptoBulkAll]
  | cons x r ih => have := bulk_pos x; simp only [Rows.uptoBulkAll, List.length_cons]; omega
theorem bulk_slice {s : SL} {d : DataW H} {p : List MemPlace} (h : DataW.Trod enc Tryd.prog w base spare held 22 s.val d p) : s.n ≤ Rows.uptoBulk d := by
  rcases slice_data Tryd.underlying22 h with e | ⟨el, sp, hd, he⟩
  · omega
  · rw [hd]
    have := bulk_len el
    simp only [Rows.uptoBulk]
    omega
end
noncomputable def laidWorld (os : Os) : World :=
  { World.holding Tryd.prog os ⟨#[], #[], []⟩ with heap := (World.holding Tryd.prog os ⟨#[], #[], []⟩).heap.modify 0 fun
      | .cells _ t frozen => .cells #[.int .i32 0, .int .i32 0, .int .i32 128, .int .i32 2048, .int .i32 65536] t frozen
      | o => o }
end Go.Proofs.YtlnakepcgjfaaaaDoor
namespace Go.Proofs.YtlnakepcgjfaaaaDoor
open Go.RowKit Go.ChangeShapes Go.WideShapes Go.ChangeAt
theorem string_le {H : Type} {enc : TypeId × Value → H} {w : World} {base : Nat} {spare : Nat → Bool} {held : Bool} {s : ByteArray} {d : DataW H} {p : List MemPlace} (h : DataW.Trod enc Tryd.prog w base spare held 9 (.string s) d p) : s.size ≤ 9223372036854775807 := by
  obtain ⟨fuel, hf⟩ := h
  obtain ⟨s', hc, hx, hm⟩ := DataW.trod_string Tryd.underlying9 hf
  simp [Value.cells] at hc
  subst hc
  have e : maxLen = 9223372036854775807 := by decide
  rw [e] at hm
  exact hm
end Go.Proofs.YtlnakepcgjfaaaaDoor
namespace Go.Proofs.YtlnakepcgjfaaaaDoor
open Go.RowKit Go.ChangeShapes Go.WideShapes Go.ChangeAt
theorem bulk_mem {H : Type} {x : DataW H} : ∀ {l : List (DataW H)}, x ∈ l → Rows.uptoBulk x ≤ Rows.uptoBulkAll l
  | y :: l, h => by
    simp only [Rows.uptoBulkAll]
    rcases List.mem_cons.1 h with rfl | h
    · omega
    · have := bulk_mem h
      omega
theorem bulk_words {H : Type} {enc : TypeId × Value → H} {w : World} {base : Nat} {spare : Nat → Bool} {held : Bool} {s : SL} (hs : s.Ok w) {d : DataW H} {p : List MemPlace} (h : DataW.Trod enc Tryd.prog w base spare held 22 s.val d p) : ∀ r ∈ s.L, r.word.size ≤ Rows.uptoBulk d := by
  obtain ⟨A, n, c, L⟩ := s
  obtain ⟨fuel, hf⟩ := h
  intro r hr
  obtain ⟨i, hi, hri⟩ := List.getElem_of_mem hr
  have hln : L.length = n := hs.len
  have hin : i < n := by rw [← hln]; exact hi
  obtain ⟨g, o, hA, _, a0, _⟩ := preads_at hs.reads hln.symm i hin
  simp only at hA a0
  subst hA
  have hgd : L.getD i PRow.zero = r := by rw [← hri]; simp [List.getD, hi]
  rw [hgd] at a0
  rcases Go.Deep.open_slice_pairs Tryd.underlying22 Tryd.underlying38 (by kernel_rfl) rfl rfl (by kernel_rfl) (by kernel_rfl) hf with ⟨hcs, _⟩ | ⟨a, len, cap, m, k, V0, V1, D0, D1, P0, P1, hcs, _, _, _, hmm, hx, hel⟩
  · simp [SL.val, Value.cells] at hcs
  · simp [SL.val, Value.cells] at hcs
    obtain ⟨rfl, rfl, rfl⟩ := hcs
    have him : i < m := by
      rw [hmm]
      split
      · have := (‹_ ≤ _› : n ≤ c)
        omega
      · exact hin
    obtain ⟨hc0, _, ht, _⟩ := hel i him
    rw [Addr.add_lit, a0] at hc0
    injection hc0 with hc0
    rw [← hc0] at ht
    obtain ⟨s', hs', hy, _⟩ := DataW.trod_string Tryd.underlying9 ht
    simp only [List.cons.injEq, Value.string.injEq, and_true] at hs'
    subst hs'
    simp only [Prod.mk.injEq] at hy hx
    have hm : (DataW.agg [D0 i, D1 i] : DataW H) ∈ (List.range n).map fun i => DataW.agg [D0 i, D1 i] := List.mem_map.2 ⟨i, List.mem_range.2 hin, rfl⟩
    have h1 := bulk_mem hm
    rw [hx.1]
    simp only [Rows.uptoBulk, Rows.uptoBulkAll] at h1 ⊢
    rw [hy.1] at h1
    simp only [Rows.uptoBulk] at h1
    have e : r.word.data.toList.length = r.word.size := Array.length_toList
    omega
end Go.Proofs.YtlnakepcgjfaaaaDoor
namespace Go.Proofs.YtlnakepcgjfaaaaDoor
open Go.RowKit Go.ChangeShapes Go.WideShapes Go.ChangeAt
theorem Tryd.own : ownKnob Tryd.prog.godebug = none := by kernel_rfl
theorem Tryd.laidOut : laidOutB Tryd.prog = true := by kernel_rfl
end Go.Proofs.YtlnakepcgjfaaaaDoor
