/- The package's variable of the least runes lies as its initialiser lays it: out of a row's own condition. No condition. Pairs that come in, opened; a bound on how many there are. No condition. Matches and a query that come in, opened; a bound on how many there are. No condition. The words of pairs that come in are no longer than their bulk. No condition. -/
import Derived.Test.YtfaoifggkfmokaaDoorUtf
import Derived.Test.YtfaoifggkfmokaaDoorRows
import Derived.Lib.LaidTab
import Derived.Test.YtfaoifggkfmokaaDoorFnd
import Derived.SizedLaws
import Derived.Test.YtfaoifggkfmokaaDoorFmw
import Derived.Deep.SlicePairs
namespace Go.Proofs.YtfaoifggkfmokaaDoor
open Go.RowKit

theorem lst_of_laid {W : World} {laid : List (String × DataW Unit)} (he : laid = [("abecedary/letters.least", Rows.laid_abecedary_letters_least)]) (h : laidMetH Tryd.prog laid W) : Lst W := by
  subst he
  have hL : laidMet Tryd.prog (("abecedary/letters.least", Lib.tabData .i32 [0, 0, 128, 2048, 65536]) :: []) W := h
  have h := Lib.tabIs_of_head (g := 0) (t := 140) (e := 21) (n := 5) (by kernel_rfl) (by kernel_rfl) Tryd.underlying140 Tryd.underlying21 (by kernel_rfl) (by kernel_rfl) hL
  unfold Lib.TabIs World.var? at h
  rw [show Tryd.prog.globalNamed "abecedary/letters.least" = some 0 by kernel_rfl] at h
  simp only [Option.bind_some] at h
  have hg : ∃ cs t fr, W.heap[0]? = some (.cells cs t fr) ∧ cs = (([0, 0, 128, 2048, 65536] : List Int).map fun z => Value.int .i32 z).toArray := by
    cases hh : W.heap[0]? with
    | none => rw [hh] at h; cases h
    | some o =>
      rw [hh] at h
      cases o with
      | cells cs t fr => exact ⟨cs, t, fr, rfl, Option.some.inj h⟩
      | _ => cases h
  obtain ⟨cs, t, fr, hg, rfl⟩ := hg
  refine ⟨(Array.getElem?_eq_some_iff.1 hg).1, ?_, ?_, ?_⟩
  · unfold World.cell?; rw [hg]; rfl
  · unfold World.cell?; rw [hg]; rfl
  · unfold World.cell?; rw [hg]; rfl

end Go.Proofs.YtfaoifggkfmokaaDoor

namespace Go.Proofs.YtfaoifggkfmokaaDoor
open Go.RowKit Go.ChangeShapes Go.WideShapes Go.ChangeAt

section
variable {H : Type} {enc : TypeId × Value → H} {w : World} {base : Nat} {spare : Nat → Bool} {held : Bool}

theorem list2 {cs : List Value} (h : cs.length = 2) : ∃ a b, cs = [a, b] := by
  match cs, h with
  | [a, b], _ => exact ⟨a, b, rfl⟩

theorem pair_elem (n : Nat) (cs : List Value) (y : DataW H × List MemPlace) (hl : cs.length = 2) (h : DataW.trod enc Tryd.prog w base spare held n 52 cs = some y) : ∃ r : PRow, cs = r.cells ∧ r.Wf := by
  obtain ⟨s, hs, ws⟩ := field_string Tryd.underlying52 h 0 _ rfl (by kernel_rfl) (by kernel_rfl)
  obtain ⟨b, hb, _⟩ := field_int (k := .i64) Tryd.underlying52 h 1 _ rfl (by kernel_rfl) (by kernel_rfl)
  obtain ⟨x0, x1, rfl⟩ := list2 hl
  simp at hs hb
  exact ⟨⟨s, b⟩, by rw [hs, hb]; rfl, ws⟩

set_option maxRecDepth 100000 in
/-- Pairs that come in. -/
theorem open_pairs {r : Reach} {b0 : Nat} {v : Value} {d : DataW H} {p : List MemPlace} (hv : Value.okWide Tryd.prog w r b0 22 v) (h : DataW.Trod enc Tryd.prog w base spare held 22 v d p) :
    ∃ s : SL, v = s.val ∧ s.Ok w ∧ (∀ r ∈ s.L, r.Wf) ∧ s.n ≤ maxLen ∧ s.n ≤ s.c := by
  obtain ⟨a0, len, cap, rfl⟩ := okWide_slice Tryd.underlying22 hv
  obtain ⟨fuel, hf⟩ := h
  obtain ⟨A, len', cap', l, hcs, hl, hlc, hm, hn, hr, hw⟩ := open_rows PRow.cells PRow.Wf 2 (fun _ => rfl) (by decide) Tryd.underlying22 (by kernel_rfl) pair_elem hf
  simp [Value.cells] at hcs
  obtain ⟨rfl, rfl, rfl⟩ := hcs
  exact ⟨⟨_, _, _, l⟩, rfl, ⟨hl, hr, hn⟩, hw, Nat.le_trans hlc hm, hlc⟩

set_option maxRecDepth 100000 in
/-- A pair that comes in by value. -/
theorem open_pair {r : Reach} {b0 : Nat} {v : Value} {d : DataW H} {p : List MemPlace} (hv : Value.okWide Tryd.prog w r b0 52 v) (h : DataW.Trod enc Tryd.prog w base spare held 52 v d p) :
    ∃ o : PRow, v = o.val ∧ o.Wf := by
  obtain ⟨cs, rfl, hsz⟩ := okWide_struct Tryd.underlying52 hv
  obtain ⟨fuel, hf⟩ := h
  have hC : Tryd.prog.cellsOf 52 = 2 := by kernel_rfl
  obtain ⟨o, ho, hw⟩ := pair_elem _ _ _ (by show cs.toList.length = 2; rw [Array.length_toList]; exact hsz.trans hC) hf
  refine ⟨o, ?_, hw⟩
  have : cs.toList = o.cells := ho
  have e : cs = #[.string o.word, .int .i64 o.weight] := by rw [← Array.toArray_toList (xs := cs), this]; rfl
  rw [e]; rfl

/-- A slice's datum has as many elements as the slice. -/
theorem slice_data {t e : TypeId} {A : Option Addr} {n c : Nat} {d : DataW H} {p : List MemPlace} (ht : Tryd.prog.underlying t = some (.slice e)) (h : DataW.Trod enc Tryd.prog w base spare held t (.slice A n c) d p) :
    n = 0 ∨ ∃ elems sp, d = .slice elems sp ∧ elems.length = n := by
  obtain ⟨fuel, hf⟩ := h
  rcases Go.Deep.open_slice ht hf with ⟨hcs, _⟩ | ⟨a, len, cap, m, n', D, Pl, hcs, _, _, _, _, hx, _⟩
  · simp [Value.cells] at hcs
    exact .inl hcs.2.1
  · simp [Value.cells] at hcs
    simp only [Prod.mk.injEq] at hx
    exact .inr ⟨_, _, hx.1, by simp [hcs.2.1]⟩

theorem bulk_pos (d : DataW H) : 1 ≤ Rows.uptoBulk d := by
  cases d with
  | lit l => cases l <;> simp [Rows.uptoBulk]
  | _ => simp [Rows.uptoBulk]
theorem bulk_len (l : List (DataW H)) : l.length ≤ Rows.uptoBulkAll l := by
  induction l with
  | nil => simp [Rows.uptoBulkAll]
  | cons x r ih => have := bulk_pos x; simp only [Rows.uptoBulkAll, List.length_cons]; omega
/-- A slice of pairs is no longer than its bulk. -/
theorem bulk_slice {s : SL} {d : DataW H} {p : List MemPlace} (h : DataW.Trod enc Tryd.prog w base spare held 22 s.val d p) : s.n ≤ Rows.uptoBulk d := by
  rcases slice_data Tryd.underlying22 h with e | ⟨el, sp, hd, he⟩
  · omega
  · rw [hd]
    have := bulk_len el
    simp only [Rows.uptoBulk]
    omega
/-- A slice of pairs takes no more than may be reached. -/
theorem sized_pairs {ts : List TypeId} {ds : List (DataW H)} {j : Nat} {s : SL} {d : DataW H} {p : List MemPlace} (hz : (DataW.weightsEach Tryd.prog ts ds).all (· ≤ reachBytes) = true) (ht : ts[j]? = some 22) (hd : ds[j]? = some d)
    (h : DataW.Trod enc Tryd.prog w base spare held 22 s.val d p) : s.n ≤ 5864062014634 := by
  rcases slice_data Tryd.underlying22 h with e | ⟨el, sp, hd2, he⟩
  · omega
  · subst hd2
    have hs := sized_slice hz ht hd Tryd.underlying22
    have hb : Tryd.prog.bytesOf 52 = 24 := by kernel_rfl
    rw [hb] at hs
    have hr : reachBytes = 140737488351232 := by decide
    omega
end

/-! ### the witness -/
/-- A world in which the listed variable holds what its initialiser lays. -/
noncomputable def laidWorld (os : Os) : World :=
  { World.holding Tryd.prog os ⟨#[], #[], []⟩ with heap := (World.holding Tryd.prog os ⟨#[], #[], []⟩).heap.modify 0 fun
      | .cells _ t frozen => .cells #[.int .i32 0, .int .i32 0, .int .i32 128, .int .i32 2048, .int .i32 65536] t frozen
      | o => o }

end Go.Proofs.YtfaoifggkfmokaaDoor

namespace Go.Proofs.YtfaoifggkfmokaaDoor
open Go.RowKit Go.ChangeShapes Go.WideShapes Go.ChangeAt

section
variable {H : Type} {enc : TypeId × Value → H} {w : World} {base : Nat} {spare : Nat → Bool} {held : Bool}

theorem list3 {cs : List Value} (h : cs.length = 3) : ∃ a b c, cs = [a, b, c] := by
  match cs, h with
  | [a, b, c], _ => exact ⟨a, b, c, rfl⟩

theorem match_elem (n : Nat) (cs : List Value) (y : DataW H × List MemPlace) (hl : cs.length = 3) (h : DataW.trod enc Tryd.prog w base spare held n 35 cs = some y) : ∃ r : MRow, cs = r.cells ∧ r.Wf := by
  obtain ⟨s, hs, ws⟩ := field_string Tryd.underlying35 h 0 _ rfl (by kernel_rfl) (by kernel_rfl)
  obtain ⟨b, hb, _⟩ := field_int (k := .i64) Tryd.underlying35 h 1 _ rfl (by kernel_rfl) (by kernel_rfl)
  obtain ⟨c, hc, _⟩ := field_int (k := .i64) Tryd.underlying35 h 2 _ rfl (by kernel_rfl) (by kernel_rfl)
  obtain ⟨x0, x1, x2, rfl⟩ := list3 hl
  simp at hs hb hc
  exact ⟨⟨s, b, c⟩, by rw [hs, hb, hc]; rfl, ws⟩

set_option maxRecDepth 100000 in
/-- Matches that come in. -/
theorem open_matches {r : Reach} {b0 : Nat} {v : Value} {d : DataW H} {p : List MemPlace} (hv : Value.okWide Tryd.prog w r b0 27 v) (h : DataW.Trod enc Tryd.prog w base spare held 27 v d p) :
    ∃ A len cap, ∃ l : List MRow, v = .slice A len cap ∧ l.length = len ∧ Reads w 3 A len (mCells l) ∧ (∀ r ∈ l, r.Wf) ∧ len ≤ Rows.uptoBulk d := by
  obtain ⟨a0, len, cap, rfl⟩ := okWide_slice Tryd.underlying27 hv
  have h' := h
  obtain ⟨fuel, hf⟩ := h
  obtain ⟨A, len', cap', l, hcs, hl, hlc, hm, hn, hr, hw⟩ := open_rows MRow.cells MRow.Wf 3 (fun _ => rfl) (by decide) Tryd.underlying27 (by kernel_rfl) match_elem hf
  simp [Value.cells] at hcs
  obtain ⟨rfl, rfl, rfl⟩ := hcs
  refine ⟨_, _, _, l, rfl, hl, hr, hw, ?_⟩
  rcases slice_data Tryd.underlying27 h' with e | ⟨el, sp, hd, he⟩
  · omega
  · rw [hd]
    have := bulk_len el
    simp only [Rows.uptoBulk]
    omega

set_option maxRecDepth 100000 in
/-- A query that comes in by value. -/
theorem open_query {r : Reach} {b0 : Nat} {v : Value} {d : DataW H} {p : List MemPlace} (hv : Value.okWide Tryd.prog w r b0 40 v) (h : DataW.Trod enc Tryd.prog w base spare held 40 v d p) :
    ∃ (q : ByteArray) (x y : Int), v = .agg #[.string q, .int .i64 x, .int .i64 y] ∧ q.size ≤ 9223372036854775807 := by
  obtain ⟨cs, rfl, hsz⟩ := okWide_struct Tryd.underlying40 hv
  obtain ⟨fuel, hf⟩ := h
  have hC : Tryd.prog.cellsOf 40 = 3 := by kernel_rfl
  obtain ⟨s, hs, ws⟩ := field_string Tryd.underlying40 hf 0 _ rfl (by kernel_rfl) (by kernel_rfl)
  obtain ⟨b, hb, _⟩ := field_int (k := .i64) Tryd.underlying40 hf 1 _ rfl (by kernel_rfl) (by kernel_rfl)
  obtain ⟨c, hc, _⟩ := field_int (k := .i64) Tryd.underlying40 hf 2 _ rfl (by kernel_rfl) (by kernel_rfl)
  obtain ⟨x0, x1, x2, hcs⟩ := list3 (by show cs.toList.length = 3; rw [Array.length_toList]; exact hsz.trans hC)
  have e : cs = #[x0, x1, x2] := by rw [← Array.toArray_toList (xs := cs), hcs]
  subst e
  simp [Value.cells] at hs hb hc
  subst hs hb hc
  exact ⟨s, b, c, rfl, ws⟩
end

end Go.Proofs.YtfaoifggkfmokaaDoor

namespace Go.Proofs.YtfaoifggkfmokaaDoor
open Go.RowKit Go.ChangeShapes Go.WideShapes Go.ChangeAt

theorem bulk_mem {H : Type} {x : DataW H} : ∀ {l : List (DataW H)}, x ∈ l → Rows.uptoBulk x ≤ Rows.uptoBulkAll l
  | y :: l, h => by
    simp only [Rows.uptoBulkAll]
    rcases List.mem_cons.1 h with rfl | h
    · omega
    · have := bulk_mem h
      omega
theorem bulk_words {H : Type} {enc : TypeId × Value → H} {w : World} {base : Nat} {spare : Nat → Bool} {held : Bool} {s : SL} (hs : s.Ok w) {d : DataW H} {p : List MemPlace} (h : DataW.Trod enc Tryd.prog w base spare held 22 s.val d p) : ∀ r ∈ s.L, r.word.size ≤ Rows.uptoBulk d := by
  obtain ⟨A, n, c, L⟩ := s
  obtain ⟨fuel, hf⟩ := h
  intro r hr
  obtain ⟨i, hi, hri⟩ := List.getElem_of_mem hr
  have hln : L.length = n := hs.len
  have hin : i < n := by rw [← hln]; exact hi
  obtain ⟨g, o, hA, _, a0, _⟩ := preads_at hs.reads hln.symm i hin
  simp only at hA a0
  subst hA
  have hgd : L.getD i PRow.zero = r := by rw [← hri]; simp [List.getD, hi]
  rw [hgd] at a0
  rcases Go.Deep.open_slice_pairs Tryd.underlying22 Tryd.underlying52 (by kernel_rfl) rfl rfl (by kernel_rfl) (by kernel_rfl) hf with ⟨hcs, _⟩ | ⟨a, len, cap, m, k, V0, V1, D0, D1, P0, P1, hcs, _, _, _, hmm, hx, hel⟩
  · simp [SL.val, Value.cells] at hcs
  · simp [SL.val, Value.cells] at hcs
    obtain ⟨rfl, rfl, rfl⟩ := hcs
    have him : i < m := by
      rw [hmm]
      split
      · have := (‹_ ≤ _› : n ≤ c)
        omega
      · exact hin
    obtain ⟨hc0, _, ht, _⟩ := hel i him
    rw [Addr.add_lit, a0] at hc0
    injection hc0 with hc0
    rw [← hc0] at ht
    obtain ⟨s', hs', hy, _⟩ := DataW.trod_string Tryd.underlying9 ht
    simp only [List.cons.injEq, Value.string.injEq, and_true] at hs'
    subst hs'
    simp only [Prod.mk.injEq] at hy hx
    have hm : (DataW.agg [D0 i, D1 i] : DataW H) ∈ (List.range n).map fun i => DataW.agg [D0 i, D1 i] := List.mem_map.2 ⟨i, List.mem_range.2 hin, rfl⟩
    have h1 := bulk_mem hm
    rw [hx.1]
    simp only [Rows.uptoBulk, Rows.uptoBulkAll] at h1 ⊢
    rw [hy.1] at h1
    simp only [Rows.uptoBulk] at h1
    have e : r.word.data.toList.length = r.word.size := Array.length_toList
    omega

end Go.Proofs.YtfaoifggkfmokaaDoor
