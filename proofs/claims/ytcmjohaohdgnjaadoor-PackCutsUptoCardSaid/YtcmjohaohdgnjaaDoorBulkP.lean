/- The words of pairs that come in are no longer than their bulk. No condition. -/
import Derived.Test.YtcmjohaohdgnjaaDoorOpenP
import Derived.Deep.SlicePairs
namespace Go.Proofs.YtcmjohaohdgnjaaDoor
open Go.RowKit Go.ChangeShapes Go.WideShapes Go.ChangeAt

theorem bulk_mem {H : Type} {x : DataW H} : ∀ {l : List (DataW H)}, x ∈ l → Rows.uptoBulk x ≤ Rows.uptoBulkAll l
  | y :: l, h => by
    simp only [Rows.uptoBulkAll]
    rcases List.mem_cons.1 h with rfl | h
    · omega
    · have := bulk_mem h
      omega
theorem bulk_words {H : Type} {enc : TypeId × Value → H} {w : World} {base : Nat} {spare : Nat → Bool} {held : Bool} {s : SL} (hs : s.Ok w) {d : DataW H} {p : List MemPlace} (h : DataW.Trod enc Tryd.prog w base spare held 27 s.val d p) : ∀ r ∈ s.L, r.word.size ≤ Rows.uptoBulk d := by
  obtain ⟨A, n, c, L⟩ := s
  obtain ⟨fuel, hf⟩ := h
  intro r hr
  obtain ⟨i, hi, hri⟩ := List.getElem_of_mem hr
  have hln : L.length = n := hs.len
  have hin : i < n := by rw [← hln]; exact hi
  obtain ⟨g, o, hA, _, a0, _⟩ := preads_at hs.reads hln.symm i hin
  simp only at hA a0
  subst hA
  have hgd : L.getD i PRow.zero = r := by rw [← hri]; simp [List.getD, hi]
  rw [hgd] at a0
  rcases Go.Deep.open_slice_pairs Tryd.underlying27 Tryd.underlying36 (by kernel_rfl) rfl rfl (by kernel_rfl) (by kernel_rfl) hf with ⟨hcs, _⟩ | ⟨a, len, cap, m, k, V0, V1, D0, D1, P0, P1, hcs, _, _, _, hmm, hx, hel⟩
  · simp [SL.val, Value.cells] at hcs
  · simp [SL.val, Value.cells] at hcs
    obtain ⟨rfl, rfl, rfl⟩ := hcs
    have him : i < m := by
      rw [hmm]
      split
      · have := (‹_ ≤ _› : n ≤ c)
        omega
      · exact hin
    obtain ⟨hc0, _, ht, _⟩ := hel i him
    rw [Addr.add_lit, a0] at hc0
    injection hc0 with hc0
    rw [← hc0] at ht
    obtain ⟨s', hs', hy, _⟩ := DataW.trod_string Tryd.underlying9 ht
    simp only [List.cons.injEq, Value.string.injEq, and_true] at hs'
    subst hs'
    simp only [Prod.mk.injEq] at hy hx
    have hm : (DataW.agg [D0 i, D1 i] : DataW H) ∈ (List.range n).map fun i => DataW.agg [D0 i, D1 i] := List.mem_map.2 ⟨i, List.mem_range.2 hin, rfl⟩
    have h1 := bulk_mem hm
    rw [hx.1]
    simp only [Rows.uptoBulk, Rows.uptoBulkAll] at h1 ⊢
    rw [hy.1] at h1
    simp only [Rows.uptoBulk] at h1
    have e : r.word.data.toList.length = r.word.size := Array.length_toList
    omega

end Go.Proofs.YtcmjohaohdgnjaaDoor
