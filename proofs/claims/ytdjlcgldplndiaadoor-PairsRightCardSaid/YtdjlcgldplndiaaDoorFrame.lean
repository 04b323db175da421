/- The frame of a law's row: what comes in, opened; what is handed back, shut. Plain laws, of whatever program. No condition. -/
import Derived.Test.YtdjlcgldplndiaaDoorBase
import Derived.ProofKit
import Derived.OpenShut
import Derived.ShutString
import Derived.ChangeOld
import Derived.Deep.Slices
import Derived.Deep.Fields
namespace Go.Proofs.YtdjlcgldplndiaaDoor
open Go.RowKit Go.ChangeShapes Go.WideShapes Go.ChangeAt

section
variable {H : Type} {enc : TypeId × Value → H} {P : Program}

theorem trodAll_below (hl : laidOutB P = true) {W W' : World} (hb : Below W.heap.size W W') : ∀ (ts : List TypeId) (vs : List Value) (ds : List (DataW H)) (ps : List MemPlace),
    (∀ t ∈ ts, P.readableRec t = true ∧ t < P.types.size) → DataW.TrodAll enc P W 0 (fun _ => true) true ts vs ds ps →
    DataW.TrodAll enc P W' 0 (fun b => decide (b < W.heap.size)) true ts vs ds ps := by
  intro ts
  induction ts with
  | nil =>
    intro vs ds ps _ h
    obtain ⟨rfl, rfl, rfl⟩ := trodAll_nil h
    exact trodAll_mk0
  | cons t ts ih =>
    intro vs ds ps ht h
    obtain ⟨v, vs', d, ds', p, q, rfl, rfl, rfl, h0, r0⟩ := trodAll_cons h
    have lt0 : ∀ x ∈ p, x.block < W.heap.size := by obtain ⟨m, hm⟩ := h0; exact DataW.trod_lt m _ _ _ hm
    obtain ⟨h1, h2⟩ := ht t (by simp)
    exact trodAll_cons_mk (Below.trod hl h1 h2 h0 hb lt0) (ih vs' ds' q (fun t' h' => ht t' (by simp [h'])) r0)

/-- Behind a call that returns true and leaves old memory alone. -/
theorem post_true {f : Func} {s : ChangeSpec} {W W' : World} {args : Array Value} {ds gs : List (DataW H)} {before : List MemPlace} {tb : TypeId}
    (hW : DataW.Whole enc P f.params.toList s.vars false W args.toList ds gs before) (hvars : s.vars = []) (hres : f.resultTypes.toList = [tb]) (hn : f.resultTypes.size = 1) (htb : P.underlying tb = some .bool)
    (hfn : s.fn H (ds ++ gs) = { results := [.lit (.bool true)], args := ds }) (hl : laidOutB P = true) (hts0 : (f.params.toList.all fun t => P.readableRec t && decide (t < P.types.size)) = true) (bel : Below W.heap.size W W') :
    s.post enc P f false true false false W args (.bool true) W' := by
  have hts : ∀ t ∈ f.params.toList, P.readableRec t = true ∧ t < P.types.size := fun t ht => by
    have := List.all_eq_true.1 hts0 t ht
    simpa using this
  have hW' := hW
  obtain ⟨p, q, hA, hV, rfl, hfz, hnd⟩ := hW
  rw [hvars] at hV
  obtain ⟨rfl, rfl⟩ := trodVars_none hV
  refine ⟨ds, [], p ++ [], [], p, [], hW', ?_, ?_, ?_, bel.frame _, fun h => by cases h⟩
  · rw [hfn, hres, hn]
    exact trodAll_mk1 (shut_bool htb _)
  · rw [hfn]
    exact trodAll_below hl bel _ _ _ _ hts hA
  · rw [hfn, hvars]
    rfl

theorem whole_args {f : Func} {s : ChangeSpec} {W : World} {args : Array Value} {ds gs : List (DataW H)} {before : List MemPlace} (hvars : s.vars = [])
    (hW : DataW.Whole enc P f.params.toList s.vars false W args.toList ds gs before) : ∃ p, DataW.TrodAll enc P W 0 (fun _ => true) true f.params.toList args.toList ds p ∧ gs = [] := by
  obtain ⟨p, q, hA, hV, rfl, hfz, hnd⟩ := hW
  rw [hvars] at hV
  obtain ⟨rfl, rfl⟩ := trodVars_none hV
  exact ⟨p, hA, rfl⟩
end

theorem flat_at {R : Type} (cells : R → List Value) (size : Nat) (hs : ∀ r, (cells r).length = size) (l : List R) (i j : Nat) (hi : i < l.length) (hj : j < size) :
    (l.flatMap cells)[i * size + j]? = (cells l[i])[j]? := by
  induction l generalizing i with
  | nil => simp at hi
  | cons r l ih =>
    cases i with
    | zero =>
      simp only [List.flatMap_cons, Nat.zero_mul, Nat.zero_add, List.getElem_cons_zero]
      rw [List.getElem?_append_left (by rw [hs]; exact hj)]
    | succ i =>
      simp only [List.flatMap_cons, List.getElem_cons_succ]
      rw [List.getElem?_append_right (by rw [hs, Nat.succ_mul]; omega), hs, show (i + 1) * size + j - size = i * size + j by rw [Nat.succ_mul]; omega]
      exact ih i (by simpa using hi)

theorem flat_len {R : Type} (cells : R → List Value) (size : Nat) (hs : ∀ r, (cells r).length = size) (l : List R) : (l.flatMap cells).length = l.length * size := by
  induction l with
  | nil => simp
  | cons r l ih => rw [List.flatMap_cons, List.length_append, hs, ih, List.length_cons, Nat.succ_mul, Nat.add_comm]

section
variable {H : Type} {enc : TypeId × Value → H} {P : Program} {w : World} {base : Nat} {spare : Nat → Bool} {held : Bool}

/-- One field of a struct that reads. -/
theorem field_of {t : TypeId} {fs : Array Field} {fuel : Nat} {cs : List Value} {x : DataW H × List MemPlace} (hs : P.underlying t = some (.struct fs)) (h : DataW.trod enc P w base spare held fuel t cs = some x)
    (i : Nat) (f : Field) (hf : fs[i]? = some f) : ∃ n y, DataW.trod enc P w base spare held n f.type ((cs.drop f.offset).take (P.cellsOf f.type)) = some y := by
  obtain ⟨xs, n, _, _, _, hlen, hg⟩ := DataW.trod_struct hs h
  have hi : i < fs.size := (Array.getElem?_eq_some_iff.1 hf).1
  refine ⟨n, xs[i]'(by omega), ?_⟩
  rw [hg i f hf]
  exact List.getElem?_eq_getElem (by omega)

theorem drop_take_one {cs : List Value} {o : Nat} {v : Value} (h : (cs.drop o).take 1 = [v]) : cs[o]? = some v := by
  have := congrArg (fun l => l[0]?) h
  simpa [List.getElem?_take] using this

theorem field_int {t : TypeId} {fs : Array Field} {fuel : Nat} {cs : List Value} {x : DataW H × List MemPlace} (hs : P.underlying t = some (.struct fs)) (h : DataW.trod enc P w base spare held fuel t cs = some x)
    (i : Nat) (f : Field) (hf : fs[i]? = some f) {k : IntKind} (hk : P.underlying f.type = some (.int k)) (hc : P.cellsOf f.type = 1) : ∃ n, cs[f.offset]? = some (.int k n) ∧ (Lit.int k n).wf = true := by
  obtain ⟨m, y, hy⟩ := field_of hs h i f hf
  rw [hc] at hy
  obtain ⟨n, hn, _, hw⟩ := DataW.trod_int hk hy
  exact ⟨n, drop_take_one hn, hw⟩

theorem field_bool {t : TypeId} {fs : Array Field} {fuel : Nat} {cs : List Value} {x : DataW H × List MemPlace} (hs : P.underlying t = some (.struct fs)) (h : DataW.trod enc P w base spare held fuel t cs = some x)
    (i : Nat) (f : Field) (hf : fs[i]? = some f) (hk : P.underlying f.type = some .bool) (hc : P.cellsOf f.type = 1) : ∃ b, cs[f.offset]? = some (.bool b) := by
  obtain ⟨m, y, hy⟩ := field_of hs h i f hf
  rw [hc] at hy
  obtain ⟨n, hn, _⟩ := DataW.trod_bool hk hy
  exact ⟨n, drop_take_one hn⟩

theorem field_string {t : TypeId} {fs : Array Field} {fuel : Nat} {cs : List Value} {x : DataW H × List MemPlace} (hs : P.underlying t = some (.struct fs)) (h : DataW.trod enc P w base spare held fuel t cs = some x)
    (i : Nat) (f : Field) (hf : fs[i]? = some f) (hk : P.underlying f.type = some .string) (hc : P.cellsOf f.type = 1) : ∃ s : ByteArray, cs[f.offset]? = some (.string s) ∧ s.size ≤ maxLen := by
  obtain ⟨m, y, hy⟩ := field_of hs h i f hf
  rw [hc] at hy
  obtain ⟨s, hn, _, hw⟩ := DataW.trod_string hk hy
  exact ⟨s, drop_take_one hn, hw⟩

/-- The field of a struct in a struct. -/
theorem drop_take_sub {cs : List Value} {o k j : Nat} (hj : j < k) : ((cs.drop o).take k)[j]? = cs[o + j]? := by
  rw [List.getElem?_take, if_pos hj, List.getElem?_drop]

/-- A slice that reads, element by element. -/
theorem open_rows {R : Type} [Inhabited R] (cells : R → List Value) (wf : R → Prop) (size : Nat) (hcl : ∀ r, (cells r).length = size) (h0 : 0 < size) {t e : TypeId} {fuel : Nat} {cs : List Value} {x : DataW H × List MemPlace}
    (ht : P.underlying t = some (.slice e)) (hC : P.cellsOf e = size) (elem : ∀ n cs y, cs.length = size → DataW.trod enc P w base spare held n e cs = some y → ∃ r, cs = cells r ∧ wf r)
    (h : DataW.trod enc P w base spare held fuel t cs = some x) :
    ∃ A len cap, ∃ l : List R, cs = [.slice A len cap] ∧ l.length = len ∧ len ≤ cap ∧ cap ≤ maxLen ∧ (A = none → len = 0 ∧ cap = 0) ∧ Reads w size A len (l.flatMap cells) ∧ ∀ r ∈ l, wf r := by
  rcases Go.Deep.open_slice ht h with ⟨hcs, _⟩ | ⟨a, len, cap, m, n, D, Pl, hcs, hb, hl, hm, hmm, hx, hi⟩
  · exact ⟨none, 0, 0, [], hcs, rfl, Nat.le_refl _, by simp [maxLen], fun _ => ⟨rfl, rfl⟩, Reads.nil _ _ _, by simp⟩
  · have hlm : len ≤ m := by rw [hmm]; split <;> omega
    have hel : ∀ i, i < len → ∃ r : R, wf r ∧ ∀ j, j < size → w.cell? (a.add (i * size + j)) = (cells r)[j]? := by
      intro i hil
      obtain ⟨cs', hc, hty⟩ := hi i (by omega)
      rw [hC] at hc
      obtain ⟨_, hlen, hat⟩ := World.cells?_some hc
      obtain ⟨r, hr, hw⟩ := elem _ cs' _ hlen hty
      refine ⟨r, hw, fun j hj => ?_⟩
      rw [← Go.Deep.add_add, hat j hj, hr]
    obtain ⟨f, hf⟩ := Go.Deep.choose_lt hel
    refine ⟨some a, len, cap, (List.range len).map f, hcs, by simp, hl, hm, (fun h => by cases h), ?_, ?_⟩
    · refine ⟨by rw [flat_len cells size hcl]; simp, fun hpos => ?_⟩
      have hc0 := (hf 0 hpos).2 0 h0
      have hsome : (cells (f 0))[0]? = some ((cells (f 0))[0]'(by rw [hcl]; exact h0)) := List.getElem?_eq_getElem _
      rw [hsome] at hc0
      have hsp := World.cell?_spot hc0
      obtain ⟨b, off, spot⟩ := a
      have hspot : spot = none := by simpa [Addr.add] using hsp
      subst hspot
      have hlt : b < w.heap.size := World.block_lt_of_cell? w _ (by simpa [Addr.add] using hc0)
      refine ⟨b, off, rfl, hlt, fun j u hu => ?_⟩
      have hjl : j < len * size := by
        have := (List.getElem?_eq_some_iff.1 hu).1
        rw [flat_len cells size hcl] at this
        simpa using this
      have hq : j / size < len := Nat.div_lt_of_lt_mul (by rw [Nat.mul_comm]; exact hjl)
      have hr : j % size < size := Nat.mod_lt _ h0
      have e : j / size * size + j % size = j := Nat.div_add_mod' j size
      have h1 := flat_at cells size hcl ((List.range len).map f) (j / size) (j % size) (by simpa using hq) hr
      rw [e, hu] at h1
      have h2 := (hf (j / size) hq).2 (j % size) hr
      rw [e, Addr.add_lit] at h2
      rw [h2, h1]
      simp
    · intro r hr
      simp only [List.mem_map, List.mem_range] at hr
      obtain ⟨i, hi', rfl⟩ := hr
      exact (hf i hi').1
end

end Go.Proofs.YtdjlcgldplndiaaDoor
