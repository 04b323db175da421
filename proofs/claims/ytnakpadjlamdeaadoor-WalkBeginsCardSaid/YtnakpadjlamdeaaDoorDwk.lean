/- A walk on a dictionary, in memory: Len, Find, At, told of the dictionary itself. Conditions: it is a dictionary; the text has no more than 2^40 bytes. -/
import Derived.Test.YtnakpadjlamdeaaDoorAtW
import Derived.Test.YtnakpadjlamdeaaDoorFnd
import Derived.Test.YtnakpadjlamdeaaDoorFindX
namespace Go.Proofs.YtnakpadjlamdeaaDoor
open Go.RowKit

/-- A walk on a dictionary. -/
structure DWk (w : World) (b : Nat) (L : List PRow) (n : Nat) (A : Option Addr) (c : Nat) (Z : List SV) (wA : Option Addr) (wc : Nat) : Prop where
  wk : WkM w b (mach L).base A n c Z wA wc (wdsF (mach L).states n)
  st : Z.map SV.p = (mach L).states
  few : n ≤ 1000000
theorem DWk.quiet {w w' : World} {b : Nat} {L : List PRow} {n : Nat} {A : Option Addr} {c : Nat} {Z : List SV} {wA : Option Addr} {wc : Nat} (h : DWk w b L n A c Z wA wc) (T : Touch (fun _ => False) w w') : DWk w' b L n A c Z wA wc := ⟨h.wk.quiet T, h.st, h.few⟩
theorem mach_ne {L : List PRow} (h : L ≠ []) : mach L = ⟨leastR (restsL L), (stateF 25 ⟨[], []⟩ (restsL L)).1.states⟩ := by unfold mach; rw [if_neg h]
section
variable {w : World} {b : Nat} {L : List PRow} {n : Nat} {A : Option Addr} {c : Nat} {Z : List SV} {wA : Option Addr} {wc : Nat}
theorem DWk.n_len (h : DWk w b L n A c Z wA wc) : (mach L).states.length = n := by rw [← h.st, List.length_map]; exact h.wk.sts.len
theorem DWk.lenOf (h : DWk w b L n A c Z wA wc) (hD : DictP L) : Go.Proofs.YtnakpadjlamdeaaDoor.lenOf n (wdsF (mach L).states n) = (L.length : Int) := by
  have hn := h.n_len
  by_cases he : L = []
  · subst he
    have : n = 0 := by rw [← hn]; rfl
    subst this
    rfl
  · have hm := mach_ne he
    rw [hm] at hn ⊢
    simp only at hn ⊢
    have M := made hD he
    have hher := stateF_her 25 ⟨[], []⟩ (restsL L) (fun X hX => (by cases hX)) (her_dict hD)
    have hpos := M.pos
    unfold Go.Proofs.YtnakpadjlamdeaaDoor.lenOf
    rw [if_neg (by omega), ← hn]
    have := wds_rests M.good hher (j := (stateF 25 ⟨[], []⟩ (restsL L)).1.states.length - 1) (by omega) M.root
    rw [List.getD_eq_getElem?_getD, this, level_len]
    simp [restsL]
theorem dlen_any (h : DWk w b L n A c Z wA wc) (hD : DictP L) :
    Calls Tryd.prog 26 #[.pointer (some ⟨b, 0, none⟩)] w fun e w' => e = .returned (.int .i64 L.length) ∧ Touch (fun _ => False) w w' := by
  have := len_any w b _ A n c Z wA wc _ h.wk h.few
  rw [h.lenOf hD] at this
  exact this
theorem toArr (s : ByteArray) : (⟨s.toList.toArray⟩ : ByteArray) = s := by
  rw [Go.ByteArray.toList_eq]
/-- The word of a number: in the dictionary, or none. -/
def atP (L : List PRow) (i : Int) : PRow × Bool := if 0 ≤ i ∧ i < L.length then (L.getD i.toNat PRow.zero, true) else (PRow.zero, false)
theorem dat_any (h : DWk w b L n A c Z wA wc) (hD : DictP L) (hL : Lst w) (i : Int) :
    Calls Tryd.prog 15 #[.pointer (some ⟨b, 0, none⟩), .int .i64 i] w fun e w' => e = .returned (.tuple #[.agg #[.string (atP L i).1.word, .int .i64 (atP L i).1.weight], .bool (atP L i).2]) ∧ Touch (fun _ => False) w w' := by
  have hl := h.lenOf hD
  by_cases hi : 0 ≤ i ∧ i < L.length
  · have he : L ≠ [] := by rintro rfl; simp at hi; omega
    obtain ⟨k, rfl⟩ : ∃ k : Nat, i = (k : Int) := ⟨i.toNat, by omega⟩
    have hk : k < L.length := by omega
    have e : atP L (k : Int) = (L.getD k PRow.zero, true) := by
      unfold atP
      rw [if_pos hi]
      rfl
    rw [e]
    obtain ⟨p, hp⟩ : ∃ p, L.getD k PRow.zero = p := ⟨_, rfl⟩
    have hpm : p ∈ L := by rw [← hp]; exact getD_mem L PRow.zero k hk
    have hpk : L[k]? = some p := by rw [← hp]; exact getD_get? hk
    rw [hp]
    have hm := mach_ne he
    have M := made hD he
    have hher := stateF_her 25 ⟨[], []⟩ (restsL L) (fun X hX => (by cases hX)) (her_dict hD)
    have hn := h.n_len
    have hst := h.st
    have hwk := h.wk
    rw [hm] at hn hst hwk hl
    simp only at hn hst hwk hl
    obtain ⟨h1, h2, h3, h4⟩ := hD.word p hpm
    have hw := hD.weight p hpm
    have hwr := runesU_write _ _ _ (Nat.le_refl _) h1
    have hbase : 0 ≤ leastR (restsL L) := by
      obtain ⟨r, hr, e⟩ := leastR_mem (rests_ne he)
      obtain ⟨p', hp', rfl⟩ := List.mem_map.1 hr
      have := hD.weight p' hp'
      simp only at e
      omega
    have hat : AtP (stateF 25 ⟨[], []⟩ (restsL L)).1 (n - 1) k [] (leastR (restsL L)) (wordR p) p.weight := by
      refine ⟨_, (wordR p, p.weight - leastR (restsL L)), by rw [← hn]; exact M.root, ?_, rfl, by simp only; omega⟩
      unfold levelR restsL
      rw [List.map_map, List.getElem?_map, hpk]
      rfl
    have := at_some w hL b _ A n c Z wA wc _ hwk h.few _ M.good hher hst (by rw [hn]) k (by rw [hl]; exact hi.2) (wordR p) p.weight hat h4 hwr.2 hbase (by omega)
    rw [← hwr.1, toArr] at this
    exact this
  · have e : atP L i = (PRow.zero, false) := by
      unfold atP
      rw [if_neg hi]
    rw [e]
    exact at_none w b _ A n c Z wA wc _ h.wk h.few i (by rw [hl]; omega)
theorem small_right {sts : List StP} {base : Int} (h : RgtP sts base) (hs : Z.map SV.p = sts) : Small sts.length Z := by
  have key : ∀ z ∈ Z, ∃ i, i < sts.length ∧ FormP i z.p := by
    intro z hz
    rcases h with ⟨h, _⟩ | h
    · rw [h] at hs
      have : Z = [] := by simpa using hs
      rw [this] at hz
      cases hz
    · obtain ⟨i, hi, rfl⟩ := List.mem_iff_getElem.1 hz
      have hl : i < sts.length := by rw [← hs, List.length_map]; exact hi
      refine ⟨i, hl, ?_⟩
      have := h.form i hl
      rw [← hs] at this
      simpa [List.getD, hi] using this
  refine ⟨fun z hz => ?_, fun z hz a ha => ?_, fun z hz => ?_⟩
  · obtain ⟨i, hi, hf⟩ := key z hz
    exact hf.lab.imp fun h => Nat.ne_of_lt h
  · obtain ⟨i, hi, hf⟩ := key z hz
    have := hf.arc a ha
    exact ⟨this.1, this.2.1, by omega⟩
  · obtain ⟨i, hi, hf⟩ := key z hz
    exact ⟨hf.out0, hf.out1⟩
theorem base_mach (hD : DictP L) : 0 ≤ (mach L).base ∧ (mach L).base ≤ 1048576 := by
  rcases right_mach hD with ⟨_, h⟩ | h
  · rw [h]; omega
  · have h1 := h.base1
    have h2 := h.base2
    omega
theorem findW_mach (hD : DictP L) (bs : List UInt8) : findW (mach L).states (((mach L).states.length : Int) - 1) (mach L).base bs = findP bs L := by
  unfold findW
  by_cases he : L = []
  · subst he
    cases hr : runesU bs with
    | none => rfl
    | some x =>
      cases x with
      | nil => rfl
      | cons r x => rfl
  · cases hr : runesU bs with
    | none =>
      have hno : ∀ p ∈ L, p.word.toList ≠ bs := fun p hp e => by
        have h1 := (hD.word p hp).1
        rw [e, hr] at h1
        cases h1
      rw [key_none hno]
    | some x =>
      have hpos : 0 < (mach L).states.length := by rw [mach_ne he]; exact (made hD he).pos
      rw [← mach_find hD he bs x hr]
      simp only
      rw [show (((mach L).states.length - 1 : Nat) : Int) = ((mach L).states.length : Int) - 1 by omega]
theorem dfind_any (h : DWk w b L n A c Z wA wc) (hD : DictP L) (hL : Lst w) (s : ByteArray) (hs : s.size ≤ 1099511627776) :
    Calls Tryd.prog 13 #[.pointer (some ⟨b, 0, none⟩), .string s] w fun e w' => e = .returned (.tuple #[.int .i64 (findP s.toList L).1, .bool (findP s.toList L).2]) ∧ Touch (fun _ => False) w w' := by
  have hn := h.n_len
  have hsm := small_right (right_mach hD) h.st
  rw [hn] at hsm
  have := wfind_any w b (mach L).base A n c Z _ h.wk.blk h.wk.sts hL s hs h.few (base_mach hD).1 (base_mach hD).2 hsm
  rw [h.st] at this
  have e := findW_mach hD s.toList
  rw [hn] at e
  rw [e] at this
  exact this
end

end Go.Proofs.YtnakpadjlamdeaaDoor
