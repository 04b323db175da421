/- Pairs that come in, opened; a bound on how many there are. No condition. Bytes that come in, opened; a bound on how many there are. No condition. The package's variable of the least runes lies as its initialiser lays it: out of a row's own condition. No condition. Two closed facts on the program. No condition. PackReads: the walk. Condition: no more bytes than fit into memory. PackReads returns true at any bytes, and leaves all memory that was there as it was. No condition. -/
import Derived.Test.YtcmjohaohdgnjaaDoorFnd
import Derived.SizedLaws
import Derived.Test.YtcmjohaohdgnjaaDoorTextA
import Derived.Test.YtcmjohaohdgnjaaDoorUtf
import Derived.Test.YtcmjohaohdgnjaaDoorRows
import Derived.Lib.LaidTab
import Derived.Test.YtcmjohaohdgnjaaDoorRuD
import Derived.Test.YtcmjohaohdgnjaaDoorUnpV
import Derived.Test.YtcmjohaohdgnjaaDoorAlive8
import Derived.Test.YtcmjohaohdgnjaaDoorCards
import Derived.Test.YtcmjohaohdgnjaaDoorTie
import Derived.WalkKit
import Derived.ProofKit
import Derived.OpenShut
import Derived.Deep.DeepHandedRow
namespace Go.Proofs.YtcmjohaohdgnjaaDoor
open Go.RowKit Go.ChangeShapes Go.WideShapes Go.ChangeAt

section
variable {H : Type} {enc : TypeId × Value → H} {w : World} {base : Nat} {spare : Nat → Bool} {held : Bool}

theorem list2 {cs : List Value} (h : cs.length = 2) : ∃ a b, cs = [a, b] := by
  match cs, h with
  | [a, b], _ => exact ⟨a, b, rfl⟩

theorem pair_elem (n : Nat) (cs : List Value) (y : DataW H × List MemPlace) (hl : cs.length = 2) (h : DataW.trod enc Tryd.prog w base spare held n 36 cs = some y) : ∃ r : PRow, cs = r.cells ∧ r.Wf := by
  obtain ⟨s, hs, ws⟩ := field_string Tryd.underlying36 h 0 _ rfl (by kernel_rfl) (by kernel_rfl)
  obtain ⟨b, hb, _⟩ := field_int (k := .i64) Tryd.underlying36 h 1 _ rfl (by kernel_rfl) (by kernel_rfl)
  obtain ⟨x0, x1, rfl⟩ := list2 hl
  simp at hs hb
  exact ⟨⟨s, b⟩, by rw [hs, hb]; rfl, ws⟩

set_option maxRecDepth 100000 in
/-- Pairs that come in. -/
theorem open_pairs {r : Reach} {b0 : Nat} {v : Value} {d : DataW H} {p : List MemPlace} (hv : Value.okWide Tryd.prog w r b0 27 v) (h : DataW.Trod enc Tryd.prog w base spare held 27 v d p) :
    ∃ s : SL, v = s.val ∧ s.Ok w ∧ (∀ r ∈ s.L, r.Wf) ∧ s.n ≤ maxLen ∧ s.n ≤ s.c := by
  obtain ⟨a0, len, cap, rfl⟩ := okWide_slice Tryd.underlying27 hv
  obtain ⟨fuel, hf⟩ := h
  obtain ⟨A, len', cap', l, hcs, hl, hlc, hm, hn, hr, hw⟩ := open_rows PRow.cells PRow.Wf 2 (fun _ => rfl) (by decide) Tryd.underlying27 (by kernel_rfl) pair_elem hf
  simp [Value.cells] at hcs
  obtain ⟨rfl, rfl, rfl⟩ := hcs
  exact ⟨⟨_, _, _, l⟩, rfl, ⟨hl, hr, hn⟩, hw, Nat.le_trans hlc hm, hlc⟩

set_option maxRecDepth 100000 in
/-- A pair that comes in by value. -/
theorem open_pair {r : Reach} {b0 : Nat} {v : Value} {d : DataW H} {p : List MemPlace} (hv : Value.okWide Tryd.prog w r b0 36 v) (h : DataW.Trod enc Tryd.prog w base spare held 36 v d p) :
    ∃ o : PRow, v = o.val ∧ o.Wf := by
  obtain ⟨cs, rfl, hsz⟩ := okWide_struct Tryd.underlying36 hv
  obtain ⟨fuel, hf⟩ := h
  have hC : Tryd.prog.cellsOf 36 = 2 := by kernel_rfl
  obtain ⟨o, ho, hw⟩ := pair_elem _ _ _ (by show cs.toList.length = 2; rw [Array.length_toList]; exact hsz.trans hC) hf
  refine ⟨o, ?_, hw⟩
  have : cs.toList = o.cells := ho
  have e : cs = #[.string o.word, .int .i64 o.weight] := by rw [← Array.toArray_toList (xs := cs), this]; rfl
  rw [e]; rfl

/-- A slice's datum has as many elements as the slice. -/
theorem slice_data {t e : TypeId} {A : Option Addr} {n c : Nat} {d : DataW H} {p : List MemPlace} (ht : Tryd.prog.underlying t = some (.slice e)) (h : DataW.Trod enc Tryd.prog w base spare held t (.slice A n c) d p) :
    n = 0 ∨ ∃ elems sp, d = .slice elems sp ∧ elems.length = n := by
  obtain ⟨fuel, hf⟩ := h
  rcases Go.Deep.open_slice ht hf with ⟨hcs, _⟩ | ⟨a, len, cap, m, n', D, Pl, hcs, _, _, _, _, hx, _⟩
  · simp [Value.cells] at hcs
    exact .inl hcs.2.1
  · simp [Value.cells] at hcs
    simp only [Prod.mk.injEq] at hx
    exact .inr ⟨_, _, hx.1, by simp [hcs.2.1]⟩

theorem bulk_pos (d : DataW H) : 1 ≤ Rows.uptoBulk d := by
  cases d with
  | lit l => cases l <;> simp [Rows.uptoBulk]
  | _ => simp [Rows.uptoBulk]
theorem bulk_len (l : List (DataW H)) : l.length ≤ Rows.uptoBulkAll l := by
  induction l with
  | nil => simp [Rows.uptoBulkAll]
  | cons x r ih => have := bulk_pos x; simp only [Rows.uptoBulkAll, List.length_cons]; omega
/-- A slice of pairs is no longer than its bulk. -/
theorem bulk_slice {s : SL} {d : DataW H} {p : List MemPlace} (h : DataW.Trod enc Tryd.prog w base spare held 27 s.val d p) : s.n ≤ Rows.uptoBulk d := by
  rcases slice_data Tryd.underlying27 h with e | ⟨el, sp, hd, he⟩
  · omega
  · rw [hd]
    have := bulk_len el
    simp only [Rows.uptoBulk]
    omega
/-- A slice of pairs takes no more than may be reached. -/
theorem sized_pairs {ts : List TypeId} {ds : List (DataW H)} {j : Nat} {s : SL} {d : DataW H} {p : List MemPlace} (hz : (DataW.weightsEach Tryd.prog ts ds).all (· ≤ reachBytes) = true) (ht : ts[j]? = some 27) (hd : ds[j]? = some d)
    (h : DataW.Trod enc Tryd.prog w base spare held 27 s.val d p) : s.n ≤ 5864062014634 := by
  rcases slice_data Tryd.underlying27 h with e | ⟨el, sp, hd2, he⟩
  · omega
  · subst hd2
    have hs := sized_slice hz ht hd Tryd.underlying27
    have hb : Tryd.prog.bytesOf 36 = 24 := by kernel_rfl
    rw [hb] at hs
    have hr : reachBytes = 140737488351232 := by decide
    omega
end

/-! ### the witness -/
/-- A world in which the listed variable holds what its initialiser lays. -/
noncomputable def laidWorld (os : Os) : World :=
  { World.holding Tryd.prog os ⟨#[], #[], []⟩ with heap := (World.holding Tryd.prog os ⟨#[], #[], []⟩).heap.modify 0 fun
      | .cells _ t frozen => .cells #[.int .i32 0, .int .i32 0, .int .i32 128, .int .i32 2048, .int .i32 65536] t frozen
      | o => o }

end Go.Proofs.YtcmjohaohdgnjaaDoor

namespace Go.Proofs.YtcmjohaohdgnjaaDoor
open Go.RowKit Go.ChangeShapes Go.WideShapes Go.ChangeAt

instance : Inhabited UInt8 := ⟨0⟩
theorem flat_one (l : List UInt8) : l.flatMap (fun b : UInt8 => [byteV b]) = l.map byteV := by
  induction l with
  | nil => rfl
  | cons a l ih => rw [List.flatMap_cons, ih]; rfl
section
variable {H : Type} {enc : TypeId × Value → H} {w : World} {base : Nat} {spare : Nat → Bool} {held : Bool}
theorem byte_elem (n : Nat) (cs : List Value) (y : DataW H × List MemPlace) (_ : cs.length = 1) (h : DataW.trod enc Tryd.prog w base spare held n 5 cs = some y) : ∃ b : UInt8, cs = [byteV b] ∧ True := by
  obtain ⟨x, hx, _, hw⟩ := DataW.trod_int Tryd.underlying5 h
  have h8 : 0 ≤ x ∧ x < 256 := by
    simp [Lit.wf, IntKind.min, IntKind.max, IntKind.signed, IntKind.bits] at hw
    omega
  refine ⟨UInt8.ofNat x.toNat, ?_, trivial⟩
  have e : byteV (UInt8.ofNat x.toNat) = .int .u8 x := by
    unfold byteV
    rw [UInt8.toNat_ofNat', Nat.mod_eq_of_lt (by omega), show ((x.toNat : Nat) : Int) = x by omega]
  rw [e]
  exact hx
set_option maxRecDepth 100000 in
theorem open_byte {r : Reach} {b0 : Nat} {v : Value} {d : DataW H} {p : List MemPlace} (hv : Value.okWide Tryd.prog w r b0 5 v) (h : DataW.Trod enc Tryd.prog w base spare held 5 v d p) : ∃ b : UInt8, v = byteV b := by
  obtain ⟨k, rfl⟩ := okWide_int Tryd.underlying5 hv
  obtain ⟨fuel, hf⟩ := h
  obtain ⟨b, hb, _⟩ := byte_elem fuel _ _ (by rfl) hf
  refine ⟨b, ?_⟩
  have := congrArg (fun l => l[0]?) hb
  simpa [Value.cells] using this
set_option maxRecDepth 100000 in
theorem open_bytes {r : Reach} {b0 : Nat} {v : Value} {d : DataW H} {p : List MemPlace} (hv : Value.okWide Tryd.prog w r b0 32 v) (h : DataW.Trod enc Tryd.prog w base spare held 32 v d p) :
    ∃ (A : Option Addr) (n c : Nat) (bs : List UInt8), v = .slice A n c ∧ Reads w 1 A n (bs.map byteV) ∧ bs.length = n ∧ n ≤ c ∧ n ≤ maxLen ∧ n ≤ Rows.uptoBulk d := by
  obtain ⟨a0, len, cap, rfl⟩ := okWide_slice Tryd.underlying32 hv
  have h2 := h
  obtain ⟨fuel, hf⟩ := h
  obtain ⟨A, len', cap', l, hcs, hl, hlc, hm, hn, hr, hw⟩ := open_rows (fun b : UInt8 => [byteV b]) (fun _ => True) 1 (fun _ => rfl) (by decide) Tryd.underlying32 (by kernel_rfl) byte_elem hf
  simp [Value.cells] at hcs
  obtain ⟨rfl, rfl, rfl⟩ := hcs
  refine ⟨_, _, _, l, rfl, by rw [← flat_one]; exact hr, hl, hlc, Nat.le_trans hlc hm, ?_⟩
  rcases slice_data Tryd.underlying32 h2 with e0 | ⟨el, sp, hd, he⟩
  · omega
  · rw [hd]
    have := bulk_len el
    simp only [Rows.uptoBulk]
    omega
set_option maxRecDepth 100000 in
theorem open_bytes0 {r : Reach} {b0 : Nat} {v : Value} {d : DataW H} {p : List MemPlace} (hv : Value.okWide Tryd.prog w r b0 32 v) (h : DataW.Trod enc Tryd.prog w base spare held 32 v d p) :
    ∃ (A : Option Addr) (n c : Nat) (bs : List UInt8), v = .slice A n c ∧ Reads w 1 A n (bs.map byteV) ∧ bs.length = n ∧ n ≤ c ∧ n ≤ maxLen ∧ (A = none → n = 0 ∧ c = 0) := by
  obtain ⟨a0, len, cap, rfl⟩ := okWide_slice Tryd.underlying32 hv
  have h2 := h
  obtain ⟨fuel, hf⟩ := h
  obtain ⟨A, len', cap', l, hcs, hl, hlc, hm, hn, hr, hw⟩ := open_rows (fun b : UInt8 => [byteV b]) (fun _ => True) 1 (fun _ => rfl) (by decide) Tryd.underlying32 (by kernel_rfl) byte_elem hf
  simp [Value.cells] at hcs
  obtain ⟨rfl, rfl, rfl⟩ := hcs
  exact ⟨_, _, _, l, rfl, by rw [← flat_one]; exact hr, hl, hlc, Nat.le_trans hlc hm, hn⟩
end

end Go.Proofs.YtcmjohaohdgnjaaDoor

namespace Go.Proofs.YtcmjohaohdgnjaaDoor
open Go.RowKit

theorem lst_of_laid {W : World} {laid : List (String × DataW Unit)} (he : laid = [("abecedary/letters.least", Rows.laid_abecedary_letters_least)]) (h : laidMetH Tryd.prog laid W) : Lst W := by
  subst he
  have hL : laidMet Tryd.prog (("abecedary/letters.least", Lib.tabData .i32 [0, 0, 128, 2048, 65536]) :: []) W := h
  have h := Lib.tabIs_of_head (g := 0) (t := 117) (e := 21) (n := 5) (by kernel_rfl) (by kernel_rfl) Tryd.underlying117 Tryd.underlying21 (by kernel_rfl) (by kernel_rfl) hL
  unfold Lib.TabIs World.var? at h
  rw [show Tryd.prog.globalNamed "abecedary/letters.least" = some 0 by kernel_rfl] at h
  simp only [Option.bind_some] at h
  have hg : ∃ cs t fr, W.heap[0]? = some (.cells cs t fr) ∧ cs = (([0, 0, 128, 2048, 65536] : List Int).map fun z => Value.int .i32 z).toArray := by
    cases hh : W.heap[0]? with
    | none => rw [hh] at h; cases h
    | some o =>
      rw [hh] at h
      cases o with
      | cells cs t fr => exact ⟨cs, t, fr, rfl, Option.some.inj h⟩
      | _ => cases h
  obtain ⟨cs, t, fr, hg, rfl⟩ := hg
  refine ⟨(Array.getElem?_eq_some_iff.1 hg).1, ?_, ?_, ?_⟩
  · unfold World.cell?; rw [hg]; rfl
  · unfold World.cell?; rw [hg]; rfl
  · unfold World.cell?; rw [hg]; rfl

end Go.Proofs.YtcmjohaohdgnjaaDoor

namespace Go.Proofs.YtcmjohaohdgnjaaDoor
open Go.RowKit Go.ChangeShapes Go.WideShapes Go.ChangeAt

theorem Tryd.own : ownKnob Tryd.prog.godebug = none := by kernel_rfl
theorem Tryd.laidOut : laidOutB Tryd.prog = true := by kernel_rfl

end Go.Proofs.YtcmjohaohdgnjaaDoor

namespace Go.Proofs.YtcmjohaohdgnjaaDoor
open Go.RowKit
set_option linter.unusedSectionVars false
set_option linter.unusedSimpArgs false
set_option linter.unusedVariables false

set_option maxRecDepth 100000 in
set_option maxHeartbeats 4000000 in
theorem wpreads_walk (W : World) (hL : Lst W) (A : Option Addr) (n c : Nat) (xs : List UInt8) (hr : Reads W 1 A n (xs.map byteV)) (hl : xs.length = n) (hnc : n ≤ c) (hA : A = none → n = 0 ∧ c = 0) :
    Calls Tryd.prog 7 #[.slice A n c] W fun e W' => e = .returned (.bool true) ∧ Below W.heap.size W W' := by
  have HL := hide hL
  by_cases hbig : 2000 < n
  · have y0 : (2000 : Int) < (n : Int) := by omega
    clear hbig hr hl hnc hA hL
    go_enter Tryd.func7, Tryd.ntmps7
    go_wp2_with fail
    refine (alive8_any W HL.out).mono ?_
    rintro e w2 ⟨rfl, T2⟩
    have HT2 := hide T2
    clear T2
    go_wp2_with fail
    go_ret
    exact ⟨rfl, HT2.out.below (Nat.le_refl _) (fun _ _ f => f)⟩
  have y0 : ¬ (2000 : Int) < (n : Int) := by omega
  have HUP := hide (unpack_any W hL A n c xs hr hl (by omega))
  have HRU := hide (fun wx (T : Touch (fun _ => False) W wx) => runpack_any wx A n c xs (hr.touch T (fun _ _ f => f)) hl (by omega) hnc hA (Nat.zero_le _))
  clear hbig hr hl hnc hA hL
  go_enter Tryd.func7, Tryd.ntmps7
  go_wp2_with fail
  refine HUP.out.mono ?_
  rintro e w1 ⟨T1, ⟨base, sts, hb, hf, hrg, hxs, A1, n1, c1, Y, rfl, hY, hYp, hn1⟩ | ⟨hno, rfl⟩⟩
  · have hpk : Packs xs := ⟨base, sts, hb, hrg, hxs⟩
    have hm1 : machQ xs.length xs = some ((base, sts.map StP.z), []) := by
      rw [hxs]
      exact machQ_write hb (rgtp_few2 hrg) (rgtp_form2 hrg) _ (Nat.le_refl _)
    obtain ⟨w2, hw2⟩ : ∃ x, x = w1.alloc (.cells #[.int .i64 base, .slice A1 n1 c1] 24) := ⟨_, rfl⟩
    have hT12 : Touch (fun _ => False) w1 w2 := by rw [hw2]; exact (Touch.refl _ _).alloc _
    have hbM : Blk w2 w1.heap.size 24 #[.int .i64 base, .slice A1 n1 c1] := by rw [hw2]; exact Blk.new _ _ _
    have hn1m : n1 ≤ maxLen := by
      have := rgtp_few2 hrg
      rw [← hYp, List.length_map, hY.len] at this
      unfold maxLen
      omega
    have HT2 := hide (T1.then hT12)
    have HW2 := hide hw2
    have HBM := hide hbM
    have HY := hide (stsZ_of (hY.quiet hT12))
    have HYP := hide hYp
    have HPK := hide hpk
    have HM1 := hide hm1
    have HN1 := hide hn1m
    clear hw2 hT12 hbM hY hYp hrg hxs T1 HUP hb hf hpk hm1 hn1 hn1m
    go_wp2_with fail
    rw [← HW2.out]
    refine (HRU.out w2 HT2.out).mono ?_
    rintro e w3 ⟨T3, ⟨bn, st2, A3, n3, c3, Z, hb3, hrg3, hxs3, rfl, hZ, hZp⟩ | ⟨hno, rfl⟩⟩
    · have hm3 : machQ xs.length xs = some ((bn, st2.map StP.z), []) := by
        rw [hxs3]
        exact machQ_write hb3 (rgtp_few2 hrg3) (rgtp_form2 hrg3) _ (Nat.le_refl _)
      rw [HM1.out] at hm3
      simp only [Option.some.injEq, Prod.mk.injEq, and_true] at hm3
      obtain ⟨h1, h2⟩ := hm3
      subst h1
      obtain ⟨w4, hw4⟩ : ∃ x, x = w3.alloc (.cells #[.int .i64 base, .slice A3 n3 c3] 24) := ⟨_, rfl⟩
      have hT34 : Touch (fun _ => False) w3 w4 := by rw [hw4]; exact (Touch.refl _ _).alloc _
      have hb4 : Blk w4 w3.heap.size 24 #[.int .i64 base, .slice A3 n3 c3] := by rw [hw4]; exact Blk.new _ _ _
      have hT4 := HT2.out.then (T3.then hT34)
      have hbm4 := HBM.out.touch (T3.then hT34) (fun f => f)
      have hsame := fun wx (T : Touch (fun _ => False) w4 wx) => samemz_any wx (base : Int) (base : Int) A1 n1 c1 _ A3 n3 c3 Z (HY.out.quiet ((T3.then hT34).then T)) ((hZ.quiet hT34).quiet T) HN1.out
      have heq : ((base : Int) = (base : Int) ∧ (Y.map SV.zv).map ZV.p = Z.map ZV.p) := ⟨rfl, by rw [zv_map, HYP.out, hZp, h2]⟩
      have HS := hide hsame
      have HEQ := hide heq
      have HT4 := hide hT4
      have HB4 := hide hb4
      have HBM4 := hide hbm4
      have HW4 := hide hw4
      clear hw4 hT34 hb4 hT4 hbm4 hsame heq T3 hb3 hrg3 hxs3 hZ hZp h2
      go_wp2_with fail
      rw [← HW4.out]
      refine (alive8_any w4 (Lst.touch HL.out HT4.out)).mono ?_
      rintro e w5 ⟨rfl, T5⟩
      obtain ⟨m0, m1, m2⟩ := (HBM4.out.touch T5 (fun f => f)).facts
      obtain ⟨q0, q1, q2⟩ := (HB4.out.touch T5 (fun f => f)).facts
      have HC := hide (HS.out w5 T5)
      have HT5 := hide (HT4.out.then T5)
      clear T5
      go_wp2_with fail
      refine HC.out.mono ?_
      rintro e w6 ⟨⟨v, rfl, hv⟩, T6⟩
      have hvt : v = true := hv.2 HEQ.out
      subst hvt
      have HT6 := hide (HT5.out.then T6)
      clear hv T6
      go_wp2_with fail
      go_ret
      exact ⟨by simp, HT6.out.below (Nat.le_refl _) (fun _ _ f => f)⟩
    · exact absurd HPK.out hno
  · have hnp : ¬ Packs xs := fun ⟨bn, sts, h1, h2, h3⟩ => hno bn sts h1 h2 h3
    obtain ⟨w2, hw2⟩ : ∃ x, x = w1.alloc (.cells #[.int .i64 0, .slice none 0 0] 24) := ⟨_, rfl⟩
    have hT12 : Touch (fun _ => False) w1 w2 := by rw [hw2]; exact (Touch.refl _ _).alloc _
    have hbM : Blk w2 w1.heap.size 24 #[.int .i64 0, .slice none 0 0] := by rw [hw2]; exact Blk.new _ _ _
    have HT2 := hide (T1.then hT12)
    have HW2 := hide hw2
    have HBM := hide hbM
    have HNP := hide hnp
    clear hw2 hT12 hbM T1 HUP hno hnp
    go_wp2_with fail
    rw [← HW2.out]
    refine (HRU.out w2 HT2.out).mono ?_
    rintro e w3 ⟨T3, ⟨bn, st2, A3, n3, c3, Z, hb3, hrg3, hxs3, rfl, hZ, hZp⟩ | ⟨_, rfl⟩⟩
    · exact absurd ⟨bn, st2, hb3, hrg3, hxs3⟩ HNP.out
    · obtain ⟨w4, hw4⟩ : ∃ x, x = w3.alloc (.cells #[.int .i64 0, .slice none 0 0] 24) := ⟨_, rfl⟩
      have hT34 : Touch (fun _ => False) w3 w4 := by rw [hw4]; exact (Touch.refl _ _).alloc _
      have hb4 : Blk w4 w3.heap.size 24 #[.int .i64 0, .slice none 0 0] := by rw [hw4]; exact Blk.new _ _ _
      have hT4 := HT2.out.then (T3.then hT34)
      have hbm4 := HBM.out.touch (T3.then hT34) (fun f => f)
      have hnil : ∀ wx : World, StsZ wx none 0 [] := fun wx => ⟨⟨Reads.nil _ _ _, fun h => absurd h (Nat.lt_irrefl _)⟩, rfl, fun z hz => by cases hz⟩
      have hsame := fun wx => samemz_any wx 0 0 none 0 0 [] none 0 0 [] (hnil wx) (hnil wx) (Nat.zero_le _)
      have HS := hide hsame
      have HT4 := hide hT4
      have HB4 := hide hb4
      have HBM4 := hide hbm4
      have HW4 := hide hw4
      clear hw4 hT34 hb4 hT4 hbm4 hsame hnil T3
      go_wp2_with fail
      rw [← HW4.out]
      refine (alive8_any w4 (Lst.touch HL.out HT4.out)).mono ?_
      rintro e w5 ⟨rfl, T5⟩
      obtain ⟨m0, m1, m2⟩ := (HBM4.out.touch T5 (fun f => f)).facts
      obtain ⟨q0, q1, q2⟩ := (HB4.out.touch T5 (fun f => f)).facts
      have HC := hide (HS.out w5)
      have HT5 := hide (HT4.out.then T5)
      clear T5
      go_wp2_with fail
      refine HC.out.mono ?_
      rintro e w6 ⟨⟨v, rfl, hv⟩, T6⟩
      have hvt : v = true := hv.2 (by simp)
      subst hvt
      have HT6 := hide (HT5.out.then T6)
      clear hv T6
      go_wp2_with fail
      go_ret
      exact ⟨by simp, HT6.out.below (Nat.le_refl _) (fun _ _ f => f)⟩

end Go.Proofs.YtcmjohaohdgnjaaDoor

namespace Go.Proofs.YtcmjohaohdgnjaaDoor
open Go.RowKit Go.ChangeShapes Go.WideShapes Go.ChangeAt

theorem wreads_laid (os : Os) : laidMet Tryd.prog Rows.packReadsRow.laid ((laidWorld os).forCall (fun _ _ => 0) ⟨#[], #[.slice none 0 0], []⟩).memory :=
  laidMet_of_run' 8 (by kernel_rfl) (by kernel_rfl)
theorem wreads_reads (os : Os) {H : Type} (enc : TypeId × Value → H) : ∃ places, DataW.whole enc Tryd.prog ((laidWorld os).forCall (fun _ _ => 0) ⟨#[], #[.slice none 0 0], []⟩).memory Tryd.f7.params.toList Rows.packReadsSpec.vars false (#[.slice none 0 0] : Array Value).toList 8 = some ([.nil], [], places) :=
  ⟨[], by kernel_rfl⟩

set_option maxRecDepth 100000 in
theorem wreads_lifted (os : Os) (started : os.Started) (H : Type) (enc : TypeId × Value → H) (F : Stop.Interp) :
    ReturnsInHanded {} Tryd.checked os 7 .any ((OpenSpec.ofChange Rows.packReadsSpec).preRow enc Tryd.prog Tryd.f7 Rows.packReadsRow.domain false Rows.packReadsRow.laid) (((OpenSpec.ofChange Rows.packReadsSpec).at F).post enc Tryd.prog Tryd.f7 false true false false) := by
  obtain ⟨places, hx⟩ := wreads_reads os enc
  refine returnsInHanded_of_row (C := Tryd.checked) (s := OpenSpec.ofChange Rows.packReadsSpec) Tryd.own started (by kernel_rfl) Tryd.func7
    (witness_row_at (enc := enc) (C := Tryd.checked) false (laidWorld os) #[.slice none 0 0] rfl (by kernel_rfl) (by kernel_rfl) (by kernel_rfl)
      (OpenSpec.preRow_of_cond 8 hx (by kernel_rfl) (fun k hk => by cases hk) (by kernel_rfl) (wreads_laid os))) ?_
  intro W base args ds gs before hval0 hW0 _ hcond hsz hLaid _ _
  have hW : DataW.Whole enc Tryd.prog Tryd.f7.params.toList Rows.packReadsSpec.vars false W args.toList ds gs before := hW0
  have hval : ∀ (j : Nat) t v, Tryd.f7.params[j]? = some t → args[j]? = some v → Value.okWide Tryd.prog W .any base t v := hval0
  obtain ⟨p, hA0, rfl⟩ := whole_args (s := Rows.packReadsSpec) rfl hW
  have hA : DataW.TrodAll enc Tryd.prog W 0 (fun _ => true) true Tryd.f7.params.toList args.toList ds p := hA0
  rw [Tryd.params7] at hA hval
  obtain ⟨v0, d0, rfl, rfl, h0⟩ := trodAll_one hA
  obtain ⟨A0, n0, c0, bs0, rfl, hr0, hl0, hnc0, _, hA0⟩ := open_bytes0 (hval 0 32 v0 rfl rfl) h0
  refine (wpreads_walk W (lst_of_laid rfl hLaid) A0 n0 c0 bs0 hr0 hl0 hnc0 hA0).mono fun e W' ⟨he, bel⟩ => ?_
  subst he
  exact ⟨_, rfl, post_true (s := Rows.packReadsSpec) hW rfl (by kernel_rfl) (by kernel_rfl) (tb := 4) (by kernel_rfl) rfl Tryd.laidOut (by kernel_rfl) bel⟩

theorem wreads_said : Rows.PackReadsSaid :=
  OpenClaim.holds_of_cond 7 Tryd.f7 rfl rfl rfl rfl rfl rfl rfl ⟨rfl, rfl, rfl, rfl, rfl⟩ rfl rfl rfl rfl rfl (by kernel_rfl) Tryd.func7 (by kernel_rfl)
    (of_decide_eq_true (by kernel_rfl)) (by unfold Func.isWrapper; first | (rw [if_pos (by decide +kernel)]; kernel_rfl) | (rw [if_neg (by decide +kernel)]; exact ⟨rfl, rfl⟩))
    (fun os started H enc _ F => by rw [OpenClaim.pre_eq_preRow]; exact wreads_lifted os started H enc F)

theorem wreads_plain (f : FuncId) (fn : Func) (hf : Tryd.pinned.checked.prog.funcNamed "abecedary/abecedarylaw08.PackReads" = some f) (hfn : Tryd.pinned.checked.prog.funcs[f]? = some fn) :
    false = Tryd.pinned.checked.prog.looks [] ∧ ∀ (j : Nat) t, fn.params[j]? = some t → Tryd.pinned.checked.prog.wantsStandIn t = false := by
  obtain rfl : f = 7 := Option.some.inj ((show Tryd.prog.funcNamed "abecedary/abecedarylaw08.PackReads" = some 7 by kernel_rfl).symm.trans hf) |>.symm
  obtain rfl : fn = Tryd.f7 := (Option.some.inj (Tryd.func7.symm.trans hfn)).symm
  refine ⟨by kernel_rfl, fun j t ht => ?_⟩
  rw [Tryd.params7] at ht
  have hm := Array.mem_of_getElem? ht
  simp at hm
  subst hm
  exact (show Tryd.prog.wantsStandIn 32 = false by kernel_rfl)
theorem wreads_holds : Rows.PackReadsCardSaid :=
  Claim7.holds_tied_plain_at .later [] _ _ _ _ wreads_said (fun _ h => by cases h) (by kernel_rfl) (fun _ h => by cases h) packReads_row_tie rfl ⟨rfl, rfl⟩ (by kernel_rfl) rfl wreads_plain (by kernel_rfl)
#print axioms wreads_holds
end Go.Proofs.YtcmjohaohdgnjaaDoor
