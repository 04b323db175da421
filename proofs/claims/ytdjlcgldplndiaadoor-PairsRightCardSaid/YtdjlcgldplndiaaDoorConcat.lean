/- slices.Grow from nil, slices.Concat. No condition but that all in all there are no more than 2^40 pairs. -/
import Derived.Test.YtdjlcgldplndiaaDoorSortG
import Derived.Lib.AppendZerosOnto
import Derived.Lib.SliceRun
namespace Go.Proofs.YtdjlcgldplndiaaDoor
open Go.RowKit

set_option maxRecDepth 100000 in
set_option maxHeartbeats 1000000 in
theorem grow_any (k : Nat) (hk : k ≤ 5864062014700) (w : World) :
    Calls Tryd.prog 42 #[.slice none 0 0, .int .i64 k] w fun e w' => ∃ v, e = .returned v ∧ w'.ownsRow 0 29 2 v 0 [] ∧ Touch (fun _ => False) w w' ∧ ∀ g, v.ownBlock = some g → w.heap.size ≤ g := by
  obtain ⟨i0, hi, hz0, hz1, hz2⟩ := info_parts infoPair
  rcases Nat.eq_zero_or_pos k with rfl | hk0
  · clear hi hz0 hz1 hz2
    go_enter Tryd.func42, Tryd.ntmps42
    go_wp2
    go_ret
    exact ⟨_, rfl, World.ownsRow_nil _ _ _ _, Touch.refl _ _, fun g e => by simp [Value.ownBlock] at e⟩
  · have h1 : ¬ (k : Int) < 0 := by omega
    have h4 : (0 : Int) < (k : Int) := by omega
    have hold : (Builtin.firstCells i0.size 0 (.slice none 0 0)).run Tryd.prog w.drew = .ok ([] : List Value).toArray w.drew := run_firstCells_none w.drew i0.size 0 0 0
    have hrz : ∀ ty, (Builtin.append_ #[22, 3] ty #[.slice none 0 0, .int .i64 (k : Int)]).run Tryd.prog w =
        .ok (.slice (some ⟨w.heap.size, 0, none⟩) k (grownCap w k 0 29)) (w.drew.alloc (.cells (([] : List Value).toArray ++ Builtin.zeroCells (Value.agg #[.string ByteArray.empty, .int .i64 0]).cells k ++ Builtin.zeroCells (Value.agg #[.string ByteArray.empty, .int .i64 0]).cells (grownCap w k 0 29 - k)) 29)) := fun ty => by
      have h := Lib.run_append_grow_zeros w 22 3 ty 29 i0 _ .i64 .i64 Tryd.underlying22 Tryd.underlying3 hi hz0 none 0 0 [] hold k hk0 (by omega) (by omega) (by omega) (by rw [hz2]; omega) (by rw [Nat.zero_add]; exact growslice_fits hk0 (by rw [hz2]; omega))
      rw [Nat.zero_add] at h
      exact h
    obtain ⟨G, hG⟩ : ∃ G, G = grownCap w k 0 29 := ⟨_, rfl⟩
    have hGn : k ≤ G := by rw [hG]; exact grownCap_ge w _ _ _
    have hG63 : G ≤ maxLen := by rw [hG]; exact grownCap_le_maxLen w k 0 _ (by unfold maxLen; omega)
    rw [← hG] at hrz
    have HR := hide hrz
    have HGM := hide hG63
    unfold maxLen at hG63
    obtain ⟨cs, hcs⟩ : ∃ cs, cs = ([] : List Value).toArray ++ Builtin.zeroCells (Value.agg #[.string ByteArray.empty, .int .i64 0]).cells k ++ Builtin.zeroCells (Value.agg #[.string ByteArray.empty, .int .i64 0]).cells (G - k) := ⟨_, rfl⟩
    have hsz : cs.size = G * 2 := by
      rw [hcs]
      have hc2 : (Value.agg #[.string ByteArray.empty, .int .i64 0]).cells.size = 2 := rfl
      simp only [Array.size_append, Builtin.zeroCells, Array.size_map, Array.size_range, hc2, List.size_toArray, List.length_nil]
      omega
    rw [← hcs] at HR
    obtain ⟨w2, hw2⟩ : ∃ w2, w2 = w.drew.alloc (.cells cs 29) := ⟨_, rfl⟩
    have hb : Blk w2 w.heap.size 29 cs := by rw [hw2]; exact Blk.new w.drew _ _
    have ht : Touch (fun _ => False) w w2 := by rw [hw2]; exact ((Touch.refl _ _).drew).alloc _
    rw [← hw2] at HR
    have HB := hide hb
    have HT := hide ht
    have HS := hide hsz
    clear hold hrz hG hcs hw2 hb ht hsz hi hz0 hz1 hz2
    go_enter Tryd.func42, Tryd.ntmps42
    go_wp2_with (at_builtin; refine Lib.wpList_append_run _ rfl _ _ _ _ rfl _ _ rfl rfl _ _ (HR.out _) ?_)
    go_ret
    exact ⟨_, rfl, ⟨rfl, .inr ⟨w.heap.size, G, cs, rfl, Nat.zero_le _, HB.out, Nat.zero_le _, HGM.out, HS.out, by simp⟩⟩, HT.out, fun g e => by simp [Value.ownBlock] at e; omega⟩

/-- One of the lists that are concatenated. -/
structure SL where
  A : Option Addr
  n : Nat
  c : Nat
  L : List PRow
instance : Inhabited SL := ⟨⟨none, 0, 0, []⟩⟩
def SL.val (s : SL) : Value := .slice s.A s.n s.c
structure SL.Ok (s : SL) (w : World) : Prop where
  len : s.L.length = s.n
  reads : Reads w 2 s.A s.n (pCells s.L)
  nil : s.A = none → s.n = 0 ∧ s.c = 0
def sumN (l : List SL) : Nat := (l.map (·.n)).foldr (· + ·) 0
theorem sumN_snoc (l : List SL) (s : SL) : sumN (l ++ [s]) = sumN l + s.n := by
  unfold sumN
  induction l with
  | nil => simp
  | cons a l ih => simp only [List.cons_append, List.map_cons, List.foldr_cons, ih]; omega
theorem sumN_take (l : List SL) (i : Nat) : sumN (l.take i) ≤ sumN l := by
  unfold sumN
  induction l generalizing i with
  | nil => simp
  | cons a l ih =>
    cases i with
    | zero => simp
    | succ i => simp only [List.take_succ_cons, List.map_cons, List.foldr_cons]; have := ih i; omega
theorem onecell_pairs (L : List PRow) : ∀ u ∈ pCells L, u.oneCell' = true := by
  intro u hu
  unfold pCells at hu
  obtain ⟨r, _, hu⟩ := List.mem_flatMap.1 hu
  simp only [PRow.cells, List.mem_cons, List.not_mem_nil, or_false] at hu
  rcases hu with rfl | rfl <;> rfl

set_option maxRecDepth 100000 in
set_option maxHeartbeats 2000000 in
theorem concat_any (w : World) (A0 : Option Addr) (k c0 : Nat) (Ss : List SL) (hk : Ss.length = k) (hR : Reads w 1 A0 k (Ss.map SL.val)) (hok : ∀ s ∈ Ss, s.Ok w) (hsum : sumN Ss ≤ 5864062014700) (hk2 : k ≤ 5864062014700) :
    Calls Tryd.prog 35 #[.slice A0 k c0] w fun e w' => ∃ A n c, e = .returned (.slice A n c) ∧ POwn w' A n c (Ss.flatMap SL.L) ∧ Touch (fun _ => False) w w' ∧ n = sumN Ss ∧ (A = none → n = 0 ∧ c = 0) ∧ ∀ g, adBlock A = some g → w.heap.size ≤ g := by
  obtain ⟨i0, hi, hz0, hz1, hz2⟩ := info_parts infoPair
  have HR := hide hR
  have HK := hide hk
  have HO := hide hok
  have HS := hide hsum
  clear hR hk hok
  have hat : ∀ wr, Touch (fun _ => False) w wr → ∀ i, i < k → ∃ g off, A0 = some ⟨g, off, none⟩ ∧ g < wr.heap.size ∧ wr.cell? ⟨g, off + i, none⟩ = some (Ss.getD i default).val := by
    intro wr T i hi
    obtain ⟨b, off, hA, hb, hc⟩ := (HR.out.touch T (fun _ _ f => f)).2 (by omega)
    refine ⟨b, off, hA, hb, hc i _ ?_⟩
    have hl : i < Ss.length := by rw [HK.out]; exact hi
    simp [List.getD, hl]
  have HAT := hide hat
  clear hat
  go_enter Tryd.func35, Tryd.ntmps35
  go_wp2
  go_loopw [3, 11] (fun sv iv wr => ∃ i s : Nat, iv = .int .i64 i ∧ sv = .int .i64 s ∧ i ≤ k ∧ s ≤ 5864062014700 ∧ Hid (s = sumN (Ss.take i)) ∧ wr = w) (fun _ iv _ => k - (intOf iv).toNat)
  case atStart => exact ⟨0, 0, rfl, rfl, Nat.zero_le _, by omega, hide (by simp [sumN]), rfl⟩
  case round =>
    obtain ⟨i, s, rfl, rfl, hik, hs, HSU, rfl⟩ := hrel
    by_cases h0 : i < k
    · have y0 : (i : Int) < (k : Int) := by omega
      obtain ⟨g, off, rfl, hg, hc⟩ := HAT.out wr (Touch.refl _ _) i h0
      have hl : i < Ss.length := by rw [HK.out]; exact h0
      have hsn : sumN (Ss.take (i + 1)) = sumN (Ss.take i) + (Ss.getD i default).n := by
        have e : Ss.getD i default = Ss[i] := by simp [List.getD, hl]
        rw [List.take_succ_eq_append_getElem hl, sumN_snoc, e]
      have hle := sumN_take Ss (i + 1)
      rw [hsn, ← HSU.out] at hle
      rw [← HSU.out] at hsn
      have hle2 : s + (Ss.getD i default).n ≤ 5864062014700 := Nat.le_trans hle HS.out
      obtain ⟨⟨sA, sn, sc, sL⟩, hx⟩ : ∃ x, x = Ss.getD i default := ⟨_, rfl⟩
      rw [← hx] at hc hsn hle2
      simp only [SL.val] at hc hsn hle2
      have HSN := hide hsn
      clear hx hsn hle hl
      obtain ⟨s2, hs2⟩ : ∃ s2, s2 = s + sn := ⟨_, rfl⟩
      have y1 : (s : Int) + (sn : Int) = (s2 : Int) := by omega
      have y2 : IntKind.i64.wrap (s2 : Int) = (s2 : Int) := IntWalk.i64_in _ (by omega)
      have y3 : ¬ (s2 : Int) < 0 := by omega
      have y4 : s2 ≤ 5864062014700 := by omega
      have HS2 := hide hs2
      clear hs2
      go_wp2
      go_roundw
      · exact ⟨i + 1, s2, by simp, rfl, by omega, y4, hide (by rw [HSN.out, HS2.out]), trivial⟩
      · show k - (intOf (.int .i64 ((i : Int) + 1))).toNat < k - (intOf (.int .i64 (i : Int))).toNat
        simp [intOf]
        omega
    · have hik' : i = k := by omega
      have hs' : s = sumN Ss := by rw [HSU.out, List.take_of_length_le (by rw [HK.out]; omega)]
      have HSS := hide hs'
      clear hs' hik' HSU
      go_wp2_with fail
      refine (grow_any s hs wr).mono ?_
      rintro e w1 ⟨v, rfl, O1, T1, F1⟩
      have HO1 := hide O1
      have HT1 := hide T1
      have HF1 := hide F1
      clear O1 T1 F1
      go_wp2_with fail
      obtain ⟨wo, rfl⟩ : ∃ wo : World, wo = wr := ⟨_, rfl⟩
      go_loopw [6, 27] (fun rv iv wr => ∃ i n : Nat, iv = .int .i64 i ∧ i ≤ k ∧ n ≤ 5864062014700 ∧ Hid (n = sumN (Ss.take i)) ∧ Hid (wr.ownsRow 0 29 2 rv n (pCells ((Ss.take i).flatMap SL.L))) ∧ Hid (Touch (fun _ => False) wo wr) ∧ Hid (∀ g, rv.ownBlock = some g → wo.heap.size ≤ g)) (fun _ iv _ => k - (intOf iv).toNat)
      case atStart => exact ⟨0, 0, rfl, Nat.zero_le _, by omega, hide (by simp [sumN]), hide (by simpa [pCells] using HO1.out), HT1, HF1⟩
      case round =>
        obtain ⟨i, n, rfl, hik2, hn, HSU, HOQ, HTQ, HFQ⟩ := hrel
        by_cases h1 : i < k
        · have y0 : (i : Int) < (k : Int) := by omega
          obtain ⟨g, off, hA, hg, hc⟩ := HAT.out wr HTQ.out i h1
          subst hA
          have hl : i < Ss.length := by rw [HK.out]; exact h1
          have eg : Ss.getD i default = Ss[i] := by simp [List.getD, hl]
          have hsn : sumN (Ss.take (i + 1)) = sumN (Ss.take i) + (Ss.getD i default).n := by
            rw [List.take_succ_eq_append_getElem hl, sumN_snoc, eg]
          have hfl : (Ss.take (i + 1)).flatMap SL.L = (Ss.take i).flatMap SL.L ++ (Ss.getD i default).L := by
            rw [List.take_succ_eq_append_getElem hl, List.flatMap_append, eg]; simp
          have hle := sumN_take Ss (i + 1)
          have hmem : Ss.getD i default ∈ Ss := by rw [eg]; exact List.getElem_mem _
          rw [hsn, ← HSU.out] at hle
          rw [← HSU.out] at hsn
          have hle2 : n + (Ss.getD i default).n ≤ 5864062014700 := Nat.le_trans hle HS.out
          have hok := HO.out _ hmem
          obtain ⟨⟨sA, sn, sc, sL⟩, hx⟩ : ∃ x, x = Ss.getD i default := ⟨_, rfl⟩
          rw [← hx] at hc hsn hle2 hfl hok
          simp only [SL.val] at hc hsn hle2 hfl
          obtain ⟨o1, o2, o3⟩ := hok
          simp only at o1 o2 o3
          have HRS := hide (o2.touch HTQ.out (fun _ _ f => f))
          have HON := hide o3
          have HSN := hide hsn
          have HFL := hide hfl
          obtain ⟨A6, c6, rfl, hc6, hm6⟩ := own_len HOQ.out
          clear hx hsn hle hl eg hmem hfl o1 o2 o3
          unfold maxLen at hm6
          go_wp2_with (at_builtin; refine wpList_app _ rfl (.tmp 31) (.tmp 32) 22 rfl 29 i0 _ 2 24 Tryd.underlying22 hi hz0 hz1 hz2 rfl (by decide) (.slice A6 n c6) n _ rfl HOQ.out sA sn sc (pCells sL) rfl HRS.out ?s1 ?s2 ?s3 ?s4 ?_)
          case s1 => exact HON.out
          case s2 => exact onecell_pairs sL
          case s3 => unfold maxLen; omega
          case s4 => omega
          intro v2 w2 O2 G2 F2 _
          have T2 := HTQ.out.app G2 (fun g hg hlt => by have := HFQ.out g hg; omega)
          have hF : ∀ g, v2.ownBlock = some g → wo.heap.size ≤ g := by
            intro g hg
            rcases F2 with e | ⟨g', e, hg'⟩
            · rw [e] at hg; exact HFQ.out g hg
            · rw [hg] at e
              injection e with e
              have := HTQ.out.size
              omega
          rw [← pCells_app, ← HFL.out] at O2
          have HO2 := hide O2
          have HT2 := hide T2
          have HF2 := hide hF
          clear O2 G2 F2 T2 hF
          go_wp2
          go_roundw
          · exact ⟨i + 1, n + sn, by simp, by omega, by omega, hide HSN.out.symm, HO2, HT2, HF2⟩
          · show k - (intOf (.int .i64 ((i : Int) + 1))).toNat < k - (intOf (.int .i64 (i : Int))).toNat
            simp [intOf]
            omega
        · have hik' : Ss.take i = Ss := List.take_of_length_le (by rw [HK.out]; omega)
          have HSE := hide hik'
          clear hik'
          go_wp2
          go_ret
          obtain ⟨A6, c6, rfl, _, _⟩ := own_len HOQ.out
          have hsu := HSU.out
          have ho := HOQ.out
          rw [HSE.out] at hsu ho
          refine ⟨A6, n, c6, rfl, ho, HTQ.out, hsu, ?_, fun g hg => HFQ.out g (by rw [← hg]; cases A6 <;> rfl)⟩
          rintro rfl
          rcases ho.2 with ⟨e, _⟩ | ⟨g, cap, cur, e, _⟩
          · injection e with _ e1 e2
            exact ⟨e1, e2⟩
          · cases e

end Go.Proofs.YtdjlcgldplndiaaDoor
