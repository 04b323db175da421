/- FuzzyNothing: the walk. Condition: the arguments can be read. FuzzyOver: the plain law. No condition. FuzzyOver: the walk. Conditions: the arguments can be read; no more than 2^40 pairs, no change's text beyond 2^40 bytes. -/
import Derived.Test.YtfaoifggkfmokaaDoorFmw
import Derived.Test.YtfaoifggkfmokaaDoorOpens
namespace Go.Proofs.YtfaoifggkfmokaaDoor
open Go.RowKit
set_option linter.unusedSectionVars false
set_option linter.unusedSimpArgs false
set_option linter.unusedVariables false

theorem nrm_empty {Y : List PRow} (h : Nrm [] Y) : Y = [] := by
  cases Y with
  | nil => rfl
  | cons p Y =>
    have h1 := h.2 p.word.toList
    simp [key] at h1
theorem keptM_empty (M : List MRow) : keptM [] M = M := by
  unfold keptM
  rw [List.filter_eq_self]
  intro m _
  simp [findP, key]
theorem dict_strict {L : List PRow} (hD : DictP L) : L.Pairwise (fun a b => plt a b = true) := by
  have h := hD.sort
  unfold SortR restsL at h
  rw [List.pairwise_map] at h
  refine List.Pairwise.imp_of_mem ?_ h
  intro a b ha hb hab
  obtain ⟨a1, a2⟩ := runesU_write _ _ _ (Nat.le_refl _) (hD.word a ha).1
  obtain ⟨b1, b2⟩ := runesU_write _ _ _ (Nat.le_refl _) (hD.word b hb).1
  unfold plt
  rw [a1, b1, less_runes _ _ (fun r hr => scal_lt (a2 r hr)) (fun r hr => scal_lt (b2 r hr))]
  exact hab
theorem fz_sorted {L : List PRow} (hD : DictP L) (X : List Nat) (o : Nat) : m_SrtP (fzAllP L X o) := by
  unfold m_SrtP fzAllP
  rw [List.pairwise_filterMap]
  refine (dict_strict hD).imp ?_
  intro a b hab x hx y hy
  split at hx
  · split at hy
    · simp only [Option.some.injEq] at hx hy
      subst hx hy
      exact m_ple_of_plt hab
    · cases hy
  · cases hx

set_option maxRecDepth 100000 in
set_option maxHeartbeats 4000000 in
theorem fno_walk (W : World) (hL : Lst W) (s : SL) (hs : s.Ok W) (hn : s.n ≤ maxLen) (hWf : ∀ r ∈ s.L, r.Wf) (a : ByteArray) (ha : a.size ≤ 9223372036854775807) (k : Int) :
    Calls Tryd.prog 8 #[s.val, .string a, .int .i64 k] W fun e W' => e = .returned (.bool true) ∧ Below W.heap.size W W' := by
  have HON := hide (on_any W hL s hs hWf hn)
  have HL := hide hL
  have HS := hide hs
  obtain ⟨A0, n0, c0, L⟩ := s
  simp only [SL.val] at HON ⊢
  clear hL hs hn hWf
  go_enter Tryd.func8, Tryd.ntmps8
  go_wp2_with fail
  refine HON.out.mono ?_
  rintro e w1 ⟨hon, T1⟩
  rcases hon with ⟨_, rfl⟩ | ⟨hop, hD, b, n, A, c, Z, wA, wc, rfl, hdw⟩
  · have HT1 := hide T1
    have HAL := hide (alive12_any w1 (Lst.touch HL.out T1))
    clear T1 HON
    go_wp2_with fail
    refine HAL.out.mono ?_
    rintro e w2 ⟨rfl, T2⟩
    have HT2 := hide (HT1.out.then T2)
    clear T2
    go_wp2_with fail
    go_ret
    exact ⟨rfl, HT2.out.below (Nat.le_refl _) (fun _ _ f => f)⟩
  · have HT1 := hide T1
    cases hlv : levR a.toList k with
    | false =>
      have HFZ := hide (fzall_no w1 (Lst.touch HL.out T1) (some ⟨b, 0, none⟩) a k ha hlv)
      have HRA := hide (fun wx (T : Touch (fun _ => False) w1 wx) => fmrg_no wx (Lst.touch HL.out (HT1.out.then T)) (.slice none 0 0) (.slice none 0 0) a k ha hlv)
      clear T1 HON hop hD hdw hlv
      go_wp2_with fail
      refine HFZ.out.mono ?_
      rintro e w2 ⟨rfl, T2⟩
      have HT2 := hide (HT1.out.then T2)
      have HRB := hide (HRA.out _ T2)
      clear T2
      go_wp2_with fail
      refine HRB.out.mono ?_
      rintro e w3 ⟨rfl, T3⟩
      have HT3 := hide (HT2.out.then T3)
      have HAL := hide (alive12_any w3 (Lst.touch HL.out (HT2.out.then T3)))
      clear T3
      go_wp2_with fail
      refine HAL.out.mono ?_
      rintro e w4 ⟨rfl, T4⟩
      have HT4 := hide (HT3.out.then T4)
      have HSM := hide (same_yes w4 none 0 0 [] rfl (Reads.nil _ _ _) (by unfold maxLen; omega) none 0 (Reads.nil _ _ _))
      clear T4
      go_wp2_with fail
      refine HSM.out.mono ?_
      rintro e w5 ⟨rfl, T5⟩
      have HT5 := hide (HT4.out.then T5)
      clear T5
      go_wp2_with fail
      go_ret
      exact ⟨rfl, HT5.out.below (Nat.le_refl _) (fun _ _ f => f)⟩
    | true =>
      obtain ⟨X, m, hX, hXl, ha96, rfl, hm⟩ := lev_parts hlv
      have has : a.size ≤ 1099511627776 := by rw [← size_toList]; omega
      have hfl : (fzAllP L X (m + 1)).length ≤ 4096 := by have h1 := fz_len L X (m + 1); have h2 := hD.len; omega
      have HFZ := hide (fzall_yes w1 (Lst.touch HL.out T1) hD hdw a m has X hX hlv)
      have HFL := hide hfl
      have HSR := hide (fz_sorted hD X (m + 1))
      have HRA := hide (fun (wx : World) (T : Touch (fun _ => False) w1 wx) (A2 : Option Addr) (c2 : Nat) (hr : Reads wx 3 A2 (fzAllP L X (m + 1)).length (mCells (fzAllP L X (m + 1)))) => fmrg_yes wx (Lst.touch HL.out (HT1.out.then T)) A2 (fzAllP L X (m + 1)).length c2 (fzAllP L X (m + 1)) rfl hr ⟨none, 0, 0, []⟩ ⟨rfl, Reads.nil _ _ _, fun _ => ⟨rfl, rfl⟩⟩ (by have := HFL.out; simp only; omega) (fun r hr => by cases hr) a m has X hX hlv)
      clear T1 HON hop hD hdw hlv hX hXl ha96 hm has hfl
      go_wp2_with fail
      refine HFZ.out.mono ?_
      rintro e w2 ⟨A2, c2, rfl, ho2⟩
      have HT2 := hide (HT1.out.then ho2.touch)
      have HO2 := hide ho2
      have HRB := hide (HRA.out w2 ho2.touch A2 c2 (Reads.of_own ho2.own))
      simp only [SL.val] at HRB
      clear ho2
      go_wp2_with fail
      refine HRB.out.mono ?_
      rintro e w3 ⟨A3, q3, c3, Y, Z3, rfl, N3, nr3, s3, k3⟩
      have hY := nrm_empty nr3
      subst hY
      rw [keptM_empty] at k3
      simp only [overM, List.filterMap_nil, List.append_nil] at k3
      have hZ : Z3 = fzAllP L X (m + 1) := srtM_unique s3 HSR.out k3.symm
      subst hZ
      have HT3 := hide (HT2.out.then N3.touch)
      have HN3 := hide N3
      have hq := N3.len
      have HAL := hide (alive12_any w3 (Lst.touch HL.out (HT2.out.then N3.touch)))
      clear N3 nr3 s3 k3
      subst hq
      go_wp2_with fail
      refine HAL.out.mono ?_
      rintro e w4 ⟨rfl, T4⟩
      have HT4 := hide (HT3.out.then T4)
      have HSM := hide (same_yes w4 A2 _ c2 _ rfl (Reads.of_own ((HO2.out.to (HN3.out.touch.then T4)).own)) (by have := HFL.out; unfold maxLen; omega) A3 c3 (Reads.of_own (HN3.out.to T4).own))
      clear T4
      go_wp2_with fail
      refine HSM.out.mono ?_
      rintro e w5 ⟨rfl, T5⟩
      have HT5 := hide (HT4.out.then T5)
      clear T5
      go_wp2_with fail
      go_ret
      exact ⟨rfl, HT5.out.below (Nat.le_refl _) (fun _ _ f => f)⟩

open Go.ChangeShapes Go.WideShapes Go.ChangeAt in
theorem str_le {H : Type} {enc : TypeId × Value → H} {w : World} {base : Nat} {spare : Nat → Bool} {held : Bool} {s : ByteArray} {d : DataW H} {p : List MemPlace} (h : DataW.Trod enc Tryd.prog w base spare held 9 (.string s) d p) : s.size ≤ 9223372036854775807 := by
  obtain ⟨fuel, hf⟩ := h
  obtain ⟨s', hc, hx, hm⟩ := DataW.trod_string Tryd.underlying9 hf
  simp [Value.cells] at hc
  subst hc
  have e : maxLen = 9223372036854775807 := by decide
  rw [e] at hm
  exact hm

end Go.Proofs.YtfaoifggkfmokaaDoor

namespace Go.Proofs.YtfaoifggkfmokaaDoor
open Go.RowKit
set_option linter.unusedSimpArgs false
set_option linter.unusedVariables false

theorem mkey_fm (f : PRow → Option MRow) (hf : ∀ p m, f p = some m → m.word = p.word) (x : List UInt8) (L : List PRow) : m_key x (L.filterMap f) = (key x L).filterMap f := by
  induction L with
  | nil => rfl
  | cons p L ih =>
    rw [key_cons]
    cases h : f p with
    | none =>
      rw [List.filterMap_cons_none h, ih]
      split
      · rw [List.filterMap_cons_none h]
      · rfl
    | some m =>
      rw [List.filterMap_cons_some h, m_key_cons, ih, hf p m h]
      split
      · rw [List.filterMap_cons_some h]
      · rfl
theorem mkey_kept (Y : List PRow) (M : List MRow) (x : List UInt8) : m_key x (keptM Y M) = if (findP x Y).2 = true then [] else m_key x M := by
  unfold keptM
  induction M with
  | nil => split <;> rfl
  | cons m M ih =>
    by_cases hw : m.word.toList = x
    · cases hf : (findP x Y).2 with
      | true =>
        rw [List.filter_cons_of_neg (by rw [hw, hf]; decide), ih, hf, if_pos rfl, if_pos rfl]
      | false =>
        rw [List.filter_cons_of_pos (by rw [hw, hf]; decide), m_key_cons, m_key_cons, ih, hf]
        simp
    · by_cases hf : (findP m.word.toList Y).2 = true
      · rw [List.filter_cons_of_neg (by rw [hf]; decide), ih, m_key_cons, if_neg hw]
      · rw [List.filter_cons_of_pos (by simpa using hf), m_key_cons, m_key_cons, if_neg hw, if_neg hw, ih]
theorem key_filter (x : List UInt8) (L : List PRow) (p : PRow → Bool) : key x (L.filter p) = (key x L).filter p := by
  unfold key
  rw [List.filter_filter, List.filter_filter]
  congr 1
  funext r
  rw [Bool.and_comm]
theorem key_one {L : List PRow} (h : L.Pairwise (fun a b => plt a b = true)) (x : List UInt8) : key x L = (key x L).getLast?.toList := by
  have hs : (key x L).Pairwise (fun a b => plt a b = true) := h.sublist List.filter_sublist
  have hm : ∀ p ∈ key x L, p.word.toList = x := fun p hp => of_decide_eq_true (List.mem_filter.1 hp).2
  cases hk : key x L with
  | nil => rfl
  | cons p l =>
    cases l with
    | nil => rfl
    | cons q l =>
      rw [hk] at hs hm
      have h1 := (List.pairwise_cons.1 hs).1 q (by simp)
      exact absurd ((hm p (by simp)).trans (hm q (by simp)).symm) (plt_ne h1)
theorem mem_key {x : List UInt8} {L : List PRow} {p : PRow} (h : p ∈ key x L) : p ∈ L := (List.mem_filter.1 h).1

theorem wordU_dict {L : List PRow} (hD : DictP L) {p : PRow} (hp : p ∈ L) : wordU p.word.toList = true := by
  obtain ⟨h1, h2, h3, h4⟩ := hD.word p hp
  have h := (runesU_write _ _ _ (Nat.le_refl _) h1).1
  have h5 := flat_size (wordR p)
  rw [← h] at h5
  unfold wordU
  rw [h1]
  simp only [Bool.and_eq_true, decide_eq_true_eq]
  exact ⟨by omega, h2, h3, h4⟩

/-- One word's match, in a dictionary. -/
def fzOne (X : List Nat) (o : Nat) (p : PRow) : Option MRow := if rowW X (wordR p) < o then some ⟨p.word, p.weight, (rowW X (wordR p) : Int)⟩ else none
theorem fzOne_word (X : List Nat) (o : Nat) (p : PRow) (m : MRow) (h : fzOne X o p = some m) : m.word = p.word := by
  unfold fzOne at h
  split at h
  · injection h with h; rw [← h]
  · cases h
theorem near_word (a : List UInt8) (k : Int) (p : PRow) (m : MRow) (h : nearM a k p = some m) : m.word = p.word := by
  unfold nearM at h
  split at h
  · injection h with h; rw [← h]
  · cases h
theorem near_one {B : List PRow} (hD : DictP B) {p : PRow} (hp : p ∈ B) {a : List UInt8} {X : List Nat} (hX : runesU a = some X) (hl : X.length ≤ 24) (k : Nat) : nearM a (k : Int) p = fzOne X (k + 1) p := by
  have h1 := dist_dict hD hp hX hl
  have h2 := wordU_dict hD hp
  have h3 := hD.weight p hp
  unfold nearM fzOne
  rw [h1, h2]
  simp only [distZ]
  by_cases h : rowW X (wordR p) < k + 1
  · rw [if_pos h, if_pos (by refine ⟨by omega, ?_, ?_, by omega⟩ <;> simp)]
  · rw [if_neg h, if_neg (by rintro ⟨_, _, _, h4⟩; omega)]

theorem over_same {L V Y Y0 : List PRow} (hL : DictP L) (hY : Nrm V Y) (hY0 : Nrm (L ++ V) Y0) (hB : DictP (Y0.filter keepP)) {a : List UInt8} {X : List Nat} (hX : runesU a = some X) (hl : X.length ≤ 24) (k : Nat) :
    m_SameK (keptM Y (fzAllP L X (k + 1)) ++ overM a (k : Int) Y) (fzAllP (Y0.filter keepP) X (k + 1)) := by
  intro x
  have e1 : fzAllP L X (k + 1) = L.filterMap (fzOne X (k + 1)) := rfl
  have e2 : fzAllP (Y0.filter keepP) X (k + 1) = (Y0.filter keepP).filterMap (fzOne X (k + 1)) := rfl
  have e3 : overM a (k : Int) Y = Y.filterMap (nearM a (k : Int)) := rfl
  rw [m_key_app, mkey_kept, e1, e2, e3, mkey_fm _ (fzOne_word X (k + 1)), mkey_fm _ (near_word a (k : Int)), mkey_fm _ (fzOne_word X (k + 1)), key_filter]
  have k0 := hY0.2 x
  have k1 := hY.2 x
  rw [key_app] at k0
  have hfind : (findP x Y).2 = (key x V).getLast?.isSome := by
    unfold findP
    rw [k1]
    cases (key x V).getLast? <;> rfl
  rw [hfind, k1]
  cases hv : (key x V).getLast? with
  | none =>
    have hV : key x V = [] := List.getLast?_eq_none_iff.1 hv
    rw [hV, List.append_nil, ← key_one (dict_strict hL) x] at k0
    rw [k0]
    have hf : (key x L).filter keepP = key x L := by
      rw [List.filter_eq_self]
      intro p hp
      have := (hL.weight p (mem_key hp)).1
      unfold keepP
      have h0 : (p.weight == 0) = false := by simp; omega
      rw [h0]; rfl
    rw [hf]
    simp
  | some p =>
    have hl2 : (key x L ++ key x V).getLast? = some p := by
      rw [List.getLast?_append, hv]; rfl
    rw [hl2] at k0
    have hp0 : p ∈ Y0 := mem_key (x := x) (by rw [k0]; simp)
    rw [k0]
    simp only [Option.toList_some, Option.isSome_some, if_true, List.nil_append]
    by_cases hk : keepP p = true
    · have hpB : p ∈ Y0.filter keepP := List.mem_filter.2 ⟨hp0, hk⟩
      have hn := near_one hB hpB hX hl k
      rw [List.filter_cons_of_pos hk, List.filter_nil]
      cases ho : fzOne X (k + 1) p with
      | none => rw [List.filterMap_cons_none (hn.trans ho), List.filterMap_cons_none ho]; rfl
      | some m => rw [List.filterMap_cons_some (hn.trans ho), List.filterMap_cons_some ho]; rfl
    · rw [List.filter_cons_of_neg hk, List.filter_nil]
      have h0 : p.weight = 0 := by simpa [keepP] using hk
      have hn : nearM a (k : Int) p = none := by
        unfold nearM
        rw [if_neg (by rintro ⟨h1, _⟩; omega)]
      rw [List.filterMap_cons_none hn]
      rfl

end Go.Proofs.YtfaoifggkfmokaaDoor

namespace Go.Proofs.YtfaoifggkfmokaaDoor
open Go.RowKit
set_option linter.unusedSectionVars false
set_option linter.unusedSimpArgs false
set_option linter.unusedVariables false

theorem PNx.ok {w0 w : World} {A : Option Addr} {q c : Nat} {N : List PRow} (h : PNx w0 w (.slice A q c) q N) : SL.Ok ⟨A, q, c, N⟩ w := by
  refine ⟨h.len, Reads.of_own h.own, fun hA => ?_⟩
  simp only at hA ⊢
  rcases h.own.2 with ⟨e, _⟩ | ⟨g', cap, cur, e, _, _⟩
  · cases e; exact ⟨rfl, rfl⟩
  · rw [hA] at e; cases e

set_option maxRecDepth 100000 in
set_option maxHeartbeats 8000000 in
theorem fover_walk (W : World) (hL : Lst W) (s t : SL) (hs : s.Ok W) (ht : t.Ok W) (hsum : s.n + t.n ≤ 1099511627776) (hWs : ∀ r ∈ s.L, r.word.size ≤ 1099511627776) (hWt : ∀ r ∈ t.L, r.word.size ≤ 1099511627776) (a : ByteArray) (ha : a.size ≤ 9223372036854775807) (k y : Int) :
    Calls Tryd.prog 7 #[s.val, t.val, .agg #[.string a, .int .i64 k, .int .i64 y]] W fun e W' => e = .returned (.bool true) ∧ Below W.heap.size W W' := by
  obtain ⟨w0, hw0⟩ : ∃ x, x = W.alloc (.cells #[.string a, .int .i64 k, .int .i64 y] 40) := ⟨_, rfl⟩
  obtain ⟨b, hb⟩ : ∃ x, x = W.heap.size := ⟨_, rfl⟩
  have hT0 : Touch (fun _ => False) W w0 := by rw [hw0]; exact (Touch.refl _ _).alloc _
  have hb0 : Blk w0 b 40 #[.string a, .int .i64 k, .int .i64 y] := by rw [hw0, hb]; exact Blk.new _ _ _
  have HT0 := hide hT0
  have HB0 := hide hb0
  have HW0 := hide hw0
  have HBB := hide hb
  have HL := hide (Lst.touch hL hT0)
  have hs0 : s.Ok w0 := ⟨hs.len, hs.reads.touch hT0 (fun _ _ f => f), hs.nil⟩
  have ht0 : t.Ok w0 := ⟨ht.len, ht.reads.touch hT0 (fun _ _ f => f), ht.nil⟩
  have HS := hide hs0
  have HTT := hide ht0
  have HWS := hide hWs
  have HWV := hide hWt
  have HRM := hide (rmerge_any w0 s t hs0 ht0 (by omega) (fun r hr => by have := hWs r hr; unfold PRow.Wf; omega) (fun r hr => by have := hWt r hr; unfold PRow.Wf; omega))
  have HON := hide (fun (wx : World) (T : Touch (fun _ => False) w0 wx) => on_any wx (Lst.touch (Lst.touch hL hT0) T) s ⟨hs0.len, hs0.reads.touch T (fun _ _ f => f), hs0.nil⟩ (fun r hr => by have := hWs r hr; unfold PRow.Wf; omega) (by unfold maxLen; omega))
  obtain ⟨sA, sn, sc, L⟩ := s
  obtain ⟨tA, tn, tc, V⟩ := t
  simp only [SL.val] at HRM HON ⊢
  simp only at HWS HWV hsum
  clear hT0 hb0 hw0 hL hs hs0 ht ht0 hWs hWt hb
  go_enter Tryd.func7, Tryd.ntmps7
  go_upto_region 1 with fail
  rw [← HW0.out, ← HBB.out]
  go_wp2_with fail
  refine HRM.out.mono ?_
  rintro e w1 ⟨A1, q1, c1, Y0, rfl, N1, nr1⟩
  have hT1 := N1.touch
  have HT1 := hide hT1
  have HN1 := hide nr1
  have HON1 := hide (HON.out w1 hT1)
  have HOB := hide (fun (wx : World) (T : Touch (fun _ => False) w1 wx) => on_any wx (Lst.touch HL.out (HT1.out.then T)) ⟨A1, q1, c1, Y0.filter keepP⟩ ⟨N1.ok.len, N1.ok.reads.touch T (fun _ _ f => f), N1.ok.nil⟩ (fun r hr => by
    have hr := nr1.mem (List.mem_filter.1 hr).1
    rcases List.mem_append.1 hr with hr | hr
    · have := HWS.out r hr; unfold PRow.Wf; omega
    · have := HWV.out r hr; unfold PRow.Wf; omega) (own_le N1.own))
  simp only [SL.val] at HOB
  clear hT1 N1 nr1 HRM
  go_wp2_with fail
  refine HON1.out.mono ?_
  rintro e w2 ⟨hon, T2⟩
  have HT2 := hide (HT1.out.then T2)
  have HOB2 := hide (HOB.out w2 T2)
  clear HON1 HON HOB
  rcases hon with ⟨_, rfl⟩ | ⟨hop, hD, pb, pn, pA, pc, pZ, pwA, pwc, rfl, hdw⟩
  · clear T2
    go_wp2_with fail
    refine HOB2.out.mono ?_
    rintro e w3 ⟨hon, T3⟩
    have HT3 := hide (HT2.out.then T3)
    clear T3 HOB2
    rcases hon with ⟨_, rfl⟩ | ⟨_, _, qb, qn, qA, qc, qZ, qwA, qwc, rfl, _⟩
    all_goals
      go_wp2_with fail
      have HAL := hide (alive12_any _ (Lst.touch HL.out HT3.out))
      try clear b0 b1 l1
      go_wp2_with fail
      refine HAL.out.mono ?_
      rintro e w9 ⟨rfl, T9⟩
      have HT9 := hide (HT0.out.then (HT3.out.then T9))
      clear T9
      go_wp2_with fail
      go_ret
      exact ⟨rfl, HT9.out.below (Nat.le_refl _) (fun _ _ f => f)⟩
  · clear T2
    have HDW := hide hdw
    have HD := hide hD
    clear hdw hD hop
    go_wp2_with fail
    refine HOB2.out.mono ?_
    rintro e w3 ⟨hon, T3⟩
    have HT3 := hide (HT2.out.then T3)
    have HDW3 := hide (HDW.out.quiet T3)
    clear T3 HOB2 HDW
    rcases hon with ⟨_, rfl⟩ | ⟨_, hE, qb, qn, qA, qc, qZ, qwA, qwc, rfl, hdv⟩
    · go_wp2_with fail
      have HAL := hide (alive12_any _ (Lst.touch HL.out HT3.out))
      try clear b0 b1 l1
      go_wp2_with fail
      refine HAL.out.mono ?_
      rintro e w9 ⟨rfl, T9⟩
      have HT9 := hide (HT0.out.then (HT3.out.then T9))
      clear T9
      go_wp2_with fail
      go_ret
      exact ⟨rfl, HT9.out.below (Nat.le_refl _) (fun _ _ f => f)⟩
    · have HDV := hide hdv
      have HE := hide hE
      clear hdv hE
      cases hlv : levR a.toList k with
      | false =>
        have HFA := hide (fun (wx : World) (T : Touch (fun _ => False) w0 wx) (p : Option Addr) => fzall_no wx (Lst.touch HL.out T) p a k ha hlv)
        clear hlv
        have hb1 := HB0.out.touch HT3.out (fun f => f)
        obtain ⟨b0, b1⟩ : _ ∧ _ := ⟨hb1.cell 0, hb1.cell 1⟩
        simp at b0 b1
        have l1 := hb1.lt
        clear hb1
        go_wp2_with fail
        refine (HFA.out _ HT3.out _).mono ?_
        rintro e w4 ⟨rfl, T4⟩
        have HT4 := hide (HT3.out.then T4)
        clear T4
        clear b0 b1 l1
        have hb1 := HB0.out.touch HT4.out (fun f => f)
        obtain ⟨b0, b1⟩ : _ ∧ _ := ⟨hb1.cell 0, hb1.cell 1⟩
        simp at b0 b1
        have l1 := hb1.lt
        clear hb1
        go_wp2_with fail
        refine (HFA.out _ HT4.out _).mono ?_
        rintro e w5 ⟨rfl, T5⟩
        have HT5 := hide (HT4.out.then T5)
        clear T5
        clear b0 b1 l1
        go_wp2_with fail
        have HAL := hide (alive12_any _ (Lst.touch HL.out HT5.out))
        try clear b0 b1 l1
        go_wp2_with fail
        refine HAL.out.mono ?_
        rintro e w9 ⟨rfl, T9⟩
        have HT9 := hide (HT0.out.then (HT5.out.then T9))
        clear T9
        go_wp2_with fail
        go_ret
        exact ⟨rfl, HT9.out.below (Nat.le_refl _) (fun _ _ f => f)⟩
      | true =>
        obtain ⟨X, m, hX, hXl, ha96, rfl, hm⟩ := lev_parts hlv
        have has : a.size ≤ 1099511627776 := by rw [← size_toList]; omega
        have hfl : (fzAllP L X (m + 1)).length ≤ 4096 := by have h1 := fz_len L X (m + 1); have h2 := HD.out.len; omega
        have hfl2 : (fzAllP (Y0.filter keepP) X (m + 1)).length ≤ 4096 := by have h1 := fz_len (Y0.filter keepP) X (m + 1); have h2 := HE.out.len; omega
        have HFA := hide (fzall_yes w3 (Lst.touch HL.out HT3.out) HD.out HDW3.out a m has X hX hlv)
        have HFB := hide (fun (wx : World) (T : Touch (fun _ => False) w3 wx) => fzall_yes wx (Lst.touch HL.out (HT3.out.then T)) HE.out (HDV.out.quiet T) a m has X hX hlv)
        have HFM := hide (fun (wx : World) (T : Touch (fun _ => False) w0 wx) (A2 : Option Addr) (c2 : Nat) (hr : Reads wx 3 A2 (fzAllP L X (m + 1)).length (mCells (fzAllP L X (m + 1)))) => fmrg_yes wx (Lst.touch HL.out T) A2 (fzAllP L X (m + 1)).length c2 (fzAllP L X (m + 1)) rfl hr ⟨tA, tn, tc, V⟩ ⟨HTT.out.len, HTT.out.reads.touch T (fun _ _ f => f), HTT.out.nil⟩ (by simp only; omega) HWV.out a m has X hX hlv)
        have HSAME := hide (fun (Y : List PRow) (hY : Nrm V Y) => over_same HD.out hY HN1.out HE.out hX hXl m)
        have HSR := hide (fz_sorted HE.out X (m + 1))
        simp only [SL.val] at HFM
        have HFL := hide hfl2
        clear hlv hX hXl ha96 hm has hfl hfl2
        have hb1 := HB0.out.touch HT3.out (fun f => f)
        obtain ⟨b0, b1⟩ : _ ∧ _ := ⟨hb1.cell 0, hb1.cell 1⟩
        simp at b0 b1
        have l1 := hb1.lt
        clear hb1
        go_wp2_with fail
        refine HFA.out.mono ?_
        rintro e w4 ⟨A4, c4, rfl, ho4⟩
        have HT4 := hide (HT3.out.then ho4.touch)
        have HO4 := hide ho4
        have HFB4 := hide (HFB.out w4 ho4.touch)
        clear ho4 HFB
        clear b0 b1 l1
        have hb1 := HB0.out.touch HT4.out (fun f => f)
        obtain ⟨b0, b1⟩ : _ ∧ _ := ⟨hb1.cell 0, hb1.cell 1⟩
        simp at b0 b1
        have l1 := hb1.lt
        clear hb1
        go_wp2_with fail
        refine HFB4.out.mono ?_
        rintro e w5 ⟨A5, c5, rfl, ho5⟩
        have HT5 := hide (HT4.out.then ho5.touch)
        have HO5 := hide ho5
        have HFM5 := hide (HFM.out w5 (HT4.out.then ho5.touch) A4 c4 (Reads.of_own (HO4.out.to ho5.touch).own))
        clear ho5 HFM
        clear b0 b1 l1
        have hb1 := HB0.out.touch HT5.out (fun f => f)
        obtain ⟨b0, b1⟩ : _ ∧ _ := ⟨hb1.cell 0, hb1.cell 1⟩
        simp at b0 b1
        have l1 := hb1.lt
        clear hb1
        go_wp2_with fail
        refine HFM5.out.mono ?_
        rintro e w6 ⟨A6, q6, c6, Y, Z, rfl, N6, nr6, s6, k6⟩
        have hZ : Z = fzAllP (Y0.filter keepP) X (m + 1) := srtM_unique s6 HSR.out (k6.symm.trans (HSAME.out Y nr6))
        subst hZ
        have HT6 := hide (HT5.out.then N6.touch)
        have HN6 := hide N6
        have hq := N6.len
        have HAL := hide (alive12_any w6 (Lst.touch HL.out (HT5.out.then N6.touch)))
        clear N6 nr6 s6 k6 b0 b1 l1
        subst hq
        go_wp2_with fail
        refine HAL.out.mono ?_
        rintro e w7 ⟨rfl, T7⟩
        have HT7 := hide (HT6.out.then T7)
        have HSM := hide (same_yes w7 A6 _ c6 _ rfl (Reads.of_own (HN6.out.to T7).own) (by have := HFL.out; unfold maxLen; omega) A5 c5 (Reads.of_own (HO5.out.to (HN6.out.touch.then T7)).own))
        clear T7
        go_wp2_with fail
        refine HSM.out.mono ?_
        rintro e w8 ⟨rfl, T8⟩
        have HT8 := hide (HT0.out.then (HT7.out.then T8))
        clear T8
        go_wp2_with fail
        go_ret
        exact ⟨rfl, HT8.out.below (Nat.le_refl _) (fun _ _ f => f)⟩

end Go.Proofs.YtfaoifggkfmokaaDoor
