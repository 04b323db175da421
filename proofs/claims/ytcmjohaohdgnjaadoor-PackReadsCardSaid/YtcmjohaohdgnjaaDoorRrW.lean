/- What ref08.Right answers is what pack.Right answers. No condition. ref08.Right on any machine. Condition: the labels are numbers of 32 bits. -/
import Derived.Test.YtcmjohaohdgnjaaDoorRpW
import Derived.Test.YtcmjohaohdgnjaaDoorCanQ
import Derived.Test.YtcmjohaohdgnjaaDoorGrtW
import Derived.Test.YtcmjohaohdgnjaaDoorSame8
namespace Go.Proofs.YtcmjohaohdgnjaaDoor
open Go.RowKit
set_option linter.unusedSectionVars false
set_option linter.unusedSimpArgs false
set_option linter.unusedVariables false
variable [Inhabited BaseT]

theorem right_of_dict {L : List PRow} (h : DictP L) : rightU L = true := by
  refine rightU_yes h.len fun j hj => ?_
  rw [fitP_eq]
  have e : L.getD j PRow.zero = L[j] := by simp [List.getD, hj]
  rw [e]
  have hm : L[j] ∈ L := List.getElem_mem hj
  obtain ⟨w1, w2⟩ := h.weight _ hm
  obtain ⟨r1, r2, r3, r4⟩ := h.word _ hm
  obtain ⟨a1, a2⟩ := runesU_write _ _ _ (Nat.le_refl _) r1
  have hwu : wordU L[j].word.toList = true := by
    have hl : L[j].word.toList.length ≤ 96 := by
      rw [a1]
      have := flat_size (wordR L[j])
      omega
    unfold wordU
    rw [r1]
    simp only [hl, decide_true, Bool.true_and, r2, r3, r4]
  rw [hwu]
  simp only [w1, w2, decide_true, Bool.true_and, Bool.or_eq_true, decide_eq_true_eq]
  by_cases h0 : j = 0
  · exact .inl h0
  · right
    have hj1 : j - 1 < L.length := by omega
    have e1 : L.getD (j - 1) PRow.zero = L[j - 1] := by simp [List.getD, hj1]
    rw [e1]
    have hs := h.sort
    unfold SortR restsL at hs
    rw [List.pairwise_map, List.pairwise_iff_getElem] at hs
    have hs2 := hs (j - 1) j hj1 hj (by omega)
    have hm1 : L[j - 1] ∈ L := List.getElem_mem hj1
    obtain ⟨b1, b2⟩ := runesU_write _ _ _ (Nat.le_refl _) (h.word _ hm1).1
    rw [a1, b1, less_runes _ _ (fun r hr => scal_lt (b2 r hr)) (fun r hr => scal_lt (a2 r hr))]
    exact hs2
theorem wC_rst {sp : List StP} (hd : Down sp) (hok : ∀ i, i < sp.length → rst sp i ≠ []) : ∀ (f i : Nat) (h0 : List Nat) (sm : Int) (fd : List Wz), i < sp.length → (∀ r ∈ rst sp i, r.1.length < f ∧ h0.length + r.1.length ≤ 24) → fd.length + (rst sp i).length ≤ 4096 →
    wC (sp.map StP.z) f i (h0.map natI) sm fd = fd ++ (rst sp i).map fun r => ((h0 ++ r.1).map natI, sm + r.2)
  | 0, i, _, _, _, hi, hc, _ => by
    obtain ⟨r, hr⟩ := List.exists_mem_of_ne_nil _ (hok i hi)
    exact absurd (hc r hr).1 (Nat.not_lt_zero _)
  | f + 1, i, h0, sm, fd, hi, hc, hl => by
    have hpos : 0 < (rst sp i).length := List.length_pos_iff.2 (hok i hi)
    obtain ⟨r0, hr0⟩ := List.exists_mem_of_ne_nil _ (hok i hi)
    have h24 := (hc r0 hr0).2
    have hz : (sp.map StP.z).getD i zSt = (sp.getD i noSt).z := by simp [List.getD, hi]
    simp only [wC]
    rw [if_neg (by omega), if_neg (by rw [List.length_map]; omega), hz]
    have hrs := rst_eq hd hi
    have gen : ∀ (l : List (Nat × Int × Nat)) (fd : List Wz), (∀ a ∈ l, a ∈ (sp.getD i noSt).arcs) → fd.length + (l.flatMap fun a => (rst sp a.2.2).map fun r => (a.1 :: r.1, r.2 + a.2.1)).length ≤ 4096 →
        (l.map arcZ).foldl (fun fd a => wC (sp.map StP.z) f a.2.2.toNat (h0.map natI ++ [a.1]) (sm + a.2.1) fd) fd = fd ++ (l.flatMap fun a => (rst sp a.2.2).map fun r => (a.1 :: r.1, r.2 + a.2.1)).map fun r => ((h0 ++ r.1).map natI, sm + r.2) := by
      intro l
      induction l with
      | nil => intro fd _ _; simp
      | cons a l ih =>
        intro fd ha hle
        have ham := ha a List.mem_cons_self
        have hai := hd i hi a ham
        rw [List.flatMap_cons, List.length_append, List.length_map] at hle
        rw [List.map_cons, List.foldl_cons]
        have h1 := wC_rst hd hok f a.2.2 (h0 ++ [a.1]) (sm + a.2.1) fd (by omega) (fun r hr => by
          have hmem : (a.1 :: r.1, r.2 + a.2.1) ∈ rst sp i := (mem_rst_cons hd hi).2 ⟨a, ham, rfl, by
            rw [show r.2 + a.2.1 - a.2.1 = r.2 by omega]
            exact hr⟩
          have := hc _ hmem
          simp only [List.length_cons] at this
          rw [List.length_append]
          simp only [List.length_cons, List.length_nil]
          omega) (by omega)
        have e1 : (arcZ a).2.2.toNat = a.2.2 := by simp [arcZ]
        have e2 : h0.map natI ++ [(arcZ a).1] = (h0 ++ [a.1]).map natI := by simp [arcZ, natI]
        have e3 : (arcZ a).2.1 = a.2.1 := rfl
        rw [e1, e2, e3, h1, ih _ (fun b hb => ha b (List.mem_cons_of_mem _ hb)) (by rw [List.length_append, List.length_map]; omega), List.flatMap_cons, List.map_append, List.append_assoc, List.map_map]
        congr 2
        refine List.map_congr_left fun r _ => ?_
        simp only [Function.comp, Prod.mk.injEq]
        refine ⟨by simp, by omega⟩
    have harcs : (sp.getD i noSt).z.arcs = (sp.getD i noSt).arcs.map arcZ := rfl
    have hfin : (sp.getD i noSt).z.fin = (sp.getD i noSt).fin := rfl
    have hout : (sp.getD i noSt).z.out = (sp.getD i noSt).out := rfl
    rw [harcs, hfin, hout]
    rw [hrs] at hl ⊢
    by_cases hf : (sp.getD i noSt).fin = true
    · rw [if_pos hf] at hl ⊢
      rw [List.length_append] at hl
      simp only [List.length_cons, List.length_nil] at hl
      rw [if_pos hf, gen _ _ (fun a ha => ha) (by rw [List.length_append]; simp only [List.length_cons, List.length_nil]; omega)]
      simp
    · rw [if_neg hf, List.nil_append] at hl
      rw [if_neg hf, if_neg hf, List.nil_append, gen _ _ (fun a ha => ha) hl]
/-- A machine that is right tells its words. -/
theorem rpz_of {sp : List StP} {base : Int} (h : RgtP sp base) : RPz (sp.map StP.z) base (wordsG sp base) := by
  rcases h with ⟨rfl, rfl⟩ | h
  · exact .inl ⟨rfl, rfl⟩
  · have hf := h.form
    have hp := h.pos
    have hN : sp.length - 1 < sp.length := by omega
    have hs := sum_rst hf sp.length _ hN hN
    have hsb := h.sumB _ hN (sp.getD (sp.length - 1) noSt).arcs.length
    have hrun := run_rst hf sp.length _ hN hN
    have hd := form_down hf
    have hne : sp ≠ [] := fun e => by rw [e] at hp; simp at hp
    refine .inr ⟨by simpa using hne, ⟨by rw [List.length_map]; exact h.few, h.base1, h.base2, fun j hj => ?_⟩, ?_⟩
    · rw [List.length_map] at hj
      have e : (sp.map StP.z).getD j zSt = (sp.getD j noSt).z := by simp [List.getD, hj]
      rw [e]
      exact formZ_rform ⟨_, rfl, hf j hj⟩
    · have hw := wC_rst hd (fun i hi => (rs_ok hf sp.length i hi hi).ne) 26 (sp.length - 1) [] base [] hN (fun r hr => by have := hs.2 r hr; simp only [List.length_nil]; omega) (by have := hs.1; simp only [List.length_nil]; omega)
      refine ⟨(rst sp (sp.length - 1)).map fun r => (r.1, base + r.2), ?_, ?_, ?_⟩
      · unfold wC0
        rw [List.length_map, List.map_map]
        exact hw.trans (by simp [Function.comp_def, natP])
      · intro r hr c hc
        obtain ⟨q, hq, rfl⟩ := List.mem_map.1 hr
        exact (hrun q hq c hc).1
      · unfold wordsG wordsM
        rw [if_neg hne, List.map_map]
        refine List.map_congr_left fun r _ => ?_
        simp only [Function.comp, rowP, PRow.mk.injEq, true_and]
        omega
/-- What ref08.Right answers. -/
def RRt (sts : List StZ) (base : Int) : Prop := ∃ L, RPz sts base L ∧ rightU L = true ∧ (mach L).base = base ∧ (mach L).states.map StP.z = sts
theorem rrt_iff (sts : List StZ) (base : Int) : RRt sts base ↔ RgtZ sts base := by
  constructor
  · rintro ⟨L, _, h2, h3, h4⟩
    refine ⟨(mach L).states, h4.symm, ?_⟩
    rw [← h3]
    exact right_mach (dict_of_right h2)
  · rintro ⟨sp, rfl, h⟩
    have hw := rgt_words h
    refine ⟨wordsG sp base, rpz_of h, right_of_dict hw.1, ?_, ?_⟩
    · rw [hw.2]
    · rw [hw.2]
theorem rpz_inj {sts : List StZ} {base : Int} {L M : List PRow} (h : RPz sts base L) (k : RPz sts base M) : L = M := by
  rcases h with ⟨h1, h2⟩ | ⟨h1, _, R, r1, r2, r3⟩
  · rcases k with ⟨_, k2⟩ | ⟨k1, _⟩
    · rw [h2, k2]
    · exact absurd h1 k1
  · rcases k with ⟨k1, _⟩ | ⟨_, _, Q, q1, q2, q3⟩
    · exact absurd k1 h1
    · have e : R = Q := by
        refine map_inj (f := natP) (fun a b e => ?_) (r1.symm.trans q1)
        simp only [natP, Prod.mk.injEq] at e
        exact Prod.ext (map_inj (f := natI) (fun x y e => Int.ofNat.inj e) e.1) e.2
      rw [r3, q3, e]

end Go.Proofs.YtcmjohaohdgnjaaDoor

namespace Go.Proofs.YtcmjohaohdgnjaaDoor
open Go.RowKit
set_option linter.unusedSectionVars false
set_option linter.unusedSimpArgs false
set_option linter.unusedVariables false
variable [Inhabited BaseT]

set_option maxRecDepth 100000 in
set_option maxHeartbeats 8000000 in
theorem rright_any (w : World) (base : Int) (A : Option Addr) (n c : Nat) (Z : List ZV) (hst : StsZ w A n Z) (hnm : n ≤ maxLen) (hlab : ∀ z ∈ Z, ∀ a ∈ z.arcs, I32 a.1) (hbs : bs ≤ w.heap.size) :
    Calls Tryd.prog 13 #[.agg #[.int .i64 base, .slice A n c]] w fun e w' => BoolIff (RgtZ (Z.map ZV.p) base) e ∧ Touch (fun _ => False) w w' := by
  rw [← rrt_iff]
  obtain ⟨w1, hw1⟩ : ∃ x, x = w.alloc (.cells #[.int .i64 base, .slice A n c] 24) := ⟨_, rfl⟩
  have hT1 : Touch (fun _ => False) w w1 := by rw [hw1]; exact (Touch.refl _ _).alloc _
  have hb1 : Blk w1 w.heap.size 24 #[.int .i64 base, .slice A n c] := by rw [hw1]; exact Blk.new _ _ _
  have hcall := rpairs_any w1 base A n c Z (hst.quiet hT1) hnm hlab (by have := hT1.size; omega)
  have HT1 := hide hT1
  have HB1 := hide hb1
  have HW1 := hide hw1
  have HST := hide hst
  have HC := hide hcall
  clear hT1 hb1 hw1 hst hcall hlab hbs
  go_enter Tryd.func13, Tryd.ntmps13
  go_wp2_with fail
  rw [← HW1.out]
  refine HC.out.mono ?_
  rintro e w2 ⟨⟨L, A2, n2, c2, rfl, hR, hS, hn2, hsz⟩ | ⟨rfl, hno⟩, T2⟩
  · have hcb := rbuild_any w2 ⟨A2, n2, c2, L⟩ hS (fun r hr => by have := hsz r hr; omega) (by simp only; unfold maxLen; omega)
    simp only [SL.val] at hcb
    obtain ⟨m0, m1, m2⟩ := (HB1.out.touch T2 (fun f => f)).facts
    have HT2 := hide T2
    have HCB := hide hcb
    have HR := hide hR
    clear hcb T2 hR hS hsz
    go_wp2_with fail
    refine HCB.out.mono ?_
    rintro e w3 ⟨T3, ⟨hrf, k, hk, rfl⟩ | ⟨hrt, A3, n3, c3, Y, rfl, hY, hYp, _⟩⟩
    · have hk0 : (k == 0) = false := by simp; omega
      have hno : ¬ RRt (Z.map ZV.p) base := by
        rintro ⟨L', h1, h2, _⟩
        rw [rpz_inj h1 HR.out, hrf] at h2
        cases h2
      have HNO := hide hno
      have HT3 := hide T3
      clear hno T3 m0 m1 m2
      go_wp2_with fail
      go_ret
      exact ⟨.mk false ⟨(fun h => by cases h), fun h => absurd h HNO.out⟩, HT1.out.then (HT2.out.then (HT3.out.alloc _))⟩
    · obtain ⟨w4, hw4⟩ : ∃ x, x = w3.alloc (.cells #[.int .i64 (mach L).base, .slice A3 n3 c3] 24) := ⟨_, rfl⟩
      have hT4 : Touch (fun _ => False) w3 w4 := by rw [hw4]; exact (Touch.refl _ _).alloc _
      have hst4 : StsZ w4 A n Z := HST.out.quiet (HT1.out.then (HT2.out.then (T3.then hT4)))
      have hY4 : StsZ w4 A3 n3 (Y.map SV.zv) := stsZ_of (hY.od.quiet hT4)
      have hcs := samemz_any w4 base (mach L).base A n c Z A3 n3 c3 _ hst4 hY4 hnm
      have hiff : (base = (mach L).base ∧ Z.map ZV.p = (Y.map SV.zv).map ZV.p) ↔ RRt (Z.map ZV.p) base := by
        rw [zv_map, hYp]
        constructor
        · rintro ⟨h1, h2⟩
          exact ⟨L, HR.out, hrt, h1.symm, h2.symm⟩
        · rintro ⟨L', h1, h2, h3, h4⟩
          rw [rpz_inj h1 HR.out] at h3 h4
          exact ⟨h3.symm, h4.symm⟩
      rw [propext hiff] at hcs
      have hT3 : Touch (fun _ => False) w w3 := HT1.out.then (HT2.out.then T3)
      obtain ⟨m0, m1, m2⟩ := (HB1.out.touch (HT2.out.then T3) (fun f => f)).facts
      have HW4 := hide hw4
      have HCS := hide hcs
      have HT := hide (hT3.then hT4)
      clear hst4 hY4 hcs hiff hT3 hT4 hw4 hY hYp hrt T3
      obtain ⟨mb, hmb⟩ : ∃ b, b = (mach L).base := ⟨_, rfl⟩
      rw [← hmb] at HCS HW4 ⊢
      clear hmb
      go_wp2_with fail
      rw [← HW4.out]
      refine HCS.out.mono ?_
      rintro e w5 ⟨⟨v, rfl, hv⟩, T5⟩
      have HV := hide hv
      have HT5 := hide T5
      clear hv T5
      go_wp2_with fail
      go_ret
      exact ⟨.mk _ (by first | exact HV.out | (simpa using HV.out)), HT.out.then HT5.out⟩
  · have HNO := hide hno
    have HT2 := hide T2
    clear hno T2
    go_wp2_with fail
    go_ret
    exact ⟨.mk false ⟨(fun h => by cases h), (fun h => by obtain ⟨L, h1, _⟩ := h; exact absurd ⟨L, h1⟩ HNO.out)⟩, HT1.out.then HT2.out⟩

end Go.Proofs.YtcmjohaohdgnjaaDoor
