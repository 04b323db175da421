/- A dictionary's machine, made: abecedaryref07.Make. Condition: it is a dictionary. -/
import Derived.Test.YtfaoifggkfmokaaDoorKnB
import Derived.Deep.RegionLaw
namespace Go.Proofs.YtfaoifggkfmokaaDoor
open Go.RowKit

theorem SL.Ok.touch {s : SL} {w w' : World} (h : s.Ok w) (T : Touch (fun _ => False) w w') : s.Ok w' := ⟨h.len, h.reads.touch T (fun _ _ f => f), h.nil⟩
theorem tot_dict {L : List PRow} (h : DictP L) : totR (restsL L) ≤ 98304 := by
  have h1 : ∀ l : List PRow, (∀ p ∈ l, (wordR p).length ≤ 24) → totR (restsL l) ≤ 24 * l.length := by
    intro l
    induction l with
    | nil => intro _; exact Nat.le_refl _
    | cons p l ih =>
      intro hp
      have := ih fun q hq => hp q (List.mem_cons_of_mem _ hq)
      have := hp p List.mem_cons_self
      simp only [restsL, List.map_cons, totR, List.length_cons] at *
      omega
  have := h1 L fun p hp => (h.word p hp).2.2.2
  have := h.len
  omega
/-- A machine's states in memory. -/
structure StsOk (w : World) (A : Option Addr) (n : Nat) (Z : List SV) : Prop where
  rd : RdT w 63 3 A n (sCells Z)
  len : Z.length = n
  el : ∀ z ∈ Z, z.Ok w
theorem StsOk.quiet {w w' : World} {A : Option Addr} {n : Nat} {Z : List SV} (h : StsOk w A n Z) (T : Touch (fun _ => False) w w') : StsOk w' A n Z := ⟨h.rd.quiet T, h.len, fun z hz => (h.el z hz).touch T (fun _ _ f => f)⟩
def kNil : KV := ⟨none, 0, 0, [], none, 0, 0, []⟩
theorem kNil_ok (w : World) : kNil.Ok w := ⟨World.ownsRow_nil _ _ _ _, rfl, fun x hx => (by cases hx), World.ownsRow_nil _ _ _ _, rfl, fun z hz => (by cases hz)⟩

/-- A machine's rows are new. -/
def MkYoung (w : World) (A : Option Addr) (n : Nat) (Z : List SV) : Prop := (0 < n → ∀ g, adBlock A = some g → w.heap.size ≤ g) ∧ ∀ z ∈ Z, 0 < z.n → ∀ g, adBlock z.A = some g → w.heap.size ≤ g

set_option maxRecDepth 100000 in
set_option maxHeartbeats 1000000 in
theorem make_new (w : World) (s : SL) (hs : s.Ok w) (hD : DictP s.L) (hWf : ∀ r ∈ s.L, r.word.size ≤ 1099511627776) :
    Calls Tryd.prog 20 #[s.val] w fun e w' => ∃ A n c Z, e = .returned (.agg #[.int .i64 (mach s.L).base, .slice A n c]) ∧ StsOk w' A n Z ∧ Z.map SV.p = (mach s.L).states ∧ n ≤ c ∧ c ≤ maxLen ∧ MkYoung w A n Z ∧ Touch (fun _ => False) w w' := by
  by_cases hz : s.L = []
  · have hn : s.n = 0 := by rw [← hs.len, hz]; rfl
    obtain ⟨A, n, c, L⟩ := s
    simp only at hz hn
    subst hz hn
    have hm : mach [] = ⟨0, []⟩ := by unfold mach; rw [if_pos rfl]
    simp only [SL.val]
    rw [hm]
    clear hs hD hWf hm
    have hb : Blk (w.alloc (.cells #[.int .i64 0, .slice none 0 0] 49)) w.heap.size 49 #[.int .i64 0, .slice none 0 0] := Blk.new _ _ _
    obtain ⟨x0, x1, x2⟩ := hb.facts
    have HB := hide hb
    clear hb
    go_enter Tryd.func20, Tryd.ntmps20
    go_wp2_with fail
    have f0 := HB.out.cell 0
    have f1 := HB.out.cell 1
    simp at f0 f1
    exact bodyPost_ret (v := .agg #[.int .i64 0, .slice none 0 0]) (by simp [results, Tryd.results20, go_sem]) rfl ⟨none, 0, 0, [], rfl, ⟨⟨Reads.nil _ _ _, fun h => absurd h (by omega)⟩, rfl, fun z hz => (by cases hz)⟩, rfl, Nat.le_refl _, by unfold maxLen; omega, ⟨fun h => absurd h (by omega), fun z hz => (by cases hz)⟩, (Touch.refl _ _).alloc _⟩
  · have hn : 0 < s.n := by rw [← hs.len]; exact List.length_pos_iff.2 hz
    have hm : mach s.L = ⟨leastR (restsL s.L), (stateF 25 ⟨[], []⟩ (restsL s.L)).1.states⟩ := by unfold mach; rw [if_neg hz]
    rw [hm]
    have HNE := hide hz
    have HD := hide hD
    have HSS := hide hs
    have HRS := hide (fun w1 T => rests_any w1 s (hs.touch (w' := w1) T) hD hWf)
    have hn4 : s.n ≤ 4096 := by rw [← hs.len]; exact hD.len
    obtain ⟨A, n, c, L⟩ := s
    simp only at hn hn4 HNE HD
    simp only [SL.val] at HRS ⊢
    clear hs hD hWf hz hm
    obtain ⟨B, hB⟩ : ∃ B, B = w.heap.size := ⟨_, rfl⟩
    obtain ⟨w0, hw0⟩ : ∃ x, x = w.alloc (.cells #[.int .i64 0, .slice none 0 0] 49) := ⟨_, rfl⟩
    have hb : Blk w0 B 49 #[.int .i64 0, .slice none 0 0] := by rw [hw0, hB]; exact Blk.new _ _ _
    have hT0 : Touch (fun _ => False) w w0 := by rw [hw0]; exact (Touch.refl _ _).alloc _
    have HW0 := hide hw0
    have HBB := hide hB
    have HB0 := hide hb
    have HT0 := hide hT0
    have y0 : ((n : Int) == 0) = false := by simp; omega
    have y1 : ¬ (n : Int) = 0 := by omega
    clear hw0 hB hb hT0
    go_enter Tryd.func20, Tryd.ntmps20
    go_wp2_with fail
    rw [← HW0.out, ← HBB.out]
    refine (HRS.out w0 HT0.out).mono ?_
    rintro e w1 ⟨⟨rA, rn, rc, rV⟩, rfl, hr1, hr2, hr3, hr4, T1⟩
    simp only [RL.val]
    simp only at hr2 hr3
    subst hr3
    have HR1 := hide hr1
    have HT1 := hide (HT0.out.then T1)
    have HB1 := hide (HB0.out.touch T1 (fun f => f))
    have hst := state_any 25 w1 kNil ⟨rA, rn, rc, rV⟩ (kNil_ok _) good_nil hr1 hr4 (by rw [hr2]; exact HD.out.sort) hn hn4 (by rw [hr2]; exact dep_dict HD.out) (by rw [hr2]; have := tot_dict HD.out; simp only [kNil, KV.p, List.map_nil, List.length_nil]; omega)
    have HP := hide hr2
    have HBD := hide hr4
    rw [hr2] at hst
    have hst2 : Calls Tryd.prog 51 #[.agg #[.slice none 0 0, .slice none 0 0], .slice rA rn rc] w1 _ := hst
    have HST := hide hst2
    clear hst hst2 hr1 hr2 hr4 T1 HRS
    go_wp2_with fail
    refine HST.out.mono ?_
    rintro e w2 ⟨⟨kA, kn, kc, kX, qA, qn, qc, kZ⟩, rfl, ho, hp, T2, _, hfs, hzs⟩
    have HFS := hide (And.intro hfs hzs)
    clear hfs hzs
    have HW1 := hide HT1.out.size
    simp only [KV.val, KV.r, KV.s]
    have T2' : Touch (fun _ => False) w1 w2 := T2.mono (fun g _ h => by rcases h with h | h <;> simp [kNil, KV.r, KV.s, Value.ownBlock] at h)
    have HO := hide ho
    have HKP := hide hp
    have hb2 := HB1.out.touch T2' (fun f => f)
    obtain ⟨x0, x1, x2⟩ := hb2.facts
    have HT2 := hide (HT1.out.then T2')
    have HR2 := hide (HR1.out.quiet T2')
    have HB2 := hide hb2
    clear ho hp T2 T2' hb2 HST
    obtain ⟨u, hu⟩ : ∃ u, u = w2.alloc (.cells #[.slice kA kn kc, .slice qA qn qc] 98) := ⟨_, rfl⟩
    obtain ⟨D, hDD⟩ : ∃ D, D = w2.heap.size := ⟨_, rfl⟩
    have hTu : Touch (fun _ => False) w2 u := by rw [hu]; exact (Touch.refl _ _).alloc _
    have hbD : Blk u D 98 #[.slice kA kn kc, .slice qA qn qc] := by rw [hu, hDD]; exact Blk.new _ _ _
    have hbB := HB2.out.touch hTu (fun f => f)
    have HU := hide hu
    have HDD := hide hDD
    have HTU := hide hTu
    have HBB3 := hide hbB
    have hLE : Calls Tryd.prog 52 #[.slice rA rn rc] u.drew fun e w' => e = .returned (.int .i64 (leastR (restsL L))) ∧ w' = u.drew := by
      have := least_is u.drew ⟨rA, rn, rc, rV⟩ ((HR2.out.quiet hTu).quiet (Touch.refl _ _).drew) hn (by unfold maxLen; simp only; omega)
      rw [HP.out] at this
      exact this
    have HLE := hide hLE
    obtain ⟨y3, y4, y5⟩ := hbD.facts
    obtain ⟨z3, z4, z5⟩ := hbB.facts
    clear hu hDD hTu hbD hbB hLE
    go_wp2_with fail
    rw [← HU.out, ← HDD.out]
    go_region_law (go_simp; refine (HLE.out).mono ?_; rintro e v9 ⟨rfl, rfl⟩; go_simp)
    all_goals
      go_wp2_with fail
      have hbf := ((HBB3.out.set_ 0 (.int .i64 (leastR (restsL L)))).set_ 1 (.slice qA qn qc)).drew
      have f0 := hbf.cell 0
      have f1 := hbf.cell 1
      simp at f0 f1
      have hTF : Touch (fun x => x = B) u ((((u.setCell ⟨B, 0, none⟩ (.int .i64 (leastR (restsL L)))).setCell ⟨B, 1, none⟩ (.slice qA qn qc)).drew)) := (((Touch.refl (fun x => x = B) _).setCell (p := ⟨B, 0, none⟩) (fun _ => rfl) _).setCell (p := ⟨B, 1, none⟩) (fun _ => rfl) _).drew
      have ho := HO.out.quiet HTU.out
      have hnB : ∀ t, t ≠ 49 → ∀ g, TyAt u g t → ¬ g = B := fun t ht g hg e => hg.ne (blk_ty HBB3.out) ht e
      have hos := ho.s
      simp only [KV.s] at hos
      refine bodyPost_ret (v := .agg #[.int .i64 (leastR (restsL L)), .slice qA qn qc]) (by simp [results, Tryd.results20, go_sem, f0, f1]) rfl ⟨qA, qn, qc, kZ, rfl, ⟨(RdT.of_own hos).touch hTF (hnB _ (by decide)), ho.sl, fun z hz => (ho.se z hz).touch hTF (hnB _ (by decide))⟩, ?_, (own_slice hos).1, (own_slice hos).2, ⟨?_, ?_⟩, ?_⟩
      · exact congrArg KnP.states HKP.out
      · intro _ g hg
        have hg2 : (Value.slice qA qn qc).ownBlock = some g := by
          cases qA with
          | none => cases hg
          | some a => exact hg
        rcases HFS.out.1 with e | ⟨g2, e, hle⟩
        · have e2 : (Value.slice qA qn qc).ownBlock = none := e
          rw [hg2] at e2
          cases e2
        · have e2 : (Value.slice qA qn qc).ownBlock = some g2 := e
          rw [hg2] at e2
          injection e2 with e2
          have := HW1.out
          omega
      · intro z hz hn0 g hg
        rcases HFS.out.2 z hz with e | e
        · cases e
        · have h1 := e hn0 g hg
          have := HW1.out
          omega
      · refine ((HT2.out.then HTU.out).up _ |> fun (h : Touch (fun x => x = B) w u) => (h.then hTF)).mono ?_ |> id
        intro g hg e
        have := HBB.out
        omega

theorem make_any (w : World) (s : SL) (hs : s.Ok w) (hD : DictP s.L) (hWf : ∀ r ∈ s.L, r.word.size ≤ 1099511627776) :
    Calls Tryd.prog 20 #[s.val] w fun e w' => ∃ A n c Z, e = .returned (.agg #[.int .i64 (mach s.L).base, .slice A n c]) ∧ StsOk w' A n Z ∧ Z.map SV.p = (mach s.L).states ∧ n ≤ c ∧ c ≤ maxLen ∧ Touch (fun _ => False) w w' :=
  (make_new w s hs hD hWf).mono fun _ _ ⟨A, n, c, Z, h1, h2, h3, h4, h5, _, h6⟩ => ⟨A, n, c, Z, h1, h2, h3, h4, h5, h6⟩

end Go.Proofs.YtfaoifggkfmokaaDoor
