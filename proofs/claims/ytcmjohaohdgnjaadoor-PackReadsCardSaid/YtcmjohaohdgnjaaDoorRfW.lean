/- ref08.Words on any states that ref08.formed takes. Condition: their form. -/
import Derived.Test.YtcmjohaohdgnjaaDoorRfB
import Derived.Test.YtcmjohaohdgnjaaDoorRep
import Derived.Test.YtcmjohaohdgnjaaDoorRdr
import Derived.Deep.AppendLies
namespace Go.Proofs.YtcmjohaohdgnjaaDoor
open Go.RowKit
set_option linter.unusedSectionVars false
set_option linter.unusedSimpArgs false
set_option linter.unusedVariables false
variable [Inhabited BaseT]

/-- A rest whose runes may be any numbers. -/
structure RVz where
  A : Option Addr
  q : Nat
  c : Nat
  O : List Int
  wt : Int
def RVz.cells (r : RVz) : List Value := [.slice r.A r.q r.c, .int .i64 r.wt]
def RVz.p (r : RVz) : List Int × Int := (r.O, r.wt)
structure RVz.Ok (r : RVz) (w : World) : Prop where
  len : r.O.length = r.q
  rd : RdT w 21 1 r.A r.q (r.O.map iV)
def rzCells (V : List RVz) : List Value := V.flatMap RVz.cells
theorem rzCells_app (V W : List RVz) : rzCells (V ++ W) = rzCells V ++ rzCells W := List.flatMap_append
theorem RVz.Ok.touch {r : RVz} {w w' : World} {S : Nat → Prop} (h : r.Ok w) (T : Touch S w w') (hS : ∀ g, TyAt w g 21 → ¬ S g) : r.Ok w' := ⟨h.len, h.rd.touch T hS⟩
def zSt : StZ := ⟨false, 0, []⟩
abbrev Wz := List Int × Int
/-- What ref08.Words finds. -/
def wC (sts : List StZ) : Nat → Nat → List Int → Int → List Wz → List Wz
  | 0, _, _, _, fd => fd
  | f + 1, i, hd, sm, fd => if 4096 < fd.length then fd else if 24 < hd.length then fd ++ [(hd, sm + (sts.getD i zSt).out)] else
      (sts.getD i zSt).arcs.foldl (fun fd a => wC sts f a.2.2.toNat (hd ++ [a.1]) (sm + a.2.1) fd) (if (sts.getD i zSt).fin = true then fd ++ [(hd, sm + (sts.getD i zSt).out)] else fd)
theorem wC_len (sts : List StZ) : ∀ (f i : Nat) (hd : List Int) (sm : Int) (fd : List Wz), fd.length ≤ 4097 → (wC sts f i hd sm fd).length ≤ 4097
  | 0, _, _, _, _, h => h
  | f + 1, i, hd, sm, fd, h => by
    simp only [wC]
    by_cases h1 : 4096 < fd.length
    · rw [if_pos h1]; exact h
    · rw [if_neg h1]
      by_cases h2 : 24 < hd.length
      · rw [if_pos h2]; simp; omega
      · rw [if_neg h2]
        have gen : ∀ (l : List (Int × Int × Int)) (fd : List Wz), fd.length ≤ 4097 → (l.foldl (fun fd a => wC sts f a.2.2.toNat (hd ++ [a.1]) (sm + a.2.1) fd) fd).length ≤ 4097 := by
          intro l
          induction l with
          | nil => intro fd h; exact h
          | cons a l ih => intro fd h; exact ih _ (wC_len sts f _ _ _ _ h)
        refine gen _ _ ?_
        split
        · simp; omega
        · exact h
theorem infoI32 : (Tryd.prog.info? 21).map (fun i => (i.zero, i.size, i.bytes)) = some (some (.int .i32 0), 1, 4) := by kernel_rfl
theorem infoRest8 : (Tryd.prog.info? 94).map (fun i => (i.zero, i.size, i.bytes)) = some (some (.agg #[.slice none 0 0, .int .i64 0]), 2, 32) := by kernel_rfl
theorem onecell_i (O : List Int) : ∀ u ∈ O.map iV, u.oneCell' = true := by
  intro u hu
  obtain ⟨_, _, rfl⟩ := List.mem_map.1 hu
  rfl
/-- What ref08.Words leaves. -/
def WPost (w : World) (fA : Option Addr) (fn fc : Nat) (res : List Wz) (e : Ending) (w' : World) : Prop :=
  ∃ (A' : Option Addr) (n' c' : Nat) (V' : List RVz), e = .returned (.slice A' n' c') ∧ w'.ownsRow 0 94 2 (.slice A' n' c') n' (rzCells V') ∧ V'.length = n' ∧ (∀ v ∈ V', v.Ok w') ∧ V'.map RVz.p = res ∧ Touch (fun g => (Value.slice fA fn fc).ownBlock = some g) w w' ∧ Fresh w (.slice fA fn fc) (.slice A' n' c')
def WrdC (Z : List ZV) (n f : Nat) : Prop :=
  ∀ (w : World) (i : Nat) (hA : Option Addr) (hq hc : Nat) (hd : List Int) (sm : Int) (fA : Option Addr) (fn fc : Nat) (V : List RVz) (base : Int) (A : Option Addr) (c : Nat),
    StsZ w A n Z → i < n → RdT w 21 1 hA hq (hd.map iV) → (hA = none → hq = 0 ∧ hc = 0) → hd.length = hq → hq ≤ 25 → 25 < f + hq → 0 ≤ sm → sm ≤ 1048576 * ((hq : Int) + 1) →
    w.ownsRow 0 94 2 (.slice fA fn fc) fn (rzCells V) → V.length = fn → fn ≤ 4097 → (∀ v ∈ V, v.Ok w) → (∀ g, (Value.slice fA fn fc).ownBlock = some g → bs ≤ g) → bs ≤ w.heap.size →
    Calls Tryd.prog 45 #[.agg #[.int .i64 base, .slice A n c], .int .i64 i, .slice hA hq hc, .int .i64 sm, .slice fA fn fc] w (WPost w fA fn fc (wC (Z.map ZV.p) f i hd sm (V.map RVz.p)))
/-- Another rest behind those that are there. -/
theorem rz_grow {w3 w4 : World} {fA A4 : Option Addr} {fn fc c4 : Nat} {V : List RVz} {r : RVz} (h : w3.ownsRow 0 94 2 (.slice fA fn fc) fn (rzCells V)) (he : ∀ v ∈ V ++ [r], v.Ok w3) (hl : V.length = fn)
    (O4 : w4.ownsRow 0 94 2 (.slice A4 (fn + 1) c4) (fn + 1) (rzCells V ++ [.slice r.A r.q r.c, .int .i64 r.wt])) (G4 : w3.grownBy w4 (Value.slice fA fn fc).ownBlock) :
    w4.ownsRow 0 94 2 (.slice A4 (fn + 1) c4) (fn + 1) (rzCells (V ++ [r])) ∧ (V ++ [r]).length = fn + 1 ∧ True ∧ ∀ v ∈ V ++ [r], v.Ok w4 := by
  have T : Touch (fun g => (Value.slice fA fn fc).ownBlock = some g) w3 w4 := (Touch.refl _ _).grown G4 (fun k hk _ => hk)
  refine ⟨?_, by rw [List.length_append, hl]; rfl, trivial, fun v hv => (he v hv).touch T (fun g hg e => hg.ne (own_ty h e) (by decide) rfl)⟩
  have e : rzCells (V ++ [r]) = rzCells V ++ [.slice r.A r.q r.c, .int .i64 r.wt] := by simp [rzCells, RVz.cells]
  rw [e]
  exact O4
theorem StsZ.far {w w' : World} {A : Option Addr} {n : Nat} {Z : List ZV} {S : Nat → Prop} (h : StsZ w A n Z) (T : Touch S w w') (h1 : ∀ g, OT w g 44 → ¬ S g) (h2 : ∀ g, OT w g 74 → ¬ S g) : StsZ w' A n Z :=
  ⟨h.rd.touch T h1, h.len, fun z hz => (h.el z hz).touch T h2⟩
theorem next_touch {wq w6 w9 : World} {A6 : Option Addr} {hq c6 : Nat} {xs : List Value} {la : Int} {b0 : Nat} (T6 : Touch (fun _ => False) wq w6) (_ : w6.ownsRow 0 21 1 (.slice A6 hq c6) hq xs) (hf : ∀ g, (Value.slice A6 hq c6).ownBlock = some g → wq.heap.size ≤ g ∨ b0 = b0 + 1)
    (hg : ((w6.alloc (.cells #[.int .i32 la] 21)).drew).grownBy w9 (Value.slice A6 hq c6).ownBlock) : Touch (fun _ => False) wq w9 :=
  ((T6.alloc _).drew).grown hg (fun k hk hlt => by rcases hf k hk with h | h <;> omega)
theorem next_own {w9 : World} {g4 cap4 hq : Nat} {hd : List Int} {la : Int} (h : w9.ownsRow 0 21 1 (.slice (some ⟨g4, 0, none⟩) (hq + 1) cap4) (hq + 1) (hd.map iV ++ [.int .i32 la])) : w9.ownsRow 0 21 1 (.slice (some ⟨g4, 0, none⟩) (hq + 1) cap4) (hq + 1) ((hd ++ [la]).map iV) := by
  rw [List.map_append]
  exact h
theorem fresh_young {wq w5 : World} {n c : Nat} {v : Value} (hs : wq.heap.size ≤ w5.heap.size) (h : Fresh w5 (.slice (some ⟨wq.heap.size, 0, none⟩) n c) v) : ∀ g, v.ownBlock = some g → wq.heap.size ≤ g ∨ 0 = 0 + 1 := by
  intro g hg
  rcases h with e | ⟨g2, e, hle⟩
  · rw [e] at hg
    injection hg with hg
    exact .inl (by simp only at hg; omega)
  · rw [e] at hg
    injection hg with hg
    exact .inl (by omega)
theorem fresh_back {w w3 : World} {a b : Value} (hs : w.heap.size ≤ w3.heap.size) (h : Fresh w3 a b) : Fresh w a b := by
  rcases h with h | ⟨g, h, hle⟩
  · exact .inl h
  · exact .inr ⟨g, h, by omega⟩
theorem fresh_bs {w : World} {v v' : Value} (hv : ∀ g, v.ownBlock = some g → bs ≤ g) (hw : bs ≤ w.heap.size) (h : Fresh w v v') : ∀ g, v'.ownBlock = some g → bs ≤ g := by
  intro g e
  rcases h with h | ⟨g2, h, hle⟩
  · exact hv g (h ▸ e)
  · rw [h] at e
    injection e with e
    omega
theorem fresh_touch {w wq wS : World} {v v' : Value} (T : Touch (fun g => v.ownBlock = some g) w wq) (T2 : Touch (fun g => v'.ownBlock = some g) wq wS) (h : Fresh w v v') : Touch (fun g => v.ownBlock = some g) w wS :=
  T.trans T2 (fun k hk e => by
    rcases h with h | ⟨g2, h, hle⟩
    · rw [← h]; exact e
    · rw [h] at e
      injection e with e
      omega)
theorem fresh_trans {w w9 : World} {v v' v2 : Value} (hs : w.heap.size ≤ w9.heap.size) (h : Fresh w v v') (k : Fresh w9 v' v2) : Fresh w v v2 := by
  rcases k with k | ⟨g2, k, hle⟩
  · rcases h with h | ⟨g3, h, hle⟩
    · exact .inl (k.trans h)
    · exact .inr ⟨g3, k.trans h, hle⟩
  · exact .inr ⟨g2, k, by omega⟩

set_option maxRecDepth 100000 in
set_option maxHeartbeats 8000000 in
theorem words_step (Z : List ZV) (n f : Nat) (hrf : ∀ j, j < n → RForm j (Z.getD j zvZero).p) (hn : n ≤ 98305) (ih : WrdC Z n f) : WrdC Z n (f + 1) := by
  intro w i hA hq hc hd sm fA fn fc V base A c hst hi hrd hnil hhl hq25 hfq hs0 hs1 hown hvl hfn hel hbf hbw
  have HBF := hide hbf
  have HBW := hide hbw
  clear hbf hbw
  obtain ⟨i1, hi1, hy0, hy1, hy2⟩ := info_parts infoRest8
  obtain ⟨i2, hi2, hz0, hz1, hz2⟩ := info_parts infoI32
  by_cases hbig : 4096 < fn
  · have hres : wC (Z.map ZV.p) (f + 1) i hd sm (V.map RVz.p) = V.map RVz.p := by
      simp only [wC]
      rw [if_pos (by rw [List.length_map, hvl]; exact hbig)]
    rw [hres]
    have y0 : (4096 : Int) < (fn : Int) := by omega
    have HO := hide hown
    have HEL := hide hel
    have HVL := hide hvl
    clear hst hrd hhl hown hel hvl hres hnil
    go_enter Tryd.func45, Tryd.ntmps45
    go_wp2_with fail
    go_ret
    have T : Touch (fun _ => False) w (w.alloc (.cells #[.int .i64 base, .slice A n c] 24)) := (Touch.refl _ _).alloc _
    exact ⟨fA, fn, fc, V, rfl, own_touch HO.out T (fun _ _ f => f), HVL.out, fun v hv => (HEL.out v hv).touch T (fun _ _ f => f), rfl, T.up _, .inl rfl⟩
  · obtain ⟨g, o, hAe, hgl, c0, c1, c2⟩ := zstate_at hst.rd.rd hst.len i hi
    subst hAe
    have hzm := getD_mem Z zvZero i (by rw [hst.len]; exact hi)
    have hzo := hst.el _ hzm
    have hform := hrf i hi
    have hzp : (Z.map ZV.p).getD i zSt = (Z.getD i zvZero).p := by simp [List.getD, hst.len, hi]
    have hwc : wC (Z.map ZV.p) (f + 1) i hd sm (V.map RVz.p) = if 24 < hq then V.map RVz.p ++ [(hd, sm + (Z.getD i zvZero).p.out)] else
        (Z.getD i zvZero).p.arcs.foldl (fun fd a => wC (Z.map ZV.p) f a.2.2.toNat (hd ++ [a.1]) (sm + a.2.1) fd) (if (Z.getD i zvZero).p.fin = true then V.map RVz.p ++ [(hd, sm + (Z.getD i zvZero).p.out)] else V.map RVz.p) := by
      simp only [wC]
      rw [if_neg (by rw [List.length_map, hvl]; exact hbig), hzp, hhl]
    obtain ⟨z, hz⟩ : ∃ z, Z.getD i zvZero = z := ⟨_, rfl⟩
    rw [hz] at c0 c1 c2 hzo hform hwc
    obtain ⟨fin, out, zA, zn, zc, arcs⟩ := z
    simp only [ZV.p] at c0 c1 c2 hform hwc
    have hwc2 : wC (Z.map ZV.p) (f + 1) i hd sm (V.map RVz.p) = if 24 < hq then V.map RVz.p ++ [(hd, sm + out)] else arcs.foldl (fun fd a => wC (Z.map ZV.p) f a.2.2.toNat (hd ++ [a.1]) (sm + a.2.1) fd) (if fin = true then V.map RVz.p ++ [(hd, sm + out)] else V.map RVz.p) := hwc
    rw [hwc2]
    obtain ⟨⟨ho0, ho1⟩, _, hj⟩ := hform
    simp only at ho0 ho1 hj
    have hal := hzo.len
    simp only at hal
    obtain ⟨w2, hw2⟩ : ∃ x, x = (w.alloc (.cells #[.int .i64 base, .slice (some ⟨g, o, none⟩) n c] 24)).alloc (.cells #[.bool fin, .int .i64 out, .slice zA zn zc] 44) := ⟨_, rfl⟩
    obtain ⟨M, hM⟩ : ∃ M, M = w.heap.size := ⟨_, rfl⟩
    obtain ⟨S, hS⟩ : ∃ S, S = w.heap.size + 1 := ⟨_, rfl⟩
    have hT2 : Touch (fun _ => False) w w2 := by rw [hw2]; exact ((Touch.refl _ _).alloc _).alloc _
    have hbM : Blk w2 M 24 #[.int .i64 base, .slice (some ⟨g, o, none⟩) n c] := by rw [hw2, hM]; exact (Blk.new _ _ _).alloc _
    have hbS : Blk w2 S 44 #[.bool fin, .int .i64 out, .slice zA zn zc] := by rw [hw2, hS]; exact blk_new1 _ _ _ _
    have s0 : IntKind.i64.wrap (sm + out) = sm + out := IntWalk.i64_in _ (by omega)
    have HST := hide hst
    have HRD := hide hrd
    have HHL := hide hhl
    have HNIL := hide hnil
    have HO := hide hown
    have HVL := hide hvl
    have HEL := hide hel
    have HZO := hide hzo
    have HJ := hide hj
    have HAL := hide hal
    have HW2 := hide hw2
    have HT2 := hide hT2
    have HBM := hide hbM
    have HBS := hide hbS
    have HMM := hide hM
    have HSS := hide hS
    have HIH := hide ih
    have HOB := hide (And.intro ho0 ho1)
    have HSM := hide (And.intro hs0 hs1)
    have HFQ := hide hfq
    have HFN := hide hfn
    have x0 : ¬ (4096 : Int) < (fn : Int) := by omega
    have hfn4 : fn ≤ 4096 := by omega
    clear hst hrd hhl hnil hown hvl hel hzo hj hal hw2 hT2 hbM hbS hM hS ih ho0 ho1 hs0 hs1 hfq hfn hwc hwc2 hz hzm hrf hbig hzp
    go_enter Tryd.func45, Tryd.ntmps45
    have hsz2 : w2.heap.size = w.heap.size + 1 + 1 := by rw [HW2.out]; simp
    have hT3 : Touch (fun _ => False) w2 (w2.alloc (.cells #[.slice hA hq hc, .int .i64 (sm + out)] 94)) := (Touch.refl _ _).alloc _
    have hr3 : Reads (w2.alloc (.cells #[.slice hA hq hc, .int .i64 (sm + out)] 94)) 2 (some ⟨w.heap.size + 1 + 1, 0, none⟩) 1 [.slice hA hq hc, .int .i64 (sm + out)] := by
      rw [← hsz2]
      exact Reads.new w2 _ _ 1 rfl
    have hone : ∀ u ∈ ([.slice hA hq hc, .int .i64 (sm + out)] : List Value), u.oneCell' = true := List.all_eq_true.1 rfl
    have hbb : fn + 1 ≤ maxLen ∧ (fn + 1) * 32 ≤ 140737488355328 := by
      have := HFN.out
      unfold maxLen
      omega
    have hT23 := HT2.out.then hT3
    have HO3 := hide (own_touch HO.out hT23 (fun _ _ f => f))
    have HE3 : Hid (∀ v ∈ V ++ [(⟨hA, hq, hc, hd, sm + out⟩ : RVz)], v.Ok (w2.alloc (.cells #[.slice hA hq hc, .int .i64 (sm + out)] 94))) := hide (by
      intro v hv
      rcases List.mem_append.1 hv with hv | hv
      · exact (HEL.out v hv).touch hT23 (fun _ _ f => f)
      · rw [List.mem_singleton.1 hv]
        exact ⟨HHL.out, HRD.out.quiet hT23⟩)
    have HT3 := hide (hT23.up (fun g => (Value.slice fA fn fc).ownBlock = some g))
    have HT3s := hide hT23.size
    have HR3 := hide hr3
    have HONE := hide hone
    have HBB := hide hbb
    have HB3M := hide (HBM.out.touch hT3 (fun f => f))
    have HB3S := hide (HBS.out.touch hT3 (fun f => f))
    clear hsz2 hT3 hr3 hone hbb hT23
    by_cases h24 : 24 < hq
    · rw [if_pos h24]
      have y0 : (24 : Int) < (hq : Int) := by omega
      clear h24
      cases fin
      all_goals
        go_wp2_with (at_builtin; rw [← HW2.out]; refine wpList_app _ rfl (.tmp 30) (.tmp 37) 91 rfl 94 i1 _ 2 32 Tryd.underlying91 hi1 hy0 hy1 hy2 rfl (by decide) (.slice fA fn fc) fn _ rfl HO3.out (some ⟨w.heap.size + 1 + 1, 0, none⟩) 1 1 [.slice hA hq hc, .int .i64 (sm + out)] rfl HR3.out (fun h => by cases h) HONE.out HBB.out.1 HBB.out.2 ?_; intro v1 w4 O4 G4 F4 _; obtain ⟨A4, c4, hv, _, _⟩ := own_len O4; subst hv; have hx := rz_grow HO3.out HE3.out HVL.out O4 G4; have HO4 := hide hx.1; have HE4 := hide hx.2.2.2; have HV4 := hide hx.2.1; have HT4 := hide (HT3.out.grown G4 (fun k hk _ => hk)); have HF4 := hide (fresh_back HT3s.out F4); have HG4 := hide (Touch.refl (fun g => (Value.slice fA fn fc).ownBlock = some g) _ |>.grown G4 (fun k hk _ => hk)); clear O4 G4 F4 hx)
        go_ret
        exact ⟨A4, fn + 1, c4, V ++ [⟨hA, hq, hc, hd, sm + out⟩], rfl, HO4.out, HV4.out, HE4.out, by rw [List.map_append]; rfl, HT4.out, HF4.out⟩
    · rw [if_neg h24]
      have y0 : ¬ (24 : Int) < (hq : Int) := by omega
      have HQ24 := hide h24
      clear h24
      obtain ⟨RES, hres⟩ : ∃ r, arcs.foldl (fun fd a => wC (Z.map ZV.p) f a.2.2.toNat (hd ++ [a.1]) (sm + a.2.1) fd) (if fin = true then V.map RVz.p ++ [(hd, sm + out)] else V.map RVz.p) = r := ⟨_, rfl⟩
      rw [hres]
      have HFN2 := hide hfn4
      clear hfn4
      cases fin with
      | true =>
        rw [if_pos rfl] at hres
        have HRES := hide hres
        clear hres
        go_wp2_with (at_builtin; rw [← HW2.out]; refine wpList_app _ rfl (.tmp 30) (.tmp 37) 91 rfl 94 i1 _ 2 32 Tryd.underlying91 hi1 hy0 hy1 hy2 rfl (by decide) (.slice fA fn fc) fn _ rfl HO3.out (some ⟨w.heap.size + 1 + 1, 0, none⟩) 1 1 [.slice hA hq hc, .int .i64 (sm + out)] rfl HR3.out (fun h => by cases h) HONE.out HBB.out.1 HBB.out.2 ?_; intro v1 w4 O4 G4 F4 _; obtain ⟨A4, c4, hv, _, _⟩ := own_len O4; subst hv; have hx := rz_grow HO3.out HE3.out HVL.out O4 G4; have HO4 := hide hx.1; have HE4 := hide hx.2.2.2; have HV4 := hide hx.2.1; have HT4 := hide (HT3.out.grown G4 (fun k hk _ => hk)); have HF4 := hide (fresh_back HT3s.out F4); have HG4 := hide (Touch.refl (fun g => (Value.slice fA fn fc).ownBlock = some g) _ |>.grown G4 (fun k hk _ => hk)); clear O4 G4 F4 hx)
        go_loopw [4, 12] (fun fv iv wr => ∃ (j : Nat) (A' : Option Addr) (n' c' : Nat) (V' : List RVz), fv = .slice A' n' c' ∧ iv = .int .i64 j ∧ j ≤ zn ∧ Hid (wr.ownsRow 0 94 2 (.slice A' n' c') n' (rzCells V')) ∧ Hid (V'.length = n') ∧ Hid (∀ v ∈ V', v.Ok wr) ∧ Hid (n' ≤ 4097) ∧ Hid (Touch (fun g => (Value.slice fA fn fc).ownBlock = some g) w wr) ∧ Hid (Fresh w (.slice fA fn fc) (.slice A' n' c')) ∧ Hid (Blk wr M 24 #[.int .i64 base, .slice (some ⟨g, o, none⟩) n c]) ∧ Hid (Blk wr S 44 #[.bool true, .int .i64 out, .slice zA zn zc]) ∧ Hid ((arcs.drop j).foldl (fun fd a => wC (Z.map ZV.p) f a.2.2.toNat (hd ++ [a.1]) (sm + a.2.1) fd) (V'.map RVz.p) = RES)) (fun _ iv _ => zn - (intOf iv).toNat)
        case atStart => exact ⟨0, A4, fn + 1, c4, V ++ [⟨hA, hq, hc, hd, sm + out⟩], rfl, rfl, Nat.zero_le _, HO4, HV4, HE4, hide (by have := HFN2.out; omega), HT4, HF4, hide (HB3M.out.touch HG4.out (fun e => (blk_ty HB3M.out).ne (own_ty HO3.out e) (by decide) rfl)), hide (HB3S.out.touch HG4.out (fun e => (blk_ty HB3S.out).ne (own_ty HO3.out e) (by decide) rfl)), hide (by rw [List.drop_zero, List.map_append]; exact HRES.out)⟩
        case round =>
          obtain ⟨j, A', n', c', V', rfl, rfl, hj, HOL, HVLL, HELL, HNL, HTL, HFL, HBML, HBSL, HRS⟩ := hrel
          obtain ⟨wq, hwq⟩ : ∃ x, x = wr := ⟨_, rfl⟩
          subst hwq
          have hno : ∀ {t : TypeId} {b : Nat}, OT w b t → t ≠ 94 → ¬ (Value.slice fA fn fc).ownBlock = some b := fun hg ht e => hg.ne (own_ty HO.out e) ht (HBF.out _ e) rfl
          have hzo := HZO.out.touch HTL.out (fun b hb => hno hb (by decide))
          have hst := StsZ.far HST.out HTL.out (fun b hb => hno hb (by decide)) (fun b hb => hno hb (by decide))
          have hrd := HRD.out.touch HTL.out (fun b hb => hno (.inr hb) (by decide))
          have HBA := hide (fresh_bs HBF.out HBW.out HFL.out)
          have hbm := HBML.out
          rw [HMM.out] at hbm
          have hbs := HBSL.out
          rw [HSS.out] at hbs
          obtain ⟨m0, m1, m2⟩ := hbm.facts
          obtain ⟨s0', s1', s2'⟩ := hbs.facts
          by_cases hjn : j < zn
          · have j0 : (j : Int) < (zn : Int) := by omega
            have j1 : (0 : Int) ≤ (j : Int) := by omega
            have j2 : IntKind.i64.wrap ((j : Int) + 1) = (j : Int) + 1 := IntWalk.i64_in _ (by have := HZO.out.mx; have := HZO.out.le; simp only at *; unfold maxLen at *; omega)
            have hdr : arcs.drop j = arcs.getD j (0, 0, 0) :: arcs.drop (j + 1) := by
              rw [List.drop_eq_getElem_cons (by rw [HAL.out]; exact hjn)]
              simp [List.getD, HAL.out, hjn]
            have hrs := HRS.out
            rw [hdr, List.foldl_cons] at hrs
            have harc := HJ.out.1 (arcs.getD j (0, 0, 0)) (by rw [List.take_length]; exact getD_mem arcs (0, 0, 0) j (by rw [HAL.out]; exact hjn))
            obtain ⟨ga, oa, hzA, _, a0, a1, a2⟩ := zarc_at hzo.rd.rd HAL.out j hjn
            simp only at hzA
            obtain ⟨⟨la, ao, tt⟩, hzz⟩ : ∃ z, arcs.getD j (0, 0, 0) = z := ⟨_, rfl⟩
            rw [hzz] at a0 a1 a2 hrs harc
            simp only [rfArc] at a0 a1 a2 hrs harc
            obtain ⟨tn, rfl⟩ : ∃ tn : Nat, tt = (tn : Int) := ⟨tt.toNat, by omega⟩
            have k1 : IntKind.i64.wrap (sm + ao) = sm + ao := IntWalk.i64_in _ (by have := HSM.out; omega)
            subst hzA
            have hin : tn < n := by omega
            have hcall : ∀ (wx : World) (g4 cap4 : Nat), Touch (fun _ => False) wq wx → wx.ownsRow 0 21 1 (.slice (some ⟨g4, 0, none⟩) (hq + 1) cap4) (hq + 1) ((hd ++ [la]).map iV) →
                Calls Tryd.prog 45 #[.agg #[.int .i64 base, .slice (some ⟨g, o, none⟩) n c], .int .i64 tn, .slice (some ⟨g4, 0, none⟩) (hq + 1) cap4, .int .i64 (sm + ao), .slice A' n' c'] wx (WPost wx A' n' c' (wC (Z.map ZV.p) f tn (hd ++ [la]) (sm + ao) (V'.map RVz.p))) := fun wx g4 cap4 T ho =>
              HIH.out wx tn _ (hq + 1) cap4 (hd ++ [la]) (sm + ao) A' n' c' V' base _ c (hst.quiet T) hin (RdT.of_own ho) (fun e => by cases e) (by rw [List.length_append, HHL.out]; rfl) (by have := HQ24.out; omega) (by have := HFQ.out; omega) (by have := HSM.out; omega) (by have := HSM.out; push_cast; omega) (own_touch HOL.out T (fun _ _ f => f)) HVLL.out HNL.out (fun v hv => (HELL.out v hv).touch T (fun _ _ f => f)) HBA.out (by have h1 := HBW.out; have h2 := HTL.out.size; have h3 := T.size; omega)
            obtain ⟨w5, hw5⟩ : ∃ x, x = wq.alloc (.cells #[] 21) := ⟨_, rfl⟩
            have hT5 : Touch (fun _ => False) wq w5 := by rw [hw5]; exact (Touch.refl _ _).alloc _
            have HO5 : Hid (w5.ownsRow 0 21 1 (.slice (some ⟨wq.heap.size, 0, none⟩) 0 0) 0 []) := hide (by rw [hw5]; exact own_nought8 _ _ _)
            have HR5 := hide (hrd.rd.touch hT5 (fun _ _ f => f))
            have HON := hide (onecell_i hd)
            have HB5 : Hid (0 + hq ≤ maxLen ∧ (0 + hq) * 4 ≤ 140737488355328 ∧ hq + 1 ≤ maxLen ∧ (hq + 1) * 4 ≤ 140737488355328) := hide (by have := HQ24.out; unfold maxLen; omega)
            have HT5 := hide hT5
            have HW5 := hide hw5
            have HCALL := hide hcall
            have HRS2 := hide hrs
            have HJN := hide hjn
            have HZA : Hid (∀ wx, Touch (fun _ => False) wq wx → wx.cell? ⟨ga, oa + j * 3, none⟩ = some (.int .i32 la) ∧ wx.cell? ⟨ga, oa + j * 3 + 1, none⟩ = some (.int .i64 ao) ∧ wx.cell? ⟨ga, oa + j * 3 + 2, none⟩ = some (.int .i64 (tn : Int))) := hide (fun wx T => by
              have hz2 := hzo.touch T (fun _ _ f => f)
              obtain ⟨gb, ob, hzB, _, b0, b1, b2⟩ := zarc_at hz2.rd.rd HAL.out j hjn
              simp only at hzB
              injection hzB with hzB
              injection hzB with e1 e2
              subst e1
              subst e2
              rw [hzz] at b0 b1 b2
              exact ⟨b0, b1, b2⟩)
            have hks : ∀ wx, Touch (fun b => (Value.slice A' n' c').ownBlock = some b) wq wx → wx.cell? ⟨w.heap.size, 0, none⟩ = some (.int .i64 base) ∧ wx.cell? ⟨w.heap.size, 1, none⟩ = some (.slice (some ⟨g, o, none⟩) n c) ∧ wx.cell? ⟨w.heap.size + 1, 2, none⟩ = some (.slice (some ⟨ga, oa, none⟩) zn zc) ∧ wx.cell? ⟨ga, oa + j * 3, none⟩ = some (.int .i32 la) ∧ wx.cell? ⟨ga, oa + j * 3 + 1, none⟩ = some (.int .i64 ao) ∧ wx.cell? ⟨ga, oa + j * 3 + 2, none⟩ = some (.int .i64 (tn : Int)) ∧ Touch (fun b => (Value.slice A' n' c').ownBlock = some b) wq wx := fun wx T => by
              have hno2 : ∀ {t : TypeId} {b : Nat}, OT wq b t → t ≠ 94 → ¬ (Value.slice A' n' c').ownBlock = some b := fun hg ht e => hg.ne (own_ty HOL.out e) ht (HBA.out _ e) rfl
              have hz2 := hzo.touch T (fun b hb => hno2 hb (by decide))
              have m2 := (hbm.touch T (hno2 (.inr (blk_ty hbm)) (by decide))).cell
              have s2 := (hbs.touch T (hno2 (.inr (blk_ty hbs)) (by decide))).cell
              obtain ⟨gb, ob, hzB, _, b0, b1, b2⟩ := zarc_at hz2.rd.rd HAL.out j hjn
              simp only at hzB
              injection hzB with hzB
              injection hzB with e1 e2
              subst e1
              subst e2
              rw [hzz] at b0 b1 b2
              exact ⟨m2 0, m2 1, s2 2, b0, b1, b2, T⟩
            have HKS := hide hks
            have HBM2 := hide hbm
            have HBS2 := hide hbs
            clear hks hno hzo hst hrd hdr hrs harc hzz hcall hT5 hw5 hjn hj hbm hbs hin
            go_wp2_with (at_builtin; rw [← HW5.out]; refine wpList_app _ rfl (.tmp 50) (.tmp 51) 59 rfl 21 i2 _ 1 4 Tryd.underlying59 hi2 hz0 hz1 hz2 rfl (by decide) (.slice (some ⟨wq.heap.size, 0, none⟩) 0 0) 0 _ rfl HO5.out hA hq hc (hd.map iV) rfl HR5.out HNIL.out HON.out HB5.out.1 HB5.out.2.1 ?_; intro v1 w6 O6 G6 F6 _; rw [Nat.zero_add, List.nil_append] at O6; obtain ⟨A6, c6, hv, _, _⟩ := own_len O6; subst hv; have HO6 := hide O6; have HT6 := hide (HT5.out.trans ((Touch.refl (fun k => k = wq.heap.size) w5).grown G6 (fun k hk _ => by injection hk with hk; exact hk.symm)) (fun k hk e => by omega)); have HF6 := hide (fresh_young HT5.out.size F6); clear O6 G6 F6 a0 a1 a2 m0 m1 m2 s0' s1' s2')
            go_region_held3 (fun w' => w'.cell? ⟨w.heap.size, 0, none⟩ = some (.int .i64 base) ∧ w'.cell? ⟨w.heap.size, 1, none⟩ = some (.slice (some ⟨g, o, none⟩) n c) ∧ w'.cell? ⟨w.heap.size + 1, 2, none⟩ = some (.slice (some ⟨ga, oa, none⟩) zn zc) ∧ w'.cell? ⟨ga, oa + j * 3, none⟩ = some (.int .i32 la) ∧ w'.cell? ⟨ga, oa + j * 3 + 1, none⟩ = some (.int .i64 ao) ∧ w'.cell? ⟨ga, oa + j * 3 + 2, none⟩ = some (.int .i64 (tn : Int)) ∧ Touch (fun b => (Value.slice A' n' c').ownBlock = some b) wq w')
              (first
                | exact HKS.out _ (HT6.out.up _).drew
                | exact HKS.out _ ((HT6.out.up _).alloc _).drew
                | exact HKS.out _ ((HT6.out.up _).drew.alloc _)
                | exact HKS.out _ (HT9.out.up _)
                | exact HKS.out _ (HT10.out))
              (first
                | (refine step_append_lies _ rfl (.tmp 60) (.tmp 67) 59 rfl 0 21 i2 _ 1 4 Tryd.underlying59 hi2 hz0 hz1 hz2 (by decide) (by decide) (.slice A6 hq c6) hq _ (by first | (simp [Act.eval]; done) | rfl) (own_touch HO6.out ((Touch.refl _ _).alloc _).drew (fun _ _ f => f)) ⟨w6.heap.size, 0, none⟩ 1 1 [.int .i32 la] (by first | (simp [Act.eval]; done) | rfl) rfl ?news ?one (by decide) HB5.out.2.2.1 HB5.out.2.2.2 (Nat.zero_le _) _ rfl ?_; (case news => exact World.news_of_block (Blk.new w6 _ _)); (case one => exact List.all_eq_true.1 rfl); intro g4 cap4 w9 hown hgrow hlies _; have HT9 := hide (next_touch HT6.out HO6.out HF6.out hgrow); have HO9 := hide (next_own hown); clear hown hgrow hlies)
                | (go_simp; go_at_call 45; refine (HCALL.out _ _ _ HT9.out HO9.out).mono ?_; rintro e wS ⟨AS, nS, cS, VS, rfl, hownS, hlS, helS, hpS, TS, FS⟩; have HOS := hide hownS; have HLS := hide hlS; have HES := hide helS; have HPS := hide hpS; have HTS := hide TS; have HFS := hide FS; have HT10 := hide ((HT9.out.up _).then TS); clear hownS hlS helS hpS TS FS))
            go_wp2_with fail
            go_roundw
            · have hns : nS ≤ 4097 := by
                have h := congrArg List.length HPS.out
                rw [List.length_map] at h
                have h2 := wC_len (Z.map ZV.p) f tn (hd ++ [la]) (sm + ao) (V'.map RVz.p) (by rw [List.length_map, HVLL.out]; exact HNL.out)
                have := HLS.out
                omega
              have hno2 : ∀ {t : TypeId} {b : Nat}, OT wq b t → t ≠ 94 → ¬ (Value.slice A' n' c').ownBlock = some b := fun hg ht e => hg.ne (own_ty HOL.out e) ht (HBA.out _ e) rfl
              refine ⟨j + 1, AS, nS, cS, VS, rfl, by simp, by have := HJN.out; omega, HOS, HLS, HES, hide hns, hide (fresh_touch HTL.out HT10.out HFL.out), hide (fresh_trans (by have := HTL.out.size; have := HT9.out.size; omega) HFL.out HFS.out), hide ?_, hide ?_, hide ?_⟩
              · rw [HMM.out]
                exact HBM2.out.touch HT10.out (hno2 (.inr (blk_ty HBM2.out)) (by decide))
              · rw [HSS.out]
                exact HBS2.out.touch HT10.out (hno2 (.inr (blk_ty HBS2.out)) (by decide))
              · have h := HRS2.out
                simp only [Int.toNat_natCast] at h
                rw [HPS.out]
                exact h
            · have := HJN.out
              simp only [intOf]
              omega
          · have hje : j = zn := by omega
            have j0 : ¬ (j : Int) < (zn : Int) := by omega
            have hrs := HRS.out
            rw [List.drop_of_length_le (by rw [HAL.out]; omega), List.foldl_nil] at hrs
            have HRE := hide hrs
            clear hrs hje hjn hj hzo hst hrd hno
            go_wp2_with fail
            go_ret
            exact ⟨A', n', c', V', rfl, HOL.out, HVLL.out, HELL.out, HRE.out, HTL.out, HFL.out⟩
      | false =>
        rw [if_neg (by simp)] at hres
        have HRES := hide hres
        clear hres HR3 HONE HBB HE3 HT3 HT3s HB3M HB3S HO3
        go_wp2_with fail
        rw [← HW2.out]
        go_loopw [4, 12] (fun fv iv wr => ∃ (j : Nat) (A' : Option Addr) (n' c' : Nat) (V' : List RVz), fv = .slice A' n' c' ∧ iv = .int .i64 j ∧ j ≤ zn ∧ Hid (wr.ownsRow 0 94 2 (.slice A' n' c') n' (rzCells V')) ∧ Hid (V'.length = n') ∧ Hid (∀ v ∈ V', v.Ok wr) ∧ Hid (n' ≤ 4097) ∧ Hid (Touch (fun g => (Value.slice fA fn fc).ownBlock = some g) w wr) ∧ Hid (Fresh w (.slice fA fn fc) (.slice A' n' c')) ∧ Hid (Blk wr M 24 #[.int .i64 base, .slice (some ⟨g, o, none⟩) n c]) ∧ Hid (Blk wr S 44 #[.bool false, .int .i64 out, .slice zA zn zc]) ∧ Hid ((arcs.drop j).foldl (fun fd a => wC (Z.map ZV.p) f a.2.2.toNat (hd ++ [a.1]) (sm + a.2.1) fd) (V'.map RVz.p) = RES)) (fun _ iv _ => zn - (intOf iv).toNat)
        case atStart => exact ⟨0, fA, fn, fc, V, rfl, rfl, Nat.zero_le _, hide (own_touch HO.out HT2.out (fun _ _ f => f)), HVL, hide (fun v hv => (HEL.out v hv).touch HT2.out (fun _ _ f => f)), HFN, hide (HT2.out.up _), hide (.inl rfl), HBM, HBS, hide (by rw [List.drop_zero]; exact HRES.out)⟩
        case round =>
          obtain ⟨j, A', n', c', V', rfl, rfl, hj, HOL, HVLL, HELL, HNL, HTL, HFL, HBML, HBSL, HRS⟩ := hrel
          obtain ⟨wq, hwq⟩ : ∃ x, x = wr := ⟨_, rfl⟩
          subst hwq
          have hno : ∀ {t : TypeId} {b : Nat}, OT w b t → t ≠ 94 → ¬ (Value.slice fA fn fc).ownBlock = some b := fun hg ht e => hg.ne (own_ty HO.out e) ht (HBF.out _ e) rfl
          have hzo := HZO.out.touch HTL.out (fun b hb => hno hb (by decide))
          have hst := StsZ.far HST.out HTL.out (fun b hb => hno hb (by decide)) (fun b hb => hno hb (by decide))
          have hrd := HRD.out.touch HTL.out (fun b hb => hno (.inr hb) (by decide))
          have HBA := hide (fresh_bs HBF.out HBW.out HFL.out)
          have hbm := HBML.out
          rw [HMM.out] at hbm
          have hbs := HBSL.out
          rw [HSS.out] at hbs
          obtain ⟨m0, m1, m2⟩ := hbm.facts
          obtain ⟨s0', s1', s2'⟩ := hbs.facts
          by_cases hjn : j < zn
          · have j0 : (j : Int) < (zn : Int) := by omega
            have j1 : (0 : Int) ≤ (j : Int) := by omega
            have j2 : IntKind.i64.wrap ((j : Int) + 1) = (j : Int) + 1 := IntWalk.i64_in _ (by have := HZO.out.mx; have := HZO.out.le; simp only at *; unfold maxLen at *; omega)
            have hdr : arcs.drop j = arcs.getD j (0, 0, 0) :: arcs.drop (j + 1) := by
              rw [List.drop_eq_getElem_cons (by rw [HAL.out]; exact hjn)]
              simp [List.getD, HAL.out, hjn]
            have hrs := HRS.out
            rw [hdr, List.foldl_cons] at hrs
            have harc := HJ.out.1 (arcs.getD j (0, 0, 0)) (by rw [List.take_length]; exact getD_mem arcs (0, 0, 0) j (by rw [HAL.out]; exact hjn))
            obtain ⟨ga, oa, hzA, _, a0, a1, a2⟩ := zarc_at hzo.rd.rd HAL.out j hjn
            simp only at hzA
            obtain ⟨⟨la, ao, tt⟩, hzz⟩ : ∃ z, arcs.getD j (0, 0, 0) = z := ⟨_, rfl⟩
            rw [hzz] at a0 a1 a2 hrs harc
            simp only [rfArc] at a0 a1 a2 hrs harc
            obtain ⟨tn, rfl⟩ : ∃ tn : Nat, tt = (tn : Int) := ⟨tt.toNat, by omega⟩
            have k1 : IntKind.i64.wrap (sm + ao) = sm + ao := IntWalk.i64_in _ (by have := HSM.out; omega)
            subst hzA
            have hin : tn < n := by omega
            have hcall : ∀ (wx : World) (g4 cap4 : Nat), Touch (fun _ => False) wq wx → wx.ownsRow 0 21 1 (.slice (some ⟨g4, 0, none⟩) (hq + 1) cap4) (hq + 1) ((hd ++ [la]).map iV) →
                Calls Tryd.prog 45 #[.agg #[.int .i64 base, .slice (some ⟨g, o, none⟩) n c], .int .i64 tn, .slice (some ⟨g4, 0, none⟩) (hq + 1) cap4, .int .i64 (sm + ao), .slice A' n' c'] wx (WPost wx A' n' c' (wC (Z.map ZV.p) f tn (hd ++ [la]) (sm + ao) (V'.map RVz.p))) := fun wx g4 cap4 T ho =>
              HIH.out wx tn _ (hq + 1) cap4 (hd ++ [la]) (sm + ao) A' n' c' V' base _ c (hst.quiet T) hin (RdT.of_own ho) (fun e => by cases e) (by rw [List.length_append, HHL.out]; rfl) (by have := HQ24.out; omega) (by have := HFQ.out; omega) (by have := HSM.out; omega) (by have := HSM.out; push_cast; omega) (own_touch HOL.out T (fun _ _ f => f)) HVLL.out HNL.out (fun v hv => (HELL.out v hv).touch T (fun _ _ f => f)) HBA.out (by have h1 := HBW.out; have h2 := HTL.out.size; have h3 := T.size; omega)
            obtain ⟨w5, hw5⟩ : ∃ x, x = wq.alloc (.cells #[] 21) := ⟨_, rfl⟩
            have hT5 : Touch (fun _ => False) wq w5 := by rw [hw5]; exact (Touch.refl _ _).alloc _
            have HO5 : Hid (w5.ownsRow 0 21 1 (.slice (some ⟨wq.heap.size, 0, none⟩) 0 0) 0 []) := hide (by rw [hw5]; exact own_nought8 _ _ _)
            have HR5 := hide (hrd.rd.touch hT5 (fun _ _ f => f))
            have HON := hide (onecell_i hd)
            have HB5 : Hid (0 + hq ≤ maxLen ∧ (0 + hq) * 4 ≤ 140737488355328 ∧ hq + 1 ≤ maxLen ∧ (hq + 1) * 4 ≤ 140737488355328) := hide (by have := HQ24.out; unfold maxLen; omega)
            have HT5 := hide hT5
            have HW5 := hide hw5
            have HCALL := hide hcall
            have HRS2 := hide hrs
            have HJN := hide hjn
            have HZA : Hid (∀ wx, Touch (fun _ => False) wq wx → wx.cell? ⟨ga, oa + j * 3, none⟩ = some (.int .i32 la) ∧ wx.cell? ⟨ga, oa + j * 3 + 1, none⟩ = some (.int .i64 ao) ∧ wx.cell? ⟨ga, oa + j * 3 + 2, none⟩ = some (.int .i64 (tn : Int))) := hide (fun wx T => by
              have hz2 := hzo.touch T (fun _ _ f => f)
              obtain ⟨gb, ob, hzB, _, b0, b1, b2⟩ := zarc_at hz2.rd.rd HAL.out j hjn
              simp only at hzB
              injection hzB with hzB
              injection hzB with e1 e2
              subst e1
              subst e2
              rw [hzz] at b0 b1 b2
              exact ⟨b0, b1, b2⟩)
            have hks : ∀ wx, Touch (fun b => (Value.slice A' n' c').ownBlock = some b) wq wx → wx.cell? ⟨w.heap.size, 0, none⟩ = some (.int .i64 base) ∧ wx.cell? ⟨w.heap.size, 1, none⟩ = some (.slice (some ⟨g, o, none⟩) n c) ∧ wx.cell? ⟨w.heap.size + 1, 2, none⟩ = some (.slice (some ⟨ga, oa, none⟩) zn zc) ∧ wx.cell? ⟨ga, oa + j * 3, none⟩ = some (.int .i32 la) ∧ wx.cell? ⟨ga, oa + j * 3 + 1, none⟩ = some (.int .i64 ao) ∧ wx.cell? ⟨ga, oa + j * 3 + 2, none⟩ = some (.int .i64 (tn : Int)) ∧ Touch (fun b => (Value.slice A' n' c').ownBlock = some b) wq wx := fun wx T => by
              have hno2 : ∀ {t : TypeId} {b : Nat}, OT wq b t → t ≠ 94 → ¬ (Value.slice A' n' c').ownBlock = some b := fun hg ht e => hg.ne (own_ty HOL.out e) ht (HBA.out _ e) rfl
              have hz2 := hzo.touch T (fun b hb => hno2 hb (by decide))
              have m2 := (hbm.touch T (hno2 (.inr (blk_ty hbm)) (by decide))).cell
              have s2 := (hbs.touch T (hno2 (.inr (blk_ty hbs)) (by decide))).cell
              obtain ⟨gb, ob, hzB, _, b0, b1, b2⟩ := zarc_at hz2.rd.rd HAL.out j hjn
              simp only at hzB
              injection hzB with hzB
              injection hzB with e1 e2
              subst e1
              subst e2
              rw [hzz] at b0 b1 b2
              exact ⟨m2 0, m2 1, s2 2, b0, b1, b2, T⟩
            have HKS := hide hks
            have HBM2 := hide hbm
            have HBS2 := hide hbs
            clear hks hno hzo hst hrd hdr hrs harc hzz hcall hT5 hw5 hjn hj hbm hbs hin
            go_wp2_with (at_builtin; rw [← HW5.out]; refine wpList_app _ rfl (.tmp 50) (.tmp 51) 59 rfl 21 i2 _ 1 4 Tryd.underlying59 hi2 hz0 hz1 hz2 rfl (by decide) (.slice (some ⟨wq.heap.size, 0, none⟩) 0 0) 0 _ rfl HO5.out hA hq hc (hd.map iV) rfl HR5.out HNIL.out HON.out HB5.out.1 HB5.out.2.1 ?_; intro v1 w6 O6 G6 F6 _; rw [Nat.zero_add, List.nil_append] at O6; obtain ⟨A6, c6, hv, _, _⟩ := own_len O6; subst hv; have HO6 := hide O6; have HT6 := hide (HT5.out.trans ((Touch.refl (fun k => k = wq.heap.size) w5).grown G6 (fun k hk _ => by injection hk with hk; exact hk.symm)) (fun k hk e => by omega)); have HF6 := hide (fresh_young HT5.out.size F6); clear O6 G6 F6 a0 a1 a2 m0 m1 m2 s0' s1' s2')
            go_region_held3 (fun w' => w'.cell? ⟨w.heap.size, 0, none⟩ = some (.int .i64 base) ∧ w'.cell? ⟨w.heap.size, 1, none⟩ = some (.slice (some ⟨g, o, none⟩) n c) ∧ w'.cell? ⟨w.heap.size + 1, 2, none⟩ = some (.slice (some ⟨ga, oa, none⟩) zn zc) ∧ w'.cell? ⟨ga, oa + j * 3, none⟩ = some (.int .i32 la) ∧ w'.cell? ⟨ga, oa + j * 3 + 1, none⟩ = some (.int .i64 ao) ∧ w'.cell? ⟨ga, oa + j * 3 + 2, none⟩ = some (.int .i64 (tn : Int)) ∧ Touch (fun b => (Value.slice A' n' c').ownBlock = some b) wq w')
              (first
                | exact HKS.out _ (HT6.out.up _).drew
                | exact HKS.out _ ((HT6.out.up _).alloc _).drew
                | exact HKS.out _ ((HT6.out.up _).drew.alloc _)
                | exact HKS.out _ (HT9.out.up _)
                | exact HKS.out _ (HT10.out))
              (first
                | (refine step_append_lies _ rfl (.tmp 60) (.tmp 67) 59 rfl 0 21 i2 _ 1 4 Tryd.underlying59 hi2 hz0 hz1 hz2 (by decide) (by decide) (.slice A6 hq c6) hq _ (by first | (simp [Act.eval]; done) | rfl) (own_touch HO6.out ((Touch.refl _ _).alloc _).drew (fun _ _ f => f)) ⟨w6.heap.size, 0, none⟩ 1 1 [.int .i32 la] (by first | (simp [Act.eval]; done) | rfl) rfl ?news ?one (by decide) HB5.out.2.2.1 HB5.out.2.2.2 (Nat.zero_le _) _ rfl ?_; (case news => exact World.news_of_block (Blk.new w6 _ _)); (case one => exact List.all_eq_true.1 rfl); intro g4 cap4 w9 hown hgrow hlies _; have HT9 := hide (next_touch HT6.out HO6.out HF6.out hgrow); have HO9 := hide (next_own hown); clear hown hgrow hlies)
                | (go_simp; go_at_call 45; refine (HCALL.out _ _ _ HT9.out HO9.out).mono ?_; rintro e wS ⟨AS, nS, cS, VS, rfl, hownS, hlS, helS, hpS, TS, FS⟩; have HOS := hide hownS; have HLS := hide hlS; have HES := hide helS; have HPS := hide hpS; have HTS := hide TS; have HFS := hide FS; have HT10 := hide ((HT9.out.up _).then TS); clear hownS hlS helS hpS TS FS))
            go_wp2_with fail
            go_roundw
            · have hns : nS ≤ 4097 := by
                have h := congrArg List.length HPS.out
                rw [List.length_map] at h
                have h2 := wC_len (Z.map ZV.p) f tn (hd ++ [la]) (sm + ao) (V'.map RVz.p) (by rw [List.length_map, HVLL.out]; exact HNL.out)
                have := HLS.out
                omega
              have hno2 : ∀ {t : TypeId} {b : Nat}, OT wq b t → t ≠ 94 → ¬ (Value.slice A' n' c').ownBlock = some b := fun hg ht e => hg.ne (own_ty HOL.out e) ht (HBA.out _ e) rfl
              refine ⟨j + 1, AS, nS, cS, VS, rfl, by simp, by have := HJN.out; omega, HOS, HLS, HES, hide hns, hide (fresh_touch HTL.out HT10.out HFL.out), hide (fresh_trans (by have := HTL.out.size; have := HT9.out.size; omega) HFL.out HFS.out), hide ?_, hide ?_, hide ?_⟩
              · rw [HMM.out]
                exact HBM2.out.touch HT10.out (hno2 (.inr (blk_ty HBM2.out)) (by decide))
              · rw [HSS.out]
                exact HBS2.out.touch HT10.out (hno2 (.inr (blk_ty HBS2.out)) (by decide))
              · have h := HRS2.out
                simp only [Int.toNat_natCast] at h
                rw [HPS.out]
                exact h
            · have := HJN.out
              simp only [intOf]
              omega
          · have hje : j = zn := by omega
            have j0 : ¬ (j : Int) < (zn : Int) := by omega
            have hrs := HRS.out
            rw [List.drop_of_length_le (by rw [HAL.out]; omega), List.foldl_nil] at hrs
            have HRE := hide hrs
            clear hrs hje hjn hj hzo hst hrd hno
            go_wp2_with fail
            go_ret
            exact ⟨A', n', c', V', rfl, HOL.out, HVLL.out, HELL.out, HRE.out, HTL.out, HFL.out⟩

theorem words_any (Z : List ZV) (n : Nat) (hrf : ∀ j, j < n → RForm j (Z.getD j zvZero).p) (hn : n ≤ 98305) : ∀ f, WrdC Z n f
  | 0 => by
    intro w i hA hq hc hd sm fA fn fc V base A c _ _ _ _ _ h1 h2
    omega
  | f + 1 => words_step Z n f hrf hn (words_any Z n hrf hn f)

end Go.Proofs.YtcmjohaohdgnjaaDoor
