/- fst: the least weight; a link's number. No condition. -/
import Derived.Test.YtcmjohaohdgnjaaDoorFstT
import Derived.BigQuiet
namespace Go.Proofs.YtcmjohaohdgnjaaDoor
open Go.RowKit Go.MapKept Go.ChangeMaps

/-- Rests that come in as a slice. -/
structure FL where
  A : Option Addr
  n : Nat
  c : Nat
  V : List RV
def FL.val (s : FL) : Value := .slice s.A s.n s.c
def FL.p (s : FL) : Rs := s.V.map RV.p
structure FL.Ok (s : FL) (w : World) : Prop where
  len : s.V.length = s.n
  rd : RdT w 65 2 s.A s.n (rCells s.V)
  el : ∀ r ∈ s.V, r.Ok w
  le : s.n ≤ s.c
def FL.Bd (s : FL) : Prop := ∀ r ∈ s.V, 0 ≤ r.wt ∧ r.wt ≤ 1048576
theorem FL.Ok.touch {s : FL} {w w' : World} {S : Nat → Prop} (h : s.Ok w) (T : Touch S w w') (h1 : ∀ g, TyAt w g 21 → ¬ S g) (h2 : ∀ g, TyAt w g 65 → ¬ S g) : s.Ok w' :=
  ⟨h.len, h.rd.touch T h2, fun r hr => (h.el r hr).touch T h1, h.le⟩
theorem FL.Ok.quiet {s : FL} {w w' : World} (h : s.Ok w) (T : Touch (fun _ => False) w w') : s.Ok w' := h.touch T (fun _ _ f => f) (fun _ _ f => f)

set_option maxRecDepth 100000 in
theorem fleast_any (w : World) (s : FL) (hs : s.Ok w) (hn : 0 < s.n) (hm : s.n ≤ maxLen) :
    Calls Tryd.prog 31 #[s.val] w fun e w' => e = .returned (.int .i64 (leastR s.p)) ∧ Touch (fun _ => False) w w' := by
  obtain ⟨A, n, c, V⟩ := s
  have HR := hide hs.rd.rd
  have HLN := hide hs.len
  simp only [FL.val, FL.p]
  simp only at HR HLN hn hm
  clear hs
  unfold maxLen at hm
  obtain ⟨m, rfl⟩ : ∃ m, n = m + 1 := ⟨n - 1, by omega⟩
  obtain ⟨g, o, hA, hg, _, z1⟩ := rest_at HR.out HLN.out 0 (by omega)
  subst hA
  simp only [Nat.zero_mul, Nat.add_zero] at z1
  obtain ⟨z, hz⟩ : ∃ z, (V.getD 0 RV.zero).wt = z := ⟨_, rfl⟩
  rw [hz] at z1
  have hl : leastR (V.map RV.p) = (V.map RV.p).foldl (fun n r => min n r.2) z := by
    cases V with
    | nil => have := HLN.out; simp at this
    | cons x V => simp only [List.getD_cons_zero] at hz; subst hz; rfl
  have HL := hide hl
  have HZ1 := hide z1
  have HG := hide hg
  clear hl hz hg
  have y0 : (0 : Int) < ((m : Int) + 1) := by omega
  go_enter Tryd.func31, Tryd.ntmps31
  go_wp2
  go_loopw [3, 12] (fun nv iv wr => ∃ (z' : Int) (i : Nat), nv = .int .i64 z' ∧ iv = .int .i64 i ∧ i ≤ m + 1 ∧ Hid (z' = ((V.map RV.p).take i).foldl (fun n r => min n r.2) z) ∧ Hid (Touch (fun _ => False) w wr)) (fun _ iv _ => m + 1 - (intOf iv).toNat)
  case atStart => exact ⟨z, 0, rfl, rfl, by omega, hide (by simp), hide (Touch.refl _ _)⟩
  case round =>
    obtain ⟨z', i, rfl, rfl, hi, HZ, HT⟩ := hrel
    by_cases hin : i < m + 1
    · have y1 : (i : Int) < (m : Int) + 1 := by omega
      have y2 : (0 : Int) ≤ (i : Int) := by omega
      obtain ⟨g', o', hA, _, a0, a1⟩ := rest_at (HR.out.touch HT.out (fun _ _ f => f)) HLN.out i hin
      injection hA with hA
      injection hA with hA1 hA2
      subst hA1 hA2
      obtain ⟨u, hu⟩ : ∃ u, (V.getD i RV.zero).wt = u := ⟨_, rfl⟩
      rw [hu] at a1
      have hst : ((V.map RV.p).take (i + 1)).foldl (fun n r => min n r.2) z = min z' u := by
        rw [take_snoc (V.map RV.p) RV.zero.p i (by rw [List.length_map, HLN.out]; exact hin), List.foldl_append, ← HZ.out]
        simp only [List.foldl_cons, List.foldl_nil]
        rw [← hu]
        simp [List.getD, RV.p, show i < V.length by rw [HLN.out]; exact hin]
      have HST := hide hst
      have j3 : IntKind.i64.wrap ((i : Int) + 1) = (i : Int) + 1 := IntWalk.i64_in _ (by omega)
      clear hst hu
      go_wp2
      all_goals
        go_roundw
        · exact ⟨_, i + 1, rfl, by simp, by omega, hide (by rw [HST.out]; split <;> omega), hide (HT.out.alloc _)⟩
        · show m + 1 - (intOf (.int .i64 ((i : Int) + 1))).toNat < m + 1 - (intOf (.int .i64 (i : Int))).toNat
          simp [intOf]
          omega
    · have y1 : ¬ (i : Int) < (m : Int) + 1 := by omega
      have ht : (V.map RV.p).take i = V.map RV.p := List.take_of_length_le (by rw [List.length_map, HLN.out]; omega)
      have hz := HZ.out
      rw [ht, ← HL.out] at hz
      have HE := hide hz
      clear hz ht
      go_wp2
      go_ret
      exact ⟨by rw [← HE.out]; rfl, HT.out⟩

set_option maxRecDepth 100000 in
set_option maxHeartbeats 1000000 in
theorem known_any (w : World) (B : Nat) (s bv : Value) (m1 : Nat) (Lk : List Value) (hb : Blk w B 70 #[s, .map (some m1), bv]) (hI : Itn w m1 120 Lk) (hn : Lk.length ≤ 1000000)
    (f : Bool) (x1 x2 x3 x4 x5 : Int) (h1 : I64 x1) (h2 : I64 x2) (h3 : I64 x3) (h4 : I64 x4) (h5 : I64 x5) (v : Value) (hv : v = .agg #[.bool f, .int .i64 x1, .int .i64 x2, .int .i64 x3, .int .i64 x4, .int .i64 x5]) :
    Calls Tryd.prog 66 #[.pointer (some ⟨B, 0, none⟩), v] w fun e w' => ∃ (M : List Value) (k : Nat), e = .returned (.int .i64 k) ∧ (Lk ++ M)[k]? = some v ∧ M.length ≤ 1 ∧ Itn w' m1 120 (Lk ++ M) ∧ Touch (fun g => g = m1) w w' := by
  obtain ⟨w1, hw1⟩ : ∃ y, y = w.alloc (.cells #[.bool f, .int .i64 x1, .int .i64 x2, .int .i64 x3, .int .i64 x4, .int .i64 x5] 120) := ⟨_, rfl⟩
  have hT1 : Touch (fun _ => False) w w1 := by rw [hw1]; exact (Touch.refl _ _).alloc _
  obtain ⟨b0, b1, b2⟩ := hb.facts
  have hI1 := hI.quiet hT1
  obtain ⟨l, hl⟩ := lnk_key (b := f) h1 h2 h3 h4 h5
  rw [← hv] at hl
  have hmu : Tryd.prog.underlying 67 = some (.map 120 3) := Tryd.underlying67
  by_cases hno : v ∉ Lk
  · have hlk : ∀ n, (Instr.lookup 67 (.map (some m1)) v true).run Tryd.prog (w1.drewN n) = .ok (.tuple #[.int .i64 0, .bool false]) (w1.drewN n) := fun n => (hI1.quiet ((Touch.refl _ _).drewN n)).no lnk_keyed hmu hl hno
    have HI1 := hide hI1
    have HT1 := hide hT1
    have HV := hide hv
    have HB := hide hb
    have HL := hide hl
    have HNO := hide hno
    have HMU := hide hmu
    have hnI : (Lk.length : Int) ≤ 1000000 := by omega
    rw [hw1, hv] at hlk
    have HW1 := hide hw1
    clear hI hI1 hl hv hT1 hb hw1 hno h1 h2 h3 h4 h5 hmu hn
    rw [HV.out]
    go_enter Tryd.func66, Tryd.ntmps66
    go_wp2_with fail
    go_quiet (fail)
    rw [← HW1.out]
    obtain ⟨w2, hw2⟩ : ∃ y, y = w1.drewN nq := ⟨_, rfl⟩
    rw [← hw2]
    have hT2 : Touch (fun _ => False) w w2 := by rw [hw2]; exact HT1.out.drewN _
    have hI2 : Itn w2 m1 120 Lk := by rw [hw2]; exact HI1.out.quiet ((Touch.refl _ _).drewN _)
    have hbx : Blk w2 w.heap.size 120 #[.bool f, .int .i64 x1, .int .i64 x2, .int .i64 x3, .int .i64 x4, .int .i64 x5] := by rw [hw2, HW1.out]; exact (Blk.new _ _ _).drewN _
    clear b0 b1 b2
    obtain ⟨b0, b1, b2⟩ := (HB.out.touch hT2 (fun f => f)).facts
    obtain ⟨c0, c1, c2⟩ := hbx.facts
    have hlen := hI2.len HMU.out 3
    obtain ⟨o, hup, hI3⟩ := (hI2.quiet (Touch.refl _ _).drew).put lnk_keyed HMU.out HL.out HNO.out
    rw [HV.out] at hup
    have hT3 : Touch (fun g => g = m1) w (setBlock w2.drew m1 o) := (hT2.drew.up _).then (touch_setBlock _ _ _)
    have HI3 := hide hI3
    have HT3 := hide hT3
    clear hw2 hT2 hI2 hbx hI3 hT3 hlk
    go_wp2_with fail
    go_region
    all_goals
      go_wp2_with fail
      go_ret
      exact ⟨[v], Lk.length, rfl, by simp [HV.out], by simp, HI3.out, HT3.out⟩
  · obtain ⟨i, hi, hil⟩ := List.getElem_of_mem (Classical.not_not.1 hno)
    have hi2 : Lk[i]? = some v := by rw [List.getElem?_eq_getElem hi, hil]
    have hlk : ∀ n, (Instr.lookup 67 (.map (some m1)) v true).run Tryd.prog (w1.drewN n) = .ok (.tuple #[.int .i64 i, .bool true]) (w1.drewN n) := fun n => (hI1.quiet ((Touch.refl _ _).drewN n)).yes lnk_keyed hmu hl hi2
    have HI1 := hide hI1
    have HT1 := hide hT1
    have HV := hide hv
    have HI2 := hide hi2
    rw [hw1, hv] at hlk
    have HW1 := hide hw1
    clear hI hI1 hl hv hT1 hb hw1 hno h1 h2 h3 h4 h5 hmu hn hi hil hi2
    rw [HV.out]
    go_enter Tryd.func66, Tryd.ntmps66
    go_wp2_with fail
    go_quiet (fail)
    rw [← HW1.out]
    have hT2 := HT1.out.drewN nq
    have hI2 := HI1.out.quiet ((Touch.refl _ _).drewN nq)
    have HT2 := hide hT2
    have HI3 := hide hI2
    clear hT2 hI2 hlk
    go_wp2_with fail
    go_ret
    exact ⟨[], i, rfl, by rw [List.append_nil, ← HV.out]; exact HI2.out, by simp, by rw [List.append_nil]; exact HI3.out, HT2.out.up _⟩

end Go.Proofs.YtcmjohaohdgnjaaDoor
