/- (*walk.Walk).from, told to the body of a range over a function. Conditions: the machine is Good, its rests are what a dictionary's are. -/
import Derived.Test.YtnakpadjlamdeaaDoorUndA
import Derived.RangeFuncNested
import Derived.RangeFuncBound
import Derived.RangeFuncCalls
import Derived.RangeFuncLeaves
import Derived.Shelf.Abstract
import Derived.Shelf.RegionOpen
import Derived.OwnWalkIn
import Derived.TacticsInMore
import Derived.LoopNIn
import Derived.LoopIn
namespace Go.Proofs.YtnakpadjlamdeaaDoor
open Go.RowKit Go.Shelf

attribute [local go_sem] Oper.semAt_some

def pEnc (x : PRow) : Array Value := #[.agg #[.string x.word, .int .i64 x.weight]]
/-- A loop's body, as it is told words. -/
def YieldsJ (lp B0 : Nat) (J Jx : List PRow → World → Prop) (N : Nat) : Prop := ∀ pre x W1, J pre W1 → pre.length < N → YieldAt Fence.wide 0 Tryd.prog lp (pEnc x) W1 fun e W' => (e = .returned (.bool true) ∧ J (pre ++ [x]) W' ∧ KpT B0 W1 W') ∨ (e = .returned (.bool false) ∧ Jx (pre ++ [x]) W')
theorem round_wide {P : Program} {l : Nat} {f : FuncId} {tmps : Array Value} {assign body : Code} {w : World} {R : Ending → World → Prop} {n : Nat} (m : Nat) (h : RoundIn Fence.wide n P l f tmps assign body w R) : RoundIn Fence.wide m P l f tmps assign body w R := ⟨h.1, fun c cs _ => h.2 c cs (room_wide _)⟩
def FromI (w0 : World) (b n : Nat) (k : KnP) (lp B0 : Nat) (J Jx : List PRow → World → Prop) (N : Nat) (f : Nat) : Prop :=
  ∀ (w : World) (s : Nat) (R : Rs) (head : ByteArray) (l : List Nat) (u : Int) (pre : List PRow), s < n → k.rests[s]? = some R → depR R < f → head.toList = l.flatMap writeU → l.length + depR R ≤ 24 → KpT B0 w0 w → J pre w → pre.length + R.length ≤ N → 0 ≤ u → (∀ r ∈ R, u + r.2 ≤ 2097152) →
    Calls Tryd.prog 47 #[.pointer (some ⟨b, 0, none⟩), .int .i64 s, .string head, .int .i64 u, .func (.yield lp) #[] #[]] w fun e w' => (e = .returned (.bool true) ∧ J (pre ++ wordsOf l u R) w' ∧ KpT B0 w0 w') ∨ (e = .returned (.bool false) ∧ ∃ q, q <+: wordsOf l u R ∧ Jx (pre ++ q) w')

set_option maxRecDepth 100000 in
set_option maxHeartbeats 8000000 in
theorem fromI_step (w0 : World) (hL : Lst w0) (b : Nat) (base : Int) (A : Option Addr) (n c : Nat) (Z : List SV) (wA : Option Addr) (wc : Nat) (W : List Int) (hM : WkM w0 b base A n c Z wA wc W) (k : KnP) (hk : Good k) (hh : ∀ X ∈ k.rests, Her X) (hZ : Z.map SV.p = k.states) (lp B0 : Nat) (hB0 : 0 < B0) (J Jx : List PRow → World → Prop) (N : Nat)
    (hJ : ∀ pre W W', J pre W → Touch (fun _ => False) W W' → J pre W') (hJx : ∀ pre W W', Jx pre W → Touch (fun _ => False) W W' → Jx pre W') (hY : YieldsJ lp B0 J Jx N) (f : Nat) (ih : FromI w0 b n k lp B0 J Jx N f) : FromI w0 b n k lp B0 J Jx N (f + 1) := by
  intro w s R head l u pre hs hR hd hhead hlen hKw hJw hN hu0 hub
  have hMw := hM.kp hKw
  obtain ⟨x0, x1, x2⟩ := hMw.blk.facts
  have y1 : (0 : Int) ≤ (s : Int) := by omega
  have y2 : (s : Int) < (n : Int) := by omega
  obtain ⟨g, o, hA, hgl, d0, d1, d2⟩ := state_at hMw.sts.rd.rd hMw.sts.len s hs
  subst hA
  have hzm := getD_mem Z svZero s (by rw [hMw.sts.len]; exact hs)
  have hzo := hM.sts.el _ hzm
  have hzk : k.states[s]? = some (Z.getD s svZero).p := by
    rw [← hZ, List.getElem?_map, getD_get? (d := svZero) (by rw [hMw.sts.len]; exact hs)]
    rfl
  have hc := hk.corr s R _ hR hzk
  have hher := hh R (List.mem_of_getElem? hR)
  have hsl : k.states.length = n := by rw [← hZ, List.length_map]; exact hM.sts.len
  obtain ⟨⟨fin, out, zA, zn, zc, arcs⟩, hz⟩ : ∃ z, Z.getD s svZero = z := ⟨_, rfl⟩
  rw [hz] at d0 d1 d2 hzo hzk hc
  simp only [SV.p] at d0 d1 d2 hzk hc
  have hzq : zn ≤ 2097152 := by
    have h1 := form_few (form_corr hc hher)
    have h2 := hzo.len
    simp only at h1 h2
    omega
  have hznI : (zn : Int) ≤ 2097152 := by omega
  have HHER := hide hher
  have HC := hide hc
  have HZO := hide hzo
  have HUB := hide hub
  have HL := hide hL
  have HIH := hide ih
  have HHD := hide hhead
  have HLEN := hide hlen
  have HD := hide hd
  have HN := hide hsl
  have HNN := hide hN
  have HY := hide hY
  have HJ := hide hJ
  have HJX := hide hJx
  obtain ⟨wD, hwD⟩ : ∃ x, x = w.alloc (.cells #[.bool fin, .int .i64 out, .slice zA zn zc] 44) := ⟨_, rfl⟩
  obtain ⟨D, hDD⟩ : ∃ D, D = w.heap.size := ⟨_, rfl⟩
  have hTD : Touch (fun _ => False) w wD := by rw [hwD]; exact (Touch.refl _ _).alloc _
  have hbD : Blk wD D 44 #[.bool fin, .int .i64 out, .slice zA zn zc] := by rw [hwD, hDD]; exact Blk.new _ _ _
  have HKD := hide (hKw.trans (KpT.of hTD))
  have HJD := hide (hJ _ _ _ hJw hTD)
  have HWD := hide hwD
  have HDD := hide hDD
  have HBD := hide hbD
  have hpz := preW_zero l u R
  rw [← hc.fin, ← hc.out] at hpz
  simp only at hpz
  have hhm := mk_of_list hhead
  obtain ⟨s0, s1, s2⟩ := hbD.facts
  clear hM hMw hzm hzo hzk hz hher hzq hub ih hhead hlen hd hsl hwD hDD hTD hbD hL hZ hKw hJw hY hN hJ hJx
  cases fin with
  | true =>
    have hrm : ([], out) ∈ R := by
      obtain ⟨m, hm⟩ := finR_iff.1 (show finR R = true from hc.fin.symm)
      have := outR_mem hc.sort hm
      rw [← hc.out] at this
      simp only at this
      rw [this]
      exact hm
    have hb1 := HUB.out _ hrm
    have hb2 := (HHER.out.wt _ hrm).1
    simp only at hb1 hb2
    have z1 : IntKind.i64.wrap (u + out) = u + out := IntWalk.i64_in _ (by omega)
    rw [if_pos rfl, ← hhm] at hpz
    obtain ⟨fn, tmps, assign, body, hy, hRR⟩ := HY.out pre ⟨head, u + out⟩ wD HJD.out (by have h1 := HNN.out; have h2 : 0 < R.length := List.length_pos_iff.2 hc.ne; omega)
    simp only [pEnc] at hy
    have HPZ := hide hpz
    have HRR := hide (round_wide 8 hRR)
    clear hc hrm hb1 hb2 hpz hhm hRR
    rw [HWD.out] at hy
    refine (callsIn_wide (n := 9)).1 ?_
    refine callsIn_of_wp Tryd.func47 rfl trivial ?_ rfl
    simp only [Tryd.ntmps47, List.size_toArray, List.length_cons, List.length_nil, Nat.reduceAdd, Nat.reduceSub, Array.replicate_succ, Array.replicate_zero, List.push_toArray, List.append_toArray, List.nil_append, List.cons_append]
    gi_wp2
    rw [← HWD.out]
    refine HRR.out.mono ?_
    rintro e wS (⟨rfl, hJ1, hk1⟩ | ⟨rfl, hx1⟩)
    · have hbS := HBD.out.kp hk1 (by decide) (by decide)
      rw [HDD.out] at hbS
      clear s0 s1 s2
      obtain ⟨s0, s1, s2⟩ := hbS.facts
      have HJ0 : Hid (J (pre ++ preW l u R 0) wS) := hide (by rw [HPZ.out]; exact hJ1)
      have HK0 := hide (HKD.out.trans hk1)
      clear hJ1 hk1 hbS HRR hy
      gi_wp2
      gi_loopw [39] (fun jv wr => ∃ (j : Nat), jv = .int .i64 j ∧ j ≤ zn ∧ Hid (J (pre ++ preW l u R j) wr) ∧ Hid (KpT B0 w0 wr)) (fun jv _ => zn - (intOf jv).toNat)
      case atStart => exact ⟨0, rfl, by omega, HJ0, HK0⟩
      case round =>
        clear HJ0 HK0 s0 s1 s2 x0 x1 x2 d0 d1 d2
        obtain ⟨j, rfl, hjz, HJj, HKj⟩ := hrel
        by_cases hjz2 : j < zn
        · have j1 : (j : Int) < (zn : Int) := by omega
          have j2 : (0 : Int) ≤ (j : Int) := by omega
          have j3 : IntKind.i64.wrap ((j : Int) + 1) = (j : Int) + 1 := IntWalk.i64_in _ (by omega)
          obtain ⟨ag, ao, hA2, _, e0, e1, e2⟩ := arc_at (HZO.out.rd.kp HKj.out (by decide) (by decide)).rd HZO.out.len j hjz2
          subst hA2
          have ham := getD_mem arcs (0, 0, 0) j (by rw [HZO.out.len]; exact hjz2)
          have harc := HC.out.arc _ ham
          have hawt := arc_wt HC.out HHER.out ham
          have hlab : (firstsR R)[j]? = some (arcs.getD j (0, 0, 0)).1 := by
            rw [← HC.out.labels, List.getElem?_map, getD_get? (d := (0, 0, 0)) (by rw [HZO.out.len]; exact hjz2)]
            rfl
          obtain ⟨⟨la, ua, tt⟩, hz⟩ : ∃ z, arcs.getD j (0, 0, 0) = z := ⟨_, rfl⟩
          rw [hz] at e0 e1 e2 harc hawt hlab
          simp only at e0 e1 e2 harc hawt hlab
          obtain ⟨q1, q2, q3⟩ := harc
          obtain ⟨w1, w2, w3⟩ := hawt
          obtain ⟨r0, hr0⟩ := List.exists_mem_of_ne_nil _ w3
          have hr1 := mem_under.1 (show (r0.1, r0.2) ∈ underR R la from hr0)
          have hsc : scal la = true := (HHER.out.run _ hr1 la (List.mem_cons_self)).1
          have hdu := depR_under w3
          have hpn := preW_succ l u R j la hlab
          have hpf := preW_prefix HC.out.sort l u (j + 1)
          rw [← q1] at hpn
          have hb3 := HUB.out _ hr1
          have hb4 := leastR_le hr0
          rw [← q1] at hb4
          simp only at hb3
          have z2 : IntKind.i64.wrap (u + ua) = u + ua := IntWalk.i64_in _ (by omega)
          obtain ⟨more, hmore2⟩ : ∃ m : ByteArray, m = ⟨([la].flatMap writeU).toArray⟩ := ⟨_, rfl⟩
          have hml : more.toList = [la].flatMap writeU := by rw [hmore2, toList_mk]
          have hsz1 : head.size ≤ 96 := by
            have h1 := flat_size l
            have h2 := HLEN.out
            rw [size_list, HHD.out]
            omega
          have hsz2 : more.size ≤ 4 := by
            have h1 := flat_size [la]
            rw [size_list, hml]
            simpa using h1
          have hadd : ∀ wx, (Op.stringOp .add head more).run Tryd.prog wx = .ok (.string (head ++ more)) wx := fun wx => run_string_add_sum (P := Tryd.prog) wx head more (by omega)
          have hhd2 : (head ++ more).toList = (l ++ [la]).flatMap writeU := by rw [bytes_app, HHD.out, hml, List.flatMap_append]
          obtain ⟨wo, hwo⟩ : ∃ y, y = wr := ⟨_, rfl⟩
          subst hwo
          obtain ⟨wF, hwF⟩ : ∃ x, x = (wo.alloc (.cells #[.int .i32 la, .int .i64 ua, .int .i64 tt] 60)).alloc (.cells #[.int .i32 la] 21) := ⟨_, rfl⟩
          obtain ⟨E, hE⟩ : ∃ E, E = wo.heap.size := ⟨_, rfl⟩
          have hTF : Touch (fun _ => False) wo wF := by rw [hwF]; exact ((Touch.refl _ _).alloc _).alloc _
          have hbE : Blk wF E 60 #[.int .i32 la, .int .i64 ua, .int .i64 tt] := by rw [hwF, hE]; exact (Blk.new _ _ _).alloc _
          have hrdF : Reads wF 1 (some ⟨wo.heap.size + 1, 0, none⟩) 1 ([la].map runeV) := by
            rw [hwF]
            have h := Reads.new (size := 1) (wo.alloc (.cells #[.int .i32 la, .int .i64 ua, .int .i64 tt] 60)) 21 [.int .i32 la] 1 rfl
            simpa [runeV] using h
          have hKF := HKj.out.trans (KpT.of hTF)
          have htx := text_any wF (Lst.kp HL.out hKF hB0) (some ⟨wo.heap.size + 1, 0, none⟩) 1 1 [la] hrdF rfl (by omega) (by intro r hr; rw [List.mem_singleton] at hr; rw [hr]; exact hsc)
          rw [← hmore2] at htx
          have hdl := depR_level (underR R la)
          have hlnn : (pre ++ preW l u R j).length + (levelR (underR R la)).length ≤ N := by
            have h1 := hpf.length_le
            rw [hpn, List.length_append, wordsOf_len, wordsOf_len] at h1
            have h2 := HNN.out
            rw [List.length_append]
            omega
          have hrec : ∀ w7, Touch (fun _ => False) wF w7 → Calls Tryd.prog 47 _ w7 _ := fun w7 T7 => HIH.out w7 tt (levelR (underR R la)) (head ++ more) (l ++ [la]) (u + ua) (pre ++ preW l u R j) (by have := (List.getElem?_eq_some_iff.1 q3).1; rw [hk.len, HN.out] at this; exact this) q3 (by have := HD.out; omega) hhd2 (by have := HLEN.out; rw [List.length_append, List.length_singleton]; omega) (hKF.trans (KpT.of T7)) (HJ.out _ _ _ HJj.out (hTF.then T7)) hlnn (by omega) (by
            intro r hr
            have h1 := mem_level.1 (show (r.1, r.2) ∈ levelR (underR R la) from hr)
            have h2 := HUB.out _ (mem_under.1 h1)
            simp only at h2
            rw [q1]
            omega)
          have HWF := hide hwF
          have HEE := hide hE
          have HBE := hide hbE
          have HTX := hide (callsIn_wide (n := 8).2 htx)
          have HREC := hide hrec
          have HPN := hide hpn
          have HPF := hide hpf
          clear ham hz q1 q2 q3 w1 w2 w3 hr0 hr1 hsc hdu hpn hpf hb3 hb4 hlab hmore2 hml hsz1 hsz2 hhd2 hwF hE hTF hbE hrdF htx hdl hrec hKF hlnn
          gi_wp2
          rw [← HWF.out]
          refine ⟨trivial, HTX.out.mono ?_⟩
          rintro e w7 ⟨rfl, T7⟩
          have hb7 := HBE.out.touch T7 (fun f => f)
          rw [HEE.out] at hb7
          obtain ⟨t0, t1, t2⟩ := hb7.facts
          have HR7 := hide (callsIn_wide (n := 8).2 (HREC.out w7 T7))
          clear T7 hb7 HTX HREC
          gi_wp2
          refine ⟨trivial, HR7.out.mono ?_⟩
          rintro e w8 (⟨rfl, hJ8, hK8⟩ | ⟨rfl, q, hq, hX8⟩)
          · have HJ8 := hide hJ8
            have HK8 := hide hK8
            clear hJ8 hK8 HR7
            gi_wp2
            go_roundw
            case rel => exact ⟨j + 1, by simp, by omega, hide (by rw [HPN.out, ← List.append_assoc]; exact HJ8.out), HK8⟩
            case measure => simp only [intOf]; omega
          · have hq2 : preW l u R j ++ q <+: wordsOf l u R := by
              refine List.IsPrefix.trans ?_ HPF.out
              rw [HPN.out]
              exact (List.prefix_append_right_inj _).2 hq
            have HQ2 := hide hq2
            have HX8 := hide hX8
            clear hq hq2 hX8 HR7
            gi_wp2
            go_ret
            exact .inr ⟨rfl, _, HQ2.out, by rw [← List.append_assoc]; exact HX8.out⟩
        · have hje : j = zn := by omega
          have j4 : ¬ (j : Int) < (zn : Int) := by omega
          have hall := preW_all HC.out.sort l u j (by rw [← HC.out.labels, List.length_map]; have := HZO.out.len; simp only at this ⊢; omega)
          have HALL := hide hall
          clear hje hall
          gi_wp2
          go_ret
          exact .inl ⟨rfl, by rw [← HALL.out]; exact HJj.out, HKj.out⟩
    · have HX := hide hx1
      have hpf := preW_prefix HC.out.sort l u 0
      rw [HPZ.out] at hpf
      have HPF := hide hpf
      clear hx1 hpf hy HRR
      gi_wp2
      go_ret
      exact .inr ⟨rfl, _, HPF.out, HX.out⟩
  | false =>
    rw [if_neg (by decide)] at hpz
    have HJ0 : Hid (J (pre ++ preW l u R 0) wD) := hide (by rw [hpz, List.append_nil]; exact HJD.out)
    have HK0 := HKD
    clear hc hpz hhm
    refine (callsIn_wide (n := 9)).1 ?_
    refine callsIn_of_wp Tryd.func47 rfl trivial ?_ rfl
    simp only [Tryd.ntmps47, List.size_toArray, List.length_cons, List.length_nil, Nat.reduceAdd, Nat.reduceSub, Array.replicate_succ, Array.replicate_zero, List.push_toArray, List.append_toArray, List.nil_append, List.cons_append]
    gi_wp2
    refine ⟨fun _ h => (by cases h), ?_⟩
    rename_i Q3 K2 a2 K1 a1 K0 a0 xx hhh ww heqq
    clear heqq xx hhh ww
    refine a0 _ _ ?_
    clear a0 K0
    gi_wp2
    rw [← HWD.out]
    gi_loopw [39] (fun jv wr => ∃ (j : Nat), jv = .int .i64 j ∧ j ≤ zn ∧ Hid (J (pre ++ preW l u R j) wr) ∧ Hid (KpT B0 w0 wr)) (fun jv _ => zn - (intOf jv).toNat)
    case atStart => exact ⟨0, rfl, by omega, HJ0, HK0⟩
    case round =>
      clear HJ0 HK0 s0 s1 s2 x0 x1 x2 d0 d1 d2
      obtain ⟨j, rfl, hjz, HJj, HKj⟩ := hrel
      by_cases hjz2 : j < zn
      · have j1 : (j : Int) < (zn : Int) := by omega
        have j2 : (0 : Int) ≤ (j : Int) := by omega
        have j3 : IntKind.i64.wrap ((j : Int) + 1) = (j : Int) + 1 := IntWalk.i64_in _ (by omega)
        obtain ⟨ag, ao, hA2, _, e0, e1, e2⟩ := arc_at (HZO.out.rd.kp HKj.out (by decide) (by decide)).rd HZO.out.len j hjz2
        subst hA2
        have ham := getD_mem arcs (0, 0, 0) j (by rw [HZO.out.len]; exact hjz2)
        have harc := HC.out.arc _ ham
        have hawt := arc_wt HC.out HHER.out ham
        have hlab : (firstsR R)[j]? = some (arcs.getD j (0, 0, 0)).1 := by
          rw [← HC.out.labels, List.getElem?_map, getD_get? (d := (0, 0, 0)) (by rw [HZO.out.len]; exact hjz2)]
          rfl
        obtain ⟨⟨la, ua, tt⟩, hz⟩ : ∃ z, arcs.getD j (0, 0, 0) = z := ⟨_, rfl⟩
        rw [hz] at e0 e1 e2 harc hawt hlab
        simp only at e0 e1 e2 harc hawt hlab
        obtain ⟨q1, q2, q3⟩ := harc
        obtain ⟨w1, w2, w3⟩ := hawt
        obtain ⟨r0, hr0⟩ := List.exists_mem_of_ne_nil _ w3
        have hr1 := mem_under.1 (show (r0.1, r0.2) ∈ underR R la from hr0)
        have hsc : scal la = true := (HHER.out.run _ hr1 la (List.mem_cons_self)).1
        have hdu := depR_under w3
        have hpn := preW_succ l u R j la hlab
        have hpf := preW_prefix HC.out.sort l u (j + 1)
        rw [← q1] at hpn
        have hb3 := HUB.out _ hr1
        have hb4 := leastR_le hr0
        rw [← q1] at hb4
        simp only at hb3
        have z2 : IntKind.i64.wrap (u + ua) = u + ua := IntWalk.i64_in _ (by omega)
        obtain ⟨more, hmore2⟩ : ∃ m : ByteArray, m = ⟨([la].flatMap writeU).toArray⟩ := ⟨_, rfl⟩
        have hml : more.toList = [la].flatMap writeU := by rw [hmore2, toList_mk]
        have hsz1 : head.size ≤ 96 := by
          have h1 := flat_size l
          have h2 := HLEN.out
          rw [size_list, HHD.out]
          omega
        have hsz2 : more.size ≤ 4 := by
          have h1 := flat_size [la]
          rw [size_list, hml]
          simpa using h1
        have hadd : ∀ wx, (Op.stringOp .add head more).run Tryd.prog wx = .ok (.string (head ++ more)) wx := fun wx => run_string_add_sum (P := Tryd.prog) wx head more (by omega)
        have hhd2 : (head ++ more).toList = (l ++ [la]).flatMap writeU := by rw [bytes_app, HHD.out, hml, List.flatMap_append]
        obtain ⟨wo, hwo⟩ : ∃ y, y = wr := ⟨_, rfl⟩
        subst hwo
        obtain ⟨wF, hwF⟩ : ∃ x, x = (wo.alloc (.cells #[.int .i32 la, .int .i64 ua, .int .i64 tt] 60)).alloc (.cells #[.int .i32 la] 21) := ⟨_, rfl⟩
        obtain ⟨E, hE⟩ : ∃ E, E = wo.heap.size := ⟨_, rfl⟩
        have hTF : Touch (fun _ => False) wo wF := by rw [hwF]; exact ((Touch.refl _ _).alloc _).alloc _
        have hbE : Blk wF E 60 #[.int .i32 la, .int .i64 ua, .int .i64 tt] := by rw [hwF, hE]; exact (Blk.new _ _ _).alloc _
        have hrdF : Reads wF 1 (some ⟨wo.heap.size + 1, 0, none⟩) 1 ([la].map runeV) := by
          rw [hwF]
          have h := Reads.new (size := 1) (wo.alloc (.cells #[.int .i32 la, .int .i64 ua, .int .i64 tt] 60)) 21 [.int .i32 la] 1 rfl
          simpa [runeV] using h
        have hKF := HKj.out.trans (KpT.of hTF)
        have htx := text_any wF (Lst.kp HL.out hKF hB0) (some ⟨wo.heap.size + 1, 0, none⟩) 1 1 [la] hrdF rfl (by omega) (by intro r hr; rw [List.mem_singleton] at hr; rw [hr]; exact hsc)
        rw [← hmore2] at htx
        have hdl := depR_level (underR R la)
        have hlnn : (pre ++ preW l u R j).length + (levelR (underR R la)).length ≤ N := by
          have h1 := hpf.length_le
          rw [hpn, List.length_append, wordsOf_len, wordsOf_len] at h1
          have h2 := HNN.out
          rw [List.length_append]
          omega
        have hrec : ∀ w7, Touch (fun _ => False) wF w7 → Calls Tryd.prog 47 _ w7 _ := fun w7 T7 => HIH.out w7 tt (levelR (underR R la)) (head ++ more) (l ++ [la]) (u + ua) (pre ++ preW l u R j) (by have := (List.getElem?_eq_some_iff.1 q3).1; rw [hk.len, HN.out] at this; exact this) q3 (by have := HD.out; omega) hhd2 (by have := HLEN.out; rw [List.length_append, List.length_singleton]; omega) (hKF.trans (KpT.of T7)) (HJ.out _ _ _ HJj.out (hTF.then T7)) hlnn (by omega) (by
          intro r hr
          have h1 := mem_level.1 (show (r.1, r.2) ∈ levelR (underR R la) from hr)
          have h2 := HUB.out _ (mem_under.1 h1)
          simp only at h2
          rw [q1]
          omega)
        have HWF := hide hwF
        have HEE := hide hE
        have HBE := hide hbE
        have HTX := hide (callsIn_wide (n := 8).2 htx)
        have HREC := hide hrec
        have HPN := hide hpn
        have HPF := hide hpf
        clear ham hz q1 q2 q3 w1 w2 w3 hr0 hr1 hsc hdu hpn hpf hb3 hb4 hlab hmore2 hml hsz1 hsz2 hhd2 hwF hE hTF hbE hrdF htx hdl hrec hKF hlnn
        gi_wp2
        rw [← HWF.out]
        refine ⟨trivial, HTX.out.mono ?_⟩
        rintro e w7 ⟨rfl, T7⟩
        have hb7 := HBE.out.touch T7 (fun f => f)
        rw [HEE.out] at hb7
        obtain ⟨t0, t1, t2⟩ := hb7.facts
        have HR7 := hide (callsIn_wide (n := 8).2 (HREC.out w7 T7))
        clear T7 hb7 HTX HREC
        gi_wp2
        refine ⟨trivial, HR7.out.mono ?_⟩
        rintro e w8 (⟨rfl, hJ8, hK8⟩ | ⟨rfl, q, hq, hX8⟩)
        · have HJ8 := hide hJ8
          have HK8 := hide hK8
          clear hJ8 hK8 HR7
          gi_wp2
          go_roundw
          case rel => exact ⟨j + 1, by simp, by omega, hide (by rw [HPN.out, ← List.append_assoc]; exact HJ8.out), HK8⟩
          case measure => simp only [intOf]; omega
        · have hq2 : preW l u R j ++ q <+: wordsOf l u R := by
            refine List.IsPrefix.trans ?_ HPF.out
            rw [HPN.out]
            exact (List.prefix_append_right_inj _).2 hq
          have HQ2 := hide hq2
          have HX8 := hide hX8
          clear hq hq2 hX8 HR7
          gi_wp2
          go_ret
          exact .inr ⟨rfl, _, HQ2.out, by rw [← List.append_assoc]; exact HX8.out⟩
      · have hje : j = zn := by omega
        have j4 : ¬ (j : Int) < (zn : Int) := by omega
        have hall := preW_all HC.out.sort l u j (by rw [← HC.out.labels, List.length_map]; have := HZO.out.len; simp only at this ⊢; omega)
        have HALL := hide hall
        clear hje hall
        gi_wp2
        go_ret
        exact .inl ⟨rfl, by rw [← HALL.out]; exact HJj.out, HKj.out⟩


