/- What an iterator over a walk tells: told's collector, (*walk.Walk).from. Conditions: the machine is Good, its rests are what a dictionary's are. -/
import Derived.Test.YtnakpadjlamdeaaDoorAllP
import Derived.Laws.EntriesVeiled
import Derived.Laws.Concat
namespace Go.Proofs.YtnakpadjlamdeaaDoor
open Go.RowKit

/-- told's list and its number, in memory of their own. -/
structure Col (w0 w : World) (lb mb : Nat) (A : Option Addr) (c : Nat) (T : List PRow) (mo : Nat) : Prop where
  l : Blk w lb 22 #[.slice A T.length c]
  own : w.ownsRow 0 32 2 (.slice A T.length c) T.length (pCells T)
  young : ∀ g, (Value.slice A T.length c).ownBlock = some g → w0.heap.size ≤ g
  lb0 : w0.heap.size ≤ lb
  m : Blk w mb 3 #[.int .i64 mo]
  touch : Touch (fun _ => False) w0 w
theorem Col.quiet {w0 w w' : World} {lb mb : Nat} {A : Option Addr} {c : Nat} {T : List PRow} {mo : Nat} (h : Col w0 w lb mb A c T mo) (t : Touch (fun _ => False) w w') : Col w0 w' lb mb A c T mo :=
  ⟨h.l.touch t (fun f => f), own_touch h.own t (fun _ _ f => f), h.young, h.lb0, h.m.touch t (fun f => f), h.touch.then t⟩

set_option maxRecDepth 100000 in
set_option maxHeartbeats 4000000 in
theorem yield_any (w0 w : World) (lb mb : Nat) (A : Option Addr) (c : Nat) (T : List PRow) (mo : Nat) (h : Col w0 w lb mb A c T mo) (hT : T.length ≤ 5000) (p : PRow) :
    Calls Tryd.prog 45 #[.agg #[.string p.word, .int .i64 p.weight], .pointer (some ⟨lb, 0, none⟩), .pointer (some ⟨mb, 0, none⟩)] w fun e w' => ∃ A' c', e = .returned (.bool (decide (T.length + 1 < mo))) ∧ Col w0 w' lb mb A' c' (T ++ [p]) mo ∧ Touch (fun g => g = lb ∨ (Value.slice A T.length c).ownBlock = some g) w w' := by
  obtain ⟨i1, hi1, hy0, hy1, hy2⟩ := info_parts infoPair
  obtain ⟨pw, pn⟩ := p
  obtain ⟨x0, x1, x2⟩ := h.l.facts
  obtain ⟨m0, m1, m2⟩ := h.m.facts
  have hTI : (T.length : Int) ≤ 5000 := by omega
  have HC := hide h
  obtain ⟨q, hq⟩ : ∃ q, T.length = q := ⟨_, rfl⟩
  have HQ := hide hq
  rw [hq] at x0 hTI ⊢
  simp only
  obtain ⟨wa, hwa⟩ : ∃ x, x = (w.alloc (.cells #[.string pw, .int .i64 pn] 32)).alloc (.cells #[.string pw, .int .i64 pn] 32) := ⟨_, rfl⟩
  have hTa : Touch (fun _ => False) w wa := by rw [hwa]; exact ((Touch.refl _ _).alloc _).alloc _
  have hca := h.quiet hTa
  have hown := hca.own
  rw [hq] at hown
  have hrd : Reads wa 2 (some ⟨w.heap.size + 1, 0, none⟩) 1 [.string pw, .int .i64 pn] := by
    rw [hwa]
    have h := Reads.new (size := 2) (w.alloc (.cells #[.string pw, .int .i64 pn] 32)) 32 [.string pw, .int .i64 pn] 1 rfl
    simpa using h
  have hone : ∀ u ∈ [Value.string pw, .int .i64 pn], u.oneCell' = true := by
    intro u hu
    simp only [List.mem_cons, List.not_mem_nil, or_false] at hu
    rcases hu with rfl | rfl <;> rfl
  have hbb1 : q + 1 ≤ maxLen := by unfold maxLen; omega
  have hbb2 : (q + 1) * 24 ≤ 140737488355328 := by omega
  have HWA := hide hwa
  have HCA := hide hca
  have HOW := hide hown
  have HRD := hide hrd
  have HONE := hide hone
  have HBB := hide (And.intro hbb1 hbb2)
  have hlv : some lb ≠ (Value.slice A q c).ownBlock := fun e => (own_ty hown e.symm).ne (blk_ty hca.l) (by decide) rfl
  have hmv : some mb ≠ (Value.slice A q c).ownBlock := fun e => (own_ty hown e.symm).ne (blk_ty hca.m) (by decide) rfl
  have hml : ¬ mb = lb := hca.m.ne_ hca.l (by decide)
  have HLV := hide hlv
  have HMV := hide hmv
  have HML := hide hml
  have HTA := hide hTa
  clear h hq hwa hTa hca hown hrd hone hbb1 hbb2 hT hlv hmv hml
  go_enter Tryd.func45, Tryd.ntmps45
  go_wp2_with (at_builtin; rw [← HWA.out]; refine wpList_app _ rfl (.tmp 5) (.tmp 7) 22 rfl 32 i1 _ 2 24 Tryd.underlying22 hi1 hy0 hy1 hy2 rfl (by decide) (.slice A q c) q _ rfl HOW.out (some ⟨w.heap.size + 1, 0, none⟩) 1 1 [.string pw, .int .i64 pn] rfl HRD.out (fun h => by cases h) HONE.out HBB.out.1 HBB.out.2 ?_; intro v1 w10 O10 G10 F10 _; obtain ⟨A2, c2, hv, _, _⟩ := own_len O10; subst hv; have hbl := HCA.out.l.grown G10 HLV.out; have hbm := HCA.out.m.grown G10 HMV.out; clear x0 x1 x2 m0 m1 m2; obtain ⟨x0, x1, x2⟩ := hbl.facts; obtain ⟨m0, m1, m2⟩ := hbm.facts; have HO10 := hide O10; have HG := hide G10; have HF := hide F10; have HBL := hide hbl; have HBM := hide hbm; have HML2 : ¬ lb = mb := fun e => HML.out e.symm; clear O10 G10 F10 hbl hbm)
  go_ret
  have hpc : pCells (T ++ [(⟨pw, pn⟩ : PRow)]) = pCells T ++ [.string pw, .int .i64 pn] := by simp [pCells, PRow.cells]
  have hl1 : (T ++ [(⟨pw, pn⟩ : PRow)]).length = q + 1 := by rw [List.length_append, HQ.out]; rfl
  have hTg : Touch (fun g => g = lb ∨ (Value.slice A q c).ownBlock = some g) wa (w10.setCell ⟨lb, 0, none⟩ (.slice A2 (q + 1) c2)) := (((Touch.refl _ _).grown HG.out (fun k hk _ => .inr hk))).setCell (p := ⟨lb, 0, none⟩) (fun _ => .inl rfl) _
  refine ⟨A2, c2, ?_, ⟨?_, ?_, ?_, HCA.out.lb0, HBM.out.far HML.out _, ?_⟩, (HTA.out.up _).then hTg⟩
  · simp
    omega
  · rw [hl1]
    have := HBL.out.set_ 0 (.slice A2 (q + 1) c2)
    simpa using this
  · rw [hl1, hpc]
    exact own_setCell_far HO10.out (fun e => (own_ty HO10.out e).ne (blk_ty HBL.out) (by decide) rfl) _
  · rw [hl1]
    intro g hg
    rcases HF.out with e | ⟨g2, e, hle⟩
    · rw [e] at hg
      have h1 := HCA.out.young g
      rw [HQ.out] at h1
      exact h1 hg
    · rw [e] at hg
      injection hg with hg
      have := HCA.out.touch.size
      omega
  · refine HCA.out.touch.trans hTg fun g hg e => ?_
    rcases e with e | e
    · have := HCA.out.lb0; omega
    · have h1 := HCA.out.young g
      rw [HQ.out] at h1
      have := h1 e
      omega

theorem bytes_app (a b : ByteArray) : (a ++ b).toList = a.toList ++ b.toList := by
  rw [Go.ByteArray.toList_eq, Go.ByteArray.toList_eq, Go.ByteArray.toList_eq]
  simp
theorem mk_of_list {a : ByteArray} {l : List UInt8} (h : a.toList = l) : a = ⟨l.toArray⟩ := by rw [← h, toArr]
theorem size_list (a : ByteArray) : a.size = a.toList.length := by
  rw [Go.ByteArray.toList_eq, Array.length_toList]
  rfl
/-- What a state's words are told by, behind what was told. -/
def FromC (w0 : World) (b n : Nat) (k : KnP) (lb mb mo : Nat) (f : Nat) : Prop :=
  ∀ (w : World) (s : Nat) (R : Rs) (head : ByteArray) (l : List Nat) (u : Int) (LA : Option Addr) (lc : Nat) (T : List PRow), s < n → k.rests[s]? = some R → depR R < f → head.toList = l.flatMap writeU → l.length + depR R ≤ 24 → Col w0 w lb mb LA lc T mo → T.length < mo → 0 ≤ u → (∀ r ∈ R, u + r.2 ≤ 2097152) →
    Calls Tryd.prog 47 #[.pointer (some ⟨b, 0, none⟩), .int .i64 s, .string head, .int .i64 u, .func (.func 45) #[] #[.pointer (some ⟨lb, 0, none⟩), .pointer (some ⟨mb, 0, none⟩)]] w fun e w' => ∃ LA' lc', e = .returned (.bool (decide (T.length + R.length < mo))) ∧ Col w0 w' lb mb LA' lc' (upW T (wordsOf l u R) mo) mo

set_option maxRecDepth 100000 in
set_option maxHeartbeats 8000000 in
theorem from_step (w0 : World) (hL : Lst w0) (b : Nat) (base : Int) (A : Option Addr) (n c : Nat) (Z : List SV) (wA : Option Addr) (wc : Nat) (W : List Int) (hM : WkM w0 b base A n c Z wA wc W) (_ : n ≤ 1000000) (k : KnP) (hk : Good k) (hh : ∀ X ∈ k.rests, Her X) (hZ : Z.map SV.p = k.states) (lb mb mo : Nat) (hmo : mo ≤ 5000) (f : Nat) (ih : FromC w0 b n k lb mb mo f) : FromC w0 b n k lb mb mo (f + 1) := by
  intro w s R head l u LA lc T hs hR hd hhead hlen hC hT hu0 hub
  have hMw := hM.quiet hC.touch
  obtain ⟨x0, x1, x2⟩ := hMw.blk.facts
  have y1 : (0 : Int) ≤ (s : Int) := by omega
  have y2 : (s : Int) < (n : Int) := by omega
  obtain ⟨g, o, hA, hgl, d0, d1, d2⟩ := state_at hMw.sts.rd.rd hMw.sts.len s hs
  subst hA
  have hzm := getD_mem Z svZero s (by rw [hMw.sts.len]; exact hs)
  have hzo := hM.sts.el _ hzm
  have hzk : k.states[s]? = some (Z.getD s svZero).p := by
    rw [← hZ, List.getElem?_map, getD_get? (d := svZero) (by rw [hMw.sts.len]; exact hs)]
    rfl
  have hc := hk.corr s R _ hR hzk
  have hher := hh R (List.mem_of_getElem? hR)
  have hsl : k.states.length = n := by rw [← hZ, List.length_map]; exact hM.sts.len
  obtain ⟨⟨fin, out, zA, zn, zc, arcs⟩, hz⟩ : ∃ z, Z.getD s svZero = z := ⟨_, rfl⟩
  rw [hz] at d0 d1 d2 hzo hzk hc
  simp only [SV.p] at d0 d1 d2 hzk hc
  have hfw := form_corr hc hher
  have hzq : zn ≤ 2097152 := by
    have h1 := form_few hfw
    have h2 := hzo.len
    simp only at h1 h2
    omega
  have hznI : (zn : Int) ≤ 2097152 := by omega
  have HHER := hide hher
  have HC := hide hc
  have HZO := hide hzo
  have HUB := hide hub
  have HL := hide hL
  have HIH := hide ih
  have HHD := hide hhead
  have HLEN := hide hlen
  have HD := hide hd
  have HN := hide hsl
  have HMO := hide hmo
  have HTL := hide hT
  obtain ⟨wD, hwD⟩ : ∃ x, x = w.alloc (.cells #[.bool fin, .int .i64 out, .slice zA zn zc] 44) := ⟨_, rfl⟩
  obtain ⟨D, hDD⟩ : ∃ D, D = w.heap.size := ⟨_, rfl⟩
  have hTD : Touch (fun _ => False) w wD := by rw [hwD]; exact (Touch.refl _ _).alloc _
  have hbD : Blk wD D 44 #[.bool fin, .int .i64 out, .slice zA zn zc] := by rw [hwD, hDD]; exact Blk.new _ _ _
  have hCD := hC.quiet hTD
  have HWD := hide hwD
  have HDD := hide hDD
  have HBD := hide hbD
  have HCD := hide hCD
  have hpz := preW_zero l u R
  rw [← hc.fin, ← hc.out] at hpz
  simp only at hpz
  have hhm := mk_of_list hhead
  obtain ⟨s0, s1, s2⟩ := hbD.facts
  have hmoI : (mo : Int) ≤ 5000 := by omega
  clear hM hMw hzm hzo hzk hz hher hfw hzq hub ih hhead hlen hd hsl hmo hT hwD hDD hTD hbD hCD hL hC hZ
  cases fin with
  | true =>
    have hrm : ([], out) ∈ R := by
      obtain ⟨m, hm⟩ := finR_iff.1 (show finR R = true from hc.fin.symm)
      have := outR_mem hc.sort hm
      rw [← hc.out] at this
      simp only at this
      rw [this]
      exact hm
    have hb1 := HUB.out _ hrm
    have hb2 := (HHER.out.wt _ hrm).1
    simp only at hb1 hb2
    have z1 : IntKind.i64.wrap (u + out) = u + out := IntWalk.i64_in _ (by omega)
    rw [if_pos rfl, ← hhm] at hpz
    have hyd := yield_any w0 wD lb mb LA lc T mo HCD.out (by have := HTL.out; have := HMO.out; omega) ⟨head, u + out⟩
    have HPZ := hide hpz
    clear hc hrm hb1 hb2 hpz hhm
    by_cases hmore : T.length + 1 < mo
    · have hdm : decide (T.length + 1 < mo) = true := by simpa using hmore
      rw [hdm] at hyd
      have HYD := hide hyd
      have HMORE := hide hmore
      clear hyd hdm hmore
      go_enter Tryd.func47, Tryd.ntmps47
      go_wp2_with fail
      rw [← HWD.out, ← HDD.out]
      refine HYD.out.mono ?_
      rintro e wS ⟨LA1, lc1, rfl, hC1, T1⟩
      have hbS := HBD.out.touch T1 (fun h => by
        rcases h with h | h
        · exact (HBD.out.ne_ HCD.out.l (by decide)) h
        · exact (own_ty HCD.out.own h).ne (blk_ty HBD.out) (by decide) rfl)
      clear s0 s1 s2
      obtain ⟨s0, s1, s2⟩ := hbS.facts
      have hC0 : Col w0 wS lb mb LA1 lc1 (T ++ preW l u R 0) mo := by rw [HPZ.out]; exact hC1
      have hT0 : (T ++ preW l u R 0).length < mo := by rw [HPZ.out, List.length_append]; exact HMORE.out
      have HC0 := hide hC0
      have HT0 := hide hT0
      clear hC1 T1 hbS hC0 hT0 HYD
      go_wp2_with fail
      go_loopw [39] (fun jv wr => ∃ (j : Nat) (LA : Option Addr) (lc : Nat), jv = .int .i64 j ∧ j ≤ zn ∧ Hid (Col w0 wr lb mb LA lc (T ++ preW l u R j) mo) ∧ Hid ((T ++ preW l u R j).length < mo)) (fun jv _ => zn - (intOf jv).toNat)
      case atStart => exact ⟨0, _, _, rfl, by omega, HC0, HT0⟩
      case round =>
        clear HC0 HT0 s0 s1 s2 x0 x1 x2 d0 d1 d2
        obtain ⟨j, LA, lc, rfl, hjz, HCj, HTj⟩ := hrel
        by_cases hjz2 : j < zn
        · have j1 : (j : Int) < (zn : Int) := by omega
          have j2 : (0 : Int) ≤ (j : Int) := by omega
          have j3 : IntKind.i64.wrap ((j : Int) + 1) = (j : Int) + 1 := IntWalk.i64_in _ (by omega)
          obtain ⟨ag, ao, hA2, _, e0, e1, e2⟩ := arc_at (HZO.out.rd.quiet HCj.out.touch).rd HZO.out.len j hjz2
          subst hA2
          have ham := getD_mem arcs (0, 0, 0) j (by rw [HZO.out.len]; exact hjz2)
          have harc := HC.out.arc _ ham
          have hawt := arc_wt HC.out HHER.out ham
          have hlab : (firstsR R)[j]? = some (arcs.getD j (0, 0, 0)).1 := by
            rw [← HC.out.labels, List.getElem?_map, getD_get? (d := (0, 0, 0)) (by rw [HZO.out.len]; exact hjz2)]
            rfl
          obtain ⟨⟨la, ua, tt⟩, hz⟩ : ∃ z, arcs.getD j (0, 0, 0) = z := ⟨_, rfl⟩
          rw [hz] at e0 e1 e2 harc hawt hlab
          simp only at e0 e1 e2 harc hawt hlab
          obtain ⟨q1, q2, q3⟩ := harc
          obtain ⟨w1, w2, w3⟩ := hawt
          obtain ⟨r0, hr0⟩ := List.exists_mem_of_ne_nil _ w3
          have hr1 := mem_under.1 (show (r0.1, r0.2) ∈ underR R la from hr0)
          have hsc : scal la = true := (HHER.out.run _ hr1 la (List.mem_cons_self)).1
          have hdu := depR_under w3
          have hpn := preW_succ l u R j la hlab
          have hpf := preW_prefix HC.out.sort l u (j + 1)
          rw [← q1] at hpn
          have hb3 := HUB.out _ hr1
          have hb4 := leastR_le hr0
          rw [← q1] at hb4
          simp only at hb3
          have z2 : IntKind.i64.wrap (u + ua) = u + ua := IntWalk.i64_in _ (by omega)
          obtain ⟨more, hmore2⟩ : ∃ m : ByteArray, m = ⟨([la].flatMap writeU).toArray⟩ := ⟨_, rfl⟩
          have hml : more.toList = [la].flatMap writeU := by rw [hmore2, toList_mk]
          have hsz1 : head.size ≤ 96 := by
            have h1 := flat_size l
            have h2 := HLEN.out
            rw [size_list, HHD.out]
            omega
          have hsz2 : more.size ≤ 4 := by
            have h1 := flat_size [la]
            rw [size_list, hml]
            simpa using h1
          have hadd : ∀ wx, (Op.stringOp .add head more).run Tryd.prog wx = .ok (.string (head ++ more)) wx := fun wx => run_string_add_sum (P := Tryd.prog) wx head more (by omega)
          have hhd2 : (head ++ more).toList = (l ++ [la]).flatMap writeU := by rw [bytes_app, HHD.out, hml, List.flatMap_append]
          obtain ⟨wo, hwo⟩ : ∃ y, y = wr := ⟨_, rfl⟩
          subst hwo
          obtain ⟨wF, hwF⟩ : ∃ x, x = (wo.alloc (.cells #[.int .i32 la, .int .i64 ua, .int .i64 tt] 60)).alloc (.cells #[.int .i32 la] 21) := ⟨_, rfl⟩
          obtain ⟨E, hE⟩ : ∃ E, E = wo.heap.size := ⟨_, rfl⟩
          have hTF : Touch (fun _ => False) wo wF := by rw [hwF]; exact ((Touch.refl _ _).alloc _).alloc _
          have hbE : Blk wF E 60 #[.int .i32 la, .int .i64 ua, .int .i64 tt] := by rw [hwF, hE]; exact (Blk.new _ _ _).alloc _
          have hrdF : Reads wF 1 (some ⟨wo.heap.size + 1, 0, none⟩) 1 ([la].map runeV) := by
            rw [hwF]
            have h := Reads.new (size := 1) (wo.alloc (.cells #[.int .i32 la, .int .i64 ua, .int .i64 tt] 60)) 21 [.int .i32 la] 1 rfl
            simpa [runeV] using h
          have htx := text_any wF (Lst.touch HL.out (HCj.out.touch.then hTF)) (some ⟨wo.heap.size + 1, 0, none⟩) 1 1 [la] hrdF rfl (by omega) (by intro r hr; rw [List.mem_singleton] at hr; rw [hr]; exact hsc)
          rw [← hmore2] at htx
          have hdl := depR_level (underR R la)
          have hrec : ∀ w7, Touch (fun _ => False) wF w7 → Calls Tryd.prog 47 _ w7 _ := fun w7 T7 => HIH.out w7 tt (levelR (underR R la)) (head ++ more) (l ++ [la]) (u + ua) LA lc (T ++ preW l u R j) (by have := (List.getElem?_eq_some_iff.1 q3).1; rw [hk.len, HN.out] at this; exact this) q3 (by have := HD.out; omega) hhd2 (by have := HLEN.out; rw [List.length_append, List.length_singleton]; omega) (HCj.out.quiet (hTF.then T7)) HTj.out (by omega) (by
            intro r hr
            have h1 := mem_level.1 (show (r.1, r.2) ∈ levelR (underR R la) from hr)
            have h2 := HUB.out _ (mem_under.1 h1)
            simp only at h2
            rw [q1]
            omega)
          have HWF := hide hwF
          have HEE := hide hE
          have HBE := hide hbE
          have HTX := hide htx
          have HREC := hide hrec
          have HPN := hide hpn
          have HPF := hide hpf
          have HLV : Hid (levelR (underR R la) ≠ []) := hide (level_ne w3)
          clear ham hz q1 q2 q3 w1 w2 w3 hr0 hr1 hsc hdu hpn hpf hb3 hb4 hlab hmore2 hml hsz1 hsz2 hhd2 hwF hE hTF hbE hrdF htx hdl hrec
          obtain ⟨R2, hR2⟩ : ∃ x, x = levelR (underR R la) := ⟨_, rfl⟩
          rw [← hR2] at HREC HPN HLV
          clear hR2
          go_wp2_with fail
          rw [← HWF.out]
          refine HTX.out.mono ?_
          rintro e w7 ⟨rfl, T7⟩
          have hb7 := HBE.out.touch T7 (fun f => f)
          rw [HEE.out] at hb7
          obtain ⟨t0, t1, t2⟩ := hb7.facts
          have HR7 := hide (HREC.out w7 T7)
          clear T7 hb7 HTX HREC
          go_wp2_with fail
          refine HR7.out.mono ?_
          rintro e w8 ⟨LA2, lc2, rfl, hC8⟩
          have HC8 := hide hC8
          clear hC8 HR7
          by_cases hgo : (T ++ preW l u R j).length + R2.length < mo
          · have hdg : decide ((T ++ preW l u R j).length + R2.length < mo) = true := by simpa using hgo
            have hup : upW (T ++ preW l u R j) (wordsOf (l ++ [la]) (u + ua) R2) mo = T ++ preW l u R (j + 1) := by
              rw [upW_whole (by rw [wordsOf_len]; omega), HPN.out, List.append_assoc]
            have hln : (T ++ preW l u R (j + 1)).length < mo := by
              rw [← hup, upW_whole (by rw [wordsOf_len]; omega), List.length_append, wordsOf_len]
              exact hgo
            rw [hdg]
            rw [hup] at HC8
            have HLN := hide hln
            clear hdg hup hln hgo
            go_wp2_with fail
            go_roundw
            · exact ⟨j + 1, LA2, lc2, by simp, by omega, HC8, HLN⟩
            · simp only [intOf]; omega
          · have hdg : decide ((T ++ preW l u R j).length + R2.length < mo) = false := by simpa using hgo
            have hup : upW (T ++ preW l u R j) (wordsOf (l ++ [la]) (u + ua) R2) mo = upW T (wordsOf l u R) mo := by
              refine upW_part HTj.out ?_ (by rw [wordsOf_len]; omega)
              rw [← HPN.out]
              exact HPF.out
            have hfl : decide (T.length + R.length < mo) = false := by
              have h1 := HPF.out.length_le
              rw [HPN.out, List.length_append, wordsOf_len, wordsOf_len] at h1
              rw [List.length_append] at hgo
              simp only [decide_eq_false_iff_not]
              omega
            rw [hdg]
            rw [hup] at HC8
            have HFL := hide hfl
            clear hdg hup hgo hfl
            go_wp2_with fail
            go_ret
            first
              | exact ⟨LA2, lc2, by rw [HFL.out]; rfl, HC8.out⟩
              | exact ⟨by rw [HFL.out]; rfl, LA2, lc2, HC8.out⟩
        · have hje : j = zn := by omega
          have j4 : ¬ (j : Int) < (zn : Int) := by omega
          have hall := preW_all HC.out.sort l u j (by rw [← HC.out.labels, List.length_map]; have := HZO.out.len; simp only at this ⊢; omega)
          have hT1 := HTj.out
          have hC1 := HCj.out
          rw [hall] at hT1 hC1
          have hup : upW T (wordsOf l u R) mo = T ++ wordsOf l u R := upW_whole (by rw [List.length_append] at hT1; omega)
          have hfl : decide (T.length + R.length < mo) = true := by
            rw [List.length_append, wordsOf_len] at hT1
            simpa using hT1
          have HUP := hide hup
          have HFL := hide hfl
          have HC1 := hide hC1
          clear hje hall hT1 hC1 hup hfl
          go_wp2_with fail
          go_ret
          first
            | exact ⟨LA, lc, by rw [HFL.out]; rfl, by rw [HUP.out]; exact HC1.out⟩
            | exact ⟨by rw [HFL.out]; rfl, LA, lc, by rw [HUP.out]; exact HC1.out⟩
    · have hdm : decide (T.length + 1 < mo) = false := by simpa using hmore
      rw [hdm] at hyd
      have HYD := hide hyd
      have HMORE := hide hmore
      have hup : T ++ [(⟨head, u + out⟩ : PRow)] = upW T (wordsOf l u R) mo := by
        have h1 := preW_prefix HC.out.sort l u 0
        rw [HPZ.out] at h1
        have h2 := upW_part (T := T) (A := []) (B := [(⟨head, u + out⟩ : PRow)]) (W := wordsOf l u R) (most := mo) (by simpa using HTL.out) (by simpa using h1) (by simp only [List.append_nil, List.length_singleton]; omega)
        rw [List.append_nil] at h2
        rw [← h2, upW_whole (by have := HTL.out; simp only [List.length_singleton]; omega)]
      have hfl : decide (T.length + R.length < mo) = false := by
        have : 0 < R.length := List.length_pos_iff.2 HC.out.ne
        simp only [decide_eq_false_iff_not]
        omega
      have HUP := hide hup
      have HFL := hide hfl
      clear hyd hdm hmore hup hfl
      go_enter Tryd.func47, Tryd.ntmps47
      go_wp2_with fail
      rw [← HWD.out]
      refine HYD.out.mono ?_
      rintro e wS ⟨LA1, lc1, rfl, hC1, T1⟩
      have HC1 := hide hC1
      clear hC1 T1 HYD
      go_wp2_with fail
      go_ret
      exact ⟨LA1, lc1, by rw [HFL.out]; rfl, by rw [← HUP.out]; exact HC1.out⟩
  | false =>
    rw [if_neg (by decide)] at hpz
    have hC0 : Col w0 wD lb mb LA lc (T ++ preW l u R 0) mo := by rw [hpz, List.append_nil]; exact HCD.out
    have hT0 : (T ++ preW l u R 0).length < mo := by rw [hpz, List.append_nil]; exact HTL.out
    have HC0 := hide hC0
    have HT0 := hide hT0
    clear hc hpz hhm hC0 hT0
    go_enter Tryd.func47, Tryd.ntmps47
    go_wp2_with fail
    rw [← HWD.out]
    go_loopw [39] (fun jv wr => ∃ (j : Nat) (LA : Option Addr) (lc : Nat), jv = .int .i64 j ∧ j ≤ zn ∧ Hid (Col w0 wr lb mb LA lc (T ++ preW l u R j) mo) ∧ Hid ((T ++ preW l u R j).length < mo)) (fun jv _ => zn - (intOf jv).toNat)
    case atStart => exact ⟨0, _, _, rfl, by omega, HC0, HT0⟩
    case round =>
      clear HC0 HT0 s0 s1 s2 x0 x1 x2 d0 d1 d2
      obtain ⟨j, LA, lc, rfl, hjz, HCj, HTj⟩ := hrel
      by_cases hjz2 : j < zn
      · have j1 : (j : Int) < (zn : Int) := by omega
        have j2 : (0 : Int) ≤ (j : Int) := by omega
        have j3 : IntKind.i64.wrap ((j : Int) + 1) = (j : Int) + 1 := IntWalk.i64_in _ (by omega)
        obtain ⟨ag, ao, hA2, _, e0, e1, e2⟩ := arc_at (HZO.out.rd.quiet HCj.out.touch).rd HZO.out.len j hjz2
        subst hA2
        have ham := getD_mem arcs (0, 0, 0) j (by rw [HZO.out.len]; exact hjz2)
        have harc := HC.out.arc _ ham
        have hawt := arc_wt HC.out HHER.out ham
        have hlab : (firstsR R)[j]? = some (arcs.getD j (0, 0, 0)).1 := by
          rw [← HC.out.labels, List.getElem?_map, getD_get? (d := (0, 0, 0)) (by rw [HZO.out.len]; exact hjz2)]
          rfl
        obtain ⟨⟨la, ua, tt⟩, hz⟩ : ∃ z, arcs.getD j (0, 0, 0) = z := ⟨_, rfl⟩
        rw [hz] at e0 e1 e2 harc hawt hlab
        simp only at e0 e1 e2 harc hawt hlab
        obtain ⟨q1, q2, q3⟩ := harc
        obtain ⟨w1, w2, w3⟩ := hawt
        obtain ⟨r0, hr0⟩ := List.exists_mem_of_ne_nil _ w3
        have hr1 := mem_under.1 (show (r0.1, r0.2) ∈ underR R la from hr0)
        have hsc : scal la = true := (HHER.out.run _ hr1 la (List.mem_cons_self)).1
        have hdu := depR_under w3
        have hpn := preW_succ l u R j la hlab
        have hpf := preW_prefix HC.out.sort l u (j + 1)
        rw [← q1] at hpn
        have hb3 := HUB.out _ hr1
        have hb4 := leastR_le hr0
        rw [← q1] at hb4
        simp only at hb3
        have z2 : IntKind.i64.wrap (u + ua) = u + ua := IntWalk.i64_in _ (by omega)
        obtain ⟨more, hmore2⟩ : ∃ m : ByteArray, m = ⟨([la].flatMap writeU).toArray⟩ := ⟨_, rfl⟩
        have hml : more.toList = [la].flatMap writeU := by rw [hmore2, toList_mk]
        have hsz1 : head.size ≤ 96 := by
          have h1 := flat_size l
          have h2 := HLEN.out
          rw [size_list, HHD.out]
          omega
        have hsz2 : more.size ≤ 4 := by
          have h1 := flat_size [la]
          rw [size_list, hml]
          simpa using h1
        have hadd : ∀ wx, (Op.stringOp .add head more).run Tryd.prog wx = .ok (.string (head ++ more)) wx := fun wx => run_string_add_sum (P := Tryd.prog) wx head more (by omega)
        have hhd2 : (head ++ more).toList = (l ++ [la]).flatMap writeU := by rw [bytes_app, HHD.out, hml, List.flatMap_append]
        obtain ⟨wo, hwo⟩ : ∃ y, y = wr := ⟨_, rfl⟩
        subst hwo
        obtain ⟨wF, hwF⟩ : ∃ x, x = (wo.alloc (.cells #[.int .i32 la, .int .i64 ua, .int .i64 tt] 60)).alloc (.cells #[.int .i32 la] 21) := ⟨_, rfl⟩
        obtain ⟨E, hE⟩ : ∃ E, E = wo.heap.size := ⟨_, rfl⟩
        have hTF : Touch (fun _ => False) wo wF := by rw [hwF]; exact ((Touch.refl _ _).alloc _).alloc _
        have hbE : Blk wF E 60 #[.int .i32 la, .int .i64 ua, .int .i64 tt] := by rw [hwF, hE]; exact (Blk.new _ _ _).alloc _
        have hrdF : Reads wF 1 (some ⟨wo.heap.size + 1, 0, none⟩) 1 ([la].map runeV) := by
          rw [hwF]
          have h := Reads.new (size := 1) (wo.alloc (.cells #[.int .i32 la, .int .i64 ua, .int .i64 tt] 60)) 21 [.int .i32 la] 1 rfl
          simpa [runeV] using h
        have htx := text_any wF (Lst.touch HL.out (HCj.out.touch.then hTF)) (some ⟨wo.heap.size + 1, 0, none⟩) 1 1 [la] hrdF rfl (by omega) (by intro r hr; rw [List.mem_singleton] at hr; rw [hr]; exact hsc)
        rw [← hmore2] at htx
        have hdl := depR_level (underR R la)
        have hrec : ∀ w7, Touch (fun _ => False) wF w7 → Calls Tryd.prog 47 _ w7 _ := fun w7 T7 => HIH.out w7 tt (levelR (underR R la)) (head ++ more) (l ++ [la]) (u + ua) LA lc (T ++ preW l u R j) (by have := (List.getElem?_eq_some_iff.1 q3).1; rw [hk.len, HN.out] at this; exact this) q3 (by have := HD.out; omega) hhd2 (by have := HLEN.out; rw [List.length_append, List.length_singleton]; omega) (HCj.out.quiet (hTF.then T7)) HTj.out (by omega) (by
          intro r hr
          have h1 := mem_level.1 (show (r.1, r.2) ∈ levelR (underR R la) from hr)
          have h2 := HUB.out _ (mem_under.1 h1)
          simp only at h2
          rw [q1]
          omega)
        have HWF := hide hwF
        have HEE := hide hE
        have HBE := hide hbE
        have HTX := hide htx
        have HREC := hide hrec
        have HPN := hide hpn
        have HPF := hide hpf
        have HLV : Hid (levelR (underR R la) ≠ []) := hide (level_ne w3)
        clear ham hz q1 q2 q3 w1 w2 w3 hr0 hr1 hsc hdu hpn hpf hb3 hb4 hlab hmore2 hml hsz1 hsz2 hhd2 hwF hE hTF hbE hrdF htx hdl hrec
        obtain ⟨R2, hR2⟩ : ∃ x, x = levelR (underR R la) := ⟨_, rfl⟩
        rw [← hR2] at HREC HPN HLV
        clear hR2
        go_wp2_with fail
        rw [← HWF.out]
        refine HTX.out.mono ?_
        rintro e w7 ⟨rfl, T7⟩
        have hb7 := HBE.out.touch T7 (fun f => f)
        rw [HEE.out] at hb7
        obtain ⟨t0, t1, t2⟩ := hb7.facts
        have HR7 := hide (HREC.out w7 T7)
        clear T7 hb7 HTX HREC
        go_wp2_with fail
        refine HR7.out.mono ?_
        rintro e w8 ⟨LA2, lc2, rfl, hC8⟩
        have HC8 := hide hC8
        clear hC8 HR7
        by_cases hgo : (T ++ preW l u R j).length + R2.length < mo
        · have hdg : decide ((T ++ preW l u R j).length + R2.length < mo) = true := by simpa using hgo
          have hup : upW (T ++ preW l u R j) (wordsOf (l ++ [la]) (u + ua) R2) mo = T ++ preW l u R (j + 1) := by
            rw [upW_whole (by rw [wordsOf_len]; omega), HPN.out, List.append_assoc]
          have hln : (T ++ preW l u R (j + 1)).length < mo := by
            rw [← hup, upW_whole (by rw [wordsOf_len]; omega), List.length_append, wordsOf_len]
            exact hgo
          rw [hdg]
          rw [hup] at HC8
          have HLN := hide hln
          clear hdg hup hln hgo
          go_wp2_with fail
          go_roundw
          · exact ⟨j + 1, LA2, lc2, by simp, by omega, HC8, HLN⟩
          · simp only [intOf]; omega
        · have hdg : decide ((T ++ preW l u R j).length + R2.length < mo) = false := by simpa using hgo
          have hup : upW (T ++ preW l u R j) (wordsOf (l ++ [la]) (u + ua) R2) mo = upW T (wordsOf l u R) mo := by
            refine upW_part HTj.out ?_ (by rw [wordsOf_len]; omega)
            rw [← HPN.out]
            exact HPF.out
          have hfl : decide (T.length + R.length < mo) = false := by
            have h1 := HPF.out.length_le
            rw [HPN.out, List.length_append, wordsOf_len, wordsOf_len] at h1
            rw [List.length_append] at hgo
            simp only [decide_eq_false_iff_not]
            omega
          rw [hdg]
          rw [hup] at HC8
          have HFL := hide hfl
          clear hdg hup hgo hfl
          go_wp2_with fail
          go_ret
          first
            | exact ⟨LA2, lc2, by rw [HFL.out]; rfl, HC8.out⟩
            | exact ⟨by rw [HFL.out]; rfl, LA2, lc2, HC8.out⟩
      · have hje : j = zn := by omega
        have j4 : ¬ (j : Int) < (zn : Int) := by omega
        have hall := preW_all HC.out.sort l u j (by rw [← HC.out.labels, List.length_map]; have := HZO.out.len; simp only at this ⊢; omega)
        have hT1 := HTj.out
        have hC1 := HCj.out
        rw [hall] at hT1 hC1
        have hup : upW T (wordsOf l u R) mo = T ++ wordsOf l u R := upW_whole (by rw [List.length_append] at hT1; omega)
        have hfl : decide (T.length + R.length < mo) = true := by
          rw [List.length_append, wordsOf_len] at hT1
          simpa using hT1
        have HUP := hide hup
        have HFL := hide hfl
        have HC1 := hide hC1
        clear hje hall hT1 hC1 hup hfl
        go_wp2_with fail
        go_ret
        first
          | exact ⟨LA, lc, by rw [HFL.out]; rfl, by rw [HUP.out]; exact HC1.out⟩
          | exact ⟨by rw [HFL.out]; rfl, LA, lc, by rw [HUP.out]; exact HC1.out⟩


theorem from_any (w0 : World) (hL : Lst w0) (b : Nat) (base : Int) (A : Option Addr) (n c : Nat) (Z : List SV) (wA : Option Addr) (wc : Nat) (W : List Int) (hM : WkM w0 b base A n c Z wA wc W) (hn : n ≤ 1000000) (k : KnP) (hk : Good k) (hh : ∀ X ∈ k.rests, Her X) (hZ : Z.map SV.p = k.states) (lb mb mo : Nat) (hmo : mo ≤ 5000) : ∀ f, FromC w0 b n k lb mb mo f
  | 0 => fun _ _ _ _ _ _ _ _ _ _ _ h => absurd h (Nat.not_lt_zero _)
  | f + 1 => from_step w0 hL b base A n c Z wA wc W hM hn k hk hh hZ lb mb mo hmo f (from_any w0 hL b base A n c Z wA wc W hM hn k hk hh hZ lb mb mo hmo f)

end Go.Proofs.YtnakpadjlamdeaaDoor
