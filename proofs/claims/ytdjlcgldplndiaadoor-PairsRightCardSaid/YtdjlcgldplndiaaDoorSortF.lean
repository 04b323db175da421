/- The sort's parts: a merge in place. No condition but that the row is the program's own. -/
import Derived.Test.YtdjlcgldplndiaaDoorSortE
namespace Go.Proofs.YtdjlcgldplndiaaDoor
open Go.RowKit

def SmPost (w : World) (A : Option Addr) (n c : Nat) (P Y Q : List PRow) (e : Ending) (w' : World) : Prop :=
  e = .returned (.tuple #[]) ∧ (∃ Z, POwn w' A n c (P ++ (Z ++ Q)) ∧ SrtP Z ∧ SameK Y Z) ∧ Touch (fun g => adBlock A = some g) w w'

def SmC (A : Option Addr) (n c fuel : Nat) : Prop := ∀ (w : World) (P L R Q : List PRow) (a m b : Nat), POwn w A n c (P ++ (L ++ (R ++ Q))) → a = P.length → m = a + L.length → b = m + R.length → 0 < L.length → 0 < R.length → SrtP L → SrtP R → L.length + R.length ≤ fuel →
  Calls Tryd.prog 50 #[.slice A n c, .int .i64 a, .int .i64 m, .int .i64 b, cmpF] w (SmPost w A n c P (L ++ R) Q)

set_option maxRecDepth 100000 in
set_option maxHeartbeats 2000000 in
theorem sm_main (A : Option Addr) (n c fuel : Nat) (hn62 : n ≤ 5864062014700) (ih : SmC A n c fuel) (w : World) (P L R Q : List PRow) (a m b : Nat) (h : POwn w A n c (P ++ (L ++ (R ++ Q)))) (ha : a = P.length) (hm : m = a + L.length) (hb : b = m + R.length)
    (hL1 : 1 < L.length) (hR1 : 1 < R.length) (hL : SrtP L) (hR : SrtP R) (hf : L.length + R.length ≤ fuel + 1) :
    Calls Tryd.prog 50 #[.slice A n c, .int .i64 a, .int .i64 m, .int .i64 b, cmpF] w (SmPost w A n c P (L ++ R) Q) := by
  have hl := pown_len h
  simp only [List.length_append] at hl
  obtain ⟨X, hX⟩ : ∃ X, X = P ++ (L ++ (R ++ Q)) := ⟨_, rfl⟩
  rw [← hX] at h
  have hn := own_le h
  unfold maxLen at hn
  have HX := hide h
  have HE := hide hX
  have HA := hide ha
  have HB := hide hb
  have HL := hide hL
  have HR := hide hR
  have HM := hide hm
  have HF := hide hf
  have HIH := hide ih
  have hbn : b ≤ n := by omega
  have ham : a + 1 < m := by omega
  have hmb : m + 1 < b := by omega
  have x0 : ((m : Int) - (a : Int) == 1) = false := by simp; omega
  have x1 : ((b : Int) - (m : Int) == 1) = false := by simp; omega
  obtain ⟨mid, hmid⟩ : ∃ x, x = (a + b) / 2 := ⟨_, rfl⟩
  obtain ⟨N, hN⟩ : ∃ x, x = mid + m := ⟨_, rfl⟩
  obtain ⟨p, hp⟩ : ∃ x, N = x + 1 := ⟨N - 1, by omega⟩
  have x2 : ((a : Int) + (b : Int)) / 2 = (mid : Int) := by omega
  have x3 : (mid : Int) + (m : Int) = (N : Int) := by omega
  have x4 : (N : Int) - 1 = (p : Int) := by omega
  have x5 : mid ≤ n := by omega
  have x6 : N ≤ n + n := by omega
  have x7 : p ≤ n + n := by omega
  obtain ⟨lo, hi, hlohi⟩ : ∃ lo hi : Nat, (mid < m ∧ lo + b = N ∧ hi = mid) ∨ (¬ mid < m ∧ lo = a ∧ hi = m) := by
    by_cases hmm : mid < m
    · exact ⟨N - b, mid, .inl ⟨hmm, by omega, rfl⟩⟩
    · exact ⟨a, m, .inr ⟨hmm, rfl, rfl⟩⟩
  have y1 : a ≤ lo ∧ lo ≤ hi ∧ hi ≤ m ∧ hi ≤ n := by omega
  have y2 : ∀ k, lo ≤ k → k < hi → a ≤ k ∧ k < m ∧ m ≤ p - k ∧ p - k < b ∧ k ≤ p := by intro k h1 h2; omega
  have HLH := hide hlohi
  have HY1 := hide y1
  have HY2 := hide y2
  have HMID := hide (And.intro hmid (And.intro hN hp))
  clear h hX ha hb hl hL hR hm hf ih hmid hN hp hL1 hR1 hlohi y1 y2
  go_enter Tryd.func50, Tryd.ntmps50
  go_upto_if 140 with fail
  go_cut [20, 21] from 138 to 146 (fun s r wx => s = .int .i64 (lo : Int) ∧ r = .int .i64 (hi : Int) ∧ wx = w)
  case first =>
    rcases HLH.out with ⟨h1, h2, h3⟩ | ⟨h1, h2, h3⟩
    · have z1 : (N : Int) - (b : Int) = (lo : Int) := by omega
      have z2 : (mid : Int) < (m : Int) := by omega
      have z3 : lo ≤ n := by omega
      have H3 := hide h3
      clear h2 h3
      go_wp2
      go_meet
      exact ⟨rfl, by rw [H3.out], rfl⟩
    · have H23 := hide (And.intro h2 h3)
      have z2 : ¬ (mid : Int) < (m : Int) := by omega
      clear h2 h3
      go_wp2
      go_meet
      exact ⟨by rw [H23.out.1], by rw [H23.out.2], rfl⟩
  case rest =>
    obtain ⟨rfl, rfl, hcw⟩ := hcut
    obtain rfl := hcw.symm
    clear hcw
    go_wp2
    go_loopw [20, 21] (fun sv rv wr => ∃ s r : Nat, sv = .int .i64 s ∧ rv = .int .i64 r ∧ lo ≤ s ∧ s ≤ r ∧ r ≤ hi ∧ Hid (POwn wr A n c X) ∧ Hid ((s = lo ∨ plt (X.getD (p - (s - 1)) PRow.zero) (X.getD (s - 1) PRow.zero) = false) ∧ (r = hi ∨ plt (X.getD (p - r) PRow.zero) (X.getD r PRow.zero) = true)) ∧ Hid (Touch (fun _ => False) w wr)) (fun sv rv _ => (intOf rv).toNat - (intOf sv).toNat)
    case atStart => exact ⟨lo, hi, rfl, rfl, Nat.le_refl _, HY1.out.2.1, Nat.le_refl _, HX, hide ⟨.inl rfl, .inl rfl⟩, hide (Touch.refl _ _)⟩
    case round =>
      obtain ⟨s, r, rfl, rfl, hls, hsr, hrh, HO, HI, HT⟩ := hrel
      by_cases h0 : s < r
      · have y0 : (s : Int) < (r : Int) := by omega
        obtain ⟨k, hk⟩ : ∃ k, k = (s + r) / 2 := ⟨_, rfl⟩
        have hy2 := HY2.out k (by omega) (by omega)
        have hy1 := HY1.out
        obtain ⟨u, hu⟩ : ∃ u, p = u + k := ⟨p - k, by omega⟩
        have hpk : p - k = u := by omega
        have z1 : ((s : Int) + (r : Int)) / 2 = (k : Int) := by omega
        have z2 : k < n := by omega
        have z3 : (k : Int) < (n : Int) := by omega
        have z4 : u < n := by omega
        have z5 : (u : Int) < (n : Int) := by omega
        have z6 : (p : Int) - (k : Int) = (u : Int) := by omega
        have z7 : IntKind.i64.wrap (k : Int) = (k : Int) := IntWalk.i64_in _ (by omega)
        have z8 : IntKind.i64.wrap (u : Int) = (u : Int) := IntWalk.i64_in _ (by omega)
        have z9 : s ≤ k := by omega
        have z10 : k < r := by omega
        have z11 : s ≤ n := by omega
        have z12 : r ≤ n := by omega
        have hl := pown_len HO.out
        obtain ⟨g, hA0, hg, a0, a1, f0, f1⟩ := pown_at HO.out hl k z2
        subst hA0
        obtain ⟨g', hA, _, b0, b1, f3, f4⟩ := pown_at HO.out hl u z4
        injection hA with hA
        injection hA with hA _
        subst hA
        obtain ⟨⟨zw, zn⟩, hz⟩ : ∃ r, r = X.getD k PRow.zero := ⟨_, rfl⟩
        rw [← hz] at a0 a1
        obtain ⟨⟨xw, xn⟩, hx⟩ : ∃ r, r = X.getD u PRow.zero := ⟨_, rfl⟩
        rw [← hx] at b0 b1
        have EZ := hide hz
        have EX := hide hx
        have HPK := hide hpk
        simp only at a0 a1 b0 b1
        clear hl hz hx hk hpk hu hy2 hy1
        cases hb : plt ⟨xw, xn⟩ ⟨zw, zn⟩ with
        | true =>
          have HPB := hide hb
          clear hb
          go_wp2_with fail
          go_still_tail 11, (by kernel_rfl)
          change wpList _ _ _ _ _ wr.drew
          have HD : Hid (Touch (fun _ => False) wr wr.drew) := hide (Touch.refl _ _).drew
          generalize wr.drew = wd at HD ⊢
          go_wp2_with (go_at_call 37; refine (cmp_any ⟨xw, xn⟩ ⟨zw, zn⟩ wd).mono ?_; rw [HPB.out]; rintro e w2 ⟨⟨z, rfl, hz⟩, T2⟩; have HT2 := hide (HT.out.then (HD.out.then T2)); have HO2 := hide (own_touch HO.out (HD.out.then T2) (fun _ _ f => f)); clear T2)
          go_roundw
          · refine ⟨s, k, rfl, rfl, hls, z9, by omega, HO2, hide ⟨HI.out.1, .inr ?_⟩, HT2⟩
            rw [HPK.out, ← EZ.out, ← EX.out]
            exact HPB.out
          · show (k : Int).toNat - (s : Int).toNat < (r : Int).toNat - (s : Int).toNat
            omega
        | false =>
          have HPB := hide hb
          clear hb
          go_wp2_with fail
          go_still_tail 11, (by kernel_rfl)
          change wpList _ _ _ _ _ wr.drew
          have HD : Hid (Touch (fun _ => False) wr wr.drew) := hide (Touch.refl _ _).drew
          generalize wr.drew = wd at HD ⊢
          go_wp2_with (go_at_call 37; refine (cmp_any ⟨xw, xn⟩ ⟨zw, zn⟩ wd).mono ?_; rw [HPB.out]; rintro e w2 ⟨⟨z, rfl, hz⟩, T2⟩; have HT2 := hide (HT.out.then (HD.out.then T2)); have HO2 := hide (own_touch HO.out (HD.out.then T2) (fun _ _ f => f)); clear T2)
          go_roundw
          · refine ⟨k + 1, r, by simp, rfl, by omega, by omega, hrh, HO2, hide ⟨.inr ?_, HI.out.2⟩, HT2⟩
            rw [Nat.add_sub_cancel, HPK.out, ← EZ.out, ← EX.out]
            exact HPB.out
          · show (r : Int).toNat - ((k : Int) + 1).toNat < (r : Int).toNat - (s : Int).toNat
            omega
      · have hsr' : r = s := by omega
        subst hsr'
        obtain ⟨e, he⟩ : ∃ e, N = e + r := ⟨N - r, by have := HMID.out; have := HY1.out; have := HLH.out; omega⟩
        obtain ⟨i1, i2⟩ := HI.out
        have hmid := HMID.out
        have hy1 := HY1.out
        have hlh := HLH.out
        have hA := HA.out
        have hM := HM.out
        have hB := HB.out
        have eb : a ≤ r ∧ r ≤ m ∧ m ≤ e ∧ e ≤ b ∧ r ≤ mid ∧ mid ≤ e := by omega
        obtain ⟨L1, L2, eL, l1, l2⟩ := split_at (l := L) (k := r - a) (by omega)
        obtain ⟨R1, R2, eR, r1, r2⟩ := split_at (l := R) (k := e - m) (by omega)
        have hc := cut_parts HL.out HR.out (r - a) (e - m) (by omega) (by omega) (by
          rcases i1 with q | q
          · rcases hlh with ⟨h1, h2, h3⟩ | ⟨h1, h2, h3⟩
            · exact .inr (.inl (by omega))
            · exact .inl (by omega)
          · by_cases q0 : r = a
            · exact .inl (by omega)
            · by_cases q1 : e = b
              · exact .inr (.inl (by omega))
              · refine .inr (.inr ?_)
                rw [HE.out, show P ++ (L ++ (R ++ Q)) = (P ++ L) ++ (R ++ Q) by simp, getD_seg (P ++ L) R Q (p - (r - 1)) (e - m) (by rw [List.length_append]; omega) (by omega), show (P ++ L) ++ (R ++ Q) = P ++ (L ++ (R ++ Q)) by simp, getD_seg P L (R ++ Q) (r - 1) (r - a - 1) (by omega) (by omega)] at q
                exact q) (by
          rcases i2 with q | q
          · rcases hlh with ⟨h1, h2, h3⟩ | ⟨h1, h2, h3⟩
            · exact .inr (.inl (by omega))
            · exact .inl (by omega)
          · by_cases q0 : r = m
            · exact .inl (by omega)
            · by_cases q1 : e = m
              · exact .inr (.inl (by omega))
              · refine .inr (.inr ?_)
                rw [HE.out, show P ++ (L ++ (R ++ Q)) = (P ++ L) ++ (R ++ Q) by simp, getD_seg (P ++ L) R Q (p - r) (e - m - 1) (by rw [List.length_append]; omega) (by omega), show (P ++ L) ++ (R ++ Q) = P ++ (L ++ (R ++ Q)) by simp, getD_seg P L (R ++ Q) r (r - a) (by omega) (by omega)] at q
                exact q)
        have t1 : L.take (r - a) = L1 := by rw [eL, ← l1, List.take_left]
        have t2 : L.drop (r - a) = L2 := by rw [eL, ← l1, List.drop_left]
        have t3 : R.take (e - m) = R1 := by rw [eR, ← r1, List.take_left]
        have t4 : R.drop (e - m) = R2 := by rw [eR, ← r1, List.drop_left]
        rw [t1, t2, t3, t4] at hc
        have HC := hide hc
        have HLL := hide eL
        have HRR := hide eR
        have HLEN := hide (And.intro l1 (And.intro l2 (And.intro r1 r2)))
        have HEB := hide eb
        have u1 : (N : Int) - (r : Int) = (e : Int) := by omega
        have u2 : e ≤ n := by omega
        have u3 : r ≤ n := by omega
        have u4 : IntKind.i64.wrap (e : Int) = (e : Int) := IntWalk.i64_in _ (by omega)
        have HEN := hide he
        have HM2 := hide hmid
        clear i1 i2 hmid hy1 hlh hA hM hB eL eR l1 l2 r1 r2 hc t1 t2 t3 t4 h0 eb he
        obtain ⟨b1, hb1⟩ : ∃ b1, b1 = decide (r < m ∧ m < e) := ⟨_, rfl⟩
        obtain ⟨b2, hb2⟩ : ∃ b2, b2 = decide (a < r ∧ r < mid) := ⟨_, rfl⟩
        obtain ⟨b3, hb3⟩ : ∃ b3, b3 = decide (mid < e ∧ e < b) := ⟨_, rfl⟩
        have HB1 := hide hb1
        have HB2 := hide hb2
        have HB3 := hide hb3
        clear hb1 hb2 hb3
        go_upto_region 39 with fail
        go_cut [24, 185] from 174 to 185 (fun sv tv wx => sv = .int .i64 (e : Int) ∧ tv = .bool b1 ∧ wx = wr)
        case first =>
          by_cases q1 : r < m
          · have q3 : (r : Int) < (m : Int) := by omega
            by_cases q2 : m < e
            · have q4 : (m : Int) < (e : Int) := by omega
              go_wp2
              go_meet
              exact ⟨rfl, by rw [HB1.out]; simp [q1, q2], rfl⟩
            · have q4 : ¬ (m : Int) < (e : Int) := by omega
              go_wp2
              go_meet
              exact ⟨rfl, by rw [HB1.out]; simp [q2], rfl⟩
          · have q3 : ¬ (r : Int) < (m : Int) := by omega
            go_wp2
            go_meet
            exact ⟨rfl, by rw [HB1.out]; simp [q1], rfl⟩
        case rest =>
          obtain ⟨rfl, rfl, hcw⟩ := hcut
          obtain rfl := hcw.symm
          clear hcw
          go_upto_if 185 with fail
          go_cut [24] from 186 to 191 (fun sv wx => sv = .int .i64 (e : Int) ∧ Hid (POwn wx A n c (P ++ (L1 ++ (R1 ++ (L2 ++ (R2 ++ Q)))))) ∧ Hid (Touch (fun g => adBlock A = some g) w wx))
          case first =>
            have hO := HO.out
            rw [HE.out, HLL.out, HRR.out] at hO
            cases b1 with
            | true =>
              have hb := of_decide_eq_true HB1.out.symm
              have hO2 : POwn wr A n c ((P ++ L1) ++ (L2 ++ (R1 ++ (R2 ++ Q)))) := by simpa using hO
              obtain ⟨l1, l2, r1, r2⟩ := HLEN.out
              have hm := HM.out
              have ha := HA.out
              have hbb := HB.out
              have heb := HEB.out
              have HRO := hide (rot_any wr A n c (P ++ L1) L2 R1 (R2 ++ Q) hO2 r m e (by rw [List.length_append]; omega) (by omega) (by omega) (by omega) (by omega) cmpF)
              clear hO hO2 l1 l2 r1 r2 hm ha hbb heb hb
              go_wp2_with (go_at_call 52; refine HRO.out.mono ?_; rintro e w2 ⟨rfl, O2, T2⟩; have HO2 := hide O2; have HT2 := hide ((HT.out.up _).then T2); clear O2 T2)
              go_meet
              exact ⟨rfl, hide (by simpa using HO2.out), HT2⟩
            | false =>
              have hb := of_decide_eq_false HB1.out.symm
              have hO2 : POwn wr A n c (P ++ (L1 ++ (R1 ++ (L2 ++ (R2 ++ Q))))) := by
                obtain ⟨l1, l2, r1, r2⟩ := HLEN.out
                have hm := HM.out
                have heb := HEB.out
                by_cases q1 : r < m
                · have e1 : R1 = [] := List.eq_nil_of_length_eq_zero (by omega)
                  rw [e1] at hO ⊢
                  simpa using hO
                · have e1 : L2 = [] := List.eq_nil_of_length_eq_zero (by omega)
                  rw [e1] at hO ⊢
                  simpa using hO
              have HO2 := hide hO2
              clear hO hO2 hb
              go_wp2
              go_meet
              exact ⟨rfl, HO2, hide (HT.out.up _)⟩
          case rest =>
            obtain ⟨rfl, HO1, HT1⟩ := hcut
            go_upto_region 41 with fail
            go_cut [24, 199] from 192 to 199 (fun sv tv wx => sv = .int .i64 (e : Int) ∧ tv = .bool b2 ∧ wx = wc)
            case first =>
              by_cases q1 : a < r
              · have q3 : (a : Int) < (r : Int) := by omega
                by_cases q2 : r < mid
                · have q4 : (r : Int) < (mid : Int) := by omega
                  go_wp2
                  go_meet
                  exact ⟨rfl, by rw [HB2.out]; simp [q1, q2], rfl⟩
                · have q4 : ¬ (r : Int) < (mid : Int) := by omega
                  go_wp2
                  go_meet
                  exact ⟨rfl, by rw [HB2.out]; simp [q2], rfl⟩
              · have q3 : ¬ (a : Int) < (r : Int) := by omega
                go_wp2
                go_meet
                exact ⟨rfl, by rw [HB2.out]; simp [q1], rfl⟩
            case rest =>
              obtain ⟨rfl, rfl, hcw⟩ := hcut
              obtain rfl := hcw.symm
              clear hcw
              obtain ⟨w1, hw1⟩ : ∃ w1, w1 = wc := ⟨_, rfl⟩
              subst hw1
              go_upto_if 199 with fail
              go_cut [24] from 200 to 205 (fun sv wx => sv = .int .i64 (e : Int) ∧ Hid (∃ Z1, POwn wx A n c (P ++ (Z1 ++ (L2 ++ (R2 ++ Q)))) ∧ SrtP Z1 ∧ SameK (L1 ++ R1) Z1) ∧ Hid (Touch (fun g => adBlock A = some g) w wx))
              case first =>
                have hsL : SrtP L1 := by have := HL.out; rw [HLL.out] at this; exact (List.pairwise_append.1 this).1
                have hsR : SrtP R1 := by have := HR.out; rw [HRR.out] at this; exact (List.pairwise_append.1 this).1
                obtain ⟨l1, l2, r1, r2⟩ := HLEN.out
                have hm := HM.out
                have ha := HA.out
                have hbb := HB.out
                have heb := HEB.out
                have hff := HF.out
                have hmi := HM2.out
                have hen := HEN.out
                cases b2 with
                | true =>
                  have hb := of_decide_eq_true HB2.out.symm
                  have HRO := hide (HIH.out w1 P L1 R1 (L2 ++ (R2 ++ Q)) a r mid HO1.out ha (by omega) (by omega) (by omega) (by omega) hsL hsR (by omega))
                  clear l1 l2 r1 r2 hm ha hbb heb hb hff hmi hen hsL hsR
                  go_wp2_with (go_at_call 50; refine HRO.out.mono ?_; rintro e w2 ⟨rfl, ⟨Z1, O2, s1, k1⟩, T2⟩; have HO2 := hide O2; have HK2 := hide (And.intro s1 k1); have HT2 := hide (HT1.out.then T2); clear O2 T2 s1 k1)
                  go_meet
                  exact ⟨rfl, hide ⟨Z1, HO2.out, HK2.out.1, HK2.out.2⟩, HT2⟩
                | false =>
                  have hb := of_decide_eq_false HB2.out.symm
                  have hs : SrtP (L1 ++ R1) := by
                    by_cases q1 : a < r
                    · have e1 : R1 = [] := List.eq_nil_of_length_eq_zero (by omega)
                      rw [e1]; simpa using hsL
                    · have e1 : L1 = [] := List.eq_nil_of_length_eq_zero (by omega)
                      rw [e1]; simpa using hsR
                  have HZ := hide (Exists.intro (p := fun Z1 => POwn w1 A n c (P ++ (Z1 ++ (L2 ++ (R2 ++ Q)))) ∧ SrtP Z1 ∧ SameK (L1 ++ R1) Z1) (L1 ++ R1) (And.intro (by simpa using HO1.out) (And.intro hs (SameK.refl _))))
                  clear l1 l2 r1 r2 hm ha hbb heb hb hff hmi hen hsL hsR hs
                  go_wp2
                  go_meet
                  exact ⟨rfl, HZ, HT1⟩
              case rest =>
                obtain ⟨rfl, HZ1, HT2⟩ := hcut
                obtain ⟨Z1, O2, s1, k1⟩ := HZ1.out
                have hl1 := pown_len O2
                have hl2 := pown_len HO1.out
                simp only [List.length_append] at hl1 hl2
                have hsL : SrtP L2 := by have := HL.out; rw [HLL.out] at this; exact (List.pairwise_append.1 this).2.1
                have hsR : SrtP R2 := by have := HR.out; rw [HRR.out] at this; exact (List.pairwise_append.1 this).2.1
                have hLs := HL.out
                have hRs := HR.out
                rw [HLL.out] at hLs
                rw [HRR.out] at hRs
                obtain ⟨l1, l2, r1, r2⟩ := HLEN.out
                have hm := HM.out
                have ha := HA.out
                have hbb := HB.out
                have heb := HEB.out
                have hff := HF.out
                have hmi := HM2.out
                have hen := HEN.out
                have hO2' : POwn wc A n c ((P ++ Z1) ++ (L2 ++ (R2 ++ Q))) := by simpa using O2
                have FIN := hide (fun (Z2 : List PRow) (s2 : SrtP Z2) (k2 : SameK (L2 ++ R2) Z2) => merge_parts (L1 := L1) (L2 := L2) (R1 := R1) (R2 := R2) (Z1 := Z1) (Z2 := Z2) hLs hRs HC.out.1 HC.out.2 s1 k1 s2 k2)
                have HO3 := hide O2
                by_cases q1 : mid < e ∧ e < b
                · obtain ⟨q1, q2⟩ := q1
                  have q3 : (mid : Int) < (e : Int) := by omega
                  have q4 : (e : Int) < (b : Int) := by omega
                  have HRO := hide (HIH.out wc (P ++ Z1) L2 R2 Q mid e b hO2' (by rw [List.length_append]; omega) (by omega) (by omega) (by omega) (by omega) hsL hsR (by omega))
                  clear l1 l2 r1 r2 hm ha hbb heb hff hmi hen hsL hsR hO2' hl1 hl2 hLs hRs O2 s1 k1
                  go_wp2_with (go_at_call 50; refine HRO.out.mono ?_; rintro e w2 ⟨rfl, ⟨Z2, O2, s2, k2⟩, T2⟩; have HO4 := hide O2; have HK2 := hide (And.intro s2 k2); have HT3 := hide (HT2.out.then T2); clear O2 T2 s2 k2)
                  go_end0
                  obtain ⟨f1, f2⟩ := FIN.out Z2 HK2.out.1 HK2.out.2
                  rw [← HLL.out, ← HRR.out] at f2
                  exact ⟨rfl, ⟨Z1 ++ Z2, by simpa using HO4.out, f1, f2⟩, HT3.out⟩
                · have hs : SrtP (L2 ++ R2) := by
                    by_cases q2 : mid < e
                    · have e1 : R2 = [] := List.eq_nil_of_length_eq_zero (by omega)
                      rw [e1]; simpa using hsL
                    · have e1 : L2 = [] := List.eq_nil_of_length_eq_zero (by omega)
                      rw [e1]; simpa using hsR
                  obtain ⟨f1, f2⟩ := FIN.out (L2 ++ R2) hs (SameK.refl _)
                  rw [← HLL.out, ← HRR.out] at f2
                  have HFF := hide (And.intro f1 f2)
                  have hq : (¬ (mid : Int) < (e : Int)) ∨ ((mid : Int) < (e : Int) ∧ ¬ (e : Int) < (b : Int)) := by omega
                  clear l1 l2 r1 r2 hm ha hbb heb hff hmi hen hsL hsR hO2' hl1 hl2 hLs hRs O2 s1 k1 hs f1 f2 q1
                  rcases hq with q1 | ⟨q1, q2⟩
                  all_goals
                    go_wp2
                    go_end0
                    exact ⟨rfl, ⟨Z1 ++ (L2 ++ R2), by simpa using HO3.out, HFF.out.1, HFF.out.2⟩, HT2.out⟩

/-- A merge in place: two sorted rows, side by side, become one sorted row; what stands under each word stays in its order. -/
theorem sm_any (A : Option Addr) (n c : Nat) (hn62 : n ≤ 5864062014700) : ∀ fuel, SmC A n c fuel := by
  intro fuel
  induction fuel with
  | zero => intro w P L R Q a m b _ _ _ _ h1 _ _ _ hf; omega
  | succ fuel ih =>
    intro w P L R Q a m b h ha hm hb hL0 hR0 hL hR hf
    by_cases h1 : L.length = 1
    · obtain ⟨x, rfl⟩ := List.length_eq_one_iff.1 h1
      exact (sm_one w A n c P R Q x (by simpa using h) a m b ha (by simpa using hm) hb hR hn62).mono fun e w' hh => by simpa [SmPost] using hh
    · by_cases h2 : R.length = 1
      · obtain ⟨x, rfl⟩ := List.length_eq_one_iff.1 h2
        exact (sm_last w A n c P L Q x (by simpa using h) a m b ha hm (by simpa using hb) h1 hL hn62).mono fun e w' hh => by simpa [SmPost] using hh
      · exact sm_main A n c fuel hn62 ih w P L R Q a m b h ha hm hb (by omega) (by omega) hL hR hf

end Go.Proofs.YtdjlcgldplndiaaDoor
