/- The sort's parts: a row rotated; insertion. No condition but that the row is the program's own. -/
import Derived.Test.YtdjlcgldplndiaaDoorSortP
namespace Go.Proofs.YtdjlcgldplndiaaDoor
open Go.RowKit

theorem split_at {l : List PRow} {k : Nat} (h : k ≤ l.length) : ∃ a b, l = a ++ b ∧ a.length = k ∧ b.length = l.length - k :=
  ⟨l.take k, l.drop k, (List.take_append_drop k l).symm, by rw [List.length_take]; omega, by rw [List.length_drop]⟩

set_option maxRecDepth 100000 in
set_option maxHeartbeats 1000000 in
theorem rot_any (w : World) (A : Option Addr) (n c : Nat) (P U V Q : List PRow) (h : POwn w A n c (P ++ (U ++ (V ++ Q)))) (a m b : Nat) (ha : a = P.length) (hm : m = a + U.length) (hb : b = m + V.length) (hU : 0 < U.length) (hV : 0 < V.length) (F : Value) :
    Calls Tryd.prog 52 #[.slice A n c, .int .i64 a, .int .i64 m, .int .i64 b, F] w fun e w' => e = .returned (.tuple #[]) ∧ POwn w' A n c (P ++ (V ++ (U ++ Q))) ∧ Touch (fun g => adBlock A = some g) w w' := by
  have hn := own_le h
  unfold maxLen at hn
  have hl := pown_len h
  simp only [List.length_append] at hl
  obtain ⟨G, hG⟩ : ∃ G, G = P ++ (V ++ (U ++ Q)) := ⟨_, rfl⟩
  rw [← hG]
  have HX := hide h
  have HG := hide hG
  have HA := hide ha
  have HM := hide hm
  have HB := hide hb
  obtain ⟨u, hu⟩ : ∃ u, u = U.length := ⟨_, rfl⟩
  obtain ⟨v, hv⟩ : ∃ v, v = V.length := ⟨_, rfl⟩
  have HU := hide hu
  have HV := hide hv
  have x0 : (m : Int) - (a : Int) = (u : Int) := by omega
  have x1 : (b : Int) - (m : Int) = (v : Int) := by omega
  have x2 : IntKind.i64.wrap (u : Int) = (u : Int) := IntWalk.i64_in _ (by omega)
  have x3 : IntKind.i64.wrap (v : Int) = (v : Int) := IntWalk.i64_in _ (by omega)
  have hmn : b ≤ n := by omega
  have hmb : m ≤ b := by omega
  have hu0 : 0 < u := by omega
  have hv0 : 0 < v := by omega
  have hum : u ≤ m := by omega
  have hvb : m + v = b := by omega
  clear h hG ha hm hb hl hu hv hU hV
  go_enter Tryd.func52, Tryd.ntmps52
  go_wp2
  go_loopw [10, 11] (fun iv jv wr => ∃ i j : Nat, iv = .int .i64 i ∧ jv = .int .i64 j ∧ 0 < i ∧ 0 < j ∧ i ≤ m ∧ m + j ≤ b ∧ Hid (∃ P' U' V' Q', P'.length + i = m ∧ U'.length = i ∧ V'.length = j ∧ POwn wr A n c (P' ++ (U' ++ (V' ++ Q'))) ∧ G = P' ++ (V' ++ (U' ++ Q'))) ∧ Hid (Touch (fun g => adBlock A = some g) w wr)) (fun iv jv _ => (intOf iv).toNat + (intOf jv).toNat)
  case atStart => exact ⟨u, v, rfl, rfl, hu0, hv0, hum, by omega, hide ⟨P, U, V, Q, by have := HA.out; have := HM.out; have := HU.out; omega, HU.out.symm, HV.out.symm, HX.out, HG.out⟩, hide (Touch.refl _ _)⟩
  case round =>
    obtain ⟨i, j, rfl, rfl, hi0, hj0, him, hjb, HE, HT⟩ := hrel
    obtain ⟨P', U', V', Q', e1, e2, e3, O1, e4⟩ := HE.out
    have hl := pown_len O1
    simp only [List.length_append] at hl
    have HO := hide O1
    have HG1 := hide e4
    clear O1 e4 HE
    obtain ⟨d, hd⟩ : ∃ d, d = m - i := ⟨_, rfl⟩
    have y0 : (m : Int) - (i : Int) = (d : Int) := by omega
    have y1 : IntKind.i64.wrap (d : Int) = (d : Int) := IntWalk.i64_in _ (by omega)
    rcases Nat.lt_trichotomy i j with hij | hij | hij
    · obtain ⟨V1, V2, rfl, f1, f2⟩ := split_at (l := V') (k := j - i) (by omega)
      obtain ⟨z, hz⟩ : ∃ z, z = m + j - i := ⟨_, rfl⟩
      have y2 : (m : Int) + (j : Int) - (i : Int) = (z : Int) := by omega
      have y3 : IntKind.i64.wrap (z : Int) = (z : Int) := IntWalk.i64_in _ (by omega)
      have y4 : IntKind.i64.wrap ((m : Int) + (j : Int)) = (m : Int) + (j : Int) := IntWalk.i64_in _ (by omega)
      obtain ⟨r, hr⟩ : ∃ r, r = j - i := ⟨_, rfl⟩
      have y5 : (j : Int) - (i : Int) = (r : Int) := by omega
      have y6 : IntKind.i64.wrap (r : Int) = (r : Int) := IntWalk.i64_in _ (by omega)
      have y7 : ¬ i = j := by omega
      have y8 : ¬ (j : Int) < (i : Int) := by omega
      have hsw := swr_parts i P' U' V1 V2 Q' d z (by omega) e2 (by rw [f2, e3]; omega) (by omega)
      have HSW := hide hsw
      have h1 : d + i ≤ n := by omega
      have h2 : z + i ≤ n := by omega
      have HH := hide (And.intro e1 (And.intro e2 (And.intro e3 (And.intro f1 (And.intro f2 hr)))))
      clear hsw hl hd hz e1 e2 e3 f1 f2 hr
      go_wp2_with (go_at_call 53; refine (swr_any wr A n c _ HO.out d z i h1 h2 _).mono ?_; rintro e w2 ⟨rfl, O2, T2⟩; have HO2 := hide O2; have HT2 := hide (HT.out.then T2); clear O2 T2)
      go_roundw
      · obtain ⟨e1, e2, e3, f1, f2, hr⟩ := HH.out
        have O3 := HO2.out
        rw [show P' ++ (U' ++ ((V1 ++ V2) ++ Q')) = P' ++ (U' ++ (V1 ++ (V2 ++ Q'))) by simp, HSW.out] at O3
        refine ⟨i, r, rfl, rfl, hi0, by omega, him, by omega, hide ⟨P', V2, V1, U' ++ Q', e1, by rw [f2, e3]; omega, by omega, O3, ?_⟩, HT2⟩
        rw [HG1.out]; simp
      · simp [intOf]
        have := HH.out.2.2.2.2.2
        omega
    · subst hij
      have hsw := swr_parts i P' U' [] V' Q' d m (by omega) e2 e3 (by simp; omega)
      have HSW := hide hsw
      have h1 : d + i ≤ n := by omega
      have h2 : m + i ≤ n := by omega
      clear hsw hl hd e1 e2 e3
      go_wp2_with (go_at_call 53; refine (swr_any wr A n c _ HO.out d m i h1 h2 _).mono ?_; rintro e w2 ⟨rfl, O2, T2⟩; have HO2 := hide O2; have HT2 := hide (HT.out.then T2); clear O2 T2)
      go_end0
      have O3 := HO2.out
      rw [show P' ++ (U' ++ (V' ++ Q')) = P' ++ (U' ++ ([] ++ (V' ++ Q'))) by simp, HSW.out] at O3
      refine ⟨rfl, ?_, HT2.out⟩
      rw [HG1.out]
      exact O3
    · obtain ⟨U1, U2, rfl, f1, f2⟩ := split_at (l := U') (k := j) (by omega)
      obtain ⟨r, hr⟩ : ∃ r, r = i - j := ⟨_, rfl⟩
      have y5 : (i : Int) - (j : Int) = (r : Int) := by omega
      have y6 : IntKind.i64.wrap (r : Int) = (r : Int) := IntWalk.i64_in _ (by omega)
      have y7 : ¬ i = j := by omega
      have y8 : (j : Int) < (i : Int) := by omega
      have hsw := swr_parts j P' U1 U2 V' Q' d m (by omega) f1 e3 (by omega)
      have HSW := hide hsw
      have h1 : d + j ≤ n := by omega
      have h2 : m + j ≤ n := by omega
      have HH := hide (And.intro e1 (And.intro e2 (And.intro e3 (And.intro f1 (And.intro f2 hr)))))
      clear hsw hl hd e1 e2 e3 f1 f2 hr
      go_wp2_with (go_at_call 53; refine (swr_any wr A n c _ HO.out d m j h1 h2 _).mono ?_; rintro e w2 ⟨rfl, O2, T2⟩; have HO2 := hide O2; have HT2 := hide (HT.out.then T2); clear O2 T2)
      go_roundw
      · obtain ⟨e1, e2, e3, f1, f2, hr⟩ := HH.out
        have O3 := HO2.out
        rw [show P' ++ ((U1 ++ U2) ++ (V' ++ Q')) = P' ++ (U1 ++ (U2 ++ (V' ++ Q'))) by simp, HSW.out] at O3
        refine ⟨r, j, rfl, rfl, by omega, hj0, by omega, hjb, hide ⟨P' ++ V', U2, U1, Q', by rw [List.length_append]; omega, by rw [f2, e2]; omega, f1, by simpa using O3, ?_⟩, HT2⟩
        rw [HG1.out]; simp
      · simp [intOf]
        have := HH.out.2.2.2.2.2
        omega

end Go.Proofs.YtdjlcgldplndiaaDoor
