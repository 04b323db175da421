/- The stable sort. No condition but that the row is the program's own and not beyond 2^40 pairs. -/
import Derived.Test.YtdjlcgldplndiaaDoorSortF
namespace Go.Proofs.YtdjlcgldplndiaaDoor
open Go.RowKit

def Bl (bs : Nat) (Bs : List (List PRow)) : Prop := ∀ B ∈ Bs, B.length = bs ∧ SrtP B
theorem bl_len {bs : Nat} {Bs : List (List PRow)} (h : Bl bs Bs) : Bs.flatten.length = Bs.length * bs := by
  induction Bs with
  | nil => simp
  | cons B Bs ih =>
    have h1 := (h B (by simp)).1
    have h2 := ih (fun C hC => h C (by simp [hC]))
    simp only [List.flatten_cons, List.length_append, List.length_cons, h1, h2, Nat.succ_mul]
    omega
theorem bl_snoc {bs : Nat} {Bs : List (List PRow)} {Z : List PRow} (h : Bl bs Bs) (hZ : Z.length = bs) (hs : SrtP Z) : Bl bs (Bs ++ [Z]) := by
  intro B hB
  rcases List.mem_append.1 hB with hB | hB
  · exact h B hB
  · simp at hB; subst hB; exact ⟨hZ, hs⟩
theorem flatten_snoc (Bs : List (List PRow)) (Z : List PRow) : (Bs ++ [Z]).flatten = Bs.flatten ++ Z := by simp

/-- None, one, or two at least. -/
theorem bl_cases {bs : Nat} {Bs : List (List PRow)} (h : Bl bs Bs) : (Bs = [] ∧ Bs.flatten.length = 0) ∨ (∃ B, Bs = [B] ∧ Bs.flatten.length = bs ∧ B.length = bs ∧ SrtP B) ∨ ∃ B1 B2 Bs', Bs = B1 :: B2 :: Bs' ∧ 2 * bs ≤ Bs.flatten.length := by
  have hl := bl_len h
  rcases Bs with _ | ⟨B1, _ | ⟨B2, Bs'⟩⟩
  · exact .inl ⟨rfl, rfl⟩
  · refine .inr (.inl ⟨B1, rfl, ?_, h B1 (by simp)⟩)
    rw [hl]; exact Nat.one_mul bs
  · refine .inr (.inr ⟨B1, B2, Bs', rfl, ?_⟩)
    rw [hl]
    exact Nat.mul_le_mul_right bs (by simp)

/-- What the sort makes. -/
def SoPost (w : World) (A : Option Addr) (n c : Nat) (X : List PRow) (e : Ending) (w' : World) : Prop :=
  e = .returned (.tuple #[]) ∧ (∃ Z, POwn w' A n c Z ∧ SrtP Z ∧ SameK X Z) ∧ Touch (fun g => adBlock A = some g) w w'

set_option maxRecDepth 100000 in
set_option maxHeartbeats 2000000 in
theorem stable_any (w : World) (A : Option Addr) (n c : Nat) (X : List PRow) (h : POwn w A n c X) (hn62 : n ≤ 5864062014700) :
    Calls Tryd.prog 43 #[.slice A n c, .int .i64 n, cmpF] w (SoPost w A n c X) := by
  have HX := hide h
  clear h
  go_enter Tryd.func43, Tryd.ntmps43
  go_wp2
  go_loopw [7, 8] (fun av bv wr => ∃ a b : Nat, av = .int .i64 a ∧ bv = .int .i64 b ∧ b = a + 20 ∧ a ≤ n ∧ Hid (∃ Bs T, Bl 20 Bs ∧ Bs.flatten.length = a ∧ POwn wr A n c (Bs.flatten ++ T) ∧ SameK X (Bs.flatten ++ T)) ∧ Hid (Touch (fun g => adBlock A = some g) w wr)) (fun _ bv _ => n + 21 - (intOf bv).toNat)
  case atStart => exact ⟨0, 20, rfl, rfl, rfl, Nat.zero_le _, hide ⟨[], X, (fun B hB => by cases hB), rfl, HX.out, SameK.refl _⟩, hide (Touch.refl _ _)⟩
  case round =>
    obtain ⟨a, b, rfl, rfl, hab, han, HE, HT⟩ := hrel
    by_cases h0 : b ≤ n
    · have y0 : (b : Int) ≤ (n : Int) := by omega
      obtain ⟨Bs, T, hB, hl, O1, K1⟩ := HE.out
      have hlen := pown_len O1
      rw [List.length_append] at hlen
      obtain ⟨B, T', rfl, t1, t2⟩ := split_at (l := T) (k := 20) (by omega)
      obtain ⟨Z, z1, z2, z3⟩ := ins_whole Bs.flatten B T' a b hl.symm (by omega)
      have HZ := hide (And.intro z1 (And.intro z2 z3))
      have HBB := hide hB
      have HL := hide (And.intro hl (And.intro t1 hab))
      have HK := hide K1
      have hab' : a ≤ b := by omega
      have HIS := hide (isort_any wr A n c _ O1 a b hab' h0 (by omega))
      clear hB hl O1 K1 hlen t1 t2 z1 z2 z3 HE
      obtain ⟨b2, hb2⟩ : ∃ b2, b2 = b + 20 := ⟨_, rfl⟩
      have y1 : (b : Int) + 20 = (b2 : Int) := by omega
      have y2 : IntKind.i64.wrap (b2 : Int) = (b2 : Int) := IntWalk.i64_in _ (by omega)
      have HB2 := hide hb2
      clear hb2 hab
      go_wp2_with (go_at_call 49; refine HIS.out.mono ?_; rintro e w2 ⟨rfl, O2, T2⟩; have HO2 := hide O2; have HT2 := hide (HT.out.then T2); clear O2 T2)
      go_roundw
      · obtain ⟨hl, t1, hab⟩ := HL.out
        obtain ⟨z1, z2, z3⟩ := HZ.out
        have O3 := HO2.out
        rw [z1] at O3
        have lz : Z.length = 20 := by
          have h1 := pown_len O3
          have h2 := congrArg List.length z1
          rw [insF_len] at h2
          simp only [List.length_append] at h1 h2
          omega
        refine ⟨b, b2, rfl, rfl, HB2.out, h0, hide ⟨Bs ++ [Z], T', bl_snoc HBB.out lz z2, by rw [flatten_snoc, List.length_append]; omega, by rw [flatten_snoc]; simpa using O3, ?_⟩, HT2⟩
        rw [flatten_snoc]
        refine HK.out.trans ?_
        have := (SameK.refl Bs.flatten).app (z3.app (SameK.refl T'))
        simpa using this
      · simp [intOf]
        have := HB2.out
        omega
    · obtain ⟨Bs, T, hB, hl, O1, K1⟩ := HE.out
      have hlen := pown_len O1
      rw [List.length_append] at hlen
      obtain ⟨Z, z1, z2, z3⟩ := ins_whole Bs.flatten T [] a n hl.symm (by omega)
      rw [List.append_nil, List.append_nil] at z1
      have HIS := hide (isort_any wr A n c _ O1 a n han (Nat.le_refl _) (by omega))
      have HZ := hide (And.intro z1 (And.intro z2 z3))
      have HBB := hide hB
      have HK := hide K1
      have HL := hide (And.intro hl (And.intro hlen hab))
      have y0 : ¬ (b : Int) ≤ (n : Int) := by omega
      clear hB hl O1 K1 hlen z1 z2 z3 HE hab h0
      go_wp2_with (go_at_call 49; refine HIS.out.mono ?_; rintro e w2 ⟨rfl, O2, T2⟩; have HO2 := hide O2; have HT2 := hide (HT.out.then T2); clear O2 T2)
      have HS : Hid (∃ Bs T, Bl 20 Bs ∧ SrtP T ∧ T.length < 20 ∧ POwn w2 A n c (Bs.flatten ++ T) ∧ SameK X (Bs.flatten ++ T)) := hide (by
        obtain ⟨hl, hlen, hab⟩ := HL.out
        obtain ⟨z1, z2, z3⟩ := HZ.out
        have O3 := HO2.out
        rw [z1] at O3
        have h1 := pown_len O3
        have h2 := congrArg List.length z1
        rw [insF_len] at h2
        simp only [List.length_append] at h1 h2
        exact ⟨Bs, Z, HBB.out, z2, by omega, O3, HK.out.trans ((SameK.refl _).app z3)⟩)
      clear HIS HZ HBB HK HL HO2 HT
      obtain ⟨w0, hw0⟩ : ∃ w0, w0 = w2 := ⟨_, rfl⟩
      rw [← hw0] at HS HT2 ⊢
      clear hw0
      go_loopw [6] (fun sv wr => ∃ bs : Nat, sv = .int .i64 bs ∧ 0 < bs ∧ bs ≤ n + n + 20 ∧ Hid (∃ Bs T, Bl bs Bs ∧ SrtP T ∧ T.length < bs ∧ POwn wr A n c (Bs.flatten ++ T) ∧ SameK X (Bs.flatten ++ T)) ∧ Hid (Touch (fun g => adBlock A = some g) w wr)) (fun sv _ => n - (intOf sv).toNat)
      case atStart => exact ⟨20, rfl, by omega, by omega, HS, HT2⟩
      case round =>
        obtain ⟨bs, rfl, hbs, hbs2, HE, HT3⟩ := hrel
        by_cases h1 : bs < n
        · have x0 : (bs : Int) < (n : Int) := by omega
          obtain ⟨d, hd⟩ : ∃ d, d = 2 * bs := ⟨_, rfl⟩
          have x1 : (2 : Int) * (bs : Int) = (d : Int) := by omega
          have x2 : (bs : Int) * 2 = (d : Int) := by omega
          have x3 : IntKind.i64.wrap (d : Int) = (d : Int) := IntWalk.i64_in _ (by omega)
          have HD := hide hd
          have hd2 : d ≤ n + n := by omega
          clear hd
          go_wp2
          obtain ⟨wo, rfl⟩ : ∃ wo : World, wo = wr := ⟨_, rfl⟩
          go_loopw [7, 8] (fun av bv wr => ∃ a b : Nat, av = .int .i64 a ∧ bv = .int .i64 b ∧ b = a + d ∧ a ≤ n ∧ Hid (∃ Ds Bs T, Bl d Ds ∧ Ds.flatten.length = a ∧ Bl bs Bs ∧ SrtP T ∧ T.length < bs ∧ POwn wr A n c (Ds.flatten ++ (Bs.flatten ++ T)) ∧ SameK X (Ds.flatten ++ (Bs.flatten ++ T))) ∧ Hid (Touch (fun g => adBlock A = some g) w wr)) (fun av _ _ => n + 1 - (intOf av).toNat)
          case atStart =>
            obtain ⟨Bs, T, q1, q2, q3, q4, q5⟩ := HE.out
            exact ⟨0, d, rfl, rfl, by omega, Nat.zero_le _, hide ⟨[], Bs, T, (fun B hB => by cases hB), rfl, q1, q2, q3, q4, q5⟩, HT3⟩
          case round =>
            obtain ⟨a, b, rfl, rfl, hab, han, HE2, HT4⟩ := hrel
            obtain ⟨Ds, Bs, T, q1, q2, q3, q4, q5, q6, q7⟩ := HE2.out
            have hlen := pown_len q6
            have hbl := bl_len q3
            simp only [List.length_append] at hlen
            have hdd := HD.out
            obtain ⟨m, hm⟩ : ∃ m, m = a + bs := ⟨_, rfl⟩
            have w0 : (a : Int) + (bs : Int) = (m : Int) := by omega
            have w1 : IntKind.i64.wrap (m : Int) = (m : Int) := IntWalk.i64_in _ (by omega)
            by_cases h2 : b ≤ n
            · have y0 : (b : Int) ≤ (n : Int) := by omega
              have hB2 : ∃ B1 B2 Bs', Bs = B1 :: B2 :: Bs' := by
                rcases bl_cases q3 with ⟨_, e⟩ | ⟨B, _, e, _⟩ | ⟨B1, B2, Bs', e, _⟩
                · omega
                · omega
                · exact ⟨B1, B2, Bs', e⟩
              obtain ⟨B1, B2, Bs', rfl⟩ := hB2
              obtain ⟨c1, s1⟩ := q3 B1 (by simp)
              obtain ⟨c2, s2⟩ := q3 B2 (by simp)
              have q3' : Bl bs Bs' := fun B hB => q3 B (by simp [hB])
              have e1 : Ds.flatten ++ ((B1 :: B2 :: Bs').flatten ++ T) = Ds.flatten ++ (B1 ++ (B2 ++ (Bs'.flatten ++ T))) := by simp
              rw [e1] at q6 q7
              have HSM := hide (sm_any A n c hn62 _ wr Ds.flatten B1 B2 (Bs'.flatten ++ T) a m b q6 q2.symm (by omega) (by omega) (by omega) (by omega) s1 s2 (Nat.le_refl _))
              have HK := hide q7
              have HP := hide (And.intro q1 (And.intro q2 (And.intro q3' (And.intro q4 q5))))
              have HC := hide (And.intro c1 (And.intro c2 (And.intro hlen hab)))
              obtain ⟨b2, hb2⟩ : ∃ b2, b2 = b + d := ⟨_, rfl⟩
              have y1 : (b : Int) + (d : Int) = (b2 : Int) := by omega
              have y2 : IntKind.i64.wrap (b2 : Int) = (b2 : Int) := IntWalk.i64_in _ (by omega)
              have HB2 := hide hb2
              have hab3 : a < b := by omega
              clear q1 q2 q3 q4 q5 q6 q7 hlen hbl hdd hm e1 c1 c2 s1 s2 q3' HE2 hb2 hab
              go_wp2_with (go_at_call 50; refine HSM.out.mono ?_; rintro e w2 ⟨rfl, ⟨Z, O2, s2, k2⟩, T2⟩; have HO2 := hide O2; have HK2 := hide (And.intro s2 k2); have HT5 := hide (HT4.out.then T2); clear O2 T2 s2 k2)
              go_roundw
              · obtain ⟨q1, q2, q3', q4, q5⟩ := HP.out
                obtain ⟨c1, c2, hlen, hab⟩ := HC.out
                have hl2 := pown_len HO2.out
                have hdd := HD.out
                simp only [List.length_append, List.flatten_cons] at hlen hl2
                have lz : Z.length = d := by omega
                refine ⟨b, b2, rfl, rfl, HB2.out, h2, hide ⟨Ds ++ [Z], Bs', T, bl_snoc q1 lz HK2.out.1, by rw [flatten_snoc, List.length_append]; omega, q3', q4, q5, by rw [flatten_snoc]; simpa using HO2.out, ?_⟩, HT5⟩
                rw [flatten_snoc]
                refine HK.out.trans ?_
                have := (SameK.refl Ds.flatten).app (HK2.out.2.app (SameK.refl (Bs'.flatten ++ T)))
                simpa using this
              · simp [intOf]
                omega
            · have y0 : ¬ (b : Int) ≤ (n : Int) := by omega
              have hB2 : (Bs = [] ∧ Bs.flatten.length = 0) ∨ ∃ B, Bs = [B] ∧ Bs.flatten.length = bs ∧ B.length = bs ∧ SrtP B := by
                rcases bl_cases q3 with e | e | ⟨B1, B2, Bs', _, e⟩
                · exact .inl e
                · exact .inr e
                · omega
              by_cases h3 : m < n
              · have y1 : (m : Int) < (n : Int) := by omega
                have hB3 : ∃ B, Bs = [B] ∧ Bs.flatten.length = bs ∧ B.length = bs ∧ SrtP B := by
                  rcases hB2 with ⟨_, e⟩ | e
                  · omega
                  · exact e
                obtain ⟨B, rfl, c0, c1, s1⟩ := hB3
                have e1 : Ds.flatten ++ ([B].flatten ++ T) = Ds.flatten ++ (B ++ (T ++ [])) := by simp
                rw [e1] at q6 q7
                have HSM := hide (sm_any A n c hn62 _ wr Ds.flatten B T [] a m n q6 q2.symm (by omega) (by omega) (by omega) (by omega) s1 q4 (Nat.le_refl _))
                have HK := hide q7
                have HP := hide (And.intro q1 (And.intro q2 hab))
                clear q1 q2 q3 q4 q5 q6 q7 hlen hbl hdd hm e1 c0 c1 s1 HE2 hab h3 hB2
                go_wp2_with (go_at_call 50; refine HSM.out.mono ?_; rintro e w2 ⟨rfl, ⟨Z, O2, s2, k2⟩, T2⟩; have HO2 := hide O2; have HK2 := hide (And.intro s2 k2); have HT5 := hide (HT4.out.then T2); clear O2 T2 s2 k2)
                go_roundw
                · obtain ⟨q1, q2, hab⟩ := HP.out
                  have hl2 := pown_len HO2.out
                  have hdd := HD.out
                  simp only [List.length_append, List.length_nil] at hl2
                  refine ⟨d, rfl, by omega, by omega, hide ⟨Ds, Z, q1, HK2.out.1, by omega, by simpa using HO2.out, ?_⟩, HT5⟩
                  refine HK.out.trans ?_
                  have := (SameK.refl Ds.flatten).app (HK2.out.2.app (SameK.refl ([] : List PRow)))
                  simpa using this
                · have := HD.out
                  show n - (d : Int).toNat < n - (bs : Int).toNat
                  omega
              · have y1 : ¬ (m : Int) < (n : Int) := by omega
                have HS2 : Hid (∃ Bs T, Bl d Bs ∧ SrtP T ∧ T.length < d ∧ POwn wr A n c (Bs.flatten ++ T) ∧ SameK X (Bs.flatten ++ T)) := hide (by
                  rcases hB2 with ⟨rfl, _⟩ | ⟨B, rfl, c0, c1, s1⟩
                  · simp only [List.flatten_nil, List.nil_append] at q6 q7
                    exact ⟨Ds, T, q1, q4, by omega, q6, q7⟩
                  · have e1 : T = [] := List.eq_nil_of_length_eq_zero (by omega)
                    subst e1
                    simp at q6 q7
                    exact ⟨Ds, B, q1, s1, by omega, q6, q7⟩)
                clear q1 q2 q3 q4 q5 q6 q7 hlen hbl hdd hm HE2 hab h3 hB2
                go_wp2
                go_roundw
                · have hdd := HD.out
                  exact ⟨d, rfl, by omega, by omega, HS2, HT4⟩
                · have := HD.out
                  show n - (d : Int).toNat < n - (bs : Int).toNat
                  omega
        · have x0 : ¬ (bs : Int) < (n : Int) := by omega
          obtain ⟨Bs, T, q1, q2, q3, q4, q5⟩ := HE.out
          have hlen := pown_len q4
          have hbl := bl_len q1
          rw [List.length_append] at hlen
          have hfin : SrtP (Bs.flatten ++ T) := by
            rcases bl_cases q1 with ⟨rfl, _⟩ | ⟨B, rfl, c0, c1, s1⟩ | ⟨B1, B2, Bs', _, e⟩
            · simpa using q2
            · have e1 : T = [] := List.eq_nil_of_length_eq_zero (by omega)
              subst e1
              simpa using s1
            · omega
          have HFI := hide (And.intro q4 (And.intro hfin q5))
          clear q1 q2 q3 q4 q5 hlen hbl hfin HE
          go_wp2
          go_end0
          exact ⟨rfl, ⟨_, HFI.out.1, HFI.out.2.1, HFI.out.2.2⟩, HT3.out⟩

theorem sortfunc_any (w : World) (A : Option Addr) (n c : Nat) (X : List PRow) (h : POwn w A n c X) (hn62 : n ≤ 5864062014700) :
    Calls Tryd.prog 36 #[.slice A n c, cmpF] w (SoPost w A n c X) := by
  have HX := hide (stable_any w A n c X h hn62)
  clear h
  go_enter Tryd.func36, Tryd.ntmps36
  go_wp2_with (go_at_call 43; refine HX.out.mono ?_; rintro e w2 ⟨rfl, H2, T2⟩; have HZ := hide H2; have HT := hide T2; clear H2 T2)
  go_end0
  exact ⟨rfl, HZ.out, HT.out⟩

end Go.Proofs.YtdjlcgldplndiaaDoor
