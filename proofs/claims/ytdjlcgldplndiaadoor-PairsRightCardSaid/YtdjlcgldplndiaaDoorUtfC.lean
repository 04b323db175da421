/- A text's runes: letters.Runes. Conditions: the package's variable lies as its initialiser lays it; the text has no more than 2^40 bytes. -/
import Derived.Test.YtdjlcgldplndiaaDoorUtfB
import Derived.Test.YtdjlcgldplndiaaDoorRef06
namespace Go.Proofs.YtdjlcgldplndiaaDoor
open Go.RowKit

/-- A row under construction: its cells. -/
structure ONx (e size : Nat) (w0 w : World) (v : Value) (q : Nat) (xs : List Value) : Prop where
  own : w.ownsRow 0 e size v q xs
  touch : Touch (fun _ => False) w0 w
  fresh : ∀ g, v.ownBlock = some g → w0.heap.size ≤ g
theorem ONx.nil (e size : Nat) (w : World) : ONx e size w w (.slice none 0 0) 0 [] := ⟨World.ownsRow_nil _ _ _ _, Touch.refl _ _, fun g h => by simp [Value.ownBlock] at h⟩
theorem ONx.to {e size : Nat} {w0 w w2 : World} {v : Value} {q : Nat} {xs : List Value} (h : ONx e size w0 w v q xs) (t : Touch (fun _ => False) w w2) : ONx e size w0 w2 v q xs :=
  ⟨own_touch h.own t (fun _ _ f => f), h.touch.then t, h.fresh⟩
theorem ONx.app {e size m : Nat} {w0 w1 w3 : World} {v v' : Value} {q : Nat} {xs ys : List Value} (h : ONx e size w0 w1 v q xs) (ho : w3.ownsRow 0 e size v' (q + m) (xs ++ ys)) (hg : w1.grownBy w3 v.ownBlock) (hf : Fresh w1 v v') : ONx e size w0 w3 v' (q + m) (xs ++ ys) := by
  refine ⟨ho, h.touch.app hg (fun g hg hlt => by have := h.fresh g hg; omega), ?_⟩
  intro g hg
  rcases hf with e | ⟨g', e, hg'⟩
  · rw [e] at hg; exact h.fresh g hg
  · rw [hg] at e
    injection e with e
    have := h.touch.size
    omega

def runeV (r : Nat) : Value := .int .i32 (r : Int)
def runesF : Nat → List UInt8 → Option (List Nat)
  | _, [] => some []
  | 0, _ :: _ => none
  | f + 1, b :: t => if (utf1 (b :: t)).2 = 0 then none else (runesF f ((b :: t).drop (utf1 (b :: t)).2)).map ((utf1 (b :: t)).1 :: ·)
/-- A text's runes, if its bytes are a writing of some. -/
def runesU (bs : List UInt8) : Option (List Nat) := runesF bs.length bs
theorem runesF_fuel (f : Nat) : ∀ bs : List UInt8, bs.length ≤ f → ∀ g, bs.length ≤ g → runesF f bs = runesF g bs := by
  induction f with
  | zero => intro bs h g _; cases bs with
    | nil => cases g <;> rfl
    | cons b t => simp at h
  | succ f ih =>
    intro bs h g hg
    cases bs with
    | nil => cases g <;> rfl
    | cons b t =>
      cases g with
      | zero => simp at hg
      | succ g =>
        simp only [runesF]
        by_cases hn : (utf1 (b :: t)).2 = 0
        · rw [if_pos hn, if_pos hn]
        · rw [if_neg hn, if_neg hn]
          congr 1
          have hl : ((b :: t).drop (utf1 (b :: t)).2).length ≤ t.length := by
            rw [List.length_drop, List.length_cons]
            omega
          simp only [List.length_cons] at h hg
          exact ih _ (by omega) g (by omega)
theorem runesU_nil : runesU [] = some [] := rfl
theorem runesU_step {bs : List UInt8} (h : 0 < bs.length) : runesU bs = if (utf1 bs).2 = 0 then none else (runesU (bs.drop (utf1 bs).2)).map ((utf1 bs).1 :: ·) := by
  cases bs with
  | nil => simp at h
  | cons b t =>
    show runesF (t.length + 1) (b :: t) = _
    simp only [runesF]
    by_cases hn : (utf1 (b :: t)).2 = 0
    · rw [if_pos hn, if_pos hn]
    · rw [if_neg hn, if_neg hn]
      congr 1
      refine runesF_fuel _ _ ?_ _ (Nat.le_refl _)
      rw [List.length_drop, List.length_cons]
      omega
theorem tlU_lt (t : List UInt8) : ∀ r q, tlU r t = some q → q < (r + 1) * 64 ^ t.length := by
  induction t with
  | nil => intro r q h; simp [tlU] at h; subst h; simp
  | cons c t ih =>
    intro r q h
    simp only [tlU] at h
    split at h
    · have h1 := ih _ _ h
      have h2 : r * 64 + c.toNat % 64 + 1 ≤ (r + 1) * 64 := by omega
      rw [List.length_cons, Nat.pow_succ, Nat.mul_comm (64 ^ t.length) 64, ← Nat.mul_assoc]
      exact Nat.lt_of_lt_of_le h1 (Nat.mul_le_mul_right _ h2)
    · cases h
theorem seqU_le (r0 k least : Nat) (t : List UInt8) : (seqU r0 k least t).2 ≤ t.length + 1 := by
  unfold seqU
  split
  · simp
  · split
    · simp
    · split
      · simp
      · split
        · simp only; omega
        · simp
theorem utf1_le (bs : List UInt8) : (utf1 bs).2 ≤ bs.length := by
  cases bs with
  | nil => simp [utf1]
  | cons b t =>
    simp only [utf1, List.length_cons]
    split
    · simp only; omega
    · split
      · exact seqU_le _ _ _ _
      · split
        · exact seqU_le _ _ _ _
        · split
          · exact seqU_le _ _ _ _
          · simp

theorem infoRune : (Tryd.prog.info? 21).map (fun i => (i.zero, i.size, i.bytes)) = some (some (.int .i32 0), 1, 4) := by kernel_rfl
theorem extract_drop (s : ByteArray) (n : Nat) (h : n ≤ s.size) : (s.extract n s.size).toList = s.toList.drop n := by
  rw [Go.ByteArray.toList_eq, Go.ByteArray.toList_eq, ByteArray.data_extract]
  simp only [Array.toList_extract, List.extract_eq_take_drop]
  refine List.take_of_length_le ?_
  rw [List.length_drop, Array.length_toList]
  exact Nat.le_refl _
theorem onecell_runes (O : List Nat) : ∀ u ∈ O.map runeV, u.oneCell' = true := by
  intro u hu
  obtain ⟨_, _, rfl⟩ := List.mem_map.1 hu
  rfl

set_option maxRecDepth 100000 in
set_option maxHeartbeats 2000000 in
theorem runes_any (w : World) (S : ByteArray) (hm : S.size ≤ 1099511627776) (hL : Lst w) :
    Calls Tryd.prog 32 #[.string S] w fun e w' => ∃ A q c O ok, e = .returned (.tuple #[.slice A q c, .bool ok]) ∧ ONx 21 1 w w' (.slice A q c) q (O.map runeV) ∧ O.length = q ∧ q ≤ S.size ∧ runesU S.toList = (if ok = true then some O else none) := by
  obtain ⟨i0, hi, hz0, hz1, hz2⟩ := info_parts infoRune
  have HL := hide hL
  clear hL
  go_enter Tryd.func32, Tryd.ntmps32
  go_wp2
  go_loopw [0, 4] (fun sv ov wr => ∃ (s : ByteArray) (q : Nat) (A3 : Option Addr) (c3 : Nat) (O : List Nat), sv = .string s ∧ ov = .slice A3 q c3 ∧ q + s.size ≤ S.size ∧ s.size ≤ 1099511627776 ∧ Hid (ONx 21 1 w wr (.slice A3 q c3) q (O.map runeV) ∧ O.length = q) ∧ Hid (runesU S.toList = (runesU s.toList).map (O ++ ·))) (fun sv _ _ => match sv with | .string s => s.size | _ => 0)
  case atStart => exact ⟨S, 0, none, 0, [], rfl, rfl, by omega, hm, hide ⟨ONx.nil _ _ _, rfl⟩, hide (by cases runesU S.toList <;> rfl)⟩
  case round =>
    obtain ⟨s, q, A3, c3, O, rfl, rfl, hqs, hsb, HO, HR⟩ := hrel
    by_cases hz : 0 < s.size
    · have y0 : (0 : Int) < (s.size : Int) := by omega
      have hst := runesU_step (bs := s.toList) (by rw [toList_len]; exact hz)
      have hle := utf1_le s.toList
      rw [toList_len] at hle
      have HF := hide (first_any wr s hz (by omega) (HL.out.touch HO.out.1.touch))
      obtain ⟨⟨r, n⟩, hx⟩ : ∃ x, utf1 s.toList = x := ⟨_, rfl⟩
      rw [hx] at hst hle HF
      simp only at hst hle HF
      have HST := hide hst
      clear hst hx
      by_cases hn : n = 0
      · subst hn
        go_wp2_with fail
        refine HF.out.mono ?_
        rintro e w1 ⟨rfl, T1⟩
        have HT1 := hide T1
        clear T1
        go_wp2_with fail
        have hres : runesU S.toList = none := by rw [HR.out, HST.out]; rfl
        exact bodyPost_ret (v := .tuple #[.slice none 0 0, .bool false]) (by simp [results, Tryd.results32, go_sem]) rfl ⟨none, 0, 0, [], false, rfl, (ONx.nil _ _ _).to (HO.out.1.touch.then HT1.out), rfl, Nat.zero_le _, hres⟩
      · have n1 : ((n : Int) == 0) = false := by simp [hn]
        have n2 : (0 : Int) ≤ (n : Int) := by omega
        have n3 : (n : Int) ≤ (s.size : Int) := by omega
        go_wp2_with fail
        refine HF.out.mono ?_
        rintro e w1 ⟨rfl, T1⟩
        have HO1 := hide (HO.out.1.to T1)
        clear T1
        go_wp2_with (at_builtin; refine wpList_app _ rfl (.tmp 17) (.tmp 19) 44 rfl 21 i0 _ 1 4 Tryd.underlying44 hi hz0 hz1 hz2 rfl (by decide) (.slice A3 q c3) q _ rfl (own_touch HO1.out.own ((Touch.refl _ _).alloc _) (fun _ _ f => f)) (some ⟨_, 0, none⟩) 1 1 [runeV r] rfl ?sa ?sb ?sc ?sd ?se ?_)
        case sa => exact Reads.new _ _ _ _ rfl
        try (case sb => exact fun h => by cases h)
        case sc => exact List.all_eq_true.1 rfl
        case sd => unfold maxLen; omega
        case se => omega
        intro v4 w4 hown hgrow hfr _
        have N4 := (HO1.out.to ((Touch.refl _ _).alloc _)).app hown hgrow hfr
        obtain ⟨A4, c4, rfl, _, _⟩ := own_len hown
        have HN4 := hide N4
        clear N4 hown hgrow hfr
        go_wp2_with fail
        go_roundw
        · refine ⟨s.extract n s.size, q + 1, A4, c4, O ++ [r], rfl, rfl, ?_, ?_, hide ⟨?_, ?_⟩, hide ?_⟩
          · simp; omega
          · simp; omega
          · have := HN4.out
            rw [List.map_append]
            exact this
          · rw [List.length_append, HO.out.2]; rfl
          · rw [HR.out, HST.out, if_neg hn, extract_drop s n hle, Option.map_map]
            congr 1
            funext l
            simp
        · show (s.extract n s.size).size < s.size
          simp
          omega
    · have hz0 : s.toList = [] := List.eq_nil_of_length_eq_zero (by rw [toList_len]; omega)
      have y0 : ¬ (0 : Int) < (s.size : Int) := by omega
      have hres : runesU S.toList = some O := by rw [HR.out, hz0, runesU_nil]; simp
      have HRES := hide hres
      clear hres hz0
      go_wp2_with fail
      exact bodyPost_ret (v := .tuple #[.slice A3 q c3, .bool true]) (by simp [results, Tryd.results32, go_sem]) rfl ⟨A3, q, c3, O, .inr ⟨rfl, HO.out.1, HO.out.2, by omega, HRES.out⟩⟩

end Go.Proofs.YtdjlcgldplndiaaDoor
