/- abecedaryref06.Find. No condition. -/
import Derived.Test.YtdjlcgldplndiaaDoorMergesW
namespace Go.Proofs.YtdjlcgldplndiaaDoor
open Go.RowKit

theorem key_cons (k : List UInt8) (x : PRow) (l : List PRow) : key k (x :: l) = if x.word.toList = k then x :: key k l else key k l := by
  by_cases h : x.word.toList = k
  · simp [key, h]
  · simp [key, h]

/-- A word's last weight; whether there is one. -/
def findP (k : List UInt8) (L : List PRow) : Int × Bool := match (key k L).getLast? with | some p => (p.weight, true) | none => (0, false)

theorem find_hit {L : List PRow} {i : Nat} (hi : i < L.length) (k : List UInt8) (hk : (L.getD i PRow.zero).word.toList = k) (hd : key k (L.drop (i + 1)) = []) : findP k L = ((L.getD i PRow.zero).weight, true) := by
  have e2 : L.getD i PRow.zero = L[i] := by simp [List.getD, hi]
  have e : L = L.take i ++ (L[i] :: L.drop (i + 1)) := by rw [← List.drop_eq_getElem_cons hi, List.take_append_drop]
  have e3 : key k (L[i] :: L.drop (i + 1)) = [L[i]] := by
    rw [key_cons, if_pos (by rw [← e2]; exact hk), hd]
  have e4 : key k L = key k (L.take i) ++ [L[i]] := by
    rw [← e3, ← key_app, ← e]
  unfold findP
  rw [e4, e2]
  simp
theorem find_miss {L : List PRow} {i : Nat} (hi : i < L.length) (k : List UInt8) (hk : ¬ (L.getD i PRow.zero).word.toList = k) (hd : key k (L.drop (i + 1)) = []) : key k (L.drop i) = [] := by
  have e2 : L.getD i PRow.zero = L[i] := by simp [List.getD, hi]
  rw [List.drop_eq_getElem_cons hi]
  rw [key_cons, if_neg (by rw [← e2]; exact hk), hd]

set_option maxRecDepth 100000 in
set_option maxHeartbeats 1000000 in
theorem rfind_any (w : World) (A : Option Addr) (n c : Nat) (L : List PRow) (hL : L.length = n) (hR : Reads w 2 A n (pCells L)) (hn : n ≤ maxLen) (k : ByteArray) :
    Calls Tryd.prog 20 #[.slice A n c, .string k] w fun e w' => e = .returned (.tuple #[.int .i64 (findP k.toList L).1, .bool (findP k.toList L).2]) ∧ Touch (fun _ => False) w w' := by
  unfold maxLen at hn
  have HR := hide hR
  have HL := hide hL
  clear hR hL
  have hcn : n = 0 ∨ ∃ m, n = m + 1 := by cases n <;> simp
  have hstart : ∃ z : Int, (n : Int) - 1 = z ∧ ((z = -1 ∧ n = 0) ∨ ∃ i : Nat, z = (i : Int) ∧ n = i + 1) := by
    rcases hcn with h | ⟨m, h⟩
    · exact ⟨-1, by omega, .inl ⟨rfl, h⟩⟩
    · exact ⟨(m : Int), by omega, .inr ⟨m, rfl, h⟩⟩
  obtain ⟨z, hz, hzz⟩ := hstart
  have hw : IntKind.i64.wrap z = z := IntWalk.i64_in _ (by omega)
  have HZ := hide hzz
  clear hcn hzz
  go_enter Tryd.func20, Tryd.ntmps20
  go_wp2
  go_loopw [6] (fun iv wr => ∃ (z : Int) (q : Nat), iv = .int .i64 z ∧ q ≤ n ∧ Hid ((z = -1 ∧ q = 0) ∨ ∃ i : Nat, z = (i : Int) ∧ q = i + 1) ∧ Hid (key k.toList (L.drop q) = []) ∧ Hid (Touch (fun _ => False) w wr)) (fun iv _ => (intOf iv + 1).toNat)
  case atStart => exact ⟨z, n, rfl, Nat.le_refl _, HZ, hide (by rw [List.drop_of_length_le (by rw [HL.out]; exact Nat.le_refl _)]; rfl), hide (Touch.refl _ _)⟩
  case round =>
    obtain ⟨z, q, rfl, hq, HZQ, HD, HT⟩ := hrel
    rcases HZQ.out with ⟨rfl, rfl⟩ | ⟨i, rfl, rfl⟩
    · clear HZQ
      go_wp2
      have hf : findP k.toList L = (0, false) := by
        have := HD.out
        rw [List.drop_zero] at this
        unfold findP
        rw [this]
        rfl
      rw [hf]
      exact bodyPost_ret (v := .tuple #[.int .i64 0, .bool false]) (by simp [results, Tryd.results20, go_sem]) rfl ⟨rfl, HT.out⟩
    · clear HZQ
      have y0 : ¬ (i : Int) < 0 := by omega
      have y1 : (0 : Int) ≤ (i : Int) := by omega
      have y2 : i < n := by omega
      have y3 : (i : Int) < (n : Int) := by omega
      obtain ⟨g, o, hA, hg, a0, a1⟩ := preads_at (HR.out.touch HT.out (fun _ _ f => f)) HL.out.symm i y2
      subst hA
      have hhit := find_hit (L := L) (i := i) (by rw [HL.out]; exact y2) k.toList
      have hmiss := find_miss (L := L) (i := i) (by rw [HL.out]; exact y2) k.toList
      obtain ⟨⟨xw, xn⟩, hx⟩ : ∃ x, x = L.getD i PRow.zero := ⟨_, rfl⟩
      rw [← hx] at a0 a1 hhit hmiss
      simp only at a0 a1 hhit hmiss
      have HH := hide hhit
      have HM := hide hmiss
      clear hx hhit hmiss
      by_cases hk : xw.toList = k.toList
      · have q2 : (xw.toList == k.toList) = true := by simp [hk]
        have HK := hide hk
        go_wp2
        rw [HH.out HK.out HD.out]
        exact bodyPost_ret (v := .tuple #[.int .i64 xn, .bool true]) (by simp [results, Tryd.results20, go_sem]) rfl ⟨rfl, HT.out⟩
      · have q2 : (xw.toList == k.toList) = false := by simp [hk]
        have q3 : decide (xw.toList = k.toList) = false := by simp [hk]
        have HK := hide hk
        obtain ⟨z2, hz2⟩ : ∃ z2 : Int, (i : Int) - 1 = z2 := ⟨_, rfl⟩
        have hw2 : IntKind.i64.wrap z2 = z2 := IntWalk.i64_in _ (by omega)
        have HZ2 := hide hz2
        go_wp2
        go_roundw
        · have hz2 := HZ2.out
          refine ⟨z2, i, rfl, by omega, hide ?_, hide (HM.out HK.out HD.out), HT⟩
          by_cases hi0 : i = 0
          · exact .inl ⟨by omega, hi0⟩
          · exact .inr ⟨i - 1, by omega, by omega⟩
        · have hz2 := HZ2.out
          show (z2 + 1).toNat < ((i : Int) + 1).toNat
          omega

end Go.Proofs.YtdjlcgldplndiaaDoor
