/- heap.Push and heap.Pop on a pile of matches. -/
import Derived.Test.YtcencmjdhaejcaaPileC
namespace Go.Proofs.Ytcencmjdhaejcaa
open Go.RowKit

theorem pfp_fresh {w : World} {p : Nat} {v v1 : Value} (hf : Fresh w v v1) : ∀ i, i < w.heap.size → pfp p v1 i → pfp p v i := by
  rintro i hi (rfl | h)
  · exact .inl rfl
  · rcases hf with e | ⟨g, e, hg⟩
    · exact .inr (by rw [← e]; exact h)
    · rw [e] at h
      injection h with h
      omega

def pushF (X : List MRow) (m : MRow) : List MRow := upF (X ++ [m]).length (X ++ [m]) X.length
def popF (X : List MRow) (n : Nat) : List MRow := (downF X.length (swp X 0 n) 0 n).take n

theorem pushF_spec (X : List MRow) (m : MRow) (h : Heap X X.length) : (pushF X m).Perm (X ++ [m]) ∧ Heap (pushF X m) (pushF X m).length ∧ (pushF X m).length = X.length + 1 := by
  unfold pushF
  have hl : (X ++ [m]).length = X.length + 1 := by simp
  have key := upF_spec (X ++ [m]).length (X ++ [m]) X.length (by omega) (by omega) ?_ ?_
  · refine ⟨key.1, ?_, ?_⟩
    · rw [key.2.2]; exact key.2.1
    · rw [key.2.2]; exact hl
  · intro c h0 hc hne
    have hc' : c < X.length := by omega
    have e : ∀ i, i < X.length → (X ++ [m]).getD i MRow.zero = X.getD i MRow.zero := fun i hi => by
      simp [List.getD, List.getElem?_append_left hi]
    rw [e _ (by omega), e _ hc']
    exact h c h0 hc'
  · intro h0 c hc0 hc hp
    omega

theorem down_last (f : Nat) (X : List MRow) (n : Nat) (hn : n < X.length) : (downF f X 0 n).getD n MRow.zero = X.getD n MRow.zero := by
  have : ∀ (f : Nat) (X : List MRow) (i : Nat), n < X.length → i ≤ n → (downF f X i n).getD n MRow.zero = X.getD n MRow.zero := by
    intro f
    induction f with
    | zero => intro X i _ _; rfl
    | succ f ih =>
      intro X i hX hi
      rw [downF_succ]
      split
      · rfl
      · rename_i h1
        have hk : kid X i n < n := by
          unfold kid; split
          · rename_i h; exact h.1
          · omega
        split
        · rw [ih _ _ (by rw [swp_len]; exact hX) (by omega), swp_get X i _ n (by omega) (by omega), if_neg (by omega), if_neg (by omega)]
        · rfl
  exact this f X 0 hn (by omega)

theorem downF_len (f : Nat) : ∀ (X : List MRow) (i n : Nat), (downF f X i n).length = X.length := by
  induction f with
  | zero => intro X i n; rfl
  | succ f ih =>
    intro X i n
    rw [downF_succ]
    split
    · rfl
    · split
      · rw [ih, swp_len]
      · rfl

theorem popF_spec (X : List MRow) (n : Nat) (hX : X.length = n + 1) (h : Heap X X.length) : (popF X n).length = n ∧ Heap (popF X n) (popF X n).length ∧ (X.getD 0 MRow.zero :: popF X n).Perm X := by
  have hl : (popF X n).length = n := by unfold popF; rw [List.length_take, downF_len, swp_len]; omega
  have hlast : (downF X.length (swp X 0 n) 0 n).getD n MRow.zero = X.getD 0 MRow.zero := by
    rw [down_last _ _ _ (by rw [swp_len]; omega), swp_get X 0 n n (by omega) (by omega)]
    split
    · rename_i e; rw [e]
    · simp
  have hD : (downF X.length (swp X 0 n) 0 n).Perm X ∧ (0 < n → Heap (downF X.length (swp X 0 n) 0 n) n) := by
    by_cases h0 : 0 < n
    · have key := downF_spec X.length (swp X 0 n) 0 n h0 (by rw [swp_len]; omega) (by omega) ?_ ?_
      · exact ⟨key.1.trans (swp_perm X 0 n (by omega) (by omega)), fun _ => key.2.1⟩
      · intro c hc0 hc hp
        rw [swp_get X 0 n _ (by omega) (by omega), swp_get X 0 n _ (by omega) (by omega), if_neg hp, if_neg (by omega), if_neg (by omega), if_neg (by omega)]
        exact h c hc0 (by omega)
      · intro h; omega
    · have : n = 0 := by omega
      subst this
      have e : downF X.length (swp X 0 0) 0 0 = swp X 0 0 := by
        cases X.length with
        | zero => rfl
        | succ f => rw [downF_succ, if_pos (by omega)]
      rw [e]
      exact ⟨swp_perm X 0 0 (by omega) (by omega), fun h => absurd h (by omega)⟩
  refine ⟨hl, ?_, ?_⟩
  · rw [hl]
    intro c hc0 hc
    have := hD.2 (by omega) c hc0 hc
    unfold popF
    have e : ∀ i, i < n → ((downF X.length (swp X 0 n) 0 n).take n).getD i MRow.zero = (downF X.length (swp X 0 n) 0 n).getD i MRow.zero := fun i hi => by
      simp [hi]
    rw [e _ (by omega), e _ hc]
    exact this
  · have hlen : (downF X.length (swp X 0 n) 0 n).length = n + 1 := by rw [downF_len, swp_len, hX]
    have hsplit : downF X.length (swp X 0 n) 0 n = popF X n ++ [X.getD 0 MRow.zero] := by
      unfold popF
      have hn : n < (downF X.length (swp X 0 n) 0 n).length := by omega
      have e := List.take_succ_eq_append_getElem hn
      rw [List.take_of_length_le (by omega)] at e
      have e2 : (downF X.length (swp X 0 n) 0 n)[n] = X.getD 0 MRow.zero := by
        rw [← hlast]; simp [List.getD, hn]
      rw [e2] at e
      exact e
    have hp := hD.1
    rw [hsplit] at hp
    exact (List.perm_append_comm (l₁ := [X.getD 0 MRow.zero])).trans hp

set_option maxRecDepth 100000 in
set_option maxHeartbeats 1000000 in
theorem hpush_any (w : World) (p : Nat) (most : Int) (v : Value) (X : List MRow) (h : Pil w p most v X) (hX : X.length ≤ 64) (m : MRow) :
    Calls Try.prog 24 #[pth p, .iface 23 m.val] w fun e w' =>
      e = .returned (.tuple #[]) ∧ ∃ v', Pil w' p most v' (pushF X m) ∧ Touch (pfp p v) w w' ∧ Fresh w v v' := by
  have HP := hide h
  obtain ⟨x, hx⟩ : ∃ x, x = m.val := ⟨_, rfl⟩
  rw [← hx]
  have HX := hide hx
  clear hx h
  unfold pth
  have ml : (method 172 46 (.pointer (some ⟨p, 1, none⟩)) "Push").run Try.prog w = .ok (47, .pointer (some ⟨p, 1, none⟩)) w := meth_push 171 _ w
  go_enter Try.func24, Try.ntmps24
  go_wp2_with fail
  rw [HX.out]
  refine (ppush_any w p most v X HP.out hX m).mono ?_
  rintro e w1 ⟨rfl, v1, P1, T1, F1⟩
  have HP1 := hide P1
  have HT1 := hide T1
  have HF1 := hide F1
  have c1 := P1.blk.cell 1
  simp at c1
  obtain ⟨A, c, hv, _, _⟩ := own_len P1.own
  have hlm := own_le P1.own
  rw [hv] at c1
  have hl : (X ++ [m]).length = X.length + 1 := by simp
  rw [hl] at c1 hlm
  have HV := hide hv
  have HL := hide hlm
  have ml : (method 172 46 (.pointer (some ⟨p, 1, none⟩)) "Len").run Try.prog w1 = .ok (43, .slice A (X.length + 1) c) w1 := meth_len 171 _ w1 _ c1
  rw [← HX.out]
  clear P1 T1 F1 c1 hv hlm hl
  have q0 : ((X.length + 1 : Nat) : Int) - 1 = (X.length : Int) := by omega
  have q1 : ((X.length : Int) + 1) - 1 = (X.length : Int) := by omega
  have hX2 := hide hX
  clear hX
  have q2 : (X.length : Int) ≤ 64 := by have := hX2.out; omega
  go_wp2_with (first
    | (go_at_call 43; refine (plen_any w1 A (X.length + 1) c HL.out).mono ?_; rintro e w2 ⟨rfl, rfl⟩)
    | (go_at_call 26; refine (up_any w1 p most v1 (X ++ [m]) HP1.out (by have := hX2.out; simp; omega) X.length (by simp)).mono ?_; rintro e w2 ⟨rfl, P2, T2⟩; have HP2 := hide P2; have HT2 := hide T2; clear P2 T2))
  go_end0
  exact ⟨rfl, v1, HP2.out, HT1.out.trans HT2.out (pfp_fresh HF1.out), HF1.out⟩

set_option maxRecDepth 100000 in
set_option maxHeartbeats 1000000 in
theorem hpop_any (w : World) (p : Nat) (most : Int) (v : Value) (X : List MRow) (n : Nat) (hX : X.length = n + 1) (hn : n ≤ 64) (h : Pil w p most v X) :
    Calls Try.prog 23 #[pth p] w fun e w' =>
      e = .returned (.iface 23 (X.getD 0 MRow.zero).val) ∧ ∃ v', Pil w' p most v' (popF X n) ∧ Touch (pfp p v) w w' ∧ v'.ownBlock = v.ownBlock := by
  have HP := hide h
  have HX := hide hX
  have HN := hide hn
  have c1 := h.blk.cell 1
  simp at c1
  have ho := h.own
  rw [hX] at ho
  obtain ⟨A, c, rfl, _, _⟩ := own_len ho
  have HO := hide ho
  have HL := hide (own_le ho)
  have q0 : ((n + 1 : Nat) : Int) - 1 = (n : Int) := by omega
  have q1 : ((n : Int) + 1) - 1 = (n : Int) := by omega
  have q2 : (n : Int) ≤ 64 := by omega
  clear h hX hn ho
  unfold pth
  have ml : (method 172 46 (.pointer (some ⟨p, 1, none⟩)) "Len").run Try.prog w = .ok (43, .slice A (n + 1) c) w := meth_len 171 _ w _ c1
  have ms : (method 172 46 (.pointer (some ⟨p, 1, none⟩)) "Swap").run Try.prog w = .ok (45, .slice A (n + 1) c) w := meth_swap 171 _ w _ c1
  go_enter Try.func23, Try.ntmps23
  go_wp2_with (first
    | (go_at_call 43; refine (plen_any w A (n + 1) c HL.out).mono ?_; rintro e w2 ⟨rfl, rfl⟩)
    | (go_at_call 45; refine (pswap_any w A (n + 1) c X HX.out.symm HO.out 0 n (Nat.succ_pos _) (Nat.lt_succ_self _)).mono ?_; rintro e w1 ⟨rfl, O1, T1⟩; have HO1 := hide O1; have HT1 := hide T1; clear O1 T1)
    | (go_at_call 25; refine (down_any w1 p most (.slice A (n + 1) c) (swp X 0 n) ⟨HP.out.blk.touch HT1.out (fun e => own_blk_ne HO.out HP.out.blk (by decide) (ad_own.1 e)), by rw [swp_len, HX.out]; exact HO1.out⟩ (by rw [swp_len, HX.out]; have := HN.out; omega) n (by rw [swp_len, HX.out]; omega)).mono ?_; rintro e w2 ⟨⟨bb, rfl⟩, P2, T2⟩; have HP2 := hide P2; have HT2 := hide T2; have mp : (method 172 46 (.pointer (some ⟨p, 1, none⟩)) "Pop").run Try.prog w2 = .ok (46, .pointer (some ⟨p, 1, none⟩)) w2 := meth_pop 171 _ w2; clear P2 T2)
    | (go_at_call 46; refine (ppop_any w2 p most (.slice A (n + 1) c) _ n (by rw [downF_len, swp_len, HX.out]) HP2.out).mono ?_; rintro e w3 ⟨rfl, v3, P3, T3, F3⟩; have HP3 := hide P3; have HT3 := hide T3; have HF3 := hide F3; clear P3 T3 F3))
  go_ret
  have e1 : (downF (swp X 0 n).length (swp X 0 n) 0 n).getD n MRow.zero = X.getD 0 MRow.zero := by
    rw [down_last _ _ _ (by rw [swp_len, HX.out]; omega), swp_get X 0 n n (by rw [HX.out]; omega) (by rw [HX.out]; omega)]
    split
    · rename_i e; rw [e]
    · simp
  have e2 : popF X n = (downF (swp X 0 n).length (swp X 0 n) 0 n).take n := by rw [swp_len]; rfl
  have e3 : ((downF (swp X 0 n).length (swp X 0 n) 0 n)[n]?.getD MRow.zero) = X.getD 0 MRow.zero := by rw [← e1]; simp [List.getD]
  have T13 : Touch (pfp p (.slice A (n + 1) c)) w w1 := HT1.out.mono (fun g _ hg => .inr (ad_own.1 hg))
  refine ⟨?_, v3, by rw [e2]; exact HP3.out, (T13.then HT2.out).then HT3.out, HF3.out⟩
  rw [← e3]
  rfl

end Go.Proofs.Ytcencmjdhaejcaa
