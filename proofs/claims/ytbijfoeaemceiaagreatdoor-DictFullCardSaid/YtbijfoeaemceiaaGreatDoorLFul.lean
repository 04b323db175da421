/- Law 14: DictFull: 4096 words of three letters, and the walk. No condition. -/
import Derived.Test.YtbijfoeaemceiaaGreatDoorA45
namespace Go.Proofs.YtbijfoeaemceiaaGreatDoor
open Go.RowKit
set_option linter.unusedSectionVars false
set_option linter.unusedSimpArgs false
set_option linter.unusedVariables false
def wordF (i : Nat) : ByteArray := ⟨#[UInt8.ofNat (97 + i / 256), UInt8.ofNat (97 + i / 16 % 16), UInt8.ofNat (97 + i % 16)]⟩
def rowF (i : Nat) : PRow := ⟨wordF i, 1⟩
def fullF (n : Nat) : List PRow := (List.range n).map rowF
theorem fullF_succ (n : Nat) : fullF (n + 1) = fullF n ++ [rowF n] := by simp [fullF, List.range_succ]
theorem fullF_len (n : Nat) : (fullF n).length = n := by simp [fullF]
theorem range_all {p : Nat → Bool} {n : Nat} (h : (List.range n).all p = true) : ∀ i, i < n → p i = true := fun i hi => List.all_eq_true.1 h i (List.mem_range.2 hi)
set_option maxRecDepth 100000 in
theorem full_words : (List.range 4096).all (fun i => wordU (wordF i).toList) = true := by kernel_rfl
set_option maxRecDepth 100000 in
theorem full_next : (List.range 4095).all (fun i => plt (rowF i) (rowF (i + 1))) = true := by kernel_rfl
theorem full_plt (i d : Nat) (h : i + (d + 1) < 4096) : plt (rowF i) (rowF (i + (d + 1))) = true := by
  induction d with
  | zero => exact range_all full_next i (by omega)
  | succ d ih =>
    have h1 := ih (by omega)
    have h2 := range_all full_next (i + (d + 1)) (by omega)
    exact plt_trans h1 h2
theorem full_strict : Strict (fullF 4096) := by
  unfold Strict fullF
  rw [List.pairwise_map]
  refine List.Pairwise.imp_of_mem ?_ (List.pairwise_lt_range (n := 4096))
  intro a b ha hb hab
  have hb' := List.mem_range.1 hb
  obtain ⟨d, rfl⟩ : ∃ d, b = a + (d + 1) := ⟨b - a - 1, by omega⟩
  exact full_plt a d hb'
theorem full_dict : DictP (fullF 4096) := by
  refine dict_mk (by rw [fullF_len]; exact Nat.le_refl _) ?_ full_strict
  intro p hp
  obtain ⟨i, hi, rfl⟩ := List.mem_map.1 hp
  exact ⟨range_all full_words i (List.mem_range.1 hi), (by show (1 : Int) ≤ 1; omega), (by show (1 : Int) ≤ 1048576; omega)⟩
theorem full_small : ∀ r ∈ fullF 4096, r.word.size ≤ 1099511627776 := dict_sizes full_dict
theorem find_in_strict {L : List PRow} (hs : Strict L) {p : PRow} (hp : p ∈ L) : findP p.word.toList L = (p.weight, true) := by
  have h1 : p ∈ key p.word.toList L := by simp [key, hp]
  have h2 := key_one hs p.word.toList
  unfold findP
  cases hk : (key p.word.toList L).getLast? with
  | none =>
    rw [hk] at h2
    rw [h2] at h1
    cases h1
  | some x =>
    rw [hk] at h2
    rw [h2] at h1
    simp only [Option.toList_some, List.mem_singleton] at h1
    rw [h1]
def zzB : ByteArray := ⟨#[122, 122]⟩
def aaB : ByteArray := ⟨#[97, 97, 97]⟩
theorem full_zz : findP zzB.toList (fullF 4096) = (0, false) := by
  unfold findP
  have h : key zzB.toList (fullF 4096) = [] := by
    unfold key
    rw [List.filter_eq_nil_iff]
    intro p hp
    obtain ⟨i, hi, rfl⟩ := List.mem_map.1 hp
    simp only [decide_eq_true_eq]
    intro e
    have := congrArg List.length e
    rw [size_toList, size_toList] at this
    have h3 : (3 : Nat) = 2 := this
    omega
  rw [h]
  rfl
theorem aa_row : (rowF 0).word.toList = aaB.toList := by kernel_rfl
theorem full_aa : findP aaB.toList (fullF 4096) = (1, true) := by
  have h : rowF 0 ∈ fullF 4096 := by unfold fullF; exact List.mem_map.2 ⟨0, List.mem_range.2 (by omega), rfl⟩
  have h2 := find_in_strict full_strict h
  rw [aa_row] at h2
  exact h2
theorem wordU_zz : wordU zzB.toList = true := by kernel_rfl
theorem wordU_aa : wordU aaB.toList = true := by kernel_rfl
theorem zz_ne_aa : ¬ aaB.toList = zzB.toList := by
  intro e
  have := congrArg List.length e
  rw [size_toList, size_toList] at this
  exact absurd this (by decide)
theorem ful_e1 : setE (fullF 4096) zzB.toList 1 = 142 := by
  unfold setE
  rw [wordU_zz, if_neg (by decide), if_neg (by omega), full_zz, fullF_len, if_pos ⟨rfl, Nat.le_refl _⟩]
theorem ful_e2 : setE (fullF 4096) aaB.toList 2 = 0 := by
  unfold setE
  rw [wordU_aa, if_neg (by decide), if_neg (by omega), full_aa, if_neg (fun h => by cases h.1)]
def ful2 : List PRow := putF ⟨aaB, 2⟩ false (fullF 4096)
theorem ful_l2 : setL (fullF 4096) aaB 2 = ful2 := by unfold setL; rw [ful_e2, if_pos rfl]; rfl
theorem ful_h2 : setH (fullF 4096) aaB 2 = 1 := by unfold setH; rw [ful_e2, if_pos rfl, full_aa]
theorem ful2_ok : Strict (putF ⟨aaB, 2⟩ false (fullF 4096)) ∧ ∀ k, key k (putF ⟨aaB, 2⟩ false (fullF 4096)) = if aaB.toList = k then [⟨aaB, 2⟩] else key k (fullF 4096) := putF_ok (⟨aaB, 2⟩ : PRow) (fullF 4096) full_strict
theorem ful2_len : ful2.length = 4096 := by unfold ful2; rw [put_len full_strict, if_pos (by rw [full_aa]), fullF_len]
theorem ful2_aa : findP aaB.toList ful2 = (2, true) := by
  unfold findP ful2
  rw [ful2_ok.2, if_pos rfl]
  rfl
theorem ful_e3 : remE ful2 aaB.toList = 0 := by unfold remE; rw [wordU_aa, if_neg (by decide), ful2_aa, if_neg (by decide)]
theorem ful_h3 : remH ful2 aaB = 2 := by unfold remH; rw [ful_e3, if_pos rfl, ful2_aa]
def ful3 : List PRow := dropP aaB.toList ful2
theorem ful_l3 : remL ful2 aaB = ful3 := by unfold remL; rw [ful_e3, if_pos rfl]; rfl
theorem ful2_strict : Strict ful2 := ful2_ok.1
theorem ful3_strict : Strict ful3 := drop_strict ful2_strict _
theorem ful3_len : ful3.length = 4095 := by
  have h := drop_len ful2_strict aaB.toList
  have h0 : (findP aaB.toList ful2).2 = true := by rw [ful2_aa]
  rw [if_pos h0] at h
  have h2 := ful2_len
  have e : ful3 = dropP aaB.toList ful2 := rfl
  rw [e]
  generalize (dropP aaB.toList ful2).length = x at h ⊢
  generalize ful2.length = y at h h2
  omega
theorem ful3_zz : findP zzB.toList ful3 = (0, false) := by
  have h : key zzB.toList ful3 = key zzB.toList (fullF 4096) := by
    unfold ful3 ful2
    rw [drop_key, if_neg zz_ne_aa, ful2_ok.2, if_neg zz_ne_aa]
  rw [find_key h]
  exact full_zz
theorem ful_e4 : setE ful3 zzB.toList 1 = 0 := by
  unfold setE
  rw [wordU_zz, if_neg (by decide), if_neg (by omega), ful3_zz, ful3_len, if_neg (fun h => by omega)]
def ful4 : List PRow := putF ⟨zzB, 1⟩ false ful3
theorem ful_l4 : setL ful3 zzB 1 = ful4 := by unfold setL; rw [ful_e4, if_pos rfl]; rfl
theorem ful4_len : ful4.length = 4096 := by
  have e : ful4 = putF ⟨zzB, 1⟩ false ful3 := rfl
  have hz : ¬ (findP (⟨zzB, 1⟩ : PRow).word.toList ful3).2 = true := by
    have h := ful3_zz
    show ¬ (findP zzB.toList ful3).2 = true
    rw [h]
    decide
  rw [e, put_len ful3_strict, if_neg hz, ful3_len]
set_option maxRecDepth 100000 in
set_option maxHeartbeats 4000000 in
theorem dfull_walk (W : World) (hL : Lst W) (k : Int) :
    Calls Tryz.prog 8 #[.int .i64 k] W fun e W' => e = .returned (.bool true) ∧ Below W.heap.size W W' := by
  have HL := hide hL
  by_cases hk : k < 1 ∨ 40 < k
  · have HAL := hide (alive14_any W hL)
    have hcs : k < 1 ∨ (¬ k < 1 ∧ 40 < k) := by omega
    clear hL hk
    rcases hcs with k1 | ⟨k1, k2⟩
    all_goals
      go_enter Tryz.func8, Tryz.ntmps8
      go_wp2_with fail
      refine HAL.out.mono ?_
      rintro e w2 ⟨rfl, T2⟩
      have HT2 := hide T2
      clear T2
      go_wp2_with fail
      go_ret
      exact ⟨rfl, HT2.out.below (Nat.le_refl _) (fun _ _ f => f)⟩
  · obtain ⟨m, rfl⟩ : ∃ m : Nat, k = (m : Int) := ⟨k.toNat, by omega⟩
    have k1 : ¬ (m : Int) < 1 := by omega
    have k2 : ¬ (40 : Int) < (m : Int) := by omega
    obtain ⟨i0, hi, hz0, hz1, hz2⟩ := info_parts infoPair
    clear hL hk
    go_enter Tryz.func8, Tryz.ntmps8
    go_wp2_with fail
    go_loopw [3, 22] (fun lv iv wr => ∃ (i : Nat) (A5 : Option Addr) (c5 : Nat), iv = .int .i64 i ∧ lv = .slice A5 i c5 ∧ i ≤ 4096 ∧ Hid (PNx W wr (.slice A5 i c5) i (fullF i))) (fun _ iv _ => 4096 - (intOf iv).toNat)
    case atStart => exact ⟨0, none, 0, rfl, rfl, Nat.zero_le _, hide ⟨World.ownsRow_nil _ _ _ _, rfl, Touch.refl _ _, fun g e => by simp [Value.ownBlock] at e⟩⟩
    case round =>
      obtain ⟨i, A5, c5, rfl, rfl, hin', HP⟩ := hrel
      by_cases hin : i < 4096
      · have y0 : (i : Int) < 4096 := by omega
        have y2 : IntKind.i64.wrap ((i : Int) + 1) = (i : Int) + 1 := IntWalk.i64_in _ (by omega)
        obtain ⟨a, ha⟩ : ∃ a, i / 256 = a := ⟨_, rfl⟩
        obtain ⟨b, hb⟩ : ∃ b, i / 16 = b := ⟨_, rfl⟩
        obtain ⟨c, hc⟩ : ∃ c, b % 16 = c := ⟨_, rfl⟩
        obtain ⟨d, hd⟩ : ∃ d, i % 16 = d := ⟨_, rfl⟩
        have e1 : (i : Int) / 256 = (a : Int) := by omega
        have e2 : (i : Int) / 16 = (b : Int) := by omega
        have e3 : (b : Int) % 16 = (c : Int) := by omega
        have e4 : (i : Int) % 16 = (d : Int) := by omega
        have b1 : a < 16 := by omega
        have b2 : c < 16 := by omega
        have b3 : d < 16 := by omega
        have hwf : wordF i = ⟨#[UInt8.ofNat (97 + a), UInt8.ofNat (97 + c), UInt8.ofNat (97 + d)]⟩ := by
          unfold wordF
          rw [ha, hb, hc, hd]
        have kc0 := fun (w : World) => conv_new w [UInt8.ofNat (97 + a), UInt8.ofNat (97 + c), UInt8.ofNat (97 + d)] #[.int .u8 ((97 : Int) + (a : Int)), .int .u8 ((97 : Int) + (c : Int)), .int .u8 ((97 : Int) + (d : Int))] 3 rfl (by simp only [List.map_cons, List.map_nil, u8_cell (n := 97) (x := a) (by omega), u8_cell (n := 97) (x := c) (by omega), u8_cell (n := 97) (x := d) (by omega)]; rfl)
        obtain ⟨S, hS⟩ : ∃ S, S = wordF i := ⟨_, rfl⟩
        have kc1 : ∀ w : World, (convert 60 9 (.slice (some ⟨w.heap.size, 0, none⟩) 3 3)).run Tryz.prog (w.alloc (.cells #[.int .u8 ((97 : Int) + (a : Int)), .int .u8 ((97 : Int) + (c : Int)), .int .u8 ((97 : Int) + (d : Int))] 5)) = .ok (.string S) (w.alloc (.cells #[.int .u8 ((97 : Int) + (a : Int)), .int .u8 ((97 : Int) + (c : Int)), .int .u8 ((97 : Int) + (d : Int))] 5)) := fun w => by
          rw [kc0 w, hS, hwf]
        have hfs : fullF (i + 1) = fullF i ++ [⟨S, 1⟩] := by rw [fullF_succ, hS]; rfl
        have HFS := hide hfs
        have HIN := hide hin
        obtain ⟨A5', c5', e5, _, hm5⟩ := own_len HP.out.own
        injection e5 with e51 e52 e53
        subst e51 e53
        have w1 : IntKind.u8.wrap ((97 : Int) + (a : Int)) = (97 : Int) + (a : Int) := by rw [IntKind.wrap_u8]; omega
        have w2 : IntKind.u8.wrap ((97 : Int) + (c : Int)) = (97 : Int) + (c : Int) := by rw [IntKind.wrap_u8]; omega
        have w3 : IntKind.u8.wrap ((97 : Int) + (d : Int)) = (97 : Int) + (d : Int) := by rw [IntKind.wrap_u8]; omega
        clear ha hb hc hd hwf kc0 hS hfs hin e52
        go_wp2_with (at_builtin; refine wpList_app _ rfl (.tmp 25) (.tmp 42) 22 rfl 62 i0 _ 2 24 Tryz.underlying22 hi hz0 hz1 hz2 rfl (by decide) (.slice A5 i c5) i _ rfl (own_touch HP.out.own (((Touch.refl _ _).alloc _).alloc _) (fun _ _ f => f)) (some ⟨_, 0, none⟩) 1 1 (PRow.cells ⟨S, 1⟩) rfl ?s1a ?s1b ?s1c ?s1d ?s1e ?_)
        case s1a =>
          have h := Reads.new (size := 2) (wr.alloc (.cells #[.int .u8 ((97 : Int) + (a : Int)), .int .u8 ((97 : Int) + (c : Int)), .int .u8 ((97 : Int) + (d : Int))] 5)) 62 [.string S, .int .i64 1] 1 rfl
          simpa [PRow.cells] using h
        try (case s1b => exact fun h => by cases h)
        case s1c => exact List.all_eq_true.1 rfl
        case s1d => unfold maxLen; omega
        case s1e => omega
        intro v3 w3 hown hgrow hfr _
        obtain ⟨A6, c6, hv6, _, _⟩ := own_len hown
        subst hv6
        have HN3 := hide ((HP.out.to (((Touch.refl _ _).alloc _).alloc _)).app hown hgrow hfr)
        clear hown hgrow hfr
        go_wp2_with fail
        go_roundw
        · refine ⟨i + 1, A6, c6, by simp, by simp, by have := HIN.out; omega, hide ?_⟩
          rw [HFS.out]
          exact HN3.out
        · have := HIN.out
          simp only [intOf]
          omega
      · have hie : i = 4096 := by omega
        subst hie
        have HOK := hide (own_okD HP.out.own)
        have HLD := hide (dload_any wr (Lst.touch HL.out HP.out.touch) ⟨A5, 4096, c5, fullF 4096⟩ (own_okD HP.out.own) full_small (by unfold maxLen; simp only; omega))
        simp only [SL.val] at HLD
        obtain ⟨FL, hFL⟩ : ∃ F, F = fullF 4096 := ⟨_, rfl⟩
        rw [← hFL] at HLD
        have HFL := hide hFL
        clear hin hin' hFL HOK
        go_wp2_with fail
        refine HLD.out.mono ?_
        rintro e w1 (⟨hr, _⟩ | ⟨_, d, rfl, hd, hdl, T1⟩)
        · rw [HFL.out, right_dict full_dict] at hr
          cases hr
        · have HT1 := hide (HP.out.touch.then T1)
          have HDL : Hid (W.heap.size ≤ d) := hide (Nat.le_trans HP.out.touch.size hdl)
          have HDP : Hid (0 < d) := hide hd.pos
          have HD := hide hd
          have HS := hide (fun (wx : World) (T : Touch (fun _ => False) W wx) (q : Nat) (h : DctM wx d FL q) => dset_any wx (Lst.touch HL.out T) h zzB (by decide) 1)
          have hl1 : setL FL zzB 1 = FL := by rw [HFL.out]; exact (set_err ful_e1 (by decide)).2
          have hh1 : setH FL zzB 1 = 0 := by rw [HFL.out]; exact (set_err ful_e1 (by decide)).1
          have he1 : setE FL zzB.toList 1 = 142 := by rw [HFL.out]; exact ful_e1
          simp only [hl1, hh1, he1] at HS
          have ez : zzB = ⟨#[122, 122]⟩ := rfl
          rw [ez] at HS
          clear T1 hd hdl HLD hl1 hh1 he1 ez
          go_wp2_with fail
          go_loopw [57] (fun iv wl => ∃ (j q : Nat), iv = .int .i64 j ∧ j ≤ m ∧ Hid (DctM wl d FL q) ∧ Hid (Touch (fun _ => False) W wl)) (fun iv _ => m - (intOf iv).toNat)
          case atStart => exact ⟨0, 0, rfl, Nat.zero_le _, HD, HT1⟩
          case round =>
            obtain ⟨j, q, rfl, hj', HDr, HTr⟩ := hrel
            by_cases hj : j < m
            · have y0 : (j : Int) < (m : Int) := by omega
              have y2 : IntKind.i64.wrap ((j : Int) + 1) = (j : Int) + 1 := IntWalk.i64_in _ (by omega)
              have HS1 := hide (HS.out _ HTr.out q HDr.out)
              have HJ := hide hj
              clear hj
              go_wp2_with fail
              refine HS1.out.mono ?_
              rintro e w2 ⟨rfl, ⟨q2, hd2⟩, T2⟩
              have HT2 := hide (HTr.out.trans T2 (fun g hg e => by have := HDL.out; omega))
              have HD2 := hide hd2
              clear T2 hd2 HS1
              go_wp2_with fail
              go_roundw
              · exact ⟨j + 1, q2, by simp, by have := HJ.out; omega, HD2, HT2⟩
              · have := HJ.out
                simp only [intOf]
                omega
            · have y0 : ¬ (j : Int) < (m : Int) := by omega
              have hdr := HDr.out
              rw [HFL.out] at hdr
              have HA1 := hide (dset_any _ (Lst.touch HL.out HTr.out) hdr aaB (by decide) 2)
              rw [ful_l2, ful_h2, ful_e2] at HA1
              have ea : aaB = ⟨#[97, 97, 97]⟩ := rfl
              rw [ea] at HA1
              clear hj hdr ea HS
              go_wp2_with fail
              refine HA1.out.mono ?_
              rintro e w2 ⟨rfl, ⟨q2, hd2⟩, T2⟩
              have HT2 := hide (HTr.out.trans T2 (fun g hg e => by have := HDL.out; omega))
              have HA2 := hide (dremove_any w2 (Lst.touch HL.out HT2.out) hd2 aaB (by decide))
              rw [ful_l3, ful_h3, ful_e3] at HA2
              have ea : aaB = ⟨#[97, 97, 97]⟩ := rfl
              rw [ea] at HA2
              clear T2 hd2 ea HA1
              go_wp2_with fail
              refine HA2.out.mono ?_
              rintro e w3 ⟨rfl, ⟨q3, hd3⟩, T3⟩
              have HT3 := hide (HT2.out.trans T3 (fun g hg e => by have := HDL.out; omega))
              have HA3 := hide (dset_any w3 (Lst.touch HL.out HT3.out) hd3 zzB (by decide) 1)
              rw [ful_l4, ful_e4] at HA3
              obtain ⟨h4, hh4⟩ : ∃ z, z = setH ful3 zzB 1 := ⟨_, rfl⟩
              rw [← hh4] at HA3
              have ez : zzB = ⟨#[122, 122]⟩ := rfl
              rw [ez] at HA3
              clear T3 hd3 ez HA2 hh4
              go_wp2_with fail
              refine HA3.out.mono ?_
              rintro e w4 ⟨rfl, ⟨q4, hd4⟩, T4⟩
              have HT4 := hide (HT3.out.trans T4 (fun g hg e => by have := HDL.out; omega))
              have HD4 := hide hd4
              have HAL := hide (alive14_any w4 (Lst.touch HL.out HT4.out))
              clear T4 hd4 HA3
              go_wp2_with fail
              refine HAL.out.mono ?_
              rintro e w5 ⟨rfl, T5⟩
              have HT5 := hide (HT4.out.then T5)
              have HLN := hide (dictlen_any w5 (HD4.out.quiet T5))
              rw [ful4_len] at HLN
              clear T5 HAL
              go_wp2_with fail
              refine HLN.out.mono ?_
              rintro e w6 ⟨rfl, T6⟩
              have HT6 := hide (HT5.out.then T6)
              clear T6
              go_wp2_with fail
              go_ret
              exact ⟨by simp, HT6.out.below (Nat.le_refl _) (fun _ _ f => f)⟩
end Go.Proofs.YtbijfoeaemceiaaGreatDoor
