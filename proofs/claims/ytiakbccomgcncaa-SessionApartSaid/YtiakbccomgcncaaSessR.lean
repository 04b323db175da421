/- What the reference's session functions do. No condition but that the rows lie there. -/
import Derived.Test.YtiakbccomgcncaaSessB
namespace Go.Proofs.Ytiakbccomgcncaa
open Go.RowKit

structure KRow where
  id : Int
  seq : Int
  code : Int
  sess : Int
  had : Int
deriving DecidableEq

def KRow.cells (r : KRow) : List Value := [.int .u64 r.id, .int .u64 r.seq, .int .i64 r.code, .int .u64 r.sess, .int .i64 r.had]
def KRow.row (r : KRow) : SRow := ⟨r.seq, r.code, r.sess, r.had⟩
def KRow.none : KRow := ⟨0, 0, 0, 0, 0⟩
def kCells (l : List KRow) : List Value := l.flatMap KRow.cells

theorem kCells_at (l : List KRow) (k : Nat) (hk : k < l.length) (j : Nat) (hj : j < 5) : (kCells l)[5 * k + j]? = ((l.getD k KRow.none).cells)[j]? := by
  induction l generalizing k with
  | nil => simp at hk
  | cons r l ih =>
    have hl : r.cells.length = 5 := rfl
    cases k with
    | zero =>
      simp only [kCells, List.flatMap_cons, Nat.mul_zero, Nat.zero_add]
      rw [List.getElem?_append_left (by omega)]
      rfl
    | succ k =>
      simp only [kCells, List.flatMap_cons]
      rw [List.getElem?_append_right (by omega), hl, show 5 * (k + 1) + j - 5 = 5 * k + j by omega]
      exact ih k (by simpa using hk)

theorem kCells_len (l : List KRow) : (kCells l).length = l.length * 5 := by
  induction l with
  | nil => rfl
  | cons r l ih =>
    simp only [kCells, List.flatMap_cons, List.length_append, List.length_cons] at ih ⊢
    rw [ih, show r.cells.length = 5 from rfl]
    omega
theorem kCells_snoc (l : List KRow) (r : KRow) : kCells (l ++ [r]) = kCells l ++ r.cells := by simp [kCells]

/-- What was kept: the slice v owns the rows l. -/
def KTab (w : World) (v : Value) (l : List KRow) : Prop := w.ownsRow 0 64 5 v l.length (kCells l)

theorem KTab.touch {w w' : World} {v : Value} {l : List KRow} {S : Nat → Prop} (h : KTab w v l) (ht : Touch S w w') (hv : ∀ g, v.ownBlock = some g → ¬ S g) : KTab w' v l := own_touch h ht hv
theorem KTab.alloc {w : World} {v : Value} {l : List KRow} (h : KTab w v l) (o : Obj) : KTab (w.alloc o) v l := World.ownsRow.alloc h o

theorem k_row {w : World} {A : Option Addr} {c : Nat} {l : List KRow} (h : KTab w (.slice A l.length c) l) (k : Nat) (hk : k < l.length) :
    ∃ g, A = some ⟨g, 0, none⟩ ∧ g < w.heap.size ∧ w.cell? ⟨g, k * 5, none⟩ = some (.int .u64 (l.getD k KRow.none).id) ∧ w.cell? ⟨g, k * 5 + 1, none⟩ = some (.int .u64 (l.getD k KRow.none).seq) ∧ w.cell? ⟨g, k * 5 + 2, none⟩ = some (.int .i64 (l.getD k KRow.none).code) ∧
      w.cell? ⟨g, k * 5 + 3, none⟩ = some (.int .u64 (l.getD k KRow.none).sess) ∧ w.cell? ⟨g, k * 5 + 4, none⟩ = some (.int .i64 (l.getD k KRow.none).had) := by
  obtain ⟨g, cap, hv, _, _, hg, hc, _⟩ := own_form h (by omega)
  injection hv with hA' _ _
  refine ⟨g, hA', hg, ?_, ?_, ?_, ?_, ?_⟩
  · exact hc _ _ (by have := kCells_at l k hk 0 (by omega); rw [show k * 5 = 5 * k + 0 by omega, this]; rfl)
  · exact hc _ _ (by have := kCells_at l k hk 1 (by omega); rw [show k * 5 + 1 = 5 * k + 1 by omega, this]; rfl)
  · exact hc _ _ (by have := kCells_at l k hk 2 (by omega); rw [show k * 5 + 2 = 5 * k + 2 by omega, this]; rfl)
  · exact hc _ _ (by have := kCells_at l k hk 3 (by omega); rw [show k * 5 + 3 = 5 * k + 3 by omega, this]; rfl)
  · exact hc _ _ (by have := kCells_at l k hk 4 (by omega); rw [show k * 5 + 4 = 5 * k + 4 by omega, this]; rfl)

theorem Try.infoKept : (Try.prog.info? 64).map (fun i => (i.zero, i.size, i.bytes)) = some (some (.agg #[.int .u64 0, .int .u64 0, .int .i64 0, .int .u64 0, .int .i64 0]), 5, 40) := by kernel_rfl

/-- The latest one of a session. -/
def latest (l : List KRow) (id : Int) : KRow := l.foldl (fun k x => if x.id = id then x else k) ⟨id, 0, 0, 0, 0⟩

theorem latest_snoc (l : List KRow) (x : KRow) (id : Int) : latest (l ++ [x]) id = if x.id = id then x else latest l id := by
  simp [latest, List.foldl_append]
theorem latest_take (l : List KRow) (k : Nat) (hk : k < l.length) (id : Int) : latest (l.take (k + 1)) id = if (l.getD k KRow.none).id = id then l.getD k KRow.none else latest (l.take k) id := by
  have e : l.getD k KRow.none = l[k] := by simp [List.getD, hk]
  rw [List.take_succ_eq_append_getElem hk, latest_snoc, e]

def latW (w : World) (m : Int) (v : Value) (r : KRow) : World :=
  ((w.alloc (.cells #[.int .u64 m, v] 42)).alloc (.cells #[.int .u64 0, .int .u64 0, .int .i64 0, .int .u64 0, .int .i64 0] 64)).alloc
    (.cells #[.int .u64 r.id, .int .u64 r.seq, .int .i64 r.code, .int .u64 r.sess, .int .i64 r.had] 64)

def KRow.val (r : KRow) : Value := .agg #[.int .u64 r.id, .int .u64 r.seq, .int .i64 r.code, .int .u64 r.sess, .int .i64 r.had]

theorem latest_any (w : World) (m : Int) (v : Value) (l : List KRow) (h : KTab w v l) (id : Int) :
    Calls Try.prog 25 #[.agg #[.int .u64 m, v], .int .u64 id] w fun e w' =>
      e = .returned (latest l id).val ∧ Touch (fun _ => False) w w' := by
  obtain ⟨A, c, hv, _, hc⟩ := own_len h
  have hm := own_le h
  unfold maxLen at hm
  subst hv
  have H := hide h
  clear h
  go_enter Try.func25, Try.ntmps25
  go_wp2
  go_loopw [6] (fun i wr => ∃ k : Nat, k ≤ l.length ∧ i = .int .i64 k ∧ wr = latW w m (.slice A l.length c) (latest (l.take k) id)) (fun i _ => l.length - (intOf i).toNat)
  case atStart => exact ⟨0, Nat.zero_le _, rfl, rfl⟩
  case round =>
    obtain ⟨k, hk, rfl, hw⟩ := hrel
    subst hw
    unfold latW
    by_cases hkn : k < l.length
    · obtain ⟨g, hA, hg, c0, c1, c2, c3, c4⟩ := k_row H.out k hkn
      have HL := hide (latest_take l k hkn id)
      subst hA
      obtain ⟨r, hr⟩ : ∃ r, r = l.getD k KRow.none := ⟨_, rfl⟩
      rw [← hr] at c0 c1 c2 c3 c4 HL
      clear hr
      obtain ⟨q, hq⟩ : ∃ q, q = latest (l.take k) id := ⟨_, rfl⟩
      rw [← hq] at HL ⊢
      clear hq
      have hg1 : g < w.heap.size + 1 := by omega
      have hg2 : g < w.heap.size + 1 + 1 := by omega
      by_cases he : r.id = id
      · rw [if_pos he] at HL
        have b0 : (r.id == id) = true := by simpa using he
        clear he
        go_wp2
        go_roundw
        case rel => exact ⟨k + 1, by omega, by go_num, by rw [HL.out]⟩
        case measure => simp [intOf]; omega
      · rw [if_neg he] at HL
        have b0 : (r.id == id) = false := by simpa using he
        go_wp2
        go_roundw
        case rel => exact ⟨k + 1, by omega, by go_num, by rw [HL.out]⟩
        case measure => simp [intOf]; omega
    · have hkl : k = l.length := by omega
      have HK := hide (show l.take k = l from by rw [hkl]; exact List.take_length)
      clear hkl
      go_wp2
      refine bodyPost_ret (v := (latest (l.take k) id).val) (by simp [results, Try.results25, KRow.val, go_sem]) rfl ⟨?_, (((Touch.refl _ _).alloc _).alloc _).alloc _⟩
      rw [HK.out]

/-- The document's table: how many sessions, and what was kept. -/
def kV (m : Int) (v : Value) : Value := .agg #[.int .u64 m, v]

theorem kopen_full (w : World) (m : Int) (v : Value) (l : List KRow) (h : KTab w v l) (hm : 4096 ≤ m) :
    Calls Try.prog 21 #[kV m v] w fun e w' => e = .returned (.tuple #[kV m v, .int .u64 0, .int .i64 152]) ∧ Touch (fun _ => False) w w' := by
  obtain ⟨A, c, hv, _, hc⟩ := own_len h
  subst hv
  clear h
  unfold kV
  go_enter Try.func21, Try.ntmps21
  go_wp2
  refine bodyPost_ret (v := .tuple #[kV m (.slice A l.length c), .int .u64 0, .int .i64 152]) (by simp [results, Try.results21, kV, go_sem]) rfl ⟨rfl, ((Touch.refl _ _).alloc _).alloc _⟩

theorem kopen_room (w : World) (m : Int) (v : Value) (l : List KRow) (h : KTab w v l) (h0 : 0 ≤ m) (hm : m < 4096) :
    Calls Try.prog 21 #[kV m v] w fun e w' => e = .returned (.tuple #[kV (m + 1) v, .int .u64 (m + 1), .int .i64 0]) ∧ Touch (fun _ => False) w w' := by
  obtain ⟨A, c, hv, _, hc⟩ := own_len h
  subst hv
  clear h
  unfold kV
  go_enter Try.func21, Try.ntmps21
  go_wp2
  go_region
  all_goals go_wp2
  refine bodyPost_ret (v := .tuple #[kV (m + 1) (.slice A l.length c), .int .u64 (m + 1), .int .i64 0]) (by simp [results, Try.results21, kV, go_sem]) rfl ⟨rfl, (((Touch.refl _ _).alloc _).alloc _).drew⟩

def thereK (m id : Int) : Bool := decide (1 ≤ id) && decide (id ≤ m)

theorem kcheck_any (w : World) (m : Int) (v : Value) (l : List KRow) (h : KTab w v l) (id seq : Int) (R : CRes) (hR : chk (thereK m id) (latest l id).row seq = R) :
    Calls Try.prog 22 #[kV m v, .int .u64 id, .int .u64 seq] w fun e w' => e = .returned R.val ∧ Touch (fun _ => False) w w' := by
  subst hR
  obtain ⟨A, c, hv, _, hc⟩ := own_len h
  subst hv
  have H := hide h
  clear h
  unfold kV
  cases ht : thereK m id with
  | false =>
    have HF := hide (show chk false (latest l id).row seq = ⟨0, 0, 0, false, 150⟩ from rfl)
    have hor : id < 1 ∨ (1 ≤ id ∧ m < id) := by unfold thereK at ht; simp at ht; omega
    clear ht
    rcases hor with h1 | ⟨h1, h2⟩
    all_goals
      go_enter Try.func22, Try.ntmps22
      go_wp2
      refine bodyPost_ret (v := CRes.val ⟨0, 0, 0, false, 150⟩) (by simp [results, Try.results22, CRes.val, go_sem]) rfl ⟨?_, ((Touch.refl _ _).alloc _).alloc _⟩
      rw [HF.out]
  | true =>
    have h1 : 1 ≤ id ∧ id ≤ m := by unfold thereK at ht; simpa using ht
    obtain ⟨h1, h2⟩ := h1
    clear ht
    obtain ⟨r, hr⟩ : ∃ r, r = latest l id := ⟨_, rfl⟩
    have HR := hide hr
    rw [← hr]
    clear hr
    by_cases h0 : seq = 0
    · subst h0
      go_enter Try.func22, Try.ntmps22
      go_wp2_with (go_at_call 25; refine (latest_any _ m _ l ((H.out.alloc _).alloc _) id).mono ?_; rintro e w' ⟨rfl, ht⟩; obtain ⟨F1, F2, F3⟩ := ((blk_new1 _ _ _ _).touch ht (fun f => f)).facts; have HT := hide ht; clear ht; rw [← HR.out]; unfold KRow.val)
      refine bodyPost_ret (v := CRes.val ⟨0, 0, 0, false, 151⟩) (by simp [results, Try.results22, CRes.val, go_sem, F1, F3]) rfl ⟨?_, ?_⟩
      · simp [chk, KRow.row]
      · exact (((((((Touch.refl _ _).alloc _).alloc _).then HT.out).setCell (p := ⟨_, _, none⟩) (fun h => by simp at h; omega) _).setCell (p := ⟨_, _, none⟩) (fun h => by simp at h; omega) _).setCell (p := ⟨_, _, none⟩) (fun h => by simp at h; omega) _).alloc _
    have b0 : (seq == 0) = false := by simpa using h0
    by_cases h1 : seq < r.seq
    · go_enter Try.func22, Try.ntmps22
      go_wp2_with (go_at_call 25; refine (latest_any _ m _ l ((H.out.alloc _).alloc _) id).mono ?_; rintro e w' ⟨rfl, ht⟩; obtain ⟨F1, F2, F3⟩ := ((blk_new1 _ _ _ _).touch ht (fun f => f)).facts; have HT := hide ht; clear ht; rw [← HR.out]; unfold KRow.val)
      refine bodyPost_ret (v := CRes.val ⟨0, 0, 0, false, 151⟩) (by simp [results, Try.results22, CRes.val, go_sem, F1, F3]) rfl ⟨?_, ?_⟩
      · simp [chk, KRow.row, h1]
      · exact (((((((Touch.refl _ _).alloc _).alloc _).then HT.out).setCell (p := ⟨_, _, none⟩) (fun h => by simp at h; omega) _).setCell (p := ⟨_, _, none⟩) (fun h => by simp at h; omega) _).setCell (p := ⟨_, _, none⟩) (fun h => by simp at h; omega) _).alloc _
    have b1 : decide (seq < r.seq) = false := by simpa using h1
    by_cases h2 : seq = r.seq
    · have b2 : (seq == r.seq) = true := by simpa using h2
      have H0 := hide h0
      have H2 := hide h2
      clear h2
      go_enter Try.func22, Try.ntmps22
      go_wp2_with (go_at_call 25; refine (latest_any _ m _ l ((H.out.alloc _).alloc _) id).mono ?_; rintro e w' ⟨rfl, ht⟩; obtain ⟨F1, F2, F3⟩ := ((blk_new1 _ _ _ _).touch ht (fun f => f)).facts; have HT := hide ht; clear ht; rw [← HR.out]; unfold KRow.val)
      refine bodyPost_ret (v := CRes.val ⟨r.code, r.sess, r.had, true, 0⟩) (by simp [results, Try.results22, CRes.val, go_sem, F1, F3]) rfl ⟨?_, ?_⟩
      · simp [chk, KRow.row, H2.out, show ¬ r.seq = 0 from fun h => H0.out (H2.out.trans h)]
      · exact (((((((Touch.refl _ _).alloc _).alloc _).then HT.out).setCell (p := ⟨_, _, none⟩) (fun h => by simp at h; omega) _).setCell (p := ⟨_, _, none⟩) (fun h => by simp at h; omega) _).setCell (p := ⟨_, _, none⟩) (fun h => by simp at h; omega) _).alloc _
    · have b2 : (seq == r.seq) = false := by simpa using h2
      go_enter Try.func22, Try.ntmps22
      go_wp2_with (go_at_call 25; refine (latest_any _ m _ l ((H.out.alloc _).alloc _) id).mono ?_; rintro e w' ⟨rfl, ht⟩; obtain ⟨F1, F2, F3⟩ := ((blk_new1 _ _ _ _).touch ht (fun f => f)).facts; have HT := hide ht; clear ht; rw [← HR.out]; unfold KRow.val)
      refine bodyPost_ret (v := CRes.val ⟨0, 0, 0, false, 0⟩) (by simp [results, Try.results22, CRes.val, go_sem, F1, F3]) rfl ⟨?_, ?_⟩
      · simp [chk, KRow.row, h0, show ¬ seq < r.seq by omega, h2]
      · exact (((((((Touch.refl _ _).alloc _).alloc _).then HT.out).setCell (p := ⟨_, _, none⟩) (fun h => by simp at h; omega) _).setCell (p := ⟨_, _, none⟩) (fun h => by simp at h; omega) _).setCell (p := ⟨_, _, none⟩) (fun h => by simp at h; omega) _).alloc _


theorem Try.keptSeq (w : World) (a b c d e : Value) : (Instr.field 64 (.agg #[a, b, c, d, e]) 1).run Try.prog w = .ok b w := by kernel_rfl

def kkeepB (m : Int) (l : List KRow) (id seq : Int) : Bool := thereK m id && decide ((latest l id).seq < seq)

theorem krow_one (l : List KRow) : ∀ u ∈ kCells l, u.oneCell' = true := by
  intro u hu
  simp only [kCells, List.mem_flatMap] at hu
  obtain ⟨r, _, hu⟩ := hu
  simp only [KRow.cells, List.mem_cons, List.not_mem_nil, or_false] at hu
  rcases hu with rfl | rfl | rfl | rfl | rfl <;> rfl

theorem kkeep_no (w : World) (m : Int) (v : Value) (l : List KRow) (h : KTab w v l) (id seq : Int) (a : SRow) (hk : kkeepB m l id seq = false) :
    Calls Try.prog 23 #[kV m v, .int .u64 id, .int .u64 seq, .agg #[.int .i64 a.code, .int .u64 a.sess, .int .i64 a.had]] w fun e w' =>
      e = .returned (.tuple #[kV m v, .bool false]) ∧ Touch (fun _ => False) w w' := by
  obtain ⟨A, c, hv, _, hc⟩ := own_len h
  subst hv
  have H := hide h
  clear h
  unfold kV
  have hor : id < 1 ∨ (1 ≤ id ∧ m < id) ∨ (1 ≤ id ∧ id ≤ m ∧ seq ≤ (latest l id).seq) := by unfold kkeepB thereK at hk; simp at hk; omega
  clear hk
  rcases hor with h1 | ⟨h1, h2⟩ | ⟨h1, h2, h3⟩
  · go_enter Try.func23, Try.ntmps23
    go_wp2
    refine bodyPost_ret (v := .tuple #[kV m (.slice A l.length c), .bool false]) (by simp [results, Try.results23, kV, go_sem]) rfl ⟨rfl, (((Touch.refl _ _).alloc _).alloc _).alloc _⟩
  · go_enter Try.func23, Try.ntmps23
    go_wp2
    refine bodyPost_ret (v := .tuple #[kV m (.slice A l.length c), .bool false]) (by simp [results, Try.results23, kV, go_sem]) rfl ⟨rfl, (((Touch.refl _ _).alloc _).alloc _).alloc _⟩
  · obtain ⟨r, hr⟩ : ∃ r, r = latest l id := ⟨_, rfl⟩
    have HR := hide hr
    rw [← hr] at h3
    clear hr
    have hfld := Try.keptSeq
    go_enter Try.func23, Try.ntmps23
    go_wp2_with (go_at_call 25; refine (latest_any _ m _ l (((H.out.alloc _).alloc _).alloc _) id).mono ?_; rintro e w' ⟨rfl, ht⟩; obtain ⟨F1, F2, F3⟩ := ((blk_new2 _ _ _ _ _).touch ht (fun f => f)).facts; obtain ⟨G1, G2, G3⟩ := (Blk.touch (((Blk.new w 42 _).alloc _).alloc _) ht (fun f => f)).facts; have HT := hide ht; clear ht; rw [← HR.out]; unfold KRow.val)
    refine bodyPost_ret (v := .tuple #[kV m (.slice A l.length c), .bool false]) (by simp [results, Try.results23, kV, go_sem, F1, F2, F3, G1]) rfl ⟨rfl, ?_⟩
    exact (((((((Touch.refl _ _).alloc _).alloc _).alloc _).then HT.out).setCell (p := ⟨_, _, none⟩) (fun h => by simp at h; omega) _).setCell (p := ⟨_, _, none⟩) (fun h => by simp at h; omega) _)

end Go.Proofs.Ytiakbccomgcncaa
