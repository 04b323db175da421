/- What the copying and loading of a session table do to memory. No condition but that the rows lie there. -/
import Derived.Test.YtiakbccomgcncaaSessA
import Derived.Lib.SliceRun
namespace Go.Proofs.Ytiakbccomgcncaa
open Go.RowKit

theorem srow_one (l : List SRow) : ∀ u ∈ rowCells l, u.oneCell' = true := by
  intro u hu
  simp only [rowCells, List.mem_flatMap] at hu
  obtain ⟨r, _, hu⟩ := hu
  simp only [SRow.cells, List.mem_cons, List.not_mem_nil, or_false] at hu
  rcases hu with rfl | rfl | rfl | rfl <;> rfl

theorem clone_any (w : World) (A : Option Addr) (n c : Nat) (l : List SRow) (hl : n = l.length) (hr : Reads w 4 A n (rowCells l)) (hA : A = none → n = 0 ∧ c = 0) (hn : n * 32 ≤ 140737488355328) :
    Calls Try.prog 24 #[.slice A n c] w fun e w' =>
      ∃ v', e = .returned v' ∧ w'.ownsRow 0 51 4 v' n (rowCells l) ∧ Touch (fun _ => False) w w' ∧ ∀ g, v'.ownBlock = some g → w.heap.size ≤ g := by
  have q47 : ∀ (w : World) (a : Option Addr) (n c n' c' : Nat), (binOp .eql 47 (.slice a n c) (.slice none n' c')).run Try.prog w = .ok (.bool a.isNone) w := fun w a n c n' c' => Lib.run_eql_slice_nil w _ _ a n c n' c' Try.underlying47
  obtain ⟨i0, hi, hz0, hz1, hz2⟩ := info_parts Try.infoRow
  cases A with
  | none =>
    obtain ⟨rfl, rfl⟩ := hA rfl
    have h0 : l = [] := List.eq_nil_of_length_eq_zero hl.symm
    subst h0
    clear hr hA hn hl
    go_enter Try.func24, Try.ntmps24
    go_wp2
    go_ret
    exact ⟨_, rfl, World.ownsRow_nil _ _ _ _, Touch.refl _ _, fun g hg => by cases hg⟩
  | some ad =>
    have HR := hide hr
    have HL := hide hl
    clear hr hl hA
    go_enter Try.func24, Try.ntmps24
    go_wp2_with (at_builtin; refine wpList_app _ rfl _ _ 47 rfl 51 i0 (.agg #[.int .u64 0, .int .i64 0, .int .u64 0, .int .i64 0]) 4 32 Try.underlying47 hi hz0 hz1 hz2 rfl (by decide) _ 0 [] rfl (World.ownsRow_made _ #[] 0 (Nat.zero_le _) (by decide) rfl) (some ad) n c (rowCells l) rfl (HR.out.alloc _) ?c2 (srow_one l) ?c4 ?c5 ?_)
    case c2 => exact fun h => by cases h
    case c4 => unfold maxLen; omega
    case c5 => omega
    intro v' w1 hown hgrow hfr _
    have HW := hide (show w1.ownsRow 0 51 4 v' n (rowCells l) ∧ Touch (fun _ => False) w w1 ∧ ∀ g, v'.ownBlock = some g → w.heap.size ≤ g from ⟨by simpa using hown, ((Touch.refl _ _).alloc _).grown hgrow (fun k hk hlt => by simp [Value.ownBlock] at hk; omega), fun g hg => by
      rcases hfr with h | ⟨g', h, hg'⟩
      · rw [h] at hg; simp [Value.ownBlock] at hg; omega
      · rw [h] at hg; simp at hg hg'; omega⟩)
    clear hown hgrow hfr
    go_wp2
    go_ret
    obtain ⟨h1, h2, h3⟩ := HW.out
    exact ⟨_, rfl, h1, h2, h3⟩

theorem own_nilOk {w : World} {base : Nat} {e : TypeId} {size n : Nat} {A : Option Addr} {c : Nat} {xs : List Value} (h : w.ownsRow base e size (.slice A n c) n xs) : A = none → n = 0 ∧ c = 0 := by
  rintro rfl
  rcases h.2 with ⟨h1, rfl⟩ | ⟨g, cap, cur, h1, _⟩
  · injection h1 with _ _ h3
    exact ⟨rfl, h3⟩
  · injection h1 with h1 _ _
    cases h1

theorem rows_any (w : World) (p : Nat) (v : Value) (l : List SRow) (h : Tab w p v l) (hn : l.length ≤ 4096) :
    Calls Try.prog 19 #[.pointer (some ⟨p, 0, none⟩)] w fun e w' =>
      ∃ v', e = .returned v' ∧ w'.ownsRow 0 51 4 v' l.length (rowCells l) ∧ Touch (fun _ => False) w w' ∧ ∀ g, v'.ownBlock = some g → w.heap.size ≤ g := by
  obtain ⟨hb, ho⟩ := h
  obtain ⟨A, c, hv, _, hc⟩ := own_len ho
  subst hv
  have c0 := hb.cell 0
  simp at c0
  have H := hide ho
  clear ho hb
  go_enter Try.func19, Try.ntmps19
  go_wp2_with (go_at_call 24; refine (clone_any w A l.length c l rfl (Reads.of_own H.out) (own_nilOk H.out) (by omega)).mono ?_; rintro e w' ⟨v', rfl, hown⟩; have H2 := hide hown; clear hown)
  go_ret
  exact ⟨_, rfl, H2.out⟩

theorem tclone_any (w : World) (p : Nat) (v : Value) (l : List SRow) (h : Tab w p v l) (hn : l.length ≤ 4096) :
    Calls Try.prog 16 #[.pointer (some ⟨p, 0, none⟩)] w fun e w' =>
      ∃ q v', e = .returned (.pointer (some ⟨q, 0, none⟩)) ∧ Tab w' q v' l ∧ Touch (fun _ => False) w w' ∧ w.heap.size ≤ q ∧ ∀ g, v'.ownBlock = some g → w.heap.size ≤ g := by
  obtain ⟨hb, ho⟩ := h
  obtain ⟨A, c, hv, _, hc⟩ := own_len ho
  subst hv
  have c0 := hb.cell 0
  simp at c0
  have H := hide ho
  clear ho hb
  go_enter Try.func16, Try.ntmps16
  go_wp2_with (go_at_call 24; refine (clone_any w A l.length c l rfl (Reads.of_own H.out) (own_nilOk H.out) (by omega)).mono ?_; rintro e w' ⟨v', rfl, hown⟩; have H2 := hide hown; obtain ⟨A', c', hv', _⟩ := own_len hown.1; clear hown; subst hv')
  go_ret
  obtain ⟨h1, h2, h3⟩ := H2.out
  exact ⟨_, _, rfl, ⟨Blk.new _ _ _, h1.alloc _⟩, h2.alloc _, h2.size, h3⟩

/-- 'clear' on a row that the program owns. -/
theorem wpList_clear {P : Program} (w : World) {ops : Array Oper} {rest : List Oper} {o : Oper} {a : Act} {Q : Exit → Act → World → Prop}
    (hg : o.guard = none) (x : Operand) (t : TypeId) (hop : o.op = Op.call { callee := Callee.builtin Builtin.clear, args := #[x], argTypes := #[t] })
    (e : TypeId) (z : Value) (size : Nat) (h1 : P.underlying t = some (.slice e)) (hv : ∀ w, (zeroValue e).run P w = .ok z w) (h6 : z.cells.size = size) (hone : ∀ u ∈ z.cells.toList, u.oneCell' = true)
    (v : Value) (n : Nat) (xs : List Value) (hs : a.eval x = v) (hown : w.ownsRow 0 e size v n xs)
    (hK : ∀ w', w.grownBy w' v.ownBlock → wpList P ops Q rest (a.put o.dst (.tuple #[])) w') :
    wpList P ops Q (o :: rest) a w := by
  refine wpList_plain hg fun K hK' => ?_
  have main : ∃ w', (Builtin.clear_ #[t] o.type #[v]).run P w = .ok (.tuple #[]) w' ∧ w.grownBy w' v.ownBlock := by
    rcases hown.2 with ⟨rfl, rfl⟩ | ⟨g, cap, cur, rfl, _, hgg, hnc, hcm, hcs, ht⟩
    · exact ⟨w, by simp [Builtin.clear_, run_underlying h1], World.grownBy.refl _ _⟩
    · cases n with
      | zero => exact ⟨w, by simp [Builtin.clear_, run_underlying h1], World.grownBy.refl _ _⟩
      | succ n =>
        have hfit : 0 + (Builtin.zeroCells z.cells (n + 1)).toList.length ≤ cur.size := by
          rw [Array.length_toList, size_zeroCells, h6, hcs, Nat.zero_add]
          exact Nat.mul_le_mul_right _ hnc
        have hst := run_storeCells_at P g 0 e (Builtin.zeroCells z.cells (n + 1)).toList 0 cur w hgg (by simpa using hfit) (by
          intro u hu
          have hu' : u ∈ Builtin.zeroCells z.cells (n + 1) := Array.mem_toList_iff.1 hu
          unfold Builtin.zeroCells at hu'
          simp only [Array.mem_map, Array.mem_range] at hu'
          obtain ⟨k, hk, rfl⟩ := hu'
          have hpos : 0 < z.cells.size := by
            rcases Nat.eq_zero_or_pos z.cells.size with h | h
            · rw [h] at hk; omega
            · exact h
          rw [getElem!_pos z.cells _ (Nat.mod_lt _ hpos)]
          exact hone _ (Array.mem_toList_iff.2 (Array.getElem_mem _)))
        obtain ⟨X, hX⟩ : ∃ X, (storeCells ⟨g, 0, none⟩ (Builtin.zeroCells z.cells (n + 1)).toList).run P w = .ok () (w.setRow g X) := ⟨_, hst⟩
        refine ⟨w.setRow g X, by simp [Builtin.clear_, run_underlying h1, hv, hX], ⟨rfl, rfl, rfl, by simp, fun k _ hk => setRow_other w g k _ (fun e => hk (by simp [Value.ownBlock, e]))⟩⟩
  obtain ⟨w', r1, r2⟩ := main
  unfold Oper.wp
  simp [execOp, hop, resolve, invoke, builtin, hs, r1, Result.andThen]
  exact hK' _ _ (hK w' r2)

theorem Try.zeroRow (w : World) : (zeroValue 51).run Try.prog w = .ok (.agg #[.int .u64 0, .int .i64 0, .int .u64 0, .int .i64 0]) w := by kernel_rfl

/-- May a row be loaded? -/
def goodRow (r : SRow) : Bool := !(r.seq == 0) || (r == SRow.zero)

theorem own_row {w : World} {A : Option Addr} {n c : Nat} {l : List SRow} (h : w.ownsRow 0 51 4 (.slice A n c) n (rowCells l)) (hl : n = l.length) (k : Nat) (hk : k < n) :
    ∃ g, A = some ⟨g, 0, none⟩ ∧ g < w.heap.size ∧ w.cell? ⟨g, k * 4, none⟩ = some (.int .u64 (l.getD k SRow.zero).seq) ∧ w.cell? ⟨g, k * 4 + 1, none⟩ = some (.int .i64 (l.getD k SRow.zero).code) ∧
      w.cell? ⟨g, k * 4 + 2, none⟩ = some (.int .u64 (l.getD k SRow.zero).sess) ∧ w.cell? ⟨g, k * 4 + 3, none⟩ = some (.int .i64 (l.getD k SRow.zero).had) := by
  obtain ⟨g, cap, hv, _, _, hg, hc, _⟩ := own_form h (by omega)
  injection hv with hA' _ _
  have hk' : k < l.length := by omega
  have e : l.getD k SRow.zero = l[k] := by simp [List.getD, hk']
  rw [e]
  refine ⟨g, hA', hg, ?_, ?_, ?_, ?_⟩
  · exact hc _ _ (by have := rowCells_at l k hk' 0 (by omega); rw [show k * 4 = 4 * k + 0 by omega, this]; rfl)
  · exact hc _ _ (by have := rowCells_at l k hk' 1 (by omega); rw [show k * 4 + 1 = 4 * k + 1 by omega, this]; rfl)
  · exact hc _ _ (by have := rowCells_at l k hk' 2 (by omega); rw [show k * 4 + 2 = 4 * k + 2 by omega, this]; rfl)
  · exact hc _ _ (by have := rowCells_at l k hk' 3 (by omega); rw [show k * 4 + 3 = 4 * k + 3 by omega, this]; rfl)

theorem take_all (l : List SRow) (k : Nat) (hk : k < l.length) (h : (l.take k).all goodRow = true) (hg : goodRow (l.getD k SRow.zero) = true) : (l.take (k + 1)).all goodRow = true := by
  have e : l.getD k SRow.zero = l[k] := by simp [List.getD, hk]
  rw [e] at hg
  rw [List.take_succ_eq_append_getElem hk, List.all_append, h]
  simpa using hg

theorem not_all (l : List SRow) (k : Nat) (hk : k < l.length) (hg : goodRow (l.getD k SRow.zero) = false) : l.all goodRow = false := by
  have e : l.getD k SRow.zero = l[k] := by simp [List.getD, hk]
  rw [e] at hg
  rw [List.all_eq_false]
  exact ⟨l[k], List.getElem_mem _, by simp [hg]⟩

theorem load_many (w : World) (A : Option Addr) (n c : Nat) (hn : 4096 < n) (hm : n ≤ 9223372036854775807) :
    Calls Try.prog 18 #[.slice A n c] w fun e w' => e = .returned (.tuple #[.pointer none, .bool false]) ∧ Touch (fun _ => False) w w' := by
  go_enter Try.func18, Try.ntmps18
  go_wp2
  go_ret2
  exact ⟨rfl, Touch.refl _ _⟩

theorem load_any (w : World) (A : Option Addr) (n c : Nat) (l : List SRow) (hl : n = l.length) (hr : Reads w 4 A n (rowCells l)) (hA : A = none → n = 0 ∧ c = 0) (hn : n ≤ 4096) :
    Calls Try.prog 18 #[.slice A n c] w fun e w' =>
      Touch (fun _ => False) w w' ∧
      ((l.all goodRow = false ∧ e = .returned (.tuple #[.pointer none, .bool false])) ∨
       (l.all goodRow = true ∧ ∃ q v', e = .returned (.tuple #[.pointer (some ⟨q, 0, none⟩), .bool true]) ∧ Tab w' q v' l ∧ w.heap.size ≤ q ∧ ∀ g, v'.ownBlock = some g → w.heap.size ≤ g)) := by
  have HR := hide hr
  have HL := hide hl
  have HA := hide hA
  clear hr hl hA
  go_enter Try.func18, Try.ntmps18
  go_wp2_with (go_at_call 24; refine (clone_any w A n c l HL.out HR.out HA.out (by omega)).mono ?_; rintro e w' ⟨v', rfl, hown⟩; have H2 := hide hown; obtain ⟨A', c', hv', _⟩ := own_len hown.1; clear hown; subst hv')
  obtain ⟨h1, h2, h3⟩ := H2.out
  have HL' := HL.out
  clear H2 HR HL HA
  go_loopw [13] (fun i wr => ∃ k : Nat, k ≤ n ∧ i = .int .i64 k ∧ (l.take k).all goodRow = true ∧ Touch (fun _ => False) w wr ∧ wr.ownsRow 0 51 4 (.slice A' n c') n (rowCells l))
    (fun i _ => n - (intOf i).toNat)
  case atStart => exact ⟨0, Nat.zero_le _, rfl, rfl, h2, h1⟩
  case round =>
    obtain ⟨k, hk, rfl, hall, ht, hown⟩ := hrel
    by_cases hkn : k < n
    · have hown' := hide hown
      obtain ⟨g, hA', hg, c0, c1, c2, c3⟩ := own_row hown HL' k hkn
      subst hA'
      clear hown
      have HALL := hide hall
      have HT := hide ht
      have HL2 := hide HL'
      clear hall ht
      have H2' := hide (And.intro h2 h3)
      clear h1 h2 h3 HL'
      obtain ⟨r, hr⟩ : ∃ r, r = l.getD k SRow.zero := ⟨_, rfl⟩
      rw [← hr] at c0 c1 c2 c3
      have HR := hide hr
      clear hr
      obtain ⟨rs, rc, rr, rh⟩ := r
      simp only at c0 c1 c2 c3
      by_cases h0 : rs = 0
      · subst h0
        have HO2 := hide (hown'.out.alloc (.cells #[.int .u64 0, .int .i64 rc, .int .u64 rr, .int .i64 rh] 51))
        go_wp2_with (with_reducible refine wpList_clear _ rfl (.tmp 25) 47 rfl 51 (.agg #[.int .u64 0, .int .i64 0, .int .u64 0, .int .i64 0]) 4 Try.underlying47 Try.zeroRow rfl (List.all_eq_true.1 rfl) (.slice (some ⟨g, 0, none⟩) n c') n (rowCells l) rfl (hown'.out.alloc _) ?_)
        · have e1 : rc = 0 := by assumption
          have e2 : rr = 0 := by assumption
          have e3 : rh = 0 := by assumption
          go_roundw
          case rel => exact ⟨k + 1, by omega, by go_num, take_all l k (by have := HL2.out; omega) HALL.out (by rw [← HR.out, e1, e2, e3]; rfl), HT.out.alloc _, hown'.out.alloc _⟩
          case measure => simp [intOf]; omega
        all_goals
          intro w1 hgrow
          have HG := hide hgrow
          clear hgrow
          go_wp2
          go_ret2
          refine ⟨(HT.out.alloc _).app HG.out (fun g' hg' hlt => by have := H2'.out.2 g' hg'; omega), .inl ⟨not_all l k (by have := HL2.out; omega) ?_, rfl⟩⟩
          rw [← HR.out]
          simp [goodRow, SRow.zero]
          intros
          simp_all
      · have b0 : (rs == 0) = false := by simpa using h0
        go_wp2
        go_roundw
        case rel => exact ⟨k + 1, by omega, by go_num, take_all l k (by have := HL2.out; omega) HALL.out (by rw [← HR.out]; simp [goodRow, h0]), HT.out.alloc _, hown'.out.alloc _⟩
        case measure => simp [intOf]; omega
    · have hown' := hide hown
      have HALL := hide hall
      have HT := hide ht
      have H2' := hide (And.intro h1 (And.intro h2 h3))
      have HL2 := hide HL'
      clear hall ht h1 h2 h3 HL' hown
      go_wp2
      go_ret2
      refine ⟨HT.out.alloc _, .inr ⟨?_, _, _, rfl, ⟨Blk.new _ _ _, ?_⟩, HT.out.size, H2'.out.2.2⟩⟩
      · have := HALL.out
        rwa [List.take_of_length_le (by have := HL2.out; omega)] at this
      · have := hown'.out.alloc (.cells #[.slice A' n c'] 56)
        rw [← HL2.out]
        exact this

end Go.Proofs.Ytiakbccomgcncaa
