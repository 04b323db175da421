/- clear on pairs; slices.IndexFunc, slices.DeleteFunc for the pairs of weight 0. No condition but that the row is the program's own. -/
import Derived.Test.YtdjlcgldplndiaaDoorOrdered
import Derived.Laws.CopyRow
namespace Go.Proofs.YtdjlcgldplndiaaDoor
open Go.RowKit

theorem wpList_clear {P : Program} (w : World) {ops : Array Oper} {rest : List Oper} {o : Oper} {a : Act} {Q : Exit → Act → World → Prop} (hgd : o.guard = none) (x : Operand) (t : TypeId)
    (ho : o.op = .call { callee := .builtin .clear, args := #[x], argTypes := #[t] }) (vx : Value) (hx : a.eval x = vx)
    (w' : World) (hr : (Builtin.clear_ #[t] o.type #[vx]).run P w = .ok (.tuple #[]) w') (h : wpList P ops Q rest (a.put o.dst (.tuple #[])) w') : wpList P ops Q (o :: rest) a w := by
  refine wpList_plain hgd fun K hK => ?_
  unfold Oper.wp execOp
  simp only [ho, resolve, invoke, builtin, Sem.run_bind, Sem.run_pure, Result.andThen_ok, List.map_toArray, List.map_cons, List.map_nil, hx, hr]
  exact hK _ _ h

/-- clear(s[i:]) on a row of pairs of one's own: what stands ahead of i stands. -/
theorem clear_own (w : World) (g n c : Nat) (X : List PRow) (h : POwn w (some ⟨g, 0, none⟩) n c X) (i c' : Nat) (hi : i < n) (ty : TypeId) :
    ∃ w', (Builtin.clear_ #[22] ty #[.slice (some ⟨g, i * 2, none⟩) (n - i) c']).run Tryd.prog w = .ok (.tuple #[]) w' ∧ POwn w' (some ⟨g, 0, none⟩) i c (X.take i) ∧ Touch (fun k => k = g) w w' := by
  obtain ⟨i0, hi0, hz0, hz1, _⟩ := info_parts infoPair
  rcases h.2 with ⟨e, _⟩ | ⟨g', cap, cur, e, _, hgg, hnc, hcm, hcs, ht⟩
  · cases e
  injection e with e1 e2 e3
  injection e1 with e1
  injection e1 with e1
  subst e1 e3
  obtain ⟨Zs, hZ⟩ : ∃ Zs, Zs = (Builtin.zeroCells (Value.agg #[.string ByteArray.empty, .int .i64 0]).cells (n - i)).toList := ⟨_, rfl⟩
  have hzl : Zs.length = (n - i) * 2 := by rw [hZ, Array.length_toList]; simp [Builtin.zeroCells, Value.cells]
  have hz1c : ∀ v ∈ Zs, v.oneCell' = true := by
    intro v hv
    rw [hZ] at hv
    simp only [Builtin.zeroCells, Array.toList_map, List.mem_map] at hv
    obtain ⟨j, _, rfl⟩ := hv
    have : j % (Value.agg #[Value.string ByteArray.empty, Value.int IntKind.i64 0]).cells.size = 0 ∨ j % (Value.agg #[Value.string ByteArray.empty, Value.int IntKind.i64 0]).cells.size = 1 := by
      simp only [Value.cells, List.size_toArray, List.length_cons, List.length_nil]
      omega
    rcases this with e | e <;> (rw [e]; rfl)
  have hst := run_storeCells_at (P := Tryd.prog) g (i * 2) 29 Zs 0 cur w hgg (by rw [hzl, hcs]; omega) hz1c
  simp only [Nat.add_zero] at hst
  obtain ⟨cs, hcsd⟩ : ∃ cs, cs = (cur.toList.take (i * 2) ++ Zs ++ cur.toList.drop (i * 2 + Zs.length)).toArray := ⟨_, rfl⟩
  rw [← hcsd] at hst
  refine ⟨w.setRow g cs, ?_, ⟨?_, .inr ⟨g, c, cs, rfl, Nat.zero_le _, setRow_heap w g cur cs _ _ hgg, by omega, hcm, ?_, ?_⟩⟩, ⟨rfl, rfl, rfl, by simp, fun k _ hk => setRow_other w g k cs hk⟩⟩
  · obtain ⟨m, hm⟩ : ∃ m, n - i = m + 1 := ⟨n - i - 1, by omega⟩
    have hv : ∀ w, (zeroValue 29).run Tryd.prog w = .ok (Value.agg #[.string ByteArray.empty, .int .i64 0]) w := fun w => by simp [zeroValue, typeInfo, hi0, hz0]
    rw [hm] at hZ ⊢
    simp [Builtin.clear_, run_underlying Tryd.underlying22, hv, ← hZ, hst]
  · rw [pCells_len, List.length_take, ← pown_len h]; omega
  · rw [hcsd]; simp [hzl, hcs]; omega
  · rw [hcsd]
    simp only [List.append_assoc]
    rw [List.take_append_of_le_length (by rw [List.length_take, Array.length_toList]; omega), List.take_take, Nat.min_self, ← pCells_take, ← ht, List.take_take]
    congr 1
    omega

/-- The function that the deletion is handed. -/
abbrev delF : Value := .func (.func 29) #[] #[]

set_option maxRecDepth 100000 in
theorem zero_any (a : PRow) (w : World) :
    Calls Tryd.prog 29 #[a.val] w fun e w' => e = .returned (.bool (a.weight == 0)) ∧ Touch (fun _ => False) w w' := by
  obtain ⟨aw, an⟩ := a
  rw [pval_eq]
  go_enter Tryd.func29, Tryd.ntmps29
  go_wp2
  go_ret
  exact ⟨rfl, (Touch.refl _ _).alloc _⟩

def keepP (p : PRow) : Bool := !(p.weight == 0)

set_option maxRecDepth 100000 in
set_option maxHeartbeats 1000000 in
theorem index_any (w : World) (A : Option Addr) (n c : Nat) (X : List PRow) (h : POwn w A n c X) :
    Calls Tryd.prog 34 #[.slice A n c, delF] w fun e w' => ((e = .returned (.int .i64 (-1)) ∧ X.filter keepP = X) ∨ ∃ i, i < n ∧ e = .returned (.int .i64 (i : Nat)) ∧ (X.take i).filter keepP = X.take i ∧ ((X.getD i PRow.zero).weight == 0) = true) ∧ Touch (fun _ => False) w w' := by
  have hn := own_le h
  unfold maxLen at hn
  have HO := hide h
  have HL := hide (pown_len h)
  clear h
  go_enter Tryd.func34, Tryd.ntmps34
  go_wp2
  go_loopw [8] (fun iv wr => ∃ i : Nat, iv = .int .i64 i ∧ i ≤ n ∧ Hid ((X.take i).filter keepP = X.take i) ∧ Hid (Touch (fun _ => False) w wr)) (fun iv _ => n - (intOf iv).toNat)
  case atStart => exact ⟨0, rfl, Nat.zero_le _, hide (by simp), hide (Touch.refl _ _)⟩
  case round =>
    obtain ⟨i, rfl, hin, HF, HT⟩ := hrel
    by_cases h0 : i < n
    · have y0 : (i : Int) < (n : Int) := by omega
      obtain ⟨g, rfl, hg, a0, a1, _, _⟩ := pown_at (own_touch HO.out HT.out (fun _ _ f => f)) HL.out i h0
      have hlt : i < X.length := by rw [← HL.out]; exact h0
      have htk : X.take (i + 1) = X.take i ++ [X.getD i PRow.zero] := by
        have e2 : X.getD i PRow.zero = X[i] := by simp [List.getD, hlt]
        rw [List.take_succ_eq_append_getElem hlt, e2]
      obtain ⟨⟨xw, xn⟩, hx⟩ : ∃ r, r = X.getD i PRow.zero := ⟨_, rfl⟩
      rw [← hx] at a0 a1 htk
      simp only at a0 a1
      have HX := hide hx
      have HTK := hide htk
      clear hx htk hlt
      by_cases hz : xn = 0
      · have q1 : (xn == 0) = true := by simp [hz]
        have HQ := hide q1
        clear hz q1
        go_wp2_with (go_at_call 29; refine (zero_any ⟨xw, xn⟩ wr).mono ?_; rw [show ((⟨xw, xn⟩ : PRow).weight == 0) = true from HQ.out]; rintro e w2 ⟨rfl, T2⟩; have HT2 := hide (HT.out.then T2); clear T2)
        go_ret
        exact ⟨.inr ⟨i, h0, rfl, HF.out, by rw [← HX.out]; exact HQ.out⟩, HT2.out⟩
      · have q1 : (xn == 0) = false := by simp [hz]
        have HQ := hide q1
        clear hz q1
        go_wp2_with (go_at_call 29; refine (zero_any ⟨xw, xn⟩ wr).mono ?_; rw [show ((⟨xw, xn⟩ : PRow).weight == 0) = false from HQ.out]; rintro e w2 ⟨rfl, T2⟩; have HT2 := hide (HT.out.then T2); clear T2)
        go_roundw
        · refine ⟨i + 1, by simp, by omega, hide ?_, HT2⟩
          rw [HTK.out, List.filter_append, HF.out]
          have e : keepP ⟨xw, xn⟩ = true := by unfold keepP; rw [show ((⟨xw, xn⟩ : PRow).weight == 0) = false from HQ.out]; rfl
          simp [e]
        · show n - (intOf (.int .i64 ((i : Int) + 1))).toNat < n - (intOf (.int .i64 (i : Int))).toNat
          simp [intOf]
          omega
    · have hX : X.take i = X := List.take_of_length_le (by rw [← HL.out]; omega)
      have HXX := hide hX
      clear hX
      go_wp2
      go_ret
      have hf := HF.out
      rw [HXX.out] at hf
      exact ⟨.inl ⟨rfl, hf⟩, HT.out⟩

end Go.Proofs.YtdjlcgldplndiaaDoor
