/- 'stands': a table tells what the document says. Condition: both have the same rows. -/
import Derived.Test.YtiakbccomgcncaaDoes
import Derived.BigQuiet
import Derived.Deep.QuietTactic
namespace Go.Proofs.Ytiakbccomgcncaa
open Go.RowKit

/-- A call in a region that only reads. -/
theorem quiet_same {P : Program} {f : FuncId} {args : Array Value} {w : World} {n : Nat} {v : Value} (h : Calls P f args (w.drewN n) fun e w' => e = .returned v ∧ w.drewN n = w') :
    Calls P f args (w.drewN n) fun e w'' => e = .returned v ∧ ∃ m, w'' = w.drewN m :=
  h.mono fun _ _ ⟨he, hm⟩ => ⟨he, n, hm.symm⟩

set_option maxRecDepth 100000 in
set_option maxHeartbeats 1000000 in
theorem stands_any (w : World) (p : Nat) (v kv : Value) (l : List SRow) (m : Int) (ks : List KRow) (h : Two w p v kv l m ks) :
    Calls Try.prog 17 #[.pointer (some ⟨p, 0, none⟩), kV m kv] w fun e w' => e = .returned (.bool true) ∧ Touch (fun _ => False) w w' := by
  obtain ⟨Ak, ck, hkv, _⟩ := own_len h.ktab
  subst hkv
  have hm := h.same.many
  have hfew : (l.length : Int) ≤ 4096 := by have := h.few; omega
  have HT := hide h
  clear h
  subst hm
  unfold kV
  go_enter Try.func17, Try.ntmps17
  go_wp2_with (go_at_call 19; refine (rows_any _ p v l (HT.out.tab.alloc _) HT.out.few).mono ?_; rintro e w2 ⟨v2, rfl, ho2, hc2, hf2⟩; obtain ⟨A2, c2, hv2, _⟩ := own_len ho2; have bK := (Blk.new w 42 _).touch hc2 (fun f => f); have BK := hide bK; obtain ⟨k1, k2, k3⟩ := bK.facts; have O2 := hide ho2; have C2 := hide hc2; clear hc2 ho2 hf2 bK; subst hv2)
  have T2 := hide (HT.out.quiet (((Touch.refl _ _).alloc _).then C2.out))
  have hw : IntKind.i64.wrap (l.length : Int) = (l.length : Int) := IntWalk.i64_in _ (by omega)
  go_quiet ((go_at_call 14; exact quiet_same (len_any (w2.drewN _) p v l T2.out.tab)))
  go_wp2
  go_loopw [26] (fun i wr => ∃ k : Nat, k ≤ l.length ∧ i = .int .i64 k ∧ Touch (fun _ => False) w2 wr) (fun i _ => l.length - (intOf i).toNat)
  case atStart => exact ⟨0, Nat.zero_le _, rfl, (Touch.refl _ _).drewN _⟩
  case round =>
    obtain ⟨k, hk, rfl, hT⟩ := hrel
    have HTT := hide hT
    obtain ⟨x1, x2, x3⟩ := (BK.out.touch hT (fun f => f)).facts
    clear hT k1 k2 k3
    by_cases hkn : k < l.length
    · obtain ⟨g, hg, hgl, c0, c1, c2, c3⟩ := own_row (own_touch O2.out HTT.out (fun _ _ f => f)) rfl k hkn
      subst hg
      have hrow := HT.out.same.row k hkn
      rw [rowAt_succ l k hkn] at hrow
      have e : l.getD k SRow.zero = l[k] := by simp [List.getD, hkn]
      rw [e] at c0 c1 c2 c3
      obtain ⟨⟨qi, qs, qc, qe, qh⟩, hq⟩ : ∃ q, q = latest ks ((k : Int) + 1) := ⟨_, rfl⟩
      rw [hrow, ← hq] at c0 c1 c2 c3
      simp only [KRow.row] at c0 c1 c2 c3
      have HQ := hide hq
      have hw1 : IntKind.u64.wrap ((k : Int) + 1) = (k : Int) + 1 := IntWalk.u64_in _ (by omega)
      clear hq hrow e
      go_wp2_with (go_at_call 25; refine (latest_any _ _ _ ks ((((HT.out.ktab.alloc _).touch C2.out (fun _ _ f => f)).touch HTT.out (fun _ _ f => f)).alloc _) ((k : Int) + 1)).mono ?_; rintro e w3 ⟨rfl, hc3⟩; have bX := (Blk.new wr 51 _).touch hc3 (fun f => f); obtain ⟨y1, y2, y3⟩ := bX.facts; have C3 := hide hc3; clear hc3 bX; rw [← HQ.out]; unfold KRow.val)
      go_roundw
      case rel => exact ⟨k + 1, by omega, by go_num, ((HTT.out.alloc _).then C3.out).alloc _⟩
      case measure => simp [intOf]; omega
    · go_wp2
      go_ret
      exact ⟨rfl, (((Touch.refl _ _).alloc _).then C2.out).then HTT.out⟩

end Go.Proofs.Ytiakbccomgcncaa
