/- (*walk.Walk).All told to the body of a range over a function; strings.HasPrefix. Condition: it is a dictionary. -/
import Derived.Test.YtnakpadjlamdeaaDoorUndB
import Derived.Lib.Strings
namespace Go.Proofs.YtnakpadjlamdeaaDoor
open Go.RowKit

theorem fromI_any (w0 : World) (hL : Lst w0) (b : Nat) (base : Int) (A : Option Addr) (n c : Nat) (Z : List SV) (wA : Option Addr) (wc : Nat) (W : List Int) (hM : WkM w0 b base A n c Z wA wc W) (k : KnP) (hk : Good k) (hh : ∀ X ∈ k.rests, Her X) (hZ : Z.map SV.p = k.states) (lp B0 : Nat) (hB0 : 0 < B0) (J Jx : List PRow → World → Prop) (N : Nat)
    (hJ : ∀ pre W W', J pre W → Touch (fun _ => False) W W' → J pre W') (hJx : ∀ pre W W', Jx pre W → Touch (fun _ => False) W W' → Jx pre W') (hY : YieldsJ lp B0 J Jx N) : ∀ f, FromI w0 b n k lp B0 J Jx N f
  | 0 => fun _ _ _ _ _ _ _ _ _ hd => absurd hd (Nat.not_lt_zero _)
  | f + 1 => fromI_step w0 hL b base A n c Z wA wc W hM k hk hh hZ lp B0 hB0 J Jx N hJ hJx hY f (fromI_any w0 hL b base A n c Z wA wc W hM k hk hh hZ lp B0 hB0 J Jx N hJ hJx hY f)

set_option maxRecDepth 100000 in
set_option maxHeartbeats 4000000 in
theorem all1_yield {w0 : World} (hL : Lst w0) {b : Nat} {L : List PRow} {n : Nat} {A : Option Addr} {c : Nat} {Z : List SV} {wA : Option Addr} {wc : Nat} (h : DWk w0 b L n A c Z wA wc) (hD : DictP L) (B : Nat) (hB : Blk w0 B 23 #[.pointer (some ⟨b, 0, none⟩)]) (w : World) (lp B0 : Nat) (hB0 : 0 < B0) (J Jx : List PRow → World → Prop)
    (hJ : ∀ pre W W', J pre W → Touch (fun _ => False) W W' → J pre W') (hJx : ∀ pre W W', Jx pre W → Touch (fun _ => False) W W' → Jx pre W') (hY : YieldsJ lp B0 J Jx L.length) (hK : KpT B0 w0 w) (h0 : J [] w) :
    Calls Tryd.prog 46 #[.func (.yield lp) #[] #[], .pointer (some ⟨B, 0, none⟩)] w fun e w' => e = .returned (.tuple #[]) ∧ (J L w' ∨ ∃ q, q <+: L ∧ Jx q w') := by
  obtain ⟨x0, x1, x2⟩ := (h.wk.kp hK).blk.facts
  obtain ⟨b0, b1, b2⟩ := (hB.kp hK (by decide) (by decide)).facts
  by_cases he : L = []
  · subst he
    have hn : n = 0 := by rw [← h.n_len]; rfl
    subst hn
    have HC := hide h0
    clear h hD hL hB h0 hJ hJx hY hK
    go_enter Tryd.func46, Tryd.ntmps46
    go_wp2_with fail
    go_end0
    exact ⟨rfl, .inl HC.out⟩
  · have hm := mach_ne he
    have M := made hD he
    have hher := stateF_her 25 ⟨[], []⟩ (restsL L) (fun X hX => (by cases hX)) (her_dict hD)
    have hn := h.n_len
    have hst := h.st
    have hwk := h.wk
    rw [hm] at hn hst hwk
    simp only at hn hst hwk
    have hbase := base_mach hD
    have hpos := M.pos
    have hroot := M.root
    rw [hn] at hroot
    have hfa := fromI_any w0 hL b _ A n c Z wA wc _ hwk _ M.good hher hst lp B0 hB0 J Jx L.length hJ hJx hY 25
    have hdep := dep_dict hD
    have hwl := words_dict hD
    have hbm : (mach L).base = leastR (restsL L) := by rw [hm]
    rw [hbm] at x0 hbase
    obtain ⟨base, hb⟩ : ∃ x, x = leastR (restsL L) := ⟨_, rfl⟩
    rw [← hb] at x0 hbase hwl hwk
    have hll : (levelR (restsL L)).length = L.length := by unfold levelR restsL; rw [List.length_map, List.length_map]
    have hcall : ∀ wx, Touch (fun _ => False) w wx → Calls Tryd.prog 47 #[.pointer (some ⟨b, 0, none⟩), .int .i64 ((n - 1 : Nat) : Int), .string ⟨#[]⟩, .int .i64 base, .func (.yield lp) #[] #[]] wx (fun e w5 => ∃ v, e = .returned (.bool v) ∧ (J L w5 ∨ ∃ q, q <+: L ∧ Jx q w5)) := fun wx T => (hfa wx (n - 1) (levelR (restsL L)) ⟨#[]⟩ [] base [] (by omega) hroot (by rw [depR_level]; exact hdep) (toList_mk []) (by rw [depR_level]; simp only [List.length_nil]; omega) (hK.trans (KpT.of T)) (hJ _ _ _ h0 T) (by rw [hll]; simp) hbase.1 (by
      intro r hr
      have h1 := mem_level.1 (show (r.1, r.2) ∈ levelR (restsL L) from hr)
      obtain ⟨p, hp, e⟩ := List.mem_map.1 h1
      have := (hD.weight p hp).2
      simp only [Prod.mk.injEq] at e
      omega)).mono (by
      intro e w5 hC5
      rw [hwl] at hC5
      rcases hC5 with ⟨rfl, h1, _⟩ | ⟨rfl, h1⟩
      · exact ⟨_, rfl, .inl (by simpa using h1)⟩
      · exact ⟨_, rfl, .inr (by simpa using h1)⟩)
    have hfew := h.few
    have HWK := hide (h.wk.kp hK).blk
    rw [hbm, ← hb] at HWK
    have HN := hide hfew
    have HCALL := hide hcall
    have hn1 : ((n - 1 : Nat) : Int) = (n : Int) - 1 := by omega
    rw [hn1] at HCALL
    have y0 : (0 : Int) < (n : Int) := by omega
    clear h hD hL hB h0 hJ hJx hY hK hll hm M hher hn hst hwk hbase hpos hroot hfa hdep hwl hbm hb hcall hfew hn1
    go_enter Tryd.func46, Tryd.ntmps46
    go_wp2_with fail
    refine wp_region_still_tail 8 (by kernel_rfl) (by kernel_rfl) ?_
    simp only [List.take_succ_cons, List.take_zero, List.drop_succ_cons, List.drop_zero]
    still_step
    still_step
    still_call (root_any w.drew b base A n c _ HWK.out.drew HN.out)
    repeat still_step
    refine wpStill_nil ?_
    change wpList _ _ _ _ _ w.drew
    have HDR := hide (show Touch (fun _ => False) w w.drew from (Touch.refl _ _).drew)
    generalize w.drew = wd at HDR ⊢
    go_wp2_with ((go_at_call 47; refine (HCALL.out wd HDR.out).mono ?_; rintro e w5 ⟨v, rfl, h5⟩; have H5 := hide h5; clear h5))
    go_end0
    exact ⟨rfl, H5.out⟩

set_option maxHeartbeats 1000000 in
theorem slprefix_any (w : World) (s p : ByteArray) : Calls Tryd.prog 66 #[.string s, .string p] w fun e w' => e = .returned (.bool (Lib.hasPrefix s.toList p.toList)) ∧ Touch (fun _ => False) w w' := by
  have hh := Lib.hasPrefix_of_take s.toList p.toList
  rw [← size_list, ← size_list] at hh
  by_cases hc : p.size ≤ s.size
  · have c1 : (p.size : Int) ≤ (s.size : Int) := by omega
    have he : (s.extract 0 p.size).toList = s.toList.take p.size := by
      rw [Lib.extract_toList, Lib.toList_data]
      simp
    rw [decide_eq_true hc, Bool.true_and, ← he] at hh
    have HH := hide hh
    clear hc he hh
    go_enter Tryd.func66, Tryd.ntmps66
    go_wp2
    go_ret
    exact ⟨by rw [HH.out]; rfl, Touch.refl _ _⟩
  · have c1 : ¬ (p.size : Int) ≤ (s.size : Int) := by omega
    rw [decide_eq_false hc, Bool.false_and] at hh
    have HH := hide hh
    clear hc hh
    go_enter Tryd.func66, Tryd.ntmps66
    go_wp2
    go_ret
    exact ⟨by rw [← HH.out]; rfl, Touch.refl _ _⟩
theorem prefix_any (w : World) (s p : ByteArray) : Calls Tryd.prog 50 #[.string s, .string p] w fun e w' => e = .returned (.bool (Lib.hasPrefix s.toList p.toList)) ∧ Touch (fun _ => False) w w' := by
  go_enter Tryd.func50, Tryd.ntmps50
  go_wp2_with ((go_at_call 66; refine (slprefix_any _ _ _).mono ?_; rintro e w2 ⟨rfl, T2⟩; have HT2 := hide T2; clear T2))
  go_ret
  exact ⟨rfl, HT2.out⟩
theorem wunder_any (w : World) (b : Nat) (k : ByteArray) :
    Calls Tryd.prog 31 #[.pointer (some ⟨b, 0, none⟩), .string k] w fun e w' => ∃ B2 B3, e = .returned (.func (.func 49) #[] #[.pointer (some ⟨B2, 0, none⟩), .pointer (some ⟨B3, 0, none⟩)]) ∧ Blk w' B2 23 #[.pointer (some ⟨b, 0, none⟩)] ∧ Blk w' B3 9 #[.string k] ∧ Touch (fun _ => False) w w' := by
  have hmf : ∀ (fn : Fn) (first cap : Array Value) (w : World), (Instr.makeFunc fn first cap).run Tryd.prog w = .ok (.func fn first cap) w := fun _ _ _ _ => rfl
  go_enter Tryd.func31, Tryd.ntmps31
  go_wp2_with fail
  go_ret
  exact ⟨w.heap.size, w.heap.size + 1, rfl, (Blk.new _ _ _).alloc _, blk_new1 _ _ _ _, ((Touch.refl _ _).alloc _).alloc _⟩

end Go.Proofs.YtnakpadjlamdeaaDoor
