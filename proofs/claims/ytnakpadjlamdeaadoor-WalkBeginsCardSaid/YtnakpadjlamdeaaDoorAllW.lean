/- (*walk.Walk).All on a dictionary's walk, and what is told of it. Condition: it is a dictionary. -/
import Derived.Test.YtnakpadjlamdeaaDoorToldW
import Derived.StillTailTactics
namespace Go.Proofs.YtnakpadjlamdeaaDoor
open Go.RowKit

theorem words_dict {L : List PRow} (hD : DictP L) : wordsOf [] (leastR (restsL L)) (levelR (restsL L)) = L := by
  unfold wordsOf levelR restsL
  rw [List.map_map, List.map_map]
  conv => rhs; rw [← List.map_id L]
  refine List.map_congr_left fun p hp => ?_
  have h := (runesU_write _ _ _ (Nat.le_refl _) (hD.word p hp).1).1
  obtain ⟨pw, pn⟩ := p
  simp only [Function.comp, mkW, List.nil_append, id, PRow.mk.injEq]
  refine ⟨?_, by omega⟩
  rw [← h, toArr]
theorem all_any (w : World) (b : Nat) :
    Calls Tryd.prog 29 #[.pointer (some ⟨b, 0, none⟩)] w fun e w' => ∃ B, e = .returned (.func (.func 46) #[] #[.pointer (some ⟨B, 0, none⟩)]) ∧ Blk w' B 23 #[.pointer (some ⟨b, 0, none⟩)] ∧ Touch (fun _ => False) w w' := by
  have hmf : ∀ (fn : Fn) (first cap : Array Value) (w : World), (Instr.makeFunc fn first cap).run Tryd.prog w = .ok (.func fn first cap) w := fun _ _ _ _ => rfl
  go_enter Tryd.func29, Tryd.ntmps29
  go_wp2_with fail
  go_ret
  exact ⟨w.heap.size, rfl, Blk.new _ _ _, (Touch.refl _ _).alloc _⟩

set_option maxRecDepth 100000 in
set_option maxHeartbeats 4000000 in
theorem all1_any {w0 : World} (hL : Lst w0) {b : Nat} {L : List PRow} {n : Nat} {A : Option Addr} {c : Nat} {Z : List SV} {wA : Option Addr} {wc : Nat} (h : DWk w0 b L n A c Z wA wc) (hD : DictP L) (B : Nat) (hB : Blk w0 B 23 #[.pointer (some ⟨b, 0, none⟩)]) (w : World) (lb mb mo : Nat) (hmo : mo ≤ 5000) (hmo0 : 0 < mo) (hC : Col w0 w lb mb none 0 [] mo) :
    Calls Tryd.prog 46 #[.func (.func 45) #[] #[.pointer (some ⟨lb, 0, none⟩), .pointer (some ⟨mb, 0, none⟩)], .pointer (some ⟨B, 0, none⟩)] w fun e w' => ∃ A' c', e = .returned (.tuple #[]) ∧ Col w0 w' lb mb A' c' (L.take mo) mo := by
  obtain ⟨x0, x1, x2⟩ := (h.wk.quiet hC.touch).blk.facts
  obtain ⟨b0, b1, b2⟩ := (hB.touch hC.touch (fun f => f)).facts
  by_cases he : L = []
  · subst he
    have hn : n = 0 := by rw [← h.n_len]; rfl
    subst hn
    have HC := hide hC
    clear h hD hL hB hC
    go_enter Tryd.func46, Tryd.ntmps46
    go_wp2_with fail
    go_end0
    exact ⟨none, 0, rfl, by rw [List.take_nil]; exact HC.out⟩
  · have hm := mach_ne he
    have M := made hD he
    have hher := stateF_her 25 ⟨[], []⟩ (restsL L) (fun X hX => (by cases hX)) (her_dict hD)
    have hn := h.n_len
    have hst := h.st
    have hwk := h.wk
    rw [hm] at hn hst hwk
    simp only at hn hst hwk
    have hbase := base_mach hD
    have hpos := M.pos
    have hroot := M.root
    rw [hn] at hroot
    have hfa := from_any w0 hL b _ A n c Z wA wc _ hwk h.few _ M.good hher hst lb mb mo hmo 25
    have hdep := dep_dict hD
    have hwl := words_dict hD
    have hbm : (mach L).base = leastR (restsL L) := by rw [hm]
    rw [hbm] at x0 hbase
    obtain ⟨base, hb⟩ : ∃ x, x = leastR (restsL L) := ⟨_, rfl⟩
    rw [← hb] at x0 hbase hwl hwk
    have hcall : ∀ wx, Touch (fun _ => False) w wx → Calls Tryd.prog 47 _ wx _ := fun wx T => hfa wx (n - 1) (levelR (restsL L)) ⟨#[]⟩ [] base none 0 [] (by omega) hroot (by rw [depR_level]; exact hdep) (toList_mk []) (by rw [depR_level]; simp only [List.length_nil]; omega) (hC.quiet T) hmo0 hbase.1 (by
      intro r hr
      have h1 := mem_level.1 (show (r.1, r.2) ∈ levelR (restsL L) from hr)
      obtain ⟨p, hp, e⟩ := List.mem_map.1 h1
      have := (hD.weight p hp).2
      simp only [Prod.mk.injEq] at e
      omega)
    have hfew := h.few
    have HWK := hide (h.wk.quiet hC.touch).blk
    rw [hbm, ← hb] at HWK
    have HN := hide hfew
    have HCALL := hide hcall
    have HWL := hide hwl
    have hn1 : ((n - 1 : Nat) : Int) = (n : Int) - 1 := by omega
    rw [hn1] at HCALL
    have y0 : (0 : Int) < (n : Int) := by omega
    clear h hD hL hB hC hm M hher hn hst hwk hbase hpos hroot hfa hdep hwl hbm hb hcall hfew hn1
    go_enter Tryd.func46, Tryd.ntmps46
    go_wp2_with fail
    refine wp_region_still_tail 8 (by kernel_rfl) (by kernel_rfl) ?_
    simp only [List.take_succ_cons, List.take_zero, List.drop_succ_cons, List.drop_zero]
    still_step
    still_step
    still_call (root_any w.drew b base A n c _ HWK.out.drew HN.out)
    repeat still_step
    refine wpStill_nil ?_
    change wpList _ _ _ _ _ w.drew
    have HDR := hide (show Touch (fun _ => False) w w.drew from (Touch.refl _ _).drew)
    generalize w.drew = wd at HDR ⊢
    go_wp2_with ((go_at_call 47; refine (HCALL.out wd HDR.out).mono ?_; rintro e w5 ⟨A', c', rfl, hC5⟩; have HC5 := hide hC5; clear hC5))
    go_end0
    refine ⟨A', c', rfl, ?_⟩
    have h := HC5.out
    rw [HWL.out] at h
    exact h

end Go.Proofs.YtnakpadjlamdeaaDoor
