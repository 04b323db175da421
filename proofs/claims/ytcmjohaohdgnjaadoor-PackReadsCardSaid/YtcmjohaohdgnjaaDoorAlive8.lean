/- abecedarylaw08.alive; pack.Pack on a dictionary's machine. No condition. -/
import Derived.Test.YtcmjohaohdgnjaaDoorPackW
import Derived.Laws.IdiomStrings
namespace Go.Proofs.YtcmjohaohdgnjaaDoor
open Go.RowKit

theorem base_mach {L : List PRow} (hD : DictP L) : 0 ≤ (mach L).base ∧ (mach L).base ≤ 1048576 := by
  rcases right_mach hD with ⟨_, h⟩ | h
  · rw [h]; omega
  · have h1 := h.base1
    have h2 := h.base2
    omega
theorem mach_few {L : List PRow} (hD : DictP L) : (mach L).states.length ≤ 98305 := by
  rcases right_mach hD with ⟨h, _⟩ | h
  · rw [h]; exact Nat.zero_le _
  · exact h.few
theorem dpack_any (w : World) (hL : Lst w) (L : List PRow) (hD : DictP L) (A : Option Addr) (n c : Nat) (Z : List SV) (hst : StsOk w A n Z) (hz : Z.map SV.p = (mach L).states) :
    Calls Tryd.prog 15 #[.agg #[.int .i64 (mach L).base, .slice A n c]] w fun e w' => ∃ (A' : Option Addr) (q c' : Nat), e = .returned (.tuple #[.slice A' q c', .int .i64 0]) ∧ ONx 5 1 w w' (.slice A' q c') q ((packB (mach L).base (mach L).states).map byteV) := by
  have hb := base_mach hD
  obtain ⟨bn, hbn⟩ : ∃ bn : Nat, (mach L).base = (bn : Int) := ⟨(mach L).base.toNat, by omega⟩
  have hn : n = (mach L).states.length := by rw [← hz, List.length_map]; exact hst.len.symm
  have hr := right_mach hD
  rw [← hz] at hr ⊢
  rw [hbn] at hr ⊢
  refine pack_any w hL bn A n c Z hst hr (by omega) (by rw [hn]; exact mach_few hD) (fun i hi => ?_)
  rcases hr with ⟨h, _⟩ | h
  · have : Z = [] := by simpa using h
    rw [this] at hst
    have := hst.len
    simp at this
    omega
  · have hf := h.form i (by rw [List.length_map, hst.len]; exact hi)
    have e : (Z.map SV.p).getD i noSt = (Z.getD i svZero).p := by simp [List.getD, show i < Z.length by rw [hst.len]; exact hi]
    rw [e] at hf
    exact hf
theorem conv_bytes (w : World) (A : Option Addr) (q c : Nat) (l : List UInt8) (h : w.ownsRow 0 5 1 (.slice A q c) q (l.map byteV)) (h0 : 0 < l.length) : l.length = q ∧ (convert 32 9 (.slice A q c)).run Tryd.prog w = .ok (.string ⟨l.toArray⟩) w := by
  have hr := Reads.of_own h
  have hl : l.length = q := by
    have := hr.1
    rw [List.length_map] at this
    omega
  obtain ⟨b, off, hA, _, hc⟩ := hr.2 (by omega)
  subst hA
  refine ⟨hl, ?_⟩
  rw [← hl]
  refine run_convert_bytes_back _ _ _ _ _ _ l Tryd.underlying32 Tryd.underlying5 Tryd.underlying9 fun j hj => ?_
  have := hc j (byteV l[j]) (by rw [List.getElem?_map, List.getElem?_eq_getElem hj]; rfl)
  rw [Addr.add_lit]
  exact this

def aliveP : List PRow := [⟨⟨#[97]⟩, 3⟩]
theorem alive8_right : rightU aliveP = true := by kernel_rfl
theorem alive8_dict : DictP aliveP := dict_of_right alive8_right
theorem alive8_bytes : packB (mach aliveP).base (mach aliveP).states = [3, 2, 1, 0, 2, 97, 0, 1] := by kernel_rfl

set_option maxRecDepth 100000 in
set_option maxHeartbeats 4000000 in
theorem alive8_any (w : World) (hL : Lst w) : Calls Tryd.prog 11 #[] w fun e w' => e = .returned (.bool true) ∧ Touch (fun _ => False) w w' := by
  obtain ⟨w0, hw0⟩ : ∃ x, x = w.alloc (.cells #[.string ⟨#[97]⟩, .int .i64 3] 36) := ⟨_, rfl⟩
  have hT0 : Touch (fun _ => False) w w0 := by rw [hw0]; exact (Touch.refl _ _).alloc _
  have hso : SL.Ok ⟨some ⟨w.heap.size, 0, none⟩, 1, 1, aliveP⟩ w0 := by
    refine ⟨rfl, ?_, ?_⟩
    · rw [hw0]
      exact Reads.new w _ _ 1 rfl
    · intro h; cases h
  have hfb := fbuild_any w0 (Lst.touch hL hT0) ⟨some ⟨w.heap.size, 0, none⟩, 1, 1, aliveP⟩ hso (by
    intro r hr
    simp only [aliveP, List.mem_cons, List.not_mem_nil, or_false] at hr
    rcases hr with rfl
    decide) (by unfold maxLen; simp only; omega)
  simp only [SL.val] at hfb
  have HW0 := hide hw0
  have HT0 := hide hT0
  have HFB := hide hfb
  have HL := hide hL
  clear hw0 hT0 hso hfb hL
  go_enter Tryd.func11, Tryd.ntmps11
  go_wp2_with fail
  rw [← HW0.out]
  refine HFB.out.mono ?_
  rintro e w1 (⟨h, _⟩ | ⟨_, A, n, c, Z, rfl, hst, hs, _, T1⟩)
  · rw [alive8_right] at h
    cases h
  have hT01 : Touch (fun _ => False) w w1 := HT0.out.then T1
  obtain ⟨bs, hbs⟩ : ∃ b, b = (mach aliveP).base := ⟨_, rfl⟩
  obtain ⟨w2, hw2⟩ : ∃ x, x = w1.alloc (.cells #[.int .i64 bs, .slice A n c] 24) := ⟨_, rfl⟩
  have hT12 : Touch (fun _ => False) w1 w2 := by rw [hw2]; exact (Touch.refl _ _).alloc _
  have hpk := dpack_any w2 (Lst.touch HL.out (hT01.then hT12)) aliveP alive8_dict A n c Z (hst.quiet hT12) hs
  rw [alive8_bytes, ← hbs] at hpk
  rw [← hbs]
  have HPK := hide hpk
  have HW2 := hide hw2
  have HT02 := hide (hT01.then hT12)
  clear hst hs T1 hT01 hbs hw2 hT12 hpk HFB
  go_wp2_with fail
  rw [← HW2.out]
  refine HPK.out.mono ?_
  rintro e w3 ⟨A', q, c', rfl, hx⟩
  obtain ⟨hq, hcv⟩ := conv_bytes w3 A' q c' _ hx.own (by decide)
  have HX := hide hx
  clear hx hq HPK
  go_wp2_with fail
  go_ret
  exact ⟨rfl, HT02.out.then HX.out.touch⟩

end Go.Proofs.YtcmjohaohdgnjaaDoor
