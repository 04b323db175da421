/- Bytes that come in, opened; a bound on how many there are. No condition. -/
import Derived.Test.YtcmjohaohdgnjaaDoorOpenP
import Derived.Test.YtcmjohaohdgnjaaDoorTextA
namespace Go.Proofs.YtcmjohaohdgnjaaDoor
open Go.RowKit Go.ChangeShapes Go.WideShapes Go.ChangeAt

instance : Inhabited UInt8 := ⟨0⟩
theorem flat_one (l : List UInt8) : l.flatMap (fun b : UInt8 => [byteV b]) = l.map byteV := by
  induction l with
  | nil => rfl
  | cons a l ih => rw [List.flatMap_cons, ih]; rfl
section
variable {H : Type} {enc : TypeId × Value → H} {w : World} {base : Nat} {spare : Nat → Bool} {held : Bool}
theorem byte_elem (n : Nat) (cs : List Value) (y : DataW H × List MemPlace) (_ : cs.length = 1) (h : DataW.trod enc Tryd.prog w base spare held n 5 cs = some y) : ∃ b : UInt8, cs = [byteV b] ∧ True := by
  obtain ⟨x, hx, _, hw⟩ := DataW.trod_int Tryd.underlying5 h
  have h8 : 0 ≤ x ∧ x < 256 := by
    simp [Lit.wf, IntKind.min, IntKind.max, IntKind.signed, IntKind.bits] at hw
    omega
  refine ⟨UInt8.ofNat x.toNat, ?_, trivial⟩
  have e : byteV (UInt8.ofNat x.toNat) = .int .u8 x := by
    unfold byteV
    rw [UInt8.toNat_ofNat', Nat.mod_eq_of_lt (by omega), show ((x.toNat : Nat) : Int) = x by omega]
  rw [e]
  exact hx
set_option maxRecDepth 100000 in
theorem open_byte {r : Reach} {b0 : Nat} {v : Value} {d : DataW H} {p : List MemPlace} (hv : Value.okWide Tryd.prog w r b0 5 v) (h : DataW.Trod enc Tryd.prog w base spare held 5 v d p) : ∃ b : UInt8, v = byteV b := by
  obtain ⟨k, rfl⟩ := okWide_int Tryd.underlying5 hv
  obtain ⟨fuel, hf⟩ := h
  obtain ⟨b, hb, _⟩ := byte_elem fuel _ _ (by rfl) hf
  refine ⟨b, ?_⟩
  have := congrArg (fun l => l[0]?) hb
  simpa [Value.cells] using this
set_option maxRecDepth 100000 in
theorem open_bytes {r : Reach} {b0 : Nat} {v : Value} {d : DataW H} {p : List MemPlace} (hv : Value.okWide Tryd.prog w r b0 32 v) (h : DataW.Trod enc Tryd.prog w base spare held 32 v d p) :
    ∃ (A : Option Addr) (n c : Nat) (bs : List UInt8), v = .slice A n c ∧ Reads w 1 A n (bs.map byteV) ∧ bs.length = n ∧ n ≤ c ∧ n ≤ maxLen ∧ n ≤ Rows.uptoBulk d := by
  obtain ⟨a0, len, cap, rfl⟩ := okWide_slice Tryd.underlying32 hv
  have h2 := h
  obtain ⟨fuel, hf⟩ := h
  obtain ⟨A, len', cap', l, hcs, hl, hlc, hm, hn, hr, hw⟩ := open_rows (fun b : UInt8 => [byteV b]) (fun _ => True) 1 (fun _ => rfl) (by decide) Tryd.underlying32 (by kernel_rfl) byte_elem hf
  simp [Value.cells] at hcs
  obtain ⟨rfl, rfl, rfl⟩ := hcs
  refine ⟨_, _, _, l, rfl, by rw [← flat_one]; exact hr, hl, hlc, Nat.le_trans hlc hm, ?_⟩
  rcases slice_data Tryd.underlying32 h2 with e0 | ⟨el, sp, hd, he⟩
  · omega
  · rw [hd]
    have := bulk_len el
    simp only [Rows.uptoBulk]
    omega
end

end Go.Proofs.YtcmjohaohdgnjaaDoor
