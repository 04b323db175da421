/- pack.Right on a dictionary's machine. No condition. -/
import Derived.Test.YtcmjohaohdgnjaaDoorPkG
namespace Go.Proofs.YtcmjohaohdgnjaaDoor
open Go.RowKit

def RgtP (sts : List StP) (base : Int) : Prop := (sts = [] ∧ base = 0) ∨ RightP sts base
theorem pright_nil (w : World) (A : Option Addr) (c : Nat) :
    Calls Tryd.prog 12 #[.agg #[.int .i64 0, .slice A 0 c]] w fun e w' => e = .returned (.bool true) ∧ Touch (fun _ => False) w w' := by
  go_enter Tryd.func12, Tryd.ntmps12
  go_wp2_with fail
  go_step3
  go_wp2_with fail
  rw [Exit.noGoto_ret]
  go_ret
  exact ⟨rfl, (Touch.refl _ _).alloc _⟩
theorem right_all (w : World) (hL : Lst w) (base : Int) (A : Option Addr) (n c : Nat) (Z : List SV) (hst : StsOk w A n Z) (hR : RgtP (Z.map SV.p) base) :
    Calls Tryd.prog 12 #[.agg #[.int .i64 base, .slice A n c]] w fun e w' => e = .returned (.bool true) ∧ Touch (fun _ => False) w w' := by
  rcases hR with ⟨h, rfl⟩ | h
  · have : n = 0 := by
      have := hst.len
      have h2 : Z = [] := by simpa using h
      rw [h2] at this
      simpa using this.symm
    subst this
    exact pright_nil w A c
  · exact pright_any w hL base A n c Z hst h
theorem right_mach {L : List PRow} (hD : DictP L) : RgtP (mach L).states (mach L).base := by
  by_cases h : L = []
  · left
    unfold mach
    rw [if_pos h]
    exact ⟨rfl, rfl⟩
  · exact .inr (right_made hD h)

end Go.Proofs.YtcmjohaohdgnjaaDoor
