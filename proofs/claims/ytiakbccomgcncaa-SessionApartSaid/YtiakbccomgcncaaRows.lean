/-
  No cell of these rows narrows 'for every input' (looked for: loops, veiled, ifaces, maps, wideKeys, modest, calm, conditions, laid).
  DERIVED. THE GIVEN ROWS OF THIS SEAT. 6 by the template 'for every input the law returns true; each argument reads behind the call as it read before'; 0 by the template 'total and deterministic' (their statements: YtiakbccomgcncaaTotals.lean).
  GIVEN WITH THE SEED: the statements are not yours to turn. If you find one false, say at which input.
  Laid BY PROGRAM, IN A SANDBOX (cutbox-rows.mjs): the forced cells as the released guide's own fill.sh prints them over the translation fd99c7747e369667… (all of the seat's roots in one cut). By AI agents, Wed Nov 11 2026. No macro, syntax, notation, axiom, sorry.
-/
import Derived.Test.YtiakbccomgcncaaChecked
import GoSem.Claim
import GoSem.ClaimJoined
import GoSem.ClaimMapViews
import Derived.JoinedTies
import Derived.KernelRfl
namespace Go.Proofs.Ytiakbccomgcncaa
/- THE CELL 'sum', in the pinned program and in every row, IS THE sha256 OF THE DUMP (.gsa) THAT YtiakbccomgcncaaProg.lean LOADS. Nothing in Lean hashes anything: it is a label: what it is worth is what the hold of that sum in a sandbox is worth. -/
noncomputable def Try.pinned : Pinned := { name := "ytiakbccomgcncaa", sum := "fd99c7747e3696672e6f6d0da439100227f5ea62379973b59c423f5c440fe81f", checked := Try.checked }
namespace Rows
def none {H : Type} : Left H := { results := [], args := [] }

/-- 'abecedarylaw15.SessionOnce': WHATEVER THE INPUT: true; the input reads as it did. -/
def sessionOnceSpec : ChangeSpec := { name := "sessionOnce", fn := fun _ => fun
  | [d] => { results := [.lit (.bool true)], args := [d] }
  | _ => none }
def sessionOnceRow : OpenClaim := { program := "ytiakbccomgcncaa", sum := "fd99c7747e3696672e6f6d0da439100227f5ea62379973b59c423f5c440fe81f", func := "abecedary/abecedarylaw15.SessionOnce", spec := "sessionOnce", apart := false }
def SessionOnceSaid : Prop := sessionOnceRow.holds Try.pinned (OpenSpec.ofChange sessionOnceSpec)

/-- ITS FALSE NEIGHBOUR: 'it returns false'. Refute it at one input. -/
def sessionOnceWrong : ChangeSpec := { name := "sessionOnce", fn := fun _ => fun
  | [d] => { results := [.lit (.bool false)], args := [d] }
  | _ => none }
def SessionOnceWrongFalsely : Prop := sessionOnceRow.holds Try.pinned (OpenSpec.ofChange sessionOnceWrong)

/-- 'abecedarylaw15.SessionFull': WHATEVER THE INPUT: true; the input reads as it did. -/
def sessionFullSpec : ChangeSpec := { name := "sessionFull", fn := fun _ => fun
  | [d] => { results := [.lit (.bool true)], args := [d] }
  | _ => none }
def sessionFullRow : OpenClaim := { program := "ytiakbccomgcncaa", sum := "fd99c7747e3696672e6f6d0da439100227f5ea62379973b59c423f5c440fe81f", func := "abecedary/abecedarylaw15.SessionFull", spec := "sessionFull", apart := false }
def SessionFullSaid : Prop := sessionFullRow.holds Try.pinned (OpenSpec.ofChange sessionFullSpec)

/-- ITS FALSE NEIGHBOUR: 'it returns false'. Refute it at one input. -/
def sessionFullWrong : ChangeSpec := { name := "sessionFull", fn := fun _ => fun
  | [d] => { results := [.lit (.bool false)], args := [d] }
  | _ => none }
def SessionFullWrongFalsely : Prop := sessionFullRow.holds Try.pinned (OpenSpec.ofChange sessionFullWrong)

/-- 'abecedarylaw15.SessionApart': WHATEVER THE INPUT: true; the input reads as it did. -/
def sessionApartSpec : ChangeSpec := { name := "sessionApart", fn := fun _ => fun
  | [d1, d2, d3] => { results := [.lit (.bool true)], args := [d1, d2, d3] }
  | _ => none }
def sessionApartRow : OpenClaim := { program := "ytiakbccomgcncaa", sum := "fd99c7747e3696672e6f6d0da439100227f5ea62379973b59c423f5c440fe81f", func := "abecedary/abecedarylaw15.SessionApart", spec := "sessionApart", apart := false }
def SessionApartSaid : Prop := sessionApartRow.holds Try.pinned (OpenSpec.ofChange sessionApartSpec)

/-- ITS FALSE NEIGHBOUR: 'it returns false'. Refute it at one input. -/
def sessionApartWrong : ChangeSpec := { name := "sessionApart", fn := fun _ => fun
  | [d1, d2, d3] => { results := [.lit (.bool false)], args := [d1, d2, d3] }
  | _ => none }
def SessionApartWrongFalsely : Prop := sessionApartRow.holds Try.pinned (OpenSpec.ofChange sessionApartWrong)

/-- 'abecedarylaw15.SessionAll': WHATEVER THE INPUT: true; the input reads as it did. -/
def sessionAllSpec : ChangeSpec := { name := "sessionAll", fn := fun _ => fun
  | [d] => { results := [.lit (.bool true)], args := [d] }
  | _ => none }
def sessionAllRow : OpenClaim := { program := "ytiakbccomgcncaa", sum := "fd99c7747e3696672e6f6d0da439100227f5ea62379973b59c423f5c440fe81f", func := "abecedary/abecedarylaw15.SessionAll", spec := "sessionAll", apart := false }
def SessionAllSaid : Prop := sessionAllRow.holds Try.pinned (OpenSpec.ofChange sessionAllSpec)

/-- ITS FALSE NEIGHBOUR: 'it returns false'. Refute it at one input. -/
def sessionAllWrong : ChangeSpec := { name := "sessionAll", fn := fun _ => fun
  | [d] => { results := [.lit (.bool false)], args := [d] }
  | _ => none }
def SessionAllWrongFalsely : Prop := sessionAllRow.holds Try.pinned (OpenSpec.ofChange sessionAllWrong)

/-- 'abecedarylaw15.SessionLoads': WHATEVER THE INPUT: true; the input reads as it did. -/
def sessionLoadsSpec : ChangeSpec := { name := "sessionLoads", fn := fun _ => fun
  | [d] => { results := [.lit (.bool true)], args := [d] }
  | _ => none }
def sessionLoadsRow : OpenClaim := { program := "ytiakbccomgcncaa", sum := "fd99c7747e3696672e6f6d0da439100227f5ea62379973b59c423f5c440fe81f", func := "abecedary/abecedarylaw15.SessionLoads", spec := "sessionLoads", apart := false }
def SessionLoadsSaid : Prop := sessionLoadsRow.holds Try.pinned (OpenSpec.ofChange sessionLoadsSpec)

/-- ITS FALSE NEIGHBOUR: 'it returns false'. Refute it at one input. -/
def sessionLoadsWrong : ChangeSpec := { name := "sessionLoads", fn := fun _ => fun
  | [d] => { results := [.lit (.bool false)], args := [d] }
  | _ => none }
def SessionLoadsWrongFalsely : Prop := sessionLoadsRow.holds Try.pinned (OpenSpec.ofChange sessionLoadsWrong)

/-- 'abecedarylaw15.SessionAgain': WHATEVER THE INPUT: true; the input reads as it did. -/
def sessionAgainSpec : ChangeSpec := { name := "sessionAgain", fn := fun _ => fun
  | [d1, d2] => { results := [.lit (.bool true)], args := [d1, d2] }
  | _ => none }
def sessionAgainRow : OpenClaim := { program := "ytiakbccomgcncaa", sum := "fd99c7747e3696672e6f6d0da439100227f5ea62379973b59c423f5c440fe81f", func := "abecedary/abecedarylaw15.SessionAgain", spec := "sessionAgain", apart := false }
def SessionAgainSaid : Prop := sessionAgainRow.holds Try.pinned (OpenSpec.ofChange sessionAgainSpec)

/-- ITS FALSE NEIGHBOUR: 'it returns false'. Refute it at one input. -/
def sessionAgainWrong : ChangeSpec := { name := "sessionAgain", fn := fun _ => fun
  | [d1, d2] => { results := [.lit (.bool false)], args := [d1, d2] }
  | _ => none }
def SessionAgainWrongFalsely : Prop := sessionAgainRow.holds Try.pinned (OpenSpec.ofChange sessionAgainWrong)

/- THE SECOND FORM. 'bulk': how many values and letters a reading holds, each counted each time it is reached (what is shared counts as often as it is met; a slice's spare places count too). A statement '..UptoSaid' is the law's where the arguments, and the package variables that the reading takes, are together of bulk at most 1048576: NARROWER than '..Said'. Prove '..Said' where nothing that the law and all that it calls make is longer than what came in: it says more and counts as full. Else prove '..UptoSaid'. A law counts once. -/
mutual
def uptoBulk {H : Type} : DataW H → Nat
  | .lit (.string bytes) => bytes.length + 1
  | .lit _ => 1
  | .nil => 1
  | .ptr d => uptoBulk d + 1
  | .slice elems spare => uptoBulkAll elems + uptoBulkAll spare + 1
  | .agg parts => uptoBulkAll parts + 1
  | .iface _ d => uptoBulk d + 1
  | .map entries => uptoBulkEntries entries + 1
  | .held _ => 1
def uptoBulkAll {H : Type} : List (DataW H) → Nat
  | [] => 0
  | d :: r => uptoBulk d + uptoBulkAll r
def uptoBulkEntries {H : Type} : List (Lit × DataW H) → Nat
  | [] => 0
  | x :: r => uptoBulkEntry x + uptoBulkEntries r
def uptoBulkEntry {H : Type} : Lit × DataW H → Nat
  | (.string bytes, d) => bytes.length + uptoBulk d + 1
  | (_, d) => uptoBulk d + 1
 end
def uptoSmall : (H : Type) → List (DataW H) → Bool := fun _ ds => decide (uptoBulkAll ds ≤ 1048576)
def OpenSpec.upto (s : _root_.Go.ChangeSpec) : _root_.Go.OpenSpec := { _root_.Go.OpenSpec.ofChange s with cond := some uptoSmall }

/-- 'abecedarylaw15.SessionOnce', WHERE WHAT IT READS IS OF BULK AT MOST 1048576: true; the input reads as it did. -/
def sessionOnceUptoRow : OpenClaim := { program := "ytiakbccomgcncaa", sum := "fd99c7747e3696672e6f6d0da439100227f5ea62379973b59c423f5c440fe81f", func := "abecedary/abecedarylaw15.SessionOnce", spec := "sessionOnce", apart := false, narrowed := true }
def SessionOnceUptoSaid : Prop := sessionOnceUptoRow.holds Try.pinned (OpenSpec.upto sessionOnceSpec)

/-- 'abecedarylaw15.SessionFull', WHERE WHAT IT READS IS OF BULK AT MOST 1048576: true; the input reads as it did. -/
def sessionFullUptoRow : OpenClaim := { program := "ytiakbccomgcncaa", sum := "fd99c7747e3696672e6f6d0da439100227f5ea62379973b59c423f5c440fe81f", func := "abecedary/abecedarylaw15.SessionFull", spec := "sessionFull", apart := false, narrowed := true }
def SessionFullUptoSaid : Prop := sessionFullUptoRow.holds Try.pinned (OpenSpec.upto sessionFullSpec)

/-- 'abecedarylaw15.SessionApart', WHERE WHAT IT READS IS OF BULK AT MOST 1048576: true; the input reads as it did. -/
def sessionApartUptoRow : OpenClaim := { program := "ytiakbccomgcncaa", sum := "fd99c7747e3696672e6f6d0da439100227f5ea62379973b59c423f5c440fe81f", func := "abecedary/abecedarylaw15.SessionApart", spec := "sessionApart", apart := false, narrowed := true }
def SessionApartUptoSaid : Prop := sessionApartUptoRow.holds Try.pinned (OpenSpec.upto sessionApartSpec)

/-- 'abecedarylaw15.SessionAll', WHERE WHAT IT READS IS OF BULK AT MOST 1048576: true; the input reads as it did. -/
def sessionAllUptoRow : OpenClaim := { program := "ytiakbccomgcncaa", sum := "fd99c7747e3696672e6f6d0da439100227f5ea62379973b59c423f5c440fe81f", func := "abecedary/abecedarylaw15.SessionAll", spec := "sessionAll", apart := false, narrowed := true }
def SessionAllUptoSaid : Prop := sessionAllUptoRow.holds Try.pinned (OpenSpec.upto sessionAllSpec)

/-- 'abecedarylaw15.SessionLoads', WHERE WHAT IT READS IS OF BULK AT MOST 1048576: true; the input reads as it did. -/
def sessionLoadsUptoRow : OpenClaim := { program := "ytiakbccomgcncaa", sum := "fd99c7747e3696672e6f6d0da439100227f5ea62379973b59c423f5c440fe81f", func := "abecedary/abecedarylaw15.SessionLoads", spec := "sessionLoads", apart := false, narrowed := true }
def SessionLoadsUptoSaid : Prop := sessionLoadsUptoRow.holds Try.pinned (OpenSpec.upto sessionLoadsSpec)

/-- 'abecedarylaw15.SessionAgain', WHERE WHAT IT READS IS OF BULK AT MOST 1048576: true; the input reads as it did. -/
def sessionAgainUptoRow : OpenClaim := { program := "ytiakbccomgcncaa", sum := "fd99c7747e3696672e6f6d0da439100227f5ea62379973b59c423f5c440fe81f", func := "abecedary/abecedarylaw15.SessionAgain", spec := "sessionAgain", apart := false, narrowed := true }
def SessionAgainUptoSaid : Prop := sessionAgainUptoRow.holds Try.pinned (OpenSpec.upto sessionAgainSpec)

end Rows
end Go.Proofs.Ytiakbccomgcncaa
