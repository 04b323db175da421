/- What the law rests on, part 5. No condition but those that each theorem names. -/
import Derived.Test.YthockgmbooefpaaGreatDoorJ04
import Derived.BigQuiet
import Derived.Deep.QuietTactic
set_option linter.unusedSectionVars false
set_option linter.unusedSimpArgs false
set_option linter.unusedVariables false
namespace Go.Proofs.YthockgmbooefpaaGreatDoor
open Go.RowKit
def stepG (r:Nat):Nat→List Nat→List Nat→List Nat
 | t,c :: wd,a :: b :: s=>min (min (a+if c=r then 0 else 1) (b+1)) (t+1) :: stepG r (min (min (a+if c=r then 0 else 1) (b+1)) (t+1)) wd (b :: s)
 | _,_,_=>[]
def stepD (wd:List Nat) (s:List Nat) (r:Nat):List Nat:=(s.headD 0+1) :: stepG r (s.headD 0+1) wd s
theorem stepG_len (r:Nat):∀ (wd:List Nat) (t:Nat) (s:List Nat),s.length=wd.length+1→(stepG r t wd s).length=wd.length
 | [],t,s,h=>by
  cases s with
  | nil=>rfl
  | cons a s=>cases s<;>rfl
 | c :: wd,t,[],h=>by simp at h
 | c :: wd,t,[a],h=>by simp at h
 | c :: wd,t,a :: b :: s,h=>by
  simp only [stepG,List.length_cons]
  rw [stepG_len r wd _ (b :: s) (by simpa using h)]
theorem stepD_len {wd s:List Nat} (r:Nat) (h:s.length=wd.length+1):(stepD wd s r).length=wd.length+1:=by
 unfold stepD
 rw [List.length_cons,stepG_len r wd _ s h]
theorem fold_len {wd:List Nat}:∀ (text s:List Nat),s.length=wd.length+1→(text.foldl (stepD wd) s).length=wd.length+1
 | [],s,h=>h
 | r :: text,s,h=>fold_len text _ (stepD_len r h)
end Go.Proofs.YthockgmbooefpaaGreatDoor
namespace Go.Proofs.YthockgmbooefpaaGreatDoor
open Go.RowKit
theorem ONx.from {e size:Nat} {w w0 w1:World} {v:Value} {q:Nat} {xs:List Value} (h:ONx e size w0 w1 v q xs) (T:Touch (fun _=>False) w w0):ONx e size w w1 v q xs :=
 ⟨h.own,T.then h.touch,fun g hg=>Nat.le_trans T.size (h.fresh g hg)⟩
end Go.Proofs.YthockgmbooefpaaGreatDoor
