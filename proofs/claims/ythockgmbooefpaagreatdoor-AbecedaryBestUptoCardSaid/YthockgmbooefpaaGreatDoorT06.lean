/- What the law rests on, part 6. No condition but those that each theorem names. -/
import Derived.Test.YthockgmbooefpaaGreatDoorT05
import Derived.BigQuiet
import Derived.Deep.QuietTactic
set_option linter.unusedSectionVars false
set_option linter.unusedSimpArgs false
set_option linter.unusedVariables false
namespace Go.Proofs.YthockgmbooefpaaGreatDoor
open Go.RowKit
def stepG (r:Nat):Nat→List Nat→List Nat→List Nat
 | t,c :: wd,a :: b :: s=>min (min (a+if c=r then 0 else 1) (b+1)) (t+1) :: stepG r (min (min (a+if c=r then 0 else 1) (b+1)) (t+1)) wd (b :: s)
 | _,_,_=>[]
def stepD (wd:List Nat) (s:List Nat) (r:Nat):List Nat:=(s.headD 0+1) :: stepG r (s.headD 0+1) wd s
theorem stepG_len (r:Nat):∀ (wd:List Nat) (t:Nat) (s:List Nat),s.length=wd.length+1→(stepG r t wd s).length=wd.length
 | [],t,s,h=>by
  cases s with
  | nil=>rfl
  | cons a s=>cases s<;>rfl
 | c :: wd,t,[],h=>by simp at h
 | c :: wd,t,[a],h=>by simp at h
 | c :: wd,t,a :: b :: s,h=>by
  simp only [stepG,List.length_cons]
  rw [stepG_len r wd _ (b :: s) (by simpa using h)]
theorem stepD_len {wd s:List Nat} (r:Nat) (h:s.length=wd.length+1):(stepD wd s r).length=wd.length+1:=by
 unfold stepD
 rw [List.length_cons,stepG_len r wd _ s h]
theorem fold_len {wd:List Nat}:∀ (text s:List Nat),s.length=wd.length+1→(text.foldl (stepD wd) s).length=wd.length+1
 | [],s,h=>h
 | r :: text,s,h=>fold_len text _ (stepD_len r h)
theorem stepG_get (r:Nat):∀ (wd:List Nat) (t:Nat) (s:List Nat) (j:Nat),s.length=wd.length+1→j<wd.length →
  (stepG r t wd s).getD j 0=min (min (s.getD j 0+if wd.getD j 0=r then 0 else 1) (s.getD (j+1) 0+1)) ((t :: stepG r t wd s).getD j 0+1)
 | [],t,s,j,h,hj=>by simp at hj
 | c :: wd,t,[],j,h,hj=>by simp at h
 | c :: wd,t,[a],j,h,hj=>by simp at h
 | c :: wd,t,a :: b :: s,0,h,hj=>by simp [stepG]
 | c :: wd,t,a :: b :: s,j+1,h,hj=>by
  have ih:=stepG_get r wd (min (min (a+if c=r then 0 else 1) (b+1)) (t+1)) (b :: s) j (by simpa using h) (by simpa using hj)
  simp only [stepG,List.getD_cons_succ] at ih ⊢
  exact ih
theorem stepD_get {wd s:List Nat} (r:Nat) (h:s.length=wd.length+1) {j:Nat} (hj:j<wd.length) :
  (stepD wd s r).getD (j+1) 0=min (min (s.getD j 0+if wd.getD j 0=r then 0 else 1) (s.getD (j+1) 0+1)) ((stepD wd s r).getD j 0+1):=by
 unfold stepD
 rw [List.getD_cons_succ]
 exact stepG_get r wd _ s j h hj
theorem stepG_le (r B:Nat):∀ (wd:List Nat) (t:Nat) (s:List Nat),(∀ x∈s,x≤B)→∀ x∈stepG r t wd s,x≤B+1
 | [],t,s,_,x,hx=>by
  cases s with
  | nil=>cases hx
  | cons a s=>cases s<;>cases hx
 | c :: wd,t,[],_,x,hx=>by cases hx
 | c :: wd,t,[a],_,x,hx=>by cases hx
 | c :: wd,t,a :: b :: s,h,x,hx=>by
  have hb:=h b (List.mem_cons_of_mem _ List.mem_cons_self)
  simp only [stepG,List.mem_cons] at hx
  rcases hx with rfl | hx
  ·omega
  ·exact stepG_le r B wd _ (b :: s) (fun y hy=>h y (List.mem_cons_of_mem _ hy)) x hx
theorem stepD_le {wd s:List Nat} {B:Nat} (r:Nat) (h:∀ x∈s,x≤B):∀ x∈stepD wd s r,x≤B+1:=by
 intro x hx
 simp only [stepD,List.mem_cons] at hx
 rcases hx with rfl | hx
 ·cases s with
  | nil=>simp
  | cons a s=>have:=h a List.mem_cons_self;simp;omega
 ·exact stepG_le r B wd _ s h x hx
theorem head_step (wd s:List Nat) (r:Nat):(stepD wd s r).headD 0=s.headD 0+1:=rfl
def rowK (wd text:List Nat):List Nat:=text.foldl (stepD wd) (List.range (wd.length+1))
theorem rowK_snoc (wd text:List Nat) (r:Nat):rowK wd (text++[r])=stepD wd (rowK wd text) r:=by
 unfold rowK
 rw [List.foldl_append]
 rfl
theorem rowK_len (wd text:List Nat):(rowK wd text).length=wd.length+1:=fold_len text _ (by simp)
theorem takeN_snoc (X:List Nat) (k:Nat) (hk:k<X.length):X.take (k+1)=X.take k++[X.getD k 0]:=by
 rw [List.take_succ_eq_append_getElem hk]
 simp [List.getD,hk]
theorem last_snoc {X:List Nat} {k:Nat} (h:X.length=k+1):X=X.take k++[X.getD k 0]:=by
 rw [← takeN_snoc X k (by omega),List.take_of_length_le (by omega)]
theorem rowK_head (wd:List Nat):∀ (k:Nat) (text:List Nat),text.length=k→(rowK wd text).headD 0=k
 | 0,text,h=>by
  rw [List.eq_nil_of_length_eq_zero h]
  unfold rowK
  rw [List.foldl_nil,List.range_succ_eq_map]
  rfl
 | k+1,text,h=>by
  have ih:=rowK_head wd k (text.take k) (by rw [List.length_take];omega)
  rw [last_snoc h,rowK_snoc,head_step,ih]
theorem rowK_le (wd:List Nat):∀ (k:Nat) (text:List Nat),text.length=k→∀ x∈rowK wd text,x≤wd.length+k
 | 0,text,h=>by
  rw [List.eq_nil_of_length_eq_zero h]
  intro x hx
  unfold rowK at hx
  rw [List.foldl_nil,List.mem_range] at hx
  omega
 | k+1,text,h=>by
  have ih:=rowK_le wd k (text.take k) (by rw [List.length_take];omega)
  rw [last_snoc h,rowK_snoc]
  exact stepD_le _ ih
end Go.Proofs.YthockgmbooefpaaGreatDoor
namespace Go.Proofs.YthockgmbooefpaaGreatDoor
open Go.RowKit
def natF (x:Nat):Value:=.int .i64 (x:Int)
theorem infoInt12:(Tryz.prog.info? 3).map (fun i=>(i.zero,i.size,i.bytes))=some (some (.int .i64 0),1,8):=by kernel_rfl
theorem ONx.from {e size:Nat} {w w0 w1:World} {v:Value} {q:Nat} {xs:List Value} (h:ONx e size w0 w1 v q xs) (T:Touch (fun _=>False) w w0):ONx e size w w1 v q xs :=
 ⟨h.own,T.then h.touch,fun g hg=>Nat.le_trans T.size (h.fresh g hg)⟩
theorem memD (X:List Nat) (k:Nat) (hk:k<X.length):X.getD k 0∈X:=by
 have e:X.getD k 0=X[k]:=by simp [List.getD,hk]
 rw [e]
 exact List.getElem_mem hk
end Go.Proofs.YthockgmbooefpaaGreatDoor
namespace Go.Proofs.YthockgmbooefpaaGreatDoor
open Go.RowKit
def distU (a b:List UInt8):Option Nat:=match runesU a,runesU b with
 | some x,some y=>if x.length≤1024∧y.length≤1024 then some ((rowK y x).getD y.length 0) else none
 | _,_=>none
def distE (o:Option Nat):Ending:=match o with
 | some d=>.returned (.tuple #[.int .i64 (d:Int),.bool true])
 | none=>.returned (.tuple #[.int .i64 0,.bool false])
end Go.Proofs.YthockgmbooefpaaGreatDoor
