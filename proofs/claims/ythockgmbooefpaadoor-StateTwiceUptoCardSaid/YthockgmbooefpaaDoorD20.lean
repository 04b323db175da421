/- What the law rests on, part 20. No condition but those that each theorem names. -/
import Derived.Test.YthockgmbooefpaaDoorD19
import Derived.Test.YthockgmbooefpaaDoorD12
import Derived.Test.YthockgmbooefpaaDoorD13
set_option linter.unusedSectionVars false
set_option linter.unusedSimpArgs false
set_option linter.unusedVariables false
namespace Go.Proofs.YthockgmbooefpaaDoor
open Go.RowKit
structure StZ where
 fin:Bool
 out:Int
 arcs:List (Int × Int × Int)
def arcZ (a:Nat × Int × Nat):Int × Int × Int:=((a.1:Int),a.2.1,(a.2.2:Int))
def StP.z (s:StP):StZ:=⟨s.fin,s.out,s.arcs.map arcZ⟩
theorem map_inj {α β:Type} {f:α→β} (hf:∀ a b,f a=f b→a=b):∀ {l m:List α},l.map f=m.map f→l=m
 | [],[],_=>rfl
 | [],_ :: _,h=>by simp at h
 | _ :: _,[],h=>by simp at h
 | a :: l,b :: m,h=>by
  simp only [List.map_cons,List.cons.injEq] at h
  rw [hf _ _ h.1,map_inj hf h.2]
end Go.Proofs.YthockgmbooefpaaDoor
namespace Go.Proofs.YthockgmbooefpaaDoor
open Go.RowKit
def FormZ (num:Nat) (z:StZ):Prop:=∃ s:StP,s.z=z∧FormP num s
structure BaseT where
 b:Nat
def bs [Inhabited BaseT]:Nat:=(default:BaseT).b
section
variable [Inhabited BaseT]
def OT (w:World) (g:Nat) (t:TypeId):Prop:=(g<w.heap.size∧g<bs)∨TyAt w g t
theorem OT.ne {w:World} {b b':Nat} {t t':TypeId} (h:OT w b t) (h':TyAt w b' t') (ht:t≠t') (hb:bs≤b'):b≠b':=by
 rcases h with ⟨_,h⟩ | h
 ·omega
 ·exact h.ne h' ht
theorem OT.lt {w:World} {b:Nat} {t:TypeId} (h:OT w b t):b<w.heap.size:=by
 rcases h with h | h
 ·exact h.1
 ·exact h.lt
theorem OT.touch {w w':World} {S:Nat→Prop} {b:Nat} {t:TypeId} (h:OT w b t) (T:Touch S w w') (hS:¬ S b):OT w' b t:=by
 rcases h with h | h
 ·exact .inl ⟨Nat.lt_of_lt_of_le h.1 T.size,h.2⟩
 ·exact .inr (h.touch T hS)
structure RdO (w:World) (t:TypeId) (size:Nat) (A:Option Addr) (n:Nat) (xs:List Value):Prop where
 rd:Reads w size A n xs
 ty:0<n→∀ g,adBlock A=some g→OT w g t
theorem RdO.touch {w w':World} {S:Nat→Prop} {t:TypeId} {size:Nat} {A:Option Addr} {n:Nat} {xs:List Value} (h:RdO w t size A n xs) (T:Touch S w w') (hS:∀ g,OT w g t→¬ S g):RdO w' t size A n xs:=by
 by_cases hn:0<n
 ·exact ⟨h.rd.touch T fun g hg=>hS g (h.ty hn g hg),fun _ g hg=>(h.ty hn g hg).touch T (hS g (h.ty hn g hg))⟩
 ·exact ⟨⟨h.rd.1,fun h=>absurd h hn⟩,fun h=>absurd h hn⟩
theorem RdO.quiet {w w':World} {t:TypeId} {size:Nat} {A:Option Addr} {n:Nat} {xs:List Value} (h:RdO w t size A n xs) (T:Touch (fun _=>False) w w'):RdO w' t size A n xs:=h.touch T fun _ _ f=>f
theorem RdT.o {w:World} {t:TypeId} {size:Nat} {A:Option Addr} {n:Nat} {xs:List Value} (h:RdT w t size A n xs):RdO w t size A n xs:=⟨h.rd,fun hn g hg=>.inr (h.ty hn g hg)⟩
theorem RdO.of_own {w:World} {base:Nat} {t:TypeId} {size:Nat} {A:Option Addr} {n c:Nat} {xs:List Value} (h:w.ownsRow base t size (.slice A n c) n xs):RdO w t size A n xs:=(RdT.of_own h).o
structure SV.Od (s:SV) (w:World):Prop where
 len:s.arcs.length=s.n
 rd:RdO w 110 3 s.A s.n (aCells s.arcs)
 le:s.n≤s.c
 mx:s.c≤maxLen
theorem SV.Od.touch {s:SV} {w w':World} {S:Nat→Prop} (h:s.Od w) (T:Touch S w w') (hS:∀ g,OT w g 110 → ¬ S g):s.Od w':=⟨h.len,h.rd.touch T hS,h.le,h.mx⟩
structure StsOd (w:World) (A:Option Addr) (n:Nat) (Z:List SV):Prop where
 rd:RdO w 108 3 A n (sCells Z)
 len:Z.length=n
 el:∀ z∈Z,z.Od w
theorem StsOd.quiet {w w':World} {A:Option Addr} {n:Nat} {Z:List SV} (h:StsOd w A n Z) (T:Touch (fun _=>False) w w'):StsOd w' A n Z:=⟨h.rd.quiet T,h.len,fun z hz=>(h.el z hz).touch T (fun _ _ f=>f)⟩
structure ZV where
 fin:Bool
 out:Int
 A:Option Addr
 n:Nat
 c:Nat
 arcs:List (Int × Int × Int)
def zaCells (l:List (Int × Int × Int)):List Value:=l.flatMap fun a=>[.int .i32 a.1,.int .i64 a.2.1,.int .i64 a.2.2]
def ZV.cells (s:ZV):List Value:=[.bool s.fin,.int .i64 s.out,.slice s.A s.n s.c]
def ZV.p (s:ZV):StZ:=⟨s.fin,s.out,s.arcs⟩
structure ZV.Ok (s:ZV) (w:World):Prop where
 len:s.arcs.length=s.n
 rd:RdO w 110 3 s.A s.n (zaCells s.arcs)
 le:s.n≤s.c
 mx:s.c≤maxLen
def zCells (Z:List ZV):List Value:=Z.flatMap ZV.cells
end
section
variable [Inhabited BaseT]
theorem ZV.Ok.touch {s:ZV} {w w':World} {S:Nat→Prop} (h:s.Ok w) (T:Touch S w w') (hS:∀ g,OT w g 110 → ¬ S g):s.Ok w':=⟨h.len,h.rd.touch T hS,h.le,h.mx⟩
theorem ZV.Ok.quiet {s:ZV} {w w':World} (h:s.Ok w) (T:Touch (fun _=>False) w w'):s.Ok w':=h.touch T (fun _ _ f=>f)
structure StsZ (w:World) (A:Option Addr) (n:Nat) (Z:List ZV):Prop where
 rd:RdO w 108 3 A n (zCells Z)
 len:Z.length=n
 el:∀ z∈Z,z.Ok w
theorem StsZ.quiet {w w':World} {A:Option Addr} {n:Nat} {Z:List ZV} (h:StsZ w A n Z) (T:Touch (fun _=>False) w w'):StsZ w' A n Z:=⟨h.rd.quiet T,h.len,fun z hz=>(h.el z hz).quiet T⟩
end
theorem zaCells_map (l:List (Nat × Int × Nat)):zaCells (l.map arcZ)=aCells l:=by
 unfold zaCells aCells
 rw [List.flatMap_map]
 rfl
section
variable [Inhabited BaseT]
def ZV.sv (z:ZV) (s:StP):SV:=⟨z.fin,z.out,z.A,z.n,z.c,s.arcs⟩
theorem ZV.sv_ok {z:ZV} {w:World} {s:StP} (h:z.Ok w) (hs:s.z=z.p):(z.sv s).Od w∧(z.sv s).p=s∧(z.sv s).cells=z.cells:=by
 obtain ⟨f,o,A,n,c,a⟩:=z
 obtain ⟨f',o',a'⟩:=s
 simp only [StP.z,ZV.p,StZ.mk.injEq] at hs
 obtain ⟨rfl,rfl,rfl⟩:=hs
 refine ⟨⟨?_,?_,h.le,h.mx⟩,rfl,rfl⟩
 ·have:=h.len
  simpa [ZV.sv] using this
 ·have:=h.rd
  rw [zaCells_map] at this
  exact this
theorem stsOk_of {w:World} {A:Option Addr} {n:Nat}:∀ (Z:List ZV) (sts:List StP),Z.map ZV.p=sts.map StP.z→(∀ z∈Z,z.Ok w)→∃ Y:List SV,Y.map SV.p=sts∧sCells Y=zCells Z∧Y.length=Z.length∧∀ y∈Y,y.Od w
 | [],[],_,_=>⟨[],rfl,rfl,rfl,fun y hy=>by cases hy⟩
 | [],_ :: _,h,_=>by simp at h
 | _ :: _,[],h,_=>by simp at h
 | z :: Z,s :: sts,h,hz=>by
  simp only [List.map_cons,List.cons.injEq] at h
  obtain ⟨Y,h1,h2,h3,h4⟩:=stsOk_of (A:=A) (n:=n) Z sts h.2 (fun x hx=>hz x (List.mem_cons_of_mem _ hx))
  obtain ⟨g1,g2,g3⟩:=ZV.sv_ok (hz z List.mem_cons_self) h.1.symm
  refine ⟨z.sv s :: Y,by rw [List.map_cons,h1,g2],?_,by rw [List.length_cons,List.length_cons,h3],?_⟩
  ·unfold sCells zCells at *
   rw [List.flatMap_cons,List.flatMap_cons,h2,g3]
  ·intro y hy
   rcases List.mem_cons.1 hy with rfl | hy
   ·exact g1
   ·exact h4 y hy
theorem StsZ.ok {w:World} {A:Option Addr} {n:Nat} {Z:List ZV} (h:StsZ w A n Z) {sts:List StP} (hs:Z.map ZV.p=sts.map StP.z):∃ Y:List SV,Y.map SV.p=sts∧StsOd w A n Y:=by
 obtain ⟨Y,h1,h2,h3,h4⟩:=stsOk_of (A:=A) (n:=n) Z sts hs h.el
 exact ⟨Y,h1,by rw [h2];exact h.rd,by rw [h3];exact h.len,h4⟩
def zvZero:ZV:=⟨false,0,none,0,0,[]⟩
end
section
variable [Inhabited BaseT]
end
end Go.Proofs.YthockgmbooefpaaDoor
namespace Go.Proofs.YthockgmbooefpaaDoor
open Go.RowKit
section
variable [Inhabited BaseT]
def BoolIff (P:Prop) (e:Ending):Prop:=∃ v:Bool,e=.returned (.bool v)∧(v=true↔P)
end
theorem BoolIff.mk {P:Prop} (v:Bool) (h:v=true↔P):BoolIff P (.returned (.bool v)):=⟨v,rfl,h⟩
section
variable [Inhabited BaseT]
end
section
variable [Inhabited BaseT]
end
end Go.Proofs.YthockgmbooefpaaDoor
namespace Go.Proofs.YthockgmbooefpaaDoor
open Go.RowKit
variable [Inhabited BaseT]
def SumB (U:List S3) (z:StP):Prop:=∀ j,(0≤(sumP U z j).1∧(sumP U z j).1≤4096)∧(0≤(sumP U z j).2.1∧(sumP U z j).2.1≤24)∧(0≤(sumP U z j).2.2∧(sumP U z j).2.2≤1048576)
def SumE (U:List S3) (N:Nat) (z:StP):Prop:=∀ a∈z.arcs,a.2.2<N∧(0≤a.2.1∧a.2.1≤1048576)∧(0≤(U.getD a.2.2 z3).1∧(U.getD a.2.2 z3).1≤4096)∧(0≤(U.getD a.2.2 z3).2.1∧(U.getD a.2.2 z3).2.1≤24)∧(0≤(U.getD a.2.2 z3).2.2∧(U.getD a.2.2 z3).2.2≤1048576)
end Go.Proofs.YthockgmbooefpaaDoor
