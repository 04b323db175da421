/- What the law rests on, part 17. No condition but those that each theorem names. -/
import Derived.Test.YthockgmbooefpaaGreatDoorJ16
import Derived.Test.YthockgmbooefpaaGreatDoorJ12
import Derived.Test.YthockgmbooefpaaGreatDoorJ13
import Derived.Test.YthockgmbooefpaaGreatDoorJ15
import Derived.StillTailTactics
import Derived.Laws.Cover3
set_option linter.unusedSectionVars false
set_option linter.unusedSimpArgs false
set_option linter.unusedVariables false
namespace Go.Proofs.YthockgmbooefpaaGreatDoor
open Go.RowKit
def FormZ (num:Nat) (z:StZ):Prop:=∃ s:StP,s.z=z∧FormP num s
structure BaseT where
 b:Nat
def bs [Inhabited BaseT]:Nat:=(default:BaseT).b
section
variable [Inhabited BaseT]
def OT (w:World) (g:Nat) (t:TypeId):Prop:=(g<w.heap.size∧g<bs)∨TyAt w g t
theorem OT.ne {w:World} {b b':Nat} {t t':TypeId} (h:OT w b t) (h':TyAt w b' t') (ht:t≠t') (hb:bs≤b'):b≠b':=by
 rcases h with ⟨_,h⟩ | h
 ·omega
 ·exact h.ne h' ht
theorem OT.lt {w:World} {b:Nat} {t:TypeId} (h:OT w b t):b<w.heap.size:=by
 rcases h with h | h
 ·exact h.1
 ·exact h.lt
theorem OT.touch {w w':World} {S:Nat→Prop} {b:Nat} {t:TypeId} (h:OT w b t) (T:Touch S w w') (hS:¬ S b):OT w' b t:=by
 rcases h with h | h
 ·exact .inl ⟨Nat.lt_of_lt_of_le h.1 T.size,h.2⟩
 ·exact .inr (h.touch T hS)
structure RdO (w:World) (t:TypeId) (size:Nat) (A:Option Addr) (n:Nat) (xs:List Value):Prop where
 rd:Reads w size A n xs
 ty:0<n→∀ g,adBlock A=some g→OT w g t
theorem RdO.touch {w w':World} {S:Nat→Prop} {t:TypeId} {size:Nat} {A:Option Addr} {n:Nat} {xs:List Value} (h:RdO w t size A n xs) (T:Touch S w w') (hS:∀ g,OT w g t→¬ S g):RdO w' t size A n xs:=by
 by_cases hn:0<n
 ·exact ⟨h.rd.touch T fun g hg=>hS g (h.ty hn g hg),fun _ g hg=>(h.ty hn g hg).touch T (hS g (h.ty hn g hg))⟩
 ·exact ⟨⟨h.rd.1,fun h=>absurd h hn⟩,fun h=>absurd h hn⟩
theorem RdO.quiet {w w':World} {t:TypeId} {size:Nat} {A:Option Addr} {n:Nat} {xs:List Value} (h:RdO w t size A n xs) (T:Touch (fun _=>False) w w'):RdO w' t size A n xs:=h.touch T fun _ _ f=>f
theorem RdT.o {w:World} {t:TypeId} {size:Nat} {A:Option Addr} {n:Nat} {xs:List Value} (h:RdT w t size A n xs):RdO w t size A n xs:=⟨h.rd,fun hn g hg=>.inr (h.ty hn g hg)⟩
theorem RdO.of_own {w:World} {base:Nat} {t:TypeId} {size:Nat} {A:Option Addr} {n c:Nat} {xs:List Value} (h:w.ownsRow base t size (.slice A n c) n xs):RdO w t size A n xs:=(RdT.of_own h).o
structure SV.Od (s:SV) (w:World):Prop where
 len:s.arcs.length=s.n
 rd:RdO w 173 3 s.A s.n (aCells s.arcs)
 le:s.n≤s.c
 mx:s.c≤maxLen
theorem SV.Od.touch {s:SV} {w w':World} {S:Nat→Prop} (h:s.Od w) (T:Touch S w w') (hS:∀ g,OT w g 173 → ¬ S g):s.Od w':=⟨h.len,h.rd.touch T hS,h.le,h.mx⟩
structure StsOd (w:World) (A:Option Addr) (n:Nat) (Z:List SV):Prop where
 rd:RdO w 170 3 A n (sCells Z)
 len:Z.length=n
 el:∀ z∈Z,z.Od w
theorem StsOd.quiet {w w':World} {A:Option Addr} {n:Nat} {Z:List SV} (h:StsOd w A n Z) (T:Touch (fun _=>False) w w'):StsOd w' A n Z:=⟨h.rd.quiet T,h.len,fun z hz=>(h.el z hz).touch T (fun _ _ f=>f)⟩
structure ZV where
 fin:Bool
 out:Int
 A:Option Addr
 n:Nat
 c:Nat
 arcs:List (Int × Int × Int)
def zaCells (l:List (Int × Int × Int)):List Value:=l.flatMap fun a=>[.int .i32 a.1,.int .i64 a.2.1,.int .i64 a.2.2]
def ZV.cells (s:ZV):List Value:=[.bool s.fin,.int .i64 s.out,.slice s.A s.n s.c]
def ZV.p (s:ZV):StZ:=⟨s.fin,s.out,s.arcs⟩
structure ZV.Ok (s:ZV) (w:World):Prop where
 len:s.arcs.length=s.n
 rd:RdO w 173 3 s.A s.n (zaCells s.arcs)
 le:s.n≤s.c
 mx:s.c≤maxLen
def zCells (Z:List ZV):List Value:=Z.flatMap ZV.cells
end
section
variable [Inhabited BaseT]
theorem ZV.Ok.touch {s:ZV} {w w':World} {S:Nat→Prop} (h:s.Ok w) (T:Touch S w w') (hS:∀ g,OT w g 173 → ¬ S g):s.Ok w':=⟨h.len,h.rd.touch T hS,h.le,h.mx⟩
theorem ZV.Ok.quiet {s:ZV} {w w':World} (h:s.Ok w) (T:Touch (fun _=>False) w w'):s.Ok w':=h.touch T (fun _ _ f=>f)
structure StsZ (w:World) (A:Option Addr) (n:Nat) (Z:List ZV):Prop where
 rd:RdO w 170 3 A n (zCells Z)
 len:Z.length=n
 el:∀ z∈Z,z.Ok w
theorem StsZ.quiet {w w':World} {A:Option Addr} {n:Nat} {Z:List ZV} (h:StsZ w A n Z) (T:Touch (fun _=>False) w w'):StsZ w' A n Z:=⟨h.rd.quiet T,h.len,fun z hz=>(h.el z hz).quiet T⟩
end
theorem zaCells_map (l:List (Nat × Int × Nat)):zaCells (l.map arcZ)=aCells l:=by
 unfold zaCells aCells
 rw [List.flatMap_map]
 rfl
section
variable [Inhabited BaseT]
def ZV.sv (z:ZV) (s:StP):SV:=⟨z.fin,z.out,z.A,z.n,z.c,s.arcs⟩
theorem ZV.sv_ok {z:ZV} {w:World} {s:StP} (h:z.Ok w) (hs:s.z=z.p):(z.sv s).Od w∧(z.sv s).p=s∧(z.sv s).cells=z.cells:=by
 obtain ⟨f,o,A,n,c,a⟩:=z
 obtain ⟨f',o',a'⟩:=s
 simp only [StP.z,ZV.p,StZ.mk.injEq] at hs
 obtain ⟨rfl,rfl,rfl⟩:=hs
 refine ⟨⟨?_,?_,h.le,h.mx⟩,rfl,rfl⟩
 ·have:=h.len
  simpa [ZV.sv] using this
 ·have:=h.rd
  rw [zaCells_map] at this
  exact this
theorem stsOk_of {w:World} {A:Option Addr} {n:Nat}:∀ (Z:List ZV) (sts:List StP),Z.map ZV.p=sts.map StP.z→(∀ z∈Z,z.Ok w)→∃ Y:List SV,Y.map SV.p=sts∧sCells Y=zCells Z∧Y.length=Z.length∧∀ y∈Y,y.Od w
 | [],[],_,_=>⟨[],rfl,rfl,rfl,fun y hy=>by cases hy⟩
 | [],_ :: _,h,_=>by simp at h
 | _ :: _,[],h,_=>by simp at h
 | z :: Z,s :: sts,h,hz=>by
  simp only [List.map_cons,List.cons.injEq] at h
  obtain ⟨Y,h1,h2,h3,h4⟩:=stsOk_of (A:=A) (n:=n) Z sts h.2 (fun x hx=>hz x (List.mem_cons_of_mem _ hx))
  obtain ⟨g1,g2,g3⟩:=ZV.sv_ok (hz z List.mem_cons_self) h.1.symm
  refine ⟨z.sv s :: Y,by rw [List.map_cons,h1,g2],?_,by rw [List.length_cons,List.length_cons,h3],?_⟩
  ·unfold sCells zCells at *
   rw [List.flatMap_cons,List.flatMap_cons,h2,g3]
  ·intro y hy
   rcases List.mem_cons.1 hy with rfl | hy
   ·exact g1
   ·exact h4 y hy
theorem StsZ.ok {w:World} {A:Option Addr} {n:Nat} {Z:List ZV} (h:StsZ w A n Z) {sts:List StP} (hs:Z.map ZV.p=sts.map StP.z):∃ Y:List SV,Y.map SV.p=sts∧StsOd w A n Y:=by
 obtain ⟨Y,h1,h2,h3,h4⟩:=stsOk_of (A:=A) (n:=n) Z sts hs h.el
 exact ⟨Y,h1,by rw [h2];exact h.rd,by rw [h3];exact h.len,h4⟩
def zvZero:ZV:=⟨false,0,none,0,0,[]⟩
end
section
variable [Inhabited BaseT]
end
end Go.Proofs.YthockgmbooefpaaGreatDoor
namespace Go.Proofs.YthockgmbooefpaaGreatDoor
open Go.RowKit
section
variable [Inhabited BaseT]
def BoolIff (P:Prop) (e:Ending):Prop:=∃ v:Bool,e=.returned (.bool v)∧(v=true↔P)
end
theorem BoolIff.mk {P:Prop} (v:Bool) (h:v=true↔P):BoolIff P (.returned (.bool v)):=⟨v,rfl,h⟩
section
variable [Inhabited BaseT]
end
section
variable [Inhabited BaseT]
end
end Go.Proofs.YthockgmbooefpaaGreatDoor
namespace Go.Proofs.YthockgmbooefpaaGreatDoor
open Go.RowKit
variable [Inhabited BaseT]
def SumB (U:List S3) (z:StP):Prop:=∀ j,(0≤(sumP U z j).1∧(sumP U z j).1≤4096)∧(0≤(sumP U z j).2.1∧(sumP U z j).2.1≤24)∧(0≤(sumP U z j).2.2∧(sumP U z j).2.2≤1048576)
def SumE (U:List S3) (N:Nat) (z:StP):Prop:=∀ a∈z.arcs,a.2.2<N∧(0≤a.2.1∧a.2.1≤1048576)∧(0≤(U.getD a.2.2 z3).1∧(U.getD a.2.2 z3).1≤4096)∧(0≤(U.getD a.2.2 z3).2.1∧(U.getD a.2.2 z3).2.1≤24)∧(0≤(U.getD a.2.2 z3).2.2∧(U.getD a.2.2 z3).2.2≤1048576)
end Go.Proofs.YthockgmbooefpaaGreatDoor
namespace Go.Proofs.YthockgmbooefpaaGreatDoor
open Go.RowKit Go.WideMaps Go.WideElems Go.ChangeShapes Go.WideShapes Go.MapKept Go.ChangeMaps
variable [Inhabited BaseT]
structure Gr2 (w:World) (B b m:Nat) (kv:Nat→Value) (es:Array MapEntry) (clock:Nat):Prop where
 g:Grp w B b m es clock
 has:∀ k,k<m→∃ (i:Nat) (x:MapEntry),es[i]? = some x∧x.key=kv k
 dist:∀ (i j:Nat) (x y:MapEntry),es[i]? = some x→es[j]? = some y→x.key=y.key→i=j
 full:∀ (i:Nat) (x:MapEntry),es[i]? = some x→∃ xs,RowV w m x.val xs∧∀ k,k<m→kv k=x.key→k∈xs
theorem rowV_inj {w:World} {m m':Nat} {v:Value} {xs ys:List Nat} (h:RowV w m v xs) (k:RowV w m' v ys):xs=ys:=by
 have inj:∀ {a b:List Nat},a.map natV=b.map natV→a=b:=fun h=>map_inj (fun x y e=>by simp only [natV,Value.int.injEq,true_and] at e;omega) h
 obtain ⟨⟨h1,h2⟩,_⟩:=h
 obtain ⟨⟨k1,k2⟩,_⟩:=k
 rcases h2 with ⟨rfl,hn⟩ | ⟨g,cap,cur,rfl,_,hg,_,_,_,ht⟩
 ·rcases k2 with ⟨_,kn⟩ | ⟨g,cap,cur,hv,_⟩
  ·rw [List.eq_nil_of_length_eq_zero hn,List.eq_nil_of_length_eq_zero kn]
  ·cases hv
 ·rcases k2 with ⟨hv,_⟩ | ⟨g',cap',cur',hv,_,kg,_,_,_,kt⟩
  ·cases hv
  ·injection hv with e1 e2 e3
   injection e1 with e1
   injection e1 with e1
   subst e1
   rw [hg] at kg
   simp only [Option.some.injEq,Obj.cells.injEq] at kg
   obtain ⟨rfl,_⟩:=kg
   rw [← e2] at kt
   exact inj (ht.symm.trans kt)
theorem Gr2.quiet {w w':World} {B b m clock:Nat} {kv:Nat→Value} {es:Array MapEntry} (h:Gr2 w B b m kv es clock) (T:Touch (fun _=>False) w w'):Gr2 w' B b m kv es clock :=
 ⟨h.g.quiet T,h.has,h.dist,fun i x hx=>by
  obtain ⟨xs,hr,hf⟩:=h.full i x hx
  exact ⟨xs,hr.touch T (fun _ _ f=>f),hf⟩⟩
theorem Gr2.far {w w':World} {B b m clock:Nat} {kv:Nat→Value} {es:Array MapEntry} {S:Nat→Prop} (h:Gr2 w B b m kv es clock) (T:Touch S w w') (hb:¬ S b) (hs:∀ g,TyAt w g 3 → ¬ S g):Gr2 w' B b m kv es clock :=
 ⟨h.g.far T hb hs,h.has,h.dist,fun i x hx=>by
  obtain ⟨xs,hr,hf⟩:=h.full i x hx
  exact ⟨xs,hr.touch T (fun g hg=>hs g (own_ty hr.1 hg)),hf⟩⟩
theorem Gr2.lookup {w:World} {B b m clock:Nat} {kv:Nat→Value} {es:Array MapEntry} (h:Gr2 w B b m kv es clock) {key:Value} {l:Lit} (hk:keyOf Tryz.prog 246 key=some l) :
  ∃ v xs,(Instr.lookup 241 (.map (some b)) key false).run Tryz.prog w=.ok v w∧RowV w m v xs∧∀ k,k<m→kv k=key→k∈xs:=by
 rcases grp_law.find w hk es.toList h.g.keys with ⟨h1,h2⟩ | ⟨j,e0,h1,h2,h3⟩
 ·refine ⟨.slice none 0 0,[],?_,RowV.nil _ _,fun k hm e=>?_⟩
  ·simp [Instr.lookup,run_underlying Tryz.underlying241,MapKept.run_getObj_map h.g.blk,grp_law.check w _ hk,h1,Result.andThen]
  ·obtain ⟨i,x,hx,hxk⟩:=h.has k hm
   exact absurd (hxk.trans e) (h2 x (List.mem_of_getElem? (by simpa using hx)))
 ·obtain ⟨xs,hr,hf⟩:=h.full j e0 (by simpa using h2)
  refine ⟨e0.val,xs,?_,hr,fun k hm e=>hf k hm (e.trans h3.symm)⟩
  simp [Instr.lookup,run_underlying Tryz.underlying241,MapKept.run_getObj_map h.g.blk,grp_law.check w _ hk,h1,Result.andThen]
theorem Gr2.entry {w:World} {B b m clock:Nat} {kv:Nat→Value} {es:Array MapEntry} (h2:Gr2 w B b m kv es clock) {key:Value} {l:Lit} (hk:keyOf Tryz.prog 246 key=some l) :
  ∃ (es1:Array MapEntry) (clock1 j:Nat) (e0:MapEntry),(Instr.mapEntry 241 (.map (some b)) key).run Tryz.prog w=.ok (.tuple #[e0.val,goInt e0.born]) (setBlock w b (.map es1 clock1))∧Gr2 (setBlock w b (.map es1 clock1)) B b m kv es1 clock1∧es1[j]? = some e0∧e0.key=key:=by
 have h:=h2.g
 have hT:=fun o=>touch_setBlock w b o
 have hlt:=map_lt h.blk
 have hne:∀ (i:Nat) (x:MapEntry),es[i]? = some x→∀ g,x.val.ownBlock=some g→¬ g=b:=by
  intro i x hx g hg
  obtain ⟨xs,hr⟩:=h.vals i x hx
  exact map_ne (own_ty hr.1 hg) h.blk
 rcases grp_law.find w hk es.toList h.keys with ⟨h1,f2⟩ | ⟨j,e0,h1,f2,h3⟩
 ·refine ⟨es.push ⟨key,.slice none 0 0,clock⟩,clock+1,es.size,⟨key,.slice none 0 0,clock⟩,?_,⟨⟨heap_setBlock hlt,stamped_push h.stamped f2,?_,?_,?_,?_⟩,?_,?_,?_⟩,by simp,rfl⟩
  ·simp [Instr.mapEntry,run_underlying Tryz.underlying241,MapKept.run_getObj_map h.blk,grp_law.check w false hk,h1,MapKept.run_setObj_map _ h.blk,Result.andThen,setBlock]
  ·intro x hx
   simp only [Array.toList_push,List.mem_append,List.mem_singleton] at hx
   rcases hx with hx | rfl
   ·exact h.keys x hx
   ·exact ⟨l,hk⟩
  ·intro i x hx
   rw [Array.getElem?_push] at hx
   split at hx
   ·injection hx with hx
    subst hx
    exact ⟨[],RowV.nil _ _⟩
   ·obtain ⟨xs,hr⟩:=h.vals i x hx
    exact ⟨xs,hr.touch (hT _) (hne i x hx)⟩
  ·intro i x hx g hg
   rw [Array.getElem?_push] at hx
   split at hx
   ·injection hx with hx
    subst hx
    cases hg
   ·exact h.young i x hx g hg
  ·intro i j x y hx hy hij g hg
   rw [Array.getElem?_push] at hx hy
   split at hx
   ·injection hx with hx
    subst hx
    cases hg
   ·split at hy
    ·injection hy with hy
     subst hy
     intro e
     cases e
    ·exact h.apart i j x y hx hy hij g hg
  ·intro k hm
   obtain ⟨i,x,hx,hxk⟩:=h2.has k hm
   exact ⟨i,x,by rw [Array.getElem?_push,if_neg (by have:=(Array.getElem?_eq_some_iff.1 hx).1;omega)];exact hx,hxk⟩
  ·intro i j x y hx hy hxy
   rw [Array.getElem?_push] at hx hy
   split at hx
   ·rename_i hi
    split at hy
    ·rename_i hj
     omega
    ·obtain rfl:=Option.some.inj hx
     exact False.elim <| f2 y (List.mem_of_getElem? (i:=j) (by simpa using hy)) hxy.symm
   ·split at hy
    ·obtain rfl:=Option.some.inj hy
     exact False.elim <| f2 x (List.mem_of_getElem? (i:=i) (by simpa using hx)) hxy
    ·exact h2.dist i j x y hx hy hxy
  ·intro i x hx
   rw [Array.getElem?_push] at hx
   split at hx
   ·injection hx with hx
    subst hx
    refine ⟨[],RowV.nil _ _,fun k hm e=>?_⟩
    obtain ⟨i',x',hx',hxk'⟩:=h2.has k hm
    exact absurd (hxk'.trans e) (f2 x' (List.mem_of_getElem? (i:=i') (by simpa using hx')))
   ·obtain ⟨xs,hr,hf⟩:=h2.full i x hx
    exact ⟨xs,hr.touch (hT _) (hne i x hx),hf⟩
 ·have hj:es[j]? = some e0:=by simpa using f2
  have hsame:es.modify j (fun e=>{ e with key:=key })=es:=by
   apply Array.ext'
   rw [Array.toList_modify,modify_eq_set _ _ _ _ f2]
   have:({ e0 with key:=key }:MapEntry)=e0:=by rw [← h3]
   rw [this]
   exact set_self _ _ _ f2
  refine ⟨es,clock,j,e0,?_,⟨⟨heap_setBlock hlt,h.stamped,h.keys,fun i x hx=>?_,h.young,h.apart⟩,h2.has,h2.dist,fun i x hx=>?_⟩,hj,h3⟩
  ·simp [Instr.mapEntry,run_underlying Tryz.underlying241,MapKept.run_getObj_map h.blk,grp_law.check w false hk,h1,hj,h3,grp_law.stays w hk,hsame,MapKept.run_setObj_map _ h.blk,Result.andThen,setBlock]
  ·obtain ⟨xs,hr⟩:=h.vals i x hx
   exact ⟨xs,hr.touch (hT _) (hne i x hx)⟩
  ·obtain ⟨xs,hr,hf⟩:=h2.full i x hx
   exact ⟨xs,hr.touch (hT _) (hne i x hx),hf⟩
theorem Gr2.store {w w6:World} {B b m clock j:Nat} {kv:Nat→Value} {es:Array MapEntry} {e0:MapEntry} (h2:Gr2 w B b m kv es clock) (hkv:e0.key=kv m) {ys:List Nat} (hys:RowV w m e0.val ys) (hj:es[j]? = some e0) {v1:Value} {xs:List Nat} (hg:w.grownBy w6 e0.val.ownBlock) (hf:Fresh w e0.val v1) (hv:RowV w6 (m+1) v1 xs) (hxs:xs=ys++[m]) (hB:B≤w.heap.size) :
  ∃ es',(Instr.entryStore 241 (.map (some b)) (goInt e0.born) v1).run Tryz.prog w6=.ok () (setBlock w6 b (.map es' clock))∧Gr2 (setBlock w6 b (.map es' clock)) B b (m+1) kv es' clock:=by
 have h:=h2.g
 have hlt:=map_lt h.blk
 have hnb:∀ (i:Nat) (x:MapEntry),es[i]? = some x→∀ g,x.val.ownBlock=some g→¬ g=b:=by
  intro i x hx g hg
  obtain ⟨xs,hr⟩:=h.vals i x hx
  exact map_ne (own_ty hr.1 hg) h.blk
 have hT6:Touch (fun x=>e0.val.ownBlock=some x) w w6:=(Touch.refl _ _).grown hg (fun k hk _=>hk)
 have hb6:w6.heap[b]? = some (.map es clock):=(hT6.block b hlt (fun e=>hnb j e0 hj b e rfl)).trans h.blk
 have hT7:=fun o=>touch_setBlock w6 b o
 have hl:es.toList[j]? = some e0:=by simpa using hj
 have hidx:es.findIdx? (fun e=>((e.born:Nat):Int) == ((e0.born:Nat):Int))=some j:=by
  rw [findIdx_arr]
  exact findIdx_born h.stamped.2.1 hl
 have hget:∀ i:Nat,(es.modify j (fun e=>{ e with val:=v1 }))[i]? = if j=i then (es[i]?).map (fun e=>{ e with val:=v1 }) else es[i]? := by
  intro i
  rw [Array.getElem?_modify]
 refine ⟨es.modify j (fun e=>{ e with val:=v1 }),?_,⟨⟨heap_setBlock (map_lt hb6),stamped_modify h.stamped j _ (fun _ _=>rfl) (fun _ _ _=>rfl),?_,?_,?_,?_⟩,?_,?_,?_⟩⟩
 ·simp [Instr.entryStore,MapKept.run_getObj_map hb6,asInt,asIntOf,goInt,hidx,MapKept.run_setObj_map _ hb6,Result.andThen,setBlock]
 ·intro x hx
  rw [Array.toList_modify,modify_eq_set _ _ _ _ hl] at hx
  rcases List.mem_or_eq_of_mem_set hx with hx | rfl
  ·exact h.keys x hx
  ·exact h.keys e0 (List.mem_of_getElem? hl)
 ·intro i x hx
  rw [hget] at hx
  split at hx
  ·rename_i hji
   subst hji
   rw [hj] at hx
   simp only [Option.map_some,Option.some.injEq] at hx
   subst hx
   refine ⟨xs,hv.touch (hT7 _) fun g hg' e=>?_⟩
   exact map_ne (own_ty hv.1 hg') hb6 e
  ·rename_i hji
   obtain ⟨ys,hr⟩:=(h.up (Nat.le_succ m)).vals i x hx
   refine ⟨ys,(hr.touch hT6 fun g hg' e=>?_).touch (hT7 _) (hnb i x hx)⟩
   exact h.apart j i e0 x hj hx hji g e hg'
 ·intro i x hx g hg'
  rw [hget] at hx
  split at hx
  ·rename_i hji
   subst hji
   rw [hj] at hx
   simp only [Option.map_some,Option.some.injEq] at hx
   subst hx
   rcases hf with hf | ⟨g2,e2,hf⟩
   ·simp only at hg'
    rw [hf] at hg'
    exact h.young j e0 hj g hg'
   ·simp only at hg'
    rw [e2] at hg'
    injection hg' with hg'
    omega
  ·exact h.young i x hx g hg'
 ·have hfar:∀ (i:Nat) (x:MapEntry),es[i]? = some x→j≠i→∀ g,v1.ownBlock=some g→x.val.ownBlock≠some g:=by
   intro i x hx hji g hg' e
   rcases hf with hf | ⟨g2,e2,hf⟩
   ·rw [hf] at hg'
    exact h.apart j i e0 x hj hx hji g hg' e
   ·rw [e2] at hg'
    injection hg' with hg'
    obtain ⟨ys,hr⟩:=h.vals i x hx
    have:=(own_ty hr.1 e).lt
    omega
  intro i k x y hx hy hik g hg'
  rw [hget] at hx hy
  split at hx
  ·rename_i hji
   rw [if_neg (by omega)] at hy
   subst hji
   rw [hj] at hx
   simp only [Option.map_some,Option.some.injEq] at hx
   subst hx
   exact hfar k y hy hik g hg'
  ·split at hy
   ·rename_i hji hjk
    subst hjk
    rw [hj] at hy
    simp only [Option.map_some,Option.some.injEq] at hy
    subst hy
    intro e
    exact hfar i x hx hji g e hg'
   ·exact h.apart i k x y hx hy hik g hg'
 ·intro k hk
  rcases Nat.lt_succ_iff_lt_or_eq.1 hk with hk | rfl
  ·obtain ⟨i,x,hx,hxk⟩:=h2.has k hk
   by_cases e:j=i
   ·exact ⟨i,{ x with val:=v1 },by rw [hget,if_pos e,hx];rfl,hxk⟩
   ·exact ⟨i,x,by rw [hget,if_neg e];exact hx,hxk⟩
  ·exact ⟨j,{ e0 with val:=v1 },by rw [hget,if_pos rfl,hj];rfl,hkv⟩
 ·have hk:∀ (i:Nat) (x:MapEntry),(es.modify j (fun e=>{ e with val:=v1 }))[i]? = some x→∃ x',es[i]? = some x'∧x'.key=x.key:=by
   intro i x hx
   rw [hget] at hx
   split at hx
   ·obtain ⟨x',h1,h3⟩:=Option.map_eq_some_iff.1 hx
    exact ⟨x',h1,by rw [← h3]⟩
   ·exact ⟨x,hx,rfl⟩
  intro i k x y hx hy hxy
  obtain ⟨x',h1,h3⟩:=hk i x hx
  obtain ⟨y',h4,h5⟩:=hk k y hy
  exact h2.dist i k x' y' h1 h4 (by rw [h3,h5,hxy])
 ·intro i x hx
  rw [hget] at hx
  split at hx
  ·rename_i hji
   subst hji
   rw [hj] at hx
   simp only [Option.map_some,Option.some.injEq] at hx
   subst hx
   obtain ⟨zs,hr,hf⟩:=h2.full j e0 hj
   have e:=rowV_inj hr hys
   subst e
   refine ⟨xs,hv.touch (hT7 _) fun g hg' e=>?_,?_⟩
   ·exact map_ne (own_ty hv.1 hg') hb6 e
   ·intro k hk e
    rw [hxs]
    rcases Nat.lt_succ_iff_lt_or_eq.1 hk with hk | rfl
    ·exact List.mem_append_left _ (hf k hk e)
    ·exact List.mem_append_right _ (List.mem_singleton.2 rfl)
  ·rename_i hji
   obtain ⟨zs,hr,hf⟩:=h2.full i x hx
   have hr2:RowV w (m+1) x.val zs:=⟨hr.1,by have:=hr.2.1;omega,fun k hk=>by have:=hr.2.2 k hk;omega⟩
   refine ⟨zs,(hr2.touch hT6 fun g hg' e=>?_).touch (hT7 _) (hnb i x hx),?_⟩
   ·exact h.apart j i e0 x hj hx hji g e hg'
   ·intro k hk e
    rcases Nat.lt_succ_iff_lt_or_eq.1 hk with hk | rfl
    ·exact hf k hk e
    ·exact absurd (h2.dist j i e0 x hj hx (hkv.trans e)) hji
end Go.Proofs.YthockgmbooefpaaGreatDoor
namespace Go.Proofs.YthockgmbooefpaaGreatDoor
open Go.RowKit
variable [Inhabited BaseT]
structure VisOk (w:World) (g Y:Nat) (s':List Bool) (nx':Nat) (ok:Bool):Prop where
 yes:ok=true→Blk w g 4 (bCells s')∧Blk w Y 3 #[.int .i64 nx']
theorem VisOk.no {w:World} {g Y:Nat} {s':List Bool} {nx':Nat}:VisOk w g Y s' nx' false:=⟨fun h=>by cases h⟩
end Go.Proofs.YthockgmbooefpaaGreatDoor
namespace Go.Proofs.YthockgmbooefpaaGreatDoor
open Go.RowKit
variable [Inhabited BaseT]
def StZ.p (z:StZ):StP:=⟨z.fin,z.out,z.arcs.map fun a=>(a.1.toNat,a.2.1,a.2.2.toNat)⟩
theorem z_p (s:StP):s.z.p=s:=by
 obtain ⟨f,o,l⟩:=s
 simp only [StP.z,StZ.p,List.map_map,StP.mk.injEq,true_and]
 have e:((fun a:Int × Int × Int=>(a.1.toNat,a.2.1,a.2.2.toNat)) ∘ arcZ)=id:=by
  funext a
  obtain ⟨a,b,c⟩:=a
  simp [arcZ]
 rw [e,List.map_id]
theorem formZ_p {num:Nat} {z:StZ} (h:FormZ num z):z.p.z=z∧FormP num z.p:=by
 obtain ⟨s,rfl,hs⟩:=h
 rw [z_p]
 exact ⟨rfl,hs⟩
def RgtZ (zs:List StZ) (base:Int):Prop:=∃ sts:List StP,zs=sts.map StP.z∧RgtP sts base
def stsOf (Z:List ZV):List StP:=Z.map fun z=>z.p.p
theorem stsOf_len (Z:List ZV):(stsOf Z).length=Z.length:=by simp [stsOf]
theorem stsOf_get {Z:List ZV} {i:Nat} (h:i<Z.length):(stsOf Z).getD i noSt=(Z.getD i zvZero).p.p:=by
 simp [stsOf,List.getD,h]
theorem rgtZ_sts {Z:List ZV} {base:Int} (h:RgtZ (Z.map ZV.p) base):RgtP (stsOf Z) base∧∀ i,i<Z.length→(Z.getD i zvZero).p=((stsOf Z).getD i noSt).z:=by
 obtain ⟨sts,h1,h2⟩:=h
 have e:stsOf Z=sts:=by
  have h3:(Z.map ZV.p).map StZ.p=(sts.map StP.z).map StZ.p:=by rw [h1]
  rw [List.map_map,List.map_map] at h3
  have e2:(StZ.p ∘ StP.z)=id:=by funext s;exact z_p s
  rw [e2,List.map_id] at h3
  exact h3
 rw [e]
 refine ⟨h2,fun i hi=>?_⟩
 have h3:=congrArg (fun l=>l[i]?) h1
 simp only [List.getElem?_map] at h3
 have hl:sts.length=Z.length:=by have:=congrArg List.length h1;simpa using this.symm
 have hi2:i<sts.length:=by omega
 simpa [List.getD,hi,hi2] using h3
theorem uF_get {sts:List StP} {n:Nat}:∀ (i j:Nat),j<i→i≤n→(uF sts n i).getD j z3=sumP (uF sts n j) (sts.getD j noSt) (sts.getD j noSt).arcs.length
 | 0,_,h,_=>absurd h (Nat.not_lt_zero _)
 | i+1,j,h,hn=>by
  simp only [uF]
  by_cases e:j=i
  ·subst e
   rw [List.getD_eq_getElem?_getD,List.getElem?_set_self (by rw [uF_len];omega)]
   rfl
  ·rw [List.getD_eq_getElem?_getD,List.getElem?_set_ne (by omega),← List.getD_eq_getElem?_getD]
   exact uF_get i j (by omega) (by omega)
structure Rg (Z:List ZV) (n i:Nat):Prop where
 form:∀ j,j<i→FormZ j (Z.getD j zvZero).p
 sum:∀ j,j<i→SumB (uF (stsOf Z) n j) ((stsOf Z).getD j noSt)
 unl:∀ j k,j<i→k<i→(stsOf Z).getD j noSt=(stsOf Z).getD k noSt→j=k
theorem Rg.zero (Z:List ZV) (n:Nat):Rg Z n 0:=⟨fun _ h=>absurd h (Nat.not_lt_zero _),fun _ h=>absurd h (Nat.not_lt_zero _),fun _ _ h=>absurd h (Nat.not_lt_zero _)⟩
theorem Rg.formP {Z:List ZV} {n i:Nat} (h:Rg Z n i) (hl:Z.length=n) (hi:i≤n) {j:Nat} (hj:j<i):FormP j ((stsOf Z).getD j noSt)∧((stsOf Z).getD j noSt).z=(Z.getD j zvZero).p:=by
 rw [stsOf_get (by omega)]
 have:=formZ_p (h.form j hj)
 exact ⟨this.2,this.1⟩
theorem Rg.sumE {Z:List ZV} {n i:Nat} (h:Rg Z n i) {s:StP} (hi:i<n) (hs:FormP i s):SumE (uF (stsOf Z) n i) n s:=by
 intro a ha
 have h1:=hs.arc a ha
 have h2:=h.sum a.2.2 h1.2.2
 rw [uF_get i a.2.2 h1.2.2 (by omega)]
 exact ⟨by omega,⟨h1.1,h1.2.1⟩,h2 _⟩
theorem Rg.step {Z:List ZV} {n i:Nat} (h:Rg Z n i) (hf:FormZ i (Z.getD i zvZero).p) (hs:SumB (uF (stsOf Z) n i) ((stsOf Z).getD i noSt)) (hu:∀ k,k<i→(stsOf Z).getD k noSt≠(stsOf Z).getD i noSt):Rg Z n (i+1):=by
 refine ⟨?_,?_,?_⟩
 ·intro j hj
  rcases Nat.lt_succ_iff_lt_or_eq.1 hj with hj | rfl
  ·exact h.form j hj
  ·exact hf
 ·intro j hj
  rcases Nat.lt_succ_iff_lt_or_eq.1 hj with hj | rfl
  ·exact h.sum j hj
  ·exact hs
 ·intro j k hj hk e
  rcases Nat.lt_succ_iff_lt_or_eq.1 hj with hj | rfl
  ·rcases Nat.lt_succ_iff_lt_or_eq.1 hk with hk | rfl
   ·exact h.unl j k hj hk e
   ·exact absurd e (hu j hj)
  ·rcases Nat.lt_succ_iff_lt_or_eq.1 hk with hk | rfl
   ·exact absurd e.symm (hu k hk)
   ·rfl
theorem visF_mono (sts:List StP):∀ (f i:Nat) (s s':List Bool) (n n':Nat),visF sts f i s n=(true,s',n')→∀ g,f≤g→visF sts g i s n=(true,s',n')
 | 0,_,_,_,_,_,h,_,_=>by simp [visF] at h
 | f+1,i,s,s',n,n',h,g,hg=>by
  obtain ⟨g,rfl⟩:∃ k,g=k+1:=⟨g-1,by omega⟩
  simp only [visF] at h ⊢
  have ih:=visF_mono sts f
  have hv:∀ (l:List (Nat × Int × Nat)) (s s':List Bool) (n n':Nat),visArcs (visF sts f) l s n=(true,s',n')→visArcs (visF sts g) l s n=(true,s',n'):=by
   intro l
   induction l with
   | nil=>intro s s' n n' h;exact h
   | cons a l ih2 =>
    intro s s' n n' h
    simp only [visArcs] at h ⊢
    by_cases hs:s.getD a.2.2 false=true
    ·rw [if_pos hs] at h ⊢
     exact ih2 _ _ _ _ h
    ·rw [if_neg hs] at h ⊢
     obtain ⟨⟨ok,s1,n1⟩,hr⟩:∃ r,visF sts f a.2.2 s n=r:=⟨_,rfl⟩
     rw [hr] at h
     cases ok with
     | false=>simp at h
     | true =>
      rw [ih _ _ _ _ _ hr g (by omega)]
      exact ih2 _ _ _ _ h
  obtain ⟨⟨ok,s1,n1⟩,hr⟩:∃ r,visArcs (visF sts f) (sts.getD i noSt).arcs s n=r:=⟨_,rfl⟩
  rw [hr] at h
  cases ok with
  | false=>simp at h
  | true =>
   rw [hv _ _ _ _ _ hr]
   exact h
theorem visF_fuel (sts:List StP) (hlt:∀ i,i<sts.length→∀ a∈(sts.getD i noSt).arcs,a.2.2<i):∀ (f i:Nat) (s:List Bool) (n:Nat),i<f→i<sts.length→∀ g,f≤g→visF sts g i s n=visF sts f i s n
 | 0,_,_,_,h,_,_,_=>absurd h (Nat.not_lt_zero _)
 | f+1,i,s,n,hi,hil,g,hg=>by
  obtain ⟨g,rfl⟩:∃ k,g=k+1:=⟨g-1,by omega⟩
  simp only [visF]
  have hv:∀ (l:List (Nat × Int × Nat)),(∀ a∈l,a.2.2<i)→∀ (s:List Bool) (n:Nat),visArcs (visF sts g) l s n=visArcs (visF sts f) l s n:=by
   intro l
   induction l with
   | nil=>intro _ s n;rfl
   | cons a l ih2 =>
    intro hl s n
    simp only [visArcs]
    have ha:=hl a List.mem_cons_self
    rw [visF_fuel sts hlt f a.2.2 s n (by omega) (by omega) g (by omega)]
    by_cases hs:s.getD a.2.2 false=true
    ·rw [if_pos hs,if_pos hs]
     exact ih2 (fun b hb=>hl b (List.mem_cons_of_mem _ hb)) _ _
    ·rw [if_neg hs,if_neg hs]
     obtain ⟨⟨ok,s1,n1⟩,hr⟩:∃ r,visF sts f a.2.2 s n=r:=⟨_,rfl⟩
     rw [hr]
     cases ok with
     | false=>rfl
     | true=>exact ih2 (fun b hb=>hl b (List.mem_cons_of_mem _ hb)) _ _
  rw [hv _ (hlt i hil)]
theorem Rg.right {Z:List ZV} {n:Nat} {base:Int} (h:Rg Z n n) (hl:Z.length=n) (hpos:0<n) (hfew:n≤98305) (hb1:1≤base) (hb2:base≤1048576) (hroot:(Z.getD (n-1) zvZero).fin=false) :
  (base+((uF (stsOf Z) n n).getD (n-1) z3).2.2≤1048576∧∃ s',visF (stsOf Z) n (n-1) (List.replicate n false) 0=(true,s',n))↔RgtZ (Z.map ZV.p) base:=by
 have hsl:(stsOf Z).length=n:=by rw [stsOf_len,hl]
 constructor
 ·rintro ⟨htop,s',hvis⟩
  refine ⟨stsOf Z,?_,.inr ⟨by omega,by omega,hb1,hb2,?_,?_,?_,?_,?_,?_,⟨n,s',?_⟩⟩⟩
  ·apply List.ext_getElem
   ·simp [stsOf_len]
   ·intro i h1 h2
    simp only [List.length_map] at h1 h2
    have:=(h.formP hl (Nat.le_refl _) (j:=i) (by omega)).2
    simp only [List.getElem_map]
    have e1:(stsOf Z).getD i noSt=(stsOf Z)[i]:=by simp [List.getD,h2]
    have e2:Z.getD i zvZero=Z[i]:=by simp [List.getD,h1]
    rw [e1,e2] at this
    exact this.symm
  ·rw [hsl,stsOf_get (by omega)]
   exact hroot
  ·intro i hi
   exact (h.formP hl (Nat.le_refl _) (by omega)).1
  ·intro i hi
   rw [hsl]
   exact h.sum i (by omega)
  ·intro i hi a ha
   rw [hsl]
   have h1:=(h.formP hl (Nat.le_refl _) (j:=i) (by omega)).1
   have hc:=h1.arc a ha
   rw [uF_get i a.2.2 hc.2.2 (by omega)]
   exact h.sum a.2.2 (by omega) _
  ·rw [hsl]
   exact htop
  ·intro i j hi hj e
   exact h.unl i j (by omega) (by omega) e
  ·rw [hsl]
   exact hvis
 ·intro hr
  have hr2:=(rgtZ_sts hr).1
  rcases hr2 with ⟨e,_⟩ | hr2
  ·rw [e] at hsl
   simp at hsl
   omega
  ·have htop:=hr2.top
   obtain ⟨F,s',hvis⟩:=hr2.vis
   rw [hsl] at htop hvis
   refine ⟨htop,s',?_⟩
   have h1:=visF_mono _ _ _ _ _ _ _ hvis (max F n) (Nat.le_max_left _ _)
   have h2:=visF_fuel (stsOf Z) (fun i hi a ha=>by
    have h1:=(h.formP hl (Nat.le_refl _) (j:=i) (by omega)).1
    exact (h1.arc a ha).2.2) n (n-1) (List.replicate n false) 0 (by omega) (by omega) (max F n) (Nat.le_max_right _ _)
   rw [← h2,h1]
end Go.Proofs.YthockgmbooefpaaGreatDoor
namespace Go.Proofs.YthockgmbooefpaaGreatDoor
open Go.RowKit Go.WideElems Go.ChangeShapes Go.WideShapes Go.MapKept Go.ChangeMaps
variable [Inhabited BaseT]
theorem Rg.all {Z:List ZV} {n:Nat} (h:Rg Z n n) (hl:Z.length=n):Z.map ZV.p=(stsOf Z).map StP.z:=by
 apply List.ext_getElem
 ·simp [stsOf_len]
 ·intro i h1 h2
  simp only [List.length_map] at h1 h2
  have:=(h.formP hl (Nat.le_refl _) (j:=i) (by omega)).2
  simp only [List.getElem_map]
  have e1:(stsOf Z).getD i noSt=(stsOf Z)[i]:=by simp [List.getD,h2]
  have e2:Z.getD i zvZero=Z[i]:=by simp [List.getD,h1]
  rw [e1,e2] at this
  exact this.symm
end Go.Proofs.YthockgmbooefpaaGreatDoor
namespace Go.Proofs.YthockgmbooefpaaGreatDoor
open Go.RowKit
variable [Inhabited BaseT]
def rstF (sts:List StP):Nat→Nat→Rs
 | 0,_=>[]
 | f+1,i=>(if (sts.getD i noSt).fin=true then [([],(sts.getD i noSt).out)] else [])++(sts.getD i noSt).arcs.flatMap fun a=>(rstF sts f a.2.2).map fun r=>(a.1 :: r.1,r.2+a.2.1)
def rst (sts:List StP) (i:Nat):Rs:=rstF sts (i+1) i
def Down (sts:List StP):Prop:=∀ i,i<sts.length→∀ a∈(sts.getD i noSt).arcs,a.2.2<i
theorem flatMap_congr' {α β:Type} {f g:α→List β}:∀ {l:List α},(∀ a∈l,f a=g a)→l.flatMap f=l.flatMap g
 | [],_=>rfl
 | a :: l,h=>by rw [List.flatMap_cons,List.flatMap_cons,h a List.mem_cons_self,flatMap_congr' fun b hb=>h b (List.mem_cons_of_mem _ hb)]
theorem rstF_fuel {sts:List StP} (hd:Down sts):∀ (f i g:Nat),i<f→i<sts.length→f≤g→rstF sts g i=rstF sts f i
 | 0,_,_,h,_,_=>absurd h (Nat.not_lt_zero _)
 | f+1,i,g,hi,hl,hg=>by
  obtain ⟨g,rfl⟩:∃ k,g=k+1:=⟨g-1,by omega⟩
  simp only [rstF]
  congr 1
  refine flatMap_congr' fun a ha=>?_
  have:=hd i hl a ha
  rw [rstF_fuel hd f a.2.2 g (by omega) (by omega) (by omega)]
theorem rst_eq {sts:List StP} (hd:Down sts) {i:Nat} (hi:i<sts.length):rst sts i=(if (sts.getD i noSt).fin=true then [([],(sts.getD i noSt).out)] else [])++(sts.getD i noSt).arcs.flatMap fun a=>(rst sts a.2.2).map fun r=>(a.1 :: r.1,r.2+a.2.1):=by
 have h:rst sts i=(if (sts.getD i noSt).fin=true then [([],(sts.getD i noSt).out)] else [])++(sts.getD i noSt).arcs.flatMap fun a=>(rstF sts i a.2.2).map fun r=>(a.1 :: r.1,r.2+a.2.1):=rfl
 rw [h]
 congr 1
 refine flatMap_congr' fun a ha=>?_
 have:=hd i hi a ha
 show (rstF sts i a.2.2).map _=(rstF sts (a.2.2+1) a.2.2).map _
 rw [rstF_fuel hd (a.2.2+1) a.2.2 i (by omega) (by omega) (by omega)]
section
variable {sts:List StP}
theorem mem_rst_cons (hd:Down sts) {i:Nat} (hi:i<sts.length) {c:Nat} {t:List Nat} {n:Int}:(c :: t,n)∈rst sts i↔∃ a∈(sts.getD i noSt).arcs,a.1=c∧(t,n-a.2.1)∈rst sts a.2.2:=by
 rw [rst_eq hd hi,List.mem_append,List.mem_flatMap]
 constructor
 ·rintro (h | ⟨a,ha,h⟩)
  ·split at h<;>simp at h
  ·obtain ⟨r,hr,he⟩:=List.mem_map.1 h
   simp only [Prod.mk.injEq,List.cons.injEq] at he
   obtain ⟨⟨h1,h2⟩,h3⟩:=he
   refine ⟨a,ha,h1,?_⟩
   rw [← h2,show n-a.2.1=r.2 by omega]
   exact hr
 ·rintro ⟨a,ha,rfl,h⟩
  right
  refine ⟨a,ha,List.mem_map.2 ⟨_,h,?_⟩⟩
  simp only [Prod.mk.injEq,true_and]
  omega
theorem form_down (hf:∀ i,i<sts.length→FormP i (sts.getD i noSt)):Down sts:=fun i hi a ha=>((hf i hi).arc a ha).2.2
end
end Go.Proofs.YthockgmbooefpaaGreatDoor
namespace Go.Proofs.YthockgmbooefpaaGreatDoor
open Go.RowKit
variable [Inhabited BaseT]
section
variable {sts:List StP}
end
end Go.Proofs.YthockgmbooefpaaGreatDoor
