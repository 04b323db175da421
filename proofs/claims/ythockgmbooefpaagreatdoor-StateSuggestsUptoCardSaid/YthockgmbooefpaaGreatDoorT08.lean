/- What the law rests on, part 8. No condition but those that each theorem names. -/
import Derived.Test.YthockgmbooefpaaGreatDoorT07
import Derived.Test.YthockgmbooefpaaGreatDoorT05
import Derived.Deep.AppendLies
import Derived.Deep.RegionLaw
import Derived.StillTailTactics
set_option linter.unusedSectionVars false
set_option linter.unusedSimpArgs false
set_option linter.unusedVariables false
namespace Go.Proofs.YthockgmbooefpaaGreatDoor
open Go.RowKit
def TyAt (w:World) (b:Nat) (t:TypeId):Prop:=∃ cs,∃ _:Unit,w.heap[b]? = some (.cells cs t (0,0))
theorem TyAt.ne {w:World} {b b':Nat} {t t':TypeId} (h:TyAt w b t) (h':TyAt w b' t') (ht:t≠t'):b≠b':=by
 rintro rfl
 obtain ⟨_,_,e⟩:=h
 obtain ⟨_,_,e'⟩:=h'
 rw [e] at e'
 injection e' with e'
 injection e' with _ e'
 exact ht e'
theorem TyAt.lt {w:World} {b:Nat} {t:TypeId} (h:TyAt w b t):b<w.heap.size:=by
 obtain ⟨_,_,e⟩:=h
 exact (Array.getElem?_eq_some_iff.1 e).1
theorem TyAt.touch {w w':World} {S:Nat→Prop} {b:Nat} {t:TypeId} (h:TyAt w b t) (T:Touch S w w') (hS:¬ S b):TyAt w' b t:=by
 have hl:=h.lt
 obtain ⟨cs,fr,e⟩:=h
 exact ⟨cs,fr,(T.block b hl hS).trans e⟩
structure RdT (w:World) (t:TypeId) (size:Nat) (A:Option Addr) (n:Nat) (xs:List Value):Prop where
 rd:Reads w size A n xs
 ty:0<n→∀ g,adBlock A=some g→TyAt w g t
theorem RdT.touch {w w':World} {S:Nat→Prop} {t:TypeId} {size:Nat} {A:Option Addr} {n:Nat} {xs:List Value} (h:RdT w t size A n xs) (T:Touch S w w') (hS:∀ g,TyAt w g t→¬ S g):RdT w' t size A n xs:=by
 by_cases hn:0<n
 ·exact ⟨h.rd.touch T fun g hg=>hS g (h.ty hn g hg),fun _ g hg=>(h.ty hn g hg).touch T (hS g (h.ty hn g hg))⟩
 ·exact ⟨⟨h.rd.1,fun h=>absurd h hn⟩,fun h=>absurd h hn⟩
theorem RdT.quiet {w w':World} {t:TypeId} {size:Nat} {A:Option Addr} {n:Nat} {xs:List Value} (h:RdT w t size A n xs) (T:Touch (fun _=>False) w w'):RdT w' t size A n xs:=h.touch T fun _ _ f=>f
theorem RdT.of_own {w:World} {base:Nat} {t:TypeId} {size:Nat} {A:Option Addr} {n c:Nat} {xs:List Value} (h:w.ownsRow base t size (.slice A n c) n xs):RdT w t size A n xs:=by
 refine ⟨Reads.of_own h,fun hn g hg=>?_⟩
 rcases h.2 with ⟨e,e2⟩ | ⟨g',cap,cur,e,_,hb,_⟩
 ·omega
 ·injection e with e _ _
  subst e
  simp only [adBlock,Option.map_some,Option.some.injEq] at hg
  subst hg
  exact ⟨cur,(),hb⟩
theorem own_ty {w:World} {base:Nat} {t:TypeId} {size:Nat} {v:Value} {n:Nat} {xs:List Value} (h:w.ownsRow base t size v n xs) {g:Nat} (hg:v.ownBlock=some g):TyAt w g t:=by
 rcases h.2 with ⟨e,_⟩ | ⟨g',cap,cur,e,_,hb,_⟩
 ·rw [e] at hg;simp [Value.ownBlock] at hg
 ·rw [e] at hg
  simp [Value.ownBlock] at hg
  subst hg
  exact ⟨cur,(),hb⟩
structure RV where
 A:Option Addr
 q:Nat
 c:Nat
 O:List Nat
 wt:Int
def RV.zero:RV:=⟨none,0,0,[],0⟩
def RV.cells (r:RV):List Value:=[.slice r.A r.q r.c,.int .i64 r.wt]
def RV.p (r:RV):List Nat × Int:=(r.O,r.wt)
structure RV.Ok (r:RV) (w:World):Prop where
 len:r.O.length=r.q
 rd:RdT w 21 1 r.A r.q (r.O.map runeV)
 le:r.q≤r.c
 mx:r.c≤maxLen
def rCells (V:List RV):List Value:=V.flatMap RV.cells
theorem rCells_app (V W:List RV):rCells (V++W)=rCells V++rCells W:=List.flatMap_append
theorem rCells_at (X:List RV) (k:Nat) (hk:k<X.length) (j:Nat) (hj:j<2):(rCells X)[k*2+j]? = some ((X.getD k RV.zero).cells.getD j undef):=by
 induction X generalizing k with
 | nil=>simp at hk
 | cons x X ih =>
  have e:rCells (x :: X)=x.cells++rCells X:=rfl
  cases k with
  | zero =>
   rw [e,Nat.zero_mul,Nat.zero_add]
   obtain rfl | rfl:j=0∨j=1:=by omega
   ·rfl
   ·rfl
  | succ k =>
   rw [e,List.getElem?_append_right (by simp [RV.cells];omega)]
   have:(k+1)*2+j-x.cells.length=k*2+j:=by simp [RV.cells];omega
   rw [this,ih k (by simp at hk;omega)]
   simp [List.getD]
structure RL where
 A:Option Addr
 n:Nat
 c:Nat
 V:List RV
def RL.val (s:RL):Value:=.slice s.A s.n s.c
def RL.p (s:RL):Rs:=s.V.map RV.p
structure RL.Ok (s:RL) (w:World):Prop where
 len:s.V.length=s.n
 rd:RdT w 236 2 s.A s.n (rCells s.V)
 el:∀ r∈s.V,r.Ok w
theorem RV.Ok.touch {r:RV} {w w':World} {S:Nat→Prop} (h:r.Ok w) (T:Touch S w w') (hS:∀ g,TyAt w g 21 → ¬ S g):r.Ok w':=⟨h.len,h.rd.touch T hS,h.le,h.mx⟩
theorem RL.Ok.touch {s:RL} {w w':World} {S:Nat→Prop} (h:s.Ok w) (T:Touch S w w') (h1:∀ g,TyAt w g 21 → ¬ S g) (h2:∀ g,TyAt w g 236 → ¬ S g):s.Ok w' :=
 ⟨h.len,h.rd.touch T h2,fun r hr=>(h.el r hr).touch T h1⟩
theorem RL.Ok.quiet {s:RL} {w w':World} (h:s.Ok w) (T:Touch (fun _=>False) w w'):s.Ok w':=h.touch T (fun _ _ f=>f) (fun _ _ f=>f)
theorem rest_at {w:World} {A:Option Addr} {n:Nat} {X:List RV} (h:Reads w 2 A n (rCells X)) (hn:X.length=n) (k:Nat) (hk:k<n) :
  ∃ g off,A=some ⟨g,off,none⟩∧g<w.heap.size∧w.cell? ⟨g,off+k*2,none⟩=some (.slice (X.getD k RV.zero).A (X.getD k RV.zero).q (X.getD k RV.zero).c)∧w.cell? ⟨g,off+k*2+1,none⟩=some (.int .i64 (X.getD k RV.zero).wt):=by
 obtain ⟨b,off,hA,hb,hc⟩:=h.2 (by omega)
 refine ⟨b,off,hA,hb,?_,?_⟩
 ·exact hc (k*2) _ (rCells_at X k (by omega) 0 (by omega))
 ·rw [Nat.add_assoc];exact hc (k*2+1) _ (rCells_at X k (by omega) 1 (by omega))
theorem getD_mem {α:Type} (X:List α) (d:α) (k:Nat) (hk:k<X.length):X.getD k d∈X:=by
 have e:X.getD k d=X[k]:=by simp [List.getD,hk]
 rw [e];exact List.getElem_mem _
theorem take_snoc {α:Type} (X:List α) (d:α) (k:Nat) (hk:k<X.length):X.take (k+1)=X.take k++[X.getD k d]:=by
 have e:X.getD k d=X[k]:=by simp [List.getD,hk]
 rw [List.take_succ_eq_append_getElem hk,e]
def RL.Bd (s:RL):Prop:=∀ r∈s.V,0≤r.wt∧r.wt≤1048576
theorem onecell_rest (A:Option Addr) (q c:Nat) (z:Int):∀ u∈([.slice A q c,.int .i64 z]:List Value),u.oneCell'=true:=by
 intro u hu
 simp at hu
 rcases hu with e | e<;>subst e<;>rfl
theorem ONx.app2 {e size m:Nat} {w0 w1 w3:World} {v:Value} {g cap q:Nat} {xs ys:List Value} (h:ONx e size w0 w1 v q xs) (ho:w3.ownsRow 0 e size (.slice (some ⟨g,0,none⟩) (q+m) cap) (q+m) (xs++ys)) (hg:w1.grownBy w3 v.ownBlock) (hl:v.ownBlock=some g∨g=w1.heap.size):ONx e size w0 w3 (.slice (some ⟨g,0,none⟩) (q+m) cap) (q+m) (xs++ys):=by
 refine h.app ho hg ?_
 rcases hl with e | e
 ·exact .inl e.symm
 ·exact .inr ⟨g,rfl,by rw [e];exact Nat.le_refl _⟩
def RV.cut (r:RV) (t:List Nat):RV:=⟨if r.c=1 then r.A else r.A.map (·.add 1),r.q-1,r.c-1,t,r.wt⟩
theorem RV.Ok.cut {r:RV} {w:World} (h:r.Ok w) {d:Nat} {t:List Nat} (hO:r.O=d :: t):(r.cut t).Ok w:=by
 have hl:=h.len
 rw [hO,List.length_cons] at hl
 have hle:=h.le
 have hmx:=h.mx
 refine ⟨by simp only [RV.cut];omega,⟨?_,?_⟩,by simp only [RV.cut];omega,by simp only [RV.cut];unfold maxLen at hmx ⊢;omega⟩
 ·have:=h.rd.rd.cut (k:=1) (cap:=r.c) (by omega) hle
  rw [hO] at this
  simp only [RV.cut]
  by_cases e:r.c=1
  ·rw [if_pos e] at this ⊢
   exact this
  ·rw [if_neg e] at this ⊢
   exact this
 ·intro hn g hg
  simp only [RV.cut] at hg hn
  have hq:0<r.q:=by omega
  refine h.rd.ty hq g ?_
  split at hg
  ·exact hg
  ·cases hA:r.A with
   | none=>rw [hA] at hg;cases hg
   | some a =>
    rw [hA] at hg
    simp only [Option.map_some,adBlock,Option.some.injEq] at hg ⊢
    rw [← hg]
    unfold Addr.add
    split<;>rfl
theorem rune_first {w:World} {A:Option Addr} {q:Nat} {d:Nat} {t:List Nat} (h:Reads w 1 A (q+1) ((d :: t).map runeV)):∃ b off,A=some ⟨b,off,none⟩∧b<w.heap.size∧w.cell? ⟨b,off,none⟩=some (.int .i32 (d:Int)):=by
 obtain ⟨b,off,hA,hb,hc⟩:=h.2 (by omega)
 refine ⟨b,off,hA,hb,?_⟩
 have:=hc 0 (runeV d) rfl
 rw [Nat.add_zero] at this
 exact this
def aCells (l:List (Nat × Int × Nat)):List Value:=l.flatMap fun a=>[.int .i32 (a.1:Int),.int .i64 a.2.1,.int .i64 (a.2.2:Int)]
theorem aCells_app (V W:List (Nat × Int × Nat)):aCells (V++W)=aCells V++aCells W:=List.flatMap_append
structure SV where
 fin:Bool
 out:Int
 A:Option Addr
 n:Nat
 c:Nat
 arcs:List (Nat × Int × Nat)
def SV.cells (s:SV):List Value:=[.bool s.fin,.int .i64 s.out,.slice s.A s.n s.c]
def SV.p (s:SV):StP:=⟨s.fin,s.out,s.arcs⟩
structure SV.Ok (s:SV) (w:World):Prop where
 len:s.arcs.length=s.n
 rd:RdT w 173 3 s.A s.n (aCells s.arcs)
 le:s.n≤s.c
 mx:s.c≤maxLen
def sCells (Z:List SV):List Value:=Z.flatMap SV.cells
theorem sCells_app (V W:List SV):sCells (V++W)=sCells V++sCells W:=List.flatMap_append
theorem SV.Ok.touch {s:SV} {w w':World} {S:Nat→Prop} (h:s.Ok w) (T:Touch S w w') (hS:∀ g,TyAt w g 173 → ¬ S g):s.Ok w':=⟨h.len,h.rd.touch T hS,h.le,h.mx⟩
structure KV where
 rA:Option Addr
 rn:Nat
 rc:Nat
 X:List RL
 sA:Option Addr
 sn:Nat
 sc:Nat
 Z:List SV
def KV.r (k:KV):Value:=.slice k.rA k.rn k.rc
def KV.s (k:KV):Value:=.slice k.sA k.sn k.sc
def KV.val (k:KV):Value:=.agg #[k.r,k.s]
def KV.p (k:KV):KnP:=⟨k.X.map RL.p,k.Z.map SV.p⟩
theorem RdT.touch' {w w':World} {S:Nat→Prop} {t:TypeId} {size:Nat} {A:Option Addr} {n:Nat} {xs:List Value} (h:RdT w t size A n xs) (T:Touch S w w') (hS:0<n→∀ g,adBlock A=some g→¬ S g):RdT w' t size A n xs:=by
 by_cases hn:0<n
 ·exact ⟨h.rd.touch T fun g hg=>hS hn g hg,fun _ g hg=>(h.ty hn g hg).touch T (hS hn g hg)⟩
 ·exact ⟨⟨h.rd.1,fun h=>absurd h hn⟩,fun h=>absurd h hn⟩
structure KV.Ok (k:KV) (w:World):Prop where
 r:w.ownsRow 0 225 1 k.r k.rn (k.X.map RL.val)
 rl:k.X.length=k.rn
 re:∀ x∈k.X,x.Ok w∧x.n≤maxLen
 s:w.ownsRow 0 170 3 k.s k.sn (sCells k.Z)
 sl:k.Z.length=k.sn
 se:∀ z∈k.Z,z.Ok w
def KV.S (k:KV) (g:Nat):Prop:=k.r.ownBlock=some g∨k.s.ownBlock=some g
theorem KV.Ok.noS {k:KV} {w:World} (h:k.Ok w) {t:TypeId} (h1:t ≠ 225) (h2:t ≠ 170):∀ g,TyAt w g t→¬ k.S g:=by
 rintro g hg (e | e)
 ·exact (own_ty h.r e).ne hg (fun e=>h1 e.symm) rfl
 ·exact (own_ty h.s e).ne hg (fun e=>h2 e.symm) rfl
theorem KV.Ok.quiet {k:KV} {w w':World} (h:k.Ok w) (T:Touch (fun _=>False) w w'):k.Ok w' :=
 ⟨own_touch h.r T (fun _ _ f=>f),h.rl,fun x hx=>⟨(h.re x hx).1.quiet T,(h.re x hx).2⟩,own_touch h.s T (fun _ _ f=>f),h.sl,fun z hz=>(h.se z hz).touch T (fun _ _ f=>f)⟩
theorem KV.Ok.far {k:KV} {w w':World} {S:Nat→Prop} (h:k.Ok w) (T:Touch S w w') (hr:∀ g,k.S g→¬ S g) (h1:∀ g,TyAt w g 21 → ¬ S g) (h2:∀ g,TyAt w g 236 → ¬ S g) (h3:∀ g,TyAt w g 173 → ¬ S g):k.Ok w' :=
 ⟨own_touch h.r T (fun g e=>hr g (.inl e)),h.rl,fun x hx=>⟨(h.re x hx).1.touch T h1 h2,(h.re x hx).2⟩,own_touch h.s T (fun g e=>hr g (.inr e)),h.sl,fun z hz=>(h.se z hz).touch T h3⟩
theorem blk_ty {w:World} {g:Nat} {t:TypeId} {cs:Array Value} (h:Blk w g t cs):TyAt w g t:=⟨cs,(),h⟩
theorem KV.Ok.lt {k:KV} {w:World} (h:k.Ok w) {g:Nat} (hg:k.S g):g<w.heap.size:=by
 rcases hg with e | e
 ·exact (own_ty h.r e).lt
 ·exact (own_ty h.s e).lt
theorem stateF_old {f:Nat} {k:KnP} {l:Rs} {i:Nat} (h:idxR k.rests (levelR l)=some i):stateF (f+1) k l=(k,i):=by simp only [stateF,h]
structure L2 (w wr:World) (B C:Nat) (k0 kc:KV) (fin:Bool) (out:Int) (aA:Option Addr) (ai ac:Nat) (arcs:List (Nat × Int × Nat)) (M:RL) (fA:Option Addr) (fq:Nat) (F:List Nat):Prop where
 ok:kc.Ok wr
 b0:Blk wr B 229 #[kc.r,kc.s]
 b1:Blk wr (B+1) 229 #[.slice none 0 0,.slice none 0 0]
 b2:Blk wr C 170 #[.bool fin,.int .i64 out,.slice aA ai ac]
 own:wr.ownsRow 0 173 3 (.slice aA ai ac) ai (aCells arcs)
 al:arcs.length=ai
 af:∀ g,(Value.slice aA ai ac).ownBlock=some g→w.heap.size≤g
 m:M.Ok wr
 f:RdT wr 21 1 fA fq (F.map runeV)
 touch:Touch k0.S w wr
 fr:Fresh w k0.r kc.r
 fs:Fresh w k0.s kc.s
 nb:¬ kc.S C
 zs:∀ z∈kc.Z,z∈k0.Z∨(0<z.n→∀ g,adBlock z.A=some g→w.heap.size≤g)
 za:∀ z∈kc.Z,0<z.n→∀ g,adBlock z.A=some g→(Value.slice aA ai ac).ownBlock≠some g
theorem Fresh.up {w u:World} {a b c:Value} (h:Fresh w a b) (k:Fresh u b c) (hs:w.heap.size≤u.heap.size):Fresh w a c:=by
 rcases k with e | ⟨g,e,hg⟩
 ·rcases h with e2 | ⟨g,e2,hg⟩
  ·exact .inl (e.trans e2)
  ·exact .inr ⟨g,e.trans e2,hg⟩
 ·exact .inr ⟨g,e,Nat.le_trans hs hg⟩
theorem own_slice {w:World} {base:Nat} {e:TypeId} {size n:Nat} {A:Option Addr} {c:Nat} {xs:List Value} (h:w.ownsRow base e size (.slice A n c) n xs):n≤c∧c≤maxLen:=by
 obtain ⟨_,_,e,h1,h2⟩:=own_len h
 injection e with e1 e2 e3
 subst e3
 exact ⟨by omega,h2⟩
theorem infoArc:(Tryz.prog.info? 173).map (fun i=>(i.zero,i.size,i.bytes))=some (some (.agg #[.int .i32 0,.int .i64 0,.int .i64 0]),3,24):=by kernel_rfl
theorem infoSt:(Tryz.prog.info? 170).map (fun i=>(i.zero,i.size,i.bytes))=some (some (.agg #[.bool false,.int .i64 0,.slice none 0 0]),3,40):=by kernel_rfl
end Go.Proofs.YthockgmbooefpaaGreatDoor
