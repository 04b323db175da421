/- What the law rests on, part 25. No condition but those that each theorem names. -/
import Derived.Test.YthockgmbooefpaaGreatDoorL10
import Derived.BigQuiet
import Derived.Deep.QuietTactic
import Derived.Test.YthockgmbooefpaaGreatDoorL04
import Derived.Test.YthockgmbooefpaaGreatDoorL00
import Derived.Test.YthockgmbooefpaaGreatDoorL08
import Derived.Test.YthockgmbooefpaaGreatDoorL24
import Derived.Test.YthockgmbooefpaaGreatDoorL21
import Derived.RangeFuncNested
import Derived.RangeFuncBound
import Derived.RangeFuncCalls
import Derived.RangeFuncLeaves
import Derived.Shelf.Abstract
import Derived.Shelf.RegionOpen
import Derived.OwnWalkIn
import Derived.TacticsInMore
import Derived.LoopNIn
import Derived.LoopIn
import Derived.Laws.EntriesVeiled
import Derived.Deep.CutRange
import Derived.Deep.DeepCutAuto
import Derived.Deep.LoopGhost
import Derived.StillTailTactics
import Derived.Test.YthockgmbooefpaaGreatDoorL06
import Derived.BigRegion
import Derived.Test.YthockgmbooefpaaGreatDoorL23
import Derived.Test.YthockgmbooefpaaGreatDoorL01
import Derived.Test.YthockgmbooefpaaGreatDoorRows
import Derived.Lib.LaidTab
import Derived.SizedLaws
import Derived.Deep.SlicePairs
set_option linter.unusedSectionVars false
set_option linter.unusedSimpArgs false
set_option linter.unusedVariables false
namespace Go.Proofs.YthockgmbooefpaaGreatDoor
open Go.RowKit
structure WkM (w:World) (b:Nat) (base:Int) (A:Option Addr) (n c:Nat) (Z:List SV) (wA:Option Addr) (wc:Nat) (W:List Int):Prop where
 blk:Blk w b 167 #[.int .i64 base,.slice A n c,.slice wA n wc]
 sts:StsOk w A n Z
 wds:RdT w 3 1 wA n (W.map intV)
 len:W.length=n
theorem WkM.quiet {w w':World} {b:Nat} {base:Int} {A:Option Addr} {n c:Nat} {Z:List SV} {wA:Option Addr} {wc:Nat} {W:List Int} (h:WkM w b base A n c Z wA wc W) (T:Touch (fun _=>False) w w'):WkM w' b base A n c Z wA wc W :=
 ⟨h.blk.touch T (fun f=>f),h.sts.quiet T,h.wds.quiet T,h.len⟩
theorem NewI.wk {w wr:World} {b:Nat} {base:Int} {A:Option Addr} {n c:Nat} {Z:List SV} {wA:Option Addr} {wc:Nat} {W:List Int} (h:NewI w wr b base A n c Z wA n wc W) (hl:Z.length=n) (hW:W.length=n):WkM wr b base A n c Z wA wc W :=
 ⟨h.blk,⟨RdT.of_own h.own,hl,h.el⟩,RdT.of_own h.wds,hW⟩
def lenOf (n:Nat) (W:List Int):Int:=if n=0 then 0 else W.getD (n-1) 0
structure DWk (w:World) (b:Nat) (L:List PRow) (n:Nat) (A:Option Addr) (c:Nat) (Z:List SV) (wA:Option Addr) (wc:Nat):Prop where
 wk:WkM w b (mach L).base A n c Z wA wc (wdsF (mach L).states n)
 st:Z.map SV.p=(mach L).states
 few:n≤1000000
theorem DWk.quiet {w w':World} {b:Nat} {L:List PRow} {n:Nat} {A:Option Addr} {c:Nat} {Z:List SV} {wA:Option Addr} {wc:Nat} (h:DWk w b L n A c Z wA wc) (T:Touch (fun _=>False) w w'):DWk w' b L n A c Z wA wc:=⟨h.wk.quiet T,h.st,h.few⟩
theorem mach_ne {L:List PRow} (h:L≠[]):mach L=⟨leastR (restsL L),(stateF 25 ⟨[],[]⟩ (restsL L)).1.states⟩:=by unfold mach;rw [if_neg h]
section
variable {w:World} {b:Nat} {L:List PRow} {n:Nat} {A:Option Addr} {c:Nat} {Z:List SV} {wA:Option Addr} {wc:Nat}
theorem DWk.n_len (h:DWk w b L n A c Z wA wc):(mach L).states.length=n:=by rw [← h.st,List.length_map];exact h.wk.sts.len
theorem small_right {sts:List StP} {base:Int} (h:RgtP sts base) (hs:Z.map SV.p=sts):Small sts.length Z:=by
 have key:∀ z∈Z,∃ i,i<sts.length∧FormP i z.p:=by
  intro z hz
  rcases h with ⟨h,_⟩ | h
  ·rw [h] at hs
   have:Z=[]:=by simpa using hs
   rw [this] at hz
   cases hz
  ·obtain ⟨i,hi,rfl⟩:=List.mem_iff_getElem.1 hz
   have hl:i<sts.length:=by rw [← hs,List.length_map];exact hi
   refine ⟨i,hl,?_⟩
   have:=h.form i hl
   rw [← hs] at this
   simpa [List.getD,hi] using this
 refine ⟨fun z hz=>?_,fun z hz a ha=>?_,fun z hz=>?_⟩
 ·obtain ⟨i,hi,hf⟩:=key z hz
  exact hf.lab.imp fun h=>Nat.ne_of_lt h
 ·obtain ⟨i,hi,hf⟩:=key z hz
  have:=hf.arc a ha
  exact ⟨this.1,this.2.1,by omega⟩
 ·obtain ⟨i,hi,hf⟩:=key z hz
  exact ⟨hf.out0,hf.out1⟩
theorem base_mach (hD:DictP L):0≤(mach L).base∧(mach L).base≤1048576:=by
 rcases right_mach hD with ⟨_,h⟩ | h
 ·rw [h];omega
 ·have h1:=h.base1
  have h2:=h.base2
  omega
end
theorem dnew_any (w:World) (hL:Lst w) (L:List PRow) (hD:DictP L) (A:Option Addr) (n c:Nat) (Z:List SV) (hst:StsOk w A n Z) (hs:Z.map SV.p=(mach L).states) :
  Calls Tryz.prog 39 #[.agg #[.int .i64 (mach L).base,.slice A n c]] w fun e w'=>∃ b A' c' Z' wA wc,e=.returned (.tuple #[.pointer (some ⟨b,0,none⟩),.bool true])∧DWk w' b L n A' c' Z' wA wc∧NewI w w' b (mach L).base A' n c' Z' wA n wc (wdsF (mach L).states n):=by
 have hn:(mach L).states.length=n:=by rw [← hs,List.length_map];exact hst.len
 have hfew:n≤1000000:=by
  rcases right_mach hD with ⟨h,_⟩ | h
  ·rw [h] at hn;simp at hn;omega
  ·have:=h.few;omega
 have hc:=new_any w hL (mach L).base A n c Z hst (by rw [hs];exact right_mach hD) hfew
 refine hc.mono ?_
 rintro e w' ⟨b,A',c',Z',wA,wc,rfl,hI,hZ⟩
 rw [hs] at hI hZ
 have hl:Z'.length=n:=by rw [← List.length_map (f:=SV.p),hZ,hn]
 exact ⟨b,A',c',Z',wA,wc,rfl,⟨hI.wk hl (wdsF_len (by omega)),hZ,hfew⟩,hI⟩
theorem writeU_size (r:Nat):(writeU r).length≤4:=by
 unfold writeU
 repeat' split
 all_goals simp
theorem flat_size:∀ x:List Nat,(x.flatMap writeU).length≤4*x.length
 | []=>by simp
 | r :: x=>by
  have h1:=writeU_size r
  have h2:=flat_size x
  simp only [List.flatMap_cons,List.length_append,List.length_cons]
  omega
theorem dict_sizes {L:List PRow} (hD:DictP L):∀ r∈L,r.word.size≤1099511627776:=by
 intro r hr
 obtain ⟨h1,_,_,h4⟩:=hD.word r hr
 have h:=(runesU_write _ _ _ (Nat.le_refl _) h1).1
 have h2:=flat_size (wordR r)
 rw [← h,ByteArray.toList_eq] at h2
 have e:r.word.size=r.word.data.toList.length:=by rw [Array.length_toList];rfl
 omega
def tMut (t:TypeId):Bool:=t == 39 || t == 43 || t == 178 || t == 1
abbrev ptrV (b:Nat):Value:=.pointer (some ⟨b,0,none⟩)
structure FzX where
 w0:World
 bW:Nat
 bL:Nat
 bF:Nat
 bT:Nat
 bV:Nat
 wb:Nat
 lb:Nat
 lA:Option Addr
 ln:Nat
 lc:Nat
 X:List Nat
 o:Nat
 wK:World
def FzX.f (x:FzX):Value:=.func (.func 89) #[] #[ptrV x.bW,ptrV x.bL,ptrV x.bF,ptrV x.bT,ptrV x.bV]
structure FzC (x:FzX) (W:World):Prop where
 bw:Blk W x.bW 92 #[ptrV x.wb]
 bl:Blk W x.bL 175 #[ptrV x.lb]
 bv:Blk W x.bV 179 #[x.f]
 lev:LevM W x.lb x.lA x.ln x.lc x.X x.o
def FzT (S:Nat→Prop) (W:World):Prop:=∀ g t,TyAt W g t→tMut t=false→¬ S g
def Kp (a b:World):Prop:=∃ S,Touch S a b∧FzT S a
theorem Kp.refl (a:World):Kp a a:=⟨fun _=>False,Touch.refl _ _,fun _ _ _ _ f=>f⟩
theorem Kp.of {a b:World} {S:Nat→Prop} (T:Touch S a b) (h:FzT S a):Kp a b:=⟨S,T,h⟩
theorem Kp.quiet {a b:World} (T:Touch (fun _=>False) a b):Kp a b:=⟨_,T,fun _ _ _ _ f=>f⟩
theorem Kp.trans {a b c:World} (h:Kp a b) (k:Kp b c):Kp a c:=by
 obtain ⟨S,T,hS⟩:=h
 obtain ⟨S',T',hS'⟩:=k
 refine ⟨fun g=>S g∨S' g,(T.mono fun _ _ e=>.inl e).trans T' (fun _ _ e=>.inr e),?_⟩
 rintro g t hg ht (e | e)
 ·exact hS g t hg ht e
 ·exact hS' g t (hg.touch T (hS g t hg ht)) ht e
section
variable {x:FzX} {W W':World} {S:Nat→Prop}
theorem Blk.kp {g:Nat} {t:TypeId} {cs:Array Value} (h:Blk W g t cs) (k:Kp W W') (ht:tMut t=false):Blk W' g t cs:=by
 obtain ⟨S,T,hS⟩:=k
 exact h.touch T (hS _ _ (blk_ty h) ht)
theorem Blk.fz {g:Nat} {t:TypeId} {cs:Array Value} (h:Blk W g t cs) (T:Touch S W W') (hS:FzT S W) (ht:tMut t=false):Blk W' g t cs:=h.touch T (hS _ _ (blk_ty h) ht)
theorem RdT.fz {t:TypeId} {size:Nat} {A:Option Addr} {n:Nat} {xs:List Value} (h:RdT W t size A n xs) (T:Touch S W W') (hS:FzT S W) (ht:tMut t=false):RdT W' t size A n xs:=h.touch T (fun g hg=>hS _ _ hg ht)
theorem FzC.fz (h:FzC x W) (T:Touch S W W') (hS:FzT S W):FzC x W' :=
 ⟨h.bw.fz T hS (by decide),h.bl.fz T hS (by decide),h.bv.fz T hS (by decide),⟨h.lev.blk.fz T hS (by decide),h.lev.rd.fz T hS (by decide),h.lev.len,h.lev.few,h.lev.o1,h.lev.o2⟩⟩
end
structure KidR (x:FzX) (W:World) (v:Value) (t p:FzIt) (a:Nat × Int × Nat) (bA bH bS bR:Nat) (A:Option Addr) (q c:Nat):Prop where
 v:v=.func (.func 95) #[] #[ptrV x.bV,ptrV bA,ptrV bH,ptrV bS,ptrV x.bL,ptrV bR]
 ba:Blk W bA 173 #[.int .i32 (a.1:Int),.int .i64 a.2.1,.int .i64 (a.2.2:Int)]
 bh:Blk W bH 154 #[.slice A q c]
 rd:RdT W 21 1 A q (p.head.map runeV)
 len:p.head.length=q
 le:q≤c
 mx:c≤maxLen
 few:q≤24
 bs:Blk W bS 3 #[.int .i64 p.sum]
 br:Blk W bR 181 (rowV (cutR' x.o p.row))
 row:p.row.length=x.ln+1
 t:t=⟨a.2.2,p.head++[a.1],p.sum+a.2.1,stepD x.X p.row a.1⟩
def KidM (x:FzX) (W:World) (v:Value) (t:FzIt):Prop:=∃ p a bA bH bS bR A q c,KidR x W v t p a bA bH bS bR A q c
theorem KidM.fz {x:FzX} {W W':World} {S:Nat→Prop} {v:Value} {t:FzIt} (h:KidM x W v t) (T:Touch S W W') (hS:FzT S W):KidM x W' v t:=by
 obtain ⟨p,a,bA,bH,bS,bR,A,q,c,h⟩:=h
 exact ⟨p,a,bA,bH,bS,bR,A,q,c,⟨h.v,h.ba.fz T hS (by decide),h.bh.fz T hS (by decide),h.rd.fz T hS (by decide),h.len,h.le,h.mx,h.few,h.bs.fz T hS (by decide),h.br.fz T hS (by decide),h.row,h.t⟩⟩
structure FzR (x:FzX) (W:World) (F:List MRow) (I:List FzIt) (FA:Option Addr) (fc:Nat) (TA:Option Addr) (tc:Nat) (vs:List Value):Prop where
 st:FzC x W
 old:Touch (fun _=>False) x.w0 W
 f0:x.w0.heap.size≤x.bF
 t0:x.w0.heap.size≤x.bT
 fb:Blk W x.bF 39 #[.slice FA F.length fc]
 fo:W.ownsRow 0 43 3 (.slice FA F.length fc) F.length (mCells F)
 fy:∀ g,(Value.slice FA F.length fc).ownBlock=some g→x.w0.heap.size≤g
 tb:Blk W x.bT 178 #[.slice TA I.length tc]
 tw:W.ownsRow 0 1 1 (.slice TA I.length tc) I.length vs
 ty:∀ g,(Value.slice TA I.length tc).ownBlock=some g→x.w0.heap.size≤g
 kids:∀ (i:Nat) v t,vs[i]? = some v→I[i]? = some t→KidM x W v t
 kp:Kp x.wK W
def FzG (x:FzX) (W:World) (F:List MRow) (I:List FzIt):Prop:=∃ FA fc TA tc vs,FzR x W F I FA fc TA tc vs
section
variable {x:FzX} {W W':World} {S:Nat→Prop} {F:List MRow} {I:List FzIt} {FA:Option Addr} {fc:Nat} {TA:Option Addr} {tc:Nat} {vs:List Value}
theorem FzR.keep (h:FzR x W F I FA fc TA tc vs) (T:Touch S W W') (hS:∀ g t,TyAt W g t→¬ S g) (hB:∀ g,S g→x.w0.heap.size≤g):FzR x W' F I FA fc TA tc vs :=
 have hF:FzT S W:=fun g t hg _=>hS g t hg
 ⟨h.st.fz T hF,h.old.trans T (fun i hi s=>by have:=hB i s;omega),h.f0,h.t0,h.fb.touch T (hS _ _ (blk_ty h.fb)),own_touch h.fo T (fun g hg=>hS _ _ (own_ty h.fo hg)),h.fy,h.tb.touch T (hS _ _ (blk_ty h.tb)),own_touch h.tw T (fun g hg=>hS _ _ (own_ty h.tw hg)),h.ty,fun i v t h1 h2=>(h.kids i v t h1 h2).fz T hF,h.kp.trans (.of T hF)⟩
theorem FzR.quiet (h:FzR x W F I FA fc TA tc vs) (T:Touch (fun _=>False) W W'):FzR x W' F I FA fc TA tc vs:=h.keep T (fun _ _ _ f=>f) (fun _ f=>f.elim)
theorem FzG.quiet (h:FzG x W F I) (T:Touch (fun _=>False) W W'):FzG x W' F I:=by
 obtain ⟨FA,fc,TA,tc,vs,h⟩:=h
 exact ⟨FA,fc,TA,tc,vs,h.quiet T⟩
theorem FzG.grown {row:Option Nat} (h:FzG x W F I) (hg:W.grownBy W' row) (hr:∀ r,row=some r→x.w0.heap.size≤r∧∃ o:Obj,W.heap[r]? = some o∧o.isCells=false):FzG x W' F I:=by
 obtain ⟨FA,fc,TA,tc,vs,h⟩:=h
 refine ⟨FA,fc,TA,tc,vs,h.keep (S:=fun g=>row=some g) ⟨hg.os,hg.tape,hg.output,hg.size,fun k hk hs=>hg.block k hk (fun e=>hs e.symm)⟩ ?_ (fun g e=>(hr g e).1)⟩
 rintro g t ⟨cs,_,hc⟩ e
 obtain ⟨_,o,ho,hn⟩:=hr g e
 rw [hc] at ho
 injection ho with ho
 subst ho
 cases hn
end
theorem KidM.re {x:FzX} {W:World} {v:Value} {t:FzIt} (w:World):KidM { x with wK:=w } W v t↔KidM x W v t:=by
 constructor
 ·rintro ⟨p,a,bA,bH,bS,bR,A,q,c,h⟩
  exact ⟨p,a,bA,bH,bS,bR,A,q,c,⟨h.v,h.ba,h.bh,h.rd,h.len,h.le,h.mx,h.few,h.bs,h.br,h.row,h.t⟩⟩
 ·rintro ⟨p,a,bA,bH,bS,bR,A,q,c,h⟩
  exact ⟨p,a,bA,bH,bS,bR,A,q,c,⟨h.v,h.ba,h.bh,h.rd,h.len,h.le,h.mx,h.few,h.bs,h.br,h.row,h.t⟩⟩
theorem FzG.re {x:FzX} {W:World} {F:List MRow} {I:List FzIt} (h:FzG x W F I):FzG { x with wK:=W } W F I∧Kp x.wK W:=by
 obtain ⟨FA,fc,TA,tc,vs,h⟩:=h
 exact ⟨⟨FA,fc,TA,tc,vs,⟨⟨h.st.bw,h.st.bl,h.st.bv,h.st.lev⟩,h.old,h.f0,h.t0,h.fb,h.fo,h.fy,h.tb,h.tw,h.ty,fun i v t h1 h2=>(KidM.re W).2 (h.kids i v t h1 h2),Kp.refl _⟩⟩,h.kp⟩
theorem Blk.nc {W W':World} {row:Option Nat} {g:Nat} {t:TypeId} {cs:Array Value} (h:Blk W g t cs) (hg:W.grownBy W' row) (hr:∀ r,row=some r→∃ o:Obj,W.heap[r]? = some o∧o.isCells=false):Blk W' g t cs:=by
 refine h.grown hg fun e=>?_
 obtain ⟨o,ho,hn⟩:=hr g e.symm
 unfold Blk at h
 rw [h] at ho
 injection ho with ho
 subst ho
 cases hn
theorem FzG.size {x:FzX} {W:World} {F:List MRow} {I:List FzIt} (h:FzG x W F I):x.w0.heap.size≤W.heap.size:=by
 obtain ⟨_,_,_,_,_,h⟩:=h
 exact h.old.size
structure VisB (t:FzIt) (o:Nat) (z:SV) (bH bS bR bX:Nat) (A:Option Addr) (c:Nat) (A2:Option Addr) (c2:Nat) (W:World):Prop where
 bh:Blk W bH 154 #[.slice A t.head.length c]
 bs:Blk W bS 3 #[.int .i64 t.sum]
 br:Blk W bR 181 (rowV (cutR' o t.row))
 bx:Blk W bX 170 #[.bool z.fin,.int .i64 z.out,.slice A2 z.n c2]
 ra:RdT W 173 3 A2 z.n (aCells z.arcs)
 rh:RdT W 21 1 A t.head.length (t.head.map runeV)
theorem VisB.fz {t:FzIt} {o:Nat} {z:SV} {bH bS bR bX:Nat} {A:Option Addr} {c:Nat} {A2:Option Addr} {c2:Nat} {W W':World} {S:Nat→Prop} (h:VisB t o z bH bS bR bX A c A2 c2 W) (T:Touch S W W') (hS:FzT S W):VisB t o z bH bS bR bX A c A2 c2 W' :=
 ⟨h.bh.fz T hS (by decide),h.bs.fz T hS (by decide),h.br.fz T hS (by decide),h.bx.fz T hS (by decide),h.ra.fz T hS (by decide),h.rh.fz T hS (by decide)⟩
theorem VisB.quiet {t:FzIt} {o:Nat} {z:SV} {bH bS bR bX:Nat} {A:Option Addr} {c:Nat} {A2:Option Addr} {c2:Nat} {W W':World} (h:VisB t o z bH bS bR bX A c A2 c2 W) (T:Touch (fun _=>False) W W'):VisB t o z bH bS bR bX A c A2 c2 W':=h.fz T (fun _ _ _ _ f=>f)
theorem VisB.grown {t:FzIt} {o:Nat} {z:SV} {bH bS bR bX:Nat} {A:Option Addr} {c:Nat} {A2:Option Addr} {c2:Nat} {W W':World} {row:Option Nat} (h:VisB t o z bH bS bR bX A c A2 c2 W) (hg:W.grownBy W' row) (hr:∀ r,row=some r→∃ o:Obj,W.heap[r]? = some o∧o.isCells=false):VisB t o z bH bS bR bX A c A2 c2 W':=by
 refine h.fz (S:=fun g=>row=some g) ⟨hg.os,hg.tape,hg.output,hg.size,fun k hk hs=>hg.block k hk (fun e=>hs e.symm)⟩ ?_
 rintro g t ⟨cs,_,hc⟩ _ e
 obtain ⟨o,ho,hn⟩:=hr g e
 rw [hc] at ho
 injection ho with ho
 subst ho
 cases hn
end Go.Proofs.YthockgmbooefpaaGreatDoor
namespace Go.Proofs.YthockgmbooefpaaGreatDoor
open Go.RowKit Go.Shelf
attribute [local go_sem] Oper.semAt_some
theorem run_app {P:Program} (w:World) (t ty:TypeId) (e:TypeId) (i:TypeInfo) (z:Value) (size bytes:Nat) (h1:P.underlying t=some (.slice e)) (h2:P.info? e=some i) (h3:i.zero=some z) (h4:i.size=size) (h5:i.bytes=bytes) (h6:z.cells.size=size) (h7:0<size)
  (v:Value) (n:Nat) (xs:List Value) (hown:w.ownsRow 0 e size v n xs)
  (ao:Option Addr) (m c:Nat) (news:List Value) (hr:Reads w size ao m news) (hn:ao=none→m=0∧c=0) (h1c:∀ u∈news,u.oneCell'=true)
  (b1:n+m≤maxLen) (b2:(n+m)*bytes≤140737488355328) :
  ∃ v' w',(Builtin.append_ #[t,t] ty #[v,.slice ao m c]).run P w=.ok v' w'∧w'.ownsRow 0 e size v' (n+m) (xs++news)∧w.grownBy w' v.ownBlock∧Fresh w v v'∧(v'=.slice none 0 0↔v=.slice none 0 0∧m=0):=by
 cases ao with
 | none =>
  obtain ⟨rfl,rfl⟩:=hn rfl
  have hnews:news=[]:=List.eq_nil_of_length_eq_zero (by simpa using hr.1)
  subst hnews
  exact ⟨v,w,run_append_owned_none (P:=P) w 0 t ty e i size h1 h2 v n xs hown,by simpa using hown,World.grownBy.refl _ _,.inl rfl,by simp⟩
 | some ad =>
  have hc:∀ j u,news[j]? = some u→w.cell? (ad.add j)=some u:=fun j u hu=>by
   have hm:0<m:=by
    rcases Nat.eq_zero_or_pos m with rfl | hm
    ·have hl:news=[]:=List.eq_nil_of_length_eq_zero (by simpa using hr.1)
     rw [hl] at hu
     cases hu
    ·exact hm
   obtain ⟨b,off,hA,_,hcell⟩:=hr.2 hm
   injection hA with hA
   subst hA
   rw [Addr.add_lit]
   exact hcell j u hu
  rcases hown.2 with ⟨rfl,rfl⟩ | ⟨g,cap,cur,rfl,_,hgg,hnc,hcm,hcs,ht⟩
  ·have hx:xs=[]:=List.eq_nil_of_length_eq_zero (by simpa using hown.1)
   subst hx
   obtain ⟨v',w',r1,r2,r3,r4⟩:=run_append_own (P:=P) w w.heap.size t ty e i z size bytes h1 h2 h3 h4 h5 h6 h7 (.slice none 0 0) 0 [] (World.ownsRow_nil w _ e size) ad m c news hr.1 hc h1c b1 b2 (Nat.le_refl _)
   refine ⟨v',w',r1,⟨r2.1,?_⟩,r3,?_,r4⟩
   ·rcases r2.2 with h | ⟨g,cap,cur,h,_,hh⟩
    ·exact .inl h
    ·exact .inr ⟨g,cap,cur,h,Nat.zero_le _,hh⟩
   ·rcases r2.2 with ⟨h,_⟩ | ⟨g,cap,cur,h,hge,hh⟩
    ·exact .inl (by rw [h])
    ·exact .inr ⟨g,by rw [h];rfl,hge⟩
  ·by_cases hroom:n+m≤cap
   ·obtain ⟨w',r1,r2,r3⟩:=run_append_fits (P:=P) w 0 t ty e i size h1 h2 h4 g n cap xs hown ad m c news hr.1 hc h1c hroom
    exact ⟨_,w',r1,r2,r3,.inl rfl,by simp⟩
   ·have holds:∀ j u,xs[j]? = some u→w.cell? ((⟨g,0,none⟩:Addr).add j)=some u:=hown.cells (g:=g) rfl
    obtain ⟨v',w',r1,r2,r3⟩:=run_append_arg_grows (P:=P) w t ty e i z size bytes h1 h2 h3 h4 h5 h6 h7 ⟨g,0,none⟩ n cap xs hown.1 holds ad m c news hr.1 hc (by omega) b1 b2
    refine ⟨v',w',r1,⟨r2.1,?_⟩,⟨r3.os,r3.tape,r3.output,r3.size,fun k hk _=>r3.block k hk (by simp)⟩,?_,?_⟩
    ·rcases r2.2 with h | ⟨g,cap,cur,h,_,hh⟩
     ·exact .inl h
     ·exact .inr ⟨g,cap,cur,h,Nat.zero_le _,hh⟩
    ·rcases r2.2 with ⟨h,hz⟩ | ⟨g,cap,cur,h,hge,hh⟩
     ·omega
     ·exact .inr ⟨g,by rw [h];rfl,hge⟩
    ·rcases r2.2 with ⟨h,hz⟩ | ⟨g,cap,cur,h,hge,hh⟩
     ·omega
     ·rw [h];simp
theorem wpListIn_app {F:Fence} {nF:Nat} {P:Program} (w:World) {ops:Array Oper} {rest:List Oper} {o:Oper} {a:Act} {Q:Exit→Act→World→Prop}
  (hg:o.guard=none) (s x:Operand) (t:TypeId) (hop:o.op=Op.call { callee:=Callee.builtin Builtin.append,args:=#[s,x],argTypes:=#[t,t] })
  (e:TypeId) (i:TypeInfo) (z:Value) (size bytes:Nat) (h1:P.underlying t=some (.slice e)) (h2:P.info? e=some i) (h3:i.zero=some z) (h4:i.size=size) (h5:i.bytes=bytes) (h6:z.cells.size=size) (h7:0<size)
  (v:Value) (n:Nat) (xs:List Value) (hs:a.eval s=v) (hown:w.ownsRow 0 e size v n xs)
  (ao:Option Addr) (m c:Nat) (news:List Value) (hx:a.eval x=.slice ao m c) (hr:Reads w size ao m news) (hn:ao=none→m=0∧c=0) (h1c:∀ u∈news,u.oneCell'=true)
  (b1:n+m≤maxLen) (b2:(n+m)*bytes≤140737488355328)
  (hK:∀ v' w',w'.ownsRow 0 e size v' (n+m) (xs++news)→w.grownBy w' v.ownBlock→Fresh w v v'→(v'=.slice none 0 0↔v=.slice none 0 0∧m=0)→wpListIn F nF P ops Q rest (a.put o.dst v') w') :
  wpListIn F nF P ops Q (o :: rest) a w:=by
 refine wpListIn_plain hg fun K hK'=>?_
 obtain ⟨v',w',hrun,r2,r3,r4,r5⟩:=run_app (P:=P) w t o.type e i z size bytes h1 h2 h3 h4 h5 h6 h7 v n xs hown ao m c news hr hn h1c b1 b2
 unfold Oper.wpIn
 refine ⟨?_,?_⟩
 ·simp [Oper.about,hop,resolve,Target.leads,Sem.run_pure]
 ·rw [Oper.semAt_plain F _ _ (by rw [hop];intro c hc';cases hc')]
  simp [execOp,hop,resolve,invoke,builtin,hs,hx,hrun,Result.andThen]
  exact hK' _ _ (hK v' w' r2 r3 r4 r5)
end Go.Proofs.YthockgmbooefpaaGreatDoor
namespace Go.Proofs.YthockgmbooefpaaGreatDoor
open Go.RowKit Go.Shelf
attribute [local go_sem] Oper.semAt_some
end Go.Proofs.YthockgmbooefpaaGreatDoor
namespace Go.Proofs.YthockgmbooefpaaGreatDoor
open Go.RowKit
instance zeroBase:Inhabited BaseT:=⟨⟨0⟩⟩
section
variable {L:List PRow}
theorem mach_form (hD:DictP L):∀ i,i<(mach L).states.length→FormP i ((mach L).states.getD i noSt):=by
 rcases right_mach hD with ⟨h,_⟩ | h
 ·intro i hi
  rw [h] at hi
  simp at hi
 ·exact h.form
structure FzGd (L:List PRow) (m:Nat) (t:FzIt):Prop where
 i:t.i<(mach L).states.length
 row:t.row.length=m+1
 s0:0≤t.sum
 mem:∀ r∈rst (mach L).states t.i,(t.head++r.1,t.sum+r.2)∈restsL L
theorem FzGd.ok {m:Nat} {X:List Nat} (hX:X.length=m) {t:FzIt} (h:FzGd L m t):t.Ok (mach L).states X:=⟨h.i,by rw [hX];exact h.row⟩
theorem FzGd.kids (hD:DictP L) {m:Nat} {X:List Nat} (hX:X.length=m) {o:Nat} {t:FzIt} (h:FzGd L m t):∀ k∈fzKids (mach L).states X o t,FzGd L m k:=by
 have hf:=mach_form hD
 have hd:=form_down hf
 intro k hk
 unfold fzKids at hk
 split at hk
 ·cases hk
 ·obtain ⟨a,ha,rfl⟩:=List.mem_map.1 hk
  have hi:=hd t.i h.i a ha
  have h0:=((hf t.i h.i).arc a ha).1
  refine ⟨Nat.lt_trans hi h.i,by rw [stepD_len _ (by rw [hX];exact h.row),hX],by have:=h.s0;simp only;omega,fun r hr=>?_⟩
  have h1:=h.mem (a.1 :: r.1,r.2+a.2.1) ((mem_rst_cons hd h.i).2 ⟨a,ha,rfl,by simpa using hr⟩)
  simp only at h1 ⊢
  rw [List.append_assoc,List.singleton_append]
  have e:t.sum+a.2.1+r.2=t.sum+(r.2+a.2.1):=by omega
  rw [e]
  exact h1
structure FzJ (L:List PRow) (X:List Nat) (m o:Nat) (tot hs:List FzHit) (I:List FzIt):Prop where
 all:hs++I.reverse.flatMap (fzI (mach L).states X o)=tot
 gd:∀ t∈I,FzGd L m t
theorem FzJ.step (hD:DictP L) {X:List Nat} {m o:Nat} (hX:X.length=m) {tot hs:List FzHit} {I:List FzIt} {t:FzIt} (h:FzJ L X m o tot hs (I++[t])) :
  FzJ L X m o tot (hs++fzHit (mach L).states o t) (I++(fzKids (mach L).states X o t).reverse)∧FzGd L m t∧nzL (mach L).states (I++(fzKids (mach L).states X o t).reverse)<nzL (mach L).states (I++[t]):=by
 have hd:=form_down (mach_form hD)
 have ht:=h.gd t (by simp)
 have hok:=ht.ok hX
 refine ⟨⟨?_,?_⟩,ht,?_⟩
 ·rw [← h.all]
  simp only [List.reverse_append,List.reverse_reverse,List.flatMap_append,List.reverse_cons,List.reverse_nil,List.nil_append,List.flatMap_cons,List.flatMap_nil,List.append_nil]
  rw [fzI_eq hd hok]
  simp only [List.append_assoc]
 ·intro k hk
  rcases List.mem_append.1 hk with hk | hk
  ·exact h.gd k (List.mem_append_left _ hk)
  ·exact ht.kids hD hX k (List.mem_reverse.1 hk)
 ·rw [nzL_app,nzL_app,nzL_reverse]
  have:=nz_kids hd (o:=o) hok
  have e:nzL (mach L).states [t]=nz (mach L).states t.i:=by simp [nzL]
  rw [e]
  omega
end
end Go.Proofs.YthockgmbooefpaaGreatDoor
namespace Go.Proofs.YthockgmbooefpaaGreatDoor
open Go.RowKit Go.Shelf
theorem RdT.kp {W W':World} {t:TypeId} {size:Nat} {A:Option Addr} {n:Nat} {xs:List Value} (h:RdT W t size A n xs) (k:Kp W W') (ht:tMut t=false):RdT W' t size A n xs:=by
 obtain ⟨S,T,hS⟩:=k
 exact h.fz T hS ht
theorem KidR.kp {x:FzX} {W W':World} {v:Value} {t p:FzIt} {a:Nat × Int × Nat} {bA bH bS bR:Nat} {A:Option Addr} {q c:Nat} (h:KidR x W v t p a bA bH bS bR A q c) (k:Kp W W'):KidR x W' v t p a bA bH bS bR A q c :=
 ⟨h.v,h.ba.kp k (by decide),h.bh.kp k (by decide),h.rd.kp k (by decide),h.len,h.le,h.mx,h.few,h.bs.kp k (by decide),h.br.kp k (by decide),h.row,h.t⟩
end Go.Proofs.YthockgmbooefpaaGreatDoor
namespace Go.Proofs.YthockgmbooefpaaGreatDoor
open Go.RowKit
def tabRow (X Y:List Nat) (i:Nat):List Nat:=(X.take i).foldl (tabD Y) (List.range (Y.length+1))
def tabAt (X Y:List Nat) (i j:Nat):Nat:=(tabRow X Y i).getD j 0
def TabE (X Y:List Nat) (m i j:Nat) (V:List Nat):Prop:=∀ i' j',j'≤m→(i'<i∨(i'=i∧j'<j))→V.getD (i'*(m+1)+j') 0=tabAt X Y i' j'
theorem cell_ne {m i j i' j':Nat} (hj:j≤m) (hj':j'≤m) (h:i'<i∨(i'=i∧j'<j)):i'*(m+1)+j'<i*(m+1)+j:=by
 rcases h with h | ⟨h,h2⟩
 ·have:=Nat.mul_le_mul_right (m+1) (show i'+1≤i from h)
  rw [Nat.add_mul,Nat.one_mul] at this
  omega
 ·subst h
  omega
theorem TabE.set {X Y:List Nat} {m i j:Nat} {V:List Nat} (h:TabE X Y m i j V) (hj:j≤m) (hl:i*(m+1)+j<V.length) {x:Nat} (hx:x=tabAt X Y i j):TabE X Y m i (j+1) (V.set (i*(m+1)+j) x):=by
 intro i' j' hj' hor
 by_cases he:i'=i∧j'=j
 ·obtain ⟨rfl,rfl⟩:=he
  simp [List.getD,hl,hx]
 ·have h2:i'<i∨(i'=i∧j'<j):=by omega
  have h3:=cell_ne hj hj' h2
  have h4:(V.set (i*(m+1)+j) x).getD (i'*(m+1)+j') 0=V.getD (i'*(m+1)+j') 0:=by
   simp only [List.getD]
   rw [List.getElem?_set_ne (by omega)]
  rw [h4]
  exact h i' j' hj' h2
end Go.Proofs.YthockgmbooefpaaGreatDoor
namespace Go.Proofs.YthockgmbooefpaaGreatDoor
open Go.RowKit
structure MNx (w0 w:World) (v:Value) (q:Nat) (N:List MRow):Prop where
 own:w.ownsRow 0 43 3 v q (mCells N)
 len:N.length=q
 touch:Touch (fun _=>False) w0 w
 fresh:∀ g,v.ownBlock=some g→w0.heap.size≤g
theorem mrows_app (X Y:List MRow):mCells (X++Y)=mCells X++mCells Y:=by simp [mCells]
theorem MNx.nil (w:World):MNx w w (.slice none 0 0) 0 []:=⟨World.ownsRow_nil _ _ _ _,rfl,Touch.refl _ _,fun g e=>by simp [Value.ownBlock] at e⟩
theorem MNx.to {w0 w w2:World} {v:Value} {q:Nat} {N:List MRow} (h:MNx w0 w v q N) (t:Touch (fun _=>False) w w2):MNx w0 w2 v q N :=
 ⟨own_touch h.own t (fun _ _ f=>f),h.len,h.touch.then t,h.fresh⟩
theorem MNx.from {w0 w1 w:World} {v:Value} {q:Nat} {N:List MRow} (h:MNx w1 w v q N) (t:Touch (fun _=>False) w0 w1):MNx w0 w v q N :=
 ⟨h.own,h.len,t.then h.touch,fun g hg=>by have h1:=h.fresh g hg;have h2:=t.size;omega⟩
theorem MNx.app {w0 w1 w3:World} {v v':Value} {q:Nat} {N:List MRow} {m:MRow} (h:MNx w0 w1 v q N) (ho:w3.ownsRow 0 43 3 v' (q+1) (mCells N++m.cells)) (hg:w1.grownBy w3 v.ownBlock) (hf:Fresh w1 v v'):MNx w0 w3 v' (q+1) (N++[m]):=by
 refine ⟨by rw [mrows_app];simpa [mCells] using ho,by simp [h.len],h.touch.app hg (fun g hg hlt=>by have:=h.fresh g hg;omega),?_⟩
 intro g hg
 rcases hf with e | ⟨g',e,hg'⟩
 ·rw [e] at hg;exact h.fresh g hg
 ·rw [hg] at e
  injection e with e
  have:=h.touch.size
  omega
def MRow.Wf (p:MRow):Prop:=p.word.size≤9223372036854775807
theorem lst_of_laid {W:World} {laid:List (String × DataW Unit)} (he:laid=[("abecedary/letters.least",Rows.laid_abecedary_letters_least)]) (h:laidMetH Tryz.prog laid W):Lst W:=by
 subst he
 have hL:laidMet Tryz.prog (("abecedary/letters.least",Lib.tabData .i32 [0,0,128,2048,65536]) :: []) W:=h
 have h:=Lib.tabIs_of_head (g:=0) (t := 278) (e := 21) (n:=5) (by kernel_rfl) (by kernel_rfl) Tryz.underlying278 Tryz.underlying21 (by kernel_rfl) (by kernel_rfl) hL
 unfold Lib.TabIs World.var? at h
 rw [show Tryz.prog.globalNamed "abecedary/letters.least" = some 0 by kernel_rfl] at h
 simp only [Option.bind_some] at h
 have hg:∃ cs t fr,W.heap[0]? = some (.cells cs t fr)∧cs=(([0,0,128,2048,65536]:List Int).map fun z=>Value.int .i32 z).toArray:=by
  cases hh:W.heap[0]? with
  | none=>rw [hh] at h;cases h
  | some o =>
   rw [hh] at h
   cases o with
   | cells cs t fr=>exact ⟨cs,t,fr,rfl,Option.some.inj h⟩
   | _=>cases h
 obtain ⟨cs,t,fr,hg,rfl⟩:=hg
 refine ⟨(Array.getElem?_eq_some_iff.1 hg).1,?_,?_,?_⟩
 ·unfold World.cell?;rw [hg];rfl
 ·unfold World.cell?;rw [hg];rfl
 ·unfold World.cell?;rw [hg];rfl
end Go.Proofs.YthockgmbooefpaaGreatDoor
namespace Go.Proofs.YthockgmbooefpaaGreatDoor
open Go.RowKit Go.ChangeShapes Go.WideShapes Go.ChangeAt
section
variable {H:Type} {enc:TypeId × Value→H} {w:World} {base:Nat} {spare:Nat→Bool} {held:Bool}
theorem bulk_pos (d:DataW H):1≤Rows.uptoBulk d:=by
 cases d with
 | lit l=>cases l<;>simp [Rows.uptoBulk]
 | _=>simp [Rows.uptoBulk]
theorem bulk_len (l:List (DataW H)):l.length≤Rows.uptoBulkAll l:=by
 induction l with
 | nil=>simp [Rows.uptoBulkAll]
 | cons x r ih=>have:=bulk_pos x;simp only [Rows.uptoBulkAll,List.length_cons];omega
end
noncomputable def laidWorld (os:Os):World :=
 { World.holding Tryz.prog os ⟨#[],#[],[]⟩ with heap:=(World.holding Tryz.prog os ⟨#[],#[],[]⟩).heap.modify 0 fun
   | .cells _ t frozen=>.cells #[.int .i32 0,.int .i32 0,.int .i32 128,.int .i32 2048,.int .i32 65536] t frozen
   | o=>o }
section
variable {H:Type} {enc:TypeId × Value→H} {w:World} {base:Nat} {spare:Nat→Bool} {held:Bool}
end
theorem bulk_mem {H:Type} {x:DataW H}:∀ {l:List (DataW H)},x∈l→Rows.uptoBulk x≤Rows.uptoBulkAll l
 | y :: l,h=>by
  simp only [Rows.uptoBulkAll]
  rcases List.mem_cons.1 h with rfl | h
  ·omega
  ·have:=bulk_mem h
   omega
end Go.Proofs.YthockgmbooefpaaGreatDoor
namespace Go.Proofs.YthockgmbooefpaaGreatDoor
open Go.RowKit
theorem dict_strict {L:List PRow} (hD:DictP L):L.Pairwise (fun a b=>plt a b=true):=by
 have h:=hD.sort
 unfold SortR restsL at h
 rw [List.pairwise_map] at h
 refine List.Pairwise.imp_of_mem ?_ h
 intro a b ha hb hab
 obtain ⟨a1,a2⟩:=runesU_write _ _ _ (Nat.le_refl _) (hD.word a ha).1
 obtain ⟨b1,b2⟩:=runesU_write _ _ _ (Nat.le_refl _) (hD.word b hb).1
 unfold plt
 rw [a1,b1,less_runes _ _ (fun r hr=>scal_lt (a2 r hr)) (fun r hr=>scal_lt (b2 r hr))]
 exact hab
end Go.Proofs.YthockgmbooefpaaGreatDoor
namespace Go.Proofs.YthockgmbooefpaaGreatDoor
open Go.RowKit
theorem key_filter (x:List UInt8) (L:List PRow) (p:PRow→Bool):key x (L.filter p)=(key x L).filter p:=by
 unfold key
 rw [List.filter_filter,List.filter_filter]
 congr 1
 funext r
 rw [Bool.and_comm]
theorem key_one {L:List PRow} (h:L.Pairwise (fun a b=>plt a b=true)) (x:List UInt8):key x L=(key x L).getLast?.toList:=by
 have hs:(key x L).Pairwise (fun a b=>plt a b=true):=h.sublist List.filter_sublist
 have hm:∀ p∈key x L,p.word.toList=x:=fun p hp=>of_decide_eq_true (List.mem_filter.1 hp).2
 cases hk:key x L with
 | nil=>rfl
 | cons p l =>
  cases l with
  | nil=>rfl
  | cons q l =>
   rw [hk] at hs hm
   have h1:=(List.pairwise_cons.1 hs).1 q (by simp)
   exact absurd ((hm p (by simp)).trans (hm q (by simp)).symm) (plt_ne h1)
theorem mem_key {x:List UInt8} {L:List PRow} {p:PRow} (h:p∈key x L):p∈L:=(List.mem_filter.1 h).1
theorem wordU_dict {L:List PRow} (hD:DictP L) {p:PRow} (hp:p∈L):wordU p.word.toList=true:=by
 obtain ⟨h1,h2,h3,h4⟩:=hD.word p hp
 have h:=(runesU_write _ _ _ (Nat.le_refl _) h1).1
 have h5:=flat_size (wordR p)
 rw [← h] at h5
 unfold wordU
 rw [h1]
 simp only [Bool.and_eq_true,decide_eq_true_eq]
 exact ⟨by omega,h2,h3,h4⟩
end Go.Proofs.YthockgmbooefpaaGreatDoor
namespace Go.Proofs.YthockgmbooefpaaGreatDoor
open Go.RowKit
theorem PNx.ok {w0 w:World} {A:Option Addr} {q c:Nat} {N:List PRow} (h:PNx w0 w (.slice A q c) q N):SL.Ok ⟨A,q,c,N⟩ w:=by
 refine ⟨h.len,Reads.of_own h.own,fun hA=>?_⟩
 simp only at hA ⊢
 rcases h.own.2 with ⟨e,_⟩ | ⟨g',cap,cur,e,_,_⟩
 ·cases e;exact ⟨rfl,rfl⟩
 ·rw [hA] at e;cases e
end Go.Proofs.YthockgmbooefpaaGreatDoor
