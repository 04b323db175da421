/- What the law rests on, part 18. No condition but those that each theorem names. -/
import Derived.Test.YthockgmbooefpaaGreatDoorT09
import Derived.Test.YthockgmbooefpaaGreatDoorT17
import Derived.Test.YthockgmbooefpaaGreatDoorT01
import Derived.RangeFuncNested
import Derived.RangeFuncBound
import Derived.RangeFuncCalls
import Derived.RangeFuncLeaves
import Derived.Shelf.Abstract
import Derived.Shelf.RegionOpen
import Derived.OwnWalkIn
import Derived.TacticsInMore
import Derived.LoopNIn
import Derived.LoopIn
set_option linter.unusedSectionVars false
set_option linter.unusedSimpArgs false
set_option linter.unusedVariables false
set_option maxRecDepth 100000
set_option maxHeartbeats 2000000
namespace Go.Proofs.YthockgmbooefpaaGreatDoor
open Go.RowKit
def tMut (t:TypeId):Bool:=t == 39 || t == 43 || t == 178 || t == 1
abbrev ptrV (b:Nat):Value:=.pointer (some ⟨b,0,none⟩)
structure FzX where
 w0:World
 bW:Nat
 bL:Nat
 bF:Nat
 bT:Nat
 bV:Nat
 wb:Nat
 lb:Nat
 lA:Option Addr
 ln:Nat
 lc:Nat
 X:List Nat
 o:Nat
 wK:World
def FzX.f (x:FzX):Value:=.func (.func 89) #[] #[ptrV x.bW,ptrV x.bL,ptrV x.bF,ptrV x.bT,ptrV x.bV]
structure FzC (x:FzX) (W:World):Prop where
 bw:Blk W x.bW 92 #[ptrV x.wb]
 bl:Blk W x.bL 175 #[ptrV x.lb]
 bv:Blk W x.bV 179 #[x.f]
 lev:LevM W x.lb x.lA x.ln x.lc x.X x.o
def FzT (S:Nat→Prop) (W:World):Prop:=∀ g t,TyAt W g t→tMut t=false→¬ S g
def Kp (a b:World):Prop:=∃ S,Touch S a b∧FzT S a
theorem Kp.refl (a:World):Kp a a:=⟨fun _=>False,Touch.refl _ _,fun _ _ _ _ f=>f⟩
theorem Kp.of {a b:World} {S:Nat→Prop} (T:Touch S a b) (h:FzT S a):Kp a b:=⟨S,T,h⟩
theorem Kp.quiet {a b:World} (T:Touch (fun _=>False) a b):Kp a b:=⟨_,T,fun _ _ _ _ f=>f⟩
theorem Kp.trans {a b c:World} (h:Kp a b) (k:Kp b c):Kp a c:=by
 obtain ⟨S,T,hS⟩:=h
 obtain ⟨S',T',hS'⟩:=k
 refine ⟨fun g=>S g∨S' g,(T.mono fun _ _ e=>.inl e).trans T' (fun _ _ e=>.inr e),?_⟩
 rintro g t hg ht (e | e)
 ·exact hS g t hg ht e
 ·exact hS' g t (hg.touch T (hS g t hg ht)) ht e
section
variable {x:FzX} {W W':World} {S:Nat→Prop}
theorem Blk.kp {g:Nat} {t:TypeId} {cs:Array Value} (h:Blk W g t cs) (k:Kp W W') (ht:tMut t=false):Blk W' g t cs:=by
 obtain ⟨S,T,hS⟩:=k
 exact h.touch T (hS _ _ (blk_ty h) ht)
theorem Blk.fz {g:Nat} {t:TypeId} {cs:Array Value} (h:Blk W g t cs) (T:Touch S W W') (hS:FzT S W) (ht:tMut t=false):Blk W' g t cs:=h.touch T (hS _ _ (blk_ty h) ht)
theorem RdT.fz {t:TypeId} {size:Nat} {A:Option Addr} {n:Nat} {xs:List Value} (h:RdT W t size A n xs) (T:Touch S W W') (hS:FzT S W) (ht:tMut t=false):RdT W' t size A n xs:=h.touch T (fun g hg=>hS _ _ hg ht)
theorem FzC.fz (h:FzC x W) (T:Touch S W W') (hS:FzT S W):FzC x W' :=
 ⟨h.bw.fz T hS (by decide),h.bl.fz T hS (by decide),h.bv.fz T hS (by decide),⟨h.lev.blk.fz T hS (by decide),h.lev.rd.fz T hS (by decide),h.lev.len,h.lev.few,h.lev.o1,h.lev.o2⟩⟩
end
structure KidR (x:FzX) (W:World) (v:Value) (t p:FzIt) (a:Nat × Int × Nat) (bA bH bS bR:Nat) (A:Option Addr) (q c:Nat):Prop where
 v:v=.func (.func 95) #[] #[ptrV x.bV,ptrV bA,ptrV bH,ptrV bS,ptrV x.bL,ptrV bR]
 ba:Blk W bA 173 #[.int .i32 (a.1:Int),.int .i64 a.2.1,.int .i64 (a.2.2:Int)]
 bh:Blk W bH 154 #[.slice A q c]
 rd:RdT W 21 1 A q (p.head.map runeV)
 len:p.head.length=q
 le:q≤c
 mx:c≤maxLen
 few:q≤24
 bs:Blk W bS 3 #[.int .i64 p.sum]
 br:Blk W bR 181 (rowV (cutR' x.o p.row))
 row:p.row.length=x.ln+1
 t:t=⟨a.2.2,p.head++[a.1],p.sum+a.2.1,stepD x.X p.row a.1⟩
def KidM (x:FzX) (W:World) (v:Value) (t:FzIt):Prop:=∃ p a bA bH bS bR A q c,KidR x W v t p a bA bH bS bR A q c
theorem KidM.fz {x:FzX} {W W':World} {S:Nat→Prop} {v:Value} {t:FzIt} (h:KidM x W v t) (T:Touch S W W') (hS:FzT S W):KidM x W' v t:=by
 obtain ⟨p,a,bA,bH,bS,bR,A,q,c,h⟩:=h
 exact ⟨p,a,bA,bH,bS,bR,A,q,c,⟨h.v,h.ba.fz T hS (by decide),h.bh.fz T hS (by decide),h.rd.fz T hS (by decide),h.len,h.le,h.mx,h.few,h.bs.fz T hS (by decide),h.br.fz T hS (by decide),h.row,h.t⟩⟩
structure FzR (x:FzX) (W:World) (F:List MRow) (I:List FzIt) (FA:Option Addr) (fc:Nat) (TA:Option Addr) (tc:Nat) (vs:List Value):Prop where
 st:FzC x W
 old:Touch (fun _=>False) x.w0 W
 f0:x.w0.heap.size≤x.bF
 t0:x.w0.heap.size≤x.bT
 fb:Blk W x.bF 39 #[.slice FA F.length fc]
 fo:W.ownsRow 0 43 3 (.slice FA F.length fc) F.length (mCells F)
 fy:∀ g,(Value.slice FA F.length fc).ownBlock=some g→x.w0.heap.size≤g
 tb:Blk W x.bT 178 #[.slice TA I.length tc]
 tw:W.ownsRow 0 1 1 (.slice TA I.length tc) I.length vs
 ty:∀ g,(Value.slice TA I.length tc).ownBlock=some g→x.w0.heap.size≤g
 kids:∀ (i:Nat) v t,vs[i]? = some v→I[i]? = some t→KidM x W v t
 kp:Kp x.wK W
def FzG (x:FzX) (W:World) (F:List MRow) (I:List FzIt):Prop:=∃ FA fc TA tc vs,FzR x W F I FA fc TA tc vs
section
variable {x:FzX} {W W':World} {S:Nat→Prop} {F:List MRow} {I:List FzIt} {FA:Option Addr} {fc:Nat} {TA:Option Addr} {tc:Nat} {vs:List Value}
theorem FzR.keep (h:FzR x W F I FA fc TA tc vs) (T:Touch S W W') (hS:∀ g t,TyAt W g t→¬ S g) (hB:∀ g,S g→x.w0.heap.size≤g):FzR x W' F I FA fc TA tc vs :=
 have hF:FzT S W:=fun g t hg _=>hS g t hg
 ⟨h.st.fz T hF,h.old.trans T (fun i hi s=>by have:=hB i s;omega),h.f0,h.t0,h.fb.touch T (hS _ _ (blk_ty h.fb)),own_touch h.fo T (fun g hg=>hS _ _ (own_ty h.fo hg)),h.fy,h.tb.touch T (hS _ _ (blk_ty h.tb)),own_touch h.tw T (fun g hg=>hS _ _ (own_ty h.tw hg)),h.ty,fun i v t h1 h2=>(h.kids i v t h1 h2).fz T hF,h.kp.trans (.of T hF)⟩
theorem FzR.quiet (h:FzR x W F I FA fc TA tc vs) (T:Touch (fun _=>False) W W'):FzR x W' F I FA fc TA tc vs:=h.keep T (fun _ _ _ f=>f) (fun _ f=>f.elim)
theorem FzG.quiet (h:FzG x W F I) (T:Touch (fun _=>False) W W'):FzG x W' F I:=by
 obtain ⟨FA,fc,TA,tc,vs,h⟩:=h
 exact ⟨FA,fc,TA,tc,vs,h.quiet T⟩
theorem FzG.grown {row:Option Nat} (h:FzG x W F I) (hg:W.grownBy W' row) (hr:∀ r,row=some r→x.w0.heap.size≤r∧∃ o:Obj,W.heap[r]? = some o∧o.isCells=false):FzG x W' F I:=by
 obtain ⟨FA,fc,TA,tc,vs,h⟩:=h
 refine ⟨FA,fc,TA,tc,vs,h.keep (S:=fun g=>row=some g) ⟨hg.os,hg.tape,hg.output,hg.size,fun k hk hs=>hg.block k hk (fun e=>hs e.symm)⟩ ?_ (fun g e=>(hr g e).1)⟩
 rintro g t ⟨cs,_,hc⟩ e
 obtain ⟨_,o,ho,hn⟩:=hr g e
 rw [hc] at ho
 injection ho with ho
 subst ho
 cases hn
theorem FzR.foundT (h:FzR x W F I FA fc TA tc vs) {w1:World} {v':Value} (hg:W.grownBy w1 (Value.slice FA F.length fc).ownBlock):∃ S,Touch S W (w1.setCell ⟨x.bF,0,none⟩ v')∧FzT S W:=by
 have T1:Touch (fun g=>(Value.slice FA F.length fc).ownBlock=some g) W w1:=(Touch.refl _ W).grown hg (fun _ e _=>e)
 refine ⟨fun g=>(Value.slice FA F.length fc).ownBlock=some g∨g=x.bF,Touch.setCell (T1.mono fun _ _ e=>.inl e) (p:=⟨x.bF,0,none⟩) (fun _=>.inr rfl) _,?_⟩
 rintro g t hg ht (e | e)
 ·exact hg.ne (own_ty h.fo e) (by rintro rfl;cases ht) rfl
 ·exact hg.ne (blk_ty h.fb) (by rintro rfl;cases ht) e
theorem FzR.todoT (h:FzR x W F I FA fc TA tc vs) {w1:World} {v':Value} (hg:W.grownBy w1 (Value.slice TA I.length tc).ownBlock):∃ S,Touch S W (w1.setCell ⟨x.bT,0,none⟩ v')∧FzT S W:=by
 have T1:Touch (fun g=>(Value.slice TA I.length tc).ownBlock=some g) W w1:=(Touch.refl _ W).grown hg (fun _ e _=>e)
 refine ⟨fun g=>(Value.slice TA I.length tc).ownBlock=some g∨g=x.bT,Touch.setCell (T1.mono fun _ _ e=>.inl e) (p:=⟨x.bT,0,none⟩) (fun _=>.inr rfl) _,?_⟩
 rintro g t hg ht (e | e)
 ·exact hg.ne (own_ty h.tw e) (by rintro rfl;cases ht) rfl
 ·exact hg.ne (blk_ty h.tb) (by rintro rfl;cases ht) e
theorem FzR.found (h:FzR x W F I FA fc TA tc vs) (m:MRow) {w1:World} {A':Option Addr} {c':Nat} (ho:w1.ownsRow 0 43 3 (.slice A' (F.length+1) c') (F.length+1) (mCells F++m.cells)) (hg:W.grownBy w1 (Value.slice FA F.length fc).ownBlock) (hf:Fresh W (.slice FA F.length fc) (.slice A' (F.length+1) c')) :
  FzR x (w1.setCell ⟨x.bF,0,none⟩ (.slice A' (F.length+1) c')) (F++[m]) I A' c' TA tc vs:=by
 have hl:(F++[m]).length=F.length+1:=by simp
 have hc:mCells (F++[m])=mCells F++m.cells:=by simp [mCells]
 have hb1:Blk w1 x.bF 39 #[.slice FA F.length fc]:=h.fb.grown hg (fun e=>(own_ty h.fo e.symm).ne (blk_ty h.fb) (by decide) rfl)
 have T1:Touch (fun g=>(Value.slice FA F.length fc).ownBlock=some g) W w1:=(Touch.refl _ W).grown hg (fun _ e _=>e)
 have T:Touch (fun g=>(Value.slice FA F.length fc).ownBlock=some g∨g=x.bF) W (w1.setCell ⟨x.bF,0,none⟩ (.slice A' (F.length+1) c')) :=
  Touch.setCell (T1.mono fun _ _ e=>.inl e) (p:=⟨x.bF,0,none⟩) (fun _=>.inr rfl) _
 have hne:∀ g t,TyAt W g t→t ≠ 43 → t ≠ 39 → ¬ ((Value.slice FA F.length fc).ownBlock=some g∨g=x.bF):=by
  rintro g t hg h1 h2 (e | e)
  ·exact hg.ne (own_ty h.fo e) h1 rfl
  ·exact hg.ne (blk_ty h.fb) h2 e
 have hF:FzT (fun g=>(Value.slice FA F.length fc).ownBlock=some g∨g=x.bF) W:=fun g t hg ht=>hne g t hg (by rintro rfl;cases ht) (by rintro rfl;cases ht)
 refine ⟨h.st.fz T hF,?_,h.f0,h.t0,?_,?_,?_,h.tb.touch T (hne _ _ (blk_ty h.tb) (by decide) (by decide)),own_touch h.tw T (fun g hg=>hne _ _ (own_ty h.tw hg) (by decide) (by decide)),h.ty,fun i v t h1 h2=>(h.kids i v t h1 h2).fz T hF,h.kp.trans (.of T hF)⟩
 ·refine h.old.trans T (fun i hi e=>?_)
  rcases e with e | e
  ·have:=h.fy i e;omega
  ·have:=h.f0;omega
 ·rw [hl]
  have:=hb1.set_ 0 (.slice A' (F.length+1) c')
  simpa using this
 ·rw [hl,hc]
  exact own_setCell_far ho (fun e=>(own_ty ho e).ne (blk_ty hb1) (by decide) rfl) _
 ·rw [hl]
  intro g hg
  rcases hf with e | ⟨g2,e,hle⟩
  ·rw [e] at hg;exact h.fy g hg
  ·rw [e] at hg
   injection hg with hg
   have:=h.old.size
   omega
theorem FzR.todo (h:FzR x W F I FA fc TA tc vs) (v:Value) (t:FzIt) (hk:KidM x W v t) (hvs:vs.length=I.length) {w1:World} {A':Option Addr} {c':Nat} (ho:w1.ownsRow 0 1 1 (.slice A' (I.length+1) c') (I.length+1) (vs++[v])) (hg:W.grownBy w1 (Value.slice TA I.length tc).ownBlock) (hf:Fresh W (.slice TA I.length tc) (.slice A' (I.length+1) c')) :
  FzR x (w1.setCell ⟨x.bT,0,none⟩ (.slice A' (I.length+1) c')) F (I++[t]) FA fc A' c' (vs++[v]):=by
 have hl:(I++[t]).length=I.length+1:=by simp
 have hb1:Blk w1 x.bT 178 #[.slice TA I.length tc]:=h.tb.grown hg (fun e=>(own_ty h.tw e.symm).ne (blk_ty h.tb) (by decide) rfl)
 have T1:Touch (fun g=>(Value.slice TA I.length tc).ownBlock=some g) W w1:=(Touch.refl _ W).grown hg (fun _ e _=>e)
 have T:Touch (fun g=>(Value.slice TA I.length tc).ownBlock=some g∨g=x.bT) W (w1.setCell ⟨x.bT,0,none⟩ (.slice A' (I.length+1) c')) :=
  Touch.setCell (T1.mono fun _ _ e=>.inl e) (p:=⟨x.bT,0,none⟩) (fun _=>.inr rfl) _
 have hne:∀ g t,TyAt W g t→t ≠ 1 → t ≠ 178 → ¬ ((Value.slice TA I.length tc).ownBlock=some g∨g=x.bT):=by
  rintro g t hg h1 h2 (e | e)
  ·exact hg.ne (own_ty h.tw e) h1 rfl
  ·exact hg.ne (blk_ty h.tb) h2 e
 have hF:FzT (fun g=>(Value.slice TA I.length tc).ownBlock=some g∨g=x.bT) W:=fun g t hg ht=>hne g t hg (by rintro rfl;cases ht) (by rintro rfl;cases ht)
 refine ⟨h.st.fz T hF,?_,h.f0,h.t0,h.fb.touch T (hne _ _ (blk_ty h.fb) (by decide) (by decide)),own_touch h.fo T (fun g hg=>hne _ _ (own_ty h.fo hg) (by decide) (by decide)),h.fy,?_,?_,?_,?_,h.kp.trans (.of T hF)⟩
 ·refine h.old.trans T (fun i hi e=>?_)
  rcases e with e | e
  ·have:=h.ty i e;omega
  ·have:=h.t0;omega
 ·rw [hl]
  have:=hb1.set_ 0 (.slice A' (I.length+1) c')
  simpa using this
 ·rw [hl]
  exact own_setCell_far ho (fun e=>(own_ty ho e).ne (blk_ty hb1) (by decide) rfl) _
 ·rw [hl]
  intro g hg
  rcases hf with e | ⟨g2,e,hle⟩
  ·rw [e] at hg;exact h.ty g hg
  ·rw [e] at hg
   injection hg with hg
   have:=h.old.size
   omega
 ·intro i v' t' h1 h2
  by_cases hi:i<I.length
  ·rw [List.getElem?_append_left (by omega)] at h1
   rw [List.getElem?_append_left hi] at h2
   exact (h.kids i v' t' h1 h2).fz T hF
  ·have hil:i<(I++[t]).length:=(List.getElem?_eq_some_iff.1 h2).1
   have hie:i=I.length:=by rw [hl] at hil;omega
   subst hie
   rw [← hvs,List.getElem?_concat_length] at h1
   rw [List.getElem?_concat_length] at h2
   injection h1 with h1
   injection h2 with h2
   subst h1
   subst h2
   exact hk.fz T hF
theorem own_less {e:TypeId} {A:Option Addr} {c q:Nat} {ws:List Value} {v:Value} (h:W.ownsRow 0 e 1 (.slice A (q+1) c) (q+1) (ws++[v])) (hl:ws.length=q):W.ownsRow 0 e 1 (.slice A q c) q ws:=by
 refine ⟨by simpa using hl,?_⟩
 rcases h.2 with ⟨h0,_⟩ | ⟨g,cap,cur,hv,hge,hgg,hle,hm,hsz,ht⟩
 ·cases h0
 ·injection hv with h1 _ h3
  subst h1
  subst h3
  refine .inr ⟨g,c,cur,rfl,hge,hgg,by omega,hm,hsz,?_⟩
  have:=congrArg (List.take q) ht
  simp only [Nat.mul_one] at this ⊢
  rw [List.take_take,Nat.min_eq_left (by omega),List.take_left' hl] at this
  exact this
theorem FzR.pop {t:FzIt} {v:Value} (h:FzR x W F (I++[t]) FA fc TA tc (vs++[v])) (hvs:vs.length=I.length):FzR x (W.setCell ⟨x.bT,0,none⟩ (.slice TA I.length tc)) F I FA fc TA tc vs:=by
 have hl:(I++[t]).length=I.length+1:=by simp
 have T:Touch (fun g=>g=x.bT) W (W.setCell ⟨x.bT,0,none⟩ (.slice TA I.length tc)):=Touch.setCell (Touch.refl (fun g=>g=x.bT) W) (p:=⟨x.bT,0,none⟩) (fun _=>rfl) _
 have hne:∀ g t,TyAt W g t→t ≠ 178 → ¬ (g=x.bT):=fun g t hg h2 e=>hg.ne (blk_ty h.tb) h2 e
 have hF:FzT (fun g=>g=x.bT) W:=fun g t hg ht=>hne g t hg (by rintro rfl;cases ht)
 have hto:=h.tw
 rw [hl] at hto
 have hb:=h.ty
 rw [hl] at hb
 refine ⟨h.st.fz T hF,?_,h.f0,h.t0,h.fb.touch T (hne _ _ (blk_ty h.fb) (by decide)),own_touch h.fo T (fun g hg=>hne _ _ (own_ty h.fo hg) (by decide)),h.fy,?_,?_,?_,?_,h.kp.trans (.of T hF)⟩
 ·refine h.old.trans T (fun i hi e=>?_)
  have:=h.t0;omega
 ·have:=h.tb.set_ 0 (.slice TA I.length tc)
  simpa using this
 ·refine own_setCell_far (own_less hto hvs) (fun e=>(own_ty (own_less hto hvs) e).ne (blk_ty h.tb) (by decide) rfl) _
 ·intro g hg
  refine hb g ?_
  cases TA with
  | none=>simp [Value.ownBlock] at hg
  | some a=>simpa [Value.ownBlock] using hg
 ·intro i v' t' h1 h2
  have hi:i<I.length:=(List.getElem?_eq_some_iff.1 h2).1
  exact (h.kids i v' t' (by rw [List.getElem?_append_left (by omega)];exact h1) (by rw [List.getElem?_append_left hi];exact h2)).fz T hF
end
theorem KidM.re {x:FzX} {W:World} {v:Value} {t:FzIt} (w:World):KidM { x with wK:=w } W v t↔KidM x W v t:=by
 constructor
 ·rintro ⟨p,a,bA,bH,bS,bR,A,q,c,h⟩
  exact ⟨p,a,bA,bH,bS,bR,A,q,c,⟨h.v,h.ba,h.bh,h.rd,h.len,h.le,h.mx,h.few,h.bs,h.br,h.row,h.t⟩⟩
 ·rintro ⟨p,a,bA,bH,bS,bR,A,q,c,h⟩
  exact ⟨p,a,bA,bH,bS,bR,A,q,c,⟨h.v,h.ba,h.bh,h.rd,h.len,h.le,h.mx,h.few,h.bs,h.br,h.row,h.t⟩⟩
theorem FzG.re {x:FzX} {W:World} {F:List MRow} {I:List FzIt} (h:FzG x W F I):FzG { x with wK:=W } W F I∧Kp x.wK W:=by
 obtain ⟨FA,fc,TA,tc,vs,h⟩:=h
 exact ⟨⟨FA,fc,TA,tc,vs,⟨⟨h.st.bw,h.st.bl,h.st.bv,h.st.lev⟩,h.old,h.f0,h.t0,h.fb,h.fo,h.fy,h.tb,h.tw,h.ty,fun i v t h1 h2=>(KidM.re W).2 (h.kids i v t h1 h2),Kp.refl _⟩⟩,h.kp⟩
theorem FzG.back {x:FzX} {W W':World} {F:List MRow} {I:List FzIt} (h:FzG { x with wK:=W } W' F I) (k:Kp x.wK W):FzG x W' F I∧Kp W W':=by
 obtain ⟨FA,fc,TA,tc,vs,h⟩:=h
 have hk:Kp W W':=h.kp
 exact ⟨⟨FA,fc,TA,tc,vs,⟨⟨h.st.bw,h.st.bl,h.st.bv,h.st.lev⟩,h.old,h.f0,h.t0,h.fb,h.fo,h.fy,h.tb,h.tw,h.ty,fun i v t h1 h2=>(KidM.re W).1 (h.kids i v t h1 h2),k.trans hk⟩⟩,hk⟩
theorem Blk.nc {W W':World} {row:Option Nat} {g:Nat} {t:TypeId} {cs:Array Value} (h:Blk W g t cs) (hg:W.grownBy W' row) (hr:∀ r,row=some r→∃ o:Obj,W.heap[r]? = some o∧o.isCells=false):Blk W' g t cs:=by
 refine h.grown hg fun e=>?_
 obtain ⟨o,ho,hn⟩:=hr g e.symm
 unfold Blk at h
 rw [h] at ho
 injection ho with ho
 subst ho
 cases hn
theorem Blk.cell0 {W:World} {g:Nat} {t:TypeId} {v:Value} (h:Blk W g t #[v]):W.cell? ⟨g,0,none⟩=some v:=by rw [h.cell];rfl
theorem FzG.size {x:FzX} {W:World} {F:List MRow} {I:List FzIt} (h:FzG x W F I):x.w0.heap.size≤W.heap.size:=by
 obtain ⟨_,_,_,_,_,h⟩:=h
 exact h.old.size
structure VisB (t:FzIt) (o:Nat) (z:SV) (bH bS bR bX:Nat) (A:Option Addr) (c:Nat) (A2:Option Addr) (c2:Nat) (W:World):Prop where
 bh:Blk W bH 154 #[.slice A t.head.length c]
 bs:Blk W bS 3 #[.int .i64 t.sum]
 br:Blk W bR 181 (rowV (cutR' o t.row))
 bx:Blk W bX 170 #[.bool z.fin,.int .i64 z.out,.slice A2 z.n c2]
 ra:RdT W 173 3 A2 z.n (aCells z.arcs)
 rh:RdT W 21 1 A t.head.length (t.head.map runeV)
theorem VisB.fz {t:FzIt} {o:Nat} {z:SV} {bH bS bR bX:Nat} {A:Option Addr} {c:Nat} {A2:Option Addr} {c2:Nat} {W W':World} {S:Nat→Prop} (h:VisB t o z bH bS bR bX A c A2 c2 W) (T:Touch S W W') (hS:FzT S W):VisB t o z bH bS bR bX A c A2 c2 W' :=
 ⟨h.bh.fz T hS (by decide),h.bs.fz T hS (by decide),h.br.fz T hS (by decide),h.bx.fz T hS (by decide),h.ra.fz T hS (by decide),h.rh.fz T hS (by decide)⟩
theorem VisB.quiet {t:FzIt} {o:Nat} {z:SV} {bH bS bR bX:Nat} {A:Option Addr} {c:Nat} {A2:Option Addr} {c2:Nat} {W W':World} (h:VisB t o z bH bS bR bX A c A2 c2 W) (T:Touch (fun _=>False) W W'):VisB t o z bH bS bR bX A c A2 c2 W':=h.fz T (fun _ _ _ _ f=>f)
theorem VisB.grown {t:FzIt} {o:Nat} {z:SV} {bH bS bR bX:Nat} {A:Option Addr} {c:Nat} {A2:Option Addr} {c2:Nat} {W W':World} {row:Option Nat} (h:VisB t o z bH bS bR bX A c A2 c2 W) (hg:W.grownBy W' row) (hr:∀ r,row=some r→∃ o:Obj,W.heap[r]? = some o∧o.isCells=false):VisB t o z bH bS bR bX A c A2 c2 W':=by
 refine h.fz (S:=fun g=>row=some g) ⟨hg.os,hg.tape,hg.output,hg.size,fun k hk hs=>hg.block k hk (fun e=>hs e.symm)⟩ ?_
 rintro g t ⟨cs,_,hc⟩ _ e
 obtain ⟨o,ho,hn⟩:=hr g e
 rw [hc] at ho
 injection ho with ho
 subst ho
 cases hn
end Go.Proofs.YthockgmbooefpaaGreatDoor
namespace Go.Proofs.YthockgmbooefpaaGreatDoor
open Go.RowKit Go.Shelf
attribute [local go_sem] Oper.semAt_some
def uptoA {α:Type} (f:Nat→α) (k:Nat):List α:=(List.range k).map f
theorem uptoA_succ {α:Type} (f:Nat→α) (k:Nat):uptoA f (k+1)=uptoA f k++[f k]:=by simp [uptoA,List.range_succ]
theorem uptoA_length {α:Type} (f:Nat→α) (k:Nat):(uptoA f k).length=k:=by simp [uptoA]
abbrev ArcP:=Nat × Int × Nat
def backAF (L:List ArcP) (j:Nat):Int × ArcP:=(((L.length-1-j:Nat):Int),L.getD (L.length-1-j) (0,0,0))
def backAE (x:Int × ArcP):Array Value:=#[.int .i64 x.1,.agg #[.int .i32 (x.2.1:Int),.int .i64 x.2.2.1,.int .i64 (x.2.2.2:Int)]]
theorem uptoA_rev (L:List ArcP):(uptoA (backAF L) L.length).map (·.2)=L.reverse:=by
 apply List.ext_getElem?
 intro j
 by_cases hj:j<L.length
 ·rw [List.getElem?_reverse hj]
  simp [uptoA,backAF,hj,List.getD,show L.length-1-j<L.length by omega]
 ·rw [List.getElem?_eq_none (by simp [uptoA];omega),List.getElem?_eq_none (by simp;omega)]
theorem backA1_in (F:Fence) (n:Nat) (hf:F.fn 149) (hro:F.round=none) (hn:1≤n) (l Bs:Nat) (S:Nat→Prop) (w0:World) (A:Option Addr) (len cap:Nat) (L:List ArcP) (hL:L.length=len) (hR:Reads w0 3 A len (aCells L)) (hlen:len≤maxLen) (hS:¬ S Bs) (hSA:0<len→∀ g,adBlock A=some g→¬ S g) (J Jx:List (Int × ArcP)→World→Prop)
  (hY:∀ pre x W,J pre W→pre.length<len→YieldAt F (n-1) Tryz.prog l (backAE x) W fun e W' =>
    (e=.returned (.bool true)∧J (pre++[x]) W'∧Touch S W W')∨(e=.returned (.bool false)∧Jx (pre++[x]) W'))
  (W:World) (hW:Touch S w0 W) (hbs:Bs<W.heap.size) (hBs:W.cell? ⟨Bs,0,none⟩=some (.slice A len cap)) (h0:J [] W) :
  CallsIn F n Tryz.prog 149 #[.func (.yield l) #[] #[],.pointer (some ⟨Bs,0,none⟩)] W fun e W'=>(∃ v,e=.returned v) ∧
   ((∃ ys,ys=uptoA (backAF L) len∧J ys W')∨(∃ pre,(∃ k,k≤len∧pre=uptoA (backAF L) k)∧Jx pre W')):=by
 unfold maxLen at hlen
 have HR:=hide hR
 have HL:=hide hL
 have HS:=hide hS
 have HSA:=hide hSA
 have hw:IntKind.i64.wrap ((len:Int)-1)=(len:Int)-1:=IntWalk.i64_in _ (by omega)
 have HST:((len:Int)-1 = -1∧len=0)∨∃ i:Nat,(len:Int)-1=(i:Int)∧len=i+1:=by
  by_cases h:len=0
  ·exact .inl ⟨by omega,h⟩
  ·exact .inr ⟨len-1,by omega,by omega⟩
 have HST:=hide HST
 clear hR hL hS hSA
 refine callsIn_of_wp Tryz.func149 rfl hf ?_ hro
 simp only [Tryz.ntmps149,List.size_toArray,List.length_cons,List.length_nil,Nat.reduceAdd,Nat.reduceSub,Array.replicate_succ,Array.replicate_zero,List.push_toArray,List.append_toArray,List.nil_append,List.cons_append]
 gi_wp2
 gi_loopw [3] (fun iv wr=>∃ (z:Int) (k m:Nat),iv=.int .i64 z∧Hid (k+m=len)∧Hid ((z = -1∧m=0)∨∃ i:Nat,z=(i:Int)∧m=i+1)∧Hid (J (uptoA (backAF L) k) wr)∧Hid (Touch S W wr)) (fun iv _=>(intOf iv+1).toNat)
 case atStart=>exact ⟨_,0,len,rfl,hide (Nat.zero_add _),HST,hide h0,hide (Touch.refl _ _)⟩
 case round =>
  obtain ⟨z,k,m,rfl,HK,HZ,HJ,HB⟩:=hrel
  have c1:=(HB.out.cell (a:=⟨Bs,0,none⟩) hbs HS.out).trans hBs
  rcases HZ.out with ⟨rfl,rfl⟩ | ⟨i,rfl,rfl⟩
  ·clear HZ
   gi_wp2
   go_end0
   have hk:k=len:=by have:=HK.out;omega
   exact ⟨⟨_,rfl⟩,.inl ⟨_,rfl,by rw [← hk];exact HJ.out⟩⟩
  ·clear HZ
   have y0:¬ (i:Int)<0:=by omega
   have y1:(0:Int)≤(i:Int):=by omega
   have y2:i<len:=by have:=HK.out;omega
   have y3:(i:Int)<(len:Int):=by omega
   have y4:L.length-1-k=i:=by have:=HK.out;rw [HL.out];omega
   obtain ⟨g,o,hA,_,a0,a1,a2⟩:=arc_at (HR.out.touch (hW.then HB.out) (HSA.out (by omega))) HL.out i y2
   subst hA
   have hbf:backAF L k=((i:Int),L.getD i (0,0,0)):=by unfold backAF;rw [y4]
   have hus:=uptoA_succ (backAF L) k
   rw [hbf] at hus
   obtain ⟨⟨la,ao,ta⟩,hx⟩:∃ x,x=L.getD i (0,0,0):=⟨_,rfl⟩
   rw [← hx] at a0 a1 a2 hus
   simp only at a0 a1 a2
   have HUS:=hide hus
   clear hx hus hbf
   obtain ⟨fn,tmps,assign,body,hy,hR⟩:=hY _ ((i:Int),(la,ao,ta)) wr HJ.out (by rw [uptoA_length];have:=HK.out;omega)
   simp only [backAE] at hy
   obtain ⟨z2,hz2⟩:∃ z2:Int,(i:Int)-1=z2:=⟨_,rfl⟩
   have hw2:IntKind.i64.wrap z2=z2:=IntWalk.i64_in _ (by omega)
   have HZ2:=hide hz2
   gi_wp2
   refine hR.mono ?_
   rintro e W3 (⟨rfl,hJ3,hk3⟩ | ⟨rfl,hJx3⟩)
   ·have HJ3:=hide hJ3
    have HK3:=hide hk3
    clear hJ3 hk3
    gi_wp2
    go_roundw
    case rel =>
     have hz2:=HZ2.out
     refine ⟨z2,k+1,i,rfl,hide (by have:=HK.out;omega),hide ?_,hide (by rw [HUS.out];exact HJ3.out),hide (HB.out.then HK3.out)⟩
     by_cases hi0:i=0
     ·exact .inl ⟨by omega,hi0⟩
     ·exact .inr ⟨i-1,by omega,by omega⟩
    case measure =>
     have hz2:=HZ2.out
     show (z2+1).toNat<((i:Int)+1).toNat
     omega
   ·gi_wp2
    refine bodyPost_ret (results_none rfl _ _ _) rfl ?_
    exact ⟨⟨_,rfl⟩,.inr ⟨_,⟨k+1,by have:=HK.out;omega,HUS.out.symm⟩,hJx3⟩⟩
theorem backwardA_any (a:Option Addr) (len cap:Nat) (w:World) :
  Calls Tryz.prog 94 #[.slice a len cap] w fun e w'=>e=.returned (.func (.func 149) #[] #[.pointer (some ⟨w.heap.size,0,none⟩)])∧w'=w.alloc (.cells #[.slice a len cap] 168):=by
 go_enter Tryz.func94,Tryz.ntmps94
 go_wp2
 go_ret
 exact ⟨rfl,rfl⟩
theorem backA_stops (F:Fence) (n:Nat) (hf:F.fn 149) (hro:F.round=none) (hn:1≤n) (Bs:Nat) (S:Nat→Prop) (w:World) (A:Option Addr) (len cap:Nat) (L:List ArcP) (hL:L.length=len) (hR:Reads w 3 A len (aCells L)) (hlen:len≤maxLen) (hS:¬ S Bs) (hSA:0<len→∀ g,adBlock A=some g→¬ S g) (hbs:Bs<w.heap.size) (hc:w.cell? ⟨Bs,0,none⟩=some (.slice A len cap)) :
  SeqStopsK F n Tryz.prog 149 #[.pointer (some ⟨Bs,0,none⟩)] backAE (Touch S) (fun ys=>ys=uptoA (backAF L) len) (fun pre=>∃ k,k≤len∧pre=uptoA (backAF L) k) len w:=fun l J Jx W hW _ _ hY h0 =>
 backA1_in F n hf hro hn l Bs S w A len cap L hL hR hlen hS hSA J Jx hY W (Touch.of_below hW S) (Nat.lt_of_lt_of_le hbs hW.size) ((hW.cell (p:=⟨Bs,0,none⟩) hbs).trans hc) h0
theorem run_app {P:Program} (w:World) (t ty:TypeId) (e:TypeId) (i:TypeInfo) (z:Value) (size bytes:Nat) (h1:P.underlying t=some (.slice e)) (h2:P.info? e=some i) (h3:i.zero=some z) (h4:i.size=size) (h5:i.bytes=bytes) (h6:z.cells.size=size) (h7:0<size)
  (v:Value) (n:Nat) (xs:List Value) (hown:w.ownsRow 0 e size v n xs)
  (ao:Option Addr) (m c:Nat) (news:List Value) (hr:Reads w size ao m news) (hn:ao=none→m=0∧c=0) (h1c:∀ u∈news,u.oneCell'=true)
  (b1:n+m≤maxLen) (b2:(n+m)*bytes≤140737488355328) :
  ∃ v' w',(Builtin.append_ #[t,t] ty #[v,.slice ao m c]).run P w=.ok v' w'∧w'.ownsRow 0 e size v' (n+m) (xs++news)∧w.grownBy w' v.ownBlock∧Fresh w v v'∧(v'=.slice none 0 0↔v=.slice none 0 0∧m=0):=by
 cases ao with
 | none =>
  obtain ⟨rfl,rfl⟩:=hn rfl
  have hnews:news=[]:=List.eq_nil_of_length_eq_zero (by simpa using hr.1)
  subst hnews
  exact ⟨v,w,run_append_owned_none (P:=P) w 0 t ty e i size h1 h2 v n xs hown,by simpa using hown,World.grownBy.refl _ _,.inl rfl,by simp⟩
 | some ad =>
  have hc:∀ j u,news[j]? = some u→w.cell? (ad.add j)=some u:=fun j u hu=>by
   have hm:0<m:=by
    rcases Nat.eq_zero_or_pos m with rfl | hm
    ·have hl:news=[]:=List.eq_nil_of_length_eq_zero (by simpa using hr.1)
     rw [hl] at hu
     cases hu
    ·exact hm
   obtain ⟨b,off,hA,_,hcell⟩:=hr.2 hm
   injection hA with hA
   subst hA
   rw [Addr.add_lit]
   exact hcell j u hu
  rcases hown.2 with ⟨rfl,rfl⟩ | ⟨g,cap,cur,rfl,_,hgg,hnc,hcm,hcs,ht⟩
  ·have hx:xs=[]:=List.eq_nil_of_length_eq_zero (by simpa using hown.1)
   subst hx
   obtain ⟨v',w',r1,r2,r3,r4⟩:=run_append_own (P:=P) w w.heap.size t ty e i z size bytes h1 h2 h3 h4 h5 h6 h7 (.slice none 0 0) 0 [] (World.ownsRow_nil w _ e size) ad m c news hr.1 hc h1c b1 b2 (Nat.le_refl _)
   refine ⟨v',w',r1,⟨r2.1,?_⟩,r3,?_,r4⟩
   ·rcases r2.2 with h | ⟨g,cap,cur,h,_,hh⟩
    ·exact .inl h
    ·exact .inr ⟨g,cap,cur,h,Nat.zero_le _,hh⟩
   ·rcases r2.2 with ⟨h,_⟩ | ⟨g,cap,cur,h,hge,hh⟩
    ·exact .inl (by rw [h])
    ·exact .inr ⟨g,by rw [h];rfl,hge⟩
  ·by_cases hroom:n+m≤cap
   ·obtain ⟨w',r1,r2,r3⟩:=run_append_fits (P:=P) w 0 t ty e i size h1 h2 h4 g n cap xs hown ad m c news hr.1 hc h1c hroom
    exact ⟨_,w',r1,r2,r3,.inl rfl,by simp⟩
   ·have holds:∀ j u,xs[j]? = some u→w.cell? ((⟨g,0,none⟩:Addr).add j)=some u:=hown.cells (g:=g) rfl
    obtain ⟨v',w',r1,r2,r3⟩:=run_append_arg_grows (P:=P) w t ty e i z size bytes h1 h2 h3 h4 h5 h6 h7 ⟨g,0,none⟩ n cap xs hown.1 holds ad m c news hr.1 hc (by omega) b1 b2
    refine ⟨v',w',r1,⟨r2.1,?_⟩,⟨r3.os,r3.tape,r3.output,r3.size,fun k hk _=>r3.block k hk (by simp)⟩,?_,?_⟩
    ·rcases r2.2 with h | ⟨g,cap,cur,h,_,hh⟩
     ·exact .inl h
     ·exact .inr ⟨g,cap,cur,h,Nat.zero_le _,hh⟩
    ·rcases r2.2 with ⟨h,hz⟩ | ⟨g,cap,cur,h,hge,hh⟩
     ·omega
     ·exact .inr ⟨g,by rw [h];rfl,hge⟩
    ·rcases r2.2 with ⟨h,hz⟩ | ⟨g,cap,cur,h,hge,hh⟩
     ·omega
     ·rw [h];simp
theorem wpListIn_app {F:Fence} {nF:Nat} {P:Program} (w:World) {ops:Array Oper} {rest:List Oper} {o:Oper} {a:Act} {Q:Exit→Act→World→Prop}
  (hg:o.guard=none) (s x:Operand) (t:TypeId) (hop:o.op=Op.call { callee:=Callee.builtin Builtin.append,args:=#[s,x],argTypes:=#[t,t] })
  (e:TypeId) (i:TypeInfo) (z:Value) (size bytes:Nat) (h1:P.underlying t=some (.slice e)) (h2:P.info? e=some i) (h3:i.zero=some z) (h4:i.size=size) (h5:i.bytes=bytes) (h6:z.cells.size=size) (h7:0<size)
  (v:Value) (n:Nat) (xs:List Value) (hs:a.eval s=v) (hown:w.ownsRow 0 e size v n xs)
  (ao:Option Addr) (m c:Nat) (news:List Value) (hx:a.eval x=.slice ao m c) (hr:Reads w size ao m news) (hn:ao=none→m=0∧c=0) (h1c:∀ u∈news,u.oneCell'=true)
  (b1:n+m≤maxLen) (b2:(n+m)*bytes≤140737488355328)
  (hK:∀ v' w',w'.ownsRow 0 e size v' (n+m) (xs++news)→w.grownBy w' v.ownBlock→Fresh w v v'→(v'=.slice none 0 0↔v=.slice none 0 0∧m=0)→wpListIn F nF P ops Q rest (a.put o.dst v') w') :
  wpListIn F nF P ops Q (o :: rest) a w:=by
 refine wpListIn_plain hg fun K hK'=>?_
 obtain ⟨v',w',hrun,r2,r3,r4,r5⟩:=run_app (P:=P) w t o.type e i z size bytes h1 h2 h3 h4 h5 h6 h7 v n xs hown ao m c news hr hn h1c b1 b2
 unfold Oper.wpIn
 refine ⟨?_,?_⟩
 ·simp [Oper.about,hop,resolve,Target.leads,Sem.run_pure]
 ·rw [Oper.semAt_plain F _ _ (by rw [hop];intro c hc';cases hc')]
  simp [execOp,hop,resolve,invoke,builtin,hs,hx,hrun,Result.andThen]
  exact hK' _ _ (hK v' w' r2 r3 r4 r5)
end Go.Proofs.YthockgmbooefpaaGreatDoor
