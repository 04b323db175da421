/- What the law rests on, part 37. No condition but those that each theorem names. -/
import Derived.Test.YthockgmbooefpaaDoorD25
import Derived.Test.YthockgmbooefpaaDoorD27
import Derived.Test.YthockgmbooefpaaDoorD28
import Derived.Test.YthockgmbooefpaaDoorD29
import Derived.Test.YthockgmbooefpaaDoorD36
set_option linter.unusedSectionVars false
set_option linter.unusedSimpArgs false
set_option linter.unusedVariables false
namespace Go.Proofs.YthockgmbooefpaaDoor
open Go.RowKit Go.Shelf
def dctT (t:TypeId):Prop:=t = 124 ∨ t = 108 ∨ t = 110 ∨ t = 3 ∨ t = 56
structure DctX (w:World) (d:Nat) (m:Int) (L:List PRow) (wb:Nat) (B:List PRow) (n:Nat) (A:Option Addr) (c:Nat) (Z:List SV) (wA:Option Addr) (wc:Nat) (oA:Option Addr) (on oc:Nat) (O:List PRow):Prop where
 blk:Blk w d 93 #[ptrV wb,.slice oA on oc,.int .i64 m]
 wk:DWk w wb B n A c Z wA wc
 ov:RdT w 56 2 oA on (pCells O)
 len:O.length=on
 few:on≤33
 nil:oA=none→on=0∧oc=0
 lay:LayP B O L
 pos:0<d
def DctM (w:World) (d:Nat) (L:List PRow) (q:Nat):Prop:=q≤32∧∃ wb B n A c Z wA wc oA oc O,DctX w d (L.length:Int) L wb B n A c Z wA wc oA q oc O
theorem StsOk.far {w w':World} {A:Option Addr} {n:Nat} {Z:List SV} {S:Nat→Prop} (h:StsOk w A n Z) (T:Touch S w w') (hS:∀ g t,TyAt w g t→dctT t→¬ S g):StsOk w' A n Z :=
 ⟨h.rd.touch T (fun g hg=>hS g _ hg (.inr (.inl rfl))),h.len,fun z hz=>(h.el z hz).touch T (fun g hg=>hS g _ hg (.inr (.inr (.inl rfl))))⟩
theorem DWk.far {w w':World} {b:Nat} {L:List PRow} {n:Nat} {A:Option Addr} {c:Nat} {Z:List SV} {wA:Option Addr} {wc:Nat} {S:Nat→Prop} (h:DWk w b L n A c Z wA wc) (T:Touch S w w') (hS:∀ g t,TyAt w g t→dctT t→¬ S g):DWk w' b L n A c Z wA wc :=
 ⟨⟨h.wk.blk.touch T (hS _ _ (blk_ty h.wk.blk) (.inl rfl)),h.wk.sts.far T hS,h.wk.wds.touch T (fun g hg=>hS g _ hg (.inr (.inr (.inr (.inl rfl))))),h.wk.len⟩,h.st,h.few⟩
section
variable {w w':World} {d:Nat} {m:Int} {L:List PRow} {wb:Nat} {B:List PRow} {n:Nat} {A:Option Addr} {c:Nat} {Z:List SV} {wA:Option Addr} {wc:Nat} {oA:Option Addr} {on oc:Nat} {O:List PRow} {q:Nat} {S:Nat→Prop}
theorem DctX.far (h:DctX w d m L wb B n A c Z wA wc oA on oc O) (T:Touch S w w') (hd:¬ S d) (hS:∀ g t,TyAt w g t→dctT t→¬ S g):DctX w' d m L wb B n A c Z wA wc oA on oc O :=
 ⟨h.blk.touch T hd,h.wk.far T hS,h.ov.touch T (fun g hg=>hS g _ hg (.inr (.inr (.inr (.inr rfl))))),h.len,h.few,h.nil,h.lay,h.pos⟩
theorem DctX.quiet (h:DctX w d m L wb B n A c Z wA wc oA on oc O) (T:Touch (fun _=>False) w w'):DctX w' d m L wb B n A c Z wA wc oA on oc O:=h.far T (fun f=>f) (fun _ _ _ _ f=>f)
theorem DctM.quiet (h:DctM w d L q) (T:Touch (fun _=>False) w w'):DctM w' d L q:=by
 obtain ⟨h1,wb,B,n,A,c,Z,wA,wc,oA,oc,O,hx⟩:=h
 exact ⟨h1,wb,B,n,A,c,Z,wA,wc,oA,oc,O,hx.quiet T⟩
theorem DctM.far (h:DctM w d L q) (T:Touch S w w') (hd:¬ S d) (hS:∀ g t,TyAt w g t→dctT t→¬ S g):DctM w' d L q:=by
 obtain ⟨h1,wb,B,n,A,c,Z,wA,wc,oA,oc,O,hx⟩:=h
 exact ⟨h1,wb,B,n,A,c,Z,wA,wc,oA,oc,O,hx.far T hd hS⟩
theorem DctM.dict (h:DctM w d L q):DictP L:=by
 obtain ⟨h1,wb,B,n,A,c,Z,wA,wc,oA,oc,O,hx⟩:=h
 exact hx.lay.dL
theorem DctM.ty (h:DctM w d L q):TyAt w d 93 := by
 obtain ⟨h1,wb,B,n,A,c,Z,wA,wc,oA,oc,O,hx⟩:=h
 exact blk_ty hx.blk
theorem DctM.pos (h:DctM w d L q):0<d:=by
 obtain ⟨h1,wb,B,n,A,c,Z,wA,wc,oA,oc,O,hx⟩:=h
 exact hx.pos
end
theorem dict_ne {w:World} {d g:Nat} {t:TypeId} (h:TyAt w d 93) (hg:TyAt w g t) (ht:dctT t):¬ g=d:=by
 intro e
 subst e
 refine h.ne hg ?_ rfl
 rcases ht with rfl | rfl | rfl | rfl | rfl<;>decide
theorem DctM.other {w w':World} {d e:Nat} {L:List PRow} {q:Nat} (h:DctM w d L q) (T:Touch (fun g=>g=e) w w') (he:TyAt w e 93) (hne:d≠e):DctM w' d L q :=
 h.far T hne (fun g t hg ht=>dict_ne he hg ht)
theorem Lst.far {w w':World} {S:Nat→Prop} (h:Lst w) (T:Touch S w w') (hS:¬ S 0):Lst w':=by
 obtain ⟨h0,h1,h2,h3⟩:=h
 exact ⟨Nat.lt_of_lt_of_le h0 T.size,(T.cell (a:=⟨0,2,none⟩) h0 hS).trans h1,(T.cell (a:=⟨0,3,none⟩) h0 hS).trans h2,(T.cell (a:=⟨0,4,none⟩) h0 hS).trans h3⟩
set_option maxRecDepth 100000 in
set_option maxHeartbeats 2000000 in
theorem dweigh_x (w:World) (hL:Lst w) {d:Nat} {m:Int} {L:List PRow} {wb:Nat} {B:List PRow} {n:Nat} {A:Option Addr} {c:Nat} {Z:List SV} {wA:Option Addr} {wc:Nat} {oA:Option Addr} {on oc:Nat} {O:List PRow} (hx:DctX w d m L wb B n A c Z wA wc oA on oc O) (k:ByteArray) (hk:k.size≤1099511627776) :
  Calls Tryd.prog 41 #[ptrV d,.string k] w fun e w'=>e=.returned (.tuple #[.int .i64 (findP k.toList L).1,.bool (findP k.toList L).2])∧Touch (fun _=>False) w w':=by
 have hf:=hx.lay.find k.toList
 have HPF:=hide (pfind_any w oA on oc O hx.len hx.ov.rd (by unfold maxLen;have:=hx.few;omega) k)
 have HDF:=hide (fun (wx:World) (T:Touch (fun _=>False) w wx)=>dfind_any (hx.wk.quiet T) hx.lay.dB (Lst.touch hL T) k hk)
 have HB:=hide hx.blk
 obtain ⟨x0,x1,x2⟩:=hx.blk.facts
 obtain ⟨⟨x,t⟩,hxo⟩:∃ r,r=findP k.toList O:=⟨_,rfl⟩
 obtain ⟨⟨y,u⟩,hyb⟩:∃ r,r=findP k.toList B:=⟨_,rfl⟩
 rw [← hxo,← hyb] at hf
 rw [← hxo] at HPF
 simp only [← hyb] at HDF
 simp only at HPF HDF hf
 clear hx hL hk hxo hyb
 cases t with
 | true =>
  rw [if_pos rfl] at hf
  rw [hf]
  clear hf HDF
  go_enter Tryd.func41,Tryd.ntmps41
  go_wp2_with fail
  refine HPF.out.mono ?_
  rintro e w1 ⟨rfl,T1⟩
  have HT1:=hide T1
  clear T1 HPF x0 x1 x2
  go_wp2_with fail
  go_ret2
  exact ⟨by simp,HT1.out⟩
 | false =>
  rw [if_neg (by decide)] at hf
  rw [hf]
  clear hf
  go_enter Tryd.func41,Tryd.ntmps41
  go_wp2_with fail
  refine HPF.out.mono ?_
  rintro e w1 ⟨rfl,T1⟩
  have HT1:=hide T1
  have HD1:=hide (HDF.out _ T1)
  clear x0 x1 x2
  obtain ⟨x0,x1,x2⟩:=(HB.out.touch T1 (fun f=>f)).facts
  clear T1 HPF HDF
  go_wp2_with fail
  refine HD1.out.mono ?_
  rintro e w2 ⟨rfl,T2⟩
  have HT2:=hide (HT1.out.then T2)
  clear T2
  go_wp2_with fail
  go_ret2
  exact ⟨rfl,HT2.out⟩
theorem dweigh_any (w:World) (hL:Lst w) {d:Nat} {L:List PRow} {q:Nat} (h:DctM w d L q) (k:ByteArray) (hk:k.size≤1099511627776) :
  Calls Tryd.prog 41 #[ptrV d,.string k] w fun e w'=>e=.returned (.tuple #[.int .i64 (findP k.toList L).1,.bool (findP k.toList L).2])∧Touch (fun _=>False) w w':=by
 obtain ⟨h1,wb,B,n,A,c,Z,wA,wc,oA,oc,O,hx⟩:=h
 exact dweigh_x w hL hx k hk
set_option maxRecDepth 100000 in
theorem dclone_any (w:World) {d:Nat} {L:List PRow} {q:Nat} (h:DctM w d L q) :
  Calls Tryd.prog 28 #[ptrV d] w fun e w'=>∃ d',e=.returned (ptrV d')∧DctM w' d' L q∧w.heap.size≤d'∧Touch (fun _=>False) w w':=by
 obtain ⟨h1,wb,B,n,A,c,Z,wA,wc,oA,oc,O,hx⟩:=h
 obtain ⟨x0,x1,x2⟩:=hx.blk.facts
 have HX:=hide hx
 clear hx
 go_enter Tryd.func28,Tryd.ntmps28
 go_wp2_with fail
 go_ret
 have hT:Touch (fun _=>False) w (w.alloc (.cells #[ptrV wb,.slice oA q oc,.int .i64 (L.length:Int)] 93)):=(Touch.refl _ _).alloc _
 have hq:=HX.out.quiet hT
 exact ⟨w.heap.size,rfl,⟨h1,wb,B,n,A,c,Z,wA,wc,oA,oc,O,⟨Blk.new _ _ _,hq.wk,hq.ov,hq.len,hq.few,hq.nil,hq.lay,Nat.lt_of_le_of_lt (Nat.zero_le _) x2⟩⟩,Nat.le_refl _,hT⟩
end Go.Proofs.YthockgmbooefpaaDoor
