/- What the law rests on, part 30. No condition but those that each theorem names. -/
import Derived.Test.YthockgmbooefpaaGreatDoorJ29
import Derived.Test.YthockgmbooefpaaGreatDoorJ18
set_option linter.unusedSectionVars false
set_option linter.unusedSimpArgs false
set_option linter.unusedVariables false
namespace Go.Proofs.YthockgmbooefpaaGreatDoor
open Go.RowKit Go.Shelf
def LoadPost (w:World) (L:List PRow) (e:Ending) (w':World):Prop :=
 (rightU L=false∧(∃ k:Int,(70≤k∧k=errU L)∧e=.returned (.tuple #[.pointer none,.int .i64 k]))∧Touch (fun _=>False) w w') ∨
 (rightU L=true∧∃ d,e=.returned (.tuple #[ptrV d,.int .i64 0])∧DctM w' d L 0∧w.heap.size≤d∧Touch (fun _=>False) w w')
set_option maxRecDepth 100000 in
set_option maxHeartbeats 4000000 in
theorem dload_any (w:World) (hL:Lst w) (s:SL) (hs:s.Ok w) (hWz:∀ r∈s.L,r.word.size≤1099511627776) (hn:s.n≤maxLen) :
  Calls Tryz.prog 11 #[s.val] w (LoadPost w s.L):=by
 have HFB:=hide (fbuild_any w hL s hs hWz hn)
 have HL:=hide hL
 have HSL:=hide hs.len
 obtain ⟨sA,sn,sc,sL⟩:=s
 simp only [SL.val] at HFB ⊢
 clear hs hWz hn hL
 go_enter Tryz.func11,Tryz.ntmps11
 go_wp2_with fail
 refine HFB.out.mono ?_
 rintro e w1 (⟨hr,k,hk,rfl,T1⟩ | ⟨hr,A,n,c,Z,rfl,hst,hz,_,T1⟩)
 ·have hT2:Touch (fun _=>False) w (w1.alloc (.cells #[.int .i64 0,.slice none 0 0] 89)):=T1.alloc _
  have k1:(k == 0)=false:=by simp;omega
  have k2:¬ k=0:=by omega
  have HT2:=hide hT2
  have HR:=hide (And.intro hr hk)
  clear hT2 T1 HFB hk hr
  go_wp2_with fail
  go_ret2
  exact .inl ⟨HR.out.1,⟨k,HR.out.2,rfl⟩,HT2.out⟩
 ·have hD:=dict_of_right hr
  obtain ⟨bs,hbs⟩:∃ b,b=(mach sL).base:=⟨_,rfl⟩
  obtain ⟨w2,hw2⟩:∃ x,x=w1.alloc (.cells #[.int .i64 bs,.slice A n c] 89):=⟨_,rfl⟩
  have hT12:Touch (fun _=>False) w1 w2:=by rw [hw2];exact (Touch.refl _ _).alloc _
  have hT2:Touch (fun _=>False) w w2:=T1.then hT12
  have hbM:Blk w2 w1.heap.size 89 #[.int .i64 bs,.slice A n c]:=by rw [hw2];exact Blk.new _ _ _
  have hdn:=dnew_any w2 (Lst.touch HL.out hT2) sL hD A n c Z (hst.quiet hT12) hz
  rw [← hbs] at hdn
  have HT2:=hide hT2
  have HW2:=hide hw2
  have HDN:=hide hdn
  have HD:=hide hD
  have HR:=hide hr
  obtain ⟨m0,m1,m2⟩:=hbM.facts
  rw [← hbs]
  clear hw2 hT2 T1 HFB hT12 hbM hdn hst hz hr hD hbs
  go_wp2_with fail
  rw [← HW2.out]
  go_wp2_with fail
  refine HDN.out.mono ?_
  rintro e w3 ⟨b,A',c',Z',wA,wc,rfl,hdw,hI⟩
  have HT3:=hide (HT2.out.then hI.touch)
  have HDW:=hide hdw
  clear hdw hI HDN m0 m1 m2
  go_wp2_with fail
  go_ret2
  have hT4:Touch (fun _=>False) w3 (w3.alloc (.cells #[ptrV b,.slice none 0 0,.int .i64 (sn:Int)] 96)):=(Touch.refl _ _).alloc _
  refine .inr ⟨HR.out,w3.heap.size,rfl,⟨Nat.zero_le _,_,_,_,_,_,_,_,_,none,0,[],⟨?_,HDW.out.quiet hT4,⟨Reads.nil _ _ _,fun h=>absurd h (by omega)⟩,rfl,by omega,fun _=>⟨rfl,rfl⟩,LayP.begin HD.out,?_⟩⟩,HT3.out.size,HT3.out.then hT4⟩
  ·have e:(sL.length:Int)=(sn:Int):=by have h0:sL.length=sn:=HSL.out;omega
   rw [e]
   exact Blk.new _ _ _
  ·exact Nat.lt_of_lt_of_le HL.out.1 HT3.out.size
set_option maxRecDepth 100000 in
theorem dnew14_any (w:World) (hL:Lst w) :
  Calls Tryz.prog 30 #[] w fun e w'=>∃ d,e=.returned (ptrV d)∧DctM w' d [] 0∧w.heap.size≤d∧Touch (fun _=>False) w w':=by
 have HLD:=hide (dload_any w hL ⟨none,0,0,[]⟩ ⟨rfl,Reads.nil _ _ _,fun _=>⟨rfl,rfl⟩⟩ (fun r hr=>by cases hr) (by unfold maxLen;simp only;omega))
 simp only [SL.val] at HLD
 clear hL
 go_enter Tryz.func30,Tryz.ntmps30
 go_wp2_with fail
 refine HLD.out.mono ?_
 rintro e w1 (⟨hr,_⟩ | ⟨_,d,rfl,hd,hdl,T1⟩)
 ·cases hr
 ·have HD:=hide hd
  have HDL:=hide hdl
  have HT1:=hide T1
  clear hd hdl T1 HLD
  go_wp2_with fail
  go_ret
  exact ⟨d,rfl,HD.out,HDL.out,HT1.out⟩
end Go.Proofs.YthockgmbooefpaaGreatDoor
namespace Go.Proofs.YthockgmbooefpaaGreatDoor
open Go.RowKit
structure OpD where
 kind:Int
 word:ByteArray
 n:Int
def OpD.zero:OpD:=⟨0,ByteArray.empty,0⟩
def OpD.cells (o:OpD):List Value:=[.int .i64 o.kind,.string o.word,.int .i64 o.n]
def OpD.val (o:OpD):Value:=.agg #[.int .i64 o.kind,.string o.word,.int .i64 o.n]
def OpD.Wf (o:OpD):Prop:=o.word.size≤1099511627776
end Go.Proofs.YthockgmbooefpaaGreatDoor
