/- What the law rests on, part 35. No condition but those that each theorem names. -/
import Derived.Test.YthockgmbooefpaaGreatDoorT32
import Derived.Test.YthockgmbooefpaaGreatDoorT34
import Derived.Test.YthockgmbooefpaaGreatDoorT17
set_option linter.unusedSectionVars false
set_option linter.unusedSimpArgs false
set_option linter.unusedVariables false
set_option maxRecDepth 100000
set_option maxHeartbeats 4000000
namespace Go.Proofs.YthockgmbooefpaaGreatDoor
open Go.RowKit Go.Shelf
def LoadPost (w:World) (L:List PRow) (e:Ending) (w':World):Prop :=
 (rightU L=false∧(∃ k:Int,(70≤k∧k=errU L)∧e=.returned (.tuple #[.pointer none,.int .i64 k]))∧Touch (fun _=>False) w w') ∨
 (rightU L=true∧∃ d,e=.returned (.tuple #[ptrV d,.int .i64 0])∧DctM w' d L 0∧w.heap.size≤d∧Touch (fun _=>False) w w')
theorem dload_any (w:World) (hL:Lst w) (s:SL) (hs:s.Ok w) (hWz:∀ r∈s.L,r.word.size≤1099511627776) (hn:s.n≤maxLen) :
  Calls Tryz.prog 11 #[s.val] w (LoadPost w s.L):=by
 have HFB:=hide (fbuild_any w hL s hs hWz hn)
 have HL:=hide hL
 have HSL:=hide hs.len
 obtain ⟨sA,sn,sc,sL⟩:=s
 simp only [SL.val] at HFB ⊢
 clear hs hWz hn hL
 go_enter Tryz.func11,Tryz.ntmps11
 go_wp2_with fail
 refine HFB.out.mono ?_
 rintro e w1 (⟨hr,k,hk,rfl,T1⟩ | ⟨hr,A,n,c,Z,rfl,hst,hz,_,T1⟩)
 ·have hT2:Touch (fun _=>False) w (w1.alloc (.cells #[.int .i64 0,.slice none 0 0] 89)):=T1.alloc _
  have k1:(k == 0)=false:=by simp;omega
  have k2:¬ k=0:=by omega
  have HT2:=hide hT2
  have HR:=hide (And.intro hr hk)
  clear hT2 T1 HFB hk hr
  go_wp2_with fail
  go_ret2
  exact .inl ⟨HR.out.1,⟨k,HR.out.2,rfl⟩,HT2.out⟩
 ·have hD:=dict_of_right hr
  obtain ⟨bs,hbs⟩:∃ b,b=(mach sL).base:=⟨_,rfl⟩
  obtain ⟨w2,hw2⟩:∃ x,x=w1.alloc (.cells #[.int .i64 bs,.slice A n c] 89):=⟨_,rfl⟩
  have hT12:Touch (fun _=>False) w1 w2:=by rw [hw2];exact (Touch.refl _ _).alloc _
  have hT2:Touch (fun _=>False) w w2:=T1.then hT12
  have hbM:Blk w2 w1.heap.size 89 #[.int .i64 bs,.slice A n c]:=by rw [hw2];exact Blk.new _ _ _
  have hdn:=dnew_any w2 (Lst.touch HL.out hT2) sL hD A n c Z (hst.quiet hT12) hz
  rw [← hbs] at hdn
  have HT2:=hide hT2
  have HW2:=hide hw2
  have HDN:=hide hdn
  have HD:=hide hD
  have HR:=hide hr
  obtain ⟨m0,m1,m2⟩:=hbM.facts
  rw [← hbs]
  clear hw2 hT2 T1 HFB hT12 hbM hdn hst hz hr hD hbs
  go_wp2_with fail
  rw [← HW2.out]
  go_wp2_with fail
  refine HDN.out.mono ?_
  rintro e w3 ⟨b,A',c',Z',wA,wc,rfl,hdw,hI⟩
  have HT3:=hide (HT2.out.then hI.touch)
  have HDW:=hide hdw
  clear hdw hI HDN m0 m1 m2
  go_wp2_with fail
  go_ret2
  have hT4:Touch (fun _=>False) w3 (w3.alloc (.cells #[ptrV b,.slice none 0 0,.int .i64 (sn:Int)] 96)):=(Touch.refl _ _).alloc _
  refine .inr ⟨HR.out,w3.heap.size,rfl,⟨Nat.zero_le _,_,_,_,_,_,_,_,_,none,0,[],⟨?_,HDW.out.quiet hT4,⟨Reads.nil _ _ _,fun h=>absurd h (by omega)⟩,rfl,by omega,fun _=>⟨rfl,rfl⟩,LayP.begin HD.out,?_⟩⟩,HT3.out.size,HT3.out.then hT4⟩
  ·have e:(sL.length:Int)=(sn:Int):=by have h0:sL.length=sn:=HSL.out;omega
   rw [e]
   exact Blk.new _ _ _
  ·exact Nat.lt_of_lt_of_le HL.out.1 HT3.out.size
theorem dnew14_any (w:World) (hL:Lst w) :
  Calls Tryz.prog 30 #[] w fun e w'=>∃ d,e=.returned (ptrV d)∧DctM w' d [] 0∧w.heap.size≤d∧Touch (fun _=>False) w w':=by
 have HLD:=hide (dload_any w hL ⟨none,0,0,[]⟩ ⟨rfl,Reads.nil _ _ _,fun _=>⟨rfl,rfl⟩⟩ (fun r hr=>by cases hr) (by unfold maxLen;simp only;omega))
 simp only [SL.val] at HLD
 clear hL
 go_enter Tryz.func30,Tryz.ntmps30
 go_wp2_with fail
 refine HLD.out.mono ?_
 rintro e w1 (⟨hr,_⟩ | ⟨_,d,rfl,hd,hdl,T1⟩)
 ·cases hr
 ·have HD:=hide hd
  have HDL:=hide hdl
  have HT1:=hide T1
  clear hd hdl T1 HLD
  go_wp2_with fail
  go_ret
  exact ⟨d,rfl,HD.out,HDL.out,HT1.out⟩
def sugP (L:List PRow) (a:List UInt8) (k y:Int):List MRow:=if levR a k=true then bestL (fzAllP L ((runesU a).getD []) (k.toNat+1)) (mostN y) else []
def sugE (a:List UInt8) (k:Int):Int:=if levR a k=true then 0 else 110
def SugPost (w:World) (L:List PRow) (a:List UInt8) (k y:Int) (e:Ending) (w':World):Prop :=
 ∃ A c,e=.returned (.tuple #[.slice A (sugP L a k y).length c,.int .i64 (sugE a k)])∧Reads w' 3 A (sugP L a k y).length (mCells (sugP L a k y))∧Touch (fun _=>False) w w'∧∀ g,adBlock A=some g→w.heap.size≤g
theorem sug_no {L:List PRow} {a:List UInt8} {k y:Int} (h:levR a k=false):sugP L a k y=[]∧sugE a k=110:=by
 unfold sugP sugE
 rw [h]
 exact ⟨rfl,rfl⟩
theorem sug_yes {L:List PRow} {a:List UInt8} {n:Nat} {y:Int} {X:List Nat} (h:levR a (n:Int)=true) (hX:runesU a=some X):sugP L a (n:Int) y=bestL (fzAllP L X (n+1)) (mostN y)∧sugE a (n:Int)=0:=by
 unfold sugP sugE
 rw [h,hX]
 exact ⟨rfl,rfl⟩
theorem dsug_any (w:World) (hL:Lst w) {d:Nat} {L:List PRow} {q:Nat} (h:DctM w d L q) (a:ByteArray) (ha:a.size≤9223372036854775807) (k y:Int) :
  Calls Tryz.prog 14 #[ptrV d,.agg #[.string a,.int .i64 k,.int .i64 y]] w (SugPost w L a.toList k y):=by
 obtain ⟨hq32,wb,B,nB,A,c,Z,wA,wc,oA,oc,O,hx⟩:=h
 obtain ⟨wa,hwa⟩:∃ z,z=w.alloc (.cells #[.string a,.int .i64 k,.int .i64 y] 24):=⟨_,rfl⟩
 obtain ⟨bb,hbb⟩:∃ z,z=w.heap.size:=⟨_,rfl⟩
 have hTa:Touch (fun _=>False) w wa:=by rw [hwa];exact (Touch.refl _ _).alloc _
 have hbB:Blk wa bb 24 #[.string a,.int .i64 k,.int .i64 y]:=by rw [hwa,hbb];exact Blk.new _ _ _
 obtain ⟨x0,x1,x2⟩:=(hx.blk.touch hTa (fun f=>f)).facts
 obtain ⟨b0,b1,b2⟩:=hbB.facts
 have HX:=hide hx
 have HL:=hide hL
 have HTA:=hide hTa
 have HBB:=hide hbB
 have HWA:=hide hwa
 have HB0:=hide hbb
 have HQ:=hide hq32
 clear hx hL hTa hbB hwa hbb hq32
 cases hlv:levR a.toList k with
 | false =>
  obtain ⟨e1,e2⟩:=sug_no (L:=L) (y:=y) hlv
  have HE:=hide (And.intro e1 e2)
  have HFZ:=hide (fun (wx:World) (T:Touch (fun _=>False) w wx)=>fzall_no wx (Lst.touch HL.out T) (some ⟨wb,0,none⟩) a k ha hlv)
  clear hlv e1 e2
  go_enter Tryz.func14,Tryz.ntmps14
  go_upto_region 1 with fail
  rw [← HWA.out,← HB0.out]
  have HKS:Hid (∀ wx,Touch (fun _=>False) wa wx→wx.cell? ⟨d,0,none⟩=some (ptrV wb)∧wx.cell? ⟨bb,0,none⟩=some (.string a)∧wx.cell? ⟨bb,1,none⟩=some (.int .i64 k)∧Touch (fun _=>False) w wx):=hide (fun wx T=>⟨((HX.out.blk.touch (HTA.out.then T) (fun f=>f)).cell 0).trans rfl,((HBB.out.touch T (fun f=>f)).cell 0).trans rfl,((HBB.out.touch T (fun f=>f)).cell 1).trans rfl,HTA.out.then T⟩)
  refine wp_region_held_drew (S:=fun wx=>wx.cell? ⟨d,0,none⟩=some (ptrV wb)∧wx.cell? ⟨bb,0,none⟩=some (.string a)∧wx.cell? ⟨bb,1,none⟩=some (.int .i64 k)∧Touch (fun _=>False) w wx) (by kernel_rfl) (HKS.out _ (Touch.refl _ _).drew) (fun hHeld=>?_)
  refine wpAnyH_take (i:=0) (v:=?va0) rfl (by kernel_rfl) (by kernel_rfl) (by kernel_rfl) (fun _ _ _ h=>h) (Or.inl ⟨by kernel_rfl,?ha0⟩) hHeld ?_
  case ha0=>rintro wq ⟨s0,s1,s2,s3⟩;go_simp;with_reducible rfl
  simp only [List.getElem_toArray,List.getElem_cons_succ,List.getElem_cons_zero,Act.put,List.setIfInBounds_toArray,List.set_cons_zero,List.set_cons_succ]
  refine wpAnyH_take (i:=1) (v:=?va1) rfl (by kernel_rfl) (by kernel_rfl) (by kernel_rfl) (fun _ _ _ h=>h) (Or.inl ⟨by kernel_rfl,?ha1⟩) hHeld ?_
  case ha1=>rintro wq ⟨s0,s1,s2,s3⟩;go_simp;with_reducible rfl
  simp only [List.getElem_toArray,List.getElem_cons_succ,List.getElem_cons_zero,Act.put,List.setIfInBounds_toArray,List.set_cons_zero,List.set_cons_succ]
  refine wpAnyH_take (i:=2) (v:=?va2) rfl (by kernel_rfl) (by kernel_rfl) (by kernel_rfl) (fun _ _ _ h=>h) (Or.inl ⟨by kernel_rfl,?ha2⟩) hHeld ?_
  case ha2=>rintro wq ⟨s0,s1,s2,s3⟩;go_simp;with_reducible rfl
  simp only [List.getElem_toArray,List.getElem_cons_succ,List.getElem_cons_zero,Act.put,List.setIfInBounds_toArray,List.set_cons_zero,List.set_cons_succ]
  refine wpAnyH_take (i:=3) (v:=?va3) rfl (by kernel_rfl) (by kernel_rfl) (by kernel_rfl) (fun _ _ _ h=>h) (Or.inl ⟨by kernel_rfl,?ha3⟩) hHeld ?_
  case ha3=>rintro wq ⟨s0,s1,s2,s3⟩;go_simp;with_reducible rfl
  simp only [List.getElem_toArray,List.getElem_cons_succ,List.getElem_cons_zero,Act.put,List.setIfInBounds_toArray,List.set_cons_zero,List.set_cons_succ]
  refine wpAnyH_take (i:=4) (v:=?va4) rfl (by kernel_rfl) (by kernel_rfl) (by kernel_rfl) (fun _ _ _ h=>h) (Or.inl ⟨by kernel_rfl,?ha4⟩) hHeld ?_
  case ha4=>rintro wq ⟨s0,s1,s2,s3⟩;go_simp;with_reducible rfl
  simp only [List.getElem_toArray,List.getElem_cons_succ,List.getElem_cons_zero,Act.put,List.setIfInBounds_toArray,List.set_cons_zero,List.set_cons_succ]
  refine wpAnyH_take (i:=5) (v:=?va5) rfl (by kernel_rfl) (by kernel_rfl) (by kernel_rfl) (fun _ _ _ h=>h) (Or.inl ⟨by kernel_rfl,?ha5⟩) hHeld ?_
  case ha5=>rintro wq ⟨s0,s1,s2,s3⟩;go_simp;with_reducible rfl
  simp only [List.getElem_toArray,List.getElem_cons_succ,List.getElem_cons_zero,Act.put,List.setIfInBounds_toArray,List.set_cons_zero,List.set_cons_succ]
  refine wpAnyH_take (i:=6) (v:=?va6) rfl (by kernel_rfl) (by kernel_rfl) (by kernel_rfl) (fun _ _ _ h=>h) (Or.inl ⟨by kernel_rfl,?ha6⟩) hHeld ?_
  case ha6=>rintro wq ⟨s0,s1,s2,s3⟩;go_simp;with_reducible rfl
  simp only [List.getElem_toArray,List.getElem_cons_succ,List.getElem_cons_zero,Act.put,List.setIfInBounds_toArray,List.set_cons_zero,List.set_cons_succ]
  refine wpAnyH_take (i:=7) (v:=?va7) rfl (by kernel_rfl) (by kernel_rfl) (by kernel_rfl) (fun _ _ _ h=>h) (Or.inl ⟨by kernel_rfl,?ha7⟩) hHeld ?_
  case ha7=>rintro wq ⟨s0,s1,s2,s3⟩;go_simp;with_reducible rfl
  simp only [List.getElem_toArray,List.getElem_cons_succ,List.getElem_cons_zero,Act.put,List.setIfInBounds_toArray,List.set_cons_zero,List.set_cons_succ]
  refine wpAnyH_ready (rs:=[8]) (by kernel_rfl) (by simp) ?_
  refine AllReadyH.cons rfl (fun K hK=>?_) AllReadyH.nil
  go_simp
  refine (HFZ.out _ (HTA.out.then (Touch.refl _ _).drew)).mono ?_
  rintro e w1 ⟨rfl,T1⟩
  have HTa1:=hide (((Touch.refl (fun _=>False) wa).drew).then T1)
  have HT1:=hide (HTA.out.then HTa1.out)
  clear T1
  go_simp
  refine hK.out _ _ (HKS.out _ HTa1.out) (fun hHeld=>?_)
  clear hK K
  try simp only [List.getElem_toArray,List.getElem_cons_succ,List.getElem_cons_zero,Act.put,List.setIfInBounds_toArray,List.set_cons_zero,List.set_cons_succ]
  refine wpAnyH_take (i:=9) (v:=?va9) rfl (by kernel_rfl) (by kernel_rfl) (by kernel_rfl) (fun _ _ _ h=>h) (Or.inl ⟨by kernel_rfl,?ha9⟩) hHeld ?_
  case ha9=>rintro wq ⟨s0,s1,s2,s3⟩;go_simp;with_reducible rfl
  simp only [List.getElem_toArray,List.getElem_cons_succ,List.getElem_cons_zero,Act.put,List.setIfInBounds_toArray,List.set_cons_zero,List.set_cons_succ]
  refine wpAnyH_take (i:=10) (v:=?va10) rfl (by kernel_rfl) (by kernel_rfl) (by kernel_rfl) (fun _ _ _ h=>h) (Or.inl ⟨by kernel_rfl,?ha10⟩) hHeld ?_
  case ha10=>rintro wq ⟨s0,s1,s2,s3⟩;go_simp;with_reducible rfl
  simp only [List.getElem_toArray,List.getElem_cons_succ,List.getElem_cons_zero,Act.put,List.setIfInBounds_toArray,List.set_cons_zero,List.set_cons_succ]
  refine wpAnyH_take (i:=11) (v:=?va11) rfl (by kernel_rfl) (by kernel_rfl) (by kernel_rfl) (fun _ _ _ h=>h) (Or.inl ⟨by kernel_rfl,?ha11⟩) hHeld ?_
  case ha11=>rintro wq ⟨s0,s1,s2,s3⟩;go_simp;with_reducible rfl
  simp only [List.getElem_toArray,List.getElem_cons_succ,List.getElem_cons_zero,Act.put,List.setIfInBounds_toArray,List.set_cons_zero,List.set_cons_succ]
  refine wpAnyH_take (i:=12) (v:=?va12) rfl (by kernel_rfl) (by kernel_rfl) (by kernel_rfl) (fun _ _ _ h=>h) (Or.inl ⟨by kernel_rfl,?ha12⟩) hHeld ?_
  case ha12=>rintro wq ⟨s0,s1,s2,s3⟩;go_simp;with_reducible rfl
  simp only [List.getElem_toArray,List.getElem_cons_succ,List.getElem_cons_zero,Act.put,List.setIfInBounds_toArray,List.set_cons_zero,List.set_cons_succ]
  refine wpAnyH_take (i:=13) (v:=?va13) rfl (by kernel_rfl) (by kernel_rfl) (by kernel_rfl) (fun _ _ _ h=>h) (Or.inl ⟨by kernel_rfl,?ha13⟩) hHeld ?_
  case ha13=>rintro wq ⟨s0,s1,s2,s3⟩;go_simp;with_reducible rfl
  simp only [List.getElem_toArray,List.getElem_cons_succ,List.getElem_cons_zero,Act.put,List.setIfInBounds_toArray,List.set_cons_zero,List.set_cons_succ]
  refine wpAnyH_done (by kernel_rfl) ?_ _
  clear x0 x1 x2 b0 b1 b2
  go_wp2_with fail
  go_ret2
  unfold SugPost
  rw [HE.out.1,HE.out.2]
  exact ⟨none,0,rfl,Reads.nil _ _ _,HT1.out,fun g h=>by cases h⟩
 | true =>
  obtain ⟨X,m,hX,hXl,ha96,rfl,hm⟩:=lev_parts hlv
  have has:a.size≤1099511627776:=by rw [← size_toList];omega
  obtain ⟨e1,e2⟩:=sug_yes (L:=L) (y:=y) hlv hX
  have HE:=hide (And.intro e1 e2)
  have hfB:(fzAllP B X (m+1)).length≤4096:=by have h1:=fz_len B X (m+1);have h2:=HX.out.lay.dB.len;omega
  have hfL:(fzAllP L X (m+1)).length≤4096:=by have h1:=fz_len L X (m+1);have h2:=HX.out.lay.dL.len;omega
  have HFZ:=hide (fun (wx:World) (T:Touch (fun _=>False) w wx)=>fzall_yes wx (Lst.touch HL.out T) HX.out.lay.dB (HX.out.wk.quiet T) a m has X hX hlv)
  have HMG:=hide (fun (wx:World) (T:Touch (fun _=>False) w wx) (A2:Option Addr) (c2:Nat) (hr:Reads wx 3 A2 (fzAllP B X (m+1)).length (mCells (fzAllP B X (m+1))))=>fmrg_yes wx (Lst.touch HL.out T) A2 (fzAllP B X (m+1)).length c2 (fzAllP B X (m+1)) rfl hr ⟨oA,q,oc,O⟩ ⟨HX.out.len,HX.out.ov.rd.touch T (fun _ _ f=>f),HX.out.nil⟩ (by have:=HX.out.few;simp only;omega) (fun r hr=>by
   have h1:=(HX.out.lay.ov.ok r hr).1
   unfold wordU at h1
   simp only [Bool.and_eq_true,decide_eq_true_eq] at h1
   have h2:=h1.1
   rw [size_toList] at h2
   omega) a m has X hX hlv)
  simp only [SL.val] at HMG
  have HEQ:Hid (∀ Y Z,Nrm O Y→m_SrtP Z→m_SameK (keptM Y (fzAllP B X (m+1))++overM a.toList (m:Int) Y) Z→Z=fzAllP L X (m+1)):=hide (by
   intro Y Z hY hZ hK
   have hlay:(nrmF (B++O)).filter keepP=L:=HX.out.lay.lay.symm
   have h1:=over_same HX.out.lay.dB hY (nrmF_nrm (B++O)) (by rw [hlay];exact HX.out.lay.dL) hX hXl m
   rw [hlay] at h1
   exact srtM_unique hZ (fz_sorted HX.out.lay.dL X (m+1)) (fun x=>(hK x).symm.trans (h1 x)))
  have HFL:=hide hfL
  have HXB:=hide HX.out.blk
  clear hlv e1 e2 hX hXl ha96 hm has hfB hfL
  go_enter Tryz.func14,Tryz.ntmps14
  go_upto_region 1 with fail
  rw [← HWA.out,← HB0.out]
  have HKS:Hid (∀ wx,Touch (fun _=>False) wa wx→wx.cell? ⟨d,0,none⟩=some (ptrV wb)∧wx.cell? ⟨bb,0,none⟩=some (.string a)∧wx.cell? ⟨bb,1,none⟩=some (.int .i64 (m:Int))∧Touch (fun _=>False) w wx):=hide (fun wx T=>⟨((HX.out.blk.touch (HTA.out.then T) (fun f=>f)).cell 0).trans rfl,((HBB.out.touch T (fun f=>f)).cell 0).trans rfl,((HBB.out.touch T (fun f=>f)).cell 1).trans rfl,HTA.out.then T⟩)
  refine wp_region_held_drew (S:=fun wx=>wx.cell? ⟨d,0,none⟩=some (ptrV wb)∧wx.cell? ⟨bb,0,none⟩=some (.string a)∧wx.cell? ⟨bb,1,none⟩=some (.int .i64 (m:Int))∧Touch (fun _=>False) w wx) (by kernel_rfl) (HKS.out _ (Touch.refl _ _).drew) (fun hHeld=>?_)
  refine wpAnyH_take (i:=0) (v:=?vb0) rfl (by kernel_rfl) (by kernel_rfl) (by kernel_rfl) (fun _ _ _ h=>h) (Or.inl ⟨by kernel_rfl,?hb0⟩) hHeld ?_
  case hb0=>rintro wq ⟨s0,s1,s2,s3⟩;go_simp;with_reducible rfl
  simp only [List.getElem_toArray,List.getElem_cons_succ,List.getElem_cons_zero,Act.put,List.setIfInBounds_toArray,List.set_cons_zero,List.set_cons_succ]
  refine wpAnyH_take (i:=1) (v:=?vb1) rfl (by kernel_rfl) (by kernel_rfl) (by kernel_rfl) (fun _ _ _ h=>h) (Or.inl ⟨by kernel_rfl,?hb1⟩) hHeld ?_
  case hb1=>rintro wq ⟨s0,s1,s2,s3⟩;go_simp;with_reducible rfl
  simp only [List.getElem_toArray,List.getElem_cons_succ,List.getElem_cons_zero,Act.put,List.setIfInBounds_toArray,List.set_cons_zero,List.set_cons_succ]
  refine wpAnyH_take (i:=2) (v:=?vb2) rfl (by kernel_rfl) (by kernel_rfl) (by kernel_rfl) (fun _ _ _ h=>h) (Or.inl ⟨by kernel_rfl,?hb2⟩) hHeld ?_
  case hb2=>rintro wq ⟨s0,s1,s2,s3⟩;go_simp;with_reducible rfl
  simp only [List.getElem_toArray,List.getElem_cons_succ,List.getElem_cons_zero,Act.put,List.setIfInBounds_toArray,List.set_cons_zero,List.set_cons_succ]
  refine wpAnyH_take (i:=3) (v:=?vb3) rfl (by kernel_rfl) (by kernel_rfl) (by kernel_rfl) (fun _ _ _ h=>h) (Or.inl ⟨by kernel_rfl,?hb3⟩) hHeld ?_
  case hb3=>rintro wq ⟨s0,s1,s2,s3⟩;go_simp;with_reducible rfl
  simp only [List.getElem_toArray,List.getElem_cons_succ,List.getElem_cons_zero,Act.put,List.setIfInBounds_toArray,List.set_cons_zero,List.set_cons_succ]
  refine wpAnyH_take (i:=4) (v:=?vb4) rfl (by kernel_rfl) (by kernel_rfl) (by kernel_rfl) (fun _ _ _ h=>h) (Or.inl ⟨by kernel_rfl,?hb4⟩) hHeld ?_
  case hb4=>rintro wq ⟨s0,s1,s2,s3⟩;go_simp;with_reducible rfl
  simp only [List.getElem_toArray,List.getElem_cons_succ,List.getElem_cons_zero,Act.put,List.setIfInBounds_toArray,List.set_cons_zero,List.set_cons_succ]
  refine wpAnyH_take (i:=5) (v:=?vb5) rfl (by kernel_rfl) (by kernel_rfl) (by kernel_rfl) (fun _ _ _ h=>h) (Or.inl ⟨by kernel_rfl,?hb5⟩) hHeld ?_
  case hb5=>rintro wq ⟨s0,s1,s2,s3⟩;go_simp;with_reducible rfl
  simp only [List.getElem_toArray,List.getElem_cons_succ,List.getElem_cons_zero,Act.put,List.setIfInBounds_toArray,List.set_cons_zero,List.set_cons_succ]
  refine wpAnyH_take (i:=6) (v:=?vb6) rfl (by kernel_rfl) (by kernel_rfl) (by kernel_rfl) (fun _ _ _ h=>h) (Or.inl ⟨by kernel_rfl,?hb6⟩) hHeld ?_
  case hb6=>rintro wq ⟨s0,s1,s2,s3⟩;go_simp;with_reducible rfl
  simp only [List.getElem_toArray,List.getElem_cons_succ,List.getElem_cons_zero,Act.put,List.setIfInBounds_toArray,List.set_cons_zero,List.set_cons_succ]
  refine wpAnyH_take (i:=7) (v:=?vb7) rfl (by kernel_rfl) (by kernel_rfl) (by kernel_rfl) (fun _ _ _ h=>h) (Or.inl ⟨by kernel_rfl,?hb7⟩) hHeld ?_
  case hb7=>rintro wq ⟨s0,s1,s2,s3⟩;go_simp;with_reducible rfl
  simp only [List.getElem_toArray,List.getElem_cons_succ,List.getElem_cons_zero,Act.put,List.setIfInBounds_toArray,List.set_cons_zero,List.set_cons_succ]
  refine wpAnyH_ready (rs:=[8]) (by kernel_rfl) (by simp) ?_
  refine AllReadyH.cons rfl (fun K hK=>?_) AllReadyH.nil
  go_simp
  refine (HFZ.out _ (HTA.out.then (Touch.refl _ _).drew)).mono ?_
  rintro e w1 ⟨A1,c1,rfl,ho1⟩
  have HTa1:=hide (((Touch.refl (fun _=>False) wa).drew).then ho1.touch)
  have HT1:=hide (HTA.out.then HTa1.out)
  have HO1:=hide ho1
  have HB1:=hide (HBB.out.touch HTa1.out (fun f=>f))
  clear ho1
  go_simp
  refine hK.out _ _ (HKS.out _ HTa1.out) (fun hHeld=>?_)
  clear hK K
  try simp only [List.getElem_toArray,List.getElem_cons_succ,List.getElem_cons_zero,Act.put,List.setIfInBounds_toArray,List.set_cons_zero,List.set_cons_succ]
  refine wpAnyH_take (i:=9) (v:=?vb9) rfl (by kernel_rfl) (by kernel_rfl) (by kernel_rfl) (fun _ _ _ h=>h) (Or.inl ⟨by kernel_rfl,?hb9⟩) hHeld ?_
  case hb9=>rintro wq ⟨s0,s1,s2,s3⟩;go_simp;with_reducible rfl
  simp only [List.getElem_toArray,List.getElem_cons_succ,List.getElem_cons_zero,Act.put,List.setIfInBounds_toArray,List.set_cons_zero,List.set_cons_succ]
  refine wpAnyH_take (i:=10) (v:=?vb10) rfl (by kernel_rfl) (by kernel_rfl) (by kernel_rfl) (fun _ _ _ h=>h) (Or.inl ⟨by kernel_rfl,?hb10⟩) hHeld ?_
  case hb10=>rintro wq ⟨s0,s1,s2,s3⟩;go_simp;with_reducible rfl
  simp only [List.getElem_toArray,List.getElem_cons_succ,List.getElem_cons_zero,Act.put,List.setIfInBounds_toArray,List.set_cons_zero,List.set_cons_succ]
  refine wpAnyH_take (i:=11) (v:=?vb11) rfl (by kernel_rfl) (by kernel_rfl) (by kernel_rfl) (fun _ _ _ h=>h) (Or.inl ⟨by kernel_rfl,?hb11⟩) hHeld ?_
  case hb11=>rintro wq ⟨s0,s1,s2,s3⟩;go_simp;with_reducible rfl
  simp only [List.getElem_toArray,List.getElem_cons_succ,List.getElem_cons_zero,Act.put,List.setIfInBounds_toArray,List.set_cons_zero,List.set_cons_succ]
  refine wpAnyH_take (i:=12) (v:=?vb12) rfl (by kernel_rfl) (by kernel_rfl) (by kernel_rfl) (fun _ _ _ h=>h) (Or.inl ⟨by kernel_rfl,?hb12⟩) hHeld ?_
  case hb12=>rintro wq ⟨s0,s1,s2,s3⟩;go_simp;with_reducible rfl
  simp only [List.getElem_toArray,List.getElem_cons_succ,List.getElem_cons_zero,Act.put,List.setIfInBounds_toArray,List.set_cons_zero,List.set_cons_succ]
  refine wpAnyH_take (i:=13) (v:=?vb13) rfl (by kernel_rfl) (by kernel_rfl) (by kernel_rfl) (fun _ _ _ h=>h) (Or.inl ⟨by kernel_rfl,?hb13⟩) hHeld ?_
  case hb13=>rintro wq ⟨s0,s1,s2,s3⟩;go_simp;with_reducible rfl
  simp only [List.getElem_toArray,List.getElem_cons_succ,List.getElem_cons_zero,Act.put,List.setIfInBounds_toArray,List.set_cons_zero,List.set_cons_succ]
  refine wpAnyH_done (by kernel_rfl) ?_ _
  clear x0 x1 x2 b0 b1 b2
  go_upto_region 4 with fail
  have HKT:Hid (∀ wx,Touch (fun _=>False) w1 wx→wx.cell? ⟨d,1,none⟩=some (.slice oA q oc)∧wx.cell? ⟨bb,0,none⟩=some (.string a)∧wx.cell? ⟨bb,1,none⟩=some (.int .i64 (m:Int))∧Touch (fun _=>False) w wx):=hide (fun wx T=>⟨((HX.out.blk.touch (HT1.out.then T) (fun f=>f)).cell 1).trans rfl,((HB1.out.touch T (fun f=>f)).cell 0).trans rfl,((HB1.out.touch T (fun f=>f)).cell 1).trans rfl,HT1.out.then T⟩)
  have HMG1:=hide (HMG.out w1.drew (HT1.out.then (Touch.refl _ _).drew) A1 c1 (Reads.of_own (HO1.out.to (Touch.refl _ _).drew).own))
  refine wp_region_held_drew (S:=fun wx=>wx.cell? ⟨d,1,none⟩=some (.slice oA q oc)∧wx.cell? ⟨bb,0,none⟩=some (.string a)∧wx.cell? ⟨bb,1,none⟩=some (.int .i64 (m:Int))∧Touch (fun _=>False) w wx) (by kernel_rfl) (HKT.out _ (Touch.refl _ _).drew) (fun hHeld=>?_)
  refine wpAnyH_take (i:=0) (v:=?vc0) rfl (by kernel_rfl) (by kernel_rfl) (by kernel_rfl) (fun _ _ _ h=>h) (Or.inl ⟨by kernel_rfl,?hc0⟩) hHeld ?_
  case hc0=>rintro wq ⟨s0,s1,s2,s3⟩;go_simp;with_reducible rfl
  simp only [List.getElem_toArray,List.getElem_cons_succ,List.getElem_cons_zero,Act.put,List.setIfInBounds_toArray,List.set_cons_zero,List.set_cons_succ]
  refine wpAnyH_take (i:=1) (v:=?vc1) rfl (by kernel_rfl) (by kernel_rfl) (by kernel_rfl) (fun _ _ _ h=>h) (Or.inl ⟨by kernel_rfl,?hc1⟩) hHeld ?_
  case hc1=>rintro wq ⟨s0,s1,s2,s3⟩;go_simp;with_reducible rfl
  simp only [List.getElem_toArray,List.getElem_cons_succ,List.getElem_cons_zero,Act.put,List.setIfInBounds_toArray,List.set_cons_zero,List.set_cons_succ]
  refine wpAnyH_take (i:=2) (v:=?vc2) rfl (by kernel_rfl) (by kernel_rfl) (by kernel_rfl) (fun _ _ _ h=>h) (Or.inl ⟨by kernel_rfl,?hc2⟩) hHeld ?_
  case hc2=>rintro wq ⟨s0,s1,s2,s3⟩;go_simp;with_reducible rfl
  simp only [List.getElem_toArray,List.getElem_cons_succ,List.getElem_cons_zero,Act.put,List.setIfInBounds_toArray,List.set_cons_zero,List.set_cons_succ]
  refine wpAnyH_take (i:=3) (v:=?vc3) rfl (by kernel_rfl) (by kernel_rfl) (by kernel_rfl) (fun _ _ _ h=>h) (Or.inl ⟨by kernel_rfl,?hc3⟩) hHeld ?_
  case hc3=>rintro wq ⟨s0,s1,s2,s3⟩;go_simp;with_reducible rfl
  simp only [List.getElem_toArray,List.getElem_cons_succ,List.getElem_cons_zero,Act.put,List.setIfInBounds_toArray,List.set_cons_zero,List.set_cons_succ]
  refine wpAnyH_take (i:=4) (v:=?vc4) rfl (by kernel_rfl) (by kernel_rfl) (by kernel_rfl) (fun _ _ _ h=>h) (Or.inl ⟨by kernel_rfl,?hc4⟩) hHeld ?_
  case hc4=>rintro wq ⟨s0,s1,s2,s3⟩;go_simp;with_reducible rfl
  simp only [List.getElem_toArray,List.getElem_cons_succ,List.getElem_cons_zero,Act.put,List.setIfInBounds_toArray,List.set_cons_zero,List.set_cons_succ]
  refine wpAnyH_take (i:=5) (v:=?vc5) rfl (by kernel_rfl) (by kernel_rfl) (by kernel_rfl) (fun _ _ _ h=>h) (Or.inl ⟨by kernel_rfl,?hc5⟩) hHeld ?_
  case hc5=>rintro wq ⟨s0,s1,s2,s3⟩;go_simp;with_reducible rfl
  simp only [List.getElem_toArray,List.getElem_cons_succ,List.getElem_cons_zero,Act.put,List.setIfInBounds_toArray,List.set_cons_zero,List.set_cons_succ]
  refine wpAnyH_take (i:=6) (v:=?vc6) rfl (by kernel_rfl) (by kernel_rfl) (by kernel_rfl) (fun _ _ _ h=>h) (Or.inl ⟨by kernel_rfl,?hc6⟩) hHeld ?_
  case hc6=>rintro wq ⟨s0,s1,s2,s3⟩;go_simp;with_reducible rfl
  simp only [List.getElem_toArray,List.getElem_cons_succ,List.getElem_cons_zero,Act.put,List.setIfInBounds_toArray,List.set_cons_zero,List.set_cons_succ]
  refine wpAnyH_take (i:=7) (v:=?vc7) rfl (by kernel_rfl) (by kernel_rfl) (by kernel_rfl) (fun _ _ _ h=>h) (Or.inl ⟨by kernel_rfl,?hc7⟩) hHeld ?_
  case hc7=>rintro wq ⟨s0,s1,s2,s3⟩;go_simp;with_reducible rfl
  simp only [List.getElem_toArray,List.getElem_cons_succ,List.getElem_cons_zero,Act.put,List.setIfInBounds_toArray,List.set_cons_zero,List.set_cons_succ]
  refine wpAnyH_take (i:=8) (v:=?vc8) rfl (by kernel_rfl) (by kernel_rfl) (by kernel_rfl) (fun _ _ _ h=>h) (Or.inl ⟨by kernel_rfl,?hc8⟩) hHeld ?_
  case hc8=>rintro wq ⟨s0,s1,s2,s3⟩;go_simp;with_reducible rfl
  simp only [List.getElem_toArray,List.getElem_cons_succ,List.getElem_cons_zero,Act.put,List.setIfInBounds_toArray,List.set_cons_zero,List.set_cons_succ]
  refine wpAnyH_ready (rs:=[9]) (by kernel_rfl) (by simp) ?_
  refine AllReadyH.cons rfl (fun K hK=>?_) AllReadyH.nil
  go_simp
  refine HMG1.out.mono ?_
  rintro e w2 ⟨A2,q2,c2,Y,Z2,rfl,N2,nr2,s2,k2⟩
  have hZ:=HEQ.out Y Z2 nr2 s2 k2
  subst hZ
  have HTb2:=hide (((Touch.refl (fun _=>False) w1).drew).then N2.touch)
  have HT2:=hide (HT1.out.then HTb2.out)
  have HB2:=hide (HB1.out.touch HTb2.out (fun f=>f))
  have hq2:=N2.len
  subst hq2
  have HSE:=hide (select_any w2 A2 _ c2 (fzAllP L X (m+1)) rfl (Reads.of_own N2.own) (by have:=HFL.out;unfold maxLen;omega) y)
  clear N2 nr2 s2 k2
  go_simp
  refine hK.out _ _ (HKT.out _ HTb2.out) (fun hHeld=>?_)
  clear hK K
  try simp only [List.getElem_toArray,List.getElem_cons_succ,List.getElem_cons_zero,Act.put,List.setIfInBounds_toArray,List.set_cons_zero,List.set_cons_succ]
  refine wpAnyH_take (i:=10) (v:=?vc10) rfl (by kernel_rfl) (by kernel_rfl) (by kernel_rfl) (fun _ _ _ h=>h) (Or.inl ⟨by kernel_rfl,?hc10⟩) hHeld ?_
  case hc10=>rintro wq ⟨s0,s1,s2,s3⟩;go_simp;with_reducible rfl
  simp only [List.getElem_toArray,List.getElem_cons_succ,List.getElem_cons_zero,Act.put,List.setIfInBounds_toArray,List.set_cons_zero,List.set_cons_succ]
  refine wpAnyH_take (i:=11) (v:=?vc11) rfl (by kernel_rfl) (by kernel_rfl) (by kernel_rfl) (fun _ _ _ h=>h) (Or.inl ⟨by kernel_rfl,?hc11⟩) hHeld ?_
  case hc11=>rintro wq ⟨s0,s1,s2,s3⟩;go_simp;with_reducible rfl
  simp only [List.getElem_toArray,List.getElem_cons_succ,List.getElem_cons_zero,Act.put,List.setIfInBounds_toArray,List.set_cons_zero,List.set_cons_succ]
  refine wpAnyH_take (i:=12) (v:=?vc12) rfl (by kernel_rfl) (by kernel_rfl) (by kernel_rfl) (fun _ _ _ h=>h) (Or.inl ⟨by kernel_rfl,?hc12⟩) hHeld ?_
  case hc12=>rintro wq ⟨s0,s1,s2,s3⟩;go_simp;with_reducible rfl
  simp only [List.getElem_toArray,List.getElem_cons_succ,List.getElem_cons_zero,Act.put,List.setIfInBounds_toArray,List.set_cons_zero,List.set_cons_succ]
  refine wpAnyH_take (i:=13) (v:=?vc13) rfl (by kernel_rfl) (by kernel_rfl) (by kernel_rfl) (fun _ _ _ h=>h) (Or.inl ⟨by kernel_rfl,?hc13⟩) hHeld ?_
  case hc13=>rintro wq ⟨s0,s1,s2,s3⟩;go_simp;with_reducible rfl
  simp only [List.getElem_toArray,List.getElem_cons_succ,List.getElem_cons_zero,Act.put,List.setIfInBounds_toArray,List.set_cons_zero,List.set_cons_succ]
  refine wpAnyH_take (i:=14) (v:=?vc14) rfl (by kernel_rfl) (by kernel_rfl) (by kernel_rfl) (fun _ _ _ h=>h) (Or.inl ⟨by kernel_rfl,?hc14⟩) hHeld ?_
  case hc14=>rintro wq ⟨s0,s1,s2,s3⟩;go_simp;with_reducible rfl
  simp only [List.getElem_toArray,List.getElem_cons_succ,List.getElem_cons_zero,Act.put,List.setIfInBounds_toArray,List.set_cons_zero,List.set_cons_succ]
  refine wpAnyH_done (by kernel_rfl) ?_ _
  obtain ⟨b0,b1,b2⟩:=HB2.out.facts
  go_wp2_with fail
  refine HSE.out.mono ?_
  rintro e w3 ⟨g3,m3,hm3,rfl,hg3,ho3,T3⟩
  have HG3:Hid (w.heap.size≤g3):=hide (Nat.le_trans HT2.out.size hg3)
  subst hm3
  have HT3:=hide (HT2.out.then T3)
  have HO3:=hide ho3
  clear T3 ho3 HSE
  go_wp2_with fail
  go_ret2
  unfold SugPost
  rw [HE.out.1,HE.out.2]
  exact ⟨_,_,rfl,Reads.of_own HO3.out,HT3.out,fun g h=>by simp [adBlock] at h;have:=HG3.out;omega⟩
theorem rbest_any (w:World) (A:Option Addr) (n c:Nat) (L:List MRow) (hL:L.length=n) (hR:Reads w 3 A n (mCells L)) (hn:n≤maxLen) (hW:∀ r∈L,r.WfB) (kk:Int) :
  Calls Tryz.prog 64 #[.slice A n c,.int .i64 kk] w (RbPost w L (mostN kk)):=by
 have hm:=mostN_int kk
 exact rbest_mid w A n c L hL hR hn hW kk (mostN kk) (mostN_le kk) (by omega)
theorem fz_wf {L:List PRow} (hD:DictP L) {X:List Nat} (hX:X.length≤24) (o:Nat):∀ r∈fzAllP L X o,r.WfB:=by
 intro r hr
 unfold fzAllP at hr
 obtain ⟨p,hp,hq⟩:=List.mem_filterMap.1 hr
 split at hq
 ·simp only [Option.some.injEq] at hq
  subst hq
  have h1:=dict_sizes hD p hp
  have h2:=hD.weight p hp
  have h3:=rowW_le X (wordR p)
  have h4:=(hD.word p hp).2.2.2
  exact ⟨by unfold maxLen;simp only;omega,by simp only;omega,by simp only;omega,by simp only;omega,by simp only;omega⟩
 ·cases hq
theorem rsug_any (w:World) (B0:Nat) (s:SL) {L:List PRow} (hs:RfL B0 w s L) (hD:DictP L) (a:ByteArray) (ha:a.size≤9223372036854775807) (k y:Int) :
  Calls Tryz.prog 21 #[s.val,.agg #[.string a,.int .i64 k,.int .i64 y]] w (SugPost w L a.toList k y):=by
 have hsl:=hs.ok.len
 have heq:=hs.eq
 obtain ⟨sA,sn,sc,sL⟩:=s
 simp only at heq hsl
 subst heq
 obtain ⟨wa,hwa⟩:∃ z,z=w.alloc (.cells #[.string a,.int .i64 k,.int .i64 y] 24):=⟨_,rfl⟩
 obtain ⟨bb,hbb⟩:∃ z,z=w.heap.size:=⟨_,rfl⟩
 have hTa:Touch (fun _=>False) w wa:=by rw [hwa];exact (Touch.refl _ _).alloc _
 have hbB:Blk wa bb 24 #[.string a,.int .i64 k,.int .i64 y]:=by rw [hwa,hbb];exact Blk.new _ _ _
 obtain ⟨b0,b1,b2⟩:=hbB.facts
 have HTA:=hide hTa
 have HBB:=hide hbB
 have HWA:=hide hwa
 have HB0:=hide hbb
 have HS:=hide hs
 have HD:=hide hD
 have HSL:=hide hsl
 simp only [SL.val]
 clear hTa hbB hwa hbb hs hD hsl
 cases hlv:levR a.toList k with
 | false =>
  obtain ⟨e1,e2⟩:=sug_no (L:=sL) (y:=y) hlv
  have HE:=hide (And.intro e1 e2)
  have HFZ:=hide (rall_no wa (.slice sA sn sc) a k ha hlv)
  clear hlv e1 e2
  go_enter Tryz.func21,Tryz.ntmps21
  go_upto_region 1 with fail
  rw [← HWA.out,← HB0.out]
  go_wp2_with fail
  refine HFZ.out.mono ?_
  rintro e w1 ⟨rfl,T1⟩
  have HT1:=hide (HTA.out.then T1)
  clear T1 b0 b1 b2
  go_wp2_with fail
  go_ret2
  unfold SugPost
  rw [HE.out.1,HE.out.2]
  exact ⟨none,0,rfl,Reads.nil _ _ _,HT1.out,fun g h=>by cases h⟩
 | true =>
  obtain ⟨X,m,hX,hXl,ha96,rfl,hm⟩:=lev_parts hlv
  have has:a.size≤1099511627776:=by rw [← size_toList];omega
  obtain ⟨e1,e2⟩:=sug_yes (L:=sL) (y:=y) hlv hX
  have HE:=hide (And.intro e1 e2)
  have hfL:(fzAllP sL X (m+1)).length≤4096:=by have h1:=fz_len sL X (m+1);have h2:=HD.out.len;omega
  have HFZ:=hide (rall_yes wa HD.out sA sn sc (HS.out.ok.reads.touch HTA.out (fun _ _ f=>f)) HSL.out a m has X hX hlv)
  have HWF:=hide (fz_wf HD.out hXl (m+1))
  have HFL:=hide hfL
  clear hlv e1 e2 hX hXl ha96 hm has hfL
  go_enter Tryz.func21,Tryz.ntmps21
  go_upto_region 1 with fail
  rw [← HWA.out,← HB0.out]
  go_wp2_with fail
  refine HFZ.out.mono ?_
  rintro e w1 ⟨A1,c1,rfl,ho1⟩
  have HT1:=hide (HTA.out.then ho1.touch)
  have HB1:=hide (HBB.out.touch ho1.touch (fun f=>f))
  have HSE:=hide (rbest_any w1 A1 _ c1 (fzAllP sL X (m+1)) rfl (Reads.of_own ho1.own) (by have:=HFL.out;unfold maxLen;omega) HWF.out y)
  clear b0 b1 b2 ho1
  obtain ⟨b0,b1,b2⟩:=HB1.out.facts
  go_wp2_with fail
  refine HSE.out.mono ?_
  rintro e w3 ⟨A3,m3,c3,hm3,_,_,rfl,R3,T3,F3⟩
  have HF3:=hide F3
  clear F3
  subst hm3
  have HT3:=hide (HT1.out.then T3)
  have HR3:=hide R3
  clear T3 R3 HSE
  go_wp2_with fail
  go_ret2
  unfold SugPost
  rw [HE.out.1,HE.out.2]
  exact ⟨A3,c3,rfl,HR3.out,HT3.out,fun g h=>Nat.le_trans HT1.out.size (HF3.out g h)⟩
end Go.Proofs.YthockgmbooefpaaGreatDoor
namespace Go.Proofs.YthockgmbooefpaaGreatDoor
open Go.RowKit
structure OpD where
 kind:Int
 word:ByteArray
 n:Int
def OpD.zero:OpD:=⟨0,ByteArray.empty,0⟩
def OpD.cells (o:OpD):List Value:=[.int .i64 o.kind,.string o.word,.int .i64 o.n]
def OpD.val (o:OpD):Value:=.agg #[.int .i64 o.kind,.string o.word,.int .i64 o.n]
def OpD.Wf (o:OpD):Prop:=o.word.size≤1099511627776
end Go.Proofs.YthockgmbooefpaaGreatDoor
