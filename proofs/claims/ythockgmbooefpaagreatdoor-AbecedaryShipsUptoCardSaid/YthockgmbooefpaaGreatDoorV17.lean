/- What the law rests on, part 17. No condition but those that each theorem names. -/
import Derived.Test.YthockgmbooefpaaGreatDoorV16
import Derived.Test.YthockgmbooefpaaGreatDoorV05
import Derived.Test.YthockgmbooefpaaGreatDoorV00
import Derived.Deep.RegionHeld3
import Derived.Deep.CutRange
set_option linter.unusedSectionVars false
set_option linter.unusedSimpArgs false
set_option linter.unusedVariables false
set_option maxRecDepth 100000
set_option maxHeartbeats 12000000
namespace Go.Proofs.YthockgmbooefpaaGreatDoor
open List renaming getElem_cons_succ → qQa, getElem_cons_zero → qZa, getElem_toArray → qXa, setIfInBounds_toArray → qJa, set_cons_succ → qQb, set_cons_zero → qZb
open Nat renaming lt_irrefl → qXb, add_assoc → qJb
variable{cs:Array Value}{L tL:List aD}{R:List aT}{c d g n q s tb tc tn:Nat}{A tA:Option Addr}{t:TypeId}{v v':Value}{W w w':World}{K:nX}
open Go.RowKit
section
open Go.RowKit Go.Shelf
def Zv(w:World)(L:List aD)(e:Ending)(w':World):Prop :=
 (gF L=false/\(∃ k:Int,(70<=k/\k=Ey L)/\e=.returned (.tuple #[.pointer none,.int .i64 k]))/\aC (λ_=>False) w w') \/
 (gF L=true/\∃ d,e=.returned (.tuple #[bB d,.int .i64 0])/\iK w' d L 0/\w.heap.size<=d/\aC (λ_=>False) w w')
theorem Ge(w:World)(hL:cV w)(s:SL)(hs:s.Ok w)(hWz:∀ r∈s.L,r.word.size<=1099511627776)(hn:s.n<=maxLen) :
  Calls Tryz.prog 11 #[s.val] w (Zv w s.L):=by
 have HFB:=aB (Bq w hL s hs hWz hn)
 have HL:=aB hL
 have HSL:=aB hs.len
 obtain⟨sA,sn,sc,sL⟩:=s
 simp only[SL.val] at HFB ⊢
 clear hs hWz hn hL
 go_in
 go_wp2_with fail
 refine HFB.mono ?_
 rintro e w1 (⟨hr,k,hk,rfl,T1⟩ | ⟨hr,A,n,c,Z,rfl,hst,hz,_,T1⟩)
 ·have hT2:aC (λ_=>False) w (w1.alloc (.cells #[.int .i64 0,.slice none 0 0] 89)):=T1.alloc _
  have k1:(k == 0)=false:=by simp;omega
  have k2:¬ k=0:=by omega
  have HT2:=aB hT2
  have HR:=aB (And.intro hr hk)
  clear hT2 T1 HFB hk hr
  go_wp2_with fail
  go_ret2
  exact .inl ⟨HR.1,⟨k,HR.2,rfl⟩,HT2⟩
 ·have hD:=sD hr
  obtain⟨bs,hbs⟩:=eX ((aR sL).base)
  obtain⟨w2,hw2⟩:=eX (w1.alloc (.cells #[.int .i64 bs,.slice A n c] 89))
  have hT12:aC (λ_=>False) w1 w2:=by rw[hw2];exact (aC.refl _ _).alloc _
  have hT2:aC (λ_=>False) w w2:=T1.then hT12
  have hbM:aL w2 w1.heap.size 89 #[.int .i64 bs,.slice A n c]:=by rw[hw2];exact aL.new _ _ _
  have hdn:=Bm w2 (cV.touch HL hT2) sL hD A n c Z (hst.quiet hT12) hz
  rw[<-hbs] at hdn
  have HT2:=aB hT2
  have HW2:=aB hw2
  have HDN:=aB hdn
  have HD:=aB hD
  have HR:=aB hr
  obtain⟨m0,m1,m2⟩:=hbM.facts
  rw[<-hbs]
  clear hw2 hT2 T1 HFB hT12 hbM hdn hst hz hr hD hbs
  go_wp2_with fail
  rw[<-HW2.out]
  go_wp2_with fail
  refine HDN.mono ?_
  rintro e w3 ⟨b,A',c',Z',wA,wc,rfl,hdw,hI⟩
  have HT3:=aB (HT2.then hI.touch)
  have HDW:=aB hdw
  clear hdw hI HDN m0 m1 m2
  go_wp2_with fail
  go_ret2
  have hT4:aC (λ_=>False) w3 (w3.alloc (.cells #[bB b,.slice none 0 0,.int .i64 (sn:Int)] 96)):=(aC.refl _ _).alloc _
  refine .inr ⟨HR,w3.heap.size,rfl,⟨Nat.zero_le _,_,_,_,_,_,_,_,_,none,0,[],⟨?_,HDW.quiet hT4,⟨aH.nil _ _ _,λh=>absurd h (by omega)⟩,rfl,by omega,λ_=>⟨rfl,rfl⟩,qE.begin HD,?_⟩⟩,HT3.size,HT3.then hT4⟩
  ·have e:(sL.length:Int)=(sn:Int):=by have h0:sL.length=sn:=HSL.out;omega
   rw[e]
   exact aL.new _ _ _
  ·exact Nat.lt_of_lt_of_le HL.1 HT3.size
theorem Qj(w:World)(hL:cV w) :
  Calls Tryz.prog 30 #[] w λe w'=>∃ d,e=.returned (bB d)/\iK w' d [] 0/\w.heap.size<=d/\aC (λ_=>False) w w':=by
 have HLD:=aB (Ge w hL ⟨none,0,0,[]⟩ ⟨rfl,aH.nil _ _ _,λ_=>⟨rfl,rfl⟩⟩ (λr hr=>by cases hr) (by unfold maxLen;simp only;omega))
 simp only[SL.val] at HLD
 clear hL
 go_in
 go_wp2_with fail
 refine HLD.mono ?_
 rintro e w1 (⟨hr,_⟩ | ⟨_,d,rfl,hd,hdl,T1⟩)
 ·cases hr
 ·have HD:=aB hd
  have HDL:=aB hdl
  have HT1:=aB T1
  clear hd hdl T1 HLD
  go_wp2_with fail
  go_ret
  exact⟨d,rfl,HD,HDL,HT1⟩
def zQ(L:List aD)(a:List UInt8)(k y:Int):List aE:=if nP a k=true then gU (cM L ((bZ a).getD []) (k.toNat+1)) (mF y) else []
def Om(a:List UInt8)(k:Int):Int:=if nP a k=true then 0 else 110
def jZ(w:World)(L:List aD)(a:List UInt8)(k y:Int)(e:Ending)(w':World):Prop :=
 ∃ A c,e=.returned (.tuple #[.slice A (zQ L a k y).length c,.int .i64 (Om a k)])/\aH w' 3 A (zQ L a k y).length (aW (zQ L a k y))/\aC (λ_=>False) w w'/\∀ g,aJ A=some g->w.heap.size<=g
theorem aEn{a:List UInt8}{k y:Int}(h:nP a k=false):zQ L a k y=[]/\Om a k=110:=by
 unfold zQ Om
 rw[h]
 exact⟨rfl,rfl⟩
theorem Uv{a:List UInt8}{y:Int}{X:List Nat}(h:nP a (n:Int)=true)(hX:bZ a=some X):zQ L a (n:Int) y=gU (cM L X (n+1)) (mF y)/\Om a (n:Int)=0:=by
 unfold zQ Om
 rw[h,hX]
 exact⟨rfl,rfl⟩
theorem aBd(w:World)(hL:cV w)(h:iK w d L q)(a:ByteArray)(ha:a.size<=9223372036854775807)(k y:Int) :
  Calls Tryz.prog 14 #[bB d,.agg #[.string a,.int .i64 k,.int .i64 y]] w (jZ w L a.toList k y):=by
 obtain⟨hq32,wb,B,nB,A,c,Z,wA,wc,oA,oc,O,hx⟩:=h
 obtain⟨wa,hwa⟩:=eX (w.alloc (.cells #[.string a,.int .i64 k,.int .i64 y] 24))
 obtain⟨bb,hbb⟩:=eX w.heap.size
 have hTa:aC (λ_=>False) w wa:=by rw[hwa];exact (aC.refl _ _).alloc _
 have hbB:aL wa bb 24 #[.string a,.int .i64 k,.int .i64 y]:=by rw[hwa,hbb];exact aL.new _ _ _
 obtain⟨x0,x1,x2⟩:=(hx.blk.touch hTa (λf=>f)).facts
 obtain⟨b0,b1,b2⟩:=hbB.facts
 have HX:=aB hx
 have HL:=aB hL
 have HTA:=aB hTa
 have HBB:=aB hbB
 have HWA:=aB hwa
 have HB0:=aB hbb
 have HQ:=aB hq32
 clear hx hL hTa hbB hwa hbb hq32
 cases hlv:nP a.toList k with
 | false =>
  obtain⟨e1,e2⟩:=aEn (L:=L) (y:=y) hlv
  have HE:=aB (And.intro e1 e2)
  have HFZ:=aB (λ(wx:World) (T:aC (λ_=>False) w wx)=>aBr wx (cV.touch HL T) (some ⟨wb,0,none⟩) a k ha hlv)
  clear hlv e1 e2
  go_in
  go_upto_region 1 with fail
  rw[<-HWA.out,<-HB0.out]
  have HKS:Hid (∀ wx,aC (λ_=>False) wa wx->wx.cell? ⟨d,0,none⟩=some (bB wb)/\wx.cell? ⟨bb,0,none⟩=some (.string a)/\wx.cell? ⟨bb,1,none⟩=some (.int .i64 k)/\aC (λ_=>False) w wx):=aB (λwx T=>⟨((HX.blk.touch (HTA.then T) (λf=>f)).cell 0).trans rfl,((HBB.touch T (λf=>f)).cell 0).trans rfl,((HBB.touch T (λf=>f)).cell 1).trans rfl,HTA.then T⟩)
  refine wp_region_held_drew (S:=λwx=>wx.cell? ⟨d,0,none⟩=some (bB wb)/\wx.cell? ⟨bb,0,none⟩=some (.string a)/\wx.cell? ⟨bb,1,none⟩=some (.int .i64 k)/\aC (λ_=>False) w wx) (by kernel_rfl) (HKS _ (aC.refl _ _).drew) (λhHeld=>?_)
  refine dF 0 ?_ rfl (by kernel_rfl) (λ_ _ _ h=>h) ?_ hHeld (dF 1 ?_ rfl (by kernel_rfl) (λ_ _ _ h=>h) ?_ hHeld (dF 2 ?_ rfl (by kernel_rfl) (λ_ _ _ h=>h) ?_ hHeld (dF 3 ?_ rfl (by kernel_rfl) (λ_ _ _ h=>h) ?_ hHeld (dF 4 ?_ rfl (by kernel_rfl) (λ_ _ _ h=>h) ?_ hHeld (dF 5 ?_ rfl (by kernel_rfl) (λ_ _ _ h=>h) ?_ hHeld (dF 6 ?_ rfl (by kernel_rfl) (λ_ _ _ h=>h) ?_ hHeld (dF 7 ?_ rfl (by kernel_rfl) (λ_ _ _ h=>h) ?_ hHeld ?_)))))))
  iterate 8 (rotate_left;try simp only[qXa,qQa,qZa,Act.put,qJa,qZb,qQb];rintro wq ⟨s0,s1,s2,s3⟩;go_simp;with_reducible rfl)
  simp only[qXa,qQa,qZa,Act.put,qJa,qZb,qQb]
  refine wpAnyH_ready (rs:=[8]) (by kernel_rfl) (by simp) ?_
  refine AllReadyH.cons rfl (λK hK=>?_) AllReadyH.nil
  go_simp
  refine (HFZ _ (HTA.then (aC.refl _ _).drew)).mono ?_
  rintro e w1 ⟨rfl,T1⟩
  have HTa1:=aB (((aC.refl (λ_=>False) wa).drew).then T1)
  have HT1:=aB (HTA.then HTa1)
  clear T1
  go_simp
  refine hK.out _ _ (HKS _ HTa1) (λhHeld=>?_)
  clear hK K
  try simp only[qXa,qQa,qZa,Act.put,qJa,qZb,qQb]
  refine dF 9 ?_ rfl (by kernel_rfl) (λ_ _ _ h=>h) ?_ hHeld (dF 10 ?_ rfl (by kernel_rfl) (λ_ _ _ h=>h) ?_ hHeld (dF 11 ?_ rfl (by kernel_rfl) (λ_ _ _ h=>h) ?_ hHeld (dF 12 ?_ rfl (by kernel_rfl) (λ_ _ _ h=>h) ?_ hHeld (dF 13 ?_ rfl (by kernel_rfl) (λ_ _ _ h=>h) ?_ hHeld ?_))))
  iterate 5 (rotate_left;try simp only[qXa,qQa,qZa,Act.put,qJa,qZb,qQb];rintro wq ⟨s0,s1,s2,s3⟩;go_simp;with_reducible rfl)
  simp only[qXa,qQa,qZa,Act.put,qJa,qZb,qQb]
  refine wpAnyH_done (by kernel_rfl) ?_ _
  clear x0 x1 x2 b0 b1 b2
  go_wp2_with fail
  go_ret2
  unfold jZ
  rw[HE.1,HE.2]
  exact⟨none,0,rfl,aH.nil _ _ _,HT1,λg h=>by cases h⟩
 | true =>
  obtain⟨X,m,hX,hXl,ha96,rfl,hm⟩:=Hb hlv
  have has:a.size<=1099511627776:=by rw[<-kU];omega
  obtain⟨e1,e2⟩:=Uv (L:=L) (y:=y) hlv hX
  have HE:=aB (And.intro e1 e2)
  have hfB:(cM B X (m+1)).length<=4096:=by have h1:=Qy B X (m+1);have h2:=HX.lay.dB.len;omega
  have hfL:(cM L X (m+1)).length<=4096:=by have h1:=Qy L X (m+1);have h2:=HX.lay.dL.len;omega
  have HFZ:=aB (λ(wx:World) (T:aC (λ_=>False) w wx)=>Wv wx (cV.touch HL T) HX.lay.dB (HX.wk.quiet T) a m has X hX hlv)
  have HMG:=aB (λ(wx:World) (T:aC (λ_=>False) w wx) (A2:Option Addr) (c2:Nat) (hr:aH wx 3 A2 (cM B X (m+1)).length (aW (cM B X (m+1))))=>aBl wx (cV.touch HL T) A2 (cM B X (m+1)).length c2 (cM B X (m+1)) rfl hr ⟨oA,q,oc,O⟩ ⟨HX.len,HX.ov.rd.touch T (λ_ _ f=>f),HX.nil⟩ (by have:=HX.few;simp only;omega) (λr hr=>by
   have h1:=(HX.lay.ov.ok r hr).1
   unfold cF at h1
   simp only[Bool.and_eq_true,decide_eq_true_eq] at h1
   have h2:=h1.1
   rw[kU] at h2
   omega) a m has X hX hlv)
  simp only[SL.val] at HMG
  have HEQ:Hid (∀ Y Z,qD O Y->bI Z->aU (sF Y (cM B X (m+1))++vD a.toList (m:Int) Y) Z->Z=cM L X (m+1)):=aB (by
   intro Y Z hY hZ hK
   have hlay:(Rp (B++O)).filter dM=L:=HX.lay.lay.symm
   have h1:=Yd HX.lay.dB hY (vB (B++O)) (by rw[hlay];exact HX.lay.dL) hX hXl m
   rw[hlay] at h1
   exact Nz hZ (Wu HX.lay.dL X (m+1)) (λx=>(hK x).symm.trans (h1 x)))
  have HFL:=aB hfL
  have HXB:=aB HX.blk
  clear hlv e1 e2 hX hXl ha96 hm has hfB hfL
  go_in
  go_upto_region 1 with fail
  rw[<-HWA.out,<-HB0.out]
  have HKS:Hid (∀ wx,aC (λ_=>False) wa wx->wx.cell? ⟨d,0,none⟩=some (bB wb)/\wx.cell? ⟨bb,0,none⟩=some (.string a)/\wx.cell? ⟨bb,1,none⟩=some (.int .i64 (m:Int))/\aC (λ_=>False) w wx):=aB (λwx T=>⟨((HX.blk.touch (HTA.then T) (λf=>f)).cell 0).trans rfl,((HBB.touch T (λf=>f)).cell 0).trans rfl,((HBB.touch T (λf=>f)).cell 1).trans rfl,HTA.then T⟩)
  refine wp_region_held_drew (S:=λwx=>wx.cell? ⟨d,0,none⟩=some (bB wb)/\wx.cell? ⟨bb,0,none⟩=some (.string a)/\wx.cell? ⟨bb,1,none⟩=some (.int .i64 (m:Int))/\aC (λ_=>False) w wx) (by kernel_rfl) (HKS _ (aC.refl _ _).drew) (λhHeld=>?_)
  refine dF 0 ?_ rfl (by kernel_rfl) (λ_ _ _ h=>h) ?_ hHeld (dF 1 ?_ rfl (by kernel_rfl) (λ_ _ _ h=>h) ?_ hHeld (dF 2 ?_ rfl (by kernel_rfl) (λ_ _ _ h=>h) ?_ hHeld (dF 3 ?_ rfl (by kernel_rfl) (λ_ _ _ h=>h) ?_ hHeld (dF 4 ?_ rfl (by kernel_rfl) (λ_ _ _ h=>h) ?_ hHeld (dF 5 ?_ rfl (by kernel_rfl) (λ_ _ _ h=>h) ?_ hHeld (dF 6 ?_ rfl (by kernel_rfl) (λ_ _ _ h=>h) ?_ hHeld (dF 7 ?_ rfl (by kernel_rfl) (λ_ _ _ h=>h) ?_ hHeld ?_)))))))
  iterate 8 (rotate_left;try simp only[qXa,qQa,qZa,Act.put,qJa,qZb,qQb];rintro wq ⟨s0,s1,s2,s3⟩;go_simp;with_reducible rfl)
  simp only[qXa,qQa,qZa,Act.put,qJa,qZb,qQb]
  refine wpAnyH_ready (rs:=[8]) (by kernel_rfl) (by simp) ?_
  refine AllReadyH.cons rfl (λK hK=>?_) AllReadyH.nil
  go_simp
  refine (HFZ _ (HTA.then (aC.refl _ _).drew)).mono ?_
  rintro e w1 ⟨A1,c1,rfl,ho1⟩
  have HTa1:=aB (((aC.refl (λ_=>False) wa).drew).then ho1.touch)
  have HT1:=aB (HTA.then HTa1)
  have HO1:=aB ho1
  have HB1:=aB (HBB.touch HTa1 (λf=>f))
  clear ho1
  go_simp
  refine hK.out _ _ (HKS _ HTa1) (λhHeld=>?_)
  clear hK K
  try simp only[qXa,qQa,qZa,Act.put,qJa,qZb,qQb]
  refine dF 9 ?_ rfl (by kernel_rfl) (λ_ _ _ h=>h) ?_ hHeld (dF 10 ?_ rfl (by kernel_rfl) (λ_ _ _ h=>h) ?_ hHeld (dF 11 ?_ rfl (by kernel_rfl) (λ_ _ _ h=>h) ?_ hHeld (dF 12 ?_ rfl (by kernel_rfl) (λ_ _ _ h=>h) ?_ hHeld (dF 13 ?_ rfl (by kernel_rfl) (λ_ _ _ h=>h) ?_ hHeld ?_))))
  iterate 5 (rotate_left;try simp only[qXa,qQa,qZa,Act.put,qJa,qZb,qQb];rintro wq ⟨s0,s1,s2,s3⟩;go_simp;with_reducible rfl)
  simp only[qXa,qQa,qZa,Act.put,qJa,qZb,qQb]
  refine wpAnyH_done (by kernel_rfl) ?_ _
  clear x0 x1 x2 b0 b1 b2
  go_upto_region 4 with fail
  have HKT:Hid (∀ wx,aC (λ_=>False) w1 wx->wx.cell? ⟨d,1,none⟩=some (.slice oA q oc)/\wx.cell? ⟨bb,0,none⟩=some (.string a)/\wx.cell? ⟨bb,1,none⟩=some (.int .i64 (m:Int))/\aC (λ_=>False) w wx):=aB (λwx T=>⟨((HX.blk.touch (HT1.then T) (λf=>f)).cell 1).trans rfl,((HB1.touch T (λf=>f)).cell 0).trans rfl,((HB1.touch T (λf=>f)).cell 1).trans rfl,HT1.then T⟩)
  have HMG1:=aB (HMG w1.drew (HT1.then (aC.refl _ _).drew) A1 c1 (aH.of_own (HO1.to (aC.refl _ _).drew).own))
  refine wp_region_held_drew (S:=λwx=>wx.cell? ⟨d,1,none⟩=some (.slice oA q oc)/\wx.cell? ⟨bb,0,none⟩=some (.string a)/\wx.cell? ⟨bb,1,none⟩=some (.int .i64 (m:Int))/\aC (λ_=>False) w wx) (by kernel_rfl) (HKT _ (aC.refl _ _).drew) (λhHeld=>?_)
  refine dF 0 ?_ rfl (by kernel_rfl) (λ_ _ _ h=>h) ?_ hHeld (dF 1 ?_ rfl (by kernel_rfl) (λ_ _ _ h=>h) ?_ hHeld (dF 2 ?_ rfl (by kernel_rfl) (λ_ _ _ h=>h) ?_ hHeld (dF 3 ?_ rfl (by kernel_rfl) (λ_ _ _ h=>h) ?_ hHeld (dF 4 ?_ rfl (by kernel_rfl) (λ_ _ _ h=>h) ?_ hHeld (dF 5 ?_ rfl (by kernel_rfl) (λ_ _ _ h=>h) ?_ hHeld (dF 6 ?_ rfl (by kernel_rfl) (λ_ _ _ h=>h) ?_ hHeld (dF 7 ?_ rfl (by kernel_rfl) (λ_ _ _ h=>h) ?_ hHeld (dF 8 ?_ rfl (by kernel_rfl) (λ_ _ _ h=>h) ?_ hHeld ?_))))))))
  iterate 9 (rotate_left;try simp only[qXa,qQa,qZa,Act.put,qJa,qZb,qQb];rintro wq ⟨s0,s1,s2,s3⟩;go_simp;with_reducible rfl)
  simp only[qXa,qQa,qZa,Act.put,qJa,qZb,qQb]
  refine wpAnyH_ready (rs:=[9]) (by kernel_rfl) (by simp) ?_
  refine AllReadyH.cons rfl (λK hK=>?_) AllReadyH.nil
  go_simp
  refine HMG1.mono ?_
  rintro e w2 ⟨A2,q2,c2,Y,Z2,rfl,N2,nr2,s2,k2⟩
  have hZ:=HEQ.out Y Z2 nr2 s2 k2
  subst hZ
  have HTb2:=aB (((aC.refl (λ_=>False) w1).drew).then N2.touch)
  have HT2:=aB (HT1.then HTb2)
  have HB2:=aB (HB1.touch HTb2 (λf=>f))
  have hq2:=N2.len
  subst hq2
  have HSE:=aB (Sl w2 A2 _ c2 (cM L X (m+1)) rfl (aH.of_own N2.own) (by have:=HFL.out;unfold maxLen;omega) y)
  clear N2 nr2 s2 k2
  go_simp
  refine hK.out _ _ (HKT _ HTb2) (λhHeld=>?_)
  clear hK K
  try simp only[qXa,qQa,qZa,Act.put,qJa,qZb,qQb]
  refine dF 10 ?_ rfl (by kernel_rfl) (λ_ _ _ h=>h) ?_ hHeld (dF 11 ?_ rfl (by kernel_rfl) (λ_ _ _ h=>h) ?_ hHeld (dF 12 ?_ rfl (by kernel_rfl) (λ_ _ _ h=>h) ?_ hHeld (dF 13 ?_ rfl (by kernel_rfl) (λ_ _ _ h=>h) ?_ hHeld (dF 14 ?_ rfl (by kernel_rfl) (λ_ _ _ h=>h) ?_ hHeld ?_))))
  iterate 5 (rotate_left;try simp only[qXa,qQa,qZa,Act.put,qJa,qZb,qQb];rintro wq ⟨s0,s1,s2,s3⟩;go_simp;with_reducible rfl)
  simp only[qXa,qQa,qZa,Act.put,qJa,qZb,qQb]
  refine wpAnyH_done (by kernel_rfl) ?_ _
  obtain⟨b0,b1,b2⟩:=HB2.facts
  go_wp2_with fail
  refine HSE.mono ?_
  rintro e w3 ⟨g3,m3,hm3,rfl,hg3,ho3,T3⟩
  have HG3:Hid (w.heap.size<=g3):=aB (Nat.le_trans HT2.size hg3)
  subst hm3
  have HT3:=aB (HT2.then T3)
  have HO3:=aB ho3
  clear T3 ho3 HSE
  go_wp2_with fail
  go_ret2
  unfold jZ
  rw[HE.1,HE.2]
  exact⟨_,_,rfl,aH.of_own HO3,HT3,λg h=>by simp[aJ] at h;have:=HG3.out;omega⟩
theorem Yl(w:World)(A:Option Addr)(n c:Nat)(L:List aE)(hL:L.length=n)(hR:aH w 3 A n (aW L))(hn:n<=maxLen)(hW:∀ r∈L,r.WfB)(kk:Int) :
  Calls Tryz.prog 64 #[.slice A n c,.int .i64 kk] w (Zx w L (mF kk)):=by
 have hm:=xE kk
 exact Ym w A n c L hL hR hn hW kk (mF kk) (uY kk) (by omega)
theorem aKp(hD:aZ L){X:List Nat}(hX:X.length<=24)(o:Nat):∀ r∈cM L X o,r.WfB:=by
 intro r hr
 unfold cM at hr
 obtain⟨p,hp,hq⟩:=List.mem_filterMap.1 hr
 split at hq
 ·simp only[Option.some.injEq] at hq
  subst hq
  have h1:=lT hD p hp
  have h2:=hD.weight p hp
  have h3:=Ur X (cZ p)
  have h4:=(hD.word p hp).2.2.2
  exact⟨by unfold maxLen;simp only;omega,by simp only;omega,by simp only;omega,by simp only;omega,by simp only;omega⟩
 ·cases hq
theorem Ns(w:World)(B0:Nat)(s:SL)(hs:mR B0 w s L)(hD:aZ L)(a:ByteArray)(ha:a.size<=9223372036854775807)(k y:Int) :
  Calls Tryz.prog 21 #[s.val,.agg #[.string a,.int .i64 k,.int .i64 y]] w (jZ w L a.toList k y):=by
 have hsl:=hs.ok.len
 have heq:=hs.eq
 obtain⟨sA,sn,sc,sL⟩:=s
 simp only at heq hsl
 subst heq
 obtain⟨wa,hwa⟩:=eX (w.alloc (.cells #[.string a,.int .i64 k,.int .i64 y] 24))
 obtain⟨bb,hbb⟩:=eX w.heap.size
 have hTa:aC (λ_=>False) w wa:=by rw[hwa];exact (aC.refl _ _).alloc _
 have hbB:aL wa bb 24 #[.string a,.int .i64 k,.int .i64 y]:=by rw[hwa,hbb];exact aL.new _ _ _
 obtain⟨b0,b1,b2⟩:=hbB.facts
 have HTA:=aB hTa
 have HBB:=aB hbB
 have HWA:=aB hwa
 have HB0:=aB hbb
 have HS:=aB hs
 have HD:=aB hD
 have HSL:=aB hsl
 simp only[SL.val]
 clear hTa hbB hwa hbb hs hD hsl
 cases hlv:nP a.toList k with
 | false =>
  obtain⟨e1,e2⟩:=aEn (L:=sL) (y:=y) hlv
  have HE:=aB (And.intro e1 e2)
  have HFZ:=aB (aHi wa (.slice sA sn sc) a k ha hlv)
  clear hlv e1 e2
  go_in
  go_upto_region 1 with fail
  rw[<-HWA.out,<-HB0.out]
  go_wp2_with fail
  refine HFZ.mono ?_
  rintro e w1 ⟨rfl,T1⟩
  have HT1:=aB (HTA.then T1)
  clear T1 b0 b1 b2
  go_wp2_with fail
  go_ret2
  unfold jZ
  rw[HE.1,HE.2]
  exact⟨none,0,rfl,aH.nil _ _ _,HT1,λg h=>by cases h⟩
 | true =>
  obtain⟨X,m,hX,hXl,ha96,rfl,hm⟩:=Hb hlv
  have has:a.size<=1099511627776:=by rw[<-kU];omega
  obtain⟨e1,e2⟩:=Uv (L:=sL) (y:=y) hlv hX
  have HE:=aB (And.intro e1 e2)
  have hfL:(cM sL X (m+1)).length<=4096:=by have h1:=Qy sL X (m+1);have h2:=HD.len;omega
  have HFZ:=aB (aDi wa HD sA sn sc (HS.ok.reads.touch HTA (λ_ _ f=>f)) HSL a m has X hX hlv)
  have HWF:=aB (aKp HD hXl (m+1))
  have HFL:=aB hfL
  clear hlv e1 e2 hX hXl ha96 hm has hfL
  go_in
  go_upto_region 1 with fail
  rw[<-HWA.out,<-HB0.out]
  go_wp2_with fail
  refine HFZ.mono ?_
  rintro e w1 ⟨A1,c1,rfl,ho1⟩
  have HT1:=aB (HTA.then ho1.touch)
  have HB1:=aB (HBB.touch ho1.touch (λf=>f))
  have HSE:=aB (Yl w1 A1 _ c1 (cM sL X (m+1)) rfl (aH.of_own ho1.own) (by have:=HFL.out;unfold maxLen;omega) HWF y)
  clear b0 b1 b2 ho1
  obtain⟨b0,b1,b2⟩:=HB1.facts
  go_wp2_with fail
  refine HSE.mono ?_
  rintro e w3 ⟨A3,m3,c3,hm3,_,_,rfl,R3,T3,F3⟩
  have HF3:=aB F3
  clear F3
  subst hm3
  have HT3:=aB (HT1.then T3)
  have HR3:=aB R3
  clear T3 R3 HSE
  go_wp2_with fail
  go_ret2
  unfold jZ
  rw[HE.1,HE.2]
  exact⟨A3,c3,rfl,HR3,HT3,λg h=>Nat.le_trans HT1.size (HF3 g h)⟩
end
structure OpD where
 kind:Int
 word:ByteArray
 n:Int
def OpD.zero:OpD:=⟨0,ByteArray.empty,0⟩
def OpD.cells(o:OpD):List Value:=[.int .i64 o.kind,.string o.word,.int .i64 o.n]
def OpD.val(o:OpD):Value:=.agg #[.int .i64 o.kind,.string o.word,.int .i64 o.n]
def OpD.Wf(o:OpD):Prop:=o.word.size<=1099511627776
structure cS where
 kind:Int
 sess:Int
 seq:Int
 word:ByteArray
 n:Int
def cS.zero:cS:=⟨0,0,0,ByteArray.empty,0⟩
def cS.cells(c:cS):List Value:=[.int .i64 c.kind,.int .u64 c.sess,.int .u64 c.seq,.string c.word,.int .i64 c.n]
def cS.val(c:cS):Value:=.agg #[.int .i64 c.kind,.int .u64 c.sess,.int .u64 c.seq,.string c.word,.int .i64 c.n]
def cS.Wf(c:cS):Prop:=c.word.size<=1099511627776
def kA(a:aT):Value:=.agg #[.int .i64 a.code,.int .u64 a.sess,.int .i64 a.had]
def doW(c:cS)(L:List aD):List aD:=if c.kind=2 then rY L c.word c.n else tH L c.word
def doH(c:cS)(L:List aD):Int:=if c.kind=2 then tP L c.word c.n else tG L c.word
def doE(c:cS)(L:List aD):Int:=if c.kind=2 then iV L c.word.toList c.n else lD L c.word.toList
def Ej(c:cS)(R:List aT):nX:=Ln (iG R c.sess) (Df R c.sess) c.seq
def Ei(c:cS)(L:List aD)(R:List aT):aT :=
 if c.kind=1 then (if R.length<4096 then ⟨0,0,(R.length:Int)+1,0⟩ else ⟨0,152,0,0⟩)
 else if c.kind=2\/c.kind=3 then
  (if ¬ (Ej c R).e=0 then ⟨0,(Ej c R).e,0,0⟩ else if (Ej c R).b=true then ⟨0,(Ej c R).c,(Ej c R).s,(Ej c R).h⟩ else ⟨0,doE c L,0,doH c L⟩)
 else ⟨0,161,0,0⟩
def kS(c:cS)(R:List aT):Bool:=decide (c.kind=2\/c.kind=3) && decide ((Ej c R).e=0) && !(Ej c R).b
def tY(c:cS)(L:List aD)(R:List aT):List aD:=if kS c R=true then doW c L else L
def sQ(c:cS)(L:List aD)(R:List aT):List aT :=
 if c.kind=1 then (if R.length<4096 then R++[aT.zero] else R)
 else if kS c R=true then R.set (c.sess-1).toNat ⟨c.seq,doE c L,0,doH c L⟩ else R
structure qG(w:World)(s d tb:Nat)(v:Value)(L:List aD)(q:Nat)(R:List aT):Prop where
 blk:aL w s 77 #[bB d,bB tb]
 dct:iK w d L q
 tab:vV w tb v R
 few:R.length<=4096
def stF(d tb:Nat)(v:Value):Nat->Prop:=λg=>g=d\/fp tb v g
theorem qG.quiet(h:qG w s d tb v L q R)(T:aC (λ_=>False) w w'):qG w' s d tb v L q R :=
 ⟨h.blk.touch T (λf=>f),h.dct.quiet T,h.tab.touch T (λf=>f) (λ_ _ f=>f),h.few⟩
theorem aFo{t:Bool}{r:aT}{sq:Int}(h:Ln t r sq=K)(he:K.e=0)(hb:K.b=false):t=true/\r.seq<sq/\K=⟨0,0,0,false,0⟩:=by
 subst h
 unfold Ln at he hb ⊢
 cases t with
 | false=>simp at he
 | true =>
  by_cases h1:sq=0\/sq<r.seq
  ·simp[h1] at he
  ·by_cases h2:sq=r.seq
   ·rw[if_neg (by simp),if_neg h1,if_pos h2] at hb
    simp at hb
   ·rw[if_neg (by simp),if_neg h1,if_neg h2]
    exact⟨rfl,by omega,rfl⟩
theorem aAz{c:cS}(hk:c.kind=2\/c.kind=3)(h:Ej c R=K)(he:¬ K.e=0):Ei c L R=⟨0,K.e,0,0⟩/\tY c L R=L/\sQ c L R=R:=by
 subst h
 have h1:¬ c.kind=1:=by omega
 have hg:kS c R=false:=by simp[kS,he]
 exact⟨by unfold Ei;rw[if_neg h1,if_pos hk,if_pos he],by unfold tY;rw[hg];rfl,by unfold sQ;rw[if_neg h1,hg];rfl⟩
theorem Lw{c:cS}(hk:c.kind=2\/c.kind=3)(h:Ej c R=K)(he:K.e=0)(hb:K.b=true):Ei c L R=⟨0,K.c,K.s,K.h⟩/\tY c L R=L/\sQ c L R=R:=by
 subst h
 have h1:¬ c.kind=1:=by omega
 have hg:kS c R=false:=by simp[kS,hb]
 exact⟨by unfold Ei;rw[if_neg h1,if_pos hk,if_neg (by omega),if_pos hb],by unfold tY;rw[hg];rfl,by unfold sQ;rw[if_neg h1,hg];rfl⟩
theorem aBa{c:cS}(hk:c.kind=2\/c.kind=3)(h:Ej c R=K)(he:K.e=0)(hb:K.b=false):Ei c L R=⟨0,doE c L,0,doH c L⟩/\tY c L R=doW c L/\sQ c L R=R.set (c.sess-1).toNat ⟨c.seq,doE c L,0,doH c L⟩:=by
 subst h
 have h1:¬ c.kind=1:=by omega
 have hg:kS c R=true:=by simp[kS,hb,he,hk]
 exact⟨by unfold Ei;rw[if_neg h1,if_pos hk,if_neg (by omega),hb];rfl,by unfold tY;rw[hg];rfl,by unfold sQ;rw[if_neg h1,hg];rfl⟩
theorem aBo(h:vV w tb v R)(hg:fp tb v g):bQ w g 149 \/ bQ w g 110 := by
 rcases hg with rfl | hg
 ·exact .inl (aG h.1)
 ·exact .inr (aM h.2 hg)
theorem oE(h:vV w tb v R)(hg:bQ w g t)(h1:t ≠ 149)(h2:t ≠ 110):¬ fp tb v g:=λf=>by
 rcases aBo h f with k | k
 ·exact hg.ne k h1 rfl
 ·exact hg.ne k h2 rfl
theorem aIk(h:vV w tb v R)(hg:fp tb v g):g<w.heap.size:=by
 rcases aBo h hg with k | k<;>exact k.lt
theorem qG.tabbed{R':List aT}(h:qG w s d tb v L q R)(T:aC (fp tb v) w w')(ht:vV w' tb v' R')(hn:R'.length<=4096):qG w' s d tb v' L q R' :=
 ⟨h.blk.touch T (oE h.tab (aG h.blk) (by decide) (by decide)),h.dct.far T (oE h.tab h.dct.ty (by decide) (by decide)) (λg t hg ht=>oE h.tab hg (by rcases ht with rfl | rfl | rfl | rfl | rfl<;>decide) (by rcases ht with rfl | rfl | rfl | rfl | rfl<;>decide)),ht,hn⟩
theorem qG.worded{L':List aD}{q':Nat}(h:qG w s d tb v L q R)(T:aC (λg=>g=d) w w')(hd:iK w' d L' q'):qG w' s d tb v L' q' R :=
 ⟨h.blk.touch T ((aG h.blk).ne h.dct.ty (by decide)),hd,h.tab.touch T ((aG h.tab.1).ne h.dct.ty (by decide)) (λg hg=>(aM h.tab.2 hg).ne h.dct.ty (by decide)),h.few⟩
def aCz(t:TypeId):Prop:=t ≠ 77 /\ t ≠ 96 /\ t ≠ 149 /\ t ≠ 110 /\ ¬ Lt t
theorem qG.off{S:Nat->Prop}(h:qG w s d tb v L q R)(T:aC S w w')(hS:∀ g,S g->∃ t,bQ w g t/\aCz t):qG w' s d tb v L q R:=by
 have key:∀ {g:Nat} {t:TypeId},bQ w g t->(t = 77 \/ t = 96 \/ t = 149 \/ t = 110 \/ Lt t)->¬ S g:=λ{g t} hg ht f=>by
  obtain⟨t',hg',o1,o2,o3,o4,o5⟩:=hS g f
  refine hg.ne hg' ?_ rfl
  rintro rfl
  rcases ht with e | e | e | e | e
  ·exact o1 e
  ·exact o2 e
  ·exact o3 e
  ·exact o4 e
  ·exact o5 e
 exact⟨h.blk.touch T (key (aG h.blk) (.inl rfl)),h.dct.far T (key h.dct.ty (.inr (.inl rfl))) (λg t hg ht=>key hg (.inr (.inr (.inr (.inr ht))))),h.tab.touch T (key (aG h.tab.1) (.inr (.inr (.inl rfl)))) (λg hg=>key (aM h.tab.2 hg) (.inr (.inr (.inr (.inl rfl))))),h.few⟩
theorem aHb:aCz 32 := by unfold aCz Lt;decide
theorem qG.ans(h:qG w s d tb v L q R)(hb:aL w g 32 cs)(T:aC (λk=>k=g) w w'):qG w' s d tb v L q R :=
 h.off T (λk e=>⟨_,e ▸ aG hb,aHb⟩)
theorem cK.of{wa:World}(h:cK wa v v')(hs:w.heap.size<=wa.heap.size):cK w v v':=h.imp id (λ⟨g,h1,h2⟩=>⟨g,h1,Nat.le_trans hs h2⟩)
theorem aJs(h:qG w s d tb v L q R)(hg:stF d tb v g):g<w.heap.size:=by
 rcases hg with rfl | hg
 ·exact h.dct.ty.lt
 ·exact aIk h.tab hg
theorem aEi(w:World)(hL:cV w):Calls Tryz.prog 9 #[] w λe w' =>
  ∃ s d tb,e=.returned (bB s)/\qG w' s d tb (.slice none 0 0) [] 0 []/\w.heap.size<=s/\w.heap.size<=d/\w.heap.size<=tb/\aC (λ_=>False) w w':=by
 have HL:=aB hL
 clear hL
 go_in
 go_wp2_with fail
 refine (Qj w HL).mono ?_
 rintro e w1 ⟨d,rfl,hd,hdw,T1⟩
 have HD:=aB hd
 have HDW:=aB hdw
 have HT1:=aB T1
 clear hd hdw T1
 go_wp2_with fail
 refine (aHs w1).mono ?_
 rintro e w2 ⟨rfl,ht,T2⟩
 have HTB:=aB ht
 have HT2:=aB T2
 clear ht T2
 obtain⟨tb,htb⟩:=eX w1.heap.size
 rw[<-htb] at HTB ⊢
 have HTE:=aB htb
 clear htb
 go_wp2_with fail
 go_ret
 have T12:=HT1.then HT2
 refine⟨w2.heap.size,d,tb,rfl,⟨aL.new _ _ _,(HD.quiet HT2).quiet ((aC.refl _ _).alloc _),HTB.alloc _,by simp⟩,T12.size,HDW,?_,T12.alloc _⟩
 rw[HTE.out]
 exact HT1.size
theorem aFr(w:World)(hL:cV w)(h:iK w d L q)(k:ByteArray)(hk:k.size<=1099511627776)(n:Int) :
  Calls Tryz.prog 34 #[bB d,.string k,.int .i64 n] w λe w'=>e=.returned (.tuple #[.int .i64 (tG L k),.int .i64 (lD L k.toList)])/\(∃ q',iK w' d (tH L k) q')/\aC (λg=>g=d) w w':=by
 have HC:=aB (Lx w hL h k hk)
 obtain⟨hh,hhh⟩:=eX (tG L k)
 obtain⟨ee,hee⟩:=eX (lD L k.toList)
 rw[<-hhh,<-hee] at HC ⊢
 clear hL h hhh hee
 go_in
 go_wp2_with fail
 refine HC.mono ?_
 rintro e w1 ⟨rfl,hq⟩
 have HQ:=aB hq
 clear hq
 go_wp2_with fail
 go_ret2
 exact⟨rfl,HQ⟩
theorem Nv(w:World)(hL:cV w)(h:iK w d L q)(kd sid sq:Int)(k:ByteArray)(hk:k.size<=1099511627776)(n:Int)(hkd:kd=2\/kd=3) :
  Calls Tryz.prog (if kd=2 then 32 else 34) #[bB d,.string k,.int .i64 n] w λe w'=>e=.returned (.tuple #[.int .i64 (doH ⟨kd,sid,sq,k,n⟩ L),.int .i64 (doE ⟨kd,sid,sq,k,n⟩ L)])/\(∃ q',iK w' d (doW ⟨kd,sid,sq,k,n⟩ L) q')/\aC (λg=>g=d) w w':=by
 rcases hkd with rfl | rfl
 ·exact aBc w hL h k hk n
 ·exact aFr w hL h k hk n
theorem eI(a b c:Value)(x y z:Value)(h:aL w g 32 #[x,y,z]):aL (((w.setCell ⟨g,0,none⟩ a).setCell ⟨g,1,none⟩ b).setCell ⟨g,2,none⟩ c) g 32 #[a,b,c]:=by
 have:=((h.set_ 0 a).set_ 1 b).set_ 2 c
 simpa using this
theorem Yx(w:World)(hL:cV w)(h:qG w s d tb v L q R)(sid sq n:Int)(kw:ByteArray)(hk:kw.size<=1099511627776)(kd:Int)(h1:¬ kd=1)(h2:¬ kd=2)(h3:¬ kd=3) :
  Calls Tryz.prog 10 #[bB s,.agg #[.int .i64 kd,.int .u64 sid,.int .u64 sq,.string kw,.int .i64 n]] w λe w'=>e=.returned (kA ⟨0,161,0,0⟩)/\aC (λ_=>False) w w':=by
 obtain⟨wa,hwa⟩:=eX ((w.alloc (.cells #[.int .i64 kd,.int .u64 sid,.int .u64 sq,.string kw,.int .i64 n] 29)).alloc (.cells #[.int .i64 0,.int .u64 0,.int .i64 0] 32))
 obtain⟨bb,hbb⟩:=eX w.heap.size
 obtain⟨ra,hra⟩:=eX (w.heap.size+1)
 have hTa:aC (λ_=>False) w wa:=by rw[hwa];exact ((aC.refl _ _).alloc _).alloc _
 have hbB:aL wa bb 29 #[.int .i64 kd,.int .u64 sid,.int .u64 sq,.string kw,.int .i64 n]:=by rw[hwa,hbb];exact (aL.new _ _ _).alloc _
 have hrB:aL wa ra 32 #[.int .i64 0,.int .u64 0,.int .i64 0]:=by
  have h1:=aL.new (w.alloc (.cells #[.int .i64 kd,.int .u64 sid,.int .u64 sq,.string kw,.int .i64 n] 29)) 32 #[.int .i64 0,.int .u64 0,.int .i64 0]
  rw[hwa,hra]
  simpa using h1
 have hsa:=h.quiet hTa
 have hLa:=cV.touch hL hTa
 have hbs:bb<wa.heap.size:=hbB.lt
 have hrs:ra<wa.heap.size:=hrB.lt
 have hba:w.heap.size<=bb:=by omega
 have hraw:w.heap.size<=ra:=by omega
 have hne:bb≠ra:=by omega
 have HT0:=aB h.tab
 have HX0:=aB h
 have HTA:=aB hTa
 have HBB:=aB hbB
 have HRB:=aB hrB
 have HWA:=aB hwa
 have HB0:=aB hbb
 have HR0:=aB hra
 have HSA:=aB hsa
 have HLA:=aB hLa
 have HNE:=aB hne
 have HBA:=aB hba
 have HRW:=aB hraw
 clear hwa hbb hra hTa h hL hsa hLa hbs hrs hba hraw hne
 obtain⟨b0,b1,b2⟩:=hbB.facts
 obtain⟨s0,s1,s2⟩:=HSA.blk.facts
 obtain⟨r0,r1,r2⟩:=hrB.facts
 clear hbB hrB
 go_in
 go_upto_region 1 with fail
 rw[<-HWA.out,<-HR0.out,<-HB0.out]
 go_wp2_with fail
 refine bodyPost_ret (v:=kA ⟨0,161,0,0⟩) (results_cell_row rfl _ _ ra 32 _ (0,0) _ rfl (eI _ _ _ _ _ _ HRB) Tryz.underlying32 rfl (by kernel_rfl)) rfl ?_
 exact⟨rfl,(((HTA.setCell (p:=⟨ra,_,none⟩) (λhx=>absurd hx (by have:=HRW.out;simp at hx;omega)) _).setCell (p:=⟨ra,_,none⟩) (λhx=>absurd hx (by have:=HRW.out;simp at hx;omega)) _).setCell (p:=⟨ra,_,none⟩) (λhx=>absurd hx (by have:=HRW.out;simp at hx;omega)) _)⟩
theorem aDz(w:World)(hL:cV w)(h:qG w s d tb v L q R)(sid sq n:Int)(kw:ByteArray)(hk:kw.size<=1099511627776)(hn:R.length=4096) :
  Calls Tryz.prog 10 #[bB s,.agg #[.int .i64 1,.int .u64 sid,.int .u64 sq,.string kw,.int .i64 n]] w λe w'=>e=.returned (kA ⟨0,152,0,0⟩)/\aC (λ_=>False) w w':=by
 obtain⟨wa,hwa⟩:=eX ((w.alloc (.cells #[.int .i64 1,.int .u64 sid,.int .u64 sq,.string kw,.int .i64 n] 29)).alloc (.cells #[.int .i64 0,.int .u64 0,.int .i64 0] 32))
 obtain⟨bb,hbb⟩:=eX w.heap.size
 obtain⟨ra,hra⟩:=eX (w.heap.size+1)
 have hTa:aC (λ_=>False) w wa:=by rw[hwa];exact ((aC.refl _ _).alloc _).alloc _
 have hbB:aL wa bb 29 #[.int .i64 1,.int .u64 sid,.int .u64 sq,.string kw,.int .i64 n]:=by rw[hwa,hbb];exact (aL.new _ _ _).alloc _
 have hrB:aL wa ra 32 #[.int .i64 0,.int .u64 0,.int .i64 0]:=by
  have h1:=aL.new (w.alloc (.cells #[.int .i64 1,.int .u64 sid,.int .u64 sq,.string kw,.int .i64 n] 29)) 32 #[.int .i64 0,.int .u64 0,.int .i64 0]
  rw[hwa,hra]
  simpa using h1
 have hsa:=h.quiet hTa
 have hLa:=cV.touch hL hTa
 have hbs:bb<wa.heap.size:=hbB.lt
 have hrs:ra<wa.heap.size:=hrB.lt
 have hba:w.heap.size<=bb:=by omega
 have hraw:w.heap.size<=ra:=by omega
 have hne:bb≠ra:=by omega
 have HT0:=aB h.tab
 have HX0:=aB h
 have HTA:=aB hTa
 have HBB:=aB hbB
 have HRB:=aB hrB
 have HWA:=aB hwa
 have HB0:=aB hbb
 have HR0:=aB hra
 have HSA:=aB hsa
 have HLA:=aB hLa
 have HNE:=aB hne
 have HBA:=aB hba
 have HRW:=aB hraw
 clear hwa hbb hra hTa h hL hsa hLa hbs hrs hba hraw hne
 obtain⟨b0,b1,b2⟩:=hbB.facts
 obtain⟨s0,s1,s2⟩:=HSA.blk.facts
 obtain⟨r0,r1,r2⟩:=hrB.facts
 clear hbB hrB
 go_in
 go_upto_region 1 with fail
 rw[<-HWA.out,<-HR0.out,<-HB0.out]
 go_wp2_with fail
 refine (aEc wa tb v R HSA.tab hn).mono ?_
 rintro e w1 ⟨rfl,rfl⟩
 go_wp2_with fail
 refine bodyPost_ret (v:=kA ⟨0,152,0,0⟩) (results_cell_row rfl _ _ ra 32 _ (0,0) _ rfl (eI _ _ _ _ _ _ HRB) Tryz.underlying32 rfl (by kernel_rfl)) rfl ?_
 exact⟨rfl,(((HTA.setCell (p:=⟨ra,_,none⟩) (λhx=>absurd hx (by have:=HRW.out;simp at hx;omega)) _).setCell (p:=⟨ra,_,none⟩) (λhx=>absurd hx (by have:=HRW.out;simp at hx;omega)) _).setCell (p:=⟨ra,_,none⟩) (λhx=>absurd hx (by have:=HRW.out;simp at hx;omega)) _)⟩
theorem aEa(w:World)(hL:cV w)(h:qG w s d tb v L q R)(sid sq n:Int)(kw:ByteArray)(hk:kw.size<=1099511627776)(hn:R.length<4096) :
  Calls Tryz.prog 10 #[bB s,.agg #[.int .i64 1,.int .u64 sid,.int .u64 sq,.string kw,.int .i64 n]] w λe w'=>e=.returned (kA ⟨0,0,(R.length:Int)+1,0⟩)/\(∃ v',qG w' s d tb v' L q (R++[aT.zero])/\cK w v v')/\aC (fp tb v) w w':=by
 obtain⟨wa,hwa⟩:=eX ((w.alloc (.cells #[.int .i64 1,.int .u64 sid,.int .u64 sq,.string kw,.int .i64 n] 29)).alloc (.cells #[.int .i64 0,.int .u64 0,.int .i64 0] 32))
 obtain⟨bb,hbb⟩:=eX w.heap.size
 obtain⟨ra,hra⟩:=eX (w.heap.size+1)
 have hTa:aC (λ_=>False) w wa:=by rw[hwa];exact ((aC.refl _ _).alloc _).alloc _
 have hbB:aL wa bb 29 #[.int .i64 1,.int .u64 sid,.int .u64 sq,.string kw,.int .i64 n]:=by rw[hwa,hbb];exact (aL.new _ _ _).alloc _
 have hrB:aL wa ra 32 #[.int .i64 0,.int .u64 0,.int .i64 0]:=by
  have h1:=aL.new (w.alloc (.cells #[.int .i64 1,.int .u64 sid,.int .u64 sq,.string kw,.int .i64 n] 29)) 32 #[.int .i64 0,.int .u64 0,.int .i64 0]
  rw[hwa,hra]
  simpa using h1
 have hsa:=h.quiet hTa
 have hLa:=cV.touch hL hTa
 have hbs:bb<wa.heap.size:=hbB.lt
 have hrs:ra<wa.heap.size:=hrB.lt
 have hba:w.heap.size<=bb:=by omega
 have hraw:w.heap.size<=ra:=by omega
 have hne:bb≠ra:=by omega
 have HT0:=aB h.tab
 have HX0:=aB h
 have HTA:=aB hTa
 have HBB:=aB hbB
 have HRB:=aB hrB
 have HWA:=aB hwa
 have HB0:=aB hbb
 have HR0:=aB hra
 have HSA:=aB hsa
 have HLA:=aB hLa
 have HNE:=aB hne
 have HBA:=aB hba
 have HRW:=aB hraw
 clear hwa hbb hra hTa h hL hsa hLa hbs hrs hba hraw hne
 obtain⟨b0,b1,b2⟩:=hbB.facts
 obtain⟨s0,s1,s2⟩:=HSA.blk.facts
 obtain⟨r0,r1,r2⟩:=hrB.facts
 clear hbB hrB
 go_in
 go_upto_region 1 with fail
 rw[<-HWA.out,<-HR0.out,<-HB0.out]
 have HLT:=aB (λg=>aIk (w:=w) (g:=g) HT0)
 go_wp2_with fail
 refine (aEe wa tb v R HSA.tab hn).mono ?_
 rintro e w1 ⟨rfl,v',ht,T1,hf⟩
 have HT1:=aB ((HTA.up _).then T1)
 have HF:=aB hf
 have HS1:=aB (HSA.tabbed T1 ht (by simp;omega))
 have HR1:=aB (HRB.touch T1 (λf=>by have:=HLT.out ra f;have:=HRW.out;omega))
 clear ht hf b0 b1 b2 s0 s1 s2 r0 r1 r2 T1
 obtain⟨r0,r1,r2⟩:=HR1.facts
 go_wp2_with fail
 refine bodyPost_ret (v:=kA ⟨0,0,(R.length:Int)+1,0⟩) (results_cell_row rfl _ _ ra 32 _ (0,0) _ rfl (eI _ _ _ _ _ _ HR1) Tryz.underlying32 rfl (by kernel_rfl)) rfl ?_
 refine⟨rfl,⟨v',HS1.ans HR1 (((((aC.refl (λk=>k=ra) w1).setCell (p:=⟨ra,_,none⟩) (λ_=>rfl) _).setCell (p:=⟨ra,_,none⟩) (λ_=>rfl) _).setCell (p:=⟨ra,_,none⟩) (λ_=>rfl) _)),HF.of HTA.size⟩,?_⟩
 exact (((HT1.setCell (p:=⟨ra,_,none⟩) (λhx=>absurd hx (by have:=HRW.out;simp at hx;omega)) _).setCell (p:=⟨ra,_,none⟩) (λhx=>absurd hx (by have:=HRW.out;simp at hx;omega)) _).setCell (p:=⟨ra,_,none⟩) (λhx=>absurd hx (by have:=HRW.out;simp at hx;omega)) _)
theorem aHr(w:World)(hL:cV w)(h:qG w s d tb v L q R)(sid sq n:Int)(kw:ByteArray)(hk:kw.size<=1099511627776)(kd:Int)(hkd:kd=2\/kd=3) :
  Calls Tryz.prog 10 #[bB s,.agg #[.int .i64 kd,.int .u64 sid,.int .u64 sq,.string kw,.int .i64 n]] w λe w'=>e=.returned (kA (Ei ⟨kd,sid,sq,kw,n⟩ L R))/\(∃ v',(∃ q',qG w' s d tb v' (tY ⟨kd,sid,sq,kw,n⟩ L R) q' (sQ ⟨kd,sid,sq,kw,n⟩ L R))/\cK w v v')/\aC (stF d tb v) w w':=by
 obtain⟨K,hK⟩:∃ K,Ej ⟨kd,sid,sq,kw,n⟩ R=K:=⟨_,rfl⟩
 have HE:=aB (λhe=>aAz (L:=L) hkd hK he)
 have HG:=aB (λhe hb=>Lw (L:=L) hkd hK he hb)
 have HN:=aB (λhe hb=>aBa (L:=L) hkd hK he hb)
 have HCH:=aB (λhe hb=>aFo (K:=K) hK he hb)
 have HDS:=aB (λ(wx:World) (hl:cV wx) (hd:iK wx d L q)=>Nv wx hl hd kd sid sq kw hk n hkd)
 obtain⟨hh,hhh⟩:=eX (doH ⟨kd,sid,sq,kw,n⟩ L)
 obtain⟨ee,hee⟩:=eX (doE ⟨kd,sid,sq,kw,n⟩ L)
 obtain⟨L2,hL2⟩:=eX (doW ⟨kd,sid,sq,kw,n⟩ L)
 simp only[<-hhh,<-hee,<-hL2] at HDS HN
 obtain⟨xA,hxA⟩:=eX (Ei ⟨kd,sid,sq,kw,n⟩ L R)
 obtain⟨xL,hxL⟩:=eX (tY ⟨kd,sid,sq,kw,n⟩ L R)
 obtain⟨xR,hxR⟩:=eX (sQ ⟨kd,sid,sq,kw,n⟩ L R)
 simp only[<-hxA,<-hxL,<-hxR] at HE HG HN ⊢
 clear hhh hee hL2 hxA hxL hxR
 have HLT:=aB (λg=>aJs (w:=w) (g:=g) h)
 obtain⟨wa,hwa⟩:=eX ((w.alloc (.cells #[.int .i64 kd,.int .u64 sid,.int .u64 sq,.string kw,.int .i64 n] 29)).alloc (.cells #[.int .i64 0,.int .u64 0,.int .i64 0] 32))
 obtain⟨bb,hbb⟩:=eX w.heap.size
 obtain⟨ra,hra⟩:=eX (w.heap.size+1)
 have hTa:aC (λ_=>False) w wa:=by rw[hwa];exact ((aC.refl _ _).alloc _).alloc _
 have hbB:aL wa bb 29 #[.int .i64 kd,.int .u64 sid,.int .u64 sq,.string kw,.int .i64 n]:=by rw[hwa,hbb];exact (aL.new _ _ _).alloc _
 have hrB:aL wa ra 32 #[.int .i64 0,.int .u64 0,.int .i64 0]:=by
  have h1:=aL.new (w.alloc (.cells #[.int .i64 kd,.int .u64 sid,.int .u64 sq,.string kw,.int .i64 n] 29)) 32 #[.int .i64 0,.int .u64 0,.int .i64 0]
  rw[hwa,hra]
  simpa using h1
 have hsa:=h.quiet hTa
 have hLa:=cV.touch hL hTa
 have hbs:bb<wa.heap.size:=hbB.lt
 have hrs:ra<wa.heap.size:=hrB.lt
 have hba:w.heap.size<=bb:=by omega
 have hraw:w.heap.size<=ra:=by omega
 have hne:bb≠ra:=by omega
 have HT0:=aB h.tab
 have HX0:=aB h
 have HTA:=aB hTa
 have HBB:=aB hbB
 have HRB:=aB hrB
 have HWA:=aB hwa
 have HB0:=aB hbb
 have HR0:=aB hra
 have HSA:=aB hsa
 have HLA:=aB hLa
 have HNE:=aB hne
 have HBA:=aB hba
 have HRW:=aB hraw
 clear hwa hbb hra hTa h hL hsa hLa hbs hrs hba hraw hne
 obtain⟨b0,b1,b2⟩:=hbB.facts
 obtain⟨s0,s1,s2⟩:=HSA.blk.facts
 obtain⟨r0,r1,r2⟩:=hrB.facts
 clear hbB hrB
 go_in
 go_upto_region 1 with fail
 rw[<-HWA.out,<-HR0.out,<-HB0.out]
 have HCK:=aB (λ(wx:World) (T:aC (λ_=>False) wa wx)=>Yy wx tb v R (HSA.quiet T).tab sid sq K hK)
 have HKS:Hid (∀ wx,aC (λ_=>False) wa wx->wx.cell? ⟨s,1,none⟩=some (bB tb)/\wx.cell? ⟨bb,1,none⟩=some (.int .u64 sid)/\wx.cell? ⟨bb,2,none⟩=some (.int .u64 sq)/\aC (λ_=>False) wa wx):=aB (λwx T=>⟨((HSA.blk.touch T (λf=>f)).cell 1).trans rfl,((HBB.touch T (λf=>f)).cell 1).trans rfl,((HBB.touch T (λf=>f)).cell 2).trans rfl,T⟩)
 clear hK
 obtain⟨kc,ks,kh,kb,ke⟩:=K
 simp only[nX.val] at HCK
 rcases hkd with rfl | rfl
 all_goals
  go_upto_region 10 with fail
  go_cut [8,9,10] from 31 to 43 (λs8 s9 s10 wx=>s9=.bool kb/\s10=.int .i64 ke/\Hid (∃ g,s8=.pointer (some ⟨g,0,none⟩)/\aL wx g 32 #[.int .i64 kc,.int .u64 ks,.int .i64 kh]/\wa.heap.size<=g/\aC (λ_=>False) wa wx))
  case first =>
   go_region_held3 (λw'=>w'.cell? ⟨s,1,none⟩=some (bB tb)/\w'.cell? ⟨bb,1,none⟩=some (.int .u64 sid)/\w'.cell? ⟨bb,2,none⟩=some (.int .u64 sq)/\aC (λ_=>False) wa w')
    (first
      | exact HKS _ (aC.refl _ _).drew
      | exact HKS _ ((aC.refl _ _).drew.alloc _)
      | exact HKS _ HT1
      | exact HKS _ (HT1.alloc _)
      | exact HKS _ (((HT1.setCell (p:=⟨wa.heap.size,_,none⟩) (λhx=>absurd hx (qXb _)) _).setCell (p:=⟨wa.heap.size,_,none⟩) (λhx=>absurd hx (qXb _)) _).setCell (p:=⟨wa.heap.size,_,none⟩) (λhx=>absurd hx (qXb _)) _)
      | exact HKS _ ((((HT1.alloc _).setCell (p:=⟨w1.heap.size,_,none⟩) (λhx=>absurd hx (by have:=HT1.size;simp at hx;omega)) _).setCell (p:=⟨w1.heap.size,_,none⟩) (λhx=>absurd hx (by have:=HT1.size;simp at hx;omega)) _).setCell (p:=⟨w1.heap.size,_,none⟩) (λhx=>absurd hx (by have:=HT1.size;simp at hx;omega)) _)
      | (trace_state;fail))
    (first
      | (go_simp;refine (HCK _ (aC.refl (λ_=>False) wa).drew).mono ?_;rintro e w1 ⟨rfl,T1⟩;have HT1:=aB ((aC.refl (λ_=>False) wa).drew.then T1);clear T1;go_simp)
      | (go_simp;refine (HCK _ ((aC.refl (λ_=>False) wa).drew.alloc _)).mono ?_;rintro e w1 ⟨rfl,T1⟩;have HT1:=aB (((aC.refl (λ_=>False) wa).drew.alloc _).then T1);have HG1:Hid (aL w1 wa.heap.size 32 #[.int .i64 0,.int .u64 0,.int .i64 0]):=aB ((aL.new wa.drew _ _).touch T1 (λf=>f));clear T1;obtain⟨g0,g1,g2⟩:=HG1.facts;go_simp))
   ·go_wp2_with fail
    go_meet
    case rel=>exact⟨rfl,rfl,aB ⟨_,rfl,(by first | exact aL.new _ _ _ | exact eI _ _ _ _ _ _ (aL.new _ _ _)),HT1.size,(by first | exact HT1.alloc _ | exact ((((HT1.alloc _).setCell (p:=⟨w1.heap.size,_,none⟩) (λhx=>absurd hx (by have:=HT1.size;simp at hx;omega)) _).setCell (p:=⟨w1.heap.size,_,none⟩) (λhx=>absurd hx (by have:=HT1.size;simp at hx;omega)) _).setCell (p:=⟨w1.heap.size,_,none⟩) (λhx=>absurd hx (by have:=HT1.size;simp at hx;omega)) _))⟩⟩
   ·go_wp2_with fail
    go_meet
    case rel=>exact⟨rfl,rfl,aB ⟨_,rfl,eI _ _ _ _ _ _ HG1,Nat.le_refl _,(((HT1.setCell (p:=⟨wa.heap.size,_,none⟩) (λhx=>absurd hx (qXb _)) _).setCell (p:=⟨wa.heap.size,_,none⟩) (λhx=>absurd hx (qXb _)) _).setCell (p:=⟨wa.heap.size,_,none⟩) (λhx=>absurd hx (qXb _)) _)⟩⟩
  case rest =>
   obtain⟨rfl,rfl,hcut⟩:=hcut
   obtain⟨g,rfl,hgb,hgl,T⟩:=hcut.out
   have HSC:=aB (HSA.quiet T)
   have HBC:=aB (HBB.touch T (λf=>f))
   have HRC:=aB (HRB.touch T (λf=>f))
   have HGC:=aB hgb
   have HGL:=aB hgl
   have HTC:=aB (HTA.then T)
   have HLC:=aB (cV.touch HLA T)
   have HGR:Hid (g≠ra):=aB (by have:=HRB.lt;omega)
   clear hcut hgb hgl T b0 b1 b2 s0 s1 s2 r0 r1 r2 HSA HBB HRB HKS HCK
   obtain⟨b0,b1,b2⟩:=HBC.facts
   obtain⟨s0,s1,s2⟩:=HSC.blk.facts
   obtain⟨r0,r1,r2⟩:=HRC.facts
   obtain⟨g0,g1,g2⟩:=HGC.facts
   by_cases he:ke=0
   ·subst he
    cases kb
    ·have HE3:=aB (HN rfl rfl)
     have HCN:=aB (HCH rfl rfl)
     obtain⟨-,-,hcn⟩:=HCN.out
     injection hcn with hc1 hc2 hc3 _ _
     subst hc1 hc2 hc3
     have hbd:¬ (bb=d\/bb=g):=λf=>f.elim (λe=>(aG HBC).ne HSC.dct.ty (by decide) e) (λe=>(aG HBC).ne (aG HGC) (by decide) e)
     have hsd:¬ (s=d\/s=g):=λf=>f.elim (λe=>(aG HSC.blk).ne HSC.dct.ty (by decide) e) (λe=>(aG HSC.blk).ne (aG HGC) (by decide) e)
     have hrd:¬ (ra=d\/ra=g):=λf=>f.elim (λe=>(aG HRC).ne HSC.dct.ty (by decide) e) (λe=>HGR.out e.symm)
     have hgd:¬ g=d:=λe=>(aG HGC).ne HSC.dct.ty (by decide) e
     have HKS:Hid (∀ wx,aC (λk=>k=d\/k=g) wc wx->wx.cell? ⟨s,0,none⟩=some (bB d)/\wx.cell? ⟨bb,3,none⟩=some (.string kw)/\wx.cell? ⟨bb,4,none⟩=some (.int .i64 n)/\aC (λk=>k=d\/k=g) wc wx):=aB (λwx T=>⟨((HSC.blk.touch T hsd).cell 0).trans rfl,((HBC.touch T hbd).cell 3).trans rfl,((HBC.touch T hbd).cell 4).trans rfl,T⟩)
     have HBD:=aB hbd
     have HSD:=aB hsd
     have HRD:=aB hrd
     have HGD:=aB hgd
     clear hbd hsd hrd hgd
     go_upto_region 14 with fail
     go_region_held3 (λw'=>w'.cell? ⟨s,0,none⟩=some (bB d)/\w'.cell? ⟨bb,3,none⟩=some (.string kw)/\w'.cell? ⟨bb,4,none⟩=some (.int .i64 n)/\aC (λk=>k=d\/k=g) wc w')
      (first
        | exact HKS _ (aC.refl _ _).drew
        | exact HKS _ HT2
        | exact HKS _ (HT2.setCell (p:=⟨g,_,none⟩) (λ_=>.inr rfl) _)
        | exact HKS _ ((HT2.setCell (p:=⟨g,_,none⟩) (λ_=>.inr rfl) _).setCell (p:=⟨g,_,none⟩) (λ_=>.inr rfl) _)
        | (trace_state;fail))
      (first
        | (go_simp;refine (HDS wc.drew (cV.touch HLC (aC.refl _ _).drew) (HSC.quiet (aC.refl _ _).drew).dct).mono ?_;rintro e w2 ⟨rfl,⟨q2,hd2⟩,T2⟩;have HD2:=aB hd2;have HTd:=aB ((aC.refl (λk=>k=d) wc).drew.then T2);have HT2:=aB (HTd.mono (λ_ _ e=>Or.inl e):aC (λk=>k=d\/k=g) wc w2);have HG2:=aB (HGC.touch HTd HGD);clear hd2 T2 g0 g1 g2;obtain⟨g0,g1,g2⟩:=HG2.facts;go_simp))
     obtain⟨w3,hw3⟩:=eX ((w2.setCell ⟨g,2,none⟩ (.int .i64 hh)).setCell ⟨g,0,none⟩ (.int .i64 ee))
     have hg3:aL w3 g 32 #[.int .i64 ee,.int .u64 0,.int .i64 hh]:=by
      rw[hw3]
      have h1:=(HG2.set_ 2 (.int .i64 hh)).set_ 0 (.int .i64 ee)
      simpa using h1
     have ht23:aC (λk=>k=g) w2 w3:=by rw[hw3];exact ((aC.refl (λk=>k=g) w2).setCell (p:=⟨g,_,none⟩) (λ_=>rfl) _).setCell (p:=⟨g,_,none⟩) (λ_=>rfl) _
     have hs3:qG w3 s d tb v L2 q2 R:=(HSC.worded HTd HD2).ans HG2 ht23
     have htd3:aC (λk=>k=d\/k=g) wc w3:=HT2.trans ht23 (λ_ _ e=>.inr e)
     have HB3:=aB (HBC.touch htd3 HBD)
     have HR3:=aB (HRC.touch htd3 HRD)
     have HT3:Hid (aC (stF d tb v) w w3):=aB ((HTC.up _).trans htd3 (λi hi e=>e.elim (λe=>.inl e) (λe=>absurd hi (by have h1:=HGL.out;have h2:=HTA.size;omega))))
     have HG3:=aB hg3
     have HS3:=aB hs3
     have hkeep:Mf R sid sq=true:=by
      unfold Mf
      rw[HCN.1]
      simpa using HCN.2.1
     have HKP:=aB hkeep
     have HK4:Hid (∀ wx,aC (fp tb v) w3 wx->wx.cell? ⟨s,1,none⟩=some (bB tb)/\wx.cell? ⟨bb,1,none⟩=some (.int .u64 sid)/\wx.cell? ⟨bb,2,none⟩=some (.int .u64 sq)/\wx.cell? ⟨g,0,none⟩=some (.int .i64 ee)/\wx.cell? ⟨g,1,none⟩=some (.int .u64 0)/\wx.cell? ⟨g,2,none⟩=some (.int .i64 hh)/\aC (fp tb v) w3 wx):=aB (λwx T=>by
      have e1:=HS3.blk.touch T (oE HS3.tab (aG HS3.blk) (by decide) (by decide))
      have e2:=HB3.touch T (oE HS3.tab (aG HB3) (by decide) (by decide))
      have e3:=HG3.touch T (oE HS3.tab (aG HG3) (by decide) (by decide))
      exact⟨(e1.cell 1).trans rfl,(e2.cell 1).trans rfl,(e2.cell 2).trans rfl,(e3.cell 0).trans rfl,(e3.cell 1).trans rfl,(e3.cell 2).trans rfl,T⟩)
     rw[<-hw3]
     clear hw3 hg3 ht23 hs3 htd3 hkeep b0 b1 b2 s0 s1 s2 r0 r1 r2 g0 g1 g2
     go_upto_region 15 with fail
     go_region_held3 (λw'=>w'.cell? ⟨s,1,none⟩=some (bB tb)/\w'.cell? ⟨bb,1,none⟩=some (.int .u64 sid)/\w'.cell? ⟨bb,2,none⟩=some (.int .u64 sq)/\w'.cell? ⟨g,0,none⟩=some (.int .i64 ee)/\w'.cell? ⟨g,1,none⟩=some (.int .u64 0)/\w'.cell? ⟨g,2,none⟩=some (.int .i64 hh)/\aC (fp tb v) w3 w')
      (first
        | exact HK4 _ (aC.refl _ _).drew
        | exact HK4 _ HT4
        | (trace_state;fail))
      (first
        | (go_simp;refine (Kb w3.drew tb v R (HS3.quiet (aC.refl _ _).drew).tab sid sq ⟨0,ee,0,hh⟩ HKP).mono ?_;rintro e w4 ⟨rfl,ht4,T4⟩;have HTB4:=aB ht4;have HT4:=aB ((aC.refl (fp tb v) w3).drew.then T4);have HG4:=aB (HG3.touch HT4 (oE HS3.tab (aG HG3) (by decide) (by decide)));have HR4:=aB (HR3.touch HT4 (oE HS3.tab (aG HR3) (by decide) (by decide)));clear ht4 T4;obtain⟨g0,g1,g2⟩:=HG4.facts;obtain⟨r0,r1,r2⟩:=HR4.facts;go_simp))
     go_wp2_with fail
     refine bodyPost_ret (v:=kA ⟨0,ee,0,hh⟩) (results_cell_row rfl _ _ ra 32 _ (0,0) _ rfl (eI _ _ _ _ _ _ HR4) Tryz.underlying32 rfl (by kernel_rfl)) rfl ?_
     exact⟨by rw[HE3.1],⟨v,⟨q2,by rw[HE3.2.1,HE3.2.2];exact (HS3.tabbed HT4 HTB4 (by simp;exact HS3.few)).ans HR4 (((((aC.refl (λk=>k=ra) w4).setCell (p:=⟨ra,_,none⟩) (λ_=>rfl) _).setCell (p:=⟨ra,_,none⟩) (λ_=>rfl) _).setCell (p:=⟨ra,_,none⟩) (λ_=>rfl) _))⟩,.inl rfl⟩,((((HT3.trans HT4 (λi hi e=>.inr e)).setCell (p:=⟨ra,_,none⟩) (λhx=>absurd hx (by have:=HRW.out;simp at hx;omega)) _).setCell (p:=⟨ra,_,none⟩) (λhx=>absurd hx (by have:=HRW.out;simp at hx;omega)) _).setCell (p:=⟨ra,_,none⟩) (λhx=>absurd hx (by have:=HRW.out;simp at hx;omega)) _)⟩
    ·have HE3:=aB (HG rfl rfl)
     go_wp2_with fail
     refine bodyPost_ret (v:=kA ⟨0,kc,ks,kh⟩) (results_cell_row rfl _ _ ra 32 _ (0,0) _ rfl (eI _ _ _ _ _ _ HRC) Tryz.underlying32 rfl (by kernel_rfl)) rfl ?_
     exact⟨by rw[HE3.1],⟨v,⟨q,by rw[HE3.2.1,HE3.2.2];exact HSC.ans HRC (((((aC.refl (λk=>k=ra) wc).setCell (p:=⟨ra,_,none⟩) (λ_=>rfl) _).setCell (p:=⟨ra,_,none⟩) (λ_=>rfl) _).setCell (p:=⟨ra,_,none⟩) (λ_=>rfl) _))⟩,.inl rfl⟩,((((HTC.up _).setCell (p:=⟨ra,_,none⟩) (λhx=>absurd hx (by have:=HRW.out;simp at hx;omega)) _).setCell (p:=⟨ra,_,none⟩) (λhx=>absurd hx (by have:=HRW.out;simp at hx;omega)) _).setCell (p:=⟨ra,_,none⟩) (λhx=>absurd hx (by have:=HRW.out;simp at hx;omega)) _)⟩
   ·have HE3:=aB (HE he)
    go_wp2_with fail
    refine bodyPost_ret (v:=kA ⟨0,ke,0,0⟩) (results_cell_row rfl _ _ ra 32 _ (0,0) _ rfl (eI _ _ _ _ _ _ HRC) Tryz.underlying32 rfl (by kernel_rfl)) rfl ?_
    exact⟨by rw[HE3.1],⟨v,⟨q,by rw[HE3.2.1,HE3.2.2];exact HSC.ans HRC (((((aC.refl (λk=>k=ra) wc).setCell (p:=⟨ra,_,none⟩) (λ_=>rfl) _).setCell (p:=⟨ra,_,none⟩) (λ_=>rfl) _).setCell (p:=⟨ra,_,none⟩) (λ_=>rfl) _))⟩,.inl rfl⟩,((((HTC.up _).setCell (p:=⟨ra,_,none⟩) (λhx=>absurd hx (by have:=HRW.out;simp at hx;omega)) _).setCell (p:=⟨ra,_,none⟩) (λhx=>absurd hx (by have:=HRW.out;simp at hx;omega)) _).setCell (p:=⟨ra,_,none⟩) (λhx=>absurd hx (by have:=HRW.out;simp at hx;omega)) _)⟩
theorem aC.fp(h:aC (fp tb v) w w'):aC (stF d tb v) w w':=h.mono (λ_ _ e=>.inr e)
theorem aHq(w:World)(hL:cV w)(h:qG w s d tb v L q R)(c:cS)(hc:c.Wf) :
  Calls Tryz.prog 10 #[bB s,c.val] w λe w'=>e=.returned (kA (Ei c L R))/\(∃ v',(∃ q',qG w' s d tb v' (tY c L R) q' (sQ c L R))/\cK w v v')/\aC (stF d tb v) w w':=by
 obtain⟨kd,sid,sq,kw,n⟩:=c
 unfold cS.Wf at hc
 by_cases h1:kd=1
 ·subst h1
  by_cases hn:R.length<4096
  ·refine (aEa w hL h sid sq n kw hc hn).mono ?_
   rintro e w' ⟨rfl,⟨v',hs,hf⟩,T⟩
   refine⟨by simp[Ei,hn],⟨v',⟨q,?_⟩,hf⟩,T.fp⟩
   simpa [tY,sQ,kS,hn] using hs
  ·refine (aDz w hL h sid sq n kw hc (by have:=h.few;omega)).mono ?_
   rintro e w' ⟨rfl,T⟩
   refine⟨by simp[Ei,hn],⟨v,⟨q,?_⟩,.inl rfl⟩,T.up _⟩
   simpa [tY,sQ,kS,hn] using h.quiet T
 ·by_cases h2:kd=2\/kd=3
  ·exact aHr w hL h sid sq n kw hc kd h2
  ·refine (Yx w hL h sid sq n kw hc kd h1 (by omega) (by omega)).mono ?_
   rintro e w' ⟨rfl,T⟩
   refine⟨by simp[Ei,h1,h2],⟨v,⟨q,?_⟩,.inl rfl⟩,T.up _⟩
   simpa [tY,sQ,kS,h1,h2] using h.quiet T
theorem Ph(w:World)(hL:cV w)(h:qG w s d tb v L q R) :
  Calls Tryz.prog 12 #[bB s] w λe w'=>∃ A' c',e=.returned (.slice A' L.length c')/\dO w' A' L.length c' L/\aC (λ_=>False) w w':=by
 obtain⟨s0,s1,s2⟩:=h.blk.facts
 have HC:=aB (Ye w hL h.dct)
 clear h hL
 go_in
 go_wp2_with fail
 refine HC.mono ?_
 rintro e w1 ⟨A',c',rfl,hp,T⟩
 have HP:=aB hp
 have HT:=aB T
 clear hp T
 go_wp2_with fail
 go_ret
 exact⟨A',c',rfl,HP,HT⟩
def wE(l:List cS):List Value:=l.flatMap cS.cells
theorem aAr{X:List cS}(h:aH w 5 A n (wE X))(hn:n=X.length)(k:Nat)(hk:k<n) :
  ∃ g off,A=some ⟨g,off,none⟩/\g<w.heap.size/\w.cell? ⟨g,off+k*5,none⟩=some (.int .i64 (X.getD k cS.zero).kind)/\w.cell? ⟨g,off+k*5+1,none⟩=some (.int .u64 (X.getD k cS.zero).sess) /\
   w.cell? ⟨g,off+k*5+2,none⟩=some (.int .u64 (X.getD k cS.zero).seq)/\w.cell? ⟨g,off+k*5+3,none⟩=some (.string (X.getD k cS.zero).word)/\w.cell? ⟨g,off+k*5+4,none⟩=some (.int .i64 (X.getD k cS.zero).n):=by
 subst hn
 obtain⟨b,off,hA,hb,hc⟩:=h.2 (by omega)
 have key:∀ j,j<5->(wE X)[k*5+j]? = (X.getD k cS.zero).cells[j]? := λj hj=>by
  have e:X.getD k cS.zero=X[k]:=by simp[List.getD,hk]
  rw[e]
  exact pB cS.cells 5 (λ_=>rfl) X k j hk hj
 refine⟨b,off,hA,hb,?_,?_,?_,?_,?_⟩
 ·exact hc (k*5) _ (key 0 (by omega))
 ·rw[qJb];exact hc (k*5+1) _ (key 1 (by omega))
 ·rw[qJb];exact hc (k*5+2) _ (key 2 (by omega))
 ·rw[qJb];exact hc (k*5+3) _ (key 3 (by omega))
 ·rw[qJb];exact hc (k*5+4) _ (key 4 (by omega))
def cS.In(c:cS):Prop:=0<=c.sess/\c.sess<18446744073709551616/\0<=c.seq/\c.seq<18446744073709551616
def Oh(S:List aD × List aT)(c:cS):List aD × List aT:=(tY c S.1 S.2,sQ c S.1 S.2)
def mJ(T:List cS)(S:List aD × List aT):List aD × List aT:=T.foldl Oh S
theorem Yu(T:List cS)(c:cS)(S:List aD × List aT):mJ (T++[c]) S=Oh (mJ T S) c:=by simp[mJ]
theorem Qg(T:List cS)(i:Nat)(h:i<T.length):T.take (i+1)=T.take i++[T.getD i cS.zero]:=by
 rw[List.take_succ_eq_append_getElem h]
 have e:T.getD i cS.zero=T[i]:=by simp[List.getD,h]
 rw[e]
theorem Bn(hL:aZ L)(c:cS)(R:List aT):aZ (tY c L R):=by
 unfold tY
 split
 ·unfold doW
  split
  ·exact aEg hL _ _
  ·exact aDm hL _
 ·exact hL
theorem Hw(hL:aZ L)(R:List aT)(T:List cS):aZ (mJ T (L,R)).1:=by
 induction T generalizing L R with
 | nil=>exact hL
 | cons c T ih=>exact ih (Bn hL c R) _
structure Aq(W w:World)(s d tb:Nat)(v:Value)(L:List aD)(q:Nat)(R:List aT):Prop where
 st:qG w s d tb v L q R
 y:W.heap.size<=d/\W.heap.size<=tb/\∀ g,v.ownBlock=some g->W.heap.size<=g
 t:aC (λ_=>False) W w
 lw:cV W
theorem Aq.l(h:Aq W w s d tb v L q R):cV w:=cV.touch h.lw h.t
theorem Aq.quiet(h:Aq W w s d tb v L q R)(T:aC (λ_=>False) w w'):Aq W w' s d tb v L q R :=
 ⟨h.st.quiet T,h.y,h.t.then T,h.lw⟩
theorem Aq.stF(h:Aq W w s d tb v L q R):∀ g,stF d tb v g->W.heap.size<=g:=by
 rintro g (rfl | rfl | hg)
 ·exact h.y.1
 ·exact h.y.2.1
 ·exact h.y.2.2 g hg
theorem Aq.step{L':List aD}{q':Nat}{R':List aT}(h:Aq W w s d tb v L q R)(hs:qG w' s d tb v' L' q' R')(hf:cK w v v')(T:aC (Go.Proofs.YthockgmbooefpaaGreatDoor.stF d tb v) w w'):Aq W w' s d tb v' L' q' R':=by
 have ht:aC (λ_=>False) W w':=h.t.trans T (λg hg e=>by have:=h.stF g e;omega)
 refine⟨hs,⟨h.y.1,h.y.2.1,λg hg=>?_⟩,ht,h.lw⟩
 ·rcases hf with e | ⟨g',e,hg'⟩
  ·exact h.y.2.2 g (by rw[<-e];exact hg)
  ·rw[e] at hg
   injection hg with hg
   have:=h.t.size
   omega
theorem aJq(w:World)(hL:cV w):Calls Tryz.prog 9 #[] w λe w'=>∃ s d tb,e=.returned (bB s)/\Aq w w' s d tb (.slice none 0 0) [] 0 [] :=
 (aEi w hL).mono (by
   rintro e w' ⟨s,d,tb,rfl,hs,h1,h2,h3,T⟩
   exact⟨s,d,tb,rfl,hs,⟨h2,h3,λg hg=>by simp[Value.ownBlock] at hg⟩,T,hL⟩)
theorem qG.keep(h:qG w s d tb v L q R)(T:aC (Go.Proofs.YthockgmbooefpaaGreatDoor.stF d tb v) w w')(hb:aL w g t cs)(ht:aCz t):aL w' g t cs :=
 hb.touch T (λe=>by
  obtain⟨o1,o2,o3,o4,o5⟩:=ht
  rcases e with rfl | e
  ·exact (aG hb).ne h.dct.ty o2 rfl
  ·rcases aBo h.tab e with k | k
   ·exact (aG hb).ne k o3 rfl
   ·exact (aG hb).ne k o4 rfl)
theorem aKz(w:World)(h:Aq W w s d tb v L q R)(c:cS)(hc:c.Wf) :
  Calls Tryz.prog 10 #[bB s,c.val] w λe w'=>e=.returned (kA (Ei c L R))/\(∃ v' q',Aq W w' s d tb v' (tY c L R) q' (sQ c L R))/\aC (stF d tb v) w w' :=
 (aHq w h.l h.st c hc).mono (by
   rintro e w' ⟨rfl,⟨v',⟨q',hs⟩,hf⟩,T⟩
   exact⟨rfl,⟨v',q',h.step hs hf T⟩,T⟩)
structure zI(w:World)(A:Option Addr)(n c:Nat)(R:List aT):Prop where
 own:w.ownsRow 0 136 4 (.slice A n c) n (bD R)
 len:R.length=n
 few:n<=4096
theorem zI.touch{S:Nat->Prop}(h:zI w A n c R)(T:aC S w w')(hS:∀ g,bQ w g 136 -> ¬ S g):zI w' A n c R :=
 ⟨aF h.own T (λg hg=>hS g (aM h.own hg)),h.len,h.few⟩
theorem zI.quiet(h:zI w A n c R)(T:aC (λ_=>False) w w'):zI w' A n c R:=h.touch T (λ_ _ f=>f)
theorem Tryz.infoRRow:(Tryz.prog.info? 136).map (λi=>(i.zero,i.size,i.bytes))=some (some (.agg #[.int .u64 0,.int .i64 0,.int .u64 0,.int .i64 0]),4,32):=by kernel_rfl
theorem Us(h:zI w A n c R)(k:Nat)(hk:k<n) :
  ∃ g,A=some ⟨g,0,none⟩/\g<w.heap.size/\n<=c/\w.cell? ⟨g,k*4,none⟩=some (.int .u64 (R.getD k aT.zero).seq)/\w.cell? ⟨g,k*4+1,none⟩=some (.int .i64 (R.getD k aT.zero).code) /\
   w.cell? ⟨g,k*4+2,none⟩=some (.int .u64 (R.getD k aT.zero).sess)/\w.cell? ⟨g,k*4+3,none⟩=some (.int .i64 (R.getD k aT.zero).had):=by
 have hl:=h.len
 obtain⟨g,cap,hv,hle,_,hg,hc,_⟩:=eZ h.own (by omega)
 injection hv with hA' _ hcc
 have hk':k<R.length:=by omega
 have e:R.getD k aT.zero=R[k]:=by simp[List.getD,hk']
 rw[e]
 refine⟨g,hA',hg,by omega,?_,?_,?_,?_⟩
 ·exact hc _ _ (by have:=cQ R k hk' 0 (by omega);rw[show k*4=4*k+0 by omega,this];rfl)
 ·exact hc _ _ (by have:=cQ R k hk' 1 (by omega);rw[show k*4+1=4*k+1 by omega,this];rfl)
 ·exact hc _ _ (by have:=cQ R k hk' 2 (by omega);rw[show k*4+2=4*k+2 by omega,this];rfl)
 ·exact hc _ _ (by have:=cQ R k hk' 3 (by omega);rw[show k*4+3=4*k+3 by omega,this];rfl)
theorem iW{ty:TypeId}(a b:Value)(x y:Value)(h:aL w g ty #[x,y]):aL ((w.setCell ⟨g,0,none⟩ a).setCell ⟨g,1,none⟩ b) g ty #[a,b]:=by
 have:=(h.set_ 0 a).set_ 1 b
 simpa using this
theorem gS{P:Program}{fn:Func}{p p':Tmp}{ty ty':TypeId}(h:fn.results=#[.cell p ty,.cell p' ty'])(tmps:Array Value)(w:World)(g g':Nat)(t t':TypeId)(cs cs':Array Value)(d d':TypeDesc)
  (hp:tmps.getD p undef=.pointer (some ⟨g,0,none⟩))(hg:aL w g t cs)(hu:P.underlying ty=some d)(hd:(match d with | .struct _ | .array _ _=>true | _=>false)=true)(hi:(P.info? ty).map (·.size)=some cs.size)
  (hp':tmps.getD p' undef=.pointer (some ⟨g',0,none⟩))(hg':aL w g' t' cs')(hu':P.underlying ty'=some d')(hd':(match d' with | .struct _ | .array _ _=>true | _=>false)=true)(hi':(P.info? ty').map (·.size)=some cs'.size) :
  (results fn tmps).run P w=.ok (.tuple #[.agg cs,.agg cs']) w:=by
 have hp1:tmps[p]?.getD undef=.pointer (some ⟨g,0,none⟩):=by simpa using hp
 have hp2:tmps[p']?.getD undef=.pointer (some ⟨g',0,none⟩):=by simpa using hp'
 simp[results,h,hp1,hp2,asAddr,Sem.run_bind,run_loadVar_row w g t ty cs (0,0) d hg hu hd hi,run_loadVar_row w g' t' ty' cs' (0,0) d' hg' hu' hd' hi',Result.andThen]
theorem Qm{k:Nat}{a b:Value}(h:aL w g t cs)(hk:g≠k):aL ((w.setCell ⟨k,0,none⟩ a).setCell ⟨k,1,none⟩ b) g t cs:=(h.far hk a).far hk b
theorem Qn{k:Nat}{a b c:Value}(h:aL w g t cs)(hk:g≠k):aL (((w.setCell ⟨k,0,none⟩ a).setCell ⟨k,1,none⟩ b).setCell ⟨k,2,none⟩ c) g t cs:=((h.far hk a).far hk b).far hk c
theorem Ag(w:World)(B0:Nat)(hs:mR B0 w ⟨tA,tn,tc,tL⟩ L)(hD:aZ L)(hr:zI w A n c R)(sid sq nn:Int)(kw:ByteArray)(hk:kw.size<=1099511627776)(kd code:Int)(h:((kd == 1)=false/\(kd != 2)=true/\(kd != 3)=true/\(kd == 2)=false/\(kd == 3)=false/\code=161)\/(kd=1/\(4096:Int)<=(n:Int)/\code=152)\/(kd=2/\sid<1/\code=150)\/(kd=3/\sid<1/\code=150)\/(kd=2/\1<=sid/\(n:Int)<sid/\code=150)\/(kd=3/\1<=sid/\(n:Int)<sid/\code=150)) :
  Calls Tryz.prog 62 #[.agg #[.slice tA tn tc,.slice A n c],.agg #[.int .i64 kd,.int .u64 sid,.int .u64 sq,.string kw,.int .i64 nn]] w λe w'=>e=.returned (.tuple #[.agg #[.slice tA tn tc,.slice A n c],kA ⟨0,code,0,0⟩])/\aC (λ_=>False) w w':=by
 have HH:=aB h
 clear h
 obtain⟨wa,hwa⟩:=eX ((((w.alloc (.cells #[.slice tA tn tc,.slice A n c] 56)).alloc (.cells #[.int .i64 kd,.int .u64 sid,.int .u64 sq,.string kw,.int .i64 nn] 29)).alloc (.cells #[.slice none 0 0,.slice none 0 0] 56)).alloc (.cells #[.int .i64 0,.int .u64 0,.int .i64 0] 32))
 obtain⟨ba,hba⟩:=eX w.heap.size
 obtain⟨bb,hbb⟩:=eX (w.heap.size+1)
 obtain⟨bs,hbs⟩:=eX (w.heap.size+1+1)
 obtain⟨ra,hra⟩:=eX (w.heap.size+1+1+1)
 have hTa:aC (λ_=>False) w wa:=by rw[hwa];exact ((((aC.refl _ _).alloc _).alloc _).alloc _).alloc _
 have haB:aL wa ba 56 #[.slice tA tn tc,.slice A n c]:=by rw[hwa,hba];exact (((aL.new _ _ _).alloc _).alloc _).alloc _
 have hbB:aL wa bb 29 #[.int .i64 kd,.int .u64 sid,.int .u64 sq,.string kw,.int .i64 nn]:=by
  have h1:=(((aL.new (w.alloc (.cells #[.slice tA tn tc,.slice A n c] 56)) 29 #[.int .i64 kd,.int .u64 sid,.int .u64 sq,.string kw,.int .i64 nn]).alloc (.cells #[.slice none 0 0,.slice none 0 0] 56)).alloc (.cells #[.int .i64 0,.int .u64 0,.int .i64 0] 32))
  rw[hwa,hbb];simpa using h1
 have hsB:aL wa bs 56 #[.slice none 0 0,.slice none 0 0]:=by
  have h1:=(aL.new ((w.alloc (.cells #[.slice tA tn tc,.slice A n c] 56)).alloc (.cells #[.int .i64 kd,.int .u64 sid,.int .u64 sq,.string kw,.int .i64 nn] 29)) 56 #[.slice none 0 0,.slice none 0 0]).alloc (.cells #[.int .i64 0,.int .u64 0,.int .i64 0] 32)
  rw[hwa,hbs];simpa using h1
 have hrB:aL wa ra 32 #[.int .i64 0,.int .u64 0,.int .i64 0]:=by
  have h1:=aL.new (((w.alloc (.cells #[.slice tA tn tc,.slice A n c] 56)).alloc (.cells #[.int .i64 kd,.int .u64 sid,.int .u64 sq,.string kw,.int .i64 nn] 29)).alloc (.cells #[.slice none 0 0,.slice none 0 0] 56)) 32 #[.int .i64 0,.int .u64 0,.int .i64 0]
  rw[hwa,hra];simpa using h1
 have HLO:Hid (w.heap.size<=ba/\w.heap.size<=bb/\w.heap.size<=bs/\w.heap.size<=ra/\ba≠bs/\bb≠bs/\bs≠ra):=aB (by omega)
 have HTA:=aB hTa
 have HAB:=aB haB
 have HBB:=aB hbB
 have HSB:=aB hsB
 have HRB:=aB hrB
 have HWA:=aB hwa
 have H0:=aB hba
 have H1:=aB hbb
 have H2:=aB hbs
 have H3:=aB hra
 have HS:=aB (hs.quiet hTa)
 have HR:=aB (hr.quiet hTa)
 have HD:=aB hD
 have HN0:=aB hr.len
 have hn:=hr.few
 have hx1:¬ bs=ra:=by omega
 have hx2:¬ ra=bs:=by omega
 obtain⟨a0,a1,a2⟩:=haB.facts
 obtain⟨b0,b1,b2⟩:=hbB.facts
 obtain⟨s0,s1,s2⟩:=hsB.facts
 obtain⟨r0,r1,r2⟩:=hrB.facts
 clear hwa hba hbb hbs hra hTa haB hbB hsB hrB hs hr hD
 go_in
 go_upto_region 1 with fail
 rw[<-HWA.out,<-H3.out,<-H2.out,<-H1.out,<-H0.out]
 rcases HH.out with⟨h1,h2,h3,h4,h5,hc⟩ | ⟨rfl,h1,hc⟩ | ⟨rfl,h1,hc⟩ | ⟨rfl,h1,hc⟩ | ⟨rfl,h1,h2,hc⟩ | ⟨rfl,h1,h2,hc⟩
 all_goals
  have HCD:=aB hc
  clear hc
  go_wp2_with fail
  try simp only[Exit.inBlock,Exit.then]
  refine bodyPost_ret (v:=.tuple #[.agg #[.slice tA tn tc,.slice A n c],kA ⟨0,code,0,0⟩]) (gS rfl _ _ bs ra 56 32 _ _ _ _ rfl ?hsb Tryz.underlying56 rfl (by kernel_rfl) rfl ?hrb Tryz.underlying32 rfl (by kernel_rfl)) rfl ?_
  case hsb=>exact (Qn (iW _ _ _ _ HSB) HLO.2.2.2.2.2.2)
  case hrb=>rw[HCD.out];exact (eI _ _ _ _ _ _ (Qm HRB HLO.2.2.2.2.2.2.symm))
  exact⟨rfl,((((((HTA.setCell (p:=⟨bs,_,none⟩) (λhx=>absurd hx (by have h9:=HLO.out;simp at hx;omega)) _).setCell (p:=⟨bs,_,none⟩) (λhx=>absurd hx (by have h9:=HLO.out;simp at hx;omega)) _).setCell (p:=⟨ra,_,none⟩) (λhx=>absurd hx (by have h9:=HLO.out;simp at hx;omega)) _).setCell (p:=⟨ra,_,none⟩) (λhx=>absurd hx (by have h9:=HLO.out;simp at hx;omega)) _).setCell (p:=⟨ra,_,none⟩) (λhx=>absurd hx (by have h9:=HLO.out;simp at hx;omega)) _))⟩
theorem Uo(w:World)(B0:Nat)(hs:mR B0 w ⟨tA,tn,tc,tL⟩ L)(hD:aZ L)(hr:zI w A n c R)(sid sq nn:Int)(kw:ByteArray)(hk:kw.size<=1099511627776)(kd:Int)(hkd:kd=2\/kd=3)(k:Nat)(hsk:sid=(k:Int)+1)(hkn:k<n)(rs rc rr rh:Int)(hrow:R.getD k aT.zero=⟨rs,rc,rr,rh⟩)(h:sq=0\/(¬ sq=0/\sq<rs)) :
  Calls Tryz.prog 62 #[.agg #[.slice tA tn tc,.slice A n c],.agg #[.int .i64 kd,.int .u64 sid,.int .u64 sq,.string kw,.int .i64 nn]] w λe w'=>e=.returned (.tuple #[.agg #[.slice tA tn tc,.slice A n c],kA ⟨0,151,0,0⟩])/\aC (λ_=>False) w w':=by
 have HSK:=aB hsk
 have HROW:=aB hrow
 clear hsk hrow
 have HH:=aB h
 clear h
 obtain⟨wa,hwa⟩:=eX ((((w.alloc (.cells #[.slice tA tn tc,.slice A n c] 56)).alloc (.cells #[.int .i64 kd,.int .u64 sid,.int .u64 sq,.string kw,.int .i64 nn] 29)).alloc (.cells #[.slice none 0 0,.slice none 0 0] 56)).alloc (.cells #[.int .i64 0,.int .u64 0,.int .i64 0] 32))
 obtain⟨ba,hba⟩:=eX w.heap.size
 obtain⟨bb,hbb⟩:=eX (w.heap.size+1)
 obtain⟨bs,hbs⟩:=eX (w.heap.size+1+1)
 obtain⟨ra,hra⟩:=eX (w.heap.size+1+1+1)
 have hTa:aC (λ_=>False) w wa:=by rw[hwa];exact ((((aC.refl _ _).alloc _).alloc _).alloc _).alloc _
 have haB:aL wa ba 56 #[.slice tA tn tc,.slice A n c]:=by rw[hwa,hba];exact (((aL.new _ _ _).alloc _).alloc _).alloc _
 have hbB:aL wa bb 29 #[.int .i64 kd,.int .u64 sid,.int .u64 sq,.string kw,.int .i64 nn]:=by
  have h1:=(((aL.new (w.alloc (.cells #[.slice tA tn tc,.slice A n c] 56)) 29 #[.int .i64 kd,.int .u64 sid,.int .u64 sq,.string kw,.int .i64 nn]).alloc (.cells #[.slice none 0 0,.slice none 0 0] 56)).alloc (.cells #[.int .i64 0,.int .u64 0,.int .i64 0] 32))
  rw[hwa,hbb];simpa using h1
 have hsB:aL wa bs 56 #[.slice none 0 0,.slice none 0 0]:=by
  have h1:=(aL.new ((w.alloc (.cells #[.slice tA tn tc,.slice A n c] 56)).alloc (.cells #[.int .i64 kd,.int .u64 sid,.int .u64 sq,.string kw,.int .i64 nn] 29)) 56 #[.slice none 0 0,.slice none 0 0]).alloc (.cells #[.int .i64 0,.int .u64 0,.int .i64 0] 32)
  rw[hwa,hbs];simpa using h1
 have hrB:aL wa ra 32 #[.int .i64 0,.int .u64 0,.int .i64 0]:=by
  have h1:=aL.new (((w.alloc (.cells #[.slice tA tn tc,.slice A n c] 56)).alloc (.cells #[.int .i64 kd,.int .u64 sid,.int .u64 sq,.string kw,.int .i64 nn] 29)).alloc (.cells #[.slice none 0 0,.slice none 0 0] 56)) 32 #[.int .i64 0,.int .u64 0,.int .i64 0]
  rw[hwa,hra];simpa using h1
 have HLO:Hid (w.heap.size<=ba/\w.heap.size<=bb/\w.heap.size<=bs/\w.heap.size<=ra/\ba≠bs/\bb≠bs/\bs≠ra):=aB (by omega)
 have HTA:=aB hTa
 have HAB:=aB haB
 have HBB:=aB hbB
 have HSB:=aB hsB
 have HRB:=aB hrB
 have HWA:=aB hwa
 have H0:=aB hba
 have H1:=aB hbb
 have H2:=aB hbs
 have H3:=aB hra
 have HS:=aB (hs.quiet hTa)
 have HR:=aB (hr.quiet hTa)
 have HD:=aB hD
 have HN0:=aB hr.len
 have hn:=hr.few
 have hx1:¬ bs=ra:=by omega
 have hx2:¬ ra=bs:=by omega
 obtain⟨a0,a1,a2⟩:=haB.facts
 obtain⟨b0,b1,b2⟩:=hbB.facts
 obtain⟨s0,s1,s2⟩:=hsB.facts
 obtain⟨r0,r1,r2⟩:=hrB.facts
 clear hwa hba hbb hbs hra hTa haB hbB hsB hrB hs hr hD
 go_in
 go_upto_region 1 with fail
 rw[<-HWA.out,<-H3.out,<-H2.out,<-H1.out,<-H0.out]
 rcases hkd with rfl | rfl
 all_goals
  have hsk:=HSK.out
  subst hsk
  clear HSK
  obtain⟨gR,rfl,hgR,hnc,c0,c1,c2,c3⟩:=Us HR.out k hkn
  rw[HROW.out] at c0 c1 c2 c3
  simp only at c0 c1 c2 c3
  rcases HH.out with rfl | ⟨h1,h2⟩
  all_goals
   go_wp2_with fail
   try simp only[Exit.inBlock,Exit.then]
   refine bodyPost_ret (v:=.tuple #[.agg #[.slice tA tn tc,.slice (some ⟨gR,0,none⟩) n c],kA ⟨0,151,0,0⟩]) (gS rfl _ _ bs ra 56 32 _ _ _ _ rfl ?hsb Tryz.underlying56 rfl (by kernel_rfl) rfl ?hrb Tryz.underlying32 rfl (by kernel_rfl)) rfl ?_
   case hsb=>exact (Qn (iW _ _ _ _ HSB) HLO.2.2.2.2.2.2).alloc _
   case hrb=>exact (eI _ _ _ _ _ _ (Qm HRB HLO.2.2.2.2.2.2.symm)).alloc _
   exact⟨rfl,((((((HTA.setCell (p:=⟨bs,_,none⟩) (λhx=>absurd hx (by have h9:=HLO.out;simp at hx;omega)) _).setCell (p:=⟨bs,_,none⟩) (λhx=>absurd hx (by have h9:=HLO.out;simp at hx;omega)) _).setCell (p:=⟨ra,_,none⟩) (λhx=>absurd hx (by have h9:=HLO.out;simp at hx;omega)) _).setCell (p:=⟨ra,_,none⟩) (λhx=>absurd hx (by have h9:=HLO.out;simp at hx;omega)) _).setCell (p:=⟨ra,_,none⟩) (λhx=>absurd hx (by have h9:=HLO.out;simp at hx;omega)) _)).alloc _⟩
theorem Yo(w:World)(B0:Nat)(hs:mR B0 w ⟨tA,tn,tc,tL⟩ L)(hD:aZ L)(hr:zI w A n c R)(sid sq nn:Int)(kw:ByteArray)(hk:kw.size<=1099511627776)(kd:Int)(hkd:kd=2\/kd=3)(k:Nat)(hsk:sid=(k:Int)+1)(hkn:k<n)(rc rr rh:Int)(hrow:R.getD k aT.zero=⟨sq,rc,rr,rh⟩)(h1:¬ sq=0) :
  Calls Tryz.prog 62 #[.agg #[.slice tA tn tc,.slice A n c],.agg #[.int .i64 kd,.int .u64 sid,.int .u64 sq,.string kw,.int .i64 nn]] w λe w'=>e=.returned (.tuple #[.agg #[.slice tA tn tc,.slice A n c],kA ⟨0,rc,rr,rh⟩])/\aC (λ_=>False) w w':=by
 have HSK:=aB hsk
 have HROW:=aB hrow
 clear hsk hrow
 obtain⟨wa,hwa⟩:=eX ((((w.alloc (.cells #[.slice tA tn tc,.slice A n c] 56)).alloc (.cells #[.int .i64 kd,.int .u64 sid,.int .u64 sq,.string kw,.int .i64 nn] 29)).alloc (.cells #[.slice none 0 0,.slice none 0 0] 56)).alloc (.cells #[.int .i64 0,.int .u64 0,.int .i64 0] 32))
 obtain⟨ba,hba⟩:=eX w.heap.size
 obtain⟨bb,hbb⟩:=eX (w.heap.size+1)
 obtain⟨bs,hbs⟩:=eX (w.heap.size+1+1)
 obtain⟨ra,hra⟩:=eX (w.heap.size+1+1+1)
 have hTa:aC (λ_=>False) w wa:=by rw[hwa];exact ((((aC.refl _ _).alloc _).alloc _).alloc _).alloc _
 have haB:aL wa ba 56 #[.slice tA tn tc,.slice A n c]:=by rw[hwa,hba];exact (((aL.new _ _ _).alloc _).alloc _).alloc _
 have hbB:aL wa bb 29 #[.int .i64 kd,.int .u64 sid,.int .u64 sq,.string kw,.int .i64 nn]:=by
  have h1:=(((aL.new (w.alloc (.cells #[.slice tA tn tc,.slice A n c] 56)) 29 #[.int .i64 kd,.int .u64 sid,.int .u64 sq,.string kw,.int .i64 nn]).alloc (.cells #[.slice none 0 0,.slice none 0 0] 56)).alloc (.cells #[.int .i64 0,.int .u64 0,.int .i64 0] 32))
  rw[hwa,hbb];simpa using h1
 have hsB:aL wa bs 56 #[.slice none 0 0,.slice none 0 0]:=by
  have h1:=(aL.new ((w.alloc (.cells #[.slice tA tn tc,.slice A n c] 56)).alloc (.cells #[.int .i64 kd,.int .u64 sid,.int .u64 sq,.string kw,.int .i64 nn] 29)) 56 #[.slice none 0 0,.slice none 0 0]).alloc (.cells #[.int .i64 0,.int .u64 0,.int .i64 0] 32)
  rw[hwa,hbs];simpa using h1
 have hrB:aL wa ra 32 #[.int .i64 0,.int .u64 0,.int .i64 0]:=by
  have h1:=aL.new (((w.alloc (.cells #[.slice tA tn tc,.slice A n c] 56)).alloc (.cells #[.int .i64 kd,.int .u64 sid,.int .u64 sq,.string kw,.int .i64 nn] 29)).alloc (.cells #[.slice none 0 0,.slice none 0 0] 56)) 32 #[.int .i64 0,.int .u64 0,.int .i64 0]
  rw[hwa,hra];simpa using h1
 have HLO:Hid (w.heap.size<=ba/\w.heap.size<=bb/\w.heap.size<=bs/\w.heap.size<=ra/\ba≠bs/\bb≠bs/\bs≠ra):=aB (by omega)
 have HTA:=aB hTa
 have HAB:=aB haB
 have HBB:=aB hbB
 have HSB:=aB hsB
 have HRB:=aB hrB
 have HWA:=aB hwa
 have H0:=aB hba
 have H1:=aB hbb
 have H2:=aB hbs
 have H3:=aB hra
 have HS:=aB (hs.quiet hTa)
 have HR:=aB (hr.quiet hTa)
 have HD:=aB hD
 have HN0:=aB hr.len
 have hn:=hr.few
 have hx1:¬ bs=ra:=by omega
 have hx2:¬ ra=bs:=by omega
 obtain⟨a0,a1,a2⟩:=haB.facts
 obtain⟨b0,b1,b2⟩:=hbB.facts
 obtain⟨s0,s1,s2⟩:=hsB.facts
 obtain⟨r0,r1,r2⟩:=hrB.facts
 clear hwa hba hbb hbs hra hTa haB hbB hsB hrB hs hr hD
 go_in
 go_upto_region 1 with fail
 rw[<-HWA.out,<-H3.out,<-H2.out,<-H1.out,<-H0.out]
 rcases hkd with rfl | rfl
 all_goals
  have hsk:=HSK.out
  subst hsk
  clear HSK
  obtain⟨gR,rfl,hgR,hnc,c0,c1,c2,c3⟩:=Us HR.out k hkn
  rw[HROW.out] at c0 c1 c2 c3
  simp only at c0 c1 c2 c3
  go_upto_region 14 with fail
  go_region
  go_wp2_with fail
  try simp only[Exit.inBlock,Exit.then]
  refine bodyPost_ret (v:=.tuple #[.agg #[.slice tA tn tc,.slice (some ⟨gR,0,none⟩) n c],kA ⟨0,rc,rr,rh⟩]) (gS rfl _ _ bs ra 56 32 _ _ _ _ rfl ?hsb Tryz.underlying56 rfl (by kernel_rfl) rfl ?hrb Tryz.underlying32 rfl (by kernel_rfl)) rfl ?_
  case hsb=>exact ((Qn (iW _ _ _ _ HSB) HLO.2.2.2.2.2.2).alloc _).drew
  case hrb=>exact ((eI _ _ _ _ _ _ (Qm HRB HLO.2.2.2.2.2.2.symm)).alloc _).drew
  exact⟨rfl,((((((HTA.setCell (p:=⟨bs,_,none⟩) (λhx=>absurd hx (by have h9:=HLO.out;simp at hx;omega)) _).setCell (p:=⟨bs,_,none⟩) (λhx=>absurd hx (by have h9:=HLO.out;simp at hx;omega)) _).setCell (p:=⟨ra,_,none⟩) (λhx=>absurd hx (by have h9:=HLO.out;simp at hx;omega)) _).setCell (p:=⟨ra,_,none⟩) (λhx=>absurd hx (by have h9:=HLO.out;simp at hx;omega)) _).setCell (p:=⟨ra,_,none⟩) (λhx=>absurd hx (by have h9:=HLO.out;simp at hx;omega)) _).alloc _).drew⟩
end Go.Proofs.YthockgmbooefpaaGreatDoor
