/- What the law rests on, part 39. No condition but those that each theorem names. -/
import Derived.Test.YthockgmbooefpaaGreatDoorL38
import Derived.Test.YthockgmbooefpaaGreatDoorL32
import Derived.Test.YthockgmbooefpaaGreatDoorL25
import Derived.Test.YthockgmbooefpaaGreatDoorRows
import Derived.Test.YthockgmbooefpaaGreatDoorCards
import Derived.Test.YthockgmbooefpaaGreatDoorTie
import Derived.Deep.DeepHandedRow
import Derived.ProofKit
import Derived.OpenShut
import Derived.SevenTiedAt
import Derived.Test.YthockgmbooefpaaGreatDoorL33
set_option linter.unusedSectionVars false
set_option linter.unusedSimpArgs false
set_option linter.unusedVariables false
set_option maxRecDepth 100000
set_option maxHeartbeats 8000000
namespace Go.Proofs.YthockgmbooefpaaGreatDoor
open Go.RowKit
theorem sback_walk (W:World) (hL:Lst W) (A:Option Addr) (n c:Nat) (T:List CmdP) (hT:T.length=n) (hR:Reads W 5 A n (cCells T)) (hWf:∀ o∈T,o.Wf) (hIn:∀ o∈T,o.In) (hm:n≤maxLen) (B:Option Addr) (m bc:Nat) (U:List CmdP) (hU:U.length=m) (hRU:Reads W 5 B m (cCells U)) (hWfU:∀ o∈U,o.Wf) (hInU:∀ o∈U,o.In) (hmU:m≤maxLen) :
  Calls Tryz.prog 7 #[.slice A n c,.slice B m bc] W fun e W'=>e=.returned (.bool true)∧Touch (fun _=>False) W W':=by
 have HFEW:=hide (fun w=>few_any w A n c)
 have HFEU:=hide (fun w=>few_any w B m bc)
 have HAL:=hide (fun (wx:World) (t:Touch (fun _=>False) W wx)=>alive16_any wx (Lst.touch hL t))
 by_cases hbig:n≤400
 ·have k2:decide ((n:Int)≤400)=true:=by simp;omega
  rw [k2] at HFEW
  by_cases hbigU:m≤400
  ·have k3:decide ((m:Int)≤400)=true:=by simp;omega
   rw [k3] at HFEU
   have HBG:=hide (begun_any W hL (Touch.refl _ _) A n c T hT hR hWf hbig)
   have HGO:=hide (fun (wx:World) {s d tb:Nat} {v:Value} {L:List PRow} {q:Nat} {R:List SRow} (h:StY W wx s d tb v L q R) (sl:SL) (hl:RfL W.heap.size wx sl L) (A:Option Addr) (n c:Nat) (hr:RwL wx A n c R)=>goes_any wx h sl hl A n c hr B m bc U hU hRU hWfU hbigU)
   have hri:=runS_in dict_nil (R:=[]) (fun r hr=>by cases hr) T hIn
   have hdc:=runS_dict dict_nil [] T
   have hgd:=runS_good (R:=[]) rfl T []
   have hsh:=runS_short T [] [] dict_nil
   simp only [List.length_nil,hT] at hsh
   have HINU:=hide hInU
   have HBIG:=hide hbig
   clear hm hmU hbig hbigU k2 k3 hL hT hR hWf hU hRU hWfU hIn hInU
   go_enter Tryz.func7,Tryz.ntmps7
   go_wp2_with fail
   refine (HFEW.out _).mono ?_
   rintro e w0 ⟨rfl,rfl⟩
   go_wp2_with fail
   refine (HFEU.out _).mono ?_
   rintro e w0 ⟨rfl,rfl⟩
   go_wp2_with fail
   refine HBG.out.mono ?_
   rintro e w1 ⟨s,d,tb,⟨jA,jn,jc,jL⟩,A1,n1,c1,v1,q1,rfl,hy1,hl1,hr1⟩
   obtain ⟨⟨Lj,Rj⟩,hLR⟩:∃ y,y=runS T ([],[]):=⟨_,rfl⟩
   rw [← hLR] at hy1 hl1 hr1 hri hdc hgd hsh
   simp only [SL.val] at hy1 hl1 hr1 hri hdc hgd hsh ⊢
   obtain ⟨w3,hw3⟩:∃ y,y=w1.alloc (.cells #[.slice jA jn jc,.slice A1 n1 c1] 56):=⟨_,rfl⟩
   obtain ⟨g3,hg3⟩:∃ y,y=w1.heap.size:=⟨_,rfl⟩
   have T3:Touch (fun _=>False) w1 w3:=by rw [hw3];exact (Touch.refl _ _).alloc _
   have HB3:Hid (Blk w3 g3 56 #[.slice jA jn jc,.slice A1 n1 c1]):=hide (by rw [hw3,hg3];exact Blk.new _ _ _)
   have HY3:=hide (hy1.quiet T3)
   have HL3:=hide (hl1.quiet T3)
   have HR3:=hide (hr1.quiet T3)
   have HW3:=hide hw3
   have HG3:=hide hg3
   have HIM:=hide (image_any w3 HY3.out.l HY3.out.st hri)
   have HLO:=hide (fun (wx:World) (h:Lst wx) (A:Option Addr) (n c:Nat) (hrd:Reads wx 1 A n ((imgB Lj Rj).map byteV)) (hl:(imgB Lj Rj).length=n) (hnc:n≤c) (hcm:c≤maxLen)=>load_pos wx h hdc hri hgd (by have:=hsh.2;have:=HBIG.out;omega) (body_short hdc (by have:=hsh.1;have:=HBIG.out;omega) (by have:=hsh.2;have:=HBIG.out;omega)) A n c hrd hl hnc hcm)
   have HRJ:=hide hri
   have HDJ:=hide hdc
   clear hy1 hl1 hr1 hw3 hg3 T3 HBG hLR hri hdc hgd hsh
   go_upto_region 6 with fail
   rw [← HW3.out,← HG3.out]
   go_wp2_with fail
   refine HIM.out.mono ?_
   rintro e w4 ⟨AI,qI,cI,rfl,hoI⟩
   obtain ⟨hle,hcm⟩:=own_cap hoI.own
   have HY4:=hide (HY3.out.quiet hoI.touch)
   have HL4:=hide (HL3.out.quiet hoI.touch)
   have HR4:=hide (HR3.out.quiet hoI.touch)
   have HB4:=hide (HB3.out.touch hoI.touch (fun f=>f))
   have HL1:=hide (HLO.out w4 HY4.out.l AI qI cI (Reads.of_own hoI.own) (own_u8 hoI.own) hle hcm)
   clear hoI hle hcm HIM
   go_wp2_with fail
   refine HL1.out.mono ?_
   rintro e w5 ⟨s',d',tb',v',rfl,hs5,hd5,ht5,hv5,T5⟩
   have hz:=HY4.out.t.size
   have HYs5:=hide (HY4.out.quiet T5)
   have HYt5:Hid (StY W w5 s' d' tb' v' Lj 0 Rj):=hide ⟨hs5,⟨by omega,by omega,fun g hg=>by have:=hv5 g hg;omega⟩,HY4.out.t.then T5,HY4.out.lw⟩
   have HNE:Hid (¬ d=d'∧¬ tb=tb'∧(∀ g,v1.ownBlock=some g→g<w4.heap.size)∧∀ g,v'.ownBlock=some g→w4.heap.size≤g):=hide ⟨by have:=HY4.out.st.dct.ty.lt;omega,by have:=(blk_ty HY4.out.st.tab.1).lt;omega,fun g hg=>tab_lt HY4.out.st.tab hg,hv5⟩
   have HL5:=hide (HL4.out.quiet T5)
   have HR5:=hide (HR4.out.quiet T5)
   have HB5:=hide (HB4.out.touch T5 (fun f=>f))
   have HG1:=hide (HGO.out w5 HYt5.out ⟨jA,jn,jc,jL⟩ HL5.out A1 n1 c1 HR5.out)
   have HSZ:Hid (w4.heap.size≤w5.heap.size):=hide T5.size
   simp only [SL.val] at HG1
   clear hs5 hd5 ht5 hv5 T5 hz HL1
   obtain ⟨b0,b1,b2⟩:=HB5.out.facts
   go_wp2_with fail
   refine HG1.out.mono ?_
   rintro e w6 ⟨⟨kA,kn,kc,kL⟩,A5,n5,c5,rfl,⟨v5,⟨q5,hyt6⟩,hf6⟩,hl6,hr6,T6⟩
   obtain ⟨⟨Lk,Rk⟩,hLK⟩:∃ y,y=runS U (Lj,Rj):=⟨_,rfl⟩
   have hrk:=runS_in HDJ.out HRJ.out U HINU.out
   rw [← hLK] at hyt6 hl6 hr6 hrk
   simp only [SL.val] at hyt6 hl6 hr6 hrk ⊢
   have HLK:=hide hLK
   have HRK:=hide hrk
   have HYs6:=hide (HYs5.out.other HYt5.out HNE.out.1 HNE.out.2.1 (fun g h1 h2=>by have:=HNE.out.2.2.1 g h1;have:=HNE.out.2.2.2 g h2;omega) T6)
   have HL6:=hide (RfL.stF HYt5.out HL5.out T6)
   have HR6:=hide (RwL.stF HYt5.out.st HR5.out T6)
   have HB6:=hide (HYt5.out.st.keep T6 HB5.out off_rst)
   have HN5:Hid (∀ g,v5.ownBlock=some g→w4.heap.size≤g):=hide (fun g hg=>by
    rcases hf6 with e | ⟨g',e,hg'⟩
    ·exact HNE.out.2.2.2 g (by rw [← e];exact hg)
    ·rw [e] at hg
     injection hg with hg
     have:=HSZ.out
     omega)
   obtain ⟨w7,hw7⟩:∃ y,y=w6.alloc (.cells #[.slice kA kn kc,.slice A5 n5 c5] 56):=⟨_,rfl⟩
   obtain ⟨sb,hsb⟩:∃ y,y=w6.heap.size:=⟨_,rfl⟩
   have T7:Touch (fun _=>False) w6 w7:=by rw [hw7];exact (Touch.refl _ _).alloc _
   have HSB7:Hid (Blk w7 sb 56 #[.slice kA kn kc,.slice A5 n5 c5]):=hide (by rw [hw7,hsb];exact Blk.new _ _ _)
   have HYt7:=hide (hyt6.quiet T7)
   have HLt7:=hide (hl6.quiet T7)
   have HRt7:=hide (hr6.quiet T7)
   have HYs7:=hide (HYs6.out.quiet T7)
   have HB7:=hide (HB6.out.touch T7 (fun f=>f))
   have HG2:=hide (HGO.out w7 HYs7.out ⟨jA,jn,jc,jL⟩ (HL6.out.quiet T7) A1 n1 c1 (HR6.out.quiet T7))
   have HW7:=hide hw7
   have HG7:=hide hsb
   simp only [SL.val] at HG2
   clear hyt6 hf6 hl6 hr6 T6 T7 hw7 hsb hLK hrk HG1 b0 b1 b2
   go_upto_region 10 with fail
   rw [← HW7.out,← HG7.out]
   obtain ⟨b0,b1,b2⟩:=HB7.out.facts
   go_wp2_with fail
   refine HG2.out.mono ?_
   rintro e wa ⟨⟨lA,ln,lc,lL⟩,A8,n8,c8,rfl,⟨v8,⟨q8,hys8⟩,hf8⟩,hl8,hr8,T8⟩
   rw [← HLK.out] at hys8
   simp only [SL.val] at hys8 ⊢
   have HYta:=hide (HYt7.out.other HYs7.out (fun e=>HNE.out.1 e.symm) (fun e=>HNE.out.2.1 e.symm) (fun g h1 h2=>by have:=HNE.out.2.2.1 g h2;have:=HN5.out g h1;omega) T8)
   have HLta:=hide (RfL.stF HYs7.out HLt7.out T8)
   have HRta:=hide (RwL.stF HYs7.out.st HRt7.out T8)
   have HSBx:=hide (HYs7.out.st.keep T8 HSB7.out off_rst)
   obtain ⟨w8,hw8⟩:∃ y,y=wa.alloc (.cells #[.slice lA ln lc,.slice A8 n8 c8] 56):=⟨_,rfl⟩
   have T9:Touch (fun _=>False) wa w8:=by rw [hw8];exact (Touch.refl _ _).alloc _
   have HYs8:=hide (hys8.quiet T9)
   have HYt8:=hide (HYta.out.quiet T9)
   have HLt8:=hide (HLta.out.quiet T9)
   have HRt8:=hide (HRta.out.quiet T9)
   have HSB8:=hide (HSBx.out.touch T9 (fun f=>f))
   have HW8:=hide hw8
   have hst:=fun (wx:World) (T:Touch (fun _=>False) w8 wx)=>stands_any wx (HYt8.out.quiet T).l (HYt8.out.quiet T).st W.heap.size ⟨kA,kn,kc,kL⟩ (HLt8.out.quiet T) A5 n5 c5 (HRt8.out.quiet T)
   have hss:=fun (wx:World) (T:Touch (fun _=>False) w8 wx)=>stands_any wx (HYs8.out.quiet T).l (HYs8.out.quiet T).st W.heap.size ⟨kA,kn,kc,kL⟩ (HLt8.out.quiet T) A5 n5 c5 (HRt8.out.quiet T)
   have his:=fun (wx:World) (T:Touch (fun _=>False) w8 wx)=>image_any wx (HYs8.out.quiet T).l (HYs8.out.quiet T).st HRK.out
   have hit:=fun (wx:World) (T:Touch (fun _=>False) w8 wx)=>image_any wx (HYt8.out.quiet T).l (HYt8.out.quiet T).st HRK.out
   obtain ⟨im,him⟩:∃ y,y=imgB Lk Rk:=⟨_,rfl⟩
   simp only [SL.val] at hst hss
   rw [← him] at his hit
   have HST:=hide hst
   have HSS:=hide hss
   have HIS:=hide his
   have HIT:=hide hit
   have HS8:Hid (∀ wx,Blk wx sb 56 #[.slice kA kn kc,.slice A5 n5 c5]→wx.cell? ⟨sb,0,none⟩=some (.slice kA kn kc)∧wx.cell? ⟨sb,1,none⟩=some (.slice A5 n5 c5)):=hide (fun wx h1=>⟨(h1.cell 0).trans rfl,(h1.cell 1).trans rfl⟩)
   clear hys8 hf8 hl8 hr8 T8 T9 HG2 b0 b1 b2 hw8 hst hss his hit him
   go_upto_region 11 with fail
   rw [← HW8.out]
   refine wp_region_held_drew (S:=fun wx=>wx.cell? ⟨sb,0,none⟩=some (.slice kA kn kc)∧wx.cell? ⟨sb,1,none⟩=some (.slice A5 n5 c5)) (by kernel_rfl) (HS8.out _ (HSB8.out.drew)) (fun hHeld=>?_)
   refine wpAnyH_ready (rs:=[0]) (by kernel_rfl) (by simp) ?_
   refine AllReadyH.cons rfl (fun K hK=>?_) AllReadyH.nil
   go_simp
   refine (HAL.out w8.drew (HYs8.out.t.then (Touch.refl _ _).drew)).mono ?_
   rintro e w9 ⟨rfl,T9⟩
   have HT9:=hide ((Touch.refl (fun _=>False) w8).drew.then T9)
   have HSB9:=hide (HSB8.out.touch HT9.out (fun f=>f))
   clear T9
   go_simp
   refine hK.out _ _ (HS8.out _ HSB9.out) (fun hHeld=>?_)
   clear hK K
   try simp only [List.getElem_toArray,List.getElem_cons_succ,List.getElem_cons_zero,Act.put,List.setIfInBounds_toArray,List.set_cons_zero,List.set_cons_succ]
   refine wpAnyH_take (i:=1) (v:=?v1) rfl (by kernel_rfl) (by kernel_rfl) (by kernel_rfl) (fun _ _ _ h=>h) (Or.inl ⟨by kernel_rfl,?h1⟩) hHeld ?_
   case h1=>rintro wq ⟨s0,s1⟩;go_simp;with_reducible rfl
   simp only [List.getElem_toArray,List.getElem_cons_succ,List.getElem_cons_zero,Act.put,List.setIfInBounds_toArray,List.set_cons_zero,List.set_cons_succ]
   refine wpAnyH_take (i:=2) (v:=?v2) rfl (by kernel_rfl) (by kernel_rfl) (by kernel_rfl) (fun _ _ _ h=>h) (Or.inl ⟨by kernel_rfl,?h2⟩) hHeld ?_
   case h2=>rintro wq ⟨s0,s1⟩;go_simp;with_reducible rfl
   simp only [List.getElem_toArray,List.getElem_cons_succ,List.getElem_cons_zero,Act.put,List.setIfInBounds_toArray,List.set_cons_zero,List.set_cons_succ]
   refine wpAnyH_take (i:=3) (v:=?v3) rfl (by kernel_rfl) (by kernel_rfl) (by kernel_rfl) (fun _ _ _ h=>h) (Or.inl ⟨by kernel_rfl,?h3⟩) hHeld ?_
   case h3=>rintro wq ⟨s0,s1⟩;go_simp;with_reducible rfl
   simp only [List.getElem_toArray,List.getElem_cons_succ,List.getElem_cons_zero,Act.put,List.setIfInBounds_toArray,List.set_cons_zero,List.set_cons_succ]
   refine wpAnyH_take (i:=4) (v:=?v4) rfl (by kernel_rfl) (by kernel_rfl) (by kernel_rfl) (fun _ _ _ h=>h) (Or.inl ⟨by kernel_rfl,?h4⟩) hHeld ?_
   case h4=>rintro wq ⟨s0,s1⟩;go_simp;with_reducible rfl
   simp only [List.getElem_toArray,List.getElem_cons_succ,List.getElem_cons_zero,Act.put,List.setIfInBounds_toArray,List.set_cons_zero,List.set_cons_succ]
   refine wpAnyH_take (i:=5) (v:=?v5) rfl (by kernel_rfl) (by kernel_rfl) (by kernel_rfl) (fun _ _ _ h=>h) (Or.inl ⟨by kernel_rfl,?h5⟩) hHeld ?_
   case h5=>rintro wq ⟨s0,s1⟩;go_simp;with_reducible rfl
   simp only [List.getElem_toArray,List.getElem_cons_succ,List.getElem_cons_zero,Act.put,List.setIfInBounds_toArray,List.set_cons_zero,List.set_cons_succ]
   refine wpAnyH_take (i:=6) (v:=?v6) rfl (by kernel_rfl) (by kernel_rfl) (by kernel_rfl) (fun _ _ _ h=>h) (Or.inl ⟨by kernel_rfl,?h6⟩) hHeld ?_
   case h6=>rintro wq ⟨s0,s1⟩;go_simp;with_reducible rfl
   simp only [List.getElem_toArray,List.getElem_cons_succ,List.getElem_cons_zero,Act.put,List.setIfInBounds_toArray,List.set_cons_zero,List.set_cons_succ]
   refine wpAnyH_take (i:=7) (v:=?v7) rfl (by kernel_rfl) (by kernel_rfl) (by kernel_rfl) (fun _ _ _ h=>h) (Or.inl ⟨by kernel_rfl,?h7⟩) hHeld ?_
   case h7=>rintro wq ⟨s0,s1⟩;go_simp;with_reducible rfl
   simp only [List.getElem_toArray,List.getElem_cons_succ,List.getElem_cons_zero,Act.put,List.setIfInBounds_toArray,List.set_cons_zero,List.set_cons_succ]
   refine wpAnyH_take (i:=8) (v:=?v8) rfl (by kernel_rfl) (by kernel_rfl) (by kernel_rfl) (fun _ _ _ h=>h) (Or.inl ⟨by kernel_rfl,?h8⟩) hHeld ?_
   case h8=>rintro wq ⟨s0,s1⟩;go_simp;with_reducible rfl
   simp only [List.getElem_toArray,List.getElem_cons_succ,List.getElem_cons_zero,Act.put,List.setIfInBounds_toArray,List.set_cons_zero,List.set_cons_succ]
   refine wpAnyH_take (i:=9) (v:=?v9) rfl (by kernel_rfl) (by kernel_rfl) (by kernel_rfl) (fun _ _ _ h=>h) (Or.inl ⟨by kernel_rfl,?h9⟩) hHeld ?_
   case h9=>rintro wq ⟨s0,s1⟩;go_simp;with_reducible rfl
   simp only [List.getElem_toArray,List.getElem_cons_succ,List.getElem_cons_zero,Act.put,List.setIfInBounds_toArray,List.set_cons_zero,List.set_cons_succ]
   refine wpAnyH_ready (rs:=[10]) (by kernel_rfl) (by simp) ?_
   refine AllReadyH.cons rfl (fun K hK=>?_) AllReadyH.nil
   go_simp
   refine (HST.out w9 HT9.out).mono ?_
   rintro e wA ⟨rfl,T9⟩
   have HTA:=hide (HT9.out.then T9)
   have HSBa:=hide (HSB9.out.touch T9 (fun f=>f))
   clear T9
   go_simp
   refine hK.out _ _ (HS8.out _ HSBa.out) (fun hHeld=>?_)
   clear hK K
   try simp only [List.getElem_toArray,List.getElem_cons_succ,List.getElem_cons_zero,Act.put,List.setIfInBounds_toArray,List.set_cons_zero,List.set_cons_succ]
   refine wpAnyH_take (i:=11) (v:=?v11) rfl (by kernel_rfl) (by kernel_rfl) (by kernel_rfl) (fun _ _ _ h=>h) (Or.inl ⟨by kernel_rfl,?h11⟩) hHeld ?_
   case h11=>rintro wq ⟨s0,s1⟩;go_simp;with_reducible rfl
   simp only [List.getElem_toArray,List.getElem_cons_succ,List.getElem_cons_zero,Act.put,List.setIfInBounds_toArray,List.set_cons_zero,List.set_cons_succ]
   refine wpAnyH_take (i:=12) (v:=?v12) rfl (by kernel_rfl) (by kernel_rfl) (by kernel_rfl) (fun _ _ _ h=>h) (Or.inl ⟨by kernel_rfl,?h12⟩) hHeld ?_
   case h12=>rintro wq ⟨s0,s1⟩;go_simp;with_reducible rfl
   simp only [List.getElem_toArray,List.getElem_cons_succ,List.getElem_cons_zero,Act.put,List.setIfInBounds_toArray,List.set_cons_zero,List.set_cons_succ]
   refine wpAnyH_take (i:=13) (v:=?v13) rfl (by kernel_rfl) (by kernel_rfl) (by kernel_rfl) (fun _ _ _ h=>h) (Or.inl ⟨by kernel_rfl,?h13⟩) hHeld ?_
   case h13=>rintro wq ⟨s0,s1⟩;go_simp;with_reducible rfl
   simp only [List.getElem_toArray,List.getElem_cons_succ,List.getElem_cons_zero,Act.put,List.setIfInBounds_toArray,List.set_cons_zero,List.set_cons_succ]
   refine wpAnyH_take (i:=14) (v:=?v14) rfl (by kernel_rfl) (by kernel_rfl) (by kernel_rfl) (fun _ _ _ h=>h) (Or.inl ⟨by kernel_rfl,?h14⟩) hHeld ?_
   case h14=>rintro wq ⟨s0,s1⟩;go_simp;with_reducible rfl
   simp only [List.getElem_toArray,List.getElem_cons_succ,List.getElem_cons_zero,Act.put,List.setIfInBounds_toArray,List.set_cons_zero,List.set_cons_succ]
   refine wpAnyH_ready (rs:=[15]) (by kernel_rfl) (by simp) ?_
   refine AllReadyH.cons rfl (fun K hK=>?_) AllReadyH.nil
   go_simp
   refine (HSS.out wA HTA.out).mono ?_
   rintro e wB ⟨rfl,T9⟩
   have HTB:=hide (HTA.out.then T9)
   have HSBb:=hide (HSBa.out.touch T9 (fun f=>f))
   clear T9
   go_simp
   refine hK.out _ _ (HS8.out _ HSBb.out) (fun hHeld=>?_)
   clear hK K
   try simp only [List.getElem_toArray,List.getElem_cons_succ,List.getElem_cons_zero,Act.put,List.setIfInBounds_toArray,List.set_cons_zero,List.set_cons_succ]
   refine wpAnyH_take (i:=16) (v:=?v16) rfl (by kernel_rfl) (by kernel_rfl) (by kernel_rfl) (fun _ _ _ h=>h) (Or.inl ⟨by kernel_rfl,?h16⟩) hHeld ?_
   case h16=>rintro wq ⟨s0,s1⟩;go_simp;with_reducible rfl
   simp only [List.getElem_toArray,List.getElem_cons_succ,List.getElem_cons_zero,Act.put,List.setIfInBounds_toArray,List.set_cons_zero,List.set_cons_succ]
   refine wpAnyH_take (i:=17) (v:=?v17) rfl (by kernel_rfl) (by kernel_rfl) (by kernel_rfl) (fun _ _ _ h=>h) (Or.inl ⟨by kernel_rfl,?h17⟩) hHeld ?_
   case h17=>rintro wq ⟨s0,s1⟩;go_simp;with_reducible rfl
   simp only [List.getElem_toArray,List.getElem_cons_succ,List.getElem_cons_zero,Act.put,List.setIfInBounds_toArray,List.set_cons_zero,List.set_cons_succ]
   refine wpAnyH_take (i:=18) (v:=?v18) rfl (by kernel_rfl) (by kernel_rfl) (by kernel_rfl) (fun _ _ _ h=>h) (Or.inl ⟨by kernel_rfl,?h18⟩) hHeld ?_
   case h18=>rintro wq ⟨s0,s1⟩;go_simp;with_reducible rfl
   simp only [List.getElem_toArray,List.getElem_cons_succ,List.getElem_cons_zero,Act.put,List.setIfInBounds_toArray,List.set_cons_zero,List.set_cons_succ]
   refine wpAnyH_take (i:=21) (v:=?v21) rfl (by kernel_rfl) (by kernel_rfl) (by kernel_rfl) (fun _ _ _ h=>h) (Or.inl ⟨by kernel_rfl,?h21⟩) hHeld ?_
   case h21=>rintro wq ⟨s0,s1⟩;go_simp;with_reducible rfl
   simp only [List.getElem_toArray,List.getElem_cons_succ,List.getElem_cons_zero,Act.put,List.setIfInBounds_toArray,List.set_cons_zero,List.set_cons_succ]
   refine wpAnyH_ready (rs:=[19]) (by kernel_rfl) (by simp) ?_
   refine AllReadyH.cons rfl (fun K hK=>?_) AllReadyH.nil
   go_simp
   refine (HIS.out wB HTB.out).mono ?_
   rintro e wC ⟨AI,qI,cI,rfl,hoI⟩
   have HOI:=hide hoI
   have HTC:=hide (HTB.out.then hoI.touch)
   have HSBc:=hide (HSBb.out.touch hoI.touch (fun f=>f))
   clear hoI
   go_simp
   refine hK.out _ _ (HS8.out _ HSBc.out) (fun hHeld=>?_)
   clear hK K
   try simp only [List.getElem_toArray,List.getElem_cons_succ,List.getElem_cons_zero,Act.put,List.setIfInBounds_toArray,List.set_cons_zero,List.set_cons_succ]
   refine wpAnyH_ready (rs:=[20,22]) (by kernel_rfl) (by simp) ?_
   refine AllReadyH.cons rfl (fun K hK=>?_) (AllReadyH.cons rfl (fun K hK=>?_) AllReadyH.nil)
   ·rw [if_pos (by rfl)]
    refine wp_conv_run 50 9 (.tmp 72) rfl (.slice AI qI cI) _ rfl (conv_img wC AI qI cI im (HOI.out).own) ?_
    refine hK.out _ _ (HS8.out _ HSBc.out) (fun hHeld=>?_)
    clear hK K
    try simp only [List.getElem_toArray,List.getElem_cons_succ,List.getElem_cons_zero,Act.put,List.setIfInBounds_toArray,List.set_cons_zero,List.set_cons_succ]
    refine wpAnyH_ready (rs:=[22]) (by kernel_rfl) (by simp) ?_
    refine AllReadyH.cons rfl (fun K hK=>?_) AllReadyH.nil
    go_simp
    refine (HIT.out wC HTC.out).mono ?_
    rintro e wD ⟨AJ,qJ,cJ,rfl,hoJ⟩
    have HOJ:=hide hoJ
    have HSBd:=hide (HSBc.out.touch hoJ.touch (fun f=>f))
    clear hoJ
    go_simp
    refine hK.out _ _ (HS8.out _ HSBd.out) (fun hHeld=>?_)
    clear hK K
    try simp only [List.getElem_toArray,List.getElem_cons_succ,List.getElem_cons_zero,Act.put,List.setIfInBounds_toArray,List.set_cons_zero,List.set_cons_succ]
    refine wpAnyH_ready (rs:=[23]) (by kernel_rfl) (by simp) ?_
    refine AllReadyH.cons rfl (fun K hK=>?_) AllReadyH.nil
    rw [if_pos (by rfl)]
    refine wp_conv_run 50 9 (.tmp 75) rfl (.slice AJ qJ cJ) _ rfl (conv_img wD AJ qJ cJ im (HOJ.out).own) ?_
    refine hK.out _ _ (HS8.out _ HSBd.out) (fun hHeld=>?_)
    clear hK K
    try simp only [List.getElem_toArray,List.getElem_cons_succ,List.getElem_cons_zero,Act.put,List.setIfInBounds_toArray,List.set_cons_zero,List.set_cons_succ]
    refine wpAnyH_take (i:=24) (v:=?va24) rfl (by kernel_rfl) (by kernel_rfl) (by kernel_rfl) (fun _ _ _ h=>h) (Or.inl ⟨by kernel_rfl,?ha24⟩) hHeld ?_
    case ha24=>rintro wq ⟨s0,s1⟩;go_simp;with_reducible rfl
    simp only [List.getElem_toArray,List.getElem_cons_succ,List.getElem_cons_zero,Act.put,List.setIfInBounds_toArray,List.set_cons_zero,List.set_cons_succ]
    refine wpAnyH_take (i:=25) (v:=?va25) rfl (by kernel_rfl) (by kernel_rfl) (by kernel_rfl) (fun _ _ _ h=>h) (Or.inl ⟨by kernel_rfl,?ha25⟩) hHeld ?_
    case ha25=>rintro wq ⟨s0,s1⟩;go_simp;with_reducible rfl
    simp only [List.getElem_toArray,List.getElem_cons_succ,List.getElem_cons_zero,Act.put,List.setIfInBounds_toArray,List.set_cons_zero,List.set_cons_succ]
    refine wpAnyH_take (i:=26) (v:=?va26) rfl (by kernel_rfl) (by kernel_rfl) (by kernel_rfl) (fun _ _ _ h=>h) (Or.inl ⟨by kernel_rfl,?ha26⟩) hHeld ?_
    case ha26=>rintro wq ⟨s0,s1⟩;go_simp;with_reducible rfl
    simp only [List.getElem_toArray,List.getElem_cons_succ,List.getElem_cons_zero,Act.put,List.setIfInBounds_toArray,List.set_cons_zero,List.set_cons_succ]
    refine wpAnyH_done (by kernel_rfl) ?_ _
    go_wp2_with fail
    go_ret
    exact ⟨rfl,(HYs8.out.t.then (HTC.out.then HOJ.out.touch))⟩
   ·go_simp
    refine (HIT.out wC HTC.out).mono ?_
    rintro e wD ⟨AJ,qJ,cJ,rfl,hoJ⟩
    have HOJ:=hide hoJ
    have HSBd:=hide (HSBc.out.touch hoJ.touch (fun f=>f))
    clear hoJ
    go_simp
    refine hK.out _ _ (HS8.out _ HSBd.out) (fun hHeld=>?_)
    clear hK K
    try simp only [List.getElem_toArray,List.getElem_cons_succ,List.getElem_cons_zero,Act.put,List.setIfInBounds_toArray,List.set_cons_zero,List.set_cons_succ]
    refine wpAnyH_ready (rs:=[20,23]) (by kernel_rfl) (by simp) ?_
    refine AllReadyH.cons rfl (fun K hK=>?_) (AllReadyH.cons rfl (fun K hK=>?_) AllReadyH.nil)
    ·rw [if_pos (by rfl)]
     refine wp_conv_run 50 9 (.tmp 72) rfl (.slice AI qI cI) _ rfl (conv_img wD AI qI cI im (HOI.out.to HOJ.out.touch).own) ?_
     refine hK.out _ _ (HS8.out _ HSBd.out) (fun hHeld=>?_)
     clear hK K
     try simp only [List.getElem_toArray,List.getElem_cons_succ,List.getElem_cons_zero,Act.put,List.setIfInBounds_toArray,List.set_cons_zero,List.set_cons_succ]
     refine wpAnyH_ready (rs:=[23]) (by kernel_rfl) (by simp) ?_
     refine AllReadyH.cons rfl (fun K hK=>?_) AllReadyH.nil
     rw [if_pos (by rfl)]
     refine wp_conv_run 50 9 (.tmp 75) rfl (.slice AJ qJ cJ) _ rfl (conv_img wD AJ qJ cJ im (HOJ.out).own) ?_
     refine hK.out _ _ (HS8.out _ HSBd.out) (fun hHeld=>?_)
     clear hK K
     try simp only [List.getElem_toArray,List.getElem_cons_succ,List.getElem_cons_zero,Act.put,List.setIfInBounds_toArray,List.set_cons_zero,List.set_cons_succ]
     refine wpAnyH_take (i:=24) (v:=?vb24) rfl (by kernel_rfl) (by kernel_rfl) (by kernel_rfl) (fun _ _ _ h=>h) (Or.inl ⟨by kernel_rfl,?hb24⟩) hHeld ?_
     case hb24=>rintro wq ⟨s0,s1⟩;go_simp;with_reducible rfl
     simp only [List.getElem_toArray,List.getElem_cons_succ,List.getElem_cons_zero,Act.put,List.setIfInBounds_toArray,List.set_cons_zero,List.set_cons_succ]
     refine wpAnyH_take (i:=25) (v:=?vb25) rfl (by kernel_rfl) (by kernel_rfl) (by kernel_rfl) (fun _ _ _ h=>h) (Or.inl ⟨by kernel_rfl,?hb25⟩) hHeld ?_
     case hb25=>rintro wq ⟨s0,s1⟩;go_simp;with_reducible rfl
     simp only [List.getElem_toArray,List.getElem_cons_succ,List.getElem_cons_zero,Act.put,List.setIfInBounds_toArray,List.set_cons_zero,List.set_cons_succ]
     refine wpAnyH_take (i:=26) (v:=?vb26) rfl (by kernel_rfl) (by kernel_rfl) (by kernel_rfl) (fun _ _ _ h=>h) (Or.inl ⟨by kernel_rfl,?hb26⟩) hHeld ?_
     case hb26=>rintro wq ⟨s0,s1⟩;go_simp;with_reducible rfl
     simp only [List.getElem_toArray,List.getElem_cons_succ,List.getElem_cons_zero,Act.put,List.setIfInBounds_toArray,List.set_cons_zero,List.set_cons_succ]
     refine wpAnyH_done (by kernel_rfl) ?_ _
     go_wp2_with fail
     go_ret
     exact ⟨rfl,(HYs8.out.t.then (HTC.out.then HOJ.out.touch))⟩
    ·rw [if_pos (by rfl)]
     refine wp_conv_run 50 9 (.tmp 75) rfl (.slice AJ qJ cJ) _ rfl (conv_img wD AJ qJ cJ im (HOJ.out).own) ?_
     refine hK.out _ _ (HS8.out _ HSBd.out) (fun hHeld=>?_)
     clear hK K
     try simp only [List.getElem_toArray,List.getElem_cons_succ,List.getElem_cons_zero,Act.put,List.setIfInBounds_toArray,List.set_cons_zero,List.set_cons_succ]
     refine wpAnyH_ready (rs:=[20]) (by kernel_rfl) (by simp) ?_
     refine AllReadyH.cons rfl (fun K hK=>?_) AllReadyH.nil
     rw [if_pos (by rfl)]
     refine wp_conv_run 50 9 (.tmp 72) rfl (.slice AI qI cI) _ rfl (conv_img wD AI qI cI im (HOI.out.to HOJ.out.touch).own) ?_
     refine hK.out _ _ (HS8.out _ HSBd.out) (fun hHeld=>?_)
     clear hK K
     try simp only [List.getElem_toArray,List.getElem_cons_succ,List.getElem_cons_zero,Act.put,List.setIfInBounds_toArray,List.set_cons_zero,List.set_cons_succ]
     refine wpAnyH_take (i:=24) (v:=?vc24) rfl (by kernel_rfl) (by kernel_rfl) (by kernel_rfl) (fun _ _ _ h=>h) (Or.inl ⟨by kernel_rfl,?hc24⟩) hHeld ?_
     case hc24=>rintro wq ⟨s0,s1⟩;go_simp;with_reducible rfl
     simp only [List.getElem_toArray,List.getElem_cons_succ,List.getElem_cons_zero,Act.put,List.setIfInBounds_toArray,List.set_cons_zero,List.set_cons_succ]
     refine wpAnyH_take (i:=25) (v:=?vc25) rfl (by kernel_rfl) (by kernel_rfl) (by kernel_rfl) (fun _ _ _ h=>h) (Or.inl ⟨by kernel_rfl,?hc25⟩) hHeld ?_
     case hc25=>rintro wq ⟨s0,s1⟩;go_simp;with_reducible rfl
     simp only [List.getElem_toArray,List.getElem_cons_succ,List.getElem_cons_zero,Act.put,List.setIfInBounds_toArray,List.set_cons_zero,List.set_cons_succ]
     refine wpAnyH_take (i:=26) (v:=?vc26) rfl (by kernel_rfl) (by kernel_rfl) (by kernel_rfl) (fun _ _ _ h=>h) (Or.inl ⟨by kernel_rfl,?hc26⟩) hHeld ?_
     case hc26=>rintro wq ⟨s0,s1⟩;go_simp;with_reducible rfl
     simp only [List.getElem_toArray,List.getElem_cons_succ,List.getElem_cons_zero,Act.put,List.setIfInBounds_toArray,List.set_cons_zero,List.set_cons_succ]
     refine wpAnyH_done (by kernel_rfl) ?_ _
     go_wp2_with fail
     go_ret
     exact ⟨rfl,(HYs8.out.t.then (HTC.out.then HOJ.out.touch))⟩
  ·have k3:decide ((m:Int)≤400)=false:=by simp;omega
   rw [k3] at HFEU
   have HA2:=hide (HAL.out W (Touch.refl _ _))
   clear hm hmU hbig hbigU k2 k3 hL hT hR hWf hU hRU hWfU hIn hInU
   go_enter Tryz.func7,Tryz.ntmps7
   go_wp2_with fail
   refine (HFEW.out _).mono ?_
   rintro e w2 ⟨rfl,rfl⟩
   go_wp2_with fail
   refine (HFEU.out _).mono ?_
   rintro e w2 ⟨rfl,rfl⟩
   go_wp2_with fail
   refine HA2.out.mono ?_
   rintro e w3 ⟨rfl,T3⟩
   have HT3:=hide T3
   clear T3
   go_wp2_with fail
   go_ret
   exact ⟨rfl,HT3.out⟩
 ·have k2:decide ((n:Int)≤400)=false:=by simp;omega
  rw [k2] at HFEW
  have HA2:=hide (HAL.out W (Touch.refl _ _))
  clear hm hmU hbig k2 hL hT hR hWf hU hRU hWfU hIn hInU
  go_enter Tryz.func7,Tryz.ntmps7
  go_wp2_with fail
  refine (HFEW.out _).mono ?_
  rintro e w2 ⟨rfl,rfl⟩
  go_wp2_with fail
  refine HA2.out.mono ?_
  rintro e w3 ⟨rfl,T3⟩
  have HT3:=hide T3
  clear T3
  go_wp2_with fail
  go_ret
  exact ⟨rfl,HT3.out⟩
end Go.Proofs.YthockgmbooefpaaGreatDoor
namespace Go.Proofs.YthockgmbooefpaaGreatDoor
open Go.RowKit Go.ChangeShapes Go.WideShapes Go.ChangeAt
theorem Tryz.own:ownKnob Tryz.prog.godebug=none:=by kernel_rfl
theorem Tryz.laidOut:laidOutB Tryz.prog=true:=by kernel_rfl
theorem ret_below {P:Program} {f:FuncId} {args:Array Value} {W:World} (h:Calls P f args W fun e W'=>e=.returned (.bool true)∧Touch (fun _=>False) W W'):Calls P f args W fun e W'=>e=.returned (.bool true)∧Below W.heap.size W W' :=
 h.mono (by rintro e W' ⟨rfl,T⟩;exact ⟨rfl,T.below (Nat.le_refl _) (fun _ _ f=>f)⟩)
end Go.Proofs.YthockgmbooefpaaGreatDoor
namespace Go.Proofs.YthockgmbooefpaaGreatDoor
theorem and2 {a b:Bool} (ha:a=true) (hb:b=true):(a && b)=true:=by rw [ha,hb];rfl
theorem g_main:Tryz.pinned.checked.prog.mainIs=some (true,"b77970bafad3625c7a6c41321677aa064966117ab5676fe04803710f66b42c4f".toList):=by kernel_rfl
theorem g_looks:true=Tryz.pinned.checked.prog.looks []:=by kernel_rfl
end Go.Proofs.YthockgmbooefpaaGreatDoor
namespace Go.Proofs.YthockgmbooefpaaGreatDoor
open Go.RowKit Go.ChangeShapes Go.WideShapes Go.ChangeAt
section
variable {H:Type} {enc:TypeId × Value→H} {P:Program} {w:World} {base:Nat} {spare:Nat→Bool} {held:Bool}
theorem field_bulk {t:TypeId} {fs:Array Field} {fuel:Nat} {cs:List Value} {x:DataW H × List MemPlace} (hs:P.underlying t=some (.struct fs)) (h:DataW.trod enc P w base spare held fuel t cs=some x)
  (i:Nat) (f:Field) (hf:fs[i]? = some f) (hk:P.underlying f.type=some .string) (hc:P.cellsOf f.type=1):∃ s:ByteArray,cs[f.offset]? = some (.string s)∧s.size≤Rows.uptoBulk x.1:=by
 obtain ⟨xs,n,_,hx,_,hlen,hg⟩:=DataW.trod_struct hs h
 have hi:i<fs.size:=(Array.getElem?_eq_some_iff.1 hf).1
 have hy:=hg i f hf
 rw [List.getElem?_eq_getElem (by omega:i<xs.length),hc] at hy
 obtain ⟨s,hn,hd,_⟩:=DataW.trod_string hk hy
 refine ⟨s,drop_take_one hn,?_⟩
 have hm:(xs[i]'(by omega)).1∈xs.map (·.1):=List.mem_map.2 ⟨_,List.getElem_mem _,rfl⟩
 have h1:=bulk_mem hm
 rw [hx]
 simp only [Rows.uptoBulk]
 rw [hd] at h1
 simp only [Rows.uptoBulk] at h1
 have e:s.data.toList.length=s.size:=Array.length_toList
 omega
theorem open_rowsB {R:Type} [Inhabited R] (cells:R→List Value) (bk:R→Nat) (size:Nat) (hcl:∀ r,(cells r).length=size) (h0:0<size) {t e:TypeId} {fuel:Nat} {cs:List Value} {x:DataW H × List MemPlace}
  (ht:P.underlying t=some (.slice e)) (hC:P.cellsOf e=size) (elem:∀ n cs (y:DataW H × List MemPlace),cs.length=size→DataW.trod enc P w base spare held n e cs=some y→∃ r,cs=cells r∧bk r≤Rows.uptoBulk y.1)
  (h:DataW.trod enc P w base spare held fuel t cs=some x) :
  ∃ A len cap,∃ l:List R,cs=[.slice A len cap]∧l.length=len∧len≤cap∧cap≤maxLen∧(A=none→len=0∧cap=0)∧Reads w size A len (l.flatMap cells)∧(∀ r∈l,bk r≤Rows.uptoBulk x.1)∧len≤Rows.uptoBulk x.1:=by
 rcases Go.Deep.open_slice ht h with ⟨hcs,hx⟩ | ⟨a,len,cap,m,n,D,Pl,hcs,hb,hl,hm,hmm,hx,hi⟩
 ·exact ⟨none,0,0,[],hcs,rfl,Nat.le_refl _,by simp [maxLen],fun _=>⟨rfl,rfl⟩,Reads.nil _ _ _,by simp,Nat.zero_le _⟩
 ·have hlm:len≤m:=by rw [hmm];split<;>omega
  have hel:∀ i,i<len→∃ r:R,bk r≤Rows.uptoBulk (D i)∧∀ j,j<size→w.cell? (a.add (i*size+j))=(cells r)[j]? := by
   intro i hil
   obtain ⟨cs',hc,hty⟩:=hi i (by omega)
   rw [hC] at hc
   obtain ⟨_,hlen,hat⟩:=World.cells?_some hc
   obtain ⟨r,hr,hw⟩:=elem _ cs' _ hlen hty
   refine ⟨r,hw,fun j hj=>?_⟩
   rw [← Go.Deep.add_add,hat j hj,hr]
  obtain ⟨f,hf⟩:=Go.Deep.choose_lt hel
  refine ⟨some a,len,cap,(List.range len).map f,hcs,by simp,hl,hm,(fun h=>by cases h),?_,?_,?_⟩
  ·refine ⟨by rw [flat_len cells size hcl];simp,fun hpos=>?_⟩
   have hc0:=(hf 0 hpos).2 0 h0
   have hsome:(cells (f 0))[0]? = some ((cells (f 0))[0]'(by rw [hcl];exact h0)):=List.getElem?_eq_getElem _
   rw [hsome] at hc0
   have hsp:=World.cell?_spot hc0
   obtain ⟨b,off,spot⟩:=a
   have hspot:spot=none:=by simpa [Addr.add] using hsp
   subst hspot
   have hlt:b<w.heap.size:=World.block_lt_of_cell? w _ (by simpa [Addr.add] using hc0)
   refine ⟨b,off,rfl,hlt,fun j u hu=>?_⟩
   have hjl:j<len*size:=by
    have:=(List.getElem?_eq_some_iff.1 hu).1
    rw [flat_len cells size hcl] at this
    simpa using this
   have hq:j / size<len:=Nat.div_lt_of_lt_mul (by rw [Nat.mul_comm];exact hjl)
   have hr:j % size<size:=Nat.mod_lt _ h0
   have e:j / size*size+j % size=j:=Nat.div_add_mod' j size
   have h1:=flat_at cells size hcl ((List.range len).map f) (j / size) (j % size) (by simpa using hq) hr
   rw [e,hu] at h1
   have h2:=(hf (j / size) hq).2 (j % size) hr
   rw [e,Addr.add_lit] at h2
   rw [h2,h1]
   simp
  ·intro r hr
   simp only [List.mem_map,List.mem_range] at hr
   obtain ⟨i,hi',rfl⟩:=hr
   have hmem:D i∈(List.range len).map D:=List.mem_map.2 ⟨i,List.mem_range.2 hi',rfl⟩
   have h1:=bulk_mem hmem
   have h2:=(hf i hi').1
   rw [hx]
   simp only [Rows.uptoBulk]
   omega
  ·have h1:=bulk_len ((List.range len).map D)
   rw [List.length_map,List.length_range] at h1
   rw [hx]
   simp only [Rows.uptoBulk]
   omega
end
section
variable {H:Type} {enc:TypeId × Value→H} {w:World} {base:Nat} {spare:Nat→Bool} {held:Bool}
instance:Inhabited CmdP:=⟨CmdP.zero⟩
theorem list5 {α:Type} {l:List α} (h:l.length=5):∃ a b c d e,l=[a,b,c,d,e]:=by
 match l,h with
 | [a,b,c,d,e],_=>exact ⟨a,b,c,d,e,rfl⟩
theorem cmd_elem (n:Nat) (cs:List Value) (y:DataW H × List MemPlace) (hl:cs.length=5) (h:DataW.trod enc Tryz.prog w base spare held n 29 cs=some y):∃ r:CmdP,cs=r.cells∧r.word.size≤Rows.uptoBulk y.1∧r.In:=by
 obtain ⟨b,hb,_⟩:=field_int (k:=.i64) Tryz.underlying29 h 0 _ rfl (by kernel_rfl) (by kernel_rfl)
 obtain ⟨s1,hs1,i1⟩:=field_int (k:=.u64) Tryz.underlying29 h 1 _ rfl (by kernel_rfl) (by kernel_rfl)
 obtain ⟨s2,hs2,i2⟩:=field_int (k:=.u64) Tryz.underlying29 h 2 _ rfl (by kernel_rfl) (by kernel_rfl)
 obtain ⟨s,hs,ws⟩:=field_bulk Tryz.underlying29 h 3 _ rfl (by kernel_rfl) (by kernel_rfl)
 obtain ⟨c,hc,_⟩:=field_int (k:=.i64) Tryz.underlying29 h 4 _ rfl (by kernel_rfl) (by kernel_rfl)
 obtain ⟨x0,x1,x2,x3,x4,rfl⟩:=list5 hl
 simp at hs hb hc hs1 hs2
 refine ⟨⟨b,s1,s2,s,c⟩,by rw [hs,hb,hc,hs1,hs2];rfl,ws,?_⟩
 unfold CmdP.In
 simp only
 have j1:=i1
 have j2:=i2
 simp [Lit.wf] at j1 j2
 have m1:IntKind.u64.min=0:=by decide
 have m2:IntKind.u64.max=18446744073709551615:=by decide
 omega
abbrev CmdI:={c:CmdP // c.In}
instance:Inhabited CmdI:=⟨⟨CmdP.zero,by unfold CmdP.In CmdP.zero;simp⟩⟩
theorem open_cmds {r:Reach} {b0:Nat} {v:Value} {d:DataW H} {p:List MemPlace} (hv:Value.okWide Tryz.prog w r b0 22 v) (h:DataW.Trod enc Tryz.prog w base spare held 22 v d p) :
  ∃ A len cap,∃ l:List CmdP,v=.slice A len cap∧l.length=len∧Reads w 5 A len (cCells l)∧len≤maxLen∧(∀ o∈l,o.word.size≤Rows.uptoBulk d)∧∀ o∈l,o.In:=by
 obtain ⟨a0,len,cap,rfl⟩:=okWide_slice Tryz.underlying22 hv
 obtain ⟨fuel,hf⟩:=h
 obtain ⟨A,len',cap',l,hcs,hl,hlc,hm,hn,hr,hw,_⟩:=open_rowsB (R:=CmdI) (fun o=>o.1.cells) (fun o=>o.1.word.size) 5 (fun _=>rfl) (by decide) Tryz.underlying22 (by kernel_rfl) (fun n cs y h1 h2=>by obtain ⟨r,e1,e2,e3⟩:=cmd_elem n cs y h1 h2;exact ⟨⟨r,e3⟩,e1,e2⟩) hf
 simp [Value.cells] at hcs
 obtain ⟨rfl,rfl,rfl⟩:=hcs
 refine ⟨_,_,_,l.map (·.1),rfl,by simpa using hl,?_,Nat.le_trans hlc hm,?_,?_⟩
 ·unfold cCells
  rw [List.flatMap_map]
  exact hr
 ·intro o ho
  obtain ⟨x,hx,rfl⟩:=List.mem_map.1 ho
  exact hw x hx
 ·intro o ho
  obtain ⟨x,hx,rfl⟩:=List.mem_map.1 ho
  exact x.2
end
end Go.Proofs.YthockgmbooefpaaGreatDoor
