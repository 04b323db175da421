/- What the law rests on, part 30. No condition but those that each theorem names. -/
import Derived.Test.YthockgmbooefpaaGreatDoorL29
import Derived.Laws.CopyRow
import Derived.Laws.MakeOwn
import Derived.Lib.SlBuf
import Derived.StillTailTactics
set_option linter.unusedSectionVars false
set_option linter.unusedSimpArgs false
set_option linter.unusedVariables false
set_option maxRecDepth 100000
set_option maxHeartbeats 4000000
namespace Go.Proofs.YthockgmbooefpaaGreatDoor
open Go.RowKit Go.Shelf
theorem own_nilD {w:World} {base:Nat} {e:TypeId} {size n:Nat} {A:Option Addr} {c:Nat} {xs:List Value} (h:w.ownsRow base e size (.slice A n c) n xs):A=none→n=0∧c=0:=by
 intro hA
 rcases h.2 with ⟨e1,_⟩ | ⟨g,cap,cur,e1,_⟩
 ·simp only [Value.slice.injEq] at e1
  exact ⟨e1.2.1,e1.2.2⟩
 ·simp only [Value.slice.injEq] at e1
  rw [hA] at e1
  exact absurd e1.1 (by simp)
theorem own_okD {w:World} {A:Option Addr} {n c:Nat} {L:List PRow} (h:POwn w A n c L):SL.Ok ⟨A,n,c,L⟩ w:=⟨(pown_len h).symm,Reads.of_own h,own_nilD h⟩
theorem nrm_lay {B O Y:List PRow} (h:Nrm (B++O) Y):Y.filter keepP=layP B O:=by
 have e:Y=nrmF (B++O):=h.unique (nrmF_nrm (B++O))
 rw [e]
 rfl
theorem right_dict {L:List PRow} (h:DictP L):rightU L=true:=by
 refine rightU_yes h.len fun j hj=>?_
 rw [fitP_eq]
 have e:L.getD j PRow.zero=L[j]:=by simp [List.getD,hj]
 rw [e]
 have hm:L[j]∈L:=List.getElem_mem hj
 obtain ⟨w1,w2⟩:=h.weight _ hm
 rw [wordU_dict h hm]
 simp only [w1,w2,decide_true,Bool.true_and,Bool.or_eq_true,decide_eq_true_eq]
 by_cases h0:j=0
 ·exact .inl h0
 ·right
  have hj1:j-1<L.length:=by omega
  have e1:L.getD (j-1) PRow.zero=L[j-1]:=by simp [List.getD,hj1]
  rw [e1]
  have hs:=dict_strict h
  rw [List.pairwise_iff_getElem] at hs
  exact hs (j-1) j hj1 hj (by omega)
theorem pairs_x (w:World) (hL:Lst w) {d:Nat} {m:Int} {L:List PRow} {wb:Nat} {B:List PRow} {n:Nat} {A:Option Addr} {c:Nat} {Z:List SV} {wA:Option Addr} {wc:Nat} {oA:Option Addr} {on oc:Nat} {O:List PRow} (hx:DctX w d m L wb B n A c Z wA wc oA on oc O) :
  Calls Tryz.prog 40 #[ptrV d] w fun e w'=>∃ A' c',e=.returned (.slice A' L.length c')∧POwn w' A' L.length c' L∧Touch (fun _=>False) w w':=by
 have hks:∀ wx,Touch (fun _=>False) w wx→wx.cell? ⟨d,0,none⟩=some (ptrV wb)∧wx.cell? ⟨d,1,none⟩=some (.slice oA on oc)∧Touch (fun _=>False) w wx :=
  fun wx T=>⟨((hx.blk.touch T (fun f=>f)).cell 0).trans rfl,((hx.blk.touch T (fun f=>f)).cell 1).trans rfl,T⟩
 have HKS:=hide hks
 have HCO:=hide (fun (wx:World) (T:Touch (fun _=>False) w wx) (Bb:Nat) (hB:Blk wx Bb 92 #[.pointer (some ⟨wb,0,none⟩)])=>collect_any (Lst.touch hL T) (hx.wk.quiet T) hx.lay.dB Bb hB)
 have HOV:=hide (fun (wx:World) (T:Touch (fun _=>False) w wx)=>(show SL.Ok ⟨oA,on,oc,O⟩ wx from ⟨hx.len,hx.ov.rd.touch T (fun _ _ f=>f),hx.nil⟩))
 have HFEW:=hide (And.intro hx.few hx.lay.dB.len)
 have HLAY:=hide hx.lay.lay
 clear hks hx hL
 go_enter Tryz.func40,Tryz.ntmps40
 go_upto_region 1 with fail
 refine wp_region_held_drew (S:=fun wx=>wx.cell? ⟨d,0,none⟩=some (ptrV wb)∧wx.cell? ⟨d,1,none⟩=some (.slice oA on oc)∧Touch (fun _=>False) w wx) (by kernel_rfl) (HKS.out _ (Touch.refl _ _).drew) (fun hHeld=>?_)
 refine wpAnyH_take (i:=0) (v:=?v0) rfl (by kernel_rfl) (by kernel_rfl) (by kernel_rfl) (fun _ _ _ h=>h) (Or.inl ⟨by kernel_rfl,?h0⟩) hHeld ?_
 case h0=>rintro wq ⟨s0,s1,s2⟩;go_simp;with_reducible rfl
 simp only [List.getElem_toArray,List.getElem_cons_succ,List.getElem_cons_zero,Act.put,List.setIfInBounds_toArray,List.set_cons_zero,List.set_cons_succ]
 refine wpAnyH_take (i:=1) (v:=?v1) rfl (by kernel_rfl) (by kernel_rfl) (by kernel_rfl) (fun _ _ _ h=>h) (Or.inl ⟨by kernel_rfl,?h1⟩) hHeld ?_
 case h1=>rintro wq ⟨s0,s1,s2⟩;go_simp;with_reducible rfl
 simp only [List.getElem_toArray,List.getElem_cons_succ,List.getElem_cons_zero,Act.put,List.setIfInBounds_toArray,List.set_cons_zero,List.set_cons_succ]
 refine wpAnyH_take (i:=2) (v:=?v2) rfl (by kernel_rfl) (by kernel_rfl) (by kernel_rfl) (fun _ _ _ h=>h) (Or.inl ⟨by kernel_rfl,?h2⟩) hHeld ?_
 case h2=>rintro wq ⟨s0,s1,s2⟩;go_simp;with_reducible rfl
 simp only [List.getElem_toArray,List.getElem_cons_succ,List.getElem_cons_zero,Act.put,List.setIfInBounds_toArray,List.set_cons_zero,List.set_cons_succ]
 refine wpAnyH_take (i:=3) (v:=?v3) rfl (by kernel_rfl) (by kernel_rfl) (by kernel_rfl) (fun _ _ _ h=>h) (Or.inl ⟨by kernel_rfl,?h3⟩) hHeld ?_
 case h3=>rintro wq ⟨s0,s1,s2⟩;go_simp;with_reducible rfl
 simp only [List.getElem_toArray,List.getElem_cons_succ,List.getElem_cons_zero,Act.put,List.setIfInBounds_toArray,List.set_cons_zero,List.set_cons_succ]
 refine wpAnyH_take (i:=6) (v:=?v6) rfl (by kernel_rfl) (by kernel_rfl) (by kernel_rfl) (fun _ _ _ h=>h) (Or.inl ⟨by kernel_rfl,?h6⟩) hHeld ?_
 case h6=>rintro wq ⟨s0,s1,s2⟩;go_simp;with_reducible rfl
 simp only [List.getElem_toArray,List.getElem_cons_succ,List.getElem_cons_zero,Act.put,List.setIfInBounds_toArray,List.set_cons_zero,List.set_cons_succ]
 refine wpAnyH_take (i:=7) (v:=?v7) rfl (by kernel_rfl) (by kernel_rfl) (by kernel_rfl) (fun _ _ _ h=>h) (Or.inl ⟨by kernel_rfl,?h7⟩) hHeld ?_
 case h7=>rintro wq ⟨s0,s1,s2⟩;go_simp;with_reducible rfl
 simp only [List.getElem_toArray,List.getElem_cons_succ,List.getElem_cons_zero,Act.put,List.setIfInBounds_toArray,List.set_cons_zero,List.set_cons_succ]
 refine wpAnyH_take (i:=8) (v:=?v8) rfl (by kernel_rfl) (by kernel_rfl) (by kernel_rfl) (fun _ _ _ h=>h) (Or.inl ⟨by kernel_rfl,?h8⟩) hHeld ?_
 case h8=>rintro wq ⟨s0,s1,s2⟩;go_simp;with_reducible rfl
 simp only [List.getElem_toArray,List.getElem_cons_succ,List.getElem_cons_zero,Act.put,List.setIfInBounds_toArray,List.set_cons_zero,List.set_cons_succ]
 refine wpAnyH_take (i:=9) (v:=?v9) rfl (by kernel_rfl) (by kernel_rfl) (by kernel_rfl) (fun _ _ _ h=>h) (Or.inl ⟨by kernel_rfl,?h9⟩) hHeld ?_
 case h9=>rintro wq ⟨s0,s1,s2⟩;go_simp;with_reducible rfl
 simp only [List.getElem_toArray,List.getElem_cons_succ,List.getElem_cons_zero,Act.put,List.setIfInBounds_toArray,List.set_cons_zero,List.set_cons_succ]
 refine wpAnyH_ready (rs:=[4]) (by kernel_rfl) (by simp) ?_
 refine AllReadyH.cons rfl (fun K hK=>?_) AllReadyH.nil
 go_simp
 refine (all_any _ wb).mono ?_
 rintro e w1 ⟨Bb,rfl,hB,T1⟩
 have HT1:=hide (((Touch.refl (fun _=>False) w).drew).then T1)
 have HC1:=hide (HCO.out w1 HT1.out Bb hB)
 clear T1 hB
 go_simp
 refine hK.out _ _ (HKS.out _ HT1.out) (fun hHeld=>?_)
 clear hK K
 try simp only [List.getElem_toArray,List.getElem_cons_succ,List.getElem_cons_zero,Act.put,List.setIfInBounds_toArray,List.set_cons_zero,List.set_cons_succ]
 refine wpAnyH_ready (rs:=[5]) (by kernel_rfl) (by simp) ?_
 refine AllReadyH.cons rfl (fun K hK=>?_) AllReadyH.nil
 go_simp
 refine HC1.out.mono ?_
 rintro e w2 ⟨A2,c2,rfl,ho2⟩
 have HT2:=hide (HT1.out.then ho2.touch)
 have HOK2:=hide (own_okD ho2.own)
 have HM:=hide (pmerge_any w2 ⟨A2,B.length,c2,B⟩ ⟨oA,on,oc,O⟩ HOK2.out (HOV.out w2 HT2.out) (by have:=HFEW.out;simp only;omega))
 simp only [SL.val] at HM
 clear ho2
 go_simp
 refine hK.out _ _ (HKS.out _ HT2.out) (fun hHeld=>?_)
 clear hK K
 try simp only [List.getElem_toArray,List.getElem_cons_succ,List.getElem_cons_zero,Act.put,List.setIfInBounds_toArray,List.set_cons_zero,List.set_cons_succ]
 refine wpAnyH_ready (rs:=[10]) (by kernel_rfl) (by simp) ?_
 refine AllReadyH.cons rfl (fun K hK=>?_) AllReadyH.nil
 go_simp
 refine HM.out.mono ?_
 rintro e w3 ⟨A3,n3,c3,Y,rfl,O3,N3,T3,_⟩
 have HT3:=hide (HT2.out.then T3)
 have hfy:Y.filter keepP=L:=(nrm_lay N3).trans HLAY.out.symm
 rw [hfy] at O3
 obtain rfl:=pown_len O3
 have HO3:=hide O3
 clear O3 N3 T3 hfy
 go_simp
 refine hK.out _ _ (HKS.out _ HT3.out) (fun hHeld=>?_)
 clear hK K
 try simp only [List.getElem_toArray,List.getElem_cons_succ,List.getElem_cons_zero,Act.put,List.setIfInBounds_toArray,List.set_cons_zero,List.set_cons_succ]
 refine wpAnyH_take (i:=11) (v:=?v11) rfl (by kernel_rfl) (by kernel_rfl) (by kernel_rfl) (fun _ _ _ h=>h) (Or.inl ⟨by kernel_rfl,?h11⟩) hHeld ?_
 case h11=>rintro wq ⟨s0,s1,s2⟩;go_simp;with_reducible rfl
 simp only [List.getElem_toArray,List.getElem_cons_succ,List.getElem_cons_zero,Act.put,List.setIfInBounds_toArray,List.set_cons_zero,List.set_cons_succ]
 refine wpAnyH_done (by kernel_rfl) ?_ _
 go_wp2_with fail
 go_ret
 exact ⟨A3,c3,rfl,HO3.out,HT3.out⟩
theorem machine_x (w:World) (hL:Lst w) {d:Nat} {m:Int} {L:List PRow} {wb:Nat} {B:List PRow} {n:Nat} {A:Option Addr} {c:Nat} {Z:List SV} {wA:Option Addr} {wc:Nat} {oA:Option Addr} {on oc:Nat} {O:List PRow} (hx:DctX w d m L wb B n A c Z wA wc oA on oc O) :
  Calls Tryz.prog 48 #[ptrV d] w fun e w'=>∃ A' n' c' Z',e=.returned (.agg #[.int .i64 (mach L).base,.slice A' n' c'])∧StsOk w' A' n' Z'∧Z'.map SV.p=(mach L).states∧n'≤c'∧Touch (fun _=>False) w w':=by
 have hlen:=hx.lay.dL.len
 obtain ⟨wa,hwa⟩:∃ y,y=w.alloc (.cells #[.int .i64 0,.slice none 0 0] 89):=⟨_,rfl⟩
 obtain ⟨rb,hrb⟩:∃ y,y=w.heap.size:=⟨_,rfl⟩
 have hTa:Touch (fun _=>False) w wa:=by rw [hwa];exact (Touch.refl _ _).alloc _
 have hbR:Blk wa rb 89 #[.int .i64 0,.slice none 0 0]:=by rw [hwa,hrb];exact Blk.new _ _ _
 have HPR:=hide (pairs_x wa (Lst.touch hL hTa) (hx.quiet hTa))
 have HFB:=hide (fun (wx:World) (T:Touch (fun _=>False) wa wx) (A1:Option Addr) (c1:Nat) (ho:POwn wx A1 L.length c1 L)=>fbuild_any wx (Lst.touch hL (hTa.then T)) ⟨A1,L.length,c1,L⟩ (own_okD ho) (dict_sizes hx.lay.dL) (by unfold maxLen;simp only;omega))
 have hru:rightU L=true:=right_dict hx.lay.dL
 have HRU:=hide hru
 have HWA:=hide hwa
 have HRB:=hide hrb
 have HTA:=hide hTa
 have HBR:=hide hbR
 clear hru hwa hTa hrb hbR hx hL hlen
 go_enter Tryz.func48,Tryz.ntmps48
 go_upto_region 1 with fail
 rw [← HWA.out,← HRB.out]
 go_wp2_with fail
 refine HPR.out.mono ?_
 rintro e w1 ⟨A1,c1,rfl,ho1,T1⟩
 have HT1:=hide T1
 have HF:=hide (HFB.out w1 T1 A1 c1 ho1)
 simp only [SL.val] at HF
 clear T1 ho1 HFB HPR
 go_wp2_with fail
 refine HF.out.mono ?_
 rintro e w2 (⟨hr,_⟩ | ⟨_,A2,n2,c2,Z2,rfl,hst,hz,hnc,T2⟩)
 ·rw [HRU.out] at hr
  cases hr
 ·have HT2:=hide (HT1.out.then T2)
  obtain ⟨bs,hbs⟩:∃ b,b=(mach L).base:=⟨_,rfl⟩
  rw [← hbs]
  have hbR2:=HBR.out.touch HT2.out (fun f=>f)
  obtain ⟨w3,hw3⟩:∃ x,x=w2.alloc (.cells #[.int .i64 bs,.slice A2 n2 c2] 89):=⟨_,rfl⟩
  obtain ⟨mb,hmb⟩:∃ y,y=w2.heap.size:=⟨_,rfl⟩
  have hT3:Touch (fun _=>False) w2 w3:=by rw [hw3];exact (Touch.refl _ _).alloc _
  have hbM:Blk w3 mb 89 #[.int .i64 bs,.slice A2 n2 c2]:=by rw [hw3,hmb];exact Blk.new _ _ _
  have hbR3:=hbR2.touch hT3 (fun f=>f)
  obtain ⟨x0,x1,x2⟩:=hbR3.facts
  obtain ⟨m0,m1,m2⟩:=hbM.facts
  have HBR3:=hide hbR3
  have HST:=hide (hst.quiet hT3)
  have HZ:=hide hz
  have HNC:=hide hnc
  have HT3:=hide (HT2.out.then hT3)
  have HW3:=hide hw3
  have HMB:=hide hmb
  have HBS:=hide hbs
  have HMR:Hid (rb≠mb):=hide (by
   have:=hbR2.lt
   rw [hmb];omega)
  clear T2 hst hz hnc HF hbR2 hw3 hmb hT3 hbM hbR3 hbs
  go_upto_region 2 with fail
  rw [← HW3.out,← HMB.out]
  go_wp2_with fail
  have hbF:Blk ((w3.setCell ⟨rb,0,none⟩ (.int .i64 bs)).setCell ⟨rb,1,none⟩ (.slice A2 n2 c2)) rb 89 #[.int .i64 bs,.slice A2 n2 c2]:=by
   have:=(HBR3.out.set_ 0 (.int .i64 bs)).set_ 1 (.slice A2 n2 c2)
   simpa using this
  have hTF:Touch (fun g=>g=rb) w3 ((w3.setCell ⟨rb,0,none⟩ (.int .i64 bs)).setCell ⟨rb,1,none⟩ (.slice A2 n2 c2)):=((Touch.refl (fun g=>g=rb) w3).setCell (p:=⟨rb,0,none⟩) (fun _=>rfl) _).setCell (p:=⟨rb,1,none⟩) (fun _=>rfl) _
  obtain ⟨k0,k1,k2⟩:=hbF.facts
  refine bodyPost_ret (v:=.agg #[.int .i64 bs,.slice A2 n2 c2]) (by simp [results,Tryz.results48,go_sem,k0]) rfl ?_
  refine ⟨A2,n2,c2,Z2,by rw [HBS.out],?_,HZ.out,HNC.out,?_⟩
  ·exact HST.out.far hTF (fun g t hg ht e=>by
    subst e
    refine (blk_ty HBR3.out).ne hg ?_ rfl
    rcases ht with rfl | rfl | rfl | rfl | rfl<;>decide)
  ·exact (HTA.out.then HT3.out).trans hTF (fun g hg e=>by have:=HRB.out;omega)
theorem compact_x (w:World) (hL:Lst w) {d:Nat} {m:Int} {L:List PRow} {wb:Nat} {B:List PRow} {n:Nat} {A:Option Addr} {c:Nat} {Z:List SV} {wA:Option Addr} {wc:Nat} {oA:Option Addr} {on oc:Nat} {O:List PRow} (hx:DctX w d m L wb B n A c Z wA wc oA on oc O) (hm:m=(L.length:Int)) :
  Calls Tryz.prog 135 #[ptrV d] w fun e w'=>e=.returned (.tuple #[])∧DctM w' d L 0∧Touch (fun g=>g=d) w w':=by
 have HMA:=hide (machine_x w hL hx)
 have HDN:=hide (fun (wx:World) (T:Touch (fun _=>False) w wx) (A1:Option Addr) (n1 c1:Nat) (Z1:List SV) (h1:StsOk wx A1 n1 Z1) (h2:Z1.map SV.p=(mach L).states)=>dnew_any wx (Lst.touch hL T) L hx.lay.dL A1 n1 c1 Z1 h1 h2)
 have HX:=hide hx
 have HM:=hide hm
 obtain ⟨bs,hbs⟩:∃ b,b=(mach L).base:=⟨_,rfl⟩
 rw [← hbs] at HMA HDN
 clear hx hL hm hbs
 go_enter Tryz.func135,Tryz.ntmps135
 go_wp2_with fail
 refine HMA.out.mono ?_
 rintro e w1 ⟨A1,n1,c1,Z1,rfl,hst,hz,_,T1⟩
 have HT1:=hide T1
 have HD:=hide (HDN.out w1 T1 A1 n1 c1 Z1 hst hz)
 clear T1 hst hz HMA HDN
 go_wp2_with fail
 refine HD.out.mono ?_
 rintro e w2 ⟨b,A',c',Z',wA',wc',rfl,hdw,hI⟩
 have HT2:=hide (HT1.out.then hI.touch)
 have HDW:=hide hdw
 have hxb:=HX.out.blk.touch HT2.out (fun f=>f)
 obtain ⟨x0,x1,x2⟩:=hxb.facts
 have HXB:=hide hxb
 clear hdw hI HD hxb
 go_wp2_with fail
 go_end0
 have hbF:Blk ((w2.setCell ⟨d,0,none⟩ (ptrV b)).setCell ⟨d,1,none⟩ (.slice none 0 0)) d 96 #[ptrV b,.slice none 0 0,.int .i64 m]:=by
  have:=(HXB.out.set_ 0 (ptrV b)).set_ 1 (.slice none 0 0)
  simpa using this
 have hTF:Touch (fun g=>g=d) w2 ((w2.setCell ⟨d,0,none⟩ (ptrV b)).setCell ⟨d,1,none⟩ (.slice none 0 0)):=((Touch.refl (fun g=>g=d) w2).setCell (p:=⟨d,0,none⟩) (fun _=>rfl) _).setCell (p:=⟨d,1,none⟩) (fun _=>rfl) _
 rw [HM.out] at hbF
 refine ⟨rfl,⟨by omega,_,_,_,_,_,_,_,_,_,_,_,⟨hbF,HDW.out.far hTF (fun g t hg ht=>dict_ne (blk_ty HXB.out) hg ht),⟨Reads.nil _ _ _,fun h=>absurd h (by omega)⟩,rfl,by omega,fun _=>⟨rfl,rfl⟩,LayP.begin HX.out.lay.dL,HX.out.pos⟩⟩,HT2.out.up _ |>.then hTF⟩
theorem pairs_any (w:World) (hL:Lst w) {d:Nat} {L:List PRow} {q:Nat} (h:DctM w d L q) :
  Calls Tryz.prog 40 #[ptrV d] w fun e w'=>∃ A' c',e=.returned (.slice A' L.length c')∧POwn w' A' L.length c' L∧Touch (fun _=>False) w w':=by
 obtain ⟨h1,wb,B,n,A,c,Z,wA,wc,oA,oc,O,hx⟩:=h
 exact pairs_x w hL hx
theorem machine_any (w:World) (hL:Lst w) {d:Nat} {L:List PRow} {q:Nat} (h:DctM w d L q) :
  Calls Tryz.prog 48 #[ptrV d] w fun e w'=>∃ A' n' c' Z',e=.returned (.agg #[.int .i64 (mach L).base,.slice A' n' c'])∧StsOk w' A' n' Z'∧Z'.map SV.p=(mach L).states∧n'≤c'∧Touch (fun _=>False) w w':=by
 obtain ⟨h1,wb,B,n,A,c,Z,wA,wc,oA,oc,O,hx⟩:=h
 exact machine_x w hL hx
end Go.Proofs.YthockgmbooefpaaGreatDoor
namespace Go.Proofs.YthockgmbooefpaaGreatDoor
open Go.RowKit Go.Shelf
theorem run_copy_rowS {P:Program} (w:World) (dT sT ty elem:TypeId) (g o dLen dCap:Nat) (a:Addr) (sLen sCap size:Nat) (cur:Array Value) (t:TypeId) (cs:List Value)
  (hu:P.underlying dT=some (.slice elem)) (i:TypeInfo) (hi0:P.info? elem=some i) (hi:i.size=size)
  (hg:w.heap[g]? = some (.cells cur t (0,0))) (hn:cs.length=Nat.min sLen dLen*size)
  (hsrc:∀ j v,cs[j]? = some v→w.cell? (a.add j)=some v) (hfit:o+cs.length≤cur.size) (h1:∀ v∈cs,v.oneCell'=true) :
  (Builtin.copy_ #[dT,sT] ty #[.slice (some ⟨g,o,none⟩) dLen dCap,.slice (some a) sLen sCap]).run P w =
    .ok (goInt (Nat.min sLen dLen)) (w.setRow g (cur.toList.take o++cs++cur.toList.drop (o+cs.length)).toArray):=by
 have hl:=run_loadCells_list (P:=P) w a cs hsrc
 have hst:=run_storeCells_at P g o t cs 0 cur w hg (by simpa using hfit) h1
 simp [Builtin.copy_,run_underlying hu,Builtin.lenOf,Builtin.firstCells,sizeOf,typeInfo,hi0,hi,← hn,hl,hst]
theorem run_copy_noneS {P:Program} (w:World) (dT sT ty elem:TypeId) (g o dCap:Nat) (sCap:Nat)
  (hu:P.underlying dT=some (.slice elem)) (i:TypeInfo) (hi0:P.info? elem=some i) :
  (Builtin.copy_ #[dT,sT] ty #[.slice (some ⟨g,o,none⟩) 0 dCap,.slice none 0 sCap]).run P w=.ok (goInt 0) w:=by
 simp [Builtin.copy_,run_underlying hu,Builtin.lenOf,Builtin.firstCells,sizeOf,typeInfo,hi0,storeCells]
theorem one_pairs (L:List PRow):∀ u∈pCells L,u.oneCell'=true:=by
 intro u hu
 obtain ⟨r,_,h⟩:=List.mem_flatMap.1 hu
 simp only [PRow.cells,List.mem_cons,List.not_mem_nil,or_false] at h
 rcases h with rfl | rfl<;>rfl
theorem made_size (z:Array Value) (n:Nat):(madeCells z n).size=n:=by simp [madeCells]
theorem copied (w2:World) (g n:Nat) (oA:Option Addr) (oc:Nat) (O:List PRow) (CS:Array Value) (hCS:CS.size=(n+1)*2) (hg:w2.heap[g]? = some (.cells CS 125 (0,0))) (hO:O.length=n) (hr:Reads w2 2 oA n (pCells O)) (hn:n≤33) :
  ∃ w3,(∀ ty,(Builtin.copy_ #[37,37] ty #[.slice (some ⟨g,0,none⟩) n (n+1),.slice oA n oc]).run Tryz.prog w2=.ok (goInt (n:Int)) w3)∧POwn w3 (some ⟨g,0,none⟩) n (n+1) O∧Touch (fun k=>k=g) w2 w3:=by
 obtain ⟨i0,hi,hz0,hz1,hz2⟩:=info_parts infoPair
 have hlen:=pCells_len O
 rw [hO] at hlen
 have hrow:∀ w3 cs,w3.heap[g]? = some (.cells cs 125 (0,0))→cs.size=(n+1)*2→cs.toList.take (n*2)=pCells O→POwn w3 (some ⟨g,0,none⟩) n (n+1) O:=fun w3 cs h1 h2 h3 =>
  ⟨hlen,.inr ⟨g,n+1,cs,rfl,Nat.zero_le _,h1,by omega,by unfold maxLen;omega,h2,h3⟩⟩
 cases oA with
 | none =>
  have h0:n=0:=by
   refine Classical.byContradiction fun h=>?_
   obtain ⟨b,off,e,_⟩:=hr.2 (by omega)
   cases e
  subst h0
  have hO0:O=[]:=List.eq_nil_of_length_eq_zero hO
  subst hO0
  exact ⟨w2,fun ty=>run_copy_noneS w2 _ _ ty _ g 0 1 oc Tryz.underlying37 i0 hi,hrow w2 CS hg hCS rfl,Touch.refl _ _⟩
 | some a =>
  have hsrc:∀ j v,(pCells O)[j]? = some v→w2.cell? (a.add j)=some v:=by
   intro j v hj
   rcases Nat.eq_zero_or_pos n with h0 | h0
   ·have:O=[]:=List.eq_nil_of_length_eq_zero (by omega)
    subst this
    simp [pCells] at hj
   ·obtain ⟨b,off,e,_,hc⟩:=hr.2 h0
    cases e
    have hadd:(⟨b,off,none⟩:Addr).add j=⟨b,off+j,none⟩:=by unfold Addr.add;split<;>simp_all
    rw [hadd]
    exact hc j v hj
  refine ⟨_,fun ty=>?_,hrow (w2.setRow g (CS.toList.take 0++pCells O++CS.toList.drop (0+(pCells O).length)).toArray) _ (setRow_heap w2 g CS _ _ _ hg) ?_ ?_,⟨rfl,rfl,rfl,by simp [World.setRow],fun k _ hk=>setRow_other w2 g k _ hk⟩⟩
  ·have h:=run_copy_rowS (P:=Tryz.prog) w2 37 37 ty 125 g 0 n (n+1) a n oc 2 CS _ (pCells O) Tryz.underlying37 i0 hi hz1 hg (by rw [hlen];simp) hsrc (by rw [hlen,hCS];omega) (one_pairs O)
   rw [h]
   simp
  ·simp only [List.take_zero,List.nil_append,Nat.zero_add,List.size_toArray,List.length_append,List.length_drop,Array.length_toList,hlen,hCS]
   omega
  ·simp only [List.take_zero,List.nil_append,Nat.zero_add]
   rw [List.take_append_of_le_length (by rw [hlen];exact Nat.le_refl _),List.take_of_length_le (by rw [hlen];exact Nat.le_refl _)]
theorem change_x (w:World) (hL:Lst w) {d:Nat} {m:Int} {L:List PRow} {wb:Nat} {B:List PRow} {n:Nat} {A:Option Addr} {c:Nat} {Z:List SV} {wA:Option Addr} {wc:Nat} {oA:Option Addr} {on oc:Nat} {O:List PRow} (hx:DctX w d m L wb B n A c Z wA wc oA on oc O) (hq:on≤32)
  (p:PRow) (L2:List PRow) (hl:∀ Y,Nrm (O++[p]) Y→LayP B Y L2) (hm:m=(L2.length:Int)) :
  Calls Tryz.prog 79 #[ptrV d,p.val] w fun e w'=>e=.returned (.tuple #[])∧(∃ q,DctM w' d L2 q)∧Touch (fun g=>g=d) w w':=by
 obtain ⟨pw,pn⟩:=p
 obtain ⟨i0,hi0,hz0,hz1,hz2⟩:=info_parts infoPair
 obtain ⟨wa,hwa⟩:∃ y,y=w.alloc (.cells #[.string pw,.int .i64 pn] 125):=⟨_,rfl⟩
 obtain ⟨bb,hbb⟩:∃ y,y=w.heap.size:=⟨_,rfl⟩
 have hTa:Touch (fun _=>False) w wa:=by rw [hwa];exact (Touch.refl _ _).alloc _
 have hbB:Blk wa bb 125 #[.string pw,.int .i64 pn]:=by rw [hwa,hbb];exact Blk.new _ _ _
 obtain ⟨CS,hCS⟩:∃ y,y=madeCells #[.string ByteArray.empty,.int .i64 0] ((on+1)*2):=⟨_,rfl⟩
 have hsz:CS.size=(on+1)*2:=by rw [hCS];exact made_size _ _
 have hmk:∀ W:World,(Instr.makeSlice 37 (.int .i64 (on:Int)) (.int .i64 ((on:Int)+1))).run Tryz.prog W=.ok (.slice (some ⟨W.heap.size,0,none⟩) on (on+1)) (W.alloc (.cells CS 125)):=by
  intro W
  have h:=run_makeSlice (P:=Tryz.prog) W 37 125 i0 _ Tryz.underlying37 hi0 hz0 .i64 .i64 (on:Int) ((on:Int)+1) (by omega) (by omega) (by rw [hz1];omega) (by rw [hz2];omega) (by omega)
  rw [h]
  simp only [Int.toNat_natCast,Int.toNat_natCast_add_one,hz1,hCS,Value.cells]
 have z1:IntKind.i64.wrap ((on:Int)+1)=(on:Int)+1:=IntWalk.i64_in _ (by omega)
 obtain ⟨x0,x1,x2⟩:=(hx.blk.touch hTa (fun f=>f)).facts
 have HX:=hide hx
 have HL:=hide hL
 have HQ:=hide hq
 have HLY:=hide hl
 have HM:=hide hm
 have HTA:=hide hTa
 have HBB:=hide hbB
 have HWA:=hide hwa
 have HB0:=hide hbb
 have HSZ:=hide hsz
 clear hx hL hl hm hTa hbB hwa hbb hsz hCS hq
 unfold PRow.val
 go_enter Tryz.func79,Tryz.ntmps79
 go_upto_region 1 with fail
 rw [← HWA.out,← HB0.out]
 go_still_tail 11,(by kernel_rfl)
 change wpList _ _ _ _ _ wa.drew
 have HDR:Hid (Touch (fun _=>False) w wa.drew):=hide (HTA.out.then (Touch.refl _ _).drew)
 have HBD:Hid (Blk wa.drew bb 125 #[.string pw,.int .i64 pn]):=hide HBB.out.drew
 generalize wa.drew=wd at HDR HBD ⊢
 obtain ⟨wM,hwM⟩:∃ y,y=wd.alloc (.cells CS 125):=⟨_,rfl⟩
 obtain ⟨gM,hgM⟩:∃ y,y=wd.heap.size:=⟨_,rfl⟩
 have HWM:=hide hwM
 have HGM:=hide hgM
 have hTM:Touch (fun _=>False) w wM:=by rw [hwM];exact HDR.out.alloc _
 have hgCS:wM.heap[gM]? = some (.cells CS 125 (0,0)):=by rw [hwM,hgM];exact Blk.new wd 125 CS
 obtain ⟨wC,hcp,hoC,hTC⟩:=copied wM gM on oA oc O CS HSZ.out hgCS HX.out.len (HX.out.ov.rd.touch hTM (fun _ _ f=>f)) (by have:=HQ.out;omega)
 have hgy:w.heap.size≤gM:=by rw [hgM];exact HDR.out.size
 have hTwC:Touch (fun _=>False) w wC:=hTM.trans hTC (fun g hg e=>by omega)
 have HTM:=hide hTM
 have HBC:Hid (Blk wC bb 125 #[.string pw,.int .i64 pn]):=hide (by
  have h1:Blk wM bb 125 #[.string pw,.int .i64 pn]:=by rw [hwM];exact HBD.out.alloc _
  exact h1.touch hTC (fun e=>by have:=HBD.out.lt;omega))
 have HCP:=hide hcp
 have HOC:=hide hoC
 have HTWC:=hide hTwC
 have HGY:=hide hgy
 clear hwM hgM hTM hgCS hcp hoC hTC hTwC hgy x0 x1 x2
 obtain ⟨x0,x1,x2⟩:=(HX.out.blk.touch HTM.out (fun f=>f)).facts
 go_upto_region 2 with fail
 rw [← HWM.out,← HGM.out]
 have hcp:=HCP.out
 obtain ⟨y0,y1,y2⟩:=(HX.out.blk.touch HTWC.out (fun f=>f)).facts
 go_upto_region 3 with fail
 clear hcp x0 x1 x2
 obtain ⟨wB,hwB⟩:∃ y,y=wC.alloc (.cells #[.string pw,.int .i64 pn] 125):=⟨_,rfl⟩
 have hTB:Touch (fun _=>False) wC wB:=by rw [hwB];exact (Touch.refl _ _).alloc _
 have hrd:Reads wB 2 (some ⟨wC.heap.size,0,none⟩) 1 [.string pw,.int .i64 pn]:=by
  rw [hwB]
  have h:=Reads.new (size:=2) wC 125 [.string pw,.int .i64 pn] 1 rfl
  simpa using h
 have hone:∀ u∈[Value.string pw,.int .i64 pn],u.oneCell'=true:=by
  intro u hu
  simp only [List.mem_cons,List.not_mem_nil,or_false] at hu
  rcases hu with rfl | rfl<;>rfl
 obtain ⟨b0,b1,b2⟩:=HBC.out.facts
 have HWB:=hide hwB
 have HTB:=hide (HTWC.out.then hTB)
 have HOB:=hide (World.ownsRow.alloc HOC.out (.cells #[.string pw,.int .i64 pn] 125))
 rw [← hwB] at HOB
 have HRD:=hide hrd
 have HONE:=hide hone
 have HBBd:Hid (on+1≤maxLen∧(on+1)*24≤140737488355328):=hide (by unfold maxLen;have:=HQ.out;omega)
 have hpc:pCells (O++[(⟨pw,pn⟩:PRow)])=pCells O++[.string pw,.int .i64 pn]:=by simp [pCells,PRow.cells]
 have HPC:=hide hpc
 have hgyo:∀ g,(Value.slice (some ⟨gM,0,none⟩) on (on+1)).ownBlock=some g→w.heap.size≤g:=fun g hg=>by
  simp [Value.ownBlock] at hg
  have:=HGY.out
  omega
 have HGYO:=hide hgyo
 clear hwB hTB hrd hone hpc hgyo
 go_wp2_with (at_builtin;rw [← HWB.out];refine wpList_app _ rfl (.tmp 24) (.tmp 26) 37 rfl 125 i0 _ 2 24 Tryz.underlying37 hi0 hz0 hz1 hz2 rfl (by decide) (.slice (some ⟨gM,0,none⟩) on (on+1)) on _ rfl HOB.out (some ⟨wC.heap.size,0,none⟩) 1 1 [.string pw,.int .i64 pn] rfl HRD.out (fun h=>by cases h) HONE.out HBBd.out.1 HBBd.out.2 ?_;intro v6 w6 O6 G6 F6 _;obtain ⟨A6,c6,hv,_,_⟩:=own_len O6;subst hv;have HO6:=hide O6;have HT6:=hide (HTB.out.grown G6 (fun k hk hlt=>by have:=HGYO.out k hk;omega));clear O6 G6 F6 b0 b1 b2 y0 y1 y2)
 have hO6:=HO6.out
 rw [← HPC.out] at hO6
 have HNR:=hide (pnorm_any w6 ⟨A6,on+1,c6,O++[⟨pw,pn⟩]⟩ (own_okD hO6) (by have:=HQ.out;simp only;omega))
 simp only [SL.val] at HNR
 clear hO6
 refine HNR.out.mono ?_
 rintro e w7 ⟨A7,n7,c7,Y,rfl,O7,N7,T7,h7,hnil7,_⟩
 have HT7:=hide (HT6.out.then T7)
 have HN7:=hide N7
 have HO7:=hide O7
 have HK7:=hide (And.intro h7 hnil7)
 have hb7:=HX.out.blk.touch HT7.out (fun f=>f)
 obtain ⟨x0,x1,x2⟩:=hb7.facts
 have HB7:=hide hb7
 have HLN7:=hide (pown_len O7)
 clear T7 h7 hnil7 HNR hb7 O7 N7
 go_upto_region 4 with fail
 have hb8:Blk (w7.setCell ⟨d,1,none⟩ (.slice A7 n7 c7)) d 96 #[ptrV wb,.slice A7 n7 c7,.int .i64 m]:=by
  have:=HB7.out.set_ 1 (.slice A7 n7 c7)
  simpa using this
 have hT8:Touch (fun g=>g=d) w7 (w7.setCell ⟨d,1,none⟩ (.slice A7 n7 c7)):=(Touch.refl (fun g=>g=d) w7).setCell (p:=⟨d,1,none⟩) (fun _=>rfl) _
 obtain ⟨w8,hw8⟩:∃ y,y=w7.setCell ⟨d,1,none⟩ (.slice A7 n7 c7):=⟨_,rfl⟩
 rw [← hw8] at hb8 hT8 ⊢
 have hTw8:Touch (fun g=>g=d) w w8:=(HT7.out.up _).then hT8
 have hdx:DctX w8 d m L2 wb B n A c Z wA wc A7 n7 c7 Y :=
  ⟨hb8,(HX.out.wk.quiet HT7.out).far hT8 (fun g t hg ht=>dict_ne (blk_ty HB7.out) hg ht),(RdT.of_own HO7.out).touch hT8 (fun g hg=>dict_ne (blk_ty HB7.out) hg (.inr (.inr (.inr (.inr rfl))))),HLN7.out.symm,by have h1:n7≤on+1:=HK7.out.1;have h2:=HQ.out;omega,HK7.out.2,HLY.out Y HN7.out,HX.out.pos⟩
 have hL8:Lst w8:=HL.out.far hTw8 (fun e=>by have:=HX.out.pos;omega)
 clear x0 x1 x2
 obtain ⟨x0,x1,x2⟩:=hb8.facts
 by_cases h32:n7≤32
 ·have k1:¬ (32:Int)<(n7:Int):=by omega
  have HDX:=hide hdx
  have HTW8:=hide hTw8
  have H32:=hide h32
  clear hdx hTw8 hL8 hb8 hT8 hw8 h32
  go_wp2_with fail
  go_end0
  refine ⟨rfl,⟨n7,H32.out,wb,B,n,A,c,Z,wA,wc,A7,c7,Y,?_⟩,HTW8.out⟩
  have h:=HDX.out
  rw [HM.out] at h
  exact h
 ·have k1:(32:Int)<(n7:Int):=by omega
  have HCM:=hide (compact_x w8 hL8 hdx HM.out)
  have HTW8:=hide hTw8
  clear hdx hTw8 hL8 hb8 hT8 hw8 h32
  go_wp2_with fail
  refine HCM.out.mono ?_
  rintro e w9 ⟨rfl,hd9,T9⟩
  have HD9:=hide hd9
  have HT9:=hide (HTW8.out.then T9)
  clear hd9 T9 HCM
  go_wp2_with fail
  go_end0
  exact ⟨rfl,⟨0,HD9.out⟩,HT9.out⟩
end Go.Proofs.YthockgmbooefpaaGreatDoor
