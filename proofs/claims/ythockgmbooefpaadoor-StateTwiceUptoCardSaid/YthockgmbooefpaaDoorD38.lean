/- What the law rests on, part 38. No condition but those that each theorem names. -/
import Derived.Test.YthockgmbooefpaaDoorD37
set_option linter.unusedSectionVars false
set_option linter.unusedSimpArgs false
set_option linter.unusedVariables false
namespace Go.Proofs.YthockgmbooefpaaDoor
open Go.RowKit Go.Shelf
theorem own_nilD {w:World} {base:Nat} {e:TypeId} {size n:Nat} {A:Option Addr} {c:Nat} {xs:List Value} (h:w.ownsRow base e size (.slice A n c) n xs):A=none→n=0∧c=0:=by
 intro hA
 rcases h.2 with ⟨e1,_⟩ | ⟨g,cap,cur,e1,_⟩
 ·simp only [Value.slice.injEq] at e1
  exact ⟨e1.2.1,e1.2.2⟩
 ·simp only [Value.slice.injEq] at e1
  rw [hA] at e1
  exact absurd e1.1 (by simp)
theorem own_okD {w:World} {A:Option Addr} {n c:Nat} {L:List PRow} (h:POwn w A n c L):SL.Ok ⟨A,n,c,L⟩ w:=⟨(pown_len h).symm,Reads.of_own h,own_nilD h⟩
theorem nrm_lay {B O Y:List PRow} (h:Nrm (B++O) Y):Y.filter keepP=layP B O:=by
 have e:Y=nrmF (B++O):=h.unique (nrmF_nrm (B++O))
 rw [e]
 rfl
theorem right_dict {L:List PRow} (h:DictP L):rightU L=true:=by
 refine rightU_yes h.len fun j hj=>?_
 rw [fitP_eq]
 have e:L.getD j PRow.zero=L[j]:=by simp [List.getD,hj]
 rw [e]
 have hm:L[j]∈L:=List.getElem_mem hj
 obtain ⟨w1,w2⟩:=h.weight _ hm
 rw [wordU_dict h hm]
 simp only [w1,w2,decide_true,Bool.true_and,Bool.or_eq_true,decide_eq_true_eq]
 by_cases h0:j=0
 ·exact .inl h0
 ·right
  have hj1:j-1<L.length:=by omega
  have e1:L.getD (j-1) PRow.zero=L[j-1]:=by simp [List.getD,hj1]
  rw [e1]
  have hs:=dict_strict h
  rw [List.pairwise_iff_getElem] at hs
  exact hs (j-1) j hj1 hj (by omega)
set_option maxRecDepth 100000 in
set_option maxHeartbeats 4000000 in
theorem pairs_x (w:World) (hL:Lst w) {d:Nat} {m:Int} {L:List PRow} {wb:Nat} {B:List PRow} {n:Nat} {A:Option Addr} {c:Nat} {Z:List SV} {wA:Option Addr} {wc:Nat} {oA:Option Addr} {on oc:Nat} {O:List PRow} (hx:DctX w d m L wb B n A c Z wA wc oA on oc O) :
  Calls Tryd.prog 20 #[ptrV d] w fun e w'=>∃ A' c',e=.returned (.slice A' L.length c')∧POwn w' A' L.length c' L∧Touch (fun _=>False) w w':=by
 have hks:∀ wx,Touch (fun _=>False) w wx→wx.cell? ⟨d,0,none⟩=some (ptrV wb)∧wx.cell? ⟨d,1,none⟩=some (.slice oA on oc)∧Touch (fun _=>False) w wx :=
  fun wx T=>⟨((hx.blk.touch T (fun f=>f)).cell 0).trans rfl,((hx.blk.touch T (fun f=>f)).cell 1).trans rfl,T⟩
 have HKS:=hide hks
 have HCO:=hide (fun (wx:World) (T:Touch (fun _=>False) w wx) (Bb:Nat) (hB:Blk wx Bb 91 #[.pointer (some ⟨wb,0,none⟩)])=>collect_any (Lst.touch hL T) (hx.wk.quiet T) hx.lay.dB Bb hB)
 have HOV:=hide (fun (wx:World) (T:Touch (fun _=>False) w wx)=>(show SL.Ok ⟨oA,on,oc,O⟩ wx from ⟨hx.len,hx.ov.rd.touch T (fun _ _ f=>f),hx.nil⟩))
 have HFEW:=hide (And.intro hx.few hx.lay.dB.len)
 have HLAY:=hide hx.lay.lay
 clear hks hx hL
 go_enter Tryd.func20,Tryd.ntmps20
 go_upto_region 1 with fail
 refine wp_region_held_drew (S:=fun wx=>wx.cell? ⟨d,0,none⟩=some (ptrV wb)∧wx.cell? ⟨d,1,none⟩=some (.slice oA on oc)∧Touch (fun _=>False) w wx) (by kernel_rfl) (HKS.out _ (Touch.refl _ _).drew) (fun hHeld=>?_)
 refine wpAnyH_take (i:=0) (v:=?v0) rfl (by kernel_rfl) (by kernel_rfl) (by kernel_rfl) (fun _ _ _ h=>h) (Or.inl ⟨by kernel_rfl,?h0⟩) hHeld ?_
 case h0=>rintro wq ⟨s0,s1,s2⟩;go_simp;with_reducible rfl
 simp only [List.getElem_toArray,List.getElem_cons_succ,List.getElem_cons_zero,Act.put,List.setIfInBounds_toArray,List.set_cons_zero,List.set_cons_succ]
 refine wpAnyH_take (i:=1) (v:=?v1) rfl (by kernel_rfl) (by kernel_rfl) (by kernel_rfl) (fun _ _ _ h=>h) (Or.inl ⟨by kernel_rfl,?h1⟩) hHeld ?_
 case h1=>rintro wq ⟨s0,s1,s2⟩;go_simp;with_reducible rfl
 simp only [List.getElem_toArray,List.getElem_cons_succ,List.getElem_cons_zero,Act.put,List.setIfInBounds_toArray,List.set_cons_zero,List.set_cons_succ]
 refine wpAnyH_take (i:=2) (v:=?v2) rfl (by kernel_rfl) (by kernel_rfl) (by kernel_rfl) (fun _ _ _ h=>h) (Or.inl ⟨by kernel_rfl,?h2⟩) hHeld ?_
 case h2=>rintro wq ⟨s0,s1,s2⟩;go_simp;with_reducible rfl
 simp only [List.getElem_toArray,List.getElem_cons_succ,List.getElem_cons_zero,Act.put,List.setIfInBounds_toArray,List.set_cons_zero,List.set_cons_succ]
 refine wpAnyH_take (i:=3) (v:=?v3) rfl (by kernel_rfl) (by kernel_rfl) (by kernel_rfl) (fun _ _ _ h=>h) (Or.inl ⟨by kernel_rfl,?h3⟩) hHeld ?_
 case h3=>rintro wq ⟨s0,s1,s2⟩;go_simp;with_reducible rfl
 simp only [List.getElem_toArray,List.getElem_cons_succ,List.getElem_cons_zero,Act.put,List.setIfInBounds_toArray,List.set_cons_zero,List.set_cons_succ]
 refine wpAnyH_take (i:=6) (v:=?v6) rfl (by kernel_rfl) (by kernel_rfl) (by kernel_rfl) (fun _ _ _ h=>h) (Or.inl ⟨by kernel_rfl,?h6⟩) hHeld ?_
 case h6=>rintro wq ⟨s0,s1,s2⟩;go_simp;with_reducible rfl
 simp only [List.getElem_toArray,List.getElem_cons_succ,List.getElem_cons_zero,Act.put,List.setIfInBounds_toArray,List.set_cons_zero,List.set_cons_succ]
 refine wpAnyH_take (i:=7) (v:=?v7) rfl (by kernel_rfl) (by kernel_rfl) (by kernel_rfl) (fun _ _ _ h=>h) (Or.inl ⟨by kernel_rfl,?h7⟩) hHeld ?_
 case h7=>rintro wq ⟨s0,s1,s2⟩;go_simp;with_reducible rfl
 simp only [List.getElem_toArray,List.getElem_cons_succ,List.getElem_cons_zero,Act.put,List.setIfInBounds_toArray,List.set_cons_zero,List.set_cons_succ]
 refine wpAnyH_take (i:=8) (v:=?v8) rfl (by kernel_rfl) (by kernel_rfl) (by kernel_rfl) (fun _ _ _ h=>h) (Or.inl ⟨by kernel_rfl,?h8⟩) hHeld ?_
 case h8=>rintro wq ⟨s0,s1,s2⟩;go_simp;with_reducible rfl
 simp only [List.getElem_toArray,List.getElem_cons_succ,List.getElem_cons_zero,Act.put,List.setIfInBounds_toArray,List.set_cons_zero,List.set_cons_succ]
 refine wpAnyH_take (i:=9) (v:=?v9) rfl (by kernel_rfl) (by kernel_rfl) (by kernel_rfl) (fun _ _ _ h=>h) (Or.inl ⟨by kernel_rfl,?h9⟩) hHeld ?_
 case h9=>rintro wq ⟨s0,s1,s2⟩;go_simp;with_reducible rfl
 simp only [List.getElem_toArray,List.getElem_cons_succ,List.getElem_cons_zero,Act.put,List.setIfInBounds_toArray,List.set_cons_zero,List.set_cons_succ]
 refine wpAnyH_ready (rs:=[4]) (by kernel_rfl) (by simp) ?_
 refine AllReadyH.cons rfl (fun K hK=>?_) AllReadyH.nil
 go_simp
 refine (all_any _ wb).mono ?_
 rintro e w1 ⟨Bb,rfl,hB,T1⟩
 have HT1:=hide (((Touch.refl (fun _=>False) w).drew).then T1)
 have HC1:=hide (HCO.out w1 HT1.out Bb hB)
 clear T1 hB
 go_simp
 refine hK.out _ _ (HKS.out _ HT1.out) (fun hHeld=>?_)
 clear hK K
 try simp only [List.getElem_toArray,List.getElem_cons_succ,List.getElem_cons_zero,Act.put,List.setIfInBounds_toArray,List.set_cons_zero,List.set_cons_succ]
 refine wpAnyH_ready (rs:=[5]) (by kernel_rfl) (by simp) ?_
 refine AllReadyH.cons rfl (fun K hK=>?_) AllReadyH.nil
 go_simp
 refine HC1.out.mono ?_
 rintro e w2 ⟨A2,c2,rfl,ho2⟩
 have HT2:=hide (HT1.out.then ho2.touch)
 have HOK2:=hide (own_okD ho2.own)
 have HM:=hide (pmerge_any w2 ⟨A2,B.length,c2,B⟩ ⟨oA,on,oc,O⟩ HOK2.out (HOV.out w2 HT2.out) (by have:=HFEW.out;simp only;omega))
 simp only [SL.val] at HM
 clear ho2
 go_simp
 refine hK.out _ _ (HKS.out _ HT2.out) (fun hHeld=>?_)
 clear hK K
 try simp only [List.getElem_toArray,List.getElem_cons_succ,List.getElem_cons_zero,Act.put,List.setIfInBounds_toArray,List.set_cons_zero,List.set_cons_succ]
 refine wpAnyH_ready (rs:=[10]) (by kernel_rfl) (by simp) ?_
 refine AllReadyH.cons rfl (fun K hK=>?_) AllReadyH.nil
 go_simp
 refine HM.out.mono ?_
 rintro e w3 ⟨A3,n3,c3,Y,rfl,O3,N3,T3,_⟩
 have HT3:=hide (HT2.out.then T3)
 have hfy:Y.filter keepP=L:=(nrm_lay N3).trans HLAY.out.symm
 rw [hfy] at O3
 obtain rfl:=pown_len O3
 have HO3:=hide O3
 clear O3 N3 T3 hfy
 go_simp
 refine hK.out _ _ (HKS.out _ HT3.out) (fun hHeld=>?_)
 clear hK K
 try simp only [List.getElem_toArray,List.getElem_cons_succ,List.getElem_cons_zero,Act.put,List.setIfInBounds_toArray,List.set_cons_zero,List.set_cons_succ]
 refine wpAnyH_take (i:=11) (v:=?v11) rfl (by kernel_rfl) (by kernel_rfl) (by kernel_rfl) (fun _ _ _ h=>h) (Or.inl ⟨by kernel_rfl,?h11⟩) hHeld ?_
 case h11=>rintro wq ⟨s0,s1,s2⟩;go_simp;with_reducible rfl
 simp only [List.getElem_toArray,List.getElem_cons_succ,List.getElem_cons_zero,Act.put,List.setIfInBounds_toArray,List.set_cons_zero,List.set_cons_succ]
 refine wpAnyH_done (by kernel_rfl) ?_ _
 go_wp2_with fail
 go_ret
 exact ⟨A3,c3,rfl,HO3.out,HT3.out⟩
set_option maxRecDepth 100000 in
set_option maxHeartbeats 4000000 in
theorem machine_x (w:World) (hL:Lst w) {d:Nat} {m:Int} {L:List PRow} {wb:Nat} {B:List PRow} {n:Nat} {A:Option Addr} {c:Nat} {Z:List SV} {wA:Option Addr} {wc:Nat} {oA:Option Addr} {on oc:Nat} {O:List PRow} (hx:DctX w d m L wb B n A c Z wA wc oA on oc O) :
  Calls Tryd.prog 32 #[ptrV d] w fun e w'=>∃ A' n' c' Z',e=.returned (.agg #[.int .i64 (mach L).base,.slice A' n' c'])∧StsOk w' A' n' Z'∧Z'.map SV.p=(mach L).states∧n'≤c'∧Touch (fun _=>False) w w':=by
 have hlen:=hx.lay.dL.len
 obtain ⟨wa,hwa⟩:∃ y,y=w.alloc (.cells #[.int .i64 0,.slice none 0 0] 77):=⟨_,rfl⟩
 obtain ⟨rb,hrb⟩:∃ y,y=w.heap.size:=⟨_,rfl⟩
 have hTa:Touch (fun _=>False) w wa:=by rw [hwa];exact (Touch.refl _ _).alloc _
 have hbR:Blk wa rb 77 #[.int .i64 0,.slice none 0 0]:=by rw [hwa,hrb];exact Blk.new _ _ _
 have HPR:=hide (pairs_x wa (Lst.touch hL hTa) (hx.quiet hTa))
 have HFB:=hide (fun (wx:World) (T:Touch (fun _=>False) wa wx) (A1:Option Addr) (c1:Nat) (ho:POwn wx A1 L.length c1 L)=>fbuild_any wx (Lst.touch hL (hTa.then T)) ⟨A1,L.length,c1,L⟩ (own_okD ho) (dict_sizes hx.lay.dL) (by unfold maxLen;simp only;omega))
 have hru:rightU L=true:=right_dict hx.lay.dL
 have HRU:=hide hru
 have HWA:=hide hwa
 have HRB:=hide hrb
 have HTA:=hide hTa
 have HBR:=hide hbR
 clear hru hwa hTa hrb hbR hx hL hlen
 go_enter Tryd.func32,Tryd.ntmps32
 go_upto_region 1 with fail
 rw [← HWA.out,← HRB.out]
 go_wp2_with fail
 refine HPR.out.mono ?_
 rintro e w1 ⟨A1,c1,rfl,ho1,T1⟩
 have HT1:=hide T1
 have HF:=hide (HFB.out w1 T1 A1 c1 ho1)
 simp only [SL.val] at HF
 clear T1 ho1 HFB HPR
 go_wp2_with fail
 refine HF.out.mono ?_
 rintro e w2 (⟨hr,_⟩ | ⟨_,A2,n2,c2,Z2,rfl,hst,hz,hnc,T2⟩)
 ·rw [HRU.out] at hr
  cases hr
 ·have HT2:=hide (HT1.out.then T2)
  obtain ⟨bs,hbs⟩:∃ b,b=(mach L).base:=⟨_,rfl⟩
  rw [← hbs]
  have hbR2:=HBR.out.touch HT2.out (fun f=>f)
  obtain ⟨w3,hw3⟩:∃ x,x=w2.alloc (.cells #[.int .i64 bs,.slice A2 n2 c2] 77):=⟨_,rfl⟩
  obtain ⟨mb,hmb⟩:∃ y,y=w2.heap.size:=⟨_,rfl⟩
  have hT3:Touch (fun _=>False) w2 w3:=by rw [hw3];exact (Touch.refl _ _).alloc _
  have hbM:Blk w3 mb 77 #[.int .i64 bs,.slice A2 n2 c2]:=by rw [hw3,hmb];exact Blk.new _ _ _
  have hbR3:=hbR2.touch hT3 (fun f=>f)
  obtain ⟨x0,x1,x2⟩:=hbR3.facts
  obtain ⟨m0,m1,m2⟩:=hbM.facts
  have HBR3:=hide hbR3
  have HST:=hide (hst.quiet hT3)
  have HZ:=hide hz
  have HNC:=hide hnc
  have HT3:=hide (HT2.out.then hT3)
  have HW3:=hide hw3
  have HMB:=hide hmb
  have HBS:=hide hbs
  have HMR:Hid (rb≠mb):=hide (by
   have:=hbR2.lt
   rw [hmb];omega)
  clear T2 hst hz hnc HF hbR2 hw3 hmb hT3 hbM hbR3 hbs
  go_upto_region 2 with fail
  rw [← HW3.out,← HMB.out]
  go_wp2_with fail
  have hbF:Blk ((w3.setCell ⟨rb,0,none⟩ (.int .i64 bs)).setCell ⟨rb,1,none⟩ (.slice A2 n2 c2)) rb 77 #[.int .i64 bs,.slice A2 n2 c2]:=by
   have:=(HBR3.out.set_ 0 (.int .i64 bs)).set_ 1 (.slice A2 n2 c2)
   simpa using this
  have hTF:Touch (fun g=>g=rb) w3 ((w3.setCell ⟨rb,0,none⟩ (.int .i64 bs)).setCell ⟨rb,1,none⟩ (.slice A2 n2 c2)):=((Touch.refl (fun g=>g=rb) w3).setCell (p:=⟨rb,0,none⟩) (fun _=>rfl) _).setCell (p:=⟨rb,1,none⟩) (fun _=>rfl) _
  obtain ⟨k0,k1,k2⟩:=hbF.facts
  refine bodyPost_ret (v:=.agg #[.int .i64 bs,.slice A2 n2 c2]) (by simp [results,Tryd.results32,go_sem,k0]) rfl ?_
  refine ⟨A2,n2,c2,Z2,by rw [HBS.out],?_,HZ.out,HNC.out,?_⟩
  ·exact HST.out.far hTF (fun g t hg ht e=>by
    subst e
    refine (blk_ty HBR3.out).ne hg ?_ rfl
    rcases ht with rfl | rfl | rfl | rfl | rfl<;>decide)
  ·exact (HTA.out.then HT3.out).trans hTF (fun g hg e=>by have:=HRB.out;omega)
set_option maxRecDepth 100000 in
set_option maxHeartbeats 4000000 in
theorem compact_x (w:World) (hL:Lst w) {d:Nat} {m:Int} {L:List PRow} {wb:Nat} {B:List PRow} {n:Nat} {A:Option Addr} {c:Nat} {Z:List SV} {wA:Option Addr} {wc:Nat} {oA:Option Addr} {on oc:Nat} {O:List PRow} (hx:DctX w d m L wb B n A c Z wA wc oA on oc O) (hm:m=(L.length:Int)) :
  Calls Tryd.prog 64 #[ptrV d] w fun e w'=>e=.returned (.tuple #[])∧DctM w' d L 0∧Touch (fun g=>g=d) w w':=by
 have HMA:=hide (machine_x w hL hx)
 have HDN:=hide (fun (wx:World) (T:Touch (fun _=>False) w wx) (A1:Option Addr) (n1 c1:Nat) (Z1:List SV) (h1:StsOk wx A1 n1 Z1) (h2:Z1.map SV.p=(mach L).states)=>dnew_any wx (Lst.touch hL T) L hx.lay.dL A1 n1 c1 Z1 h1 h2)
 have HX:=hide hx
 have HM:=hide hm
 obtain ⟨bs,hbs⟩:∃ b,b=(mach L).base:=⟨_,rfl⟩
 rw [← hbs] at HMA HDN
 clear hx hL hm hbs
 go_enter Tryd.func64,Tryd.ntmps64
 go_wp2_with fail
 refine HMA.out.mono ?_
 rintro e w1 ⟨A1,n1,c1,Z1,rfl,hst,hz,_,T1⟩
 have HT1:=hide T1
 have HD:=hide (HDN.out w1 T1 A1 n1 c1 Z1 hst hz)
 clear T1 hst hz HMA HDN
 go_wp2_with fail
 refine HD.out.mono ?_
 rintro e w2 ⟨b,A',c',Z',wA',wc',rfl,hdw,hI⟩
 have HT2:=hide (HT1.out.then hI.touch)
 have HDW:=hide hdw
 have hxb:=HX.out.blk.touch HT2.out (fun f=>f)
 obtain ⟨x0,x1,x2⟩:=hxb.facts
 have HXB:=hide hxb
 clear hdw hI HD hxb
 go_wp2_with fail
 go_end0
 have hbF:Blk ((w2.setCell ⟨d,0,none⟩ (ptrV b)).setCell ⟨d,1,none⟩ (.slice none 0 0)) d 93 #[ptrV b,.slice none 0 0,.int .i64 m]:=by
  have:=(HXB.out.set_ 0 (ptrV b)).set_ 1 (.slice none 0 0)
  simpa using this
 have hTF:Touch (fun g=>g=d) w2 ((w2.setCell ⟨d,0,none⟩ (ptrV b)).setCell ⟨d,1,none⟩ (.slice none 0 0)):=((Touch.refl (fun g=>g=d) w2).setCell (p:=⟨d,0,none⟩) (fun _=>rfl) _).setCell (p:=⟨d,1,none⟩) (fun _=>rfl) _
 rw [HM.out] at hbF
 refine ⟨rfl,⟨by omega,_,_,_,_,_,_,_,_,_,_,_,⟨hbF,HDW.out.far hTF (fun g t hg ht=>dict_ne (blk_ty HXB.out) hg ht),⟨Reads.nil _ _ _,fun h=>absurd h (by omega)⟩,rfl,by omega,fun _=>⟨rfl,rfl⟩,LayP.begin HX.out.lay.dL,HX.out.pos⟩⟩,HT2.out.up _ |>.then hTF⟩
theorem pairs_any (w:World) (hL:Lst w) {d:Nat} {L:List PRow} {q:Nat} (h:DctM w d L q) :
  Calls Tryd.prog 20 #[ptrV d] w fun e w'=>∃ A' c',e=.returned (.slice A' L.length c')∧POwn w' A' L.length c' L∧Touch (fun _=>False) w w':=by
 obtain ⟨h1,wb,B,n,A,c,Z,wA,wc,oA,oc,O,hx⟩:=h
 exact pairs_x w hL hx
theorem machine_any (w:World) (hL:Lst w) {d:Nat} {L:List PRow} {q:Nat} (h:DctM w d L q) :
  Calls Tryd.prog 32 #[ptrV d] w fun e w'=>∃ A' n' c' Z',e=.returned (.agg #[.int .i64 (mach L).base,.slice A' n' c'])∧StsOk w' A' n' Z'∧Z'.map SV.p=(mach L).states∧n'≤c'∧Touch (fun _=>False) w w':=by
 obtain ⟨h1,wb,B,n,A,c,Z,wA,wc,oA,oc,O,hx⟩:=h
 exact machine_x w hL hx
end Go.Proofs.YthockgmbooefpaaDoor
