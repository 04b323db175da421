/- What the law rests on, part 36. No condition but those that each theorem names. -/
import Derived.Test.YthockgmbooefpaaGreatDoorL33
import Derived.Test.YthockgmbooefpaaGreatDoorL35
import Derived.Deep.RegionHeld3
set_option linter.unusedSectionVars false
set_option linter.unusedSimpArgs false
set_option linter.unusedVariables false
set_option maxRecDepth 100000
set_option maxHeartbeats 4000000
namespace Go.Proofs.YthockgmbooefpaaGreatDoor
open Go.RowKit
theorem tdgetD {D:List CmdP} {k:Nat} (h:k<D.length):D.getD k CmdP.zero∈D:=by
 have e2:D.getD k CmdP.zero=D[k]:=by simp [List.getD,h]
 rw [e2];exact List.getElem_mem _
theorem runS_succ (T:List CmdP) (i:Nat) (h:i<T.length) (S:List PRow × List SRow):runS (T.take (i+1)) S=stepS (runS (T.take i) S) (T.getD i CmdP.zero):=by
 rw [ctake_succ T i h,runS_snoc]
theorem RfL.stF {W w w':World} {s d tb:Nat} {v:Value} {L L':List PRow} {q:Nat} {R:List SRow} {sl:SL} (h:StY W w s d tb v L' q R) (hl:RfL W.heap.size w sl L) (T:Touch (Go.Proofs.YthockgmbooefpaaGreatDoor.stF d tb v) w w'):RfL W.heap.size w' sl L :=
 hl.touch T (fun g hg e=>by have:=h.stF g e;omega) (fun g ht e=>by
  rcases e with rfl | e
  ·exact ht.ne h.st.dct.ty (by decide) rfl
  ·exact fp_no h.st.tab ht (by decide) (by decide) e)
theorem RwL.stF {w w':World} {s d tb:Nat} {v:Value} {L:List PRow} {q:Nat} {R R':List SRow} {A:Option Addr} {n c:Nat} (h:StX w s d tb v L q R) (hr:RwL w A n c R') (T:Touch (Go.Proofs.YthockgmbooefpaaGreatDoor.stF d tb v) w w'):RwL w' A n c R' :=
 hr.touch T (fun g ht e=>by
  rcases e with rfl | e
  ·exact ht.ne h.dct.ty (by decide) rfl
  ·exact fp_no h.tab ht (by decide) (by decide) e)
theorem results_ct {P:Program} {fn:Func} {p u:Tmp} {ty:TypeId} (h:fn.results=#[.cell p ty,.tmp u]) (tmps:Array Value) (w:World) (g:Nat) (t:TypeId) (cs:Array Value) (d:TypeDesc) (x:Value)
  (hp:tmps.getD p undef=.pointer (some ⟨g,0,none⟩)) (hg:Blk w g t cs) (hu:P.underlying ty=some d) (hd:(match d with | .struct _ | .array _ _=>true | _=>false)=true) (hi:(P.info? ty).map (·.size)=some cs.size) (hx:tmps.getD u undef=x) :
  (results fn tmps).run P w=.ok (.tuple #[.agg cs,x]) w:=by
 have hp1:tmps[p]?.getD undef=.pointer (some ⟨g,0,none⟩):=by simpa using hp
 have hx1:tmps[u]?.getD undef=x:=by simpa using hx
 simp [results,h,hp1,hx1,asAddr,Sem.run_bind,run_loadVar_row w g t ty cs (0,0) d hg hu hd hi,Result.andThen]
theorem results_tct {P:Program} {fn:Func} {a p u:Tmp} {ty:TypeId} (h:fn.results=#[.tmp a,.cell p ty,.tmp u]) (tmps:Array Value) (w:World) (g:Nat) (t:TypeId) (cs:Array Value) (d:TypeDesc) (y x:Value)
  (hy:tmps.getD a undef=y) (hp:tmps.getD p undef=.pointer (some ⟨g,0,none⟩)) (hg:Blk w g t cs) (hu:P.underlying ty=some d) (hd:(match d with | .struct _ | .array _ _=>true | _=>false)=true) (hi:(P.info? ty).map (·.size)=some cs.size) (hx:tmps.getD u undef=x) :
  (results fn tmps).run P w=.ok (.tuple #[y,.agg cs,x]) w:=by
 have hp1:tmps[p]?.getD undef=.pointer (some ⟨g,0,none⟩):=by simpa using hp
 have hx1:tmps[u]?.getD undef=x:=by simpa using hx
 have hy1:tmps[a]?.getD undef=y:=by simpa using hy
 simp [results,h,hp1,hx1,hy1,asAddr,Sem.run_bind,run_loadVar_row w g t ty cs (0,0) d hg hu hd hi,Result.andThen]
theorem StY.off {W w w':World} {s d tb:Nat} {v:Value} {L:List PRow} {q:Nat} {R:List SRow} {S:Nat→Prop} (h:StY W w s d tb v L q R) (T:Touch S w w') (hS:∀ g,S g→W.heap.size≤g∧∃ t,TyAt w g t∧offT t):StY W w' s d tb v L q R :=
 ⟨h.st.off T (fun g hg=>(hS g hg).2),h.y,h.t.trans T (fun g hg e=>by have:=(hS g e).1;omega),h.lw⟩
theorem off_rst:offT 56 := by unfold offT dctT;decide
theorem goes_any {W:World} (w:World) {s d tb:Nat} {v:Value} {L:List PRow} {q:Nat} {R:List SRow} (h:StY W w s d tb v L q R) (sl:SL) (hl:RfL W.heap.size w sl L) (A:Option Addr) (n c:Nat) (hr:RwL w A n c R)
  (tA:Option Addr) (tn tc:Nat) (T:List CmdP) (hT:T.length=tn) (hR:Reads W 5 tA tn (cCells T)) (hWf:∀ o∈T,o.Wf) (hm:tn≤400) :
  Calls Tryz.prog 29 #[ptrV s,.agg #[sl.val,.slice A n c],.slice tA tn tc] w fun e w'=>∃ (sl':SL) (A':Option Addr) (n' c':Nat),e=.returned (.tuple #[.agg #[sl'.val,.slice A' n' c'],.bool true]) ∧
   (∃ v',(∃ q',StY W w' s d tb v' (runS T (L,R)).1 q' (runS T (L,R)).2)∧Fresh w v v')∧RfL W.heap.size w' sl' (runS T (L,R)).1∧RwL w' A' n' c' (runS T (L,R)).2∧Touch (stF d tb v) w w':=by
 have HTL:=hide hT
 have HRD:=hide hR
 have HWO:=hide hWf
 have HST0:=hide h
 obtain ⟨sA,sn,sc,sL⟩:=sl
 simp only [SL.val] at hl ⊢
 obtain ⟨wa,hwa⟩:∃ z,z=(w.alloc (.cells #[.slice sA sn sc,.slice A n c] 56)).alloc (.cells #[.slice none 0 0,.slice none 0 0] 56):=⟨_,rfl⟩
 obtain ⟨rb,hrb⟩:∃ z,z=w.heap.size:=⟨_,rfl⟩
 obtain ⟨rs,hrs⟩:∃ z,z=w.heap.size+1:=⟨_,rfl⟩
 have hTa:Touch (fun _=>False) w wa:=by rw [hwa];exact ((Touch.refl _ _).alloc _).alloc _
 have hbB:Blk wa rb 56 #[.slice sA sn sc,.slice A n c]:=by rw [hwa,hrb];exact (Blk.new _ _ _).alloc _
 have hsB:Blk wa rs 56 #[.slice none 0 0,.slice none 0 0]:=by
  have h1:=Blk.new (w.alloc (.cells #[.slice sA sn sc,.slice A n c] 56)) 56 #[.slice none 0 0,.slice none 0 0]
  rw [hwa,hrs]
  simpa using h1
 have HBR:Hid (w.heap.size≤rb∧w.heap.size≤rs∧¬ rb=rs):=hide (by omega)
 have HYA:=hide (h.quiet hTa)
 have HLA:=hide (hl.quiet hTa)
 have HRA:=hide (hr.quiet hTa)
 have HTA:=hide hTa
 have HBB:=hide hbB
 have HSB:=hide hsB
 have HWA:=hide hwa
 have HRB:=hide hrb
 have HRS:=hide hrs
 have HM:=hide hm
 clear hT hR hWf h hl hr hwa hrb hrs hTa hbB hsB hm
 go_enter Tryz.func29,Tryz.ntmps29
 go_upto_region 1 with fail
 rw [← HWA.out,← HRS.out,← HRB.out]
 go_wp2_with fail
 go_loopw [14] (fun iv wr=>∃ (i:Nat) (sA':Option Addr) (sn' sc':Nat) (sL':List PRow) (A':Option Addr) (n' c':Nat) (v':Value) (q':Nat),iv=.int .i64 i∧i≤tn∧Hid (StY W wr s d tb v' (runS (T.take i) (L,R)).1 q' (runS (T.take i) (L,R)).2)∧Hid (Fresh w v v')∧Hid (RfL W.heap.size wr ⟨sA',sn',sc',sL'⟩ (runS (T.take i) (L,R)).1)∧Hid (RwL wr A' n' c' (runS (T.take i) (L,R)).2) ∧
   Hid (Blk wr rb 56 #[.slice sA' sn' sc',.slice A' n' c'])∧Hid (Blk wr rs 56 #[.slice none 0 0,.slice none 0 0])∧Hid (Touch (stF d tb v) w wr)) (fun iv _=>tn-(intOf iv).toNat)
 case atStart=>exact ⟨0,sA,sn,sc,sL,A,n,c,v,q,rfl,Nat.zero_le _,HYA,hide (.inl rfl),HLA,HRA,HBB,HSB,hide (HTA.out.up _)⟩
 case round =>
  obtain ⟨i,sA',sn',sc',sL',A',n',c',v',q',rfl,hin',HY,HF,HLr,HRr,HBr,HSr,HTr⟩:=hrel
  obtain ⟨wo,hwo⟩:∃ y,y=wr:=⟨_,rfl⟩
  subst hwo
  by_cases hin:i<tn
  ·have y0:(i:Int)<(tn:Int):=by omega
   have y1:(0:Int)≤(i:Int):=by omega
   have y2:IntKind.i64.wrap ((i:Int)+1)=(i:Int)+1:=IntWalk.i64_in _ (by have:=HM.out;omega)
   obtain ⟨gl,ol,hAl,hgl,l0,l1,l2,l3,l4⟩:=cmd_at (HRD.out.touch HY.out.t (fun _ _ f=>f)) HTL.out.symm i hin
   subst hAl
   have hwf:(T.getD i CmdP.zero).Wf:=HWO.out _ (tdgetD (by rw [HTL.out];exact hin))
   have hrun:=runS_succ T i (by rw [HTL.out];exact hin) (L,R)
   obtain ⟨⟨kd,sid,sq,kw,kn⟩,ho⟩:∃ o,o=T.getD i CmdP.zero:=⟨_,rfl⟩
   rw [← ho] at l0 l1 l2 l3 l4 hwf hrun
   simp only at l0 l1 l2 l3 l4
   obtain ⟨⟨Li,Ri⟩,hLR⟩:∃ y,y=runS (T.take i) (L,R):=⟨_,rfl⟩
   rw [← hLR] at hrun HY HLr HRr
   simp only [stepS] at hrun HY HLr HRr
   obtain ⟨Lj,hLj⟩:∃ y,y=doL ⟨kd,sid,sq,kw,kn⟩ Li Ri:=⟨_,rfl⟩
   obtain ⟨Rj,hRj⟩:∃ y,y=doR ⟨kd,sid,sq,kw,kn⟩ Li Ri:=⟨_,rfl⟩
   obtain ⟨⟨a0,a1,a2,a3⟩,haj⟩:∃ y,y=doA ⟨kd,sid,sq,kw,kn⟩ Li Ri:=⟨_,rfl⟩
   have hcall:=fun (wx:World) (t:Touch (fun _=>False) wo wx)=>rdo_any wx W.heap.size (HLr.out.quiet t) HY.out.st.dct.dict (HRr.out.quiet t) (by have h1:=HY.out.t.size;have h2:=t.size;omega) ⟨kd,sid,sq,kw,kn⟩ hwf
   have hcall2:=fun (wx:World) (t:StY W wx s d tb v' Li q' Ri)=>sdo_yf wx t ⟨kd,sid,sq,kw,kn⟩ hwf
   rw [← hLj,← hRj] at hrun hcall hcall2
   rw [← haj] at hcall hcall2
   simp only [ansV,SL.val,CmdP.val] at hcall hcall2
   have HC:=hide hcall
   have HC2:=hide hcall2
   have HRUN:=hide hrun
   have HIN:=hide hin
   obtain ⟨b0,b1,b2⟩:=HBr.out.facts
   clear ho hwf hrun hLR hLj hRj haj hcall hcall2 hin hin'
   go_wp2_with fail
   refine (HC.out _ ((Touch.refl _ _).alloc _)).mono ?_
   rintro e w1 ⟨⟨jA,jn,jc,jL⟩,A1,n1,c1,rfl,hl1,hr1,T1⟩
   have hT1:Touch (fun _=>False) wo w1:=((Touch.refl _ _).alloc _).then T1
   have HGC:=hide ((Blk.new wo 29 #[.int .i64 kd,.int .u64 sid,.int .u64 sq,.string kw,.int .i64 kn]).touch T1 (fun f=>f))
   have HL1:=hide hl1
   have HR1:=hide hr1
   have HT1:=hide hT1
   have HY1:=hide (HY.out.quiet hT1)
   have HBr1:=hide (HBr.out.touch hT1 (fun f=>f))
   have HSr1:=hide (HSr.out.touch hT1 (fun f=>f))
   obtain ⟨gc,hgc⟩:∃ y,y=wo.heap.size:=⟨_,rfl⟩
   rw [← hgc] at HGC ⊢
   clear hl1 hr1 T1 hT1 HC b0 b1 b2 l0 l1 l2 l3 l4 hgc
   obtain ⟨b0,b1,b2⟩:=HBr1.out.facts
   obtain ⟨g0,g1,g2⟩:=HGC.out.facts
   simp only [SL.val]
   go_upto_region 6 with fail
   obtain ⟨w2,hw2⟩:∃ y,y=(((w1.setCell ⟨rb,0,none⟩ (.slice jA jn jc)).setCell ⟨rb,1,none⟩ (.slice A1 n1 c1)).alloc (.cells #[.slice jA jn jc,.slice A1 n1 c1] 56)).alloc (.cells #[.int .i64 a1,.int .u64 a2,.int .i64 a3] 32):=⟨_,rfl⟩
   obtain ⟨ga,hga⟩:∃ y,y=w1.heap.size+1:=⟨_,rfl⟩
   have T2:Touch (fun g=>g=rb) w1 w2:=by rw [hw2];exact ((((Touch.refl (fun g=>g=rb) w1).setCell (p:=⟨rb,_,none⟩) (fun _=>rfl) _).setCell (p:=⟨rb,_,none⟩) (fun _=>rfl) _).alloc _).alloc _
   have hrbW:W.heap.size≤rb:=by have h1:=HBR.out;have h2:=HST0.out.t.size;omega
   have HY2:=hide (HY1.out.off T2 (fun g e=>⟨by omega,_,e ▸ blk_ty HBr1.out,off_rst⟩))
   have HL2:=hide (HL1.out.touch T2 (fun g hg e=>by omega) (fun g hg e=>hg.ne (blk_ty HBr1.out) (by decide) e))
   have HR2:=hide (HR1.out.touch T2 (fun g hg e=>hg.ne (blk_ty HBr1.out) (by decide) e))
   have HB2:Hid (Blk w2 rb 56 #[.slice jA jn jc,.slice A1 n1 c1]):=hide (by rw [hw2];exact ((two_cells _ _ _ _ HBr1.out).alloc _).alloc _)
   have HS2:Hid (Blk w2 rs 56 #[.slice none 0 0,.slice none 0 0]):=hide (HSr1.out.touch T2 (fun e=>HBR.out.2.2 e.symm))
   have HC4:Hid (Blk w2 gc 29 #[.int .i64 kd,.int .u64 sid,.int .u64 sq,.string kw,.int .i64 kn]):=hide (HGC.out.touch T2 (fun e=>(blk_ty HGC.out).ne (blk_ty HBr1.out) (by decide) e))
   have HA2:Hid (Blk w2 ga 32 #[.int .i64 a1,.int .u64 a2,.int .i64 a3]):=hide (by
    have h1:=Blk.new (((w1.setCell ⟨rb,0,none⟩ (.slice jA jn jc)).setCell ⟨rb,1,none⟩ (.slice A1 n1 c1)).alloc (.cells #[.slice jA jn jc,.slice A1 n1 c1] 56)) 32 #[.int .i64 a1,.int .u64 a2,.int .i64 a3]
    rw [hw2,hga]
    simpa using h1)
   have HT2:Hid (Touch (fun _=>False) w w2∨True):=hide (.inr trivial)
   have HTw:Hid (Touch (stF d tb v) w w2):=hide ((HTr.out.then (HT1.out.up _)).trans T2 (fun g hg e=>by have:=HBR.out;omega))
   have HKS:Hid (∀ wx,Touch (stF d tb v') w2 wx→wx.cell? ⟨gc,0,none⟩=some (.int .i64 kd)∧wx.cell? ⟨gc,1,none⟩=some (.int .u64 sid)∧wx.cell? ⟨gc,2,none⟩=some (.int .u64 sq)∧wx.cell? ⟨gc,3,none⟩=some (.string kw)∧wx.cell? ⟨gc,4,none⟩=some (.int .i64 kn)∧wx.cell? ⟨ga,0,none⟩=some (.int .i64 a1)∧wx.cell? ⟨ga,1,none⟩=some (.int .u64 a2)∧wx.cell? ⟨ga,2,none⟩=some (.int .i64 a3)∧Touch (stF d tb v') w2 wx):=hide (fun wx T=>by
    have e1:=HY2.out.st.keep T HC4.out off_cmd
    have e2:=HY2.out.st.keep T HA2.out off_ans
    exact ⟨(e1.cell 0).trans rfl,(e1.cell 1).trans rfl,(e1.cell 2).trans rfl,(e1.cell 3).trans rfl,(e1.cell 4).trans rfl,(e2.cell 0).trans rfl,(e2.cell 1).trans rfl,(e2.cell 2).trans rfl,T⟩)
   rw [← hw2,← hga]
   clear hw2 hga T2 hrbW b0 b1 b2 g0 g1 g2
   go_region_held3 (fun w'=>w'.cell? ⟨gc,0,none⟩=some (.int .i64 kd)∧w'.cell? ⟨gc,1,none⟩=some (.int .u64 sid)∧w'.cell? ⟨gc,2,none⟩=some (.int .u64 sq)∧w'.cell? ⟨gc,3,none⟩=some (.string kw)∧w'.cell? ⟨gc,4,none⟩=some (.int .i64 kn)∧w'.cell? ⟨ga,0,none⟩=some (.int .i64 a1)∧w'.cell? ⟨ga,1,none⟩=some (.int .u64 a2)∧w'.cell? ⟨ga,2,none⟩=some (.int .i64 a3)∧Touch (stF d tb v') w2 w')
    (first
      | exact HKS.out _ (Touch.refl _ _).drew
      | exact HKS.out _ HT3.out
      | (trace_state;fail))
    (first
      | (go_simp;refine (HC2.out _ (HY2.out.quiet (Touch.refl _ _).drew)).mono ?_;rintro e w3 ⟨rfl,⟨v3,q3,hy3,hf3⟩,T3⟩;have HF3:=hide hf3;have HT3:=hide ((Touch.refl (stF d tb v') w2).drew.then T3);have HY3:=hide hy3;clear hy3 hf3 T3;go_simp))
   go_wp2_with fail
   go_roundw
   ·refine ⟨i+1,jA,jn,jc,jL,A1,n1,c1,v3,q3,by simp,by have:=HIN.out;omega,hide ?_,?_,hide ?_,hide ?_,hide ?_,hide ?_,hide ?_⟩
    ·rw [HRUN.out];exact HY3.out
    ·exact hide (fresh_next HF.out HF3.out (by have h1:=HTw.out.size;simpa using h1))
    ·rw [HRUN.out];exact RfL.stF HY2.out HL2.out HT3.out
    ·rw [HRUN.out];exact RwL.stF HY2.out.st HR2.out HT3.out
    ·exact HY2.out.st.keep HT3.out HB2.out off_rst
    ·exact HY2.out.st.keep HT3.out HS2.out off_rst
    ·exact HTw.out.trans HT3.out (fun g hg e=>stF_back HF.out hg e)
   ·have:=HIN.out
    simp only [intOf]
    omega
  ·have y0:¬ (i:Int)<(tn:Int):=by omega
   have hie:T.take i=T:=List.take_of_length_le (by rw [HTL.out];omega)
   rw [hie] at HY HLr HRr
   obtain ⟨b0,b1,b2⟩:=HBr.out.facts
   obtain ⟨s0,s1,s2⟩:=HSr.out.facts
   clear hin hin' hie
   go_wp2_with fail
   refine bodyPost_ret (v:=.tuple #[.agg #[.slice sA' sn' sc',.slice A' n' c'],.bool true]) (results_ct rfl _ _ rs 56 _ _ _ rfl (two_cells _ _ _ _ HSr.out) Tryz.underlying56 rfl (by kernel_rfl) rfl) rfl ?_
   have T3:Touch (fun g=>g=rs) wo ((wo.setCell ⟨rs,0,none⟩ (.slice sA' sn' sc')).setCell ⟨rs,1,none⟩ (.slice A' n' c')):=((Touch.refl (fun g=>g=rs) wo).setCell (p:=⟨rs,_,none⟩) (fun _=>rfl) _).setCell (p:=⟨rs,_,none⟩) (fun _=>rfl) _
   have hrs:W.heap.size≤rs:=by have h1:=HBR.out;have h2:=HST0.out.t.size;omega
   refine ⟨⟨sA',sn',sc',sL'⟩,A',n',c',rfl,⟨v',⟨q',HY.out.off T3 (fun g e=>⟨by omega,_,e ▸ blk_ty HSr.out,off_rst⟩)⟩,HF.out⟩,HLr.out.touch T3 (fun g hg e=>by omega) (fun g hg e=>hg.ne (blk_ty HSr.out) (by decide) e),HRr.out.touch T3 (fun g hg e=>hg.ne (blk_ty HSr.out) (by decide) e),HTr.out.trans T3 (fun g hg e=>by have:=HBR.out;omega)⟩
def BegS (W:World) (T:List CmdP) (e:Ending) (w':World):Prop :=
 ∃ (s d tb:Nat) (sl:SL) (A:Option Addr) (n c:Nat) (v:Value) (q:Nat),e=.returned (.tuple #[ptrV s,.agg #[sl.val,.slice A n c],.bool true])∧StY W w' s d tb v (runS T ([],[])).1 q (runS T ([],[])).2∧RfL W.heap.size w' sl (runS T ([],[])).1∧RwL w' A n c (runS T ([],[])).2
theorem rwl_nil (w:World):RwL w none 0 0 []:=⟨World.ownsRow_nil _ _ _ _,rfl,by omega⟩
theorem rfl_nil (B0:Nat) (w:World):RfL B0 w ⟨none,0,0,[]⟩ []:=⟨⟨rfl,Reads.nil _ _ _,fun _=>⟨rfl,rfl⟩⟩,rfl,fun h=>absurd h (by simp)⟩
theorem begun_any {W:World} (w:World) (hL:Lst W) (hT0:Touch (fun _=>False) W w) (tA:Option Addr) (tn tc:Nat) (T:List CmdP) (hT:T.length=tn) (hR:Reads W 5 tA tn (cCells T)) (hWf:∀ o∈T,o.Wf) (hm:tn≤400) :
  Calls Tryz.prog 25 #[.slice tA tn tc] w (BegS W T):=by
 obtain ⟨wa,hwa⟩:∃ z,z=w.alloc (.cells #[.slice none 0 0,.slice none 0 0] 56):=⟨_,rfl⟩
 obtain ⟨rs,hrs⟩:∃ z,z=w.heap.size:=⟨_,rfl⟩
 have hTa:Touch (fun _=>False) w wa:=by rw [hwa];exact (Touch.refl _ _).alloc _
 have HSB:Hid (Blk wa rs 56 #[.slice none 0 0,.slice none 0 0]):=hide (by rw [hwa,hrs];exact Blk.new _ _ _)
 have HRS:Hid (W.heap.size≤rs):=hide (by rw [hrs];exact hT0.size)
 have HN:=hide (snew_y wa (Lst.touch hL (hT0.then hTa)))
 have HLW:=hide (And.intro hL (hT0.then hTa))
 have HG:=hide (fun (wx:World) {s d tb:Nat} {v:Value} {q:Nat} (h:StY W wx s d tb v [] q [])=>goes_any wx h ⟨none,0,0,[]⟩ (rfl_nil _ _) none 0 0 (rwl_nil _) tA tn tc T hT hR hWf hm)
 simp only [SL.val] at HG
 have HWA:=hide hwa
 have HRS0:=hide hrs
 clear hL hT0 hT hR hWf hm hwa hrs hTa
 go_enter Tryz.func25,Tryz.ntmps25
 go_upto_region 1 with fail
 rw [← HWA.out,← HRS0.out]
 go_wp2_with fail
 refine HN.out.mono ?_
 rintro e w1 ⟨s,d,tb,rfl,hy⟩
 have hyW:StY W w1 s d tb (.slice none 0 0) [] 0 []:=⟨hy.st,⟨Nat.le_trans HLW.out.2.size hy.y.1,Nat.le_trans HLW.out.2.size hy.y.2.1,fun g hg=>Nat.le_trans HLW.out.2.size (hy.y.2.2 g hg)⟩,HLW.out.2.then hy.t,HLW.out.1⟩
 have HSB1:=hide (HSB.out.touch hy.t (fun f=>f))
 have HG1:=hide (HG.out w1 hyW)
 have HY1:=hide hyW
 clear hy hyW HN HG
 go_wp2_with fail
 refine HG1.out.mono ?_
 rintro e w2 ⟨⟨jA,jn,jc,jL⟩,A1,n1,c1,rfl,⟨v1,⟨q1,hy1⟩,hf1⟩,hl1,hr1,T1⟩
 obtain ⟨⟨Lj,Rj⟩,hLR⟩:∃ y,y=runS T ([],[]):=⟨_,rfl⟩
 rw [← hLR] at hy1 hl1 hr1
 simp only at hy1 hl1 hr1
 have HLR:=hide hLR
 have HSB2:=hide (HY1.out.st.keep T1 HSB1.out off_rst)
 have HY2:=hide hy1
 have HL2:=hide hl1
 have HR2:=hide hr1
 simp only [SL.val]
 clear hy1 hf1 hl1 hr1 T1 HG1 hLR
 obtain ⟨r0,r1,r2⟩:=HSB2.out.facts
 go_upto_region 5 with fail
 obtain ⟨w3,hw3⟩:∃ y,y=w2.alloc (.cells #[.slice jA jn jc,.slice A1 n1 c1] 56):=⟨_,rfl⟩
 obtain ⟨g3,hg3⟩:∃ y,y=w2.heap.size:=⟨_,rfl⟩
 have T3:Touch (fun _=>False) w2 w3:=by rw [hw3];exact (Touch.refl _ _).alloc _
 have HB3:Hid (Blk w3 g3 56 #[.slice jA jn jc,.slice A1 n1 c1]):=hide (by rw [hw3,hg3];exact Blk.new _ _ _)
 have HSB3:=hide (HSB2.out.touch T3 (fun f=>f))
 have HY3:=hide (HY2.out.quiet T3)
 have HL3:=hide (HL2.out.quiet T3)
 have HR3:=hide (HR2.out.quiet T3)
 have hne:¬ g3=rs:=fun e=>by have:=HSB2.out.lt;omega
 rw [← hw3,← hg3]
 clear hw3 hg3 T3 r0 r1 r2
 obtain ⟨r0,r1,r2⟩:=HSB3.out.facts
 obtain ⟨b0,b1,b2⟩:=HB3.out.facts
 go_region
 go_wp2_with fail
 refine bodyPost_ret (v:=.tuple #[ptrV s,.agg #[.slice jA jn jc,.slice A1 n1 c1],.bool true]) (results_tct rfl _ _ rs 56 _ _ _ _ rfl rfl (two_cells _ _ _ _ HSB3.out).drew Tryz.underlying56 rfl (by kernel_rfl) rfl) rfl ?_
 have T4:Touch (fun g=>g=rs) w3 ((w3.setCell ⟨rs,0,none⟩ (.slice jA jn jc)).setCell ⟨rs,1,none⟩ (.slice A1 n1 c1)).drew:=(((Touch.refl (fun g=>g=rs) w3).setCell (p:=⟨rs,_,none⟩) (fun _=>rfl) _).setCell (p:=⟨rs,_,none⟩) (fun _=>rfl) _).drew
 have hrsW:=HRS.out
 unfold BegS
 rw [← HLR.out]
 exact ⟨s,d,tb,⟨jA,jn,jc,jL⟩,A1,n1,c1,v1,q1,rfl,HY3.out.off T4 (fun g e=>⟨by omega,_,e ▸ blk_ty HSB3.out,off_rst⟩),HL3.out.touch T4 (fun g hg e=>by omega) (fun g hg e=>hg.ne (blk_ty HSB3.out) (by decide) e),HR3.out.touch T4 (fun g hg e=>hg.ne (blk_ty HSB3.out) (by decide) e)⟩
theorem rows_at {w:World} {A:Option Addr} {c:Nat} {R:List SRow} {t:TypeId} (h:w.ownsRow 0 t 4 (.slice A R.length c) R.length (rowCells R)) (k:Nat) (hk':k<R.length) :
  ∃ g,A=some ⟨g,0,none⟩∧g<w.heap.size∧w.cell? ⟨g,k*4,none⟩=some (.int .u64 (R.getD k SRow.zero).seq)∧w.cell? ⟨g,k*4+1,none⟩=some (.int .i64 (R.getD k SRow.zero).code) ∧
   w.cell? ⟨g,k*4+2,none⟩=some (.int .u64 (R.getD k SRow.zero).sess)∧w.cell? ⟨g,k*4+3,none⟩=some (.int .i64 (R.getD k SRow.zero).had):=by
 obtain ⟨g,cap,hv,hle,_,hg,hc,_⟩:=own_form h (by omega)
 injection hv with hA' _ hcc
 have e:R.getD k SRow.zero=R[k]:=by simp [List.getD,hk']
 rw [e]
 refine ⟨g,hA',hg,?_,?_,?_,?_⟩
 ·exact hc _ _ (by have:=rowCells_at R k hk' 0 (by omega);rw [show k*4=4*k+0 by omega,this];rfl)
 ·exact hc _ _ (by have:=rowCells_at R k hk' 1 (by omega);rw [show k*4+1=4*k+1 by omega,this];rfl)
 ·exact hc _ _ (by have:=rowCells_at R k hk' 2 (by omega);rw [show k*4+2=4*k+2 by omega,this];rfl)
 ·exact hc _ _ (by have:=rowCells_at R k hk' 3 (by omega);rw [show k*4+3=4*k+3 by omega,this];rfl)
theorem stands_any (w:World) (hL:Lst w) {s d tb:Nat} {v:Value} {L:List PRow} {q:Nat} {R:List SRow} (h:StX w s d tb v L q R) (B0:Nat) (sl:SL) (hl:RfL B0 w sl L) (A:Option Addr) (n c:Nat) (hr:RwL w A n c R) :
  Calls Tryz.prog 28 #[ptrV s,.agg #[sl.val,.slice A n c]] w fun e w'=>e=.returned (.bool true)∧Touch (fun _=>False) w w':=by
 have heq:=hl.eq
 have hsl:=hl.ok.len
 obtain ⟨sA,sn,sc,sL⟩:=sl
 simp only at heq hsl
 subst heq
 subst hsl
 have hrl:=hr.len
 subst hrl
 have HLN:Hid (sL.length≤4096):=hide h.dct.dict.len
 have HRF:Hid (R.length≤4096):=hide h.few
 obtain ⟨wa,hwa⟩:∃ z,z=w.alloc (.cells #[.slice sA sL.length sc,.slice A R.length c] 56):=⟨_,rfl⟩
 obtain ⟨rb,hrb⟩:∃ z,z=w.heap.size:=⟨_,rfl⟩
 have hTa:Touch (fun _=>False) w wa:=by rw [hwa];exact (Touch.refl _ _).alloc _
 have HBB:Hid (Blk wa rb 56 #[.slice sA sL.length sc,.slice A R.length c]):=hide (by rw [hwa,hrb];exact Blk.new _ _ _)
 have HSS:=hide (sessions_st wa (h.quiet hTa))
 have HWD:=hide (fun (wx:World) (T:Touch (fun _=>False) wa wx)=>words_st wx (Lst.touch hL (hTa.then T)) ((h.quiet hTa).quiet T))
 have HSM:=hide (fun (wx:World) (T:Touch (fun _=>False) wa wx) (A':Option Addr) (c':Nat) (hp:POwn wx A' sL.length c' sL)=>psame_yes wx A' sL.length c' sL rfl (Reads.of_own hp) (by have:=HLN.out;unfold maxLen;omega) sA sc ((hl.quiet hTa).quiet T).ok.reads)
 have HRW:=hide (hr.quiet hTa)
 have HTA:=hide hTa
 have HWA:=hide hwa
 have HRB:=hide hrb
 simp only [SL.val]
 clear hL h hl hr hwa hrb hTa
 go_enter Tryz.func28,Tryz.ntmps28
 go_upto_region 1 with fail
 rw [← HWA.out,← HRB.out]
 go_wp2_with fail
 refine HSS.out.mono ?_
 rintro e w1 ⟨v1,rfl,ho1,T1,hfr1⟩
 obtain ⟨A1,c1,hv1,_,_⟩:=own_len ho1
 subst hv1
 have HO1:=hide ho1
 have HT1:=hide T1
 have HB1:=hide (HBB.out.touch T1 (fun f=>f))
 have HKS:Hid (∀ wx,Touch (fun _=>False) w1 wx→wx.cell? ⟨rb,0,none⟩=some (.slice sA sL.length sc)∧wx.cell? ⟨rb,1,none⟩=some (.slice A R.length c)∧Touch (fun _=>False) w1 wx):=hide (fun wx T=>⟨((HB1.out.touch T (fun f=>f)).cell 0).trans rfl,((HB1.out.touch T (fun f=>f)).cell 1).trans rfl,T⟩)
 clear ho1 T1 hfr1 HSS
 have HRR:=hide (HRW.out.quiet HT1.out)
 go_upto_region 2 with fail
 go_region_held3 (fun w'=>w'.cell? ⟨rb,0,none⟩=some (.slice sA sL.length sc)∧w'.cell? ⟨rb,1,none⟩=some (.slice A R.length c)∧Touch (fun _=>False) w1 w')
  (first
    | exact HKS.out _ (Touch.refl _ _).drew
    | exact HKS.out _ HT2.out
    | exact HKS.out _ HT3.out
    | (trace_state;fail))
  (first
    | (go_simp;refine (HWD.out _ (HT1.out.then (Touch.refl _ _).drew)).mono ?_;rintro e w2 ⟨A2,c2,rfl,hp2,T2⟩;have HT2:=hide ((Touch.refl (fun _=>False) w1).drew.then T2);have HP2:=hide hp2;clear hp2 T2;go_simp)
    | (go_simp;refine (HSM.out _ (HT1.out.then HT2.out) _ _ HP2.out).mono ?_;rintro e w3 ⟨rfl,T3⟩;have HT3:=hide (HT2.out.then T3);clear T3;go_simp))
 go_wp2_with fail
 go_loopw [25] (fun iv wr=>∃ k:Nat,iv=.int .i64 k∧k≤R.length∧Hid (Touch (fun _=>False) w1 wr)) (fun iv _=>R.length-(intOf iv).toNat)
 case atStart=>exact ⟨0,rfl,Nat.zero_le _,HT3⟩
 case round =>
  obtain ⟨k,rfl,hk,HTk⟩:=hrel
  obtain ⟨wk,hwk⟩:∃ y,y=wr:=⟨_,rfl⟩
  subst hwk
  have HBk:=hide (HB1.out.touch HTk.out (fun f=>f))
  obtain ⟨b0,b1,b2⟩:=HBk.out.facts
  by_cases hkn:k<R.length
  ·have k0:(k:Int)<(R.length:Int):=by omega
   have k3:(0:Int)≤(k:Int):=by omega
   have k4:IntKind.i64.wrap ((k:Int)+1)=(k:Int)+1:=IntWalk.i64_in _ (by have:=HRF.out;omega)
   obtain ⟨g1,hA1,hg1,d0,d1,d2,d3⟩:=rows_at (own_touch HO1.out HTk.out (fun _ _ f=>f)) k hkn
   obtain ⟨g2,hA2,hg2,e0,e1,e2,e3⟩:=rows_at (HRR.out.quiet HTk.out).own k hkn
   subst hA1 hA2
   obtain ⟨⟨xs,xc,xr,xh⟩,hx⟩:∃ x,x=R.getD k SRow.zero:=⟨_,rfl⟩
   rw [← hx] at d0 d1 d2 d3 e0 e1 e2 e3
   simp only at d0 d1 d2 d3 e0 e1 e2 e3
   have HKN:=hide hkn
   clear hx hk hkn hg1 hg2
   go_upto_region 7 with fail
   go_quiet (fail)
   go_wp2_with fail
   go_roundw
   ·exact ⟨k+1,by simp,by have:=HKN.out;omega,hide (HTk.out.drewN _)⟩
   ·have:=HKN.out
    simp only [intOf]
    omega
  ·have k0:¬ (k:Int)<(R.length:Int):=by omega
   have HTE:=hide ((HTA.out.then HT1.out).then HTk.out)
   clear hk hkn
   go_wp2_with fail
   go_ret
   exact ⟨rfl,HTE.out⟩
end Go.Proofs.YthockgmbooefpaaGreatDoor
