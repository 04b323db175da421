/- What the law rests on, part 37. No condition but those that each theorem names. -/
import Derived.Test.YthockgmbooefpaaGreatDoorT36
set_option linter.unusedSectionVars false
set_option linter.unusedSimpArgs false
set_option linter.unusedVariables false
set_option maxRecDepth 100000
set_option maxHeartbeats 12000000
namespace Go.Proofs.YthockgmbooefpaaGreatDoor
open Go.RowKit
def cOp:CmdP:=⟨1,0,0,ByteArray.empty,0⟩
def cSe:CmdP:=⟨2,1,1,⟨#[97,98]⟩,5⟩
def aL1:List PRow:=[⟨⟨#[97,98]⟩,5⟩]
def aR1:List SRow:=[⟨0,0,0,0⟩]
def aR2:List SRow:=[⟨1,0,0,0⟩]
theorem as_a1:doA cOp [] []=⟨0,0,1,0⟩:=by kernel_rfl
theorem as_l1:doL cOp [] []=[]:=by kernel_rfl
theorem as_r1:doR cOp [] []=aR1:=by kernel_rfl
theorem as_a2:doA cSe [] aR1=⟨0,0,0,0⟩:=by kernel_rfl
theorem as_l2:doL cSe [] aR1=aL1:=by kernel_rfl
theorem as_r2:doR cSe [] aR1=aR2:=by kernel_rfl
theorem as_a3:doA cSe aL1 aR2=⟨0,0,0,0⟩:=by kernel_rfl
theorem as_l3:doL cSe aL1 aR2=aL1:=by kernel_rfl
theorem as_r3:doR cSe aL1 aR2=aR2:=by kernel_rfl
structure StY (W w:World) (s d tb:Nat) (v:Value) (L:List PRow) (q:Nat) (R:List SRow):Prop where
 st:StX w s d tb v L q R
 y:W.heap.size≤d∧W.heap.size≤tb∧∀ g,v.ownBlock=some g→W.heap.size≤g
 t:Touch (fun _=>False) W w
 lw:Lst W
theorem StY.l {W w:World} {s d tb:Nat} {v:Value} {L:List PRow} {q:Nat} {R:List SRow} (h:StY W w s d tb v L q R):Lst w:=Lst.touch h.lw h.t
theorem StY.quiet {W w w':World} {s d tb:Nat} {v:Value} {L:List PRow} {q:Nat} {R:List SRow} (h:StY W w s d tb v L q R) (T:Touch (fun _=>False) w w'):StY W w' s d tb v L q R :=
 ⟨h.st.quiet T,h.y,h.t.then T,h.lw⟩
theorem StY.stF {W w:World} {s d tb:Nat} {v:Value} {L:List PRow} {q:Nat} {R:List SRow} (h:StY W w s d tb v L q R):∀ g,stF d tb v g→W.heap.size≤g:=by
 rintro g (rfl | rfl | hg)
 ·exact h.y.1
 ·exact h.y.2.1
 ·exact h.y.2.2 g hg
theorem StY.step {W w w':World} {s d tb:Nat} {v v':Value} {L L':List PRow} {q q':Nat} {R R':List SRow} (h:StY W w s d tb v L q R) (hs:StX w' s d tb v' L' q' R') (hf:Fresh w v v') (T:Touch (Go.Proofs.YthockgmbooefpaaGreatDoor.stF d tb v) w w'):StY W w' s d tb v' L' q' R':=by
 have ht:Touch (fun _=>False) W w':=h.t.trans T (fun g hg e=>by have:=h.stF g e;omega)
 refine ⟨hs,⟨h.y.1,h.y.2.1,fun g hg=>?_⟩,ht,h.lw⟩
 ·rcases hf with e | ⟨g',e,hg'⟩
  ·exact h.y.2.2 g (by rw [← e];exact hg)
  ·rw [e] at hg
   injection hg with hg
   have:=h.t.size
   omega
theorem snew_y (w:World) (hL:Lst w):Calls Tryz.prog 9 #[] w fun e w'=>∃ s d tb,e=.returned (ptrV s)∧StY w w' s d tb (.slice none 0 0) [] 0 [] :=
 (snew_any w hL).mono (by
   rintro e w' ⟨s,d,tb,rfl,hs,h1,h2,h3,T⟩
   exact ⟨s,d,tb,rfl,hs,⟨h2,h3,fun g hg=>by simp [Value.ownBlock] at hg⟩,T,hL⟩)
theorem StX.keep {w w':World} {s d tb:Nat} {v:Value} {L:List PRow} {q:Nat} {R:List SRow} (h:StX w s d tb v L q R) (T:Touch (Go.Proofs.YthockgmbooefpaaGreatDoor.stF d tb v) w w') {g:Nat} {t:TypeId} {cs:Array Value} (hb:Blk w g t cs) (ht:offT t):Blk w' g t cs :=
 hb.touch T (fun e=>by
  obtain ⟨o1,o2,o3,o4,o5⟩:=ht
  rcases e with rfl | e
  ·exact (blk_ty hb).ne h.dct.ty o2 rfl
  ·rcases fp_ty h.tab e with k | k
   ·exact (blk_ty hb).ne k o3 rfl
   ·exact (blk_ty hb).ne k o4 rfl)
theorem off_cmd:offT 29 := by unfold offT dctT;decide
theorem sdo_y {W:World} (w:World) {s d tb:Nat} {v:Value} {L:List PRow} {q:Nat} {R:List SRow} (h:StY W w s d tb v L q R) (c:CmdP) (hc:c.Wf) :
  Calls Tryz.prog 10 #[ptrV s,c.val] w fun e w'=>e=.returned (ansV (doA c L R))∧(∃ v' q',StY W w' s d tb v' (doL c L R) q' (doR c L R))∧Touch (stF d tb v) w w' :=
 (sdo_any w h.l h.st c hc).mono (by
   rintro e w' ⟨rfl,⟨v',⟨q',hs⟩,hf⟩,T⟩
   exact ⟨rfl,⟨v',q',h.step hs hf T⟩,T⟩)
theorem sdo_yf {W:World} (w:World) {s d tb:Nat} {v:Value} {L:List PRow} {q:Nat} {R:List SRow} (h:StY W w s d tb v L q R) (c:CmdP) (hc:c.Wf) :
  Calls Tryz.prog 10 #[ptrV s,c.val] w fun e w'=>e=.returned (ansV (doA c L R))∧(∃ v' q',StY W w' s d tb v' (doL c L R) q' (doR c L R)∧Fresh w v v')∧Touch (stF d tb v) w w' :=
 (sdo_any w h.l h.st c hc).mono (by
   rintro e w' ⟨rfl,⟨v',⟨q',hs⟩,hf⟩,T⟩
   exact ⟨rfl,⟨v',q',h.step hs hf T,hf⟩,T⟩)
theorem fresh_next {w w2:World} {v v' v3:Value} (h:Fresh w v v') (h2:Fresh w2 v' v3) (hs:w.heap.size≤w2.heap.size):Fresh w v v3:=by
 rcases h2 with e | ⟨g,e,hg⟩
 ·rcases h with e1 | ⟨g1,e1,hg1⟩
  ·exact .inl (e.trans e1)
  ·exact .inr ⟨g1,e.trans e1,hg1⟩
 ·exact .inr ⟨g,e,Nat.le_trans hs hg⟩
theorem stF_back {w:World} {d tb g:Nat} {v v':Value} (h:Fresh w v v') (hg:g<w.heap.size) (e:stF d tb v' g):stF d tb v g:=by
 rcases e with e | e | e
 ·exact .inl e
 ·exact .inr (.inl e)
 ·rcases h with e1 | ⟨g1,e1,hg1⟩
  ·exact .inr (.inr (by rw [← e1];exact e))
  ·rw [e] at e1
   injection e1 with e1
   omega
theorem alive16_any (w:World) (hL:Lst w):Calls Tryz.prog 24 #[] w fun e w'=>e=.returned (.bool true)∧Touch (fun _=>False) w w':=by
 have HN:=hide (snew_y w hL)
 clear hL
 go_enter Tryz.func24,Tryz.ntmps24
 go_wp2_with fail
 refine HN.out.mono ?_
 rintro e w1 ⟨s,d,tb,rfl,hy⟩
 have HC1:=hide (sdo_y w1 hy cOp (by unfold CmdP.Wf;decide))
 rw [as_a1,as_l1,as_r1] at HC1
 simp only [ansV,CmdP.val,cOp] at HC1
 clear hy HN
 go_wp2_with fail
 refine HC1.out.mono ?_
 rintro e w2 ⟨rfl,⟨v2,q2,hy2⟩,-⟩
 have HC2:=hide (fun (wx:World) (T:Touch (fun _=>False) w2 wx)=>sdo_y wx (hy2.quiet T) cSe (by unfold CmdP.Wf;decide))
 rw [as_a2,as_l2,as_r2] at HC2
 simp only [ansV,CmdP.val,cSe] at HC2
 obtain ⟨wa,hwa⟩:∃ y,y=(w2.alloc (.cells #[.int .i64 0,.int .u64 1,.int .i64 0] 32)).alloc (.cells #[.int .i64 2,.int .u64 1,.int .u64 1,.string ⟨#[97,98]⟩,.int .i64 5] 29):=⟨_,rfl⟩
 obtain ⟨ga,hga⟩:∃ y,y=w2.heap.size:=⟨_,rfl⟩
 obtain ⟨gc,hgc⟩:∃ y,y=w2.heap.size+1:=⟨_,rfl⟩
 have hTa:Touch (fun _=>False) w2 wa:=by rw [hwa];exact ((Touch.refl _ _).alloc _).alloc _
 have haB:Blk wa ga 32 #[.int .i64 0,.int .u64 1,.int .i64 0]:=by rw [hwa,hga];exact (Blk.new _ _ _).alloc _
 have hcB:Blk wa gc 29 #[.int .i64 2,.int .u64 1,.int .u64 1,.string ⟨#[97,98]⟩,.int .i64 5]:=by
  have h1:=Blk.new (w2.alloc (.cells #[.int .i64 0,.int .u64 1,.int .i64 0] 32)) 29 #[.int .i64 2,.int .u64 1,.int .u64 1,.string ⟨#[97,98]⟩,.int .i64 5]
  rw [hwa,hgc];simpa using h1
 have HYA:=hide (hy2.quiet hTa)
 have HC2:=hide (sdo_y wa HYA.out cSe (by unfold CmdP.Wf;decide))
 rw [as_a2,as_l2,as_r2] at HC2
 simp only [ansV,CmdP.val,cSe] at HC2
 have HWA:=hide hwa
 have HGA:=hide hga
 have HGC:=hide hgc
 have HAB:=hide haB
 have HCB:=hide hcB
 clear hy2 HC1 hwa hga hgc hTa haB hcB
 go_upto_region 6 with fail
 rw [← HWA.out,← HGC.out,← HGA.out]
 obtain ⟨c0,c1,c2⟩:=HCB.out.facts
 go_wp2_with fail
 refine HC2.out.mono ?_
 rintro e w3 ⟨rfl,⟨v3,q3,hy3⟩,T3⟩
 obtain ⟨wb,hwb⟩:∃ y,y=w3.alloc (.cells #[.int .i64 0,.int .u64 0,.int .i64 0] 32):=⟨_,rfl⟩
 obtain ⟨gb,hgb⟩:∃ y,y=w3.heap.size:=⟨_,rfl⟩
 have hTb:Touch (fun _=>False) w3 wb:=by rw [hwb];exact (Touch.refl _ _).alloc _
 have hbB:Blk wb gb 32 #[.int .i64 0,.int .u64 0,.int .i64 0]:=by rw [hwb,hgb];exact Blk.new _ _ _
 have HAB3:=hide ((HYA.out.st.keep T3 HAB.out off_ans).touch hTb (fun f=>f))
 have HCB3:=hide ((HYA.out.st.keep T3 HCB.out off_cmd).touch hTb (fun f=>f))
 have HYB:=hide (hy3.quiet hTb)
 have HC3:=hide (sdo_y wb HYB.out cSe (by unfold CmdP.Wf;decide))
 rw [as_a3,as_l3,as_r3] at HC3
 simp only [ansV,CmdP.val,cSe] at HC3
 have HWB:=hide hwb
 have HGB:=hide hgb
 have HBB:=hide hbB
 clear hy3 T3 HC2 hwb hgb hTb hbB c0 c1 c2
 go_upto_region 7 with fail
 rw [← HWB.out,← HGB.out]
 obtain ⟨c0,c1,c2⟩:=HCB3.out.facts
 go_wp2_with fail
 refine HC3.out.mono ?_
 rintro e w4 ⟨rfl,⟨v4,q4,hy4⟩,T4⟩
 obtain ⟨wd,hwd⟩:∃ y,y=w4.alloc (.cells #[.int .i64 0,.int .u64 0,.int .i64 0] 32):=⟨_,rfl⟩
 obtain ⟨gd,hgd⟩:∃ y,y=w4.heap.size:=⟨_,rfl⟩
 have hTd:Touch (fun _=>False) w4 wd:=by rw [hwd];exact (Touch.refl _ _).alloc _
 have hdB:Blk wd gd 32 #[.int .i64 0,.int .u64 0,.int .i64 0]:=by rw [hwd,hgd];exact Blk.new _ _ _
 have HAB4:=hide ((HYB.out.st.keep T4 HAB3.out off_ans).touch hTd (fun f=>f))
 have HBB4:=hide ((HYB.out.st.keep T4 HBB.out off_ans).touch hTd (fun f=>f))
 have HYD:=hide (hy4.quiet hTd)
 have HWR:=hide (words_st wd HYD.out.l HYD.out.st)
 have HWD:=hide hwd
 have HGD:=hide hgd
 have HDB:=hide hdB
 clear hy4 T4 HC3 hwd hgd hTd hdB c0 c1 c2
 go_upto_region 8 with fail
 rw [← HWD.out,← HGD.out]
 go_wp2_with fail
 refine HWR.out.mono ?_
 rintro e w5 ⟨A5,c5,rfl,hp5,T5⟩
 obtain ⟨x0,x1,x2⟩:=(HAB4.out.touch T5 (fun f=>f)).facts
 obtain ⟨x3,x4,x5⟩:=(HBB4.out.touch T5 (fun f=>f)).facts
 obtain ⟨x6,x7,x8⟩:=(HDB.out.touch T5 (fun f=>f)).facts
 obtain ⟨g5,hA5,hg5,p0,p1,_,_⟩:=pown_at hp5 rfl 0 (by decide)
 subst hA5
 simp only [aL1,List.getD_cons_zero,Nat.zero_mul,Nat.zero_add,List.length_cons,List.length_nil] at p0 p1 ⊢
 have HT5:=hide (HYD.out.t.then T5)
 clear hp5 T5 HWR
 go_wp2_with fail
 go_ret
 exact ⟨by simp,HT5.out⟩
end Go.Proofs.YthockgmbooefpaaGreatDoor
namespace Go.Proofs.YthockgmbooefpaaGreatDoor
open Go.RowKit
theorem few_any (w:World) (A:Option Addr) (n c:Nat):Calls Tryz.prog 23 #[.slice A n c] w fun e w'=>e=.returned (.bool (decide ((n:Int)≤400)))∧w=w':=by
 go_enter Tryz.func23,Tryz.ntmps23
 go_wp2
 go_ret
 exact ⟨rfl,rfl⟩
end Go.Proofs.YthockgmbooefpaaGreatDoor
namespace Go.Proofs.YthockgmbooefpaaGreatDoor
open Go.RowKit
structure RwL (w:World) (A:Option Addr) (n c:Nat) (R:List SRow):Prop where
 own:w.ownsRow 0 136 4 (.slice A n c) n (rowCells R)
 len:R.length=n
 few:n≤4096
theorem RwL.touch {w w':World} {A:Option Addr} {n c:Nat} {R:List SRow} {S:Nat→Prop} (h:RwL w A n c R) (T:Touch S w w') (hS:∀ g,TyAt w g 136 → ¬ S g):RwL w' A n c R :=
 ⟨own_touch h.own T (fun g hg=>hS g (own_ty h.own hg)),h.len,h.few⟩
theorem RwL.quiet {w w':World} {A:Option Addr} {n c:Nat} {R:List SRow} (h:RwL w A n c R) (T:Touch (fun _=>False) w w'):RwL w' A n c R:=h.touch T (fun _ _ f=>f)
theorem Tryz.infoRRow:(Tryz.prog.info? 136).map (fun i=>(i.zero,i.size,i.bytes))=some (some (.agg #[.int .u64 0,.int .i64 0,.int .u64 0,.int .i64 0]),4,32):=by kernel_rfl
theorem rw_at {w:World} {A:Option Addr} {n c:Nat} {R:List SRow} (h:RwL w A n c R) (k:Nat) (hk:k<n) :
  ∃ g,A=some ⟨g,0,none⟩∧g<w.heap.size∧n≤c∧w.cell? ⟨g,k*4,none⟩=some (.int .u64 (R.getD k SRow.zero).seq)∧w.cell? ⟨g,k*4+1,none⟩=some (.int .i64 (R.getD k SRow.zero).code) ∧
   w.cell? ⟨g,k*4+2,none⟩=some (.int .u64 (R.getD k SRow.zero).sess)∧w.cell? ⟨g,k*4+3,none⟩=some (.int .i64 (R.getD k SRow.zero).had):=by
 have hl:=h.len
 obtain ⟨g,cap,hv,hle,_,hg,hc,_⟩:=own_form h.own (by omega)
 injection hv with hA' _ hcc
 have hk':k<R.length:=by omega
 have e:R.getD k SRow.zero=R[k]:=by simp [List.getD,hk']
 rw [e]
 refine ⟨g,hA',hg,by omega,?_,?_,?_,?_⟩
 ·exact hc _ _ (by have:=rowCells_at R k hk' 0 (by omega);rw [show k*4=4*k+0 by omega,this];rfl)
 ·exact hc _ _ (by have:=rowCells_at R k hk' 1 (by omega);rw [show k*4+1=4*k+1 by omega,this];rfl)
 ·exact hc _ _ (by have:=rowCells_at R k hk' 2 (by omega);rw [show k*4+2=4*k+2 by omega,this];rfl)
 ·exact hc _ _ (by have:=rowCells_at R k hk' 3 (by omega);rw [show k*4+3=4*k+3 by omega,this];rfl)
theorem two_cells {w:World} {g:Nat} {ty:TypeId} (a b:Value) (x y:Value) (h:Blk w g ty #[x,y]):Blk ((w.setCell ⟨g,0,none⟩ a).setCell ⟨g,1,none⟩ b) g ty #[a,b]:=by
 have:=(h.set_ 0 a).set_ 1 b
 simpa using this
theorem results_cells {P:Program} {fn:Func} {p p':Tmp} {ty ty':TypeId} (h:fn.results=#[.cell p ty,.cell p' ty']) (tmps:Array Value) (w:World) (g g':Nat) (t t':TypeId) (cs cs':Array Value) (d d':TypeDesc)
  (hp:tmps.getD p undef=.pointer (some ⟨g,0,none⟩)) (hg:Blk w g t cs) (hu:P.underlying ty=some d) (hd:(match d with | .struct _ | .array _ _=>true | _=>false)=true) (hi:(P.info? ty).map (·.size)=some cs.size)
  (hp':tmps.getD p' undef=.pointer (some ⟨g',0,none⟩)) (hg':Blk w g' t' cs') (hu':P.underlying ty'=some d') (hd':(match d' with | .struct _ | .array _ _=>true | _=>false)=true) (hi':(P.info? ty').map (·.size)=some cs'.size) :
  (results fn tmps).run P w=.ok (.tuple #[.agg cs,.agg cs']) w:=by
 have hp1:tmps[p]?.getD undef=.pointer (some ⟨g,0,none⟩):=by simpa using hp
 have hp2:tmps[p']?.getD undef=.pointer (some ⟨g',0,none⟩):=by simpa using hp'
 simp [results,h,hp1,hp2,asAddr,Sem.run_bind,run_loadVar_row w g t ty cs (0,0) d hg hu hd hi,run_loadVar_row w g' t' ty' cs' (0,0) d' hg' hu' hd' hi',Result.andThen]
theorem far2 {w:World} {g k:Nat} {t:TypeId} {cs:Array Value} {a b:Value} (h:Blk w g t cs) (hk:g≠k):Blk ((w.setCell ⟨k,0,none⟩ a).setCell ⟨k,1,none⟩ b) g t cs:=(h.far hk a).far hk b
theorem far3 {w:World} {g k:Nat} {t:TypeId} {cs:Array Value} {a b c:Value} (h:Blk w g t cs) (hk:g≠k):Blk (((w.setCell ⟨k,0,none⟩ a).setCell ⟨k,1,none⟩ b).setCell ⟨k,2,none⟩ c) g t cs:=((h.far hk a).far hk b).far hk c
theorem rdo_ref (w:World) (B0:Nat) {tA:Option Addr} {tn tc:Nat} {tL L:List PRow} (hs:RfL B0 w ⟨tA,tn,tc,tL⟩ L) (hD:DictP L) {A:Option Addr} {n c:Nat} {R:List SRow} (hr:RwL w A n c R) (sid sq nn:Int) (kw:ByteArray) (hk:kw.size≤1099511627776) (kd code:Int) (h:((kd == 1)=false∧(kd != 2)=true∧(kd != 3)=true∧(kd == 2)=false∧(kd == 3)=false∧code=161)∨(kd=1∧(4096:Int)≤(n:Int)∧code=152)∨(kd=2∧sid<1∧code=150)∨(kd=3∧sid<1∧code=150)∨(kd=2∧1≤sid∧(n:Int)<sid∧code=150)∨(kd=3∧1≤sid∧(n:Int)<sid∧code=150)) :
  Calls Tryz.prog 62 #[.agg #[.slice tA tn tc,.slice A n c],.agg #[.int .i64 kd,.int .u64 sid,.int .u64 sq,.string kw,.int .i64 nn]] w fun e w'=>e=.returned (.tuple #[.agg #[.slice tA tn tc,.slice A n c],ansV ⟨0,code,0,0⟩])∧Touch (fun _=>False) w w':=by
 have HH:=hide h
 clear h
 obtain ⟨wa,hwa⟩:∃ z,z=(((w.alloc (.cells #[.slice tA tn tc,.slice A n c] 56)).alloc (.cells #[.int .i64 kd,.int .u64 sid,.int .u64 sq,.string kw,.int .i64 nn] 29)).alloc (.cells #[.slice none 0 0,.slice none 0 0] 56)).alloc (.cells #[.int .i64 0,.int .u64 0,.int .i64 0] 32):=⟨_,rfl⟩
 obtain ⟨ba,hba⟩:∃ z,z=w.heap.size:=⟨_,rfl⟩
 obtain ⟨bb,hbb⟩:∃ z,z=w.heap.size+1:=⟨_,rfl⟩
 obtain ⟨bs,hbs⟩:∃ z,z=w.heap.size+1+1:=⟨_,rfl⟩
 obtain ⟨ra,hra⟩:∃ z,z=w.heap.size+1+1+1:=⟨_,rfl⟩
 have hTa:Touch (fun _=>False) w wa:=by rw [hwa];exact ((((Touch.refl _ _).alloc _).alloc _).alloc _).alloc _
 have haB:Blk wa ba 56 #[.slice tA tn tc,.slice A n c]:=by rw [hwa,hba];exact (((Blk.new _ _ _).alloc _).alloc _).alloc _
 have hbB:Blk wa bb 29 #[.int .i64 kd,.int .u64 sid,.int .u64 sq,.string kw,.int .i64 nn]:=by
  have h1:=(((Blk.new (w.alloc (.cells #[.slice tA tn tc,.slice A n c] 56)) 29 #[.int .i64 kd,.int .u64 sid,.int .u64 sq,.string kw,.int .i64 nn]).alloc (.cells #[.slice none 0 0,.slice none 0 0] 56)).alloc (.cells #[.int .i64 0,.int .u64 0,.int .i64 0] 32))
  rw [hwa,hbb];simpa using h1
 have hsB:Blk wa bs 56 #[.slice none 0 0,.slice none 0 0]:=by
  have h1:=(Blk.new ((w.alloc (.cells #[.slice tA tn tc,.slice A n c] 56)).alloc (.cells #[.int .i64 kd,.int .u64 sid,.int .u64 sq,.string kw,.int .i64 nn] 29)) 56 #[.slice none 0 0,.slice none 0 0]).alloc (.cells #[.int .i64 0,.int .u64 0,.int .i64 0] 32)
  rw [hwa,hbs];simpa using h1
 have hrB:Blk wa ra 32 #[.int .i64 0,.int .u64 0,.int .i64 0]:=by
  have h1:=Blk.new (((w.alloc (.cells #[.slice tA tn tc,.slice A n c] 56)).alloc (.cells #[.int .i64 kd,.int .u64 sid,.int .u64 sq,.string kw,.int .i64 nn] 29)).alloc (.cells #[.slice none 0 0,.slice none 0 0] 56)) 32 #[.int .i64 0,.int .u64 0,.int .i64 0]
  rw [hwa,hra];simpa using h1
 have HLO:Hid (w.heap.size≤ba∧w.heap.size≤bb∧w.heap.size≤bs∧w.heap.size≤ra∧ba≠bs∧bb≠bs∧bs≠ra):=hide (by omega)
 have HTA:=hide hTa
 have HAB:=hide haB
 have HBB:=hide hbB
 have HSB:=hide hsB
 have HRB:=hide hrB
 have HWA:=hide hwa
 have H0:=hide hba
 have H1:=hide hbb
 have H2:=hide hbs
 have H3:=hide hra
 have HS:=hide (hs.quiet hTa)
 have HR:=hide (hr.quiet hTa)
 have HD:=hide hD
 have HN0:=hide hr.len
 have hn:=hr.few
 have hx1:¬ bs=ra:=by omega
 have hx2:¬ ra=bs:=by omega
 obtain ⟨a0,a1,a2⟩:=haB.facts
 obtain ⟨b0,b1,b2⟩:=hbB.facts
 obtain ⟨s0,s1,s2⟩:=hsB.facts
 obtain ⟨r0,r1,r2⟩:=hrB.facts
 clear hwa hba hbb hbs hra hTa haB hbB hsB hrB hs hr hD
 go_enter Tryz.func62,Tryz.ntmps62
 go_upto_region 1 with fail
 rw [← HWA.out,← H3.out,← H2.out,← H1.out,← H0.out]
 rcases HH.out with ⟨h1,h2,h3,h4,h5,hc⟩ | ⟨rfl,h1,hc⟩ | ⟨rfl,h1,hc⟩ | ⟨rfl,h1,hc⟩ | ⟨rfl,h1,h2,hc⟩ | ⟨rfl,h1,h2,hc⟩
 all_goals
  have HCD:=hide hc
  clear hc
  go_wp2_with fail
  try simp only [Exit.inBlock,Exit.then]
  refine bodyPost_ret (v:=.tuple #[.agg #[.slice tA tn tc,.slice A n c],ansV ⟨0,code,0,0⟩]) (results_cells rfl _ _ bs ra 56 32 _ _ _ _ rfl ?hsb Tryz.underlying56 rfl (by kernel_rfl) rfl ?hrb Tryz.underlying32 rfl (by kernel_rfl)) rfl ?_
  case hsb=>exact (far3 (two_cells _ _ _ _ HSB.out) HLO.out.2.2.2.2.2.2)
  case hrb=>rw [HCD.out];exact (ans_cells _ _ _ _ _ _ (far2 HRB.out HLO.out.2.2.2.2.2.2.symm))
  exact ⟨rfl,((((((HTA.out.setCell (p:=⟨bs,_,none⟩) (fun hx=>absurd hx (by have h9:=HLO.out;simp at hx;omega)) _).setCell (p:=⟨bs,_,none⟩) (fun hx=>absurd hx (by have h9:=HLO.out;simp at hx;omega)) _).setCell (p:=⟨ra,_,none⟩) (fun hx=>absurd hx (by have h9:=HLO.out;simp at hx;omega)) _).setCell (p:=⟨ra,_,none⟩) (fun hx=>absurd hx (by have h9:=HLO.out;simp at hx;omega)) _).setCell (p:=⟨ra,_,none⟩) (fun hx=>absurd hx (by have h9:=HLO.out;simp at hx;omega)) _))⟩
theorem rdo_old (w:World) (B0:Nat) {tA:Option Addr} {tn tc:Nat} {tL L:List PRow} (hs:RfL B0 w ⟨tA,tn,tc,tL⟩ L) (hD:DictP L) {A:Option Addr} {n c:Nat} {R:List SRow} (hr:RwL w A n c R) (sid sq nn:Int) (kw:ByteArray) (hk:kw.size≤1099511627776) (kd:Int) (hkd:kd=2∨kd=3) (k:Nat) (hsk:sid=(k:Int)+1) (hkn:k<n) (rs rc rr rh:Int) (hrow:R.getD k SRow.zero=⟨rs,rc,rr,rh⟩) (h:sq=0∨(¬ sq=0∧sq<rs)) :
  Calls Tryz.prog 62 #[.agg #[.slice tA tn tc,.slice A n c],.agg #[.int .i64 kd,.int .u64 sid,.int .u64 sq,.string kw,.int .i64 nn]] w fun e w'=>e=.returned (.tuple #[.agg #[.slice tA tn tc,.slice A n c],ansV ⟨0,151,0,0⟩])∧Touch (fun _=>False) w w':=by
 have HSK:=hide hsk
 have HROW:=hide hrow
 clear hsk hrow
 have HH:=hide h
 clear h
 obtain ⟨wa,hwa⟩:∃ z,z=(((w.alloc (.cells #[.slice tA tn tc,.slice A n c] 56)).alloc (.cells #[.int .i64 kd,.int .u64 sid,.int .u64 sq,.string kw,.int .i64 nn] 29)).alloc (.cells #[.slice none 0 0,.slice none 0 0] 56)).alloc (.cells #[.int .i64 0,.int .u64 0,.int .i64 0] 32):=⟨_,rfl⟩
 obtain ⟨ba,hba⟩:∃ z,z=w.heap.size:=⟨_,rfl⟩
 obtain ⟨bb,hbb⟩:∃ z,z=w.heap.size+1:=⟨_,rfl⟩
 obtain ⟨bs,hbs⟩:∃ z,z=w.heap.size+1+1:=⟨_,rfl⟩
 obtain ⟨ra,hra⟩:∃ z,z=w.heap.size+1+1+1:=⟨_,rfl⟩
 have hTa:Touch (fun _=>False) w wa:=by rw [hwa];exact ((((Touch.refl _ _).alloc _).alloc _).alloc _).alloc _
 have haB:Blk wa ba 56 #[.slice tA tn tc,.slice A n c]:=by rw [hwa,hba];exact (((Blk.new _ _ _).alloc _).alloc _).alloc _
 have hbB:Blk wa bb 29 #[.int .i64 kd,.int .u64 sid,.int .u64 sq,.string kw,.int .i64 nn]:=by
  have h1:=(((Blk.new (w.alloc (.cells #[.slice tA tn tc,.slice A n c] 56)) 29 #[.int .i64 kd,.int .u64 sid,.int .u64 sq,.string kw,.int .i64 nn]).alloc (.cells #[.slice none 0 0,.slice none 0 0] 56)).alloc (.cells #[.int .i64 0,.int .u64 0,.int .i64 0] 32))
  rw [hwa,hbb];simpa using h1
 have hsB:Blk wa bs 56 #[.slice none 0 0,.slice none 0 0]:=by
  have h1:=(Blk.new ((w.alloc (.cells #[.slice tA tn tc,.slice A n c] 56)).alloc (.cells #[.int .i64 kd,.int .u64 sid,.int .u64 sq,.string kw,.int .i64 nn] 29)) 56 #[.slice none 0 0,.slice none 0 0]).alloc (.cells #[.int .i64 0,.int .u64 0,.int .i64 0] 32)
  rw [hwa,hbs];simpa using h1
 have hrB:Blk wa ra 32 #[.int .i64 0,.int .u64 0,.int .i64 0]:=by
  have h1:=Blk.new (((w.alloc (.cells #[.slice tA tn tc,.slice A n c] 56)).alloc (.cells #[.int .i64 kd,.int .u64 sid,.int .u64 sq,.string kw,.int .i64 nn] 29)).alloc (.cells #[.slice none 0 0,.slice none 0 0] 56)) 32 #[.int .i64 0,.int .u64 0,.int .i64 0]
  rw [hwa,hra];simpa using h1
 have HLO:Hid (w.heap.size≤ba∧w.heap.size≤bb∧w.heap.size≤bs∧w.heap.size≤ra∧ba≠bs∧bb≠bs∧bs≠ra):=hide (by omega)
 have HTA:=hide hTa
 have HAB:=hide haB
 have HBB:=hide hbB
 have HSB:=hide hsB
 have HRB:=hide hrB
 have HWA:=hide hwa
 have H0:=hide hba
 have H1:=hide hbb
 have H2:=hide hbs
 have H3:=hide hra
 have HS:=hide (hs.quiet hTa)
 have HR:=hide (hr.quiet hTa)
 have HD:=hide hD
 have HN0:=hide hr.len
 have hn:=hr.few
 have hx1:¬ bs=ra:=by omega
 have hx2:¬ ra=bs:=by omega
 obtain ⟨a0,a1,a2⟩:=haB.facts
 obtain ⟨b0,b1,b2⟩:=hbB.facts
 obtain ⟨s0,s1,s2⟩:=hsB.facts
 obtain ⟨r0,r1,r2⟩:=hrB.facts
 clear hwa hba hbb hbs hra hTa haB hbB hsB hrB hs hr hD
 go_enter Tryz.func62,Tryz.ntmps62
 go_upto_region 1 with fail
 rw [← HWA.out,← H3.out,← H2.out,← H1.out,← H0.out]
 rcases hkd with rfl | rfl
 all_goals
  have hsk:=HSK.out
  subst hsk
  clear HSK
  obtain ⟨gR,rfl,hgR,hnc,c0,c1,c2,c3⟩:=rw_at HR.out k hkn
  rw [HROW.out] at c0 c1 c2 c3
  simp only at c0 c1 c2 c3
  rcases HH.out with rfl | ⟨h1,h2⟩
  all_goals
   go_wp2_with fail
   try simp only [Exit.inBlock,Exit.then]
   refine bodyPost_ret (v:=.tuple #[.agg #[.slice tA tn tc,.slice (some ⟨gR,0,none⟩) n c],ansV ⟨0,151,0,0⟩]) (results_cells rfl _ _ bs ra 56 32 _ _ _ _ rfl ?hsb Tryz.underlying56 rfl (by kernel_rfl) rfl ?hrb Tryz.underlying32 rfl (by kernel_rfl)) rfl ?_
   case hsb=>exact (far3 (two_cells _ _ _ _ HSB.out) HLO.out.2.2.2.2.2.2).alloc _
   case hrb=>exact (ans_cells _ _ _ _ _ _ (far2 HRB.out HLO.out.2.2.2.2.2.2.symm)).alloc _
   exact ⟨rfl,((((((HTA.out.setCell (p:=⟨bs,_,none⟩) (fun hx=>absurd hx (by have h9:=HLO.out;simp at hx;omega)) _).setCell (p:=⟨bs,_,none⟩) (fun hx=>absurd hx (by have h9:=HLO.out;simp at hx;omega)) _).setCell (p:=⟨ra,_,none⟩) (fun hx=>absurd hx (by have h9:=HLO.out;simp at hx;omega)) _).setCell (p:=⟨ra,_,none⟩) (fun hx=>absurd hx (by have h9:=HLO.out;simp at hx;omega)) _).setCell (p:=⟨ra,_,none⟩) (fun hx=>absurd hx (by have h9:=HLO.out;simp at hx;omega)) _)).alloc _⟩
end Go.Proofs.YthockgmbooefpaaGreatDoor
namespace Go.Proofs.YthockgmbooefpaaGreatDoor
open Go.RowKit
theorem rdo_again (w:World) (B0:Nat) {tA:Option Addr} {tn tc:Nat} {tL L:List PRow} (hs:RfL B0 w ⟨tA,tn,tc,tL⟩ L) (hD:DictP L) {A:Option Addr} {n c:Nat} {R:List SRow} (hr:RwL w A n c R) (sid sq nn:Int) (kw:ByteArray) (hk:kw.size≤1099511627776) (kd:Int) (hkd:kd=2∨kd=3) (k:Nat) (hsk:sid=(k:Int)+1) (hkn:k<n) (rc rr rh:Int) (hrow:R.getD k SRow.zero=⟨sq,rc,rr,rh⟩) (h1:¬ sq=0) :
  Calls Tryz.prog 62 #[.agg #[.slice tA tn tc,.slice A n c],.agg #[.int .i64 kd,.int .u64 sid,.int .u64 sq,.string kw,.int .i64 nn]] w fun e w'=>e=.returned (.tuple #[.agg #[.slice tA tn tc,.slice A n c],ansV ⟨0,rc,rr,rh⟩])∧Touch (fun _=>False) w w':=by
 have HSK:=hide hsk
 have HROW:=hide hrow
 clear hsk hrow
 obtain ⟨wa,hwa⟩:∃ z,z=(((w.alloc (.cells #[.slice tA tn tc,.slice A n c] 56)).alloc (.cells #[.int .i64 kd,.int .u64 sid,.int .u64 sq,.string kw,.int .i64 nn] 29)).alloc (.cells #[.slice none 0 0,.slice none 0 0] 56)).alloc (.cells #[.int .i64 0,.int .u64 0,.int .i64 0] 32):=⟨_,rfl⟩
 obtain ⟨ba,hba⟩:∃ z,z=w.heap.size:=⟨_,rfl⟩
 obtain ⟨bb,hbb⟩:∃ z,z=w.heap.size+1:=⟨_,rfl⟩
 obtain ⟨bs,hbs⟩:∃ z,z=w.heap.size+1+1:=⟨_,rfl⟩
 obtain ⟨ra,hra⟩:∃ z,z=w.heap.size+1+1+1:=⟨_,rfl⟩
 have hTa:Touch (fun _=>False) w wa:=by rw [hwa];exact ((((Touch.refl _ _).alloc _).alloc _).alloc _).alloc _
 have haB:Blk wa ba 56 #[.slice tA tn tc,.slice A n c]:=by rw [hwa,hba];exact (((Blk.new _ _ _).alloc _).alloc _).alloc _
 have hbB:Blk wa bb 29 #[.int .i64 kd,.int .u64 sid,.int .u64 sq,.string kw,.int .i64 nn]:=by
  have h1:=(((Blk.new (w.alloc (.cells #[.slice tA tn tc,.slice A n c] 56)) 29 #[.int .i64 kd,.int .u64 sid,.int .u64 sq,.string kw,.int .i64 nn]).alloc (.cells #[.slice none 0 0,.slice none 0 0] 56)).alloc (.cells #[.int .i64 0,.int .u64 0,.int .i64 0] 32))
  rw [hwa,hbb];simpa using h1
 have hsB:Blk wa bs 56 #[.slice none 0 0,.slice none 0 0]:=by
  have h1:=(Blk.new ((w.alloc (.cells #[.slice tA tn tc,.slice A n c] 56)).alloc (.cells #[.int .i64 kd,.int .u64 sid,.int .u64 sq,.string kw,.int .i64 nn] 29)) 56 #[.slice none 0 0,.slice none 0 0]).alloc (.cells #[.int .i64 0,.int .u64 0,.int .i64 0] 32)
  rw [hwa,hbs];simpa using h1
 have hrB:Blk wa ra 32 #[.int .i64 0,.int .u64 0,.int .i64 0]:=by
  have h1:=Blk.new (((w.alloc (.cells #[.slice tA tn tc,.slice A n c] 56)).alloc (.cells #[.int .i64 kd,.int .u64 sid,.int .u64 sq,.string kw,.int .i64 nn] 29)).alloc (.cells #[.slice none 0 0,.slice none 0 0] 56)) 32 #[.int .i64 0,.int .u64 0,.int .i64 0]
  rw [hwa,hra];simpa using h1
 have HLO:Hid (w.heap.size≤ba∧w.heap.size≤bb∧w.heap.size≤bs∧w.heap.size≤ra∧ba≠bs∧bb≠bs∧bs≠ra):=hide (by omega)
 have HTA:=hide hTa
 have HAB:=hide haB
 have HBB:=hide hbB
 have HSB:=hide hsB
 have HRB:=hide hrB
 have HWA:=hide hwa
 have H0:=hide hba
 have H1:=hide hbb
 have H2:=hide hbs
 have H3:=hide hra
 have HS:=hide (hs.quiet hTa)
 have HR:=hide (hr.quiet hTa)
 have HD:=hide hD
 have HN0:=hide hr.len
 have hn:=hr.few
 have hx1:¬ bs=ra:=by omega
 have hx2:¬ ra=bs:=by omega
 obtain ⟨a0,a1,a2⟩:=haB.facts
 obtain ⟨b0,b1,b2⟩:=hbB.facts
 obtain ⟨s0,s1,s2⟩:=hsB.facts
 obtain ⟨r0,r1,r2⟩:=hrB.facts
 clear hwa hba hbb hbs hra hTa haB hbB hsB hrB hs hr hD
 go_enter Tryz.func62,Tryz.ntmps62
 go_upto_region 1 with fail
 rw [← HWA.out,← H3.out,← H2.out,← H1.out,← H0.out]
 rcases hkd with rfl | rfl
 all_goals
  have hsk:=HSK.out
  subst hsk
  clear HSK
  obtain ⟨gR,rfl,hgR,hnc,c0,c1,c2,c3⟩:=rw_at HR.out k hkn
  rw [HROW.out] at c0 c1 c2 c3
  simp only at c0 c1 c2 c3
  go_upto_region 14 with fail
  go_region
  go_wp2_with fail
  try simp only [Exit.inBlock,Exit.then]
  refine bodyPost_ret (v:=.tuple #[.agg #[.slice tA tn tc,.slice (some ⟨gR,0,none⟩) n c],ansV ⟨0,rc,rr,rh⟩]) (results_cells rfl _ _ bs ra 56 32 _ _ _ _ rfl ?hsb Tryz.underlying56 rfl (by kernel_rfl) rfl ?hrb Tryz.underlying32 rfl (by kernel_rfl)) rfl ?_
  case hsb=>exact ((far3 (two_cells _ _ _ _ HSB.out) HLO.out.2.2.2.2.2.2).alloc _).drew
  case hrb=>exact ((ans_cells _ _ _ _ _ _ (far2 HRB.out HLO.out.2.2.2.2.2.2.symm)).alloc _).drew
  exact ⟨rfl,((((((HTA.out.setCell (p:=⟨bs,_,none⟩) (fun hx=>absurd hx (by have h9:=HLO.out;simp at hx;omega)) _).setCell (p:=⟨bs,_,none⟩) (fun hx=>absurd hx (by have h9:=HLO.out;simp at hx;omega)) _).setCell (p:=⟨ra,_,none⟩) (fun hx=>absurd hx (by have h9:=HLO.out;simp at hx;omega)) _).setCell (p:=⟨ra,_,none⟩) (fun hx=>absurd hx (by have h9:=HLO.out;simp at hx;omega)) _).setCell (p:=⟨ra,_,none⟩) (fun hx=>absurd hx (by have h9:=HLO.out;simp at hx;omega)) _).alloc _).drew⟩
end Go.Proofs.YthockgmbooefpaaGreatDoor
