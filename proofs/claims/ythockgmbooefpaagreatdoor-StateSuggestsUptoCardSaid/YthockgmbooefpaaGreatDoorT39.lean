/- What the law rests on, part 39. No condition but those that each theorem names. -/
import Derived.Test.YthockgmbooefpaaGreatDoorT37
import Derived.Test.YthockgmbooefpaaGreatDoorT38
import Derived.Deep.RegionHeld3
import Derived.Test.YthockgmbooefpaaGreatDoorT36
import Derived.Test.YthockgmbooefpaaGreatDoorT23
import Derived.Test.YthockgmbooefpaaGreatDoorRows
import Derived.Test.YthockgmbooefpaaGreatDoorCards
import Derived.Test.YthockgmbooefpaaGreatDoorTie
import Derived.Deep.DeepHandedRow
import Derived.ProofKit
import Derived.OpenShut
import Derived.SevenTiedAt
set_option linter.unusedSectionVars false
set_option linter.unusedSimpArgs false
set_option linter.unusedVariables false
set_option maxRecDepth 100000
set_option maxHeartbeats 4000000
namespace Go.Proofs.YthockgmbooefpaaGreatDoor
open Go.RowKit
theorem rdo_any (w:World) (B0:Nat) {sl:SL} {L:List PRow} (hs:RfL B0 w sl L) (hD:DictP L) {A:Option Addr} {n c:Nat} {R:List SRow} (hr:RwL w A n c R) (hB0:B0≤w.heap.size) (cm:CmdP) (hk:cm.Wf) :
  Calls Tryz.prog 62 #[.agg #[sl.val,.slice A n c],cm.val] w fun e w'=>∃ (s':SL) (A':Option Addr) (n' c':Nat),e=.returned (.tuple #[.agg #[s'.val,.slice A' n' c'],ansV (doA cm L R)])∧RfL B0 w' s' (doL cm L R)∧RwL w' A' n' c' (doR cm L R)∧Touch (fun _=>False) w w':=by
 obtain ⟨kd,sid,sq,kw,nn⟩:=cm
 obtain ⟨tA,tn,tc,tL⟩:=sl
 unfold CmdP.Wf at hk
 have hn:=hr.few
 have hl:=hr.len
 have stay:∀ {e:Ending} {w':World} {a:SRow},doA ⟨kd,sid,sq,kw,nn⟩ L R=a→doL ⟨kd,sid,sq,kw,nn⟩ L R=L→doR ⟨kd,sid,sq,kw,nn⟩ L R=R→e=.returned (.tuple #[.agg #[.slice tA tn tc,.slice A n c],ansV a])∧Touch (fun _=>False) w w' →
   ∃ (s':SL) (A':Option Addr) (n' c':Nat),e=.returned (.tuple #[.agg #[s'.val,.slice A' n' c'],ansV (doA ⟨kd,sid,sq,kw,nn⟩ L R)])∧RfL B0 w' s' (doL ⟨kd,sid,sq,kw,nn⟩ L R)∧RwL w' A' n' c' (doR ⟨kd,sid,sq,kw,nn⟩ L R)∧Touch (fun _=>False) w w':=by
  rintro e w' a h1 h2 h3 ⟨rfl,T⟩
  rw [h1,h2,h3]
  exact ⟨⟨tA,tn,tc,tL⟩,A,n,c,rfl,hs.quiet T,hr.quiet T,T⟩
 by_cases h1:kd=1
 ·subst h1
  by_cases hf:n<4096
  ·refine (rdo_open w B0 hs hD hr sid sq nn kw hk hf).mono ?_
   rintro e w' ⟨A',n',c',rfl,hr',T⟩
   have e1:doA ⟨1,sid,sq,kw,nn⟩ L R=⟨0,0,(n:Int)+1,0⟩:=by simp [doA,hl,hf]
   have e2:doL ⟨1,sid,sq,kw,nn⟩ L R=L:=by simp [doL,goesB]
   have e3:doR ⟨1,sid,sq,kw,nn⟩ L R=R++[SRow.zero]:=by simp [doR,hl,hf]
   rw [e1,e2,e3]
   exact ⟨⟨tA,tn,tc,tL⟩,A',n',c',rfl,hs.quiet T,hr',T⟩
  ·exact (rdo_ref w B0 hs hD hr sid sq nn kw hk 1 152 (.inr (.inl ⟨rfl,by omega,rfl⟩))).mono (fun e w'=>stay (by simp [doA,hl,hf]) (by simp [doL,goesB]) (by simp [doR,hl,hf]))
 ·by_cases h2:kd=2∨kd=3
  ·have err:∀ {k:Int},¬ k=0→doC ⟨kd,sid,sq,kw,nn⟩ R=⟨0,0,0,false,k⟩→_:=fun {k} hk0 hc=>do_err (c:=⟨kd,sid,sq,kw,nn⟩) (L:=L) (R:=R) h2 hc hk0
   by_cases h3:sid<1
   ·have hc:doC ⟨kd,sid,sq,kw,nn⟩ R=⟨0,0,0,false,150⟩:=by
     have ht:thereB R sid=false:=by unfold thereB;simp;omega
     unfold doC chk
     simp only [ht]
     rfl
    obtain ⟨e1,e2,e3⟩:=err (by decide) hc
    exact (rdo_ref w B0 hs hD hr sid sq nn kw hk kd 150 (by rcases h2 with rfl | rfl;exact .inr (.inr (.inl ⟨rfl,h3,rfl⟩));exact .inr (.inr (.inr (.inl ⟨rfl,h3,rfl⟩))))).mono (fun e w'=>stay e1 e2 e3)
   ·by_cases h4:(n:Int)<sid
    ·have hc:doC ⟨kd,sid,sq,kw,nn⟩ R=⟨0,0,0,false,150⟩:=by
      have ht:thereB R sid=false:=by unfold thereB;simp;omega
      unfold doC chk
      simp only [ht]
      rfl
     obtain ⟨e1,e2,e3⟩:=err (by decide) hc
     exact (rdo_ref w B0 hs hD hr sid sq nn kw hk kd 150 (by rcases h2 with rfl | rfl;exact .inr (.inr (.inr (.inr (.inl ⟨rfl,by omega,h4,rfl⟩))));exact .inr (.inr (.inr (.inr (.inr ⟨rfl,by omega,h4,rfl⟩)))))).mono (fun e w'=>stay e1 e2 e3)
    ·obtain ⟨k,hk1⟩:∃ k:Nat,sid=(k:Int)+1:=⟨(sid-1).toNat,by omega⟩
     have hkn:k<n:=by omega
     have hkR:k<R.length:=by omega
     obtain ⟨⟨rs,rc,rr,rh⟩,hrow⟩:∃ r,r=R.getD k SRow.zero:=⟨_,rfl⟩
     have ht:thereB R sid=true:=by rw [hk1];exact thereB_succ R k hkR
     have hra:rowAt R sid=⟨rs,rc,rr,rh⟩:=by rw [hk1,rowAt_succ R k hkR,hrow];simp [List.getD,hkR]
     have hdc:doC ⟨kd,sid,sq,kw,nn⟩ R=chk true ⟨rs,rc,rr,rh⟩ sq:=by unfold doC;simp only [ht,hra]
     by_cases h5:sq=0
     ·obtain ⟨e1,e2,e3⟩:=err (k:=151) (by decide) (by rw [hdc];simp [chk,h5])
      exact (rdo_old w B0 hs hD hr sid sq nn kw hk kd h2 k hk1 hkn rs rc rr rh hrow.symm (.inl h5)).mono (fun e w'=>stay e1 e2 e3)
     ·by_cases h6:sq<rs
      ·obtain ⟨e1,e2,e3⟩:=err (k:=151) (by decide) (by rw [hdc];simp [chk,h6])
       exact (rdo_old w B0 hs hD hr sid sq nn kw hk kd h2 k hk1 hkn rs rc rr rh hrow.symm (.inr ⟨h5,h6⟩)).mono (fun e w'=>stay e1 e2 e3)
      ·by_cases h7:sq=rs
       ·subst h7
        have hK:doC ⟨kd,sid,sq,kw,nn⟩ R=⟨rc,rr,rh,true,0⟩:=by rw [hdc];simp [chk,h5]
        obtain ⟨e1,e2,e3⟩:=do_again (c:=⟨kd,sid,sq,kw,nn⟩) (L:=L) (R:=R) h2 hK rfl rfl
        exact (rdo_again w B0 hs hD hr sid sq nn kw hk kd h2 k hk1 hkn rc rr rh hrow.symm h5).mono (fun e w'=>stay e1 e2 e3)
       ·have hK:doC ⟨kd,sid,sq,kw,nn⟩ R=⟨0,0,0,false,0⟩:=by rw [hdc];simp [chk,h5,h6,h7]
        obtain ⟨e1,e2,e3⟩:=do_new (c:=⟨kd,sid,sq,kw,nn⟩) (L:=L) (R:=R) h2 hK rfl rfl
        have hkk:(sid-1).toNat=k:=by omega
        rw [e1,e2,e3]
        simp only [hkk]
        rcases h2 with rfl | rfl
        ·exact rdo_new2 w B0 hs hD hr sid sq nn kw hk hB0 k hk1 hkn rs rc rr rh hrow.symm h5 h6 h7
        ·exact rdo_new3 w B0 hs hD hr sid sq nn kw hk hB0 k hk1 hkn rs rc rr rh hrow.symm h5 h6 h7
  ·have hg:goesB ⟨kd,sid,sq,kw,nn⟩ R=false:=by simp [goesB,h2]
   exact (rdo_ref w B0 hs hD hr sid sq nn kw hk kd 161 (.inl (by have h3:¬ kd=2:=(by omega);have h4:¬ kd=3:=(by omega);refine ⟨?_,?_,?_,?_,?_,rfl⟩<;>simp<;>omega))).mono (fun e w'=>stay (by simp [doA,h1,h2]) (by simp [doL,hg]) (by simp [doR,h1,hg]))
end Go.Proofs.YthockgmbooefpaaGreatDoor
namespace Go.Proofs.YthockgmbooefpaaGreatDoor
open Go.RowKit
theorem tdgetD {D:List CmdP} {k:Nat} (h:k<D.length):D.getD k CmdP.zero∈D:=by
 have e2:D.getD k CmdP.zero=D[k]:=by simp [List.getD,h]
 rw [e2];exact List.getElem_mem _
theorem runS_succ (T:List CmdP) (i:Nat) (h:i<T.length) (S:List PRow × List SRow):runS (T.take (i+1)) S=stepS (runS (T.take i) S) (T.getD i CmdP.zero):=by
 rw [ctake_succ T i h,runS_snoc]
theorem RfL.stF {W w w':World} {s d tb:Nat} {v:Value} {L L':List PRow} {q:Nat} {R:List SRow} {sl:SL} (h:StY W w s d tb v L' q R) (hl:RfL W.heap.size w sl L) (T:Touch (Go.Proofs.YthockgmbooefpaaGreatDoor.stF d tb v) w w'):RfL W.heap.size w' sl L :=
 hl.touch T (fun g hg e=>by have:=h.stF g e;omega) (fun g ht e=>by
  rcases e with rfl | e
  ·exact ht.ne h.st.dct.ty (by decide) rfl
  ·exact fp_no h.st.tab ht (by decide) (by decide) e)
theorem RwL.stF {w w':World} {s d tb:Nat} {v:Value} {L:List PRow} {q:Nat} {R R':List SRow} {A:Option Addr} {n c:Nat} (h:StX w s d tb v L q R) (hr:RwL w A n c R') (T:Touch (Go.Proofs.YthockgmbooefpaaGreatDoor.stF d tb v) w w'):RwL w' A n c R' :=
 hr.touch T (fun g ht e=>by
  rcases e with rfl | e
  ·exact ht.ne h.dct.ty (by decide) rfl
  ·exact fp_no h.tab ht (by decide) (by decide) e)
theorem results_ct {P:Program} {fn:Func} {p u:Tmp} {ty:TypeId} (h:fn.results=#[.cell p ty,.tmp u]) (tmps:Array Value) (w:World) (g:Nat) (t:TypeId) (cs:Array Value) (d:TypeDesc) (x:Value)
  (hp:tmps.getD p undef=.pointer (some ⟨g,0,none⟩)) (hg:Blk w g t cs) (hu:P.underlying ty=some d) (hd:(match d with | .struct _ | .array _ _=>true | _=>false)=true) (hi:(P.info? ty).map (·.size)=some cs.size) (hx:tmps.getD u undef=x) :
  (results fn tmps).run P w=.ok (.tuple #[.agg cs,x]) w:=by
 have hp1:tmps[p]?.getD undef=.pointer (some ⟨g,0,none⟩):=by simpa using hp
 have hx1:tmps[u]?.getD undef=x:=by simpa using hx
 simp [results,h,hp1,hx1,asAddr,Sem.run_bind,run_loadVar_row w g t ty cs (0,0) d hg hu hd hi,Result.andThen]
theorem results_tct {P:Program} {fn:Func} {a p u:Tmp} {ty:TypeId} (h:fn.results=#[.tmp a,.cell p ty,.tmp u]) (tmps:Array Value) (w:World) (g:Nat) (t:TypeId) (cs:Array Value) (d:TypeDesc) (y x:Value)
  (hy:tmps.getD a undef=y) (hp:tmps.getD p undef=.pointer (some ⟨g,0,none⟩)) (hg:Blk w g t cs) (hu:P.underlying ty=some d) (hd:(match d with | .struct _ | .array _ _=>true | _=>false)=true) (hi:(P.info? ty).map (·.size)=some cs.size) (hx:tmps.getD u undef=x) :
  (results fn tmps).run P w=.ok (.tuple #[y,.agg cs,x]) w:=by
 have hp1:tmps[p]?.getD undef=.pointer (some ⟨g,0,none⟩):=by simpa using hp
 have hx1:tmps[u]?.getD undef=x:=by simpa using hx
 have hy1:tmps[a]?.getD undef=y:=by simpa using hy
 simp [results,h,hp1,hx1,hy1,asAddr,Sem.run_bind,run_loadVar_row w g t ty cs (0,0) d hg hu hd hi,Result.andThen]
theorem StY.off {W w w':World} {s d tb:Nat} {v:Value} {L:List PRow} {q:Nat} {R:List SRow} {S:Nat→Prop} (h:StY W w s d tb v L q R) (T:Touch S w w') (hS:∀ g,S g→W.heap.size≤g∧∃ t,TyAt w g t∧offT t):StY W w' s d tb v L q R :=
 ⟨h.st.off T (fun g hg=>(hS g hg).2),h.y,h.t.trans T (fun g hg e=>by have:=(hS g e).1;omega),h.lw⟩
theorem off_rst:offT 56 := by unfold offT dctT;decide
theorem goes_any {W:World} (w:World) {s d tb:Nat} {v:Value} {L:List PRow} {q:Nat} {R:List SRow} (h:StY W w s d tb v L q R) (sl:SL) (hl:RfL W.heap.size w sl L) (A:Option Addr) (n c:Nat) (hr:RwL w A n c R)
  (tA:Option Addr) (tn tc:Nat) (T:List CmdP) (hT:T.length=tn) (hR:Reads W 5 tA tn (cCells T)) (hWf:∀ o∈T,o.Wf) (hm:tn≤400) :
  Calls Tryz.prog 29 #[ptrV s,.agg #[sl.val,.slice A n c],.slice tA tn tc] w fun e w'=>∃ (sl':SL) (A':Option Addr) (n' c':Nat),e=.returned (.tuple #[.agg #[sl'.val,.slice A' n' c'],.bool true]) ∧
   (∃ v',(∃ q',StY W w' s d tb v' (runS T (L,R)).1 q' (runS T (L,R)).2)∧Fresh w v v')∧RfL W.heap.size w' sl' (runS T (L,R)).1∧RwL w' A' n' c' (runS T (L,R)).2∧Touch (stF d tb v) w w':=by
 have HTL:=hide hT
 have HRD:=hide hR
 have HWO:=hide hWf
 have HST0:=hide h
 obtain ⟨sA,sn,sc,sL⟩:=sl
 simp only [SL.val] at hl ⊢
 obtain ⟨wa,hwa⟩:∃ z,z=(w.alloc (.cells #[.slice sA sn sc,.slice A n c] 56)).alloc (.cells #[.slice none 0 0,.slice none 0 0] 56):=⟨_,rfl⟩
 obtain ⟨rb,hrb⟩:∃ z,z=w.heap.size:=⟨_,rfl⟩
 obtain ⟨rs,hrs⟩:∃ z,z=w.heap.size+1:=⟨_,rfl⟩
 have hTa:Touch (fun _=>False) w wa:=by rw [hwa];exact ((Touch.refl _ _).alloc _).alloc _
 have hbB:Blk wa rb 56 #[.slice sA sn sc,.slice A n c]:=by rw [hwa,hrb];exact (Blk.new _ _ _).alloc _
 have hsB:Blk wa rs 56 #[.slice none 0 0,.slice none 0 0]:=by
  have h1:=Blk.new (w.alloc (.cells #[.slice sA sn sc,.slice A n c] 56)) 56 #[.slice none 0 0,.slice none 0 0]
  rw [hwa,hrs]
  simpa using h1
 have HBR:Hid (w.heap.size≤rb∧w.heap.size≤rs∧¬ rb=rs):=hide (by omega)
 have HYA:=hide (h.quiet hTa)
 have HLA:=hide (hl.quiet hTa)
 have HRA:=hide (hr.quiet hTa)
 have HTA:=hide hTa
 have HBB:=hide hbB
 have HSB:=hide hsB
 have HWA:=hide hwa
 have HRB:=hide hrb
 have HRS:=hide hrs
 have HM:=hide hm
 clear hT hR hWf h hl hr hwa hrb hrs hTa hbB hsB hm
 go_enter Tryz.func29,Tryz.ntmps29
 go_upto_region 1 with fail
 rw [← HWA.out,← HRS.out,← HRB.out]
 go_wp2_with fail
 go_loopw [14] (fun iv wr=>∃ (i:Nat) (sA':Option Addr) (sn' sc':Nat) (sL':List PRow) (A':Option Addr) (n' c':Nat) (v':Value) (q':Nat),iv=.int .i64 i∧i≤tn∧Hid (StY W wr s d tb v' (runS (T.take i) (L,R)).1 q' (runS (T.take i) (L,R)).2)∧Hid (Fresh w v v')∧Hid (RfL W.heap.size wr ⟨sA',sn',sc',sL'⟩ (runS (T.take i) (L,R)).1)∧Hid (RwL wr A' n' c' (runS (T.take i) (L,R)).2) ∧
   Hid (Blk wr rb 56 #[.slice sA' sn' sc',.slice A' n' c'])∧Hid (Blk wr rs 56 #[.slice none 0 0,.slice none 0 0])∧Hid (Touch (stF d tb v) w wr)) (fun iv _=>tn-(intOf iv).toNat)
 case atStart=>exact ⟨0,sA,sn,sc,sL,A,n,c,v,q,rfl,Nat.zero_le _,HYA,hide (.inl rfl),HLA,HRA,HBB,HSB,hide (HTA.out.up _)⟩
 case round =>
  obtain ⟨i,sA',sn',sc',sL',A',n',c',v',q',rfl,hin',HY,HF,HLr,HRr,HBr,HSr,HTr⟩:=hrel
  obtain ⟨wo,hwo⟩:∃ y,y=wr:=⟨_,rfl⟩
  subst hwo
  by_cases hin:i<tn
  ·have y0:(i:Int)<(tn:Int):=by omega
   have y1:(0:Int)≤(i:Int):=by omega
   have y2:IntKind.i64.wrap ((i:Int)+1)=(i:Int)+1:=IntWalk.i64_in _ (by have:=HM.out;omega)
   obtain ⟨gl,ol,hAl,hgl,l0,l1,l2,l3,l4⟩:=cmd_at (HRD.out.touch HY.out.t (fun _ _ f=>f)) HTL.out.symm i hin
   subst hAl
   have hwf:(T.getD i CmdP.zero).Wf:=HWO.out _ (tdgetD (by rw [HTL.out];exact hin))
   have hrun:=runS_succ T i (by rw [HTL.out];exact hin) (L,R)
   obtain ⟨⟨kd,sid,sq,kw,kn⟩,ho⟩:∃ o,o=T.getD i CmdP.zero:=⟨_,rfl⟩
   rw [← ho] at l0 l1 l2 l3 l4 hwf hrun
   simp only at l0 l1 l2 l3 l4
   obtain ⟨⟨Li,Ri⟩,hLR⟩:∃ y,y=runS (T.take i) (L,R):=⟨_,rfl⟩
   rw [← hLR] at hrun HY HLr HRr
   simp only [stepS] at hrun HY HLr HRr
   obtain ⟨Lj,hLj⟩:∃ y,y=doL ⟨kd,sid,sq,kw,kn⟩ Li Ri:=⟨_,rfl⟩
   obtain ⟨Rj,hRj⟩:∃ y,y=doR ⟨kd,sid,sq,kw,kn⟩ Li Ri:=⟨_,rfl⟩
   obtain ⟨⟨a0,a1,a2,a3⟩,haj⟩:∃ y,y=doA ⟨kd,sid,sq,kw,kn⟩ Li Ri:=⟨_,rfl⟩
   have hcall:=fun (wx:World) (t:Touch (fun _=>False) wo wx)=>rdo_any wx W.heap.size (HLr.out.quiet t) HY.out.st.dct.dict (HRr.out.quiet t) (by have h1:=HY.out.t.size;have h2:=t.size;omega) ⟨kd,sid,sq,kw,kn⟩ hwf
   have hcall2:=fun (wx:World) (t:StY W wx s d tb v' Li q' Ri)=>sdo_yf wx t ⟨kd,sid,sq,kw,kn⟩ hwf
   rw [← hLj,← hRj] at hrun hcall hcall2
   rw [← haj] at hcall hcall2
   simp only [ansV,SL.val,CmdP.val] at hcall hcall2
   have HC:=hide hcall
   have HC2:=hide hcall2
   have HRUN:=hide hrun
   have HIN:=hide hin
   obtain ⟨b0,b1,b2⟩:=HBr.out.facts
   clear ho hwf hrun hLR hLj hRj haj hcall hcall2 hin hin'
   go_wp2_with fail
   refine (HC.out _ ((Touch.refl _ _).alloc _)).mono ?_
   rintro e w1 ⟨⟨jA,jn,jc,jL⟩,A1,n1,c1,rfl,hl1,hr1,T1⟩
   have hT1:Touch (fun _=>False) wo w1:=((Touch.refl _ _).alloc _).then T1
   have HGC:=hide ((Blk.new wo 29 #[.int .i64 kd,.int .u64 sid,.int .u64 sq,.string kw,.int .i64 kn]).touch T1 (fun f=>f))
   have HL1:=hide hl1
   have HR1:=hide hr1
   have HT1:=hide hT1
   have HY1:=hide (HY.out.quiet hT1)
   have HBr1:=hide (HBr.out.touch hT1 (fun f=>f))
   have HSr1:=hide (HSr.out.touch hT1 (fun f=>f))
   obtain ⟨gc,hgc⟩:∃ y,y=wo.heap.size:=⟨_,rfl⟩
   rw [← hgc] at HGC ⊢
   clear hl1 hr1 T1 hT1 HC b0 b1 b2 l0 l1 l2 l3 l4 hgc
   obtain ⟨b0,b1,b2⟩:=HBr1.out.facts
   obtain ⟨g0,g1,g2⟩:=HGC.out.facts
   simp only [SL.val]
   go_upto_region 6 with fail
   obtain ⟨w2,hw2⟩:∃ y,y=(((w1.setCell ⟨rb,0,none⟩ (.slice jA jn jc)).setCell ⟨rb,1,none⟩ (.slice A1 n1 c1)).alloc (.cells #[.slice jA jn jc,.slice A1 n1 c1] 56)).alloc (.cells #[.int .i64 a1,.int .u64 a2,.int .i64 a3] 32):=⟨_,rfl⟩
   obtain ⟨ga,hga⟩:∃ y,y=w1.heap.size+1:=⟨_,rfl⟩
   have T2:Touch (fun g=>g=rb) w1 w2:=by rw [hw2];exact ((((Touch.refl (fun g=>g=rb) w1).setCell (p:=⟨rb,_,none⟩) (fun _=>rfl) _).setCell (p:=⟨rb,_,none⟩) (fun _=>rfl) _).alloc _).alloc _
   have hrbW:W.heap.size≤rb:=by have h1:=HBR.out;have h2:=HST0.out.t.size;omega
   have HY2:=hide (HY1.out.off T2 (fun g e=>⟨by omega,_,e ▸ blk_ty HBr1.out,off_rst⟩))
   have HL2:=hide (HL1.out.touch T2 (fun g hg e=>by omega) (fun g hg e=>hg.ne (blk_ty HBr1.out) (by decide) e))
   have HR2:=hide (HR1.out.touch T2 (fun g hg e=>hg.ne (blk_ty HBr1.out) (by decide) e))
   have HB2:Hid (Blk w2 rb 56 #[.slice jA jn jc,.slice A1 n1 c1]):=hide (by rw [hw2];exact ((two_cells _ _ _ _ HBr1.out).alloc _).alloc _)
   have HS2:Hid (Blk w2 rs 56 #[.slice none 0 0,.slice none 0 0]):=hide (HSr1.out.touch T2 (fun e=>HBR.out.2.2 e.symm))
   have HC4:Hid (Blk w2 gc 29 #[.int .i64 kd,.int .u64 sid,.int .u64 sq,.string kw,.int .i64 kn]):=hide (HGC.out.touch T2 (fun e=>(blk_ty HGC.out).ne (blk_ty HBr1.out) (by decide) e))
   have HA2:Hid (Blk w2 ga 32 #[.int .i64 a1,.int .u64 a2,.int .i64 a3]):=hide (by
    have h1:=Blk.new (((w1.setCell ⟨rb,0,none⟩ (.slice jA jn jc)).setCell ⟨rb,1,none⟩ (.slice A1 n1 c1)).alloc (.cells #[.slice jA jn jc,.slice A1 n1 c1] 56)) 32 #[.int .i64 a1,.int .u64 a2,.int .i64 a3]
    rw [hw2,hga]
    simpa using h1)
   have HT2:Hid (Touch (fun _=>False) w w2∨True):=hide (.inr trivial)
   have HTw:Hid (Touch (stF d tb v) w w2):=hide ((HTr.out.then (HT1.out.up _)).trans T2 (fun g hg e=>by have:=HBR.out;omega))
   have HKS:Hid (∀ wx,Touch (stF d tb v') w2 wx→wx.cell? ⟨gc,0,none⟩=some (.int .i64 kd)∧wx.cell? ⟨gc,1,none⟩=some (.int .u64 sid)∧wx.cell? ⟨gc,2,none⟩=some (.int .u64 sq)∧wx.cell? ⟨gc,3,none⟩=some (.string kw)∧wx.cell? ⟨gc,4,none⟩=some (.int .i64 kn)∧wx.cell? ⟨ga,0,none⟩=some (.int .i64 a1)∧wx.cell? ⟨ga,1,none⟩=some (.int .u64 a2)∧wx.cell? ⟨ga,2,none⟩=some (.int .i64 a3)∧Touch (stF d tb v') w2 wx):=hide (fun wx T=>by
    have e1:=HY2.out.st.keep T HC4.out off_cmd
    have e2:=HY2.out.st.keep T HA2.out off_ans
    exact ⟨(e1.cell 0).trans rfl,(e1.cell 1).trans rfl,(e1.cell 2).trans rfl,(e1.cell 3).trans rfl,(e1.cell 4).trans rfl,(e2.cell 0).trans rfl,(e2.cell 1).trans rfl,(e2.cell 2).trans rfl,T⟩)
   rw [← hw2,← hga]
   clear hw2 hga T2 hrbW b0 b1 b2 g0 g1 g2
   go_region_held3 (fun w'=>w'.cell? ⟨gc,0,none⟩=some (.int .i64 kd)∧w'.cell? ⟨gc,1,none⟩=some (.int .u64 sid)∧w'.cell? ⟨gc,2,none⟩=some (.int .u64 sq)∧w'.cell? ⟨gc,3,none⟩=some (.string kw)∧w'.cell? ⟨gc,4,none⟩=some (.int .i64 kn)∧w'.cell? ⟨ga,0,none⟩=some (.int .i64 a1)∧w'.cell? ⟨ga,1,none⟩=some (.int .u64 a2)∧w'.cell? ⟨ga,2,none⟩=some (.int .i64 a3)∧Touch (stF d tb v') w2 w')
    (first
      | exact HKS.out _ (Touch.refl _ _).drew
      | exact HKS.out _ HT3.out
      | (trace_state;fail))
    (first
      | (go_simp;refine (HC2.out _ (HY2.out.quiet (Touch.refl _ _).drew)).mono ?_;rintro e w3 ⟨rfl,⟨v3,q3,hy3,hf3⟩,T3⟩;have HF3:=hide hf3;have HT3:=hide ((Touch.refl (stF d tb v') w2).drew.then T3);have HY3:=hide hy3;clear hy3 hf3 T3;go_simp))
   go_wp2_with fail
   go_roundw
   ·refine ⟨i+1,jA,jn,jc,jL,A1,n1,c1,v3,q3,by simp,by have:=HIN.out;omega,hide ?_,?_,hide ?_,hide ?_,hide ?_,hide ?_,hide ?_⟩
    ·rw [HRUN.out];exact HY3.out
    ·exact hide (fresh_next HF.out HF3.out (by have h1:=HTw.out.size;simpa using h1))
    ·rw [HRUN.out];exact RfL.stF HY2.out HL2.out HT3.out
    ·rw [HRUN.out];exact RwL.stF HY2.out.st HR2.out HT3.out
    ·exact HY2.out.st.keep HT3.out HB2.out off_rst
    ·exact HY2.out.st.keep HT3.out HS2.out off_rst
    ·exact HTw.out.trans HT3.out (fun g hg e=>stF_back HF.out hg e)
   ·have:=HIN.out
    simp only [intOf]
    omega
  ·have y0:¬ (i:Int)<(tn:Int):=by omega
   have hie:T.take i=T:=List.take_of_length_le (by rw [HTL.out];omega)
   rw [hie] at HY HLr HRr
   obtain ⟨b0,b1,b2⟩:=HBr.out.facts
   obtain ⟨s0,s1,s2⟩:=HSr.out.facts
   clear hin hin' hie
   go_wp2_with fail
   refine bodyPost_ret (v:=.tuple #[.agg #[.slice sA' sn' sc',.slice A' n' c'],.bool true]) (results_ct rfl _ _ rs 56 _ _ _ rfl (two_cells _ _ _ _ HSr.out) Tryz.underlying56 rfl (by kernel_rfl) rfl) rfl ?_
   have T3:Touch (fun g=>g=rs) wo ((wo.setCell ⟨rs,0,none⟩ (.slice sA' sn' sc')).setCell ⟨rs,1,none⟩ (.slice A' n' c')):=((Touch.refl (fun g=>g=rs) wo).setCell (p:=⟨rs,_,none⟩) (fun _=>rfl) _).setCell (p:=⟨rs,_,none⟩) (fun _=>rfl) _
   have hrs:W.heap.size≤rs:=by have h1:=HBR.out;have h2:=HST0.out.t.size;omega
   refine ⟨⟨sA',sn',sc',sL'⟩,A',n',c',rfl,⟨v',⟨q',HY.out.off T3 (fun g e=>⟨by omega,_,e ▸ blk_ty HSr.out,off_rst⟩)⟩,HF.out⟩,HLr.out.touch T3 (fun g hg e=>by omega) (fun g hg e=>hg.ne (blk_ty HSr.out) (by decide) e),HRr.out.touch T3 (fun g hg e=>hg.ne (blk_ty HSr.out) (by decide) e),HTr.out.trans T3 (fun g hg e=>by have:=HBR.out;omega)⟩
def BegS (W:World) (T:List CmdP) (e:Ending) (w':World):Prop :=
 ∃ (s d tb:Nat) (sl:SL) (A:Option Addr) (n c:Nat) (v:Value) (q:Nat),e=.returned (.tuple #[ptrV s,.agg #[sl.val,.slice A n c],.bool true])∧StY W w' s d tb v (runS T ([],[])).1 q (runS T ([],[])).2∧RfL W.heap.size w' sl (runS T ([],[])).1∧RwL w' A n c (runS T ([],[])).2
theorem rwl_nil (w:World):RwL w none 0 0 []:=⟨World.ownsRow_nil _ _ _ _,rfl,by omega⟩
theorem rfl_nil (B0:Nat) (w:World):RfL B0 w ⟨none,0,0,[]⟩ []:=⟨⟨rfl,Reads.nil _ _ _,fun _=>⟨rfl,rfl⟩⟩,rfl,fun h=>absurd h (by simp)⟩
theorem begun_any {W:World} (w:World) (hL:Lst W) (hT0:Touch (fun _=>False) W w) (tA:Option Addr) (tn tc:Nat) (T:List CmdP) (hT:T.length=tn) (hR:Reads W 5 tA tn (cCells T)) (hWf:∀ o∈T,o.Wf) (hm:tn≤400) :
  Calls Tryz.prog 25 #[.slice tA tn tc] w (BegS W T):=by
 obtain ⟨wa,hwa⟩:∃ z,z=w.alloc (.cells #[.slice none 0 0,.slice none 0 0] 56):=⟨_,rfl⟩
 obtain ⟨rs,hrs⟩:∃ z,z=w.heap.size:=⟨_,rfl⟩
 have hTa:Touch (fun _=>False) w wa:=by rw [hwa];exact (Touch.refl _ _).alloc _
 have HSB:Hid (Blk wa rs 56 #[.slice none 0 0,.slice none 0 0]):=hide (by rw [hwa,hrs];exact Blk.new _ _ _)
 have HRS:Hid (W.heap.size≤rs):=hide (by rw [hrs];exact hT0.size)
 have HN:=hide (snew_y wa (Lst.touch hL (hT0.then hTa)))
 have HLW:=hide (And.intro hL (hT0.then hTa))
 have HG:=hide (fun (wx:World) {s d tb:Nat} {v:Value} {q:Nat} (h:StY W wx s d tb v [] q [])=>goes_any wx h ⟨none,0,0,[]⟩ (rfl_nil _ _) none 0 0 (rwl_nil _) tA tn tc T hT hR hWf hm)
 simp only [SL.val] at HG
 have HWA:=hide hwa
 have HRS0:=hide hrs
 clear hL hT0 hT hR hWf hm hwa hrs hTa
 go_enter Tryz.func25,Tryz.ntmps25
 go_upto_region 1 with fail
 rw [← HWA.out,← HRS0.out]
 go_wp2_with fail
 refine HN.out.mono ?_
 rintro e w1 ⟨s,d,tb,rfl,hy⟩
 have hyW:StY W w1 s d tb (.slice none 0 0) [] 0 []:=⟨hy.st,⟨Nat.le_trans HLW.out.2.size hy.y.1,Nat.le_trans HLW.out.2.size hy.y.2.1,fun g hg=>Nat.le_trans HLW.out.2.size (hy.y.2.2 g hg)⟩,HLW.out.2.then hy.t,HLW.out.1⟩
 have HSB1:=hide (HSB.out.touch hy.t (fun f=>f))
 have HG1:=hide (HG.out w1 hyW)
 have HY1:=hide hyW
 clear hy hyW HN HG
 go_wp2_with fail
 refine HG1.out.mono ?_
 rintro e w2 ⟨⟨jA,jn,jc,jL⟩,A1,n1,c1,rfl,⟨v1,⟨q1,hy1⟩,hf1⟩,hl1,hr1,T1⟩
 obtain ⟨⟨Lj,Rj⟩,hLR⟩:∃ y,y=runS T ([],[]):=⟨_,rfl⟩
 rw [← hLR] at hy1 hl1 hr1
 simp only at hy1 hl1 hr1
 have HLR:=hide hLR
 have HSB2:=hide (HY1.out.st.keep T1 HSB1.out off_rst)
 have HY2:=hide hy1
 have HL2:=hide hl1
 have HR2:=hide hr1
 simp only [SL.val]
 clear hy1 hf1 hl1 hr1 T1 HG1 hLR
 obtain ⟨r0,r1,r2⟩:=HSB2.out.facts
 go_upto_region 5 with fail
 obtain ⟨w3,hw3⟩:∃ y,y=w2.alloc (.cells #[.slice jA jn jc,.slice A1 n1 c1] 56):=⟨_,rfl⟩
 obtain ⟨g3,hg3⟩:∃ y,y=w2.heap.size:=⟨_,rfl⟩
 have T3:Touch (fun _=>False) w2 w3:=by rw [hw3];exact (Touch.refl _ _).alloc _
 have HB3:Hid (Blk w3 g3 56 #[.slice jA jn jc,.slice A1 n1 c1]):=hide (by rw [hw3,hg3];exact Blk.new _ _ _)
 have HSB3:=hide (HSB2.out.touch T3 (fun f=>f))
 have HY3:=hide (HY2.out.quiet T3)
 have HL3:=hide (HL2.out.quiet T3)
 have HR3:=hide (HR2.out.quiet T3)
 have hne:¬ g3=rs:=fun e=>by have:=HSB2.out.lt;omega
 rw [← hw3,← hg3]
 clear hw3 hg3 T3 r0 r1 r2
 obtain ⟨r0,r1,r2⟩:=HSB3.out.facts
 obtain ⟨b0,b1,b2⟩:=HB3.out.facts
 go_region
 go_wp2_with fail
 refine bodyPost_ret (v:=.tuple #[ptrV s,.agg #[.slice jA jn jc,.slice A1 n1 c1],.bool true]) (results_tct rfl _ _ rs 56 _ _ _ _ rfl rfl (two_cells _ _ _ _ HSB3.out).drew Tryz.underlying56 rfl (by kernel_rfl) rfl) rfl ?_
 have T4:Touch (fun g=>g=rs) w3 ((w3.setCell ⟨rs,0,none⟩ (.slice jA jn jc)).setCell ⟨rs,1,none⟩ (.slice A1 n1 c1)).drew:=(((Touch.refl (fun g=>g=rs) w3).setCell (p:=⟨rs,_,none⟩) (fun _=>rfl) _).setCell (p:=⟨rs,_,none⟩) (fun _=>rfl) _).drew
 have hrsW:=HRS.out
 unfold BegS
 rw [← HLR.out]
 exact ⟨s,d,tb,⟨jA,jn,jc,jL⟩,A1,n1,c1,v1,q1,rfl,HY3.out.off T4 (fun g e=>⟨by omega,_,e ▸ blk_ty HSB3.out,off_rst⟩),HL3.out.touch T4 (fun g hg e=>by omega) (fun g hg e=>hg.ne (blk_ty HSB3.out) (by decide) e),HR3.out.touch T4 (fun g hg e=>hg.ne (blk_ty HSB3.out) (by decide) e)⟩
end Go.Proofs.YthockgmbooefpaaGreatDoor
namespace Go.Proofs.YthockgmbooefpaaGreatDoor
open Go.RowKit Go.ChangeShapes Go.WideShapes Go.ChangeAt
theorem Tryz.own:ownKnob Tryz.prog.godebug=none:=by kernel_rfl
theorem Tryz.laidOut:laidOutB Tryz.prog=true:=by kernel_rfl
theorem ret_below {P:Program} {f:FuncId} {args:Array Value} {W:World} (h:Calls P f args W fun e W'=>e=.returned (.bool true)∧Touch (fun _=>False) W W'):Calls P f args W fun e W'=>e=.returned (.bool true)∧Below W.heap.size W W' :=
 h.mono (by rintro e W' ⟨rfl,T⟩;exact ⟨rfl,T.below (Nat.le_refl _) (fun _ _ f=>f)⟩)
end Go.Proofs.YthockgmbooefpaaGreatDoor
namespace Go.Proofs.YthockgmbooefpaaGreatDoor
theorem and2 {a b:Bool} (ha:a=true) (hb:b=true):(a && b)=true:=by rw [ha,hb];rfl
theorem g_main:Tryz.pinned.checked.prog.mainIs=some (true,"b77970bafad3625c7a6c41321677aa064966117ab5676fe04803710f66b42c4f".toList):=by kernel_rfl
theorem g_looks:true=Tryz.pinned.checked.prog.looks []:=by kernel_rfl
end Go.Proofs.YthockgmbooefpaaGreatDoor
namespace Go.Proofs.YthockgmbooefpaaGreatDoor
open Go.RowKit Go.ChangeShapes Go.WideShapes Go.ChangeAt
section
variable {H:Type} {enc:TypeId × Value→H} {P:Program} {w:World} {base:Nat} {spare:Nat→Bool} {held:Bool}
theorem field_bulk {t:TypeId} {fs:Array Field} {fuel:Nat} {cs:List Value} {x:DataW H × List MemPlace} (hs:P.underlying t=some (.struct fs)) (h:DataW.trod enc P w base spare held fuel t cs=some x)
  (i:Nat) (f:Field) (hf:fs[i]? = some f) (hk:P.underlying f.type=some .string) (hc:P.cellsOf f.type=1):∃ s:ByteArray,cs[f.offset]? = some (.string s)∧s.size≤Rows.uptoBulk x.1:=by
 obtain ⟨xs,n,_,hx,_,hlen,hg⟩:=DataW.trod_struct hs h
 have hi:i<fs.size:=(Array.getElem?_eq_some_iff.1 hf).1
 have hy:=hg i f hf
 rw [List.getElem?_eq_getElem (by omega:i<xs.length),hc] at hy
 obtain ⟨s,hn,hd,_⟩:=DataW.trod_string hk hy
 refine ⟨s,drop_take_one hn,?_⟩
 have hm:(xs[i]'(by omega)).1∈xs.map (·.1):=List.mem_map.2 ⟨_,List.getElem_mem _,rfl⟩
 have h1:=bulk_mem hm
 rw [hx]
 simp only [Rows.uptoBulk]
 rw [hd] at h1
 simp only [Rows.uptoBulk] at h1
 have e:s.data.toList.length=s.size:=Array.length_toList
 omega
theorem open_rowsB {R:Type} [Inhabited R] (cells:R→List Value) (bk:R→Nat) (size:Nat) (hcl:∀ r,(cells r).length=size) (h0:0<size) {t e:TypeId} {fuel:Nat} {cs:List Value} {x:DataW H × List MemPlace}
  (ht:P.underlying t=some (.slice e)) (hC:P.cellsOf e=size) (elem:∀ n cs (y:DataW H × List MemPlace),cs.length=size→DataW.trod enc P w base spare held n e cs=some y→∃ r,cs=cells r∧bk r≤Rows.uptoBulk y.1)
  (h:DataW.trod enc P w base spare held fuel t cs=some x) :
  ∃ A len cap,∃ l:List R,cs=[.slice A len cap]∧l.length=len∧len≤cap∧cap≤maxLen∧(A=none→len=0∧cap=0)∧Reads w size A len (l.flatMap cells)∧(∀ r∈l,bk r≤Rows.uptoBulk x.1)∧len≤Rows.uptoBulk x.1:=by
 rcases Go.Deep.open_slice ht h with ⟨hcs,hx⟩ | ⟨a,len,cap,m,n,D,Pl,hcs,hb,hl,hm,hmm,hx,hi⟩
 ·exact ⟨none,0,0,[],hcs,rfl,Nat.le_refl _,by simp [maxLen],fun _=>⟨rfl,rfl⟩,Reads.nil _ _ _,by simp,Nat.zero_le _⟩
 ·have hlm:len≤m:=by rw [hmm];split<;>omega
  have hel:∀ i,i<len→∃ r:R,bk r≤Rows.uptoBulk (D i)∧∀ j,j<size→w.cell? (a.add (i*size+j))=(cells r)[j]? := by
   intro i hil
   obtain ⟨cs',hc,hty⟩:=hi i (by omega)
   rw [hC] at hc
   obtain ⟨_,hlen,hat⟩:=World.cells?_some hc
   obtain ⟨r,hr,hw⟩:=elem _ cs' _ hlen hty
   refine ⟨r,hw,fun j hj=>?_⟩
   rw [← Go.Deep.add_add,hat j hj,hr]
  obtain ⟨f,hf⟩:=Go.Deep.choose_lt hel
  refine ⟨some a,len,cap,(List.range len).map f,hcs,by simp,hl,hm,(fun h=>by cases h),?_,?_,?_⟩
  ·refine ⟨by rw [flat_len cells size hcl];simp,fun hpos=>?_⟩
   have hc0:=(hf 0 hpos).2 0 h0
   have hsome:(cells (f 0))[0]? = some ((cells (f 0))[0]'(by rw [hcl];exact h0)):=List.getElem?_eq_getElem _
   rw [hsome] at hc0
   have hsp:=World.cell?_spot hc0
   obtain ⟨b,off,spot⟩:=a
   have hspot:spot=none:=by simpa [Addr.add] using hsp
   subst hspot
   have hlt:b<w.heap.size:=World.block_lt_of_cell? w _ (by simpa [Addr.add] using hc0)
   refine ⟨b,off,rfl,hlt,fun j u hu=>?_⟩
   have hjl:j<len*size:=by
    have:=(List.getElem?_eq_some_iff.1 hu).1
    rw [flat_len cells size hcl] at this
    simpa using this
   have hq:j / size<len:=Nat.div_lt_of_lt_mul (by rw [Nat.mul_comm];exact hjl)
   have hr:j % size<size:=Nat.mod_lt _ h0
   have e:j / size*size+j % size=j:=Nat.div_add_mod' j size
   have h1:=flat_at cells size hcl ((List.range len).map f) (j / size) (j % size) (by simpa using hq) hr
   rw [e,hu] at h1
   have h2:=(hf (j / size) hq).2 (j % size) hr
   rw [e,Addr.add_lit] at h2
   rw [h2,h1]
   simp
  ·intro r hr
   simp only [List.mem_map,List.mem_range] at hr
   obtain ⟨i,hi',rfl⟩:=hr
   have hmem:D i∈(List.range len).map D:=List.mem_map.2 ⟨i,List.mem_range.2 hi',rfl⟩
   have h1:=bulk_mem hmem
   have h2:=(hf i hi').1
   rw [hx]
   simp only [Rows.uptoBulk]
   omega
  ·have h1:=bulk_len ((List.range len).map D)
   rw [List.length_map,List.length_range] at h1
   rw [hx]
   simp only [Rows.uptoBulk]
   omega
end
section
variable {H:Type} {enc:TypeId × Value→H} {w:World} {base:Nat} {spare:Nat→Bool} {held:Bool}
instance:Inhabited CmdP:=⟨CmdP.zero⟩
theorem list5 {α:Type} {l:List α} (h:l.length=5):∃ a b c d e,l=[a,b,c,d,e]:=by
 match l,h with
 | [a,b,c,d,e],_=>exact ⟨a,b,c,d,e,rfl⟩
theorem cmd_elem (n:Nat) (cs:List Value) (y:DataW H × List MemPlace) (hl:cs.length=5) (h:DataW.trod enc Tryz.prog w base spare held n 29 cs=some y):∃ r:CmdP,cs=r.cells∧r.word.size≤Rows.uptoBulk y.1∧r.In:=by
 obtain ⟨b,hb,_⟩:=field_int (k:=.i64) Tryz.underlying29 h 0 _ rfl (by kernel_rfl) (by kernel_rfl)
 obtain ⟨s1,hs1,i1⟩:=field_int (k:=.u64) Tryz.underlying29 h 1 _ rfl (by kernel_rfl) (by kernel_rfl)
 obtain ⟨s2,hs2,i2⟩:=field_int (k:=.u64) Tryz.underlying29 h 2 _ rfl (by kernel_rfl) (by kernel_rfl)
 obtain ⟨s,hs,ws⟩:=field_bulk Tryz.underlying29 h 3 _ rfl (by kernel_rfl) (by kernel_rfl)
 obtain ⟨c,hc,_⟩:=field_int (k:=.i64) Tryz.underlying29 h 4 _ rfl (by kernel_rfl) (by kernel_rfl)
 obtain ⟨x0,x1,x2,x3,x4,rfl⟩:=list5 hl
 simp at hs hb hc hs1 hs2
 refine ⟨⟨b,s1,s2,s,c⟩,by rw [hs,hb,hc,hs1,hs2];rfl,ws,?_⟩
 unfold CmdP.In
 simp only
 have j1:=i1
 have j2:=i2
 simp [Lit.wf] at j1 j2
 have m1:IntKind.u64.min=0:=by decide
 have m2:IntKind.u64.max=18446744073709551615:=by decide
 omega
abbrev CmdI:={c:CmdP // c.In}
instance:Inhabited CmdI:=⟨⟨CmdP.zero,by unfold CmdP.In CmdP.zero;simp⟩⟩
theorem open_cmds {r:Reach} {b0:Nat} {v:Value} {d:DataW H} {p:List MemPlace} (hv:Value.okWide Tryz.prog w r b0 22 v) (h:DataW.Trod enc Tryz.prog w base spare held 22 v d p) :
  ∃ A len cap,∃ l:List CmdP,v=.slice A len cap∧l.length=len∧Reads w 5 A len (cCells l)∧len≤maxLen∧(∀ o∈l,o.word.size≤Rows.uptoBulk d)∧∀ o∈l,o.In:=by
 obtain ⟨a0,len,cap,rfl⟩:=okWide_slice Tryz.underlying22 hv
 obtain ⟨fuel,hf⟩:=h
 obtain ⟨A,len',cap',l,hcs,hl,hlc,hm,hn,hr,hw,_⟩:=open_rowsB (R:=CmdI) (fun o=>o.1.cells) (fun o=>o.1.word.size) 5 (fun _=>rfl) (by decide) Tryz.underlying22 (by kernel_rfl) (fun n cs y h1 h2=>by obtain ⟨r,e1,e2,e3⟩:=cmd_elem n cs y h1 h2;exact ⟨⟨r,e3⟩,e1,e2⟩) hf
 simp [Value.cells] at hcs
 obtain ⟨rfl,rfl,rfl⟩:=hcs
 refine ⟨_,_,_,l.map (·.1),rfl,by simpa using hl,?_,Nat.le_trans hlc hm,?_,?_⟩
 ·unfold cCells
  rw [List.flatMap_map]
  exact hr
 ·intro o ho
  obtain ⟨x,hx,rfl⟩:=List.mem_map.1 ho
  exact hw x hx
 ·intro o ho
  obtain ⟨x,hx,rfl⟩:=List.mem_map.1 ho
  exact x.2
end
end Go.Proofs.YthockgmbooefpaaGreatDoor
