/- What the law rests on, part 32. No condition but those that each theorem names. -/
import Derived.Test.YthockgmbooefpaaGreatDoorJ31
set_option linter.unusedSectionVars false
set_option linter.unusedSimpArgs false
set_option linter.unusedVariables false
namespace Go.Proofs.YthockgmbooefpaaGreatDoor
open Go.RowKit
theorem Touch.fp {w w':World} {d tb:Nat} {v:Value} (h:Touch (fp tb v) w w'):Touch (stF d tb v) w w':=h.mono (fun _ _ e=>.inr e)
theorem sdo_any (w:World) (hL:Lst w) {s d tb:Nat} {v:Value} {L:List PRow} {q:Nat} {R:List SRow} (h:StX w s d tb v L q R) (c:CmdP) (hc:c.Wf) :
  Calls Tryz.prog 10 #[ptrV s,c.val] w fun e w'=>e=.returned (ansV (doA c L R))∧(∃ v',(∃ q',StX w' s d tb v' (doL c L R) q' (doR c L R))∧Fresh w v v')∧Touch (stF d tb v) w w':=by
 obtain ⟨kd,sid,sq,kw,n⟩:=c
 unfold CmdP.Wf at hc
 by_cases h1:kd=1
 ·subst h1
  by_cases hn:R.length<4096
  ·refine (sdo_open w hL h sid sq n kw hc hn).mono ?_
   rintro e w' ⟨rfl,⟨v',hs,hf⟩,T⟩
   refine ⟨by simp [doA,hn],⟨v',⟨q,?_⟩,hf⟩,T.fp⟩
   simpa [doL,doR,goesB,hn] using hs
  ·refine (sdo_full w hL h sid sq n kw hc (by have:=h.few;omega)).mono ?_
   rintro e w' ⟨rfl,T⟩
   refine ⟨by simp [doA,hn],⟨v,⟨q,?_⟩,.inl rfl⟩,T.up _⟩
   simpa [doL,doR,goesB,hn] using h.quiet T
 ·by_cases h2:kd=2∨kd=3
  ·exact sdo_set w hL h sid sq n kw hc kd h2
  ·refine (sdo_other w hL h sid sq n kw hc kd h1 (by omega) (by omega)).mono ?_
   rintro e w' ⟨rfl,T⟩
   refine ⟨by simp [doA,h1,h2],⟨v,⟨q,?_⟩,.inl rfl⟩,T.up _⟩
   simpa [doL,doR,goesB,h1,h2] using h.quiet T
set_option maxRecDepth 100000 in
theorem words_st (w:World) (hL:Lst w) {s d tb:Nat} {v:Value} {L:List PRow} {q:Nat} {R:List SRow} (h:StX w s d tb v L q R) :
  Calls Tryz.prog 12 #[ptrV s] w fun e w'=>∃ A' c',e=.returned (.slice A' L.length c')∧POwn w' A' L.length c' L∧Touch (fun _=>False) w w':=by
 obtain ⟨s0,s1,s2⟩:=h.blk.facts
 have HC:=hide (pairs_any w hL h.dct)
 clear h hL
 go_enter Tryz.func12,Tryz.ntmps12
 go_wp2_with fail
 refine HC.out.mono ?_
 rintro e w1 ⟨A',c',rfl,hp,T⟩
 have HP:=hide hp
 have HT:=hide T
 clear hp T
 go_wp2_with fail
 go_ret
 exact ⟨A',c',rfl,HP.out,HT.out⟩
set_option maxRecDepth 100000 in
theorem sessions_st (w:World) {s d tb:Nat} {v:Value} {L:List PRow} {q:Nat} {R:List SRow} (h:StX w s d tb v L q R) :
  Calls Tryz.prog 77 #[ptrV s] w fun e w'=>∃ v',e=.returned v'∧w'.ownsRow 0 110 4 v' R.length (rowCells R)∧Touch (fun _=>False) w w'∧∀ g,v'.ownBlock=some g→w.heap.size≤g:=by
 obtain ⟨s0,s1,s2⟩:=h.blk.facts
 have HC:=hide (ses_rows w tb v R h.tab h.few)
 clear h
 go_enter Tryz.func77,Tryz.ntmps77
 go_wp2_with fail
 refine HC.out.mono ?_
 rintro e w1 ⟨v',rfl,hp⟩
 have HP:=hide hp
 clear hp
 go_wp2_with fail
 go_ret
 exact ⟨v',rfl,HP.out⟩
end Go.Proofs.YthockgmbooefpaaGreatDoor
namespace Go.Proofs.YthockgmbooefpaaGreatDoor
open Go.RowKit
structure RwL (w:World) (A:Option Addr) (n c:Nat) (R:List SRow):Prop where
 own:w.ownsRow 0 136 4 (.slice A n c) n (rowCells R)
 len:R.length=n
 few:n≤4096
theorem RwL.touch {w w':World} {A:Option Addr} {n c:Nat} {R:List SRow} {S:Nat→Prop} (h:RwL w A n c R) (T:Touch S w w') (hS:∀ g,TyAt w g 136 → ¬ S g):RwL w' A n c R :=
 ⟨own_touch h.own T (fun g hg=>hS g (own_ty h.own hg)),h.len,h.few⟩
theorem RwL.quiet {w w':World} {A:Option Addr} {n c:Nat} {R:List SRow} (h:RwL w A n c R) (T:Touch (fun _=>False) w w'):RwL w' A n c R:=h.touch T (fun _ _ f=>f)
theorem Tryz.infoRRow:(Tryz.prog.info? 136).map (fun i=>(i.zero,i.size,i.bytes))=some (some (.agg #[.int .u64 0,.int .i64 0,.int .u64 0,.int .i64 0]),4,32):=by kernel_rfl
theorem rw_at {w:World} {A:Option Addr} {n c:Nat} {R:List SRow} (h:RwL w A n c R) (k:Nat) (hk:k<n) :
  ∃ g,A=some ⟨g,0,none⟩∧g<w.heap.size∧n≤c∧w.cell? ⟨g,k*4,none⟩=some (.int .u64 (R.getD k SRow.zero).seq)∧w.cell? ⟨g,k*4+1,none⟩=some (.int .i64 (R.getD k SRow.zero).code) ∧
   w.cell? ⟨g,k*4+2,none⟩=some (.int .u64 (R.getD k SRow.zero).sess)∧w.cell? ⟨g,k*4+3,none⟩=some (.int .i64 (R.getD k SRow.zero).had):=by
 have hl:=h.len
 obtain ⟨g,cap,hv,hle,_,hg,hc,_⟩:=own_form h.own (by omega)
 injection hv with hA' _ hcc
 have hk':k<R.length:=by omega
 have e:R.getD k SRow.zero=R[k]:=by simp [List.getD,hk']
 rw [e]
 refine ⟨g,hA',hg,by omega,?_,?_,?_,?_⟩
 ·exact hc _ _ (by have:=rowCells_at R k hk' 0 (by omega);rw [show k*4=4*k+0 by omega,this];rfl)
 ·exact hc _ _ (by have:=rowCells_at R k hk' 1 (by omega);rw [show k*4+1=4*k+1 by omega,this];rfl)
 ·exact hc _ _ (by have:=rowCells_at R k hk' 2 (by omega);rw [show k*4+2=4*k+2 by omega,this];rfl)
 ·exact hc _ _ (by have:=rowCells_at R k hk' 3 (by omega);rw [show k*4+3=4*k+3 by omega,this];rfl)
theorem two_cells {w:World} {g:Nat} {ty:TypeId} (a b:Value) (x y:Value) (h:Blk w g ty #[x,y]):Blk ((w.setCell ⟨g,0,none⟩ a).setCell ⟨g,1,none⟩ b) g ty #[a,b]:=by
 have:=(h.set_ 0 a).set_ 1 b
 simpa using this
theorem results_cells {P:Program} {fn:Func} {p p':Tmp} {ty ty':TypeId} (h:fn.results=#[.cell p ty,.cell p' ty']) (tmps:Array Value) (w:World) (g g':Nat) (t t':TypeId) (cs cs':Array Value) (d d':TypeDesc)
  (hp:tmps.getD p undef=.pointer (some ⟨g,0,none⟩)) (hg:Blk w g t cs) (hu:P.underlying ty=some d) (hd:(match d with | .struct _ | .array _ _=>true | _=>false)=true) (hi:(P.info? ty).map (·.size)=some cs.size)
  (hp':tmps.getD p' undef=.pointer (some ⟨g',0,none⟩)) (hg':Blk w g' t' cs') (hu':P.underlying ty'=some d') (hd':(match d' with | .struct _ | .array _ _=>true | _=>false)=true) (hi':(P.info? ty').map (·.size)=some cs'.size) :
  (results fn tmps).run P w=.ok (.tuple #[.agg cs,.agg cs']) w:=by
 have hp1:tmps[p]?.getD undef=.pointer (some ⟨g,0,none⟩):=by simpa using hp
 have hp2:tmps[p']?.getD undef=.pointer (some ⟨g',0,none⟩):=by simpa using hp'
 simp [results,h,hp1,hp2,asAddr,Sem.run_bind,run_loadVar_row w g t ty cs (0,0) d hg hu hd hi,run_loadVar_row w g' t' ty' cs' (0,0) d' hg' hu' hd' hi',Result.andThen]
theorem far2 {w:World} {g k:Nat} {t:TypeId} {cs:Array Value} {a b:Value} (h:Blk w g t cs) (hk:g≠k):Blk ((w.setCell ⟨k,0,none⟩ a).setCell ⟨k,1,none⟩ b) g t cs:=(h.far hk a).far hk b
theorem far3 {w:World} {g k:Nat} {t:TypeId} {cs:Array Value} {a b c:Value} (h:Blk w g t cs) (hk:g≠k):Blk (((w.setCell ⟨k,0,none⟩ a).setCell ⟨k,1,none⟩ b).setCell ⟨k,2,none⟩ c) g t cs:=((h.far hk a).far hk b).far hk c
set_option maxRecDepth 100000 in
set_option maxHeartbeats 12000000 in
theorem rdo_ref (w:World) (B0:Nat) {tA:Option Addr} {tn tc:Nat} {tL L:List PRow} (hs:RfL B0 w ⟨tA,tn,tc,tL⟩ L) (hD:DictP L) {A:Option Addr} {n c:Nat} {R:List SRow} (hr:RwL w A n c R) (sid sq nn:Int) (kw:ByteArray) (hk:kw.size≤1099511627776) (kd code:Int) (h:((kd == 1)=false∧(kd != 2)=true∧(kd != 3)=true∧(kd == 2)=false∧(kd == 3)=false∧code=161)∨(kd=1∧(4096:Int)≤(n:Int)∧code=152)∨(kd=2∧sid<1∧code=150)∨(kd=3∧sid<1∧code=150)∨(kd=2∧1≤sid∧(n:Int)<sid∧code=150)∨(kd=3∧1≤sid∧(n:Int)<sid∧code=150)) :
  Calls Tryz.prog 62 #[.agg #[.slice tA tn tc,.slice A n c],.agg #[.int .i64 kd,.int .u64 sid,.int .u64 sq,.string kw,.int .i64 nn]] w fun e w'=>e=.returned (.tuple #[.agg #[.slice tA tn tc,.slice A n c],ansV ⟨0,code,0,0⟩])∧Touch (fun _=>False) w w':=by
 have HH:=hide h
 clear h
 obtain ⟨wa,hwa⟩:∃ z,z=(((w.alloc (.cells #[.slice tA tn tc,.slice A n c] 56)).alloc (.cells #[.int .i64 kd,.int .u64 sid,.int .u64 sq,.string kw,.int .i64 nn] 29)).alloc (.cells #[.slice none 0 0,.slice none 0 0] 56)).alloc (.cells #[.int .i64 0,.int .u64 0,.int .i64 0] 32):=⟨_,rfl⟩
 obtain ⟨ba,hba⟩:∃ z,z=w.heap.size:=⟨_,rfl⟩
 obtain ⟨bb,hbb⟩:∃ z,z=w.heap.size+1:=⟨_,rfl⟩
 obtain ⟨bs,hbs⟩:∃ z,z=w.heap.size+1+1:=⟨_,rfl⟩
 obtain ⟨ra,hra⟩:∃ z,z=w.heap.size+1+1+1:=⟨_,rfl⟩
 have hTa:Touch (fun _=>False) w wa:=by rw [hwa];exact ((((Touch.refl _ _).alloc _).alloc _).alloc _).alloc _
 have haB:Blk wa ba 56 #[.slice tA tn tc,.slice A n c]:=by rw [hwa,hba];exact (((Blk.new _ _ _).alloc _).alloc _).alloc _
 have hbB:Blk wa bb 29 #[.int .i64 kd,.int .u64 sid,.int .u64 sq,.string kw,.int .i64 nn]:=by
  have h1:=(((Blk.new (w.alloc (.cells #[.slice tA tn tc,.slice A n c] 56)) 29 #[.int .i64 kd,.int .u64 sid,.int .u64 sq,.string kw,.int .i64 nn]).alloc (.cells #[.slice none 0 0,.slice none 0 0] 56)).alloc (.cells #[.int .i64 0,.int .u64 0,.int .i64 0] 32))
  rw [hwa,hbb];simpa using h1
 have hsB:Blk wa bs 56 #[.slice none 0 0,.slice none 0 0]:=by
  have h1:=(Blk.new ((w.alloc (.cells #[.slice tA tn tc,.slice A n c] 56)).alloc (.cells #[.int .i64 kd,.int .u64 sid,.int .u64 sq,.string kw,.int .i64 nn] 29)) 56 #[.slice none 0 0,.slice none 0 0]).alloc (.cells #[.int .i64 0,.int .u64 0,.int .i64 0] 32)
  rw [hwa,hbs];simpa using h1
 have hrB:Blk wa ra 32 #[.int .i64 0,.int .u64 0,.int .i64 0]:=by
  have h1:=Blk.new (((w.alloc (.cells #[.slice tA tn tc,.slice A n c] 56)).alloc (.cells #[.int .i64 kd,.int .u64 sid,.int .u64 sq,.string kw,.int .i64 nn] 29)).alloc (.cells #[.slice none 0 0,.slice none 0 0] 56)) 32 #[.int .i64 0,.int .u64 0,.int .i64 0]
  rw [hwa,hra];simpa using h1
 have HLO:Hid (w.heap.size≤ba∧w.heap.size≤bb∧w.heap.size≤bs∧w.heap.size≤ra∧ba≠bs∧bb≠bs∧bs≠ra):=hide (by omega)
 have HTA:=hide hTa
 have HAB:=hide haB
 have HBB:=hide hbB
 have HSB:=hide hsB
 have HRB:=hide hrB
 have HWA:=hide hwa
 have H0:=hide hba
 have H1:=hide hbb
 have H2:=hide hbs
 have H3:=hide hra
 have HS:=hide (hs.quiet hTa)
 have HR:=hide (hr.quiet hTa)
 have HD:=hide hD
 have HN0:=hide hr.len
 have hn:=hr.few
 have hx1:¬ bs=ra:=by omega
 have hx2:¬ ra=bs:=by omega
 obtain ⟨a0,a1,a2⟩:=haB.facts
 obtain ⟨b0,b1,b2⟩:=hbB.facts
 obtain ⟨s0,s1,s2⟩:=hsB.facts
 obtain ⟨r0,r1,r2⟩:=hrB.facts
 clear hwa hba hbb hbs hra hTa haB hbB hsB hrB hs hr hD
 go_enter Tryz.func62,Tryz.ntmps62
 go_upto_region 1 with fail
 rw [← HWA.out,← H3.out,← H2.out,← H1.out,← H0.out]
 rcases HH.out with ⟨h1,h2,h3,h4,h5,hc⟩ | ⟨rfl,h1,hc⟩ | ⟨rfl,h1,hc⟩ | ⟨rfl,h1,hc⟩ | ⟨rfl,h1,h2,hc⟩ | ⟨rfl,h1,h2,hc⟩
 all_goals
  have HCD:=hide hc
  clear hc
  go_wp2_with fail
  try simp only [Exit.inBlock,Exit.then]
  refine bodyPost_ret (v:=.tuple #[.agg #[.slice tA tn tc,.slice A n c],ansV ⟨0,code,0,0⟩]) (results_cells rfl _ _ bs ra 56 32 _ _ _ _ rfl ?hsb Tryz.underlying56 rfl (by kernel_rfl) rfl ?hrb Tryz.underlying32 rfl (by kernel_rfl)) rfl ?_
  case hsb=>exact (far3 (two_cells _ _ _ _ HSB.out) HLO.out.2.2.2.2.2.2)
  case hrb=>rw [HCD.out];exact (ans_cells _ _ _ _ _ _ (far2 HRB.out HLO.out.2.2.2.2.2.2.symm))
  exact ⟨rfl,((((((HTA.out.setCell (p:=⟨bs,_,none⟩) (fun hx=>absurd hx (by have h9:=HLO.out;simp at hx;omega)) _).setCell (p:=⟨bs,_,none⟩) (fun hx=>absurd hx (by have h9:=HLO.out;simp at hx;omega)) _).setCell (p:=⟨ra,_,none⟩) (fun hx=>absurd hx (by have h9:=HLO.out;simp at hx;omega)) _).setCell (p:=⟨ra,_,none⟩) (fun hx=>absurd hx (by have h9:=HLO.out;simp at hx;omega)) _).setCell (p:=⟨ra,_,none⟩) (fun hx=>absurd hx (by have h9:=HLO.out;simp at hx;omega)) _))⟩
set_option maxRecDepth 100000 in
set_option maxHeartbeats 12000000 in
theorem rdo_old (w:World) (B0:Nat) {tA:Option Addr} {tn tc:Nat} {tL L:List PRow} (hs:RfL B0 w ⟨tA,tn,tc,tL⟩ L) (hD:DictP L) {A:Option Addr} {n c:Nat} {R:List SRow} (hr:RwL w A n c R) (sid sq nn:Int) (kw:ByteArray) (hk:kw.size≤1099511627776) (kd:Int) (hkd:kd=2∨kd=3) (k:Nat) (hsk:sid=(k:Int)+1) (hkn:k<n) (rs rc rr rh:Int) (hrow:R.getD k SRow.zero=⟨rs,rc,rr,rh⟩) (h:sq=0∨(¬ sq=0∧sq<rs)) :
  Calls Tryz.prog 62 #[.agg #[.slice tA tn tc,.slice A n c],.agg #[.int .i64 kd,.int .u64 sid,.int .u64 sq,.string kw,.int .i64 nn]] w fun e w'=>e=.returned (.tuple #[.agg #[.slice tA tn tc,.slice A n c],ansV ⟨0,151,0,0⟩])∧Touch (fun _=>False) w w':=by
 have HSK:=hide hsk
 have HROW:=hide hrow
 clear hsk hrow
 have HH:=hide h
 clear h
 obtain ⟨wa,hwa⟩:∃ z,z=(((w.alloc (.cells #[.slice tA tn tc,.slice A n c] 56)).alloc (.cells #[.int .i64 kd,.int .u64 sid,.int .u64 sq,.string kw,.int .i64 nn] 29)).alloc (.cells #[.slice none 0 0,.slice none 0 0] 56)).alloc (.cells #[.int .i64 0,.int .u64 0,.int .i64 0] 32):=⟨_,rfl⟩
 obtain ⟨ba,hba⟩:∃ z,z=w.heap.size:=⟨_,rfl⟩
 obtain ⟨bb,hbb⟩:∃ z,z=w.heap.size+1:=⟨_,rfl⟩
 obtain ⟨bs,hbs⟩:∃ z,z=w.heap.size+1+1:=⟨_,rfl⟩
 obtain ⟨ra,hra⟩:∃ z,z=w.heap.size+1+1+1:=⟨_,rfl⟩
 have hTa:Touch (fun _=>False) w wa:=by rw [hwa];exact ((((Touch.refl _ _).alloc _).alloc _).alloc _).alloc _
 have haB:Blk wa ba 56 #[.slice tA tn tc,.slice A n c]:=by rw [hwa,hba];exact (((Blk.new _ _ _).alloc _).alloc _).alloc _
 have hbB:Blk wa bb 29 #[.int .i64 kd,.int .u64 sid,.int .u64 sq,.string kw,.int .i64 nn]:=by
  have h1:=(((Blk.new (w.alloc (.cells #[.slice tA tn tc,.slice A n c] 56)) 29 #[.int .i64 kd,.int .u64 sid,.int .u64 sq,.string kw,.int .i64 nn]).alloc (.cells #[.slice none 0 0,.slice none 0 0] 56)).alloc (.cells #[.int .i64 0,.int .u64 0,.int .i64 0] 32))
  rw [hwa,hbb];simpa using h1
 have hsB:Blk wa bs 56 #[.slice none 0 0,.slice none 0 0]:=by
  have h1:=(Blk.new ((w.alloc (.cells #[.slice tA tn tc,.slice A n c] 56)).alloc (.cells #[.int .i64 kd,.int .u64 sid,.int .u64 sq,.string kw,.int .i64 nn] 29)) 56 #[.slice none 0 0,.slice none 0 0]).alloc (.cells #[.int .i64 0,.int .u64 0,.int .i64 0] 32)
  rw [hwa,hbs];simpa using h1
 have hrB:Blk wa ra 32 #[.int .i64 0,.int .u64 0,.int .i64 0]:=by
  have h1:=Blk.new (((w.alloc (.cells #[.slice tA tn tc,.slice A n c] 56)).alloc (.cells #[.int .i64 kd,.int .u64 sid,.int .u64 sq,.string kw,.int .i64 nn] 29)).alloc (.cells #[.slice none 0 0,.slice none 0 0] 56)) 32 #[.int .i64 0,.int .u64 0,.int .i64 0]
  rw [hwa,hra];simpa using h1
 have HLO:Hid (w.heap.size≤ba∧w.heap.size≤bb∧w.heap.size≤bs∧w.heap.size≤ra∧ba≠bs∧bb≠bs∧bs≠ra):=hide (by omega)
 have HTA:=hide hTa
 have HAB:=hide haB
 have HBB:=hide hbB
 have HSB:=hide hsB
 have HRB:=hide hrB
 have HWA:=hide hwa
 have H0:=hide hba
 have H1:=hide hbb
 have H2:=hide hbs
 have H3:=hide hra
 have HS:=hide (hs.quiet hTa)
 have HR:=hide (hr.quiet hTa)
 have HD:=hide hD
 have HN0:=hide hr.len
 have hn:=hr.few
 have hx1:¬ bs=ra:=by omega
 have hx2:¬ ra=bs:=by omega
 obtain ⟨a0,a1,a2⟩:=haB.facts
 obtain ⟨b0,b1,b2⟩:=hbB.facts
 obtain ⟨s0,s1,s2⟩:=hsB.facts
 obtain ⟨r0,r1,r2⟩:=hrB.facts
 clear hwa hba hbb hbs hra hTa haB hbB hsB hrB hs hr hD
 go_enter Tryz.func62,Tryz.ntmps62
 go_upto_region 1 with fail
 rw [← HWA.out,← H3.out,← H2.out,← H1.out,← H0.out]
 rcases hkd with rfl | rfl
 all_goals
  have hsk:=HSK.out
  subst hsk
  clear HSK
  obtain ⟨gR,rfl,hgR,hnc,c0,c1,c2,c3⟩:=rw_at HR.out k hkn
  rw [HROW.out] at c0 c1 c2 c3
  simp only at c0 c1 c2 c3
  rcases HH.out with rfl | ⟨h1,h2⟩
  all_goals
   go_wp2_with fail
   try simp only [Exit.inBlock,Exit.then]
   refine bodyPost_ret (v:=.tuple #[.agg #[.slice tA tn tc,.slice (some ⟨gR,0,none⟩) n c],ansV ⟨0,151,0,0⟩]) (results_cells rfl _ _ bs ra 56 32 _ _ _ _ rfl ?hsb Tryz.underlying56 rfl (by kernel_rfl) rfl ?hrb Tryz.underlying32 rfl (by kernel_rfl)) rfl ?_
   case hsb=>exact (far3 (two_cells _ _ _ _ HSB.out) HLO.out.2.2.2.2.2.2).alloc _
   case hrb=>exact (ans_cells _ _ _ _ _ _ (far2 HRB.out HLO.out.2.2.2.2.2.2.symm)).alloc _
   exact ⟨rfl,((((((HTA.out.setCell (p:=⟨bs,_,none⟩) (fun hx=>absurd hx (by have h9:=HLO.out;simp at hx;omega)) _).setCell (p:=⟨bs,_,none⟩) (fun hx=>absurd hx (by have h9:=HLO.out;simp at hx;omega)) _).setCell (p:=⟨ra,_,none⟩) (fun hx=>absurd hx (by have h9:=HLO.out;simp at hx;omega)) _).setCell (p:=⟨ra,_,none⟩) (fun hx=>absurd hx (by have h9:=HLO.out;simp at hx;omega)) _).setCell (p:=⟨ra,_,none⟩) (fun hx=>absurd hx (by have h9:=HLO.out;simp at hx;omega)) _)).alloc _⟩
end Go.Proofs.YthockgmbooefpaaGreatDoor
namespace Go.Proofs.YthockgmbooefpaaGreatDoor
open Go.RowKit
set_option maxRecDepth 100000 in
set_option maxHeartbeats 1000000 in
theorem rdo_again (w:World) (B0:Nat) {tA:Option Addr} {tn tc:Nat} {tL L:List PRow} (hs:RfL B0 w ⟨tA,tn,tc,tL⟩ L) (hD:DictP L) {A:Option Addr} {n c:Nat} {R:List SRow} (hr:RwL w A n c R) (sid sq nn:Int) (kw:ByteArray) (hk:kw.size≤1099511627776) (kd:Int) (hkd:kd=2∨kd=3) (k:Nat) (hsk:sid=(k:Int)+1) (hkn:k<n) (rc rr rh:Int) (hrow:R.getD k SRow.zero=⟨sq,rc,rr,rh⟩) (h1:¬ sq=0) :
  Calls Tryz.prog 62 #[.agg #[.slice tA tn tc,.slice A n c],.agg #[.int .i64 kd,.int .u64 sid,.int .u64 sq,.string kw,.int .i64 nn]] w fun e w'=>e=.returned (.tuple #[.agg #[.slice tA tn tc,.slice A n c],ansV ⟨0,rc,rr,rh⟩])∧Touch (fun _=>False) w w':=by
 have HSK:=hide hsk
 have HROW:=hide hrow
 clear hsk hrow
 obtain ⟨wa,hwa⟩:∃ z,z=(((w.alloc (.cells #[.slice tA tn tc,.slice A n c] 56)).alloc (.cells #[.int .i64 kd,.int .u64 sid,.int .u64 sq,.string kw,.int .i64 nn] 29)).alloc (.cells #[.slice none 0 0,.slice none 0 0] 56)).alloc (.cells #[.int .i64 0,.int .u64 0,.int .i64 0] 32):=⟨_,rfl⟩
 obtain ⟨ba,hba⟩:∃ z,z=w.heap.size:=⟨_,rfl⟩
 obtain ⟨bb,hbb⟩:∃ z,z=w.heap.size+1:=⟨_,rfl⟩
 obtain ⟨bs,hbs⟩:∃ z,z=w.heap.size+1+1:=⟨_,rfl⟩
 obtain ⟨ra,hra⟩:∃ z,z=w.heap.size+1+1+1:=⟨_,rfl⟩
 have hTa:Touch (fun _=>False) w wa:=by rw [hwa];exact ((((Touch.refl _ _).alloc _).alloc _).alloc _).alloc _
 have haB:Blk wa ba 56 #[.slice tA tn tc,.slice A n c]:=by rw [hwa,hba];exact (((Blk.new _ _ _).alloc _).alloc _).alloc _
 have hbB:Blk wa bb 29 #[.int .i64 kd,.int .u64 sid,.int .u64 sq,.string kw,.int .i64 nn]:=by
  have h1:=(((Blk.new (w.alloc (.cells #[.slice tA tn tc,.slice A n c] 56)) 29 #[.int .i64 kd,.int .u64 sid,.int .u64 sq,.string kw,.int .i64 nn]).alloc (.cells #[.slice none 0 0,.slice none 0 0] 56)).alloc (.cells #[.int .i64 0,.int .u64 0,.int .i64 0] 32))
  rw [hwa,hbb];simpa using h1
 have hsB:Blk wa bs 56 #[.slice none 0 0,.slice none 0 0]:=by
  have h1:=(Blk.new ((w.alloc (.cells #[.slice tA tn tc,.slice A n c] 56)).alloc (.cells #[.int .i64 kd,.int .u64 sid,.int .u64 sq,.string kw,.int .i64 nn] 29)) 56 #[.slice none 0 0,.slice none 0 0]).alloc (.cells #[.int .i64 0,.int .u64 0,.int .i64 0] 32)
  rw [hwa,hbs];simpa using h1
 have hrB:Blk wa ra 32 #[.int .i64 0,.int .u64 0,.int .i64 0]:=by
  have h1:=Blk.new (((w.alloc (.cells #[.slice tA tn tc,.slice A n c] 56)).alloc (.cells #[.int .i64 kd,.int .u64 sid,.int .u64 sq,.string kw,.int .i64 nn] 29)).alloc (.cells #[.slice none 0 0,.slice none 0 0] 56)) 32 #[.int .i64 0,.int .u64 0,.int .i64 0]
  rw [hwa,hra];simpa using h1
 have HLO:Hid (w.heap.size≤ba∧w.heap.size≤bb∧w.heap.size≤bs∧w.heap.size≤ra∧ba≠bs∧bb≠bs∧bs≠ra):=hide (by omega)
 have HTA:=hide hTa
 have HAB:=hide haB
 have HBB:=hide hbB
 have HSB:=hide hsB
 have HRB:=hide hrB
 have HWA:=hide hwa
 have H0:=hide hba
 have H1:=hide hbb
 have H2:=hide hbs
 have H3:=hide hra
 have HS:=hide (hs.quiet hTa)
 have HR:=hide (hr.quiet hTa)
 have HD:=hide hD
 have HN0:=hide hr.len
 have hn:=hr.few
 have hx1:¬ bs=ra:=by omega
 have hx2:¬ ra=bs:=by omega
 obtain ⟨a0,a1,a2⟩:=haB.facts
 obtain ⟨b0,b1,b2⟩:=hbB.facts
 obtain ⟨s0,s1,s2⟩:=hsB.facts
 obtain ⟨r0,r1,r2⟩:=hrB.facts
 clear hwa hba hbb hbs hra hTa haB hbB hsB hrB hs hr hD
 go_enter Tryz.func62,Tryz.ntmps62
 go_upto_region 1 with fail
 rw [← HWA.out,← H3.out,← H2.out,← H1.out,← H0.out]
 rcases hkd with rfl | rfl
 all_goals
  have hsk:=HSK.out
  subst hsk
  clear HSK
  obtain ⟨gR,rfl,hgR,hnc,c0,c1,c2,c3⟩:=rw_at HR.out k hkn
  rw [HROW.out] at c0 c1 c2 c3
  simp only at c0 c1 c2 c3
  go_upto_region 14 with fail
  go_region
  go_wp2_with fail
  try simp only [Exit.inBlock,Exit.then]
  refine bodyPost_ret (v:=.tuple #[.agg #[.slice tA tn tc,.slice (some ⟨gR,0,none⟩) n c],ansV ⟨0,rc,rr,rh⟩]) (results_cells rfl _ _ bs ra 56 32 _ _ _ _ rfl ?hsb Tryz.underlying56 rfl (by kernel_rfl) rfl ?hrb Tryz.underlying32 rfl (by kernel_rfl)) rfl ?_
  case hsb=>exact ((far3 (two_cells _ _ _ _ HSB.out) HLO.out.2.2.2.2.2.2).alloc _).drew
  case hrb=>exact ((ans_cells _ _ _ _ _ _ (far2 HRB.out HLO.out.2.2.2.2.2.2.symm)).alloc _).drew
  exact ⟨rfl,((((((HTA.out.setCell (p:=⟨bs,_,none⟩) (fun hx=>absurd hx (by have h9:=HLO.out;simp at hx;omega)) _).setCell (p:=⟨bs,_,none⟩) (fun hx=>absurd hx (by have h9:=HLO.out;simp at hx;omega)) _).setCell (p:=⟨ra,_,none⟩) (fun hx=>absurd hx (by have h9:=HLO.out;simp at hx;omega)) _).setCell (p:=⟨ra,_,none⟩) (fun hx=>absurd hx (by have h9:=HLO.out;simp at hx;omega)) _).setCell (p:=⟨ra,_,none⟩) (fun hx=>absurd hx (by have h9:=HLO.out;simp at hx;omega)) _).alloc _).drew⟩
end Go.Proofs.YthockgmbooefpaaGreatDoor
