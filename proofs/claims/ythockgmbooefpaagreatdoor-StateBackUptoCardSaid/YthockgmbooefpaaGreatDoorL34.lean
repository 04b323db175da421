/- What the law rests on, part 34. No condition but those that each theorem names. -/
import Derived.Test.YthockgmbooefpaaGreatDoorL32
import Derived.Deep.RegionHeld3
set_option linter.unusedSectionVars false
set_option linter.unusedSimpArgs false
set_option linter.unusedVariables false
set_option maxRecDepth 100000
set_option maxHeartbeats 12000000
namespace Go.Proofs.YthockgmbooefpaaGreatDoor
open Go.RowKit
structure RwL (w:World) (A:Option Addr) (n c:Nat) (R:List SRow):Prop where
 own:w.ownsRow 0 136 4 (.slice A n c) n (rowCells R)
 len:R.length=n
 few:n≤4096
theorem RwL.touch {w w':World} {A:Option Addr} {n c:Nat} {R:List SRow} {S:Nat→Prop} (h:RwL w A n c R) (T:Touch S w w') (hS:∀ g,TyAt w g 136 → ¬ S g):RwL w' A n c R :=
 ⟨own_touch h.own T (fun g hg=>hS g (own_ty h.own hg)),h.len,h.few⟩
theorem RwL.quiet {w w':World} {A:Option Addr} {n c:Nat} {R:List SRow} (h:RwL w A n c R) (T:Touch (fun _=>False) w w'):RwL w' A n c R:=h.touch T (fun _ _ f=>f)
theorem Tryz.infoRRow:(Tryz.prog.info? 136).map (fun i=>(i.zero,i.size,i.bytes))=some (some (.agg #[.int .u64 0,.int .i64 0,.int .u64 0,.int .i64 0]),4,32):=by kernel_rfl
theorem rw_at {w:World} {A:Option Addr} {n c:Nat} {R:List SRow} (h:RwL w A n c R) (k:Nat) (hk:k<n) :
  ∃ g,A=some ⟨g,0,none⟩∧g<w.heap.size∧n≤c∧w.cell? ⟨g,k*4,none⟩=some (.int .u64 (R.getD k SRow.zero).seq)∧w.cell? ⟨g,k*4+1,none⟩=some (.int .i64 (R.getD k SRow.zero).code) ∧
   w.cell? ⟨g,k*4+2,none⟩=some (.int .u64 (R.getD k SRow.zero).sess)∧w.cell? ⟨g,k*4+3,none⟩=some (.int .i64 (R.getD k SRow.zero).had):=by
 have hl:=h.len
 obtain ⟨g,cap,hv,hle,_,hg,hc,_⟩:=own_form h.own (by omega)
 injection hv with hA' _ hcc
 have hk':k<R.length:=by omega
 have e:R.getD k SRow.zero=R[k]:=by simp [List.getD,hk']
 rw [e]
 refine ⟨g,hA',hg,by omega,?_,?_,?_,?_⟩
 ·exact hc _ _ (by have:=rowCells_at R k hk' 0 (by omega);rw [show k*4=4*k+0 by omega,this];rfl)
 ·exact hc _ _ (by have:=rowCells_at R k hk' 1 (by omega);rw [show k*4+1=4*k+1 by omega,this];rfl)
 ·exact hc _ _ (by have:=rowCells_at R k hk' 2 (by omega);rw [show k*4+2=4*k+2 by omega,this];rfl)
 ·exact hc _ _ (by have:=rowCells_at R k hk' 3 (by omega);rw [show k*4+3=4*k+3 by omega,this];rfl)
theorem two_cells {w:World} {g:Nat} {ty:TypeId} (a b:Value) (x y:Value) (h:Blk w g ty #[x,y]):Blk ((w.setCell ⟨g,0,none⟩ a).setCell ⟨g,1,none⟩ b) g ty #[a,b]:=by
 have:=(h.set_ 0 a).set_ 1 b
 simpa using this
theorem results_cells {P:Program} {fn:Func} {p p':Tmp} {ty ty':TypeId} (h:fn.results=#[.cell p ty,.cell p' ty']) (tmps:Array Value) (w:World) (g g':Nat) (t t':TypeId) (cs cs':Array Value) (d d':TypeDesc)
  (hp:tmps.getD p undef=.pointer (some ⟨g,0,none⟩)) (hg:Blk w g t cs) (hu:P.underlying ty=some d) (hd:(match d with | .struct _ | .array _ _=>true | _=>false)=true) (hi:(P.info? ty).map (·.size)=some cs.size)
  (hp':tmps.getD p' undef=.pointer (some ⟨g',0,none⟩)) (hg':Blk w g' t' cs') (hu':P.underlying ty'=some d') (hd':(match d' with | .struct _ | .array _ _=>true | _=>false)=true) (hi':(P.info? ty').map (·.size)=some cs'.size) :
  (results fn tmps).run P w=.ok (.tuple #[.agg cs,.agg cs']) w:=by
 have hp1:tmps[p]?.getD undef=.pointer (some ⟨g,0,none⟩):=by simpa using hp
 have hp2:tmps[p']?.getD undef=.pointer (some ⟨g',0,none⟩):=by simpa using hp'
 simp [results,h,hp1,hp2,asAddr,Sem.run_bind,run_loadVar_row w g t ty cs (0,0) d hg hu hd hi,run_loadVar_row w g' t' ty' cs' (0,0) d' hg' hu' hd' hi',Result.andThen]
theorem far2 {w:World} {g k:Nat} {t:TypeId} {cs:Array Value} {a b:Value} (h:Blk w g t cs) (hk:g≠k):Blk ((w.setCell ⟨k,0,none⟩ a).setCell ⟨k,1,none⟩ b) g t cs:=(h.far hk a).far hk b
theorem far3 {w:World} {g k:Nat} {t:TypeId} {cs:Array Value} {a b c:Value} (h:Blk w g t cs) (hk:g≠k):Blk (((w.setCell ⟨k,0,none⟩ a).setCell ⟨k,1,none⟩ b).setCell ⟨k,2,none⟩ c) g t cs:=((h.far hk a).far hk b).far hk c
theorem rdo_ref (w:World) (B0:Nat) {tA:Option Addr} {tn tc:Nat} {tL L:List PRow} (hs:RfL B0 w ⟨tA,tn,tc,tL⟩ L) (hD:DictP L) {A:Option Addr} {n c:Nat} {R:List SRow} (hr:RwL w A n c R) (sid sq nn:Int) (kw:ByteArray) (hk:kw.size≤1099511627776) (kd code:Int) (h:((kd == 1)=false∧(kd != 2)=true∧(kd != 3)=true∧(kd == 2)=false∧(kd == 3)=false∧code=161)∨(kd=1∧(4096:Int)≤(n:Int)∧code=152)∨(kd=2∧sid<1∧code=150)∨(kd=3∧sid<1∧code=150)∨(kd=2∧1≤sid∧(n:Int)<sid∧code=150)∨(kd=3∧1≤sid∧(n:Int)<sid∧code=150)) :
  Calls Tryz.prog 62 #[.agg #[.slice tA tn tc,.slice A n c],.agg #[.int .i64 kd,.int .u64 sid,.int .u64 sq,.string kw,.int .i64 nn]] w fun e w'=>e=.returned (.tuple #[.agg #[.slice tA tn tc,.slice A n c],ansV ⟨0,code,0,0⟩])∧Touch (fun _=>False) w w':=by
 have HH:=hide h
 clear h
 obtain ⟨wa,hwa⟩:∃ z,z=(((w.alloc (.cells #[.slice tA tn tc,.slice A n c] 56)).alloc (.cells #[.int .i64 kd,.int .u64 sid,.int .u64 sq,.string kw,.int .i64 nn] 29)).alloc (.cells #[.slice none 0 0,.slice none 0 0] 56)).alloc (.cells #[.int .i64 0,.int .u64 0,.int .i64 0] 32):=⟨_,rfl⟩
 obtain ⟨ba,hba⟩:∃ z,z=w.heap.size:=⟨_,rfl⟩
 obtain ⟨bb,hbb⟩:∃ z,z=w.heap.size+1:=⟨_,rfl⟩
 obtain ⟨bs,hbs⟩:∃ z,z=w.heap.size+1+1:=⟨_,rfl⟩
 obtain ⟨ra,hra⟩:∃ z,z=w.heap.size+1+1+1:=⟨_,rfl⟩
 have hTa:Touch (fun _=>False) w wa:=by rw [hwa];exact ((((Touch.refl _ _).alloc _).alloc _).alloc _).alloc _
 have haB:Blk wa ba 56 #[.slice tA tn tc,.slice A n c]:=by rw [hwa,hba];exact (((Blk.new _ _ _).alloc _).alloc _).alloc _
 have hbB:Blk wa bb 29 #[.int .i64 kd,.int .u64 sid,.int .u64 sq,.string kw,.int .i64 nn]:=by
  have h1:=(((Blk.new (w.alloc (.cells #[.slice tA tn tc,.slice A n c] 56)) 29 #[.int .i64 kd,.int .u64 sid,.int .u64 sq,.string kw,.int .i64 nn]).alloc (.cells #[.slice none 0 0,.slice none 0 0] 56)).alloc (.cells #[.int .i64 0,.int .u64 0,.int .i64 0] 32))
  rw [hwa,hbb];simpa using h1
 have hsB:Blk wa bs 56 #[.slice none 0 0,.slice none 0 0]:=by
  have h1:=(Blk.new ((w.alloc (.cells #[.slice tA tn tc,.slice A n c] 56)).alloc (.cells #[.int .i64 kd,.int .u64 sid,.int .u64 sq,.string kw,.int .i64 nn] 29)) 56 #[.slice none 0 0,.slice none 0 0]).alloc (.cells #[.int .i64 0,.int .u64 0,.int .i64 0] 32)
  rw [hwa,hbs];simpa using h1
 have hrB:Blk wa ra 32 #[.int .i64 0,.int .u64 0,.int .i64 0]:=by
  have h1:=Blk.new (((w.alloc (.cells #[.slice tA tn tc,.slice A n c] 56)).alloc (.cells #[.int .i64 kd,.int .u64 sid,.int .u64 sq,.string kw,.int .i64 nn] 29)).alloc (.cells #[.slice none 0 0,.slice none 0 0] 56)) 32 #[.int .i64 0,.int .u64 0,.int .i64 0]
  rw [hwa,hra];simpa using h1
 have HLO:Hid (w.heap.size≤ba∧w.heap.size≤bb∧w.heap.size≤bs∧w.heap.size≤ra∧ba≠bs∧bb≠bs∧bs≠ra):=hide (by omega)
 have HTA:=hide hTa
 have HAB:=hide haB
 have HBB:=hide hbB
 have HSB:=hide hsB
 have HRB:=hide hrB
 have HWA:=hide hwa
 have H0:=hide hba
 have H1:=hide hbb
 have H2:=hide hbs
 have H3:=hide hra
 have HS:=hide (hs.quiet hTa)
 have HR:=hide (hr.quiet hTa)
 have HD:=hide hD
 have HN0:=hide hr.len
 have hn:=hr.few
 have hx1:¬ bs=ra:=by omega
 have hx2:¬ ra=bs:=by omega
 obtain ⟨a0,a1,a2⟩:=haB.facts
 obtain ⟨b0,b1,b2⟩:=hbB.facts
 obtain ⟨s0,s1,s2⟩:=hsB.facts
 obtain ⟨r0,r1,r2⟩:=hrB.facts
 clear hwa hba hbb hbs hra hTa haB hbB hsB hrB hs hr hD
 go_enter Tryz.func62,Tryz.ntmps62
 go_upto_region 1 with fail
 rw [← HWA.out,← H3.out,← H2.out,← H1.out,← H0.out]
 rcases HH.out with ⟨h1,h2,h3,h4,h5,hc⟩ | ⟨rfl,h1,hc⟩ | ⟨rfl,h1,hc⟩ | ⟨rfl,h1,hc⟩ | ⟨rfl,h1,h2,hc⟩ | ⟨rfl,h1,h2,hc⟩
 all_goals
  have HCD:=hide hc
  clear hc
  go_wp2_with fail
  try simp only [Exit.inBlock,Exit.then]
  refine bodyPost_ret (v:=.tuple #[.agg #[.slice tA tn tc,.slice A n c],ansV ⟨0,code,0,0⟩]) (results_cells rfl _ _ bs ra 56 32 _ _ _ _ rfl ?hsb Tryz.underlying56 rfl (by kernel_rfl) rfl ?hrb Tryz.underlying32 rfl (by kernel_rfl)) rfl ?_
  case hsb=>exact (far3 (two_cells _ _ _ _ HSB.out) HLO.out.2.2.2.2.2.2)
  case hrb=>rw [HCD.out];exact (ans_cells _ _ _ _ _ _ (far2 HRB.out HLO.out.2.2.2.2.2.2.symm))
  exact ⟨rfl,((((((HTA.out.setCell (p:=⟨bs,_,none⟩) (fun hx=>absurd hx (by have h9:=HLO.out;simp at hx;omega)) _).setCell (p:=⟨bs,_,none⟩) (fun hx=>absurd hx (by have h9:=HLO.out;simp at hx;omega)) _).setCell (p:=⟨ra,_,none⟩) (fun hx=>absurd hx (by have h9:=HLO.out;simp at hx;omega)) _).setCell (p:=⟨ra,_,none⟩) (fun hx=>absurd hx (by have h9:=HLO.out;simp at hx;omega)) _).setCell (p:=⟨ra,_,none⟩) (fun hx=>absurd hx (by have h9:=HLO.out;simp at hx;omega)) _))⟩
theorem rdo_old (w:World) (B0:Nat) {tA:Option Addr} {tn tc:Nat} {tL L:List PRow} (hs:RfL B0 w ⟨tA,tn,tc,tL⟩ L) (hD:DictP L) {A:Option Addr} {n c:Nat} {R:List SRow} (hr:RwL w A n c R) (sid sq nn:Int) (kw:ByteArray) (hk:kw.size≤1099511627776) (kd:Int) (hkd:kd=2∨kd=3) (k:Nat) (hsk:sid=(k:Int)+1) (hkn:k<n) (rs rc rr rh:Int) (hrow:R.getD k SRow.zero=⟨rs,rc,rr,rh⟩) (h:sq=0∨(¬ sq=0∧sq<rs)) :
  Calls Tryz.prog 62 #[.agg #[.slice tA tn tc,.slice A n c],.agg #[.int .i64 kd,.int .u64 sid,.int .u64 sq,.string kw,.int .i64 nn]] w fun e w'=>e=.returned (.tuple #[.agg #[.slice tA tn tc,.slice A n c],ansV ⟨0,151,0,0⟩])∧Touch (fun _=>False) w w':=by
 have HSK:=hide hsk
 have HROW:=hide hrow
 clear hsk hrow
 have HH:=hide h
 clear h
 obtain ⟨wa,hwa⟩:∃ z,z=(((w.alloc (.cells #[.slice tA tn tc,.slice A n c] 56)).alloc (.cells #[.int .i64 kd,.int .u64 sid,.int .u64 sq,.string kw,.int .i64 nn] 29)).alloc (.cells #[.slice none 0 0,.slice none 0 0] 56)).alloc (.cells #[.int .i64 0,.int .u64 0,.int .i64 0] 32):=⟨_,rfl⟩
 obtain ⟨ba,hba⟩:∃ z,z=w.heap.size:=⟨_,rfl⟩
 obtain ⟨bb,hbb⟩:∃ z,z=w.heap.size+1:=⟨_,rfl⟩
 obtain ⟨bs,hbs⟩:∃ z,z=w.heap.size+1+1:=⟨_,rfl⟩
 obtain ⟨ra,hra⟩:∃ z,z=w.heap.size+1+1+1:=⟨_,rfl⟩
 have hTa:Touch (fun _=>False) w wa:=by rw [hwa];exact ((((Touch.refl _ _).alloc _).alloc _).alloc _).alloc _
 have haB:Blk wa ba 56 #[.slice tA tn tc,.slice A n c]:=by rw [hwa,hba];exact (((Blk.new _ _ _).alloc _).alloc _).alloc _
 have hbB:Blk wa bb 29 #[.int .i64 kd,.int .u64 sid,.int .u64 sq,.string kw,.int .i64 nn]:=by
  have h1:=(((Blk.new (w.alloc (.cells #[.slice tA tn tc,.slice A n c] 56)) 29 #[.int .i64 kd,.int .u64 sid,.int .u64 sq,.string kw,.int .i64 nn]).alloc (.cells #[.slice none 0 0,.slice none 0 0] 56)).alloc (.cells #[.int .i64 0,.int .u64 0,.int .i64 0] 32))
  rw [hwa,hbb];simpa using h1
 have hsB:Blk wa bs 56 #[.slice none 0 0,.slice none 0 0]:=by
  have h1:=(Blk.new ((w.alloc (.cells #[.slice tA tn tc,.slice A n c] 56)).alloc (.cells #[.int .i64 kd,.int .u64 sid,.int .u64 sq,.string kw,.int .i64 nn] 29)) 56 #[.slice none 0 0,.slice none 0 0]).alloc (.cells #[.int .i64 0,.int .u64 0,.int .i64 0] 32)
  rw [hwa,hbs];simpa using h1
 have hrB:Blk wa ra 32 #[.int .i64 0,.int .u64 0,.int .i64 0]:=by
  have h1:=Blk.new (((w.alloc (.cells #[.slice tA tn tc,.slice A n c] 56)).alloc (.cells #[.int .i64 kd,.int .u64 sid,.int .u64 sq,.string kw,.int .i64 nn] 29)).alloc (.cells #[.slice none 0 0,.slice none 0 0] 56)) 32 #[.int .i64 0,.int .u64 0,.int .i64 0]
  rw [hwa,hra];simpa using h1
 have HLO:Hid (w.heap.size≤ba∧w.heap.size≤bb∧w.heap.size≤bs∧w.heap.size≤ra∧ba≠bs∧bb≠bs∧bs≠ra):=hide (by omega)
 have HTA:=hide hTa
 have HAB:=hide haB
 have HBB:=hide hbB
 have HSB:=hide hsB
 have HRB:=hide hrB
 have HWA:=hide hwa
 have H0:=hide hba
 have H1:=hide hbb
 have H2:=hide hbs
 have H3:=hide hra
 have HS:=hide (hs.quiet hTa)
 have HR:=hide (hr.quiet hTa)
 have HD:=hide hD
 have HN0:=hide hr.len
 have hn:=hr.few
 have hx1:¬ bs=ra:=by omega
 have hx2:¬ ra=bs:=by omega
 obtain ⟨a0,a1,a2⟩:=haB.facts
 obtain ⟨b0,b1,b2⟩:=hbB.facts
 obtain ⟨s0,s1,s2⟩:=hsB.facts
 obtain ⟨r0,r1,r2⟩:=hrB.facts
 clear hwa hba hbb hbs hra hTa haB hbB hsB hrB hs hr hD
 go_enter Tryz.func62,Tryz.ntmps62
 go_upto_region 1 with fail
 rw [← HWA.out,← H3.out,← H2.out,← H1.out,← H0.out]
 rcases hkd with rfl | rfl
 all_goals
  have hsk:=HSK.out
  subst hsk
  clear HSK
  obtain ⟨gR,rfl,hgR,hnc,c0,c1,c2,c3⟩:=rw_at HR.out k hkn
  rw [HROW.out] at c0 c1 c2 c3
  simp only at c0 c1 c2 c3
  rcases HH.out with rfl | ⟨h1,h2⟩
  all_goals
   go_wp2_with fail
   try simp only [Exit.inBlock,Exit.then]
   refine bodyPost_ret (v:=.tuple #[.agg #[.slice tA tn tc,.slice (some ⟨gR,0,none⟩) n c],ansV ⟨0,151,0,0⟩]) (results_cells rfl _ _ bs ra 56 32 _ _ _ _ rfl ?hsb Tryz.underlying56 rfl (by kernel_rfl) rfl ?hrb Tryz.underlying32 rfl (by kernel_rfl)) rfl ?_
   case hsb=>exact (far3 (two_cells _ _ _ _ HSB.out) HLO.out.2.2.2.2.2.2).alloc _
   case hrb=>exact (ans_cells _ _ _ _ _ _ (far2 HRB.out HLO.out.2.2.2.2.2.2.symm)).alloc _
   exact ⟨rfl,((((((HTA.out.setCell (p:=⟨bs,_,none⟩) (fun hx=>absurd hx (by have h9:=HLO.out;simp at hx;omega)) _).setCell (p:=⟨bs,_,none⟩) (fun hx=>absurd hx (by have h9:=HLO.out;simp at hx;omega)) _).setCell (p:=⟨ra,_,none⟩) (fun hx=>absurd hx (by have h9:=HLO.out;simp at hx;omega)) _).setCell (p:=⟨ra,_,none⟩) (fun hx=>absurd hx (by have h9:=HLO.out;simp at hx;omega)) _).setCell (p:=⟨ra,_,none⟩) (fun hx=>absurd hx (by have h9:=HLO.out;simp at hx;omega)) _)).alloc _⟩
end Go.Proofs.YthockgmbooefpaaGreatDoor
namespace Go.Proofs.YthockgmbooefpaaGreatDoor
open Go.RowKit
theorem rdo_again (w:World) (B0:Nat) {tA:Option Addr} {tn tc:Nat} {tL L:List PRow} (hs:RfL B0 w ⟨tA,tn,tc,tL⟩ L) (hD:DictP L) {A:Option Addr} {n c:Nat} {R:List SRow} (hr:RwL w A n c R) (sid sq nn:Int) (kw:ByteArray) (hk:kw.size≤1099511627776) (kd:Int) (hkd:kd=2∨kd=3) (k:Nat) (hsk:sid=(k:Int)+1) (hkn:k<n) (rc rr rh:Int) (hrow:R.getD k SRow.zero=⟨sq,rc,rr,rh⟩) (h1:¬ sq=0) :
  Calls Tryz.prog 62 #[.agg #[.slice tA tn tc,.slice A n c],.agg #[.int .i64 kd,.int .u64 sid,.int .u64 sq,.string kw,.int .i64 nn]] w fun e w'=>e=.returned (.tuple #[.agg #[.slice tA tn tc,.slice A n c],ansV ⟨0,rc,rr,rh⟩])∧Touch (fun _=>False) w w':=by
 have HSK:=hide hsk
 have HROW:=hide hrow
 clear hsk hrow
 obtain ⟨wa,hwa⟩:∃ z,z=(((w.alloc (.cells #[.slice tA tn tc,.slice A n c] 56)).alloc (.cells #[.int .i64 kd,.int .u64 sid,.int .u64 sq,.string kw,.int .i64 nn] 29)).alloc (.cells #[.slice none 0 0,.slice none 0 0] 56)).alloc (.cells #[.int .i64 0,.int .u64 0,.int .i64 0] 32):=⟨_,rfl⟩
 obtain ⟨ba,hba⟩:∃ z,z=w.heap.size:=⟨_,rfl⟩
 obtain ⟨bb,hbb⟩:∃ z,z=w.heap.size+1:=⟨_,rfl⟩
 obtain ⟨bs,hbs⟩:∃ z,z=w.heap.size+1+1:=⟨_,rfl⟩
 obtain ⟨ra,hra⟩:∃ z,z=w.heap.size+1+1+1:=⟨_,rfl⟩
 have hTa:Touch (fun _=>False) w wa:=by rw [hwa];exact ((((Touch.refl _ _).alloc _).alloc _).alloc _).alloc _
 have haB:Blk wa ba 56 #[.slice tA tn tc,.slice A n c]:=by rw [hwa,hba];exact (((Blk.new _ _ _).alloc _).alloc _).alloc _
 have hbB:Blk wa bb 29 #[.int .i64 kd,.int .u64 sid,.int .u64 sq,.string kw,.int .i64 nn]:=by
  have h1:=(((Blk.new (w.alloc (.cells #[.slice tA tn tc,.slice A n c] 56)) 29 #[.int .i64 kd,.int .u64 sid,.int .u64 sq,.string kw,.int .i64 nn]).alloc (.cells #[.slice none 0 0,.slice none 0 0] 56)).alloc (.cells #[.int .i64 0,.int .u64 0,.int .i64 0] 32))
  rw [hwa,hbb];simpa using h1
 have hsB:Blk wa bs 56 #[.slice none 0 0,.slice none 0 0]:=by
  have h1:=(Blk.new ((w.alloc (.cells #[.slice tA tn tc,.slice A n c] 56)).alloc (.cells #[.int .i64 kd,.int .u64 sid,.int .u64 sq,.string kw,.int .i64 nn] 29)) 56 #[.slice none 0 0,.slice none 0 0]).alloc (.cells #[.int .i64 0,.int .u64 0,.int .i64 0] 32)
  rw [hwa,hbs];simpa using h1
 have hrB:Blk wa ra 32 #[.int .i64 0,.int .u64 0,.int .i64 0]:=by
  have h1:=Blk.new (((w.alloc (.cells #[.slice tA tn tc,.slice A n c] 56)).alloc (.cells #[.int .i64 kd,.int .u64 sid,.int .u64 sq,.string kw,.int .i64 nn] 29)).alloc (.cells #[.slice none 0 0,.slice none 0 0] 56)) 32 #[.int .i64 0,.int .u64 0,.int .i64 0]
  rw [hwa,hra];simpa using h1
 have HLO:Hid (w.heap.size≤ba∧w.heap.size≤bb∧w.heap.size≤bs∧w.heap.size≤ra∧ba≠bs∧bb≠bs∧bs≠ra):=hide (by omega)
 have HTA:=hide hTa
 have HAB:=hide haB
 have HBB:=hide hbB
 have HSB:=hide hsB
 have HRB:=hide hrB
 have HWA:=hide hwa
 have H0:=hide hba
 have H1:=hide hbb
 have H2:=hide hbs
 have H3:=hide hra
 have HS:=hide (hs.quiet hTa)
 have HR:=hide (hr.quiet hTa)
 have HD:=hide hD
 have HN0:=hide hr.len
 have hn:=hr.few
 have hx1:¬ bs=ra:=by omega
 have hx2:¬ ra=bs:=by omega
 obtain ⟨a0,a1,a2⟩:=haB.facts
 obtain ⟨b0,b1,b2⟩:=hbB.facts
 obtain ⟨s0,s1,s2⟩:=hsB.facts
 obtain ⟨r0,r1,r2⟩:=hrB.facts
 clear hwa hba hbb hbs hra hTa haB hbB hsB hrB hs hr hD
 go_enter Tryz.func62,Tryz.ntmps62
 go_upto_region 1 with fail
 rw [← HWA.out,← H3.out,← H2.out,← H1.out,← H0.out]
 rcases hkd with rfl | rfl
 all_goals
  have hsk:=HSK.out
  subst hsk
  clear HSK
  obtain ⟨gR,rfl,hgR,hnc,c0,c1,c2,c3⟩:=rw_at HR.out k hkn
  rw [HROW.out] at c0 c1 c2 c3
  simp only at c0 c1 c2 c3
  go_upto_region 14 with fail
  go_region
  go_wp2_with fail
  try simp only [Exit.inBlock,Exit.then]
  refine bodyPost_ret (v:=.tuple #[.agg #[.slice tA tn tc,.slice (some ⟨gR,0,none⟩) n c],ansV ⟨0,rc,rr,rh⟩]) (results_cells rfl _ _ bs ra 56 32 _ _ _ _ rfl ?hsb Tryz.underlying56 rfl (by kernel_rfl) rfl ?hrb Tryz.underlying32 rfl (by kernel_rfl)) rfl ?_
  case hsb=>exact ((far3 (two_cells _ _ _ _ HSB.out) HLO.out.2.2.2.2.2.2).alloc _).drew
  case hrb=>exact ((ans_cells _ _ _ _ _ _ (far2 HRB.out HLO.out.2.2.2.2.2.2.symm)).alloc _).drew
  exact ⟨rfl,((((((HTA.out.setCell (p:=⟨bs,_,none⟩) (fun hx=>absurd hx (by have h9:=HLO.out;simp at hx;omega)) _).setCell (p:=⟨bs,_,none⟩) (fun hx=>absurd hx (by have h9:=HLO.out;simp at hx;omega)) _).setCell (p:=⟨ra,_,none⟩) (fun hx=>absurd hx (by have h9:=HLO.out;simp at hx;omega)) _).setCell (p:=⟨ra,_,none⟩) (fun hx=>absurd hx (by have h9:=HLO.out;simp at hx;omega)) _).setCell (p:=⟨ra,_,none⟩) (fun hx=>absurd hx (by have h9:=HLO.out;simp at hx;omega)) _).alloc _).drew⟩
end Go.Proofs.YthockgmbooefpaaGreatDoor
namespace Go.Proofs.YthockgmbooefpaaGreatDoor
open Go.RowKit
theorem wp_app_runU {P:Program} {o:Oper} {a:Act} {w:World} {K:Act→World→Prop} {Q:Exit→Act→World→Prop} (s x:Operand) (t:TypeId) (hop:o.op=Op.call { callee:=Callee.builtin Builtin.append,args:=#[s,x],argTypes:=#[t,t] })
  (v1 v2 v:Value) (w':World) (hs:a.eval s=v1) (hx:a.eval x=v2) (hrun:(Builtin.append_ #[t,t] o.type #[v1,v2]).run P w=.ok v w') (h:K (a.put o.dst v) w'):o.wp P a w K Q:=by
 unfold Oper.wp
 simp [execOp,hop,resolve,invoke,builtin,hs,hx,hrun,Result.andThen]
 exact h
theorem rdo_open (w:World) (B0:Nat) {tA:Option Addr} {tn tc:Nat} {tL L:List PRow} (hs:RfL B0 w ⟨tA,tn,tc,tL⟩ L) (hD:DictP L) {A:Option Addr} {n c:Nat} {R:List SRow} (hr:RwL w A n c R) (sid sq nn:Int) (kw:ByteArray) (hk:kw.size≤1099511627776) (hf:n<4096) :
  Calls Tryz.prog 62 #[.agg #[.slice tA tn tc,.slice A n c],.agg #[.int .i64 1,.int .u64 sid,.int .u64 sq,.string kw,.int .i64 nn]] w fun e w'=>∃ A' n' c',e=.returned (.tuple #[.agg #[.slice tA tn tc,.slice A' n' c'],ansV ⟨0,0,(n:Int)+1,0⟩])∧RwL w' A' n' c' (R++[SRow.zero])∧Touch (fun _=>False) w w':=by
 obtain ⟨wa,hwa⟩:∃ z,z=(((w.alloc (.cells #[.slice tA tn tc,.slice A n c] 56)).alloc (.cells #[.int .i64 1,.int .u64 sid,.int .u64 sq,.string kw,.int .i64 nn] 29)).alloc (.cells #[.slice none 0 0,.slice none 0 0] 56)).alloc (.cells #[.int .i64 0,.int .u64 0,.int .i64 0] 32):=⟨_,rfl⟩
 obtain ⟨ba,hba⟩:∃ z,z=w.heap.size:=⟨_,rfl⟩
 obtain ⟨bb,hbb⟩:∃ z,z=w.heap.size+1:=⟨_,rfl⟩
 obtain ⟨bs,hbs⟩:∃ z,z=w.heap.size+1+1:=⟨_,rfl⟩
 obtain ⟨ra,hra⟩:∃ z,z=w.heap.size+1+1+1:=⟨_,rfl⟩
 have hTa:Touch (fun _=>False) w wa:=by rw [hwa];exact ((((Touch.refl _ _).alloc _).alloc _).alloc _).alloc _
 have haB:Blk wa ba 56 #[.slice tA tn tc,.slice A n c]:=by rw [hwa,hba];exact (((Blk.new _ _ _).alloc _).alloc _).alloc _
 have hbB:Blk wa bb 29 #[.int .i64 1,.int .u64 sid,.int .u64 sq,.string kw,.int .i64 nn]:=by
  have h1:=(((Blk.new (w.alloc (.cells #[.slice tA tn tc,.slice A n c] 56)) 29 #[.int .i64 1,.int .u64 sid,.int .u64 sq,.string kw,.int .i64 nn]).alloc (.cells #[.slice none 0 0,.slice none 0 0] 56)).alloc (.cells #[.int .i64 0,.int .u64 0,.int .i64 0] 32))
  rw [hwa,hbb];simpa using h1
 have hsB:Blk wa bs 56 #[.slice none 0 0,.slice none 0 0]:=by
  have h1:=(Blk.new ((w.alloc (.cells #[.slice tA tn tc,.slice A n c] 56)).alloc (.cells #[.int .i64 1,.int .u64 sid,.int .u64 sq,.string kw,.int .i64 nn] 29)) 56 #[.slice none 0 0,.slice none 0 0]).alloc (.cells #[.int .i64 0,.int .u64 0,.int .i64 0] 32)
  rw [hwa,hbs];simpa using h1
 have hrB:Blk wa ra 32 #[.int .i64 0,.int .u64 0,.int .i64 0]:=by
  have h1:=Blk.new (((w.alloc (.cells #[.slice tA tn tc,.slice A n c] 56)).alloc (.cells #[.int .i64 1,.int .u64 sid,.int .u64 sq,.string kw,.int .i64 nn] 29)).alloc (.cells #[.slice none 0 0,.slice none 0 0] 56)) 32 #[.int .i64 0,.int .u64 0,.int .i64 0]
  rw [hwa,hra];simpa using h1
 have HLO:Hid (w.heap.size≤ba∧w.heap.size≤bb∧w.heap.size≤bs∧w.heap.size≤ra∧ba≠bs∧bb≠bs∧bs≠ra):=hide (by omega)
 have HTA:=hide hTa
 have HAB:=hide haB
 have HBB:=hide hbB
 have HSB:=hide hsB
 have HRB:=hide hrB
 have HWA:=hide hwa
 have H0:=hide hba
 have H1:=hide hbb
 have H2:=hide hbs
 have H3:=hide hra
 have HS:=hide (hs.quiet hTa)
 have HR:=hide (hr.quiet hTa)
 have HD:=hide hD
 have HN0:=hide hr.len
 have hn:=hr.few
 have hx1:¬ bs=ra:=by omega
 have hx2:¬ ra=bs:=by omega
 obtain ⟨a0,a1,a2⟩:=haB.facts
 obtain ⟨b0,b1,b2⟩:=hbB.facts
 obtain ⟨s0,s1,s2⟩:=hsB.facts
 obtain ⟨r0,r1,r2⟩:=hrB.facts
 clear hwa hba hbb hbs hra hTa haB hbB hsB hrB hs hr hD
 go_enter Tryz.func62,Tryz.ntmps62
 go_upto_region 1 with fail
 rw [← HWA.out,← H3.out,← H2.out,← H1.out,← H0.out]
 have hnf:(n:Int)<4096:=by omega
 have HNIL:=hide (own_nilOk HR.out.own)
 have HRD:=hide (Reads.of_own HR.out.own)
 obtain ⟨i0,hi,hz0,hz1,hz2⟩:=info_parts Tryz.infoRRow
 go_upto_region 4 with fail
 go_wp2_with (at_builtin;refine wpList_app _ rfl (.tmp 22) (.tmp 24) 54 rfl 136 i0 (.agg #[.int .u64 0,.int .i64 0,.int .u64 0,.int .i64 0]) 4 32 Tryz.underlying54 hi hz0 hz1 hz2 rfl (by decide) _ 0 [] rfl (World.ownsRow_made _ #[] 0 (Nat.zero_le _) (by decide) rfl) A n c (rowCells R) rfl (HRD.out.alloc _) ?c2 (srow_one R) ?c4 ?c5 ?_)
 case c2=>exact HNIL.out
 case c4=>unfold maxLen;omega
 case c5=>omega
 intro v1 w1 hown hgrow hfr _
 have T1:Touch (fun _=>False) wa w1:=((Touch.refl _ _).alloc _).grown hgrow (fun k hk hlt=>by simp [Value.ownBlock] at hk;omega)
 have ho1:w1.ownsRow 0 136 4 v1 n (rowCells R):=by simpa using hown
 have hfr1:∀ g,v1.ownBlock=some g→wa.heap.size≤g:=fun g hg=>by
  rcases hfr with h | ⟨g',h,hg'⟩
  ·rw [h] at hg;simp [Value.ownBlock] at hg;omega
  ·rw [h] at hg;simp at hg hg';omega
 obtain ⟨A1,c1,hv,_⟩:=own_len ho1
 subst hv
 have HO1:=hide ho1
 have HT1:=hide T1
 have HF1:=hide hfr1
 have HA1:=hide (HAB.out.touch T1 (fun f=>f))
 have HB1:=hide (HBB.out.touch T1 (fun f=>f))
 have HS1:=hide (HSB.out.touch T1 (fun f=>f))
 have HR1:=hide (HRB.out.touch T1 (fun f=>f))
 have HBD:Hid (n+1≤maxLen∧(n+1)*32≤140737488355328):=hide (by unfold maxLen;omega)
 clear hown hgrow hfr T1 ho1 hfr1 a0 a1 a2 b0 b1 b2 s0 s1 s2 r0 r1 r2
 obtain ⟨a0,a1,a2⟩:=HA1.out.facts
 obtain ⟨s0,s1,s2⟩:=HS1.out.facts
 obtain ⟨r0,r1,r2⟩:=HR1.out.facts
 have hx3:¬ ba=bs:=HLO.out.2.2.2.2.1
 have hx4:¬ bs=ba:=fun e=>hx3 e.symm
 have hx5:¬ ba=ra:=by have h0:=H0.out;have h3:=H3.out;omega
 have hx6:¬ ra=ba:=fun e=>hx5 e.symm
 go_upto_region 5 with fail
 have HKS:Hid (∀ wx,Touch (fun k=>(Value.slice A1 n c1).ownBlock=some k∨k=bs∨k=ra) w1 wx→wx.cell? ⟨ba,0,none⟩=some (.slice tA tn tc)∧wx.cell? ⟨ba,1,none⟩=some (.slice A n c)∧Touch (fun k=>(Value.slice A1 n c1).ownBlock=some k∨k=bs∨k=ra) w1 wx):=hide (fun wx T=>by
  have hb:=HA1.out.touch T (fun e=>by
   rcases e with e | e | e
   ·exact own_blk_ne HO1.out HA1.out (by decide) e
   ·exact hx3 e
   ·exact hx5 e)
  exact ⟨(hb.cell 0).trans rfl,(hb.cell 1).trans rfl,T⟩)
 have HOR:Hid (¬ (Value.slice A1 n c1).ownBlock=some ra):=hide (own_blk_ne HO1.out HR1.out (by decide))
 have HW1:Hid (wa.heap.size≤w1.heap.size):=hide HT1.out.size
 have u1:IntKind.i64.wrap ((n:Int)+1)=(n:Int)+1:=IntWalk.i64_in _ (by omega)
 have u2:IntKind.u64.wrap ((n:Int)+1)=(n:Int)+1:=IntWalk.u64_in _ (by omega)
 refine wp_region_held_drew (S:=fun wx=>wx.cell? ⟨ba,0,none⟩=some (.slice tA tn tc)∧wx.cell? ⟨ba,1,none⟩=some (.slice A n c)∧Touch (fun k=>(Value.slice A1 n c1).ownBlock=some k∨k=bs∨k=ra) w1 wx) (by kernel_rfl) (HKS.out _ (Touch.refl _ _).drew) (fun hHeld=>?_)
 refine wpAnyH_take (i:=0) (v:=?v0) rfl (by kernel_rfl) (by kernel_rfl) (by kernel_rfl) (fun _ _ _ h=>h) (Or.inl ⟨by kernel_rfl,?h0⟩) hHeld ?_
 case h0=>rintro wq ⟨s0,s1,s2⟩;go_simp;with_reducible rfl
 simp only [List.getElem_toArray,List.getElem_cons_succ,List.getElem_cons_zero,Act.put,List.setIfInBounds_toArray,List.set_cons_zero,List.set_cons_succ]
 refine wpAnyH_take (i:=1) (v:=?v1) rfl (by kernel_rfl) (by kernel_rfl) (by kernel_rfl) (fun _ _ _ h=>h) (Or.inl ⟨by kernel_rfl,?h1⟩) hHeld ?_
 case h1=>rintro wq ⟨s0,s1,s2⟩;go_simp;with_reducible rfl
 simp only [List.getElem_toArray,List.getElem_cons_succ,List.getElem_cons_zero,Act.put,List.setIfInBounds_toArray,List.set_cons_zero,List.set_cons_succ]
 refine wpAnyH_take (i:=2) (v:=?v2) rfl (by kernel_rfl) (by kernel_rfl) (by kernel_rfl) (fun _ _ _ h=>h) (Or.inl ⟨by kernel_rfl,?h2⟩) hHeld ?_
 case h2=>rintro wq ⟨s0,s1,s2⟩;go_simp;with_reducible rfl
 simp only [List.getElem_toArray,List.getElem_cons_succ,List.getElem_cons_zero,Act.put,List.setIfInBounds_toArray,List.set_cons_zero,List.set_cons_succ]
 refine wpAnyH_take (i:=3) (v:=?v3) rfl (by kernel_rfl) (by kernel_rfl) (by kernel_rfl) (fun _ _ _ h=>h) (Or.inl ⟨by kernel_rfl,?h3⟩) hHeld ?_
 case h3=>rintro wq ⟨s0,s1,s2⟩;go_simp;with_reducible rfl
 simp only [List.getElem_toArray,List.getElem_cons_succ,List.getElem_cons_zero,Act.put,List.setIfInBounds_toArray,List.set_cons_zero,List.set_cons_succ]
 refine wpAnyH_take (i:=7) (v:=?v7) rfl (by kernel_rfl) (by kernel_rfl) (by kernel_rfl) (fun _ _ _ h=>h) (Or.inl ⟨by kernel_rfl,?h7⟩) hHeld ?_
 case h7=>rintro wq ⟨s0,s1,s2⟩;go_simp;with_reducible rfl
 simp only [List.getElem_toArray,List.getElem_cons_succ,List.getElem_cons_zero,Act.put,List.setIfInBounds_toArray,List.set_cons_zero,List.set_cons_succ]
 refine wpAnyH_take (i:=8) (v:=?v8) rfl (by kernel_rfl) (by kernel_rfl) (by kernel_rfl) (fun _ _ _ h=>h) (Or.inl ⟨by kernel_rfl,?h8⟩) hHeld ?_
 case h8=>rintro wq ⟨s0,s1,s2⟩;go_simp;with_reducible rfl
 simp only [List.getElem_toArray,List.getElem_cons_succ,List.getElem_cons_zero,Act.put,List.setIfInBounds_toArray,List.set_cons_zero,List.set_cons_succ]
 refine wpAnyH_take (i:=9) (v:=?v9) rfl (by kernel_rfl) (by kernel_rfl) (by kernel_rfl) (fun _ _ _ h=>h) (Or.inl ⟨by kernel_rfl,?h9⟩) hHeld ?_
 case h9=>rintro wq ⟨s0,s1,s2⟩;go_simp;with_reducible rfl
 simp only [List.getElem_toArray,List.getElem_cons_succ,List.getElem_cons_zero,Act.put,List.setIfInBounds_toArray,List.set_cons_zero,List.set_cons_succ]
 refine wpAnyH_take (i:=10) (v:=?v10) rfl (by kernel_rfl) (by kernel_rfl) (by kernel_rfl) (fun _ _ _ h=>h) (Or.inl ⟨by kernel_rfl,?h10⟩) hHeld ?_
 case h10=>rintro wq ⟨s0,s1,s2⟩;go_simp;with_reducible rfl
 simp only [List.getElem_toArray,List.getElem_cons_succ,List.getElem_cons_zero,Act.put,List.setIfInBounds_toArray,List.set_cons_zero,List.set_cons_succ]
 refine wpAnyH_take (i:=11) (v:=?v11) rfl (by kernel_rfl) (by kernel_rfl) (by kernel_rfl) (fun _ _ _ h=>h) (Or.inl ⟨by kernel_rfl,?h11⟩) hHeld ?_
 case h11=>rintro wq ⟨s0,s1,s2⟩;go_simp;with_reducible rfl
 simp only [List.getElem_toArray,List.getElem_cons_succ,List.getElem_cons_zero,Act.put,List.setIfInBounds_toArray,List.set_cons_zero,List.set_cons_succ]
 refine wpAnyH_take (i:=12) (v:=?v12) rfl (by kernel_rfl) (by kernel_rfl) (by kernel_rfl) (fun _ _ _ h=>h) (Or.inl ⟨by kernel_rfl,?h12⟩) hHeld ?_
 case h12=>rintro wq ⟨s0,s1,s2⟩;go_simp;with_reducible rfl
 simp only [List.getElem_toArray,List.getElem_cons_succ,List.getElem_cons_zero,Act.put,List.setIfInBounds_toArray,List.set_cons_zero,List.set_cons_succ]
 refine wpAnyH_ready (rs:=[4]) (by kernel_rfl) (by simp) ?_
 refine AllReadyH.cons rfl (fun K hK=>?_) AllReadyH.nil
 go_simp
 go_simp
 refine hK.out _ _ (HKS.out _ ((Touch.refl _ _).drew.alloc _)) (fun hHeld=>?_)
 clear hK K
 try simp only [List.getElem_toArray,List.getElem_cons_succ,List.getElem_cons_zero,Act.put,List.setIfInBounds_toArray,List.set_cons_zero,List.set_cons_succ]
 have hTq:Touch (fun _=>False) w1 (w1.drew.alloc (.cells #[.int .u64 0,.int .i64 0,.int .u64 0,.int .i64 0] 136)):=(Touch.refl _ _).drew.alloc _
 obtain ⟨v2,w2,hr2,hO2,hG2,hF2,_⟩:=run_app (P:=Tryz.prog) (w1.drew.alloc (.cells #[.int .u64 0,.int .i64 0,.int .u64 0,.int .i64 0] 136)) 54 54 136 i0 _ 4 32 Tryz.underlying54 hi hz0 hz1 hz2 rfl (by decide) (.slice A1 n c1) n (rowCells R) (own_touch HO1.out hTq (fun _ _ f=>f)) (some ⟨w1.heap.size,0,none⟩) 1 1 [.int .u64 0,.int .i64 0,.int .u64 0,.int .i64 0] (Reads.new w1.drew 136 [.int .u64 0,.int .i64 0,.int .u64 0,.int .i64 0] 1 rfl) (fun h=>by cases h) (List.all_eq_true.1 rfl) HBD.out.1 HBD.out.2
 obtain ⟨A2,c2,hv2,_,_⟩:=own_len hO2
 subst hv2
 have hT2:Touch (fun k=>(Value.slice A1 n c1).ownBlock=some k) w1 w2:=(hTq.up _).grown hG2 (fun k hk _=>hk)
 have HR2:=hide hr2
 have HO2:=hide hO2
 have HT2:Hid (Touch (fun k=>(Value.slice A1 n c1).ownBlock=some k∨k=bs∨k=ra) w1 w2):=hide (hT2.mono (fun _ _ e=>.inl e))
 have HTF:Hid (Touch (fun _=>False) wa w2):=hide (HT1.out.trans hT2 (fun i hi e=>absurd hi (by have:=HF1.out i e;omega)))
 have HS2:=hide (HS1.out.touch hT2 (own_blk_ne HO1.out HS1.out (by decide)))
 have HRR2:=hide (HR1.out.touch hT2 HOR.out)
 clear hr2 hO2 hG2 hF2 hT2 hTq s0 s1 s2 r0 r1 r2
 obtain ⟨s0,s1,s2⟩:=HS2.out.facts
 obtain ⟨r0,r1,r2⟩:=HRR2.out.facts
 refine wpAnyH_ready (rs:=[5]) (by kernel_rfl) (by simp) ?_
 refine AllReadyH.cons rfl (fun K hK=>?_) AllReadyH.nil
 refine wp_app_runU (.tmp 28) (.tmp 30) 54 rfl (.slice A1 n c1) (.slice (some ⟨w1.heap.size,0,none⟩) 1 1) _ w2 (by first | (simp [Act.eval];done) | (go_simp;done) | (trace_state;fail)) (by first | (simp [Act.eval];done) | (go_simp;done) | (trace_state;fail)) HR2.out ?_
 refine hK.out _ _ (HKS.out _ HT2.out) (fun hHeld=>?_)
 clear hK K
 try simp only [List.getElem_toArray,List.getElem_cons_succ,List.getElem_cons_zero,Act.put,List.setIfInBounds_toArray,List.set_cons_zero,List.set_cons_succ]
 refine wpAnyH_take (i:=6) (v:=?v6) rfl (by kernel_rfl) (by kernel_rfl) (by kernel_rfl) (fun _ _ _ h=>h) (Or.inl ⟨by kernel_rfl,?h6⟩) hHeld ?_
 case h6=>rintro wq ⟨s0,s1,s2⟩;go_simp;with_reducible rfl
 simp only [List.getElem_toArray,List.getElem_cons_succ,List.getElem_cons_zero,Act.put,List.setIfInBounds_toArray,List.set_cons_zero,List.set_cons_succ]
 refine wpAnyH_ready (rs:=[13]) (by kernel_rfl) (by simp) ?_
 refine AllReadyH.cons rfl (fun K hK=>?_) AllReadyH.nil
 go_simp
 go_simp
 refine hK.out _ _ (HKS.out _ ((HT2.out.setCell (p:=⟨bs,_,none⟩) (fun _=>.inr (.inl rfl)) _).setCell (p:=⟨bs,_,none⟩) (fun _=>.inr (.inl rfl)) _)) (fun hHeld=>?_)
 clear hK K
 try simp only [List.getElem_toArray,List.getElem_cons_succ,List.getElem_cons_zero,Act.put,List.setIfInBounds_toArray,List.set_cons_zero,List.set_cons_succ]
 refine wpAnyH_ready (rs:=[14]) (by kernel_rfl) (by simp) ?_
 refine AllReadyH.cons rfl (fun K hK=>?_) AllReadyH.nil
 go_simp
 go_simp
 refine hK.out _ _ (HKS.out _ (((((HT2.out.setCell (p:=⟨bs,_,none⟩) (fun _=>.inr (.inl rfl)) _).setCell (p:=⟨bs,_,none⟩) (fun _=>.inr (.inl rfl)) _).setCell (p:=⟨ra,_,none⟩) (fun _=>.inr (.inr rfl)) _).setCell (p:=⟨ra,_,none⟩) (fun _=>.inr (.inr rfl)) _).setCell (p:=⟨ra,_,none⟩) (fun _=>.inr (.inr rfl)) _)) (fun hHeld=>?_)
 clear hK K
 try simp only [List.getElem_toArray,List.getElem_cons_succ,List.getElem_cons_zero,Act.put,List.setIfInBounds_toArray,List.set_cons_zero,List.set_cons_succ]
 refine wpAnyH_done (by kernel_rfl) ?_ _
 go_wp2_with fail
 try simp only [Exit.inBlock,Exit.then]
 refine bodyPost_ret (v:=.tuple #[.agg #[.slice tA tn tc,.slice A2 (n+1) c2],ansV ⟨0,0,(n:Int)+1,0⟩]) (results_cells rfl _ _ bs ra 56 32 _ _ _ _ rfl ?hsb Tryz.underlying56 rfl (by kernel_rfl) rfl ?hrb Tryz.underlying32 rfl (by kernel_rfl)) rfl ?_
 case hsb=>first | exact (far3 (two_cells _ _ _ _ HS2.out) HLO.out.2.2.2.2.2.2) | exact (far3 (two_cells _ _ _ _ HS2.out) HLO.out.2.2.2.2.2.2).drew
 case hrb=>first | exact (ans_cells _ _ _ _ _ _ (far2 HRR2.out HLO.out.2.2.2.2.2.2.symm)) | exact (ans_cells _ _ _ _ _ _ (far2 HRR2.out HLO.out.2.2.2.2.2.2.symm)).drew
 have TF:Touch (fun g=>g=bs∨g=ra) w2 (((((w2.setCell ⟨bs,0,none⟩ (.slice tA tn tc)).setCell ⟨bs,1,none⟩ (.slice A2 (n+1) c2)).setCell ⟨ra,0,none⟩ (.int .i64 0)).setCell ⟨ra,1,none⟩ (.int .u64 ((n:Int)+1))).setCell ⟨ra,2,none⟩ (.int .i64 0)):=(((((Touch.refl (fun g=>g=bs∨g=ra) w2).setCell (p:=⟨bs,_,none⟩) (fun _=>.inl rfl) _).setCell (p:=⟨bs,_,none⟩) (fun _=>.inl rfl) _).setCell (p:=⟨ra,_,none⟩) (fun _=>.inr rfl) _).setCell (p:=⟨ra,_,none⟩) (fun _=>.inr rfl) _).setCell (p:=⟨ra,_,none⟩) (fun _=>.inr rfl) _
 have hl9:=HLO.out
 have hO3:w2.ownsRow 0 136 4 (.slice A2 (n+1) c2) (n+1) (rowCells (R++[SRow.zero])):=by rw [rowCells_snoc];exact HO2.out
 refine ⟨A2,n+1,c2,rfl,⟨own_touch hO3 TF (fun g hg e=>?_),by rw [List.length_append,HN0.out];rfl,by omega⟩,(HTA.out.then HTF.out).trans TF (fun i hi e=>?_)⟩
 ·rcases e with rfl | rfl
  ·exact own_blk_ne hO3 HS2.out (by decide) hg
  ·exact own_blk_ne hO3 HRR2.out (by decide) hg
 ·rcases e with rfl | rfl<;>omega
end Go.Proofs.YthockgmbooefpaaGreatDoor
