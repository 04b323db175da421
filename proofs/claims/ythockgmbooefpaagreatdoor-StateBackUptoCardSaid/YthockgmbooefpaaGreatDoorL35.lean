/- What the law rests on, part 35. No condition but those that each theorem names. -/
import Derived.Test.YthockgmbooefpaaGreatDoorL34
import Derived.Deep.RegionHeld3
set_option linter.unusedSectionVars false
set_option linter.unusedSimpArgs false
set_option linter.unusedVariables false
set_option maxRecDepth 100000
set_option maxHeartbeats 12000000
namespace Go.Proofs.YthockgmbooefpaaGreatDoor
open Go.RowKit
theorem rdo_new3 (w:World) (B0:Nat) {tA:Option Addr} {tn tc:Nat} {tL L:List PRow} (hs:RfL B0 w ⟨tA,tn,tc,tL⟩ L) (hD:DictP L) {A:Option Addr} {n c:Nat} {R:List SRow} (hr:RwL w A n c R) (sid sq nn:Int) (kw:ByteArray) (hk:kw.size≤1099511627776) (hB0:B0≤w.heap.size) (k:Nat) (hsk:sid=(k:Int)+1) (hkn:k<n) (rs rc rr rh:Int) (hrow:R.getD k SRow.zero=⟨rs,rc,rr,rh⟩) (h1:¬ sq=0) (h2:¬ sq<rs) (h3:¬ sq=rs) :
  Calls Tryz.prog 62 #[.agg #[.slice tA tn tc,.slice A n c],.agg #[.int .i64 3,.int .u64 sid,.int .u64 sq,.string kw,.int .i64 nn]] w fun e w'=>∃ (s':SL) (A':Option Addr) (n' c':Nat),e=.returned (.tuple #[.agg #[s'.val,.slice A' n' c'],ansV ⟨0,(remE L kw.toList),0,(remH L kw)⟩])∧RfL B0 w' s' (remL L kw)∧RwL w' A' n' c' (R.set k ⟨sq,(remE L kw.toList),0,(remH L kw)⟩)∧Touch (fun _=>False) w w':=by
 have HSK:=hide hsk
 have HROW:=hide hrow
 clear hsk hrow
 have HB0':=hide hB0
 clear hB0
 have HRM:=hide (fun (wx:World) (hr:RfL B0 wx ⟨tA,tn,tc,tL⟩ L)=>rremove_any wx B0 ⟨tA,tn,tc,tL⟩ hr hD kw hk)
 simp only [SL.val] at HRM
 obtain ⟨hh,hhh⟩:∃ x,x=remH L kw:=⟨_,rfl⟩
 obtain ⟨ee,hee⟩:∃ x,x=remE L kw.toList:=⟨_,rfl⟩
 obtain ⟨L2,hL2⟩:∃ x,x=remL L kw:=⟨_,rfl⟩
 simp only [← hhh,← hee,← hL2] at HRM
 rw [← hhh,← hee,← hL2]
 clear hhh hee hL2
 obtain ⟨wa,hwa⟩:∃ z,z=(((w.alloc (.cells #[.slice tA tn tc,.slice A n c] 56)).alloc (.cells #[.int .i64 3,.int .u64 sid,.int .u64 sq,.string kw,.int .i64 nn] 29)).alloc (.cells #[.slice none 0 0,.slice none 0 0] 56)).alloc (.cells #[.int .i64 0,.int .u64 0,.int .i64 0] 32):=⟨_,rfl⟩
 obtain ⟨ba,hba⟩:∃ z,z=w.heap.size:=⟨_,rfl⟩
 obtain ⟨bb,hbb⟩:∃ z,z=w.heap.size+1:=⟨_,rfl⟩
 obtain ⟨bs,hbs⟩:∃ z,z=w.heap.size+1+1:=⟨_,rfl⟩
 obtain ⟨ra,hra⟩:∃ z,z=w.heap.size+1+1+1:=⟨_,rfl⟩
 have hTa:Touch (fun _=>False) w wa:=by rw [hwa];exact ((((Touch.refl _ _).alloc _).alloc _).alloc _).alloc _
 have haB:Blk wa ba 56 #[.slice tA tn tc,.slice A n c]:=by rw [hwa,hba];exact (((Blk.new _ _ _).alloc _).alloc _).alloc _
 have hbB:Blk wa bb 29 #[.int .i64 3,.int .u64 sid,.int .u64 sq,.string kw,.int .i64 nn]:=by
  have h1:=(((Blk.new (w.alloc (.cells #[.slice tA tn tc,.slice A n c] 56)) 29 #[.int .i64 3,.int .u64 sid,.int .u64 sq,.string kw,.int .i64 nn]).alloc (.cells #[.slice none 0 0,.slice none 0 0] 56)).alloc (.cells #[.int .i64 0,.int .u64 0,.int .i64 0] 32))
  rw [hwa,hbb];simpa using h1
 have hsB:Blk wa bs 56 #[.slice none 0 0,.slice none 0 0]:=by
  have h1:=(Blk.new ((w.alloc (.cells #[.slice tA tn tc,.slice A n c] 56)).alloc (.cells #[.int .i64 3,.int .u64 sid,.int .u64 sq,.string kw,.int .i64 nn] 29)) 56 #[.slice none 0 0,.slice none 0 0]).alloc (.cells #[.int .i64 0,.int .u64 0,.int .i64 0] 32)
  rw [hwa,hbs];simpa using h1
 have hrB:Blk wa ra 32 #[.int .i64 0,.int .u64 0,.int .i64 0]:=by
  have h1:=Blk.new (((w.alloc (.cells #[.slice tA tn tc,.slice A n c] 56)).alloc (.cells #[.int .i64 3,.int .u64 sid,.int .u64 sq,.string kw,.int .i64 nn] 29)).alloc (.cells #[.slice none 0 0,.slice none 0 0] 56)) 32 #[.int .i64 0,.int .u64 0,.int .i64 0]
  rw [hwa,hra];simpa using h1
 have HLO:Hid (w.heap.size≤ba∧w.heap.size≤bb∧w.heap.size≤bs∧w.heap.size≤ra∧ba≠bs∧bb≠bs∧bs≠ra):=hide (by omega)
 have HTA:=hide hTa
 have HAB:=hide haB
 have HBB:=hide hbB
 have HSB:=hide hsB
 have HRB:=hide hrB
 have HWA:=hide hwa
 have H0:=hide hba
 have H1:=hide hbb
 have H2:=hide hbs
 have H3:=hide hra
 have HS:=hide (hs.quiet hTa)
 have HR:=hide (hr.quiet hTa)
 have HD:=hide hD
 have HN0:=hide hr.len
 have hn:=hr.few
 have hx1:¬ bs=ra:=by omega
 have hx2:¬ ra=bs:=by omega
 obtain ⟨a0,a1,a2⟩:=haB.facts
 obtain ⟨b0,b1,b2⟩:=hbB.facts
 obtain ⟨s0,s1,s2⟩:=hsB.facts
 obtain ⟨r0,r1,r2⟩:=hrB.facts
 clear hwa hba hbb hbs hra hTa haB hbB hsB hrB hs hr hD
 go_enter Tryz.func62,Tryz.ntmps62
 go_upto_region 1 with fail
 rw [← HWA.out,← H3.out,← H2.out,← H1.out,← H0.out]
 have hsk:=HSK.out
 subst hsk
 clear HSK
 obtain ⟨gR,rfl,hgR,hnc,c0,c1,c2,c3⟩:=rw_at HR.out k hkn
 rw [HROW.out] at c0 c1 c2 c3
 simp only at c0 c1 c2 c3
 have HNIL:=hide (own_nilOk HR.out.own)
 have HRD:=hide (Reads.of_own HR.out.own)
 have HKN:=hide hkn
 have HNC:=hide hnc
 clear hgR hnc
 obtain ⟨i0,hi,hz0,hz1,hz2⟩:=info_parts Tryz.infoRRow
 go_upto_region 15 with fail
 obtain ⟨wb,hwb⟩:∃ y,y=wa.alloc (.cells #[.int .u64 rs,.int .i64 rc,.int .u64 rr,.int .i64 rh] 136):=⟨_,rfl⟩
 have HWB:=hide hwb
 have hTb:Touch (fun _=>False) wa wb:=by rw [hwb];exact (Touch.refl _ _).alloc _
 rw [← hwb]
 have HTB:=hide hTb
 have HAB':=hide (HAB.out.touch hTb (fun f=>f))
 have HBB':=hide (HBB.out.touch hTb (fun f=>f))
 clear hwb hTb a0 a1 a2 b0 b1 b2 s0 s1 s2 r0 r1 r2 c0 c1 c2 c3
 obtain ⟨a0,a1,a2⟩:=HAB'.out.facts
 obtain ⟨b0,b1,b2⟩:=HBB'.out.facts
 go_wp2_with fail
 refine (HRM.out _ (HS.out.quiet HTB.out)).mono ?_
 rintro e w1 ⟨⟨mA,mn,mc,mL⟩,rfl,hm1,T1⟩
 have HM1:=hide hm1
 have HT1:=hide (HTB.out.then T1)
 have HA1:=hide (HAB'.out.touch T1 (fun f=>f))
 have HB1:=hide (HBB'.out.touch T1 (fun f=>f))
 clear hm1 T1 a0 a1 a2 b0 b1 b2 HRM
 obtain ⟨a0,a1,a2⟩:=HA1.out.facts
 obtain ⟨b0,b1,b2⟩:=HB1.out.facts
 simp only [SL.val]
 go_upto_region 19 with fail
 obtain ⟨wc,hwc⟩:∃ y,y=w1.alloc (.cells #[.int .i64 ee,.int .u64 0,.int .i64 hh] 32):=⟨_,rfl⟩
 obtain ⟨ga,hga⟩:∃ y,y=w1.heap.size:=⟨_,rfl⟩
 have hTc:Touch (fun _=>False) wa wc:=by rw [hwc];exact HT1.out.alloc _
 have HGA:Hid (Blk wc ga 32 #[.int .i64 ee,.int .u64 0,.int .i64 hh]):=hide (by rw [hwc,hga];exact Blk.new _ _ _)
 have HGL:Hid (wa.heap.size≤ga):=hide (by rw [hga];exact HT1.out.size)
 have HMC:Hid (RfL B0 wc ⟨mA,mn,mc,mL⟩ L2):=hide (by rw [hwc];exact HM1.out.quiet ((Touch.refl _ _).alloc _))
 have HAC:Hid (Blk wc ba 56 #[.slice tA tn tc,.slice (some ⟨gR,0,none⟩) n c]):=hide (by rw [hwc];exact HA1.out.alloc _)
 have HBC:Hid (Blk wc bb 29 #[.int .i64 3,.int .u64 ((k:Int)+1),.int .u64 sq,.string kw,.int .i64 nn]):=hide (by rw [hwc];exact HB1.out.alloc _)
 have HTC:=hide hTc
 rw [← hwc,← hga]
 clear hwc hga hTc a0 a1 a2 b0 b1 b2 HM1 HT1 HA1 HB1
 obtain ⟨a0,a1,a2⟩:=HAC.out.facts
 go_wp2_with (at_builtin;refine wpList_app _ rfl (.tmp 116) (.tmp 118) 54 rfl 136 i0 (.agg #[.int .u64 0,.int .i64 0,.int .u64 0,.int .i64 0]) 4 32 Tryz.underlying54 hi hz0 hz1 hz2 rfl (by decide) _ 0 [] rfl (World.ownsRow_made _ #[] 0 (Nat.zero_le _) (by decide) rfl) (some ⟨gR,0,none⟩) n c (rowCells R) rfl ((HRD.out.touch HTC.out (fun _ _ f=>f)).alloc _) ?c2 (srow_one R) ?c4 ?c5 ?_)
 case c2=>exact HNIL.out
 case c4=>unfold maxLen;omega
 case c5=>omega
 intro v1 w2 hown hgrow hfr _
 have T2:Touch (fun _=>False) wc w2:=((Touch.refl _ _).alloc _).grown hgrow (fun k hk hlt=>by simp [Value.ownBlock] at hk;omega)
 have ho2:w2.ownsRow 0 136 4 v1 n (rowCells R):=by simpa using hown
 obtain ⟨gN,cN,hv,hle,hmx,hgN,hcN,hfN⟩:=own_form ho2 (by have:=HKN.out;omega)
 subst hv
 have hgy:wc.heap.size≤gN:=by
  rcases hfr with h | ⟨g',h,hg'⟩
  ·simp [Value.ownBlock] at h;omega
  ·simp [Value.ownBlock] at h hg';omega
 have f0:=hfN (k*4)
 have f1:=hfN (k*4+1)
 have f2:=hfN (k*4+2)
 have f3:=hfN (k*4+3)
 have hkn4:k*4+3<(rowCells R).length:=by rw [rowCells_len,HN0.out];have:=HKN.out;omega
 have e0:=hcN (k*4) _ (List.getElem?_eq_getElem (by omega))
 have e1:=hcN (k*4+1) _ (List.getElem?_eq_getElem (by omega))
 have e2:=hcN (k*4+2) _ (List.getElem?_eq_getElem (by omega))
 have e3:=hcN (k*4+3) _ (List.getElem?_eq_getElem (by omega))
 have HO2:=hide ho2
 have HGY:=hide hgy
 have HT2:=hide T2
 have HCN:Hid (n≤cN):=hide (by omega)
 have hkI:(k:Int)<(n:Int):=by have:=HKN.out;omega
 have HB2:=hide (HBC.out.touch T2 (fun f=>f))
 have HG2:=hide (HGA.out.touch T2 (fun f=>f))
 clear hown hgrow hfr T2 ho2 hle hmx hgN hcN hfN hgy a0 a1 a2
 obtain ⟨b0,b1,b2⟩:=HB2.out.facts
 obtain ⟨g0,g1,g2⟩:=HG2.out.facts
 go_upto_region 21 with fail
 obtain ⟨w3,hw3⟩:∃ y,y=(((w2.setCell ⟨gN,k*4,none⟩ (.int .u64 sq)).setCell ⟨gN,k*4+1,none⟩ (.int .i64 ee)).setCell ⟨gN,k*4+2,none⟩ (.int .u64 0)).setCell ⟨gN,k*4+3,none⟩ (.int .i64 hh):=⟨_,rfl⟩
 have T3:Touch (fun g=>g=gN) w2 w3:=by rw [hw3];exact ((((Touch.refl (fun g=>g=gN) w2).setCell (p:=⟨gN,_,none⟩) (fun _=>rfl) _).setCell (p:=⟨gN,_,none⟩) (fun _=>rfl) _).setCell (p:=⟨gN,_,none⟩) (fun _=>rfl) _).setCell (p:=⟨gN,_,none⟩) (fun _=>rfl) _
 have hO3:w3.ownsRow 0 136 4 (.slice (some ⟨gN,0,none⟩) n cN) n (rowCells (R.set k ⟨sq,ee,0,hh⟩)):=by
  rw [hw3,← rowCells_set R k (by rw [HN0.out];exact HKN.out) ⟨sq,ee,0,hh⟩]
  exact own_set (own_set (own_set (own_set HO2.out _ _) _ _) _ _) _ _
 have hgty:TyAt w2 gN 136 := own_ty HO2.out rfl
 have HS2:=hide ((HSB.out.touch HTC.out (fun f=>f)).touch HT2.out (fun f=>f))
 have HR2:=hide ((HRB.out.touch HTC.out (fun f=>f)).touch HT2.out (fun f=>f))
 have HS3:=hide (HS2.out.touch T3 (fun e=>(blk_ty HS2.out).ne hgty (by decide) e))
 have HR3:=hide (HR2.out.touch T3 (fun e=>(blk_ty HR2.out).ne hgty (by decide) e))
 have HG3:=hide (HG2.out.touch T3 (fun e=>(blk_ty HG2.out).ne hgty (by decide) e))
 have hsz1:w.heap.size≤wc.heap.size:=Nat.le_trans HTA.out.size HTC.out.size
 have HGW:Hid (w.heap.size≤gN∧B0≤gN):=hide (by have:=HGY.out;have:=HB0'.out;omega)
 have HM3:Hid (RfL B0 w3 ⟨mA,mn,mc,mL⟩ L2):=hide ((HMC.out.quiet HT2.out).touch T3 (fun g hg e=>by have:=HGW.out;omega) (fun g hg e=>hg.ne hgty (by decide) e))
 have HT3:Hid (Touch (fun _=>False) w w3):=hide ((HTA.out.then (HTC.out.then HT2.out)).trans T3 (fun i hi e=>by have:=HGW.out;omega))
 have HO3:=hide hO3
 rw [← hw3]
 clear hw3 T3 hO3 hgty hsz1 b0 b1 b2 g0 g1 g2 f0 f1 f2 f3 e0 e1 e2 e3
 obtain ⟨g0,g1,g2⟩:=HG3.out.facts
 obtain ⟨s0,s1,s2⟩:=HS3.out.facts
 obtain ⟨r0,r1,r2⟩:=HR3.out.facts
 have hbr:¬ bs=ra:=HLO.out.2.2.2.2.2.2
 have hrb:¬ ra=bs:=fun e=>hbr e.symm
 have hga:¬ ga=bs:=fun e=>(blk_ty HG3.out).ne (blk_ty HS3.out) (by decide) e
 have hga2:¬ ga=ra:=fun e=>by have h1:=HGL.out;have h2:=HRB.out.lt;omega
 go_region
 go_wp2_with fail
 try simp only [Exit.inBlock,Exit.then]
 refine bodyPost_ret (v:=.tuple #[.agg #[.slice mA mn mc,.slice (some ⟨gN,0,none⟩) n cN],ansV ⟨0,ee,0,hh⟩]) (results_cells rfl _ _ bs ra 56 32 _ _ _ _ rfl ?hsb Tryz.underlying56 rfl (by kernel_rfl) rfl ?hrb Tryz.underlying32 rfl (by kernel_rfl)) rfl ?_
 case hsb=>exact (far3 (two_cells _ _ _ _ HS3.out) hbr).drew
 case hrb=>exact (ans_cells _ _ _ _ _ _ (far2 HR3.out hrb)).drew
 have TF:Touch (fun g=>g=bs∨g=ra) w3 (((((w3.setCell ⟨bs,0,none⟩ (.slice mA mn mc)).setCell ⟨bs,1,none⟩ (.slice (some ⟨gN,0,none⟩) n cN)).setCell ⟨ra,0,none⟩ (.int .i64 ee)).setCell ⟨ra,1,none⟩ (.int .u64 0)).setCell ⟨ra,2,none⟩ (.int .i64 hh)).drew:=((((((Touch.refl (fun g=>g=bs∨g=ra) w3).setCell (p:=⟨bs,_,none⟩) (fun _=>.inl rfl) _).setCell (p:=⟨bs,_,none⟩) (fun _=>.inl rfl) _).setCell (p:=⟨ra,_,none⟩) (fun _=>.inr rfl) _).setCell (p:=⟨ra,_,none⟩) (fun _=>.inr rfl) _).setCell (p:=⟨ra,_,none⟩) (fun _=>.inr rfl) _).drew
 have hl9:=HLO.out
 have hb9:=HB0'.out
 refine ⟨⟨mA,mn,mc,mL⟩,_,_,_,rfl,HM3.out.touch TF (fun g hg e=>?_) (fun g hg e=>?_),⟨own_touch HO3.out TF (fun g hg e=>?_),by rw [List.length_set];exact HN0.out,HR.out.few⟩,HT3.out.trans TF (fun i hi e=>?_)⟩
 ·rcases e with rfl | rfl<;>omega
 ·rcases e with rfl | rfl
  ·exact hg.ne (blk_ty HS3.out) (by decide) rfl
  ·exact hg.ne (blk_ty HR3.out) (by decide) rfl
 ·rcases e with rfl | rfl
  ·exact own_blk_ne HO3.out HS3.out (by decide) hg
  ·exact own_blk_ne HO3.out HR3.out (by decide) hg
 ·rcases e with rfl | rfl<;>omega
theorem rdo_new2 (w:World) (B0:Nat) {tA:Option Addr} {tn tc:Nat} {tL L:List PRow} (hs:RfL B0 w ⟨tA,tn,tc,tL⟩ L) (hD:DictP L) {A:Option Addr} {n c:Nat} {R:List SRow} (hr:RwL w A n c R) (sid sq nn:Int) (kw:ByteArray) (hk:kw.size≤1099511627776) (hB0:B0≤w.heap.size) (k:Nat) (hsk:sid=(k:Int)+1) (hkn:k<n) (rs rc rr rh:Int) (hrow:R.getD k SRow.zero=⟨rs,rc,rr,rh⟩) (h1:¬ sq=0) (h2:¬ sq<rs) (h3:¬ sq=rs) :
  Calls Tryz.prog 62 #[.agg #[.slice tA tn tc,.slice A n c],.agg #[.int .i64 2,.int .u64 sid,.int .u64 sq,.string kw,.int .i64 nn]] w fun e w'=>∃ (s':SL) (A':Option Addr) (n' c':Nat),e=.returned (.tuple #[.agg #[s'.val,.slice A' n' c'],ansV ⟨0,(setE L kw.toList nn),0,(setH L kw nn)⟩])∧RfL B0 w' s' (setL L kw nn)∧RwL w' A' n' c' (R.set k ⟨sq,(setE L kw.toList nn),0,(setH L kw nn)⟩)∧Touch (fun _=>False) w w':=by
 have HSK:=hide hsk
 have HROW:=hide hrow
 clear hsk hrow
 have HB0':=hide hB0
 clear hB0
 have HRM:=hide (fun (wx:World) (hr:RfL B0 wx ⟨tA,tn,tc,tL⟩ L)=>rremove_any wx B0 ⟨tA,tn,tc,tL⟩ hr hD kw hk)
 have HST:=hide (fun (wx:World) (hr:RfL B0 wx ⟨tA,tn,tc,tL⟩ L)=>rset_any wx B0 ⟨tA,tn,tc,tL⟩ hr hD kw hk nn)
 simp only [SL.val] at HRM
 simp only [SL.val] at HST
 obtain ⟨hh,hhh⟩:∃ x,x=setH L kw nn:=⟨_,rfl⟩
 obtain ⟨ee,hee⟩:∃ x,x=setE L kw.toList nn:=⟨_,rfl⟩
 obtain ⟨L2,hL2⟩:∃ x,x=setL L kw nn:=⟨_,rfl⟩
 simp only [← hhh,← hee,← hL2] at HST
 rw [← hhh,← hee,← hL2]
 clear hhh hee hL2
 obtain ⟨wa,hwa⟩:∃ z,z=(((w.alloc (.cells #[.slice tA tn tc,.slice A n c] 56)).alloc (.cells #[.int .i64 2,.int .u64 sid,.int .u64 sq,.string kw,.int .i64 nn] 29)).alloc (.cells #[.slice none 0 0,.slice none 0 0] 56)).alloc (.cells #[.int .i64 0,.int .u64 0,.int .i64 0] 32):=⟨_,rfl⟩
 obtain ⟨ba,hba⟩:∃ z,z=w.heap.size:=⟨_,rfl⟩
 obtain ⟨bb,hbb⟩:∃ z,z=w.heap.size+1:=⟨_,rfl⟩
 obtain ⟨bs,hbs⟩:∃ z,z=w.heap.size+1+1:=⟨_,rfl⟩
 obtain ⟨ra,hra⟩:∃ z,z=w.heap.size+1+1+1:=⟨_,rfl⟩
 have hTa:Touch (fun _=>False) w wa:=by rw [hwa];exact ((((Touch.refl _ _).alloc _).alloc _).alloc _).alloc _
 have haB:Blk wa ba 56 #[.slice tA tn tc,.slice A n c]:=by rw [hwa,hba];exact (((Blk.new _ _ _).alloc _).alloc _).alloc _
 have hbB:Blk wa bb 29 #[.int .i64 2,.int .u64 sid,.int .u64 sq,.string kw,.int .i64 nn]:=by
  have h1:=(((Blk.new (w.alloc (.cells #[.slice tA tn tc,.slice A n c] 56)) 29 #[.int .i64 2,.int .u64 sid,.int .u64 sq,.string kw,.int .i64 nn]).alloc (.cells #[.slice none 0 0,.slice none 0 0] 56)).alloc (.cells #[.int .i64 0,.int .u64 0,.int .i64 0] 32))
  rw [hwa,hbb];simpa using h1
 have hsB:Blk wa bs 56 #[.slice none 0 0,.slice none 0 0]:=by
  have h1:=(Blk.new ((w.alloc (.cells #[.slice tA tn tc,.slice A n c] 56)).alloc (.cells #[.int .i64 2,.int .u64 sid,.int .u64 sq,.string kw,.int .i64 nn] 29)) 56 #[.slice none 0 0,.slice none 0 0]).alloc (.cells #[.int .i64 0,.int .u64 0,.int .i64 0] 32)
  rw [hwa,hbs];simpa using h1
 have hrB:Blk wa ra 32 #[.int .i64 0,.int .u64 0,.int .i64 0]:=by
  have h1:=Blk.new (((w.alloc (.cells #[.slice tA tn tc,.slice A n c] 56)).alloc (.cells #[.int .i64 2,.int .u64 sid,.int .u64 sq,.string kw,.int .i64 nn] 29)).alloc (.cells #[.slice none 0 0,.slice none 0 0] 56)) 32 #[.int .i64 0,.int .u64 0,.int .i64 0]
  rw [hwa,hra];simpa using h1
 have HLO:Hid (w.heap.size≤ba∧w.heap.size≤bb∧w.heap.size≤bs∧w.heap.size≤ra∧ba≠bs∧bb≠bs∧bs≠ra):=hide (by omega)
 have HTA:=hide hTa
 have HAB:=hide haB
 have HBB:=hide hbB
 have HSB:=hide hsB
 have HRB:=hide hrB
 have HWA:=hide hwa
 have H0:=hide hba
 have H1:=hide hbb
 have H2:=hide hbs
 have H3:=hide hra
 have HS:=hide (hs.quiet hTa)
 have HR:=hide (hr.quiet hTa)
 have HD:=hide hD
 have HN0:=hide hr.len
 have hn:=hr.few
 have hx1:¬ bs=ra:=by omega
 have hx2:¬ ra=bs:=by omega
 obtain ⟨a0,a1,a2⟩:=haB.facts
 obtain ⟨b0,b1,b2⟩:=hbB.facts
 obtain ⟨s0,s1,s2⟩:=hsB.facts
 obtain ⟨r0,r1,r2⟩:=hrB.facts
 clear hwa hba hbb hbs hra hTa haB hbB hsB hrB hs hr hD
 go_enter Tryz.func62,Tryz.ntmps62
 go_upto_region 1 with fail
 rw [← HWA.out,← H3.out,← H2.out,← H1.out,← H0.out]
 have hsk:=HSK.out
 subst hsk
 clear HSK
 obtain ⟨gR,rfl,hgR,hnc,c0,c1,c2,c3⟩:=rw_at HR.out k hkn
 rw [HROW.out] at c0 c1 c2 c3
 simp only at c0 c1 c2 c3
 have HNIL:=hide (own_nilOk HR.out.own)
 have HRD:=hide (Reads.of_own HR.out.own)
 have HKN:=hide hkn
 have HNC:=hide hnc
 clear hgR hnc
 obtain ⟨i0,hi,hz0,hz1,hz2⟩:=info_parts Tryz.infoRRow
 go_upto_region 15 with fail
 obtain ⟨wb,hwb⟩:∃ y,y=wa.alloc (.cells #[.int .u64 rs,.int .i64 rc,.int .u64 rr,.int .i64 rh] 136):=⟨_,rfl⟩
 have HWB:=hide hwb
 have hTb:Touch (fun _=>False) wa wb:=by rw [hwb];exact (Touch.refl _ _).alloc _
 rw [← hwb]
 have HTB:=hide hTb
 have HAB':=hide (HAB.out.touch hTb (fun f=>f))
 have HBB':=hide (HBB.out.touch hTb (fun f=>f))
 clear hwb hTb a0 a1 a2 b0 b1 b2 s0 s1 s2 r0 r1 r2 c0 c1 c2 c3
 obtain ⟨a0,a1,a2⟩:=HAB'.out.facts
 obtain ⟨b0,b1,b2⟩:=HBB'.out.facts
 go_wp2_with fail
 refine (HRM.out _ (HS.out.quiet HTB.out)).mono ?_
 rintro e w1 ⟨⟨mA,mn,mc,mL⟩,rfl,hm1,T1⟩
 have HM1:=hide hm1
 have HT1:=hide (HTB.out.then T1)
 have HA1:=hide (HAB'.out.touch T1 (fun f=>f))
 have HB1:=hide (HBB'.out.touch T1 (fun f=>f))
 clear hm1 T1 a0 a1 a2 b0 b1 b2 HRM
 obtain ⟨a0,a1,a2⟩:=HA1.out.facts
 obtain ⟨b0,b1,b2⟩:=HB1.out.facts
 simp only [SL.val]
 clear HM1
 go_wp2_with fail
 refine (HST.out _ (HS.out.quiet HT1.out)).mono ?_
 rintro e wq ⟨⟨nA,nn',nc,nL⟩,rfl,hm1,T1⟩
 have HM1:=hide hm1
 have HT1':=hide (HT1.out.then T1)
 have HA1':=hide (HA1.out.touch T1 (fun f=>f))
 have HB1':=hide (HB1.out.touch T1 (fun f=>f))
 clear hm1 T1 HT1 HA1 HB1 a0 a1 a2 b0 b1 b2 HST
 have HT1:=HT1'
 have HA1:=HA1'
 have HB1:=HB1'
 clear HT1' HA1' HB1'
 obtain ⟨a0,a1,a2⟩:=HA1.out.facts
 obtain ⟨b0,b1,b2⟩:=HB1.out.facts
 simp only [SL.val]
 go_upto_region 19 with fail
 obtain ⟨wc,hwc⟩:∃ y,y=wq.alloc (.cells #[.int .i64 ee,.int .u64 0,.int .i64 hh] 32):=⟨_,rfl⟩
 obtain ⟨ga,hga⟩:∃ y,y=wq.heap.size:=⟨_,rfl⟩
 have hTc:Touch (fun _=>False) wa wc:=by rw [hwc];exact HT1.out.alloc _
 have HGA:Hid (Blk wc ga 32 #[.int .i64 ee,.int .u64 0,.int .i64 hh]):=hide (by rw [hwc,hga];exact Blk.new _ _ _)
 have HGL:Hid (wa.heap.size≤ga):=hide (by rw [hga];exact HT1.out.size)
 have HMC:Hid (RfL B0 wc ⟨nA,nn',nc,nL⟩ L2):=hide (by rw [hwc];exact HM1.out.quiet ((Touch.refl _ _).alloc _))
 have HAC:Hid (Blk wc ba 56 #[.slice tA tn tc,.slice (some ⟨gR,0,none⟩) n c]):=hide (by rw [hwc];exact HA1.out.alloc _)
 have HBC:Hid (Blk wc bb 29 #[.int .i64 2,.int .u64 ((k:Int)+1),.int .u64 sq,.string kw,.int .i64 nn]):=hide (by rw [hwc];exact HB1.out.alloc _)
 have HTC:=hide hTc
 rw [← hwc,← hga]
 clear hwc hga hTc a0 a1 a2 b0 b1 b2 HM1 HT1 HA1 HB1
 obtain ⟨a0,a1,a2⟩:=HAC.out.facts
 go_wp2_with (at_builtin;refine wpList_app _ rfl (.tmp 116) (.tmp 118) 54 rfl 136 i0 (.agg #[.int .u64 0,.int .i64 0,.int .u64 0,.int .i64 0]) 4 32 Tryz.underlying54 hi hz0 hz1 hz2 rfl (by decide) _ 0 [] rfl (World.ownsRow_made _ #[] 0 (Nat.zero_le _) (by decide) rfl) (some ⟨gR,0,none⟩) n c (rowCells R) rfl ((HRD.out.touch HTC.out (fun _ _ f=>f)).alloc _) ?c2 (srow_one R) ?c4 ?c5 ?_)
 case c2=>exact HNIL.out
 case c4=>unfold maxLen;omega
 case c5=>omega
 intro v1 w2 hown hgrow hfr _
 have T2:Touch (fun _=>False) wc w2:=((Touch.refl _ _).alloc _).grown hgrow (fun k hk hlt=>by simp [Value.ownBlock] at hk;omega)
 have ho2:w2.ownsRow 0 136 4 v1 n (rowCells R):=by simpa using hown
 obtain ⟨gN,cN,hv,hle,hmx,hgN,hcN,hfN⟩:=own_form ho2 (by have:=HKN.out;omega)
 subst hv
 have hgy:wc.heap.size≤gN:=by
  rcases hfr with h | ⟨g',h,hg'⟩
  ·simp [Value.ownBlock] at h;omega
  ·simp [Value.ownBlock] at h hg';omega
 have f0:=hfN (k*4)
 have f1:=hfN (k*4+1)
 have f2:=hfN (k*4+2)
 have f3:=hfN (k*4+3)
 have hkn4:k*4+3<(rowCells R).length:=by rw [rowCells_len,HN0.out];have:=HKN.out;omega
 have e0:=hcN (k*4) _ (List.getElem?_eq_getElem (by omega))
 have e1:=hcN (k*4+1) _ (List.getElem?_eq_getElem (by omega))
 have e2:=hcN (k*4+2) _ (List.getElem?_eq_getElem (by omega))
 have e3:=hcN (k*4+3) _ (List.getElem?_eq_getElem (by omega))
 have HO2:=hide ho2
 have HGY:=hide hgy
 have HT2:=hide T2
 have HCN:Hid (n≤cN):=hide (by omega)
 have hkI:(k:Int)<(n:Int):=by have:=HKN.out;omega
 have HB2:=hide (HBC.out.touch T2 (fun f=>f))
 have HG2:=hide (HGA.out.touch T2 (fun f=>f))
 clear hown hgrow hfr T2 ho2 hle hmx hgN hcN hfN hgy a0 a1 a2
 obtain ⟨b0,b1,b2⟩:=HB2.out.facts
 obtain ⟨g0,g1,g2⟩:=HG2.out.facts
 go_upto_region 21 with fail
 obtain ⟨w3,hw3⟩:∃ y,y=(((w2.setCell ⟨gN,k*4,none⟩ (.int .u64 sq)).setCell ⟨gN,k*4+1,none⟩ (.int .i64 ee)).setCell ⟨gN,k*4+2,none⟩ (.int .u64 0)).setCell ⟨gN,k*4+3,none⟩ (.int .i64 hh):=⟨_,rfl⟩
 have T3:Touch (fun g=>g=gN) w2 w3:=by rw [hw3];exact ((((Touch.refl (fun g=>g=gN) w2).setCell (p:=⟨gN,_,none⟩) (fun _=>rfl) _).setCell (p:=⟨gN,_,none⟩) (fun _=>rfl) _).setCell (p:=⟨gN,_,none⟩) (fun _=>rfl) _).setCell (p:=⟨gN,_,none⟩) (fun _=>rfl) _
 have hO3:w3.ownsRow 0 136 4 (.slice (some ⟨gN,0,none⟩) n cN) n (rowCells (R.set k ⟨sq,ee,0,hh⟩)):=by
  rw [hw3,← rowCells_set R k (by rw [HN0.out];exact HKN.out) ⟨sq,ee,0,hh⟩]
  exact own_set (own_set (own_set (own_set HO2.out _ _) _ _) _ _) _ _
 have hgty:TyAt w2 gN 136 := own_ty HO2.out rfl
 have HS2:=hide ((HSB.out.touch HTC.out (fun f=>f)).touch HT2.out (fun f=>f))
 have HR2:=hide ((HRB.out.touch HTC.out (fun f=>f)).touch HT2.out (fun f=>f))
 have HS3:=hide (HS2.out.touch T3 (fun e=>(blk_ty HS2.out).ne hgty (by decide) e))
 have HR3:=hide (HR2.out.touch T3 (fun e=>(blk_ty HR2.out).ne hgty (by decide) e))
 have HG3:=hide (HG2.out.touch T3 (fun e=>(blk_ty HG2.out).ne hgty (by decide) e))
 have hsz1:w.heap.size≤wc.heap.size:=Nat.le_trans HTA.out.size HTC.out.size
 have HGW:Hid (w.heap.size≤gN∧B0≤gN):=hide (by have:=HGY.out;have:=HB0'.out;omega)
 have HM3:Hid (RfL B0 w3 ⟨nA,nn',nc,nL⟩ L2):=hide ((HMC.out.quiet HT2.out).touch T3 (fun g hg e=>by have:=HGW.out;omega) (fun g hg e=>hg.ne hgty (by decide) e))
 have HT3:Hid (Touch (fun _=>False) w w3):=hide ((HTA.out.then (HTC.out.then HT2.out)).trans T3 (fun i hi e=>by have:=HGW.out;omega))
 have HO3:=hide hO3
 rw [← hw3]
 clear hw3 T3 hO3 hgty hsz1 b0 b1 b2 g0 g1 g2 f0 f1 f2 f3 e0 e1 e2 e3
 obtain ⟨g0,g1,g2⟩:=HG3.out.facts
 obtain ⟨s0,s1,s2⟩:=HS3.out.facts
 obtain ⟨r0,r1,r2⟩:=HR3.out.facts
 have hbr:¬ bs=ra:=HLO.out.2.2.2.2.2.2
 have hrb:¬ ra=bs:=fun e=>hbr e.symm
 have hga:¬ ga=bs:=fun e=>(blk_ty HG3.out).ne (blk_ty HS3.out) (by decide) e
 have hga2:¬ ga=ra:=fun e=>by have h1:=HGL.out;have h2:=HRB.out.lt;omega
 go_region
 go_wp2_with fail
 try simp only [Exit.inBlock,Exit.then]
 refine bodyPost_ret (v:=.tuple #[.agg #[.slice nA nn' nc,.slice (some ⟨gN,0,none⟩) n cN],ansV ⟨0,ee,0,hh⟩]) (results_cells rfl _ _ bs ra 56 32 _ _ _ _ rfl ?hsb Tryz.underlying56 rfl (by kernel_rfl) rfl ?hrb Tryz.underlying32 rfl (by kernel_rfl)) rfl ?_
 case hsb=>exact (far3 (two_cells _ _ _ _ HS3.out) hbr).drew
 case hrb=>exact (ans_cells _ _ _ _ _ _ (far2 HR3.out hrb)).drew
 have TF:Touch (fun g=>g=bs∨g=ra) w3 (((((w3.setCell ⟨bs,0,none⟩ (.slice nA nn' nc)).setCell ⟨bs,1,none⟩ (.slice (some ⟨gN,0,none⟩) n cN)).setCell ⟨ra,0,none⟩ (.int .i64 ee)).setCell ⟨ra,1,none⟩ (.int .u64 0)).setCell ⟨ra,2,none⟩ (.int .i64 hh)).drew:=((((((Touch.refl (fun g=>g=bs∨g=ra) w3).setCell (p:=⟨bs,_,none⟩) (fun _=>.inl rfl) _).setCell (p:=⟨bs,_,none⟩) (fun _=>.inl rfl) _).setCell (p:=⟨ra,_,none⟩) (fun _=>.inr rfl) _).setCell (p:=⟨ra,_,none⟩) (fun _=>.inr rfl) _).setCell (p:=⟨ra,_,none⟩) (fun _=>.inr rfl) _).drew
 have hl9:=HLO.out
 have hb9:=HB0'.out
 refine ⟨⟨nA,nn',nc,nL⟩,_,_,_,rfl,HM3.out.touch TF (fun g hg e=>?_) (fun g hg e=>?_),⟨own_touch HO3.out TF (fun g hg e=>?_),by rw [List.length_set];exact HN0.out,HR.out.few⟩,HT3.out.trans TF (fun i hi e=>?_)⟩
 ·rcases e with rfl | rfl<;>omega
 ·rcases e with rfl | rfl
  ·exact hg.ne (blk_ty HS3.out) (by decide) rfl
  ·exact hg.ne (blk_ty HR3.out) (by decide) rfl
 ·rcases e with rfl | rfl
  ·exact own_blk_ne HO3.out HS3.out (by decide) hg
  ·exact own_blk_ne HO3.out HR3.out (by decide) hg
 ·rcases e with rfl | rfl<;>omega
end Go.Proofs.YthockgmbooefpaaGreatDoor
namespace Go.Proofs.YthockgmbooefpaaGreatDoor
open Go.RowKit
theorem rdo_any (w:World) (B0:Nat) {sl:SL} {L:List PRow} (hs:RfL B0 w sl L) (hD:DictP L) {A:Option Addr} {n c:Nat} {R:List SRow} (hr:RwL w A n c R) (hB0:B0≤w.heap.size) (cm:CmdP) (hk:cm.Wf) :
  Calls Tryz.prog 62 #[.agg #[sl.val,.slice A n c],cm.val] w fun e w'=>∃ (s':SL) (A':Option Addr) (n' c':Nat),e=.returned (.tuple #[.agg #[s'.val,.slice A' n' c'],ansV (doA cm L R)])∧RfL B0 w' s' (doL cm L R)∧RwL w' A' n' c' (doR cm L R)∧Touch (fun _=>False) w w':=by
 obtain ⟨kd,sid,sq,kw,nn⟩:=cm
 obtain ⟨tA,tn,tc,tL⟩:=sl
 unfold CmdP.Wf at hk
 have hn:=hr.few
 have hl:=hr.len
 have stay:∀ {e:Ending} {w':World} {a:SRow},doA ⟨kd,sid,sq,kw,nn⟩ L R=a→doL ⟨kd,sid,sq,kw,nn⟩ L R=L→doR ⟨kd,sid,sq,kw,nn⟩ L R=R→e=.returned (.tuple #[.agg #[.slice tA tn tc,.slice A n c],ansV a])∧Touch (fun _=>False) w w' →
   ∃ (s':SL) (A':Option Addr) (n' c':Nat),e=.returned (.tuple #[.agg #[s'.val,.slice A' n' c'],ansV (doA ⟨kd,sid,sq,kw,nn⟩ L R)])∧RfL B0 w' s' (doL ⟨kd,sid,sq,kw,nn⟩ L R)∧RwL w' A' n' c' (doR ⟨kd,sid,sq,kw,nn⟩ L R)∧Touch (fun _=>False) w w':=by
  rintro e w' a h1 h2 h3 ⟨rfl,T⟩
  rw [h1,h2,h3]
  exact ⟨⟨tA,tn,tc,tL⟩,A,n,c,rfl,hs.quiet T,hr.quiet T,T⟩
 by_cases h1:kd=1
 ·subst h1
  by_cases hf:n<4096
  ·refine (rdo_open w B0 hs hD hr sid sq nn kw hk hf).mono ?_
   rintro e w' ⟨A',n',c',rfl,hr',T⟩
   have e1:doA ⟨1,sid,sq,kw,nn⟩ L R=⟨0,0,(n:Int)+1,0⟩:=by simp [doA,hl,hf]
   have e2:doL ⟨1,sid,sq,kw,nn⟩ L R=L:=by simp [doL,goesB]
   have e3:doR ⟨1,sid,sq,kw,nn⟩ L R=R++[SRow.zero]:=by simp [doR,hl,hf]
   rw [e1,e2,e3]
   exact ⟨⟨tA,tn,tc,tL⟩,A',n',c',rfl,hs.quiet T,hr',T⟩
  ·exact (rdo_ref w B0 hs hD hr sid sq nn kw hk 1 152 (.inr (.inl ⟨rfl,by omega,rfl⟩))).mono (fun e w'=>stay (by simp [doA,hl,hf]) (by simp [doL,goesB]) (by simp [doR,hl,hf]))
 ·by_cases h2:kd=2∨kd=3
  ·have err:∀ {k:Int},¬ k=0→doC ⟨kd,sid,sq,kw,nn⟩ R=⟨0,0,0,false,k⟩→_:=fun {k} hk0 hc=>do_err (c:=⟨kd,sid,sq,kw,nn⟩) (L:=L) (R:=R) h2 hc hk0
   by_cases h3:sid<1
   ·have hc:doC ⟨kd,sid,sq,kw,nn⟩ R=⟨0,0,0,false,150⟩:=by
     have ht:thereB R sid=false:=by unfold thereB;simp;omega
     unfold doC chk
     simp only [ht]
     rfl
    obtain ⟨e1,e2,e3⟩:=err (by decide) hc
    exact (rdo_ref w B0 hs hD hr sid sq nn kw hk kd 150 (by rcases h2 with rfl | rfl;exact .inr (.inr (.inl ⟨rfl,h3,rfl⟩));exact .inr (.inr (.inr (.inl ⟨rfl,h3,rfl⟩))))).mono (fun e w'=>stay e1 e2 e3)
   ·by_cases h4:(n:Int)<sid
    ·have hc:doC ⟨kd,sid,sq,kw,nn⟩ R=⟨0,0,0,false,150⟩:=by
      have ht:thereB R sid=false:=by unfold thereB;simp;omega
      unfold doC chk
      simp only [ht]
      rfl
     obtain ⟨e1,e2,e3⟩:=err (by decide) hc
     exact (rdo_ref w B0 hs hD hr sid sq nn kw hk kd 150 (by rcases h2 with rfl | rfl;exact .inr (.inr (.inr (.inr (.inl ⟨rfl,by omega,h4,rfl⟩))));exact .inr (.inr (.inr (.inr (.inr ⟨rfl,by omega,h4,rfl⟩)))))).mono (fun e w'=>stay e1 e2 e3)
    ·obtain ⟨k,hk1⟩:∃ k:Nat,sid=(k:Int)+1:=⟨(sid-1).toNat,by omega⟩
     have hkn:k<n:=by omega
     have hkR:k<R.length:=by omega
     obtain ⟨⟨rs,rc,rr,rh⟩,hrow⟩:∃ r,r=R.getD k SRow.zero:=⟨_,rfl⟩
     have ht:thereB R sid=true:=by rw [hk1];exact thereB_succ R k hkR
     have hra:rowAt R sid=⟨rs,rc,rr,rh⟩:=by rw [hk1,rowAt_succ R k hkR,hrow];simp [List.getD,hkR]
     have hdc:doC ⟨kd,sid,sq,kw,nn⟩ R=chk true ⟨rs,rc,rr,rh⟩ sq:=by unfold doC;simp only [ht,hra]
     by_cases h5:sq=0
     ·obtain ⟨e1,e2,e3⟩:=err (k:=151) (by decide) (by rw [hdc];simp [chk,h5])
      exact (rdo_old w B0 hs hD hr sid sq nn kw hk kd h2 k hk1 hkn rs rc rr rh hrow.symm (.inl h5)).mono (fun e w'=>stay e1 e2 e3)
     ·by_cases h6:sq<rs
      ·obtain ⟨e1,e2,e3⟩:=err (k:=151) (by decide) (by rw [hdc];simp [chk,h6])
       exact (rdo_old w B0 hs hD hr sid sq nn kw hk kd h2 k hk1 hkn rs rc rr rh hrow.symm (.inr ⟨h5,h6⟩)).mono (fun e w'=>stay e1 e2 e3)
      ·by_cases h7:sq=rs
       ·subst h7
        have hK:doC ⟨kd,sid,sq,kw,nn⟩ R=⟨rc,rr,rh,true,0⟩:=by rw [hdc];simp [chk,h5]
        obtain ⟨e1,e2,e3⟩:=do_again (c:=⟨kd,sid,sq,kw,nn⟩) (L:=L) (R:=R) h2 hK rfl rfl
        exact (rdo_again w B0 hs hD hr sid sq nn kw hk kd h2 k hk1 hkn rc rr rh hrow.symm h5).mono (fun e w'=>stay e1 e2 e3)
       ·have hK:doC ⟨kd,sid,sq,kw,nn⟩ R=⟨0,0,0,false,0⟩:=by rw [hdc];simp [chk,h5,h6,h7]
        obtain ⟨e1,e2,e3⟩:=do_new (c:=⟨kd,sid,sq,kw,nn⟩) (L:=L) (R:=R) h2 hK rfl rfl
        have hkk:(sid-1).toNat=k:=by omega
        rw [e1,e2,e3]
        simp only [hkk]
        rcases h2 with rfl | rfl
        ·exact rdo_new2 w B0 hs hD hr sid sq nn kw hk hB0 k hk1 hkn rs rc rr rh hrow.symm h5 h6 h7
        ·exact rdo_new3 w B0 hs hD hr sid sq nn kw hk hB0 k hk1 hkn rs rc rr rh hrow.symm h5 h6 h7
  ·have hg:goesB ⟨kd,sid,sq,kw,nn⟩ R=false:=by simp [goesB,h2]
   exact (rdo_ref w B0 hs hD hr sid sq nn kw hk kd 161 (.inl (by have h3:¬ kd=2:=(by omega);have h4:¬ kd=3:=(by omega);refine ⟨?_,?_,?_,?_,?_,rfl⟩<;>simp<;>omega))).mono (fun e w'=>stay (by simp [doA,h1,h2]) (by simp [doL,hg]) (by simp [doR,h1,hg]))
end Go.Proofs.YthockgmbooefpaaGreatDoor
