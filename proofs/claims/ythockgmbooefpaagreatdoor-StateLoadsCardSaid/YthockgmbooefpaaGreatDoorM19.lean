/- What the law rests on, part 19. No condition but those that each theorem names. -/
import Derived.Test.YthockgmbooefpaaGreatDoorM18
import Derived.Test.YthockgmbooefpaaGreatDoorM14
import Derived.Test.YthockgmbooefpaaGreatDoorM12
import Derived.Test.YthockgmbooefpaaGreatDoorRows
import Derived.Test.YthockgmbooefpaaGreatDoorCards
import Derived.Test.YthockgmbooefpaaGreatDoorTie
import Derived.Deep.DeepHandedRow
import Derived.ProofKit
import Derived.OpenShut
import Derived.SevenTiedAt
set_option linter.unusedSectionVars false
set_option linter.unusedSimpArgs false
set_option linter.unusedVariables false
set_option maxRecDepth 100000
set_option maxHeartbeats 8000000
namespace Go.Proofs.YthockgmbooefpaaGreatDoor
open IntWalk renaming i64_in → qQc
open List renaming getElem_cons_succ → qQa, getElem_cons_zero → qZa, getElem_toArray → qXa, setIfInBounds_toArray → qJa, set_cons_succ → qQb, set_cons_zero → qZb, all_eq_true → qZc, eq_nil_of_length_eq_zero → qXc, drop_eq_nil_of_le → qQd
open Nat renaming le_refl → qXb, zero_le → qJb
open Go.RowKit
theorem Sk(w:World)(A:Option Addr)(n c:Nat)(b:List UInt8)(h:RB w A n c b) :
  Calls Tryz.prog 27 #[.slice A n c] w λe w'=>Ue b w e w':=by
 obtain⟨i0,hi0,hz0,hz1,hz2⟩:=aO Tryz.infoRRow
 obtain⟨w0,hw0⟩:=eX (w.alloc (.cells #[.slice none 0 0,.slice none 0 0] 56))
 obtain⟨rs,hrs⟩:=eX w.heap.size
 have T0:aC (λ_=>False) w w0:=by rw[hw0];exact (aC.refl _ _).alloc _
 have HRS:Hid (aL w0 rs 56 #[.slice none 0 0,.slice none 0 0]):=aB (by rw[hw0,hrs];exact aL.new _ _ _)
 have HUS:=aB (Sp w0 A n c b (h.quiet T0))
 have HT0:=aB T0
 have HW0:=aB hw0
 have HR0:=aB hrs
 have HN:=aB h.few
 clear hw0 hrs T0 h
 go_in
 go_upto_region 1 with fail
 rw[<-HW0.out,<-HR0.out]
 go_wp2_with fail
 refine HUS.mono ?_
 rintro e w1 (⟨x,t,A1,c1,hun,hxl,htn,rfl,h1⟩ | ⟨hun,k,hk,rfl,T1⟩)
 ·obtain⟨nk,hnk⟩:∃ y:Int,y=(n:Int)-(t.length:Nat):=⟨_,rfl⟩
  rw[<-hnk]
  have HT1:=aB (HT0.then h1.touch)
  have HRS1:=aB (HRS.touch h1.touch (λf=>f))
  by_cases ht:nk=(n:Int)
  ·have ht0:t=[]:=qXc (by omega)
   subst ht0
   subst ht
   have HUN:=aB hun
   have HXL:=aB hxl
   have HX1:=aB h1.own
   have HGB:=aB (Ow w1 A1 x.length c1 x (Mm h1.own (by omega)))
   clear h1 HUS hun hxl htn hnk
   go_wp2_with fail
   refine HGB.mono ?_
   rintro e w2 ⟨m,st,p,ee,AP,cP,rfl,hop,hml,hby,hq⟩
   have HOP:=aB hop
   have HML:=aB hml
   have HBY:=aB hby
   have HT2:=aB (HT1.then hop.touch)
   have HX2:=aB (aD HX1 hop.touch (λ_ _ f=>f))
   have HRS2:=aB (HRS1.touch hop.touch (λf=>f))
   obtain⟨w3,hw3⟩:∃ x',x'=w2.alloc (.cells #[.slice A1 x.length c1,.int .i64 p,.int .i64 ee] 138):=⟨_,rfl⟩
   obtain⟨g7,hg7⟩:∃ x',x'=w2.heap.size:=⟨_,rfl⟩
   have T3:aC (λ_=>False) w2 w3:=by rw[hw3];exact (aC.refl _ _).alloc _
   have HB3:Hid (aL w3 g7 138 #[.slice A1 x.length c1,.int .i64 p,.int .i64 ee]):=aB (by rw[hw3,hg7];exact aL.new _ _ _)
   have HG7:Hid (w.heap.size<=g7):=aB (by rw[hg7];exact HT2.size)
   have HX3:=aB (aD HX2 T3 (λ_ _ f=>f))
   have HP3:=aB (aD HOP.own T3 (λ_ _ f=>f))
   have HRS3:=aB (HRS2.touch T3 (λf=>f))
   have HT3:=aB (HT2.then T3)
   obtain⟨kk,s2,huk⟩:∃ a s,uX 4096 st=(a,s):=⟨_,_,rfl⟩
   have hkn:kk<=4096:=by have:=@aHk 4096 st;rw[huk] at this;exact this
   have HKN:=aB hkn
   have HRW:Hid (rwX st=cF kk s2):=aB (by unfold rwX;rw[huk])
   have HU3:=aB (tW w3 A1 x.length c1 x (Mm HX3 (by have:=HXL.out;omega)) p ee st hq 4096 huk)
   have HW3:=aB hw3
   have HG3:=aB hg7
   clear hop hml hby hq T3 hw3 hg7 huk hkn HGB
   go_upto_region 5 with fail
   rw[<-HW3.out,<-HG3.out]
   obtain⟨r0,r1,r2⟩:=HB3.facts
   go_wp2_with fail
   refine HU3.mono ?_
   rintro e w4 ⟨p4,e4,rfl,hq4,T4⟩
   obtain⟨w5,hw5⟩:∃ x',x'=setR w4 g7 A1 x.length c1 p4 e4:=⟨_,rfl⟩
   have T5:aC (λg=>g=g7) w4 w5:=by rw[hw5];exact eZ _ _ _ _ _ _ _
   have HB5:Hid (aL w5 g7 138 #[.slice A1 x.length c1,.int .i64 p4,.int .i64 e4]):=aB (by rw[hw5];exact gR (HB3.touch T4 (λf=>f)) _ _ _ _ _)
   have hb4:=HB3.touch T4 (λf=>f)
   have hx4:=aD HX3 T4 (λ_ _ f=>f)
   have hp4:=aD HP3 T4 (λ_ _ f=>f)
   have hr4:=HRS3.touch T4 (λf=>f)
   have h7:=aF hb4
   have HX5:=aB (aD hx4 T5 (λg hg e=>(aH hx4 hg).ne h7 (by decide) e))
   have HP5:=aB (aD hp4 T5 (λg hg e=>(aH hp4 hg).ne h7 (by decide) e))
   have HRS5:=aB (hr4.touch T5 (λe=>(aF hr4).ne h7 (by decide) e))
   have HT5:=aB ((HT3.then T4).trans T5 (λg hg e=>by have:=HG7.out;omega))
   have HQ4:=aB hq4
   clear r0 r1 r2
   obtain⟨r0,r1,r2⟩:=hb4.facts
   unfold setR at hw5
   have HW5:=aB hw5
   clear hb4 hx4 hp4 hr4 h7 hq4 T4 T5 hw5 HU3
   go_upto_region 6 with fail
   rw[<-HW5.out]
   clear r0 r1 r2
   obtain⟨w6,hw6⟩:∃ x',x'=w5.alloc (.cells #[.slice none 0 0,.slice none 0 0] 56):=⟨_,rfl⟩
   obtain⟨gs,hgs⟩:∃ x',x'=w5.heap.size:=⟨_,rfl⟩
   have T6:aC (λ_=>False) w5 w6:=by rw[hw6];exact (aC.refl _ _).alloc _
   have HJ6:Hid (RJ w w6 g7 gs rs A1 c1 x p4 e4 AP cP m none 0 0 []):=aB ⟨HB5.touch T6 (λf=>f),by rw[hw6,hgs];exact aL.new _ _ _,HRS5.touch T6 (λf=>f),World.ownsRow_nil _ _ _ _,λg hg=>by simp[Value.ownBlock] at hg,aD HX5 T6 (λ_ _ f=>f),aD HP5 T6 (λ_ _ f=>f),HT5.then T6,HG7,by rw[hgs];exact HT5.size,by rw[HR0.out];exact qXb _,by rw[hgs];have:=HRS5.lt;omega⟩
   have HW6:=aB hw6
   have HGS:=aB hgs
   clear T6 hw6 hgs
   go_upto_region 7 with fail
   rw[<-HW6.out,<-HGS.out]
   go_wp2_with fail
   go_loopw [11] (λiv wr=>∃ (i:Nat) (A':Option Addr) (c':Nat) (p:Nat) (e:Int),iv=.int .i64 i/\i<=kk/\Hid (RJ w wr g7 gs rs A1 c1 x p e AP cP m A' i c' (cF i s2).1)/\Hid (RQ x.length x p e (cF i s2).2)/\Hid ((cF i s2).1.all dR=true)) (λiv _=>kk-(intOf iv).toNat)
   case atStart=>exact⟨0,none,0,p4,e4,rfl,qJb _,HJ6,HQ4,aB rfl⟩
   case round =>
    obtain⟨i,A',c',p5,e5,rfl,hi',HJ,HQ,HGD⟩:=hrel
    obtain⟨wo,hwo⟩:=eX wr
    subst hwo
    by_cases hgo:i<kk/\e5=0
    ·obtain⟨hi,he5⟩:=hgo
     subst he5
     have y0:(i:Int)<(kk:Int):=by omega
     have y2:IntKind.i64.wrap ((i:Int)+1)=(i:Int)+1:=qQc _ (by have:=HKN.out;omega)
     have z1:IntKind.i64.wrap (kk:Int)=(kk:Int):=qQc _ (by have:=HKN.out;omega)
     obtain⟨si,hsi⟩:=eX ((cF i s2).2)
     obtain⟨sn,sA,hua⟩:∃ a s,uX 18446744073709551615 si=(a,s):=⟨_,_,rfl⟩
     obtain⟨cn,sB,hub⟩:∃ a s,uX 65535 sA=(a,s):=⟨_,_,rfl⟩
     obtain⟨an,sC,huc⟩:∃ a s,uX 18446744073709551615 sB=(a,s):=⟨_,_,rfl⟩
     obtain⟨hn,sD,hud⟩:∃ a s,uX 1048576 sC=(a,s):=⟨_,_,rfl⟩
     have hrw:tX si=(⟨(sn:Int),(cn:Int),(an:Int),(hn:Int)⟩,sD):=by
      unfold tX
      rw[hua]
      simp only
      rw[hub]
      simp only
      rw[huc]
      simp only
      rw[hud]
     have HTK:Hid ((cF (i+1) s2).1=(cF i s2).1++[⟨(sn:Int),(cn:Int),(an:Int),(hn:Int)⟩]):=aB (by simp only[cF];rw[<-hsi,hrw])
     have HST:Hid ((cF (i+1) s2).2=sD):=aB (by simp only[cF];rw[<-hsi,hrw])
     rw[<-hsi] at HQ
     have HI:=aB hi
     have HRO:=aB (aEg wo A1 x.length c1 x (Mm HJ.xo (by have:=HXL.out;omega)) p5 0 si HQ hua hub huc hud)
     obtain⟨r0,r1,r2⟩:=HJ.rdr.facts
     clear hrw hsi hua hub huc hud hi hi'
     go_wp2_with fail
     refine HRO.mono ?_
     rintro e w7 ⟨p7,e7,rfl,hq7,T7⟩
     have HQ7:=aB hq7
     obtain⟨w8,hw8⟩:=eX ((w7.alloc (.cells #[.slice A1 x.length c1,.int .i64 p7,.int .i64 e7] 138)).alloc (.cells #[.int .u64 sn,.int .i64 cn,.int .u64 an,.int .i64 hn] 136))
     obtain⟨ga,hga⟩:=eX w7.heap.size
     have T8:aC (λ_=>False) w7 w8:=by rw[hw8];exact ((aC.refl _ _).alloc _).alloc _
     have HBA:Hid (aL w8 ga 138 #[.slice A1 x.length c1,.int .i64 p7,.int .i64 e7]):=aB (by rw[hw8,hga];exact (aL.new _ _ _).alloc _)
     have HBR:Hid (aL w8 (ga+1) 136 #[.int .u64 sn,.int .i64 cn,.int .u64 an,.int .i64 hn]):=aB (by rw[hw8,hga];exact fU _ _ _ _)
     have HJ8:=aB ((HJ.quiet T7).quiet T8)
     have HW8:=aB hw8
     have HGA:=aB hga
     clear hq7 T7 T8 hw8 hga HRO r0 r1 r2
     go_upto_region 11 with fail
     rw[<-HW8.out,<-HGA.out]
     obtain⟨w9,hw9⟩:=eX (setR w8 g7 A1 x.length c1 p7 e7)
     have T9:aC (λg=>g=g7) w8 w9:=by rw[hw9];exact eZ _ _ _ _ _ _ _
     have HJ9:=aB (HJ8.setR p7 e7)
     rw[<-hw9] at HJ9
     have HBR9:=aB (HBR.touch T9 (λe=>(aF HBR).ne (aF HJ8.rdr) (by decide) e))
     obtain⟨a0,a1,a2⟩:=HBA.facts
     obtain⟨r0,r1,r2⟩:=HJ8.rdr.facts
     unfold setR at hw9
     have HW9:=aB hw9
     clear T9 hw9
     go_upto_region 12 with fail
     rw[<-HW9.out]
     clear a0 a1 a2 r0 r1 r2
     obtain⟨a0,a1,a2⟩:=HBR9.facts
     by_cases hgr:dR ⟨(sn:Int),(cn:Int),(an:Int),(hn:Int)⟩=true
     ·have HGR:=aB hgr
      have hg2:(¬ sn=0)\/(sn=0/\cn=0/\an=0/\hn=0):=by
       by_cases h:sn=0
       ·right
        simp[dR,aU.zero,h] at hgr
        omega
       ·exact .inl h
      clear hgr
      rcases hg2 with hs | ⟨rfl,rfl,rfl,rfl⟩
      ·have q0:((sn:Int) == 0)=false:=by simp;omega
       go_upto_region 14 with fail
       obtain⟨s0,s1',s2'⟩:=HJ9.st.facts
       go_wp2_with (at_builtin;refine aR _ rfl (.tmp 70) (.tmp 72) 54 rfl 136 i0 _ 4 32 Tryz.underlying54 hi0 hz0 hz1 hz2 rfl (by decide) (.slice A' i c') i _ rfl (aD HJ9.own ((aC.refl _ _).alloc _) (λ_ _ f=>f)) (some ⟨_,0,none⟩) 1 1 (aU.cells ⟨(sn:Int),(cn:Int),(an:Int),(hn:Int)⟩) rfl ?sxa ?sxb ?sxc ?sxd ?sxe ?_)
       case sxa =>
        have h:=aI.new (size:=4) w9 136 (aU.cells ⟨(sn:Int),(cn:Int),(an:Int),(hn:Int)⟩) 1 rfl
        simpa [aU.cells] using h
       try (case sxb=>exact λh=>by cases h)
       case sxc=>exact List.all_eq_true.1 rfl
       case sxd=>have:=HI.out;have:=HKN.out;unfold maxLen;omega
       case sxe=>have:=HI.out;have:=HKN.out;omega
       intro vg wg hown hgrow hfr _
       obtain⟨AG,cG,hvg,_,_⟩:=aX hown
       subst hvg
       have Tg:aC (λg=>(Value.slice A' i c').ownBlock=some g) w9 wg:=((aC.refl (λg=>(Value.slice A' i c').ownBlock=some g) w9).alloc _).grown hgrow (λk hk _=>hk)
       have hfg:∀ g,(Value.slice AG (i+1) cG).ownBlock=some g->w.heap.size<=g:=λg hg=>by
        rcases hfr with e | ⟨g',e,hg'⟩
        ·exact HJ9.fr g (by rw[<-e];exact hg)
        ·rw[hg] at e
         injection e with e
         have:=HJ9.t.size
         simp at hg'
         omega
       have HJg:Hid (RJ w (wg.setCell ⟨gs,1,none⟩ (.slice AG (i+1) cG)) g7 gs rs A1 c1 x p7 e7 AP cP m AG (i+1) cG (cF (i+1) s2).1):=aB (by rw[HTK.out];exact HJ9.step hown Tg hfg)
       have hSg:=HJ9.st.touch Tg (λe=>(aF HJ9.st).ne (aH HJ9.own e) (by decide) rfl)
       clear s0 s1' s2'
       obtain⟨s0,s1',s2'⟩:=hSg.facts
       clear hown hgrow hfr Tg hfg hSg
       go_wp2_with fail
       go_roundw
       ·exact⟨i+1,AG,cG,p7,e7,by simp,by have:=HI.out;omega,HJg,by rw[HST.out];exact HQ7,aB (by rw[HTK.out,List.all_append,HGD.out];simpa using HGR.out)⟩
       ·have:=HI.out
        simp only[intOf]
        omega
      ·have q0:=HGR
       go_upto_region 14 with fail
       obtain⟨s0,s1',s2'⟩:=HJ9.st.facts
       go_wp2_with (at_builtin;refine aR _ rfl (.tmp 70) (.tmp 72) 54 rfl 136 i0 _ 4 32 Tryz.underlying54 hi0 hz0 hz1 hz2 rfl (by decide) (.slice A' i c') i _ rfl (aD HJ9.own ((aC.refl _ _).alloc _) (λ_ _ f=>f)) (some ⟨_,0,none⟩) 1 1 (aU.cells ⟨0,0,0,0⟩) rfl ?sya ?syb ?syc ?syd ?sye ?_)
       case sya =>
        have h:=aI.new (size:=4) w9 136 (aU.cells ⟨0,0,0,0⟩) 1 rfl
        simpa [aU.cells] using h
       try (case syb=>exact λh=>by cases h)
       case syc=>exact List.all_eq_true.1 rfl
       case syd=>have:=HI.out;have:=HKN.out;unfold maxLen;omega
       case sye=>have:=HI.out;have:=HKN.out;omega
       intro vg wg hown hgrow hfr _
       obtain⟨AG,cG,hvg,_,_⟩:=aX hown
       subst hvg
       have Tg:aC (λg=>(Value.slice A' i c').ownBlock=some g) w9 wg:=((aC.refl (λg=>(Value.slice A' i c').ownBlock=some g) w9).alloc _).grown hgrow (λk hk _=>hk)
       have hfg:∀ g,(Value.slice AG (i+1) cG).ownBlock=some g->w.heap.size<=g:=λg hg=>by
        rcases hfr with e | ⟨g',e,hg'⟩
        ·exact HJ9.fr g (by rw[<-e];exact hg)
        ·rw[hg] at e
         injection e with e
         have:=HJ9.t.size
         simp at hg'
         omega
       have HJg:Hid (RJ w (wg.setCell ⟨gs,1,none⟩ (.slice AG (i+1) cG)) g7 gs rs A1 c1 x p7 e7 AP cP m AG (i+1) cG (cF (i+1) s2).1):=aB (by rw[HTK.out];exact HJ9.step hown Tg hfg)
       have hSg:=HJ9.st.touch Tg (λe=>(aF HJ9.st).ne (aH HJ9.own e) (by decide) rfl)
       clear s0 s1' s2'
       obtain⟨s0,s1',s2'⟩:=hSg.facts
       clear hown hgrow hfr Tg hfg hSg
       go_wp2_with fail
       go_roundw
       ·exact⟨i+1,AG,cG,p7,e7,by simp,by have:=HI.out;omega,HJg,by rw[HST.out];exact HQ7,aB (by rw[HTK.out,List.all_append,HGD.out];simpa using HGR.out)⟩
       ·have:=HI.out
        simp only[intOf]
        omega
     ·have HNO:Hid (∀ L R,¬ lH b L R):=aB (λL R h=>by
       obtain⟨_,h2,_,h4⟩:=kF (fG h) HUN HBY
       rw[HRW.out] at h2
       rw[h2] at h4
       have h5:=Sm (kk-(i+1)) (i+1) s2
       rw[show i+1+(kk-(i+1))=kk by have:=HI.out;omega] at h5
       refine hgr (List.all_eq_true.1 h4 _ (h5.subset ?_))
       rw[HTK.out]
       simp)
      have hb3:(sn=0/\¬ cn=0)\/(sn=0/\cn=0/\¬ an=0)\/(sn=0/\cn=0/\an=0/\¬ hn=0):=by
       by_cases h:sn=0
       ·simp[dR,aU.zero,h] at hgr
        omega
       ·exfalso
        apply hgr
        simp[dR]
        exact .inl h
      obtain⟨q0,q1,q2⟩:=HJ9.res.facts
      clear hgr
      rcases hb3 with⟨rfl,hb⟩ | ⟨rfl,rfl,hb⟩ | ⟨rfl,rfl,rfl,hb⟩
      all_goals
       go_wp2_with fail
       refine bodyPost_ret (v:=.tuple #[.agg #[.slice none 0 0,.slice none 0 0],.int .i64 160]) (dP rfl _ _ rs 56 _ _ _ rfl (gJ _ _ _ _ HJ9.res) Tryz.underlying56 rfl (by kernel_rfl) rfl) rfl ?_
       exact⟨lB HJ9.t HJ9.yr _ _,.inr ⟨HNO,rfl⟩⟩
    ·obtain⟨stf,hstf⟩:=eX ((cF kk s2).2)
     have HF:Hid (RQ x.length x p5 e5 stf/\(stf=some []->(cF i s2).1=(cF kk s2).1)):=aB (by
      by_cases hi:i<kk
      ·have hne:¬ e5=0:=λh=>hgo ⟨hi,h⟩
       have hn:(cF i s2).2=none:=by
        cases hs:(cF i s2).2 with
        | none=>rfl
        | some t =>
         have h1:=HQ.out
         rw[hs] at h1
         exact absurd h1.2.1 hne
       have h2:=Mt (kk-i) hn
       rw[show i+(kk-i)=kk by omega] at h2
       rw[hstf,h2]
       have h1:=HQ.out
       rw[hn] at h1
       exact⟨h1,λh=>by cases h⟩
      ·have:i=kk:=by omega
       subst this
       exact⟨by rw[hstf];exact HQ,λ_=>rfl⟩)
     have HSF:=aB hstf
     have z1:IntKind.i64.wrap (kk:Int)=(kk:Int):=qQc _ (by have:=HKN.out;omega)
     have hx2:(¬ i<kk)\/(i<kk/\¬ e5=0):=by
      by_cases hi:i<kk
      ·exact .inr ⟨hi,λh=>hgo ⟨hi,h⟩⟩
      ·exact .inl hi
     have HUK:=aB (Jb wo AP m.length cP m (aI.of_own HJ.po) rfl (by have:=HML.out;omega) (cT HJ.po).1 (jD HJ.po) (qJb _))
     obtain⟨r0,r1,r2⟩:=HJ.rdr.facts
     clear hstf hi' hgo
     rcases hx2 with hx2 | ⟨hx2,hx3⟩
     ·have y0:¬ (i:Int)<(kk:Int):=by omega
      clear hx2
      go_wp2_with fail
      refine HUK.mono ?_
      rintro e wU ⟨TU,⟨bn,sts,A4,n4,c4,Z,hbn,hRg,hm,rfl,hst,hz⟩ | ⟨hnp,rfl⟩⟩
      ·obtain⟨wm,hwm⟩:=eX (wU.alloc (.cells #[.int .i64 bn,.slice A4 n4 c4] 89))
       obtain⟨gm,hgm⟩:=eX wU.heap.size
       have Tm:aC (λ_=>False) wU wm:=by rw[hwm];exact (aC.refl _ _).alloc _
       have HMB:Hid (aL wm gm 89 #[.int .i64 bn,.slice A4 n4 c4]):=aB (by rw[hwm,hgm];exact aL.new _ _ _)
       have HJm:=aB ((HJ.quiet TU).quiet Tm)
       have HST:=aB (hst.quiet Tm)
       have hen:=zH wm A1 x.length c1 p5 e5
       unfold Tq at hen
       have HEN:=aB hen
       have HZ:=aB hz
       have HRG:=aB hRg
       have HMM:=aB hm
       have HWM:=aB hwm
       have HGM:=aB hgm
       clear hen hz hRg hm hbn hst TU Tm hwm hgm r0 r1 r2 HUK
       go_upto_region 16 with fail
       rw[<-HWM.out,<-HGM.out]
       obtain⟨r0,r1,r2⟩:=HJm.rdr.facts
       go_wp2_with fail
       refine HEN.mono ?_
       rintro e wE ⟨⟨k',rfl,hk'⟩,TE⟩
       have HJE:=aB (HJm.quiet TE)
       have HME:=aB (HMB.touch TE (λf=>f))
       have HSE:=aB (HST.quiet TE)
       clear r0 r1 r2 TE HEN
       by_cases hk0:k'=0
       ·obtain⟨he,hxp⟩:=hk'.1 hk0
        subst hk0
        have hsf:stf=some []:=by
         have h1:=HF.1
         cases stf with
         | none=>have:=h1.2;omega
         | some t =>
          rw[h1.2.2,qQd hxp]
        have hri:=HF.2 hsf
        obtain⟨hD,hM⟩:=pJ HRG
        have hmB:mB (mI sts (bn:Int))=m:=by unfold mB;rw[hM,HMM.out]
        have hlx:=yT HUN HBY (by rw[HRW.out,<-HSF.out];exact hsf) (by rw[HRW.out,<-hri];exact HGD)
        rw[HRW.out] at hlx
        have HIM:=aB (tK hlx hD hmB)
        have HRI:=aB hri
        have HPR:=aB (qV wE bn A4 n4 c4 Z HSE (by rw[<-HSE.len];exact Yz HZ HRG) (Om HZ HRG) (qJb _))
        obtain⟨m0,m1,m2⟩:=HME.facts
        clear hk' he hxp hsf hri hD hM hmB hlx
        go_wp2_with fail
        refine HPR.mono ?_
        rintro e wP ⟨⟨L',AW,nW,cW,rfl,hrp,hok,_,_⟩ | ⟨rfl,hnp⟩,TP⟩
        ·have hL:L'=mI sts (bn:Int):=wR hrp (by rw[HZ.out];exact zN HRG)
         subst hL
         have HJP:=aB (HJE.quiet TP)
         have HOK:=aB hok
         obtain⟨s0,s1',s2'⟩:=HJP.st.facts
         obtain⟨q0,q1,q2⟩:=HJP.res.facts
         have ne1:¬ gs=rs:=HJ.ne
         have ne2:¬ rs=gs:=λh=>HJ.ne h.symm
         clear hrp hok TP m0 m1 m2 HPR
         go_wp2_with fail
         refine bodyPost_ret (v:=.tuple #[.agg #[.slice AW nW cW,.slice A' i c'],.int .i64 0]) (dP rfl _ _ rs 56 _ _ _ rfl (gJ _ _ _ _ (HJP.res.far (p:=⟨gs,0,none⟩) (λh=>HJ.ne h.symm) _)) Tryz.underlying56 rfl (by kernel_rfl) rfl) rfl ?_
         exact Di HJP HOK HIM HRI HKN (pL _ _)
        ·exact absurd ⟨_,by rw[HZ.out];exact zN HRG⟩ hnp
       ·have HNO:Hid (∀ L R,¬ lH b L R):=aB (λL R h=>by
         obtain⟨_,_,h3,_⟩:=kF (fG h) HUN HBY
         rw[HRW.out,<-HSF.out] at h3
         have h1:=HF.1
         rw[h3] at h1
         refine hk0 (hk'.2 ⟨h1.2.1,?_⟩)
         have h4:=congrArg List.length h1.2.2
         rw[List.length_drop] at h4
         simp at h4
         omega)
        have y5:(k' == 0)=false:=by simp;exact hk0
        obtain⟨q0,q1,q2⟩:=HJE.res.facts
        clear hk'
        go_wp2_with fail
        refine bodyPost_ret (v:=.tuple #[.agg #[.slice none 0 0,.slice none 0 0],.int .i64 160]) (dP rfl _ _ rs 56 _ _ _ rfl (gJ _ _ _ _ HJE.res) Tryz.underlying56 rfl (by kernel_rfl) rfl) rfl ?_
        exact⟨lB HJE.t HJE.yr _ _,.inr ⟨HNO,rfl⟩⟩
      ·have HNO:Hid (∀ L R,¬ lH b L R):=aB (λL R h=>by
        obtain⟨h1,_⟩:=kF (fG h) HUN HBY
        have hb:=gE h.dict
        obtain⟨bn,hbn⟩:∃ bn:Nat,(bB L).base=(bn:Int):=⟨(bB L).base.toNat,by omega⟩
        refine hnp ⟨bn,(bB L).states,by omega,by rw[<-hbn];exact dD h.dict,?_⟩
        rw[h1]
        unfold mB
        rw[hbn])
       have HJm:=aB ((HJ.quiet TU).quiet ((aC.refl _ _).alloc (.cells #[.int .i64 0,.slice none 0 0] 89)))
       obtain⟨q0,q1,q2⟩:=HJm.res.facts
       clear hnp TU r0 r1 r2 HUK
       go_wp2_with fail
       refine bodyPost_ret (v:=.tuple #[.agg #[.slice none 0 0,.slice none 0 0],.int .i64 160]) (dP rfl _ _ rs 56 _ _ _ rfl (gJ _ _ _ _ HJm.res) Tryz.underlying56 rfl (by kernel_rfl) rfl) rfl ?_
       exact⟨lB HJm.t HJm.yr _ _,.inr ⟨HNO,rfl⟩⟩
     ·have y0:(i:Int)<(kk:Int):=by omega
      have y1:(e5 == 0)=false:=by simp;exact hx3
      clear hx2
      go_wp2_with fail
      refine HUK.mono ?_
      rintro e wU ⟨TU,⟨bn,sts,A4,n4,c4,Z,hbn,hRg,hm,rfl,hst,hz⟩ | ⟨hnp,rfl⟩⟩
      ·obtain⟨wm,hwm⟩:=eX (wU.alloc (.cells #[.int .i64 bn,.slice A4 n4 c4] 89))
       obtain⟨gm,hgm⟩:=eX wU.heap.size
       have Tm:aC (λ_=>False) wU wm:=by rw[hwm];exact (aC.refl _ _).alloc _
       have HMB:Hid (aL wm gm 89 #[.int .i64 bn,.slice A4 n4 c4]):=aB (by rw[hwm,hgm];exact aL.new _ _ _)
       have HJm:=aB ((HJ.quiet TU).quiet Tm)
       have HST:=aB (hst.quiet Tm)
       have hen:=zH wm A1 x.length c1 p5 e5
       unfold Tq at hen
       have HEN:=aB hen
       have HZ:=aB hz
       have HRG:=aB hRg
       have HMM:=aB hm
       have HWM:=aB hwm
       have HGM:=aB hgm
       clear hen hz hRg hm hbn hst TU Tm hwm hgm r0 r1 r2 HUK
       go_upto_region 16 with fail
       rw[<-HWM.out,<-HGM.out]
       obtain⟨r0,r1,r2⟩:=HJm.rdr.facts
       go_wp2_with fail
       refine HEN.mono ?_
       rintro e wE ⟨⟨k',rfl,hk'⟩,TE⟩
       have HJE:=aB (HJm.quiet TE)
       have HME:=aB (HMB.touch TE (λf=>f))
       have HSE:=aB (HST.quiet TE)
       clear r0 r1 r2 TE HEN
       by_cases hk0:k'=0
       ·obtain⟨he,hxp⟩:=hk'.1 hk0
        subst hk0
        have hsf:stf=some []:=by
         have h1:=HF.1
         cases stf with
         | none=>have:=h1.2;omega
         | some t =>
          rw[h1.2.2,qQd hxp]
        have hri:=HF.2 hsf
        obtain⟨hD,hM⟩:=pJ HRG
        have hmB:mB (mI sts (bn:Int))=m:=by unfold mB;rw[hM,HMM.out]
        have hlx:=yT HUN HBY (by rw[HRW.out,<-HSF.out];exact hsf) (by rw[HRW.out,<-hri];exact HGD)
        rw[HRW.out] at hlx
        have HIM:=aB (tK hlx hD hmB)
        have HRI:=aB hri
        have HPR:=aB (qV wE bn A4 n4 c4 Z HSE (by rw[<-HSE.len];exact Yz HZ HRG) (Om HZ HRG) (qJb _))
        obtain⟨m0,m1,m2⟩:=HME.facts
        clear hk' he hxp hsf hri hD hM hmB hlx
        go_wp2_with fail
        refine HPR.mono ?_
        rintro e wP ⟨⟨L',AW,nW,cW,rfl,hrp,hok,_,_⟩ | ⟨rfl,hnp⟩,TP⟩
        ·have hL:L'=mI sts (bn:Int):=wR hrp (by rw[HZ.out];exact zN HRG)
         subst hL
         have HJP:=aB (HJE.quiet TP)
         have HOK:=aB hok
         obtain⟨s0,s1',s2'⟩:=HJP.st.facts
         obtain⟨q0,q1,q2⟩:=HJP.res.facts
         have ne1:¬ gs=rs:=HJ.ne
         have ne2:¬ rs=gs:=λh=>HJ.ne h.symm
         clear hrp hok TP m0 m1 m2 HPR
         go_wp2_with fail
         refine bodyPost_ret (v:=.tuple #[.agg #[.slice AW nW cW,.slice A' i c'],.int .i64 0]) (dP rfl _ _ rs 56 _ _ _ rfl (gJ _ _ _ _ (HJP.res.far (p:=⟨gs,0,none⟩) (λh=>HJ.ne h.symm) _)) Tryz.underlying56 rfl (by kernel_rfl) rfl) rfl ?_
         exact Di HJP HOK HIM HRI HKN (pL _ _)
        ·exact absurd ⟨_,by rw[HZ.out];exact zN HRG⟩ hnp
       ·have HNO:Hid (∀ L R,¬ lH b L R):=aB (λL R h=>by
         obtain⟨_,_,h3,_⟩:=kF (fG h) HUN HBY
         rw[HRW.out,<-HSF.out] at h3
         have h1:=HF.1
         rw[h3] at h1
         refine hk0 (hk'.2 ⟨h1.2.1,?_⟩)
         have h4:=congrArg List.length h1.2.2
         rw[List.length_drop] at h4
         simp at h4
         omega)
        have y5:(k' == 0)=false:=by simp;exact hk0
        obtain⟨q0,q1,q2⟩:=HJE.res.facts
        clear hk'
        go_wp2_with fail
        refine bodyPost_ret (v:=.tuple #[.agg #[.slice none 0 0,.slice none 0 0],.int .i64 160]) (dP rfl _ _ rs 56 _ _ _ rfl (gJ _ _ _ _ HJE.res) Tryz.underlying56 rfl (by kernel_rfl) rfl) rfl ?_
        exact⟨lB HJE.t HJE.yr _ _,.inr ⟨HNO,rfl⟩⟩
      ·have HNO:Hid (∀ L R,¬ lH b L R):=aB (λL R h=>by
        obtain⟨h1,_⟩:=kF (fG h) HUN HBY
        have hb:=gE h.dict
        obtain⟨bn,hbn⟩:∃ bn:Nat,(bB L).base=(bn:Int):=⟨(bB L).base.toNat,by omega⟩
        refine hnp ⟨bn,(bB L).states,by omega,by rw[<-hbn];exact dD h.dict,?_⟩
        rw[h1]
        unfold mB
        rw[hbn])
       have HJm:=aB ((HJ.quiet TU).quiet ((aC.refl _ _).alloc (.cells #[.int .i64 0,.slice none 0 0] 89)))
       obtain⟨q0,q1,q2⟩:=HJm.res.facts
       clear hnp TU r0 r1 r2 HUK
       go_wp2_with fail
       refine bodyPost_ret (v:=.tuple #[.agg #[.slice none 0 0,.slice none 0 0],.int .i64 160]) (dP rfl _ _ rs 56 _ _ _ rfl (gJ _ _ _ _ HJm.res) Tryz.underlying56 rfl (by kernel_rfl) rfl) rfl ?_
       exact⟨lB HJm.t HJm.yr _ _,.inr ⟨HNO,rfl⟩⟩
  ·have y0:(nk == (n:Int))=false:=by simp;exact ht
   have HNO:Hid (∀ L R,¬ lH b L R):=aB (Ev (sG (λx' h=>by
    rw[hun] at h
    simp only[Option.some.injEq,Prod.mk.injEq] at h
    rw[h.2] at hnk
    simp at hnk
    exact ht hnk)))
   obtain⟨r0,r1,r2⟩:=HRS1.facts
   clear hun hxl htn hnk h1 HUS
   go_wp2_with fail
   refine bodyPost_ret (v:=.tuple #[.agg #[.slice none 0 0,.slice none 0 0],.int .i64 160]) (dP rfl _ _ rs 56 _ _ _ rfl ?hs1 Tryz.underlying56 rfl (by kernel_rfl) rfl) rfl ?ho1
   case hs1=>exact gJ _ _ _ _ HRS1
   case ho1=>exact⟨lB HT1 (by rw[HR0.out];exact qXb _) _ _,.inr ⟨HNO,rfl⟩⟩
 ·have y0:(k == 0)=false:=by simp;omega
  have y1:¬ k=0:=by omega
  have HT1:=aB (HT0.then T1)
  have HRS1:=aB (HRS.touch T1 (λf=>f))
  have HNO:Hid (∀ L R,¬ lH b L R):=aB (Ev (sG (λx' h=>by rw[hun] at h;cases h)))
  obtain⟨r0,r1,r2⟩:=HRS1.facts
  clear hun T1 HUS hk
  go_wp2_with fail
  refine bodyPost_ret (v:=.tuple #[.agg #[.slice none 0 0,.slice none 0 0],.int .i64 160]) (dP rfl _ _ rs 56 _ _ _ rfl ?hs2 Tryz.underlying56 rfl (by kernel_rfl) rfl) rfl ?ho2
  case hs2=>exact gJ _ _ _ _ HRS1
  case ho2=>exact⟨lB HT1 (by rw[HR0.out];exact qXb _) _ _,.inr ⟨HNO,rfl⟩⟩
theorem Gy(w:World):(convert 50 9 (.slice none 0 0)).run Tryz.prog w=.ok (.string ⟨#[]⟩) w:=by kernel_rfl
theorem xS(w:World)(A:Option Addr)(q c:Nat)(l:List UInt8)(h:w.ownsRow 0 5 1 (.slice A q c) q (l.map aP)):(convert 50 9 (.slice A q c)).run Tryz.prog w=.ok (.string ⟨l.toArray⟩) w:=by
 have hl:=tS h
 by_cases h0:0<l.length
 ·exact (Lo w A q c l h h0).2
 ·have e:l=[]:=qXc (by omega)
  subst e
  have hq:q=0:=hl.symm
  subst hq
  cases A with
  | none =>
   obtain⟨_,rfl⟩:=jD h rfl
   exact Gy w
  | some ad=>exact run_convert_bytes_back _ _ _ _ ad c [] Tryz.underlying50 Tryz.underlying5 Tryz.underlying9 (λj hj=>absurd hj (by simp))
theorem iG{P:Program}{o:Oper}{a:Act}{w:World}{K:Act->World->Prop}{Q:Exit->Act->World->Prop}(t1 t2:TypeId)(x:Operand)(hop:o.op=Op.convert t1 t2 x)(v v':Value)(hx:a.eval x=v)(hrun:(convert t1 t2 v).run P w=.ok v' w)(h:K (a.put o.dst v') w):o.wp P a w K Q:=by
 unfold Oper.wp
 simp[execOp,hop,hx,hrun,Result.andThen]
 exact h
theorem aAg{b:List UInt8}{L M:List aE}{R S:List aU}(h:lH b L R)(k:lH b M S):M=L/\S=R:=by
 have h1:=fG h
 rw[fG k] at h1
 simp only[Option.some.injEq,Prod.mk.injEq] at h1
 refine⟨?_,h1.2⟩
 have hb:=gE k.dict
 obtain⟨bn,hbn⟩:∃ bn:Nat,(bB M).base=(bn:Int):=⟨(bB M).base.toNat,by omega⟩
 have hm:mB L=eU (bn:Int) (bB M).states:=by rw[<-h1.1];unfold mB;rw[hbn]
 obtain⟨e1,e2⟩:=Wv h.dict (by omega) (sH k.dict) (by rw[<-hbn];exact dD k.dict) hm
 refine (Wi h.dict k.dict ?_).symm
 have e3:(bB L).base=(bB M).base:=by rw[e1,hbn]
 cases hl:bB L with
 | mk b1 s1 =>
  cases hk:bB M with
  | mk b2 s2 =>
   rw[hl,hk] at e3
   rw[hl,hk] at e2
   simp only at e2 e3
   rw[e2,e3]
theorem Ep(w:World)(A:Option Addr)(n c:Nat)(l:List UInt8)(h:aI w 1 A n (l.map aP))(hl:l.length=n)(hA:A=none->n=0/\c=0):(convert 50 9 (.slice A n c)).run Tryz.prog w=.ok (.string ⟨l.toArray⟩) w:=by
 subst hl
 cases A with
 | none =>
  obtain⟨h0,rfl⟩:=hA rfl
  have e:l=[]:=qXc h0
  subst e
  exact Gy w
 | some ad =>
  refine run_convert_bytes_back _ _ _ _ _ _ l Tryz.underlying50 Tryz.underlying5 Tryz.underlying9 λj hj=>?_
  obtain⟨b,off,hA,_,hc⟩:=h.2 (by omega)
  have:=hc j (aP l[j]) (by rw[List.getElem?_map,List.getElem?_eq_getElem hj];rfl)
  injection hA with hA
  rw[hA,Addr.add_lit]
  exact this
theorem Xb{w:World}{size n:Nat}{A:Option Addr}{xs:List Value}(h:aI w size A n xs)(hn:0<n):∀ g,aQ A=some g->g<w.heap.size:=by
 intro g hg
 obtain⟨b,off,hA,hb,_⟩:=h.2 hn
 rw[hA] at hg
 simp[aQ] at hg
 omega
theorem Jo(W:World)(hL:dN W)(A:Option Addr)(n c:Nat)(b:List UInt8)(hR:aI W 1 A n (b.map aP))(hl:b.length=n)(hnc:n<=c)(hcm:c<=maxLen)(hA:A=none->n=0/\c=0) :
  Calls Tryz.prog 6 #[.slice A n c] W λe W'=>e=.returned (.bool true)/\aC (λ_=>False) W W':=by
 have HAL:=aB (λ(wx:World) (t:aC (λ_=>False) W wx)=>Gk wx (dN.touch hL t))
 have HL:=aB hL
 by_cases hbig:n<=3000
 ·have k2:¬ (3000:Int)<(n:Int):=by omega
  have HLO:=aB (We W hL b A n c hR hl hnc hcm (by omega))
  have HRL:=aB (λ(wx:World) (T:aC (λ_=>False) W wx)=>Sk wx A n c b ⟨hR.touch T (λ_ _ f=>f),hl,by omega,hnc,hA⟩)
  have HRD:=aB hR
  have HLN:=aB hl
  have HNA:=aB hA
  clear hbig hL hR hl hnc hcm hA
  go_in
  go_wp2_with fail
  refine HLO.mono ?_
  rintro e w1 ⟨T1,⟨L,R,s,d,tb,v,him,rfl,hst,_,_,_⟩ | ⟨hno,rfl⟩⟩
  ·have HT1:=aB T1
   have HST1:=aB hst
   have HIP:=aB him
   clear T1 hst him HLO
   go_wp2_with fail
   refine (HRL w1 HT1).mono ?_
   rintro e w2 ⟨T2,⟨L2,R2,⟨jA,jn,jc,jL⟩,A1,n1,c1,him2,rfl,hok,hsl,hrw⟩ | ⟨hno,rfl⟩⟩
   ·obtain⟨e1,e2⟩:=aAg HIP him2
    subst e1 e2
    simp only at hsl
    subst hsl
    obtain⟨w7,hw7⟩:=eX (w2.alloc (.cells #[.slice jA jn jc,.slice A1 n1 c1] 56))
    obtain⟨sb,hsb⟩:=eX w2.heap.size
    have T7:aC (λ_=>False) w2 w7:=by rw[hw7];exact (aC.refl _ _).alloc _
    have HSB7:Hid (aL w7 sb 56 #[.slice jA jn jc,.slice A1 n1 c1]):=aB (by rw[hw7,hsb];exact aL.new _ _ _)
    have HT7:=aB (HT1.then (T2.then T7))
    have HST7:=aB (HST1.quiet (T2.then T7))
    have HOK:=aB hok
    have HRWL:=aB hrw
    have HT27:=aB T7
    have HRI:=aB HIP.rin
    have HW7:=aB hw7
    have HB7:=aB hsb
    obtain⟨im,him3⟩:=eX (Vr jL R2)
    have HIM:=aB him3
    have HBI:Hid (b=im):=aB (by rw[him3];exact HIP.eq)
    have HA7:=aB (HAL w7 HT7)
    simp only[SL.val]
    clear T2 T7 him2 hok hrw hw7 hsb him3
    go_upto_region 5 with fail
    rw[<-HW7.out,<-HB7.out]
    go_wp2_with fail
    refine HA7.mono ?_
    rintro e w8 ⟨rfl,T8⟩
    have HT78:=aB T8
    have HT3:=aB (HT7.then T8)
    have HST:=aB (HST7.quiet T8)
    have HSB8:=aB (HSB7.touch T8 (λf=>f))
    have HSL:Hid (∀ wx,aC (λ_=>False) w8 wx->Ks w2.heap.size wx ⟨jA,jn,jc,jL⟩ jL/\Tr wx A1 n1 c1 R2):=aB (λwx T=>⟨⟨⟨HOK.len,HOK.reads.touch (HT27.then (HT78.then T)) (λ_ _ f=>f),HOK.nil⟩,rfl,λhn g hg=>.inl (Xb HOK.reads hn g hg)⟩,HRWL.quiet (HT27.then (HT78.then T))⟩)
    have HS8:Hid (∀ wx,aL wx sb 56 #[.slice jA jn jc,.slice A1 n1 c1]->wx.cell? ⟨sb,0,none⟩=some (.slice jA jn jc)/\wx.cell? ⟨sb,1,none⟩=some (.slice A1 n1 c1)):=aB (λwx h1=>⟨(h1.cell 0).trans rfl,(h1.cell 1).trans rfl⟩)
    clear T8 HA7
    have hbi:=HBI.out
    subst hbi
    go_upto_region 7 with fail
    refine wp_region_held_drew (S:=λwx=>wx.cell? ⟨sb,0,none⟩=some (.slice jA jn jc)/\wx.cell? ⟨sb,1,none⟩=some (.slice A1 n1 c1)) (by kernel_rfl) (HS8 _ (HSB8.drew)) (λhHeld=>?_)
    refine wpAnyH_take (i:=0) (v:=?v0) rfl (by kernel_rfl) (by kernel_rfl) (by kernel_rfl) (λ_ _ _ h=>h) (Or.inl ⟨by kernel_rfl,?h0⟩) hHeld ?_
    case h0=>rintro wq ⟨s0,s1⟩;go_simp;with_reducible rfl
    simp only[qXa,qQa,qZa,Act.put,qJa,qZb,qQb]
    refine wpAnyH_take (i:=1) (v:=?v1) rfl (by kernel_rfl) (by kernel_rfl) (by kernel_rfl) (λ_ _ _ h=>h) (Or.inl ⟨by kernel_rfl,?h1⟩) hHeld ?_
    case h1=>rintro wq ⟨s0,s1⟩;go_simp;with_reducible rfl
    simp only[qXa,qQa,qZa,Act.put,qJa,qZb,qQb]
    refine wpAnyH_take (i:=2) (v:=?v2) rfl (by kernel_rfl) (by kernel_rfl) (by kernel_rfl) (λ_ _ _ h=>h) (Or.inl ⟨by kernel_rfl,?h2⟩) hHeld ?_
    case h2=>rintro wq ⟨s0,s1⟩;go_simp;with_reducible rfl
    simp only[qXa,qQa,qZa,Act.put,qJa,qZb,qQb]
    refine wpAnyH_take (i:=3) (v:=?v3) rfl (by kernel_rfl) (by kernel_rfl) (by kernel_rfl) (λ_ _ _ h=>h) (Or.inl ⟨by kernel_rfl,?h3⟩) hHeld ?_
    case h3=>rintro wq ⟨s0,s1⟩;go_simp;with_reducible rfl
    simp only[qXa,qQa,qZa,Act.put,qJa,qZb,qQb]
    refine wpAnyH_take (i:=4) (v:=?v4) rfl (by kernel_rfl) (by kernel_rfl) (by kernel_rfl) (λ_ _ _ h=>h) (Or.inl ⟨by kernel_rfl,?h4⟩) hHeld ?_
    case h4=>rintro wq ⟨s0,s1⟩;go_simp;with_reducible rfl
    simp only[qXa,qQa,qZa,Act.put,qJa,qZb,qQb]
    refine wpAnyH_ready (rs:=[5]) (by kernel_rfl) (by simp) ?_
    refine AllReadyH.cons rfl (λK hK=>?_) AllReadyH.nil
    go_simp
    refine (Nb w8.drew (dN.touch HL (HT3.then (aC.refl _ _).drew)) (HST.quiet (aC.refl _ _).drew) _ _ (HSL w8.drew (aC.refl _ _).drew).1 _ _ _ (HSL w8.drew (aC.refl _ _).drew).2).mono ?_
    rintro e w9 ⟨rfl,T9⟩
    have HT9:=aB ((aC.refl (λ_=>False) w8).drew.then T9)
    have HSBb:=aB (HSB8.touch HT9 (λf=>f))
    clear T9
    go_simp
    refine hK.out _ _ (HS8 _ HSBb) (λhHeld=>?_)
    clear hK K
    try simp only[qXa,qQa,qZa,Act.put,qJa,qZb,qQb]
    refine wpAnyH_take (i:=6) (v:=?v6) rfl (by kernel_rfl) (by kernel_rfl) (by kernel_rfl) (λ_ _ _ h=>h) (Or.inl ⟨by kernel_rfl,?h6⟩) hHeld ?_
    case h6=>rintro wq ⟨s0,s1⟩;go_simp;with_reducible rfl
    simp only[qXa,qQa,qZa,Act.put,qJa,qZb,qQb]
    refine wpAnyH_take (i:=7) (v:=?v7) rfl (by kernel_rfl) (by kernel_rfl) (by kernel_rfl) (λ_ _ _ h=>h) (Or.inl ⟨by kernel_rfl,?h7⟩) hHeld ?_
    case h7=>rintro wq ⟨s0,s1⟩;go_simp;with_reducible rfl
    simp only[qXa,qQa,qZa,Act.put,qJa,qZb,qQb]
    refine wpAnyH_take (i:=10) (v:=?v10) rfl (by kernel_rfl) (by kernel_rfl) (by kernel_rfl) (λ_ _ _ h=>h) (Or.inl ⟨by kernel_rfl,?h10⟩) hHeld ?_
    case h10=>rintro wq ⟨s0,s1⟩;go_simp;with_reducible rfl
    simp only[qXa,qQa,qZa,Act.put,qJa,qZb,qQb]
    refine wpAnyH_ready (rs:=[8,11]) (by kernel_rfl) (by simp) ?_
    refine AllReadyH.cons rfl (λK hK=>?_) (AllReadyH.cons rfl (λK hK=>?_) AllReadyH.nil)
    ·go_simp
     refine (Ck w9 (dN.touch HL (HT3.then HT9)) (HST.quiet HT9) HRI).mono ?_
     rintro e w10 ⟨AI,qI,cI,rfl,hoI⟩
     rw[<-HIM.out] at hoI
     have HOI:=aB hoI
     have HTI:=aB ((HT9).then hoI.touch)
     have HSBc:=aB (HSB8.touch HTI (λf=>f))
     clear hoI
     go_simp
     refine hK.out _ _ (HS8 _ HSBc) (λhHeld=>?_)
     clear hK K
     try simp only[qXa,qQa,qZa,Act.put,qJa,qZb,qQb]
     refine wpAnyH_ready (rs:=[9,11]) (by kernel_rfl) (by simp) ?_
     refine AllReadyH.cons rfl (λK hK=>?_) (AllReadyH.cons rfl (λK hK=>?_) AllReadyH.nil)
     ·rw[if_pos (by rfl)]
      refine iG 50 9 (.tmp 43) rfl (.slice AI qI cI) _ rfl (xS w10 AI qI cI b HOI.own) ?_
      refine hK.out _ _ (HS8 _ HSBc) (λhHeld=>?_)
      clear hK K
      try simp only[qXa,qQa,qZa,Act.put,qJa,qZb,qQb]
      refine wpAnyH_ready (rs:=[11]) (by kernel_rfl) (by simp) ?_
      refine AllReadyH.cons rfl (λK hK=>?_) AllReadyH.nil
      rw[if_pos (by rfl)]
      refine iG 50 9 (.tmp 45) rfl (.slice A n c) _ rfl (Ep w10 A n c b (HRD.touch (HT3.then HTI) (λ_ _ f=>f)) HLN HNA) ?_
      refine hK.out _ _ (HS8 _ HSBc) (λhHeld=>?_)
      clear hK K
      try simp only[qXa,qQa,qZa,Act.put,qJa,qZb,qQb]
      refine wpAnyH_take (i:=12) (v:=?va12) rfl (by kernel_rfl) (by kernel_rfl) (by kernel_rfl) (λ_ _ _ h=>h) (Or.inl ⟨by kernel_rfl,?ha12⟩) hHeld ?_
      case ha12=>rintro wq ⟨s0,s1⟩;go_simp;with_reducible rfl
      simp only[qXa,qQa,qZa,Act.put,qJa,qZb,qQb]
      refine wpAnyH_take (i:=13) (v:=?va13) rfl (by kernel_rfl) (by kernel_rfl) (by kernel_rfl) (λ_ _ _ h=>h) (Or.inl ⟨by kernel_rfl,?ha13⟩) hHeld ?_
      case ha13=>rintro wq ⟨s0,s1⟩;go_simp;with_reducible rfl
      simp only[qXa,qQa,qZa,Act.put,qJa,qZb,qQb]
      refine wpAnyH_take (i:=14) (v:=?va14) rfl (by kernel_rfl) (by kernel_rfl) (by kernel_rfl) (λ_ _ _ h=>h) (Or.inl ⟨by kernel_rfl,?ha14⟩) hHeld ?_
      case ha14=>rintro wq ⟨s0,s1⟩;go_simp;with_reducible rfl
      simp only[qXa,qQa,qZa,Act.put,qJa,qZb,qQb]
      refine wpAnyH_take (i:=15) (v:=?va15) rfl (by kernel_rfl) (by kernel_rfl) (by kernel_rfl) (λ_ _ _ h=>h) (Or.inl ⟨by kernel_rfl,?ha15⟩) hHeld ?_
      case ha15=>rintro wq ⟨s0,s1⟩;go_simp;with_reducible rfl
      simp only[qXa,qQa,qZa,Act.put,qJa,qZb,qQb]
      refine wpAnyH_done (by kernel_rfl) ?_ _
      go_wp2_with fail
      go_ret
      exact⟨rfl,HT3.then HTI⟩
     ·rw[if_pos (by rfl)]
      refine iG 50 9 (.tmp 45) rfl (.slice A n c) _ rfl (Ep w10 A n c b (HRD.touch (HT3.then HTI) (λ_ _ f=>f)) HLN HNA) ?_
      refine hK.out _ _ (HS8 _ HSBc) (λhHeld=>?_)
      clear hK K
      try simp only[qXa,qQa,qZa,Act.put,qJa,qZb,qQb]
      refine wpAnyH_ready (rs:=[9]) (by kernel_rfl) (by simp) ?_
      refine AllReadyH.cons rfl (λK hK=>?_) AllReadyH.nil
      rw[if_pos (by rfl)]
      refine iG 50 9 (.tmp 43) rfl (.slice AI qI cI) _ rfl (xS w10 AI qI cI b HOI.own) ?_
      refine hK.out _ _ (HS8 _ HSBc) (λhHeld=>?_)
      clear hK K
      try simp only[qXa,qQa,qZa,Act.put,qJa,qZb,qQb]
      refine wpAnyH_take (i:=12) (v:=?vb12) rfl (by kernel_rfl) (by kernel_rfl) (by kernel_rfl) (λ_ _ _ h=>h) (Or.inl ⟨by kernel_rfl,?hb12⟩) hHeld ?_
      case hb12=>rintro wq ⟨s0,s1⟩;go_simp;with_reducible rfl
      simp only[qXa,qQa,qZa,Act.put,qJa,qZb,qQb]
      refine wpAnyH_take (i:=13) (v:=?vb13) rfl (by kernel_rfl) (by kernel_rfl) (by kernel_rfl) (λ_ _ _ h=>h) (Or.inl ⟨by kernel_rfl,?hb13⟩) hHeld ?_
      case hb13=>rintro wq ⟨s0,s1⟩;go_simp;with_reducible rfl
      simp only[qXa,qQa,qZa,Act.put,qJa,qZb,qQb]
      refine wpAnyH_take (i:=14) (v:=?vb14) rfl (by kernel_rfl) (by kernel_rfl) (by kernel_rfl) (λ_ _ _ h=>h) (Or.inl ⟨by kernel_rfl,?hb14⟩) hHeld ?_
      case hb14=>rintro wq ⟨s0,s1⟩;go_simp;with_reducible rfl
      simp only[qXa,qQa,qZa,Act.put,qJa,qZb,qQb]
      refine wpAnyH_take (i:=15) (v:=?vb15) rfl (by kernel_rfl) (by kernel_rfl) (by kernel_rfl) (λ_ _ _ h=>h) (Or.inl ⟨by kernel_rfl,?hb15⟩) hHeld ?_
      case hb15=>rintro wq ⟨s0,s1⟩;go_simp;with_reducible rfl
      simp only[qXa,qQa,qZa,Act.put,qJa,qZb,qQb]
      refine wpAnyH_done (by kernel_rfl) ?_ _
      go_wp2_with fail
      go_ret
      exact⟨rfl,HT3.then HTI⟩
    ·rw[if_pos (by rfl)]
     refine iG 50 9 (.tmp 45) rfl (.slice A n c) _ rfl (Ep w9 A n c b (HRD.touch (HT3.then HT9) (λ_ _ f=>f)) HLN HNA) ?_
     refine hK.out _ _ (HS8 _ HSBb) (λhHeld=>?_)
     clear hK K
     try simp only[qXa,qQa,qZa,Act.put,qJa,qZb,qQb]
     refine wpAnyH_ready (rs:=[8]) (by kernel_rfl) (by simp) ?_
     refine AllReadyH.cons rfl (λK hK=>?_) AllReadyH.nil
     go_simp
     refine (Ck w9 (dN.touch HL (HT3.then HT9)) (HST.quiet HT9) HRI).mono ?_
     rintro e w10 ⟨AI,qI,cI,rfl,hoI⟩
     rw[<-HIM.out] at hoI
     have HOI:=aB hoI
     have HTI:=aB ((HT9).then hoI.touch)
     have HSBc:=aB (HSB8.touch HTI (λf=>f))
     clear hoI
     go_simp
     refine hK.out _ _ (HS8 _ HSBc) (λhHeld=>?_)
     clear hK K
     try simp only[qXa,qQa,qZa,Act.put,qJa,qZb,qQb]
     refine wpAnyH_ready (rs:=[9]) (by kernel_rfl) (by simp) ?_
     refine AllReadyH.cons rfl (λK hK=>?_) AllReadyH.nil
     rw[if_pos (by rfl)]
     refine iG 50 9 (.tmp 43) rfl (.slice AI qI cI) _ rfl (xS w10 AI qI cI b HOI.own) ?_
     refine hK.out _ _ (HS8 _ HSBc) (λhHeld=>?_)
     clear hK K
     try simp only[qXa,qQa,qZa,Act.put,qJa,qZb,qQb]
     refine wpAnyH_take (i:=12) (v:=?vc12) rfl (by kernel_rfl) (by kernel_rfl) (by kernel_rfl) (λ_ _ _ h=>h) (Or.inl ⟨by kernel_rfl,?hc12⟩) hHeld ?_
     case hc12=>rintro wq ⟨s0,s1⟩;go_simp;with_reducible rfl
     simp only[qXa,qQa,qZa,Act.put,qJa,qZb,qQb]
     refine wpAnyH_take (i:=13) (v:=?vc13) rfl (by kernel_rfl) (by kernel_rfl) (by kernel_rfl) (λ_ _ _ h=>h) (Or.inl ⟨by kernel_rfl,?hc13⟩) hHeld ?_
     case hc13=>rintro wq ⟨s0,s1⟩;go_simp;with_reducible rfl
     simp only[qXa,qQa,qZa,Act.put,qJa,qZb,qQb]
     refine wpAnyH_take (i:=14) (v:=?vc14) rfl (by kernel_rfl) (by kernel_rfl) (by kernel_rfl) (λ_ _ _ h=>h) (Or.inl ⟨by kernel_rfl,?hc14⟩) hHeld ?_
     case hc14=>rintro wq ⟨s0,s1⟩;go_simp;with_reducible rfl
     simp only[qXa,qQa,qZa,Act.put,qJa,qZb,qQb]
     refine wpAnyH_take (i:=15) (v:=?vc15) rfl (by kernel_rfl) (by kernel_rfl) (by kernel_rfl) (λ_ _ _ h=>h) (Or.inl ⟨by kernel_rfl,?hc15⟩) hHeld ?_
     case hc15=>rintro wq ⟨s0,s1⟩;go_simp;with_reducible rfl
     simp only[qXa,qQa,qZa,Act.put,qJa,qZb,qQb]
     refine wpAnyH_done (by kernel_rfl) ?_ _
     go_wp2_with fail
     go_ret
     exact⟨rfl,HT3.then HTI⟩
   ·exact absurd HIP (hno _ _)
  ·have HT1:=aB T1
   have HNO:=aB hno
   clear T1 hno HLO
   go_wp2_with fail
   refine (HRL w1 HT1).mono ?_
   rintro e w2 ⟨T2,⟨L2,R2,sl,A1,n1,c1,him2,rfl,hok,hsl,hrw⟩ | ⟨hno,rfl⟩⟩
   ·exact absurd him2 (HNO _ _)
   ·obtain⟨w7,hw7⟩:=eX (w2.alloc (.cells #[.slice none 0 0,.slice none 0 0] 56))
    obtain⟨sb,hsb⟩:=eX w2.heap.size
    have T7:aC (λ_=>False) w2 w7:=by rw[hw7];exact (aC.refl _ _).alloc _
    have HSB7:Hid (aL w7 sb 56 #[.slice none 0 0,.slice none 0 0]):=aB (by rw[hw7,hsb];exact aL.new _ _ _)
    have HT7:=aB (HT1.then (T2.then T7))
    have HW7:=aB hw7
    have HB7:=aB hsb
    have HA7:=aB (HAL w7 HT7)
    clear T2 T7 hw7 hsb hno
    go_upto_region 5 with fail
    rw[<-HW7.out,<-HB7.out]
    go_wp2_with fail
    refine HA7.mono ?_
    rintro e w8 ⟨rfl,T8⟩
    have HT3:=aB (HT7.then T8)
    have HSB8:=aB (HSB7.touch T8 (λf=>f))
    have HS8:Hid (∀ wx,aL wx sb 56 #[.slice none 0 0,.slice none 0 0]->wx.cell? ⟨sb,0,none⟩=some (.slice none 0 0)/\wx.cell? ⟨sb,1,none⟩=some (.slice none 0 0)):=aB (λwx h1=>⟨(h1.cell 0).trans rfl,(h1.cell 1).trans rfl⟩)
    clear T8 HA7
    go_upto_region 7 with fail
    refine wp_region_held_drew (S:=λwx=>wx.cell? ⟨sb,0,none⟩=some (.slice none 0 0)/\wx.cell? ⟨sb,1,none⟩=some (.slice none 0 0)) (by kernel_rfl) (HS8 _ (HSB8.drew)) (λhHeld=>?_)
    refine wpAnyH_take (i:=0) (v:=?vn0) rfl (by kernel_rfl) (by kernel_rfl) (by kernel_rfl) (λ_ _ _ h=>h) (Or.inl ⟨by kernel_rfl,?hn0⟩) hHeld ?_
    case hn0=>rintro wq ⟨s0,s1⟩;go_simp;with_reducible rfl
    simp only[qXa,qQa,qZa,Act.put,qJa,qZb,qQb]
    refine wpAnyH_take (i:=1) (v:=?vn1) rfl (by kernel_rfl) (by kernel_rfl) (by kernel_rfl) (λ_ _ _ h=>h) (Or.inl ⟨by kernel_rfl,?hn1⟩) hHeld ?_
    case hn1=>rintro wq ⟨s0,s1⟩;go_simp;with_reducible rfl
    simp only[qXa,qQa,qZa,Act.put,qJa,qZb,qQb]
    refine wpAnyH_take (i:=2) (v:=?vn2) rfl (by kernel_rfl) (by kernel_rfl) (by kernel_rfl) (λ_ _ _ h=>h) (Or.inl ⟨by kernel_rfl,?hn2⟩) hHeld ?_
    case hn2=>rintro wq ⟨s0,s1⟩;go_simp;with_reducible rfl
    simp only[qXa,qQa,qZa,Act.put,qJa,qZb,qQb]
    refine wpAnyH_take (i:=3) (v:=undef) rfl (by kernel_rfl) (by kernel_rfl) (by kernel_rfl) (λ_ _ _ h=>h) (Or.inr ⟨by kernel_rfl,rfl⟩) hHeld ?_
    simp only[qXa,qQa,qZa,Act.put,qJa,qZb,qQb]
    refine wpAnyH_take (i:=4) (v:=undef) rfl (by kernel_rfl) (by kernel_rfl) (by kernel_rfl) (λ_ _ _ h=>h) (Or.inr ⟨by kernel_rfl,rfl⟩) hHeld ?_
    simp only[qXa,qQa,qZa,Act.put,qJa,qZb,qQb]
    refine wpAnyH_take (i:=5) (v:=undef) rfl (by kernel_rfl) (by kernel_rfl) (by kernel_rfl) (λ_ _ _ h=>h) (Or.inr ⟨by kernel_rfl,rfl⟩) hHeld ?_
    simp only[qXa,qQa,qZa,Act.put,qJa,qZb,qQb]
    refine wpAnyH_take (i:=6) (v:=undef) rfl (by kernel_rfl) (by kernel_rfl) (by kernel_rfl) (λ_ _ _ h=>h) (Or.inr ⟨by kernel_rfl,rfl⟩) hHeld ?_
    simp only[qXa,qQa,qZa,Act.put,qJa,qZb,qQb]
    refine wpAnyH_take (i:=7) (v:=undef) rfl (by kernel_rfl) (by kernel_rfl) (by kernel_rfl) (λ_ _ _ h=>h) (Or.inr ⟨by kernel_rfl,rfl⟩) hHeld ?_
    simp only[qXa,qQa,qZa,Act.put,qJa,qZb,qQb]
    refine wpAnyH_take (i:=8) (v:=undef) rfl (by kernel_rfl) (by kernel_rfl) (by kernel_rfl) (λ_ _ _ h=>h) (Or.inr ⟨by kernel_rfl,rfl⟩) hHeld ?_
    simp only[qXa,qQa,qZa,Act.put,qJa,qZb,qQb]
    refine wpAnyH_take (i:=9) (v:=undef) rfl (by kernel_rfl) (by kernel_rfl) (by kernel_rfl) (λ_ _ _ h=>h) (Or.inr ⟨by kernel_rfl,rfl⟩) hHeld ?_
    simp only[qXa,qQa,qZa,Act.put,qJa,qZb,qQb]
    refine wpAnyH_take (i:=10) (v:=undef) rfl (by kernel_rfl) (by kernel_rfl) (by kernel_rfl) (λ_ _ _ h=>h) (Or.inr ⟨by kernel_rfl,rfl⟩) hHeld ?_
    simp only[qXa,qQa,qZa,Act.put,qJa,qZb,qQb]
    refine wpAnyH_take (i:=11) (v:=undef) rfl (by kernel_rfl) (by kernel_rfl) (by kernel_rfl) (λ_ _ _ h=>h) (Or.inr ⟨by kernel_rfl,rfl⟩) hHeld ?_
    simp only[qXa,qQa,qZa,Act.put,qJa,qZb,qQb]
    refine wpAnyH_take (i:=12) (v:=undef) rfl (by kernel_rfl) (by kernel_rfl) (by kernel_rfl) (λ_ _ _ h=>h) (Or.inr ⟨by kernel_rfl,rfl⟩) hHeld ?_
    simp only[qXa,qQa,qZa,Act.put,qJa,qZb,qQb]
    refine wpAnyH_take (i:=13) (v:=undef) rfl (by kernel_rfl) (by kernel_rfl) (by kernel_rfl) (λ_ _ _ h=>h) (Or.inr ⟨by kernel_rfl,rfl⟩) hHeld ?_
    simp only[qXa,qQa,qZa,Act.put,qJa,qZb,qQb]
    refine wpAnyH_take (i:=14) (v:=?vn14) rfl (by kernel_rfl) (by kernel_rfl) (by kernel_rfl) (λ_ _ _ h=>h) (Or.inl ⟨by kernel_rfl,?hn14⟩) hHeld ?_
    case hn14=>rintro wq ⟨s0,s1⟩;go_simp;with_reducible rfl
    simp only[qXa,qQa,qZa,Act.put,qJa,qZb,qQb]
    refine wpAnyH_take (i:=15) (v:=?vn15) rfl (by kernel_rfl) (by kernel_rfl) (by kernel_rfl) (λ_ _ _ h=>h) (Or.inl ⟨by kernel_rfl,?hn15⟩) hHeld ?_
    case hn15=>rintro wq ⟨s0,s1⟩;go_simp;with_reducible rfl
    simp only[qXa,qQa,qZa,Act.put,qJa,qZb,qQb]
    refine wpAnyH_done (by kernel_rfl) ?_ _
    go_wp2_with fail
    go_ret
    exact⟨rfl,HT3.drew⟩
 ·have k2:(3000:Int)<(n:Int):=by omega
  have HA2:=aB (HAL W (aC.refl _ _))
  clear hbig hL hR hl hnc hcm hA
  go_in
  go_wp2_with fail
  refine HA2.mono ?_
  rintro e w3 ⟨rfl,T3⟩
  have HT3:=aB T3
  clear T3
  go_wp2_with fail
  go_ret
  exact⟨rfl,HT3⟩
section
open Go.RowKit Go.ChangeShapes Go.WideShapes Go.ChangeAt
theorem Tryz.own:ownKnob Tryz.prog.godebug=none:=by kernel_rfl
theorem Tryz.laidOut:laidOutB Tryz.prog=true:=by kernel_rfl
theorem Sj{P:Program}{f:FuncId}{args:Array Value}{W:World}(h:Calls P f args W λe W'=>e=.returned (.bool true)/\aC (λ_=>False) W W'):Calls P f args W λe W'=>e=.returned (.bool true)/\Below W.heap.size W W' :=
 h.mono (by rintro e W' ⟨rfl,T⟩;exact⟨rfl,T.below (qXb _) (λ_ _ f=>f)⟩)
end
theorem aHa{a b:Bool}(ha:a=true)(hb:b=true):(a && b)=true:=by rw[ha,hb];rfl
theorem aDn:Tryz.pinned.checked.prog.mainIs=some (true,"b77970bafad3625c7a6c41321677aa064966117ab5676fe04803710f66b42c4f".toList):=by kernel_rfl
theorem aAc:true=Tryz.pinned.checked.prog.looks []:=by kernel_rfl
section
open Go.RowKit Go.ChangeShapes Go.WideShapes Go.ChangeAt
section
variable{H:Type}{enc:TypeId × Value->H}{P:Program}{w:World}{base:Nat}{spare:Nat->Bool}{held:Bool}
end
instance byteInh:Inhabited UInt8:=⟨0⟩
theorem Qs(l:List UInt8):l.flatMap (λb:UInt8=>[aP b])=l.map aP:=by
 induction l with
 | nil=>rfl
 | cons a l ih=>rw[List.flatMap_cons,ih];rfl
section
variable{H:Type}{enc:TypeId × Value->H}{w:World}{base:Nat}{spare:Nat->Bool}{held:Bool}
theorem Li(n:Nat)(cs:List Value)(y:DataW H × List MemPlace)(_:cs.length=1)(h:DataW.trod enc Tryz.prog w base spare held n 5 cs=some y):∃ b:UInt8,cs=[aP b]/\True:=by
 obtain⟨x,hx,_,hw⟩:=DataW.trod_int Tryz.underlying5 h
 have h8:0<=x/\x<256:=by
  simp[Lit.wf,IntKind.min,IntKind.max,IntKind.signed,IntKind.bits] at hw
  omega
 refine⟨UInt8.ofNat x.toNat,?_,trivial⟩
 have e:aP (UInt8.ofNat x.toNat)=.int .u8 x:=by
  unfold aP
  rw[UInt8.toNat_ofNat',Nat.mod_eq_of_lt (by omega),show ((x.toNat:Nat):Int)=x by omega]
 rw[e]
 exact hx
theorem Ig{r:Reach}{b0:Nat}{v:Value}{d:DataW H}{p:List MemPlace}(hv:Value.okWide Tryz.prog w r b0 50 v)(h:DataW.Trod enc Tryz.prog w base spare held 50 v d p) :
  ∃ (A:Option Addr) (n c:Nat) (bs:List UInt8),v=.slice A n c/\aI w 1 A n (bs.map aP)/\bs.length=n/\n<=c/\c<=maxLen/\(A=none->n=0/\c=0):=by
 obtain⟨a0,len,cap,rfl⟩:=okWide_slice Tryz.underlying50 hv
 obtain⟨fuel,hf⟩:=h
 obtain⟨A,len',cap',l,hcs,hl,hlc,hm,hn,hr,hw⟩:=Rw (λb:UInt8=>[aP b]) (λ_=>True) 1 (λ_=>rfl) (by decide) Tryz.underlying50 (by kernel_rfl) Li hf
 simp[Value.cells] at hcs
 obtain⟨rfl,rfl,rfl⟩:=hcs
 exact⟨_,_,_,l,rfl,by rw[<-Qs];exact hr,hl,hlc,hm,hn⟩
end
end
end Go.Proofs.YthockgmbooefpaaGreatDoor
