/- What the law rests on, part 18. No condition but those that each theorem names. -/
import Derived.Test.YthockgmbooefpaaGreatDoorM17
import Derived.Deep.RegionHeld3
import Derived.Test.YthockgmbooefpaaGreatDoorM16
import Derived.Test.YthockgmbooefpaaGreatDoorM14
set_option linter.unusedSectionVars false
set_option linter.unusedSimpArgs false
set_option linter.unusedVariables false
set_option maxRecDepth 100000
set_option maxHeartbeats 16000000
namespace Go.Proofs.YthockgmbooefpaaGreatDoor
open Int renaming le_refl → qJa
open IntWalk renaming i64_in → qQa, u64_in → qQb
open List renaming all_eq_true → qXa, length_map → qZb, mem_append → qXb, mem_singleton → qJb
open Nat renaming zero_le → qZa, le_trans → qQc
variable{w:World}
open Go.RowKit
theorem An(w:World)(p:Nat)(st:Option (List UInt8))(h:RS w p st)(most:Nat){a:Nat}{s2:Option (List UInt8)}(hu:uX most st=(a,s2)) :
  Calls Tryz.prog 57 #[.pointer (some ⟨p,0,none⟩),.int .u64 most] w λe w'=>e=.returned (.int .u64 (a:Nat))/\RS w' p s2/\aC (λg=>g=p) w w':=by
 have:=aEq w p st h most
 rw[hu] at this
 exact this
theorem RS.touchW{w':World}{p:Nat}{S:Nat->Prop}{st:Option (List UInt8)}(h:RS w p st)(T:aC S w w')(h1:¬ S p)(h2:∀ g,bE w g 5 -> ¬ S g):RS w' p st:=RS.touch T h1 h2 h
theorem RS.row{w':World}{p:Nat}{st:Option (List UInt8)}(h:RS w p st){g1:Nat}(hg1:bE w g1 110)(T:aC (λg=>g=g1) w w'):RS w' p st :=
 h.touchW T (λe=>h.ty.ne hg1 (by decide) e) (λg hg e=>hg.ne hg1 (by decide) e)
theorem We(w:World)(hL:dN w)(b:List UInt8)(A:Option Addr)(n c:Nat)(hrd:aI w 1 A n (b.map aP))(hl:b.length=n)(hnc:n<=c)(hcm:c<=maxLen)(hn:n<=35184372088832) :
  Calls Tryz.prog 19 #[.slice A n c] w λe w'=>aFe b w e w':=by
 obtain⟨i0,hi0,hz0,hz1,hz2⟩:=aO Tryz.infoRow
 have HUS:=aB (Yr w A n c b hrd hl hnc hcm hn)
 have HL:=aB hL
 clear hrd hl hnc hcm hL
 go_in
 go_wp2_with fail
 refine HUS.mono ?_
 rintro e w1 (⟨x,t,A1,c1,hun,hxl,htn,rfl,h1⟩ | ⟨hun,k,hk,rfl,T1⟩)
 ·obtain⟨nk,hnk⟩:∃ y:Int,y=(n:Int)-(t.length:Nat):=⟨_,rfl⟩
  rw[<-hnk]
  have HT1:=aB h1.touch
  by_cases ht:nk=(n:Int)
  ·have ht0:t=[]:=List.eq_nil_of_length_eq_zero (by omega)
   subst ht0
   subst ht
   have HUN:=aB hun
   have HXL:=aB hxl
   have HRE:=aB (aEf w1 A1 x.length c1 x (aI.of_own h1.own) rfl (by omega))
   clear h1 HUS hun hxl htn hnk hn
   go_wp2_with fail
   refine HRE.mono ?_
   rintro e w2 ⟨p,A2,n2,c2,rfl,hrg,hty,hp2,T2⟩
   have HBY:=aB (Zu w2 p A2 n2 c2 x hrg (by rw[<-hrg.len];have:=HXL.out;omega) hty)
   have HT2:=aB (HT1.then T2)
   have HPY:Hid (w.heap.size<=p):=aB (qQc HT1.size hp2)
   clear hrg hty hp2 T2 HRE
   go_wp2_with fail
   refine HBY.mono ?_
   rintro e w3 ⟨m,st,AX,cX,rfl,hrm,hml,hby,hrs,T3⟩
   have HR3:=aB hrs
   have HBR:=aB hby
   have HT3:=aB (HT2.trans T3 (λi hi e=>by have:=HPY.out;omega))
   have HUK:=aB (Yq w3 (dN.touch HL HT3) AX m.length cX m hrm rfl (by omega))
   clear hrm hml hby hrs T3 HBY
   go_wp2_with fail
   refine HUK.mono ?_
   rintro e w4 ⟨base,A4,n4,c4,Z,wrg,rfl,hst,hma,T4⟩
   obtain⟨w5,hw5⟩:=eX (w4.alloc (.cells #[.int .i64 base,.slice A4 n4 c4] 89))
   obtain⟨gm,hgm⟩:=eX w4.heap.size
   have T5:aC (λ_=>False) w4 w5:=by rw[hw5];exact (aC.refl _ _).alloc _
   have HJ5:Hid (Tp w w5 p gm base A4 n4 c4 Z none 0 0 []):=aB ⟨World.ownsRow_nil _ _ _ _,λg hg=>by simp[Value.ownBlock] at hg,by rw[hw5,hgm];exact aL.new _ _ _,hst.quiet T5,HT3.then (T4.then T5),HPY⟩
   have HR5:=aB ((HR3.quiet T4).quiet T5)
   have HMA:=aB hma
   have HW5:=aB hw5
   have HGM:=aB hgm
   obtain⟨kk,s2,huk⟩:∃ a s,uX 4096 st=(a,s):=⟨_,_,rfl⟩
   have hkn:kk<=4096:=by have:=@aHk 4096 st;rw[huk] at this;exact this
   have HKN:=aB hkn
   have HRW:Hid (rwX st=cF kk s2):=aB (by unfold rwX;rw[huk])
   have HU5:=aB (An w5 p st HR5 4096 huk)
   clear T4 hst hma hw5 hgm T5 HUK huk hkn
   go_upto_region 6 with fail
   rw[<-HW5.out,<-HGM.out]
   go_wp2_with fail
   refine HU5.mono ?_
   rintro e w6 ⟨rfl,h6,T6⟩
   have HR6:=aB h6
   have HJ6:=aB (HJ5.rd (HR5.ty) T6)
   clear h6 T6 HU5
   go_wp2_with fail
   go_loopw [10,42] (λrv iv wr=>∃ (i:Nat) (A':Option Addr) (c':Nat),rv=.slice A' i c'/\iv=.int .u64 i/\i<=kk/\Hid (Tp w wr p gm base A4 n4 c4 Z A' i c' (cF i s2).1)/\Hid (RS wr p (cF i s2).2)) (λ_ iv _=>kk-(intOf iv).toNat)
   case atStart=>exact⟨0,none,0,rfl,rfl,qZa _,HJ6,HR6⟩
   case round =>
    obtain⟨i,A',c',rfl,rfl,hi',HJ,HR⟩:=hrel
    obtain⟨wo,hwo⟩:=eX wr
    subst hwo
    by_cases hi:i<kk
    ·have y0:(i:Int)<(kk:Int):=by omega
     have y1:(0:Int)<=(i:Int):=by omega
     have y2:IntKind.u64.wrap ((i:Int)+1)=(i:Int)+1:=qQb _ (by have:=HKN.out;omega)
     obtain⟨si,hsi⟩:=eX ((cF i s2).2)
     obtain⟨sn,sA,hua⟩:∃ a s,uX 18446744073709551615 si=(a,s):=⟨_,_,rfl⟩
     obtain⟨cn,sB,hub⟩:∃ a s,uX 65535 sA=(a,s):=⟨_,_,rfl⟩
     obtain⟨an,sC,huc⟩:∃ a s,uX 18446744073709551615 sB=(a,s):=⟨_,_,rfl⟩
     obtain⟨hn,sD,hud⟩:∃ a s,uX 1048576 sC=(a,s):=⟨_,_,rfl⟩
     have hrw:tX si=(⟨(sn:Int),(cn:Int),(an:Int),(hn:Int)⟩,sD):=by
      unfold tX
      rw[hua]
      simp only
      rw[hub]
      simp only
      rw[huc]
      simp only
      rw[hud]
     have HTK:Hid ((cF (i+1) s2).1=(cF i s2).1++[⟨(sn:Int),(cn:Int),(an:Int),(hn:Int)⟩]):=aB (by simp only[cF];rw[<-hsi,hrw])
     have HST:Hid ((cF (i+1) s2).2=sD):=aB (by simp only[cF];rw[<-hsi,hrw])
     have hcn:cn<=65535:=by have:=@aHk 65535 sA;rw[hub] at this;exact this
     have hhn:hn<=1048576:=by have:=@aHk 1048576 sC;rw[hud] at this;exact this
     have z2:IntKind.i64.wrap (cn:Int)=(cn:Int):=qQa _ (by omega)
     have z3:IntKind.i64.wrap (hn:Int)=(hn:Int):=qQa _ (by omega)
     rw[<-hsi] at HR
     have HUB:=aB hub
     have HUC:=aB huc
     have HUD:=aB hud
     have HU1:=aB (An wo p si HR 18446744073709551615 hua)
     have HPT1:=aB HR.ty
     have HI:=aB hi
     clear hrw hsi hua hub huc hud hcn hhn hi hi'
     go_wp2_with fail
     refine HU1.mono ?_
     rintro e w7 ⟨rfl,h7,T7⟩
     obtain⟨w8,hw8⟩:=eX (w7.alloc (.cells #[.int .u64 (sn:Int),.int .i64 0,.int .u64 0,.int .i64 0] 110))
     obtain⟨gr,hgr⟩:=eX w7.heap.size
     have T8:aC (λ_=>False) w7 w8:=by rw[hw8];exact (aC.refl _ _).alloc _
     have HRW8:Hid (aL w8 gr 110 #[.int .u64 (sn:Int),.int .i64 0,.int .u64 0,.int .i64 0]):=aB (by rw[hw8,hgr];exact aL.new _ _ _)
     have HJ7:=aB (HJ.rd HPT1 T7)
     have HJ8:=aB (HJ7.quiet T8)
     have HR8:=aB (h7.quiet T8)
     have HGY:Hid (w.heap.size<=gr/\∀ g,(Value.slice A' i c').ownBlock=some g->¬ g=gr):=aB ⟨by rw[hgr];exact HJ7.t.size,λg hg e=>by have:=(aH HJ7.own hg).lt;omega⟩
     have HU2:=aB (An w8 p sA HR8 65535 HUB)
     have HW8:=aB hw8
     have HGR:=aB hgr
     clear h7 T7 T8 hw8 hgr HU1
     go_upto_region 10 with fail
     rw[<-HW8.out,<-HGR.out]
     go_wp2_with fail
     refine HU2.mono ?_
     rintro e w9 ⟨rfl,h9,T9⟩
     have HRW9:=aB (HRW8.touch T9 (λe=>(aF HRW8).ne (HR8.ty) (by decide) e))
     have HJ9:=aB (HJ8.rd (HR8.ty) T9)
     have HR9:=aB h9
     clear h9 T9 HU2
     obtain⟨f0,f1,f2⟩:=HRW9.facts
     go_upto_region 11 with fail
     obtain⟨wb,hwb⟩:=eX (w9.setCell ⟨gr,1,none⟩ (.int .i64 (cn:Int)))
     have Tb:aC (λg=>g=gr) w9 wb:=by rw[hwb];exact (aC.refl (λg=>g=gr) w9).setCell (p:=⟨gr,1,none⟩) (λ_=>rfl) _
     have HRWb:Hid (aL wb gr 110 #[.int .u64 (sn:Int),.int .i64 (cn:Int),.int .u64 0,.int .i64 0]):=aB (by rw[hwb];simpa using HRW9.set_ 1 (.int .i64 (cn:Int)))
     have HJb:=aB (HJ9.row (aF HRW9) HGY.1 HGY.2 Tb)
     have HRb:=aB (HR9.row (aF HRW9) Tb)
     have HU3:=aB (An wb p sB HRb 18446744073709551615 HUC)
     rw[<-hwb]
     clear hwb Tb f0 f1 f2
     go_wp2_with fail
     refine HU3.mono ?_
     rintro e wc ⟨rfl,hc,Tc⟩
     have HRWc:=aB (HRWb.touch Tc (λe=>(aF HRWb).ne (HRb.ty) (by decide) e))
     have HJc:=aB (HJb.rd (HRb.ty) Tc)
     have HRc:=aB hc
     clear hc Tc HU3
     obtain⟨f0,f1,f2⟩:=HRWc.facts
     go_upto_region 12 with fail
     obtain⟨wd,hwd⟩:=eX (wc.setCell ⟨gr,2,none⟩ (.int .u64 (an:Int)))
     have Td:aC (λg=>g=gr) wc wd:=by rw[hwd];exact (aC.refl (λg=>g=gr) wc).setCell (p:=⟨gr,2,none⟩) (λ_=>rfl) _
     have HRWd:Hid (aL wd gr 110 #[.int .u64 (sn:Int),.int .i64 (cn:Int),.int .u64 (an:Int),.int .i64 0]):=aB (by rw[hwd];simpa using HRWc.set_ 2 (.int .u64 (an:Int)))
     have HJd:=aB (HJc.row (aF HRWc) HGY.1 HGY.2 Td)
     have HRd:=aB (HRc.row (aF HRWc) Td)
     have HU4:=aB (An wd p sC HRd 1048576 HUD)
     rw[<-hwd]
     clear hwd Td f0 f1 f2
     go_wp2_with fail
     refine HU4.mono ?_
     rintro e we ⟨rfl,he,Te⟩
     have HRWe:=aB (HRWd.touch Te (λe=>(aF HRWd).ne (HRd.ty) (by decide) e))
     have HJe:=aB (HJd.rd (HRd.ty) Te)
     have HRe:=aB he
     clear he Te HU4
     obtain⟨f0,f1,f2⟩:=HRWe.facts
     go_upto_region 13 with fail
     obtain⟨wf,hwf⟩:=eX (we.setCell ⟨gr,3,none⟩ (.int .i64 (hn:Int)))
     have Tf:aC (λg=>g=gr) we wf:=by rw[hwf];exact (aC.refl (λg=>g=gr) we).setCell (p:=⟨gr,3,none⟩) (λ_=>rfl) _
     have HRWf:Hid (aL wf gr 110 #[.int .u64 (sn:Int),.int .i64 (cn:Int),.int .u64 (an:Int),.int .i64 (hn:Int)]):=aB (by rw[hwf];simpa using HRWe.set_ 3 (.int .i64 (hn:Int)))
     have HJf:=aB (HJe.row (aF HRWe) HGY.1 HGY.2 Tf)
     have HRf:=aB (HRe.row (aF HRWe) Tf)
     rw[<-hwf]
     clear hwf Tf f0 f1 f2
     obtain⟨f0,f1,f2⟩:=HRWf.facts
     go_wp2_with (at_builtin;refine aR _ rfl (.tmp 61) (.tmp 63) 106 rfl 110 i0 _ 4 32 Tryz.underlying106 hi0 hz0 hz1 hz2 rfl (by decide) (.slice A' i c') i _ rfl (aD HJf.own ((aC.refl _ _).alloc _) (λ_ _ f=>f)) (some ⟨_,0,none⟩) 1 1 (aU.cells ⟨(sn:Int),(cn:Int),(an:Int),(hn:Int)⟩) rfl ?s1a ?s1b ?s1c ?s1d ?s1e ?_)
     case s1a =>
      have h:=aI.new (size:=4) wf 110 [.int .u64 (sn:Int),.int .i64 (cn:Int),.int .u64 (an:Int),.int .i64 (hn:Int)] 1 rfl
      simpa [aU.cells] using h
     try (case s1b=>exact λh=>by cases h)
     case s1c=>exact List.all_eq_true.1 rfl
     case s1d=>have:=HI.out;have:=HKN.out;unfold maxLen;omega
     case s1e=>have:=HI.out;have:=HKN.out;omega
     intro vg wg hown hgrow hfr _
     obtain⟨AG,cG,hvg,_,_⟩:=aX hown
     subst hvg
     have Tg:aC (λg=>(Value.slice A' i c').ownBlock=some g) wf wg:=((aC.refl (λg=>(Value.slice A' i c').ownBlock=some g) wf).alloc _).grown hgrow (λk hk _=>hk)
     have HJg:Hid (Tp w wg p gm base A4 n4 c4 Z AG (i+1) cG (cF (i+1) s2).1):=aB (by
      refine⟨by rw[HTK.out,mD];exact hown,λg hg=>?_,HJf.mb.touch Tg (jC HJf.own HJf.mb (by decide)),HJf.z.far Tg (λg t hg ht e=>hg.ne (aH HJf.own e) (by rcases ht with rfl | rfl | rfl | rfl | rfl<;>decide) rfl),HJf.t.trans Tg (λg hg e=>by have:=HJf.fr g e;omega),HJf.py⟩
      rcases hfr with e | ⟨g',e,hg'⟩
      ·exact HJf.fr g (by rw[<-e];exact hg)
      ·rw[hg] at e
       injection e with e
       have:=HJf.t.size
       simp at hg'
       omega)
     have HRg:=aB (HRf.touchW Tg (λe=>(aH HJf.own e).ne HRf.ty (by decide) rfl) (λg hg e=>hg.ne (aH HJf.own e) (by decide) rfl))
     clear hown hgrow hfr Tg
     go_wp2_with fail
     go_roundw
     ·exact⟨i+1,AG,cG,rfl,by simp,by have:=HI.out;omega,HJg,by rw[HST.out];exact HRg⟩
     ·have:=HI.out
      simp only[intOf]
      omega
    ·have y0:¬ (i:Int)<(kk:Int):=by omega
     have hie:i=kk:=by omega
     subst hie
     obtain⟨Rt,hRt⟩:=eX ((cF i s2).1)
     obtain⟨sz,hsz⟩:=eX ((cF i s2).2)
     rw[<-hRt] at HJ
     rw[<-hsz] at HR
     have hrl:i=Rt.length:=by rw[hRt,pL]
     have HQ:Hid (∀ m' R',mT b=some (m',R')->m=m'/\R'=Rt/\sz=some []/\R'.all dR=true):=aB (λm' R' h=>by
      obtain⟨h1,h2,h3,h4⟩:=kF h HUN HBR
      rw[HRW.out] at h2 h3
      exact⟨h1,by rw[h2,hRt],by rw[hsz,h3],h4⟩)
     have HK:Hid (sz=some []->Rt.all dR=true->mT b=some (m,Rt)):=aB (λh1 h2=>by
      have:=yT HUN HBR (by rw[HRW.out,<-hsz];exact h1) (by rw[HRW.out,<-hRt];exact h2)
      rw[HRW.out,<-hRt] at this
      exact this)
     have HSL:=aB (Xw wo A' i c' Rt hrl (aI.of_own HJ.own) (jD HJ.own) HKN)
     have HRK:=aB hrl
     have hwrg:wrg=0\/wrg=80:=by rcases HMA.out with⟨h,_⟩ | ⟨h,_⟩<;>omega
     clear hi hi' hRt hsz hrl
     go_wp2_with fail
     refine HSL.mono ?_
     rintro e w7 ⟨T7,hsl⟩
     rcases hsl with⟨hbad,rfl⟩ | ⟨hgd,tb,v,rfl,htb,hty,hvy⟩
     ·have HNO:Hid (∀ L R,¬ lH b L R):=aB (λL R h=>by
       obtain⟨_,h2,_,h4⟩:=HQ.out _ _ (fG h)
       rw[h2,hbad] at h4
       cases h4)
      have HT7:=aB (HJ.t.then T7)
      have HEN:=aB (aCr w7 p sz (HR.quiet T7))
      clear T7 hbad HSL
      go_wp2_with fail
      refine HEN.mono ?_
      rintro e w8 ⟨x8,rfl,hx8,rfl⟩
      clear hx8
      rcases hwrg with hw0 | hw0
      ·subst hw0
       by_cases hx:x8=0
       ·subst hx
        go_wp2_with fail
        go_ret2
        exact⟨HT7,.inr ⟨HNO,rfl⟩⟩
       ·have y5:(x8 == 0)=false:=by simp;exact hx
        go_wp2_with fail
        go_ret2
        exact⟨HT7,.inr ⟨HNO,rfl⟩⟩
      ·subst hw0
       by_cases hx:x8=0
       ·subst hx
        go_wp2_with fail
        go_ret2
        exact⟨HT7,.inr ⟨HNO,rfl⟩⟩
       ·have y5:(x8 == 0)=false:=by simp;exact hx
        go_wp2_with fail
        go_ret2
        exact⟨HT7,.inr ⟨HNO,rfl⟩⟩
     ·have HTB:=aB htb
      have HYB:Hid (w.heap.size<=tb/\∀ g,v.ownBlock=some g->w.heap.size<=g):=aB ⟨qQc HJ.t.size hty,λg hg=>qQc HJ.t.size (hvy g hg)⟩
      have HJ7:=aB (HJ.quiet T7)
      have HGD:=aB hgd
      have HEN:=aB (aCr w7 p sz (HR.quiet T7))
      clear T7 htb hty hvy hgd HSL
      go_wp2_with fail
      refine HEN.mono ?_
      rintro e w8 ⟨x8,rfl,hx8,rfl⟩
      by_cases hx:x8=0
      ·have hsz:=hx8.1 hx
       subst hx
       have hld:=HK.out hsz HGD
       have HLD:=aB hld
       clear hx8 hsz hld HEN
       rcases HMA.out with⟨hw0,L,hD,hmB,hbs,hzm⟩ | ⟨hw0,hno⟩
       ·subst hw0
        have HIM:=aB (tK HLD hD hmB)
        have HD:=aB hD
        have HM7:=aB (HJ7.mb)
        have hdn:=xX w8 (dN.touch HL HJ7.t) L hD A4 n4 c4 Z HJ7.z hzm
        rw[hbs] at hdn
        have HDN:=aB hdn
        clear hdn hD hmB hbs hzm hwrg
        obtain⟨f0,f1,f2⟩:=HM7.facts
        go_wp2_with fail
        refine HDN.mono ?_
        rintro e w9 ⟨b9,A9,c9,Z9,wA9,wc9,rfl,hdw,hni⟩
        have T9:=hni.touch
        have HDW:=aB hdw
        have HT9:=aB (HJ7.t.then T9)
        have HTB9:=aB (HTB.touch T9 (λf=>f) (λ_ _ f=>f))
        have HAA:=aB (Nw w9 b9)
        clear hdw hni T9 HDN f0 f1 f2
        go_wp2_with fail
        refine HAA.mono ?_
        rintro e wa ⟨B,rfl,hB,Ta⟩
        have HCO:=aB (uU (dN.touch HL (HT9.then Ta)) (HDW.quiet Ta) HD B hB)
        have HTa:=aB (HT9.then Ta)
        have HTBa:=aB (HTB9.touch Ta (λf=>f) (λ_ _ f=>f))
        clear hB Ta HAA
        go_wp2_with fail
        refine HCO.mono ?_
        rintro e wb ⟨AP,cP,rfl,hP⟩
        have HTb:=aB (HTa.then hP.touch)
        have HTBb:=aB (HTBa.touch hP.touch (λf=>f) (λ_ _ f=>f))
        have hld:=Ce wb (dN.touch HL HTb) ⟨AP,L.length,cP,L⟩ (sJ hP.own) (λr hr=>xW HD r hr) (by have:=HD.len;unfold maxLen;simp only;omega)
        simp only[SL.val] at hld
        have HDL2:=aB hld
        clear hP hld HCO
        go_wp2_with fail
        refine HDL2.mono ?_
        rintro e wd (⟨hr,_⟩ | ⟨_,d,rfl,hd,hdl,Td⟩)
        ·rw[zJ HD.out] at hr
         cases hr
        ·have HDD:=aB hd
         have HTd:=aB (HTb.then Td)
         have HTBd:=aB (HTBb.touch Td (λf=>f) (λ_ _ f=>f))
         have HDL:Hid (w.heap.size<=d):=aB (qQc HTb.size hdl)
         clear hd hdl Td HDL2
         go_wp2_with fail
         go_ret2
         exact⟨HTd.alloc _,.inl ⟨L,Rt,wd.heap.size,d,tb,v,HIM,rfl,⟨aL.new _ _ _,HDD.quiet ((aC.refl _ _).alloc _),HTBd.alloc _,by rw[<-HRK.out];exact HKN⟩,HDL,HYB.1,HYB.2⟩⟩
       ·subst hw0
        have HNO:Hid (∀ L R,¬ lH b L R):=aB (λL R h=>by
         obtain⟨h1,_⟩:=HQ.out _ _ (fG h)
         exact hno L h.dict h1.symm)
        clear hno hwrg
        go_wp2_with fail
        go_ret2
        exact⟨HJ7.t,.inr ⟨HNO,rfl⟩⟩
      ·have y5:(x8 == 0)=false:=by simp;exact hx
       have HNO:Hid (∀ L R,¬ lH b L R):=aB (λL R h=>by
        obtain⟨_,_,h3,_⟩:=HQ.out _ _ (fG h)
        exact hx (hx8.2 h3))
       clear hx8 HEN hwrg
       go_wp2_with fail
       go_ret2
       exact⟨HJ7.t,.inr ⟨HNO,rfl⟩⟩
  ·have y0:(nk == (n:Int))=false:=by simp;exact ht
   have HNO:Hid (∀ L R,¬ lH b L R):=aB (Ev (sG (λx' h=>by
    rw[hun] at h
    simp only[Option.some.injEq,Prod.mk.injEq] at h
    rw[h.2] at hnk
    simp at hnk
    exact ht hnk)))
   clear hun hxl htn hnk h1 HUS hn
   go_wp2_with fail
   go_ret2
   exact⟨HT1,.inr ⟨HNO,rfl⟩⟩
 ·have y0:(k == 0)=false:=by simp;omega
  have y1:¬ k=0:=by omega
  have HT1:=aB T1
  have HNO:Hid (∀ L R,¬ lH b L R):=aB (Ev (sG (λx' h=>by rw[hun] at h;cases h)))
  clear hun T1 HUS hn hk
  go_wp2_with fail
  go_ret2
  exact⟨HT1,.inr ⟨HNO,rfl⟩⟩
section
variable[Inhabited eF]
def aGy(xs:List UInt8)(w:World)(e:Ending)(w':World):Prop:=aC (λ_=>False) w w' /\
 ((∃ (bn:Nat) (sts:List bP) (A:Option Addr) (n c:Nat) (Z:List ZV),bn<=1048576/\jZ sts (bn:Int)/\xs=eU bn sts/\e=.returned (.tuple #[.agg #[.int .i64 bn,.slice A n c],.int .i64 0])/\iT w' A n Z/\Z.map ZV.p=sts.map bP.z) \/
   (¬ wX xs/\e=.returned (.tuple #[.agg #[.int .i64 0,.slice none 0 0],.int .i64 80])))
def aFd(Z:List ZV):Prop:=∀ z∈Z,∀ a∈z.arcs,Kr a.1
theorem Jb(w:World)(A:Option Addr)(n c:Nat)(xs:List UInt8)(hr:aI w 1 A n (xs.map aP))(hl:xs.length=n)(hn:n<=1099511627776)(hnc:n<=c)(hA:A=none->n=0/\c=0)(hbs:bs<=w.heap.size) :
  Calls Tryz.prog 74 #[.slice A n c] w λe w'=>aGy xs w e w':=by
 obtain⟨i1,hi1,hy0,hy1,hy2⟩:=aO Et
 obtain⟨i2,hi2,hz0,hz1,hz2⟩:=aO wI
 obtain⟨w1,hw1⟩:=eX (((w.alloc (.cells #[.int .i64 0,.slice none 0 0] 89)).alloc (.cells #[.slice A n c,.int .i64 0,.int .i64 0] 138)).alloc (.cells #[.int .i64 0,.slice none 0 0] 89))
 have hT1:aC (λ_=>False) w w1:=by rw[hw1];exact (((aC.refl _ _).alloc _).alloc _).alloc _
 have hq1:QI w w1 A n c 0 0 0 none 0 0 []:=by
  refine⟨?_,?_,?_,World.ownsRow_nil _ _ _ _,rfl,λz hz=>(by cases hz),hT1,λg hg=>(by cases hg)⟩
  ·rw[hw1];exact ((aL.new _ _ _).alloc _).alloc _
  ·rw[hw1];exact (fU _ _ _ _).alloc _
  ·rw[hw1];exact Us _ _ _ _ _
 have hget:=λwx (T:aC (λ_=>False) w wx) p (hp:p<=n) e (he:0<=e) most=>Xe wx A n c xs (hr.touch T (λ_ _ f=>f)) hl (by omega) hnc hA p hp e he most
 have hconv:=λwx (T:aC (λ_=>False) w wx)=>xT wx A n c xs (hr.touch T (λ_ _ f=>f))
 have HG:=aB hget
 have HCV:=aB hconv
 have HQ1:=aB hq1
 have HW1:=aB hw1
 have HL:=aB hl
 have HN:=aB hn
 have HBS:=aB hbs
 obtain⟨r0,r1,r2⟩:=hq1.rd.facts
 obtain⟨m0,m1,m2⟩:=hq1.mc.facts
 have x1:IntKind.i64.wrap (2*(n:Int))=2*(n:Int):=qQa _ (by omega)
 have x2:IntKind.i64.wrap (2*(n:Int)+1)=2*(n:Int)+1:=qQa _ (by omega)
 have x3:IntKind.u64.wrap (2*(n:Int)+1)=2*(n:Int)+1:=qQb _ (by omega)
 clear hr hl hn hnc hA hbs hT1 hw1 hq1 hget hconv
 go_in
 go_wp2_with fail
 rw[<-HW1.out]
 refine (HG w1 HQ1.touch 0 (qZa _) 0 (qJa _) 1048576).mono ?_
 rintro en w2 ⟨p1,e1,v1,rfl,hb1,T2⟩
 have hq2:=HQ1.quiet T2
 clear r0 r1 r2 m0 m1 m2
 obtain⟨r0,r1,r2⟩:=hq2.rd.facts
 obtain⟨w3,hw3⟩:=eX (setR w2 (w.heap.size+1) A n c p1 e1)
 have hq3:=hq2.setR HBS p1 e1
 rw[<-hw3] at hq3
 unfold setR at hw3
 have HQ3:=aB hq3
 have HB1:=aB hb1
 have HW3:=aB hw3
 have z1:IntKind.i64.wrap (v1:Int)=(v1:Int):=qQa _ (by have:=hb1.2.1;omega)
 clear T2 hb1 hq2 hw3 hq3
 go_wp2_with fail
 rw[<-HW3.out]
 clear r0 r1 r2
 refine (HG w3 HQ3.touch p1 (by have:=HB1.1;have:=HL.out;omega) e1 HB1.2.2.1 98305).mono ?_
 rintro en w4 ⟨p2,e2,v2,rfl,hb2,T4⟩
 have hq4:=HQ3.quiet T4
 obtain⟨r0,r1,r2⟩:=hq4.rd.facts
 obtain⟨m0,m1,m2⟩:=hq4.mc.facts
 obtain⟨w5,hw5⟩:=eX ((setR w4 (w.heap.size+1) A n c p2 e2).setCell ⟨w.heap.size+1+1,0,none⟩ (.int .i64 (v1:Int)))
 have hq5:=(hq4.setR HBS p2 e2).setBase HBS (v1:Int)
 rw[<-hw5] at hq5
 unfold setR at hw5
 have z2:IntKind.i64.wrap (v2:Int)=(v2:Int):=qQa _ (by have:=hb2.2.1;omega)
 have HQ5:=aB hq5
 have HJ5:=aB (Vx HB1 hb2)
 have HV:=aB (And.intro HB1.2.1 hb2.2.1)
 have HP2:=aB (show p2<=n by have:=hb2.1;have:=HL.out;omega)
 have HE2:=aB hb2.2.2.1
 have HW5:=aB hw5
 clear T4 hb2 hq4 hw5 hq5
 go_wp2_with fail
 rw[<-HW5.out]
 clear r0 r1 r2 m0 m1 m2
 go_loopw [8] (λiv wr=>∃ (i p:Nat) (e:Int) (sA:Option Addr) (sc:Nat) (Z:List ZV),iv=.int .i64 i/\i<=v2/\Hid (QI w wr A n c p e (v1:Int) sA i sc Z)/\Hid (JS xs v2 v1 (Z.map ZV.p) i p e)/\Hid (p<=n/\0<=e)/\Hid (aFd Z)) (λiv _=>v2-(intOf iv).toNat)
 case atStart=>exact⟨0,p2,e2,none,0,[],rfl,qZa _,HQ5,HJ5,aB ⟨HP2,HE2⟩,aB (λz hz=>by cases hz)⟩
 case round =>
  obtain⟨i,p,e,sA,sc,Z,rfl,hi,HQ,HJ,HPE,HLB⟩:=hrel
  obtain⟨wo,hwo⟩:=eX wr
  subst hwo
  obtain⟨r0,r1,r2⟩:=HQ.rd.facts
  obtain⟨m0,m1,m2⟩:=HQ.mc.facts
  by_cases hgo:i<v2/\e=0
  ·obtain⟨hi2,he0⟩:=hgo
   subst he0
   have y0:(i:Int)<(v2:Int):=by omega
   have y1:(0:Int)<=(i:Int):=by omega
   have y2:IntKind.i64.wrap ((i:Int)+1)=(i:Int)+1:=qQa _ (by have:=HV.2;omega)
   have HI2:=aB hi2
   obtain⟨wS,hwS⟩:=eX (wo.alloc (.cells #[.bool false,.int .i64 0,.slice none 0 0] 170))
   have hTS:aC (λ_=>False) wo wS:=by rw[hwS];exact (aC.refl _ _).alloc _
   have hsq:SQ w wo wS A n c p 0 wo.heap.size false 0 none 0 0 []:=by
    refine⟨hTS.up _,HQ.rd.touch hTS (λf=>f),?_,World.ownsRow_nil _ _ _ _,rfl,λg hg=>(by cases hg),Nat.le_refl _⟩
    rw[hwS]
    exact aL.new _ _ _
   have HSQ:=aB hsq
   have HWS:=aB hwS
   have HTS:=aB hTS
   clear hsq hwS hTS hi hi2
   go_wp2_with fail
   rw[<-HWS.out]
   have hcall:=HG.out wS (HQ.touch.then HTS) p HPE.1 0 (qJa _) (2*n+1)
   rw[show (((2*n+1:Nat)):Int)=2*(n:Int)+1 by omega] at hcall
   refine hcall.mono ?_
   rintro en w6 ⟨p3,e3,v3,rfl,hb3,T6⟩
   clear hcall r0 r1 r2 m0 m1 m2
   have hs6:=HSQ.quiet T6
   obtain⟨r0,r1,r2⟩:=hs6.rd.facts
   obtain⟨s0,s1,s2⟩:=hs6.st.facts
   have hv3:=hb3.2.1
   have hp3:p3<=n:=by have:=hb3.1;have:=HL.out;omega
   obtain⟨h,hh⟩:=eX (v3 / 2)
   obtain⟨m,hm⟩:=eX (v3 % 2)
   have hhn:h<=n:=by have:=HL.out;omega
   have e3':Int.tmod (v3:Int) 2=(m:Int):=by rw[Int.tmod_eq_emod_of_nonneg (by omega)];omega
   have e4':Int.tdiv (v3:Int) 2=(h:Int):=by rw[Int.tdiv_eq_ediv_of_nonneg (by omega)];omega
   have z3:IntKind.u64.wrap (m:Int)=(m:Int):=qQb _ (by omega)
   have z4:IntKind.u64.wrap (h:Int)=(h:Int):=qQb _ (by have:=HN.out;omega)
   have z5:IntKind.i64.wrap (h:Int)=(h:Int):=qQa _ (by have:=HN.out;omega)
   have HB3:=aB hb3
   have HH:=aB hh
   have HM:=aB hm
   have HHN:=aB hhn
   have HPE3:=aB (And.intro hp3 hb3.2.2.1)
   have hs7:=hs6.setR p3 e3
   have HS7:=aB hs7
   have hSr:¬ wo.heap.size=w.heap.size+1:=by have:=HQ.rd.lt;omega
   have hSr2:¬ w.heap.size+1=wo.heap.size:=λe=>hSr e.symm
   by_cases hf:m=1
   ·have g0:((m:Int) == 1)=true:=by simp;omega
    obtain⟨w8,hw8⟩:=eX (((setR w6 (w.heap.size+1) A n c p3 e3).setCell ⟨wo.heap.size,0,none⟩ (.bool true)).alloc (.cells #[.slice A n c,.int .i64 p3,.int .i64 e3] 138))
    have hs8:SQ w wo w8 A n c p3 e3 wo.heap.size true 0 none 0 0 []:=by
     rw[hw8]
     exact (HS7.setS rfl).quiet ((aC.refl _ _).alloc _)
    unfold setR at hw8
    have HS8:=aB hs8
    have HW8:=aB hw8
    have HF:=aB hf
    clear T6 hb3 hs6 hv3 hp3 hh hm hhn hs7 hs8 hw8 hf HS7
    go_wp2_with fail
    rw[<-HW8.out]
    clear r0 r1 r2 s0 s1 s2
    refine (HG w8 (HQ.far HBS HS8.t0 HS8.rd).touch p3 HPE3.1 e3 HPE3.2 1048576).mono ?_
    rintro en w9 ⟨p4,e4,v4,rfl,hb4,T9⟩
    have hs9:=HS8.quiet T9
    obtain⟨r0,r1,r2⟩:=hs9.rd.facts
    obtain⟨s0,s1,s2⟩:=hs9.st.facts
    have z6:IntKind.i64.wrap (v4:Int)=(v4:Int):=qQa _ (by have:=hb4.2.1;omega)
    obtain⟨wq,hwq⟩:=eX (((setR w9 (w.heap.size+1) A n c p4 e4).setCell ⟨wo.heap.size,1,none⟩ (.int .i64 (v4:Int))).alloc (.cells #[.slice A n c,.int .i64 p4,.int .i64 e4] 138))
    have hsq:SQ w wo wq A n c p4 e4 wo.heap.size true (v4:Int) none 0 0 []:=by
     rw[hwq]
     exact ((hs9.setR p4 e4).setS rfl).quiet ((aC.refl _ _).alloc _)
    unfold setR at hwq
    have hja:=aDr HI2 HJ (by rw[HL.out];exact HB3) (by have h1:=HF.out;have h2:=HM.out;omega) hb4
    rw[<-HH.out] at hja
    have HSQI:=aB hsq
    have HJAI:=aB hja
    have HPEI:=aB (show p4<=n/\0<=e4 from⟨by have:=hb4.1;have:=HL.out;omega,hb4.2.2.1⟩)
    have HWQ:=aB hwq
    clear T9 hb4 hs9 hsq hja hwq HS8
    go_wp2_with fail
    rw[<-HWQ.out]
    clear r0 r1 r2 s0 s1 s2
    go_loopw [14,15] (λlv jv wx=>∃ (j last p':Nat) (e':Int) (aA:Option Addr) (ac:Nat) (acc:List (Int × Int × Int)),lv=.int .i64 last/\jv=.int .i64 j/\j<=h/\Hid (SQ w wo wx A n c p' e' wo.heap.size true (v4:Int) aA j ac acc)/\Hid (JA xs v2 v1 (Z.map ZV.p) i true (v4:Int) acc (h-j) last p' e')/\Hid (p'<=n/\0<=e')/\Hid (last<=1114111)/\Hid (∀ a∈acc,Kr a.1)) (λ_ jv _=>h-(intOf jv).toNat)
    case atStart=>exact⟨0,0,p4,e4,none,0,[],rfl,rfl,qZa _,HSQI,aB (by rw[Nat.sub_zero];exact HJAI),HPEI,aB (qZa _),aB (λa ha=>by cases ha)⟩
    case round =>
     obtain⟨j,last,pj,ej,aA,ac,acc,rfl,rfl,hj,HSJ,HJJ,HPJ,HLA,HAC⟩:=hrel
     obtain⟨r0,r1,r2⟩:=HSJ.rd.facts
     obtain⟨s0,s1,s2⟩:=HSJ.st.facts
     by_cases hgj:j<h/\ej=0
     ·obtain⟨hj2,hej⟩:=hgj
      subst hej
      have y3:(j:Int)<(h:Int):=by omega
      have y4:(0:Int)<=(j:Int):=by omega
      have y5:IntKind.i64.wrap ((j:Int)+1)=(j:Int)+1:=qQa _ (by have:=HHN.out;have:=HN.out;omega)
      have HJ2:=aB hj2
      have htw:aC (λ_=>False) w wr:=(HQ.far HBS HSJ.t0 HSJ.rd).touch
      have HC1:=aB (HG wr htw pj HPJ.1 0 (qJa _) 1114111)
      have hjj:=HJJ.out
      rw[show h-j=(h-(j+1))+1 by omega] at hjj
      have HJJ1:=aB hjj
      clear hjj htw hj hj2
      go_wp2_with fail
      refine HC1.mono ?_
      rintro en wa ⟨q1,f1,d,rfl,hd1,Ta⟩
      have hsa:=HSJ.quiet Ta
      have hq1n:q1<=n:=by have:=hd1.1;have:=HL.out;omega
      clear r0 r1 r2 s0 s1 s2 HC1
      obtain⟨wb,hwb⟩:=eX (wa.alloc (.cells #[.slice A n c,.int .i64 q1,.int .i64 f1] 138))
      have hTb:aC (λ_=>False) wa wb:=by rw[hwb];exact (aC.refl _ _).alloc _
      have hPb:aL wb wa.heap.size 138 #[.slice A n c,.int .i64 q1,.int .i64 f1]:=by rw[hwb];exact aL.new _ _ _
      have hsb:=hsa.quiet hTb
      have hPa:wo.heap.size<=wa.heap.size:=hsa.t0.size
      obtain⟨P,hP⟩:=eX wa.heap.size
      rw[<-hP] at hPb hPa
      have HC2:=aB (HG wb (HQ.far HBS hsb.t0 hsb.rd).touch q1 hq1n f1 hd1.2.2.1 1048576)
      have HSB:=aB hsb
      have HPB:=aB hPb
      have HPA:=aB hPa
      have HD1:=aB hd1
      have HWB:=aB hwb
      have HPP:=aB hP
      obtain⟨t0,t1,t2⟩:=hPb.facts
      have zd:IntKind.i64.wrap (d:Int)=(d:Int):=qQa _ (by have:=hd1.2.1;omega)
      have zs:IntKind.i64.wrap ((last:Int)+(d:Int))=(last:Int)+(d:Int):=qQa _ (by have:=hd1.2.1;have:=HLA.out;omega)
      clear hsa hsb Ta hd1 hq1n hTb hPb hPa hwb hP
      go_wp2_with fail
      rw[<-HWB.out,<-HPP.out]
      refine HC2.mono ?_
      rintro en wc ⟨q2,f2,o,rfl,hd2,Tc⟩
      have hsc:=HSB.quiet Tc
      have hPc:=HPB.touch Tc (λf=>f)
      have hq2n:q2<=n:=by have:=hd2.1;have:=HL.out;omega
      clear t0 t1 t2 HC2
      obtain⟨t0,t1,t2⟩:=hPc.facts
      have hPne:P≠w.heap.size+1:=by
       have h1:=HQ.rd.lt
       have h2:=HPA.out
       omega
      obtain⟨wd,hwd⟩:=eX (setR wc P A n c q2 f2)
      have hsd:=hsc.setP hPc HPA hPne q2 f2
      have hPd:=gR hPc A n c (q2:Int) f2
      rw[<-hwd] at hsd hPd
      unfold setR at hwd
      have HC3:=aB (HG wd (HQ.far HBS hsd.t0 hsd.rd).touch q2 hq2n f2 hd2.2.2.1 98305)
      have HSD:=aB hsd
      have HPD:=aB hPd
      have HD2:=aB hd2
      have HWD:=aB hwd
      have HPN:=aB hPne
      have zo:IntKind.i64.wrap (o:Int)=(o:Int):=qQa _ (by have:=hd2.2.1;omega)
      clear hsc hsd Tc hd2 hq2n hPc hPd hwd hPne
      go_wp2_with fail
      rw[<-HWD.out]
      refine HC3.mono ?_
      rintro en we ⟨q3,f3,b,rfl,hd3,Te⟩
      have hse:=HSD.quiet Te
      have hPe:=HPD.touch Te (λf=>f)
      clear t0 t1 t2 HC3
      obtain⟨t0,t1,t2⟩:=hPe.facts
      obtain⟨r0,r1,r2⟩:=hse.rd.facts
      have hPr:¬ P=w.heap.size+1:=HPN.out
      obtain⟨wf,hwf⟩:=eX (setR (setR we P A n c q3 f3) (w.heap.size+1) A n c q3 f3)
      have hsf:=(hse.setP hPe HPA HPN q3 f3).setR q3 f3
      rw[<-hwf] at hsf
      unfold setR at hwf
      have hst:=Oj HJJ1 HD1 HD2 hd3
      have zb:IntKind.i64.wrap (b:Int)=(b:Int):=qQa _ (by have:=hd3.2.1;omega)
      have zi:IntKind.i64.wrap ((i:Int)-(b:Int))=(i:Int)-(b:Int):=qQa _ (by have:=hd3.2.1;have:=HV.2;have:=HI2.out;omega)
      have HSF:=aB hsf
      have HST:=aB hst
      have HWF:=aB hwf
      have HQ3N:=aB (show q3<=n/\0<=f3 from⟨by have:=hd3.1;have:=HL.out;omega,hd3.2.2.1⟩)
      have hPr2:¬ w.heap.size+1=P:=λe=>hPr e.symm
      have hdm:=HD1.2.1
      clear hse hsf Te hd3 hPe hwf hst
      go_upto_region 25 with fail
      rw[<-HWF.out]
      clear r0 r1 r2 t0 t1 t2
      obtain⟨s0,s1,s2⟩:=HSF.st.facts
      obtain⟨u0,u1,u2⟩:=(HQ.far HBS HSF.t0 HSF.rd).res.facts
      by_cases hbig:1114111<last+d
      ·have g0:(1114111:Int)<(last:Int)+(d:Int):=by omega
       have hno:=yV (HST.1 hbig)
       have HNO:=aB hno
       clear hno hbig hdm
       go_wp2_with fail
       have HTF:=aB (HQ.far HBS HSF.t0 HSF.rd).touch
       refine bodyPost_ret (v:=.tuple #[.agg #[.int .i64 0,.slice none 0 0],.int .i64 80]) (by simp[results,Tryz.results74,go_sem,u0,u1];try rfl) rfl ⟨?_,.inr ⟨HNO,rfl⟩⟩
       repeat' first | exact HTF | refine aC.setCell ?_ (λh=>by simp only at h;omega) _
      ·have g0:¬ (1114111:Int)<(last:Int)+(d:Int):=by omega
       have zl:IntKind.i32.wrap ((last:Int)+(d:Int))=(last:Int)+(d:Int):=IntWalk.i32_in _ (by omega)
       have hja:=HST.2 (by omega)
       have HJA2:=aB hja
       have HBIG:=aB (show last+d<=1114111 by omega)
       obtain⟨wg,hwg⟩:=eX (wf.alloc (.cells #[.int .i32 ((last:Int)+(d:Int)),.int .i64 (o:Int),.int .i64 ((i:Int)-(b:Int))] 173))
       have hTg:aC (λ_=>False) wf wg:=by rw[hwg];exact (aC.refl _ _).alloc _
       have hsg:=HSF.quiet hTg
       have hRg:aI wg 3 (some ⟨wf.heap.size,0,none⟩) 1 [.int .i32 ((last:Int)+(d:Int)),.int .i64 (o:Int),.int .i64 ((i:Int)-(b:Int))]:=by
        rw[hwg]
        exact aI.new wf _ _ 1 rfl
       have HSG:=aB hsg
       have HRG:=aB hRg
       have HWG:=aB hwg
       have HOWN:=aB hsg.arc
       have HBB:Hid (j+1<=maxLen/\(j+1)*24<=140737488355328):=aB (by have h1:=HJ2.out;have h2:=HHN.out;have h3:=HN.out;unfold maxLen;omega)
       clear hja hbig hTg hsg hRg hwg hdm
       go_wp2_with (at_builtin;rw[<-HWG.out];refine aR _ rfl (.tmp 108) (.tmp 118) 168 rfl 173 i2 _ 3 24 Tryz.underlying168 hi2 hz0 hz1 hz2 rfl (by decide) (.slice aA j ac) j _ rfl HOWN (some ⟨wf.heap.size,0,none⟩) 1 1 [.int .i32 ((last:Int)+(d:Int)),.int .i64 (o:Int),.int .i64 ((i:Int)-(b:Int))] rfl HRG (λh=>by cases h) (List.all_eq_true.1 rfl) HBB.1 HBB.2 ?_;intro v1 w10 O10 G10 F10 _;obtain⟨A10,c10,hv,_,_⟩:=aX O10;subst hv;have hs10:=HSG.app ((last:Int)+(d:Int)) (o:Int) ((i:Int)-(b:Int)) O10 G10 F10;have hsx:=Js HSG G10;obtain⟨s0',s1',s2'⟩:=hsx;have HS10:=aB hs10;clear O10 G10 F10 hs10)
       go_roundw
       ·refine⟨j+1,last+d,q3,f3,A10,c10,acc++[(((last+d:Nat):Int),(o:Int),(i:Int)-(b:Int))],by simp,by simp,by have:=HJ2.out;omega,aB ?_,HJA2,HQ3N,HBIG,aB ?_⟩
        ·have h:=HS10.out
         rw[show (last:Int)+(d:Int)=((last+d:Nat):Int) by omega] at h
         exact h
        ·intro a ha
         rcases List.mem_append.1 ha with ha | ha
         ·exact HAC a ha
         ·rw[List.mem_singleton.1 ha]
          have:=HBIG.out
          unfold Kr
          simp only
          omega
       ·have:=HJ2.out
        simp only[intOf]
        omega
     ·have hend:h-j=0\/ej≠0:=by omega
      have hjs:=Vv HJJ hend
      have HJS:=aB hjs
      have hex:¬ (j:Int)<(h:Int)\/((j:Int)<(h:Int)/\(ej == 0)=false):=by
       by_cases hj3:j<h
       ·right
        have:ej≠0:=λe=>hgj ⟨hj3,e⟩
        exact⟨by omega,by simpa using this⟩
       ·left
        omega
      have hqf:=HQ.far HBS HSJ.t0 HSJ.rd
      obtain⟨m0,m1,m2⟩:=hqf.mc.facts
      obtain⟨wg,hwg⟩:=eX (wr.alloc (.cells #[.bool true,.int .i64 (v4:Int),.slice aA j ac] 170))
      have hTg:aC (λ_=>False) wr wg:=by rw[hwg];exact (aC.refl _ _).alloc _
      have hRg:aI wg 3 (some ⟨wr.heap.size,0,none⟩) 1 [.bool true,.int .i64 (v4:Int),.slice aA j ac]:=by
       rw[hwg]
       exact aI.new wr _ _ 1 rfl
      have HTG:=aB hTg
      have HRG:=aB hRg
      have HWG:=aB hwg
      have HOWN:=aB (hqf.quiet hTg).own
      have HMG:=aB (hqf.quiet hTg)
      have HBB:Hid (i+1<=maxLen/\(i+1)*40<=140737488355328):=aB (by have h1:=HI2.out;have h2:=HV.2;unfold maxLen;omega)
      clear hend hjs hqf hTg hRg hwg hgj hj
      rcases hex with hex | ⟨hex,hex2⟩
      all_goals
       go_wp2_with (at_builtin;rw[<-HWG.out];refine aR _ rfl (.tmp 122) (.tmp 124) 87 rfl 170 i1 _ 3 40 Tryz.underlying87 hi1 hy0 hy1 hy2 rfl (by decide) (.slice sA i sc) i _ rfl HOWN (some ⟨wr.heap.size,0,none⟩) 1 1 [.bool true,.int .i64 (v4:Int),.slice aA j ac] rfl HRG (λh=>by cases h) (List.all_eq_true.1 rfl) HBB.1 HBB.2 ?_;intro v1 w10 O10 G10 F10 _;obtain⟨A10,c10,hv,_,_⟩:=aX O10;subst hv;have hq10:=QI.push HQ HBS HSJ HTG O10 G10 F10;have hmx:=Io HMG HBS G10;obtain⟨m0',m1',m2'⟩:=hmx;have HQ10:=aB hq10;clear O10 G10 F10 hq10)
       go_roundw
       ·refine⟨i+1,pj,ej,A10,c10,_,by simp,by have:=HI2.out;omega,HQ10,aB (by rw[List.map_append];exact HJS),HPJ,aB ?_⟩
        intro z hz
        rcases List.mem_append.1 hz with hz | hz
        ·exact HLB z hz
        ·rw[List.mem_singleton.1 hz]
         exact HAC
       ·have:=HI2.out
        simp only[intOf]
        omega
   ·have g0:((m:Int) == 1)=false:=by simp;omega
    obtain⟨wq,hwq⟩:=eX (((setR w6 (w.heap.size+1) A n c p3 e3).setCell ⟨wo.heap.size,0,none⟩ (.bool false)).alloc (.cells #[.slice A n c,.int .i64 p3,.int .i64 e3] 138))
    have hsq:SQ w wo wq A n c p3 e3 wo.heap.size false 0 none 0 0 []:=by
     rw[hwq]
     exact (HS7.setS rfl).quiet ((aC.refl _ _).alloc _)
    unfold setR at hwq
    have hja:=Vw HI2 HJ (by rw[HL.out];exact HB3) (by omega)
    rw[<-HH.out] at hja
    have HSQI:=aB hsq
    have HJAI:=aB hja
    have HWQ:=aB hwq
    clear T6 hb3 hs6 hv3 hp3 hh hm hhn hs7 hsq hja hwq hf HS7
    go_wp2_with fail
    rw[<-HWQ.out]
    clear r0 r1 r2 s0 s1 s2
    go_loopw [14,15] (λlv jv wx=>∃ (j last p':Nat) (e':Int) (aA:Option Addr) (ac:Nat) (acc:List (Int × Int × Int)),lv=.int .i64 last/\jv=.int .i64 j/\j<=h/\Hid (SQ w wo wx A n c p' e' wo.heap.size false 0 aA j ac acc)/\Hid (JA xs v2 v1 (Z.map ZV.p) i false 0 acc (h-j) last p' e')/\Hid (p'<=n/\0<=e')/\Hid (last<=1114111)/\Hid (∀ a∈acc,Kr a.1)) (λ_ jv _=>h-(intOf jv).toNat)
    case atStart=>exact⟨0,0,p3,e3,none,0,[],rfl,rfl,qZa _,HSQI,aB (by rw[Nat.sub_zero];exact HJAI),HPE3,aB (qZa _),aB (λa ha=>by cases ha)⟩
    case round =>
     obtain⟨j,last,pj,ej,aA,ac,acc,rfl,rfl,hj,HSJ,HJJ,HPJ,HLA,HAC⟩:=hrel
     obtain⟨r0,r1,r2⟩:=HSJ.rd.facts
     obtain⟨s0,s1,s2⟩:=HSJ.st.facts
     by_cases hgj:j<h/\ej=0
     ·obtain⟨hj2,hej⟩:=hgj
      subst hej
      have y3:(j:Int)<(h:Int):=by omega
      have y4:(0:Int)<=(j:Int):=by omega
      have y5:IntKind.i64.wrap ((j:Int)+1)=(j:Int)+1:=qQa _ (by have:=HHN.out;have:=HN.out;omega)
      have HJ2:=aB hj2
      have htw:aC (λ_=>False) w wr:=(HQ.far HBS HSJ.t0 HSJ.rd).touch
      have HC1:=aB (HG wr htw pj HPJ.1 0 (qJa _) 1114111)
      have hjj:=HJJ.out
      rw[show h-j=(h-(j+1))+1 by omega] at hjj
      have HJJ1:=aB hjj
      clear hjj htw hj hj2
      go_wp2_with fail
      refine HC1.mono ?_
      rintro en wa ⟨q1,f1,d,rfl,hd1,Ta⟩
      have hsa:=HSJ.quiet Ta
      have hq1n:q1<=n:=by have:=hd1.1;have:=HL.out;omega
      clear r0 r1 r2 s0 s1 s2 HC1
      obtain⟨wb,hwb⟩:=eX (wa.alloc (.cells #[.slice A n c,.int .i64 q1,.int .i64 f1] 138))
      have hTb:aC (λ_=>False) wa wb:=by rw[hwb];exact (aC.refl _ _).alloc _
      have hPb:aL wb wa.heap.size 138 #[.slice A n c,.int .i64 q1,.int .i64 f1]:=by rw[hwb];exact aL.new _ _ _
      have hsb:=hsa.quiet hTb
      have hPa:wo.heap.size<=wa.heap.size:=hsa.t0.size
      obtain⟨P,hP⟩:=eX wa.heap.size
      rw[<-hP] at hPb hPa
      have HC2:=aB (HG wb (HQ.far HBS hsb.t0 hsb.rd).touch q1 hq1n f1 hd1.2.2.1 1048576)
      have HSB:=aB hsb
      have HPB:=aB hPb
      have HPA:=aB hPa
      have HD1:=aB hd1
      have HWB:=aB hwb
      have HPP:=aB hP
      obtain⟨t0,t1,t2⟩:=hPb.facts
      have zd:IntKind.i64.wrap (d:Int)=(d:Int):=qQa _ (by have:=hd1.2.1;omega)
      have zs:IntKind.i64.wrap ((last:Int)+(d:Int))=(last:Int)+(d:Int):=qQa _ (by have:=hd1.2.1;have:=HLA.out;omega)
      clear hsa hsb Ta hd1 hq1n hTb hPb hPa hwb hP
      go_wp2_with fail
      rw[<-HWB.out,<-HPP.out]
      refine HC2.mono ?_
      rintro en wc ⟨q2,f2,o,rfl,hd2,Tc⟩
      have hsc:=HSB.quiet Tc
      have hPc:=HPB.touch Tc (λf=>f)
      have hq2n:q2<=n:=by have:=hd2.1;have:=HL.out;omega
      clear t0 t1 t2 HC2
      obtain⟨t0,t1,t2⟩:=hPc.facts
      have hPne:P≠w.heap.size+1:=by
       have h1:=HQ.rd.lt
       have h2:=HPA.out
       omega
      obtain⟨wd,hwd⟩:=eX (setR wc P A n c q2 f2)
      have hsd:=hsc.setP hPc HPA hPne q2 f2
      have hPd:=gR hPc A n c (q2:Int) f2
      rw[<-hwd] at hsd hPd
      unfold setR at hwd
      have HC3:=aB (HG wd (HQ.far HBS hsd.t0 hsd.rd).touch q2 hq2n f2 hd2.2.2.1 98305)
      have HSD:=aB hsd
      have HPD:=aB hPd
      have HD2:=aB hd2
      have HWD:=aB hwd
      have HPN:=aB hPne
      have zo:IntKind.i64.wrap (o:Int)=(o:Int):=qQa _ (by have:=hd2.2.1;omega)
      clear hsc hsd Tc hd2 hq2n hPc hPd hwd hPne
      go_wp2_with fail
      rw[<-HWD.out]
      refine HC3.mono ?_
      rintro en we ⟨q3,f3,b,rfl,hd3,Te⟩
      have hse:=HSD.quiet Te
      have hPe:=HPD.touch Te (λf=>f)
      clear t0 t1 t2 HC3
      obtain⟨t0,t1,t2⟩:=hPe.facts
      obtain⟨r0,r1,r2⟩:=hse.rd.facts
      have hPr:¬ P=w.heap.size+1:=HPN.out
      obtain⟨wf,hwf⟩:=eX (setR (setR we P A n c q3 f3) (w.heap.size+1) A n c q3 f3)
      have hsf:=(hse.setP hPe HPA HPN q3 f3).setR q3 f3
      rw[<-hwf] at hsf
      unfold setR at hwf
      have hst:=Oj HJJ1 HD1 HD2 hd3
      have zb:IntKind.i64.wrap (b:Int)=(b:Int):=qQa _ (by have:=hd3.2.1;omega)
      have zi:IntKind.i64.wrap ((i:Int)-(b:Int))=(i:Int)-(b:Int):=qQa _ (by have:=hd3.2.1;have:=HV.2;have:=HI2.out;omega)
      have HSF:=aB hsf
      have HST:=aB hst
      have HWF:=aB hwf
      have HQ3N:=aB (show q3<=n/\0<=f3 from⟨by have:=hd3.1;have:=HL.out;omega,hd3.2.2.1⟩)
      have hPr2:¬ w.heap.size+1=P:=λe=>hPr e.symm
      have hdm:=HD1.2.1
      clear hse hsf Te hd3 hPe hwf hst
      go_upto_region 25 with fail
      rw[<-HWF.out]
      clear r0 r1 r2 t0 t1 t2
      obtain⟨s0,s1,s2⟩:=HSF.st.facts
      obtain⟨u0,u1,u2⟩:=(HQ.far HBS HSF.t0 HSF.rd).res.facts
      by_cases hbig:1114111<last+d
      ·have g0:(1114111:Int)<(last:Int)+(d:Int):=by omega
       have hno:=yV (HST.1 hbig)
       have HNO:=aB hno
       clear hno hbig hdm
       go_wp2_with fail
       have HTF:=aB (HQ.far HBS HSF.t0 HSF.rd).touch
       refine bodyPost_ret (v:=.tuple #[.agg #[.int .i64 0,.slice none 0 0],.int .i64 80]) (by simp[results,Tryz.results74,go_sem,u0,u1];try rfl) rfl ⟨?_,.inr ⟨HNO,rfl⟩⟩
       repeat' first | exact HTF | refine aC.setCell ?_ (λh=>by simp only at h;omega) _
      ·have g0:¬ (1114111:Int)<(last:Int)+(d:Int):=by omega
       have zl:IntKind.i32.wrap ((last:Int)+(d:Int))=(last:Int)+(d:Int):=IntWalk.i32_in _ (by omega)
       have hja:=HST.2 (by omega)
       have HJA2:=aB hja
       have HBIG:=aB (show last+d<=1114111 by omega)
       obtain⟨wg,hwg⟩:=eX (wf.alloc (.cells #[.int .i32 ((last:Int)+(d:Int)),.int .i64 (o:Int),.int .i64 ((i:Int)-(b:Int))] 173))
       have hTg:aC (λ_=>False) wf wg:=by rw[hwg];exact (aC.refl _ _).alloc _
       have hsg:=HSF.quiet hTg
       have hRg:aI wg 3 (some ⟨wf.heap.size,0,none⟩) 1 [.int .i32 ((last:Int)+(d:Int)),.int .i64 (o:Int),.int .i64 ((i:Int)-(b:Int))]:=by
        rw[hwg]
        exact aI.new wf _ _ 1 rfl
       have HSG:=aB hsg
       have HRG:=aB hRg
       have HWG:=aB hwg
       have HOWN:=aB hsg.arc
       have HBB:Hid (j+1<=maxLen/\(j+1)*24<=140737488355328):=aB (by have h1:=HJ2.out;have h2:=HHN.out;have h3:=HN.out;unfold maxLen;omega)
       clear hja hbig hTg hsg hRg hwg hdm
       go_wp2_with (at_builtin;rw[<-HWG.out];refine aR _ rfl (.tmp 108) (.tmp 118) 168 rfl 173 i2 _ 3 24 Tryz.underlying168 hi2 hz0 hz1 hz2 rfl (by decide) (.slice aA j ac) j _ rfl HOWN (some ⟨wf.heap.size,0,none⟩) 1 1 [.int .i32 ((last:Int)+(d:Int)),.int .i64 (o:Int),.int .i64 ((i:Int)-(b:Int))] rfl HRG (λh=>by cases h) (List.all_eq_true.1 rfl) HBB.1 HBB.2 ?_;intro v1 w10 O10 G10 F10 _;obtain⟨A10,c10,hv,_,_⟩:=aX O10;subst hv;have hs10:=HSG.app ((last:Int)+(d:Int)) (o:Int) ((i:Int)-(b:Int)) O10 G10 F10;have hsx:=Js HSG G10;obtain⟨s0',s1',s2'⟩:=hsx;have HS10:=aB hs10;clear O10 G10 F10 hs10)
       go_roundw
       ·refine⟨j+1,last+d,q3,f3,A10,c10,acc++[(((last+d:Nat):Int),(o:Int),(i:Int)-(b:Int))],by simp,by simp,by have:=HJ2.out;omega,aB ?_,HJA2,HQ3N,HBIG,aB ?_⟩
        ·have h:=HS10.out
         rw[show (last:Int)+(d:Int)=((last+d:Nat):Int) by omega] at h
         exact h
        ·intro a ha
         rcases List.mem_append.1 ha with ha | ha
         ·exact HAC a ha
         ·rw[List.mem_singleton.1 ha]
          have:=HBIG.out
          unfold Kr
          simp only
          omega
       ·have:=HJ2.out
        simp only[intOf]
        omega
     ·have hend:h-j=0\/ej≠0:=by omega
      have hjs:=Vv HJJ hend
      have HJS:=aB hjs
      have hex:¬ (j:Int)<(h:Int)\/((j:Int)<(h:Int)/\(ej == 0)=false):=by
       by_cases hj3:j<h
       ·right
        have:ej≠0:=λe=>hgj ⟨hj3,e⟩
        exact⟨by omega,by simpa using this⟩
       ·left
        omega
      have hqf:=HQ.far HBS HSJ.t0 HSJ.rd
      obtain⟨m0,m1,m2⟩:=hqf.mc.facts
      obtain⟨wg,hwg⟩:=eX (wr.alloc (.cells #[.bool false,.int .i64 0,.slice aA j ac] 170))
      have hTg:aC (λ_=>False) wr wg:=by rw[hwg];exact (aC.refl _ _).alloc _
      have hRg:aI wg 3 (some ⟨wr.heap.size,0,none⟩) 1 [.bool false,.int .i64 0,.slice aA j ac]:=by
       rw[hwg]
       exact aI.new wr _ _ 1 rfl
      have HTG:=aB hTg
      have HRG:=aB hRg
      have HWG:=aB hwg
      have HOWN:=aB (hqf.quiet hTg).own
      have HMG:=aB (hqf.quiet hTg)
      have HBB:Hid (i+1<=maxLen/\(i+1)*40<=140737488355328):=aB (by have h1:=HI2.out;have h2:=HV.2;unfold maxLen;omega)
      clear hend hjs hqf hTg hRg hwg hgj hj
      rcases hex with hex | ⟨hex,hex2⟩
      all_goals
       go_wp2_with (at_builtin;rw[<-HWG.out];refine aR _ rfl (.tmp 122) (.tmp 124) 87 rfl 170 i1 _ 3 40 Tryz.underlying87 hi1 hy0 hy1 hy2 rfl (by decide) (.slice sA i sc) i _ rfl HOWN (some ⟨wr.heap.size,0,none⟩) 1 1 [.bool false,.int .i64 0,.slice aA j ac] rfl HRG (λh=>by cases h) (List.all_eq_true.1 rfl) HBB.1 HBB.2 ?_;intro v1 w10 O10 G10 F10 _;obtain⟨A10,c10,hv,_,_⟩:=aX O10;subst hv;have hq10:=QI.push HQ HBS HSJ HTG O10 G10 F10;have hmx:=Io HMG HBS G10;obtain⟨m0',m1',m2'⟩:=hmx;have HQ10:=aB hq10;clear O10 G10 F10 hq10)
       go_roundw
       ·refine⟨i+1,pj,ej,A10,c10,_,by simp,by have:=HI2.out;omega,HQ10,aB (by rw[List.map_append];exact HJS),HPJ,aB ?_⟩
        intro z hz
        rcases List.mem_append.1 hz with hz | hz
        ·exact HLB z hz
        ·rw[List.mem_singleton.1 hz]
         exact HAC
       ·have:=HI2.out
        simp only[intOf]
        omega
  ·have hjs:=HJ.out
   have hex:¬ (i:Int)<(v2:Int)\/((i:Int)<(v2:Int)/\(e == 0)=false):=by
    by_cases hi3:i<v2
    ·right
     have:e≠0:=λhe=>hgo ⟨hi3,he⟩
     exact⟨by omega,by simpa using this⟩
    ·left
     omega
   have hje:e=0->jW xs.length xs=some ((v1,Z.map ZV.p),xs.drop p):=λhe=>aDs hjs (by
    by_cases hi3:i<v2
    ·exact absurd ⟨hi3,he⟩ hgo
    ·omega) he
   have hsz:iT wo sA i Z:=⟨Ar.of_own HQ.own,HQ.len,HQ.el⟩
   have HSZ:=aB hsz
   have HE:=aB (λwx=>zH wx A n c p e)
   have hbw:∀ wx,aC (λ_=>False) wo wx->bs<=wx.heap.size:=λwx T=>by have h1:=HBS.out;have h2:=HQ.touch.size;have h3:=T.size;omega
   have hcr:=λwx (T:aC (λ_=>False) wo wx)=>Ix wx (v1:Int) sA i sc Z (hsz.quiet T) (by have:=HV.2;unfold maxLen;omega) HLB (hbw wx T)
   have HCR:=aB hcr
   by_cases hok:e=0/\n<=p
   ·obtain⟨he0,hnp⟩:=hok
    subst he0
    have hm:=hje rfl
    have hd:xs.drop p=[]:=List.drop_of_length_le (by have:=HL.out;omega)
    rw[hd] at hm
    have hee:∀ wx,Calls Tryz.prog 75 #[.agg #[.slice A n c,.int .i64 p,.int .i64 0]] wx λe w'=>e=.returned (.int .i64 0)/\aC (λ_=>False) wx w':=λwx=>by
     refine (HE wx).mono ?_
     rintro e w' ⟨⟨k',rfl,hk⟩,T⟩
     rw[hk.2 ⟨rfl,hnp⟩]
     exact⟨rfl,T⟩
    have HEE:=aB hee
    have hex2:¬ (i:Int)<(v2:Int):=by
     rcases hex with h | ⟨_,h⟩
     ·exact h
     ·simp at h
    by_cases hR:qK (Z.map ZV.p) (v1:Int)
    ·obtain⟨sts,hz,hRp⟩:=hR
     obtain⟨Y,hYp,hY⟩:=hsz.ok hz
     have hRY:jZ (Y.map SV.p) (v1:Int):=by rw[hYp];exact hRp
     have hv1:v1<=1048576:=HV.1
     have hfew:i<=98305:=by
      have:=Df hRp
      rw[<-hYp,qZb,hY.len] at this
      exact this
     have hform:∀ k,k<i->dQ k (Y.getD k cE).p:=by
      intro k hk
      have h1:=zI hRp k (by rw[<-hYp,qZb,hY.len];exact hk)
      rw[<-hYp] at h1
      have e:(Y.map SV.p).getD k aS=(Y.getD k cE).p:=by simp[List.getD,hY.len,hk]
      rw[e] at h1
      exact h1
     have hcb:=λwx (T:aC (λ_=>False) wo wx)=>Mo wx v1 sA i sc Y (hY.quiet T) hv1 hfew hform (hbw wx T)
     rw[hYp] at hcb
     have hcr1:∀ wx,aC (λ_=>False) wo wx->Calls Tryz.prog 131 #[.agg #[.int .i64 v1,.slice sA i sc]] wx λe w'=>e=.returned (.bool true)/\aC (λ_=>False) wx w':=λwx T=>by
      refine (hcr wx T).mono ?_
      rintro e w' ⟨⟨v,rfl,hv⟩,T'⟩
      rw[hv.2 ⟨sts,hz,hRp⟩]
      exact⟨rfl,T'⟩
     obtain⟨bys,hbys⟩:=eX (eU (v1:Int) sts)
     rw[<-hbys] at hcb
     obtain⟨sx,hsx⟩:∃ s:ByteArray,s=⟨xs.toArray⟩:=⟨_,rfl⟩
     obtain⟨sb,hsb⟩:∃ s:ByteArray,s=⟨bys.toArray⟩:=⟨_,rfl⟩
     have hcvx:∀ wx,aC (λ_=>False) wo wx->(convert 50 9 (.slice A n c)).run Tryz.prog wx=.ok (.string sx) wx:=λwx T=>by
      rw[hsx]
      exact HCV wx (HQ.touch.then T)
     have hcb2:∀ wx,aC (λ_=>False) wo wx->Calls Tryz.prog 65 #[.agg #[.int .i64 v1,.slice sA i sc]] wx λe w'=>∃ (A':Option Addr) (q c':Nat),e=.returned (.slice A' q c')/\(convert 50 9 (.slice A' q c')).run Tryz.prog w'=.ok (.string sb) w'/\aC (λ_=>False) wx w':=λwx T=>by
      refine (hcb wx T).mono ?_
      rintro e w' ⟨A',q,c',rfl,hx⟩
      refine⟨A',q,c',rfl,?_,hx.touch⟩
      rw[hsb]
      exact xT w' A' q c' bys (aI.of_own hx.own)
     have hks:∀ wx,aC (λ_=>False) wo wx->wx.cell? ⟨w.heap.size+1+1,0,none⟩=some (.int .i64 (v1:Int))/\wx.cell? ⟨w.heap.size+1+1,1,none⟩=some (.slice sA i sc)/\wx.cell? ⟨w.heap.size+1,0,none⟩=some (.slice A n c)/\wx.cell? ⟨w.heap.size+1,1,none⟩=some (.int .i64 (p:Int))/\wx.cell? ⟨w.heap.size+1,2,none⟩=some (.int .i64 0)/\(convert 50 9 (.slice A n c)).run Tryz.prog wx=.ok (.string sx) wx/\aC (λ_=>False) wo wx:=λwx T =>
      ⟨(HQ.quiet T).mc.cell 0,(HQ.quiet T).mc.cell 1,(HQ.quiet T).rd.cell 0,(HQ.quiet T).rd.cell 1,(HQ.quiet T).rd.cell 2,hcvx wx T,T⟩
     have HKS:=aB hks
     have HCVX:=aB hcvx
     have HCR1:=aB hcr1
     have HCB2:=aB hcb2
     have HFIN:=aB (And.intro hv1 (And.intro hRp hz))
     by_cases heq:bys=xs
     ·have hxb:xs=eU (v1:Int) sts:=by rw[<-hbys];exact heq.symm
      have hsbx:sb=sx:=by rw[hsb,hsx,heq]
      subst hsbx
      have HXB:=aB hxb
      clear hjs hex hje hsz hbw hcr hm hd hee hz hRp hYp hY hRY hv1 hfew hform hcb hcr1 hbys hsx hsb hcvx hcb2 hks heq hxb hnp hgo hi HCR HE
      go_wp2_with fail
      clear r0 r1 r2 m0 m1 m2
      obtain⟨wd,hwd⟩:=eX wo.drew
      have hd:aC (λ_=>False) wo wd:=by rw[hwd];exact (aC.refl _ _).drew
      refine wp_region_any (by kernel_rfl) ?_
      change wpAny _ _ _ _ _ _ _ (World.drew _)
      rw[<-hwd]
      obtain⟨r0,r1,r2⟩:=(HQ.quiet hd).rd.facts
      have HD:=aB hd
      clear hwd hd
      refine wpAny_ready (rs:=[0]) (by kernel_rfl) (by simp) ?_
      refine AllReady.cons rfl (λK hK=>?_) AllReady.nil
      go_simp
      refine hK _ _ ?_
      clear hK K
      refine wpAny_ready (rs:=[1]) (by kernel_rfl) (by simp) ?_
      refine AllReady.cons rfl (λK hK=>?_) AllReady.nil
      go_simp
      refine (HEE wd).mono ?_
      rintro en w2 ⟨rfl,T2⟩
      have HT2:=aB (HD.then T2)
      obtain⟨m0,m1,m2⟩:=(HQ.quiet HT2).mc.facts
      clear T2 r0 r1 r2
      go_simp
      refine hK _ _ ?_
      clear hK K
      refine wpAny_take (i:=2) (v:=.bool false) rfl (by kernel_rfl) (by kernel_rfl) (by kernel_rfl) (λ_ _ _ h=>h) (Or.inl ⟨by kernel_rfl,?h2⟩) ?_
      case h2=>intro w;go_simp
      refine wpAny_take (i:=3) (v:=.bool false) rfl (by kernel_rfl) (by kernel_rfl) (by kernel_rfl) (λ_ _ _ h=>h) (Or.inl ⟨by kernel_rfl,?h3⟩) ?_
      case h3=>intro w;go_simp
      refine wpAny_ready (rs:=[4]) (by kernel_rfl) (by simp) ?_
      refine AllReady.cons rfl (λK hK=>?_) AllReady.nil
      go_simp
      refine hK _ _ ?_
      clear hK K
      refine wpAny_ready (rs:=[5]) (by kernel_rfl) (by simp) ?_
      refine AllReady.cons rfl (λK hK=>?_) AllReady.nil
      go_simp
      refine (HCR1 w2 HT2).mono ?_
      rintro en w3 ⟨rfl,T3⟩
      have HT3:=aB (HT2.then T3)
      clear T3 m0 m1 m2
      obtain⟨m0,m1,m2⟩:=(HQ.quiet HT3).mc.facts
      have cv3:=HCVX.out w3 HT3
      go_simp
      refine hK _ _ ?_
      clear hK K
      refine wpAny_take (i:=6) (v:=.bool false) rfl (by kernel_rfl) (by kernel_rfl) (by kernel_rfl) (λ_ _ _ h=>h) (Or.inl ⟨by kernel_rfl,?h6⟩) ?_
      case h6=>intro w;go_simp
      refine wpAny_take (i:=7) (v:=.bool false) rfl (by kernel_rfl) (by kernel_rfl) (by kernel_rfl) (λ_ _ _ h=>h) (Or.inl ⟨by kernel_rfl,?h7⟩) ?_
      case h7=>intro w;go_simp
      refine wpAny_take (i:=8) (v:=.bool false) rfl (by kernel_rfl) (by kernel_rfl) (by kernel_rfl) (λ_ _ _ h=>h) (Or.inl ⟨by kernel_rfl,?h8⟩) ?_
      case h8=>intro w;go_simp
      refine wpAny_take (i:=12) (v:=?v12) rfl (by kernel_rfl) (by kernel_rfl) (by kernel_rfl) (λ_ _ _ h=>h) (Or.inl ⟨by kernel_rfl,?h12⟩) ?_
      case h12=>intro w;go_simp;try with_reducible rfl
      refine wpAny_ready (rs:=[9,13]) (by kernel_rfl) (by simp) ?_
      refine AllReady.cons rfl (λK hK=>?_) (AllReady.cons rfl (λK hK=>?_) AllReady.nil)
      ·go_simp
       refine hK _ _ ?_
       clear hK K
       refine wpAny_ready (rs:=[10,13]) (by kernel_rfl) (by simp) ?_
       refine AllReady.cons rfl (λK hK=>?_) (AllReady.cons rfl (λK hK=>?_) AllReady.nil)
       ·go_simp
        refine (HCB2 w3 HT3).mono ?_
        rintro en w4 ⟨Ab,qb,cb,rfl,hcvb,T4⟩
        have HT4:=aB (HT3.then T4)
        obtain⟨u0,u1,u2⟩:=(HQ.quiet HT4).res.facts
        clear m0 m1 m2 cv3
        obtain⟨m0,m1,m2⟩:=(HQ.quiet HT4).mc.facts
        have cv4:=HCVX.out w4 HT4
        clear T4
        go_simp
        refine hK _ _ ?_
        clear hK K
        refine wpAny_ready (rs:=[11,13]) (by kernel_rfl) (by simp) ?_
        refine AllReady.cons rfl (λK hK=>?_) (AllReady.cons rfl (λK hK=>?_) AllReady.nil)
        ·go_simp
         refine hK _ _ ?_
         clear hK K
         refine wpAny_ready (rs:=[13]) (by kernel_rfl) (by simp) ?_
         refine AllReady.cons rfl (λK hK=>?_) AllReady.nil
         go_simp
         refine hK _ _ ?_
         clear hK K
         refine wpAny_take (i:=14) (v:=.bool false) rfl (by kernel_rfl) (by kernel_rfl) (by kernel_rfl) (λ_ _ _ h=>h) (Or.inl ⟨by kernel_rfl,?h14⟩) ?_
         case h14=>intro w;go_simp
         refine wpAny_take (i:=15) (v:=.bool false) rfl (by kernel_rfl) (by kernel_rfl) (by kernel_rfl) (λ_ _ _ h=>h) (Or.inl ⟨by kernel_rfl,?h15⟩) ?_
         case h15=>intro w;go_simp
         go_simp
         refine wpAny_done (by kernel_rfl) ?_ 0
         go_wp2_with fail
         refine bodyPost_ret (v:=.tuple #[.agg #[.int .i64 v1,.slice sA i sc],.int .i64 0]) (by simp[results,Tryz.results74,go_sem,u0,u1];try rfl) rfl ⟨?_,.inl ⟨v1,sts,sA,i,sc,Z,HFIN.1,HFIN.2.1,HXB,rfl,?_,HFIN.2.2⟩⟩
         ·have hTT:=HQ.touch.then HT4
          repeat' first | exact hTT | refine aC.setCell ?_ (λh=>by simp only at h;omega) _
         ·refine iT.far (S:=λg=>g=w.heap.size) (HSZ.quiet HT4) (((aC.refl (λg=>g=w.heap.size) _).setCell (λ_=>rfl) _).setCell (λ_=>rfl) _) (λg hg e=>?_) (λg hg e=>?_)
          ·exact hg.ne (aF (HQ.quiet HT4).res) (by decide) HBS e
          ·exact hg.ne (aF (HQ.quiet HT4).res) (by decide) HBS e
        ·go_simp
         refine hK _ _ ?_
         clear hK K
         refine wpAny_ready (rs:=[11]) (by kernel_rfl) (by simp) ?_
         refine AllReady.cons rfl (λK hK=>?_) AllReady.nil
         go_simp
         refine hK _ _ ?_
         clear hK K
         refine wpAny_take (i:=14) (v:=.bool false) rfl (by kernel_rfl) (by kernel_rfl) (by kernel_rfl) (λ_ _ _ h=>h) (Or.inl ⟨by kernel_rfl,?h14⟩) ?_
         case h14=>intro w;go_simp
         refine wpAny_take (i:=15) (v:=.bool false) rfl (by kernel_rfl) (by kernel_rfl) (by kernel_rfl) (λ_ _ _ h=>h) (Or.inl ⟨by kernel_rfl,?h15⟩) ?_
         case h15=>intro w;go_simp
         go_simp
         refine wpAny_done (by kernel_rfl) ?_ 0
         go_wp2_with fail
         refine bodyPost_ret (v:=.tuple #[.agg #[.int .i64 v1,.slice sA i sc],.int .i64 0]) (by simp[results,Tryz.results74,go_sem,u0,u1];try rfl) rfl ⟨?_,.inl ⟨v1,sts,sA,i,sc,Z,HFIN.1,HFIN.2.1,HXB,rfl,?_,HFIN.2.2⟩⟩
         ·have hTT:=HQ.touch.then HT4
          repeat' first | exact hTT | refine aC.setCell ?_ (λh=>by simp only at h;omega) _
         ·refine iT.far (S:=λg=>g=w.heap.size) (HSZ.quiet HT4) (((aC.refl (λg=>g=w.heap.size) _).setCell (λ_=>rfl) _).setCell (λ_=>rfl) _) (λg hg e=>?_) (λg hg e=>?_)
          ·exact hg.ne (aF (HQ.quiet HT4).res) (by decide) HBS e
          ·exact hg.ne (aF (HQ.quiet HT4).res) (by decide) HBS e
       ·go_simp
        refine hK _ _ ?_
        clear hK K
        refine wpAny_ready (rs:=[10]) (by kernel_rfl) (by simp) ?_
        refine AllReady.cons rfl (λK hK=>?_) AllReady.nil
        go_simp
        refine (HCB2 w3 HT3).mono ?_
        rintro en w4 ⟨Ab,qb,cb,rfl,hcvb,T4⟩
        have HT4:=aB (HT3.then T4)
        obtain⟨u0,u1,u2⟩:=(HQ.quiet HT4).res.facts
        clear m0 m1 m2 cv3
        obtain⟨m0,m1,m2⟩:=(HQ.quiet HT4).mc.facts
        have cv4:=HCVX.out w4 HT4
        clear T4
        go_simp
        refine hK _ _ ?_
        clear hK K
        refine wpAny_ready (rs:=[11]) (by kernel_rfl) (by simp) ?_
        refine AllReady.cons rfl (λK hK=>?_) AllReady.nil
        go_simp
        refine hK _ _ ?_
        clear hK K
        refine wpAny_take (i:=14) (v:=.bool false) rfl (by kernel_rfl) (by kernel_rfl) (by kernel_rfl) (λ_ _ _ h=>h) (Or.inl ⟨by kernel_rfl,?h14⟩) ?_
        case h14=>intro w;go_simp
        refine wpAny_take (i:=15) (v:=.bool false) rfl (by kernel_rfl) (by kernel_rfl) (by kernel_rfl) (λ_ _ _ h=>h) (Or.inl ⟨by kernel_rfl,?h15⟩) ?_
        case h15=>intro w;go_simp
        go_simp
        refine wpAny_done (by kernel_rfl) ?_ 0
        go_wp2_with fail
        refine bodyPost_ret (v:=.tuple #[.agg #[.int .i64 v1,.slice sA i sc],.int .i64 0]) (by simp[results,Tryz.results74,go_sem,u0,u1];try rfl) rfl ⟨?_,.inl ⟨v1,sts,sA,i,sc,Z,HFIN.1,HFIN.2.1,HXB,rfl,?_,HFIN.2.2⟩⟩
        ·have hTT:=HQ.touch.then HT4
         repeat' first | exact hTT | refine aC.setCell ?_ (λh=>by simp only at h;omega) _
        ·refine iT.far (S:=λg=>g=w.heap.size) (HSZ.quiet HT4) (((aC.refl (λg=>g=w.heap.size) _).setCell (λ_=>rfl) _).setCell (λ_=>rfl) _) (λg hg e=>?_) (λg hg e=>?_)
         ·exact hg.ne (aF (HQ.quiet HT4).res) (by decide) HBS e
         ·exact hg.ne (aF (HQ.quiet HT4).res) (by decide) HBS e
      ·go_simp
       refine hK _ _ ?_
       clear hK K
       refine wpAny_ready (rs:=[9]) (by kernel_rfl) (by simp) ?_
       refine AllReady.cons rfl (λK hK=>?_) AllReady.nil
       go_simp
       refine hK _ _ ?_
       clear hK K
       refine wpAny_ready (rs:=[10]) (by kernel_rfl) (by simp) ?_
       refine AllReady.cons rfl (λK hK=>?_) AllReady.nil
       go_simp
       refine (HCB2 w3 HT3).mono ?_
       rintro en w4 ⟨Ab,qb,cb,rfl,hcvb,T4⟩
       have HT4:=aB (HT3.then T4)
       obtain⟨u0,u1,u2⟩:=(HQ.quiet HT4).res.facts
       clear m0 m1 m2 cv3
       obtain⟨m0,m1,m2⟩:=(HQ.quiet HT4).mc.facts
       have cv4:=HCVX.out w4 HT4
       clear T4
       go_simp
       refine hK _ _ ?_
       clear hK K
       refine wpAny_ready (rs:=[11]) (by kernel_rfl) (by simp) ?_
       refine AllReady.cons rfl (λK hK=>?_) AllReady.nil
       go_simp
       refine hK _ _ ?_
       clear hK K
       refine wpAny_take (i:=14) (v:=.bool false) rfl (by kernel_rfl) (by kernel_rfl) (by kernel_rfl) (λ_ _ _ h=>h) (Or.inl ⟨by kernel_rfl,?h14⟩) ?_
       case h14=>intro w;go_simp
       refine wpAny_take (i:=15) (v:=.bool false) rfl (by kernel_rfl) (by kernel_rfl) (by kernel_rfl) (λ_ _ _ h=>h) (Or.inl ⟨by kernel_rfl,?h15⟩) ?_
       case h15=>intro w;go_simp
       go_simp
       refine wpAny_done (by kernel_rfl) ?_ 0
       go_wp2_with fail
       refine bodyPost_ret (v:=.tuple #[.agg #[.int .i64 v1,.slice sA i sc],.int .i64 0]) (by simp[results,Tryz.results74,go_sem,u0,u1];try rfl) rfl ⟨?_,.inl ⟨v1,sts,sA,i,sc,Z,HFIN.1,HFIN.2.1,HXB,rfl,?_,HFIN.2.2⟩⟩
       ·have hTT:=HQ.touch.then HT4
        repeat' first | exact hTT | refine aC.setCell ?_ (λh=>by simp only at h;omega) _
       ·refine iT.far (S:=λg=>g=w.heap.size) (HSZ.quiet HT4) (((aC.refl (λg=>g=w.heap.size) _).setCell (λ_=>rfl) _).setCell (λ_=>rfl) _) (λg hg e=>?_) (λg hg e=>?_)
        ·exact hg.ne (aF (HQ.quiet HT4).res) (by decide) HBS e
        ·exact hg.ne (aF (HQ.quiet HT4).res) (by decide) HBS e
     ·have hno:¬ wX xs:=λhp=>heq (by rw[hbys];exact ((zD hm hp).2.2 sts hz).symm)
      have hne:¬ sb=sx:=by
       rw[hsb,hsx]
       intro h
       injection h with h
       exact heq (by simpa using h)
      have hne1:¬ sb.toList=sx.toList:=λh=>hne (rD h)
      have HNO:=aB hno
      clear hjs hex hje hsz hbw hcr hm hd hee hz hRp hYp hY hRY hv1 hfew hform hcb hcr1 hbys hsx hsb hcvx hcb2 hks heq hno hnp hgo hi HCR HE
      go_wp2_with fail
      clear r0 r1 r2 m0 m1 m2
      obtain⟨wd,hwd⟩:=eX wo.drew
      have hd:aC (λ_=>False) wo wd:=by rw[hwd];exact (aC.refl _ _).drew
      refine wp_region_any (by kernel_rfl) ?_
      change wpAny _ _ _ _ _ _ _ (World.drew _)
      rw[<-hwd]
      obtain⟨r0,r1,r2⟩:=(HQ.quiet hd).rd.facts
      have HD:=aB hd
      clear hwd hd
      refine wpAny_ready (rs:=[0]) (by kernel_rfl) (by simp) ?_
      refine AllReady.cons rfl (λK hK=>?_) AllReady.nil
      go_simp
      refine hK _ _ ?_
      clear hK K
      refine wpAny_ready (rs:=[1]) (by kernel_rfl) (by simp) ?_
      refine AllReady.cons rfl (λK hK=>?_) AllReady.nil
      go_simp
      refine (HEE wd).mono ?_
      rintro en w2 ⟨rfl,T2⟩
      have HT2:=aB (HD.then T2)
      obtain⟨m0,m1,m2⟩:=(HQ.quiet HT2).mc.facts
      clear T2 r0 r1 r2
      go_simp
      refine hK _ _ ?_
      clear hK K
      refine wpAny_take (i:=2) (v:=.bool false) rfl (by kernel_rfl) (by kernel_rfl) (by kernel_rfl) (λ_ _ _ h=>h) (Or.inl ⟨by kernel_rfl,?h2⟩) ?_
      case h2=>intro w;go_simp
      refine wpAny_take (i:=3) (v:=.bool false) rfl (by kernel_rfl) (by kernel_rfl) (by kernel_rfl) (λ_ _ _ h=>h) (Or.inl ⟨by kernel_rfl,?h3⟩) ?_
      case h3=>intro w;go_simp
      refine wpAny_ready (rs:=[4]) (by kernel_rfl) (by simp) ?_
      refine AllReady.cons rfl (λK hK=>?_) AllReady.nil
      go_simp
      refine hK _ _ ?_
      clear hK K
      refine wpAny_ready (rs:=[5]) (by kernel_rfl) (by simp) ?_
      refine AllReady.cons rfl (λK hK=>?_) AllReady.nil
      go_simp
      refine (HCR1 w2 HT2).mono ?_
      rintro en w3 ⟨rfl,T3⟩
      have HT3:=aB (HT2.then T3)
      clear T3 m0 m1 m2
      obtain⟨m0,m1,m2⟩:=(HQ.quiet HT3).mc.facts
      have cv3:=HCVX.out w3 HT3
      go_simp
      refine hK _ _ ?_
      clear hK K
      refine wpAny_take (i:=6) (v:=.bool false) rfl (by kernel_rfl) (by kernel_rfl) (by kernel_rfl) (λ_ _ _ h=>h) (Or.inl ⟨by kernel_rfl,?h6⟩) ?_
      case h6=>intro w;go_simp
      refine wpAny_take (i:=7) (v:=.bool false) rfl (by kernel_rfl) (by kernel_rfl) (by kernel_rfl) (λ_ _ _ h=>h) (Or.inl ⟨by kernel_rfl,?h7⟩) ?_
      case h7=>intro w;go_simp
      refine wpAny_take (i:=8) (v:=.bool false) rfl (by kernel_rfl) (by kernel_rfl) (by kernel_rfl) (λ_ _ _ h=>h) (Or.inl ⟨by kernel_rfl,?h8⟩) ?_
      case h8=>intro w;go_simp
      refine wpAny_take (i:=12) (v:=?v12) rfl (by kernel_rfl) (by kernel_rfl) (by kernel_rfl) (λ_ _ _ h=>h) (Or.inl ⟨by kernel_rfl,?h12⟩) ?_
      case h12=>intro w;go_simp;try with_reducible rfl
      refine wpAny_ready (rs:=[9,13]) (by kernel_rfl) (by simp) ?_
      refine AllReady.cons rfl (λK hK=>?_) (AllReady.cons rfl (λK hK=>?_) AllReady.nil)
      ·go_simp
       refine hK _ _ ?_
       clear hK K
       refine wpAny_ready (rs:=[10,13]) (by kernel_rfl) (by simp) ?_
       refine AllReady.cons rfl (λK hK=>?_) (AllReady.cons rfl (λK hK=>?_) AllReady.nil)
       ·go_simp
        refine (HCB2 w3 HT3).mono ?_
        rintro en w4 ⟨Ab,qb,cb,rfl,hcvb,T4⟩
        have HT4:=aB (HT3.then T4)
        obtain⟨u0,u1,u2⟩:=(HQ.quiet HT4).res.facts
        clear m0 m1 m2 cv3
        obtain⟨m0,m1,m2⟩:=(HQ.quiet HT4).mc.facts
        have cv4:=HCVX.out w4 HT4
        clear T4
        go_simp
        refine hK _ _ ?_
        clear hK K
        refine wpAny_ready (rs:=[11,13]) (by kernel_rfl) (by simp) ?_
        refine AllReady.cons rfl (λK hK=>?_) (AllReady.cons rfl (λK hK=>?_) AllReady.nil)
        ·go_simp
         refine hK _ _ ?_
         clear hK K
         refine wpAny_ready (rs:=[13]) (by kernel_rfl) (by simp) ?_
         refine AllReady.cons rfl (λK hK=>?_) AllReady.nil
         go_simp
         refine hK _ _ ?_
         clear hK K
         refine wpAny_take (i:=14) (v:=.bool true) rfl (by kernel_rfl) (by kernel_rfl) (by kernel_rfl) (λ_ _ _ h=>h) (Or.inl ⟨by kernel_rfl,?h14⟩) ?_
         case h14=>intro w;go_simp
         refine wpAny_take (i:=15) (v:=.bool true) rfl (by kernel_rfl) (by kernel_rfl) (by kernel_rfl) (λ_ _ _ h=>h) (Or.inl ⟨by kernel_rfl,?h15⟩) ?_
         case h15=>intro w;go_simp
         go_simp
         refine wpAny_done (by kernel_rfl) ?_ 0
         go_wp2_with fail
         refine bodyPost_ret (v:=.tuple #[.agg #[.int .i64 0,.slice none 0 0],.int .i64 80]) (by simp[results,Tryz.results74,go_sem,u0,u1];try rfl) rfl ⟨?_,.inr ⟨HNO,rfl⟩⟩
         have hTT:=HQ.touch.then HT4
         repeat' first | exact hTT | refine aC.setCell ?_ (λh=>by simp only at h;omega) _
        ·go_simp
         refine hK _ _ ?_
         clear hK K
         refine wpAny_ready (rs:=[11]) (by kernel_rfl) (by simp) ?_
         refine AllReady.cons rfl (λK hK=>?_) AllReady.nil
         go_simp
         refine hK _ _ ?_
         clear hK K
         refine wpAny_take (i:=14) (v:=.bool true) rfl (by kernel_rfl) (by kernel_rfl) (by kernel_rfl) (λ_ _ _ h=>h) (Or.inl ⟨by kernel_rfl,?h14⟩) ?_
         case h14=>intro w;go_simp
         refine wpAny_take (i:=15) (v:=.bool true) rfl (by kernel_rfl) (by kernel_rfl) (by kernel_rfl) (λ_ _ _ h=>h) (Or.inl ⟨by kernel_rfl,?h15⟩) ?_
         case h15=>intro w;go_simp
         go_simp
         refine wpAny_done (by kernel_rfl) ?_ 0
         go_wp2_with fail
         refine bodyPost_ret (v:=.tuple #[.agg #[.int .i64 0,.slice none 0 0],.int .i64 80]) (by simp[results,Tryz.results74,go_sem,u0,u1];try rfl) rfl ⟨?_,.inr ⟨HNO,rfl⟩⟩
         have hTT:=HQ.touch.then HT4
         repeat' first | exact hTT | refine aC.setCell ?_ (λh=>by simp only at h;omega) _
       ·go_simp
        refine hK _ _ ?_
        clear hK K
        refine wpAny_ready (rs:=[10]) (by kernel_rfl) (by simp) ?_
        refine AllReady.cons rfl (λK hK=>?_) AllReady.nil
        go_simp
        refine (HCB2 w3 HT3).mono ?_
        rintro en w4 ⟨Ab,qb,cb,rfl,hcvb,T4⟩
        have HT4:=aB (HT3.then T4)
        obtain⟨u0,u1,u2⟩:=(HQ.quiet HT4).res.facts
        clear m0 m1 m2 cv3
        obtain⟨m0,m1,m2⟩:=(HQ.quiet HT4).mc.facts
        have cv4:=HCVX.out w4 HT4
        clear T4
        go_simp
        refine hK _ _ ?_
        clear hK K
        refine wpAny_ready (rs:=[11]) (by kernel_rfl) (by simp) ?_
        refine AllReady.cons rfl (λK hK=>?_) AllReady.nil
        go_simp
        refine hK _ _ ?_
        clear hK K
        refine wpAny_take (i:=14) (v:=.bool true) rfl (by kernel_rfl) (by kernel_rfl) (by kernel_rfl) (λ_ _ _ h=>h) (Or.inl ⟨by kernel_rfl,?h14⟩) ?_
        case h14=>intro w;go_simp
        refine wpAny_take (i:=15) (v:=.bool true) rfl (by kernel_rfl) (by kernel_rfl) (by kernel_rfl) (λ_ _ _ h=>h) (Or.inl ⟨by kernel_rfl,?h15⟩) ?_
        case h15=>intro w;go_simp
        go_simp
        refine wpAny_done (by kernel_rfl) ?_ 0
        go_wp2_with fail
        refine bodyPost_ret (v:=.tuple #[.agg #[.int .i64 0,.slice none 0 0],.int .i64 80]) (by simp[results,Tryz.results74,go_sem,u0,u1];try rfl) rfl ⟨?_,.inr ⟨HNO,rfl⟩⟩
        have hTT:=HQ.touch.then HT4
        repeat' first | exact hTT | refine aC.setCell ?_ (λh=>by simp only at h;omega) _
      ·go_simp
       refine hK _ _ ?_
       clear hK K
       refine wpAny_ready (rs:=[9]) (by kernel_rfl) (by simp) ?_
       refine AllReady.cons rfl (λK hK=>?_) AllReady.nil
       go_simp
       refine hK _ _ ?_
       clear hK K
       refine wpAny_ready (rs:=[10]) (by kernel_rfl) (by simp) ?_
       refine AllReady.cons rfl (λK hK=>?_) AllReady.nil
       go_simp
       refine (HCB2 w3 HT3).mono ?_
       rintro en w4 ⟨Ab,qb,cb,rfl,hcvb,T4⟩
       have HT4:=aB (HT3.then T4)
       obtain⟨u0,u1,u2⟩:=(HQ.quiet HT4).res.facts
       clear m0 m1 m2 cv3
       obtain⟨m0,m1,m2⟩:=(HQ.quiet HT4).mc.facts
       have cv4:=HCVX.out w4 HT4
       clear T4
       go_simp
       refine hK _ _ ?_
       clear hK K
       refine wpAny_ready (rs:=[11]) (by kernel_rfl) (by simp) ?_
       refine AllReady.cons rfl (λK hK=>?_) AllReady.nil
       go_simp
       refine hK _ _ ?_
       clear hK K
       refine wpAny_take (i:=14) (v:=.bool true) rfl (by kernel_rfl) (by kernel_rfl) (by kernel_rfl) (λ_ _ _ h=>h) (Or.inl ⟨by kernel_rfl,?h14⟩) ?_
       case h14=>intro w;go_simp
       refine wpAny_take (i:=15) (v:=.bool true) rfl (by kernel_rfl) (by kernel_rfl) (by kernel_rfl) (λ_ _ _ h=>h) (Or.inl ⟨by kernel_rfl,?h15⟩) ?_
       case h15=>intro w;go_simp
       go_simp
       refine wpAny_done (by kernel_rfl) ?_ 0
       go_wp2_with fail
       refine bodyPost_ret (v:=.tuple #[.agg #[.int .i64 0,.slice none 0 0],.int .i64 80]) (by simp[results,Tryz.results74,go_sem,u0,u1];try rfl) rfl ⟨?_,.inr ⟨HNO,rfl⟩⟩
       have hTT:=HQ.touch.then HT4
       repeat' first | exact hTT | refine aC.setCell ?_ (λh=>by simp only at h;omega) _
    ·have hno:¬ wX xs:=λhp=>hR (zD hm hp).2.1
     have hcr1:∀ wx,aC (λ_=>False) wo wx->Calls Tryz.prog 131 #[.agg #[.int .i64 v1,.slice sA i sc]] wx λe w'=>e=.returned (.bool false)/\aC (λ_=>False) wx w':=λwx T=>by
      refine (hcr wx T).mono ?_
      rintro e w' ⟨⟨v,rfl,hv⟩,T'⟩
      have:v=false:=by
       cases v
       ·rfl
       ·exact absurd (hv.1 rfl) hR
      rw[this]
      exact⟨rfl,T'⟩
     have HCR1:=aB hcr1
     have HNO:=aB hno
     clear hjs hex hje hsz hbw hcr hm hd hee hcr1 hno hnp hgo hi HCR HE hR
     go_wp2_with fail
     clear r0 r1 r2 m0 m1 m2
     obtain⟨wd,hwd⟩:=eX wo.drew
     have hd:aC (λ_=>False) wo wd:=by rw[hwd];exact (aC.refl _ _).drew
     refine wp_region_any (by kernel_rfl) ?_
     change wpAny _ _ _ _ _ _ _ (World.drew _)
     rw[<-hwd]
     obtain⟨r0,r1,r2⟩:=(HQ.quiet hd).rd.facts
     have HD:=aB hd
     clear hwd hd
     refine wpAny_ready (rs:=[0]) (by kernel_rfl) (by simp) ?_
     refine AllReady.cons rfl (λK hK=>?_) AllReady.nil
     go_simp
     refine hK _ _ ?_
     clear hK K
     refine wpAny_ready (rs:=[1]) (by kernel_rfl) (by simp) ?_
     refine AllReady.cons rfl (λK hK=>?_) AllReady.nil
     go_simp
     refine (HEE wd).mono ?_
     rintro en w2 ⟨rfl,T2⟩
     have HT2:=aB (HD.then T2)
     obtain⟨m0,m1,m2⟩:=(HQ.quiet HT2).mc.facts
     clear T2 r0 r1 r2
     go_simp
     refine hK _ _ ?_
     clear hK K
     refine wpAny_take (i:=2) (v:=.bool false) rfl (by kernel_rfl) (by kernel_rfl) (by kernel_rfl) (λ_ _ _ h=>h) (Or.inl ⟨by kernel_rfl,?h2⟩) ?_
     case h2=>intro w;go_simp
     refine wpAny_take (i:=3) (v:=.bool false) rfl (by kernel_rfl) (by kernel_rfl) (by kernel_rfl) (λ_ _ _ h=>h) (Or.inl ⟨by kernel_rfl,?h3⟩) ?_
     case h3=>intro w;go_simp
     refine wpAny_ready (rs:=[4]) (by kernel_rfl) (by simp) ?_
     refine AllReady.cons rfl (λK hK=>?_) AllReady.nil
     go_simp
     refine hK _ _ ?_
     clear hK K
     refine wpAny_ready (rs:=[5]) (by kernel_rfl) (by simp) ?_
     refine AllReady.cons rfl (λK hK=>?_) AllReady.nil
     go_simp
     refine (HCR1 w2 HT2).mono ?_
     rintro en w3 ⟨rfl,T3⟩
     have HT3:=aB (HT2.then T3)
     obtain⟨u0,u1,u2⟩:=(HQ.quiet HT3).res.facts
     clear T3 m0 m1 m2
     go_simp
     refine hK _ _ ?_
     clear hK K
     refine wpAny_take (i:=6) (v:=.bool true) rfl (by kernel_rfl) (by kernel_rfl) (by kernel_rfl) (λ_ _ _ h=>h) (Or.inl ⟨by kernel_rfl,?h6⟩) ?_
     case h6=>intro w;go_simp
     refine wpAny_take (i:=7) (v:=.bool true) rfl (by kernel_rfl) (by kernel_rfl) (by kernel_rfl) (λ_ _ _ h=>h) (Or.inl ⟨by kernel_rfl,?h7⟩) ?_
     case h7=>intro w;go_simp
     refine wpAny_take (i:=8) (v:=.bool true) rfl (by kernel_rfl) (by kernel_rfl) (by kernel_rfl) (λ_ _ _ h=>h) (Or.inl ⟨by kernel_rfl,?h8⟩) ?_
     case h8=>intro w;go_simp
     refine wpAny_take (i:=9) (v:=undef) rfl (by kernel_rfl) (by kernel_rfl) (by kernel_rfl) (λ_ _ _ h=>h) (Or.inr ⟨by kernel_rfl,rfl⟩) ?_
     refine wpAny_take (i:=10) (v:=undef) rfl (by kernel_rfl) (by kernel_rfl) (by kernel_rfl) (λ_ _ _ h=>h) (Or.inr ⟨by kernel_rfl,rfl⟩) ?_
     refine wpAny_take (i:=11) (v:=undef) rfl (by kernel_rfl) (by kernel_rfl) (by kernel_rfl) (λ_ _ _ h=>h) (Or.inr ⟨by kernel_rfl,rfl⟩) ?_
     refine wpAny_take (i:=12) (v:=undef) rfl (by kernel_rfl) (by kernel_rfl) (by kernel_rfl) (λ_ _ _ h=>h) (Or.inr ⟨by kernel_rfl,rfl⟩) ?_
     refine wpAny_take (i:=13) (v:=undef) rfl (by kernel_rfl) (by kernel_rfl) (by kernel_rfl) (λ_ _ _ h=>h) (Or.inr ⟨by kernel_rfl,rfl⟩) ?_
     refine wpAny_take (i:=14) (v:=undef) rfl (by kernel_rfl) (by kernel_rfl) (by kernel_rfl) (λ_ _ _ h=>h) (Or.inr ⟨by kernel_rfl,rfl⟩) ?_
     refine wpAny_take (i:=15) (v:=.bool true) rfl (by kernel_rfl) (by kernel_rfl) (by kernel_rfl) (λ_ _ _ h=>h) (Or.inl ⟨by kernel_rfl,?h15⟩) ?_
     case h15=>intro w;go_simp
     go_simp
     refine wpAny_done (by kernel_rfl) ?_ 0
     go_wp2_with fail
     refine bodyPost_ret (v:=.tuple #[.agg #[.int .i64 0,.slice none 0 0],.int .i64 80]) (by simp[results,Tryz.results74,go_sem,u0,u1];try rfl) rfl ⟨?_,.inr ⟨HNO,rfl⟩⟩
     have hTT:=HQ.touch.then HT3
     repeat' first | exact hTT | refine aC.setCell ?_ (λh=>by simp only at h;omega) _
   ·have hno:¬ wX xs:=by
     by_cases he0:e=0
     ·intro hp
      have h1:=(zD (hje he0) hp).1
      have h2:n<=p:=by
       have:=congrArg List.length h1
       rw[List.length_drop,HL.out] at this
       simp at this
       omega
      exact hok ⟨he0,h2⟩
     ·exact yV (hjs.2 he0)
    have hee:∀ wx,Calls Tryz.prog 75 #[.agg #[.slice A n c,.int .i64 p,.int .i64 e]] wx λen w'=>(∃ k:Int,en=.returned (.int .i64 k)/\k≠0)/\aC (λ_=>False) wx w':=λwx=>by
     refine (HE wx).mono ?_
     rintro en w' ⟨⟨k',rfl,hk⟩,T⟩
     exact⟨⟨k',rfl,λh=>hok (hk.1 h)⟩,T⟩
    have HEE:=aB hee
    have HNO:=aB hno
    clear hjs hje hsz hbw hcr hee hno hgo hi HCR HE hok
    rcases hex with hex | ⟨hex,hex2⟩
    all_goals
     go_wp2_with fail
     clear r0 r1 r2 m0 m1 m2
     obtain⟨wd,hwd⟩:=eX wo.drew
     have hd:aC (λ_=>False) wo wd:=by rw[hwd];exact (aC.refl _ _).drew
     refine wp_region_any (by kernel_rfl) ?_
     change wpAny _ _ _ _ _ _ _ (World.drew _)
     rw[<-hwd]
     obtain⟨r0,r1,r2⟩:=(HQ.quiet hd).rd.facts
     have HD:=aB hd
     clear hwd hd
     refine wpAny_ready (rs:=[0]) (by kernel_rfl) (by simp) ?_
     refine AllReady.cons rfl (λK hK=>?_) AllReady.nil
     go_simp
     refine hK _ _ ?_
     clear hK K
     refine wpAny_ready (rs:=[1]) (by kernel_rfl) (by simp) ?_
     refine AllReady.cons rfl (λK hK=>?_) AllReady.nil
     go_simp
     refine (HEE wd).mono ?_
     rintro en w2 ⟨⟨k,rfl,hk⟩,T2⟩
     have k1:(k != 0)=true:=by simpa using hk
     have k2:(k == 0)=false:=by simpa using hk
     have HT2:=aB (HD.then T2)
     obtain⟨u0,u1,u2⟩:=(HQ.quiet HT2).res.facts
     clear T2 hk r0 r1 r2
     go_simp
     refine hK _ _ ?_
     clear hK K
     refine wpAny_take (i:=2) (v:=.bool true) rfl (by kernel_rfl) (by kernel_rfl) (by kernel_rfl) (λ_ _ _ h=>h) (Or.inl ⟨by kernel_rfl,?h2⟩) ?_
     case h2=>intro w;go_simp
     refine wpAny_take (i:=3) (v:=.bool true) rfl (by kernel_rfl) (by kernel_rfl) (by kernel_rfl) (λ_ _ _ h=>h) (Or.inl ⟨by kernel_rfl,?h3⟩) ?_
     case h3=>intro w;go_simp
     refine wpAny_take (i:=4) (v:=undef) rfl (by kernel_rfl) (by kernel_rfl) (by kernel_rfl) (λ_ _ _ h=>h) (Or.inr ⟨by kernel_rfl,rfl⟩) ?_
     refine wpAny_take (i:=5) (v:=undef) rfl (by kernel_rfl) (by kernel_rfl) (by kernel_rfl) (λ_ _ _ h=>h) (Or.inr ⟨by kernel_rfl,rfl⟩) ?_
     refine wpAny_take (i:=6) (v:=undef) rfl (by kernel_rfl) (by kernel_rfl) (by kernel_rfl) (λ_ _ _ h=>h) (Or.inr ⟨by kernel_rfl,rfl⟩) ?_
     refine wpAny_take (i:=7) (v:=.bool true) rfl (by kernel_rfl) (by kernel_rfl) (by kernel_rfl) (λ_ _ _ h=>h) (Or.inl ⟨by kernel_rfl,?h7⟩) ?_
     case h7=>intro w;go_simp
     refine wpAny_take (i:=8) (v:=.bool true) rfl (by kernel_rfl) (by kernel_rfl) (by kernel_rfl) (λ_ _ _ h=>h) (Or.inl ⟨by kernel_rfl,?h8⟩) ?_
     case h8=>intro w;go_simp
     refine wpAny_take (i:=9) (v:=undef) rfl (by kernel_rfl) (by kernel_rfl) (by kernel_rfl) (λ_ _ _ h=>h) (Or.inr ⟨by kernel_rfl,rfl⟩) ?_
     refine wpAny_take (i:=10) (v:=undef) rfl (by kernel_rfl) (by kernel_rfl) (by kernel_rfl) (λ_ _ _ h=>h) (Or.inr ⟨by kernel_rfl,rfl⟩) ?_
     refine wpAny_take (i:=11) (v:=undef) rfl (by kernel_rfl) (by kernel_rfl) (by kernel_rfl) (λ_ _ _ h=>h) (Or.inr ⟨by kernel_rfl,rfl⟩) ?_
     refine wpAny_take (i:=12) (v:=undef) rfl (by kernel_rfl) (by kernel_rfl) (by kernel_rfl) (λ_ _ _ h=>h) (Or.inr ⟨by kernel_rfl,rfl⟩) ?_
     refine wpAny_take (i:=13) (v:=undef) rfl (by kernel_rfl) (by kernel_rfl) (by kernel_rfl) (λ_ _ _ h=>h) (Or.inr ⟨by kernel_rfl,rfl⟩) ?_
     refine wpAny_take (i:=14) (v:=undef) rfl (by kernel_rfl) (by kernel_rfl) (by kernel_rfl) (λ_ _ _ h=>h) (Or.inr ⟨by kernel_rfl,rfl⟩) ?_
     refine wpAny_take (i:=15) (v:=.bool true) rfl (by kernel_rfl) (by kernel_rfl) (by kernel_rfl) (λ_ _ _ h=>h) (Or.inl ⟨by kernel_rfl,?h15⟩) ?_
     case h15=>intro w;go_simp
     go_simp
     refine wpAny_done (by kernel_rfl) ?_ 0
     go_wp2_with fail
     refine bodyPost_ret (v:=.tuple #[.agg #[.int .i64 0,.slice none 0 0],.int .i64 80]) (by simp[results,Tryz.results74,go_sem,u0,u1];try rfl) rfl ⟨?_,.inr ⟨HNO,rfl⟩⟩
     have hTT:=HQ.touch.then HT2
     repeat' first | exact hTT | refine aC.setCell ?_ (λh=>by simp only at h;omega) _
end
def Ue(b:List UInt8)(w:World)(e:Ending)(w':World):Prop:=aC (λ_=>False) w w' /\
 ((∃ (L:List aE) (R:List aU) (sl:SL) (A':Option Addr) (n' c':Nat),lH b L R/\e=.returned (.tuple #[.agg #[sl.val,.slice A' n' c'],.int .i64 0])/\sl.Ok w'/\sl.L=L/\Tr w' A' n' c' R) \/
   ((∀ L R,¬ lH b L R)/\e=.returned (.tuple #[.agg #[.slice none 0 0,.slice none 0 0],.int .i64 160])))
theorem lB{w8:World}(T:aC (λ_=>False) w w8){g:Nat}(hg:w.heap.size<=g)(a b:Value):aC (λ_=>False) w ((w8.setCell ⟨g,0,none⟩ a).setCell ⟨g,1,none⟩ b):=by
 have hg':∀ i,(⟨g,i,none⟩:Addr).block<w.heap.size->False:=λi h=>by simp only at h;omega
 exact (T.setCell (hg' 0) a).setCell (hg' 1) b
theorem Mm{A:Option Addr}{c:Nat}{x:List UInt8}(h:w.ownsRow 0 5 1 (.slice A x.length c) x.length (x.map aP))(hx:x.length<=4398046511104):RB w A x.length c x :=
 ⟨aI.of_own h,rfl,hx,(cT h).1,jD h⟩
structure RJ(w wr:World)(g7 gs rs:Nat)(AX:Option Addr)(cX:Nat)(x:List UInt8)(p:Nat)(e:Int)(AP:Option Addr)(cP:Nat)(m:List UInt8)(A':Option Addr)(i c':Nat)(Rt:List aU):Prop where
 rdr:aL wr g7 138 #[.slice AX x.length cX,.int .i64 p,.int .i64 e]
 st:aL wr gs 56 #[.slice none 0 0,.slice A' i c']
 res:aL wr rs 56 #[.slice none 0 0,.slice none 0 0]
 own:wr.ownsRow 0 136 4 (.slice A' i c') i (bQ Rt)
 fr:∀ g,(Value.slice A' i c').ownBlock=some g->w.heap.size<=g
 xo:wr.ownsRow 0 5 1 (.slice AX x.length cX) x.length (x.map aP)
 po:wr.ownsRow 0 5 1 (.slice AP m.length cP) m.length (m.map aP)
 t:aC (λ_=>False) w wr
 y7:w.heap.size<=g7
 ys:w.heap.size<=gs
 yr:w.heap.size<=rs
 ne:¬ gs=rs
section
variable{w wr wx:World}{g7 gs rs:Nat}{AX:Option Addr}{cX:Nat}{x:List UInt8}{p:Nat}{e:Int}{AP:Option Addr}{cP:Nat}{m:List UInt8}{A':Option Addr}{i c':Nat}{Rt:List aU}
theorem RJ.quiet(h:RJ w wr g7 gs rs AX cX x p e AP cP m A' i c' Rt)(T:aC (λ_=>False) wr wx):RJ w wx g7 gs rs AX cX x p e AP cP m A' i c' Rt :=
 ⟨h.rdr.touch T (λf=>f),h.st.touch T (λf=>f),h.res.touch T (λf=>f),aD h.own T (λ_ _ f=>f),h.fr,aD h.xo T (λ_ _ f=>f),aD h.po T (λ_ _ f=>f),h.t.then T,h.y7,h.ys,h.yr,h.ne⟩
theorem RJ.setR(h:RJ w wr g7 gs rs AX cX x p e AP cP m A' i c' Rt)(p':Nat)(e':Int):RJ w (Go.Proofs.YthockgmbooefpaaGreatDoor.setR wr g7 AX x.length cX p' e') g7 gs rs AX cX x p' e' AP cP m A' i c' Rt:=by
 have T:=eZ wr g7 AX x.length cX p' e'
 have h7:=aF h.rdr
 exact⟨gR h.rdr _ _ _ _ _,h.st.touch T (λe=>(aF h.st).ne h7 (by decide) e),h.res.touch T (λe=>(aF h.res).ne h7 (by decide) e),aD h.own T (λg hg e=>(aH h.own hg).ne h7 (by decide) e),h.fr,aD h.xo T (λg hg e=>(aH h.xo hg).ne h7 (by decide) e),aD h.po T (λg hg e=>(aH h.po hg).ne h7 (by decide) e),h.t.trans T (λg hg e=>by have:=h.y7;omega),h.y7,h.ys,h.yr,h.ne⟩
theorem RJ.step(h:RJ w wr g7 gs rs AX cX x p e AP cP m A' i c' Rt){wg:World}{AG:Option Addr}{cG:Nat}{r:aU}(hown:wg.ownsRow 0 136 4 (.slice AG (i+1) cG) (i+1) (bQ Rt++aU.cells r))(T:aC (λg=>(Value.slice A' i c').ownBlock=some g) wr wg)(hf:∀ g,(Value.slice AG (i+1) cG).ownBlock=some g->w.heap.size<=g) :
  RJ w (wg.setCell ⟨gs,1,none⟩ (.slice AG (i+1) cG)) g7 gs rs AX cX x p e AP cP m AG (i+1) cG (Rt++[r]):=by
 have far:∀ {g:Nat} {t:TypeId},bE wr g t->t ≠ 136 -> ¬ (Value.slice A' i c').ownBlock=some g:=λhg ht e=>hg.ne (aH h.own e) ht rfl
 have hS:=h.st.touch T (far (aF h.st) (by decide))
 have T2:aC (λg=>g=gs) wg (wg.setCell ⟨gs,1,none⟩ (.slice AG (i+1) cG)):=(aC.refl (λg=>g=gs) wg).setCell (λ_=>rfl) _
 have hs:=aF hS
 have h1:=h.rdr.touch T (far (aF h.rdr) (by decide))
 have h2:=h.res.touch T (far (aF h.res) (by decide))
 have h3:=aD h.xo T (λg hg=>far (aH h.xo hg) (by decide))
 have h4:=aD h.po T (λg hg=>far (aH h.po hg) (by decide))
 exact⟨h1.touch T2 (λe=>(aF h1).ne hs (by decide) e),hS.set_ 1 _,h2.touch T2 (λe=>h.ne e.symm),by rw[mD];exact aD hown T2 (λg hg e=>(aH hown hg).ne hs (by decide) e),hf,aD h3 T2 (λg hg e=>(aH h3 hg).ne hs (by decide) e),aD h4 T2 (λg hg e=>(aH h4 hg).ne hs (by decide) e),(h.t.trans T (λg hg e=>by have:=h.fr g e;omega)).trans T2 (λg hg e=>by have:=h.ys;omega),h.y7,h.ys,h.yr,h.ne⟩
end
theorem Yz{Z:List ZV}{sts:List bP}{base:Int}(hz:Z.map ZV.p=sts.map bP.z)(h:jZ sts base):Z.length<=maxLen:=by
 have h1:=congrArg List.length hz
 rw[qZb,qZb] at h1
 have h2:sts.length<=98305:=by
  rcases h with⟨rfl,_⟩ | h
  ·simp
  ·exact h.few
 unfold maxLen
 omega
theorem Om{Z:List ZV}{sts:List bP}{base:Int}(hz:Z.map ZV.p=sts.map bP.z)(h:jZ sts base):∀ z∈Z,∀ a∈z.arcs,Kr a.1:=by
 intro z hz1 a ha
 have h1:z.p∈sts.map bP.z:=by rw[<-hz];exact List.mem_map_of_mem hz1
 obtain⟨s,hs,he⟩:=List.mem_map.1 h1
 have h2:s.arcs.map fN=z.arcs:=congrArg iS.arcs he
 rw[<-h2] at ha
 obtain⟨b,hb,rfl⟩:=List.mem_map.1 ha
 obtain⟨k,hk,rfl⟩:=List.mem_iff_getElem.1 hs
 have hf:dQ k (sts.getD k aS):=by
  rcases h with⟨rfl,_⟩ | h
  ·cases hs
  ·exact h.form k hk
 have e:sts.getD k aS=sts[k]:=by simp[List.getD,hk]
 rw[e] at hf
 have hl:=cU (hf.run b hb).1
 unfold Kr fN
 simp only
 omega
theorem Xz{s:SL}(h:s.Ok w){g0:Nat}{t:TypeId}{A B:Option Addr}{n c m d:Nat}(hb:aL w g0 t #[.slice A n c,.slice B m d]):0<s.n->∀ g,aQ s.A=some g->¬ g=g0:=by
 intro hn g hg e
 obtain⟨sA,sn,sc,sL⟩:=s
 obtain⟨b,off,hA,_,hc⟩:=h.reads.2 hn
 simp only at hA hn hg hc
 rw[hA] at hg
 simp[aQ] at hg
 have hl:=h.len
 simp only at hl
 cases sL with
 | nil=>simp at hl;omega
 | cons a l =>
  have h1:=hc 0 (.string a.word) (by simp[bC,aE.cells])
  rw[hg,e,hb.cell] at h1
  match off with
  | 0=>simp at h1
  | 1=>simp at h1
  | k+2=>simp at h1
theorem Di{wP:World}{g7 gs rs:Nat}{A1:Option Addr}{c1:Nat}{x:List UInt8}{p5:Nat}{e5:Int}{AP:Option Addr}{cP:Nat}{m:List UInt8}{A':Option Addr}{i c':Nat}{Rt Rk:List aU}{b:List UInt8}{L:List aE}{AW:Option Addr}{nW cW kk:Nat}(h:RJ w wP g7 gs rs A1 c1 x p5 e5 AP cP m A' i c' Rt)(hok:SL.Ok ⟨AW,nW,cW,L⟩ wP)(hi:lH b L Rk)(hr:Rt=Rk)(hk:kk<=4096)(hl:Rt.length=i) :
  Ue b w (.returned (.tuple #[.agg #[.slice AW nW cW,.slice A' i c'],.int .i64 0])) (((wP.setCell ⟨gs,0,none⟩ (.slice AW nW cW)).setCell ⟨rs,0,none⟩ (.slice AW nW cW)).setCell ⟨rs,1,none⟩ (.slice A' i c')):=by
 have T:aC (λg=>g=gs\/g=rs) wP (((wP.setCell ⟨gs,0,none⟩ (.slice AW nW cW)).setCell ⟨rs,0,none⟩ (.slice AW nW cW)).setCell ⟨rs,1,none⟩ (.slice A' i c')) :=
  (((aC.refl (λg=>g=gs\/g=rs) wP).setCell (p:=⟨gs,0,none⟩) (λ_=>.inl rfl) _).setCell (p:=⟨rs,0,none⟩) (λ_=>.inr rfl) _).setCell (p:=⟨rs,1,none⟩) (λ_=>.inr rfl) _
 have h1:=Xz hok h.st
 have h2:=Xz hok h.res
 subst hr
 refine⟨h.t.trans T (λg hg e=>by have:=h.ys;have:=h.yr;omega),.inl ⟨L,Rt,⟨AW,nW,cW,L⟩,A',i,c',hi,rfl,⟨hok.len,iO hok.reads T (λhn g hg e=>?_),hok.nil⟩,rfl,⟨aD h.own T (λg hg e=>?_),hl,by rw[<-hl];exact hi.few⟩⟩⟩
 ·rcases e with e | e
  ·exact h1 hn g hg e
  ·exact h2 hn g hg e
 ·rcases e with e | e
  ·exact (aH h.own hg).ne (aF h.st) (by decide) e
  ·exact (aH h.own hg).ne (aF h.res) (by decide) e
end Go.Proofs.YthockgmbooefpaaGreatDoor
