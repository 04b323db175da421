/- What the law rests on, part 7. No condition but those that each theorem names. -/
import Derived.Test.YthockgmbooefpaaGreatDoorV05
import Derived.Test.YthockgmbooefpaaGreatDoorV06
import Derived.Test.YthockgmbooefpaaGreatDoorV04
import Derived.StillTailTactics
import Derived.Deep.CutRange
import Derived.BigQuiet
import Derived.Deep.QuietTactic
import Derived.Deep.RegionHeld3
import Derived.Laws.Cover3
set_option linter.unusedSectionVars false
set_option linter.unusedSimpArgs false
set_option linter.unusedVariables false
set_option maxRecDepth 100000
set_option maxHeartbeats 8000000
namespace Go.Proofs.YthockgmbooefpaaGreatDoor
open Int renaming toNat_natCast → qJe
open IntWalk renaming i64_in → qZa
open List renaming append_assoc → qQa, getD → qJa, length_cons → qQb, length_map → qZb, map_cons → qXb, mem_of_getElem? → qXc, cons_append → qQd, length_append → qZd, map_append → qXd, mem_cons_of_mem → qJd, mem_cons_self → qQe, mem_singleton → qZe, eq_nil_of_length_eq_zero → qQf, getD_eq_getElem?_getD → qZf, map_map → qXf, take_of_length_le → qJf
open Nat renaming lt_succ_iff_lt_or_eq → qXa, le_refl → qJb, not_lt_zero → qQc, zero_le → qZc, mul_comm → qJc, pow_succ → qXe, mul_assoc → qZg, mul_lt_mul_of_pos_right → qZj
variable{es:Array MapEntry}{xs:List Value}{B b clock i m n size:Nat}{S:Nat->Prop}{kv:Nat->Value}{A:Option Addr}{t:TypeId}{w w':World}
open Go.RowKit
theorem aGm(a b:ByteArray)(v:Bool)(h:Op.bytesLess a.toList b.toList=v)(w:World) :
  Calls Tryz.prog 82 #[.string a,.string b] w λe w'=>e=.returned (.bool v)/\w'=w:=by
 subst h
 go_in
 go_wp2
 go_ret
 exact⟨rfl,rfl⟩
theorem aCo{L:List aD}(h:L≠[]):aR L=⟨bE (aV L),(bJ 25 ⟨[],[]⟩ (aV L)).1.states⟩:=by unfold aR;rw[if_neg h]
theorem Nn(L:List aD)(i:Nat)(h:i<L.length):aV (L.take (i+1))=aV (L.take i)++[(cZ (L.getD i aD.zero),(L.getD i aD.zero).weight)]:=by
 unfold aV
 rw[kO L aD.zero i h,qXd]
 rfl
theorem aEw{p:aD}{O:List Nat}(h:bZ p.word.toList=some O):cZ p=O:=by unfold cZ;rw[h];rfl
theorem Bq(w:World)(hL:cV w)(s:SL)(hs:s.Ok w)(hWz:∀ r∈s.L,r.word.size<=1099511627776)(hm:s.n<=maxLen) :
  Calls Tryz.prog 38 #[s.val] w λe w' =>
   (gF s.L=false/\∃ k:Int,(70<=k/\k=Ey s.L)/\e=.returned (.tuple #[.agg #[.int .i64 0,.slice none 0 0],.int .i64 k])/\aC (λ_=>False) w w') \/
   (gF s.L=true/\∃ (A:Option Addr) (n c:Nat) (Z:List SV),e=.returned (.tuple #[.agg #[.int .i64 (aR s.L).base,.slice A n c],.int .i64 0])/\eW w' A n Z/\Z.map SV.p=(aR s.L).states/\n<=c/\aC (λ_=>False) w w'):=by
 obtain⟨i0,hi0,hz0,hz1,hz2⟩:=aQ Gs
 obtain⟨sA,sn,sc,sL⟩:=s
 have hsl:=hs.len
 have hrd:=hs.reads
 simp only at hWz hm hsl hrd
 simp only[SL.val]
 have HL:=aB hL
 have HSL:=aB hsl
 have HRD:=aB hrd
 have HWZ:=aB hWz
 have HM:=aB hm
 have HS:=aB hs
 clear hL hsl hrd hWz hs
 by_cases hbig:4096<sn
 ·have b0:(4096:Int)<(sn:Int):=by omega
  have HR:Hid (gF sL=false):=aB (Np (by rw[HSL.out];omega))
  have HE:Hid (Ey sL=70):=aB (Wn (by rw[HSL.out];omega))
  clear hbig hm
  go_in
  go_wp2_with fail
  obtain⟨f0,f1,f2⟩:=(aL.new w 89 #[.int .i64 0,.slice none 0 0]).facts
  exact bodyPost_ret (v:=.tuple #[.agg #[.int .i64 0,.slice none 0 0],.int .i64 70]) (by simp[results,Tryz.results38,go_sem,f0]) rfl (.inl ⟨HR,70,⟨by decide,HE.symm⟩,rfl,(aC.refl _ _).alloc _⟩)
 ·have b0:¬ (4096:Int)<(sn:Int):=by omega
  have b1:(sn:Int)<=4096:=by omega
  have HSN:=aB (show sn<=4096 by omega)
  clear hbig hm
  go_in
  go_wp2_with fail
  obtain⟨w1,hw1⟩:=eX (w.alloc (.cells #[.int .i64 0,.slice none 0 0] 89))
  obtain⟨Rb,hRb⟩:=eX w.heap.size
  have hT1:aC (λ_=>False) w w1:=by rw[hw1];exact (aC.refl _ _).alloc _
  have hbR:aL w1 Rb 89 #[.int .i64 0,.slice none 0 0]:=by rw[hw1,hRb];exact aL.new _ _ _
  rw[<-hw1,<-hRb]
  have HT1:=aB hT1
  have HBR:=aB hbR
  have HRB:Hid (w.heap.size<=Rb):=aB (by omega)
  clear hw1 hRb hT1 hbR
  go_loopw [4,16] (λav iv wr=>∃ (i:Nat) (A3:Option Addr) (c3:Nat) (V:List RV),av=.slice A3 i c3/\iv=.int .i64 i/\i<=sn/\Hid (fS 158 2 w1 wr (.slice A3 i c3) i (kF V))/\Hid (V.length=i/\V.map RV.p=aV (sL.take i)/\∀ r∈V,r.Ok wr/\0<=r.wt/\r.wt<=1048576)/\Hid (∀ k,k<i->Qt sL k=true)) (λ_ iv _=>sn-(intOf iv).toNat)
  case atStart=>exact⟨0,none,0,[],rfl,rfl,qZc _,aB (fS.nil _ _ _),aB ⟨rfl,rfl,λr hr=>(by cases hr)⟩,aB (λk hk=>absurd hk (qQc _))⟩
  case round =>
   obtain⟨i,A3,c3,V,rfl,rfl,hi,HO,HV,HF⟩:=hrel
   have hTr:aC (λ_=>False) w wr:=HT1.then HO.touch
   by_cases hin:i<sn
   ·obtain⟨g,o,hA,hg,a0,a1⟩:=dN (HRD.touch hTr (λ_ _ f=>f)) HSL.symm i hin
    subst hA
    obtain⟨⟨xw,xn⟩,hx⟩:∃ x,x=sL.getD i aD.zero:=⟨_,rfl⟩
    have hxm:(⟨xw,xn⟩:aD)∈sL:=by rw[hx];exact Hk _ _ (by rw[HSL.out];exact hin)
    have hsz:=HWZ.out _ hxm
    have htk:=Nn sL i (by rw[HSL.out];exact hin)
    have hfp:=Jh sL i
    have her:=aBg sL i
    rw[<-hx] at a0 a1 htk hfp her
    simp only at a0 a1 hsz htk hfp her
    have HER:=aB her
    clear her
    obtain⟨w2,hw2⟩:=eX (wr.alloc (.cells #[.string xw,.int .i64 xn] 125))
    have hT2:aC (λ_=>False) wr w2:=by rw[hw2];exact (aC.refl _ _).alloc _
    have hbP:aL w2 wr.heap.size 125 #[.string xw,.int .i64 xn]:=by rw[hw2];exact aL.new _ _ _
    have hL2:=cV.touch HL (hTr.then hT2)
    have HRU:=aB (lK w2 xw hsz hL2)
    have y0:(i:Int)<(sn:Int):=by omega
    have y1:(0:Int)<=(i:Int):=by omega
    have y2:IntKind.i64.wrap ((i:Int)+1)=(i:Int)+1:=qZa _ (by omega)
    have HTR:=aB hTr
    have HT2:=aB hT2
    have HBP:=aB hbP
    have HL2:=aB hL2
    have HW2:=aB hw2
    have HSZ:=aB hsz
    have HTK:=aB htk
    have HFP:=aB hfp
    have HIN:=aB hin
    have HX:=aB hx
    have HG:=aB hg
    clear hTr hxm hsz htk hfp hT2 hbP hL2 hw2 hin hi hx hg
    go_wp2_with fail
    rw[<-HW2.out]
    refine HRU.mono ?_
    rintro e w3 ⟨qA,q,qc,O,ok,rfl,hon,hOl,hqs,hru⟩
    have hbP3:=HBP.touch hon.touch (λf=>f)
    obtain⟨p0,p1,p2⟩:=hbP3.facts
    have HWD:=aB (mQ w3 xw (by have:=HSZ.out;omega) (cV.touch HL2 hon.touch))
    have HON:=aB hon
    have HOL:=aB hOl
    have HRU2:=aB hru
    have HBP3:=aB hbP3
    clear hon hOl hqs hru hbP3 HRU
    go_wp2_with fail
    refine HWD.mono ?_
    rintro e w4 ⟨rfl,T4⟩
    have HT4:=aB T4
    have HBP4:=aB (HBP3.touch T4 (λf=>f))
    clear T4 p0 p1 p2 HWD
    obtain⟨p0,p1,p2⟩:=HBP4.facts
    have HT14:=aB (HO.touch.then (HT2.then (HON.touch.then HT4)))
    obtain⟨r0,r1,r2⟩:=(HBR.touch HT14 (λf=>f)).facts
    have hTw:∀ W',aC (λg=>g=Rb) w4 W'->aC (λ_=>False) w W':=λW' T=>(HT1.then HT14).trans T (λg hg e=>by have:=HRB.out;omega)
    have HTW:=aB hTw
    clear hTw
    by_cases hwu:cF xw.toList=true
    ·rw[hwu]
     by_cases hwt:1<=xn/\xn<=1048576
     ·have n1:¬ xn<1:=by omega
      have n2:¬ (1048576:Int)<xn:=by omega
      obtain⟨O',hO',hfit,hlen0,hlen⟩:=iI hwu
      have hok:ok=true/\O=O':=by
       have h1:=HRU2.out
       rw[hO'] at h1
       cases ok with
       | true=>exact⟨rfl,(Option.some.inj (by simpa using h1)).symm⟩
       | false=>simp at h1
      obtain⟨rfl,rfl⟩:=hok
      have HO2:=aB hO'
      have HWT:=aB hwt
      have HWU:=aB hwu
      clear hO' hfit hlen0 hlen hwt hwu
      obtain⟨bd,hbd⟩:=eX ((decide (i=0) || Op.bytesLess (sL.getD (i-1) aD.zero).word.toList xw.toList))
      have HBD:=aB hbd
      clear hbd
      go_upto_region 12 with fail
      go_cut [43] from 17 to 66 (λsv wx=>sv=.bool (!bd)/\Hid (aC (λ_=>False) w4 wx))
      case first =>
       by_cases hi0:i=0
       ·have hb1:bd=true:=by rw[HBD.out];simp[hi0]
        have y3:decide (0<i)=false:=by simp[hi0]
        have y3':decide ((0:Int)<(i:Int))=false:=by simp[hi0]
        have HB1:=aB hb1
        clear hb1 hi0
        refine wp_region_quiet_lit (by kernel_rfl) (by kernel_rfl) ?_
        quiet_step (fail)
        quiet_step (fail)
        quiet_step (fail)
        rw[eJ]
        go_simp
        rw[eJ]
        go_simp
        rw[eJ]
        go_simp
        rw[eJ]
        go_simp
        rw[eJ]
        go_simp
        rw[eJ]
        go_simp
        rw[eJ]
        go_simp
        rw[eJ]
        go_simp
        rw[eJ]
        go_simp
        rw[eJ]
        go_simp
        quiet_step (fail)
        quiet_step (fail)
        refine wpQuiet_nil ?_
        intro nq
        go_wp2_with fail
        go_meet
        exact⟨by rw[HB1.out];rfl,aB ((aC.refl _ _).drewN _)⟩
       ·obtain⟨k,hk⟩:∃ k,i=k+1:=⟨i-1,by omega⟩
        obtain⟨g',o',hA,_,c0,_⟩:=dN (HRD.touch (HTW w4 (aC.refl _ _)) (λ_ _ f=>f)) HSL.symm k (by have:=HIN.out;omega)
        injection hA with hA
        injection hA with hA1 hA2
        subst hA1 hA2
        obtain⟨⟨yw,yn⟩,hy⟩:∃ y,y=sL.getD k aD.zero:=⟨_,rfl⟩
        have hb1:bd=Op.bytesLess yw.toList xw.toList:=by
         rw[HBD.out,show i-1=k by omega,<-hy]
         simp[hi0]
        rw[<-hy] at c0
        simp only at c0
        have y3:decide (0<i)=true:=decide_eq_true (by omega)
        have y3':decide ((0:Int)<(i:Int))=true:=decide_eq_true (by omega)
        have y4:(k:Int)<(sn:Int):=by have:=HIN.out;omega
        have y5:(0:Int)<=(k:Int):=by omega
        have y6:IntKind.i64.wrap ((i:Int)-1)=(k:Int):=by rw[show (i:Int)-1=(k:Int) by omega];exact qZa _ (by omega)
        have HB1:=aB hb1
        clear hi0 hy hb1 hk
        go_quiet ((go_at_call 82;exact Calls.quiet_of_same (aGm _ _ bd HB1.symm _)))
        go_wp2_with fail
        go_meet
        exact⟨rfl,aB ((aC.refl _ _).drewN _)⟩
      case rest =>
       obtain⟨rfl,HT5⟩:=hcut
       obtain⟨f0,f1,f2⟩:=(HBR.touch (HT14.then HT5) (λf=>f)).facts
       by_cases hb:bd=true
       ·subst hb
        obtain⟨t0,t1,t2⟩:=(HBP4.touch HT5 (λf=>f)).facts
        obtain⟨wa,hwa⟩:=eX (wc.alloc (.cells #[.slice qA q qc,.int .i64 xn] 158))
        have hT3c:aC (λ_=>False) w3 wa:=by rw[hwa];exact (HT4.then HT5).alloc _
        have hTra:aC (λ_=>False) wr wa:=HT2.then (HON.touch.then hT3c)
        have hrd:aH wa 2 (some ⟨wc.heap.size,0,none⟩) 1 [.slice qA q qc,.int .i64 xn]:=by
         rw[hwa]
         have h:=aH.new (size:=2) wc 158 [.slice qA q qc,.int .i64 xn] 1 rfl
         simpa using h
        have hiI:i<=4096:=by have:=HIN.out;have:=HSN.out;omega
        have hbb1:i+1<=maxLen:=by unfold maxLen;omega
        have hbb2:(i+1)*32<=140737488355328:=by omega
        have HOA:=aB (HO.to hTra)
        have HWA:=aB hwa
        have HRDA:=aB hrd
        have HBB:=aB (And.intro hbb1 hbb2)
        have HT3C:=aB hT3c
        have HTRA:=aB hTra
        clear hwa hT3c hTra hrd hiI hbb1 hbb2 p0 p1 p2 r0 r1 r2
        go_wp2_with (at_builtin;rw[<-HWA.out];refine aP _ rfl (.tmp 59) (.tmp 64) 153 rfl 158 i0 _ 2 32 Tryz.underlying153 hi0 hz0 hz1 hz2 rfl (by decide) (.slice A3 i c3) i _ rfl HOA.own (some ⟨wc.heap.size,0,none⟩) 1 1 [.slice qA q qc,.int .i64 xn] rfl HRDA (λh=>by cases h) (vC _ _ _ _) HBB.1 HBB.2 ?_;intro v1 w10 O10 G10 F10 _;obtain⟨A7,c7,hv,_,_⟩:=aS O10;subst hv;have HX10:=aB (HOA.app O10 G10 F10);have HG10:=aB G10;clear O10 G10 F10)
        go_roundw
        case rel =>
         have hS:∀ g,bQ wa g 21 -> ¬ (Value.slice A3 i c3).ownBlock=some g:=λg hg e=>(aM HOA.own e).ne hg (by decide) rfl
         have hT10:aC (λg=>(Value.slice A3 i c3).ownBlock=some g) wa w10:=(aC.refl _ _).grown HG10 (λk e _=>e)
         refine⟨i+1,A7,c7,V++[⟨qA,q,qc,O,xn⟩],rfl,by simp,by have:=HIN.out;omega,aB ?_,aB ⟨?_,?_,?_⟩,aB ?_⟩
         ·rw[Db]
          exact HX10
         ·rw[qZd,HV.1];rfl
         ·rw[qXd,HV.2.1,HTK.out]
          simp only[qXb,List.map_nil,RV.p]
          rw[aEw (p:=⟨xw,xn⟩) HO2.out]
         ·intro r hr
          rcases List.mem_append.1 hr with h | h
          ·exact⟨((HV.2.2 r h).1.touch HTRA (λ_ _ f=>f)).touch hT10 hS,(HV.2.2 r h).2⟩
          ·rw[List.mem_singleton.1 h]
           have hos:=fY HON.own
           have hok:(⟨qA,q,qc,O,xn⟩:RV).Ok w3:=⟨HOL,gL.of_own HON.own,hos.1,hos.2⟩
           refine⟨(hok.touch HT3C (λ_ _ f=>f)).touch hT10 hS,?_⟩
           have:=HWT.out
           simp only
           omega
         ·intro k hk
          by_cases h:k<i
          ·exact HF k h
          ·obtain rfl:k=i:=by omega
           rw[HFP.out,HWU.out,<-HBD.out]
           have:=HWT.out
           simp[this.1,this.2]
        case measure =>
         have:=HIN.out
         simp only[intOf]
         omega
       ·have hbf:bd=false:=by simpa using hb
        subst hbf
        have HR:Hid (gF sL=false):=aB (xI (i:=i) (by rw[HSL.out];exact HIN) (by rw[HFP.out,<-HBD.out];simp))
        have HE:Hid (Ey sL=73):=aB ((Je (i:=i) (by rw[HSL.out];exact HSN) (by rw[HSL.out];exact HIN) HF (by rw[HFP.out,<-HBD.out];simp)).trans (aKo HER HWU (by have:=HWT.out;simp[this.1,this.2])))
        clear p0 p1 p2 r0 r1 r2
        go_wp2_with fail
        refine bodyPost_ret (v:=.tuple #[.agg #[.int .i64 0,.slice none 0 0],.int .i64 73]) (by simp[results,Tryz.results38,go_sem,f0]) rfl (.inl ⟨HR,73,⟨by decide,HE.symm⟩,rfl,HTW _ ?_⟩)
        exact ((HT5.up (λg=>g=Rb)).setCell (p:=⟨Rb,0,none⟩) (λ_=>rfl) _).setCell (p:=⟨Rb,1,none⟩) (λ_=>rfl) _
     ·have HR:Hid (gF sL=false):=aB (xI (i:=i) (by rw[HSL.out];exact HIN) (by
       rw[HFP.out]
       have:(decide (1<=xn) && decide (xn<=1048576))=false:=by
        rw[Bool.and_eq_false_iff,decide_eq_false_iff_not,decide_eq_false_iff_not]
        omega
       rw[this,Bool.false_and]))
      have HE:Hid (Ey sL=72):=aB (by
       have h72:(decide (1<=xn) && decide (xn<=1048576))=false:=by
        rw[Bool.and_eq_false_iff,decide_eq_false_iff_not,decide_eq_false_iff_not]
        omega
       exact (Je (i:=i) (by rw[HSL.out];exact HSN) (by rw[HSL.out];exact HIN) HF (by rw[HFP.out,h72,Bool.false_and])).trans (aKn HER (by first | exact hwu | exact HWU) h72))
      by_cases hx1:xn<1
      ·clear hwu hwt
       go_wp2_with fail
       refine bodyPost_ret (v:=.tuple #[.agg #[.int .i64 0,.slice none 0 0],.int .i64 72]) (by simp[results,Tryz.results38,go_sem,r0]) rfl (.inl ⟨HR,72,⟨by decide,HE.symm⟩,rfl,HTW _ ?_⟩)
       exact ((aC.refl (λg=>g=Rb) w4).setCell (p:=⟨Rb,0,none⟩) (λ_=>rfl) _).setCell (p:=⟨Rb,1,none⟩) (λ_=>rfl) _
      ·have hx2:(1048576:Int)<xn:=by omega
       clear hwu hwt
       go_wp2_with fail
       refine bodyPost_ret (v:=.tuple #[.agg #[.int .i64 0,.slice none 0 0],.int .i64 72]) (by simp[results,Tryz.results38,go_sem,r0]) rfl (.inl ⟨HR,72,⟨by decide,HE.symm⟩,rfl,HTW _ ?_⟩)
       exact ((aC.refl (λg=>g=Rb) w4).setCell (p:=⟨Rb,0,none⟩) (λ_=>rfl) _).setCell (p:=⟨Rb,1,none⟩) (λ_=>rfl) _
    ·have hwf:cF xw.toList=false:=by simpa using hwu
     rw[hwf]
     have HR:Hid (gF sL=false):=aB (xI (i:=i) (by rw[HSL.out];exact HIN) (by rw[HFP.out,hwf];simp))
     have HE:Hid (Ey sL=71):=aB ((Je (i:=i) (by rw[HSL.out];exact HSN) (by rw[HSL.out];exact HIN) HF (by rw[HFP.out,hwf];simp)).trans (aKm HER hwf))
     clear hwu hwf
     go_wp2_with fail
     refine bodyPost_ret (v:=.tuple #[.agg #[.int .i64 0,.slice none 0 0],.int .i64 71]) (by simp[results,Tryz.results38,go_sem,r0]) rfl (.inl ⟨HR,71,⟨by decide,HE.symm⟩,rfl,HTW _ ?_⟩)
     exact ((aC.refl (λg=>g=Rb) w4).setCell (p:=⟨Rb,0,none⟩) (λ_=>rfl) _).setCell (p:=⟨Rb,1,none⟩) (λ_=>rfl) _
   ·have hie:i=sn:=by omega
    have hall:gF sL=true:=Dc (by rw[HSL.out];exact HSN) (λj hj=>HF.out j (by rw[HSL.out] at hj;omega))
    have htk:sL.take i=sL:=qJf (by rw[HSL.out];omega)
    have hvp:=HV.2.1
    rw[htk] at hvp
    have hD:=sD hall
    obtain⟨f0,f1,f2⟩:=(HBR.touch HO.touch (λf=>f)).facts
    have y0:¬ (i:Int)<(sn:Int):=by omega
    have HALL:=aB hall
    have HVP:=aB hvp
    have HD:=aB hD
    have HIE:=aB hie
    have HTR:=aB hTr
    clear hie hall htk hvp hD hin hi
    by_cases h0:i=0
    ·subst h0
     have hle:sL=[]:=qQf (by rw[HSL.out];exact HIE.symm)
     subst hle
     clear HTR hTr
     go_wp2_with fail
     exact bodyPost_ret (v:=.tuple #[.agg #[.int .i64 0,.slice none 0 0],.int .i64 0]) (by simp[results,Tryz.results38,go_sem,f0]) rfl (.inr ⟨HALL,none,0,0,rfl,[],⟨⟨aH.nil _ _ _,λh=>absurd h (by omega)⟩,rfl,λz hz=>(by cases hz)⟩,rfl,qJb _,(HT1.then HO.touch).trans (((aC.refl (λg=>g=Rb) wr).setCell (p:=⟨Rb,0,none⟩) (λ_=>rfl) _).setCell (p:=⟨Rb,1,none⟩) (λ_=>rfl) _) (λg hg e=>by have:=HRB.out;omega)⟩)
    ·have hne:sL≠[]:=by
      intro e
      have:=HSL.out
      rw[e] at this
      have:=HIE.out
      simp at *
      omega
     obtain⟨wA,hwA⟩:=eX (wr.alloc (.map #[] 0))
     obtain⟨wB,hwB⟩:=eX (wA.alloc (.map #[] 0))
     obtain⟨m1,hm1⟩:=eX wr.heap.size
     obtain⟨m2,hm2⟩:=eX wA.heap.size
     obtain⟨wC,hwC⟩:=eX (wB.alloc (.cells #[.slice none 0 0,.map (some m1),.map (some m2)] 163))
     obtain⟨Bb,hBb⟩:=eX wB.heap.size
     have hmm1:(Instr.makeMap 160 none).run Tryz.prog wr=.ok (.map (some m1)) wA:=by rw[hwA,hm1];exact run_makeMap _ _
     have hmm2:(Instr.makeMap 161 none).run Tryz.prog wA=.ok (.map (some m2)) wB:=by rw[hwB,hm2];exact run_makeMap _ _
     have hTA:aC (λ_=>False) wr wA:=by rw[hwA];exact (aC.refl _ _).alloc _
     have hTB:aC (λ_=>False) wA wB:=by rw[hwB];exact (aC.refl _ _).alloc _
     have hTC:aC (λ_=>False) wB wC:=by rw[hwC];exact (aC.refl _ _).alloc _
     have hTrC:aC (λ_=>False) wr wC:=hTA.then (hTB.then hTC)
     have hbld:Kn wC Bb none 0 0 [] m1 m2 [] []:=by
      refine⟨by rw[hwC,hBb];exact aL.new _ _ _,World.ownsRow_nil _ _ _ _,rfl,λz hz=>(by cases hz),?_,?_,?_,⟨rfl,λj s k h1 _=>by simp at h1⟩⟩
      ·have h:rI wA m1 281 []:=by rw[hwA,hm1];exact rI.new _ _
       exact h.quiet (hTB.then hTC)
      ·have h:rI wB m2 3 []:=by rw[hwB,hm2];exact rI.new _ _
       exact h.quiet hTC
      ·rw[hm1,hm2,hwA]
       simp
     have hos:=fY HO.own
     have hlok:(⟨A3,i,c3,V⟩:FL).Ok wC:=⟨HV.1,(gL.of_own HO.own).quiet hTrC,λr hr=>(HV.2.2 r hr).1.touch hTrC (λ_ _ f=>f),hos.1⟩
     have hvp:(⟨A3,i,c3,V⟩:FL).p=aV sL:=HVP.out
     have htot:=Pb HD
     have hst:=Ue 25 wC Bb none 0 0 [] m1 m2 [] [] ⟨A3,i,c3,V⟩ hbld hlok (λr hr=>(HV.2.2 r hr).2) (by
      rw[hvp]
      intro r hr c hc
      exact fD ((Cb HD).run r hr c hc).1) (by rw[hvp];exact HD.sort) (by simp only;omega) (by simp only;have:=HIE.out;have:=HSN.out;omega) (by rw[hvp];exact qL HD) (by rw[hvp];simp only[List.length_nil];omega) (by rw[hvp];omega)
     rw[hvp] at hst
     simp only[FL.val,List.map_nil] at hst
     have hmn:=aCo hne
     have hlb:∀ wx,(⟨A3,i,c3,V⟩:FL).Ok wx->Calls Tryz.prog 84 #[.slice A3 i c3] wx λe w'=>e=.returned (.int .i64 (bE (aV sL)))/\aC (λ_=>False) wx w':=by
      intro wx h
      have:=sS wx ⟨A3,i,c3,V⟩ h (by simp only;omega) (by simp only;have:=HIE.out;have:=HSN.out;unfold maxLen;omega)
      rw[hvp] at this
      exact this
     have hTwC:aC (λ_=>False) w wC:=hTr.then hTrC
     have hbRC:=HBR.touch (HO.touch.then hTrC) (λf=>f)
     have y3:¬ ((i:Int)=0):=by omega
     have y4:((i:Int) == 0)=false:=by simp[h0]
     have hRb1:Rb≠m1:=by
      have:=HBR.lt
      have:=HO.touch.size
      omega
     have hRb2:Rb≠m2:=by
      have:=HBR.lt
      have:=HO.touch.size
      have:=hTA.size
      omega
     have hRbB:Rb≠Bb:=by
      have:=HBR.lt
      have:=HO.touch.size
      have:=hTA.size
      have:=hTB.size
      omega
     have hSB:∀ g,g<wr.heap.size->¬ SB Bb m1 m2 (.slice none 0 0) g:=by
      have:=hTA.size
      have:=hTB.size
      rintro g hg (e | e | e | e)
      ·omega
      ·omega
      ·omega
      ·cases e
     have HST:=aB hst
     have HLBB:=aB hlb
     have HMN:=aB hmn
     have HLOK:=aB hlok
     have HTWC:=aB hTwC
     have HBRC:=aB hbRC
     have HWC:=aB hwC
     have HTRC:=aB hTrC
     have HSBN:=aB hSB
     have HBB:=aB hBb
     have HFR:Hid (∀ g,bQ wC g 21 \/ bQ wC g 158 \/ bQ wC g 89 -> ¬ SB Bb m1 m2 (.slice none 0 0) g):=aB (by
      rintro g (h | h | h)
      ·exact hbld.noS (by decide) (by decide) g h
      ·exact hbld.noS (by decide) (by decide) g h
      ·exact hbld.noS (by decide) (by decide) g h)
     have HNE:=aB hne
     clear hwA hwB hm1 hm2 hTA hTB hTC hTrC hbld hos hlok hvp htot hst hmn hlb hTwC hbRC hwC hSB hBb hne hTr HTR
     go_wp2_with fail
     rw[<-HWC.out,<-HBB.out]
     refine HST.mono ?_
     rintro e w5 ⟨i2,sA',sn',sc',Z',Lk',Bk',rfl,hbld,hpl,_,hsn',_,hfr,_,T5⟩
     have hlok5:=HLOK.touch T5 (λg hg=>HFR.out g (.inl hg)) (λg hg=>HFR.out g (.inr (.inl hg)))
     have hbR5:=HBRC.touch T5 (HFR Rb (.inr (.inr (aG HBRC))))
     have hT5:aC (λ_=>False) w w5:=(HTWC).trans T5 (λg hg e=>by
      refine HSBN g ?_ e
      have h1:=HT1.size
      have h2:=HO.touch.size
      omega)
     obtain⟨d0,d1,d2⟩:=hbld.blk.facts
     clear f0 f1 f2
     obtain⟨f0,f1,f2⟩:=hbR5.facts
     have HLO5:=aB hlok5
     have HB5:=aB hbld
     have HBR5:=aB hbR5
     have HT5:=aB hT5
     have HPL:=aB hpl
     clear hlok5 hbld hbR5 hT5 hpl hsn' hfr T5 HST
     go_wp2_with fail
     obtain⟨lw,hlw⟩:=eX (bE (aV sL))
     have HL6:=aB (HLBB w5.drew (HLO5.quiet (aC.refl _ _).drew))
     rw[<-hlw] at HL6
     have HLW:=aB hlw
     clear hlw
     go_region_law (go_simp;go_at_call 84;refine HL6.mono ?_;rintro e w6 ⟨rfl,T6⟩;have hT56:aC (λ_=>False) w5 w6:=((aC.refl _ w5).drew).then T6;obtain⟨e0,e1,e2⟩:=(HB5.blk.touch hT56 (λf=>f)).facts;obtain⟨g0,g1,g2⟩:=(HBR5.touch hT56 (λf=>f)).facts;have HT56:=aB hT56;clear T6 hT56)
     all_goals go_wp2_with fail
     all_goals
      have hbF:aL ((w6.setCell ⟨Rb,0,none⟩ (.int .i64 lw)).setCell ⟨Rb,1,none⟩ (.slice sA' sn' sc')) Rb 89 #[.int .i64 lw,.slice sA' sn' sc']:=by
       have:=((HBR5.touch HT56 (λf=>f)).set_ 0 (.int .i64 lw)).set_ 1 (.slice sA' sn' sc')
       simpa using this
      have hTF:aC (λg=>g=Rb) w5 ((w6.setCell ⟨Rb,0,none⟩ (.int .i64 lw)).setCell ⟨Rb,1,none⟩ (.slice sA' sn' sc')):=((HT56.up (λg=>g=Rb)).setCell (p:=⟨Rb,0,none⟩) (λ_=>rfl) _).setCell (p:=⟨Rb,1,none⟩) (λ_=>rfl) _
      obtain⟨k0,k1,k2⟩:=hbF.facts
      have hos:=fY HB5.own
      have hsts:eW w5 sA' sn' Z':=⟨gL.of_own HB5.own,HB5.len,HB5.el⟩
      refine bodyPost_ret (v:=.tuple #[.agg #[.int .i64 lw,.slice sA' sn' sc'],.int .i64 0]) (by simp[results,Tryz.results38,go_sem,k0]) rfl (.inr ⟨HALL,sA',sn',sc',Z',?_,⟨hsts.rd.touch hTF (λg hg e=>hg.ne (aG HBR5) (by decide) e),hsts.len,λz hz=>(hsts.el z hz).touch hTF (λg hg e=>hg.ne (aG HBR5) (by decide) e)⟩,?_,hos.1,HT5.trans hTF (λg hg e=>by have:=HRB.out;omega)⟩)
      ·rw[HMN.out,HLW.out]
      ·rw[HMN.out]
       have h1:=Qx 25 ⟨[],[]⟩ (aV sL) Bz HD.sort (rC HNE) (qL HD)
       rw[h1] at HPL
       exact congrArg Prod.fst HPL
def Pv(i prev:Nat)(a:Nat × Int × Nat):List UInt8:=dJ (a.1-prev)++dJ a.2.1.toNat++dJ (i-a.2.2)
def kB(i:Nat):Nat->List (Nat × Int × Nat)->List UInt8
 | _,[]=>[]
 | p,a :: l=>Pv i p a++kB i a.1 l
def Ca(s:cU):List UInt8:=if s.fin=true then dJ (2*s.arcs.length+1)++dJ s.out.toNat else dJ (2*s.arcs.length)
def stB(i:Nat)(s:cU):List UInt8:=Ca s++kB i 0 s.arcs
def pZ:Nat->List cU->List UInt8
 | _,[]=>[]
 | i,s :: l=>stB i s++pZ (i+1) l
def Ki(base:Int)(n:Nat):List UInt8:=dJ base.toNat++dJ n
def qX(base:Int)(sts:List cU):List UInt8:=Ki base sts.length++pZ 0 sts
def uQ(p:Nat)(l:List (Nat × Int × Nat)):Nat:=(l.getLast?.map (·.1)).getD p
theorem Av(i:Nat)(a:Nat × Int × Nat):∀ (l:List (Nat × Int × Nat)) (p:Nat),kB i p (l++[a])=kB i p l++Pv i (uQ p l) a
 | [],p=>by simp[kB,uQ]
 | [b],p=>by simp[kB,uQ]
 | b :: d :: l,p=>by
  have h:=Av i a (d :: l) b.1
  have e:uQ p (b :: d :: l)=uQ b.1 (d :: l):=by
   obtain⟨x,hx⟩:∃ x,(d :: l).getLast? = some x:=⟨_,List.getLast?_eq_some_getLast (by simp)⟩
   unfold uQ
   rw[List.getLast?_cons_cons,hx]
   rfl
  simp only[qQd,kB] at h ⊢
  rw[h,e,qQa,qQa,qQa]
theorem Ie(s:cU):∀ (l:List cU) (k:Nat),pZ k (l++[s])=pZ k l++stB (k+l.length) s
 | [],k=>by simp[pZ]
 | t :: l,k=>by
  have h:=Ie s l (k+1)
  simp only[qQd,pZ]
  rw[h,qQa,qQb,show k+1+l.length=k+(l.length+1) by omega]
def uZ(t:TypeId):Prop:=t ≠ 5
theorem yS{w0 wx:World}{q c:Nat}{xs:List UInt8}(h:Hid (fS 5 1 w0 wx (.slice A q c) q (xs.map bG))){z:Int}(hz:Hid (z=(n:Int)/\n<9223372036854775808))(hq:q<=35184372088832) :
  Calls Tryz.prog 111 #[.slice A q c,.int .i64 z] wx λe w'=>∃ (A':Option Addr) (q' c':Nat),e=.returned (.slice A' q' c')/\Hid (fS 5 1 w0 w' (.slice A' q' c') q' ((xs++dJ n).map bG))/\q'<=q+10/\jX uZ wx w':=by
 obtain⟨rfl,hn⟩:=hz.out
 refine (aDf w0 wx A q c _ h.out n hn hq).mono ?_
 rintro e w' ⟨A',q',c',rfl,h2,hq2,T⟩
 exact⟨A',q',c',rfl,aB (by rw[qXd];exact h2),hq2,jX.touch T (λg t ht hg e=>(aM h.out.own e).ne hg (λe=>ht e.symm) rfl)⟩
theorem aCd{wd:World}{M:Nat}{a b:Value}(ht:uZ t)(h:aL wd M t #[a,b])(k:jX uZ wd w'):w'.cell? ⟨M,0,none⟩=some a/\w'.cell? ⟨M,1,none⟩=some b/\jX uZ wd w' :=
 ⟨(h.kpp k ht).cell 0,(h.kpp k ht).cell 1,k⟩
theorem Gx{wd:World}{M:Nat}{a b c:Value}(ht:uZ t)(h:aL wd M t #[a,b,c])(k:jX uZ wd w'):w'.cell? ⟨M,0,none⟩=some a/\w'.cell? ⟨M,1,none⟩=some b/\w'.cell? ⟨M,2,none⟩=some c/\jX uZ wd w' :=
 ⟨(h.kpp k ht).cell 0,(h.kpp k ht).cell 1,(h.kpp k ht).cell 2,k⟩
theorem aGl{q:Nat}(h:q<=0+10):q<=35184372088832:=by omega
theorem As{a b c:Prop}(h:a/\b/\c):c:=h.2.2
theorem oX{a b c d:Prop}(h:a/\b/\c/\d):d:=h.2.2.2
theorem aDc(w:World)(hL:cV w)(bn:Nat)(A:Option Addr)(n c:Nat)(Z:List SV)(hst:eW w A n Z)(hR:Am (Z.map SV.p) (bn:Int))(hbn:bn<=1048576)(hn:n<=98305)(hf:∀ i,i<n->gB i (Z.getD i cH).p) :
  Calls Tryz.prog 47 #[.agg #[.int .i64 bn,.slice A n c]] w λe w'=>∃ (A':Option Addr) (q c':Nat),e=.returned (.tuple #[.slice A' q c',.int .i64 0])/\fS 5 1 w w' (.slice A' q c') q ((qX bn (Z.map SV.p)).map bG):=by
 obtain⟨w1,hw1⟩:=eX (w.alloc (.cells #[.int .i64 bn,.slice A n c] 89))
 have hT1:aC (λ_=>False) w w1:=by rw[hw1];exact (aC.refl _ _).alloc _
 have hbM:aL w1 w.heap.size 89 #[.int .i64 bn,.slice A n c]:=by rw[hw1];exact aL.new _ _ _
 have hri:=xJ w1 (cV.touch hL hT1) bn A n c Z (hst.quiet hT1) hR
 have HRI:=aB hri
 have HW1:=aB hw1
 have HT1:=aB hT1
 have HBM:=aB hbM
 have HST:=aB hst
 have HF:=aB hf
 have HBN:=aB hbn
 have HN:=aB hn
 obtain⟨m0,m1,m2⟩:=hbM.facts
 rw[hw1] at m0 m1 m2
 clear hst hR hf hw1 hT1 hbM hri hL hbn hn
 go_in
 go_wp2_with fail
 rw[<-HW1.out]
 refine HRI.mono ?_
 rintro e w2 ⟨rfl,T2⟩
 have hbM2:=HBM.touch T2 (λf=>f)
 clear m0 m1 m2
 obtain⟨m0,m1,m2⟩:=hbM2.facts
 have HX0:Hid (fS 5 1 w w2.drew (.slice none 0 0) 0 (([]:List UInt8).map bG)):=aB ((fS.nil _ _ _).to ((HT1.then T2).drew))
 have HBM2:=aB hbM2
 have HT2:=aB (HT1.then T2)
 have HZ1:Hid ((bn:Int)=(bn:Int)/\bn<9223372036854775808):=aB ⟨rfl,by have:=HBN.out;omega⟩
 have HZ2:Hid ((n:Int)=(n:Int)/\n<9223372036854775808):=aB ⟨rfl,by have:=HN.out;omega⟩
 have HNBM:Hid (uZ 89):=aB (by unfold uZ;decide)
 have HP1:=aB (yS HX0 HZ1 (qZc _))
 have HP2:Hid (∀ (A5:Option Addr) (q5 c5:Nat) (wx:World),Hid (fS 5 1 w wx (.slice A5 q5 c5) q5 (([]++dJ bn).map bG))->q5<=0+10->Calls Tryz.prog 111 #[.slice A5 q5 c5,.int .i64 n] wx λe w'=>∃ (A':Option Addr) (q' c':Nat),e=.returned (.slice A' q' c')/\Hid (fS 5 1 w w' (.slice A' q' c') q' ((([]++dJ bn)++dJ n).map bG))/\q'<=q5+10/\jX uZ wx w'):=aB (λA5 q5 c5 wx h hq=>yS h HZ2 (aGl hq))
 clear T2 hbM2 HRI
 go_wp2_with fail
 go_region_held3 (λw'=>w'.cell? ⟨w.heap.size,0,none⟩=some (.int .i64 bn)/\w'.cell? ⟨w.heap.size,1,none⟩=some (.slice A n c)/\jX uZ w2 w')
  (first
    | exact aCd HNBM HBM2 (jX.refl _ _)
    | exact aCd HNBM HBM2 (jX.of (aC.refl _ _).drew)
    | (refine aCd HNBM HBM2 (jX.trans ?_ (by assumption));first | assumption | exact As (by assumption) | exact jX.of (aC.refl _ _).drew | exact jX.refl _ _))
  (first
    | (go_at_call 111;refine (HP2 _ _ _ _ HX5 hq5).mono ?_;rintro e wy ⟨A6,q6,c6,rfl,HX6,hq6,k6⟩)
    | (go_at_call 111;refine HP1.mono ?_;rintro e wx ⟨A5,q5,c5,rfl,HX5,hq5,k5⟩))
 have hk2y:jX uZ w2 wy:=As (by assumption)
 have hxy:fS 5 1 w wy (.slice A6 q6 c6) q6 ((Ki bn n).map bG):=by
  have h:=HX6.out
  simpa [Ki] using h
 have hq6b:q6<=40:=by omega
 have HK2:=aB hk2y
 have HXY:=aB hxy
 have HQ6:=aB hq6b
 clear m0 m1 m2
 obtain⟨m0,m1,m2⟩:=(HBM2.kpp hk2y HNBM).facts
 clear hk2y hxy hq6b hq5 hq6 k5 k6 HX5 HX6 HP1 HP2 HZ1 HZ2 HX0
 have hcl:∀ (wr:World),jX uZ w2 wr->(gL wr 170 3 A n (gA Z))/\∀ z∈Z,gL wr 173 3 z.A z.n (dQ z.arcs):=λwr hk =>
  ⟨(HST.quiet HT2).rd.kpp hk (by unfold uZ;decide),λz hz=>((HST.quiet HT2).el z hz).rd.kpp hk (by unfold uZ;decide)⟩
 have HCL:=aB hcl
 clear hcl
 go_wp2_with fail
 go_loopw [4,24] (λbv iv wr=>∃ (A3:Option Addr) (q c3 i:Nat),bv=.slice A3 q c3/\iv=.int .i64 i/\i<=n/\Hid (fS 5 1 w wr (.slice A3 q c3) q ((Ki bn n++pZ 0 ((Z.map SV.p).take i)).map bG))/\Hid (q<=40+i*62914600)/\Hid (jX uZ w2 wr)) (λ_ iv _=>n-(intOf iv).toNat)
 case atStart=>exact⟨A6,q6,c6,0,rfl,rfl,qZc _,aB (by rw[List.take_zero];simpa [pZ] using HXY.out),aB (by have:=HQ6.out;omega),HK2⟩
 case round =>
  clear m0 m1 m2
  obtain⟨A3,q,c3,i,rfl,rfl,hi,HX,HQ,HK⟩:=hrel
  by_cases hin:i<n
  ·obtain⟨hrs,hra⟩:=HCL.out wr HK
   have hzl:Z.length=n:=HST.len
   obtain⟨g,o,hA,hg,d0,d1,d2⟩:=jE hrs.rd hzl i hin
   subst hA
   have hzm:=cJ Z cH i (by rw[hzl];exact hin)
   have hfm:=HF.out i hin
   have hzo:=HST.el _ hzm
   have htk:(Z.map SV.p).take (i+1)=(Z.map SV.p).take i++[(Z.getD i cH).p]:=by
    rw[List.take_succ_eq_append_getElem (by rw[qZb,hzl];exact hin)]
    simp[qJa,show i<Z.length by rw[hzl];exact hin]
   obtain⟨z,hz⟩:∃ z,Z.getD i cH=z:=⟨_,rfl⟩
   rw[hz] at d0 d1 d2 hzm hfm hzo htk
   obtain⟨fin,out,zA,zn,zc,arcs⟩:=z
   simp only at d0 d1 d2
   have hzal:=hzo.len
   have hzle:=hzo.le
   simp only at hzal hzle
   obtain⟨on,hon⟩:∃ on:Nat,out=(on:Int):=⟨out.toNat,by have:=hfm.out0;simp only[SV.p] at this;omega⟩
   subst hon
   have honb:on<=1048576:=by have:=hfm.out1;simp only[SV.p] at this;omega
   have hfew:=oD hfm
   simp only[SV.p] at hfew
   have hznI:(zn:Int)<=2097152:=by omega
   have htl:((Z.map SV.p).take i).length=i:=by rw[List.length_take,qZb,hzl];omega
   obtain⟨w3,hw3⟩:=eX (wr.alloc (.cells #[.bool fin,.int .i64 on,.slice zA zn zc] 170))
   have hT3:aC (λ_=>False) wr w3:=by rw[hw3];exact (aC.refl _ _).alloc _
   have hbS:aL w3 wr.heap.size 170 #[.bool fin,.int .i64 on,.slice zA zn zc]:=by rw[hw3];exact aL.new _ _ _
   have y0:(i:Int)<(n:Int):=by omega
   have y1:(0:Int)<=(i:Int):=by omega
   have y2:IntKind.i64.wrap ((i:Int)+1)=(i:Int)+1:=qZa _ (by have:=HN.out;omega)
   have y3:IntKind.i64.wrap (2*(zn:Int))=2*(zn:Int):=qZa _ (by omega)
   have y4:IntKind.i64.wrap (2*(zn:Int)+1)=2*(zn:Int)+1:=qZa _ (by omega)
   obtain⟨s0,s1,s2⟩:=hbS.facts
   have hxw3:=HX.to hT3
   have hq45:q<=35184372088832-1000:=by have h1:=HQ.out;have h2:=HN.out;omega
   obtain⟨xs,hxs⟩:=eX (Ki bn n++pZ 0 ((Z.map SV.p).take i))
   rw[<-hxs] at hxw3
   have hx3d:Hid (fS 5 1 w w3.drew (.slice A3 q c3) q (xs.map bG)):=aB (hxw3.to (aC.refl _ _).drew)
   have HX3:=aB hxw3
   have HNBS:Hid (uZ 170):=aB (by unfold uZ;decide)
   have HNBA:Hid (uZ 173):=aB (by unfold uZ;decide)
   have HBS:=aB hbS
   have HW3:=aB hw3
   have HT3:=aB hT3
   have HFM:=aB hfm
   have HTK:=aB htk
   have HZAL:=aB hzal
   have HZM:=aB hzm
   have HXS:=aB hxs
   have HQ45:=aB hq45
   have HTL:=aB htl
   have HIN:=aB hin
   have HZN:=aB hfew
   have hzn1:Hid (2*(zn:Int)+1=((2*zn+1:Nat):Int)/\2*zn+1<9223372036854775808):=aB ⟨by omega,by omega⟩
   have hzn2:Hid (2*(zn:Int)=((2*zn:Nat):Int)/\2*zn<9223372036854775808):=aB ⟨by omega,by omega⟩
   have hzn3:Hid ((on:Int)=(on:Int)/\on<9223372036854775808):=aB ⟨rfl,by omega⟩
   have HP1:=aB (yS hx3d hzn1 (by omega))
   have HP2:=aB (yS (aB hxw3) hzn2 (by omega))
   have HP3:Hid (∀ (A5:Option Addr) (q5 c5:Nat) (wx:World),Hid (fS 5 1 w wx (.slice A5 q5 c5) q5 ((xs++dJ (2*zn+1)).map bG))->q5<=q+10->Calls Tryz.prog 111 #[.slice A5 q5 c5,.int .i64 on] wx λe w'=>∃ (A':Option Addr) (q' c':Nat),e=.returned (.slice A' q' c')/\Hid (fS 5 1 w w' (.slice A' q' c') q' (((xs++dJ (2*zn+1))++dJ on).map bG))/\q'<=q5+10/\jX uZ wx w'):=aB (λA5 q5 c5 wx h hq=>yS h hzn3 (by have:=HQ45.out;omega))
   clear hxs hx3d hxw3 hbS hw3 hT3 hfm htk hzal hzm hq45 htl hin hfew hzn1 hzn2 hzn3 hrs hra hzl hg hz hzo hzle honb
   have d0':=d0
   go_upto_if 34 with fail
   rw[<-HW3.out]
   clear d0 d1 d2 d0'
   go_cut [4] from 35 to 44 (λbv wx=>∃ (A7:Option Addr) (q7 c7:Nat),bv=.slice A7 q7 c7/\Hid (fS 5 1 w wx (.slice A7 q7 c7) q7 ((xs++Ca ⟨fin,(on:Int),arcs⟩).map bG))/\q7<=q+20/\Hid (jX uZ w3 wx))
   case first =>
    cases fin with
    | true =>
     go_wp2_with fail
     go_region_held3 (λw'=>w'.cell? ⟨wr.heap.size,0,none⟩=some (.bool true)/\w'.cell? ⟨wr.heap.size,1,none⟩=some (.int .i64 on)/\w'.cell? ⟨wr.heap.size,2,none⟩=some (.slice zA zn zc)/\jX uZ w3 w')
      (first
     | exact Gx HNBS HBS (jX.refl _ _)
     | exact Gx HNBS HBS (jX.of (aC.refl _ _).drew)
     | (refine Gx HNBS HBS (jX.trans ?_ (by assumption));first | assumption | exact oX (by assumption) | exact jX.of (aC.refl _ _).drew | exact jX.refl _ _))
      (first
        | (go_at_call 111;refine (HP3 _ _ _ _ HX5 hq5).mono ?_;rintro e wy ⟨A6,q6,c6,rfl,HX6,hq6,k6⟩)
        | (go_at_call 111;refine HP1.mono ?_;rintro e wx ⟨A5,q5,c5,rfl,HX5,hq5,k5⟩))
     have hk:jX uZ w3 wy:=oX (by assumption)
     have HK7:=aB hk
     clear hk
     go_wp2_with fail
     go_meet
     exact⟨A6,q6,c6,rfl,aB (by
      have h:=HX6.out
      have hz:=HZAL.out
      simp only[Ca,if_true]
      rw[hz,qJe,<-qQa]
      exact h),by omega,HK7⟩
    | false =>
     go_wp2_with fail
     refine HP2.mono ?_
     rintro e wx ⟨A5,q5,c5,rfl,HX5,hq5,k5⟩
     have HK7:=aB k5
     clear k5
     go_wp2_with fail
     go_meet
     exact⟨A5,q5,c5,rfl,aB (by
      have h:=HX5.out
      have hz:=HZAL.out
      simp only[Ca]
      rw[hz]
      simpa using h),by omega,HK7⟩
   case rest =>
    obtain⟨A7,q7,c7,rfl,HX7,hq7,HK7⟩:=hcut
    obtain⟨s0,s1,s2⟩:=(HBS.kpp HK7 HNBS).facts
    obtain⟨xs2,hxs2⟩:=eX (xs++Ca ⟨fin,(on:Int),arcs⟩)
    rw[<-hxs2] at HX7
    have HXS2:=aB hxs2
    clear hxs2 HP1 HP2 HP3
    go_wp2_with fail
    obtain⟨wo,hwo⟩:=eX wr
    subst hwo
    go_loopw [4,8,48] (λbv lv jv wx=>∃ (A8:Option Addr) (q8 c8 j lab:Nat),bv=.slice A8 q8 c8/\lv=.int .i32 (lab:Int)/\jv=.int .i64 j/\j<=zn/\Hid (lab=uQ 0 (arcs.take j))/\Hid (fS 5 1 w wx (.slice A8 q8 c8) q8 ((xs2++kB i 0 (arcs.take j)).map bG))/\Hid (q8<=q+20+j*30)/\Hid (jX uZ w3 wx)) (λ_ _ jv _=>zn-(intOf jv).toNat)
    case atStart=>exact⟨A7,q7,c7,0,0,rfl,rfl,rfl,qZc _,aB rfl,aB (by rw[List.take_zero];simpa [kB] using HX7.out),aB (by omega),HK7⟩
    case round =>
     clear s0 s1 s2
     obtain⟨A8,q8,c8,j,lab,rfl,rfl,rfl,hj,HLA,HX8,HQ8,HK8⟩:=hrel
     by_cases hjn:j<zn
     ·have hra:=(((HCL wo HK).2 _ HZM).quiet HT3).kpp HK8 HNBA
      obtain⟨g2,o2,hA2,_,e0,e1,e2⟩:=iY hra.rd HZAL j hjn
      simp only at hA2 e0 e1 e2
      subst hA2
      have ham:=cJ arcs (0,0,0) j (by rw[HZAL.out];exact hjn)
      have htj:arcs.take (j+1)=arcs.take j++[arcs.getD j (0,0,0)]:=kO arcs (0,0,0) j (by rw[HZAL.out];exact hjn)
      have hlt:∀ x∈arcs.take j,x.1<(arcs.getD j (0,0,0)).1:=by
       intro x hx
       have h1:=HFM.lab
       simp only[SV.p] at h1
       have h2:=h1.sublist ((List.take_sublist (j+1) arcs).map _)
       rw[htj,qXd,List.pairwise_append] at h2
       exact h2.2.2 _ (List.mem_map_of_mem hx) _ (List.mem_singleton.2 rfl)
      have har:=HFM.arc _ ham
      have hrn:=(HFM.run _ ham).1
      obtain⟨⟨la,ua,tt⟩,hz⟩:∃ z,arcs.getD j (0,0,0)=z:=⟨_,rfl⟩
      rw[hz] at e0 e1 e2 htj hlt har hrn
      simp only at e0 e1 e2 hlt har hrn
      have hlab:lab<=la:=by
       rw[HLA.out]
       unfold uQ
       cases hg:(arcs.take j).getLast? with
       | none=>simp
       | some x=>exact Nat.le_of_lt (hlt x (List.mem_of_getLast? hg))
      have hla:la<1114112:=fD hrn
      obtain⟨un,hun⟩:∃ un:Nat,ua=(un:Int):=⟨ua.toNat,by omega⟩
      subst hun
      obtain⟨w5,hw5⟩:=eX (wr.alloc (.cells #[.int .i32 la,.int .i64 un,.int .i64 tt] 173))
      have hT5:aC (λ_=>False) wr w5:=by rw[hw5];exact (aC.refl _ _).alloc _
      have hbA:aL w5 wr.heap.size 173 #[.int .i32 la,.int .i64 un,.int .i64 tt]:=by rw[hw5];exact aL.new _ _ _
      obtain⟨p0,p1,p2⟩:=hbA.facts
      have y5:(j:Int)<(zn:Int):=by omega
      have y6:(0:Int)<=(j:Int):=by omega
      have y7:IntKind.i64.wrap ((j:Int)+1)=(j:Int)+1:=qZa _ (by have:=HZN.out;omega)
      have y8:IntKind.i32.wrap ((la:Int)-(lab:Int))=(la:Int)-(lab:Int):=IntWalk.i32_in _ (by omega)
      have y9:IntKind.i64.wrap ((la:Int)-(lab:Int))=(la:Int)-(lab:Int):=qZa _ (by omega)
      have y10:IntKind.i64.wrap ((i:Int)-(tt:Int))=(i:Int)-(tt:Int):=qZa _ (by have:=HN.out;have:=HIN.out;omega)
      obtain⟨ys,hys⟩:=eX (xs2++kB i 0 (arcs.take j))
      have hx5:Hid (fS 5 1 w w5.drew (.slice A8 q8 c8) q8 (ys.map bG)):=aB (by rw[hys];exact (HX8.to hT5).to (aC.refl _ _).drew)
      have hn1:Hid ((la:Int)-(lab:Int)=((la-lab:Nat):Int)/\la-lab<9223372036854775808):=aB ⟨by omega,by omega⟩
      have hn2:Hid ((un:Int)=(un:Int)/\un<9223372036854775808):=aB ⟨rfl,by omega⟩
      have hn3:Hid ((i:Int)-(tt:Int)=((i-tt:Nat):Int)/\i-tt<9223372036854775808):=aB ⟨by omega,by have:=HN.out;have:=HIN.out;omega⟩
      have hq8:q8<=35184372088832-100:=by
       have h1:=HQ.out
       have h2:=HN.out
       have h3:=HQ8.out
       have h4:=HZN.out
       have h5:=HIN.out
       omega
      have HQ88:=aB hq8
      have HP1:=aB (yS hx5 hn1 (by omega))
      have HP2:Hid (∀ (A5:Option Addr) (q5 c5:Nat) (wx:World),Hid (fS 5 1 w wx (.slice A5 q5 c5) q5 ((ys++dJ (la-lab)).map bG))->q5<=q8+10->Calls Tryz.prog 111 #[.slice A5 q5 c5,.int .i64 un] wx λe w'=>∃ (A':Option Addr) (q' c':Nat),e=.returned (.slice A' q' c')/\Hid (fS 5 1 w w' (.slice A' q' c') q' (((ys++dJ (la-lab))++dJ un).map bG))/\q'<=q5+10/\jX uZ wx w'):=aB (λA5 q5 c5 wx h hq=>yS h hn2 (by have:=HQ88.out;omega))
      have HP3:Hid (∀ (A5:Option Addr) (q5 c5 q4:Nat) (wx:World),Hid (fS 5 1 w wx (.slice A5 q5 c5) q5 (((ys++dJ (la-lab))++dJ un).map bG))->q4<=q8+10->q5<=q4+10->Calls Tryz.prog 111 #[.slice A5 q5 c5,.int .i64 ((i:Int)-(tt:Int))] wx λe w'=>∃ (A':Option Addr) (q' c':Nat),e=.returned (.slice A' q' c')/\Hid (fS 5 1 w w' (.slice A' q' c') q' ((((ys++dJ (la-lab))++dJ un)++dJ (i-tt)).map bG))/\q'<=q5+10/\jX uZ wx w'):=aB (λA5 q5 c5 q4 wx h hq4 hq=>yS h hn3 (by have:=HQ88.out;omega))
      have HBA:=aB hbA
      have HW5:=aB hw5
      have HT5:=aB hT5
      have HYS:=aB hys
      have HTJ:=aB htj
      have HJN:=aB hjn
      clear hra ham hlt har hrn hz hlab hla hw5 hT5 hbA hys hx5 hn1 hn2 hn3 hq8 htj hjn hj
      go_upto_region 15 with fail
      rw[<-HW5.out]
      go_region_held3 (λw'=>w'.cell? ⟨wr.heap.size,0,none⟩=some (.int .i32 la)/\w'.cell? ⟨wr.heap.size,1,none⟩=some (.int .i64 un)/\w'.cell? ⟨wr.heap.size,2,none⟩=some (.int .i64 tt)/\jX uZ w5 w')
       (first
       | exact Gx HNBA HBA (jX.refl _ _)
       | exact Gx HNBA HBA (jX.of (aC.refl _ _).drew)
       | (refine Gx HNBA HBA (jX.trans ?_ (by assumption));first | assumption | exact oX (by assumption) | exact jX.of (aC.refl _ _).drew | exact jX.refl _ _))
       (first
         | (go_at_call 111;refine (HP3 _ _ _ _ _ HXB hqa hqb).mono ?_;rintro e wz ⟨Ac,qc,cc,rfl,HXC,hqc,kc⟩)
         | (go_at_call 111;refine (HP2 _ _ _ _ HXA hqa).mono ?_;rintro e wy ⟨Ab,qb,cb,rfl,HXB,hqb,kb⟩)
         | (go_at_call 111;refine HP1.mono ?_;rintro e wx ⟨Aa,qa,ca,rfl,HXA,hqa,ka⟩))
      have hk:jX uZ w5 wz:=oX (by assumption)
      have HKZ:=aB hk
      obtain⟨t0,t1,t2⟩:=(HBA.kpp hk HNBA).facts
      clear hk
      go_wp2_with fail
      go_roundw
      case rel =>
       refine⟨Ac,qc,cc,j+1,la,rfl,rfl,by simp,by have:=HJN.out;omega,aB (by rw[HTJ.out];simp[uQ]),aB ?_,aB (by have:=HQ8.out;omega),aB (HK8.trans ((jX.of HT5).trans HKZ))⟩
       have h:=HXC.out
       rw[HYS.out] at h
       rw[HTJ.out,Av,<-HLA.out]
       simp only[Pv,qJe]
       simpa only[qQa] using h
      case measure =>
       have:=HJN.out
       simp only[intOf]
       omega
     ·have hje:j=zn:=by omega
      have hat:arcs.take j=arcs:=qJf (by rw[HZAL.out];omega)
      rw[hat] at HX8
      have y5:¬ (j:Int)<(zn:Int):=by omega
      have HJE:=aB hje
      clear hje hat hjn hj
      go_wp2_with fail
      go_roundw
      case rel =>
       refine⟨A8,q8,c8,i+1,rfl,by simp,by have:=HIN.out;omega,aB ?_,aB ?_,aB (HK.trans ((jX.of HT3).trans HK8))⟩
       ·have h:=HX8.out
        rw[HXS2.out,HXS.out] at h
        rw[HTK.out,Ie,HTL.out,Nat.zero_add]
        simp only[stB,SV.p]
        simpa only[qQa] using h
       ·have h1:=HQ8.out
        have h2:=HQ.out
        have h3:=HZN.out
        have h4:=HJE.out
        omega
      case measure =>
       have:=HIN.out
       simp only[intOf]
       omega
  ·have hie:i=n:=by omega
   have hat:(Z.map SV.p).take i=Z.map SV.p:=qJf (by rw[qZb,HST.len];omega)
   rw[hat] at HX
   have y0:¬ (i:Int)<(n:Int):=by omega
   have HZL:Hid ((Z.map SV.p).length=n):=aB (by rw[qZb];exact HST.len)
   clear hie hat hin hi
   go_wp2_with fail
   refine bodyPost_ret (v:=.tuple #[.slice A3 q c3,.int .i64 0]) (by simp[results,Tryz.results47,go_sem]) rfl ⟨A3,q,c3,rfl,?_⟩
   unfold qX
   rw[HZL.out]
   exact HX
def Cs:Nat->Nat->List UInt8->Option (Nat × List UInt8)
 | _,_,[]=>none
 | i,acc,c :: t=>if i=9/\1<c.toNat then none else if 128<=c.toNat then Cs (i+1) (acc+(c.toNat-128)*128 ^ i) t else if c.toNat=0/\0<i then none else some (acc+c.toNat*128 ^ i,t)
def Fb(bs:List UInt8):Option (Nat × List UInt8):=Cs 0 0 bs
theorem Pa(h:m<256):(UInt8.ofNat m).toNat=m:=by rw[UInt8.toNat_ofNat',Nat.mod_eq_of_lt h]
theorem Hh:∀ (f i acc n:Nat) (t:List UInt8),f+i=9->n*128 ^ i<18446744073709551616->(0<i->0<n)->Cs i acc (qB f n++t)=some (acc+n*128 ^ i,t)
 | 0,i,acc,n,t,hi,hn,hp=>by
  have hi':i=9:=by omega
  subst hi'
  have h1:n<=1:=by
   have e:(128:Nat) ^ 9=9223372036854775808:=by decide
   rw[e] at hn
   omega
  have h2:=hp (by omega)
  have h3:n=1:=by omega
  subst h3
  simp[qB,Cs]
 | f+1,i,acc,n,t,hi,hn,hp=>by
  unfold qB
  by_cases hlt:n<128
  ·rw[if_pos hlt]
   simp only[qQd,List.nil_append,Cs]
   rw[Pa (by omega),if_neg (by omega),if_neg (by omega),if_neg (by omega)]
  ·rw[if_neg hlt]
   simp only[qQd,Cs]
   rw[Pa (by omega),if_neg (by omega),if_pos (by omega)]
   have h0:n % 128+128*(n / 128)=n:=Nat.mod_add_div n 128
   have e:n / 128*128 ^ (i+1)+n % 128*128 ^ i=n*128 ^ i:=by
    rw[qXe,qJc (128 ^ i) 128,<-qZg,<-Nat.add_mul]
    congr 1
    omega
   rw[Hh f (i+1) _ (n / 128) t (by omega) (by omega) (by omega)]
   rw[Nat.add_sub_cancel,<-e,Nat.add_comm (n / 128*128 ^ (i+1)),Nat.add_assoc]
theorem Rq(hn:n<18446744073709551616)(t:List UInt8):Fb (dJ n++t)=some (n,t):=by
 have h:=Hh 9 0 0 n t rfl (by omega) (by omega)
 simpa [Fb,dJ] using h
theorem Na:∀ (bs:List UInt8) (i acc m:Nat) (t:List UInt8),i<=9->Cs i acc bs=some (m,t)->∃ n,m=acc+n*128 ^ i/\bs=qB (9-i) n++t/\n*128 ^ i<18446744073709551616/\(0<i->0<n)
 | [],_,_,_,_,_,h=>by simp[Cs] at h
 | c :: bs,i,acc,m,t,hi,h=>by
  have hc:=c.toNat_lt
  have he:c=UInt8.ofNat c.toNat:=by simp
  simp only[Cs] at h
  by_cases h9:i=9/\1<c.toNat
  ·rw[if_pos h9] at h
   cases h
  ·rw[if_neg h9] at h
   by_cases hb:128<=c.toNat
   ·rw[if_pos hb] at h
    obtain⟨n,h1,h2,h3,h4⟩:=Na bs (i+1) _ m t (by omega) h
    have hn:=h4 (by omega)
    have e:(c.toNat-128+128*n)*128 ^ i=(c.toNat-128)*128 ^ i+n*128 ^ (i+1):=by
     rw[qXe,qJc (128 ^ i) 128,<-qZg,<-Nat.add_mul,qJc 128 n]
    refine⟨c.toNat-128+128*n,by omega,?_,?_,by omega⟩
    ·obtain⟨f,hf⟩:∃ f,9-i=f+1:=⟨8-i,by omega⟩
     rw[hf,h2,show 9-(i+1)=f by omega]
     conv=>rhs;unfold qB
     rw[if_neg (by omega),show (c.toNat-128+128*n) % 128+128=c.toNat by omega,show (c.toNat-128+128*n) / 128=n by omega,<-he]
     rfl
    ·have hp:128 ^ (i+1)<=n*128 ^ (i+1):=Nat.le_mul_of_pos_left _ hn
     have h5:(c.toNat-128)*128 ^ i<128*128 ^ i:=qZj (by omega) (Nat.pow_pos (by decide))
     have hi8:i<=8:=by omega
     have e2:128*128 ^ i=128 ^ (i+1):=by rw[qXe,qJc]
     obtain⟨k,hk⟩:∃ k,18446744073709551616=k*128 ^ (i+1):=by
      refine⟨2*128 ^ (8-i),?_⟩
      rw[qZg,<-Nat.pow_add,show 8-i+(i+1)=9 by omega]
     rw[hk] at h3 ⊢
     have h6:n<k:=Nat.lt_of_mul_lt_mul_right h3
     have h7:(n+1)*128 ^ (i+1)<=k*128 ^ (i+1):=Nat.mul_le_mul_right _ h6
     rw[Nat.add_mul] at h7
     omega
   ·rw[if_neg hb] at h
    by_cases hz:c.toNat=0/\0<i
    ·rw[if_pos hz] at h
     cases h
    ·rw[if_neg hz] at h
     simp only[Option.some.injEq,Prod.mk.injEq] at h
     obtain⟨h1,rfl⟩:=h
     refine⟨c.toNat,h1.symm,?_,?_,by omega⟩
     ·by_cases h9':i=9
      ·subst h9'
       simp[qB]
      ·obtain⟨f,hf⟩:∃ f,9-i=f+1:=⟨8-i,by omega⟩
       rw[hf]
       unfold qB
       rw[if_pos (by omega),<-he]
       rfl
     ·by_cases h9':i=9
      ·subst h9'
       have h1:c.toNat<=1:=by omega
       have e:(128:Nat) ^ 9=9223372036854775808:=by decide
       rw[e]
       omega
      ·have h1:c.toNat*128 ^ i<128*128 ^ i:=qZj (by omega) (Nat.pow_pos (by decide))
       have h2:128*128 ^ i=128 ^ (i+1):=by rw[qXe,qJc]
       have h3:128 ^ (i+1)<=128 ^ 9:=Nat.pow_le_pow_right (by decide) (by omega)
       have e:(128:Nat) ^ 9=9223372036854775808:=by decide
       omega
theorem Xy{bs:List UInt8}{t:List UInt8}(h:Fb bs=some (n,t)):bs=dJ n++t/\n<18446744073709551616:=by
 obtain⟨m,h1,h2,h3,_⟩:=Na bs 0 0 n t (by omega) h
 have e:m=n:=by omega
 subst e
 exact⟨h2,by omega⟩
theorem Ee(n:Nat):0<(dJ n).length:=by
 unfold dJ qB
 split<;>simp
def fC(most:Nat)(bs:List UInt8):Option (Nat × List UInt8):=match Fb bs with
 | none=>none
 | some (n,t)=>if n<=most then some (n,t) else none
theorem eB{most:Nat}(h:n<=most)(hm:n<18446744073709551616)(t:List UInt8):fC most (dJ n++t)=some (n,t):=by
 unfold fC
 rw[Rq hm]
 simp only
 rw[if_pos h]
theorem dW{most:Nat}{bs t:List UInt8}(h:fC most bs=some (n,t)):bs=dJ n++t/\n<=most:=by
 unfold fC at h
 split at h
 ·cases h
 ·rename_i m u hm
  split at h
  ·simp only[Option.some.injEq,Prod.mk.injEq] at h
   obtain⟨rfl,rfl⟩:=h
   exact⟨(Xy hm).1,by assumption⟩
  ·cases h
structure Fk where
 fin:Bool
 out:Int
 arcs:List (Int × Int × Int)
def Ix(a:Nat × Int × Nat):Int × Int × Int:=((a.1:Int),a.2.1,(a.2.2:Int))
def cU.z(s:cU):Fk:=⟨s.fin,s.out,s.arcs.map Ix⟩
theorem Ul{α β:Type}{f:α->β}(hf:∀ a b,f a=f b->a=b):∀ {l m:List α},l.map f=m.map f->l=m
 | [],[],_=>rfl
 | [],_ :: _,h=>by simp at h
 | _ :: _,[],h=>by simp at h
 | a :: l,b :: m,h=>by
  simp only[qXb,List.cons.injEq] at h
  rw[hf _ _ h.1,Ul hf h.2]
def fK(i:Nat):Nat->Int->List UInt8->Option (List (Int × Int × Int) × List UInt8)
 | 0,_,bs=>some ([],bs)
 | k+1,l,bs=>match fC 1114111 bs with
  | none=>none
  | some (d,t1)=>match fC 1048576 t1 with
   | none=>none
   | some (o,t2)=>match fC 98305 t2 with
    | none=>none
    | some (b,t3)=>match fK i k (IntKind.i32.wrap (l+d)) t3 with
     | none=>none
     | some (ars,t4)=>some ((IntKind.i32.wrap (l+d),(o:Int),(i:Int)-(b:Int)) :: ars,t4)
def yQ(fin:Bool)(bs:List UInt8):Option (Nat × List UInt8):=if fin=true then fC 1048576 bs else some (0,bs)
def Ek(i:Nat)(bs:List UInt8):Option (Fk × List UInt8):=match fC (2*bs.length+1) bs with
 | none=>none
 | some (n,t1)=>match yQ (decide (n % 2=1)) t1 with
  | none=>none
  | some (o,t2)=>match fK i (n / 2) 0 t2 with
   | none=>none
   | some (ars,t3)=>some (⟨decide (n % 2=1),(o:Int),ars⟩,t3)
def rZ:Nat->Nat->List UInt8->Option (List Fk × List UInt8)
 | 0,_,bs=>some ([],bs)
 | k+1,i,bs=>match Ek i bs with
  | none=>none
  | some (s,t1)=>match rZ k (i+1) t1 with
   | none=>none
   | some (l,t2)=>some (s :: l,t2)
def uW(bs:List UInt8):Option ((Nat × List Fk) × List UInt8):=match fC 1048576 bs with
 | none=>none
 | some (base,t1)=>match fC 98305 t1 with
  | none=>none
  | some (n,t2)=>match rZ n 0 t2 with
   | none=>none
   | some (l,t3)=>some ((base,l),t3)
theorem Zi{x:Int}(h0:0<=x)(h1:x<2147483648):IntKind.i32.wrap x=x:=IntWalk.i32_in _ (by omega)
theorem Ax(i:Nat)(hi:i<=98305):∀ (l:List (Nat × Int × Nat)) (p:Nat) (t:List UInt8),(∀ a∈l,p<=a.1)->(l.map (·.1)).Pairwise (·<·)->(∀ a∈l,a.1<1114112/\0<=a.2.1/\a.2.1<=1048576/\a.2.2<i) ->
  fK i l.length p (kB i p l++t)=some (l.map Ix,t)
 | [],p,t,_,_,_=>rfl
 | a :: l,p,t,hp,hs,hb=>by
  obtain⟨h1,h2,h3,h4⟩:=hb a qQe
  have h5:=hp a qQe
  rw[qXb,List.pairwise_cons] at hs
  have ih:=Ax i hi l a.1 t (λb hb'=>Nat.le_of_lt (hs.1 _ (List.mem_map_of_mem hb'))) hs.2 (λb hb'=>hb b (qJd _ hb'))
  simp only[kB,Pv,qQb,fK,qQa]
  rw[eB (by omega) (by omega)]
  simp only
  rw[eB (by omega) (by omega)]
  simp only
  rw[eB (by omega) (by omega)]
  simp only
  have e:IntKind.i32.wrap ((p:Int)+((a.1-p:Nat):Int))=(a.1:Int):=by rw[Zi (by omega) (by omega)];omega
  rw[e,ih]
  simp only[qXb,Ix]
  rw[show ((a.2.1.toNat:Nat):Int)=a.2.1 by omega,show (i:Int)-((i-a.2.2:Nat):Int)=(a.2.2:Int) by omega]
theorem Fq(i:Nat):∀ (l:List (Nat × Int × Nat)) (p:Nat),l.length<=(kB i p l).length
 | [],_=>qZc _
 | a :: l,p=>by
  have h1:=Fq i l a.1
  have h2:=Ee (a.1-p)
  simp only[kB,Pv,qZd,qQb]
  omega
theorem aEj(i:Nat)(hi:i<=98305){s:cU}(hf:gB i s)(hlen:s.arcs.length<=2097152)(t:List UInt8):Ek i (stB i s++t)=some (s.z,t):=by
 have ha:=Ax i hi s.arcs 0 t (λ_ _=>qZc _) hf.lab (λa h=>by
  have h1:=(hf.run a h).1
  have h2:=hf.arc a h
  refine⟨?_,h2⟩
  unfold scal at h1
  simp at h1
  omega)
 have hl:=Fq i s.arcs 0
 have ho0:=hf.out0
 have ho1:=hf.out1
 unfold Ek stB Ca
 by_cases hfin:s.fin=true
 ·rw[if_pos hfin]
  simp only[qQa]
  rw[eB (by simp only[qZd];omega) (by omega)]
  simp only[yQ]
  rw[if_pos (by simp),eB (by omega) (by omega)]
  simp only
  rw[show (2*s.arcs.length+1) / 2=s.arcs.length by omega]
  have ha':fK i s.arcs.length 0 (kB i 0 s.arcs++t)=some (s.arcs.map Ix,t):=ha
  rw[ha']
  simp only[cU.z,hfin]
  rw[show decide ((2*s.arcs.length+1) % 2=1)=true by simp,show ((s.out.toNat:Nat):Int)=s.out by omega]
 ·have hff:s.fin=false:=by simpa using hfin
  rw[if_neg hfin]
  simp only[qQa]
  rw[eB (by simp only[qZd];omega) (by omega)]
  simp only[yQ]
  rw[if_neg (by simp)]
  simp only
  rw[show (2*s.arcs.length) / 2=s.arcs.length by omega]
  have ha':fK i s.arcs.length 0 (kB i 0 s.arcs++t)=some (s.arcs.map Ix,t):=ha
  rw[ha']
  simp only[cU.z,hff]
  rw[show decide ((2*s.arcs.length) % 2=1)=false by simp,hf.fin0 hff]
  rfl
theorem Ig:∀ (l:List cU) (i:Nat) (t:List UInt8),i+l.length<=98305->(∀ j,j<l.length->gB (i+j) (l.getD j aY))->rZ l.length i (pZ i l++t)=some (l.map cU.z,t)
 | [],_,_,_,_=>rfl
 | s :: l,i,t,hi,hf=>by
  have h0:=hf 0 (by simp)
  simp only[Nat.add_zero,List.getD_cons_zero] at h0
  have hl:(s :: l).length=l.length+1:=rfl
  rw[hl] at hi
  have ih:=Ig l (i+1) t (by omega) (λj hj=>by
   have h:=hf (j+1) (by rw[hl];omega)
   rw[List.getD_cons_succ,show i+(j+1)=i+1+j by omega] at h
   exact h)
  simp only[pZ,qQb,rZ,qQa]
  rw[aEj i (by omega) h0 (oD h0)]
  simp only
  rw[ih]
  rfl
theorem Rh{sts:List cU}{base:Nat}(hb:base<=1048576)(hn:sts.length<=98305)(hf:∀ i,i<sts.length->gB i (sts.getD i aY))(t:List UInt8):uW (qX base sts++t)=some ((base,sts.map cU.z),t):=by
 unfold uW qX Ki
 simp only[qQa,qJe]
 rw[eB hb (by omega)]
 simp only
 rw[eB hn (by omega)]
 simp only
 rw[Ig sts 0 t (by omega) (λj hj=>by rw[Nat.zero_add];exact hf j hj)]
def Zq(num:Nat)(z:Fk):Prop:=∃ s:cU,s.z=z/\gB num s
structure jP where
 b:Nat
def bs[Inhabited jP]:Nat:=(default:jP).b
section
variable[Inhabited jP]
def OT(w:World)(g:Nat)(t:TypeId):Prop:=(g<w.heap.size/\g<bs)\/bQ w g t
theorem OT.ne{b':Nat}{t':TypeId}(h:OT w b t)(h':bQ w b' t')(ht:t≠t')(hb:bs<=b'):b≠b':=by
 rcases h with⟨_,h⟩ | h
 ·omega
 ·exact h.ne h' ht
theorem OT.lt(h:OT w b t):b<w.heap.size:=by
 rcases h with h | h
 ·exact h.1
 ·exact h.lt
theorem OT.touch(h:OT w b t)(T:aC S w w')(hS:¬ S b):OT w' b t:=by
 rcases h with h | h
 ·exact .inl ⟨Nat.lt_of_lt_of_le h.1 T.size,h.2⟩
 ·exact .inr (h.touch T hS)
structure Pq(w:World)(t:TypeId)(size:Nat)(A:Option Addr)(n:Nat)(xs:List Value):Prop where
 rd:aH w size A n xs
 ty:0<n->∀ g,aJ A=some g->OT w g t
theorem Pq.touch(h:Pq w t size A n xs)(T:aC S w w')(hS:∀ g,OT w g t->¬ S g):Pq w' t size A n xs:=by
 by_cases hn:0<n
 ·exact⟨h.rd.touch T λg hg=>hS g (h.ty hn g hg),λ_ g hg=>(h.ty hn g hg).touch T (hS g (h.ty hn g hg))⟩
 ·exact⟨⟨h.rd.1,λh=>absurd h hn⟩,λh=>absurd h hn⟩
theorem Pq.quiet(h:Pq w t size A n xs)(T:aC (λ_=>False) w w'):Pq w' t size A n xs:=h.touch T λ_ _ f=>f
theorem gL.o(h:gL w t size A n xs):Pq w t size A n xs:=⟨h.rd,λhn g hg=>.inr (h.ty hn g hg)⟩
theorem Pq.of_own{base:Nat}{c:Nat}(h:w.ownsRow base t size (.slice A n c) n xs):Pq w t size A n xs:=(gL.of_own h).o
structure SV.Od(s:SV)(w:World):Prop where
 len:s.arcs.length=s.n
 rd:Pq w 173 3 s.A s.n (dQ s.arcs)
 le:s.n<=s.c
 mx:s.c<=maxLen
theorem SV.Od.touch{s:SV}(h:s.Od w)(T:aC S w w')(hS:∀ g,OT w g 173 -> ¬ S g):s.Od w':=⟨h.len,h.rd.touch T hS,h.le,h.mx⟩
structure Fl(w:World)(A:Option Addr)(n:Nat)(Z:List SV):Prop where
 rd:Pq w 170 3 A n (gA Z)
 len:Z.length=n
 el:∀ z∈Z,z.Od w
theorem Fl.quiet{Z:List SV}(h:Fl w A n Z)(T:aC (λ_=>False) w w'):Fl w' A n Z:=⟨h.rd.quiet T,h.len,λz hz=>(h.el z hz).touch T (λ_ _ f=>f)⟩
structure ZV where
 fin:Bool
 out:Int
 A:Option Addr
 n:Nat
 c:Nat
 arcs:List (Int × Int × Int)
def nK(l:List (Int × Int × Int)):List Value:=l.flatMap λa=>[.int .i32 a.1,.int .i64 a.2.1,.int .i64 a.2.2]
def ZV.cells(s:ZV):List Value:=[.bool s.fin,.int .i64 s.out,.slice s.A s.n s.c]
def ZV.p(s:ZV):Fk:=⟨s.fin,s.out,s.arcs⟩
structure ZV.Ok(s:ZV)(w:World):Prop where
 len:s.arcs.length=s.n
 rd:Pq w 173 3 s.A s.n (nK s.arcs)
 le:s.n<=s.c
 mx:s.c<=maxLen
def pP(Z:List ZV):List Value:=Z.flatMap ZV.cells
end
section
variable[Inhabited jP]
theorem ZV.Ok.touch{s:ZV}(h:s.Ok w)(T:aC S w w')(hS:∀ g,OT w g 173 -> ¬ S g):s.Ok w':=⟨h.len,h.rd.touch T hS,h.le,h.mx⟩
theorem ZV.Ok.quiet{s:ZV}(h:s.Ok w)(T:aC (λ_=>False) w w'):s.Ok w':=h.touch T (λ_ _ f=>f)
structure Vn(w:World)(A:Option Addr)(n:Nat)(Z:List ZV):Prop where
 rd:Pq w 170 3 A n (pP Z)
 len:Z.length=n
 el:∀ z∈Z,z.Ok w
theorem Vn.quiet{Z:List ZV}(h:Vn w A n Z)(T:aC (λ_=>False) w w'):Vn w' A n Z:=⟨h.rd.quiet T,h.len,λz hz=>(h.el z hz).quiet T⟩
end
theorem Po(l:List (Nat × Int × Nat)):nK (l.map Ix)=dQ l:=by
 unfold nK dQ
 rw[List.flatMap_map]
 rfl
section
variable[Inhabited jP]
def ZV.sv(z:ZV)(s:cU):SV:=⟨z.fin,z.out,z.A,z.n,z.c,s.arcs⟩
theorem ZV.sv_ok{z:ZV}{s:cU}(h:z.Ok w)(hs:s.z=z.p):(z.sv s).Od w/\(z.sv s).p=s/\(z.sv s).cells=z.cells:=by
 obtain⟨f,o,A,n,c,a⟩:=z
 obtain⟨f',o',a'⟩:=s
 simp only[cU.z,ZV.p,Fk.mk.injEq] at hs
 obtain⟨rfl,rfl,rfl⟩:=hs
 refine⟨⟨?_,?_,h.le,h.mx⟩,rfl,rfl⟩
 ·have:=h.len
  simpa [ZV.sv] using this
 ·have:=h.rd
  rw[Po] at this
  exact this
def SV.zv(s:SV):ZV:=⟨s.fin,s.out,s.A,s.n,s.c,s.arcs.map Ix⟩
theorem Ol:∀ (Z:List ZV) (sts:List cU),Z.map ZV.p=sts.map cU.z->(∀ z∈Z,z.Ok w)->∃ Y:List SV,Y.map SV.p=sts/\gA Y=pP Z/\Y.length=Z.length/\∀ y∈Y,y.Od w
 | [],[],_,_=>⟨[],rfl,rfl,rfl,λy hy=>by cases hy⟩
 | [],_ :: _,h,_=>by simp at h
 | _ :: _,[],h,_=>by simp at h
 | z :: Z,s :: sts,h,hz=>by
  simp only[qXb,List.cons.injEq] at h
  obtain⟨Y,h1,h2,h3,h4⟩:=Ol Z sts h.2 (λx hx=>hz x (qJd _ hx))
  obtain⟨g1,g2,g3⟩:=ZV.sv_ok (hz z qQe) h.1.symm
  refine⟨z.sv s :: Y,by rw[qXb,h1,g2],?_,by rw[qQb,qQb,h3],?_⟩
  ·unfold gA pP at *
   rw[List.flatMap_cons,List.flatMap_cons,h2,g3]
  ·intro y hy
   rcases List.mem_cons.1 hy with rfl | hy
   ·exact g1
   ·exact h4 y hy
theorem Vn.ok{Z:List ZV}(h:Vn w A n Z){sts:List cU}(hs:Z.map ZV.p=sts.map cU.z):∃ Y:List SV,Y.map SV.p=sts/\Fl w A n Y:=by
 obtain⟨Y,h1,h2,h3,h4⟩:=Ol Z sts hs h.el
 exact⟨Y,h1,by rw[h2];exact h.rd,by rw[h3];exact h.len,h4⟩
def rH:ZV:=⟨false,0,none,0,0,[]⟩
end
section
variable[Inhabited jP]
end
section
variable[Inhabited jP]
def Ts(P:Prop)(e:Ending):Prop:=∃ v:Bool,e=.returned (.bool v)/\(v=true↔P)
end
theorem Ts.mk{P:Prop}(v:Bool)(h:v=true↔P):Ts P (.returned (.bool v)):=⟨v,rfl,h⟩
section
variable[Inhabited jP]
end
section
variable[Inhabited jP]
end
section
variable[Inhabited jP]
def aKi(U:List S3)(z:cU):Prop:=∀ j,(0<=(fB U z j).1/\(fB U z j).1<=4096)/\(0<=(fB U z j).2.1/\(fB U z j).2.1<=24)/\(0<=(fB U z j).2.2/\(fB U z j).2.2<=1048576)
def aLg(U:List S3)(N:Nat)(z:cU):Prop:=∀ a∈z.arcs,a.2.2<N/\(0<=a.2.1/\a.2.1<=1048576)/\(0<=(U.getD a.2.2 z3).1/\(U.getD a.2.2 z3).1<=4096)/\(0<=(U.getD a.2.2 z3).2.1/\(U.getD a.2.2 z3).2.1<=24)/\(0<=(U.getD a.2.2 z3).2.2/\(U.getD a.2.2 z3).2.2<=1048576)
end
section
open Go.RowKit Go.WideMaps Go.WideElems Go.ChangeShapes Go.WideShapes Go.MapKept Go.ChangeMaps
variable[Inhabited jP]
structure Tt(w:World)(B b m:Nat)(kv:Nat->Value)(es:Array MapEntry)(clock:Nat):Prop where
 g:Eo w B b m es clock
 has:∀ k,k<m->∃ (i:Nat) (x:MapEntry),es[i]? = some x/\x.key=kv k
 dist:∀ (i j:Nat) (x y:MapEntry),es[i]? = some x->es[j]? = some y->x.key=y.key->i=j
 full:∀ (i:Nat) (x:MapEntry),es[i]? = some x->∃ xs,oB w m x.val xs/\∀ k,k<m->kv k=x.key->k∈xs
theorem aDq{m':Nat}{v:Value}{xs ys:List Nat}(h:oB w m v xs)(k:oB w m' v ys):xs=ys:=by
 have inj:∀ {a b:List Nat},a.map qV=b.map qV->a=b:=λh=>Ul (λx y e=>by simp only[qV,Value.int.injEq,true_and] at e;omega) h
 obtain⟨⟨h1,h2⟩,_⟩:=h
 obtain⟨⟨k1,k2⟩,_⟩:=k
 rcases h2 with⟨rfl,hn⟩ | ⟨g,cap,cur,rfl,_,hg,_,_,_,ht⟩
 ·rcases k2 with⟨_,kn⟩ | ⟨g,cap,cur,hv,_⟩
  ·rw[qQf hn,qQf kn]
  ·cases hv
 ·rcases k2 with⟨hv,_⟩ | ⟨g',cap',cur',hv,_,kg,_,_,_,kt⟩
  ·cases hv
  ·injection hv with e1 e2 e3
   injection e1 with e1
   injection e1 with e1
   subst e1
   rw[hg] at kg
   simp only[Option.some.injEq,Obj.cells.injEq] at kg
   obtain⟨rfl,_⟩:=kg
   rw[<-e2] at kt
   exact inj (ht.symm.trans kt)
theorem Tt.quiet(h:Tt w B b m kv es clock)(T:aC (λ_=>False) w w'):Tt w' B b m kv es clock :=
 ⟨h.g.quiet T,h.has,h.dist,λi x hx=>by
  obtain⟨xs,hr,hf⟩:=h.full i x hx
  exact⟨xs,hr.touch T (λ_ _ f=>f),hf⟩⟩
theorem Tt.far(h:Tt w B b m kv es clock)(T:aC S w w')(hb:¬ S b)(hs:∀ g,bQ w g 3 -> ¬ S g):Tt w' B b m kv es clock :=
 ⟨h.g.far T hb hs,h.has,h.dist,λi x hx=>by
  obtain⟨xs,hr,hf⟩:=h.full i x hx
  exact⟨xs,hr.touch T (λg hg=>hs g (aM hr.1 hg)),hf⟩⟩
theorem Tt.lookup(h:Tt w B b m kv es clock){key:Value}{l:Lit}(hk:keyOf Tryz.prog 246 key=some l) :
  ∃ v xs,(Instr.lookup 241 (.map (some b)) key false).run Tryz.prog w=.ok v w/\oB w m v xs/\∀ k,k<m->kv k=key->k∈xs:=by
 rcases gW.find w hk es.toList h.g.keys with⟨h1,h2⟩ | ⟨j,e0,h1,h2,h3⟩
 ·refine⟨.slice none 0 0,[],?_,oB.nil _ _,λk hm e=>?_⟩
  ·simp[Instr.lookup,run_underlying Tryz.underlying241,MapKept.run_getObj_map h.g.blk,gW.check w _ hk,h1,Result.andThen]
  ·obtain⟨i,x,hx,hxk⟩:=h.has k hm
   exact absurd (hxk.trans e) (h2 x (qXc (by simpa using hx)))
 ·obtain⟨xs,hr,hf⟩:=h.full j e0 (by simpa using h2)
  refine⟨e0.val,xs,?_,hr,λk hm e=>hf k hm (e.trans h3.symm)⟩
  simp[Instr.lookup,run_underlying Tryz.underlying241,MapKept.run_getObj_map h.g.blk,gW.check w _ hk,h1,Result.andThen]
theorem Tt.entry(h2:Tt w B b m kv es clock){key:Value}{l:Lit}(hk:keyOf Tryz.prog 246 key=some l) :
  ∃ (es1:Array MapEntry) (clock1 j:Nat) (e0:MapEntry),(Instr.mapEntry 241 (.map (some b)) key).run Tryz.prog w=.ok (.tuple #[e0.val,goInt e0.born]) (setBlock w b (.map es1 clock1))/\Tt (setBlock w b (.map es1 clock1)) B b m kv es1 clock1/\es1[j]? = some e0/\e0.key=key:=by
 have h:=h2.g
 have hT:=λo=>dV w b o
 have hlt:=pD h.blk
 have hne:∀ (i:Nat) (x:MapEntry),es[i]? = some x->∀ g,x.val.ownBlock=some g->¬ g=b:=by
  intro i x hx g hg
  obtain⟨xs,hr⟩:=h.vals i x hx
  exact nS (aM hr.1 hg) h.blk
 rcases gW.find w hk es.toList h.keys with⟨h1,f2⟩ | ⟨j,e0,h1,f2,h3⟩
 ·refine⟨es.push ⟨key,.slice none 0 0,clock⟩,clock+1,es.size,⟨key,.slice none 0 0,clock⟩,?_,⟨⟨fO hlt,stamped_push h.stamped f2,?_,?_,?_,?_⟩,?_,?_,?_⟩,by simp,rfl⟩
  ·simp[Instr.mapEntry,run_underlying Tryz.underlying241,MapKept.run_getObj_map h.blk,gW.check w false hk,h1,MapKept.run_setObj_map _ h.blk,Result.andThen,setBlock]
  ·intro x hx
   simp only[Array.toList_push,List.mem_append,qZe] at hx
   rcases hx with hx | rfl
   ·exact h.keys x hx
   ·exact⟨l,hk⟩
  ·intro i x hx
   rw[Array.getElem?_push] at hx
   split at hx
   ·injection hx with hx
    subst hx
    exact⟨[],oB.nil _ _⟩
   ·obtain⟨xs,hr⟩:=h.vals i x hx
    exact⟨xs,hr.touch (hT _) (hne i x hx)⟩
  ·intro i x hx g hg
   rw[Array.getElem?_push] at hx
   split at hx
   ·injection hx with hx
    subst hx
    cases hg
   ·exact h.young i x hx g hg
  ·intro i j x y hx hy hij g hg
   rw[Array.getElem?_push] at hx hy
   split at hx
   ·injection hx with hx
    subst hx
    cases hg
   ·split at hy
    ·injection hy with hy
     subst hy
     intro e
     cases e
    ·exact h.apart i j x y hx hy hij g hg
  ·intro k hm
   obtain⟨i,x,hx,hxk⟩:=h2.has k hm
   exact⟨i,x,by rw[Array.getElem?_push,if_neg (by have:=(Array.getElem?_eq_some_iff.1 hx).1;omega)];exact hx,hxk⟩
  ·intro i j x y hx hy hxy
   rw[Array.getElem?_push] at hx hy
   split at hx
   ·rename_i hi
    split at hy
    ·rename_i hj
     omega
    ·obtain rfl:=Option.some.inj hx
     exact False.elim <| f2 y (qXc (i:=j) (by simpa using hy)) hxy.symm
   ·split at hy
    ·obtain rfl:=Option.some.inj hy
     exact False.elim <| f2 x (qXc (i:=i) (by simpa using hx)) hxy
    ·exact h2.dist i j x y hx hy hxy
  ·intro i x hx
   rw[Array.getElem?_push] at hx
   split at hx
   ·injection hx with hx
    subst hx
    refine⟨[],oB.nil _ _,λk hm e=>?_⟩
    obtain⟨i',x',hx',hxk'⟩:=h2.has k hm
    exact absurd (hxk'.trans e) (f2 x' (qXc (i:=i') (by simpa using hx')))
   ·obtain⟨xs,hr,hf⟩:=h2.full i x hx
    exact⟨xs,hr.touch (hT _) (hne i x hx),hf⟩
 ·have hj:es[j]? = some e0:=by simpa using f2
  have hsame:es.modify j (λe=>{ e with key:=key })=es:=by
   apply Array.ext'
   rw[Array.toList_modify,modify_eq_set _ _ _ _ f2]
   have:({ e0 with key:=key }:MapEntry)=e0:=by rw[<-h3]
   rw[this]
   exact set_self _ _ _ f2
  refine⟨es,clock,j,e0,?_,⟨⟨fO hlt,h.stamped,h.keys,λi x hx=>?_,h.young,h.apart⟩,h2.has,h2.dist,λi x hx=>?_⟩,hj,h3⟩
  ·simp[Instr.mapEntry,run_underlying Tryz.underlying241,MapKept.run_getObj_map h.blk,gW.check w false hk,h1,hj,h3,gW.stays w hk,hsame,MapKept.run_setObj_map _ h.blk,Result.andThen,setBlock]
  ·obtain⟨xs,hr⟩:=h.vals i x hx
   exact⟨xs,hr.touch (hT _) (hne i x hx)⟩
  ·obtain⟨xs,hr,hf⟩:=h2.full i x hx
   exact⟨xs,hr.touch (hT _) (hne i x hx),hf⟩
theorem Tt.store{w6:World}{j:Nat}{e0:MapEntry}(h2:Tt w B b m kv es clock)(hkv:e0.key=kv m){ys:List Nat}(hys:oB w m e0.val ys)(hj:es[j]? = some e0){v1:Value}{xs:List Nat}(hg:w.grownBy w6 e0.val.ownBlock)(hf:cK w e0.val v1)(hv:oB w6 (m+1) v1 xs)(hxs:xs=ys++[m])(hB:B<=w.heap.size) :
  ∃ es',(Instr.entryStore 241 (.map (some b)) (goInt e0.born) v1).run Tryz.prog w6=.ok () (setBlock w6 b (.map es' clock))/\Tt (setBlock w6 b (.map es' clock)) B b (m+1) kv es' clock:=by
 have h:=h2.g
 have hlt:=pD h.blk
 have hnb:∀ (i:Nat) (x:MapEntry),es[i]? = some x->∀ g,x.val.ownBlock=some g->¬ g=b:=by
  intro i x hx g hg
  obtain⟨xs,hr⟩:=h.vals i x hx
  exact nS (aM hr.1 hg) h.blk
 have hT6:aC (λx=>e0.val.ownBlock=some x) w w6:=(aC.refl _ _).grown hg (λk hk _=>hk)
 have hb6:w6.heap[b]? = some (.map es clock):=(hT6.block b hlt (λe=>hnb j e0 hj b e rfl)).trans h.blk
 have hT7:=λo=>dV w6 b o
 have hl:es.toList[j]? = some e0:=by simpa using hj
 have hidx:es.findIdx? (λe=>((e.born:Nat):Int) == ((e0.born:Nat):Int))=some j:=by
  rw[findIdx_arr]
  exact findIdx_born h.stamped.2.1 hl
 have hget:∀ i:Nat,(es.modify j (λe=>{ e with val:=v1 }))[i]? = if j=i then (es[i]?).map (λe=>{ e with val:=v1 }) else es[i]? := by
  intro i
  rw[Array.getElem?_modify]
 refine⟨es.modify j (λe=>{ e with val:=v1 }),?_,⟨⟨fO (pD hb6),stamped_modify h.stamped j _ (λ_ _=>rfl) (λ_ _ _=>rfl),?_,?_,?_,?_⟩,?_,?_,?_⟩⟩
 ·simp[Instr.entryStore,MapKept.run_getObj_map hb6,asInt,asIntOf,goInt,hidx,MapKept.run_setObj_map _ hb6,Result.andThen,setBlock]
 ·intro x hx
  rw[Array.toList_modify,modify_eq_set _ _ _ _ hl] at hx
  rcases List.mem_or_eq_of_mem_set hx with hx | rfl
  ·exact h.keys x hx
  ·exact h.keys e0 (qXc hl)
 ·intro i x hx
  rw[hget] at hx
  split at hx
  ·rename_i hji
   subst hji
   rw[hj] at hx
   simp only[Option.map_some,Option.some.injEq] at hx
   subst hx
   refine⟨xs,hv.touch (hT7 _) λg hg' e=>?_⟩
   exact nS (aM hv.1 hg') hb6 e
  ·rename_i hji
   obtain⟨ys,hr⟩:=(h.up (Nat.le_succ m)).vals i x hx
   refine⟨ys,(hr.touch hT6 λg hg' e=>?_).touch (hT7 _) (hnb i x hx)⟩
   exact h.apart j i e0 x hj hx hji g e hg'
 ·intro i x hx g hg'
  rw[hget] at hx
  split at hx
  ·rename_i hji
   subst hji
   rw[hj] at hx
   simp only[Option.map_some,Option.some.injEq] at hx
   subst hx
   rcases hf with hf | ⟨g2,e2,hf⟩
   ·simp only at hg'
    rw[hf] at hg'
    exact h.young j e0 hj g hg'
   ·simp only at hg'
    rw[e2] at hg'
    injection hg' with hg'
    omega
  ·exact h.young i x hx g hg'
 ·have hfar:∀ (i:Nat) (x:MapEntry),es[i]? = some x->j≠i->∀ g,v1.ownBlock=some g->x.val.ownBlock≠some g:=by
   intro i x hx hji g hg' e
   rcases hf with hf | ⟨g2,e2,hf⟩
   ·rw[hf] at hg'
    exact h.apart j i e0 x hj hx hji g hg' e
   ·rw[e2] at hg'
    injection hg' with hg'
    obtain⟨ys,hr⟩:=h.vals i x hx
    have:=(aM hr.1 e).lt
    omega
  intro i k x y hx hy hik g hg'
  rw[hget] at hx hy
  split at hx
  ·rename_i hji
   rw[if_neg (by omega)] at hy
   subst hji
   rw[hj] at hx
   simp only[Option.map_some,Option.some.injEq] at hx
   subst hx
   exact hfar k y hy hik g hg'
  ·split at hy
   ·rename_i hji hjk
    subst hjk
    rw[hj] at hy
    simp only[Option.map_some,Option.some.injEq] at hy
    subst hy
    intro e
    exact hfar i x hx hji g e hg'
   ·exact h.apart i k x y hx hy hik g hg'
 ·intro k hk
  rcases Nat.lt_succ_iff_lt_or_eq.1 hk with hk | rfl
  ·obtain⟨i,x,hx,hxk⟩:=h2.has k hk
   by_cases e:j=i
   ·exact⟨i,{ x with val:=v1 },by rw[hget,if_pos e,hx];rfl,hxk⟩
   ·exact⟨i,x,by rw[hget,if_neg e];exact hx,hxk⟩
  ·exact⟨j,{ e0 with val:=v1 },by rw[hget,if_pos rfl,hj];rfl,hkv⟩
 ·have hk:∀ (i:Nat) (x:MapEntry),(es.modify j (λe=>{ e with val:=v1 }))[i]? = some x->∃ x',es[i]? = some x'/\x'.key=x.key:=by
   intro i x hx
   rw[hget] at hx
   split at hx
   ·obtain⟨x',h1,h3⟩:=Option.map_eq_some_iff.1 hx
    exact⟨x',h1,by rw[<-h3]⟩
   ·exact⟨x,hx,rfl⟩
  intro i k x y hx hy hxy
  obtain⟨x',h1,h3⟩:=hk i x hx
  obtain⟨y',h4,h5⟩:=hk k y hy
  exact h2.dist i k x' y' h1 h4 (by rw[h3,h5,hxy])
 ·intro i x hx
  rw[hget] at hx
  split at hx
  ·rename_i hji
   subst hji
   rw[hj] at hx
   simp only[Option.map_some,Option.some.injEq] at hx
   subst hx
   obtain⟨zs,hr,hf⟩:=h2.full j e0 hj
   have e:=aDq hr hys
   subst e
   refine⟨xs,hv.touch (hT7 _) λg hg' e=>?_,?_⟩
   ·exact nS (aM hv.1 hg') hb6 e
   ·intro k hk e
    rw[hxs]
    rcases Nat.lt_succ_iff_lt_or_eq.1 hk with hk | rfl
    ·exact List.mem_append_left _ (hf k hk e)
    ·exact List.mem_append_right _ (List.mem_singleton.2 rfl)
  ·rename_i hji
   obtain⟨zs,hr,hf⟩:=h2.full i x hx
   have hr2:oB w (m+1) x.val zs:=⟨hr.1,by have:=hr.2.1;omega,λk hk=>by have:=hr.2.2 k hk;omega⟩
   refine⟨zs,(hr2.touch hT6 λg hg' e=>?_).touch (hT7 _) (hnb i x hx),?_⟩
   ·exact h.apart j i e0 x hj hx hji g e hg'
   ·intro k hk e
    rcases Nat.lt_succ_iff_lt_or_eq.1 hk with hk | rfl
    ·exact hf k hk e
    ·exact absurd (h2.dist j i e0 x hj hx (hkv.trans e)) hji
end
section
variable[Inhabited jP]
structure aIj(w:World)(g Y:Nat)(s':List Bool)(nx':Nat)(ok:Bool):Prop where
 yes:ok=true->aL w g 4 (nN s')/\aL w Y 3 #[.int .i64 nx']
theorem aIj.no{g Y:Nat}{s':List Bool}{nx':Nat}:aIj w g Y s' nx' false:=⟨λh=>by cases h⟩
end
section
variable[Inhabited jP]
def Fk.p(z:Fk):cU:=⟨z.fin,z.out,z.arcs.map λa=>(a.1.toNat,a.2.1,a.2.2.toNat)⟩
theorem z_p(s:cU):s.z.p=s:=by
 obtain⟨f,o,l⟩:=s
 simp only[cU.z,Fk.p,qXf,cU.mk.injEq,true_and]
 have e:((λa:Int × Int × Int=>(a.1.toNat,a.2.1,a.2.2.toNat)) ∘ Ix)=id:=by
  funext a
  obtain⟨a,b,c⟩:=a
  simp[Ix]
 rw[e,List.map_id]
theorem aFx{num:Nat}{z:Fk}(h:Zq num z):z.p.z=z/\gB num z.p:=by
 obtain⟨s,rfl,hs⟩:=h
 rw[z_p]
 exact⟨rfl,hs⟩
def aKg(zs:List Fk)(base:Int):Prop:=∃ sts:List cU,zs=sts.map cU.z/\Am sts base
def fR(Z:List ZV):List cU:=Z.map λz=>z.p.p
theorem xV(Z:List ZV):(fR Z).length=Z.length:=by simp[fR]
theorem If{Z:List ZV}(h:i<Z.length):(fR Z).getD i aY=(Z.getD i rH).p.p:=by
 simp[fR,qJa,h]
theorem aDo{Z:List ZV}{base:Int}(h:aKg (Z.map ZV.p) base):Am (fR Z) base/\∀ i,i<Z.length->(Z.getD i rH).p=((fR Z).getD i aY).z:=by
 obtain⟨sts,h1,h2⟩:=h
 have e:fR Z=sts:=by
  have h3:(Z.map ZV.p).map Fk.p=(sts.map cU.z).map Fk.p:=by rw[h1]
  rw[qXf,qXf] at h3
  have e2:(Fk.p ∘ cU.z)=id:=by funext s;exact z_p s
  rw[e2,List.map_id] at h3
  exact h3
 rw[e]
 refine⟨h2,λi hi=>?_⟩
 have h3:=congrArg (λl=>l[i]?) h1
 simp only[List.getElem?_map] at h3
 have hl:sts.length=Z.length:=by have:=congrArg List.length h1;simpa using this.symm
 have hi2:i<sts.length:=by omega
 simpa [qJa,hi,hi2] using h3
theorem Ec{sts:List cU}:∀ (i j:Nat),j<i->i<=n->(uF sts n i).getD j z3=fB (uF sts n j) (sts.getD j aY) (sts.getD j aY).arcs.length
 | 0,_,h,_=>absurd h (qQc _)
 | i+1,j,h,hn=>by
  simp only[uF]
  by_cases e:j=i
  ·subst e
   rw[qZf,List.getElem?_set_self (by rw[mP];omega)]
   rfl
  ·rw[qZf,List.getElem?_set_ne (by omega),<-qZf]
   exact Ec i j (by omega) (by omega)
structure Rg(Z:List ZV)(n i:Nat):Prop where
 form:∀ j,j<i->Zq j (Z.getD j rH).p
 sum:∀ j,j<i->aKi (uF (fR Z) n j) ((fR Z).getD j aY)
 unl:∀ j k,j<i->k<i->(fR Z).getD j aY=(fR Z).getD k aY->j=k
theorem Rg.zero(Z:List ZV)(n:Nat):Rg Z n 0:=⟨λ_ h=>absurd h (qQc _),λ_ h=>absurd h (qQc _),λ_ _ h=>absurd h (qQc _)⟩
theorem Rg.formP{Z:List ZV}(h:Rg Z n i)(hl:Z.length=n)(hi:i<=n){j:Nat}(hj:j<i):gB j ((fR Z).getD j aY)/\((fR Z).getD j aY).z=(Z.getD j rH).p:=by
 rw[If (by omega)]
 have:=aFx (h.form j hj)
 exact⟨this.2,this.1⟩
theorem Rg.sumE{Z:List ZV}(h:Rg Z n i){s:cU}(hi:i<n)(hs:gB i s):aLg (uF (fR Z) n i) n s:=by
 intro a ha
 have h1:=hs.arc a ha
 have h2:=h.sum a.2.2 h1.2.2
 rw[Ec i a.2.2 h1.2.2 (by omega)]
 exact⟨by omega,⟨h1.1,h1.2.1⟩,h2 _⟩
theorem Rg.step{Z:List ZV}(h:Rg Z n i)(hf:Zq i (Z.getD i rH).p)(hs:aKi (uF (fR Z) n i) ((fR Z).getD i aY))(hu:∀ k,k<i->(fR Z).getD k aY≠(fR Z).getD i aY):Rg Z n (i+1):=by
 refine⟨?_,?_,?_⟩
 ·intro j hj
  rcases Nat.lt_succ_iff_lt_or_eq.1 hj with hj | rfl
  ·exact h.form j hj
  ·exact hf
 ·intro j hj
  rcases Nat.lt_succ_iff_lt_or_eq.1 hj with hj | rfl
  ·exact h.sum j hj
  ·exact hs
 ·intro j k hj hk e
  rcases Nat.lt_succ_iff_lt_or_eq.1 hj with hj | rfl
  ·rcases Nat.lt_succ_iff_lt_or_eq.1 hk with hk | rfl
   ·exact h.unl j k hj hk e
   ·exact absurd e (hu j hj)
  ·rcases Nat.lt_succ_iff_lt_or_eq.1 hk with hk | rfl
   ·exact absurd e.symm (hu k hk)
   ·rfl
theorem Io(sts:List cU):∀ (f i:Nat) (s s':List Bool) (n n':Nat),gZ sts f i s n=(true,s',n')->∀ g,f<=g->gZ sts g i s n=(true,s',n')
 | 0,_,_,_,_,_,h,_,_=>by simp[gZ] at h
 | f+1,i,s,s',n,n',h,g,hg=>by
  obtain⟨g,rfl⟩:∃ k,g=k+1:=⟨g-1,by omega⟩
  simp only[gZ] at h ⊢
  have ih:=Io sts f
  have hv:∀ (l:List (Nat × Int × Nat)) (s s':List Bool) (n n':Nat),eD (gZ sts f) l s n=(true,s',n')->eD (gZ sts g) l s n=(true,s',n'):=by
   intro l
   induction l with
   | nil=>intro s s' n n' h;exact h
   | cons a l ih2 =>
    intro s s' n n' h
    simp only[eD] at h ⊢
    by_cases hs:s.getD a.2.2 false=true
    ·rw[if_pos hs] at h ⊢
     exact ih2 _ _ _ _ h
    ·rw[if_neg hs] at h ⊢
     obtain⟨⟨ok,s1,n1⟩,hr⟩:∃ r,gZ sts f a.2.2 s n=r:=⟨_,rfl⟩
     rw[hr] at h
     cases ok with
     | false=>simp at h
     | true =>
      rw[ih _ _ _ _ _ hr g (by omega)]
      exact ih2 _ _ _ _ h
  obtain⟨⟨ok,s1,n1⟩,hr⟩:∃ r,eD (gZ sts f) (sts.getD i aY).arcs s n=r:=⟨_,rfl⟩
  rw[hr] at h
  cases ok with
  | false=>simp at h
  | true =>
   rw[hv _ _ _ _ _ hr]
   exact h
theorem Im(sts:List cU)(hlt:∀ i,i<sts.length->∀ a∈(sts.getD i aY).arcs,a.2.2<i):∀ (f i:Nat) (s:List Bool) (n:Nat),i<f->i<sts.length->∀ g,f<=g->gZ sts g i s n=gZ sts f i s n
 | 0,_,_,_,h,_,_,_=>absurd h (qQc _)
 | f+1,i,s,n,hi,hil,g,hg=>by
  obtain⟨g,rfl⟩:∃ k,g=k+1:=⟨g-1,by omega⟩
  simp only[gZ]
  have hv:∀ (l:List (Nat × Int × Nat)),(∀ a∈l,a.2.2<i)->∀ (s:List Bool) (n:Nat),eD (gZ sts g) l s n=eD (gZ sts f) l s n:=by
   intro l
   induction l with
   | nil=>intro _ s n;rfl
   | cons a l ih2 =>
    intro hl s n
    simp only[eD]
    have ha:=hl a qQe
    rw[Im sts hlt f a.2.2 s n (by omega) (by omega) g (by omega)]
    by_cases hs:s.getD a.2.2 false=true
    ·rw[if_pos hs,if_pos hs]
     exact ih2 (λb hb=>hl b (qJd _ hb)) _ _
    ·rw[if_neg hs,if_neg hs]
     obtain⟨⟨ok,s1,n1⟩,hr⟩:∃ r,gZ sts f a.2.2 s n=r:=⟨_,rfl⟩
     rw[hr]
     cases ok with
     | false=>rfl
     | true=>exact ih2 (λb hb=>hl b (qJd _ hb)) _ _
  rw[hv _ (hlt i hil)]
theorem Rg.right{Z:List ZV}{base:Int}(h:Rg Z n n)(hl:Z.length=n)(hpos:0<n)(hfew:n<=98305)(hb1:1<=base)(hb2:base<=1048576)(hroot:(Z.getD (n-1) rH).fin=false) :
  (base+((uF (fR Z) n n).getD (n-1) z3).2.2<=1048576/\∃ s',gZ (fR Z) n (n-1) (List.replicate n false) 0=(true,s',n))↔aKg (Z.map ZV.p) base:=by
 have hsl:(fR Z).length=n:=by rw[xV,hl]
 constructor
 ·rintro⟨htop,s',hvis⟩
  refine⟨fR Z,?_,.inr ⟨by omega,by omega,hb1,hb2,?_,?_,?_,?_,?_,?_,⟨n,s',?_⟩⟩⟩
  ·apply List.ext_getElem
   ·simp[xV]
   ·intro i h1 h2
    simp only[qZb] at h1 h2
    have:=(h.formP hl (qJb _) (j:=i) (by omega)).2
    simp only[List.getElem_map]
    have e1:(fR Z).getD i aY=(fR Z)[i]:=by simp[qJa,h2]
    have e2:Z.getD i rH=Z[i]:=by simp[qJa,h1]
    rw[e1,e2] at this
    exact this.symm
  ·rw[hsl,If (by omega)]
   exact hroot
  ·intro i hi
   exact (h.formP hl (qJb _) (by omega)).1
  ·intro i hi
   rw[hsl]
   exact h.sum i (by omega)
  ·intro i hi a ha
   rw[hsl]
   have h1:=(h.formP hl (qJb _) (j:=i) (by omega)).1
   have hc:=h1.arc a ha
   rw[Ec i a.2.2 hc.2.2 (by omega)]
   exact h.sum a.2.2 (by omega) _
  ·rw[hsl]
   exact htop
  ·intro i j hi hj e
   exact h.unl i j (by omega) (by omega) e
  ·rw[hsl]
   exact hvis
 ·intro hr
  have hr2:=(aDo hr).1
  rcases hr2 with⟨e,_⟩ | hr2
  ·rw[e] at hsl
   simp at hsl
   omega
  ·have htop:=hr2.top
   obtain⟨F,s',hvis⟩:=hr2.vis
   rw[hsl] at htop hvis
   refine⟨htop,s',?_⟩
   have h1:=Io _ _ _ _ _ _ _ hvis (max F n) (Nat.le_max_left _ _)
   have h2:=Im (fR Z) (λi hi a ha=>by
    have h1:=(h.formP hl (qJb _) (j:=i) (by omega)).1
    exact (h1.arc a ha).2.2) n (n-1) (List.replicate n false) 0 (by omega) (by omega) (max F n) (Nat.le_max_right _ _)
   rw[<-h2,h1]
end
section
open Go.RowKit Go.WideElems Go.ChangeShapes Go.WideShapes Go.MapKept Go.ChangeMaps
variable[Inhabited jP]
theorem Rg.all{Z:List ZV}(h:Rg Z n n)(hl:Z.length=n):Z.map ZV.p=(fR Z).map cU.z:=by
 apply List.ext_getElem
 ·simp[xV]
 ·intro i h1 h2
  simp only[qZb] at h1 h2
  have:=(h.formP hl (qJb _) (j:=i) (by omega)).2
  simp only[List.getElem_map]
  have e1:(fR Z).getD i aY=(fR Z)[i]:=by simp[qJa,h2]
  have e2:Z.getD i rH=Z[i]:=by simp[qJa,h1]
  rw[e1,e2] at this
  exact this.symm
end
end Go.Proofs.YthockgmbooefpaaGreatDoor
