/- What the law rests on, part 8. No condition but those that each theorem names. -/
import Derived.Test.YthockgmbooefpaaGreatDoorM06
import Derived.Test.YthockgmbooefpaaGreatDoorM07
import Derived.Test.YthockgmbooefpaaGreatDoorM04
import Derived.StillTailTactics
import Derived.Deep.CutRange
import Derived.BigQuiet
import Derived.Deep.QuietTactic
import Derived.Deep.RegionHeld3
import Derived.Laws.Bits64b
import Derived.Laws.Cover3
set_option linter.unusedSectionVars false
set_option linter.unusedSimpArgs false
set_option linter.unusedVariables false
set_option maxRecDepth 100000
set_option maxHeartbeats 8000000
namespace Go.Proofs.YthockgmbooefpaaGreatDoor
open Int renaming toNat_natCast → qQc
open IntWalk renaming i64_in → qJa
open List renaming append_assoc → qQa, length_cons → qXa, length_map → qZb, map_cons → qJb, cons_append → qZc, length_append → qXc, map_append → qJc, length_nil → qXd, mem_cons_self → qJd, take_of_length_le → qQe
open Nat renaming zero_le → qZa, mul_comm → qQb, pow_succ → qXb, zero_add → qQd, mul_assoc → qXe, mul_lt_mul_of_pos_right → qJe, pow_le_pow_right → qQf
variable{e:Int}{bs t:List UInt8}{c n p:Nat}{A:Option Addr}{w w':World}
open Go.RowKit
theorem aAt(a b:ByteArray)(v:Bool)(h:Op.bytesLess a.toList b.toList=v)(w:World) :
  Calls Tryz.prog 82 #[.string a,.string b] w λe w'=>e=.returned (.bool v)/\w'=w:=by
 subst h
 go_in
 go_wp2
 go_ret
 exact⟨rfl,rfl⟩
theorem Wj{L:List aE}(h:L≠[]):bB L=⟨aW (aT L),(aY 25 ⟨[],[]⟩ (aT L)).1.states⟩:=by unfold bB;rw[if_neg h]
theorem Iq(L:List aE)(i:Nat)(h:i<L.length):aT (L.take (i+1))=aT (L.take i)++[(dM (L.getD i aE.zero),(L.getD i aE.zero).weight)]:=by
 unfold aT
 rw[bI L aE.zero i h,qJc]
 rfl
theorem Yu{p:aE}{O:List Nat}(h:cQ p.word.toList=some O):dM p=O:=by unfold dM;rw[h];rfl
theorem yD(w:World)(hL:dN w)(s:SL)(hs:s.Ok w)(hWz:∀ r∈s.L,r.word.size<=1099511627776)(hm:s.n<=maxLen) :
  Calls Tryz.prog 38 #[s.val] w λe w' =>
   (eK s.L=false/\∃ k:Int,(70<=k/\k=Av s.L)/\e=.returned (.tuple #[.agg #[.int .i64 0,.slice none 0 0],.int .i64 k])/\aC (λ_=>False) w w') \/
   (eK s.L=true/\∃ (A:Option Addr) (n c:Nat) (Z:List SV),e=.returned (.tuple #[.agg #[.int .i64 (bB s.L).base,.slice A n c],.int .i64 0])/\eC w' A n Z/\Z.map SV.p=(bB s.L).states/\n<=c/\aC (λ_=>False) w w'):=by
 obtain⟨i0,hi0,hz0,hz1,hz2⟩:=aO Cl
 obtain⟨sA,sn,sc,sL⟩:=s
 have hsl:=hs.len
 have hrd:=hs.reads
 simp only at hWz hm hsl hrd
 simp only[SL.val]
 have HL:=aB hL
 have HSL:=aB hsl
 have HRD:=aB hrd
 have HWZ:=aB hWz
 have HM:=aB hm
 have HS:=aB hs
 clear hL hsl hrd hWz hs
 by_cases hbig:4096<sn
 ·have b0:(4096:Int)<(sn:Int):=by omega
  have HR:Hid (eK sL=false):=aB (vH (by rw[HSL.out];omega))
  have HE:Hid (Av sL=70):=aB (Qn (by rw[HSL.out];omega))
  clear hbig hm
  go_in
  go_wp2_with fail
  obtain⟨f0,f1,f2⟩:=(aL.new w 89 #[.int .i64 0,.slice none 0 0]).facts
  exact bodyPost_ret (v:=.tuple #[.agg #[.int .i64 0,.slice none 0 0],.int .i64 70]) (by simp[results,Tryz.results38,go_sem,f0]) rfl (.inl ⟨HR,70,⟨by decide,HE.symm⟩,rfl,(aC.refl _ _).alloc _⟩)
 ·have b0:¬ (4096:Int)<(sn:Int):=by omega
  have b1:(sn:Int)<=4096:=by omega
  have HSN:=aB (show sn<=4096 by omega)
  clear hbig hm
  go_in
  go_wp2_with fail
  obtain⟨w1,hw1⟩:=eX (w.alloc (.cells #[.int .i64 0,.slice none 0 0] 89))
  obtain⟨Rb,hRb⟩:=eX w.heap.size
  have hT1:aC (λ_=>False) w w1:=by rw[hw1];exact (aC.refl _ _).alloc _
  have hbR:aL w1 Rb 89 #[.int .i64 0,.slice none 0 0]:=by rw[hw1,hRb];exact aL.new _ _ _
  rw[<-hw1,<-hRb]
  have HT1:=aB hT1
  have HBR:=aB hbR
  have HRB:Hid (w.heap.size<=Rb):=aB (by omega)
  clear hw1 hRb hT1 hbR
  go_loopw [4,16] (λav iv wr=>∃ (i:Nat) (A3:Option Addr) (c3:Nat) (V:List RV),av=.slice A3 i c3/\iv=.int .i64 i/\i<=sn/\Hid (eB 158 2 w1 wr (.slice A3 i c3) i (fH V))/\Hid (V.length=i/\V.map RV.p=aT (sL.take i)/\∀ r∈V,r.Ok wr/\0<=r.wt/\r.wt<=1048576)/\Hid (∀ k,k<i->Hf sL k=true)) (λ_ iv _=>sn-(intOf iv).toNat)
  case atStart=>exact⟨0,none,0,[],rfl,rfl,qZa _,aB (eB.nil _ _ _),aB ⟨rfl,rfl,λr hr=>(by cases hr)⟩,aB (λk hk=>absurd hk (Nat.not_lt_zero _))⟩
  case round =>
   obtain⟨i,A3,c3,V,rfl,rfl,hi,HO,HV,HF⟩:=hrel
   have hTr:aC (λ_=>False) w wr:=HT1.then HO.touch
   by_cases hin:i<sn
   ·obtain⟨g,o,hA,hg,a0,a1⟩:=iC (HRD.touch hTr (λ_ _ f=>f)) HSL.symm i hin
    subst hA
    obtain⟨⟨xw,xn⟩,hx⟩:∃ x,x=sL.getD i aE.zero:=⟨_,rfl⟩
    have hxm:(⟨xw,xn⟩:aE)∈sL:=by rw[hx];exact pH _ _ (by rw[HSL.out];exact hin)
    have hsz:=HWZ.out _ hxm
    have htk:=Iq sL i (by rw[HSL.out];exact hin)
    have hfp:=rU sL i
    have her:=Vc sL i
    rw[<-hx] at a0 a1 htk hfp her
    simp only at a0 a1 hsz htk hfp her
    have HER:=aB her
    clear her
    obtain⟨w2,hw2⟩:=eX (wr.alloc (.cells #[.string xw,.int .i64 xn] 125))
    have hT2:aC (λ_=>False) wr w2:=by rw[hw2];exact (aC.refl _ _).alloc _
    have hbP:aL w2 wr.heap.size 125 #[.string xw,.int .i64 xn]:=by rw[hw2];exact aL.new _ _ _
    have hL2:=dN.touch HL (hTr.then hT2)
    have HRU:=aB (uB w2 xw hsz hL2)
    have y0:(i:Int)<(sn:Int):=by omega
    have y1:(0:Int)<=(i:Int):=by omega
    have y2:IntKind.i64.wrap ((i:Int)+1)=(i:Int)+1:=qJa _ (by omega)
    have HTR:=aB hTr
    have HT2:=aB hT2
    have HBP:=aB hbP
    have HL2:=aB hL2
    have HW2:=aB hw2
    have HSZ:=aB hsz
    have HTK:=aB htk
    have HFP:=aB hfp
    have HIN:=aB hin
    have HX:=aB hx
    have HG:=aB hg
    clear hTr hxm hsz htk hfp hT2 hbP hL2 hw2 hin hi hx hg
    go_wp2_with fail
    rw[<-HW2.out]
    refine HRU.mono ?_
    rintro e w3 ⟨qA,q,qc,O,ok,rfl,hon,hOl,hqs,hru⟩
    have hbP3:=HBP.touch hon.touch (λf=>f)
    obtain⟨p0,p1,p2⟩:=hbP3.facts
    have HWD:=aB (oX w3 xw (by have:=HSZ.out;omega) (dN.touch HL2 hon.touch))
    have HON:=aB hon
    have HOL:=aB hOl
    have HRU2:=aB hru
    have HBP3:=aB hbP3
    clear hon hOl hqs hru hbP3 HRU
    go_wp2_with fail
    refine HWD.mono ?_
    rintro e w4 ⟨rfl,T4⟩
    have HT4:=aB T4
    have HBP4:=aB (HBP3.touch T4 (λf=>f))
    clear T4 p0 p1 p2 HWD
    obtain⟨p0,p1,p2⟩:=HBP4.facts
    have HT14:=aB (HO.touch.then (HT2.then (HON.touch.then HT4)))
    obtain⟨r0,r1,r2⟩:=(HBR.touch HT14 (λf=>f)).facts
    have hTw:∀ W',aC (λg=>g=Rb) w4 W'->aC (λ_=>False) w W':=λW' T=>(HT1.then HT14).trans T (λg hg e=>by have:=HRB.out;omega)
    have HTW:=aB hTw
    clear hTw
    by_cases hwu:cD xw.toList=true
    ·rw[hwu]
     by_cases hwt:1<=xn/\xn<=1048576
     ·have n1:¬ xn<1:=by omega
      have n2:¬ (1048576:Int)<xn:=by omega
      obtain⟨O',hO',hfit,hlen0,hlen⟩:=lG hwu
      have hok:ok=true/\O=O':=by
       have h1:=HRU2.out
       rw[hO'] at h1
       cases ok with
       | true=>exact⟨rfl,(Option.some.inj (by simpa using h1)).symm⟩
       | false=>simp at h1
      obtain⟨rfl,rfl⟩:=hok
      have HO2:=aB hO'
      have HWT:=aB hwt
      have HWU:=aB hwu
      clear hO' hfit hlen0 hlen hwt hwu
      obtain⟨bd,hbd⟩:=eX ((decide (i=0) || Op.bytesLess (sL.getD (i-1) aE.zero).word.toList xw.toList))
      have HBD:=aB hbd
      clear hbd
      go_upto_region 12 with fail
      go_cut [43] from 17 to 66 (λsv wx=>sv=.bool (!bd)/\Hid (aC (λ_=>False) w4 wx))
      case first =>
       by_cases hi0:i=0
       ·have hb1:bd=true:=by rw[HBD.out];simp[hi0]
        have y3:decide (0<i)=false:=by simp[hi0]
        have y3':decide ((0:Int)<(i:Int))=false:=by simp[hi0]
        have HB1:=aB hb1
        clear hb1 hi0
        refine wp_region_quiet_lit (by kernel_rfl) (by kernel_rfl) ?_
        quiet_step (fail)
        quiet_step (fail)
        quiet_step (fail)
        rw[dU]
        go_simp
        rw[dU]
        go_simp
        rw[dU]
        go_simp
        rw[dU]
        go_simp
        rw[dU]
        go_simp
        rw[dU]
        go_simp
        rw[dU]
        go_simp
        rw[dU]
        go_simp
        rw[dU]
        go_simp
        rw[dU]
        go_simp
        quiet_step (fail)
        quiet_step (fail)
        refine wpQuiet_nil ?_
        intro nq
        go_wp2_with fail
        go_meet
        exact⟨by rw[HB1.out];rfl,aB ((aC.refl _ _).drewN _)⟩
       ·obtain⟨k,hk⟩:∃ k,i=k+1:=⟨i-1,by omega⟩
        obtain⟨g',o',hA,_,c0,_⟩:=iC (HRD.touch (HTW w4 (aC.refl _ _)) (λ_ _ f=>f)) HSL.symm k (by have:=HIN.out;omega)
        injection hA with hA
        injection hA with hA1 hA2
        subst hA1 hA2
        obtain⟨⟨yw,yn⟩,hy⟩:∃ y,y=sL.getD k aE.zero:=⟨_,rfl⟩
        have hb1:bd=Op.bytesLess yw.toList xw.toList:=by
         rw[HBD.out,show i-1=k by omega,<-hy]
         simp[hi0]
        rw[<-hy] at c0
        simp only at c0
        have y3:decide (0<i)=true:=decide_eq_true (by omega)
        have y3':decide ((0:Int)<(i:Int))=true:=decide_eq_true (by omega)
        have y4:(k:Int)<(sn:Int):=by have:=HIN.out;omega
        have y5:(0:Int)<=(k:Int):=by omega
        have y6:IntKind.i64.wrap ((i:Int)-1)=(k:Int):=by rw[show (i:Int)-1=(k:Int) by omega];exact qJa _ (by omega)
        have HB1:=aB hb1
        clear hi0 hy hb1 hk
        go_quiet ((go_at_call 82;exact Calls.quiet_of_same (aAt _ _ bd HB1.symm _)))
        go_wp2_with fail
        go_meet
        exact⟨rfl,aB ((aC.refl _ _).drewN _)⟩
      case rest =>
       obtain⟨rfl,HT5⟩:=hcut
       obtain⟨f0,f1,f2⟩:=(HBR.touch (HT14.then HT5) (λf=>f)).facts
       by_cases hb:bd=true
       ·subst hb
        obtain⟨t0,t1,t2⟩:=(HBP4.touch HT5 (λf=>f)).facts
        obtain⟨wa,hwa⟩:=eX (wc.alloc (.cells #[.slice qA q qc,.int .i64 xn] 158))
        have hT3c:aC (λ_=>False) w3 wa:=by rw[hwa];exact (HT4.then HT5).alloc _
        have hTra:aC (λ_=>False) wr wa:=HT2.then (HON.touch.then hT3c)
        have hrd:aI wa 2 (some ⟨wc.heap.size,0,none⟩) 1 [.slice qA q qc,.int .i64 xn]:=by
         rw[hwa]
         have h:=aI.new (size:=2) wc 158 [.slice qA q qc,.int .i64 xn] 1 rfl
         simpa using h
        have hiI:i<=4096:=by have:=HIN.out;have:=HSN.out;omega
        have hbb1:i+1<=maxLen:=by unfold maxLen;omega
        have hbb2:(i+1)*32<=140737488355328:=by omega
        have HOA:=aB (HO.to hTra)
        have HWA:=aB hwa
        have HRDA:=aB hrd
        have HBB:=aB (And.intro hbb1 hbb2)
        have HT3C:=aB hT3c
        have HTRA:=aB hTra
        clear hwa hT3c hTra hrd hiI hbb1 hbb2 p0 p1 p2 r0 r1 r2
        go_wp2_with (at_builtin;rw[<-HWA.out];refine aR _ rfl (.tmp 59) (.tmp 64) 153 rfl 158 i0 _ 2 32 Tryz.underlying153 hi0 hz0 hz1 hz2 rfl (by decide) (.slice A3 i c3) i _ rfl HOA.own (some ⟨wc.heap.size,0,none⟩) 1 1 [.slice qA q qc,.int .i64 xn] rfl HRDA (λh=>by cases h) (iL _ _ _ _) HBB.1 HBB.2 ?_;intro v1 w10 O10 G10 F10 _;obtain⟨A7,c7,hv,_,_⟩:=aX O10;subst hv;have HX10:=aB (HOA.app O10 G10 F10);have HG10:=aB G10;clear O10 G10 F10)
        go_roundw
        case rel =>
         have hS:∀ g,bE wa g 21 -> ¬ (Value.slice A3 i c3).ownBlock=some g:=λg hg e=>(aH HOA.own e).ne hg (by decide) rfl
         have hT10:aC (λg=>(Value.slice A3 i c3).ownBlock=some g) wa w10:=(aC.refl _ _).grown HG10 (λk e _=>e)
         refine⟨i+1,A7,c7,V++[⟨qA,q,qc,O,xn⟩],rfl,by simp,by have:=HIN.out;omega,aB ?_,aB ⟨?_,?_,?_⟩,aB ?_⟩
         ·rw[kU]
          exact HX10
         ·rw[qXc,HV.1];rfl
         ·rw[qJc,HV.2.1,HTK.out]
          simp only[qJb,List.map_nil,RV.p]
          rw[Yu (p:=⟨xw,xn⟩) HO2.out]
         ·intro r hr
          rcases List.mem_append.1 hr with h | h
          ·exact⟨((HV.2.2 r h).1.touch HTRA (λ_ _ f=>f)).touch hT10 hS,(HV.2.2 r h).2⟩
          ·rw[List.mem_singleton.1 h]
           have hos:=cT HON.own
           have hok:(⟨qA,q,qc,O,xn⟩:RV).Ok w3:=⟨HOL,fM.of_own HON.own,hos.1,hos.2⟩
           refine⟨(hok.touch HT3C (λ_ _ f=>f)).touch hT10 hS,?_⟩
           have:=HWT.out
           simp only
           omega
         ·intro k hk
          by_cases h:k<i
          ·exact HF k h
          ·obtain rfl:k=i:=by omega
           rw[HFP.out,HWU.out,<-HBD.out]
           have:=HWT.out
           simp[this.1,this.2]
        case measure =>
         have:=HIN.out
         simp only[intOf]
         omega
       ·have hbf:bd=false:=by simpa using hb
        subst hbf
        have HR:Hid (eK sL=false):=aB (pK (i:=i) (by rw[HSL.out];exact HIN) (by rw[HFP.out,<-HBD.out];simp))
        have HE:Hid (Av sL=73):=aB ((Es (i:=i) (by rw[HSL.out];exact HSN) (by rw[HSL.out];exact HIN) HF (by rw[HFP.out,<-HBD.out];simp)).trans (aFu HER HWU (by have:=HWT.out;simp[this.1,this.2])))
        clear p0 p1 p2 r0 r1 r2
        go_wp2_with fail
        refine bodyPost_ret (v:=.tuple #[.agg #[.int .i64 0,.slice none 0 0],.int .i64 73]) (by simp[results,Tryz.results38,go_sem,f0]) rfl (.inl ⟨HR,73,⟨by decide,HE.symm⟩,rfl,HTW _ ?_⟩)
        exact ((HT5.up (λg=>g=Rb)).setCell (p:=⟨Rb,0,none⟩) (λ_=>rfl) _).setCell (p:=⟨Rb,1,none⟩) (λ_=>rfl) _
     ·have HR:Hid (eK sL=false):=aB (pK (i:=i) (by rw[HSL.out];exact HIN) (by
       rw[HFP.out]
       have:(decide (1<=xn) && decide (xn<=1048576))=false:=by
        rw[Bool.and_eq_false_iff,decide_eq_false_iff_not,decide_eq_false_iff_not]
        omega
       rw[this,Bool.false_and]))
      have HE:Hid (Av sL=72):=aB (by
       have h72:(decide (1<=xn) && decide (xn<=1048576))=false:=by
        rw[Bool.and_eq_false_iff,decide_eq_false_iff_not,decide_eq_false_iff_not]
        omega
       exact (Es (i:=i) (by rw[HSL.out];exact HSN) (by rw[HSL.out];exact HIN) HF (by rw[HFP.out,h72,Bool.false_and])).trans (aFt HER (by first | exact hwu | exact HWU) h72))
      by_cases hx1:xn<1
      ·clear hwu hwt
       go_wp2_with fail
       refine bodyPost_ret (v:=.tuple #[.agg #[.int .i64 0,.slice none 0 0],.int .i64 72]) (by simp[results,Tryz.results38,go_sem,r0]) rfl (.inl ⟨HR,72,⟨by decide,HE.symm⟩,rfl,HTW _ ?_⟩)
       exact ((aC.refl (λg=>g=Rb) w4).setCell (p:=⟨Rb,0,none⟩) (λ_=>rfl) _).setCell (p:=⟨Rb,1,none⟩) (λ_=>rfl) _
      ·have hx2:(1048576:Int)<xn:=by omega
       clear hwu hwt
       go_wp2_with fail
       refine bodyPost_ret (v:=.tuple #[.agg #[.int .i64 0,.slice none 0 0],.int .i64 72]) (by simp[results,Tryz.results38,go_sem,r0]) rfl (.inl ⟨HR,72,⟨by decide,HE.symm⟩,rfl,HTW _ ?_⟩)
       exact ((aC.refl (λg=>g=Rb) w4).setCell (p:=⟨Rb,0,none⟩) (λ_=>rfl) _).setCell (p:=⟨Rb,1,none⟩) (λ_=>rfl) _
    ·have hwf:cD xw.toList=false:=by simpa using hwu
     rw[hwf]
     have HR:Hid (eK sL=false):=aB (pK (i:=i) (by rw[HSL.out];exact HIN) (by rw[HFP.out,hwf];simp))
     have HE:Hid (Av sL=71):=aB ((Es (i:=i) (by rw[HSL.out];exact HSN) (by rw[HSL.out];exact HIN) HF (by rw[HFP.out,hwf];simp)).trans (aFs HER hwf))
     clear hwu hwf
     go_wp2_with fail
     refine bodyPost_ret (v:=.tuple #[.agg #[.int .i64 0,.slice none 0 0],.int .i64 71]) (by simp[results,Tryz.results38,go_sem,r0]) rfl (.inl ⟨HR,71,⟨by decide,HE.symm⟩,rfl,HTW _ ?_⟩)
     exact ((aC.refl (λg=>g=Rb) w4).setCell (p:=⟨Rb,0,none⟩) (λ_=>rfl) _).setCell (p:=⟨Rb,1,none⟩) (λ_=>rfl) _
   ·have hie:i=sn:=by omega
    have hall:eK sL=true:=nN (by rw[HSL.out];exact HSN) (λj hj=>HF.out j (by rw[HSL.out] at hj;omega))
    have htk:sL.take i=sL:=qQe (by rw[HSL.out];omega)
    have hvp:=HV.2.1
    rw[htk] at hvp
    have hD:=jG hall
    obtain⟨f0,f1,f2⟩:=(HBR.touch HO.touch (λf=>f)).facts
    have y0:¬ (i:Int)<(sn:Int):=by omega
    have HALL:=aB hall
    have HVP:=aB hvp
    have HD:=aB hD
    have HIE:=aB hie
    have HTR:=aB hTr
    clear hie hall htk hvp hD hin hi
    by_cases h0:i=0
    ·subst h0
     have hle:sL=[]:=List.eq_nil_of_length_eq_zero (by rw[HSL.out];exact HIE.symm)
     subst hle
     clear HTR hTr
     go_wp2_with fail
     exact bodyPost_ret (v:=.tuple #[.agg #[.int .i64 0,.slice none 0 0],.int .i64 0]) (by simp[results,Tryz.results38,go_sem,f0]) rfl (.inr ⟨HALL,none,0,0,rfl,[],⟨⟨aI.nil _ _ _,λh=>absurd h (by omega)⟩,rfl,λz hz=>(by cases hz)⟩,rfl,Nat.le_refl _,(HT1.then HO.touch).trans (((aC.refl (λg=>g=Rb) wr).setCell (p:=⟨Rb,0,none⟩) (λ_=>rfl) _).setCell (p:=⟨Rb,1,none⟩) (λ_=>rfl) _) (λg hg e=>by have:=HRB.out;omega)⟩)
    ·have hne:sL≠[]:=by
      intro e
      have:=HSL.out
      rw[e] at this
      have:=HIE.out
      simp at *
      omega
     obtain⟨wA,hwA⟩:=eX (wr.alloc (.map #[] 0))
     obtain⟨wB,hwB⟩:=eX (wA.alloc (.map #[] 0))
     obtain⟨m1,hm1⟩:=eX wr.heap.size
     obtain⟨m2,hm2⟩:=eX wA.heap.size
     obtain⟨wC,hwC⟩:=eX (wB.alloc (.cells #[.slice none 0 0,.map (some m1),.map (some m2)] 163))
     obtain⟨Bb,hBb⟩:=eX wB.heap.size
     have hmm1:(Instr.makeMap 160 none).run Tryz.prog wr=.ok (.map (some m1)) wA:=by rw[hwA,hm1];exact run_makeMap _ _
     have hmm2:(Instr.makeMap 161 none).run Tryz.prog wA=.ok (.map (some m2)) wB:=by rw[hwB,hm2];exact run_makeMap _ _
     have hTA:aC (λ_=>False) wr wA:=by rw[hwA];exact (aC.refl _ _).alloc _
     have hTB:aC (λ_=>False) wA wB:=by rw[hwB];exact (aC.refl _ _).alloc _
     have hTC:aC (λ_=>False) wB wC:=by rw[hwC];exact (aC.refl _ _).alloc _
     have hTrC:aC (λ_=>False) wr wC:=hTA.then (hTB.then hTC)
     have hbld:Ge wC Bb none 0 0 [] m1 m2 [] []:=by
      refine⟨by rw[hwC,hBb];exact aL.new _ _ _,World.ownsRow_nil _ _ _ _,rfl,λz hz=>(by cases hz),?_,?_,?_,⟨rfl,λj s k h1 _=>by simp at h1⟩⟩
      ·have h:oY wA m1 281 []:=by rw[hwA,hm1];exact oY.new _ _
       exact h.quiet (hTB.then hTC)
      ·have h:oY wB m2 3 []:=by rw[hwB,hm2];exact oY.new _ _
       exact h.quiet hTC
      ·rw[hm1,hm2,hwA]
       simp
     have hos:=cT HO.own
     have hlok:(⟨A3,i,c3,V⟩:FL).Ok wC:=⟨HV.1,(fM.of_own HO.own).quiet hTrC,λr hr=>(HV.2.2 r hr).1.touch hTrC (λ_ _ f=>f),hos.1⟩
     have hvp:(⟨A3,i,c3,V⟩:FL).p=aT sL:=HVP.out
     have htot:=Al HD
     have hst:=Og 25 wC Bb none 0 0 [] m1 m2 [] [] ⟨A3,i,c3,V⟩ hbld hlok (λr hr=>(HV.2.2 r hr).2) (by
      rw[hvp]
      intro r hr c hc
      exact cU ((yM HD).run r hr c hc).1) (by rw[hvp];exact HD.sort) (by simp only;omega) (by simp only;have:=HIE.out;have:=HSN.out;omega) (by rw[hvp];exact mP HD) (by rw[hvp];simp only[qXd];omega) (by rw[hvp];omega)
     rw[hvp] at hst
     simp only[FL.val,List.map_nil] at hst
     have hmn:=Wj hne
     have hlb:∀ wx,(⟨A3,i,c3,V⟩:FL).Ok wx->Calls Tryz.prog 84 #[.slice A3 i c3] wx λe w'=>e=.returned (.int .i64 (aW (aT sL)))/\aC (λ_=>False) wx w':=by
      intro wx h
      have:=qN wx ⟨A3,i,c3,V⟩ h (by simp only;omega) (by simp only;have:=HIE.out;have:=HSN.out;unfold maxLen;omega)
      rw[hvp] at this
      exact this
     have hTwC:aC (λ_=>False) w wC:=hTr.then hTrC
     have hbRC:=HBR.touch (HO.touch.then hTrC) (λf=>f)
     have y3:¬ ((i:Int)=0):=by omega
     have y4:((i:Int) == 0)=false:=by simp[h0]
     have hRb1:Rb≠m1:=by
      have:=HBR.lt
      have:=HO.touch.size
      omega
     have hRb2:Rb≠m2:=by
      have:=HBR.lt
      have:=HO.touch.size
      have:=hTA.size
      omega
     have hRbB:Rb≠Bb:=by
      have:=HBR.lt
      have:=HO.touch.size
      have:=hTA.size
      have:=hTB.size
      omega
     have hSB:∀ g,g<wr.heap.size->¬ SB Bb m1 m2 (.slice none 0 0) g:=by
      have:=hTA.size
      have:=hTB.size
      rintro g hg (e | e | e | e)
      ·omega
      ·omega
      ·omega
      ·cases e
     have HST:=aB hst
     have HLBB:=aB hlb
     have HMN:=aB hmn
     have HLOK:=aB hlok
     have HTWC:=aB hTwC
     have HBRC:=aB hbRC
     have HWC:=aB hwC
     have HTRC:=aB hTrC
     have HSBN:=aB hSB
     have HBB:=aB hBb
     have HFR:Hid (∀ g,bE wC g 21 \/ bE wC g 158 \/ bE wC g 89 -> ¬ SB Bb m1 m2 (.slice none 0 0) g):=aB (by
      rintro g (h | h | h)
      ·exact hbld.noS (by decide) (by decide) g h
      ·exact hbld.noS (by decide) (by decide) g h
      ·exact hbld.noS (by decide) (by decide) g h)
     have HNE:=aB hne
     clear hwA hwB hm1 hm2 hTA hTB hTC hTrC hbld hos hlok hvp htot hst hmn hlb hTwC hbRC hwC hSB hBb hne hTr HTR
     go_wp2_with fail
     rw[<-HWC.out,<-HBB.out]
     refine HST.mono ?_
     rintro e w5 ⟨i2,sA',sn',sc',Z',Lk',Bk',rfl,hbld,hpl,_,hsn',_,hfr,_,T5⟩
     have hlok5:=HLOK.touch T5 (λg hg=>HFR.out g (.inl hg)) (λg hg=>HFR.out g (.inr (.inl hg)))
     have hbR5:=HBRC.touch T5 (HFR Rb (.inr (.inr (aF HBRC))))
     have hT5:aC (λ_=>False) w w5:=(HTWC).trans T5 (λg hg e=>by
      refine HSBN g ?_ e
      have h1:=HT1.size
      have h2:=HO.touch.size
      omega)
     obtain⟨d0,d1,d2⟩:=hbld.blk.facts
     clear f0 f1 f2
     obtain⟨f0,f1,f2⟩:=hbR5.facts
     have HLO5:=aB hlok5
     have HB5:=aB hbld
     have HBR5:=aB hbR5
     have HT5:=aB hT5
     have HPL:=aB hpl
     clear hlok5 hbld hbR5 hT5 hpl hsn' hfr T5 HST
     go_wp2_with fail
     obtain⟨lw,hlw⟩:=eX (aW (aT sL))
     have HL6:=aB (HLBB w5.drew (HLO5.quiet (aC.refl _ _).drew))
     rw[<-hlw] at HL6
     have HLW:=aB hlw
     clear hlw
     go_region_law (go_simp;go_at_call 84;refine HL6.mono ?_;rintro e w6 ⟨rfl,T6⟩;have hT56:aC (λ_=>False) w5 w6:=((aC.refl _ w5).drew).then T6;obtain⟨e0,e1,e2⟩:=(HB5.blk.touch hT56 (λf=>f)).facts;obtain⟨g0,g1,g2⟩:=(HBR5.touch hT56 (λf=>f)).facts;have HT56:=aB hT56;clear T6 hT56)
     all_goals go_wp2_with fail
     all_goals
      have hbF:aL ((w6.setCell ⟨Rb,0,none⟩ (.int .i64 lw)).setCell ⟨Rb,1,none⟩ (.slice sA' sn' sc')) Rb 89 #[.int .i64 lw,.slice sA' sn' sc']:=by
       have:=((HBR5.touch HT56 (λf=>f)).set_ 0 (.int .i64 lw)).set_ 1 (.slice sA' sn' sc')
       simpa using this
      have hTF:aC (λg=>g=Rb) w5 ((w6.setCell ⟨Rb,0,none⟩ (.int .i64 lw)).setCell ⟨Rb,1,none⟩ (.slice sA' sn' sc')):=((HT56.up (λg=>g=Rb)).setCell (p:=⟨Rb,0,none⟩) (λ_=>rfl) _).setCell (p:=⟨Rb,1,none⟩) (λ_=>rfl) _
      obtain⟨k0,k1,k2⟩:=hbF.facts
      have hos:=cT HB5.own
      have hsts:eC w5 sA' sn' Z':=⟨fM.of_own HB5.own,HB5.len,HB5.el⟩
      refine bodyPost_ret (v:=.tuple #[.agg #[.int .i64 lw,.slice sA' sn' sc'],.int .i64 0]) (by simp[results,Tryz.results38,go_sem,k0]) rfl (.inr ⟨HALL,sA',sn',sc',Z',?_,⟨hsts.rd.touch hTF (λg hg e=>hg.ne (aF HBR5) (by decide) e),hsts.len,λz hz=>(hsts.el z hz).touch hTF (λg hg e=>hg.ne (aF HBR5) (by decide) e)⟩,?_,hos.1,HT5.trans hTF (λg hg e=>by have:=HRB.out;omega)⟩)
      ·rw[HMN.out,HLW.out]
      ·rw[HMN.out]
       have h1:=Ly 25 ⟨[],[]⟩ (aT sL) rY HD.sort (oP HNE) (mP HD)
       rw[h1] at HPL
       exact congrArg Prod.fst HPL
def xC(i prev:Nat)(a:Nat × Int × Nat):List UInt8:=dA (a.1-prev)++dA a.2.1.toNat++dA (i-a.2.2)
def eG(i:Nat):Nat->List (Nat × Int × Nat)->List UInt8
 | _,[]=>[]
 | p,a :: l=>xC i p a++eG i a.1 l
def mR(s:bP):List UInt8:=if s.fin=true then dA (2*s.arcs.length+1)++dA s.out.toNat else dA (2*s.arcs.length)
def Mz(i:Nat)(s:bP):List UInt8:=mR s++eG i 0 s.arcs
def lF:Nat->List bP->List UInt8
 | _,[]=>[]
 | i,s :: l=>Mz i s++lF (i+1) l
def uJ(base:Int)(n:Nat):List UInt8:=dA base.toNat++dA n
def eU(base:Int)(sts:List bP):List UInt8:=uJ base sts.length++lF 0 sts
def kP(p:Nat)(l:List (Nat × Int × Nat)):Nat:=(l.getLast?.map (·.1)).getD p
theorem nE(i:Nat)(a:Nat × Int × Nat):∀ (l:List (Nat × Int × Nat)) (p:Nat),eG i p (l++[a])=eG i p l++xC i (kP p l) a
 | [],p=>by simp[eG,kP]
 | [b],p=>by simp[eG,kP]
 | b :: d :: l,p=>by
  have h:=nE i a (d :: l) b.1
  have e:kP p (b :: d :: l)=kP b.1 (d :: l):=by
   obtain⟨x,hx⟩:∃ x,(d :: l).getLast? = some x:=⟨_,List.getLast?_eq_some_getLast (by simp)⟩
   unfold kP
   rw[List.getLast?_cons_cons,hx]
   rfl
  simp only[qZc,eG] at h ⊢
  rw[h,e,qQa,qQa,qQa]
theorem pO(s:bP):∀ (l:List bP) (k:Nat),lF k (l++[s])=lF k l++Mz (k+l.length) s
 | [],k=>by simp[lF]
 | t :: l,k=>by
  have h:=pO s l (k+1)
  simp only[qZc,lF]
  rw[h,qQa,qXa,show k+1+l.length=k+(l.length+1) by omega]
def mU(t:TypeId):Prop:=t ≠ 5
theorem vF{w0 wx:World}{q:Nat}{xs:List UInt8}(h:Hid (eB 5 1 w0 wx (.slice A q c) q (xs.map aP))){z:Int}(hz:Hid (z=(n:Int)/\n<9223372036854775808))(hq:q<=35184372088832) :
  Calls Tryz.prog 111 #[.slice A q c,.int .i64 z] wx λe w'=>∃ (A':Option Addr) (q' c':Nat),e=.returned (.slice A' q' c')/\Hid (eB 5 1 w0 w' (.slice A' q' c') q' ((xs++dA n).map aP))/\q'<=q+10/\gO mU wx w':=by
 obtain⟨rfl,hn⟩:=hz.out
 refine (Wx w0 wx A q c _ h.out n hn hq).mono ?_
 rintro e w' ⟨A',q',c',rfl,h2,hq2,T⟩
 exact⟨A',q',c',rfl,aB (by rw[qJc];exact h2),hq2,gO.touch T (λg t ht hg e=>(aH h.out.own e).ne hg (λe=>ht e.symm) rfl)⟩
theorem Vy{wd:World}{M:Nat}{t:TypeId}{a b:Value}(ht:mU t)(h:aL wd M t #[a,b])(k:gO mU wd w'):w'.cell? ⟨M,0,none⟩=some a/\w'.cell? ⟨M,1,none⟩=some b/\gO mU wd w' :=
 ⟨(h.kpp k ht).cell 0,(h.kpp k ht).cell 1,k⟩
theorem Co{wd:World}{M:Nat}{t:TypeId}{a b c:Value}(ht:mU t)(h:aL wd M t #[a,b,c])(k:gO mU wd w'):w'.cell? ⟨M,0,none⟩=some a/\w'.cell? ⟨M,1,none⟩=some b/\w'.cell? ⟨M,2,none⟩=some c/\gO mU wd w' :=
 ⟨(h.kpp k ht).cell 0,(h.kpp k ht).cell 1,(h.kpp k ht).cell 2,k⟩
theorem aAs{q:Nat}(h:q<=0+10):q<=35184372088832:=by omega
theorem xB{a b c:Prop}(h:a/\b/\c):c:=h.2.2
theorem nD{a b c d:Prop}(h:a/\b/\c/\d):d:=h.2.2.2
theorem Wu(w:World)(hL:dN w)(bn:Nat)(A:Option Addr)(n c:Nat)(Z:List SV)(hst:eC w A n Z)(hR:jZ (Z.map SV.p) (bn:Int))(hbn:bn<=1048576)(hn:n<=98305)(hf:∀ i,i<n->dQ i (Z.getD i cE).p) :
  Calls Tryz.prog 47 #[.agg #[.int .i64 bn,.slice A n c]] w λe w'=>∃ (A':Option Addr) (q c':Nat),e=.returned (.tuple #[.slice A' q c',.int .i64 0])/\eB 5 1 w w' (.slice A' q c') q ((eU bn (Z.map SV.p)).map aP):=by
 obtain⟨w1,hw1⟩:=eX (w.alloc (.cells #[.int .i64 bn,.slice A n c] 89))
 have hT1:aC (λ_=>False) w w1:=by rw[hw1];exact (aC.refl _ _).alloc _
 have hbM:aL w1 w.heap.size 89 #[.int .i64 bn,.slice A n c]:=by rw[hw1];exact aL.new _ _ _
 have hri:=Dg w1 (dN.touch hL hT1) bn A n c Z (hst.quiet hT1) hR
 have HRI:=aB hri
 have HW1:=aB hw1
 have HT1:=aB hT1
 have HBM:=aB hbM
 have HST:=aB hst
 have HF:=aB hf
 have HBN:=aB hbn
 have HN:=aB hn
 obtain⟨m0,m1,m2⟩:=hbM.facts
 rw[hw1] at m0 m1 m2
 clear hst hR hf hw1 hT1 hbM hri hL hbn hn
 go_in
 go_wp2_with fail
 rw[<-HW1.out]
 refine HRI.mono ?_
 rintro e w2 ⟨rfl,T2⟩
 have hbM2:=HBM.touch T2 (λf=>f)
 clear m0 m1 m2
 obtain⟨m0,m1,m2⟩:=hbM2.facts
 have HX0:Hid (eB 5 1 w w2.drew (.slice none 0 0) 0 (([]:List UInt8).map aP)):=aB ((eB.nil _ _ _).to ((HT1.then T2).drew))
 have HBM2:=aB hbM2
 have HT2:=aB (HT1.then T2)
 have HZ1:Hid ((bn:Int)=(bn:Int)/\bn<9223372036854775808):=aB ⟨rfl,by have:=HBN.out;omega⟩
 have HZ2:Hid ((n:Int)=(n:Int)/\n<9223372036854775808):=aB ⟨rfl,by have:=HN.out;omega⟩
 have HNBM:Hid (mU 89):=aB (by unfold mU;decide)
 have HP1:=aB (vF HX0 HZ1 (qZa _))
 have HP2:Hid (∀ (A5:Option Addr) (q5 c5:Nat) (wx:World),Hid (eB 5 1 w wx (.slice A5 q5 c5) q5 (([]++dA bn).map aP))->q5<=0+10->Calls Tryz.prog 111 #[.slice A5 q5 c5,.int .i64 n] wx λe w'=>∃ (A':Option Addr) (q' c':Nat),e=.returned (.slice A' q' c')/\Hid (eB 5 1 w w' (.slice A' q' c') q' ((([]++dA bn)++dA n).map aP))/\q'<=q5+10/\gO mU wx w'):=aB (λA5 q5 c5 wx h hq=>vF h HZ2 (aAs hq))
 clear T2 hbM2 HRI
 go_wp2_with fail
 go_region_held3 (λw'=>w'.cell? ⟨w.heap.size,0,none⟩=some (.int .i64 bn)/\w'.cell? ⟨w.heap.size,1,none⟩=some (.slice A n c)/\gO mU w2 w')
  (first
    | exact Vy HNBM HBM2 (gO.refl _ _)
    | exact Vy HNBM HBM2 (gO.of (aC.refl _ _).drew)
    | (refine Vy HNBM HBM2 (gO.trans ?_ (by assumption));first | assumption | exact xB (by assumption) | exact gO.of (aC.refl _ _).drew | exact gO.refl _ _))
  (first
    | (go_at_call 111;refine (HP2 _ _ _ _ HX5 hq5).mono ?_;rintro e wy ⟨A6,q6,c6,rfl,HX6,hq6,k6⟩)
    | (go_at_call 111;refine HP1.mono ?_;rintro e wx ⟨A5,q5,c5,rfl,HX5,hq5,k5⟩))
 have hk2y:gO mU w2 wy:=xB (by assumption)
 have hxy:eB 5 1 w wy (.slice A6 q6 c6) q6 ((uJ bn n).map aP):=by
  have h:=HX6.out
  simpa [uJ] using h
 have hq6b:q6<=40:=by omega
 have HK2:=aB hk2y
 have HXY:=aB hxy
 have HQ6:=aB hq6b
 clear m0 m1 m2
 obtain⟨m0,m1,m2⟩:=(HBM2.kpp hk2y HNBM).facts
 clear hk2y hxy hq6b hq5 hq6 k5 k6 HX5 HX6 HP1 HP2 HZ1 HZ2 HX0
 have hcl:∀ (wr:World),gO mU w2 wr->(fM wr 170 3 A n (dY Z))/\∀ z∈Z,fM wr 173 3 z.A z.n (dI z.arcs):=λwr hk =>
  ⟨(HST.quiet HT2).rd.kpp hk (by unfold mU;decide),λz hz=>((HST.quiet HT2).el z hz).rd.kpp hk (by unfold mU;decide)⟩
 have HCL:=aB hcl
 clear hcl
 go_wp2_with fail
 go_loopw [4,24] (λbv iv wr=>∃ (A3:Option Addr) (q c3 i:Nat),bv=.slice A3 q c3/\iv=.int .i64 i/\i<=n/\Hid (eB 5 1 w wr (.slice A3 q c3) q ((uJ bn n++lF 0 ((Z.map SV.p).take i)).map aP))/\Hid (q<=40+i*62914600)/\Hid (gO mU w2 wr)) (λ_ iv _=>n-(intOf iv).toNat)
 case atStart=>exact⟨A6,q6,c6,0,rfl,rfl,qZa _,aB (by rw[List.take_zero];simpa [lF] using HXY.out),aB (by have:=HQ6.out;omega),HK2⟩
 case round =>
  clear m0 m1 m2
  obtain⟨A3,q,c3,i,rfl,rfl,hi,HX,HQ,HK⟩:=hrel
  by_cases hin:i<n
  ·obtain⟨hrs,hra⟩:=HCL.out wr HK
   have hzl:Z.length=n:=HST.len
   obtain⟨g,o,hA,hg,d0,d1,d2⟩:=lE hrs.rd hzl i hin
   subst hA
   have hzm:=aZ Z cE i (by rw[hzl];exact hin)
   have hfm:=HF.out i hin
   have hzo:=HST.el _ hzm
   have htk:(Z.map SV.p).take (i+1)=(Z.map SV.p).take i++[(Z.getD i cE).p]:=by
    rw[List.take_succ_eq_append_getElem (by rw[qZb,hzl];exact hin)]
    simp[List.getD,show i<Z.length by rw[hzl];exact hin]
   obtain⟨z,hz⟩:∃ z,Z.getD i cE=z:=⟨_,rfl⟩
   rw[hz] at d0 d1 d2 hzm hfm hzo htk
   obtain⟨fin,out,zA,zn,zc,arcs⟩:=z
   simp only at d0 d1 d2
   have hzal:=hzo.len
   have hzle:=hzo.le
   simp only at hzal hzle
   obtain⟨on,hon⟩:∃ on:Nat,out=(on:Int):=⟨out.toNat,by have:=hfm.out0;simp only[SV.p] at this;omega⟩
   subst hon
   have honb:on<=1048576:=by have:=hfm.out1;simp only[SV.p] at this;omega
   have hfew:=kL hfm
   simp only[SV.p] at hfew
   have hznI:(zn:Int)<=2097152:=by omega
   have htl:((Z.map SV.p).take i).length=i:=by rw[List.length_take,qZb,hzl];omega
   obtain⟨w3,hw3⟩:=eX (wr.alloc (.cells #[.bool fin,.int .i64 on,.slice zA zn zc] 170))
   have hT3:aC (λ_=>False) wr w3:=by rw[hw3];exact (aC.refl _ _).alloc _
   have hbS:aL w3 wr.heap.size 170 #[.bool fin,.int .i64 on,.slice zA zn zc]:=by rw[hw3];exact aL.new _ _ _
   have y0:(i:Int)<(n:Int):=by omega
   have y1:(0:Int)<=(i:Int):=by omega
   have y2:IntKind.i64.wrap ((i:Int)+1)=(i:Int)+1:=qJa _ (by have:=HN.out;omega)
   have y3:IntKind.i64.wrap (2*(zn:Int))=2*(zn:Int):=qJa _ (by omega)
   have y4:IntKind.i64.wrap (2*(zn:Int)+1)=2*(zn:Int)+1:=qJa _ (by omega)
   obtain⟨s0,s1,s2⟩:=hbS.facts
   have hxw3:=HX.to hT3
   have hq45:q<=35184372088832-1000:=by have h1:=HQ.out;have h2:=HN.out;omega
   obtain⟨xs,hxs⟩:=eX (uJ bn n++lF 0 ((Z.map SV.p).take i))
   rw[<-hxs] at hxw3
   have hx3d:Hid (eB 5 1 w w3.drew (.slice A3 q c3) q (xs.map aP)):=aB (hxw3.to (aC.refl _ _).drew)
   have HX3:=aB hxw3
   have HNBS:Hid (mU 170):=aB (by unfold mU;decide)
   have HNBA:Hid (mU 173):=aB (by unfold mU;decide)
   have HBS:=aB hbS
   have HW3:=aB hw3
   have HT3:=aB hT3
   have HFM:=aB hfm
   have HTK:=aB htk
   have HZAL:=aB hzal
   have HZM:=aB hzm
   have HXS:=aB hxs
   have HQ45:=aB hq45
   have HTL:=aB htl
   have HIN:=aB hin
   have HZN:=aB hfew
   have hzn1:Hid (2*(zn:Int)+1=((2*zn+1:Nat):Int)/\2*zn+1<9223372036854775808):=aB ⟨by omega,by omega⟩
   have hzn2:Hid (2*(zn:Int)=((2*zn:Nat):Int)/\2*zn<9223372036854775808):=aB ⟨by omega,by omega⟩
   have hzn3:Hid ((on:Int)=(on:Int)/\on<9223372036854775808):=aB ⟨rfl,by omega⟩
   have HP1:=aB (vF hx3d hzn1 (by omega))
   have HP2:=aB (vF (aB hxw3) hzn2 (by omega))
   have HP3:Hid (∀ (A5:Option Addr) (q5 c5:Nat) (wx:World),Hid (eB 5 1 w wx (.slice A5 q5 c5) q5 ((xs++dA (2*zn+1)).map aP))->q5<=q+10->Calls Tryz.prog 111 #[.slice A5 q5 c5,.int .i64 on] wx λe w'=>∃ (A':Option Addr) (q' c':Nat),e=.returned (.slice A' q' c')/\Hid (eB 5 1 w w' (.slice A' q' c') q' (((xs++dA (2*zn+1))++dA on).map aP))/\q'<=q5+10/\gO mU wx w'):=aB (λA5 q5 c5 wx h hq=>vF h hzn3 (by have:=HQ45.out;omega))
   clear hxs hx3d hxw3 hbS hw3 hT3 hfm htk hzal hzm hq45 htl hin hfew hzn1 hzn2 hzn3 hrs hra hzl hg hz hzo hzle honb
   have d0':=d0
   go_upto_if 34 with fail
   rw[<-HW3.out]
   clear d0 d1 d2 d0'
   go_cut [4] from 35 to 44 (λbv wx=>∃ (A7:Option Addr) (q7 c7:Nat),bv=.slice A7 q7 c7/\Hid (eB 5 1 w wx (.slice A7 q7 c7) q7 ((xs++mR ⟨fin,(on:Int),arcs⟩).map aP))/\q7<=q+20/\Hid (gO mU w3 wx))
   case first =>
    cases fin with
    | true =>
     go_wp2_with fail
     go_region_held3 (λw'=>w'.cell? ⟨wr.heap.size,0,none⟩=some (.bool true)/\w'.cell? ⟨wr.heap.size,1,none⟩=some (.int .i64 on)/\w'.cell? ⟨wr.heap.size,2,none⟩=some (.slice zA zn zc)/\gO mU w3 w')
      (first
     | exact Co HNBS HBS (gO.refl _ _)
     | exact Co HNBS HBS (gO.of (aC.refl _ _).drew)
     | (refine Co HNBS HBS (gO.trans ?_ (by assumption));first | assumption | exact nD (by assumption) | exact gO.of (aC.refl _ _).drew | exact gO.refl _ _))
      (first
        | (go_at_call 111;refine (HP3 _ _ _ _ HX5 hq5).mono ?_;rintro e wy ⟨A6,q6,c6,rfl,HX6,hq6,k6⟩)
        | (go_at_call 111;refine HP1.mono ?_;rintro e wx ⟨A5,q5,c5,rfl,HX5,hq5,k5⟩))
     have hk:gO mU w3 wy:=nD (by assumption)
     have HK7:=aB hk
     clear hk
     go_wp2_with fail
     go_meet
     exact⟨A6,q6,c6,rfl,aB (by
      have h:=HX6.out
      have hz:=HZAL.out
      simp only[mR,if_true]
      rw[hz,qQc,<-qQa]
      exact h),by omega,HK7⟩
    | false =>
     go_wp2_with fail
     refine HP2.mono ?_
     rintro e wx ⟨A5,q5,c5,rfl,HX5,hq5,k5⟩
     have HK7:=aB k5
     clear k5
     go_wp2_with fail
     go_meet
     exact⟨A5,q5,c5,rfl,aB (by
      have h:=HX5.out
      have hz:=HZAL.out
      simp only[mR]
      rw[hz]
      simpa using h),by omega,HK7⟩
   case rest =>
    obtain⟨A7,q7,c7,rfl,HX7,hq7,HK7⟩:=hcut
    obtain⟨s0,s1,s2⟩:=(HBS.kpp HK7 HNBS).facts
    obtain⟨xs2,hxs2⟩:=eX (xs++mR ⟨fin,(on:Int),arcs⟩)
    rw[<-hxs2] at HX7
    have HXS2:=aB hxs2
    clear hxs2 HP1 HP2 HP3
    go_wp2_with fail
    obtain⟨wo,hwo⟩:=eX wr
    subst hwo
    go_loopw [4,8,48] (λbv lv jv wx=>∃ (A8:Option Addr) (q8 c8 j lab:Nat),bv=.slice A8 q8 c8/\lv=.int .i32 (lab:Int)/\jv=.int .i64 j/\j<=zn/\Hid (lab=kP 0 (arcs.take j))/\Hid (eB 5 1 w wx (.slice A8 q8 c8) q8 ((xs2++eG i 0 (arcs.take j)).map aP))/\Hid (q8<=q+20+j*30)/\Hid (gO mU w3 wx)) (λ_ _ jv _=>zn-(intOf jv).toNat)
    case atStart=>exact⟨A7,q7,c7,0,0,rfl,rfl,rfl,qZa _,aB rfl,aB (by rw[List.take_zero];simpa [eG] using HX7.out),aB (by omega),HK7⟩
    case round =>
     clear s0 s1 s2
     obtain⟨A8,q8,c8,j,lab,rfl,rfl,rfl,hj,HLA,HX8,HQ8,HK8⟩:=hrel
     by_cases hjn:j<zn
     ·have hra:=(((HCL wo HK).2 _ HZM).quiet HT3).kpp HK8 HNBA
      obtain⟨g2,o2,hA2,_,e0,e1,e2⟩:=fT hra.rd HZAL j hjn
      simp only at hA2 e0 e1 e2
      subst hA2
      have ham:=aZ arcs (0,0,0) j (by rw[HZAL.out];exact hjn)
      have htj:arcs.take (j+1)=arcs.take j++[arcs.getD j (0,0,0)]:=bI arcs (0,0,0) j (by rw[HZAL.out];exact hjn)
      have hlt:∀ x∈arcs.take j,x.1<(arcs.getD j (0,0,0)).1:=by
       intro x hx
       have h1:=HFM.lab
       simp only[SV.p] at h1
       have h2:=h1.sublist ((List.take_sublist (j+1) arcs).map _)
       rw[htj,qJc,List.pairwise_append] at h2
       exact h2.2.2 _ (List.mem_map_of_mem hx) _ (List.mem_singleton.2 rfl)
      have har:=HFM.arc _ ham
      have hrn:=(HFM.run _ ham).1
      obtain⟨⟨la,ua,tt⟩,hz⟩:∃ z,arcs.getD j (0,0,0)=z:=⟨_,rfl⟩
      rw[hz] at e0 e1 e2 htj hlt har hrn
      simp only at e0 e1 e2 hlt har hrn
      have hlab:lab<=la:=by
       rw[HLA.out]
       unfold kP
       cases hg:(arcs.take j).getLast? with
       | none=>simp
       | some x=>exact Nat.le_of_lt (hlt x (List.mem_of_getLast? hg))
      have hla:la<1114112:=cU hrn
      obtain⟨un,hun⟩:∃ un:Nat,ua=(un:Int):=⟨ua.toNat,by omega⟩
      subst hun
      obtain⟨w5,hw5⟩:=eX (wr.alloc (.cells #[.int .i32 la,.int .i64 un,.int .i64 tt] 173))
      have hT5:aC (λ_=>False) wr w5:=by rw[hw5];exact (aC.refl _ _).alloc _
      have hbA:aL w5 wr.heap.size 173 #[.int .i32 la,.int .i64 un,.int .i64 tt]:=by rw[hw5];exact aL.new _ _ _
      obtain⟨p0,p1,p2⟩:=hbA.facts
      have y5:(j:Int)<(zn:Int):=by omega
      have y6:(0:Int)<=(j:Int):=by omega
      have y7:IntKind.i64.wrap ((j:Int)+1)=(j:Int)+1:=qJa _ (by have:=HZN.out;omega)
      have y8:IntKind.i32.wrap ((la:Int)-(lab:Int))=(la:Int)-(lab:Int):=IntWalk.i32_in _ (by omega)
      have y9:IntKind.i64.wrap ((la:Int)-(lab:Int))=(la:Int)-(lab:Int):=qJa _ (by omega)
      have y10:IntKind.i64.wrap ((i:Int)-(tt:Int))=(i:Int)-(tt:Int):=qJa _ (by have:=HN.out;have:=HIN.out;omega)
      obtain⟨ys,hys⟩:=eX (xs2++eG i 0 (arcs.take j))
      have hx5:Hid (eB 5 1 w w5.drew (.slice A8 q8 c8) q8 (ys.map aP)):=aB (by rw[hys];exact (HX8.to hT5).to (aC.refl _ _).drew)
      have hn1:Hid ((la:Int)-(lab:Int)=((la-lab:Nat):Int)/\la-lab<9223372036854775808):=aB ⟨by omega,by omega⟩
      have hn2:Hid ((un:Int)=(un:Int)/\un<9223372036854775808):=aB ⟨rfl,by omega⟩
      have hn3:Hid ((i:Int)-(tt:Int)=((i-tt:Nat):Int)/\i-tt<9223372036854775808):=aB ⟨by omega,by have:=HN.out;have:=HIN.out;omega⟩
      have hq8:q8<=35184372088832-100:=by
       have h1:=HQ.out
       have h2:=HN.out
       have h3:=HQ8.out
       have h4:=HZN.out
       have h5:=HIN.out
       omega
      have HQ88:=aB hq8
      have HP1:=aB (vF hx5 hn1 (by omega))
      have HP2:Hid (∀ (A5:Option Addr) (q5 c5:Nat) (wx:World),Hid (eB 5 1 w wx (.slice A5 q5 c5) q5 ((ys++dA (la-lab)).map aP))->q5<=q8+10->Calls Tryz.prog 111 #[.slice A5 q5 c5,.int .i64 un] wx λe w'=>∃ (A':Option Addr) (q' c':Nat),e=.returned (.slice A' q' c')/\Hid (eB 5 1 w w' (.slice A' q' c') q' (((ys++dA (la-lab))++dA un).map aP))/\q'<=q5+10/\gO mU wx w'):=aB (λA5 q5 c5 wx h hq=>vF h hn2 (by have:=HQ88.out;omega))
      have HP3:Hid (∀ (A5:Option Addr) (q5 c5 q4:Nat) (wx:World),Hid (eB 5 1 w wx (.slice A5 q5 c5) q5 (((ys++dA (la-lab))++dA un).map aP))->q4<=q8+10->q5<=q4+10->Calls Tryz.prog 111 #[.slice A5 q5 c5,.int .i64 ((i:Int)-(tt:Int))] wx λe w'=>∃ (A':Option Addr) (q' c':Nat),e=.returned (.slice A' q' c')/\Hid (eB 5 1 w w' (.slice A' q' c') q' ((((ys++dA (la-lab))++dA un)++dA (i-tt)).map aP))/\q'<=q5+10/\gO mU wx w'):=aB (λA5 q5 c5 q4 wx h hq4 hq=>vF h hn3 (by have:=HQ88.out;omega))
      have HBA:=aB hbA
      have HW5:=aB hw5
      have HT5:=aB hT5
      have HYS:=aB hys
      have HTJ:=aB htj
      have HJN:=aB hjn
      clear hra ham hlt har hrn hz hlab hla hw5 hT5 hbA hys hx5 hn1 hn2 hn3 hq8 htj hjn hj
      go_upto_region 15 with fail
      rw[<-HW5.out]
      go_region_held3 (λw'=>w'.cell? ⟨wr.heap.size,0,none⟩=some (.int .i32 la)/\w'.cell? ⟨wr.heap.size,1,none⟩=some (.int .i64 un)/\w'.cell? ⟨wr.heap.size,2,none⟩=some (.int .i64 tt)/\gO mU w5 w')
       (first
       | exact Co HNBA HBA (gO.refl _ _)
       | exact Co HNBA HBA (gO.of (aC.refl _ _).drew)
       | (refine Co HNBA HBA (gO.trans ?_ (by assumption));first | assumption | exact nD (by assumption) | exact gO.of (aC.refl _ _).drew | exact gO.refl _ _))
       (first
         | (go_at_call 111;refine (HP3 _ _ _ _ _ HXB hqa hqb).mono ?_;rintro e wz ⟨Ac,qc,cc,rfl,HXC,hqc,kc⟩)
         | (go_at_call 111;refine (HP2 _ _ _ _ HXA hqa).mono ?_;rintro e wy ⟨Ab,qb,cb,rfl,HXB,hqb,kb⟩)
         | (go_at_call 111;refine HP1.mono ?_;rintro e wx ⟨Aa,qa,ca,rfl,HXA,hqa,ka⟩))
      have hk:gO mU w5 wz:=nD (by assumption)
      have HKZ:=aB hk
      obtain⟨t0,t1,t2⟩:=(HBA.kpp hk HNBA).facts
      clear hk
      go_wp2_with fail
      go_roundw
      case rel =>
       refine⟨Ac,qc,cc,j+1,la,rfl,rfl,by simp,by have:=HJN.out;omega,aB (by rw[HTJ.out];simp[kP]),aB ?_,aB (by have:=HQ8.out;omega),aB (HK8.trans ((gO.of HT5).trans HKZ))⟩
       have h:=HXC.out
       rw[HYS.out] at h
       rw[HTJ.out,nE,<-HLA.out]
       simp only[xC,qQc]
       simpa only[qQa] using h
      case measure =>
       have:=HJN.out
       simp only[intOf]
       omega
     ·have hje:j=zn:=by omega
      have hat:arcs.take j=arcs:=qQe (by rw[HZAL.out];omega)
      rw[hat] at HX8
      have y5:¬ (j:Int)<(zn:Int):=by omega
      have HJE:=aB hje
      clear hje hat hjn hj
      go_wp2_with fail
      go_roundw
      case rel =>
       refine⟨A8,q8,c8,i+1,rfl,by simp,by have:=HIN.out;omega,aB ?_,aB ?_,aB (HK.trans ((gO.of HT3).trans HK8))⟩
       ·have h:=HX8.out
        rw[HXS2.out,HXS.out] at h
        rw[HTK.out,pO,HTL.out,qQd]
        simp only[Mz,SV.p]
        simpa only[qQa] using h
       ·have h1:=HQ8.out
        have h2:=HQ.out
        have h3:=HZN.out
        have h4:=HJE.out
        omega
      case measure =>
       have:=HIN.out
       simp only[intOf]
       omega
  ·have hie:i=n:=by omega
   have hat:(Z.map SV.p).take i=Z.map SV.p:=qQe (by rw[qZb,HST.len];omega)
   rw[hat] at HX
   have y0:¬ (i:Int)<(n:Int):=by omega
   have HZL:Hid ((Z.map SV.p).length=n):=aB (by rw[qZb];exact HST.len)
   clear hie hat hin hi
   go_wp2_with fail
   refine bodyPost_ret (v:=.tuple #[.slice A3 q c3,.int .i64 0]) (by simp[results,Tryz.results47,go_sem]) rfl ⟨A3,q,c3,rfl,?_⟩
   unfold eU
   rw[HZL.out]
   exact HX
def sI:Nat->Nat->List UInt8->Option (Nat × List UInt8)
 | _,_,[]=>none
 | i,acc,c :: t=>if i=9/\1<c.toNat then none else if 128<=c.toNat then sI (i+1) (acc+(c.toNat-128)*128 ^ i) t else if c.toNat=0/\0<i then none else some (acc+c.toNat*128 ^ i,t)
def pV(bs:List UInt8):Option (Nat × List UInt8):=sI 0 0 bs
theorem Kg{m:Nat}(h:m<256):(UInt8.ofNat m).toNat=m:=by rw[UInt8.toNat_ofNat',Nat.mod_eq_of_lt h]
theorem Cw:∀ (f i acc n:Nat) (t:List UInt8),f+i=9->n*128 ^ i<18446744073709551616->(0<i->0<n)->sI i acc (jO f n++t)=some (acc+n*128 ^ i,t)
 | 0,i,acc,n,t,hi,hn,hp=>by
  have hi':i=9:=by omega
  subst hi'
  have h1:n<=1:=by
   have e:(128:Nat) ^ 9=9223372036854775808:=by decide
   rw[e] at hn
   omega
  have h2:=hp (by omega)
  have h3:n=1:=by omega
  subst h3
  simp[jO,sI]
 | f+1,i,acc,n,t,hi,hn,hp=>by
  unfold jO
  by_cases hlt:n<128
  ·rw[if_pos hlt]
   simp only[qZc,List.nil_append,sI]
   rw[Kg (by omega),if_neg (by omega),if_neg (by omega),if_neg (by omega)]
  ·rw[if_neg hlt]
   simp only[qZc,sI]
   rw[Kg (by omega),if_neg (by omega),if_pos (by omega)]
   have h0:n % 128+128*(n / 128)=n:=Nat.mod_add_div n 128
   have e:n / 128*128 ^ (i+1)+n % 128*128 ^ i=n*128 ^ i:=by
    rw[qXb,qQb (128 ^ i) 128,<-qXe,<-Nat.add_mul]
    congr 1
    omega
   rw[Cw f (i+1) _ (n / 128) t (by omega) (by omega) (by omega)]
   rw[Nat.add_sub_cancel,<-e,Nat.add_comm (n / 128*128 ^ (i+1)),Nat.add_assoc]
theorem Mg(hn:n<18446744073709551616)(t:List UInt8):pV (dA n++t)=some (n,t):=by
 have h:=Cw 9 0 0 n t rfl (by omega) (by omega)
 simpa [pV,dA] using h
theorem Id:∀ (bs:List UInt8) (i acc m:Nat) (t:List UInt8),i<=9->sI i acc bs=some (m,t)->∃ n,m=acc+n*128 ^ i/\bs=jO (9-i) n++t/\n*128 ^ i<18446744073709551616/\(0<i->0<n)
 | [],_,_,_,_,_,h=>by simp[sI] at h
 | c :: bs,i,acc,m,t,hi,h=>by
  have hc:=c.toNat_lt
  have he:c=UInt8.ofNat c.toNat:=by simp
  simp only[sI] at h
  by_cases h9:i=9/\1<c.toNat
  ·rw[if_pos h9] at h
   cases h
  ·rw[if_neg h9] at h
   by_cases hb:128<=c.toNat
   ·rw[if_pos hb] at h
    obtain⟨n,h1,h2,h3,h4⟩:=Id bs (i+1) _ m t (by omega) h
    have hn:=h4 (by omega)
    have e:(c.toNat-128+128*n)*128 ^ i=(c.toNat-128)*128 ^ i+n*128 ^ (i+1):=by
     rw[qXb,qQb (128 ^ i) 128,<-qXe,<-Nat.add_mul,qQb 128 n]
    refine⟨c.toNat-128+128*n,by omega,?_,?_,by omega⟩
    ·obtain⟨f,hf⟩:∃ f,9-i=f+1:=⟨8-i,by omega⟩
     rw[hf,h2,show 9-(i+1)=f by omega]
     conv=>rhs;unfold jO
     rw[if_neg (by omega),show (c.toNat-128+128*n) % 128+128=c.toNat by omega,show (c.toNat-128+128*n) / 128=n by omega,<-he]
     rfl
    ·have hp:128 ^ (i+1)<=n*128 ^ (i+1):=Nat.le_mul_of_pos_left _ hn
     have h5:(c.toNat-128)*128 ^ i<128*128 ^ i:=qJe (by omega) (Nat.pow_pos (by decide))
     have hi8:i<=8:=by omega
     have e2:128*128 ^ i=128 ^ (i+1):=by rw[qXb,qQb]
     obtain⟨k,hk⟩:∃ k,18446744073709551616=k*128 ^ (i+1):=by
      refine⟨2*128 ^ (8-i),?_⟩
      rw[qXe,<-Nat.pow_add,show 8-i+(i+1)=9 by omega]
     rw[hk] at h3 ⊢
     have h6:n<k:=Nat.lt_of_mul_lt_mul_right h3
     have h7:(n+1)*128 ^ (i+1)<=k*128 ^ (i+1):=Nat.mul_le_mul_right _ h6
     rw[Nat.add_mul] at h7
     omega
   ·rw[if_neg hb] at h
    by_cases hz:c.toNat=0/\0<i
    ·rw[if_pos hz] at h
     cases h
    ·rw[if_neg hz] at h
     simp only[Option.some.injEq,Prod.mk.injEq] at h
     obtain⟨h1,rfl⟩:=h
     refine⟨c.toNat,h1.symm,?_,?_,by omega⟩
     ·by_cases h9':i=9
      ·subst h9'
       simp[jO]
      ·obtain⟨f,hf⟩:∃ f,9-i=f+1:=⟨8-i,by omega⟩
       rw[hf]
       unfold jO
       rw[if_pos (by omega),<-he]
       rfl
     ·by_cases h9':i=9
      ·subst h9'
       have h1:c.toNat<=1:=by omega
       have e:(128:Nat) ^ 9=9223372036854775808:=by decide
       rw[e]
       omega
      ·have h1:c.toNat*128 ^ i<128*128 ^ i:=qJe (by omega) (Nat.pow_pos (by decide))
       have h2:128*128 ^ i=128 ^ (i+1):=by rw[qXb,qQb]
       have h3:128 ^ (i+1)<=128 ^ 9:=qQf (by decide) (by omega)
       have e:(128:Nat) ^ 9=9223372036854775808:=by decide
       omega
theorem Cv(h:pV bs=some (n,t)):bs=dA n++t/\n<18446744073709551616:=by
 obtain⟨m,h1,h2,h3,_⟩:=Id bs 0 0 n t (by omega) h
 have e:m=n:=by omega
 subst e
 exact⟨h2,by omega⟩
theorem Kj(n:Nat):0<(dA n).length:=by
 unfold dA jO
 split<;>simp
def bU(most:Nat)(bs:List UInt8):Option (Nat × List UInt8):=match pV bs with
 | none=>none
 | some (n,t)=>if n<=most then some (n,t) else none
theorem cC{most:Nat}(h:n<=most)(hm:n<18446744073709551616)(t:List UInt8):bU most (dA n++t)=some (n,t):=by
 unfold bU
 rw[Mg hm]
 simp only
 rw[if_pos h]
theorem bN{most:Nat}(h:bU most bs=some (n,t)):bs=dA n++t/\n<=most:=by
 unfold bU at h
 split at h
 ·cases h
 ·rename_i m u hm
  split at h
  ·simp only[Option.some.injEq,Prod.mk.injEq] at h
   obtain⟨rfl,rfl⟩:=h
   exact⟨(Cv hm).1,by assumption⟩
  ·cases h
theorem Uo{a b:Nat × Int × Nat}(h:fN a=fN b):a=b:=by
 obtain⟨a1,a2,a3⟩:=a
 obtain⟨b1,b2,b3⟩:=b
 simp only[fN,Prod.mk.injEq] at h ⊢
 omega
theorem bP.z_inj{s t:bP}(h:s.z=t.z):s=t:=by
 obtain⟨a,b,c⟩:=s
 obtain⟨a',b',c'⟩:=t
 simp only[bP.z,iS.mk.injEq] at h
 obtain⟨rfl,rfl,h⟩:=h
 rw[nK (λ_ _=>Uo) h]
def dV(i:Nat):Nat->Int->List UInt8->Option (List (Int × Int × Int) × List UInt8)
 | 0,_,bs=>some ([],bs)
 | k+1,l,bs=>match bU 1114111 bs with
  | none=>none
  | some (d,t1)=>match bU 1048576 t1 with
   | none=>none
   | some (o,t2)=>match bU 98305 t2 with
    | none=>none
    | some (b,t3)=>match dV i k (IntKind.i32.wrap (l+d)) t3 with
     | none=>none
     | some (ars,t4)=>some ((IntKind.i32.wrap (l+d),(o:Int),(i:Int)-(b:Int)) :: ars,t4)
def iU(fin:Bool)(bs:List UInt8):Option (Nat × List UInt8):=if fin=true then bU 1048576 bs else some (0,bs)
def zZ(i:Nat)(bs:List UInt8):Option (iS × List UInt8):=match bU (2*bs.length+1) bs with
 | none=>none
 | some (n,t1)=>match iU (decide (n % 2=1)) t1 with
  | none=>none
  | some (o,t2)=>match dV i (n / 2) 0 t2 with
   | none=>none
   | some (ars,t3)=>some (⟨decide (n % 2=1),(o:Int),ars⟩,t3)
def jU:Nat->Nat->List UInt8->Option (List iS × List UInt8)
 | 0,_,bs=>some ([],bs)
 | k+1,i,bs=>match zZ i bs with
  | none=>none
  | some (s,t1)=>match jU k (i+1) t1 with
   | none=>none
   | some (l,t2)=>some (s :: l,t2)
def nQ(bs:List UInt8):Option ((Nat × List iS) × List UInt8):=match bU 1048576 bs with
 | none=>none
 | some (base,t1)=>match bU 98305 t1 with
  | none=>none
  | some (n,t2)=>match jU n 0 t2 with
   | none=>none
   | some (l,t3)=>some ((base,l),t3)
theorem Eg{x:Int}(h0:0<=x)(h1:x<2147483648):IntKind.i32.wrap x=x:=IntWalk.i32_in _ (by omega)
theorem xH(i:Nat)(hi:i<=98305):∀ (l:List (Nat × Int × Nat)) (p:Nat) (t:List UInt8),(∀ a∈l,p<=a.1)->(l.map (·.1)).Pairwise (·<·)->(∀ a∈l,a.1<1114112/\0<=a.2.1/\a.2.1<=1048576/\a.2.2<i) ->
  dV i l.length p (eG i p l++t)=some (l.map fN,t)
 | [],p,t,_,_,_=>rfl
 | a :: l,p,t,hp,hs,hb=>by
  obtain⟨h1,h2,h3,h4⟩:=hb a qJd
  have h5:=hp a qJd
  rw[qJb,List.pairwise_cons] at hs
  have ih:=xH i hi l a.1 t (λb hb'=>Nat.le_of_lt (hs.1 _ (List.mem_map_of_mem hb'))) hs.2 (λb hb'=>hb b (List.mem_cons_of_mem _ hb'))
  simp only[eG,xC,qXa,dV,qQa]
  rw[cC (by omega) (by omega)]
  simp only
  rw[cC (by omega) (by omega)]
  simp only
  rw[cC (by omega) (by omega)]
  simp only
  have e:IntKind.i32.wrap ((p:Int)+((a.1-p:Nat):Int))=(a.1:Int):=by rw[Eg (by omega) (by omega)];omega
  rw[e,ih]
  simp only[qJb,fN]
  rw[show ((a.2.1.toNat:Nat):Int)=a.2.1 by omega,show (i:Int)-((i-a.2.2:Nat):Int)=(a.2.2:Int) by omega]
theorem tC(i:Nat):∀ (l:List (Nat × Int × Nat)) (p:Nat),l.length<=(eG i p l).length
 | [],_=>qZa _
 | a :: l,p=>by
  have h1:=tC i l a.1
  have h2:=Kj (a.1-p)
  simp only[eG,xC,qXc,qXa]
  omega
theorem Yd(i:Nat)(hi:i<=98305){s:bP}(hf:dQ i s)(hlen:s.arcs.length<=2097152)(t:List UInt8):zZ i (Mz i s++t)=some (s.z,t):=by
 have ha:=xH i hi s.arcs 0 t (λ_ _=>qZa _) hf.lab (λa h=>by
  have h1:=(hf.run a h).1
  have h2:=hf.arc a h
  refine⟨?_,h2⟩
  unfold dS at h1
  simp at h1
  omega)
 have hl:=tC i s.arcs 0
 have ho0:=hf.out0
 have ho1:=hf.out1
 unfold zZ Mz mR
 by_cases hfin:s.fin=true
 ·rw[if_pos hfin]
  simp only[qQa]
  rw[cC (by simp only[qXc];omega) (by omega)]
  simp only[iU]
  rw[if_pos (by simp),cC (by omega) (by omega)]
  simp only
  rw[show (2*s.arcs.length+1) / 2=s.arcs.length by omega]
  have ha':dV i s.arcs.length 0 (eG i 0 s.arcs++t)=some (s.arcs.map fN,t):=ha
  rw[ha']
  simp only[bP.z,hfin]
  rw[show decide ((2*s.arcs.length+1) % 2=1)=true by simp,show ((s.out.toNat:Nat):Int)=s.out by omega]
 ·have hff:s.fin=false:=by simpa using hfin
  rw[if_neg hfin]
  simp only[qQa]
  rw[cC (by simp only[qXc];omega) (by omega)]
  simp only[iU]
  rw[if_neg (by simp)]
  simp only
  rw[show (2*s.arcs.length) / 2=s.arcs.length by omega]
  have ha':dV i s.arcs.length 0 (eG i 0 s.arcs++t)=some (s.arcs.map fN,t):=ha
  rw[ha']
  simp only[bP.z,hff]
  rw[show decide ((2*s.arcs.length) % 2=1)=false by simp,hf.fin0 hff]
  rfl
theorem Dv:∀ (l:List bP) (i:Nat) (t:List UInt8),i+l.length<=98305->(∀ j,j<l.length->dQ (i+j) (l.getD j aS))->jU l.length i (lF i l++t)=some (l.map bP.z,t)
 | [],_,_,_,_=>rfl
 | s :: l,i,t,hi,hf=>by
  have h0:=hf 0 (by simp)
  simp only[Nat.add_zero,List.getD_cons_zero] at h0
  have hl:(s :: l).length=l.length+1:=rfl
  rw[hl] at hi
  have ih:=Dv l (i+1) t (by omega) (λj hj=>by
   have h:=hf (j+1) (by rw[hl];omega)
   rw[List.getD_cons_succ,show i+(j+1)=i+1+j by omega] at h
   exact h)
  simp only[lF,qXa,jU,qQa]
  rw[Yd i (by omega) h0 (kL h0)]
  simp only
  rw[ih]
  rfl
theorem qQ{sts:List bP}{base:Nat}(hb:base<=1048576)(hn:sts.length<=98305)(hf:∀ i,i<sts.length->dQ i (sts.getD i aS))(t:List UInt8):nQ (eU base sts++t)=some ((base,sts.map bP.z),t):=by
 unfold nQ eU uJ
 simp only[qQa,qQc]
 rw[cC hb (by omega)]
 simp only
 rw[cC hn (by omega)]
 simp only
 rw[Dv sts 0 t (by omega) (λj hj=>by rw[qQd];exact hf j hj)]
theorem Bw(i:Nat):∀ (l:List (Nat × Int × Nat)) (p:Nat) (bs t:List UInt8),dV i l.length p bs=some (l.map fN,t)->(∀ a∈l,a.1<1114112/\a.2.2<i)->p<1114112->bs=eG i p l++t
 | [],p,bs,t,h,_,_=>by
  simp only[qXd,dV,Option.some.injEq,Prod.mk.injEq] at h
  exact h.2
 | a :: l,p,bs,t,h,hb,hp=>by
  obtain⟨ha1,ha2⟩:=hb a qJd
  simp only[qXa,dV] at h
  split at h
  ·cases h
  ·rename_i d t1 e1
   split at h
   ·cases h
   ·rename_i o t2 e2
    split at h
    ·cases h
    ·rename_i b t3 e3
     split at h
     ·cases h
     ·rename_i ars t4 e4
      simp only[Option.some.injEq,Prod.mk.injEq,qJb,List.cons.injEq,fN] at h
      obtain⟨⟨⟨h1,h2,h3⟩,h4⟩,h5⟩:=h
      subst h5
      obtain⟨r1,b1⟩:=bN e1
      obtain⟨r2,b2⟩:=bN e2
      obtain⟨r3,b3⟩:=bN e3
      have hw:IntKind.i32.wrap ((p:Int)+(d:Int))=(p:Int)+(d:Int):=Eg (by omega) (by omega)
      rw[hw] at h1 e4
      rw[h4,h1] at e4
      have ih:=Bw i l a.1 t3 t4 e4 (λc hc=>hb c (List.mem_cons_of_mem _ hc)) ha1
      rw[r1,r2,r3,ih]
      simp only[eG,xC,qQa]
      rw[show a.1-p=d by omega,show a.2.1.toNat=o by omega,show i-a.2.2=b by omega]
theorem Bu(i:Nat):∀ (k:Nat) (l:Int) (bs:List UInt8) (ars:List (Int × Int × Int)) (t:List UInt8),dV i k l bs=some (ars,t)->ars.length=k
 | 0,_,_,ars,_,h=>by
  simp only[dV,Option.some.injEq,Prod.mk.injEq] at h
  rw[<-h.1]
  rfl
 | k+1,l,bs,ars,t,h=>by
  simp only[dV] at h
  split at h
  ·cases h
  ·split at h
   ·cases h
   ·split at h
    ·cases h
    ·split at h
     ·cases h
     ·rename_i ars' t4 e4
      simp only[Option.some.injEq,Prod.mk.injEq] at h
      rw[<-h.1,qXa,Bu i k _ _ _ _ e4]
theorem aBz(i:Nat){s:bP}(hf:dQ i s)(h:zZ i bs=some (s.z,t)):bs=Mz i s++t:=by
 unfold zZ at h
 split at h
 ·cases h
 ·rename_i n t1 e1
  split at h
  ·cases h
  ·rename_i o t2 e2
   split at h
   ·cases h
   ·rename_i ars t3 e3
    simp only[Option.some.injEq,Prod.mk.injEq,bP.z,iS.mk.injEq] at h
    obtain⟨⟨h1,h2,h3⟩,rfl⟩:=h
    subst h3
    have hl:=Bu _ _ _ _ _ _ e3
    rw[qZb] at hl
    rw[<-hl] at e3
    have r3:=Bw i s.arcs 0 t2 t3 e3 (λa ha=>by
     have h1:=(hf.run a ha).1
     have h2:=hf.arc a ha
     unfold dS at h1
     simp at h1
     omega) (by omega)
    obtain⟨r1,_⟩:=bN e1
    unfold Mz mR
    by_cases hn:n % 2=1
    ·have hd:decide (n % 2=1)=true:=by simp[hn]
     rw[hd] at h1 e2
     simp only[iU,if_pos] at e2
     obtain⟨r2,_⟩:=bN e2
     rw[if_pos h1.symm,r1,r2,r3,show 2*s.arcs.length+1=n by omega,show s.out.toNat=o by omega]
     simp only[qQa]
    ·have hd:decide (n % 2=1)=false:=by simp;omega
     rw[hd] at h1 e2
     simp only[iU,Bool.false_eq_true,if_false,Option.some.injEq,Prod.mk.injEq] at e2
     rw[if_neg (by rw[<-h1];simp),r1,e2.2,r3,show 2*s.arcs.length=n by omega]
     simp only[qQa]
theorem Ka:∀ (l:List bP) (i:Nat) (bs t:List UInt8),(∀ j,j<l.length->dQ (i+j) (l.getD j aS))->jU l.length i bs=some (l.map bP.z,t)->bs=lF i l++t
 | [],_,_,_,_,h=>by
  simp only[qXd,jU,Option.some.injEq,Prod.mk.injEq] at h
  exact h.2
 | s :: l,i,bs,t,hf,h=>by
  have h0:=hf 0 (by simp)
  simp only[Nat.add_zero,List.getD_cons_zero] at h0
  simp only[qXa,jU] at h
  split at h
  ·cases h
  ·rename_i z t1 e1
   split at h
   ·cases h
   ·rename_i zs t2 e2
    simp only[Option.some.injEq,Prod.mk.injEq,qJb,List.cons.injEq] at h
    obtain⟨⟨h1,h2⟩,rfl⟩:=h
    rw[h1] at e1
    rw[h2] at e2
    rw[aBz i h0 e1,Ka l (i+1) t1 t2 (λj hj=>by
     have h:=hf (j+1) (by simp only[qXa];omega)
     rw[List.getD_cons_succ,show i+(j+1)=i+1+j by omega] at h
     exact h) e2]
    simp only[lF,qQa]
theorem Jz:∀ (k i:Nat) (bs:List UInt8) (l:List iS) (t:List UInt8),jU k i bs=some (l,t)->l.length=k
 | 0,_,_,l,_,h=>by
  simp only[jU,Option.some.injEq,Prod.mk.injEq] at h
  rw[<-h.1]
  rfl
 | k+1,i,bs,l,t,h=>by
  simp only[jU] at h
  split at h
  ·cases h
  ·split at h
   ·cases h
   ·rename_i zs t2 e2
    simp only[Option.some.injEq,Prod.mk.injEq] at h
    rw[<-h.1,qXa,Jz k _ _ _ _ e2]
theorem Rj{sts:List bP}{base:Nat}(hf:∀ i,i<sts.length->dQ i (sts.getD i aS))(h:nQ bs=some ((base,sts.map bP.z),t)):bs=eU base sts++t:=by
 unfold nQ at h
 split at h
 ·cases h
 ·rename_i b t1 e1
  split at h
  ·cases h
  ·rename_i n t2 e2
   split at h
   ·cases h
   ·rename_i l t3 e3
    simp only[Option.some.injEq,Prod.mk.injEq] at h
    obtain⟨⟨rfl,rfl⟩,rfl⟩:=h
    have hl:=Jz _ _ _ _ _ e3
    rw[qZb] at hl
    obtain⟨r1,_⟩:=bN e1
    obtain⟨r2,_⟩:=bN e2
    rw[<-hl] at e3 r2
    rw[r1,r2,Ka sts 0 t2 t3 (λj hj=>by rw[qQd];exact hf j hj) e3]
    unfold eU uJ
    simp only[qQa,qQc]
theorem u64_in(x:Nat)(h:x<18446744073709551616):IntKind.u64.wrap (x:Int)=(x:Int):=by rw[IntKind.wrap_u64];omega
theorem aDe(b:UInt8):bits .and .u8 (b.toNat:Int) 127=((b.toNat % 128:Nat):Int):=by
 have h:=bits_mask .u8 8 (by decide) (λn h0 h1=>wraps_u8 n h0 h1) 7 (by decide) (b.toNat:Int) (by omega) (by have:=b.toNat_lt;omega)
 have e:(2:Int) ^ 7-1=127:=by decide
 rw[e] at h
 rw[h]
 omega
theorem aEe(k:Nat):(2:Nat) ^ (7*k)=128 ^ k:=by rw[Nat.pow_mul]
theorem aEc(acc x k:Nat)(hk:k<=9)(ha:acc<128 ^ k)(hx:x*128 ^ k<18446744073709551616):bits .or .u64 (acc:Int) ((x*128 ^ k:Nat):Int)=((acc+x*128 ^ k:Nat):Int):=by
 have h9:128 ^ k<=128 ^ 9:=qQf (by decide) hk
 have e9:(128:Nat) ^ 9=9223372036854775808:=by decide
 rw[bits_or_u64_nat acc _ (by omega) hx]
 congr 1
 rw[Nat.or_comm,qQb x,<-aEe,<-Nat.two_pow_add_eq_or_of_lt (by rw[aEe];exact ha),Nat.add_comm]
theorem Zt(h:aI w 1 A n (bs.map aP))(hl:bs.length=n)(j:Nat)(hj:j<n) :
  ∃ g off,A=some ⟨g,off,none⟩/\g<w.heap.size/\w.cell? ⟨g,off+j,none⟩=some (.int .u8 ((bs.getD j 0).toNat:Int)):=by
 obtain⟨g,off,hA,hg,hc⟩:=h.2 (by omega)
 refine⟨g,off,hA,hg,hc j _ ?_⟩
 simp[List.getD,aP,show j<bs.length by omega]
def aGw(bs:List UInt8)(e:Ending):Prop:=(∃ (v k:Nat) (t:List UInt8),pV bs=some (v,t)/\t=bs.drop k/\0<k/\k<=bs.length/\e=.returned (.tuple #[.int .u64 v,.int .i64 k,.int .i64 0])) \/
 (pV bs=none/\∃ c:Int,20<=c/\e=.returned (.tuple #[.int .u64 0,.int .i64 0,.int .i64 c]))
theorem zB(w:World)(A:Option Addr)(n c:Nat)(bs:List UInt8)(hr:aI w 1 A n (bs.map aP))(hl:bs.length=n)(hm:n<=maxLen) :
  Calls Tryz.prog 117 #[.slice A n c] w λe w'=>aGw bs e/\w'=w:=by
 unfold maxLen at hm
 have HR:=aB hr
 have HL:=aB hl
 clear hr hl
 go_in
 go_wp2_with fail
 go_loop [5,10] (λnv iv=>∃ acc i:Nat,nv=.int .u64 acc/\iv=.int .i64 i/\i<=n/\i<=9/\Hid (acc<128 ^ i/\pV bs=sI i acc (bs.drop i))) (λ_ iv=>n-(intOf iv).toNat)
 case atStart=>exact⟨0,0,rfl,rfl,qZa _,qZa _,aB ⟨by decide,rfl⟩⟩
 case round =>
  obtain⟨acc,i,rfl,rfl,hi,hi9,HN⟩:=hrel
  by_cases hin:i<n
  ·obtain⟨g,o,hA,_,b0⟩:=Zt HR HL i hin
   subst hA
   have hdr:bs.drop i=bs.getD i 0 :: bs.drop (i+1):=by
    have h1:i<bs.length:=by rw[HL.out];exact hin
    rw[List.drop_eq_getElem_cons h1]
    simp[List.getD,h1]
   obtain⟨b,hb⟩:∃ b,bs.getD i 0=b:=⟨_,rfl⟩
   rw[hb] at b0 hdr
   have hb255:=b.toNat_lt
   have f1:=aDe b
   have hstep:pV bs=if i=9/\1<b.toNat then none else if 128<=b.toNat then sI (i+1) (acc+(b.toNat-128)*128 ^ i) (bs.drop (i+1)) else if b.toNat=0/\0<i then none else some (acc+b.toNat*128 ^ i,bs.drop (i+1)):=by
    rw[HN.2,hdr]
    rfl
   have HA:=aB HN.1
   obtain⟨bn,hbn⟩:∃ m,b.toNat=m:=⟨_,rfl⟩
   rw[hbn] at hstep b0 f1 hb255
   clear hdr hb hbn HN
   have hbig:¬ (i=9/\1<bn)->bn % 128*128 ^ i<18446744073709551616:=by
    intro h
    have e9:(128:Nat) ^ 9=9223372036854775808:=by decide
    by_cases h9:i=9
    ·subst h9
     rw[e9]
     omega
    ·have h1:bn % 128*128 ^ i<128*128 ^ i:=qJe (by omega) (Nat.pow_pos (by decide))
     have h2:128*128 ^ i=128 ^ (i+1):=by rw[qXb,qQb]
     have h3:128 ^ (i+1)<=128 ^ 9:=qQf (by decide) (by omega)
     omega
   have y0:(i:Int)<(n:Int):=by omega
   have y8:(0:Int)<=(i:Int):=by omega
   have y9:(i:Int)<=9:=by omega
   have HIN:=aB hin
   have HI9:=aB hi9
   by_cases h9:i=9/\1<bn
   ·rw[if_pos h9] at hstep
    obtain⟨h9a,h9b⟩:=h9
    have q9:((i:Int) == 9)=true:=by simp;omega
    have y1:(1:Int)<(bn:Int):=by omega
    have HS:=aB hstep
    clear hstep hbig h9b h9a f1 hb255 hin
    go_wp2_with fail
    refine bodyPost_ret (v:=.tuple #[.int .u64 0,.int .i64 0,.int .i64 21]) (by simp[results,Tryz.results117,go_sem]) rfl ⟨.inr ⟨HS,21,by decide,rfl⟩,rfl⟩
   ·rw[if_neg h9] at hstep
    have hbg:=hbig h9
    have s1:=aEc acc (bn % 128) i hi9 HA hbg
    have hacc:acc+bn % 128*128 ^ i<128 ^ (i+1):=by
     have h1:bn % 128*128 ^ i<=127*128 ^ i:=Nat.mul_le_mul_right _ (by omega)
     have h2:=HA.out
     rw[qXb]
     omega
    have f3:IntKind.u64.wrap (((bn % 128:Nat):Int)*2 ^ (7*i))=((bn % 128*128 ^ i:Nat):Int):=by
     have e:((bn % 128:Nat):Int)*2 ^ (7*i)=((bn % 128*128 ^ i:Nat):Int):=by rw[<-aEe];push_cast;rfl
     rw[e,u64_in _ hbg]
    have f2:IntKind.u64.wrap ((bn % 128:Nat):Int)=((bn % 128:Nat):Int):=u64_in _ (by omega)
    have hx1:128<=bn->(bn-128)*128 ^ i=bn % 128*128 ^ i:=λh=>by rw[show bn % 128=bn-128 by omega]
    have hx2:¬ 128<=bn->bn*128 ^ i=bn % 128*128 ^ i:=λh=>by rw[show bn % 128=bn by omega]
    obtain⟨x,hx⟩:∃ x,bn % 128*128 ^ i=x:=⟨_,rfl⟩
    obtain⟨m,hmm⟩:∃ m,bn % 128=m:=⟨_,rfl⟩
    rw[hx] at s1 f3 hx1 hx2 hacc
    rw[hmm] at f1 f2 f3
    obtain⟨ac,hac⟩:∃ y,acc+x=y:=⟨_,rfl⟩
    rw[hac] at s1 hacc
    have HAC:=aB hacc
    have h91:i=9->bn<=1:=by omega
    have y1:i=9->¬ (1:Int)<(bn:Int):=by omega
    have HA2:=aB hac
    clear hbig hbg hacc hx hmm hac HA
    by_cases hb8:128<=bn
    ·rw[if_pos hb8,hx1 hb8,HA2.out] at hstep
     have y1:(128:Int)<=(bn:Int):=by omega
     have q9:((i:Int) == 9)=false:=by simp;omega
     have hi8:i<=8:=by omega
     have HI8:=aB hi8
     have HS:=aB hstep
     clear hstep hx1 hx2 h91 h9 hb8 hb255 hi8 hi hi9 hin
     go_wp2_with fail
     go_round
     case rel=>exact⟨ac,i+1,rfl,by simp,by have:=HIN.out;omega,by have:=HI8.out;omega,aB ⟨HAC,HS⟩⟩
     case measure =>
      have:=HIN.out
      simp only[intOf]
      omega
    ·rw[if_neg hb8,hx2 hb8,HA2.out] at hstep
     have y2:¬ (128:Int)<=(bn:Int):=by omega
     by_cases hz:bn=0/\0<i
     ·rw[if_pos hz] at hstep
      obtain⟨hz0,hzi⟩:=hz
      have z0:((bn:Int) == 0)=true:=by simp;omega
      have z1:(0:Int)<(i:Int):=by omega
      have HS:=aB hstep
      by_cases h9i:i=9
      ·have q9:((i:Int) == 9)=true:=by simp;omega
       have q1:=y1 h9i
       clear hstep hx1 hx2 h91 h9 hb8 hb255 hi hi9 hin hz0 hzi y1 h9i
       go_wp2_with fail
       refine bodyPost_ret (v:=.tuple #[.int .u64 0,.int .i64 0,.int .i64 21]) (by simp[results,Tryz.results117,go_sem]) rfl ⟨.inr ⟨HS,21,by decide,rfl⟩,rfl⟩
      ·have q9:((i:Int) == 9)=false:=by simp;omega
       clear hstep hx1 hx2 h91 h9 hb8 hb255 hi hi9 hin hz0 hzi y1 h9i
       go_wp2_with fail
       refine bodyPost_ret (v:=.tuple #[.int .u64 0,.int .i64 0,.int .i64 21]) (by simp[results,Tryz.results117,go_sem]) rfl ⟨.inr ⟨HS,21,by decide,rfl⟩,rfl⟩
     ·rw[if_neg hz] at hstep
      have HS:=aB hstep
      have HL2:=HL.out
      have hok:∃ (v k:Nat) (t:List UInt8),pV bs=some (v,t)/\t=bs.drop k/\0<k/\k<=bs.length/\Ending.returned (.tuple #[.int .u64 ac,.int .i64 ((i:Int)+1),.int .i64 0])=.returned (.tuple #[.int .u64 v,.int .i64 k,.int .i64 0]) :=
       ⟨ac,i+1,_,hstep,rfl,by omega,by omega,by simp⟩
      have HOK:=aB hok
      clear HL2 hok
      by_cases hb0:bn=0
      ·have z0:((bn:Int) == 0)=true:=by simp;omega
       have z1:¬ (0:Int)<(i:Int):=by omega
       have q9:((i:Int) == 9)=false:=by simp;omega
       clear hstep hx1 hx2 h91 h9 hb8 hb255 hi hi9 hin hz y1 hb0
       go_wp2_with fail
       refine bodyPost_ret (v:=.tuple #[.int .u64 ac,.int .i64 ((i:Int)+1),.int .i64 0]) (by simp[results,Tryz.results117,go_sem]) rfl ⟨.inl HOK,rfl⟩
      ·have z0:((bn:Int) == 0)=false:=by simp;omega
       by_cases h9i:i=9
       ·have q9:((i:Int) == 9)=true:=by simp;omega
        have q1:=y1 h9i
        clear hstep hx1 hx2 h91 h9 hb8 hb255 hi hi9 hin hz y1 h9i hb0
        go_wp2_with fail
        refine bodyPost_ret (v:=.tuple #[.int .u64 ac,.int .i64 ((i:Int)+1),.int .i64 0]) (by simp[results,Tryz.results117,go_sem]) rfl ⟨.inl HOK,rfl⟩
       ·have q9:((i:Int) == 9)=false:=by simp;omega
        clear hstep hx1 hx2 h91 h9 hb8 hb255 hi hi9 hin hz y1 h9i hb0
        go_wp2_with fail
        refine bodyPost_ret (v:=.tuple #[.int .u64 ac,.int .i64 ((i:Int)+1),.int .i64 0]) (by simp[results,Tryz.results117,go_sem]) rfl ⟨.inl HOK,rfl⟩
  ·have hie:i=n:=by omega
   have y0:¬ (i:Int)<(n:Int):=by omega
   have hno:pV bs=none:=by
    rw[HN.2,List.drop_of_length_le (by rw[HL.out];omega)]
    rfl
   have HNO:=aB hno
   clear hno hie hin hi
   go_wp2_with fail
   refine bodyPost_ret (v:=.tuple #[.int .u64 0,.int .i64 0,.int .i64 20]) (by simp[results,Tryz.results117,go_sem]) rfl ⟨.inr ⟨HNO,20,by decide,rfl⟩,rfl⟩
structure lJ(w:World)(p:Nat)(A:Option Addr)(n c:Nat)(bs:List UInt8)(e:Int):Prop where
 blk:aL w p 214 #[.slice A n c,.int .i64 e]
 rd:fM w 5 1 A n (bs.map aP)
 len:bs.length=n
 le:n<=c
 mx:c<=maxLen
theorem lJ.touch{S:Nat->Prop}(h:lJ w p A n c bs e)(T:aC S w w')(h1:¬ S p)(h2:∀ g,bE w g 5 -> ¬ S g):lJ w' p A n c bs e :=
 ⟨h.blk.touch T h1,h.rd.touch T h2,h.len,h.le,h.mx⟩
theorem lJ.quiet(h:lJ w p A n c bs e)(T:aC (λ_=>False) w w'):lJ w' p A n c bs e:=h.touch T (λf=>f) (λ_ _ f=>f)
theorem lJ.fail(h:lJ w p A n c bs e)(k:Int):lJ (w.setCell ⟨p,1,none⟩ (.int .i64 k)) p A n c bs k :=
 ⟨h.blk.set_ 1 _,h.rd.touch ((aC.refl (λg=>g=p) w).setCell (λ_=>rfl) _) (λ_ hg e=>hg.ne (aF h.blk) (by decide) e),h.len,h.le,h.mx⟩
theorem lJ.step(h:lJ w p A n c bs e){k:Nat}(hk:k<=n) :
  lJ (w.setCell ⟨p,0,none⟩ (.slice (if c=k then A else A.map (·.add k)) (n-k) (c-k))) p (if c=k then A else A.map (·.add k)) (n-k) (c-k) (bs.drop k) e:=by
 have T:aC (λg=>g=p) w (w.setCell ⟨p,0,none⟩ (.slice (if c=k then A else A.map (·.add k)) (n-k) (c-k))):=(aC.refl (λg=>g=p) w).setCell (λ_=>rfl) _
 have hr:=h.rd.touch T (λ_ hg e=>hg.ne (aF h.blk) (by decide) e)
 refine⟨h.blk.set_ 0 _,⟨?_,?_⟩,by rw[List.length_drop,h.len],by have:=h.le;omega,by have:=h.mx;omega⟩
 ·have:=hr.rd.cut hk h.le
  rw[Nat.mul_one] at this
  rw[List.map_drop]
  exact this
 ·intro hn g hg
  refine hr.ty (by omega) g ?_
  split at hg
  ·exact hg
  ·cases A with
   | none=>cases hg
   | some a =>
    simp only[aQ,Option.map_some,Option.some.injEq] at hg ⊢
    rw[<-hg]
    unfold Addr.add
    split<;>rfl
def Gi(p most:Nat)(A:Option Addr)(n c:Nat)(bs:List UInt8)(w:World)(e:Ending)(w':World):Prop :=
 (∃ (v:Nat) (t:List UInt8) (A':Option Addr) (n' c':Nat),bU most bs=some (v,t)/\e=.returned (.int .u64 v)/\lJ w' p A' n' c' t 0/\aC (λg=>g=p) w w') \/
 (bU most bs=none/\e=.returned (.int .u64 0)/\∃ k:Int,1<=k/\lJ w' p A n c bs k/\aC (λg=>g=p) w w')
theorem Pg(w:World)(p:Nat)(A:Option Addr)(n c:Nat)(bs:List UInt8)(h:lJ w p A n c bs 0)(most:Nat) :
  Calls Tryz.prog 57 #[.pointer (some ⟨p,0,none⟩),.int .u64 most] w λe w'=>Gi p most A n c bs w e w':=by
 have HR:=aB h
 have hnm:n<=maxLen:=Nat.le_trans h.le h.mx
 have HN:=aB (zB w A n c bs h.rd.rd h.len hnm)
 obtain⟨f0,f1,f2⟩:=h.blk.facts
 have hle:=h.le
 have hmx:=h.mx
 unfold maxLen at hmx
 clear h hnm
 go_in
 go_wp2_with fail
 refine HN.mono ?_
 rintro e w1 ⟨hnv,rfl⟩
 rcases hnv with⟨v,k,t,h1,h2,hk0,hk,rfl⟩ | ⟨h1,c',hc',rfl⟩
 ·rw[HR.len] at hk
  by_cases hm:v<=most
  ·have hu:bU most bs=some (v,t):=by
    unfold bU
    rw[h1]
    simp only
    rw[if_pos hm]
   have y0:¬ (most:Int)<(v:Int):=by omega
   have hst:=HR.step hk
   rw[<-h2] at hst
   have HST:=aB hst
   have HU:=aB hu
   obtain⟨g,o,hA,_,_⟩:=HR.rd.rd.form (by omega)
   subst hA
   clear h1 h2 hst hu hm
   by_cases hck:c=k
   ·rw[if_pos hck] at HST
    subst hck
    have hnc:n=c:=by omega
    subst hnc
    simp only[Nat.sub_self] at HST
    go_wp2_with fail
    go_ret
    exact .inl ⟨v,t,_,_,_,HU,rfl,HST,(aC.refl (λg=>g=p) w1).setCell (λ_=>rfl) _⟩
   ·rw[if_neg hck] at HST
    simp only[Option.map_some,Addr.add_lit] at HST
    have hck1:¬ (c:Int)=(k:Int):=by omega
    go_wp2_with fail
    go_ret
    exact .inl ⟨v,t,_,_,_,HU,rfl,HST,(aC.refl (λg=>g=p) w1).setCell (λ_=>rfl) _⟩
  ·have hu:bU most bs=none:=by
    unfold bU
    rw[h1]
    simp only
    rw[if_neg hm]
   have y0:(most:Int)<(v:Int):=by omega
   have HU:=aB hu
   clear h1 h2 hu hm
   go_wp2_with fail
   go_ret
   exact .inr ⟨HU,rfl,22,by decide,HR.fail 22,(aC.refl (λg=>g=p) w1).setCell (λ_=>rfl) _⟩
 ·have hu:bU most bs=none:=by
   unfold bU
   rw[h1]
  have HU:=aB hu
  have y0:(c' == 0)=false:=by simp;omega
  have y1:¬ c'=0:=by omega
  clear h1 hu
  go_wp2_with fail
  go_ret
  exact .inr ⟨HU,rfl,c',by omega,HR.fail c',(aC.refl (λg=>g=p) w1).setCell (λ_=>rfl) _⟩
theorem Pf(w:World)(p:Nat)(A:Option Addr)(n c:Nat)(bs:List UInt8)(k:Int)(h:lJ w p A n c bs k)(hk:1<=k)(most:Nat) :
  Calls Tryz.prog 57 #[.pointer (some ⟨p,0,none⟩),.int .u64 most] w λe w'=>e=.returned (.int .u64 0)/\w'=w:=by
 obtain⟨f0,f1,f2⟩:=h.blk.facts
 have y0:(k == 0)=false:=by simp;omega
 have y1:¬ k=0:=by omega
 clear h
 go_in
 go_wp2_with fail
 go_ret
 exact⟨rfl,rfl⟩
theorem gT(w:World)(p:Nat)(A:Option Addr)(n c:Nat)(bs:List UInt8)(k:Int)(h:lJ w p A n c bs k) :
  Calls Tryz.prog 115 #[.pointer (some ⟨p,0,none⟩)] w λe w'=>e=.returned (.int .i64 k)/\w'=w:=by
 obtain⟨f0,f1,f2⟩:=h.blk.facts
 clear h
 go_in
 go_wp2_with fail
 go_ret
 exact⟨rfl,rfl⟩
theorem Wd(w:World)(p:Nat)(A:Option Addr)(n c:Nat)(bs:List UInt8)(k:Int)(h:lJ w p A n c bs k) :
  Calls Tryz.prog 158 #[.pointer (some ⟨p,0,none⟩)] w λe w'=>e=.returned (.int .i64 n)/\w'=w:=by
 obtain⟨f0,f1,f2⟩:=h.blk.facts
 clear h
 go_in
 go_wp2_with fail
 go_ret
 exact⟨rfl,rfl⟩
def Po(n:Nat)(k x:Int):Prop:=(x=0↔k=0/\n=0)
theorem lO(w:World)(p:Nat)(A:Option Addr)(n c:Nat)(bs:List UInt8)(k:Int)(h:lJ w p A n c bs k) :
  Calls Tryz.prog 59 #[.pointer (some ⟨p,0,none⟩)] w λe w'=>∃ x:Int,e=.returned (.int .i64 x)/\Po n k x/\w'=w:=by
 obtain⟨f0,f1,f2⟩:=h.blk.facts
 clear h
 have hc:(k=0/\0<n)\/(k=0/\n=0)\/k≠0:=by omega
 go_in
 rcases hc with⟨rfl,hn⟩ | ⟨rfl,rfl⟩ | hk
 ·have y0:(0:Int)<(n:Int):=by omega
  go_wp2_with fail
  go_ret
  exact⟨23,rfl,by unfold Po;omega,rfl⟩
 ·go_wp2_with fail
  go_ret
  exact⟨0,rfl,by unfold Po;omega,rfl⟩
 ·have y0:(k == 0)=false:=by simp;omega
  go_wp2_with fail
  go_ret
  exact⟨k,rfl,by unfold Po;omega,rfl⟩
theorem vD(w:World)(e:TypeId)(size:Nat):(w.alloc (.cells #[] e)).ownsRow 0 e size (.slice (some ⟨w.heap.size,0,none⟩) 0 0) 0 [] :=
 ⟨by simp,.inr ⟨w.heap.size,0,#[],rfl,qZa _,heap_alloc_new _ _,Nat.le_refl _,qZa _,by simp,by simp⟩⟩
theorem qG(w:World)(a:Option Addr)(l c:Nat):(binOp .eql 50 (.slice a l c) (.slice none 0 0)).run Tryz.prog w=.ok (.bool a.isNone) w:=by
 simp only[binOp]
 simp[run_equal_slice_nil (P:=Tryz.prog) w 50 5 a l c Tryz.underlying50]
theorem qL(w:World)(A:Option Addr)(n c:Nat)(bs:List UInt8)(hr:aI w 1 A n (bs.map aP))(hl:bs.length=n)(hn:n<=35184372088832) :
  Calls Tryz.prog 114 #[.slice A n c] w λe w'=>∃ (A':Option Addr) (n' c':Nat),e=.returned (.slice A' n' c')/\n'=n/\eB 5 1 w w' (.slice A' n' c') n' (bs.map aP):=by
 cases A with
 | none =>
  have h0:n=0:=by
   rcases Nat.eq_zero_or_pos n with h | h
   ·exact h
   ·obtain⟨b,o,hA,_⟩:=hr.2 h
    cases hA
  subst h0
  have:bs=[]:=List.length_eq_zero_iff.1 hl
  subst this
  have hmn:=λwx=>qG wx none 0 c
  clear hl hr hn
  go_in
  go_wp2_with fail
  go_ret
  exact⟨none,0,0,rfl,rfl,eB.nil _ _ _⟩
 | some a =>
  obtain⟨i1,hi1,hy0,hy1,hy2⟩:=aO fW
  have HC:=aB (lZ bs)
  have hO:=vD w 5 1
  have HO:=aB hO
  have hT:aC (λ_=>False) w (w.alloc (.cells #[] 5)):=(aC.refl _ _).alloc _
  have HT:=aB hT
  have hb1:0+n<=maxLen:=by unfold maxLen;omega
  have hb2:(0+n)*1<=140737488355328:=by omega
  have HB:=aB (And.intro hb1 hb2)
  have HRD:=aB (hr.touch hT (λ_ _ f=>f))
  have hmn:=λwx=>qG wx (some a) n c
  clear hr hO hT hb1 hb2 hn hl
  go_in
  go_wp2_with (at_builtin;refine aR _ rfl (.tmp 5) (.tmp 6) 50 rfl 5 i1 _ 1 1 Tryz.underlying50 hi1 hy0 hy1 hy2 rfl (by decide) (.slice (some ⟨w.heap.size,0,none⟩) 0 0) 0 _ rfl HO (some a) n c (bs.map aP) rfl HRD (λh=>by cases h) HC HB.1 HB.2 ?_;intro v1 w10 O10 G10 F10 _;rw[qQd,List.nil_append] at O10;obtain⟨A2,c2,hv,_,_⟩:=aX O10;subst hv;have HO10:=aB O10;have HG:=aB G10;have HF:=aB F10;clear O10 G10 F10)
  go_ret
  refine⟨A2,n,c2,rfl,rfl,HO10,HT.trans ((aC.refl (λy=>y=w.heap.size) _).grown HG (λk hk _=>by injection hk with hk;exact hk.symm)) (λi hi e=>by omega),λg hg2=>?_⟩
  rcases HF.out with h | ⟨g2,h,hle⟩
  ·rw[hg2] at h
   injection h with h
   have h2:g=w.heap.size:=h
   omega
  ·rw[hg2] at h
   injection h with h
   have:=HT.size
   omega
theorem Xa(w:World)(A:Option Addr)(n c:Nat)(bs:List UInt8)(hr:aI w 1 A n (bs.map aP))(hl:bs.length=n)(hn:n<=35184372088832) :
  Calls Tryz.prog 54 #[.slice A n c] w λe w'=>∃ (p:Nat) (A':Option Addr) (n' c':Nat),e=.returned (.pointer (some ⟨p,0,none⟩))/\lJ w' p A' n' c' bs 0/\w.heap.size<=p/\aC (λ_=>False) w w':=by
 have HC:=aB (qL w A n c bs hr hl hn)
 have HL:=aB hl
 clear hr hl
 go_in
 go_wp2_with fail
 refine HC.mono ?_
 rintro e w1 ⟨A',n',c',rfl,hn',hx⟩
 subst hn'
 have HX:=aB hx
 have HXT:=aB hx.touch
 clear hx
 go_wp2_with fail
 go_ret
 refine⟨_,A',_,c',rfl,⟨aL.new _ _ _,(fM.of_own HX.own).quiet ((aC.refl _ _).alloc _),HL,?_,?_⟩,HXT.size,HXT.alloc _⟩
 ·have:=cT HX.own;omega
 ·have:=cT HX.own;omega
end Go.Proofs.YthockgmbooefpaaGreatDoor
