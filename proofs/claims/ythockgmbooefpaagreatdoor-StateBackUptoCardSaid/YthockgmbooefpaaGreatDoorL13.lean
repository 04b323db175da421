/- What the law rests on, part 13. No condition but those that each theorem names. -/
import Derived.Test.YthockgmbooefpaaGreatDoorL08
import Derived.Test.YthockgmbooefpaaGreatDoorL12
import Derived.Test.YthockgmbooefpaaGreatDoorL04
import Derived.StillTailTactics
import Derived.Deep.CutRange
import Derived.BigQuiet
import Derived.Deep.QuietTactic
set_option linter.unusedSectionVars false
set_option linter.unusedSimpArgs false
set_option linter.unusedVariables false
set_option maxRecDepth 100000
set_option maxHeartbeats 8000000
namespace Go.Proofs.YthockgmbooefpaaGreatDoor
open Go.RowKit
theorem less_is (a b:ByteArray) (v:Bool) (h:Op.bytesLess a.toList b.toList=v) (w:World) :
  Calls Tryz.prog 82 #[.string a,.string b] w fun e w'=>e=.returned (.bool v)∧w'=w:=by
 subst h
 go_enter Tryz.func82,Tryz.ntmps82
 go_wp2
 go_ret
 exact ⟨rfl,rfl⟩
theorem mach_ne' {L:List PRow} (h:L≠[]):mach L=⟨leastR (restsL L),(stateF 25 ⟨[],[]⟩ (restsL L)).1.states⟩:=by unfold mach;rw [if_neg h]
theorem restsL_take (L:List PRow) (i:Nat) (h:i<L.length):restsL (L.take (i+1))=restsL (L.take i)++[(wordR (L.getD i PRow.zero),(L.getD i PRow.zero).weight)]:=by
 unfold restsL
 rw [take_snoc L PRow.zero i h,List.map_append]
 rfl
theorem wordR_of {p:PRow} {O:List Nat} (h:runesU p.word.toList=some O):wordR p=O:=by unfold wordR;rw [h];rfl
theorem fbuild_any (w:World) (hL:Lst w) (s:SL) (hs:s.Ok w) (hWz:∀ r∈s.L,r.word.size≤1099511627776) (hm:s.n≤maxLen) :
  Calls Tryz.prog 38 #[s.val] w fun e w' =>
   (rightU s.L=false∧∃ k:Int,(70≤k∧k=errU s.L)∧e=.returned (.tuple #[.agg #[.int .i64 0,.slice none 0 0],.int .i64 k])∧Touch (fun _=>False) w w') ∨
   (rightU s.L=true∧∃ (A:Option Addr) (n c:Nat) (Z:List SV),e=.returned (.tuple #[.agg #[.int .i64 (mach s.L).base,.slice A n c],.int .i64 0])∧StsOk w' A n Z∧Z.map SV.p=(mach s.L).states∧n≤c∧Touch (fun _=>False) w w'):=by
 obtain ⟨i0,hi0,hz0,hz1,hz2⟩:=info_parts infoFRest
 obtain ⟨sA,sn,sc,sL⟩:=s
 have hsl:=hs.len
 have hrd:=hs.reads
 simp only at hWz hm hsl hrd
 simp only [SL.val]
 have HL:=hide hL
 have HSL:=hide hsl
 have HRD:=hide hrd
 have HWZ:=hide hWz
 have HM:=hide hm
 have HS:=hide hs
 clear hL hsl hrd hWz hs
 by_cases hbig:4096<sn
 ·have b0:(4096:Int)<(sn:Int):=by omega
  have HR:Hid (rightU sL=false):=hide (rightU_long (by rw [HSL.out];omega))
  have HE:Hid (errU sL=70):=hide (errU_long (by rw [HSL.out];omega))
  clear hbig hm
  go_enter Tryz.func38,Tryz.ntmps38
  go_wp2_with fail
  obtain ⟨f0,f1,f2⟩:=(Blk.new w 89 #[.int .i64 0,.slice none 0 0]).facts
  exact bodyPost_ret (v:=.tuple #[.agg #[.int .i64 0,.slice none 0 0],.int .i64 70]) (by simp [results,Tryz.results38,go_sem,f0]) rfl (.inl ⟨HR.out,70,⟨by decide,HE.out.symm⟩,rfl,(Touch.refl _ _).alloc _⟩)
 ·have b0:¬ (4096:Int)<(sn:Int):=by omega
  have b1:(sn:Int)≤4096:=by omega
  have HSN:=hide (show sn≤4096 by omega)
  clear hbig hm
  go_enter Tryz.func38,Tryz.ntmps38
  go_wp2_with fail
  obtain ⟨w1,hw1⟩:∃ y,y=w.alloc (.cells #[.int .i64 0,.slice none 0 0] 89):=⟨_,rfl⟩
  obtain ⟨Rb,hRb⟩:∃ y,y=w.heap.size:=⟨_,rfl⟩
  have hT1:Touch (fun _=>False) w w1:=by rw [hw1];exact (Touch.refl _ _).alloc _
  have hbR:Blk w1 Rb 89 #[.int .i64 0,.slice none 0 0]:=by rw [hw1,hRb];exact Blk.new _ _ _
  rw [← hw1,← hRb]
  have HT1:=hide hT1
  have HBR:=hide hbR
  have HRB:Hid (w.heap.size≤Rb):=hide (by omega)
  clear hw1 hRb hT1 hbR
  go_loopw [4,16] (fun av iv wr=>∃ (i:Nat) (A3:Option Addr) (c3:Nat) (V:List RV),av=.slice A3 i c3∧iv=.int .i64 i∧i≤sn∧Hid (ONx 158 2 w1 wr (.slice A3 i c3) i (rCells V))∧Hid (V.length=i∧V.map RV.p=restsL (sL.take i)∧∀ r∈V,r.Ok wr∧0≤r.wt∧r.wt≤1048576)∧Hid (∀ k,k<i→fitP sL k=true)) (fun _ iv _=>sn-(intOf iv).toNat)
  case atStart=>exact ⟨0,none,0,[],rfl,rfl,Nat.zero_le _,hide (ONx.nil _ _ _),hide ⟨rfl,rfl,fun r hr=>(by cases hr)⟩,hide (fun k hk=>absurd hk (Nat.not_lt_zero _))⟩
  case round =>
   obtain ⟨i,A3,c3,V,rfl,rfl,hi,HO,HV,HF⟩:=hrel
   have hTr:Touch (fun _=>False) w wr:=HT1.out.then HO.out.touch
   by_cases hin:i<sn
   ·obtain ⟨g,o,hA,hg,a0,a1⟩:=preads_at (HRD.out.touch hTr (fun _ _ f=>f)) HSL.out.symm i hin
    subst hA
    obtain ⟨⟨xw,xn⟩,hx⟩:∃ x,x=sL.getD i PRow.zero:=⟨_,rfl⟩
    have hxm:(⟨xw,xn⟩:PRow)∈sL:=by rw [hx];exact pgetD_mem _ _ (by rw [HSL.out];exact hin)
    have hsz:=HWZ.out _ hxm
    have htk:=restsL_take sL i (by rw [HSL.out];exact hin)
    have hfp:=fitP_eq sL i
    have her:=errAt_eq sL i
    rw [← hx] at a0 a1 htk hfp her
    simp only at a0 a1 hsz htk hfp her
    have HER:=hide her
    clear her
    obtain ⟨w2,hw2⟩:∃ y,y=wr.alloc (.cells #[.string xw,.int .i64 xn] 125):=⟨_,rfl⟩
    have hT2:Touch (fun _=>False) wr w2:=by rw [hw2];exact (Touch.refl _ _).alloc _
    have hbP:Blk w2 wr.heap.size 125 #[.string xw,.int .i64 xn]:=by rw [hw2];exact Blk.new _ _ _
    have hL2:=Lst.touch HL.out (hTr.then hT2)
    have HRU:=hide (runes_any w2 xw hsz hL2)
    have y0:(i:Int)<(sn:Int):=by omega
    have y1:(0:Int)≤(i:Int):=by omega
    have y2:IntKind.i64.wrap ((i:Int)+1)=(i:Int)+1:=IntWalk.i64_in _ (by omega)
    have HTR:=hide hTr
    have HT2:=hide hT2
    have HBP:=hide hbP
    have HL2:=hide hL2
    have HW2:=hide hw2
    have HSZ:=hide hsz
    have HTK:=hide htk
    have HFP:=hide hfp
    have HIN:=hide hin
    have HX:=hide hx
    have HG:=hide hg
    clear hTr hxm hsz htk hfp hT2 hbP hL2 hw2 hin hi hx hg
    go_wp2_with fail
    rw [← HW2.out]
    refine HRU.out.mono ?_
    rintro e w3 ⟨qA,q,qc,O,ok,rfl,hon,hOl,hqs,hru⟩
    have hbP3:=HBP.out.touch hon.touch (fun f=>f)
    obtain ⟨p0,p1,p2⟩:=hbP3.facts
    have HWD:=hide (word_any w3 xw (by have:=HSZ.out;omega) (Lst.touch HL2.out hon.touch))
    have HON:=hide hon
    have HOL:=hide hOl
    have HRU2:=hide hru
    have HBP3:=hide hbP3
    clear hon hOl hqs hru hbP3 HRU
    go_wp2_with fail
    refine HWD.out.mono ?_
    rintro e w4 ⟨rfl,T4⟩
    have HT4:=hide T4
    have HBP4:=hide (HBP3.out.touch T4 (fun f=>f))
    clear T4 p0 p1 p2 HWD
    obtain ⟨p0,p1,p2⟩:=HBP4.out.facts
    have HT14:=hide (HO.out.touch.then (HT2.out.then (HON.out.touch.then HT4.out)))
    obtain ⟨r0,r1,r2⟩:=(HBR.out.touch HT14.out (fun f=>f)).facts
    have hTw:∀ W',Touch (fun g=>g=Rb) w4 W'→Touch (fun _=>False) w W':=fun W' T=>(HT1.out.then HT14.out).trans T (fun g hg e=>by have:=HRB.out;omega)
    have HTW:=hide hTw
    clear hTw
    by_cases hwu:wordU xw.toList=true
    ·rw [hwu]
     by_cases hwt:1≤xn∧xn≤1048576
     ·have n1:¬ xn<1:=by omega
      have n2:¬ (1048576:Int)<xn:=by omega
      obtain ⟨O',hO',hfit,hlen0,hlen⟩:=word_runes hwu
      have hok:ok=true∧O=O':=by
       have h1:=HRU2.out
       rw [hO'] at h1
       cases ok with
       | true=>exact ⟨rfl,(Option.some.inj (by simpa using h1)).symm⟩
       | false=>simp at h1
      obtain ⟨rfl,rfl⟩:=hok
      have HO2:=hide hO'
      have HWT:=hide hwt
      have HWU:=hide hwu
      clear hO' hfit hlen0 hlen hwt hwu
      obtain ⟨bd,hbd⟩:∃ b,b=(decide (i=0) || Op.bytesLess (sL.getD (i-1) PRow.zero).word.toList xw.toList):=⟨_,rfl⟩
      have HBD:=hide hbd
      clear hbd
      go_upto_region 12 with fail
      go_cut [43] from 17 to 66 (fun sv wx=>sv=.bool (!bd)∧Hid (Touch (fun _=>False) w4 wx))
      case first =>
       by_cases hi0:i=0
       ·have hb1:bd=true:=by rw [HBD.out];simp [hi0]
        have y3:decide (0<i)=false:=by simp [hi0]
        have y3':decide ((0:Int)<(i:Int))=false:=by simp [hi0]
        have HB1:=hide hb1
        clear hb1 hi0
        refine wp_region_quiet_lit (by kernel_rfl) (by kernel_rfl) ?_
        quiet_step (fail)
        quiet_step (fail)
        quiet_step (fail)
        rw [wpQuiet_cons]
        go_simp
        rw [wpQuiet_cons]
        go_simp
        rw [wpQuiet_cons]
        go_simp
        rw [wpQuiet_cons]
        go_simp
        rw [wpQuiet_cons]
        go_simp
        rw [wpQuiet_cons]
        go_simp
        rw [wpQuiet_cons]
        go_simp
        rw [wpQuiet_cons]
        go_simp
        rw [wpQuiet_cons]
        go_simp
        rw [wpQuiet_cons]
        go_simp
        quiet_step (fail)
        quiet_step (fail)
        refine wpQuiet_nil ?_
        intro nq
        go_wp2_with fail
        go_meet
        exact ⟨by rw [HB1.out];rfl,hide ((Touch.refl _ _).drewN _)⟩
       ·obtain ⟨k,hk⟩:∃ k,i=k+1:=⟨i-1,by omega⟩
        obtain ⟨g',o',hA,_,c0,_⟩:=preads_at (HRD.out.touch (HTW.out w4 (Touch.refl _ _)) (fun _ _ f=>f)) HSL.out.symm k (by have:=HIN.out;omega)
        injection hA with hA
        injection hA with hA1 hA2
        subst hA1 hA2
        obtain ⟨⟨yw,yn⟩,hy⟩:∃ y,y=sL.getD k PRow.zero:=⟨_,rfl⟩
        have hb1:bd=Op.bytesLess yw.toList xw.toList:=by
         rw [HBD.out,show i-1=k by omega,← hy]
         simp [hi0]
        rw [← hy] at c0
        simp only at c0
        have y3:decide (0<i)=true:=decide_eq_true (by omega)
        have y3':decide ((0:Int)<(i:Int))=true:=decide_eq_true (by omega)
        have y4:(k:Int)<(sn:Int):=by have:=HIN.out;omega
        have y5:(0:Int)≤(k:Int):=by omega
        have y6:IntKind.i64.wrap ((i:Int)-1)=(k:Int):=by rw [show (i:Int)-1=(k:Int) by omega];exact IntWalk.i64_in _ (by omega)
        have HB1:=hide hb1
        clear hi0 hy hb1 hk
        go_quiet ((go_at_call 82;exact Calls.quiet_of_same (less_is _ _ bd HB1.out.symm _)))
        go_wp2_with fail
        go_meet
        exact ⟨rfl,hide ((Touch.refl _ _).drewN _)⟩
      case rest =>
       obtain ⟨rfl,HT5⟩:=hcut
       obtain ⟨f0,f1,f2⟩:=(HBR.out.touch (HT14.out.then HT5.out) (fun f=>f)).facts
       by_cases hb:bd=true
       ·subst hb
        obtain ⟨t0,t1,t2⟩:=(HBP4.out.touch HT5.out (fun f=>f)).facts
        obtain ⟨wa,hwa⟩:∃ y,y=wc.alloc (.cells #[.slice qA q qc,.int .i64 xn] 158):=⟨_,rfl⟩
        have hT3c:Touch (fun _=>False) w3 wa:=by rw [hwa];exact (HT4.out.then HT5.out).alloc _
        have hTra:Touch (fun _=>False) wr wa:=HT2.out.then (HON.out.touch.then hT3c)
        have hrd:Reads wa 2 (some ⟨wc.heap.size,0,none⟩) 1 [.slice qA q qc,.int .i64 xn]:=by
         rw [hwa]
         have h:=Reads.new (size:=2) wc 158 [.slice qA q qc,.int .i64 xn] 1 rfl
         simpa using h
        have hiI:i≤4096:=by have:=HIN.out;have:=HSN.out;omega
        have hbb1:i+1≤maxLen:=by unfold maxLen;omega
        have hbb2:(i+1)*32≤140737488355328:=by omega
        have HOA:=hide (HO.out.to hTra)
        have HWA:=hide hwa
        have HRDA:=hide hrd
        have HBB:=hide (And.intro hbb1 hbb2)
        have HT3C:=hide hT3c
        have HTRA:=hide hTra
        clear hwa hT3c hTra hrd hiI hbb1 hbb2 p0 p1 p2 r0 r1 r2
        go_wp2_with (at_builtin;rw [← HWA.out];refine wpList_app _ rfl (.tmp 59) (.tmp 64) 153 rfl 158 i0 _ 2 32 Tryz.underlying153 hi0 hz0 hz1 hz2 rfl (by decide) (.slice A3 i c3) i _ rfl HOA.out.own (some ⟨wc.heap.size,0,none⟩) 1 1 [.slice qA q qc,.int .i64 xn] rfl HRDA.out (fun h=>by cases h) (onecell_rest _ _ _ _) HBB.out.1 HBB.out.2 ?_;intro v1 w10 O10 G10 F10 _;obtain ⟨A7,c7,hv,_,_⟩:=own_len O10;subst hv;have HX10:=hide (HOA.out.app O10 G10 F10);have HG10:=hide G10;clear O10 G10 F10)
        go_roundw
        case rel =>
         have hS:∀ g,TyAt wa g 21 → ¬ (Value.slice A3 i c3).ownBlock=some g:=fun g hg e=>(own_ty HOA.out.own e).ne hg (by decide) rfl
         have hT10:Touch (fun g=>(Value.slice A3 i c3).ownBlock=some g) wa w10:=(Touch.refl _ _).grown HG10.out (fun k e _=>e)
         refine ⟨i+1,A7,c7,V++[⟨qA,q,qc,O,xn⟩],rfl,by simp,by have:=HIN.out;omega,hide ?_,hide ⟨?_,?_,?_⟩,hide ?_⟩
         ·rw [rCells_app]
          exact HX10.out
         ·rw [List.length_append,HV.out.1];rfl
         ·rw [List.map_append,HV.out.2.1,HTK.out]
          simp only [List.map_cons,List.map_nil,RV.p]
          rw [wordR_of (p:=⟨xw,xn⟩) HO2.out]
         ·intro r hr
          rcases List.mem_append.1 hr with h | h
          ·exact ⟨((HV.out.2.2 r h).1.touch HTRA.out (fun _ _ f=>f)).touch hT10 hS,(HV.out.2.2 r h).2⟩
          ·rw [List.mem_singleton.1 h]
           have hos:=own_slice HON.out.own
           have hok:(⟨qA,q,qc,O,xn⟩:RV).Ok w3:=⟨HOL.out,RdT.of_own HON.out.own,hos.1,hos.2⟩
           refine ⟨(hok.touch HT3C.out (fun _ _ f=>f)).touch hT10 hS,?_⟩
           have:=HWT.out
           simp only
           omega
         ·intro k hk
          by_cases h:k<i
          ·exact HF.out k h
          ·obtain rfl:k=i:=by omega
           rw [HFP.out,HWU.out,← HBD.out]
           have:=HWT.out
           simp [this.1,this.2]
        case measure =>
         have:=HIN.out
         simp only [intOf]
         omega
       ·have hbf:bd=false:=by simpa using hb
        subst hbf
        have HR:Hid (rightU sL=false):=hide (rightU_no (i:=i) (by rw [HSL.out];exact HIN.out) (by rw [HFP.out,← HBD.out];simp))
        have HE:Hid (errU sL=73):=hide ((errU_at (i:=i) (by rw [HSL.out];exact HSN.out) (by rw [HSL.out];exact HIN.out) HF.out (by rw [HFP.out,← HBD.out];simp)).trans (err73 HER.out HWU.out (by have:=HWT.out;simp [this.1,this.2])))
        clear p0 p1 p2 r0 r1 r2
        go_wp2_with fail
        refine bodyPost_ret (v:=.tuple #[.agg #[.int .i64 0,.slice none 0 0],.int .i64 73]) (by simp [results,Tryz.results38,go_sem,f0]) rfl (.inl ⟨HR.out,73,⟨by decide,HE.out.symm⟩,rfl,HTW.out _ ?_⟩)
        exact ((HT5.out.up (fun g=>g=Rb)).setCell (p:=⟨Rb,0,none⟩) (fun _=>rfl) _).setCell (p:=⟨Rb,1,none⟩) (fun _=>rfl) _
     ·have HR:Hid (rightU sL=false):=hide (rightU_no (i:=i) (by rw [HSL.out];exact HIN.out) (by
       rw [HFP.out]
       have:(decide (1≤xn) && decide (xn≤1048576))=false:=by
        rw [Bool.and_eq_false_iff,decide_eq_false_iff_not,decide_eq_false_iff_not]
        omega
       rw [this,Bool.false_and]))
      have HE:Hid (errU sL=72):=hide (by
       have h72:(decide (1≤xn) && decide (xn≤1048576))=false:=by
        rw [Bool.and_eq_false_iff,decide_eq_false_iff_not,decide_eq_false_iff_not]
        omega
       exact (errU_at (i:=i) (by rw [HSL.out];exact HSN.out) (by rw [HSL.out];exact HIN.out) HF.out (by rw [HFP.out,h72,Bool.false_and])).trans (err72 HER.out (by first | exact hwu | exact HWU.out) h72))
      by_cases hx1:xn<1
      ·clear hwu hwt
       go_wp2_with fail
       refine bodyPost_ret (v:=.tuple #[.agg #[.int .i64 0,.slice none 0 0],.int .i64 72]) (by simp [results,Tryz.results38,go_sem,r0]) rfl (.inl ⟨HR.out,72,⟨by decide,HE.out.symm⟩,rfl,HTW.out _ ?_⟩)
       exact ((Touch.refl (fun g=>g=Rb) w4).setCell (p:=⟨Rb,0,none⟩) (fun _=>rfl) _).setCell (p:=⟨Rb,1,none⟩) (fun _=>rfl) _
      ·have hx2:(1048576:Int)<xn:=by omega
       clear hwu hwt
       go_wp2_with fail
       refine bodyPost_ret (v:=.tuple #[.agg #[.int .i64 0,.slice none 0 0],.int .i64 72]) (by simp [results,Tryz.results38,go_sem,r0]) rfl (.inl ⟨HR.out,72,⟨by decide,HE.out.symm⟩,rfl,HTW.out _ ?_⟩)
       exact ((Touch.refl (fun g=>g=Rb) w4).setCell (p:=⟨Rb,0,none⟩) (fun _=>rfl) _).setCell (p:=⟨Rb,1,none⟩) (fun _=>rfl) _
    ·have hwf:wordU xw.toList=false:=by simpa using hwu
     rw [hwf]
     have HR:Hid (rightU sL=false):=hide (rightU_no (i:=i) (by rw [HSL.out];exact HIN.out) (by rw [HFP.out,hwf];simp))
     have HE:Hid (errU sL=71):=hide ((errU_at (i:=i) (by rw [HSL.out];exact HSN.out) (by rw [HSL.out];exact HIN.out) HF.out (by rw [HFP.out,hwf];simp)).trans (err71 HER.out hwf))
     clear hwu hwf
     go_wp2_with fail
     refine bodyPost_ret (v:=.tuple #[.agg #[.int .i64 0,.slice none 0 0],.int .i64 71]) (by simp [results,Tryz.results38,go_sem,r0]) rfl (.inl ⟨HR.out,71,⟨by decide,HE.out.symm⟩,rfl,HTW.out _ ?_⟩)
     exact ((Touch.refl (fun g=>g=Rb) w4).setCell (p:=⟨Rb,0,none⟩) (fun _=>rfl) _).setCell (p:=⟨Rb,1,none⟩) (fun _=>rfl) _
   ·have hie:i=sn:=by omega
    have hall:rightU sL=true:=rightU_yes (by rw [HSL.out];exact HSN.out) (fun j hj=>HF.out j (by rw [HSL.out] at hj;omega))
    have htk:sL.take i=sL:=List.take_of_length_le (by rw [HSL.out];omega)
    have hvp:=HV.out.2.1
    rw [htk] at hvp
    have hD:=dict_of_right hall
    obtain ⟨f0,f1,f2⟩:=(HBR.out.touch HO.out.touch (fun f=>f)).facts
    have y0:¬ (i:Int)<(sn:Int):=by omega
    have HALL:=hide hall
    have HVP:=hide hvp
    have HD:=hide hD
    have HIE:=hide hie
    have HTR:=hide hTr
    clear hie hall htk hvp hD hin hi
    by_cases h0:i=0
    ·subst h0
     have hle:sL=[]:=List.eq_nil_of_length_eq_zero (by rw [HSL.out];exact HIE.out.symm)
     subst hle
     clear HTR hTr
     go_wp2_with fail
     exact bodyPost_ret (v:=.tuple #[.agg #[.int .i64 0,.slice none 0 0],.int .i64 0]) (by simp [results,Tryz.results38,go_sem,f0]) rfl (.inr ⟨HALL.out,none,0,0,rfl,[],⟨⟨Reads.nil _ _ _,fun h=>absurd h (by omega)⟩,rfl,fun z hz=>(by cases hz)⟩,rfl,Nat.le_refl _,(HT1.out.then HO.out.touch).trans (((Touch.refl (fun g=>g=Rb) wr).setCell (p:=⟨Rb,0,none⟩) (fun _=>rfl) _).setCell (p:=⟨Rb,1,none⟩) (fun _=>rfl) _) (fun g hg e=>by have:=HRB.out;omega)⟩)
    ·have hne:sL≠[]:=by
      intro e
      have:=HSL.out
      rw [e] at this
      have:=HIE.out
      simp at *
      omega
     obtain ⟨wA,hwA⟩:∃ y,y=wr.alloc (.map #[] 0):=⟨_,rfl⟩
     obtain ⟨wB,hwB⟩:∃ y,y=wA.alloc (.map #[] 0):=⟨_,rfl⟩
     obtain ⟨m1,hm1⟩:∃ y,y=wr.heap.size:=⟨_,rfl⟩
     obtain ⟨m2,hm2⟩:∃ y,y=wA.heap.size:=⟨_,rfl⟩
     obtain ⟨wC,hwC⟩:∃ y,y=wB.alloc (.cells #[.slice none 0 0,.map (some m1),.map (some m2)] 163):=⟨_,rfl⟩
     obtain ⟨Bb,hBb⟩:∃ y,y=wB.heap.size:=⟨_,rfl⟩
     have hmm1:(Instr.makeMap 160 none).run Tryz.prog wr=.ok (.map (some m1)) wA:=by rw [hwA,hm1];exact run_makeMap _ _
     have hmm2:(Instr.makeMap 161 none).run Tryz.prog wA=.ok (.map (some m2)) wB:=by rw [hwB,hm2];exact run_makeMap _ _
     have hTA:Touch (fun _=>False) wr wA:=by rw [hwA];exact (Touch.refl _ _).alloc _
     have hTB:Touch (fun _=>False) wA wB:=by rw [hwB];exact (Touch.refl _ _).alloc _
     have hTC:Touch (fun _=>False) wB wC:=by rw [hwC];exact (Touch.refl _ _).alloc _
     have hTrC:Touch (fun _=>False) wr wC:=hTA.then (hTB.then hTC)
     have hbld:Bld wC Bb none 0 0 [] m1 m2 [] []:=by
      refine ⟨by rw [hwC,hBb];exact Blk.new _ _ _,World.ownsRow_nil _ _ _ _,rfl,fun z hz=>(by cases hz),?_,?_,?_,⟨rfl,fun j s k h1 _=>by simp at h1⟩⟩
      ·have h:Itn wA m1 281 []:=by rw [hwA,hm1];exact Itn.new _ _
       exact h.quiet (hTB.then hTC)
      ·have h:Itn wB m2 3 []:=by rw [hwB,hm2];exact Itn.new _ _
       exact h.quiet hTC
      ·rw [hm1,hm2,hwA]
       simp
     have hos:=own_slice HO.out.own
     have hlok:(⟨A3,i,c3,V⟩:FL).Ok wC:=⟨HV.out.1,(RdT.of_own HO.out.own).quiet hTrC,fun r hr=>(HV.out.2.2 r hr).1.touch hTrC (fun _ _ f=>f),hos.1⟩
     have hvp:(⟨A3,i,c3,V⟩:FL).p=restsL sL:=HVP.out
     have htot:=tot_dict HD.out
     have hst:=fst_any 25 wC Bb none 0 0 [] m1 m2 [] [] ⟨A3,i,c3,V⟩ hbld hlok (fun r hr=>(HV.out.2.2 r hr).2) (by
      rw [hvp]
      intro r hr c hc
      exact scal_lt ((her_dict HD.out).run r hr c hc).1) (by rw [hvp];exact HD.out.sort) (by simp only;omega) (by simp only;have:=HIE.out;have:=HSN.out;omega) (by rw [hvp];exact dep_dict HD.out) (by rw [hvp];simp only [List.length_nil];omega) (by rw [hvp];omega)
     rw [hvp] at hst
     simp only [FL.val,List.map_nil] at hst
     have hmn:=mach_ne' hne
     have hlb:∀ wx,(⟨A3,i,c3,V⟩:FL).Ok wx→Calls Tryz.prog 84 #[.slice A3 i c3] wx fun e w'=>e=.returned (.int .i64 (leastR (restsL sL)))∧Touch (fun _=>False) wx w':=by
      intro wx h
      have:=fleast_any wx ⟨A3,i,c3,V⟩ h (by simp only;omega) (by simp only;have:=HIE.out;have:=HSN.out;unfold maxLen;omega)
      rw [hvp] at this
      exact this
     have hTwC:Touch (fun _=>False) w wC:=hTr.then hTrC
     have hbRC:=HBR.out.touch (HO.out.touch.then hTrC) (fun f=>f)
     have y3:¬ ((i:Int)=0):=by omega
     have y4:((i:Int) == 0)=false:=by simp [h0]
     have hRb1:Rb≠m1:=by
      have:=HBR.out.lt
      have:=HO.out.touch.size
      omega
     have hRb2:Rb≠m2:=by
      have:=HBR.out.lt
      have:=HO.out.touch.size
      have:=hTA.size
      omega
     have hRbB:Rb≠Bb:=by
      have:=HBR.out.lt
      have:=HO.out.touch.size
      have:=hTA.size
      have:=hTB.size
      omega
     have hSB:∀ g,g<wr.heap.size→¬ SB Bb m1 m2 (.slice none 0 0) g:=by
      have:=hTA.size
      have:=hTB.size
      rintro g hg (e | e | e | e)
      ·omega
      ·omega
      ·omega
      ·cases e
     have HST:=hide hst
     have HLBB:=hide hlb
     have HMN:=hide hmn
     have HLOK:=hide hlok
     have HTWC:=hide hTwC
     have HBRC:=hide hbRC
     have HWC:=hide hwC
     have HTRC:=hide hTrC
     have HSBN:=hide hSB
     have HBB:=hide hBb
     have HFR:Hid (∀ g,TyAt wC g 21 ∨ TyAt wC g 158 ∨ TyAt wC g 89 → ¬ SB Bb m1 m2 (.slice none 0 0) g):=hide (by
      rintro g (h | h | h)
      ·exact hbld.noS (by decide) (by decide) g h
      ·exact hbld.noS (by decide) (by decide) g h
      ·exact hbld.noS (by decide) (by decide) g h)
     have HNE:=hide hne
     clear hwA hwB hm1 hm2 hTA hTB hTC hTrC hbld hos hlok hvp htot hst hmn hlb hTwC hbRC hwC hSB hBb hne hTr HTR
     go_wp2_with fail
     rw [← HWC.out,← HBB.out]
     refine HST.out.mono ?_
     rintro e w5 ⟨i2,sA',sn',sc',Z',Lk',Bk',rfl,hbld,hpl,_,hsn',_,hfr,_,T5⟩
     have hlok5:=HLOK.out.touch T5 (fun g hg=>HFR.out g (.inl hg)) (fun g hg=>HFR.out g (.inr (.inl hg)))
     have hbR5:=HBRC.out.touch T5 (HFR.out Rb (.inr (.inr (blk_ty HBRC.out))))
     have hT5:Touch (fun _=>False) w w5:=(HTWC.out).trans T5 (fun g hg e=>by
      refine HSBN.out g ?_ e
      have h1:=HT1.out.size
      have h2:=HO.out.touch.size
      omega)
     obtain ⟨d0,d1,d2⟩:=hbld.blk.facts
     clear f0 f1 f2
     obtain ⟨f0,f1,f2⟩:=hbR5.facts
     have HLO5:=hide hlok5
     have HB5:=hide hbld
     have HBR5:=hide hbR5
     have HT5:=hide hT5
     have HPL:=hide hpl
     clear hlok5 hbld hbR5 hT5 hpl hsn' hfr T5 HST
     go_wp2_with fail
     obtain ⟨lw,hlw⟩:∃ x,x=leastR (restsL sL):=⟨_,rfl⟩
     have HL6:=hide (HLBB.out w5.drew (HLO5.out.quiet (Touch.refl _ _).drew))
     rw [← hlw] at HL6
     have HLW:=hide hlw
     clear hlw
     go_region_law (go_simp;go_at_call 84;refine HL6.out.mono ?_;rintro e w6 ⟨rfl,T6⟩;have hT56:Touch (fun _=>False) w5 w6:=((Touch.refl _ w5).drew).then T6;obtain ⟨e0,e1,e2⟩:=(HB5.out.blk.touch hT56 (fun f=>f)).facts;obtain ⟨g0,g1,g2⟩:=(HBR5.out.touch hT56 (fun f=>f)).facts;have HT56:=hide hT56;clear T6 hT56)
     all_goals go_wp2_with fail
     all_goals
      have hbF:Blk ((w6.setCell ⟨Rb,0,none⟩ (.int .i64 lw)).setCell ⟨Rb,1,none⟩ (.slice sA' sn' sc')) Rb 89 #[.int .i64 lw,.slice sA' sn' sc']:=by
       have:=((HBR5.out.touch HT56.out (fun f=>f)).set_ 0 (.int .i64 lw)).set_ 1 (.slice sA' sn' sc')
       simpa using this
      have hTF:Touch (fun g=>g=Rb) w5 ((w6.setCell ⟨Rb,0,none⟩ (.int .i64 lw)).setCell ⟨Rb,1,none⟩ (.slice sA' sn' sc')):=((HT56.out.up (fun g=>g=Rb)).setCell (p:=⟨Rb,0,none⟩) (fun _=>rfl) _).setCell (p:=⟨Rb,1,none⟩) (fun _=>rfl) _
      obtain ⟨k0,k1,k2⟩:=hbF.facts
      have hos:=own_slice HB5.out.own
      have hsts:StsOk w5 sA' sn' Z':=⟨RdT.of_own HB5.out.own,HB5.out.len,HB5.out.el⟩
      refine bodyPost_ret (v:=.tuple #[.agg #[.int .i64 lw,.slice sA' sn' sc'],.int .i64 0]) (by simp [results,Tryz.results38,go_sem,k0]) rfl (.inr ⟨HALL.out,sA',sn',sc',Z',?_,⟨hsts.rd.touch hTF (fun g hg e=>hg.ne (blk_ty HBR5.out) (by decide) e),hsts.len,fun z hz=>(hsts.el z hz).touch hTF (fun g hg e=>hg.ne (blk_ty HBR5.out) (by decide) e)⟩,?_,hos.1,HT5.out.trans hTF (fun g hg e=>by have:=HRB.out;omega)⟩)
      ·rw [HMN.out,HLW.out]
      ·rw [HMN.out]
       have h1:=fst_is 25 ⟨[],[]⟩ (restsL sL) good_nil HD.out.sort (rests_ne HNE.out) (dep_dict HD.out)
       rw [h1] at HPL
       exact congrArg Prod.fst HPL.out
end Go.Proofs.YthockgmbooefpaaGreatDoor
