/- What the law rests on, part 31. No condition but those that each theorem names. -/
import Derived.Test.YthockgmbooefpaaGreatDoorL30
import Derived.Test.YthockgmbooefpaaGreatDoorL21
import Derived.Test.YthockgmbooefpaaGreatDoorL01
import Derived.BigQuiet
import Derived.Deep.QuietTactic
import Derived.StillTailTactics
import Derived.Deep.AppendLies
import Derived.Deep.RegionLaw
import Derived.OwnWalk
import Derived.Test.YthockgmbooefpaaGreatDoorL08
set_option linter.unusedSectionVars false
set_option linter.unusedSimpArgs false
set_option linter.unusedVariables false
set_option maxRecDepth 100000
set_option maxHeartbeats 4000000
namespace Go.Proofs.YthockgmbooefpaaGreatDoor
open Go.RowKit Go.Shelf
theorem set_err {L:List PRow} {k:ByteArray} {n e:Int} (h:setE L k.toList n=e) (he:¬ e=0):setH L k n=0∧setL L k n=L:=by
 unfold setH setL
 rw [h,if_neg he,if_neg he]
 exact ⟨rfl,rfl⟩
theorem rem_err {L:List PRow} {k:ByteArray} {e:Int} (h:remE L k.toList=e) (he:¬ e=0):remH L k=0∧remL L k=L:=by
 unfold remH remL
 rw [h,if_neg he,if_neg he]
 exact ⟨rfl,rfl⟩
theorem dset_any (w:World) (hL:Lst w) {d:Nat} {L:List PRow} {q:Nat} (h:DctM w d L q) (k:ByteArray) (hk:k.size≤1099511627776) (n:Int) :
  Calls Tryz.prog 32 #[ptrV d,.string k,.int .i64 n] w fun e w'=>e=.returned (.tuple #[.int .i64 (setH L k n),.int .i64 (setE L k.toList n)])∧(∃ q',DctM w' d (setL L k n) q')∧Touch (fun g=>g=d) w w':=by
 have hdl:=h.dict.len
 have hstr:=dict_strict h.dict
 have HWG:=hide (dweigh_any w hL h k hk)
 have HWD:=hide (fun (wx:World) (T:Touch (fun _=>False) w wx)=>word_any wx k (by omega) (Lst.touch hL T))
 have HD:=hide h
 have HL:=hide hL
 obtain ⟨⟨x,t⟩,hxt⟩:∃ r,r=findP k.toList L:=⟨_,rfl⟩
 rw [← hxt] at HWG
 simp only at HWG
 have HXT:=hide hxt
 have hdlI:(L.length:Int)≤4096:=by omega
 obtain ⟨v,hv⟩:∃ v,v=wordU k.toList:=⟨_,rfl⟩
 simp only [← hv] at HWD
 have HV:=hide hv
 clear h hL hk hxt hv
 cases v with
 | false =>
  have hE:setE L k.toList n=140:=by unfold setE;rw [if_pos HV.out.symm]
  obtain ⟨hH,hLl⟩:=set_err hE (by decide)
  rw [hE,hH,hLl]
  clear hE hH hLl
  go_enter Tryz.func32,Tryz.ntmps32
  go_wp2_with fail
  refine HWG.out.mono ?_
  rintro e w1 ⟨rfl,T1⟩
  have HT1:=hide T1
  clear T1
  go_wp2_with fail
  refine (HWD.out w1 HT1.out).mono ?_
  rintro e w2 ⟨rfl,T2⟩
  have HT2:=hide (HT1.out.then T2)
  clear T2
  go_wp2_with fail
  go_ret2
  exact ⟨rfl,⟨q,HD.out.quiet HT2.out⟩,HT2.out.up _⟩
 | true =>
  have hvn:¬ wordU k.toList=false:=by rw [← HV.out];decide
  by_cases hn1:n<1
  ·have hE:setE L k.toList n=141:=by unfold setE;rw [if_neg hvn,if_pos (.inl hn1)]
   obtain ⟨hH,hLl⟩:=set_err hE (by decide)
   rw [hE,hH,hLl]
   clear hE hH hLl hvn
   go_enter Tryz.func32,Tryz.ntmps32
   go_wp2_with fail
   refine HWG.out.mono ?_
   rintro e w1 ⟨rfl,T1⟩
   have HT1:=hide T1
   clear T1
   go_wp2_with fail
   refine (HWD.out w1 HT1.out).mono ?_
   rintro e w2 ⟨rfl,T2⟩
   have HT2:=hide (HT1.out.then T2)
   clear T2
   go_wp2_with fail
   go_ret2
   exact ⟨rfl,⟨q,HD.out.quiet HT2.out⟩,HT2.out.up _⟩
  ·by_cases hn2:1048576<n
   ·have hE:setE L k.toList n=141:=by unfold setE;rw [if_neg hvn,if_pos (.inr hn2)]
    obtain ⟨hH,hLl⟩:=set_err hE (by decide)
    rw [hE,hH,hLl]
    clear hE hH hLl hvn
    go_enter Tryz.func32,Tryz.ntmps32
    go_wp2_with fail
    refine HWG.out.mono ?_
    rintro e w1 ⟨rfl,T1⟩
    have HT1:=hide T1
    clear T1
    go_wp2_with fail
    refine (HWD.out w1 HT1.out).mono ?_
    rintro e w2 ⟨rfl,T2⟩
    have HT2:=hide (HT1.out.then T2)
    clear T2
    go_wp2_with fail
    go_ret2
    exact ⟨rfl,⟨q,HD.out.quiet HT2.out⟩,HT2.out.up _⟩
   ·have hno:¬ (n<1∨1048576<n):=by omega
    obtain ⟨hq32,wb,B,nB,A,c,Z,wA,wc,oA,oc,O,hx⟩:=HD.out
    have HX:=hide hx
    have HQ:=hide hq32
    have HNN:=hide (show 1≤n∧n≤1048576 by omega)
    cases t with
    | true =>
     have hfd:(findP k.toList L).2=true:=by rw [← HXT.out]
     have hE:setE L k.toList n=0:=by unfold setE;rw [if_neg hvn,if_neg hno,if_neg (fun h=>by rw [hfd] at h;cases h.1)]
     have hH:setH L k n=x:=by unfold setH;rw [hE,if_pos rfl,← HXT.out]
     have hLl:setL L k n=putF ⟨k,n⟩ false L:=by unfold setL;rw [hE,if_pos rfl]
     rw [hE,hH,hLl]
     have hpl:(putF ⟨k,n⟩ false L).length=L.length:=by rw [put_len hstr,if_pos hfd]
     have HLY:Hid (∀ Y,Nrm (O++[⟨k,n⟩]) Y→LayP B Y (putF ⟨k,n⟩ false L)):=hide (fun Y hY=>hx.lay.put hY HV.out.symm HNN.out.1 HNN.out.2 (.inl hfd))
     have HPL:=hide hpl
     clear hE hH hLl hvn hx hno hq32 hfd hpl hstr
     go_enter Tryz.func32,Tryz.ntmps32
     go_wp2_with fail
     refine HWG.out.mono ?_
     rintro e w1 ⟨rfl,T1⟩
     have HT1:=hide T1
     clear T1
     go_wp2_with fail
     refine (HWD.out w1 HT1.out).mono ?_
     rintro e w2 ⟨rfl,T2⟩
     have HT2:=hide (HT1.out.then T2)
     have HCH:=hide (change_x w2 (Lst.touch HL.out HT2.out) (HX.out.quiet HT2.out) HQ.out ⟨k,n⟩ _ HLY.out (by rw [HPL.out]))
     simp only [PRow.val] at HCH
     clear T2
     go_wp2_with fail
     refine HCH.out.mono ?_
     rintro e w3 ⟨rfl,hd3,T3⟩
     have HD3:=hide hd3
     have HT3:=hide ((HT2.out.up _).then T3)
     clear hd3 T3 HCH
     go_wp2_with fail
     go_ret2
     exact ⟨rfl,HD3.out,HT3.out⟩
    | false =>
     have hfd:(findP k.toList L).2=false:=by rw [← HXT.out]
     have hx0:x=0:=by
      have h1:=find_zero hfd
      rw [← HXT.out] at h1
      exact congrArg Prod.fst h1
     subst hx0
     by_cases hful:L.length=4096
     ·have hE:setE L k.toList n=142:=by unfold setE;rw [if_neg hvn,if_neg hno,if_pos ⟨hfd,by omega⟩]
      obtain ⟨hH,hLl⟩:=set_err hE (by decide)
      rw [hE,hH,hLl]
      have hfi:(L.length:Int)=4096:=by omega
      clear hE hH hLl hvn hx hno hq32 hfd hstr hdl hdlI
      go_enter Tryz.func32,Tryz.ntmps32
      go_wp2_with fail
      refine HWG.out.mono ?_
      rintro e w1 ⟨rfl,T1⟩
      have HT1:=hide T1
      clear T1
      go_wp2_with fail
      refine (HWD.out w1 HT1.out).mono ?_
      rintro e w2 ⟨rfl,T2⟩
      have HT2:=hide (HT1.out.then T2)
      have hxb:=(HX.out.blk.touch HT2.out (fun f=>f))
      rw [hfi] at hxb
      obtain ⟨x0,x1,x2⟩:=hxb.facts
      clear T2 hxb hfi
      go_wp2_with fail
      go_ret2
      exact ⟨rfl,⟨q,HD.out.quiet HT2.out⟩,HT2.out.up _⟩
     ·have hlt:L.length<4096:=by omega
      have hE:setE L k.toList n=0:=by unfold setE;rw [if_neg hvn,if_neg hno,if_neg (fun h=>by omega)]
      have hH:setH L k n=0:=by unfold setH;rw [hE,if_pos rfl,← HXT.out]
      have hLl:setL L k n=putF ⟨k,n⟩ false L:=by unfold setL;rw [hE,if_pos rfl]
      rw [hE,hH,hLl]
      have hpl:(putF ⟨k,n⟩ false L).length=L.length+1:=by rw [put_len hstr,if_neg (by rw [hfd];decide)]
      have HLY:Hid (∀ Y,Nrm (O++[⟨k,n⟩]) Y→LayP B Y (putF ⟨k,n⟩ false L)):=hide (fun Y hY=>hx.lay.put hY HV.out.symm HNN.out.1 HNN.out.2 (.inr hlt))
      have HPL:=hide hpl
      have b1:((L.length:Int) == 4096)=false:=by simp;omega
      have b2:¬ (L.length:Int)=4096:=by omega
      have z1:IntKind.i64.wrap ((L.length:Int)+1)=(L.length:Int)+1:=IntWalk.i64_in _ (by omega)
      clear hE hH hLl hvn hx hno hq32 hfd hpl hstr hful hlt
      go_enter Tryz.func32,Tryz.ntmps32
      go_wp2_with fail
      refine HWG.out.mono ?_
      rintro e w1 ⟨rfl,T1⟩
      have HT1:=hide T1
      clear T1
      go_wp2_with fail
      refine (HWD.out w1 HT1.out).mono ?_
      rintro e w2 ⟨rfl,T2⟩
      have HT2:=hide (HT1.out.then T2)
      have hx2:=HX.out.quiet HT2.out
      obtain ⟨x0,x1,x2⟩:=hx2.blk.facts
      obtain ⟨w3,hw3⟩:∃ y,y=w2.setCell ⟨d,2,none⟩ (.int .i64 ((L.length:Int)+1)):=⟨_,rfl⟩
      have hT3:Touch (fun g=>g=d) w2 w3:=by rw [hw3];exact (Touch.refl (fun g=>g=d) w2).setCell (p:=⟨d,2,none⟩) (fun _=>rfl) _
      have hb3:Blk w3 d 96 #[ptrV wb,.slice oA q oc,.int .i64 ((L.length:Int)+1)]:=by
       rw [hw3]
       have:=hx2.blk.set_ 2 (.int .i64 ((L.length:Int)+1))
       simpa using this
      have hx3:DctX w3 d ((L.length:Int)+1) L wb B nB A c Z wA wc oA q oc O :=
       ⟨hb3,hx2.wk.far hT3 (fun g t hg ht=>dict_ne (blk_ty hx2.blk) hg ht),hx2.ov.touch hT3 (fun g hg=>dict_ne (blk_ty hx2.blk) hg (.inr (.inr (.inr (.inr rfl))))),hx2.len,hx2.few,hx2.nil,hx2.lay,hx2.pos⟩
      have HCH:=hide (change_x w3 ((Lst.touch HL.out HT2.out).far hT3 (fun e=>by have:=hx2.pos;omega)) hx3 HQ.out ⟨k,n⟩ _ HLY.out (by rw [HPL.out];omega))
      simp only [PRow.val] at HCH
      have HT3:=hide ((HT2.out.up _).then hT3)
      have HW3:=hide hw3
      clear T2 hx2 hw3 hT3 hb3 hx3
      go_upto_region 10 with fail
      rw [← HW3.out]
      go_wp2_with fail
      refine HCH.out.mono ?_
      rintro e w4 ⟨rfl,hd4,T4⟩
      have HD4:=hide hd4
      have HT4:=hide (HT3.out.then T4)
      clear hd4 T4 HCH
      go_wp2_with fail
      go_ret2
      exact ⟨rfl,HD4.out,HT4.out⟩
theorem dremove_any (w:World) (hL:Lst w) {d:Nat} {L:List PRow} {q:Nat} (h:DctM w d L q) (k:ByteArray) (hk:k.size≤1099511627776) :
  Calls Tryz.prog 35 #[ptrV d,.string k] w fun e w'=>e=.returned (.tuple #[.int .i64 (remH L k),.int .i64 (remE L k.toList)])∧(∃ q',DctM w' d (remL L k) q')∧Touch (fun g=>g=d) w w':=by
 have hdl:=h.dict.len
 have hstr:=dict_strict h.dict
 have HWG:=hide (dweigh_any w hL h k hk)
 have HWD:=hide (fun (wx:World) (T:Touch (fun _=>False) w wx)=>word_any wx k (by omega) (Lst.touch hL T))
 have HD:=hide h
 have HL:=hide hL
 obtain ⟨⟨x,t⟩,hxt⟩:∃ r,r=findP k.toList L:=⟨_,rfl⟩
 rw [← hxt] at HWG
 simp only at HWG
 have HXT:=hide hxt
 obtain ⟨v,hv⟩:∃ v,v=wordU k.toList:=⟨_,rfl⟩
 simp only [← hv] at HWD
 have HV:=hide hv
 clear h hL hk hxt hv
 cases v with
 | false =>
  have hE:remE L k.toList=140:=by unfold remE;rw [if_pos HV.out.symm]
  obtain ⟨hH,hLl⟩:=rem_err hE (by decide)
  rw [hE,hH,hLl]
  clear hE hH hLl
  go_enter Tryz.func35,Tryz.ntmps35
  go_wp2_with fail
  refine HWG.out.mono ?_
  rintro e w1 ⟨rfl,T1⟩
  have HT1:=hide T1
  clear T1
  go_wp2_with fail
  refine (HWD.out w1 HT1.out).mono ?_
  rintro e w2 ⟨rfl,T2⟩
  have HT2:=hide (HT1.out.then T2)
  clear T2
  go_wp2_with fail
  go_ret2
  exact ⟨rfl,⟨q,HD.out.quiet HT2.out⟩,HT2.out.up _⟩
 | true =>
  have hvn:¬ wordU k.toList=false:=by rw [← HV.out];decide
  cases t with
  | false =>
   have hfd:(findP k.toList L).2=false:=by rw [← HXT.out]
   have hE:remE L k.toList=143:=by unfold remE;rw [if_neg hvn,if_pos hfd]
   obtain ⟨hH,hLl⟩:=rem_err hE (by decide)
   rw [hE,hH,hLl]
   clear hE hH hLl hvn hfd
   go_enter Tryz.func35,Tryz.ntmps35
   go_wp2_with fail
   refine HWG.out.mono ?_
   rintro e w1 ⟨rfl,T1⟩
   have HT1:=hide T1
   clear T1
   go_wp2_with fail
   refine (HWD.out w1 HT1.out).mono ?_
   rintro e w2 ⟨rfl,T2⟩
   have HT2:=hide (HT1.out.then T2)
   clear T2
   go_wp2_with fail
   go_ret2
   exact ⟨rfl,⟨q,HD.out.quiet HT2.out⟩,HT2.out.up _⟩
  | true =>
   have hfd:(findP k.toList L).2=true:=by rw [← HXT.out]
   have hE:remE L k.toList=0:=by unfold remE;rw [if_neg hvn,if_neg (by rw [hfd];decide)]
   have hH:remH L k=x:=by unfold remH;rw [hE,if_pos rfl,← HXT.out]
   have hLl:remL L k=dropP k.toList L:=by unfold remL;rw [hE,if_pos rfl]
   rw [hE,hH,hLl]
   obtain ⟨hq32,wb,B,nB,A,c,Z,wA,wc,oA,oc,O,hx⟩:=HD.out
   have HX:=hide hx
   have HQ:=hide hq32
   have hpl:(dropP k.toList L).length+1=L.length:=by have:=drop_len hstr k.toList;rw [hfd,if_pos rfl] at this;exact this
   have HLY:Hid (∀ Y,Nrm (O++[⟨k,0⟩]) Y→LayP B Y (dropP k.toList L)):=hide (fun Y hY=>hx.lay.drop hY HV.out.symm)
   have HPL:=hide hpl
   have z1:IntKind.i64.wrap ((L.length:Int)-1)=(L.length:Int)-1:=IntWalk.i64_in _ (by omega)
   clear hE hH hLl hvn hx hq32 hfd hpl hstr
   go_enter Tryz.func35,Tryz.ntmps35
   go_wp2_with fail
   refine HWG.out.mono ?_
   rintro e w1 ⟨rfl,T1⟩
   have HT1:=hide T1
   clear T1
   go_wp2_with fail
   refine (HWD.out w1 HT1.out).mono ?_
   rintro e w2 ⟨rfl,T2⟩
   have HT2:=hide (HT1.out.then T2)
   have hx2:=HX.out.quiet HT2.out
   obtain ⟨x0,x1,x2⟩:=hx2.blk.facts
   obtain ⟨w3,hw3⟩:∃ y,y=w2.setCell ⟨d,2,none⟩ (.int .i64 ((L.length:Int)-1)):=⟨_,rfl⟩
   have hT3:Touch (fun g=>g=d) w2 w3:=by rw [hw3];exact (Touch.refl (fun g=>g=d) w2).setCell (p:=⟨d,2,none⟩) (fun _=>rfl) _
   have hb3:Blk w3 d 96 #[ptrV wb,.slice oA q oc,.int .i64 ((L.length:Int)-1)]:=by
    rw [hw3]
    have:=hx2.blk.set_ 2 (.int .i64 ((L.length:Int)-1))
    simpa using this
   have hx3:DctX w3 d ((L.length:Int)-1) L wb B nB A c Z wA wc oA q oc O :=
    ⟨hb3,hx2.wk.far hT3 (fun g t hg ht=>dict_ne (blk_ty hx2.blk) hg ht),hx2.ov.touch hT3 (fun g hg=>dict_ne (blk_ty hx2.blk) hg (.inr (.inr (.inr (.inr rfl))))),hx2.len,hx2.few,hx2.nil,hx2.lay,hx2.pos⟩
   have HCH:=hide (change_x w3 ((Lst.touch HL.out HT2.out).far hT3 (fun e=>by have:=hx2.pos;omega)) hx3 HQ.out ⟨k,0⟩ _ HLY.out (by have:=HPL.out;omega))
   simp only [PRow.val] at HCH
   have HT3:=hide ((HT2.out.up _).then hT3)
   have HW3:=hide hw3
   clear T2 hx2 hw3 hT3 hb3 hx3
   go_upto_region 7 with fail
   rw [← HW3.out]
   go_wp2_with fail
   refine HCH.out.mono ?_
   rintro e w4 ⟨rfl,hd4,T4⟩
   have HD4:=hide hd4
   have HT4:=hide (HT3.out.then T4)
   clear hd4 T4 HCH
   go_wp2_with fail
   go_ret2
   exact ⟨rfl,HD4.out,HT4.out⟩
end Go.Proofs.YthockgmbooefpaaGreatDoor
namespace Go.Proofs.YthockgmbooefpaaGreatDoor
open Go.RowKit
structure RfL (B0:Nat) (w:World) (s:SL) (L:List PRow):Prop where
 ok:s.Ok w
 eq:s.L=L
 far:0<s.n→∀ g,adBlock s.A=some g→g<B0∨TyAt w g 125
theorem RfL.touch {B0:Nat} {w w':World} {s:SL} {L:List PRow} {S:Nat→Prop} (h:RfL B0 w s L) (T:Touch S w w') (h1:∀ g,g<B0→¬ S g) (h2:∀ g,TyAt w g 125 → ¬ S g):RfL B0 w' s L:=by
 have hS:0<s.n→∀ g,adBlock s.A=some g→¬ S g:=fun h0 g hg=>(h.far h0 g hg).elim (h1 g) (h2 g)
 refine ⟨⟨h.ok.len,?_,h.ok.nil⟩,h.eq,fun h0 g hg=>(h.far h0 g hg).imp id (fun ht=>ht.touch T (h2 g ht))⟩
 rcases Nat.eq_zero_or_pos s.n with e | e
 ·exact ⟨h.ok.reads.1,fun h0=>by omega⟩
 ·exact h.ok.reads.touch T (hS e)
theorem RfL.quiet {B0:Nat} {w w':World} {s:SL} {L:List PRow} (h:RfL B0 w s L) (T:Touch (fun _=>False) w w'):RfL B0 w' s L:=h.touch T (fun _ _ f=>f) (fun _ _ f=>f)
theorem RfL.dict {B0:Nat} {w w':World} {s:SL} {L:List PRow} {d:Nat} (h:RfL B0 w s L) (T:Touch (fun g=>g=d) w w') (hd:B0≤d) (ht:TyAt w d 96):RfL B0 w' s L :=
 h.touch T (fun g hg e=>by omega) (fun g hg=>dict_ne ht hg (.inr (.inr (.inr (.inr rfl)))))
theorem RfL.own {B0:Nat} {w:World} {A:Option Addr} {n c:Nat} {L:List PRow} (h:POwn w A n c L):RfL B0 w ⟨A,n,c,L⟩ L :=
 ⟨own_okD h,rfl,fun h0 g hg=>.inr ((RdT.of_own h).ty h0 g hg)⟩
theorem dict_wf {L:List PRow} (hD:DictP L):∀ r∈L,r.Wf:=fun r hr=>by have:=dict_sizes hD r hr;unfold PRow.Wf;omega
theorem rset_any (w:World) (B0:Nat) (s:SL) {L:List PRow} (hs:RfL B0 w s L) (hD:DictP L) (k:ByteArray) (hk:k.size≤1099511627776) (n:Int) :
  Calls Tryz.prog 122 #[s.val,.string k,.int .i64 n] w fun e w'=>∃ s':SL,e=.returned (.tuple #[s'.val,.int .i64 (setH L k n),.int .i64 (setE L k.toList n)])∧RfL B0 w' s' (setL L k n)∧Touch (fun _=>False) w w':=by
 have HRW:=hide (rword_any w k (by omega))
 have hdl:=hD.len
 have hsl:=hs.ok.len
 have heq:=hs.eq
 obtain ⟨sA,sn,sc,sL⟩:=s
 simp only at heq hsl
 subst heq
 have hsn:sn≤4096:=by omega
 have hsnI:(sn:Int)≤4096:=by omega
 have HRF:=hide (fun (wx:World) (T:Touch (fun _=>False) w wx)=>rfind_any wx sA sn sc sL hsl (hs.ok.reads.touch T (fun _ _ f=>f)) (by unfold maxLen;omega) k)
 have HPU:=hide (fun (wx:World) (T:Touch (fun _=>False) w wx)=>put_any wx sA sn sc sL hsl (hs.ok.reads.touch T (fun _ _ f=>f)) (by omega) (dict_wf hD) ⟨k,n⟩ (by show k.size≤9223372036854775807;omega))
 have HS:=hide hs
 obtain ⟨⟨x,t⟩,hxt⟩:∃ r,r=findP k.toList sL:=⟨_,rfl⟩
 simp only [← hxt] at HRF
 have HXT:=hide hxt
 obtain ⟨v,hv⟩:∃ v,v=wordU k.toList:=⟨_,rfl⟩
 rw [← hv] at HRW
 have HV:=hide hv
 have HSL:=hide hsl
 simp only [SL.val]
 clear hs hk hxt hv hD
 cases v with
 | false =>
  have hE:setE sL k.toList n=140:=by unfold setE;rw [if_pos HV.out.symm]
  obtain ⟨hH,hLl⟩:=set_err hE (by decide)
  rw [hE,hH,hLl]
  clear hE hH hLl
  go_enter Tryz.func122,Tryz.ntmps122
  go_wp2_with fail
  refine HRW.out.mono ?_
  rintro e w1 ⟨rfl,T1⟩
  have HT1:=hide T1
  clear T1
  go_wp2_with fail
  refine (HRF.out w1 HT1.out).mono ?_
  rintro e w2 ⟨rfl,T2⟩
  have HT2:=hide (HT1.out.then T2)
  clear T2
  go_wp2_with fail
  go_ret3
  exact ⟨⟨sA,sn,sc,sL⟩,rfl,HS.out.quiet HT2.out,HT2.out⟩
 | true =>
  have hvn:¬ wordU k.toList=false:=by rw [← HV.out];decide
  by_cases hn1:n<1
  ·have hE:setE sL k.toList n=141:=by unfold setE;rw [if_neg hvn,if_pos (.inl hn1)]
   obtain ⟨hH,hLl⟩:=set_err hE (by decide)
   rw [hE,hH,hLl]
   clear hE hH hLl hvn
   go_enter Tryz.func122,Tryz.ntmps122
   go_wp2_with fail
   refine HRW.out.mono ?_
   rintro e w1 ⟨rfl,T1⟩
   have HT1:=hide T1
   clear T1
   go_wp2_with fail
   refine (HRF.out w1 HT1.out).mono ?_
   rintro e w2 ⟨rfl,T2⟩
   have HT2:=hide (HT1.out.then T2)
   clear T2
   go_wp2_with fail
   go_ret3
   exact ⟨⟨sA,sn,sc,sL⟩,rfl,HS.out.quiet HT2.out,HT2.out⟩
  ·by_cases hn2:1048576<n
   ·have hE:setE sL k.toList n=141:=by unfold setE;rw [if_neg hvn,if_pos (.inr hn2)]
    obtain ⟨hH,hLl⟩:=set_err hE (by decide)
    rw [hE,hH,hLl]
    clear hE hH hLl hvn
    go_enter Tryz.func122,Tryz.ntmps122
    go_wp2_with fail
    refine HRW.out.mono ?_
    rintro e w1 ⟨rfl,T1⟩
    have HT1:=hide T1
    clear T1
    go_wp2_with fail
    refine (HRF.out w1 HT1.out).mono ?_
    rintro e w2 ⟨rfl,T2⟩
    have HT2:=hide (HT1.out.then T2)
    clear T2
    go_wp2_with fail
    go_ret3
    exact ⟨⟨sA,sn,sc,sL⟩,rfl,HS.out.quiet HT2.out,HT2.out⟩
   ·have hno:¬ (n<1∨1048576<n):=by omega
    by_cases hful:t=false∧sn=4096
    ·obtain ⟨ht,hs4⟩:=hful
     subst ht
     have hfd:(findP k.toList sL).2=false:=by rw [← HXT.out]
     have hE:setE sL k.toList n=142:=by unfold setE;rw [if_neg hvn,if_neg hno,if_pos ⟨hfd,by omega⟩]
     obtain ⟨hH,hLl⟩:=set_err hE (by decide)
     rw [hE,hH,hLl]
     have b1:(4096:Int)≤(sn:Int):=by omega
     clear hE hH hLl hvn hfd hno hs4
     go_enter Tryz.func122,Tryz.ntmps122
     go_wp2_with fail
     refine HRW.out.mono ?_
     rintro e w1 ⟨rfl,T1⟩
     have HT1:=hide T1
     clear T1
     go_wp2_with fail
     refine (HRF.out w1 HT1.out).mono ?_
     rintro e w2 ⟨rfl,T2⟩
     have HT2:=hide (HT1.out.then T2)
     clear T2
     go_wp2_with fail
     go_ret3
     exact ⟨⟨sA,sn,sc,sL⟩,rfl,HS.out.quiet HT2.out,HT2.out⟩
    ·have hE:setE sL k.toList n=0:=by
      unfold setE
      rw [if_neg hvn,if_neg hno,if_neg]
      rintro ⟨h1,h2⟩
      rw [← HXT.out] at h1
      exact hful ⟨h1,by omega⟩
     have hH:setH sL k n=x:=by unfold setH;rw [hE,if_pos rfl,← HXT.out]
     have hLl:setL sL k n=putF ⟨k,n⟩ false sL:=by unfold setL;rw [hE,if_pos rfl]
     rw [hE,hH,hLl]
     have hcase:t=true∨(t=false∧¬ (4096:Int)≤(sn:Int)):=by
      cases t with
      | true=>exact .inl rfl
      | false=>exact .inr ⟨rfl,fun h=>hful ⟨rfl,by omega⟩⟩
     simp only [PRow.val] at HPU
     clear hE hH hLl hvn hno hful
     rcases hcase with rfl | ⟨rfl,b1⟩
     all_goals
      go_enter Tryz.func122,Tryz.ntmps122
      go_wp2_with fail
      refine HRW.out.mono ?_
      rintro e w1 ⟨rfl,T1⟩
      have HT1:=hide T1
      clear T1
      go_wp2_with fail
      refine (HRF.out w1 HT1.out).mono ?_
      rintro e w2 ⟨rfl,T2⟩
      have HT2:=hide (HT1.out.then T2)
      clear T2
      go_wp2_with fail
      refine (HPU.out w2 HT2.out).mono ?_
      rintro e w3 ⟨A3,q3,c3,rfl,N3,_⟩
      have HN3:=hide N3
      have HT3:=hide (HT2.out.then N3.touch)
      clear N3
      go_wp2_with fail
      go_ret3
      exact ⟨⟨A3,q3,c3,putF ⟨k,n⟩ false sL⟩,rfl,RfL.own HN3.out.own,HT3.out⟩
theorem dropP_snoc (w:List UInt8) (O:List PRow) (p:PRow):dropP w (O++[p])=if p.word.toList=w then dropP w O else dropP w O++[p]:=by
 unfold dropP
 rw [List.filter_append]
 split
 ·rename_i h;simp [h]
 ·rename_i h;simp [h]
theorem rremove_any (w:World) (B0:Nat) (s:SL) {L:List PRow} (hs:RfL B0 w s L) (hD:DictP L) (k:ByteArray) (hk:k.size≤1099511627776) :
  Calls Tryz.prog 121 #[s.val,.string k] w fun e w'=>∃ s':SL,e=.returned (.tuple #[s'.val,.int .i64 (remH L k),.int .i64 (remE L k.toList)])∧RfL B0 w' s' (remL L k)∧Touch (fun _=>False) w w':=by
 have HRW:=hide (rword_any w k (by omega))
 have hdl:=hD.len
 have hsl:=hs.ok.len
 have heq:=hs.eq
 obtain ⟨sA,sn,sc,sL⟩:=s
 simp only at heq hsl
 subst heq
 have hsn:sn≤4096:=by omega
 have hsnI:(sn:Int)≤4096:=by omega
 have HRF:=hide (fun (wx:World) (T:Touch (fun _=>False) w wx)=>rfind_any wx sA sn sc sL hsl (hs.ok.reads.touch T (fun _ _ f=>f)) (by unfold maxLen;omega) k)
 have HS:=hide hs
 obtain ⟨⟨x,t⟩,hxt⟩:∃ r,r=findP k.toList sL:=⟨_,rfl⟩
 simp only [← hxt] at HRF
 have HXT:=hide hxt
 obtain ⟨v,hv⟩:∃ v,v=wordU k.toList:=⟨_,rfl⟩
 rw [← hv] at HRW
 have HV:=hide hv
 have HSL:=hide hsl
 simp only [SL.val]
 clear hs hk hxt hv hD
 cases v with
 | false =>
  have hE:remE sL k.toList=140:=by unfold remE;rw [if_pos HV.out.symm]
  obtain ⟨hH,hLl⟩:=rem_err hE (by decide)
  rw [hE,hH,hLl]
  clear hE hH hLl
  go_enter Tryz.func121,Tryz.ntmps121
  go_wp2_with fail
  refine HRW.out.mono ?_
  rintro e w1 ⟨rfl,T1⟩
  have HT1:=hide T1
  clear T1
  go_wp2_with fail
  refine (HRF.out w1 HT1.out).mono ?_
  rintro e w2 ⟨rfl,T2⟩
  have HT2:=hide (HT1.out.then T2)
  clear T2
  go_wp2_with fail
  go_ret3
  exact ⟨⟨sA,sn,sc,sL⟩,rfl,HS.out.quiet HT2.out,HT2.out⟩
 | true =>
  have hvn:¬ wordU k.toList=false:=by rw [← HV.out];decide
  cases t with
  | false =>
   have hfd:(findP k.toList sL).2=false:=by rw [← HXT.out]
   have hE:remE sL k.toList=143:=by unfold remE;rw [if_neg hvn,if_pos hfd]
   obtain ⟨hH,hLl⟩:=rem_err hE (by decide)
   rw [hE,hH,hLl]
   clear hE hH hLl hvn hfd
   go_enter Tryz.func121,Tryz.ntmps121
   go_wp2_with fail
   refine HRW.out.mono ?_
   rintro e w1 ⟨rfl,T1⟩
   have HT1:=hide T1
   clear T1
   go_wp2_with fail
   refine (HRF.out w1 HT1.out).mono ?_
   rintro e w2 ⟨rfl,T2⟩
   have HT2:=hide (HT1.out.then T2)
   clear T2
   go_wp2_with fail
   go_ret3
   exact ⟨⟨sA,sn,sc,sL⟩,rfl,HS.out.quiet HT2.out,HT2.out⟩
  | true =>
   have hfd:(findP k.toList sL).2=true:=by rw [← HXT.out]
   have hE:remE sL k.toList=0:=by unfold remE;rw [if_neg hvn,if_neg (by rw [hfd];decide)]
   have hH:remH sL k=x:=by unfold remH;rw [hE,if_pos rfl,← HXT.out]
   have hLl:remL sL k=dropP k.toList sL:=by unfold remL;rw [hE,if_pos rfl]
   rw [hE,hH,hLl]
   obtain ⟨i0,hi,hz0,hz1,hz2⟩:=info_parts infoPair
   clear hE hH hLl hvn hfd
   go_enter Tryz.func121,Tryz.ntmps121
   go_wp2_with fail
   refine HRW.out.mono ?_
   rintro e w1 ⟨rfl,T1⟩
   have HT1:=hide T1
   clear T1
   go_wp2_with fail
   refine (HRF.out w1 HT1.out).mono ?_
   rintro e w2 ⟨rfl,T2⟩
   have HT2:=hide (HT1.out.then T2)
   clear T2
   go_wp2_with fail
   go_loopw [10,11] (fun ov iv wr=>∃ (i q:Nat) (A5:Option Addr) (c5:Nat),iv=.int .i64 i∧ov=.slice A5 q c5∧i≤sn∧q≤i∧Hid (PNx w2 wr (.slice A5 q c5) q (dropP k.toList (sL.take i)))) (fun _ iv _=>sn-(intOf iv).toNat)
   case atStart=>exact ⟨0,0,none,0,rfl,rfl,Nat.zero_le _,Nat.le_refl _,hide ⟨World.ownsRow_nil _ _ _ _,rfl,Touch.refl _ _,fun g e=>by simp [Value.ownBlock] at e⟩⟩
   case round =>
    obtain ⟨i,q,A5,c5,rfl,rfl,hin',hqi,HP⟩:=hrel
    by_cases hin:i<sn
    ·have y0:(i:Int)<(sn:Int):=by omega
     have y1:(0:Int)≤(i:Int):=by omega
     have y2:IntKind.i64.wrap ((i:Int)+1)=(i:Int)+1:=IntWalk.i64_in _ (by omega)
     have hrr:=HS.out.ok.reads.touch (HT2.out.then HP.out.touch) (fun _ _ f=>f)
     simp only at hrr
     obtain ⟨gl,ol,hAl,hgl,l0,l1⟩:=preads_at hrr HSL.out.symm i hin
     subst hAl
     have hsn2:=psnoc sL i (by rw [HSL.out];exact hin)
     obtain ⟨⟨xw,xn⟩,hx⟩:∃ x,x=sL.getD i PRow.zero:=⟨_,rfl⟩
     rw [← hx] at l0 l1 hsn2
     simp only at l0 l1
     have hds:=dropP_snoc k.toList (sL.take i) ⟨xw,xn⟩
     rw [← hsn2] at hds
     have HDS:=hide hds
     have HIN:=hide hin
     clear hrr hx hsn2 hds
     by_cases q1:xw.toList=k.toList
     ·have q2:(xw.toList == k.toList)=true:=by simp [q1]
      have q3:xw=k:=toList_inj q1
      have HQ1:=hide q1
      subst q3
      clear hin
      go_wp2_with fail
      go_roundw
      ·exact ⟨i+1,q,A5,c5,by simp,rfl,by have:=HIN.out;omega,by omega,hide (by rw [HDS.out,if_pos HQ1.out];exact HP.out)⟩
      ·show sn-(intOf (.int .i64 ((i:Int)+1))).toNat<sn-(intOf (.int .i64 (i:Int))).toNat
       have:=HIN.out
       simp [intOf]
       omega
     ·have q2:(xw.toList == k.toList)=false:=by simp [q1]
      have q4:¬ xw=k:=fun e=>q1 (by rw [e])
      have HQ1:=hide q1
      obtain ⟨A5',c5',e5,_,hm5⟩:=own_len HP.out.own
      injection e5 with e51 e52 e53
      subst e51 e53
      clear hin e52
      go_wp2_with (at_builtin;refine wpList_app _ rfl (.tmp 39) (.tmp 44) 37 rfl 125 i0 _ 2 24 Tryz.underlying37 hi hz0 hz1 hz2 rfl (by decide) (.slice A5 q c5) q _ rfl (own_touch HP.out.own ((Touch.refl _ _).alloc _) (fun _ _ f=>f)) (some ⟨_,0,none⟩) 1 1 (PRow.cells ⟨xw,xn⟩) rfl ?s1a ?s1b ?s1c ?s1d ?s1e ?_)
      case s1a=>exact Reads.new _ _ _ _ rfl
      try (case s1b=>exact fun h=>by cases h)
      case s1c=>exact List.all_eq_true.1 rfl
      case s1d=>unfold maxLen;omega
      case s1e=>omega
      intro v3 w3 hown hgrow hfr _
      obtain ⟨A6,c6,hv6,_,_⟩:=own_len hown
      subst hv6
      have HN3:=hide ((HP.out.to ((Touch.refl _ _).alloc _)).app hown hgrow hfr)
      clear hown hgrow hfr
      go_wp2_with fail
      go_roundw
      ·exact ⟨i+1,q+1,A6,c6,by simp,rfl,by have:=HIN.out;omega,by omega,hide (by rw [HDS.out,if_neg HQ1.out];exact HN3.out)⟩
      ·show sn-(intOf (.int .i64 ((i:Int)+1))).toNat<sn-(intOf (.int .i64 (i:Int))).toNat
       have:=HIN.out
       simp [intOf]
       omega
    ·have y0:¬ (i:Int)<(sn:Int):=by omega
     have hie:sL.take i=sL:=List.take_of_length_le (by rw [HSL.out];omega)
     have HIE:=hide hie
     clear hie hin
     go_wp2_with fail
     go_ret3
     have hp:=HP.out
     rw [HIE.out] at hp
     exact ⟨⟨A5,q,c5,dropP k.toList sL⟩,rfl,RfL.own hp.own,HT2.out.then hp.touch⟩
end Go.Proofs.YthockgmbooefpaaGreatDoor
namespace Go.Proofs.YthockgmbooefpaaGreatDoor
open Go.RowKit
def MRow.val (r:MRow):Value:=.agg #[.string r.word,.int .i64 r.weight,.int .i64 r.dist]
structure Pil (w:World) (p:Nat) (most:Int) (v:Value) (X:List MRow):Prop where
 blk:Blk w p 264 #[.int .i64 most,v]
 own:w.ownsRow 0 43 3 v X.length (mCells X)
def pfp (p:Nat) (v:Value):Nat→Prop:=fun g=>g=p∨v.ownBlock=some g
theorem Pil.touch {w w':World} {p:Nat} {most:Int} {v:Value} {X:List MRow} {S:Nat→Prop} (h:Pil w p most v X) (ht:Touch S w w') (hs:∀ g,g<w.heap.size→pfp p v g→¬ S g):Pil w' p most v X:=by
 refine ⟨h.blk.touch ht (hs p h.blk.lt (.inl rfl)),own_touch h.own ht (fun g hg=>hs g ?_ (.inr hg))⟩
 rcases h.own.2 with ⟨rfl,_⟩ | ⟨g',cap,cur,rfl,_,hgg,_⟩
 ·simp [Value.ownBlock] at hg
 ·simp [Value.ownBlock] at hg
  subst hg
  exact (Array.getElem?_eq_some_iff.1 hgg).1
theorem Pil.quiet {w w':World} {p:Nat} {most:Int} {v:Value} {X:List MRow} (h:Pil w p most v X) (ht:Touch (fun _=>False) w w'):Pil w' p most v X:=h.touch ht (fun _ _ _ f=>f)
theorem val_cells (m:MRow):m.val=.agg #[.string m.word,.int .i64 m.weight,.int .i64 m.dist]:=rfl
structure Kep (w:World) (p:Nat) (most:Nat) (v:Value) (S:List MRow):Prop where
 ex:∃ H,Pil w p (most:Int) v H∧H.Perm S∧Heap H H.length
 srt:Srt S
 len:S.length≤most
 m64:most≤64
theorem Kep.touch {w w':World} {p most:Nat} {v:Value} {S:List MRow} {T:Nat→Prop} (h:Kep w p most v S) (ht:Touch T w w') (hs:∀ g,g<w.heap.size→pfp p v g→¬ T g):Kep w' p most v S:=by
 obtain ⟨H,hp,h1,h2⟩:=h.ex
 exact ⟨⟨H,hp.touch ht hs,h1,h2⟩,h.srt,h.len,h.m64⟩
theorem add_zero (w:World) (p:Nat) (v:Value) (S:List MRow) (h:Kep w p 0 v S) (m:MRow) :
  Calls Tryz.prog 108 #[.pointer (some ⟨p,0,none⟩),m.val] w fun e w'=>e=.returned (.bool false)∧Touch (fun _=>False) w w':=by
 obtain ⟨H,hp,hperm,hh⟩:=h.ex
 have c0:=hp.blk.cell 0
 simp at c0
 have hpl:=hp.blk.lt
 obtain ⟨mw,mn,md⟩:=m
 rw [val_cells]
 simp only
 clear hp hperm hh h
 go_enter Tryz.func108,Tryz.ntmps108
 go_wp2
 go_ret
 exact ⟨rfl,(Touch.refl _ _).alloc _⟩
structure Nx (w0 w:World) (v:Value) (q:Nat) (N:List MRow):Prop where
 own:w.ownsRow 0 43 3 v q (mCells N)
 len:N.length=q
 touch:Touch (fun _=>False) w0 w
 fresh:∀ g,v.ownBlock=some g→w0.heap.size≤g
theorem Nx.to {w0 w w2:World} {v:Value} {q:Nat} {N:List MRow} (h:Nx w0 w v q N) (t:Touch (fun _=>False) w w2):Nx w0 w2 v q N :=
 ⟨own_touch h.own t (fun _ _ f=>f),h.len,h.touch.then t,h.fresh⟩
theorem mCells_snoc (N:List MRow) (m:MRow):mCells (N++[m])=mCells N++m.cells:=by simp [mCells]
theorem Nx.app {w0 w1 w3:World} {v v':Value} {q:Nat} {N:List MRow} {m:MRow} (h:Nx w0 w1 v q N) (ho:w3.ownsRow 0 43 3 v' (q+1) (mCells N++m.cells)) (hg:w1.grownBy w3 v.ownBlock) (hf:Fresh w1 v v') :
  Nx w0 w3 v' (q+1) (N++[m]):=by
 refine ⟨by rw [mCells_snoc];exact ho,by simp [h.len],?_,?_⟩
 ·exact h.touch.trans ((Touch.refl (fun g=>v.ownBlock=some g) w1).grown hg (fun k hk _=>hk)) (fun i hi e=>by have:=h.fresh i e;omega)
 ·intro g e
  rcases hf with k | ⟨g',k,hk⟩
  ·exact h.fresh g (by rw [← k];exact e)
  ·rw [k] at e
   injection e with e
   have:=h.touch.size
   omega
end Go.Proofs.YthockgmbooefpaaGreatDoor
namespace Go.Proofs.YthockgmbooefpaaGreatDoor
open Go.RowKit Go.Shelf
def LoadPost (w:World) (L:List PRow) (e:Ending) (w':World):Prop :=
 (rightU L=false∧(∃ k:Int,(70≤k∧k=errU L)∧e=.returned (.tuple #[.pointer none,.int .i64 k]))∧Touch (fun _=>False) w w') ∨
 (rightU L=true∧∃ d,e=.returned (.tuple #[ptrV d,.int .i64 0])∧DctM w' d L 0∧w.heap.size≤d∧Touch (fun _=>False) w w')
theorem dload_any (w:World) (hL:Lst w) (s:SL) (hs:s.Ok w) (hWz:∀ r∈s.L,r.word.size≤1099511627776) (hn:s.n≤maxLen) :
  Calls Tryz.prog 11 #[s.val] w (LoadPost w s.L):=by
 have HFB:=hide (fbuild_any w hL s hs hWz hn)
 have HL:=hide hL
 have HSL:=hide hs.len
 obtain ⟨sA,sn,sc,sL⟩:=s
 simp only [SL.val] at HFB ⊢
 clear hs hWz hn hL
 go_enter Tryz.func11,Tryz.ntmps11
 go_wp2_with fail
 refine HFB.out.mono ?_
 rintro e w1 (⟨hr,k,hk,rfl,T1⟩ | ⟨hr,A,n,c,Z,rfl,hst,hz,_,T1⟩)
 ·have hT2:Touch (fun _=>False) w (w1.alloc (.cells #[.int .i64 0,.slice none 0 0] 89)):=T1.alloc _
  have k1:(k == 0)=false:=by simp;omega
  have k2:¬ k=0:=by omega
  have HT2:=hide hT2
  have HR:=hide (And.intro hr hk)
  clear hT2 T1 HFB hk hr
  go_wp2_with fail
  go_ret2
  exact .inl ⟨HR.out.1,⟨k,HR.out.2,rfl⟩,HT2.out⟩
 ·have hD:=dict_of_right hr
  obtain ⟨bs,hbs⟩:∃ b,b=(mach sL).base:=⟨_,rfl⟩
  obtain ⟨w2,hw2⟩:∃ x,x=w1.alloc (.cells #[.int .i64 bs,.slice A n c] 89):=⟨_,rfl⟩
  have hT12:Touch (fun _=>False) w1 w2:=by rw [hw2];exact (Touch.refl _ _).alloc _
  have hT2:Touch (fun _=>False) w w2:=T1.then hT12
  have hbM:Blk w2 w1.heap.size 89 #[.int .i64 bs,.slice A n c]:=by rw [hw2];exact Blk.new _ _ _
  have hdn:=dnew_any w2 (Lst.touch HL.out hT2) sL hD A n c Z (hst.quiet hT12) hz
  rw [← hbs] at hdn
  have HT2:=hide hT2
  have HW2:=hide hw2
  have HDN:=hide hdn
  have HD:=hide hD
  have HR:=hide hr
  obtain ⟨m0,m1,m2⟩:=hbM.facts
  rw [← hbs]
  clear hw2 hT2 T1 HFB hT12 hbM hdn hst hz hr hD hbs
  go_wp2_with fail
  rw [← HW2.out]
  go_wp2_with fail
  refine HDN.out.mono ?_
  rintro e w3 ⟨b,A',c',Z',wA,wc,rfl,hdw,hI⟩
  have HT3:=hide (HT2.out.then hI.touch)
  have HDW:=hide hdw
  clear hdw hI HDN m0 m1 m2
  go_wp2_with fail
  go_ret2
  have hT4:Touch (fun _=>False) w3 (w3.alloc (.cells #[ptrV b,.slice none 0 0,.int .i64 (sn:Int)] 96)):=(Touch.refl _ _).alloc _
  refine .inr ⟨HR.out,w3.heap.size,rfl,⟨Nat.zero_le _,_,_,_,_,_,_,_,_,none,0,[],⟨?_,HDW.out.quiet hT4,⟨Reads.nil _ _ _,fun h=>absurd h (by omega)⟩,rfl,by omega,fun _=>⟨rfl,rfl⟩,LayP.begin HD.out,?_⟩⟩,HT3.out.size,HT3.out.then hT4⟩
  ·have e:(sL.length:Int)=(sn:Int):=by have h0:sL.length=sn:=HSL.out;omega
   rw [e]
   exact Blk.new _ _ _
  ·exact Nat.lt_of_lt_of_le HL.out.1 HT3.out.size
theorem dnew14_any (w:World) (hL:Lst w) :
  Calls Tryz.prog 30 #[] w fun e w'=>∃ d,e=.returned (ptrV d)∧DctM w' d [] 0∧w.heap.size≤d∧Touch (fun _=>False) w w':=by
 have HLD:=hide (dload_any w hL ⟨none,0,0,[]⟩ ⟨rfl,Reads.nil _ _ _,fun _=>⟨rfl,rfl⟩⟩ (fun r hr=>by cases hr) (by unfold maxLen;simp only;omega))
 simp only [SL.val] at HLD
 clear hL
 go_enter Tryz.func30,Tryz.ntmps30
 go_wp2_with fail
 refine HLD.out.mono ?_
 rintro e w1 (⟨hr,_⟩ | ⟨_,d,rfl,hd,hdl,T1⟩)
 ·cases hr
 ·have HD:=hide hd
  have HDL:=hide hdl
  have HT1:=hide T1
  clear hd hdl T1 HLD
  go_wp2_with fail
  go_ret
  exact ⟨d,rfl,HD.out,HDL.out,HT1.out⟩
end Go.Proofs.YthockgmbooefpaaGreatDoor
namespace Go.Proofs.YthockgmbooefpaaGreatDoor
open Go.RowKit
structure OpD where
 kind:Int
 word:ByteArray
 n:Int
def OpD.zero:OpD:=⟨0,ByteArray.empty,0⟩
def OpD.cells (o:OpD):List Value:=[.int .i64 o.kind,.string o.word,.int .i64 o.n]
def OpD.val (o:OpD):Value:=.agg #[.int .i64 o.kind,.string o.word,.int .i64 o.n]
def OpD.Wf (o:OpD):Prop:=o.word.size≤1099511627776
end Go.Proofs.YthockgmbooefpaaGreatDoor
