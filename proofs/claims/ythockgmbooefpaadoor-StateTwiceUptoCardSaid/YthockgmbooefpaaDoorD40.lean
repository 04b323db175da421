/- What the law rests on, part 40. No condition but those that each theorem names. -/
import Derived.Test.YthockgmbooefpaaDoorD39
set_option linter.unusedSectionVars false
set_option linter.unusedSimpArgs false
set_option linter.unusedVariables false
namespace Go.Proofs.YthockgmbooefpaaDoor
open Go.RowKit Go.Shelf
theorem set_err {L:List PRow} {k:ByteArray} {n e:Int} (h:setE L k.toList n=e) (he:¬ e=0):setH L k n=0∧setL L k n=L:=by
 unfold setH setL
 rw [h,if_neg he,if_neg he]
 exact ⟨rfl,rfl⟩
theorem rem_err {L:List PRow} {k:ByteArray} {e:Int} (h:remE L k.toList=e) (he:¬ e=0):remH L k=0∧remL L k=L:=by
 unfold remH remL
 rw [h,if_neg he,if_neg he]
 exact ⟨rfl,rfl⟩
set_option maxRecDepth 100000 in
set_option maxHeartbeats 4000000 in
theorem dset_any (w:World) (hL:Lst w) {d:Nat} {L:List PRow} {q:Nat} (h:DctM w d L q) (k:ByteArray) (hk:k.size≤1099511627776) (n:Int) :
  Calls Tryd.prog 21 #[ptrV d,.string k,.int .i64 n] w fun e w'=>e=.returned (.tuple #[.int .i64 (setH L k n),.int .i64 (setE L k.toList n)])∧(∃ q',DctM w' d (setL L k n) q')∧Touch (fun g=>g=d) w w':=by
 have hdl:=h.dict.len
 have hstr:=dict_strict h.dict
 have HWG:=hide (dweigh_any w hL h k hk)
 have HWD:=hide (fun (wx:World) (T:Touch (fun _=>False) w wx)=>word_any wx k (by omega) (Lst.touch hL T))
 have HD:=hide h
 have HL:=hide hL
 obtain ⟨⟨x,t⟩,hxt⟩:∃ r,r=findP k.toList L:=⟨_,rfl⟩
 rw [← hxt] at HWG
 simp only at HWG
 have HXT:=hide hxt
 have hdlI:(L.length:Int)≤4096:=by omega
 obtain ⟨v,hv⟩:∃ v,v=wordU k.toList:=⟨_,rfl⟩
 simp only [← hv] at HWD
 have HV:=hide hv
 clear h hL hk hxt hv
 cases v with
 | false =>
  have hE:setE L k.toList n=140:=by unfold setE;rw [if_pos HV.out.symm]
  obtain ⟨hH,hLl⟩:=set_err hE (by decide)
  rw [hE,hH,hLl]
  clear hE hH hLl
  go_enter Tryd.func21,Tryd.ntmps21
  go_wp2_with fail
  refine HWG.out.mono ?_
  rintro e w1 ⟨rfl,T1⟩
  have HT1:=hide T1
  clear T1
  go_wp2_with fail
  refine (HWD.out w1 HT1.out).mono ?_
  rintro e w2 ⟨rfl,T2⟩
  have HT2:=hide (HT1.out.then T2)
  clear T2
  go_wp2_with fail
  go_ret2
  exact ⟨rfl,⟨q,HD.out.quiet HT2.out⟩,HT2.out.up _⟩
 | true =>
  have hvn:¬ wordU k.toList=false:=by rw [← HV.out];decide
  by_cases hn1:n<1
  ·have hE:setE L k.toList n=141:=by unfold setE;rw [if_neg hvn,if_pos (.inl hn1)]
   obtain ⟨hH,hLl⟩:=set_err hE (by decide)
   rw [hE,hH,hLl]
   clear hE hH hLl hvn
   go_enter Tryd.func21,Tryd.ntmps21
   go_wp2_with fail
   refine HWG.out.mono ?_
   rintro e w1 ⟨rfl,T1⟩
   have HT1:=hide T1
   clear T1
   go_wp2_with fail
   refine (HWD.out w1 HT1.out).mono ?_
   rintro e w2 ⟨rfl,T2⟩
   have HT2:=hide (HT1.out.then T2)
   clear T2
   go_wp2_with fail
   go_ret2
   exact ⟨rfl,⟨q,HD.out.quiet HT2.out⟩,HT2.out.up _⟩
  ·by_cases hn2:1048576<n
   ·have hE:setE L k.toList n=141:=by unfold setE;rw [if_neg hvn,if_pos (.inr hn2)]
    obtain ⟨hH,hLl⟩:=set_err hE (by decide)
    rw [hE,hH,hLl]
    clear hE hH hLl hvn
    go_enter Tryd.func21,Tryd.ntmps21
    go_wp2_with fail
    refine HWG.out.mono ?_
    rintro e w1 ⟨rfl,T1⟩
    have HT1:=hide T1
    clear T1
    go_wp2_with fail
    refine (HWD.out w1 HT1.out).mono ?_
    rintro e w2 ⟨rfl,T2⟩
    have HT2:=hide (HT1.out.then T2)
    clear T2
    go_wp2_with fail
    go_ret2
    exact ⟨rfl,⟨q,HD.out.quiet HT2.out⟩,HT2.out.up _⟩
   ·have hno:¬ (n<1∨1048576<n):=by omega
    obtain ⟨hq32,wb,B,nB,A,c,Z,wA,wc,oA,oc,O,hx⟩:=HD.out
    have HX:=hide hx
    have HQ:=hide hq32
    have HNN:=hide (show 1≤n∧n≤1048576 by omega)
    cases t with
    | true =>
     have hfd:(findP k.toList L).2=true:=by rw [← HXT.out]
     have hE:setE L k.toList n=0:=by unfold setE;rw [if_neg hvn,if_neg hno,if_neg (fun h=>by rw [hfd] at h;cases h.1)]
     have hH:setH L k n=x:=by unfold setH;rw [hE,if_pos rfl,← HXT.out]
     have hLl:setL L k n=putF ⟨k,n⟩ false L:=by unfold setL;rw [hE,if_pos rfl]
     rw [hE,hH,hLl]
     have hpl:(putF ⟨k,n⟩ false L).length=L.length:=by rw [put_len hstr,if_pos hfd]
     have HLY:Hid (∀ Y,Nrm (O++[⟨k,n⟩]) Y→LayP B Y (putF ⟨k,n⟩ false L)):=hide (fun Y hY=>hx.lay.put hY HV.out.symm HNN.out.1 HNN.out.2 (.inl hfd))
     have HPL:=hide hpl
     clear hE hH hLl hvn hx hno hq32 hfd hpl hstr
     go_enter Tryd.func21,Tryd.ntmps21
     go_wp2_with fail
     refine HWG.out.mono ?_
     rintro e w1 ⟨rfl,T1⟩
     have HT1:=hide T1
     clear T1
     go_wp2_with fail
     refine (HWD.out w1 HT1.out).mono ?_
     rintro e w2 ⟨rfl,T2⟩
     have HT2:=hide (HT1.out.then T2)
     have HCH:=hide (change_x w2 (Lst.touch HL.out HT2.out) (HX.out.quiet HT2.out) HQ.out ⟨k,n⟩ _ HLY.out (by rw [HPL.out]))
     simp only [PRow.val] at HCH
     clear T2
     go_wp2_with fail
     refine HCH.out.mono ?_
     rintro e w3 ⟨rfl,hd3,T3⟩
     have HD3:=hide hd3
     have HT3:=hide ((HT2.out.up _).then T3)
     clear hd3 T3 HCH
     go_wp2_with fail
     go_ret2
     exact ⟨rfl,HD3.out,HT3.out⟩
    | false =>
     have hfd:(findP k.toList L).2=false:=by rw [← HXT.out]
     have hx0:x=0:=by
      have h1:=find_zero hfd
      rw [← HXT.out] at h1
      exact congrArg Prod.fst h1
     subst hx0
     by_cases hful:L.length=4096
     ·have hE:setE L k.toList n=142:=by unfold setE;rw [if_neg hvn,if_neg hno,if_pos ⟨hfd,by omega⟩]
      obtain ⟨hH,hLl⟩:=set_err hE (by decide)
      rw [hE,hH,hLl]
      have hfi:(L.length:Int)=4096:=by omega
      clear hE hH hLl hvn hx hno hq32 hfd hstr hdl hdlI
      go_enter Tryd.func21,Tryd.ntmps21
      go_wp2_with fail
      refine HWG.out.mono ?_
      rintro e w1 ⟨rfl,T1⟩
      have HT1:=hide T1
      clear T1
      go_wp2_with fail
      refine (HWD.out w1 HT1.out).mono ?_
      rintro e w2 ⟨rfl,T2⟩
      have HT2:=hide (HT1.out.then T2)
      have hxb:=(HX.out.blk.touch HT2.out (fun f=>f))
      rw [hfi] at hxb
      obtain ⟨x0,x1,x2⟩:=hxb.facts
      clear T2 hxb hfi
      go_wp2_with fail
      go_ret2
      exact ⟨rfl,⟨q,HD.out.quiet HT2.out⟩,HT2.out.up _⟩
     ·have hlt:L.length<4096:=by omega
      have hE:setE L k.toList n=0:=by unfold setE;rw [if_neg hvn,if_neg hno,if_neg (fun h=>by omega)]
      have hH:setH L k n=0:=by unfold setH;rw [hE,if_pos rfl,← HXT.out]
      have hLl:setL L k n=putF ⟨k,n⟩ false L:=by unfold setL;rw [hE,if_pos rfl]
      rw [hE,hH,hLl]
      have hpl:(putF ⟨k,n⟩ false L).length=L.length+1:=by rw [put_len hstr,if_neg (by rw [hfd];decide)]
      have HLY:Hid (∀ Y,Nrm (O++[⟨k,n⟩]) Y→LayP B Y (putF ⟨k,n⟩ false L)):=hide (fun Y hY=>hx.lay.put hY HV.out.symm HNN.out.1 HNN.out.2 (.inr hlt))
      have HPL:=hide hpl
      have b1:((L.length:Int) == 4096)=false:=by simp;omega
      have b2:¬ (L.length:Int)=4096:=by omega
      have z1:IntKind.i64.wrap ((L.length:Int)+1)=(L.length:Int)+1:=IntWalk.i64_in _ (by omega)
      clear hE hH hLl hvn hx hno hq32 hfd hpl hstr hful hlt
      go_enter Tryd.func21,Tryd.ntmps21
      go_wp2_with fail
      refine HWG.out.mono ?_
      rintro e w1 ⟨rfl,T1⟩
      have HT1:=hide T1
      clear T1
      go_wp2_with fail
      refine (HWD.out w1 HT1.out).mono ?_
      rintro e w2 ⟨rfl,T2⟩
      have HT2:=hide (HT1.out.then T2)
      have hx2:=HX.out.quiet HT2.out
      obtain ⟨x0,x1,x2⟩:=hx2.blk.facts
      obtain ⟨w3,hw3⟩:∃ y,y=w2.setCell ⟨d,2,none⟩ (.int .i64 ((L.length:Int)+1)):=⟨_,rfl⟩
      have hT3:Touch (fun g=>g=d) w2 w3:=by rw [hw3];exact (Touch.refl (fun g=>g=d) w2).setCell (p:=⟨d,2,none⟩) (fun _=>rfl) _
      have hb3:Blk w3 d 93 #[ptrV wb,.slice oA q oc,.int .i64 ((L.length:Int)+1)]:=by
       rw [hw3]
       have:=hx2.blk.set_ 2 (.int .i64 ((L.length:Int)+1))
       simpa using this
      have hx3:DctX w3 d ((L.length:Int)+1) L wb B nB A c Z wA wc oA q oc O :=
       ⟨hb3,hx2.wk.far hT3 (fun g t hg ht=>dict_ne (blk_ty hx2.blk) hg ht),hx2.ov.touch hT3 (fun g hg=>dict_ne (blk_ty hx2.blk) hg (.inr (.inr (.inr (.inr rfl))))),hx2.len,hx2.few,hx2.nil,hx2.lay,hx2.pos⟩
      have HCH:=hide (change_x w3 ((Lst.touch HL.out HT2.out).far hT3 (fun e=>by have:=hx2.pos;omega)) hx3 HQ.out ⟨k,n⟩ _ HLY.out (by rw [HPL.out];omega))
      simp only [PRow.val] at HCH
      have HT3:=hide ((HT2.out.up _).then hT3)
      have HW3:=hide hw3
      clear T2 hx2 hw3 hT3 hb3 hx3
      go_upto_region 10 with fail
      rw [← HW3.out]
      go_wp2_with fail
      refine HCH.out.mono ?_
      rintro e w4 ⟨rfl,hd4,T4⟩
      have HD4:=hide hd4
      have HT4:=hide (HT3.out.then T4)
      clear hd4 T4 HCH
      go_wp2_with fail
      go_ret2
      exact ⟨rfl,HD4.out,HT4.out⟩
set_option maxRecDepth 100000 in
set_option maxHeartbeats 4000000 in
theorem dremove_any (w:World) (hL:Lst w) {d:Nat} {L:List PRow} {q:Nat} (h:DctM w d L q) (k:ByteArray) (hk:k.size≤1099511627776) :
  Calls Tryd.prog 24 #[ptrV d,.string k] w fun e w'=>e=.returned (.tuple #[.int .i64 (remH L k),.int .i64 (remE L k.toList)])∧(∃ q',DctM w' d (remL L k) q')∧Touch (fun g=>g=d) w w':=by
 have hdl:=h.dict.len
 have hstr:=dict_strict h.dict
 have HWG:=hide (dweigh_any w hL h k hk)
 have HWD:=hide (fun (wx:World) (T:Touch (fun _=>False) w wx)=>word_any wx k (by omega) (Lst.touch hL T))
 have HD:=hide h
 have HL:=hide hL
 obtain ⟨⟨x,t⟩,hxt⟩:∃ r,r=findP k.toList L:=⟨_,rfl⟩
 rw [← hxt] at HWG
 simp only at HWG
 have HXT:=hide hxt
 obtain ⟨v,hv⟩:∃ v,v=wordU k.toList:=⟨_,rfl⟩
 simp only [← hv] at HWD
 have HV:=hide hv
 clear h hL hk hxt hv
 cases v with
 | false =>
  have hE:remE L k.toList=140:=by unfold remE;rw [if_pos HV.out.symm]
  obtain ⟨hH,hLl⟩:=rem_err hE (by decide)
  rw [hE,hH,hLl]
  clear hE hH hLl
  go_enter Tryd.func24,Tryd.ntmps24
  go_wp2_with fail
  refine HWG.out.mono ?_
  rintro e w1 ⟨rfl,T1⟩
  have HT1:=hide T1
  clear T1
  go_wp2_with fail
  refine (HWD.out w1 HT1.out).mono ?_
  rintro e w2 ⟨rfl,T2⟩
  have HT2:=hide (HT1.out.then T2)
  clear T2
  go_wp2_with fail
  go_ret2
  exact ⟨rfl,⟨q,HD.out.quiet HT2.out⟩,HT2.out.up _⟩
 | true =>
  have hvn:¬ wordU k.toList=false:=by rw [← HV.out];decide
  cases t with
  | false =>
   have hfd:(findP k.toList L).2=false:=by rw [← HXT.out]
   have hE:remE L k.toList=143:=by unfold remE;rw [if_neg hvn,if_pos hfd]
   obtain ⟨hH,hLl⟩:=rem_err hE (by decide)
   rw [hE,hH,hLl]
   clear hE hH hLl hvn hfd
   go_enter Tryd.func24,Tryd.ntmps24
   go_wp2_with fail
   refine HWG.out.mono ?_
   rintro e w1 ⟨rfl,T1⟩
   have HT1:=hide T1
   clear T1
   go_wp2_with fail
   refine (HWD.out w1 HT1.out).mono ?_
   rintro e w2 ⟨rfl,T2⟩
   have HT2:=hide (HT1.out.then T2)
   clear T2
   go_wp2_with fail
   go_ret2
   exact ⟨rfl,⟨q,HD.out.quiet HT2.out⟩,HT2.out.up _⟩
  | true =>
   have hfd:(findP k.toList L).2=true:=by rw [← HXT.out]
   have hE:remE L k.toList=0:=by unfold remE;rw [if_neg hvn,if_neg (by rw [hfd];decide)]
   have hH:remH L k=x:=by unfold remH;rw [hE,if_pos rfl,← HXT.out]
   have hLl:remL L k=dropP k.toList L:=by unfold remL;rw [hE,if_pos rfl]
   rw [hE,hH,hLl]
   obtain ⟨hq32,wb,B,nB,A,c,Z,wA,wc,oA,oc,O,hx⟩:=HD.out
   have HX:=hide hx
   have HQ:=hide hq32
   have hpl:(dropP k.toList L).length+1=L.length:=by have:=drop_len hstr k.toList;rw [hfd,if_pos rfl] at this;exact this
   have HLY:Hid (∀ Y,Nrm (O++[⟨k,0⟩]) Y→LayP B Y (dropP k.toList L)):=hide (fun Y hY=>hx.lay.drop hY HV.out.symm)
   have HPL:=hide hpl
   have z1:IntKind.i64.wrap ((L.length:Int)-1)=(L.length:Int)-1:=IntWalk.i64_in _ (by omega)
   clear hE hH hLl hvn hx hq32 hfd hpl hstr
   go_enter Tryd.func24,Tryd.ntmps24
   go_wp2_with fail
   refine HWG.out.mono ?_
   rintro e w1 ⟨rfl,T1⟩
   have HT1:=hide T1
   clear T1
   go_wp2_with fail
   refine (HWD.out w1 HT1.out).mono ?_
   rintro e w2 ⟨rfl,T2⟩
   have HT2:=hide (HT1.out.then T2)
   have hx2:=HX.out.quiet HT2.out
   obtain ⟨x0,x1,x2⟩:=hx2.blk.facts
   obtain ⟨w3,hw3⟩:∃ y,y=w2.setCell ⟨d,2,none⟩ (.int .i64 ((L.length:Int)-1)):=⟨_,rfl⟩
   have hT3:Touch (fun g=>g=d) w2 w3:=by rw [hw3];exact (Touch.refl (fun g=>g=d) w2).setCell (p:=⟨d,2,none⟩) (fun _=>rfl) _
   have hb3:Blk w3 d 93 #[ptrV wb,.slice oA q oc,.int .i64 ((L.length:Int)-1)]:=by
    rw [hw3]
    have:=hx2.blk.set_ 2 (.int .i64 ((L.length:Int)-1))
    simpa using this
   have hx3:DctX w3 d ((L.length:Int)-1) L wb B nB A c Z wA wc oA q oc O :=
    ⟨hb3,hx2.wk.far hT3 (fun g t hg ht=>dict_ne (blk_ty hx2.blk) hg ht),hx2.ov.touch hT3 (fun g hg=>dict_ne (blk_ty hx2.blk) hg (.inr (.inr (.inr (.inr rfl))))),hx2.len,hx2.few,hx2.nil,hx2.lay,hx2.pos⟩
   have HCH:=hide (change_x w3 ((Lst.touch HL.out HT2.out).far hT3 (fun e=>by have:=hx2.pos;omega)) hx3 HQ.out ⟨k,0⟩ _ HLY.out (by have:=HPL.out;omega))
   simp only [PRow.val] at HCH
   have HT3:=hide ((HT2.out.up _).then hT3)
   have HW3:=hide hw3
   clear T2 hx2 hw3 hT3 hb3 hx3
   go_upto_region 7 with fail
   rw [← HW3.out]
   go_wp2_with fail
   refine HCH.out.mono ?_
   rintro e w4 ⟨rfl,hd4,T4⟩
   have HD4:=hide hd4
   have HT4:=hide (HT3.out.then T4)
   clear hd4 T4 HCH
   go_wp2_with fail
   go_ret2
   exact ⟨rfl,HD4.out,HT4.out⟩
end Go.Proofs.YthockgmbooefpaaDoor
