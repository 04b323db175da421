/- What the law rests on, part 15. No condition but those that each theorem names. -/
import Derived.Test.YthockgmbooefpaaGreatDoorT14
import Derived.BigQuiet
import Derived.Deep.QuietTactic
import Derived.Deep.RegionLaw
import Derived.Deep.AppendLies
import Derived.Test.YthockgmbooefpaaGreatDoorT12
set_option linter.unusedSectionVars false
set_option linter.unusedSimpArgs false
set_option linter.unusedVariables false
set_option maxRecDepth 100000
set_option maxHeartbeats 8000000
namespace Go.Proofs.YthockgmbooefpaaGreatDoor
open Go.RowKit
def RgtP (sts:List StP) (base:Int):Prop:=(sts=[]∧base=0)∨RightP sts base
theorem pright_nil (w:World) (A:Option Addr) (c:Nat) :
  Calls Tryz.prog 85 #[.agg #[.int .i64 0,.slice A 0 c]] w fun e w'=>e=.returned (.bool true)∧Touch (fun _=>False) w w':=by
 go_enter Tryz.func85,Tryz.ntmps85
 go_wp2_with fail
 go_step3
 go_wp2_with fail
 rw [Exit.noGoto_ret]
 go_ret
 exact ⟨rfl,(Touch.refl _ _).alloc _⟩
theorem right_all (w:World) (hL:Lst w) (base:Int) (A:Option Addr) (n c:Nat) (Z:List SV) (hst:StsOk w A n Z) (hR:RgtP (Z.map SV.p) base) :
  Calls Tryz.prog 85 #[.agg #[.int .i64 base,.slice A n c]] w fun e w'=>e=.returned (.bool true)∧Touch (fun _=>False) w w':=by
 rcases hR with ⟨h,rfl⟩ | h
 ·have:n=0:=by
   have:=hst.len
   have h2:Z=[]:=by simpa using h
   rw [h2] at this
   simpa using this.symm
  subst this
  exact pright_nil w A c
 ·exact pright_any w hL base A n c Z hst h
theorem right_mach {L:List PRow} (hD:DictP L):RgtP (mach L).states (mach L).base:=by
 by_cases h:L=[]
 ·left
  unfold mach
  rw [if_pos h]
  exact ⟨rfl,rfl⟩
 ·exact .inr (right_made hD h)
theorem new_any (w:World) (hL:Lst w) (base:Int) (A:Option Addr) (n c:Nat) (Z:List SV) (hst:StsOk w A n Z) (hR:RgtP (Z.map SV.p) base) (hn:n≤1000000) :
  Calls Tryz.prog 39 #[.agg #[.int .i64 base,.slice A n c]] w fun e w'=>∃ b A' c' Z' wA wc,e=.returned (.tuple #[.pointer (some ⟨b,0,none⟩),.bool true])∧NewI w w' b base A' n c' Z' wA n wc (wdsF (Z.map SV.p) n)∧Z'.map SV.p=Z.map SV.p:=by
 obtain ⟨i7,hi7,hz70,hz71,hz72⟩:=info_parts infoSt
 obtain ⟨i8,hi8,hz80,hz81,hz82⟩:=info_parts infoInt
 have hlen:(Z.map SV.p).length=n:=by rw [List.length_map,hst.len]
 obtain ⟨w0,hw0⟩:∃ x,x=w.alloc (.cells #[.int .i64 base,.slice A n c] 89):=⟨_,rfl⟩
 have hT0:Touch (fun _=>False) w w0:=by rw [hw0];exact (Touch.refl _ _).alloc _
 have hcr:=right_all w0 (Lst.touch hL hT0) base A n c Z (hst.quiet hT0) hR
 obtain ⟨M,hM⟩:∃ M,M=w.heap.size:=⟨_,rfl⟩
 have hbM:Blk w0 M 89 #[.int .i64 base,.slice A n c]:=by rw [hw0,hM];exact Blk.new _ _ _
 have HST:=hide hst
 have HR:=hide hR
 have HLEN:=hide hlen
 have HW0:=hide hw0
 have HT0:=hide hT0
 have HCR:=hide hcr
 have HM:=hide hM
 have HBM:=hide hbM
 have HN:=hide hn
 have hnI:(n:Int)≤1000000:=by omega
 clear hst hL hR hlen hw0 hT0 hcr hM hbM hn
 go_enter Tryz.func39,Tryz.ntmps39
 go_wp2_with fail
 rw [← HW0.out,← HM.out]
 refine HCR.out.mono ?_
 rintro e w1 ⟨rfl,T1⟩
 have hbM1:=HBM.out.touch T1 (fun f=>f)
 obtain ⟨q1,q2,q3⟩:=hbM1.facts
 have HBM1:=hide hbM1
 have HT1:=hide (HT0.out.then T1)
 clear hbM1 T1 HCR
 go_wp2_with fail
 obtain ⟨w2,hw2⟩:∃ x,x=w1.alloc (.cells #[.int .i64 base,.slice none 0 0,.slice none 0 0] 167):=⟨_,rfl⟩
 obtain ⟨b,hb⟩:∃ b,b=w1.heap.size:=⟨_,rfl⟩
 have hT2:Touch (fun _=>False) w1 w2:=by rw [hw2];exact (Touch.refl _ _).alloc _
 have hbb:Blk w2 b 167 #[.int .i64 base,.slice none 0 0,.slice none 0 0]:=by rw [hw2,hb];exact Blk.new _ _ _
 have hI2:NewI w w2 b base none 0 0 [] none 0 0 (wdsF (Z.map SV.p) 0):=by
  refine ⟨hbb,World.ownsRow_nil _ _ _ _,?_,fun z hz=>(by cases hz),fun g hg=>(by cases hg),fun g hg=>(by cases hg),fun z hz=>(by cases hz),by have:=HT1.out.size;omega,HT1.out.then hT2⟩
  simp only [wdsF,List.take_zero,List.map_nil]
  exact World.ownsRow_nil _ _ _ _
 rw [← hw2,← hb]
 have HI2:=hide hI2
 clear q1 q2 q3 hw2 hb hT2 hbb hI2
 go_loopw [20] (fun iv wr=>∃ (i:Nat) (A':Option Addr) (c':Nat) (Z':List SV) (wA:Option Addr) (wc:Nat),iv=.int .i64 i∧i≤n∧Hid (NewI w wr b base A' i c' Z' wA i wc (wdsF (Z.map SV.p) i))∧Hid (Z'.map SV.p=(Z.map SV.p).take i)) (fun iv _=>n-(intOf iv).toNat)
 case atStart=>exact ⟨0,none,0,[],none,0,rfl,by omega,HI2,hide rfl⟩
 case round =>
  obtain ⟨i,A',c',Z',wA,wc,rfl,hin,HI,HZ'⟩:=hrel
  by_cases hi2:i<n
  ·have hP:RightP (Z.map SV.p) base:=by
    rcases HR.out with ⟨h,_⟩ | h
    ·have:=HLEN.out
     rw [h] at this
     simp at this
     omega
    ·exact h
   have x1:(i:Int)<(n:Int):=by omega
   have x2:(0:Int)≤(i:Int):=by omega
   have x3:IntKind.i64.wrap ((i:Int)+1)=(i:Int)+1:=IntWalk.i64_in _ (by omega)
   have hSr:=HST.out.quiet HI.out.touch
   obtain ⟨g,o,hA,hgl,d0,d1,d2⟩:=state_at hSr.rd.rd hSr.len i hi2
   subst hA
   have hzm:=getD_mem Z svZero i (by rw [HST.out.len];exact hi2)
   have hzo:=hSr.el _ hzm
   have hzp:(Z.map SV.p).getD i noSt=(Z.getD i svZero).p:=by
    simp [List.getD,HST.out.len,hi2]
   have hfm:=hP.form i (by rw [HLEN.out];exact hi2)
   have hsB:=hP.sumB i (by rw [HLEN.out];exact hi2)
   have hsE:=hP.sumE i (by rw [HLEN.out];exact hi2)
   rw [HLEN.out] at hsB hsE
   rw [hzp] at hfm hsB hsE
   obtain ⟨⟨fin,out,zA,q,zc,arcs⟩,hz⟩:∃ z,Z.getD i svZero=z:=⟨_,rfl⟩
   rw [hz] at d0 d1 d2 hzo hzp hfm hsB hsE
   simp only at d0 d1 d2
   have hq:q≤2097152:=by
    have h1:=form_few hfm
    have h2:=hzo.len
    simp only [SV.p] at h1 h2
    omega
   have HFM:=hide hfm
   have HSB:=hide hsB
   have HSE:=hide hsE
   have HZP:=hide hzp
   have HZL:=hide hzo.len
   obtain ⟨wa,hwa⟩:∃ x,x=wr.alloc (.cells #[.bool fin,.int .i64 out,.slice zA q zc] 170):=⟨_,rfl⟩
   obtain ⟨s,hs⟩:∃ s,s=wr.heap.size:=⟨_,rfl⟩
   have hTa:Touch (fun _=>False) wr wa:=by rw [hwa];exact (Touch.refl _ _).alloc _
   have hbs:Blk wa s 170 #[.bool fin,.int .i64 out,.slice zA q zc]:=by rw [hwa,hs];exact Blk.new _ _ _
   have hcc:=clone_any wa zA q zc arcs hzo.len (hzo.rd.quiet hTa) hq
   have hsb:¬ s=b:=by have:=HI.out.blk.lt;omega
   have hsA:∀ g,(Value.slice A' i c').ownBlock=some g→¬ g=s:=by
    intro g hg e
    have:=(own_ty HI.out.own hg).lt
    omega
   have HWA:=hide hwa
   have HSD:=hide hs
   have HTA:=hide hTa
   have HBS:=hide hbs
   have HCC:=hide hcc
   have HSA:=hide hsA
   have hbs':=hbs.facts
   obtain ⟨s0,s1,s2⟩:=hbs'
   clear hP hSr hzm hzo hzp hfm hsB hsE hz hwa hs hTa hbs hcc hsA
   go_wp2_with fail
   rw [← HWA.out,← HSD.out]
   refine HCC.out.mono ?_
   rintro e w3 ⟨A2,c2,rfl,hcl⟩
   have hbs3:=HBS.out.touch hcl.touch (fun f=>f)
   have hw4:Touch (fun y=>y=s) w3 (w3.setCell ⟨s,2,none⟩ (.slice A2 q c2)):=(Touch.refl (fun y=>y=s) w3).setCell (p:=⟨s,2,none⟩) (fun _=>rfl) _
   have hbs4:Blk (w3.setCell ⟨s,2,none⟩ (.slice A2 q c2)) s 170 #[.bool fin,.int .i64 out,.slice A2 q c2]:=by
    have:=hbs3.set_ 2 (.slice A2 q c2)
    simpa using this
   have hnS:∀ y,TyAt w3 y 173 → ¬ y=s:=fun y hy e=>hy.ne (blk_ty hbs3) (by decide) e
   have hO4:=own_touch hcl.own hw4 (fun y hy=>hnS y (own_ty hcl.own hy))
   have hle:=own_slice hcl.own
   have hI3:=HI.out.quiet (HTA.out.then hcl.touch)
   have hI4:NewI w (w3.setCell ⟨s,2,none⟩ (.slice A2 q c2)) b base A' i c' Z' wA i wc (wdsF (Z.map SV.p) i):=by
    refine ⟨hI3.blk.touch hw4 (fun e=>hsb e.symm),own_touch hI3.own hw4 HSA.out,own_touch hI3.wds hw4 (fun y hy e=>(own_ty hI3.wds hy).ne (blk_ty hbs3) (by decide) e),fun z hz=>(hI3.el z hz).touch hw4 hnS,hI3.yA,hI3.yW,hI3.yZ,hI3.yb,?_⟩
    refine hI3.touch.trans hw4 fun y hy e=>?_
    have h1:=HSD.out
    have h2:=HI.out.touch.size
    omega
   have hy2:∀ g,adBlock A2=some g→w.heap.size≤g:=by
    intro g hg
    have h1:=hcl.young g hg
    have h2:=HI.out.touch.size
    have h3:=HTA.out.size
    omega
   obtain ⟨t0,t1,t2⟩:=hbs3.facts
   obtain ⟨w4,hw4d⟩:∃ x,x=w3.setCell ⟨s,2,none⟩ (.slice A2 q c2):=⟨_,rfl⟩
   rw [← hw4d] at hbs4 hO4 hI4
   have HW4:=hide hw4d
   have HBS4:=hide hbs4
   have HO4:=hide hO4
   have HI4:=hide hI4
   have HY2:=hide hy2
   have HLE:=hide hle
   clear hcl hbs3 hw4 hbs4 hnS hO4 hle hI3 hI4 hy2 hw4d HCC s0 s1 s2
   obtain ⟨X,hX⟩:∃ X:Nat→Int,X=fun j=>(sumP (uF (Z.map SV.p) n i) (SV.p ⟨fin,out,zA,q,zc,arcs⟩) j).1:=⟨_,rfl⟩
   have hX0:X 0=if fin=true then 1 else 0:=by
    rw [hX]
    simp only
    rw [sumP_zero]
    rfl
   have hXS:∀ j,j<q→X (j+1)=X j+((uF (Z.map SV.p) n i).getD (arcs.getD j (0,0,0)).2.2 z3).1:=by
    intro j hj
    rw [hX]
    simp only
    rw [sumP_succ _ _ _ (by have:=HZL.out;simp only [SV.p] at this ⊢;omega)]
    rfl
   have hXB:∀ j,0≤X j∧X j≤4096:=by
    intro j
    rw [hX]
    exact (HSB.out j).1
   have hXE:wdsF (Z.map SV.p) (i+1)=wdsF (Z.map SV.p) i++[X q]:=by
    rw [wdsF_succ (by rw [HLEN.out];exact hi2),HZP.out,HLEN.out,hX]
    have:(SV.p ⟨fin,out,zA,q,zc,arcs⟩).arcs.length=q:=HZL.out
    rw [this]
   have hZ2:SV.Ok ⟨fin,out,A2,q,c2,arcs⟩ w4:=⟨HZL.out,RdT.of_own HO4.out,HLE.out.1,HLE.out.2⟩
   have hZE:(Z'++[(⟨fin,out,A2,q,c2,arcs⟩:SV)]).map SV.p=(Z.map SV.p).take (i+1):=by
    rw [List.map_append,HZ'.out,List.take_succ_eq_append_getElem (by rw [HLEN.out];exact hi2)]
    congr 1
    have h:=HZP.out
    rw [List.getD_eq_getElem?_getD,List.getElem?_eq_getElem (by rw [HLEN.out];exact hi2)] at h
    simp only [Option.getD_some] at h
    rw [h]
    rfl
   have HX0:=hide hX0
   have HXS:=hide hXS
   have HXB:=hide hXB
   have HXE:=hide hXE
   have HZ2:=hide hZ2
   have HZE:=hide hZE
   have hqI:(q:Int)≤2097152:=by omega
   obtain ⟨wo,hwo⟩:∃ y,y=wr:=⟨_,rfl⟩
   subst hwo
   clear hX hX0 hXS hXB hXE hZ2 hZE HSB hq
   cases fin with
   | false =>
    go_wp2_with fail
    rw [← HW4.out]
    go_loopw [7,33] (fun mv jv wr=>∃ (j:Nat),mv=.int .i64 (X j)∧jv=.int .i64 j∧j≤q∧Hid (Touch (fun _=>False) w4 wr)) (fun _ jv _=>q-(intOf jv).toNat)
    case atStart=>exact ⟨0,by rw [HX0.out];rfl,rfl,by omega,hide (Touch.refl _ _)⟩
    case round =>
     obtain ⟨j,rfl,rfl,hjq,HTj⟩:=hrel
     have hI:=HI4.out.quiet HTj.out
     obtain ⟨b0,b1,b2⟩:=hI.blk.facts
     by_cases hj2:j<q
     ·have j1:(j:Int)<(q:Int):=by omega
      have j2:(0:Int)≤(j:Int):=by omega
      have j3:IntKind.i64.wrap ((j:Int)+1)=(j:Int)+1:=IntWalk.i64_in _ (by omega)
      obtain ⟨ag,ao,hA2,_,e0,e1,e2⟩:=arc_at (RdT.of_own (own_touch HO4.out HTj.out (fun _ _ f=>f))).rd HZL.out j hj2
      subst hA2
      have hxs:=HXS.out j hj2
      have hto:(arcs.getD j (0,0,0)).2.2<i:=(HFM.out.arc _ (getD_mem arcs (0,0,0) j (by rw [HZL.out];exact hj2))).2.2
      obtain ⟨⟨la,ua,tt⟩,hz⟩:∃ z,arcs.getD j (0,0,0)=z:=⟨_,rfl⟩
      rw [hz] at e0 e1 e2 hxs hto
      simp only at e0 e1 e2 hxs hto
      obtain ⟨wg,wo2,hwA,hwg,hwc⟩:=(RdT.of_own hI.wds).rd.2 (by omega)
      subst hwA
      have v0:=hwc tt (intV ((uF (Z.map SV.p) n i).getD tt z3).1) (by
       rw [List.getElem?_map,wdsF_get (by rw [HLEN.out];omega) hto,HLEN.out]
       rfl)
      obtain ⟨y,hy⟩:∃ y,((uF (Z.map SV.p) n i).getD tt z3).1=y:=⟨_,rfl⟩
      rw [hy] at v0 hxs
      simp only [intV] at v0
      have k1:(tt:Int)<(i:Int):=by omega
      have k2:(0:Int)≤(tt:Int):=by omega
      have hb1:=HXB.out j
      have hb2:=HXB.out (j+1)
      have k3:IntKind.i64.wrap (X j+y)=X j+y:=IntWalk.i64_in _ (by omega)
      have HXJ:=hide hxs
      clear hI hz hwc hy hb1 hb2 hxs
      go_wp2_with fail
      go_quiet (fail)
      go_wp2_with fail
      go_roundw
      ·exact ⟨j+1,by rw [HXJ.out],by simp,by omega,hide ((HTj.out.alloc _).drewN _)⟩
      ·simp only [intOf];omega
     ·have hje:j=q:=by omega
      subst hje
      have j4:¬ (j:Int)<(j:Int):=by omega
      obtain ⟨s0,s1,s2⟩:=(HBS4.out.touch HTj.out (fun f=>f)).facts
      have HIW:=hide hI
      have HNB:Hid (some b≠(Value.slice A' i c').ownBlock):=hide (fun e=>(own_ty hI.own e.symm).ne (blk_ty hI.blk) (by decide) rfl)
      have hzc:=HZ2.out.touch HTj.out (fun _ _ f=>f)
      have HZC:=hide hzc
      have hib:i+1≤maxLen∧(i+1)*40≤140737488355328∧(i+1)*8≤140737488355328:=by unfold maxLen;omega
      have HIB:=hide hib
      clear hI hzc hib
      go_wp2_with fail
      go_region_law (refine step_append_lies _ rfl (.tmp 52) (.tmp 54) 87 rfl 0 170 i7 _ 3 40 Tryz.underlying87 hi7 hz70 hz71 hz72 (by decide) (by decide) (.slice A' i c') i _ (by simp [Act.eval]) (own_touch HIW.out.own ((Touch.refl _ _).alloc _).drew (fun _ _ f=>f)) ⟨wr.heap.size,0,none⟩ 1 1 [.bool false,.int .i64 out,.slice A2 j c2] (by simp [Act.eval]) rfl ?news ?one (by decide) HIB.out.1 HIB.out.2.1 (Nat.zero_le _) _ rfl ?_;(case news=>exact World.news_of_block (Blk.new wr _ _));(case one=>exact List.all_eq_true.1 rfl);intro g4 cap4 w9 hown hgrow hlies _;have hbC:=((HIW.out.blk.alloc (.cells #[.bool false,.int .i64 out,.slice A2 j c2] 170)).drew).grown hgrow HNB.out;obtain ⟨q1,q2,q3⟩:=hbC.facts;have hN2:=NewI.state (HIW.out.quiet (((Touch.refl (fun _=>False) wr).alloc (.cells #[.bool false,.int .i64 out,.slice A2 j c2] 170)).drew)) (z:=⟨false,out,A2,j,c2,arcs⟩) (HZC.out.touch (((Touch.refl (fun _=>False) wr).alloc (.cells #[.bool false,.int .i64 out,.slice A2 j c2] 170)).drew) (fun _ _ f=>f)) HY2.out hown hgrow (by rcases hlies with e | e;exact .inl e.symm;exact .inr ⟨g4,rfl,by rw [e];exact Nat.le_refl _⟩);have HN2:=hide hN2;clear hown hgrow hlies hbC hN2)
      all_goals
       obtain ⟨v9,hv9⟩:∃ x,x=w9.setCell ⟨b,1,none⟩ (.slice (some ⟨g4,0,none⟩) (i+1) cap4):=⟨_,rfl⟩
       rw [← hv9] at HN2
       rw [← hv9]
       have hI9:=HN2.out.quiet ((Touch.refl (fun _=>False) v9).alloc (.cells #[.int .i64 (X j)] 3))
       have hrd:Reads (v9.alloc (.cells #[.int .i64 (X j)] 3)) 1 (some ⟨v9.heap.size,0,none⟩) 1 [.int .i64 (X j)]:=Reads.new _ _ _ _ rfl
       have hone:∀ u∈[Value.int .i64 (X j)],u.oneCell'=true:=List.all_eq_true.1 rfl
       have hnb:some b≠(Value.slice wA i wc).ownBlock:=fun e=>(own_ty hI9.wds e.symm).ne (blk_ty hI9.blk) (by decide) rfl
       obtain ⟨r0,r1,r2⟩:=HN2.out.blk.facts
       have HI9:=hide hI9
       have HRD:=hide hrd
       have HONE:=hide hone
       have HNB2:=hide hnb
       clear hv9 hI9 hrd hone hnb b0 b1 b2 q1 q2 q3
       go_wp2_with (at_builtin;refine wpList_app _ rfl (.tmp 62) (.tmp 64) 49 rfl 3 i8 _ 1 8 Tryz.underlying49 hi8 hz80 hz81 hz82 rfl (by decide) (.slice wA i wc) i _ rfl HI9.out.wds (some ⟨v9.heap.size,0,none⟩) 1 1 [.int .i64 (X j)] rfl HRD.out (fun h=>by cases h) HONE.out HIB.out.1 HIB.out.2.2 ?_;intro v1 w10 O10 G10 F10 _;obtain ⟨A5,c5,hv,_,_⟩:=own_len O10;subst hv;have hbC:=HI9.out.blk.grown G10 HNB2.out;obtain ⟨q1,q2,q3⟩:=hbC.facts;have HN3:=hide (NewI.word (x:=X j) HI9.out O10 G10 F10);clear hbC O10 G10 F10)
       go_roundw
       ·exact ⟨i+1,some ⟨g4,0,none⟩,cap4,Z'++[⟨false,out,A2,j,c2,arcs⟩],A5,c5,by simp,by omega,hide (by rw [HXE.out];exact HN3.out),HZE⟩
       ·simp only [intOf];omega
   | true =>
    go_wp2_with fail
    rw [← HW4.out]
    go_loopw [7,33] (fun mv jv wr=>∃ (j:Nat),mv=.int .i64 (X j)∧jv=.int .i64 j∧j≤q∧Hid (Touch (fun _=>False) w4 wr)) (fun _ jv _=>q-(intOf jv).toNat)
    case atStart=>exact ⟨0,by rw [HX0.out];rfl,rfl,by omega,hide (Touch.refl _ _)⟩
    case round =>
     obtain ⟨j,rfl,rfl,hjq,HTj⟩:=hrel
     have hI:=HI4.out.quiet HTj.out
     obtain ⟨b0,b1,b2⟩:=hI.blk.facts
     by_cases hj2:j<q
     ·have j1:(j:Int)<(q:Int):=by omega
      have j2:(0:Int)≤(j:Int):=by omega
      have j3:IntKind.i64.wrap ((j:Int)+1)=(j:Int)+1:=IntWalk.i64_in _ (by omega)
      obtain ⟨ag,ao,hA2,_,e0,e1,e2⟩:=arc_at (RdT.of_own (own_touch HO4.out HTj.out (fun _ _ f=>f))).rd HZL.out j hj2
      subst hA2
      have hxs:=HXS.out j hj2
      have hto:(arcs.getD j (0,0,0)).2.2<i:=(HFM.out.arc _ (getD_mem arcs (0,0,0) j (by rw [HZL.out];exact hj2))).2.2
      obtain ⟨⟨la,ua,tt⟩,hz⟩:∃ z,arcs.getD j (0,0,0)=z:=⟨_,rfl⟩
      rw [hz] at e0 e1 e2 hxs hto
      simp only at e0 e1 e2 hxs hto
      obtain ⟨wg,wo2,hwA,hwg,hwc⟩:=(RdT.of_own hI.wds).rd.2 (by omega)
      subst hwA
      have v0:=hwc tt (intV ((uF (Z.map SV.p) n i).getD tt z3).1) (by
       rw [List.getElem?_map,wdsF_get (by rw [HLEN.out];omega) hto,HLEN.out]
       rfl)
      obtain ⟨y,hy⟩:∃ y,((uF (Z.map SV.p) n i).getD tt z3).1=y:=⟨_,rfl⟩
      rw [hy] at v0 hxs
      simp only [intV] at v0
      have k1:(tt:Int)<(i:Int):=by omega
      have k2:(0:Int)≤(tt:Int):=by omega
      have hb1:=HXB.out j
      have hb2:=HXB.out (j+1)
      have k3:IntKind.i64.wrap (X j+y)=X j+y:=IntWalk.i64_in _ (by omega)
      have HXJ:=hide hxs
      clear hI hz hwc hy hb1 hb2 hxs
      go_wp2_with fail
      go_quiet (fail)
      go_wp2_with fail
      go_roundw
      ·exact ⟨j+1,by rw [HXJ.out],by simp,by omega,hide ((HTj.out.alloc _).drewN _)⟩
      ·simp only [intOf];omega
     ·have hje:j=q:=by omega
      subst hje
      have j4:¬ (j:Int)<(j:Int):=by omega
      obtain ⟨s0,s1,s2⟩:=(HBS4.out.touch HTj.out (fun f=>f)).facts
      have HIW:=hide hI
      have HNB:Hid (some b≠(Value.slice A' i c').ownBlock):=hide (fun e=>(own_ty hI.own e.symm).ne (blk_ty hI.blk) (by decide) rfl)
      have hzc:=HZ2.out.touch HTj.out (fun _ _ f=>f)
      have HZC:=hide hzc
      have hib:i+1≤maxLen∧(i+1)*40≤140737488355328∧(i+1)*8≤140737488355328:=by unfold maxLen;omega
      have HIB:=hide hib
      clear hI hzc hib
      go_wp2_with fail
      go_region_law (refine step_append_lies _ rfl (.tmp 52) (.tmp 54) 87 rfl 0 170 i7 _ 3 40 Tryz.underlying87 hi7 hz70 hz71 hz72 (by decide) (by decide) (.slice A' i c') i _ (by simp [Act.eval]) (own_touch HIW.out.own ((Touch.refl _ _).alloc _).drew (fun _ _ f=>f)) ⟨wr.heap.size,0,none⟩ 1 1 [.bool true,.int .i64 out,.slice A2 j c2] (by simp [Act.eval]) rfl ?news ?one (by decide) HIB.out.1 HIB.out.2.1 (Nat.zero_le _) _ rfl ?_;(case news=>exact World.news_of_block (Blk.new wr _ _));(case one=>exact List.all_eq_true.1 rfl);intro g4 cap4 w9 hown hgrow hlies _;have hbC:=((HIW.out.blk.alloc (.cells #[.bool true,.int .i64 out,.slice A2 j c2] 170)).drew).grown hgrow HNB.out;obtain ⟨q1,q2,q3⟩:=hbC.facts;have hN2:=NewI.state (HIW.out.quiet (((Touch.refl (fun _=>False) wr).alloc (.cells #[.bool true,.int .i64 out,.slice A2 j c2] 170)).drew)) (z:=⟨true,out,A2,j,c2,arcs⟩) (HZC.out.touch (((Touch.refl (fun _=>False) wr).alloc (.cells #[.bool true,.int .i64 out,.slice A2 j c2] 170)).drew) (fun _ _ f=>f)) HY2.out hown hgrow (by rcases hlies with e | e;exact .inl e.symm;exact .inr ⟨g4,rfl,by rw [e];exact Nat.le_refl _⟩);have HN2:=hide hN2;clear hown hgrow hlies hbC hN2)
      all_goals
       obtain ⟨v9,hv9⟩:∃ x,x=w9.setCell ⟨b,1,none⟩ (.slice (some ⟨g4,0,none⟩) (i+1) cap4):=⟨_,rfl⟩
       rw [← hv9] at HN2
       rw [← hv9]
       have hI9:=HN2.out.quiet ((Touch.refl (fun _=>False) v9).alloc (.cells #[.int .i64 (X j)] 3))
       have hrd:Reads (v9.alloc (.cells #[.int .i64 (X j)] 3)) 1 (some ⟨v9.heap.size,0,none⟩) 1 [.int .i64 (X j)]:=Reads.new _ _ _ _ rfl
       have hone:∀ u∈[Value.int .i64 (X j)],u.oneCell'=true:=List.all_eq_true.1 rfl
       have hnb:some b≠(Value.slice wA i wc).ownBlock:=fun e=>(own_ty hI9.wds e.symm).ne (blk_ty hI9.blk) (by decide) rfl
       obtain ⟨r0,r1,r2⟩:=HN2.out.blk.facts
       have HI9:=hide hI9
       have HRD:=hide hrd
       have HONE:=hide hone
       have HNB2:=hide hnb
       clear hv9 hI9 hrd hone hnb b0 b1 b2 q1 q2 q3
       go_wp2_with (at_builtin;refine wpList_app _ rfl (.tmp 62) (.tmp 64) 49 rfl 3 i8 _ 1 8 Tryz.underlying49 hi8 hz80 hz81 hz82 rfl (by decide) (.slice wA i wc) i _ rfl HI9.out.wds (some ⟨v9.heap.size,0,none⟩) 1 1 [.int .i64 (X j)] rfl HRD.out (fun h=>by cases h) HONE.out HIB.out.1 HIB.out.2.2 ?_;intro v1 w10 O10 G10 F10 _;obtain ⟨A5,c5,hv,_,_⟩:=own_len O10;subst hv;have hbC:=HI9.out.blk.grown G10 HNB2.out;obtain ⟨q1,q2,q3⟩:=hbC.facts;have HN3:=hide (NewI.word (x:=X j) HI9.out O10 G10 F10);clear hbC O10 G10 F10)
       go_roundw
       ·exact ⟨i+1,some ⟨g4,0,none⟩,cap4,Z'++[⟨true,out,A2,j,c2,arcs⟩],A5,c5,by simp,by omega,hide (by rw [HXE.out];exact HN3.out),HZE⟩
       ·simp only [intOf];omega
  ·have hie:i=n:=by omega
   subst hie
   have j4:¬ (i:Int)<(i:Int):=by omega
   go_wp2_with fail
   exact bodyPost_ret (v:=.tuple #[.pointer (some ⟨b,0,none⟩),.bool true]) (by simp [results,Tryz.results39,go_sem]) rfl (by
    have hz:=HZ'.out
    rw [List.take_of_length_le (by rw [HLEN.out];exact Nat.le_refl _)] at hz
    first
     | exact ⟨b,A',c',Z',wA,wc,rfl,HI.out,hz⟩
     | exact ⟨b,rfl,A',c',Z',wA,wc,HI.out,hz⟩
     | exact ⟨b,rfl,A',c',Z',⟨wA,wc,HI.out⟩,hz⟩
     | exact ⟨b,rfl,Z',⟨A',c',wA,wc,HI.out⟩,hz⟩)
structure StZ where
 fin:Bool
 out:Int
 arcs:List (Int × Int × Int)
def arcZ (a:Nat × Int × Nat):Int × Int × Int:=((a.1:Int),a.2.1,(a.2.2:Int))
def StP.z (s:StP):StZ:=⟨s.fin,s.out,s.arcs.map arcZ⟩
theorem map_inj {α β:Type} {f:α→β} (hf:∀ a b,f a=f b→a=b):∀ {l m:List α},l.map f=m.map f→l=m
 | [],[],_=>rfl
 | [],_ :: _,h=>by simp at h
 | _ :: _,[],h=>by simp at h
 | a :: l,b :: m,h=>by
  simp only [List.map_cons,List.cons.injEq] at h
  rw [hf _ _ h.1,map_inj hf h.2]
def FormZ (num:Nat) (z:StZ):Prop:=∃ s:StP,s.z=z∧FormP num s
structure BaseT where
 b:Nat
def bs [Inhabited BaseT]:Nat:=(default:BaseT).b
section
variable [Inhabited BaseT]
def OT (w:World) (g:Nat) (t:TypeId):Prop:=(g<w.heap.size∧g<bs)∨TyAt w g t
theorem OT.ne {w:World} {b b':Nat} {t t':TypeId} (h:OT w b t) (h':TyAt w b' t') (ht:t≠t') (hb:bs≤b'):b≠b':=by
 rcases h with ⟨_,h⟩ | h
 ·omega
 ·exact h.ne h' ht
theorem OT.lt {w:World} {b:Nat} {t:TypeId} (h:OT w b t):b<w.heap.size:=by
 rcases h with h | h
 ·exact h.1
 ·exact h.lt
theorem OT.touch {w w':World} {S:Nat→Prop} {b:Nat} {t:TypeId} (h:OT w b t) (T:Touch S w w') (hS:¬ S b):OT w' b t:=by
 rcases h with h | h
 ·exact .inl ⟨Nat.lt_of_lt_of_le h.1 T.size,h.2⟩
 ·exact .inr (h.touch T hS)
structure RdO (w:World) (t:TypeId) (size:Nat) (A:Option Addr) (n:Nat) (xs:List Value):Prop where
 rd:Reads w size A n xs
 ty:0<n→∀ g,adBlock A=some g→OT w g t
theorem RdO.touch {w w':World} {S:Nat→Prop} {t:TypeId} {size:Nat} {A:Option Addr} {n:Nat} {xs:List Value} (h:RdO w t size A n xs) (T:Touch S w w') (hS:∀ g,OT w g t→¬ S g):RdO w' t size A n xs:=by
 by_cases hn:0<n
 ·exact ⟨h.rd.touch T fun g hg=>hS g (h.ty hn g hg),fun _ g hg=>(h.ty hn g hg).touch T (hS g (h.ty hn g hg))⟩
 ·exact ⟨⟨h.rd.1,fun h=>absurd h hn⟩,fun h=>absurd h hn⟩
theorem RdO.quiet {w w':World} {t:TypeId} {size:Nat} {A:Option Addr} {n:Nat} {xs:List Value} (h:RdO w t size A n xs) (T:Touch (fun _=>False) w w'):RdO w' t size A n xs:=h.touch T fun _ _ f=>f
theorem RdT.o {w:World} {t:TypeId} {size:Nat} {A:Option Addr} {n:Nat} {xs:List Value} (h:RdT w t size A n xs):RdO w t size A n xs:=⟨h.rd,fun hn g hg=>.inr (h.ty hn g hg)⟩
theorem RdO.of_own {w:World} {base:Nat} {t:TypeId} {size:Nat} {A:Option Addr} {n c:Nat} {xs:List Value} (h:w.ownsRow base t size (.slice A n c) n xs):RdO w t size A n xs:=(RdT.of_own h).o
structure SV.Od (s:SV) (w:World):Prop where
 len:s.arcs.length=s.n
 rd:RdO w 173 3 s.A s.n (aCells s.arcs)
 le:s.n≤s.c
 mx:s.c≤maxLen
theorem SV.Od.touch {s:SV} {w w':World} {S:Nat→Prop} (h:s.Od w) (T:Touch S w w') (hS:∀ g,OT w g 173 → ¬ S g):s.Od w':=⟨h.len,h.rd.touch T hS,h.le,h.mx⟩
structure StsOd (w:World) (A:Option Addr) (n:Nat) (Z:List SV):Prop where
 rd:RdO w 170 3 A n (sCells Z)
 len:Z.length=n
 el:∀ z∈Z,z.Od w
theorem StsOd.quiet {w w':World} {A:Option Addr} {n:Nat} {Z:List SV} (h:StsOd w A n Z) (T:Touch (fun _=>False) w w'):StsOd w' A n Z:=⟨h.rd.quiet T,h.len,fun z hz=>(h.el z hz).touch T (fun _ _ f=>f)⟩
structure ZV where
 fin:Bool
 out:Int
 A:Option Addr
 n:Nat
 c:Nat
 arcs:List (Int × Int × Int)
def zaCells (l:List (Int × Int × Int)):List Value:=l.flatMap fun a=>[.int .i32 a.1,.int .i64 a.2.1,.int .i64 a.2.2]
def ZV.cells (s:ZV):List Value:=[.bool s.fin,.int .i64 s.out,.slice s.A s.n s.c]
def ZV.p (s:ZV):StZ:=⟨s.fin,s.out,s.arcs⟩
structure ZV.Ok (s:ZV) (w:World):Prop where
 len:s.arcs.length=s.n
 rd:RdO w 173 3 s.A s.n (zaCells s.arcs)
 le:s.n≤s.c
 mx:s.c≤maxLen
def zCells (Z:List ZV):List Value:=Z.flatMap ZV.cells
end
section
variable [Inhabited BaseT]
theorem ZV.Ok.touch {s:ZV} {w w':World} {S:Nat→Prop} (h:s.Ok w) (T:Touch S w w') (hS:∀ g,OT w g 173 → ¬ S g):s.Ok w':=⟨h.len,h.rd.touch T hS,h.le,h.mx⟩
theorem ZV.Ok.quiet {s:ZV} {w w':World} (h:s.Ok w) (T:Touch (fun _=>False) w w'):s.Ok w':=h.touch T (fun _ _ f=>f)
structure StsZ (w:World) (A:Option Addr) (n:Nat) (Z:List ZV):Prop where
 rd:RdO w 170 3 A n (zCells Z)
 len:Z.length=n
 el:∀ z∈Z,z.Ok w
theorem StsZ.quiet {w w':World} {A:Option Addr} {n:Nat} {Z:List ZV} (h:StsZ w A n Z) (T:Touch (fun _=>False) w w'):StsZ w' A n Z:=⟨h.rd.quiet T,h.len,fun z hz=>(h.el z hz).quiet T⟩
end
theorem zaCells_map (l:List (Nat × Int × Nat)):zaCells (l.map arcZ)=aCells l:=by
 unfold zaCells aCells
 rw [List.flatMap_map]
 rfl
section
variable [Inhabited BaseT]
def ZV.sv (z:ZV) (s:StP):SV:=⟨z.fin,z.out,z.A,z.n,z.c,s.arcs⟩
theorem ZV.sv_ok {z:ZV} {w:World} {s:StP} (h:z.Ok w) (hs:s.z=z.p):(z.sv s).Od w∧(z.sv s).p=s∧(z.sv s).cells=z.cells:=by
 obtain ⟨f,o,A,n,c,a⟩:=z
 obtain ⟨f',o',a'⟩:=s
 simp only [StP.z,ZV.p,StZ.mk.injEq] at hs
 obtain ⟨rfl,rfl,rfl⟩:=hs
 refine ⟨⟨?_,?_,h.le,h.mx⟩,rfl,rfl⟩
 ·have:=h.len
  simpa [ZV.sv] using this
 ·have:=h.rd
  rw [zaCells_map] at this
  exact this
theorem stsOk_of {w:World} {A:Option Addr} {n:Nat}:∀ (Z:List ZV) (sts:List StP),Z.map ZV.p=sts.map StP.z→(∀ z∈Z,z.Ok w)→∃ Y:List SV,Y.map SV.p=sts∧sCells Y=zCells Z∧Y.length=Z.length∧∀ y∈Y,y.Od w
 | [],[],_,_=>⟨[],rfl,rfl,rfl,fun y hy=>by cases hy⟩
 | [],_ :: _,h,_=>by simp at h
 | _ :: _,[],h,_=>by simp at h
 | z :: Z,s :: sts,h,hz=>by
  simp only [List.map_cons,List.cons.injEq] at h
  obtain ⟨Y,h1,h2,h3,h4⟩:=stsOk_of (A:=A) (n:=n) Z sts h.2 (fun x hx=>hz x (List.mem_cons_of_mem _ hx))
  obtain ⟨g1,g2,g3⟩:=ZV.sv_ok (hz z List.mem_cons_self) h.1.symm
  refine ⟨z.sv s :: Y,by rw [List.map_cons,h1,g2],?_,by rw [List.length_cons,List.length_cons,h3],?_⟩
  ·unfold sCells zCells at *
   rw [List.flatMap_cons,List.flatMap_cons,h2,g3]
  ·intro y hy
   rcases List.mem_cons.1 hy with rfl | hy
   ·exact g1
   ·exact h4 y hy
theorem StsZ.ok {w:World} {A:Option Addr} {n:Nat} {Z:List ZV} (h:StsZ w A n Z) {sts:List StP} (hs:Z.map ZV.p=sts.map StP.z):∃ Y:List SV,Y.map SV.p=sts∧StsOd w A n Y:=by
 obtain ⟨Y,h1,h2,h3,h4⟩:=stsOk_of (A:=A) (n:=n) Z sts hs h.el
 exact ⟨Y,h1,by rw [h2];exact h.rd,by rw [h3];exact h.len,h4⟩
def zvZero:ZV:=⟨false,0,none,0,0,[]⟩
end
section
variable [Inhabited BaseT]
end
end Go.Proofs.YthockgmbooefpaaGreatDoor
namespace Go.Proofs.YthockgmbooefpaaGreatDoor
open Go.RowKit
section
variable [Inhabited BaseT]
def BoolIff (P:Prop) (e:Ending):Prop:=∃ v:Bool,e=.returned (.bool v)∧(v=true↔P)
end
theorem BoolIff.mk {P:Prop} (v:Bool) (h:v=true↔P):BoolIff P (.returned (.bool v)):=⟨v,rfl,h⟩
section
variable [Inhabited BaseT]
end
section
variable [Inhabited BaseT]
end
end Go.Proofs.YthockgmbooefpaaGreatDoor
namespace Go.Proofs.YthockgmbooefpaaGreatDoor
open Go.RowKit
variable [Inhabited BaseT]
def SumB (U:List S3) (z:StP):Prop:=∀ j,(0≤(sumP U z j).1∧(sumP U z j).1≤4096)∧(0≤(sumP U z j).2.1∧(sumP U z j).2.1≤24)∧(0≤(sumP U z j).2.2∧(sumP U z j).2.2≤1048576)
def SumE (U:List S3) (N:Nat) (z:StP):Prop:=∀ a∈z.arcs,a.2.2<N∧(0≤a.2.1∧a.2.1≤1048576)∧(0≤(U.getD a.2.2 z3).1∧(U.getD a.2.2 z3).1≤4096)∧(0≤(U.getD a.2.2 z3).2.1∧(U.getD a.2.2 z3).2.1≤24)∧(0≤(U.getD a.2.2 z3).2.2∧(U.getD a.2.2 z3).2.2≤1048576)
end Go.Proofs.YthockgmbooefpaaGreatDoor
namespace Go.Proofs.YthockgmbooefpaaGreatDoor
open Go.RowKit Go.WideMaps Go.WideElems Go.ChangeShapes Go.WideShapes Go.MapKept Go.ChangeMaps
variable [Inhabited BaseT]
structure Gr2 (w:World) (B b m:Nat) (kv:Nat→Value) (es:Array MapEntry) (clock:Nat):Prop where
 g:Grp w B b m es clock
 has:∀ k,k<m→∃ (i:Nat) (x:MapEntry),es[i]? = some x∧x.key=kv k
 dist:∀ (i j:Nat) (x y:MapEntry),es[i]? = some x→es[j]? = some y→x.key=y.key→i=j
 full:∀ (i:Nat) (x:MapEntry),es[i]? = some x→∃ xs,RowV w m x.val xs∧∀ k,k<m→kv k=x.key→k∈xs
theorem rowV_inj {w:World} {m m':Nat} {v:Value} {xs ys:List Nat} (h:RowV w m v xs) (k:RowV w m' v ys):xs=ys:=by
 have inj:∀ {a b:List Nat},a.map natV=b.map natV→a=b:=fun h=>map_inj (fun x y e=>by simp only [natV,Value.int.injEq,true_and] at e;omega) h
 obtain ⟨⟨h1,h2⟩,_⟩:=h
 obtain ⟨⟨k1,k2⟩,_⟩:=k
 rcases h2 with ⟨rfl,hn⟩ | ⟨g,cap,cur,rfl,_,hg,_,_,_,ht⟩
 ·rcases k2 with ⟨_,kn⟩ | ⟨g,cap,cur,hv,_⟩
  ·rw [List.eq_nil_of_length_eq_zero hn,List.eq_nil_of_length_eq_zero kn]
  ·cases hv
 ·rcases k2 with ⟨hv,_⟩ | ⟨g',cap',cur',hv,_,kg,_,_,_,kt⟩
  ·cases hv
  ·injection hv with e1 e2 e3
   injection e1 with e1
   injection e1 with e1
   subst e1
   rw [hg] at kg
   simp only [Option.some.injEq,Obj.cells.injEq] at kg
   obtain ⟨rfl,_⟩:=kg
   rw [← e2] at kt
   exact inj (ht.symm.trans kt)
theorem Gr2.quiet {w w':World} {B b m clock:Nat} {kv:Nat→Value} {es:Array MapEntry} (h:Gr2 w B b m kv es clock) (T:Touch (fun _=>False) w w'):Gr2 w' B b m kv es clock :=
 ⟨h.g.quiet T,h.has,h.dist,fun i x hx=>by
  obtain ⟨xs,hr,hf⟩:=h.full i x hx
  exact ⟨xs,hr.touch T (fun _ _ f=>f),hf⟩⟩
theorem Gr2.far {w w':World} {B b m clock:Nat} {kv:Nat→Value} {es:Array MapEntry} {S:Nat→Prop} (h:Gr2 w B b m kv es clock) (T:Touch S w w') (hb:¬ S b) (hs:∀ g,TyAt w g 3 → ¬ S g):Gr2 w' B b m kv es clock :=
 ⟨h.g.far T hb hs,h.has,h.dist,fun i x hx=>by
  obtain ⟨xs,hr,hf⟩:=h.full i x hx
  exact ⟨xs,hr.touch T (fun g hg=>hs g (own_ty hr.1 hg)),hf⟩⟩
theorem Gr2.lookup {w:World} {B b m clock:Nat} {kv:Nat→Value} {es:Array MapEntry} (h:Gr2 w B b m kv es clock) {key:Value} {l:Lit} (hk:keyOf Tryz.prog 246 key=some l) :
  ∃ v xs,(Instr.lookup 241 (.map (some b)) key false).run Tryz.prog w=.ok v w∧RowV w m v xs∧∀ k,k<m→kv k=key→k∈xs:=by
 rcases grp_law.find w hk es.toList h.g.keys with ⟨h1,h2⟩ | ⟨j,e0,h1,h2,h3⟩
 ·refine ⟨.slice none 0 0,[],?_,RowV.nil _ _,fun k hm e=>?_⟩
  ·simp [Instr.lookup,run_underlying Tryz.underlying241,MapKept.run_getObj_map h.g.blk,grp_law.check w _ hk,h1,Result.andThen]
  ·obtain ⟨i,x,hx,hxk⟩:=h.has k hm
   exact absurd (hxk.trans e) (h2 x (List.mem_of_getElem? (by simpa using hx)))
 ·obtain ⟨xs,hr,hf⟩:=h.full j e0 (by simpa using h2)
  refine ⟨e0.val,xs,?_,hr,fun k hm e=>hf k hm (e.trans h3.symm)⟩
  simp [Instr.lookup,run_underlying Tryz.underlying241,MapKept.run_getObj_map h.g.blk,grp_law.check w _ hk,h1,Result.andThen]
theorem Gr2.entry {w:World} {B b m clock:Nat} {kv:Nat→Value} {es:Array MapEntry} (h2:Gr2 w B b m kv es clock) {key:Value} {l:Lit} (hk:keyOf Tryz.prog 246 key=some l) :
  ∃ (es1:Array MapEntry) (clock1 j:Nat) (e0:MapEntry),(Instr.mapEntry 241 (.map (some b)) key).run Tryz.prog w=.ok (.tuple #[e0.val,goInt e0.born]) (setBlock w b (.map es1 clock1))∧Gr2 (setBlock w b (.map es1 clock1)) B b m kv es1 clock1∧es1[j]? = some e0∧e0.key=key:=by
 have h:=h2.g
 have hT:=fun o=>touch_setBlock w b o
 have hlt:=map_lt h.blk
 have hne:∀ (i:Nat) (x:MapEntry),es[i]? = some x→∀ g,x.val.ownBlock=some g→¬ g=b:=by
  intro i x hx g hg
  obtain ⟨xs,hr⟩:=h.vals i x hx
  exact map_ne (own_ty hr.1 hg) h.blk
 rcases grp_law.find w hk es.toList h.keys with ⟨h1,f2⟩ | ⟨j,e0,h1,f2,h3⟩
 ·refine ⟨es.push ⟨key,.slice none 0 0,clock⟩,clock+1,es.size,⟨key,.slice none 0 0,clock⟩,?_,⟨⟨heap_setBlock hlt,stamped_push h.stamped f2,?_,?_,?_,?_⟩,?_,?_,?_⟩,by simp,rfl⟩
  ·simp [Instr.mapEntry,run_underlying Tryz.underlying241,MapKept.run_getObj_map h.blk,grp_law.check w false hk,h1,MapKept.run_setObj_map _ h.blk,Result.andThen,setBlock]
  ·intro x hx
   simp only [Array.toList_push,List.mem_append,List.mem_singleton] at hx
   rcases hx with hx | rfl
   ·exact h.keys x hx
   ·exact ⟨l,hk⟩
  ·intro i x hx
   rw [Array.getElem?_push] at hx
   split at hx
   ·injection hx with hx
    subst hx
    exact ⟨[],RowV.nil _ _⟩
   ·obtain ⟨xs,hr⟩:=h.vals i x hx
    exact ⟨xs,hr.touch (hT _) (hne i x hx)⟩
  ·intro i x hx g hg
   rw [Array.getElem?_push] at hx
   split at hx
   ·injection hx with hx
    subst hx
    cases hg
   ·exact h.young i x hx g hg
  ·intro i j x y hx hy hij g hg
   rw [Array.getElem?_push] at hx hy
   split at hx
   ·injection hx with hx
    subst hx
    cases hg
   ·split at hy
    ·injection hy with hy
     subst hy
     intro e
     cases e
    ·exact h.apart i j x y hx hy hij g hg
  ·intro k hm
   obtain ⟨i,x,hx,hxk⟩:=h2.has k hm
   exact ⟨i,x,by rw [Array.getElem?_push,if_neg (by have:=(Array.getElem?_eq_some_iff.1 hx).1;omega)];exact hx,hxk⟩
  ·intro i j x y hx hy hxy
   rw [Array.getElem?_push] at hx hy
   split at hx
   ·rename_i hi
    split at hy
    ·rename_i hj
     omega
    ·obtain rfl:=Option.some.inj hx
     exact False.elim <| f2 y (List.mem_of_getElem? (i:=j) (by simpa using hy)) hxy.symm
   ·split at hy
    ·obtain rfl:=Option.some.inj hy
     exact False.elim <| f2 x (List.mem_of_getElem? (i:=i) (by simpa using hx)) hxy
    ·exact h2.dist i j x y hx hy hxy
  ·intro i x hx
   rw [Array.getElem?_push] at hx
   split at hx
   ·injection hx with hx
    subst hx
    refine ⟨[],RowV.nil _ _,fun k hm e=>?_⟩
    obtain ⟨i',x',hx',hxk'⟩:=h2.has k hm
    exact absurd (hxk'.trans e) (f2 x' (List.mem_of_getElem? (i:=i') (by simpa using hx')))
   ·obtain ⟨xs,hr,hf⟩:=h2.full i x hx
    exact ⟨xs,hr.touch (hT _) (hne i x hx),hf⟩
 ·have hj:es[j]? = some e0:=by simpa using f2
  have hsame:es.modify j (fun e=>{ e with key:=key })=es:=by
   apply Array.ext'
   rw [Array.toList_modify,modify_eq_set _ _ _ _ f2]
   have:({ e0 with key:=key }:MapEntry)=e0:=by rw [← h3]
   rw [this]
   exact set_self _ _ _ f2
  refine ⟨es,clock,j,e0,?_,⟨⟨heap_setBlock hlt,h.stamped,h.keys,fun i x hx=>?_,h.young,h.apart⟩,h2.has,h2.dist,fun i x hx=>?_⟩,hj,h3⟩
  ·simp [Instr.mapEntry,run_underlying Tryz.underlying241,MapKept.run_getObj_map h.blk,grp_law.check w false hk,h1,hj,h3,grp_law.stays w hk,hsame,MapKept.run_setObj_map _ h.blk,Result.andThen,setBlock]
  ·obtain ⟨xs,hr⟩:=h.vals i x hx
   exact ⟨xs,hr.touch (hT _) (hne i x hx)⟩
  ·obtain ⟨xs,hr,hf⟩:=h2.full i x hx
   exact ⟨xs,hr.touch (hT _) (hne i x hx),hf⟩
theorem Gr2.store {w w6:World} {B b m clock j:Nat} {kv:Nat→Value} {es:Array MapEntry} {e0:MapEntry} (h2:Gr2 w B b m kv es clock) (hkv:e0.key=kv m) {ys:List Nat} (hys:RowV w m e0.val ys) (hj:es[j]? = some e0) {v1:Value} {xs:List Nat} (hg:w.grownBy w6 e0.val.ownBlock) (hf:Fresh w e0.val v1) (hv:RowV w6 (m+1) v1 xs) (hxs:xs=ys++[m]) (hB:B≤w.heap.size) :
  ∃ es',(Instr.entryStore 241 (.map (some b)) (goInt e0.born) v1).run Tryz.prog w6=.ok () (setBlock w6 b (.map es' clock))∧Gr2 (setBlock w6 b (.map es' clock)) B b (m+1) kv es' clock:=by
 have h:=h2.g
 have hlt:=map_lt h.blk
 have hnb:∀ (i:Nat) (x:MapEntry),es[i]? = some x→∀ g,x.val.ownBlock=some g→¬ g=b:=by
  intro i x hx g hg
  obtain ⟨xs,hr⟩:=h.vals i x hx
  exact map_ne (own_ty hr.1 hg) h.blk
 have hT6:Touch (fun x=>e0.val.ownBlock=some x) w w6:=(Touch.refl _ _).grown hg (fun k hk _=>hk)
 have hb6:w6.heap[b]? = some (.map es clock):=(hT6.block b hlt (fun e=>hnb j e0 hj b e rfl)).trans h.blk
 have hT7:=fun o=>touch_setBlock w6 b o
 have hl:es.toList[j]? = some e0:=by simpa using hj
 have hidx:es.findIdx? (fun e=>((e.born:Nat):Int) == ((e0.born:Nat):Int))=some j:=by
  rw [findIdx_arr]
  exact findIdx_born h.stamped.2.1 hl
 have hget:∀ i:Nat,(es.modify j (fun e=>{ e with val:=v1 }))[i]? = if j=i then (es[i]?).map (fun e=>{ e with val:=v1 }) else es[i]? := by
  intro i
  rw [Array.getElem?_modify]
 refine ⟨es.modify j (fun e=>{ e with val:=v1 }),?_,⟨⟨heap_setBlock (map_lt hb6),stamped_modify h.stamped j _ (fun _ _=>rfl) (fun _ _ _=>rfl),?_,?_,?_,?_⟩,?_,?_,?_⟩⟩
 ·simp [Instr.entryStore,MapKept.run_getObj_map hb6,asInt,asIntOf,goInt,hidx,MapKept.run_setObj_map _ hb6,Result.andThen,setBlock]
 ·intro x hx
  rw [Array.toList_modify,modify_eq_set _ _ _ _ hl] at hx
  rcases List.mem_or_eq_of_mem_set hx with hx | rfl
  ·exact h.keys x hx
  ·exact h.keys e0 (List.mem_of_getElem? hl)
 ·intro i x hx
  rw [hget] at hx
  split at hx
  ·rename_i hji
   subst hji
   rw [hj] at hx
   simp only [Option.map_some,Option.some.injEq] at hx
   subst hx
   refine ⟨xs,hv.touch (hT7 _) fun g hg' e=>?_⟩
   exact map_ne (own_ty hv.1 hg') hb6 e
  ·rename_i hji
   obtain ⟨ys,hr⟩:=(h.up (Nat.le_succ m)).vals i x hx
   refine ⟨ys,(hr.touch hT6 fun g hg' e=>?_).touch (hT7 _) (hnb i x hx)⟩
   exact h.apart j i e0 x hj hx hji g e hg'
 ·intro i x hx g hg'
  rw [hget] at hx
  split at hx
  ·rename_i hji
   subst hji
   rw [hj] at hx
   simp only [Option.map_some,Option.some.injEq] at hx
   subst hx
   rcases hf with hf | ⟨g2,e2,hf⟩
   ·simp only at hg'
    rw [hf] at hg'
    exact h.young j e0 hj g hg'
   ·simp only at hg'
    rw [e2] at hg'
    injection hg' with hg'
    omega
  ·exact h.young i x hx g hg'
 ·have hfar:∀ (i:Nat) (x:MapEntry),es[i]? = some x→j≠i→∀ g,v1.ownBlock=some g→x.val.ownBlock≠some g:=by
   intro i x hx hji g hg' e
   rcases hf with hf | ⟨g2,e2,hf⟩
   ·rw [hf] at hg'
    exact h.apart j i e0 x hj hx hji g hg' e
   ·rw [e2] at hg'
    injection hg' with hg'
    obtain ⟨ys,hr⟩:=h.vals i x hx
    have:=(own_ty hr.1 e).lt
    omega
  intro i k x y hx hy hik g hg'
  rw [hget] at hx hy
  split at hx
  ·rename_i hji
   rw [if_neg (by omega)] at hy
   subst hji
   rw [hj] at hx
   simp only [Option.map_some,Option.some.injEq] at hx
   subst hx
   exact hfar k y hy hik g hg'
  ·split at hy
   ·rename_i hji hjk
    subst hjk
    rw [hj] at hy
    simp only [Option.map_some,Option.some.injEq] at hy
    subst hy
    intro e
    exact hfar i x hx hji g e hg'
   ·exact h.apart i k x y hx hy hik g hg'
 ·intro k hk
  rcases Nat.lt_succ_iff_lt_or_eq.1 hk with hk | rfl
  ·obtain ⟨i,x,hx,hxk⟩:=h2.has k hk
   by_cases e:j=i
   ·exact ⟨i,{ x with val:=v1 },by rw [hget,if_pos e,hx];rfl,hxk⟩
   ·exact ⟨i,x,by rw [hget,if_neg e];exact hx,hxk⟩
  ·exact ⟨j,{ e0 with val:=v1 },by rw [hget,if_pos rfl,hj];rfl,hkv⟩
 ·have hk:∀ (i:Nat) (x:MapEntry),(es.modify j (fun e=>{ e with val:=v1 }))[i]? = some x→∃ x',es[i]? = some x'∧x'.key=x.key:=by
   intro i x hx
   rw [hget] at hx
   split at hx
   ·obtain ⟨x',h1,h3⟩:=Option.map_eq_some_iff.1 hx
    exact ⟨x',h1,by rw [← h3]⟩
   ·exact ⟨x,hx,rfl⟩
  intro i k x y hx hy hxy
  obtain ⟨x',h1,h3⟩:=hk i x hx
  obtain ⟨y',h4,h5⟩:=hk k y hy
  exact h2.dist i k x' y' h1 h4 (by rw [h3,h5,hxy])
 ·intro i x hx
  rw [hget] at hx
  split at hx
  ·rename_i hji
   subst hji
   rw [hj] at hx
   simp only [Option.map_some,Option.some.injEq] at hx
   subst hx
   obtain ⟨zs,hr,hf⟩:=h2.full j e0 hj
   have e:=rowV_inj hr hys
   subst e
   refine ⟨xs,hv.touch (hT7 _) fun g hg' e=>?_,?_⟩
   ·exact map_ne (own_ty hv.1 hg') hb6 e
   ·intro k hk e
    rw [hxs]
    rcases Nat.lt_succ_iff_lt_or_eq.1 hk with hk | rfl
    ·exact List.mem_append_left _ (hf k hk e)
    ·exact List.mem_append_right _ (List.mem_singleton.2 rfl)
  ·rename_i hji
   obtain ⟨zs,hr,hf⟩:=h2.full i x hx
   have hr2:RowV w (m+1) x.val zs:=⟨hr.1,by have:=hr.2.1;omega,fun k hk=>by have:=hr.2.2 k hk;omega⟩
   refine ⟨zs,(hr2.touch hT6 fun g hg' e=>?_).touch (hT7 _) (hnb i x hx),?_⟩
   ·exact h.apart j i e0 x hj hx hji g e hg'
   ·intro k hk e
    rcases Nat.lt_succ_iff_lt_or_eq.1 hk with hk | rfl
    ·exact hf k hk e
    ·exact absurd (h2.dist j i e0 x hj hx (hkv.trans e)) hji
end Go.Proofs.YthockgmbooefpaaGreatDoor
namespace Go.Proofs.YthockgmbooefpaaGreatDoor
open Go.RowKit
variable [Inhabited BaseT]
structure VisOk (w:World) (g Y:Nat) (s':List Bool) (nx':Nat) (ok:Bool):Prop where
 yes:ok=true→Blk w g 4 (bCells s')∧Blk w Y 3 #[.int .i64 nx']
theorem VisOk.no {w:World} {g Y:Nat} {s':List Bool} {nx':Nat}:VisOk w g Y s' nx' false:=⟨fun h=>by cases h⟩
end Go.Proofs.YthockgmbooefpaaGreatDoor
