/- What the law rests on, part 8. No condition but those that each theorem names. -/
import Derived.Test.YthockgmbooefpaaGreatDoorL07
import Derived.BigQuiet
import Derived.Deep.QuietTactic
import Derived.Deep.RegionLaw
import Derived.Deep.AppendLies
import Derived.Laws.BitsLemmas
import Derived.Test.YthockgmbooefpaaGreatDoorL01
import Derived.Test.YthockgmbooefpaaGreatDoorL00
set_option linter.unusedSectionVars false
set_option linter.unusedSimpArgs false
set_option linter.unusedVariables false
set_option maxRecDepth 100000
set_option maxHeartbeats 8000000
namespace Go.Proofs.YthockgmbooefpaaGreatDoor
open Go.RowKit
def RgtP (sts:List StP) (base:Int):Prop:=(sts=[]∧base=0)∨RightP sts base
theorem pright_nil (w:World) (A:Option Addr) (c:Nat) :
  Calls Tryz.prog 85 #[.agg #[.int .i64 0,.slice A 0 c]] w fun e w'=>e=.returned (.bool true)∧Touch (fun _=>False) w w':=by
 go_enter Tryz.func85,Tryz.ntmps85
 go_wp2_with fail
 go_step3
 go_wp2_with fail
 rw [Exit.noGoto_ret]
 go_ret
 exact ⟨rfl,(Touch.refl _ _).alloc _⟩
theorem right_all (w:World) (hL:Lst w) (base:Int) (A:Option Addr) (n c:Nat) (Z:List SV) (hst:StsOk w A n Z) (hR:RgtP (Z.map SV.p) base) :
  Calls Tryz.prog 85 #[.agg #[.int .i64 base,.slice A n c]] w fun e w'=>e=.returned (.bool true)∧Touch (fun _=>False) w w':=by
 rcases hR with ⟨h,rfl⟩ | h
 ·have:n=0:=by
   have:=hst.len
   have h2:Z=[]:=by simpa using h
   rw [h2] at this
   simpa using this.symm
  subst this
  exact pright_nil w A c
 ·exact pright_any w hL base A n c Z hst h
theorem right_mach {L:List PRow} (hD:DictP L):RgtP (mach L).states (mach L).base:=by
 by_cases h:L=[]
 ·left
  unfold mach
  rw [if_pos h]
  exact ⟨rfl,rfl⟩
 ·exact .inr (right_made hD h)
theorem new_any (w:World) (hL:Lst w) (base:Int) (A:Option Addr) (n c:Nat) (Z:List SV) (hst:StsOk w A n Z) (hR:RgtP (Z.map SV.p) base) (hn:n≤1000000) :
  Calls Tryz.prog 39 #[.agg #[.int .i64 base,.slice A n c]] w fun e w'=>∃ b A' c' Z' wA wc,e=.returned (.tuple #[.pointer (some ⟨b,0,none⟩),.bool true])∧NewI w w' b base A' n c' Z' wA n wc (wdsF (Z.map SV.p) n)∧Z'.map SV.p=Z.map SV.p:=by
 obtain ⟨i7,hi7,hz70,hz71,hz72⟩:=info_parts infoSt
 obtain ⟨i8,hi8,hz80,hz81,hz82⟩:=info_parts infoInt
 have hlen:(Z.map SV.p).length=n:=by rw [List.length_map,hst.len]
 obtain ⟨w0,hw0⟩:∃ x,x=w.alloc (.cells #[.int .i64 base,.slice A n c] 89):=⟨_,rfl⟩
 have hT0:Touch (fun _=>False) w w0:=by rw [hw0];exact (Touch.refl _ _).alloc _
 have hcr:=right_all w0 (Lst.touch hL hT0) base A n c Z (hst.quiet hT0) hR
 obtain ⟨M,hM⟩:∃ M,M=w.heap.size:=⟨_,rfl⟩
 have hbM:Blk w0 M 89 #[.int .i64 base,.slice A n c]:=by rw [hw0,hM];exact Blk.new _ _ _
 have HST:=hide hst
 have HR:=hide hR
 have HLEN:=hide hlen
 have HW0:=hide hw0
 have HT0:=hide hT0
 have HCR:=hide hcr
 have HM:=hide hM
 have HBM:=hide hbM
 have HN:=hide hn
 have hnI:(n:Int)≤1000000:=by omega
 clear hst hL hR hlen hw0 hT0 hcr hM hbM hn
 go_enter Tryz.func39,Tryz.ntmps39
 go_wp2_with fail
 rw [← HW0.out,← HM.out]
 refine HCR.out.mono ?_
 rintro e w1 ⟨rfl,T1⟩
 have hbM1:=HBM.out.touch T1 (fun f=>f)
 obtain ⟨q1,q2,q3⟩:=hbM1.facts
 have HBM1:=hide hbM1
 have HT1:=hide (HT0.out.then T1)
 clear hbM1 T1 HCR
 go_wp2_with fail
 obtain ⟨w2,hw2⟩:∃ x,x=w1.alloc (.cells #[.int .i64 base,.slice none 0 0,.slice none 0 0] 167):=⟨_,rfl⟩
 obtain ⟨b,hb⟩:∃ b,b=w1.heap.size:=⟨_,rfl⟩
 have hT2:Touch (fun _=>False) w1 w2:=by rw [hw2];exact (Touch.refl _ _).alloc _
 have hbb:Blk w2 b 167 #[.int .i64 base,.slice none 0 0,.slice none 0 0]:=by rw [hw2,hb];exact Blk.new _ _ _
 have hI2:NewI w w2 b base none 0 0 [] none 0 0 (wdsF (Z.map SV.p) 0):=by
  refine ⟨hbb,World.ownsRow_nil _ _ _ _,?_,fun z hz=>(by cases hz),fun g hg=>(by cases hg),fun g hg=>(by cases hg),fun z hz=>(by cases hz),by have:=HT1.out.size;omega,HT1.out.then hT2⟩
  simp only [wdsF,List.take_zero,List.map_nil]
  exact World.ownsRow_nil _ _ _ _
 rw [← hw2,← hb]
 have HI2:=hide hI2
 clear q1 q2 q3 hw2 hb hT2 hbb hI2
 go_loopw [20] (fun iv wr=>∃ (i:Nat) (A':Option Addr) (c':Nat) (Z':List SV) (wA:Option Addr) (wc:Nat),iv=.int .i64 i∧i≤n∧Hid (NewI w wr b base A' i c' Z' wA i wc (wdsF (Z.map SV.p) i))∧Hid (Z'.map SV.p=(Z.map SV.p).take i)) (fun iv _=>n-(intOf iv).toNat)
 case atStart=>exact ⟨0,none,0,[],none,0,rfl,by omega,HI2,hide rfl⟩
 case round =>
  obtain ⟨i,A',c',Z',wA,wc,rfl,hin,HI,HZ'⟩:=hrel
  by_cases hi2:i<n
  ·have hP:RightP (Z.map SV.p) base:=by
    rcases HR.out with ⟨h,_⟩ | h
    ·have:=HLEN.out
     rw [h] at this
     simp at this
     omega
    ·exact h
   have x1:(i:Int)<(n:Int):=by omega
   have x2:(0:Int)≤(i:Int):=by omega
   have x3:IntKind.i64.wrap ((i:Int)+1)=(i:Int)+1:=IntWalk.i64_in _ (by omega)
   have hSr:=HST.out.quiet HI.out.touch
   obtain ⟨g,o,hA,hgl,d0,d1,d2⟩:=state_at hSr.rd.rd hSr.len i hi2
   subst hA
   have hzm:=getD_mem Z svZero i (by rw [HST.out.len];exact hi2)
   have hzo:=hSr.el _ hzm
   have hzp:(Z.map SV.p).getD i noSt=(Z.getD i svZero).p:=by
    simp [List.getD,HST.out.len,hi2]
   have hfm:=hP.form i (by rw [HLEN.out];exact hi2)
   have hsB:=hP.sumB i (by rw [HLEN.out];exact hi2)
   have hsE:=hP.sumE i (by rw [HLEN.out];exact hi2)
   rw [HLEN.out] at hsB hsE
   rw [hzp] at hfm hsB hsE
   obtain ⟨⟨fin,out,zA,q,zc,arcs⟩,hz⟩:∃ z,Z.getD i svZero=z:=⟨_,rfl⟩
   rw [hz] at d0 d1 d2 hzo hzp hfm hsB hsE
   simp only at d0 d1 d2
   have hq:q≤2097152:=by
    have h1:=form_few hfm
    have h2:=hzo.len
    simp only [SV.p] at h1 h2
    omega
   have HFM:=hide hfm
   have HSB:=hide hsB
   have HSE:=hide hsE
   have HZP:=hide hzp
   have HZL:=hide hzo.len
   obtain ⟨wa,hwa⟩:∃ x,x=wr.alloc (.cells #[.bool fin,.int .i64 out,.slice zA q zc] 170):=⟨_,rfl⟩
   obtain ⟨s,hs⟩:∃ s,s=wr.heap.size:=⟨_,rfl⟩
   have hTa:Touch (fun _=>False) wr wa:=by rw [hwa];exact (Touch.refl _ _).alloc _
   have hbs:Blk wa s 170 #[.bool fin,.int .i64 out,.slice zA q zc]:=by rw [hwa,hs];exact Blk.new _ _ _
   have hcc:=clone_any wa zA q zc arcs hzo.len (hzo.rd.quiet hTa) hq
   have hsb:¬ s=b:=by have:=HI.out.blk.lt;omega
   have hsA:∀ g,(Value.slice A' i c').ownBlock=some g→¬ g=s:=by
    intro g hg e
    have:=(own_ty HI.out.own hg).lt
    omega
   have HWA:=hide hwa
   have HSD:=hide hs
   have HTA:=hide hTa
   have HBS:=hide hbs
   have HCC:=hide hcc
   have HSA:=hide hsA
   have hbs':=hbs.facts
   obtain ⟨s0,s1,s2⟩:=hbs'
   clear hP hSr hzm hzo hzp hfm hsB hsE hz hwa hs hTa hbs hcc hsA
   go_wp2_with fail
   rw [← HWA.out,← HSD.out]
   refine HCC.out.mono ?_
   rintro e w3 ⟨A2,c2,rfl,hcl⟩
   have hbs3:=HBS.out.touch hcl.touch (fun f=>f)
   have hw4:Touch (fun y=>y=s) w3 (w3.setCell ⟨s,2,none⟩ (.slice A2 q c2)):=(Touch.refl (fun y=>y=s) w3).setCell (p:=⟨s,2,none⟩) (fun _=>rfl) _
   have hbs4:Blk (w3.setCell ⟨s,2,none⟩ (.slice A2 q c2)) s 170 #[.bool fin,.int .i64 out,.slice A2 q c2]:=by
    have:=hbs3.set_ 2 (.slice A2 q c2)
    simpa using this
   have hnS:∀ y,TyAt w3 y 173 → ¬ y=s:=fun y hy e=>hy.ne (blk_ty hbs3) (by decide) e
   have hO4:=own_touch hcl.own hw4 (fun y hy=>hnS y (own_ty hcl.own hy))
   have hle:=own_slice hcl.own
   have hI3:=HI.out.quiet (HTA.out.then hcl.touch)
   have hI4:NewI w (w3.setCell ⟨s,2,none⟩ (.slice A2 q c2)) b base A' i c' Z' wA i wc (wdsF (Z.map SV.p) i):=by
    refine ⟨hI3.blk.touch hw4 (fun e=>hsb e.symm),own_touch hI3.own hw4 HSA.out,own_touch hI3.wds hw4 (fun y hy e=>(own_ty hI3.wds hy).ne (blk_ty hbs3) (by decide) e),fun z hz=>(hI3.el z hz).touch hw4 hnS,hI3.yA,hI3.yW,hI3.yZ,hI3.yb,?_⟩
    refine hI3.touch.trans hw4 fun y hy e=>?_
    have h1:=HSD.out
    have h2:=HI.out.touch.size
    omega
   have hy2:∀ g,adBlock A2=some g→w.heap.size≤g:=by
    intro g hg
    have h1:=hcl.young g hg
    have h2:=HI.out.touch.size
    have h3:=HTA.out.size
    omega
   obtain ⟨t0,t1,t2⟩:=hbs3.facts
   obtain ⟨w4,hw4d⟩:∃ x,x=w3.setCell ⟨s,2,none⟩ (.slice A2 q c2):=⟨_,rfl⟩
   rw [← hw4d] at hbs4 hO4 hI4
   have HW4:=hide hw4d
   have HBS4:=hide hbs4
   have HO4:=hide hO4
   have HI4:=hide hI4
   have HY2:=hide hy2
   have HLE:=hide hle
   clear hcl hbs3 hw4 hbs4 hnS hO4 hle hI3 hI4 hy2 hw4d HCC s0 s1 s2
   obtain ⟨X,hX⟩:∃ X:Nat→Int,X=fun j=>(sumP (uF (Z.map SV.p) n i) (SV.p ⟨fin,out,zA,q,zc,arcs⟩) j).1:=⟨_,rfl⟩
   have hX0:X 0=if fin=true then 1 else 0:=by
    rw [hX]
    simp only
    rw [sumP_zero]
    rfl
   have hXS:∀ j,j<q→X (j+1)=X j+((uF (Z.map SV.p) n i).getD (arcs.getD j (0,0,0)).2.2 z3).1:=by
    intro j hj
    rw [hX]
    simp only
    rw [sumP_succ _ _ _ (by have:=HZL.out;simp only [SV.p] at this ⊢;omega)]
    rfl
   have hXB:∀ j,0≤X j∧X j≤4096:=by
    intro j
    rw [hX]
    exact (HSB.out j).1
   have hXE:wdsF (Z.map SV.p) (i+1)=wdsF (Z.map SV.p) i++[X q]:=by
    rw [wdsF_succ (by rw [HLEN.out];exact hi2),HZP.out,HLEN.out,hX]
    have:(SV.p ⟨fin,out,zA,q,zc,arcs⟩).arcs.length=q:=HZL.out
    rw [this]
   have hZ2:SV.Ok ⟨fin,out,A2,q,c2,arcs⟩ w4:=⟨HZL.out,RdT.of_own HO4.out,HLE.out.1,HLE.out.2⟩
   have hZE:(Z'++[(⟨fin,out,A2,q,c2,arcs⟩:SV)]).map SV.p=(Z.map SV.p).take (i+1):=by
    rw [List.map_append,HZ'.out,List.take_succ_eq_append_getElem (by rw [HLEN.out];exact hi2)]
    congr 1
    have h:=HZP.out
    rw [List.getD_eq_getElem?_getD,List.getElem?_eq_getElem (by rw [HLEN.out];exact hi2)] at h
    simp only [Option.getD_some] at h
    rw [h]
    rfl
   have HX0:=hide hX0
   have HXS:=hide hXS
   have HXB:=hide hXB
   have HXE:=hide hXE
   have HZ2:=hide hZ2
   have HZE:=hide hZE
   have hqI:(q:Int)≤2097152:=by omega
   obtain ⟨wo,hwo⟩:∃ y,y=wr:=⟨_,rfl⟩
   subst hwo
   clear hX hX0 hXS hXB hXE hZ2 hZE HSB hq
   cases fin with
   | false =>
    go_wp2_with fail
    rw [← HW4.out]
    go_loopw [7,33] (fun mv jv wr=>∃ (j:Nat),mv=.int .i64 (X j)∧jv=.int .i64 j∧j≤q∧Hid (Touch (fun _=>False) w4 wr)) (fun _ jv _=>q-(intOf jv).toNat)
    case atStart=>exact ⟨0,by rw [HX0.out];rfl,rfl,by omega,hide (Touch.refl _ _)⟩
    case round =>
     obtain ⟨j,rfl,rfl,hjq,HTj⟩:=hrel
     have hI:=HI4.out.quiet HTj.out
     obtain ⟨b0,b1,b2⟩:=hI.blk.facts
     by_cases hj2:j<q
     ·have j1:(j:Int)<(q:Int):=by omega
      have j2:(0:Int)≤(j:Int):=by omega
      have j3:IntKind.i64.wrap ((j:Int)+1)=(j:Int)+1:=IntWalk.i64_in _ (by omega)
      obtain ⟨ag,ao,hA2,_,e0,e1,e2⟩:=arc_at (RdT.of_own (own_touch HO4.out HTj.out (fun _ _ f=>f))).rd HZL.out j hj2
      subst hA2
      have hxs:=HXS.out j hj2
      have hto:(arcs.getD j (0,0,0)).2.2<i:=(HFM.out.arc _ (getD_mem arcs (0,0,0) j (by rw [HZL.out];exact hj2))).2.2
      obtain ⟨⟨la,ua,tt⟩,hz⟩:∃ z,arcs.getD j (0,0,0)=z:=⟨_,rfl⟩
      rw [hz] at e0 e1 e2 hxs hto
      simp only at e0 e1 e2 hxs hto
      obtain ⟨wg,wo2,hwA,hwg,hwc⟩:=(RdT.of_own hI.wds).rd.2 (by omega)
      subst hwA
      have v0:=hwc tt (intV ((uF (Z.map SV.p) n i).getD tt z3).1) (by
       rw [List.getElem?_map,wdsF_get (by rw [HLEN.out];omega) hto,HLEN.out]
       rfl)
      obtain ⟨y,hy⟩:∃ y,((uF (Z.map SV.p) n i).getD tt z3).1=y:=⟨_,rfl⟩
      rw [hy] at v0 hxs
      simp only [intV] at v0
      have k1:(tt:Int)<(i:Int):=by omega
      have k2:(0:Int)≤(tt:Int):=by omega
      have hb1:=HXB.out j
      have hb2:=HXB.out (j+1)
      have k3:IntKind.i64.wrap (X j+y)=X j+y:=IntWalk.i64_in _ (by omega)
      have HXJ:=hide hxs
      clear hI hz hwc hy hb1 hb2 hxs
      go_wp2_with fail
      go_quiet (fail)
      go_wp2_with fail
      go_roundw
      ·exact ⟨j+1,by rw [HXJ.out],by simp,by omega,hide ((HTj.out.alloc _).drewN _)⟩
      ·simp only [intOf];omega
     ·have hje:j=q:=by omega
      subst hje
      have j4:¬ (j:Int)<(j:Int):=by omega
      obtain ⟨s0,s1,s2⟩:=(HBS4.out.touch HTj.out (fun f=>f)).facts
      have HIW:=hide hI
      have HNB:Hid (some b≠(Value.slice A' i c').ownBlock):=hide (fun e=>(own_ty hI.own e.symm).ne (blk_ty hI.blk) (by decide) rfl)
      have hzc:=HZ2.out.touch HTj.out (fun _ _ f=>f)
      have HZC:=hide hzc
      have hib:i+1≤maxLen∧(i+1)*40≤140737488355328∧(i+1)*8≤140737488355328:=by unfold maxLen;omega
      have HIB:=hide hib
      clear hI hzc hib
      go_wp2_with fail
      go_region_law (refine step_append_lies _ rfl (.tmp 52) (.tmp 54) 87 rfl 0 170 i7 _ 3 40 Tryz.underlying87 hi7 hz70 hz71 hz72 (by decide) (by decide) (.slice A' i c') i _ (by simp [Act.eval]) (own_touch HIW.out.own ((Touch.refl _ _).alloc _).drew (fun _ _ f=>f)) ⟨wr.heap.size,0,none⟩ 1 1 [.bool false,.int .i64 out,.slice A2 j c2] (by simp [Act.eval]) rfl ?news ?one (by decide) HIB.out.1 HIB.out.2.1 (Nat.zero_le _) _ rfl ?_;(case news=>exact World.news_of_block (Blk.new wr _ _));(case one=>exact List.all_eq_true.1 rfl);intro g4 cap4 w9 hown hgrow hlies _;have hbC:=((HIW.out.blk.alloc (.cells #[.bool false,.int .i64 out,.slice A2 j c2] 170)).drew).grown hgrow HNB.out;obtain ⟨q1,q2,q3⟩:=hbC.facts;have hN2:=NewI.state (HIW.out.quiet (((Touch.refl (fun _=>False) wr).alloc (.cells #[.bool false,.int .i64 out,.slice A2 j c2] 170)).drew)) (z:=⟨false,out,A2,j,c2,arcs⟩) (HZC.out.touch (((Touch.refl (fun _=>False) wr).alloc (.cells #[.bool false,.int .i64 out,.slice A2 j c2] 170)).drew) (fun _ _ f=>f)) HY2.out hown hgrow (by rcases hlies with e | e;exact .inl e.symm;exact .inr ⟨g4,rfl,by rw [e];exact Nat.le_refl _⟩);have HN2:=hide hN2;clear hown hgrow hlies hbC hN2)
      all_goals
       obtain ⟨v9,hv9⟩:∃ x,x=w9.setCell ⟨b,1,none⟩ (.slice (some ⟨g4,0,none⟩) (i+1) cap4):=⟨_,rfl⟩
       rw [← hv9] at HN2
       rw [← hv9]
       have hI9:=HN2.out.quiet ((Touch.refl (fun _=>False) v9).alloc (.cells #[.int .i64 (X j)] 3))
       have hrd:Reads (v9.alloc (.cells #[.int .i64 (X j)] 3)) 1 (some ⟨v9.heap.size,0,none⟩) 1 [.int .i64 (X j)]:=Reads.new _ _ _ _ rfl
       have hone:∀ u∈[Value.int .i64 (X j)],u.oneCell'=true:=List.all_eq_true.1 rfl
       have hnb:some b≠(Value.slice wA i wc).ownBlock:=fun e=>(own_ty hI9.wds e.symm).ne (blk_ty hI9.blk) (by decide) rfl
       obtain ⟨r0,r1,r2⟩:=HN2.out.blk.facts
       have HI9:=hide hI9
       have HRD:=hide hrd
       have HONE:=hide hone
       have HNB2:=hide hnb
       clear hv9 hI9 hrd hone hnb b0 b1 b2 q1 q2 q3
       go_wp2_with (at_builtin;refine wpList_app _ rfl (.tmp 62) (.tmp 64) 49 rfl 3 i8 _ 1 8 Tryz.underlying49 hi8 hz80 hz81 hz82 rfl (by decide) (.slice wA i wc) i _ rfl HI9.out.wds (some ⟨v9.heap.size,0,none⟩) 1 1 [.int .i64 (X j)] rfl HRD.out (fun h=>by cases h) HONE.out HIB.out.1 HIB.out.2.2 ?_;intro v1 w10 O10 G10 F10 _;obtain ⟨A5,c5,hv,_,_⟩:=own_len O10;subst hv;have hbC:=HI9.out.blk.grown G10 HNB2.out;obtain ⟨q1,q2,q3⟩:=hbC.facts;have HN3:=hide (NewI.word (x:=X j) HI9.out O10 G10 F10);clear hbC O10 G10 F10)
       go_roundw
       ·exact ⟨i+1,some ⟨g4,0,none⟩,cap4,Z'++[⟨false,out,A2,j,c2,arcs⟩],A5,c5,by simp,by omega,hide (by rw [HXE.out];exact HN3.out),HZE⟩
       ·simp only [intOf];omega
   | true =>
    go_wp2_with fail
    rw [← HW4.out]
    go_loopw [7,33] (fun mv jv wr=>∃ (j:Nat),mv=.int .i64 (X j)∧jv=.int .i64 j∧j≤q∧Hid (Touch (fun _=>False) w4 wr)) (fun _ jv _=>q-(intOf jv).toNat)
    case atStart=>exact ⟨0,by rw [HX0.out];rfl,rfl,by omega,hide (Touch.refl _ _)⟩
    case round =>
     obtain ⟨j,rfl,rfl,hjq,HTj⟩:=hrel
     have hI:=HI4.out.quiet HTj.out
     obtain ⟨b0,b1,b2⟩:=hI.blk.facts
     by_cases hj2:j<q
     ·have j1:(j:Int)<(q:Int):=by omega
      have j2:(0:Int)≤(j:Int):=by omega
      have j3:IntKind.i64.wrap ((j:Int)+1)=(j:Int)+1:=IntWalk.i64_in _ (by omega)
      obtain ⟨ag,ao,hA2,_,e0,e1,e2⟩:=arc_at (RdT.of_own (own_touch HO4.out HTj.out (fun _ _ f=>f))).rd HZL.out j hj2
      subst hA2
      have hxs:=HXS.out j hj2
      have hto:(arcs.getD j (0,0,0)).2.2<i:=(HFM.out.arc _ (getD_mem arcs (0,0,0) j (by rw [HZL.out];exact hj2))).2.2
      obtain ⟨⟨la,ua,tt⟩,hz⟩:∃ z,arcs.getD j (0,0,0)=z:=⟨_,rfl⟩
      rw [hz] at e0 e1 e2 hxs hto
      simp only at e0 e1 e2 hxs hto
      obtain ⟨wg,wo2,hwA,hwg,hwc⟩:=(RdT.of_own hI.wds).rd.2 (by omega)
      subst hwA
      have v0:=hwc tt (intV ((uF (Z.map SV.p) n i).getD tt z3).1) (by
       rw [List.getElem?_map,wdsF_get (by rw [HLEN.out];omega) hto,HLEN.out]
       rfl)
      obtain ⟨y,hy⟩:∃ y,((uF (Z.map SV.p) n i).getD tt z3).1=y:=⟨_,rfl⟩
      rw [hy] at v0 hxs
      simp only [intV] at v0
      have k1:(tt:Int)<(i:Int):=by omega
      have k2:(0:Int)≤(tt:Int):=by omega
      have hb1:=HXB.out j
      have hb2:=HXB.out (j+1)
      have k3:IntKind.i64.wrap (X j+y)=X j+y:=IntWalk.i64_in _ (by omega)
      have HXJ:=hide hxs
      clear hI hz hwc hy hb1 hb2 hxs
      go_wp2_with fail
      go_quiet (fail)
      go_wp2_with fail
      go_roundw
      ·exact ⟨j+1,by rw [HXJ.out],by simp,by omega,hide ((HTj.out.alloc _).drewN _)⟩
      ·simp only [intOf];omega
     ·have hje:j=q:=by omega
      subst hje
      have j4:¬ (j:Int)<(j:Int):=by omega
      obtain ⟨s0,s1,s2⟩:=(HBS4.out.touch HTj.out (fun f=>f)).facts
      have HIW:=hide hI
      have HNB:Hid (some b≠(Value.slice A' i c').ownBlock):=hide (fun e=>(own_ty hI.own e.symm).ne (blk_ty hI.blk) (by decide) rfl)
      have hzc:=HZ2.out.touch HTj.out (fun _ _ f=>f)
      have HZC:=hide hzc
      have hib:i+1≤maxLen∧(i+1)*40≤140737488355328∧(i+1)*8≤140737488355328:=by unfold maxLen;omega
      have HIB:=hide hib
      clear hI hzc hib
      go_wp2_with fail
      go_region_law (refine step_append_lies _ rfl (.tmp 52) (.tmp 54) 87 rfl 0 170 i7 _ 3 40 Tryz.underlying87 hi7 hz70 hz71 hz72 (by decide) (by decide) (.slice A' i c') i _ (by simp [Act.eval]) (own_touch HIW.out.own ((Touch.refl _ _).alloc _).drew (fun _ _ f=>f)) ⟨wr.heap.size,0,none⟩ 1 1 [.bool true,.int .i64 out,.slice A2 j c2] (by simp [Act.eval]) rfl ?news ?one (by decide) HIB.out.1 HIB.out.2.1 (Nat.zero_le _) _ rfl ?_;(case news=>exact World.news_of_block (Blk.new wr _ _));(case one=>exact List.all_eq_true.1 rfl);intro g4 cap4 w9 hown hgrow hlies _;have hbC:=((HIW.out.blk.alloc (.cells #[.bool true,.int .i64 out,.slice A2 j c2] 170)).drew).grown hgrow HNB.out;obtain ⟨q1,q2,q3⟩:=hbC.facts;have hN2:=NewI.state (HIW.out.quiet (((Touch.refl (fun _=>False) wr).alloc (.cells #[.bool true,.int .i64 out,.slice A2 j c2] 170)).drew)) (z:=⟨true,out,A2,j,c2,arcs⟩) (HZC.out.touch (((Touch.refl (fun _=>False) wr).alloc (.cells #[.bool true,.int .i64 out,.slice A2 j c2] 170)).drew) (fun _ _ f=>f)) HY2.out hown hgrow (by rcases hlies with e | e;exact .inl e.symm;exact .inr ⟨g4,rfl,by rw [e];exact Nat.le_refl _⟩);have HN2:=hide hN2;clear hown hgrow hlies hbC hN2)
      all_goals
       obtain ⟨v9,hv9⟩:∃ x,x=w9.setCell ⟨b,1,none⟩ (.slice (some ⟨g4,0,none⟩) (i+1) cap4):=⟨_,rfl⟩
       rw [← hv9] at HN2
       rw [← hv9]
       have hI9:=HN2.out.quiet ((Touch.refl (fun _=>False) v9).alloc (.cells #[.int .i64 (X j)] 3))
       have hrd:Reads (v9.alloc (.cells #[.int .i64 (X j)] 3)) 1 (some ⟨v9.heap.size,0,none⟩) 1 [.int .i64 (X j)]:=Reads.new _ _ _ _ rfl
       have hone:∀ u∈[Value.int .i64 (X j)],u.oneCell'=true:=List.all_eq_true.1 rfl
       have hnb:some b≠(Value.slice wA i wc).ownBlock:=fun e=>(own_ty hI9.wds e.symm).ne (blk_ty hI9.blk) (by decide) rfl
       obtain ⟨r0,r1,r2⟩:=HN2.out.blk.facts
       have HI9:=hide hI9
       have HRD:=hide hrd
       have HONE:=hide hone
       have HNB2:=hide hnb
       clear hv9 hI9 hrd hone hnb b0 b1 b2 q1 q2 q3
       go_wp2_with (at_builtin;refine wpList_app _ rfl (.tmp 62) (.tmp 64) 49 rfl 3 i8 _ 1 8 Tryz.underlying49 hi8 hz80 hz81 hz82 rfl (by decide) (.slice wA i wc) i _ rfl HI9.out.wds (some ⟨v9.heap.size,0,none⟩) 1 1 [.int .i64 (X j)] rfl HRD.out (fun h=>by cases h) HONE.out HIB.out.1 HIB.out.2.2 ?_;intro v1 w10 O10 G10 F10 _;obtain ⟨A5,c5,hv,_,_⟩:=own_len O10;subst hv;have hbC:=HI9.out.blk.grown G10 HNB2.out;obtain ⟨q1,q2,q3⟩:=hbC.facts;have HN3:=hide (NewI.word (x:=X j) HI9.out O10 G10 F10);clear hbC O10 G10 F10)
       go_roundw
       ·exact ⟨i+1,some ⟨g4,0,none⟩,cap4,Z'++[⟨true,out,A2,j,c2,arcs⟩],A5,c5,by simp,by omega,hide (by rw [HXE.out];exact HN3.out),HZE⟩
       ·simp only [intOf];omega
  ·have hie:i=n:=by omega
   subst hie
   have j4:¬ (i:Int)<(i:Int):=by omega
   go_wp2_with fail
   exact bodyPost_ret (v:=.tuple #[.pointer (some ⟨b,0,none⟩),.bool true]) (by simp [results,Tryz.results39,go_sem]) rfl (by
    have hz:=HZ'.out
    rw [List.take_of_length_le (by rw [HLEN.out];exact Nat.le_refl _)] at hz
    first
     | exact ⟨b,A',c',Z',wA,wc,rfl,HI.out,hz⟩
     | exact ⟨b,rfl,A',c',Z',wA,wc,HI.out,hz⟩
     | exact ⟨b,rfl,A',c',Z',⟨wA,wc,HI.out⟩,hz⟩
     | exact ⟨b,rfl,Z',⟨A',c',wA,wc,HI.out⟩,hz⟩)
def varF:Nat→Nat→List UInt8
 | 0,n=>[UInt8.ofNat n]
 | f+1,n=>if n<128 then [UInt8.ofNat n] else UInt8.ofNat (n % 128+128) :: varF f (n / 128)
def varN (n:Nat):List UInt8:=varF 9 n
theorem varF_len:∀ (f n:Nat),(varF f n).length≤f+1
 | 0,_=>Nat.le_refl _
 | f+1,n=>by
  unfold varF
  split
  ·simp
  ·have:=varF_len f (n / 128)
   simp
   omega
theorem byteV_nat {m:Nat} (h:m<256):byteV (UInt8.ofNat m)=.int .u8 (m:Int):=by unfold byteV;rw [UInt8.toNat_ofNat',Nat.mod_eq_of_lt h]
theorem shr7 (m:Nat):(m:Int).fdiv (2 ^ min (Int.toNat 7) IntKind.u64.bits)=((m / 128:Nat):Int):=by
 have h:min (Int.toNat 7) IntKind.u64.bits=7:=by decide
 rw [h,Int.fdiv_eq_ediv_of_nonneg _ (by decide)]
 omega
theorem or128_all:∀ a:Fin 256,bits .or .u8 (a.val:Int) 128=((a.val % 128+128:Nat):Int):=by decide +kernel
theorem or128 (m:Nat):bits .or .u8 ((m:Int) % 256) 128=(m:Int) % 128+128:=by
 have h:=or128_all ⟨m % 256,by omega⟩
 simp only at h
 rw [show (m:Int) % 256=((m % 256:Nat):Int) by omega,h]
 omega
theorem putuint_any (w0 w:World) (A:Option Addr) (q c:Nat) (xs:List Value) (h:ONx 5 1 w0 w (.slice A q c) q xs) (n:Nat) (hn:n<18446744073709551616) (hq:q≤35184372088832) :
  Calls Tryz.prog 51 #[.slice A q c,.int .u64 n] w fun e w'=>∃ (A':Option Addr) (q' c':Nat),e=.returned (.slice A' q' c')∧ONx 5 1 w0 w' (.slice A' q' c') q' (xs++(varN n).map byteV)∧q'≤q+10∧Touch (fun g=>(Value.slice A q c).ownBlock=some g) w w':=by
 obtain ⟨i0,hi0,hz0,hz1,hz2⟩:=info_parts infoByte
 have H:=hide h
 have HN:=hide hn
 have HQ:=hide hq
 clear h hn hq
 go_enter Tryz.func51,Tryz.ntmps51
 go_wp2_with fail
 go_loopw [0,1] (fun bv nv wr=>∃ (A3:Option Addr) (k c3 m f:Nat) (ys:List UInt8),bv=.slice A3 (q+k) c3∧nv=.int .u64 m∧Hid (ONx 5 1 w0 wr (.slice A3 (q+k) c3) (q+k) (xs++ys.map byteV))∧Hid (ys++varF f m=varN n)∧Hid (m<128 ^ (f+1)∧m≤n∧k+f=9)∧Hid (Touch (fun g=>(Value.slice A q c).ownBlock=some g) w wr)∧Hid (Fresh w (.slice A q c) (.slice A3 (q+k) c3))) (fun _ nv _=>(intOf nv).toNat)
 case atStart=>exact ⟨A,0,c,n,9,[],rfl,rfl,hide (by rw [List.map_nil,List.append_nil];exact H.out),hide rfl,hide ⟨Nat.lt_of_lt_of_le HN.out (by decide),Nat.le_refl _,rfl⟩,hide (Touch.refl _ _),hide (.inl rfl)⟩
 case round =>
  obtain ⟨A3,k,c3,m,f,ys,rfl,rfl,HX,HY,HB,HT,HF⟩:=hrel
  by_cases hm:128≤m
  ·have m0:(128:Int)≤(m:Int):=by omega
   have m1:=or128 m
   have m2:=shr7 m
   have hf:∃ f',f=f'+1:=by
    cases f with
    | zero=>have:=HB.out.1;simp at this;omega
    | succ f'=>exact ⟨f',rfl⟩
   obtain ⟨f',rfl⟩:=hf
   have hvf:varF (f'+1) m=UInt8.ofNat (m % 128+128) :: varF f' (m / 128):=by
    conv=>lhs;unfold varF
    rw [if_neg (by omega)]
   have HVF:=hide hvf
   have HM:=hide hm
   clear hvf
   obtain ⟨wa,hwa⟩:∃ y,y=wr.alloc (.cells #[.int .u8 ((m:Int) % 128+128)] 5):=⟨_,rfl⟩
   have hTa:Touch (fun _=>False) wr wa:=by rw [hwa];exact (Touch.refl _ _).alloc _
   have hrd:Reads wa 1 (some ⟨wr.heap.size,0,none⟩) 1 [.int .u8 ((m:Int) % 128+128)]:=by
    rw [hwa]
    have h:=Reads.new (size:=1) wr 5 [.int .u8 ((m:Int) % 128+128)] 1 rfl
    simpa using h
   have hone:∀ u∈([.int .u8 ((m:Int) % 128+128)]:List Value),u.oneCell'=true:=by
    intro u hu
    rw [List.mem_singleton] at hu
    subst hu
    rfl
   have hbb:q+k+1≤maxLen∧(q+k+1)*1≤140737488355328:=by
    have h1:=HQ.out
    have h2:=HB.out.2.2
    unfold maxLen
    omega
   have HXA:=hide (HX.out.to hTa)
   have HWA:=hide hwa
   have HRD:=hide hrd
   have HONE:=hide hone
   have HBB:=hide hbb
   have HTA:=hide hTa
   clear hm hwa hTa hrd hone hbb
   go_wp2_with (at_builtin;rw [← HWA.out];refine wpList_app _ rfl (.tmp 7) (.tmp 11) 50 rfl 5 i0 _ 1 1 Tryz.underlying50 hi0 hz0 hz1 hz2 rfl (by decide) (.slice A3 (q+k) c3) (q+k) _ rfl HXA.out.own (some ⟨wr.heap.size,0,none⟩) 1 1 [.int .u8 ((m:Int) % 128+128)] rfl HRD.out (fun h=>by cases h) HONE.out HBB.out.1 HBB.out.2 ?_;intro v1 w10 O10 G10 F10 _;obtain ⟨A7,c7,hv,_,_⟩:=own_len O10;subst hv;have HX10:=hide (HXA.out.app O10 G10 F10);have HG10:=hide G10;have HF10:=hide F10;clear O10 G10 F10)
   have hT10:Touch (fun g=>(Value.slice A q c).ownBlock=some g) w w10:=(HT.out.then (HTA.out.up _)).trans ((Touch.refl (fun g=>(Value.slice A3 (q+k) c3).ownBlock=some g) wa).grown HG10.out (fun k e _=>e)) (fun g hg e=>by
    rcases HF.out with e2 | ⟨g',e2,hle⟩
    ·exact e2.symm.trans e
    ·rw [e2] at e
     injection e with e
     omega)
   go_roundw
   case rel =>
    refine ⟨A7,k+1,c7,m / 128,f',ys++[UInt8.ofNat (m % 128+128)],rfl,rfl,hide ?_,hide ?_,hide ⟨?_,?_,?_⟩,hide hT10,hide ?_⟩
    ·rw [List.map_append,← List.append_assoc]
     simp only [List.map_cons,List.map_nil]
     rw [byteV_nat (by omega),show ((m % 128+128:Nat):Int)=(m:Int) % 128+128 by omega]
     exact HX10.out
    ·rw [List.append_assoc,← HY.out,HVF.out]
     rfl
    ·have:=HB.out.1
     rw [Nat.pow_succ] at this
     exact Nat.div_lt_of_lt_mul (by omega)
    ·have:=HB.out.2.1
     omega
    ·have:=HB.out.2.2
     omega
    ·exact HF.out.up HF10.out (Nat.le_trans HT.out.size HTA.out.size)
   case measure =>
    have:=HM.out
    simp only [intOf]
    omega
  ·have m0:¬ (128:Int)≤(m:Int):=by omega
   have m1:(m:Int) % 256=(m:Int):=by omega
   have hvf:varF f m=[UInt8.ofNat m]:=by
    cases f with
    | zero=>rfl
    | succ f' =>
     unfold varF
     rw [if_pos (by omega)]
   have HVF:=hide hvf
   have HM:=hide hm
   clear hvf
   obtain ⟨wa,hwa⟩:∃ y,y=wr.alloc (.cells #[.int .u8 (m:Int)] 5):=⟨_,rfl⟩
   have hTa:Touch (fun _=>False) wr wa:=by rw [hwa];exact (Touch.refl _ _).alloc _
   have hrd:Reads wa 1 (some ⟨wr.heap.size,0,none⟩) 1 [.int .u8 (m:Int)]:=by
    rw [hwa]
    have h:=Reads.new (size:=1) wr 5 [.int .u8 (m:Int)] 1 rfl
    simpa using h
   have hone:∀ u∈([.int .u8 (m:Int)]:List Value),u.oneCell'=true:=by
    intro u hu
    rw [List.mem_singleton] at hu
    subst hu
    rfl
   have hbb:q+k+1≤maxLen∧(q+k+1)*1≤140737488355328:=by
    have h1:=HQ.out
    have h2:=HB.out.2.2
    unfold maxLen
    omega
   have HXA:=hide (HX.out.to hTa)
   have HWA:=hide hwa
   have HRD:=hide hrd
   have HONE:=hide hone
   have HBB:=hide hbb
   have HTA:=hide hTa
   clear hm hwa hTa hrd hone hbb
   go_wp2_with (at_builtin;rw [← HWA.out];refine wpList_app _ rfl (.tmp 15) (.tmp 18) 50 rfl 5 i0 _ 1 1 Tryz.underlying50 hi0 hz0 hz1 hz2 rfl (by decide) (.slice A3 (q+k) c3) (q+k) _ rfl HXA.out.own (some ⟨wr.heap.size,0,none⟩) 1 1 [.int .u8 (m:Int)] rfl HRD.out (fun h=>by cases h) HONE.out HBB.out.1 HBB.out.2 ?_;intro v1 w10 O10 G10 F10 _;obtain ⟨A7,c7,hv,_,_⟩:=own_len O10;subst hv;have HX10:=hide (HXA.out.app O10 G10 F10);have HG10:=hide G10;have HF10:=hide F10;clear O10 G10 F10)
   have hT10:Touch (fun g=>(Value.slice A q c).ownBlock=some g) w w10:=(HT.out.then (HTA.out.up _)).trans ((Touch.refl (fun g=>(Value.slice A3 (q+k) c3).ownBlock=some g) wa).grown HG10.out (fun k e _=>e)) (fun g hg e=>by
    rcases HF.out with e2 | ⟨g',e2,hle⟩
    ·exact e2.symm.trans e
    ·rw [e2] at e
     injection e with e
     omega)
   go_ret
   refine ⟨A7,q+k+1,c7,rfl,?_,by have:=HB.out.2.2;omega,hT10⟩
   have h:=HX10.out
   rw [← HY.out,HVF.out,List.map_append,← List.append_assoc]
   simp only [List.map_cons,List.map_nil]
   rw [byteV_nat (by have:=HM.out;omega)]
   exact h
theorem pput_any (w0 w:World) (A:Option Addr) (q c:Nat) (xs:List Value) (h:ONx 5 1 w0 w (.slice A q c) q xs) (n:Nat) (hn:n<9223372036854775808) (hq:q≤35184372088832) :
  Calls Tryz.prog 111 #[.slice A q c,.int .i64 n] w fun e w'=>∃ (A':Option Addr) (q' c':Nat),e=.returned (.slice A' q' c')∧ONx 5 1 w0 w' (.slice A' q' c') q' (xs++(varN n).map byteV)∧q'≤q+10∧Touch (fun g=>(Value.slice A q c).ownBlock=some g) w w':=by
 have HP:=hide (putuint_any w0 w A q c xs h n (by omega) hq)
 have z1:IntKind.u64.wrap (n:Int)=(n:Int):=IntWalk.u64_in _ (by omega)
 clear h hn hq
 go_enter Tryz.func111,Tryz.ntmps111
 go_wp2_with ((go_at_call 51;refine HP.out.mono ?_;rintro e w2 ⟨A',q',c',rfl,h2,hq2,T2⟩;have H2:=hide (And.intro h2 (And.intro hq2 T2));clear h2 hq2 T2))
 go_ret
 exact ⟨A',q',c',rfl,H2.out⟩
end Go.Proofs.YthockgmbooefpaaGreatDoor
namespace Go.Proofs.YthockgmbooefpaaGreatDoor
def errAt (L:List PRow) (i:Nat):Int:=if wordU (L.getD i PRow.zero).word.toList=false then 71 else if (decide (1≤(L.getD i PRow.zero).weight) && decide ((L.getD i PRow.zero).weight≤1048576))=false then 72 else 73
theorem errAt_eq (L:List PRow) (i:Nat):errAt L i=if wordU (L.getD i PRow.zero).word.toList=false then 71 else if (decide (1≤(L.getD i PRow.zero).weight) && decide ((L.getD i PRow.zero).weight≤1048576))=false then 72 else 73:=rfl
def errU (L:List PRow):Int:=if L.length≤4096 then (match (List.range L.length).find? (fun i=>!fitP L i) with | some i=>errAt L i | none=>0) else 70
theorem errU_long {L:List PRow} (h:¬ L.length≤4096):errU L=70:=by unfold errU;rw [if_neg h]
theorem errU_at {L:List PRow} {i:Nat} (h4:L.length≤4096) (hi:i<L.length) (hF:∀ k,k<i→fitP L k=true) (hno:fitP L i=false):errU L=errAt L i:=by
 have h:(List.range L.length).find? (fun i=>!fitP L i)=some i:=by
  rw [List.find?_range_eq_some]
  exact ⟨by rw [hno];rfl,List.mem_range.2 hi,fun j hj=>by rw [hF j hj];rfl⟩
 unfold errU
 rw [if_pos h4,h]
theorem err71 {x:Int} {v:Bool} {t:Bool} (hx:x=if v=false then 71 else if t=false then 72 else 73) (h:v=false):x=71:=by rw [hx,if_pos h]
theorem err72 {x:Int} {v:Bool} {t:Bool} (hx:x=if v=false then 71 else if t=false then 72 else 73) (h:v=true) (h2:t=false):x=72:=by rw [hx,if_neg (by rw [h];decide),if_pos h2]
theorem err73 {x:Int} {v:Bool} {t:Bool} (hx:x=if v=false then 71 else if t=false then 72 else 73) (h:v=true) (h2:t=true):x=73:=by rw [hx,if_neg (by rw [h];decide),if_neg (by rw [h2];decide)]
end Go.Proofs.YthockgmbooefpaaGreatDoor
namespace Go.Proofs.YthockgmbooefpaaGreatDoor
open Go.RowKit
theorem wpQuiet_cons {P:Program} {ops:Array Oper} {C:World→Prop} {Q:Act→Prop} {o:Oper} {l:List Oper} {a:Act}:wpQuiet P ops C Q (o :: l) a=(if Region.wanted o (yielded ops a.tmps) then o.quiet P a C (wpQuiet P ops C Q l) else wpQuiet P ops C Q l (a.put o.dst undef)):=rfl
end Go.Proofs.YthockgmbooefpaaGreatDoor
