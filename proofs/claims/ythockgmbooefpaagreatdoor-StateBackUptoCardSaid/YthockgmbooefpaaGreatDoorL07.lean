/- What the law rests on, part 7. No condition but those that each theorem names. -/
import Derived.Test.YthockgmbooefpaaGreatDoorL06
import Derived.StillTailTactics
import Derived.Laws.Cover3
set_option linter.unusedSectionVars false
set_option linter.unusedSimpArgs false
set_option linter.unusedVariables false
set_option maxRecDepth 100000
set_option maxHeartbeats 4000000
namespace Go.Proofs.YthockgmbooefpaaGreatDoor
open Go.RowKit Go.WideElems Go.ChangeShapes Go.WideShapes Go.MapKept Go.ChangeMaps
theorem infoSums:(Tryz.prog.info? 243).map (fun i=>(i.zero,i.size,i.bytes))=some (some (.agg #[.int .i64 0,.int .i64 0,.int .i64 0]),3,24):=by kernel_rfl
theorem infoInt:(Tryz.prog.info? 3).map (fun i=>(i.zero,i.size,i.bytes))=some (some (.int .i64 0),1,8):=by kernel_rfl
theorem made_sums (n:Nat):(madeCells #[.int .i64 0,.int .i64 0,.int .i64 0] (n*3)).toList=uCells (List.replicate n z3):=by
 unfold madeCells uCells
 apply List.ext_getElem?
 intro i
 by_cases hi:i<n*3
 ·have h1:=uCells_at (List.replicate n z3) (i / 3) (by simp;omega) (i % 3) (by omega)
  have e:i / 3*3+i % 3=i:=by omega
  rw [e] at h1
  unfold uCells at h1
  rw [h1]
  have hg:(List.replicate n z3).getD (i / 3) z3=z3:=by
   rw [List.getD_eq_getElem?_getD,List.getElem?_replicate,if_pos (by omega)]
   rfl
  rw [hg]
  simp [hi]
  obtain h | h | h:i % 3=0∨i % 3=1∨i % 3=2:=by omega
  ·rw [h];rfl
  ·rw [h];rfl
  ·rw [h];rfl
 ·rw [List.getElem?_eq_none (by simp;omega),List.getElem?_eq_none]
  rw [List.length_flatMap]
  simp
  omega
theorem own_frozen {w:World} {base:Nat} {e:TypeId} {size g n c:Nat} {xs:List Value} (h:w.ownsRow base e size (.slice (some ⟨g,0,none⟩) n c) n xs) (j:Nat):w.frozen? ⟨g,j,none⟩=false:=by
 rcases h.2 with ⟨h0,_⟩ | ⟨g',cap',cur,hv,_,hgg,_⟩
 ·cases h0
 ·injection hv with h1 _ _
  injection h1 with h1
  injection h1 with h1
  subst h1
  exact Blk.frozen hgg j
theorem uCells_set (U:List S3) (i:Nat) (x:S3) (hi:i<U.length):((((uCells U).set (i*3) (.int .i64 x.1)).set (i*3+1) (.int .i64 x.2.1)).set (i*3+2) (.int .i64 x.2.2))=uCells (U.set i x):=by
 induction U generalizing i with
 | nil=>simp at hi
 | cons y U ih =>
  have e:∀ y:S3,∀ U,uCells (y :: U)=.int .i64 y.1 :: .int .i64 y.2.1 :: .int .i64 y.2.2 :: uCells U:=fun _ _=>rfl
  cases i with
  | zero=>rfl
  | succ i =>
   have e1:(i+1)*3=i*3+1+1+1:=by omega
   rw [e,List.set_cons_succ,e,e1]
   simp only [List.set_cons_succ]
   rw [← ih i (by simpa using hi)]
theorem pright_any (w:World) (hL:Lst w) (base:Int) (A:Option Addr) (n c:Nat) (Z:List SV) (hst:StsOk w A n Z) (hR:RightP (Z.map SV.p) base) :
  Calls Tryz.prog 85 #[.agg #[.int .i64 base,.slice A n c]] w fun e w'=>e=.returned (.bool true)∧Touch (fun _=>False) w w':=by
 obtain ⟨i0,hi,hz0,hz1,hz2⟩:=info_parts infoSums
 have hlen:(Z.map SV.p).length=n:=by rw [List.length_map,hst.len]
 have hpos:0<n:=by have:=hR.pos;omega
 have hfew:n≤98305:=by have:=hR.few;omega
 have hb1:=hR.base1
 have hb2:=hR.base2
 have z1:IntKind.i64.wrap ((n:Int)-1)=(n:Int)-1:=IntWalk.i64_in _ (by omega)
 obtain ⟨g,o,hA,hg,c0,c1,c2⟩:=state_at hst.rd.rd hst.len (n-1) (by omega)
 subst hA
 have hfin:(Z.getD (n-1) svZero).fin=false:=by
  have:=hR.root
  rw [hlen] at this
  simpa [List.getD,hst.len,show n-1<n by omega,SV.p] using this
 rw [hfin] at c0
 have y1:(0:Int)≤(n:Int)-1:=by omega
 have y2:(n:Int)-1<(n:Int):=by omega
 have y3:((n:Int)-1).toNat=n-1:=by omega
 have y4:((n:Int) == 0)=false:=by simp;omega
 have y5:¬ (n:Int)=0:=by omega
 have HST:=hide hst
 have HR:=hide hR
 have HL:=hide hL
 have HLEN:=hide hlen
 have hfewI:(n:Int)≤98305:=by omega
 have HFEW:=hide hfew
 clear hst hR hL hlen hfin c1 c2 hfew
 go_enter Tryz.func85,Tryz.ntmps85
 go_wp2_with fail
 go_step3
 go_wp2_with (refine wpList_make_full _ rfl (.tmp 45) (.tmp 45) 240 rfl 0 243 i0 _ 3 Tryz.underlying240 hi hz0 hz1 .i64 .i64 (n:Int) (n:Int) n rfl rfl rfl rfl ?b2 ?b3 (Nat.zero_le _) ?_)
 case b2=>rw [hz2];omega
 case b3=>unfold maxLen;omega
 intro w1 O1 G1
 rw [made_sums] at O1
 obtain ⟨M,hM⟩:∃ M,M=w.heap.size:=⟨_,rfl⟩
 obtain ⟨u,hu⟩:∃ u,u=w.heap.size+1:=⟨_,rfl⟩
 obtain ⟨b,hb⟩:∃ b,b=w1.heap.size:=⟨_,rfl⟩
 obtain ⟨w2,hw2⟩:∃ x,x=w1.alloc (.map #[] 0):=⟨_,rfl⟩
 have hmm:(Instr.makeMap 241 none).run Tryz.prog w1=.ok (.map (some b)) w2:=by rw [hw2,hb];exact run_makeMap _ _
 have hT1:Touch (fun _=>False) w w1:=((Touch.refl _ _).alloc _).grown G1 (fun k h=>by cases h)
 have hT12:Touch (fun _=>False) w1 w2:=by rw [hw2];exact (Touch.refl _ _).alloc _
 have hbM:Blk w2 M 89 #[.int .i64 base,.slice (some ⟨g,o,none⟩) n c]:=by
  rw [hM]
  exact ((Blk.new _ _ _).grown G1 (by simp)).touch hT12 (fun f=>f)
 rw [← hu] at O1
 have hO2:=own_touch O1 hT12 (fun _ _ f=>f)
 have hB2:w2.heap.size=w1.heap.size+1:=by rw [hw2];simp
 have hG2:Grp w2 w2.heap.size b 0 #[] 0:=by
  refine ⟨?_,MapKept.stamped_empty _,by simp,by simp,by simp,by simp⟩
  rw [hw2,hb]
  exact heap_alloc_new _ _
 have hT2:=hT1.then hT12
 have hst2:=HST.out.quiet hT2
 have hMu:¬ M=u:=by omega
 have hMb:¬ M=b:=by have:=(own_ty O1 (g:=u) rfl).lt;omega
 have hub:¬ u=b:=by have:=own_ty O1 (g:=u) rfl;have:=this.lt;omega
 rw [← hu,← hM]
 have HBM:=hide hbM
 have HO2:=hide hO2
 have HG2:=hide hG2
 have HT2:=hide hT2
 have HS2:=hide hst2
 have HU:=hide (show w.heap.size≤u by omega)
 have HB:=hide (show w.heap.size≤b by have:=hT1.size;omega)
 have HMU:=hide hMu
 have HMB:=hide hMb
 have HUB:=hide hub
 have HM:=hide hM
 obtain ⟨q1,q2,q3⟩:=hbM.facts
 clear hb hw2 hT1 hT12 hbM O1 hO2 hB2 hG2 hT2 hst2 hMu hMb hub G1 hu hM
 go_wp2_with fail
 go_step3
 go_wp2_with fail
 go_loopw [5,51] (fun mv iv wr=>∃ (i:Nat) (es:Array MapEntry) (clock:Nat),mv=.map (some b)∧iv=.int .i64 i∧i≤n∧Hid (Grp wr w2.heap.size b i es clock)∧Hid (wr.ownsRow 0 243 3 (.slice (some ⟨u,0,none⟩) n n) n (uCells (uF (Z.map SV.p) n i)))∧Hid (Touch (fun x=>x=u∨x=b) w2 wr)) (fun _ iv _=>n-(intOf iv).toNat)
 case atStart=>exact ⟨0,#[],0,rfl,rfl,by omega,HG2,HO2,hide (Touch.refl _ _)⟩
 case round =>
  obtain ⟨i,es,clock,rfl,rfl,hin,HG,HO,HT⟩:=hrel
  have hnoS:∀ t,t ≠ 243 → ∀ x,TyAt w2 x t→¬ (x=u∨x=b):=by
   intro t ht x hx hor
   rcases hor with e | e
   ·exact hx.ne (own_ty HO2.out (g:=u) rfl) ht e
   ·exact map_ne hx HG2.out.blk e
  have hMr:=HBM.out.touch HT.out (hnoS _ (by decide) _ (blk_ty HBM.out))
  have hSr:StsOk wr (some ⟨g,o,none⟩) n Z:=⟨HS2.out.rd.touch HT.out (hnoS _ (by decide)),HS2.out.len,fun z hz=>(HS2.out.el z hz).touch HT.out (hnoS _ (by decide))⟩
  have HMr:=hide hMr
  have HSr:=hide hSr
  clear hnoS hMr hSr
  by_cases hi2:i<n
  ·have x1:(i:Int)<(n:Int):=by omega
   have x2:(0:Int)≤(i:Int):=by omega
   have x3:IntKind.i64.wrap ((i:Int)+1)=(i:Int)+1:=IntWalk.i64_in _ (by omega)
   obtain ⟨g',o',hA,hgl,d0,d1,d2⟩:=state_at HSr.out.rd.rd HSr.out.len i hi2
   obtain ⟨rfl,rfl⟩:g'=g∧o'=o:=by injection hA with hA;injection hA with e1 e2;exact ⟨e1.symm,e2.symm⟩
   have hzm:=getD_mem Z svZero i (by rw [HS2.out.len];exact hi2)
   have hzo:=HSr.out.el _ hzm
   have hzp:(Z.map SV.p).getD i noSt=(Z.getD i svZero).p:=by
    simp [List.getD,HS2.out.len,hi2]
   have hfm:=HR.out.form i (by rw [HLEN.out];exact hi2)
   rw [hzp] at hfm
   obtain ⟨z,hz⟩:∃ z,Z.getD i svZero=z:=⟨_,rfl⟩
   rw [hz] at d0 d1 d2 hzo hzp hfm
   have HZ:=hide hz
   have HZP:=hide hzp
   obtain ⟨wa,hwa⟩:∃ x,x=wr.alloc (.cells #[.bool z.fin,.int .i64 z.out,.slice z.A z.n z.c] 170):=⟨_,rfl⟩
   obtain ⟨s,hs⟩:∃ s,s=wr.heap.size:=⟨_,rfl⟩
   have hTa:Touch (fun _=>False) wr wa:=by rw [hwa];exact (Touch.refl _ _).alloc _
   have hbs:Blk wa s 170 #[.bool z.fin,.int .i64 z.out,.slice z.A z.n z.c]:=by rw [hwa,hs];exact Blk.new _ _ _
   have hTw:Touch (fun _=>False) w wr:=HT2.out.trans HT.out fun x hx hor=>by
    have h1:=HU.out
    have h2:=HB.out
    omega
   have hfc:=formed_any wa (Lst.touch HL.out (hTw.then hTa)) z (hzo.touch hTa (fun _ _ f=>f)) i (by omega) hfm
   have hsB:=HR.out.sumB i (by rw [HLEN.out];exact hi2)
   have hsE:=HR.out.sumE i (by rw [HLEN.out];exact hi2)
   rw [HLEN.out,hzp] at hsB hsE
   have hcs:∀ w3,Touch (fun _=>False) wa w3→Calls Tryz.prog 139 #[.agg #[.bool z.fin,.int .i64 z.out,.slice z.A z.n z.c],.slice (some ⟨u,0,none⟩) n n] w3 _:=fun w3 T3 =>
    sum_any w3 z ((hzo.touch hTa (fun _ _ f=>f)).touch T3 (fun _ _ f=>f)) (uF (Z.map SV.p) n i) (some ⟨u,0,none⟩) n n (RdT.of_own (own_touch HO.out (hTa.then T3) (fun _ _ f=>f))) (uF_len _ _ _) (by omega) hsB fun a ha=>⟨by have:=(hfm.arc a ha).2.2;omega,⟨(hfm.arc a ha).1,(hfm.arc a ha).2.1⟩,hsE a ha⟩
   have HFC:=hide hfc
   have HCS:=hide hcs
   have HWA:=hide hwa
   have HSD:=hide hs
   have HTA:=hide hTa
   have HBS:=hide hbs
   have HZO:=hide hzo
   have HFM:=hide hfm
   have HTW:=hide hTw
   obtain ⟨m0,m1,m2⟩:=HMr.out.facts
   clear hz hzm hzp hwa hs hTa hbs hfc hsB hsE hcs hzo hfm hTw
   go_wp2_with fail
   rw [← HWA.out,← HSD.out]
   refine HFC.out.mono ?_
   rintro e w3 ⟨rfl,T3⟩
   have hbs3:=HBS.out.touch T3 (fun f=>f)
   obtain ⟨s0,s1,s2⟩:=hbs3.facts
   have HBS3:=hide hbs3
   have HT3:=hide T3
   have HCS3:=hide (HCS.out w3 T3)
   clear T3 hbs3 HCS HFC
   go_wp2_with fail
   refine HCS3.out.mono ?_
   rintro e w4 ⟨rfl,T4⟩
   clear s0 s1 s2
   have hbs4:=HBS3.out.touch T4 (fun f=>f)
   obtain ⟨s0,s1,s2⟩:=hbs4.facts
   have hT4:=(HTA.out.then HT3.out).then T4
   have hO4:=own_touch HO.out hT4 (fun _ _ f=>f)
   obtain ⟨ug,uo,hA,hug,e0,e1,e2⟩:=sum_at (RdT.of_own hO4).rd (uF_len _ _ _) i hi2
   injection hA with hA
   injection hA with hA1 hA2
   subst hA1 hA2
   have f0:=own_frozen hO4 (i*3)
   have f1:=own_frozen hO4 (i*3+1)
   have f2:=own_frozen hO4 (i*3+2)
   simp only [Nat.zero_add] at e0 e1 e2
   have HBS4:=hide hbs4
   have HT4:=hide hT4
   have HO4:=hide hO4
   have hsu:¬ s=u:=by
    have h1:=(own_ty HO.out (g:=u) rfl).lt
    have h2:=HSD.out
    omega
   have hus:¬ u=s:=fun e=>hsu e.symm
   clear hbs4 hT4 hO4 T4 HCS3
   go_wp2_with fail
   obtain ⟨x,hx⟩:∃ x,sumP (uF (Z.map SV.p) n i) z.p z.n=x:=⟨_,rfl⟩
   rw [hx]
   obtain ⟨w5,hw5⟩:∃ y,y=((w4.setCell ⟨u,i*3,none⟩ (.int .i64 x.1)).setCell ⟨u,i*3+1,none⟩ (.int .i64 x.2.1)).setCell ⟨u,i*3+2,none⟩ (.int .i64 x.2.2):=⟨_,rfl⟩
   have hT45:Touch (fun y=>y=u) w4 w5:=by
    rw [hw5]
    exact (((Touch.refl (fun y=>y=u) w4).setCell (p:=⟨u,i*3,none⟩) (fun _=>rfl) _).setCell (p:=⟨u,i*3+1,none⟩) (fun _=>rfl) _).setCell (p:=⟨u,i*3+2,none⟩) (fun _=>rfl) _
   have hO5:w5.ownsRow 0 243 3 (.slice (some ⟨u,0,none⟩) n n) n (uCells (uF (Z.map SV.p) n (i+1))):=by
    have h:=own_set (own_set (own_set HO4.out (i*3) (.int .i64 x.1)) (i*3+1) (.int .i64 x.2.1)) (i*3+2) (.int .i64 x.2.2)
    rw [uCells_set _ _ _ (by rw [uF_len];exact hi2),← hw5] at h
    simp only [uF]
    rw [HZP.out,show z.p.arcs.length=z.n from HZO.out.len,hx]
    exact h
   rw [← hw5]
   have hnu:∀ t,t ≠ 243 → ∀ y,TyAt w4 y t→¬ y=u:=fun t ht y hy e=>hy.ne (own_ty HO4.out (g:=u) rfl) ht e
   have hzo4:=HZO.out.touch HT4.out (fun _ _ f=>f)
   have hzo5:=hzo4.touch hT45 (hnu _ (by decide))
   have hbs5:=HBS4.out.touch hT45 hsu
   have hG5:=(HG.out.quiet HT4.out).far hT45 (fun e=>HUB.out e.symm) (hnu _ (by decide))
   have hfo:=HFM.out.out0
   have hfo1:=HFM.out.out1
   have hkc:=key_any w5 z hzo5 ⟨hfo,hfo1⟩
   have hM5:=(HMr.out.touch HT4.out (fun f=>f)).touch hT45 HMU.out
   have hSt4:=HSr.out.quiet HT4.out
   have hSt5:StsOk w5 (some ⟨g',o',none⟩) n Z:=⟨hSt4.rd.touch hT45 (hnu _ (by decide)),hSt4.len,fun z hz=>(hSt4.el z hz).touch hT45 (hnu _ (by decide))⟩
   have HO5:=hide hO5
   have HBS5:=hide hbs5
   have HG5:=hide hG5
   have HKC:=hide hkc
   have HM5:=hide hM5
   have HS5:=hide hSt5
   have HT5:=hide ((HT4.out.up (fun y=>y=u)).then hT45)
   have HSU:=hide hsu
   clear hx hw5 hT45 hO5 hnu hzo4 hzo5 hbs5 hG5 hfo hfo1 hkc hM5 hSt4 hSt5 s0 s1 s2 e0 e1 e2 f0 f1 f2 hsu hus d0 d1 d2 m0 m1 m2
   refine HKC.out.mono ?_
   rintro e w6 ⟨ka,kb,kc,kd,rfl,hI,T6⟩
   obtain ⟨w7,hw7⟩:∃ y,y=w6.alloc (.cells #[.int .i64 ka,.int .i64 kb,.int .i64 kc,.int .i64 kd] 246):=⟨_,rfl⟩
   obtain ⟨K,hK⟩:∃ K,K=w6.heap.size:=⟨_,rfl⟩
   have hbK:Blk w7 K 246 #[.int .i64 ka,.int .i64 kb,.int .i64 kc,.int .i64 kd]:=by rw [hw7,hK];exact Blk.new _ _ _
   have hT7:Touch (fun _=>False) w5 w7:=by rw [hw7];exact T6.alloc _
   obtain ⟨kl,hkl⟩:=grp_key hI.1 hI.2.1 hI.2.2.1 hI.2.2.2
   have hG7:=HG5.out.quiet hT7
   obtain ⟨v,xs,hlk,hrow⟩:=hG7.lookup hkl
   obtain ⟨vA,vc,hv,_,_⟩:=own_len hrow.1
   subst hv
   have HBK:=hide hbK
   have HT7:=hide hT7
   have HKL:=hide hkl
   have HG7:=hide hG7
   have HROW:=hide hrow
   have HW7:=hide hw7
   have HK:=hide hK
   rw [hw7] at hlk
   clear hbK hT7 hkl hG7 hrow hw7 hK T6 hI HKC
   go_wp2_with fail
   obtain ⟨wo,hwo⟩:∃ y,y=wr:=⟨_,rfl⟩
   subst hwo
   obtain ⟨q,hq⟩:∃ q,xs.length=q:=⟨_,rfl⟩
   rw [hq]
   have HQ:=hide hq
   have hqi:q≤i:=by rw [← hq];exact HROW.out.2.1
   clear hq q1 q2 q3 x3 hlk
   go_loopw [5,77] (fun mv iv wr=>∃ (j:Nat),mv=.map (some b)∧iv=.int .i64 j∧j≤q∧Hid (Touch (fun _=>False) w7 wr)) (fun _ iv _=>q-(intOf iv).toNat)
   case atStart =>
    rw [← HW7.out]
    exact ⟨0,rfl,rfl,by omega,hide (Touch.refl _ _)⟩
   case round =>
    obtain ⟨j,rfl,rfl,hjq,HTj⟩:=hrel
    by_cases hj2:j<q
    ·have j1:(j:Int)<(q:Int):=by omega
     have j2:(0:Int)≤(j:Int):=by omega
     have j3:IntKind.i64.wrap ((j:Int)+1)=(j:Int)+1:=IntWalk.i64_in _ (by omega)
     have hrow:=HROW.out.touch HTj.out (fun _ _ f=>f)
     obtain ⟨k,hk⟩:∃ k,xs.getD j 0=k:=⟨_,rfl⟩
     have hki:k<i:=by
      rw [← hk]
      exact hrow.2.2 _ (getD_mem xs 0 j (by rw [HQ.out];exact hj2))
     obtain ⟨vb,vo,hvA,hvb,hvc⟩:=(RdT.of_own hrow.1).rd.2 (by rw [HQ.out];omega)
     subst hvA
     have v0:=hvc j (natV k) (by
      rw [List.getElem?_map,getD_get? (d:=0) (by rw [HQ.out];exact hj2),hk]
      rfl)
     simp only [natV] at v0
     have hT7j:=HT7.out.then HTj.out
     have hS:=HS5.out.quiet hT7j
     obtain ⟨gk,ok,hA,_,d0,d1,d2⟩:=state_at hS.rd.rd hS.len k (by omega)
     obtain ⟨rfl,rfl⟩:gk=g'∧ok=o':=by injection hA with hA;injection hA with e1 e2;exact ⟨e1.symm,e2.symm⟩
     have hym:=getD_mem Z svZero k (by rw [HS2.out.len];omega)
     have hyo:=hS.el _ hym
     have hzm:=getD_mem Z svZero i (by rw [HS2.out.len];omega)
     have hzo:=hS.el _ hzm
     have hne:z.p≠(Z.getD k svZero).p:=by
      intro e
      have h1:(Z.map SV.p).getD i noSt=z.p:=HZP.out
      have h2:(Z.map SV.p).getD k noSt=(Z.getD k svZero).p:=by
       simp [List.getD,HS2.out.len,show k<n by omega]
      have:=HR.out.unalike i k (by rw [HLEN.out];exact hi2) (by rw [HLEN.out];omega) (by rw [h1,h2,e])
      omega
     rw [HZ.out] at hzo
     obtain ⟨y,hy⟩:∃ y,Z.getD k svZero=y:=⟨_,rfl⟩
     rw [hy] at d0 d1 d2 hyo hne
     obtain ⟨m0,m1,m2⟩:=(HM5.out.touch hT7j (fun f=>f)).facts
     obtain ⟨s0,s1,s2⟩:=(HBS5.out.touch hT7j (fun f=>f)).facts
     have n1:(k:Int)<(n:Int):=by omega
     have n2:(0:Int)≤(k:Int):=by omega
     have HAL:=hide (fun wx T=>alike_any wx z y (hzo.touch T (fun _ _ f=>f)) (hyo.touch T (fun _ _ f=>f)) hne)
     have HTj7:=hide hT7j
     clear hrow hk hvc hT7j hS hA hym hyo hzm hzo hne hy
     go_wp2_with fail
     go_still_tail 6,(by kernel_rfl)
     change wpList _ _ _ _ _ wr.drew
     have HD:=hide (show Touch (fun _=>False) wr wr.drew from (Touch.refl _ _).drew)
     generalize wr.drew=wd at HD ⊢
     go_wp2_with ((go_at_call 141;refine (HAL.out wd HD.out).mono ?_;rintro e w9 ⟨rfl,T9⟩;have HT9:=hide T9;clear T9))
     go_roundw
     ·exact ⟨j+1,rfl,by simp,by omega,hide (HTj.out.then (HD.out.then HT9.out))⟩
     ·simp only [intOf];omega
    ·have hje:j=q:=by omega
     subst hje
     have j4:¬ (j:Int)<(j:Int):=by omega
     have x3:IntKind.i64.wrap ((i:Int)+1)=(i:Int)+1:=IntWalk.i64_in _ (by omega)
     obtain ⟨w8,hw8⟩:∃ y,y=wr.alloc (.cells #[.int .i64 i] 3):=⟨_,rfl⟩
     have hT78:Touch (fun _=>False) w7 w8:=by rw [hw8];exact HTj.out.alloc _
     have hb8:Blk w8 wr.heap.size 3 #[.int .i64 i]:=by rw [hw8];exact Blk.new _ _ _
     have hG8:=HG7.out.quiet hT78
     obtain ⟨es1,clock1,jj,e0,hme,hG9,hj0⟩:=hG8.entry HKL.out
     obtain ⟨w9,hw9⟩:∃ y,y=setBlock w8 b (.map es1 clock1):=⟨_,rfl⟩
     rw [← hw9] at hme hG9
     have hT89:Touch (fun y=>y=b) w8 w9:=by rw [hw9];exact touch_setBlock _ _ _
     have hb9:=hb8.touch hT89 (map_ne (blk_ty hb8) hG8.blk)
     obtain ⟨ys,hrow⟩:=hG9.vals jj e0 hj0
     obtain ⟨eA,ec,hev,_,_⟩:=own_len hrow.1
     have hbk:=HBK.out.touch HTj.out (fun f=>f)
     rw [HK.out] at hbk
     obtain ⟨r0,r1,r2⟩:=hbk.facts
     have HROW9:=hide hrow
     have HG9:=hide hG9
     have HJ0:=hide hj0
     have HEV:=hide hev
     have HT89:=hide hT89
     have HT78:=hide hT78
     have HB9:=hide hb9
     have HW8:=hide hw8
     obtain ⟨i1,hi1,hy0,hy1,hy2⟩:=info_parts infoInt
     rw [hev] at hme
     rw [hw8] at hme
     simp only [goInt] at hme
     have hrow1:=hrow.1
     rw [hev] at hrow1
     have hrd:Reads w9 1 (some ⟨wr.heap.size,0,none⟩) 1 [.int .i64 i]:=⟨by simp,fun _=>⟨wr.heap.size,0,rfl,hb9.lt,fun j u hu=>by rw [hb9.cell,Nat.zero_add];simpa using hu⟩⟩
     have hone:∀ u∈[Value.int .i64 (i:Int)],u.oneCell'=true:=by
      intro u hu
      simp only [List.mem_singleton] at hu
      subst hu
      rfl
     have hyl:ys.length≤i:=hrow.2.1
     have hbb1:ys.length+1≤maxLen:=by unfold maxLen;omega
     have hbb2:(ys.length+1)*8≤140737488355328:=by omega
     have hST:Hid (∀ v1 w10,w10.ownsRow 0 3 1 v1 (ys.length+1) (ys.map natV++[.int .i64 i])→w9.grownBy w10 (Value.slice eA ys.length ec).ownBlock→Fresh w9 (.slice eA ys.length ec) v1 →
       ∃ es' w11,(Instr.entryStore 241 (.map (some b)) (.int .i64 e0.born) v1).run Tryz.prog w10=.ok () w11∧Grp w11 w2.heap.size b (i+1) es' clock1∧w11.ownsRow 0 243 3 (.slice (some ⟨u,0,none⟩) n n) n (uCells (uF (Z.map SV.p) n (i+1)))∧Touch (fun x=>x=u∨x=b) w2 w11):=by
      intro v1 w10 O10 G10 F10
      have hB:w2.heap.size≤w9.heap.size:=by
       have h1:=HT.out.size
       have h2:=HT5.out.size
       have h3:=HT7.out.size
       have h4:=hT78.size
       have h5:=hT89.size
       omega
      obtain ⟨es',hes,hG11⟩:=hG9.store hj0 (v1:=v1) (xs:=ys++[i]) (by rw [hev];exact G10) (by rw [hev];exact F10) ⟨by simpa [natV] using O10,by simp;omega,by
       intro k hk
       rcases List.mem_append.1 hk with h | h
       ·have:=hrow.2.2 k h;omega
       ·simp at h;omega⟩ hB
      refine ⟨es',_,hes,hG11,?_,?_⟩
      ·have h1:=own_touch HO5.out (HT7.out.then hT78) (fun _ _ f=>f)
       have h2:=own_touch h1 hT89 (fun y hy e=>by
        injection hy with hy
        exact HUB.out (hy.trans e))
       have h3:=own_touch h2 ((Touch.refl (fun y=>(Value.slice eA ys.length ec).ownBlock=some y) w9).grown G10 (fun k hk _=>hk)) (fun y hy e=>own_own_ne h2 hrow1 (by decide) hy e)
       exact own_touch h3 (touch_setBlock _ _ _) (fun y hy e=>by
        injection hy with hy
        exact HUB.out (hy.trans e))
      ·have t1:Touch (fun x=>x=u∨x=b) w2 w8:=(HT.out.trans HT5.out fun _ _ h=>.inl h).trans (HT7.out.then hT78) (fun _ _ f=>f.elim)
       have t2:=t1.trans hT89 (fun _ _ h=>.inr h)
       have t3:=t2.grown G10 (fun k hk hlt=>by
        have:=hG9.young jj e0 hj0 k (by rw [hev];exact hk)
        omega)
       exact t3.trans (touch_setBlock _ _ _) (fun _ _ h=>.inr h)
     have HRW:=hide hrow1
     have HRD:=hide hrd
     have HONE:=hide hone
     have HBB:=hide (And.intro hbb1 hbb2)
     clear hw8 hw9 hT78 hb8 hG8 hG9 hj0 hT89 hb9 hrow hev hrow1 hrd hone hbb1 hbb2
     go_wp2_with (at_builtin;refine wpList_app _ rfl (.tmp 91) (.tmp 93) 49 rfl 3 i1 _ 1 8 Tryz.underlying49 hi1 hy0 hy1 hy2 rfl (by decide) (.slice eA ys.length ec) ys.length _ rfl HRW.out (some ⟨wr.heap.size,0,none⟩) 1 1 [.int .i64 i] rfl HRD.out (fun h=>by cases h) HONE.out HBB.out.1 HBB.out.2 ?_;intro v1 w10 O10 G10 F10 _;obtain ⟨es',w11,hes,hG11,hO11,hT11⟩:=hST.out v1 w10 O10 G10 F10;have HG11:=hide hG11;have HO11:=hide hO11;have HT11:=hide hT11;clear hG11 hO11 hT11 O10 G10 F10)
     go_roundw
     ·exact ⟨i+1,es',clock1,rfl,by simp,by omega,HG11,HO11,HT11⟩
     ·simp only [intOf];omega
  ·have hie:i=n:=by omega
   subst hie
   have j4:¬ (i:Int)<(i:Int):=by omega
   obtain ⟨ug,uo,hA,hug,e0,e1,e2⟩:=sum_at (RdT.of_own HO.out).rd (uF_len _ _ _) (i-1) (by omega)
   injection hA with hA
   injection hA with hA1 hA2
   subst hA1 hA2
   have htop:=HR.out.top
   rw [HLEN.out] at htop
   have hsok:=HR.out.sumB (i-1) (by rw [HLEN.out];omega)
   rw [HLEN.out] at hsok
   obtain ⟨x,hx⟩:∃ x,((uF (Z.map SV.p) i i).getD (i-1) z3).2.2=x:=⟨_,rfl⟩
   rw [hx] at e2 htop
   have hx0:0≤x:=by
    rw [← hx]
    have e:uF (Z.map SV.p) i i=(uF (Z.map SV.p) i (i-1)).set (i-1) (sumP (uF (Z.map SV.p) i (i-1)) ((Z.map SV.p).getD (i-1) noSt) ((Z.map SV.p).getD (i-1) noSt).arcs.length):=by
     obtain ⟨k,rfl⟩:∃ k,i=k+1:=⟨i-1,by omega⟩
     rfl
    rw [e,List.getD_eq_getElem?_getD,List.getElem?_set_self (by rw [uF_len];omega)]
    exact (hsok _).2.2.1
   simp only [Nat.zero_add] at e2
   have z2:IntKind.i64.wrap (base+x)=base+x:=IntWalk.i64_in _ (by omega)
   have hdt:decide (base+x≤1048576)=true:=by simpa using htop
   obtain ⟨m0,m1,m2⟩:=HMr.out.facts
   obtain ⟨F,s',hvis⟩:=HR.out.vis
   rw [HLEN.out] at hvis
   have harc:∀ z∈Z,∀ a∈z.arcs,a.2.2<i:=by
    intro z hz a ha
    obtain ⟨k,hk,rfl⟩:=List.mem_iff_getElem.1 hz
    have hk2:k<i:=by rw [← HS2.out.len];exact hk
    have hf:=HR.out.form k (by rw [HLEN.out];exact hk2)
    have e:(Z.map SV.p).getD k noSt=(Z[k]).p:=by simp [List.getD,hk]
    rw [e] at hf
    have:=(hf.arc a ha).2.2
    omega
   have hcn:=fun wx T=>numbered_any wx base (some ⟨g,o,none⟩) i c Z (HSr.out.quiet (w':=wx) T) harc hpos (by omega) F s' hvis
   have HCN:=hide hcn
   have hTw:Touch (fun _=>False) w wr:=HT2.out.trans HT.out fun x hx hor=>by
    have h1:=HU.out
    have h2:=HB.out
    omega
   have HTW:=hide hTw
   have hmn:=fun wx=>run_neq_map_nil (P:=Tryz.prog) (w:=wx) 241 246 49 (some b) Tryz.underlying241
   clear hx hsok htop hx0 e0 e1 hvis harc hcn hTw
   go_wp2_with fail
   go_still_tail 15,(by kernel_rfl)
   change wpList _ _ _ _ _ wr.drew
   have HD:=hide (show Touch (fun _=>False) wr wr.drew from (Touch.refl _ _).drew)
   generalize wr.drew=wd at HD ⊢
   go_wp2_with ((go_at_call 142;refine (HCN.out wd HD.out).mono ?_;rintro e w9 ⟨rfl,T9⟩;have HT9:=hide T9;clear T9))
   rw [Exit.noGoto_ret]
   go_ret
   exact ⟨rfl,HTW.out.then (HD.out.then HT9.out)⟩
end Go.Proofs.YthockgmbooefpaaGreatDoor
namespace Go.Proofs.YthockgmbooefpaaGreatDoor
open Go.RowKit
theorem own_nought (w:World) (e:TypeId) (size:Nat):(w.alloc (.cells #[] e)).ownsRow 0 e size (.slice (some ⟨w.heap.size,0,none⟩) 0 0) 0 [] :=
 ⟨by simp,.inr ⟨w.heap.size,0,#[],rfl,Nat.zero_le _,heap_alloc_new _ _,Nat.le_refl _,Nat.zero_le _,by simp,by simp⟩⟩
theorem run_eql_arcs (w:World) (a:Option Addr) (l c:Nat):(binOp .eql 168 (.slice a l c) (.slice none 0 0)).run Tryz.prog w=.ok (.bool a.isNone) w:=by
 simp only [binOp]
 simp [run_equal_slice_nil (P:=Tryz.prog) w 168 173 a l c Tryz.underlying168]
structure Cln (w w':World) (A:Option Addr) (n c:Nat) (arcs:List (Nat × Int × Nat)):Prop where
 own:w'.ownsRow 0 173 3 (.slice A n c) n (aCells arcs)
 young:∀ g,adBlock A=some g→w.heap.size≤g
 touch:Touch (fun _=>False) w w'
theorem clone_rd (w:World) (A:Option Addr) (n c:Nat) (arcs:List (Nat × Int × Nat)) (hl:arcs.length=n) (hr:Reads w 3 A n (aCells arcs)) (hn:n≤2097152) :
  Calls Tryz.prog 86 #[.slice A n c] w fun e w'=>∃ A' c',e=.returned (.slice A' n c')∧Cln w w' A' n c' arcs:=by
 cases A with
 | none =>
  have h0:n=0:=by
   rcases Nat.eq_zero_or_pos n with h | h
   ·exact h
   ·obtain ⟨b,o,hA,_⟩:=hr.2 h
    cases hA
  subst h0
  have:arcs=[]:=List.length_eq_zero_iff.1 hl
  subst this
  have hmn:=fun wx=>run_eql_arcs wx none 0 c
  clear hl hr hn
  go_enter Tryz.func86,Tryz.ntmps86
  go_wp2_with fail
  go_ret
  exact ⟨none,0,rfl,World.ownsRow_nil _ _ _ _,fun g h=>(by cases h),Touch.refl _ _⟩
 | some a =>
  obtain ⟨i1,hi1,hy0,hy1,hy2⟩:=info_parts infoArc
  have HR:=hide hr
  have hcl:∀ u∈aCells arcs,u.oneCell'=true:=by
   intro u hu
   obtain ⟨x,_,hx⟩:=List.mem_flatMap.1 hu
   simp only [List.mem_cons,List.not_mem_nil,or_false] at hx
   rcases hx with rfl | rfl | rfl<;>rfl
  have HC:=hide hcl
  have hO:=own_nought w 173 3
  have HO:=hide hO
  have hT:Touch (fun _=>False) w (w.alloc (.cells #[] 173)):=(Touch.refl _ _).alloc _
  have HT:=hide hT
  have hb1:0+n≤maxLen:=by unfold maxLen;omega
  have hb2:(0+n)*24≤140737488355328:=by omega
  have HB:=hide (And.intro hb1 hb2)
  have HRD:=hide (hr.touch hT (fun _ _ f=>f))
  have hmn:=fun wx=>run_eql_arcs wx (some a) n c
  clear hr hcl hO hT hb1 hb2 hn hl
  go_enter Tryz.func86,Tryz.ntmps86
  go_wp2_with (at_builtin;refine wpList_app _ rfl (.tmp 5) (.tmp 6) 168 rfl 173 i1 _ 3 24 Tryz.underlying168 hi1 hy0 hy1 hy2 rfl (by decide) (.slice (some ⟨w.heap.size,0,none⟩) 0 0) 0 _ rfl HO.out (some a) n c (aCells arcs) rfl HRD.out (fun h=>by cases h) HC.out HB.out.1 HB.out.2 ?_;intro v1 w10 O10 G10 F10 _;rw [Nat.zero_add,List.nil_append] at O10;obtain ⟨A2,c2,hv,_,_⟩:=own_len O10;subst hv;have HO10:=hide O10;have HG:=hide G10;have HF:=hide F10;clear O10 G10 F10)
  go_ret
  refine ⟨A2,c2,rfl,HO10.out,fun g hg=>?_,HT.out.trans ((Touch.refl (fun y=>y=w.heap.size) _).grown HG.out (fun k hk _=>by injection hk with hk;exact hk.symm)) (fun i hi e=>by omega)⟩
  have hg2:(Value.slice A2 n c2).ownBlock=some g:=by
   cases A2 with
   | none=>cases hg
   | some a2=>exact hg
  rcases HF.out with h | ⟨g2,h,hle⟩
  ·rw [hg2] at h
   injection h with h
   have h2:g=w.heap.size:=h
   omega
  ·rw [hg2] at h
   injection h with h
   have:=HT.out.size
   omega
theorem clone_any (w:World) (A:Option Addr) (n c:Nat) (arcs:List (Nat × Int × Nat)) (hl:arcs.length=n) (hr:RdT w 173 3 A n (aCells arcs)) (hn:n≤2097152) :
  Calls Tryz.prog 86 #[.slice A n c] w fun e w'=>∃ A' c',e=.returned (.slice A' n c')∧Cln w w' A' n c' arcs:=clone_rd w A n c arcs hl hr.rd hn
def intV (x:Int):Value:=.int .i64 x
structure NewI (w wr:World) (b:Nat) (base:Int) (A:Option Addr) (i c:Nat) (Z:List SV) (wA:Option Addr) (k wc:Nat) (W:List Int):Prop where
 blk:Blk wr b 167 #[.int .i64 base,.slice A i c,.slice wA k wc]
 own:wr.ownsRow 0 170 3 (.slice A i c) i (sCells Z)
 wds:wr.ownsRow 0 3 1 (.slice wA k wc) k (W.map intV)
 el:∀ z∈Z,z.Ok wr
 yA:∀ g,(Value.slice A i c).ownBlock=some g→w.heap.size≤g
 yW:∀ g,(Value.slice wA k wc).ownBlock=some g→w.heap.size≤g
 yZ:∀ z∈Z,∀ g,adBlock z.A=some g→w.heap.size≤g
 yb:w.heap.size≤b
 touch:Touch (fun _=>False) w wr
theorem NewI.quiet {w wr v:World} {b:Nat} {base:Int} {A:Option Addr} {i c:Nat} {Z:List SV} {wA:Option Addr} {k wc:Nat} {W:List Int} (h:NewI w wr b base A i c Z wA k wc W) (T:Touch (fun _=>False) wr v):NewI w v b base A i c Z wA k wc W :=
 ⟨h.blk.touch T (fun f=>f),own_touch h.own T (fun _ _ f=>f),own_touch h.wds T (fun _ _ f=>f),fun z hz=>(h.el z hz).touch T (fun _ _ f=>f),h.yA,h.yW,h.yZ,h.yb,h.touch.then T⟩
theorem NewI.state {w v v4:World} {b:Nat} {base:Int} {A A4:Option Addr} {i c c4:Nat} {Z:List SV} {wA:Option Addr} {k wc:Nat} {W:List Int} {z:SV} (h:NewI w v b base A i c Z wA k wc W) (hz:z.Ok v) (hy:∀ g,adBlock z.A=some g→w.heap.size≤g)
  (hown:v4.ownsRow 0 170 3 (.slice A4 (i+1) c4) (i+1) (sCells Z++z.cells)) (hg:v.grownBy v4 (Value.slice A i c).ownBlock) (hf:Fresh v (.slice A i c) (.slice A4 (i+1) c4)) :
  NewI w (v4.setCell ⟨b,1,none⟩ (.slice A4 (i+1) c4)) b base A4 (i+1) c4 (Z++[z]) wA k wc W:=by
 have T:Touch (fun x=>(Value.slice A i c).ownBlock=some x) v v4:=(Touch.refl _ _).grown hg (fun k hk _=>hk)
 have hbv:=h.blk.grown hg (fun e=>(own_ty h.own e.symm).ne (blk_ty h.blk) (by decide) rfl)
 have T2:Touch (fun x=>(Value.slice A i c).ownBlock=some x∨x=b) v (v4.setCell ⟨b,1,none⟩ (.slice A4 (i+1) c4)):=(T.mono (fun _ _ e=>.inl e)).setCell (p:=⟨b,1,none⟩) (fun _=>.inr rfl) _
 have hn:∀ t,t ≠ 170 → t ≠ 167 → ∀ g,TyAt v g t→¬ ((Value.slice A i c).ownBlock=some g∨g=b):=by
  rintro t h1 h2 g hg (e | e)
  ·exact hg.ne (own_ty h.own e) h1 rfl
  ·exact hg.ne (blk_ty h.blk) h2 e
 refine ⟨?_,?_,own_touch h.wds T2 (fun g e=>hn _ (by decide) (by decide) g (own_ty h.wds e)),?_,?_,h.yW,?_,h.yb,?_⟩
 ·have:=hbv.set_ 1 (.slice A4 (i+1) c4)
  simpa using this
 ·have:sCells (Z++[z])=sCells Z++z.cells:=by simp [sCells]
  rw [this]
  exact own_setCell_far hown (fun e=>(own_ty hown e).ne (blk_ty hbv) (by decide) rfl) _
 ·intro y hy2
  rcases List.mem_append.1 hy2 with hy2 | hy2
  ·exact (h.el y hy2).touch T2 (fun g e=>hn _ (by decide) (by decide) g e)
  ·rw [List.mem_singleton] at hy2
   subst hy2
   exact hz.touch T2 (fun g e=>hn _ (by decide) (by decide) g e)
 ·intro g hg2
  rcases hf with e | ⟨g2,e,hle⟩
  ·rw [e] at hg2;exact h.yA g hg2
  ·rw [e] at hg2
   injection hg2 with hg2
   have:=h.touch.size
   omega
 ·intro y hy2
  rcases List.mem_append.1 hy2 with hy2 | hy2
  ·exact h.yZ y hy2
  ·rw [List.mem_singleton] at hy2
   subst hy2
   exact hy
 ·refine h.touch.trans T2 fun g hg e=>?_
  rcases e with e | e
  ·have:=h.yA g e;omega
  ·have:=h.yb;omega
theorem NewI.word {w v v4:World} {b:Nat} {base:Int} {A wA4:Option Addr} {i c wc4:Nat} {Z:List SV} {wA:Option Addr} {k wc:Nat} {W:List Int} {x:Int} (h:NewI w v b base A i c Z wA k wc W)
  (hown:v4.ownsRow 0 3 1 (.slice wA4 (k+1) wc4) (k+1) (W.map intV++[intV x])) (hg:v.grownBy v4 (Value.slice wA k wc).ownBlock) (hf:Fresh v (.slice wA k wc) (.slice wA4 (k+1) wc4)) :
  NewI w (v4.setCell ⟨b,2,none⟩ (.slice wA4 (k+1) wc4)) b base A i c Z wA4 (k+1) wc4 (W++[x]):=by
 have T:Touch (fun x=>(Value.slice wA k wc).ownBlock=some x) v v4:=(Touch.refl _ _).grown hg (fun k hk _=>hk)
 have hbv:=h.blk.grown hg (fun e=>(own_ty h.wds e.symm).ne (blk_ty h.blk) (by decide) rfl)
 have T2:Touch (fun x=>(Value.slice wA k wc).ownBlock=some x∨x=b) v (v4.setCell ⟨b,2,none⟩ (.slice wA4 (k+1) wc4)):=(T.mono (fun _ _ e=>.inl e)).setCell (p:=⟨b,2,none⟩) (fun _=>.inr rfl) _
 have hn:∀ t,t ≠ 3 → t ≠ 167 → ∀ g,TyAt v g t→¬ ((Value.slice wA k wc).ownBlock=some g∨g=b):=by
  rintro t h1 h2 g hg (e | e)
  ·exact hg.ne (own_ty h.wds e) h1 rfl
  ·exact hg.ne (blk_ty h.blk) h2 e
 refine ⟨?_,own_touch h.own T2 (fun g e=>hn _ (by decide) (by decide) g (own_ty h.own e)),?_,?_,h.yA,?_,h.yZ,h.yb,?_⟩
 ·have:=hbv.set_ 2 (.slice wA4 (k+1) wc4)
  simpa using this
 ·have:(W++[x]).map intV=W.map intV++[intV x]:=by simp
  rw [this]
  exact own_setCell_far hown (fun e=>(own_ty hown e).ne (blk_ty hbv) (by decide) rfl) _
 ·intro y hy2
  exact (h.el y hy2).touch T2 (fun g e=>hn _ (by decide) (by decide) g e)
 ·intro g hg2
  rcases hf with e | ⟨g2,e,hle⟩
  ·rw [e] at hg2;exact h.yW g hg2
  ·rw [e] at hg2
   injection hg2 with hg2
   have:=h.touch.size
   omega
 ·refine h.touch.trans T2 fun g hg e=>?_
  rcases e with e | e
  ·have:=h.yW g e;omega
  ·have:=h.yb;omega
theorem incr_len {N:Nat}:∀ (l:List Nat) (a:Nat),l.Pairwise (·<·)→(∀ x∈l,a≤x∧x<N)→a≤N→l.length+a≤N
 | [],a,_,_,h=>by simpa using h
 | x :: l,a,hp,hb,_=>by
  rw [List.pairwise_cons] at hp
  have h1:=hb x List.mem_cons_self
  have:=incr_len l (x+1) hp.2 (fun y hy=>⟨hp.1 y hy,(hb y (List.mem_cons_of_mem _ hy)).2⟩) (by omega)
  simp only [List.length_cons]
  omega
theorem form_few {i:Nat} {z:StP} (h:FormP i z):z.arcs.length≤2097152:=by
 have h1:=incr_len (N:=1114112) (z.arcs.map (·.1)) 0 h.lab (fun x hx=>by
  obtain ⟨a,ha,rfl⟩:=List.mem_map.1 hx
  have:=(h.run a ha).1
  unfold scal at this
  simp at this
  omega) (by omega)
 rw [List.length_map] at h1
 omega
def wdsF (sts:List StP) (i:Nat):List Int:=((uF sts sts.length i).take i).map (·.1)
theorem wdsF_len {sts:List StP} {i:Nat} (h:i≤sts.length):(wdsF sts i).length=i:=by simp [wdsF,uF_len,h]
theorem wdsF_succ {sts:List StP} {i:Nat} (h:i<sts.length):wdsF sts (i+1)=wdsF sts i++[(sumP (uF sts sts.length i) (sts.getD i noSt) (sts.getD i noSt).arcs.length).1]:=by
 unfold wdsF
 simp only [uF]
 rw [List.take_succ_eq_append_getElem (by rw [List.length_set,uF_len];exact h),List.map_append,List.take_set_of_le (Nat.le_refl _)]
 simp
theorem wdsF_get {sts:List StP} {i j:Nat} (h:i≤sts.length) (hj:j<i):(wdsF sts i)[j]? = some ((uF sts sts.length i).getD j z3).1:=by
 unfold wdsF
 rw [List.getElem?_map,List.getElem?_take_of_lt hj,getD_get? (d:=z3) (by rw [uF_len];omega)]
 rfl
end Go.Proofs.YthockgmbooefpaaGreatDoor
