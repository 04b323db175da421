/- What the law rests on, part 5. No condition but those that each theorem names. -/
import Derived.Test.YthockgmbooefpaaGreatDoorV04
import Derived.StillTailTactics
import Derived.Laws.Cover3
import Derived.BigQuiet
import Derived.Deep.QuietTactic
import Derived.Deep.RegionLaw
import Derived.Deep.AppendLies
import Derived.Laws.BitsLemmas
import Derived.Test.YthockgmbooefpaaGreatDoorV01
import Derived.Test.YthockgmbooefpaaGreatDoorV00
import Derived.Test.YthockgmbooefpaaGreatDoorV02
import Derived.Maps.Keyed
set_option linter.unusedSectionVars false
set_option linter.unusedSimpArgs false
set_option linter.unusedVariables false
set_option maxRecDepth 100000
set_option maxHeartbeats 8000000
namespace Go.Proofs.YthockgmbooefpaaGreatDoor
open IntWalk renaming i64_in → qZa
open List renaming getElem?_eq_some_iff → qQa, getElem?_eq_getElem → qJa, getElem?_map → qQb, map_append → qZb, mem_singleton → qXb, getD → qJb, length_map → qQc, getElem?_append_left → qZc, mem_of_getElem? → qXc, all_eq_true → qQd, map_nil → qZd, mem_append → qXd, mem_map_of_mem → qJd, append_assoc → qZe, append_nil → qXe, getD_eq_getElem?_getD → qJe, getElem?_append_right → qQf, getElem_inj → qZf, getElem_of_mem → qXf, map_cons → qJf, mem_cons_of_mem → qQg, mem_cons_self → qZg, replicate → qJg, findIdx?_eq_some_iff_getElem → qJh, getElem?_eq_none → qQi, take_of_length_le → qZj, take_succ_eq_append_getElem → qXj
open Nat renaming le_refl → qXa, zero_le → qJc, zero_add → qQe
variable{fin t:Bool}{base o out x:Int}{W:List Int}{Bk:List Nat}{Z:List SV}{Lk ks:List Value}{L:List aD}{K sts:List cU}{l:Lit}{b c f i j k wc:Nat}{A wA:Option Addr}{kt mt:TypeId}{v:Value}{w w':World}{s:cU}
open Go.RowKit
section
open Go.RowKit Go.WideElems Go.ChangeShapes Go.WideShapes Go.MapKept Go.ChangeMaps
theorem aCa:(Tryz.prog.info? 243).map (λi=>(i.zero,i.size,i.bytes))=some (some (.agg #[.int .i64 0,.int .i64 0,.int .i64 0]),3,24):=by kernel_rfl
theorem Uh:(Tryz.prog.info? 3).map (λi=>(i.zero,i.size,i.bytes))=some (some (.int .i64 0),1,8):=by kernel_rfl
theorem Xo(n:Nat):(madeCells #[.int .i64 0,.int .i64 0,.int .i64 0] (n*3)).toList=jO (qJg n z3):=by
 unfold madeCells jO
 apply List.ext_getElem?
 intro i
 by_cases hi:i<n*3
 ·have h1:=rR (qJg n z3) (i / 3) (by simp;omega) (i % 3) (by omega)
  have e:i / 3*3+i % 3=i:=by omega
  rw[e] at h1
  unfold jO at h1
  rw[h1]
  have hg:(qJg n z3).getD (i / 3) z3=z3:=by
   rw[qJe,List.getElem?_replicate,if_pos (by omega)]
   rfl
  rw[hg]
  simp[hi]
  obtain h | h | h:i % 3=0\/i % 3=1\/i % 3=2:=by omega
  ·rw[h];rfl
  ·rw[h];rfl
  ·rw[h];rfl
 ·rw[qQi (by simp;omega),qQi]
  rw[List.length_flatMap]
  simp
  omega
theorem tE{base:Nat}{e:TypeId}{size g n:Nat}{xs:List Value}(h:w.ownsRow base e size (.slice (some ⟨g,0,none⟩) n c) n xs)(j:Nat):w.frozen? ⟨g,j,none⟩=false:=by
 rcases h.2 with⟨h0,_⟩ | ⟨g',cap',cur,hv,_,hgg,_⟩
 ·cases h0
 ·injection hv with h1 _ _
  injection h1 with h1
  injection h1 with h1
  subst h1
  exact aL.frozen hgg j
theorem Sx(U:List S3)(i:Nat)(x:S3)(hi:i<U.length):((((jO U).set (i*3) (.int .i64 x.1)).set (i*3+1) (.int .i64 x.2.1)).set (i*3+2) (.int .i64 x.2.2))=jO (U.set i x):=by
 induction U generalizing i with
 | nil=>simp at hi
 | cons y U ih =>
  have e:∀ y:S3,∀ U,jO (y :: U)=.int .i64 y.1 :: .int .i64 y.2.1 :: .int .i64 y.2.2 :: jO U:=λ_ _=>rfl
  cases i with
  | zero=>rfl
  | succ i =>
   have e1:(i+1)*3=i*3+1+1+1:=by omega
   rw[e,List.set_cons_succ,e,e1]
   simp only[List.set_cons_succ]
   rw[<-ih i (by simpa using hi)]
theorem Sb(w:World)(hL:cV w)(base:Int)(A:Option Addr)(n c:Nat)(Z:List SV)(hst:eW w A n Z)(hR:Ap (Z.map SV.p) base) :
  Calls Tryz.prog 85 #[.agg #[.int .i64 base,.slice A n c]] w λe w'=>e=.returned (.bool true)/\aC (λ_=>False) w w':=by
 obtain⟨i0,hi,hz0,hz1,hz2⟩:=aQ aCa
 have hlen:(Z.map SV.p).length=n:=by rw[qQc,hst.len]
 have hpos:0<n:=by have:=hR.pos;omega
 have hfew:n<=98305:=by have:=hR.few;omega
 have hb1:=hR.base1
 have hb2:=hR.base2
 have z1:IntKind.i64.wrap ((n:Int)-1)=(n:Int)-1:=qZa _ (by omega)
 obtain⟨g,o,hA,hg,c0,c1,c2⟩:=jE hst.rd.rd hst.len (n-1) (by omega)
 subst hA
 have hfin:(Z.getD (n-1) cH).fin=false:=by
  have:=hR.root
  rw[hlen] at this
  simpa [qJb,hst.len,show n-1<n by omega,SV.p] using this
 rw[hfin] at c0
 have y1:(0:Int)<=(n:Int)-1:=by omega
 have y2:(n:Int)-1<(n:Int):=by omega
 have y3:((n:Int)-1).toNat=n-1:=by omega
 have y4:((n:Int) == 0)=false:=by simp;omega
 have y5:¬ (n:Int)=0:=by omega
 have HST:=aB hst
 have HR:=aB hR
 have HL:=aB hL
 have HLEN:=aB hlen
 have hfewI:(n:Int)<=98305:=by omega
 have HFEW:=aB hfew
 clear hst hR hL hlen hfin c1 c2 hfew
 go_in
 go_wp2_with fail
 go_step3
 go_wp2_with (refine wpList_make_full _ rfl (.tmp 45) (.tmp 45) 240 rfl 0 243 i0 _ 3 Tryz.underlying240 hi hz0 hz1 .i64 .i64 (n:Int) (n:Int) n rfl rfl rfl rfl ?b2 ?b3 (qJc _) ?_)
 case b2=>rw[hz2];omega
 case b3=>unfold maxLen;omega
 intro w1 O1 G1
 rw[Xo] at O1
 obtain⟨M,hM⟩:=eX w.heap.size
 obtain⟨u,hu⟩:=eX (w.heap.size+1)
 obtain⟨b,hb⟩:=eX w1.heap.size
 obtain⟨w2,hw2⟩:=eX (w1.alloc (.map #[] 0))
 have hmm:(Instr.makeMap 241 none).run Tryz.prog w1=.ok (.map (some b)) w2:=by rw[hw2,hb];exact run_makeMap _ _
 have hT1:aC (λ_=>False) w w1:=((aC.refl _ _).alloc _).grown G1 (λk h=>by cases h)
 have hT12:aC (λ_=>False) w1 w2:=by rw[hw2];exact (aC.refl _ _).alloc _
 have hbM:aL w2 M 89 #[.int .i64 base,.slice (some ⟨g,o,none⟩) n c]:=by
  rw[hM]
  exact ((aL.new _ _ _).grown G1 (by simp)).touch hT12 (λf=>f)
 rw[<-hu] at O1
 have hO2:=aF O1 hT12 (λ_ _ f=>f)
 have hB2:w2.heap.size=w1.heap.size+1:=by rw[hw2];simp
 have hG2:Eo w2 w2.heap.size b 0 #[] 0:=by
  refine⟨?_,MapKept.stamped_empty _,by simp,by simp,by simp,by simp⟩
  rw[hw2,hb]
  exact heap_alloc_new _ _
 have hT2:=hT1.then hT12
 have hst2:=HST.quiet hT2
 have hMu:¬ M=u:=by omega
 have hMb:¬ M=b:=by have:=(aM O1 (g:=u) rfl).lt;omega
 have hub:¬ u=b:=by have:=aM O1 (g:=u) rfl;have:=this.lt;omega
 rw[<-hu,<-hM]
 have HBM:=aB hbM
 have HO2:=aB hO2
 have HG2:=aB hG2
 have HT2:=aB hT2
 have HS2:=aB hst2
 have HU:=aB (show w.heap.size<=u by omega)
 have HB:=aB (show w.heap.size<=b by have:=hT1.size;omega)
 have HMU:=aB hMu
 have HMB:=aB hMb
 have HUB:=aB hub
 have HM:=aB hM
 obtain⟨q1,q2,q3⟩:=hbM.facts
 clear hb hw2 hT1 hT12 hbM O1 hO2 hB2 hG2 hT2 hst2 hMu hMb hub G1 hu hM
 go_wp2_with fail
 go_step3
 go_wp2_with fail
 go_loopw [5,51] (λmv iv wr=>∃ (i:Nat) (es:Array MapEntry) (clock:Nat),mv=.map (some b)/\iv=.int .i64 i/\i<=n/\Hid (Eo wr w2.heap.size b i es clock)/\Hid (wr.ownsRow 0 243 3 (.slice (some ⟨u,0,none⟩) n n) n (jO (uF (Z.map SV.p) n i)))/\Hid (aC (λx=>x=u\/x=b) w2 wr)) (λ_ iv _=>n-(intOf iv).toNat)
 case atStart=>exact⟨0,#[],0,rfl,rfl,by omega,HG2,HO2,aB (aC.refl _ _)⟩
 case round =>
  obtain⟨i,es,clock,rfl,rfl,hin,HG,HO,HT⟩:=hrel
  have hnoS:∀ t,t ≠ 243 -> ∀ x,bQ w2 x t->¬ (x=u\/x=b):=by
   intro t ht x hx hor
   rcases hor with e | e
   ·exact hx.ne (aM HO2 (g:=u) rfl) ht e
   ·exact nS hx HG2.blk e
  have hMr:=HBM.touch HT (hnoS _ (by decide) _ (aG HBM))
  have hSr:eW wr (some ⟨g,o,none⟩) n Z:=⟨HS2.rd.touch HT (hnoS _ (by decide)),HS2.len,λz hz=>(HS2.el z hz).touch HT (hnoS _ (by decide))⟩
  have HMr:=aB hMr
  have HSr:=aB hSr
  clear hnoS hMr hSr
  by_cases hi2:i<n
  ·have x1:(i:Int)<(n:Int):=by omega
   have x2:(0:Int)<=(i:Int):=by omega
   have x3:IntKind.i64.wrap ((i:Int)+1)=(i:Int)+1:=qZa _ (by omega)
   obtain⟨g',o',hA,hgl,d0,d1,d2⟩:=jE HSr.rd.rd HSr.len i hi2
   obtain⟨rfl,rfl⟩:g'=g/\o'=o:=by injection hA with hA;injection hA with e1 e2;exact⟨e1.symm,e2.symm⟩
   have hzm:=cJ Z cH i (by rw[HS2.len];exact hi2)
   have hzo:=HSr.el _ hzm
   have hzp:(Z.map SV.p).getD i aY=(Z.getD i cH).p:=by
    simp[qJb,HS2.len,hi2]
   have hfm:=HR.form i (by rw[HLEN.out];exact hi2)
   rw[hzp] at hfm
   obtain⟨z,hz⟩:∃ z,Z.getD i cH=z:=⟨_,rfl⟩
   rw[hz] at d0 d1 d2 hzo hzp hfm
   have HZ:=aB hz
   have HZP:=aB hzp
   obtain⟨wa,hwa⟩:=eX (wr.alloc (.cells #[.bool z.fin,.int .i64 z.out,.slice z.A z.n z.c] 170))
   obtain⟨s,hs⟩:=eX wr.heap.size
   have hTa:aC (λ_=>False) wr wa:=by rw[hwa];exact (aC.refl _ _).alloc _
   have hbs:aL wa s 170 #[.bool z.fin,.int .i64 z.out,.slice z.A z.n z.c]:=by rw[hwa,hs];exact aL.new _ _ _
   have hTw:aC (λ_=>False) w wr:=HT2.trans HT λx hx hor=>by
    have h1:=HU.out
    have h2:=HB.out
    omega
   have hfc:=Qv wa (cV.touch HL (hTw.then hTa)) z (hzo.touch hTa (λ_ _ f=>f)) i (by omega) hfm
   have hsB:=HR.sumB i (by rw[HLEN.out];exact hi2)
   have hsE:=HR.sumE i (by rw[HLEN.out];exact hi2)
   rw[HLEN.out,hzp] at hsB hsE
   have hcs:∀ w3,aC (λ_=>False) wa w3->Calls Tryz.prog 139 #[.agg #[.bool z.fin,.int .i64 z.out,.slice z.A z.n z.c],.slice (some ⟨u,0,none⟩) n n] w3 _:=λw3 T3 =>
    aHy w3 z ((hzo.touch hTa (λ_ _ f=>f)).touch T3 (λ_ _ f=>f)) (uF (Z.map SV.p) n i) (some ⟨u,0,none⟩) n n (gL.of_own (aF HO (hTa.then T3) (λ_ _ f=>f))) (mP _ _ _) (by omega) hsB λa ha=>⟨by have:=(hfm.arc a ha).2.2;omega,⟨(hfm.arc a ha).1,(hfm.arc a ha).2.1⟩,hsE a ha⟩
   have HFC:=aB hfc
   have HCS:=aB hcs
   have HWA:=aB hwa
   have HSD:=aB hs
   have HTA:=aB hTa
   have HBS:=aB hbs
   have HZO:=aB hzo
   have HFM:=aB hfm
   have HTW:=aB hTw
   obtain⟨m0,m1,m2⟩:=HMr.facts
   clear hz hzm hzp hwa hs hTa hbs hfc hsB hsE hcs hzo hfm hTw
   go_wp2_with fail
   rw[<-HWA.out,<-HSD.out]
   refine HFC.mono ?_
   rintro e w3 ⟨rfl,T3⟩
   have hbs3:=HBS.touch T3 (λf=>f)
   obtain⟨s0,s1,s2⟩:=hbs3.facts
   have HBS3:=aB hbs3
   have HT3:=aB T3
   have HCS3:=aB (HCS w3 T3)
   clear T3 hbs3 HCS HFC
   go_wp2_with fail
   refine HCS3.mono ?_
   rintro e w4 ⟨rfl,T4⟩
   clear s0 s1 s2
   have hbs4:=HBS3.touch T4 (λf=>f)
   obtain⟨s0,s1,s2⟩:=hbs4.facts
   have hT4:=(HTA.then HT3).then T4
   have hO4:=aF HO hT4 (λ_ _ f=>f)
   obtain⟨ug,uo,hA,hug,e0,e1,e2⟩:=Kg (gL.of_own hO4).rd (mP _ _ _) i hi2
   injection hA with hA
   injection hA with hA1 hA2
   subst hA1 hA2
   have f0:=tE hO4 (i*3)
   have f1:=tE hO4 (i*3+1)
   have f2:=tE hO4 (i*3+2)
   simp only[qQe] at e0 e1 e2
   have HBS4:=aB hbs4
   have HT4:=aB hT4
   have HO4:=aB hO4
   have hsu:¬ s=u:=by
    have h1:=(aM HO (g:=u) rfl).lt
    have h2:=HSD.out
    omega
   have hus:¬ u=s:=λe=>hsu e.symm
   clear hbs4 hT4 hO4 T4 HCS3
   go_wp2_with fail
   obtain⟨x,hx⟩:∃ x,fB (uF (Z.map SV.p) n i) z.p z.n=x:=⟨_,rfl⟩
   rw[hx]
   obtain⟨w5,hw5⟩:=eX (((w4.setCell ⟨u,i*3,none⟩ (.int .i64 x.1)).setCell ⟨u,i*3+1,none⟩ (.int .i64 x.2.1)).setCell ⟨u,i*3+2,none⟩ (.int .i64 x.2.2))
   have hT45:aC (λy=>y=u) w4 w5:=by
    rw[hw5]
    exact (((aC.refl (λy=>y=u) w4).setCell (p:=⟨u,i*3,none⟩) (λ_=>rfl) _).setCell (p:=⟨u,i*3+1,none⟩) (λ_=>rfl) _).setCell (p:=⟨u,i*3+2,none⟩) (λ_=>rfl) _
   have hO5:w5.ownsRow 0 243 3 (.slice (some ⟨u,0,none⟩) n n) n (jO (uF (Z.map SV.p) n (i+1))):=by
    have h:=dS (dS (dS HO4 (i*3) (.int .i64 x.1)) (i*3+1) (.int .i64 x.2.1)) (i*3+2) (.int .i64 x.2.2)
    rw[Sx _ _ _ (by rw[mP];exact hi2),<-hw5] at h
    simp only[uF]
    rw[HZP.out,show z.p.arcs.length=z.n from HZO.len,hx]
    exact h
   rw[<-hw5]
   have hnu:∀ t,t ≠ 243 -> ∀ y,bQ w4 y t->¬ y=u:=λt ht y hy e=>hy.ne (aM HO4 (g:=u) rfl) ht e
   have hzo4:=HZO.touch HT4 (λ_ _ f=>f)
   have hzo5:=hzo4.touch hT45 (hnu _ (by decide))
   have hbs5:=HBS4.touch hT45 hsu
   have hG5:=(HG.quiet HT4).far hT45 (λe=>HUB.out e.symm) (hnu _ (by decide))
   have hfo:=HFM.out0
   have hfo1:=HFM.out1
   have hkc:=aGg w5 z hzo5 ⟨hfo,hfo1⟩
   have hM5:=(HMr.touch HT4 (λf=>f)).touch hT45 HMU
   have hSt4:=HSr.quiet HT4
   have hSt5:eW w5 (some ⟨g',o',none⟩) n Z:=⟨hSt4.rd.touch hT45 (hnu _ (by decide)),hSt4.len,λz hz=>(hSt4.el z hz).touch hT45 (hnu _ (by decide))⟩
   have HO5:=aB hO5
   have HBS5:=aB hbs5
   have HG5:=aB hG5
   have HKC:=aB hkc
   have HM5:=aB hM5
   have HS5:=aB hSt5
   have HT5:=aB ((HT4.up (λy=>y=u)).then hT45)
   have HSU:=aB hsu
   clear hx hw5 hT45 hO5 hnu hzo4 hzo5 hbs5 hG5 hfo hfo1 hkc hM5 hSt4 hSt5 s0 s1 s2 e0 e1 e2 f0 f1 f2 hsu hus d0 d1 d2 m0 m1 m2
   refine HKC.mono ?_
   rintro e w6 ⟨ka,kb,kc,kd,rfl,hI,T6⟩
   obtain⟨w7,hw7⟩:=eX (w6.alloc (.cells #[.int .i64 ka,.int .i64 kb,.int .i64 kc,.int .i64 kd] 246))
   obtain⟨K,hK⟩:=eX w6.heap.size
   have hbK:aL w7 K 246 #[.int .i64 ka,.int .i64 kb,.int .i64 kc,.int .i64 kd]:=by rw[hw7,hK];exact aL.new _ _ _
   have hT7:aC (λ_=>False) w5 w7:=by rw[hw7];exact T6.alloc _
   obtain⟨kl,hkl⟩:=aGa hI.1 hI.2.1 hI.2.2.1 hI.2.2.2
   have hG7:=HG5.quiet hT7
   obtain⟨v,xs,hlk,hrow⟩:=hG7.lookup hkl
   obtain⟨vA,vc,hv,_,_⟩:=aS hrow.1
   subst hv
   have HBK:=aB hbK
   have HT7:=aB hT7
   have HKL:=aB hkl
   have HG7:=aB hG7
   have HROW:=aB hrow
   have HW7:=aB hw7
   have HK:=aB hK
   rw[hw7] at hlk
   clear hbK hT7 hkl hG7 hrow hw7 hK T6 hI HKC
   go_wp2_with fail
   obtain⟨wo,hwo⟩:=eX wr
   subst hwo
   obtain⟨q,hq⟩:∃ q,xs.length=q:=⟨_,rfl⟩
   rw[hq]
   have HQ:=aB hq
   have hqi:q<=i:=by rw[<-hq];exact HROW.2.1
   clear hq q1 q2 q3 x3 hlk
   go_loopw [5,77] (λmv iv wr=>∃ (j:Nat),mv=.map (some b)/\iv=.int .i64 j/\j<=q/\Hid (aC (λ_=>False) w7 wr)) (λ_ iv _=>q-(intOf iv).toNat)
   case atStart =>
    rw[<-HW7.out]
    exact⟨0,rfl,rfl,by omega,aB (aC.refl _ _)⟩
   case round =>
    obtain⟨j,rfl,rfl,hjq,HTj⟩:=hrel
    by_cases hj2:j<q
    ·have j1:(j:Int)<(q:Int):=by omega
     have j2:(0:Int)<=(j:Int):=by omega
     have j3:IntKind.i64.wrap ((j:Int)+1)=(j:Int)+1:=qZa _ (by omega)
     have hrow:=HROW.touch HTj (λ_ _ f=>f)
     obtain⟨k,hk⟩:∃ k,xs.getD j 0=k:=⟨_,rfl⟩
     have hki:k<i:=by
      rw[<-hk]
      exact hrow.2.2 _ (cJ xs 0 j (by rw[HQ.out];exact hj2))
     obtain⟨vb,vo,hvA,hvb,hvc⟩:=(gL.of_own hrow.1).rd.2 (by rw[HQ.out];omega)
     subst hvA
     have v0:=hvc j (qV k) (by
      rw[qQb,lX? (d:=0) (by rw[HQ.out];exact hj2),hk]
      rfl)
     simp only[qV] at v0
     have hT7j:=HT7.then HTj
     have hS:=HS5.quiet hT7j
     obtain⟨gk,ok,hA,_,d0,d1,d2⟩:=jE hS.rd.rd hS.len k (by omega)
     obtain⟨rfl,rfl⟩:gk=g'/\ok=o':=by injection hA with hA;injection hA with e1 e2;exact⟨e1.symm,e2.symm⟩
     have hym:=cJ Z cH k (by rw[HS2.len];omega)
     have hyo:=hS.el _ hym
     have hzm:=cJ Z cH i (by rw[HS2.len];omega)
     have hzo:=hS.el _ hzm
     have hne:z.p≠(Z.getD k cH).p:=by
      intro e
      have h1:(Z.map SV.p).getD i aY=z.p:=HZP.out
      have h2:(Z.map SV.p).getD k aY=(Z.getD k cH).p:=by
       simp[qJb,HS2.len,show k<n by omega]
      have:=HR.unalike i k (by rw[HLEN.out];exact hi2) (by rw[HLEN.out];omega) (by rw[h1,h2,e])
      omega
     rw[HZ.out] at hzo
     obtain⟨y,hy⟩:∃ y,Z.getD k cH=y:=⟨_,rfl⟩
     rw[hy] at d0 d1 d2 hyo hne
     obtain⟨m0,m1,m2⟩:=(HM5.touch hT7j (λf=>f)).facts
     obtain⟨s0,s1,s2⟩:=(HBS5.touch hT7j (λf=>f)).facts
     have n1:(k:Int)<(n:Int):=by omega
     have n2:(0:Int)<=(k:Int):=by omega
     have HAL:=aB (λwx T=>Vp wx z y (hzo.touch T (λ_ _ f=>f)) (hyo.touch T (λ_ _ f=>f)) hne)
     have HTj7:=aB hT7j
     clear hrow hk hvc hT7j hS hA hym hyo hzm hzo hne hy
     go_wp2_with fail
     go_still_tail 6,(by kernel_rfl)
     change wpList _ _ _ _ _ wr.drew
     have HD:=aB (show aC (λ_=>False) wr wr.drew from (aC.refl _ _).drew)
     generalize wr.drew=wd at HD ⊢
     go_wp2_with ((go_at_call 141;refine (HAL wd HD).mono ?_;rintro e w9 ⟨rfl,T9⟩;have HT9:=aB T9;clear T9))
     go_roundw
     ·exact⟨j+1,rfl,by simp,by omega,aB (HTj.then (HD.then HT9))⟩
     ·simp only[intOf];omega
    ·have hje:j=q:=by omega
     subst hje
     have j4:¬ (j:Int)<(j:Int):=by omega
     have x3:IntKind.i64.wrap ((i:Int)+1)=(i:Int)+1:=qZa _ (by omega)
     obtain⟨w8,hw8⟩:=eX (wr.alloc (.cells #[.int .i64 i] 3))
     have hT78:aC (λ_=>False) w7 w8:=by rw[hw8];exact HTj.alloc _
     have hb8:aL w8 wr.heap.size 3 #[.int .i64 i]:=by rw[hw8];exact aL.new _ _ _
     have hG8:=HG7.quiet hT78
     obtain⟨es1,clock1,jj,e0,hme,hG9,hj0⟩:=hG8.entry HKL
     obtain⟨w9,hw9⟩:=eX (setBlock w8 b (.map es1 clock1))
     rw[<-hw9] at hme hG9
     have hT89:aC (λy=>y=b) w8 w9:=by rw[hw9];exact dV _ _ _
     have hb9:=hb8.touch hT89 (nS (aG hb8) hG8.blk)
     obtain⟨ys,hrow⟩:=hG9.vals jj e0 hj0
     obtain⟨eA,ec,hev,_,_⟩:=aS hrow.1
     have hbk:=HBK.touch HTj (λf=>f)
     rw[HK.out] at hbk
     obtain⟨r0,r1,r2⟩:=hbk.facts
     have HROW9:=aB hrow
     have HG9:=aB hG9
     have HJ0:=aB hj0
     have HEV:=aB hev
     have HT89:=aB hT89
     have HT78:=aB hT78
     have HB9:=aB hb9
     have HW8:=aB hw8
     obtain⟨i1,hi1,hy0,hy1,hy2⟩:=aQ Uh
     rw[hev] at hme
     rw[hw8] at hme
     simp only[goInt] at hme
     have hrow1:=hrow.1
     rw[hev] at hrow1
     have hrd:aH w9 1 (some ⟨wr.heap.size,0,none⟩) 1 [.int .i64 i]:=⟨by simp,λ_=>⟨wr.heap.size,0,rfl,hb9.lt,λj u hu=>by rw[hb9.cell,qQe];simpa using hu⟩⟩
     have hone:∀ u∈[Value.int .i64 (i:Int)],u.oneCell'=true:=by
      intro u hu
      simp only[qXb] at hu
      subst hu
      rfl
     have hyl:ys.length<=i:=hrow.2.1
     have hbb1:ys.length+1<=maxLen:=by unfold maxLen;omega
     have hbb2:(ys.length+1)*8<=140737488355328:=by omega
     have hST:Hid (∀ v1 w10,w10.ownsRow 0 3 1 v1 (ys.length+1) (ys.map qV++[.int .i64 i])->w9.grownBy w10 (Value.slice eA ys.length ec).ownBlock->cK w9 (.slice eA ys.length ec) v1 ->
       ∃ es' w11,(Instr.entryStore 241 (.map (some b)) (.int .i64 e0.born) v1).run Tryz.prog w10=.ok () w11/\Eo w11 w2.heap.size b (i+1) es' clock1/\w11.ownsRow 0 243 3 (.slice (some ⟨u,0,none⟩) n n) n (jO (uF (Z.map SV.p) n (i+1)))/\aC (λx=>x=u\/x=b) w2 w11):=by
      intro v1 w10 O10 G10 F10
      have hB:w2.heap.size<=w9.heap.size:=by
       have h1:=HT.size
       have h2:=HT5.size
       have h3:=HT7.size
       have h4:=hT78.size
       have h5:=hT89.size
       omega
      obtain⟨es',hes,hG11⟩:=hG9.store hj0 (v1:=v1) (xs:=ys++[i]) (by rw[hev];exact G10) (by rw[hev];exact F10) ⟨by simpa [qV] using O10,by simp;omega,by
       intro k hk
       rcases List.mem_append.1 hk with h | h
       ·have:=hrow.2.2 k h;omega
       ·simp at h;omega⟩ hB
      refine⟨es',_,hes,hG11,?_,?_⟩
      ·have h1:=aF HO5 (HT7.then hT78) (λ_ _ f=>f)
       have h2:=aF h1 hT89 (λy hy e=>by
        injection hy with hy
        exact HUB (hy.trans e))
       have h3:=aF h2 ((aC.refl (λy=>(Value.slice eA ys.length ec).ownBlock=some y) w9).grown G10 (λk hk _=>hk)) (λy hy e=>Rz h2 hrow1 (by decide) hy e)
       exact aF h3 (dV _ _ _) (λy hy e=>by
        injection hy with hy
        exact HUB (hy.trans e))
      ·have t1:aC (λx=>x=u\/x=b) w2 w8:=(HT.trans HT5 λ_ _ h=>.inl h).trans (HT7.then hT78) (λ_ _ f=>f.elim)
       have t2:=t1.trans hT89 (λ_ _ h=>.inr h)
       have t3:=t2.grown G10 (λk hk hlt=>by
        have:=hG9.young jj e0 hj0 k (by rw[hev];exact hk)
        omega)
       exact t3.trans (dV _ _ _) (λ_ _ h=>.inr h)
     have HRW:=aB hrow1
     have HRD:=aB hrd
     have HONE:=aB hone
     have HBB:=aB (And.intro hbb1 hbb2)
     clear hw8 hw9 hT78 hb8 hG8 hG9 hj0 hT89 hb9 hrow hev hrow1 hrd hone hbb1 hbb2
     go_wp2_with (at_builtin;refine aP _ rfl (.tmp 91) (.tmp 93) 49 rfl 3 i1 _ 1 8 Tryz.underlying49 hi1 hy0 hy1 hy2 rfl (by decide) (.slice eA ys.length ec) ys.length _ rfl HRW (some ⟨wr.heap.size,0,none⟩) 1 1 [.int .i64 i] rfl HRD (λh=>by cases h) HONE HBB.1 HBB.2 ?_;intro v1 w10 O10 G10 F10 _;obtain⟨es',w11,hes,hG11,hO11,hT11⟩:=hST.out v1 w10 O10 G10 F10;have HG11:=aB hG11;have HO11:=aB hO11;have HT11:=aB hT11;clear hG11 hO11 hT11 O10 G10 F10)
     go_roundw
     ·exact⟨i+1,es',clock1,rfl,by simp,by omega,HG11,HO11,HT11⟩
     ·simp only[intOf];omega
  ·have hie:i=n:=by omega
   subst hie
   have j4:¬ (i:Int)<(i:Int):=by omega
   obtain⟨ug,uo,hA,hug,e0,e1,e2⟩:=Kg (gL.of_own HO).rd (mP _ _ _) (i-1) (by omega)
   injection hA with hA
   injection hA with hA1 hA2
   subst hA1 hA2
   have htop:=HR.top
   rw[HLEN.out] at htop
   have hsok:=HR.sumB (i-1) (by rw[HLEN.out];omega)
   rw[HLEN.out] at hsok
   obtain⟨x,hx⟩:∃ x,((uF (Z.map SV.p) i i).getD (i-1) z3).2.2=x:=⟨_,rfl⟩
   rw[hx] at e2 htop
   have hx0:0<=x:=by
    rw[<-hx]
    have e:uF (Z.map SV.p) i i=(uF (Z.map SV.p) i (i-1)).set (i-1) (fB (uF (Z.map SV.p) i (i-1)) ((Z.map SV.p).getD (i-1) aY) ((Z.map SV.p).getD (i-1) aY).arcs.length):=by
     obtain⟨k,rfl⟩:∃ k,i=k+1:=⟨i-1,by omega⟩
     rfl
    rw[e,qJe,List.getElem?_set_self (by rw[mP];omega)]
    exact (hsok _).2.2.1
   simp only[qQe] at e2
   have z2:IntKind.i64.wrap (base+x)=base+x:=qZa _ (by omega)
   have hdt:decide (base+x<=1048576)=true:=by simpa using htop
   obtain⟨m0,m1,m2⟩:=HMr.facts
   obtain⟨F,s',hvis⟩:=HR.vis
   rw[HLEN.out] at hvis
   have harc:∀ z∈Z,∀ a∈z.arcs,a.2.2<i:=by
    intro z hz a ha
    obtain⟨k,hk,rfl⟩:=List.mem_iff_getElem.1 hz
    have hk2:k<i:=by rw[<-HS2.len];exact hk
    have hf:=HR.form k (by rw[HLEN.out];exact hk2)
    have e:(Z.map SV.p).getD k aY=(Z[k]).p:=by simp[qJb,hk]
    rw[e] at hf
    have:=(hf.arc a ha).2.2
    omega
   have hcn:=λwx T=>Jn wx base (some ⟨g,o,none⟩) i c Z (HSr.quiet (w':=wx) T) harc hpos (by omega) F s' hvis
   have HCN:=aB hcn
   have hTw:aC (λ_=>False) w wr:=HT2.trans HT λx hx hor=>by
    have h1:=HU.out
    have h2:=HB.out
    omega
   have HTW:=aB hTw
   have hmn:=λwx=>run_neq_map_nil (P:=Tryz.prog) (w:=wx) 241 246 49 (some b) Tryz.underlying241
   clear hx hsok htop hx0 e0 e1 hvis harc hcn hTw
   go_wp2_with fail
   go_still_tail 15,(by kernel_rfl)
   change wpList _ _ _ _ _ wr.drew
   have HD:=aB (show aC (λ_=>False) wr wr.drew from (aC.refl _ _).drew)
   generalize wr.drew=wd at HD ⊢
   go_wp2_with ((go_at_call 142;refine (HCN wd HD).mono ?_;rintro e w9 ⟨rfl,T9⟩;have HT9:=aB T9;clear T9))
   rw[Exit.noGoto_ret]
   go_ret
   exact⟨rfl,HTW.then (HD.then HT9)⟩
end
theorem Ry(w:World)(e:TypeId)(size:Nat):(w.alloc (.cells #[] e)).ownsRow 0 e size (.slice (some ⟨w.heap.size,0,none⟩) 0 0) 0 [] :=
 ⟨by simp,.inr ⟨w.heap.size,0,#[],rfl,qJc _,heap_alloc_new _ _,qXa _,qJc _,by simp,by simp⟩⟩
theorem vK(w:World)(a:Option Addr)(l c:Nat):(binOp .eql 168 (.slice a l c) (.slice none 0 0)).run Tryz.prog w=.ok (.bool a.isNone) w:=by
 simp only[binOp]
 simp[run_equal_slice_nil (P:=Tryz.prog) w 168 173 a l c Tryz.underlying168]
structure Cln(w w':World)(A:Option Addr)(n c:Nat)(arcs:List (Nat × Int × Nat)):Prop where
 own:w'.ownsRow 0 173 3 (.slice A n c) n (dQ arcs)
 young:∀ g,aJ A=some g->w.heap.size<=g
 touch:aC (λ_=>False) w w'
theorem aAq(w:World)(A:Option Addr)(n c:Nat)(arcs:List (Nat × Int × Nat))(hl:arcs.length=n)(hr:aH w 3 A n (dQ arcs))(hn:n<=2097152) :
  Calls Tryz.prog 86 #[.slice A n c] w λe w'=>∃ A' c',e=.returned (.slice A' n c')/\Cln w w' A' n c' arcs:=by
 cases A with
 | none =>
  have h0:n=0:=by
   rcases Nat.eq_zero_or_pos n with h | h
   ·exact h
   ·obtain⟨b,o,hA,_⟩:=hr.2 h
    cases hA
  subst h0
  have:arcs=[]:=List.length_eq_zero_iff.1 hl
  subst this
  have hmn:=λwx=>vK wx none 0 c
  clear hl hr hn
  go_in
  go_wp2_with fail
  go_ret
  exact⟨none,0,rfl,World.ownsRow_nil _ _ _ _,λg h=>(by cases h),aC.refl _ _⟩
 | some a =>
  obtain⟨i1,hi1,hy0,hy1,hy2⟩:=aQ Ug
  have HR:=aB hr
  have hcl:∀ u∈dQ arcs,u.oneCell'=true:=by
   intro u hu
   obtain⟨x,_,hx⟩:=List.mem_flatMap.1 hu
   simp only[List.mem_cons,List.not_mem_nil,or_false] at hx
   rcases hx with rfl | rfl | rfl<;>rfl
  have HC:=aB hcl
  have hO:=Ry w 173 3
  have HO:=aB hO
  have hT:aC (λ_=>False) w (w.alloc (.cells #[] 173)):=(aC.refl _ _).alloc _
  have HT:=aB hT
  have hb1:0+n<=maxLen:=by unfold maxLen;omega
  have hb2:(0+n)*24<=140737488355328:=by omega
  have HB:=aB (And.intro hb1 hb2)
  have HRD:=aB (hr.touch hT (λ_ _ f=>f))
  have hmn:=λwx=>vK wx (some a) n c
  clear hr hcl hO hT hb1 hb2 hn hl
  go_in
  go_wp2_with (at_builtin;refine aP _ rfl (.tmp 5) (.tmp 6) 168 rfl 173 i1 _ 3 24 Tryz.underlying168 hi1 hy0 hy1 hy2 rfl (by decide) (.slice (some ⟨w.heap.size,0,none⟩) 0 0) 0 _ rfl HO (some a) n c (dQ arcs) rfl HRD (λh=>by cases h) HC HB.1 HB.2 ?_;intro v1 w10 O10 G10 F10 _;rw[qQe,List.nil_append] at O10;obtain⟨A2,c2,hv,_,_⟩:=aS O10;subst hv;have HO10:=aB O10;have HG:=aB G10;have HF:=aB F10;clear O10 G10 F10)
  go_ret
  refine⟨A2,c2,rfl,HO10,λg hg=>?_,HT.trans ((aC.refl (λy=>y=w.heap.size) _).grown HG (λk hk _=>by injection hk with hk;exact hk.symm)) (λi hi e=>by omega)⟩
  have hg2:(Value.slice A2 n c2).ownBlock=some g:=by
   cases A2 with
   | none=>cases hg
   | some a2=>exact hg
  rcases HF.out with h | ⟨g2,h,hle⟩
  ·rw[hg2] at h
   injection h with h
   have h2:g=w.heap.size:=h
   omega
  ·rw[hg2] at h
   injection h with h
   have:=HT.size
   omega
theorem Fz(w:World)(A:Option Addr)(n c:Nat)(arcs:List (Nat × Int × Nat))(hl:arcs.length=n)(hr:gL w 173 3 A n (dQ arcs))(hn:n<=2097152) :
  Calls Tryz.prog 86 #[.slice A n c] w λe w'=>∃ A' c',e=.returned (.slice A' n c')/\Cln w w' A' n c' arcs:=aAq w A n c arcs hl hr.rd hn
def Cg(x:Int):Value:=.int .i64 x
structure nZ(w wr:World)(b:Nat)(base:Int)(A:Option Addr)(i c:Nat)(Z:List SV)(wA:Option Addr)(k wc:Nat)(W:List Int):Prop where
 blk:aL wr b 167 #[.int .i64 base,.slice A i c,.slice wA k wc]
 own:wr.ownsRow 0 170 3 (.slice A i c) i (gA Z)
 wds:wr.ownsRow 0 3 1 (.slice wA k wc) k (W.map Cg)
 el:∀ z∈Z,z.Ok wr
 yA:∀ g,(Value.slice A i c).ownBlock=some g->w.heap.size<=g
 yW:∀ g,(Value.slice wA k wc).ownBlock=some g->w.heap.size<=g
 yZ:∀ z∈Z,∀ g,aJ z.A=some g->w.heap.size<=g
 yb:w.heap.size<=b
 touch:aC (λ_=>False) w wr
theorem nZ.quiet{wr v:World}(h:nZ w wr b base A i c Z wA k wc W)(T:aC (λ_=>False) wr v):nZ w v b base A i c Z wA k wc W :=
 ⟨h.blk.touch T (λf=>f),aF h.own T (λ_ _ f=>f),aF h.wds T (λ_ _ f=>f),λz hz=>(h.el z hz).touch T (λ_ _ f=>f),h.yA,h.yW,h.yZ,h.yb,h.touch.then T⟩
theorem nZ.state{v v4:World}{A4:Option Addr}{c4:Nat}{z:SV}(h:nZ w v b base A i c Z wA k wc W)(hz:z.Ok v)(hy:∀ g,aJ z.A=some g->w.heap.size<=g)
  (hown:v4.ownsRow 0 170 3 (.slice A4 (i+1) c4) (i+1) (gA Z++z.cells))(hg:v.grownBy v4 (Value.slice A i c).ownBlock)(hf:cK v (.slice A i c) (.slice A4 (i+1) c4)) :
  nZ w (v4.setCell ⟨b,1,none⟩ (.slice A4 (i+1) c4)) b base A4 (i+1) c4 (Z++[z]) wA k wc W:=by
 have T:aC (λx=>(Value.slice A i c).ownBlock=some x) v v4:=(aC.refl _ _).grown hg (λk hk _=>hk)
 have hbv:=h.blk.grown hg (λe=>(aM h.own e.symm).ne (aG h.blk) (by decide) rfl)
 have T2:aC (λx=>(Value.slice A i c).ownBlock=some x\/x=b) v (v4.setCell ⟨b,1,none⟩ (.slice A4 (i+1) c4)):=(T.mono (λ_ _ e=>.inl e)).setCell (p:=⟨b,1,none⟩) (λ_=>.inr rfl) _
 have hn:∀ t,t ≠ 170 -> t ≠ 167 -> ∀ g,bQ v g t->¬ ((Value.slice A i c).ownBlock=some g\/g=b):=by
  rintro t h1 h2 g hg (e | e)
  ·exact hg.ne (aM h.own e) h1 rfl
  ·exact hg.ne (aG h.blk) h2 e
 refine⟨?_,?_,aF h.wds T2 (λg e=>hn _ (by decide) (by decide) g (aM h.wds e)),?_,?_,h.yW,?_,h.yb,?_⟩
 ·have:=hbv.set_ 1 (.slice A4 (i+1) c4)
  simpa using this
 ·have:gA (Z++[z])=gA Z++z.cells:=by simp[gA]
  rw[this]
  exact cO hown (λe=>(aM hown e).ne (aG hbv) (by decide) rfl) _
 ·intro y hy2
  rcases List.mem_append.1 hy2 with hy2 | hy2
  ·exact (h.el y hy2).touch T2 (λg e=>hn _ (by decide) (by decide) g e)
  ·rw[qXb] at hy2
   subst hy2
   exact hz.touch T2 (λg e=>hn _ (by decide) (by decide) g e)
 ·intro g hg2
  rcases hf with e | ⟨g2,e,hle⟩
  ·rw[e] at hg2;exact h.yA g hg2
  ·rw[e] at hg2
   injection hg2 with hg2
   have:=h.touch.size
   omega
 ·intro y hy2
  rcases List.mem_append.1 hy2 with hy2 | hy2
  ·exact h.yZ y hy2
  ·rw[qXb] at hy2
   subst hy2
   exact hy
 ·refine h.touch.trans T2 λg hg e=>?_
  rcases e with e | e
  ·have:=h.yA g e;omega
  ·have:=h.yb;omega
theorem nZ.word{v v4:World}{wA4:Option Addr}{wc4:Nat}(h:nZ w v b base A i c Z wA k wc W)
  (hown:v4.ownsRow 0 3 1 (.slice wA4 (k+1) wc4) (k+1) (W.map Cg++[Cg x]))(hg:v.grownBy v4 (Value.slice wA k wc).ownBlock)(hf:cK v (.slice wA k wc) (.slice wA4 (k+1) wc4)) :
  nZ w (v4.setCell ⟨b,2,none⟩ (.slice wA4 (k+1) wc4)) b base A i c Z wA4 (k+1) wc4 (W++[x]):=by
 have T:aC (λx=>(Value.slice wA k wc).ownBlock=some x) v v4:=(aC.refl _ _).grown hg (λk hk _=>hk)
 have hbv:=h.blk.grown hg (λe=>(aM h.wds e.symm).ne (aG h.blk) (by decide) rfl)
 have T2:aC (λx=>(Value.slice wA k wc).ownBlock=some x\/x=b) v (v4.setCell ⟨b,2,none⟩ (.slice wA4 (k+1) wc4)):=(T.mono (λ_ _ e=>.inl e)).setCell (p:=⟨b,2,none⟩) (λ_=>.inr rfl) _
 have hn:∀ t,t ≠ 3 -> t ≠ 167 -> ∀ g,bQ v g t->¬ ((Value.slice wA k wc).ownBlock=some g\/g=b):=by
  rintro t h1 h2 g hg (e | e)
  ·exact hg.ne (aM h.wds e) h1 rfl
  ·exact hg.ne (aG h.blk) h2 e
 refine⟨?_,aF h.own T2 (λg e=>hn _ (by decide) (by decide) g (aM h.own e)),?_,?_,h.yA,?_,h.yZ,h.yb,?_⟩
 ·have:=hbv.set_ 2 (.slice wA4 (k+1) wc4)
  simpa using this
 ·have:(W++[x]).map Cg=W.map Cg++[Cg x]:=by simp
  rw[this]
  exact cO hown (λe=>(aM hown e).ne (aG hbv) (by decide) rfl) _
 ·intro y hy2
  exact (h.el y hy2).touch T2 (λg e=>hn _ (by decide) (by decide) g e)
 ·intro g hg2
  rcases hf with e | ⟨g2,e,hle⟩
  ·rw[e] at hg2;exact h.yW g hg2
  ·rw[e] at hg2
   injection hg2 with hg2
   have:=h.touch.size
   omega
 ·refine h.touch.trans T2 λg hg e=>?_
  rcases e with e | e
  ·have:=h.yW g e;omega
  ·have:=h.yb;omega
theorem Md{N:Nat}:∀ (l:List Nat) (a:Nat),l.Pairwise (·<·)->(∀ x∈l,a<=x/\x<N)->a<=N->l.length+a<=N
 | [],a,_,_,h=>by simpa using h
 | x :: l,a,hp,hb,_=>by
  rw[List.pairwise_cons] at hp
  have h1:=hb x qZg
  have:=Md l (x+1) hp.2 (λy hy=>⟨hp.1 y hy,(hb y (qQg _ hy)).2⟩) (by omega)
  simp only[List.length_cons]
  omega
theorem oD{z:cU}(h:gB i z):z.arcs.length<=2097152:=by
 have h1:=Md (N:=1114112) (z.arcs.map (·.1)) 0 h.lab (λx hx=>by
  obtain⟨a,ha,rfl⟩:=List.mem_map.1 hx
  have:=(h.run a ha).1
  unfold scal at this
  simp at this
  omega) (by omega)
 rw[qQc] at h1
 omega
def sB(sts:List cU)(i:Nat):List Int:=((uF sts sts.length i).take i).map (·.1)
theorem aEv(h:i<=sts.length):(sB sts i).length=i:=by simp[sB,mP,h]
theorem Zf(h:i<sts.length):sB sts (i+1)=sB sts i++[(fB (uF sts sts.length i) (sts.getD i aY) (sts.getD i aY).arcs.length).1]:=by
 unfold sB
 simp only[uF]
 rw[qXj (by rw[List.length_set,mP];exact h),qZb,List.take_set_of_le (qXa _)]
 simp
theorem Pf(h:i<=sts.length)(hj:j<i):(sB sts i)[j]? = some ((uF sts sts.length i).getD j z3).1:=by
 unfold sB
 rw[qQb,List.getElem?_take_of_lt hj,lX? (d:=z3) (by rw[mP];omega)]
 rfl
def Am(sts:List cU)(base:Int):Prop:=(sts=[]/\base=0)\/Ap sts base
theorem Sc(w:World)(A:Option Addr)(c:Nat) :
  Calls Tryz.prog 85 #[.agg #[.int .i64 0,.slice A 0 c]] w λe w'=>e=.returned (.bool true)/\aC (λ_=>False) w w':=by
 go_in
 go_wp2_with fail
 go_step3
 go_wp2_with fail
 rw[Exit.noGoto_ret]
 go_ret
 exact⟨rfl,(aC.refl _ _).alloc _⟩
theorem xJ(w:World)(hL:cV w)(base:Int)(A:Option Addr)(n c:Nat)(Z:List SV)(hst:eW w A n Z)(hR:Am (Z.map SV.p) base) :
  Calls Tryz.prog 85 #[.agg #[.int .i64 base,.slice A n c]] w λe w'=>e=.returned (.bool true)/\aC (λ_=>False) w w':=by
 rcases hR with⟨h,rfl⟩ | h
 ·have:n=0:=by
   have:=hst.len
   have h2:Z=[]:=by simpa using h
   rw[h2] at this
   simpa using this.symm
  subst this
  exact Sc w A c
 ·exact Sb w hL base A n c Z hst h
theorem eP(hD:aZ L):Am (aR L).states (aR L).base:=by
 by_cases h:L=[]
 ·left
  unfold aR
  rw[if_pos h]
  exact⟨rfl,rfl⟩
 ·exact .inr (mI hD h)
theorem aGs(w:World)(hL:cV w)(base:Int)(A:Option Addr)(n c:Nat)(Z:List SV)(hst:eW w A n Z)(hR:Am (Z.map SV.p) base)(hn:n<=1000000) :
  Calls Tryz.prog 39 #[.agg #[.int .i64 base,.slice A n c]] w λe w'=>∃ b A' c' Z' wA wc,e=.returned (.tuple #[.pointer (some ⟨b,0,none⟩),.bool true])/\nZ w w' b base A' n c' Z' wA n wc (sB (Z.map SV.p) n)/\Z'.map SV.p=Z.map SV.p:=by
 obtain⟨i7,hi7,hz70,hz71,hz72⟩:=aQ aBz
 obtain⟨i8,hi8,hz80,hz81,hz82⟩:=aQ Uh
 have hlen:(Z.map SV.p).length=n:=by rw[qQc,hst.len]
 obtain⟨w0,hw0⟩:=eX (w.alloc (.cells #[.int .i64 base,.slice A n c] 89))
 have hT0:aC (λ_=>False) w w0:=by rw[hw0];exact (aC.refl _ _).alloc _
 have hcr:=xJ w0 (cV.touch hL hT0) base A n c Z (hst.quiet hT0) hR
 obtain⟨M,hM⟩:=eX w.heap.size
 have hbM:aL w0 M 89 #[.int .i64 base,.slice A n c]:=by rw[hw0,hM];exact aL.new _ _ _
 have HST:=aB hst
 have HR:=aB hR
 have HLEN:=aB hlen
 have HW0:=aB hw0
 have HT0:=aB hT0
 have HCR:=aB hcr
 have HM:=aB hM
 have HBM:=aB hbM
 have HN:=aB hn
 have hnI:(n:Int)<=1000000:=by omega
 clear hst hL hR hlen hw0 hT0 hcr hM hbM hn
 go_in
 go_wp2_with fail
 rw[<-HW0.out,<-HM.out]
 refine HCR.mono ?_
 rintro e w1 ⟨rfl,T1⟩
 have hbM1:=HBM.touch T1 (λf=>f)
 obtain⟨q1,q2,q3⟩:=hbM1.facts
 have HBM1:=aB hbM1
 have HT1:=aB (HT0.then T1)
 clear hbM1 T1 HCR
 go_wp2_with fail
 obtain⟨w2,hw2⟩:=eX (w1.alloc (.cells #[.int .i64 base,.slice none 0 0,.slice none 0 0] 167))
 obtain⟨b,hb⟩:=eX w1.heap.size
 have hT2:aC (λ_=>False) w1 w2:=by rw[hw2];exact (aC.refl _ _).alloc _
 have hbb:aL w2 b 167 #[.int .i64 base,.slice none 0 0,.slice none 0 0]:=by rw[hw2,hb];exact aL.new _ _ _
 have hI2:nZ w w2 b base none 0 0 [] none 0 0 (sB (Z.map SV.p) 0):=by
  refine⟨hbb,World.ownsRow_nil _ _ _ _,?_,λz hz=>(by cases hz),λg hg=>(by cases hg),λg hg=>(by cases hg),λz hz=>(by cases hz),by have:=HT1.size;omega,HT1.then hT2⟩
  simp only[sB,List.take_zero,qZd]
  exact World.ownsRow_nil _ _ _ _
 rw[<-hw2,<-hb]
 have HI2:=aB hI2
 clear q1 q2 q3 hw2 hb hT2 hbb hI2
 go_loopw [20] (λiv wr=>∃ (i:Nat) (A':Option Addr) (c':Nat) (Z':List SV) (wA:Option Addr) (wc:Nat),iv=.int .i64 i/\i<=n/\Hid (nZ w wr b base A' i c' Z' wA i wc (sB (Z.map SV.p) i))/\Hid (Z'.map SV.p=(Z.map SV.p).take i)) (λiv _=>n-(intOf iv).toNat)
 case atStart=>exact⟨0,none,0,[],none,0,rfl,by omega,HI2,aB rfl⟩
 case round =>
  obtain⟨i,A',c',Z',wA,wc,rfl,hin,HI,HZ'⟩:=hrel
  by_cases hi2:i<n
  ·have hP:Ap (Z.map SV.p) base:=by
    rcases HR.out with⟨h,_⟩ | h
    ·have:=HLEN.out
     rw[h] at this
     simp at this
     omega
    ·exact h
   have x1:(i:Int)<(n:Int):=by omega
   have x2:(0:Int)<=(i:Int):=by omega
   have x3:IntKind.i64.wrap ((i:Int)+1)=(i:Int)+1:=qZa _ (by omega)
   have hSr:=HST.quiet HI.touch
   obtain⟨g,o,hA,hgl,d0,d1,d2⟩:=jE hSr.rd.rd hSr.len i hi2
   subst hA
   have hzm:=cJ Z cH i (by rw[HST.len];exact hi2)
   have hzo:=hSr.el _ hzm
   have hzp:(Z.map SV.p).getD i aY=(Z.getD i cH).p:=by
    simp[qJb,HST.len,hi2]
   have hfm:=hP.form i (by rw[HLEN.out];exact hi2)
   have hsB:=hP.sumB i (by rw[HLEN.out];exact hi2)
   have hsE:=hP.sumE i (by rw[HLEN.out];exact hi2)
   rw[HLEN.out] at hsB hsE
   rw[hzp] at hfm hsB hsE
   obtain⟨⟨fin,out,zA,q,zc,arcs⟩,hz⟩:∃ z,Z.getD i cH=z:=⟨_,rfl⟩
   rw[hz] at d0 d1 d2 hzo hzp hfm hsB hsE
   simp only at d0 d1 d2
   have hq:q<=2097152:=by
    have h1:=oD hfm
    have h2:=hzo.len
    simp only[SV.p] at h1 h2
    omega
   have HFM:=aB hfm
   have HSB:=aB hsB
   have HSE:=aB hsE
   have HZP:=aB hzp
   have HZL:=aB hzo.len
   obtain⟨wa,hwa⟩:=eX (wr.alloc (.cells #[.bool fin,.int .i64 out,.slice zA q zc] 170))
   obtain⟨s,hs⟩:=eX wr.heap.size
   have hTa:aC (λ_=>False) wr wa:=by rw[hwa];exact (aC.refl _ _).alloc _
   have hbs:aL wa s 170 #[.bool fin,.int .i64 out,.slice zA q zc]:=by rw[hwa,hs];exact aL.new _ _ _
   have hcc:=Fz wa zA q zc arcs hzo.len (hzo.rd.quiet hTa) hq
   have hsb:¬ s=b:=by have:=HI.blk.lt;omega
   have hsA:∀ g,(Value.slice A' i c').ownBlock=some g->¬ g=s:=by
    intro g hg e
    have:=(aM HI.own hg).lt
    omega
   have HWA:=aB hwa
   have HSD:=aB hs
   have HTA:=aB hTa
   have HBS:=aB hbs
   have HCC:=aB hcc
   have HSA:=aB hsA
   have hbs':=hbs.facts
   obtain⟨s0,s1,s2⟩:=hbs'
   clear hP hSr hzm hzo hzp hfm hsB hsE hz hwa hs hTa hbs hcc hsA
   go_wp2_with fail
   rw[<-HWA.out,<-HSD.out]
   refine HCC.mono ?_
   rintro e w3 ⟨A2,c2,rfl,hcl⟩
   have hbs3:=HBS.touch hcl.touch (λf=>f)
   have hw4:aC (λy=>y=s) w3 (w3.setCell ⟨s,2,none⟩ (.slice A2 q c2)):=(aC.refl (λy=>y=s) w3).setCell (p:=⟨s,2,none⟩) (λ_=>rfl) _
   have hbs4:aL (w3.setCell ⟨s,2,none⟩ (.slice A2 q c2)) s 170 #[.bool fin,.int .i64 out,.slice A2 q c2]:=by
    have:=hbs3.set_ 2 (.slice A2 q c2)
    simpa using this
   have hnS:∀ y,bQ w3 y 173 -> ¬ y=s:=λy hy e=>hy.ne (aG hbs3) (by decide) e
   have hO4:=aF hcl.own hw4 (λy hy=>hnS y (aM hcl.own hy))
   have hle:=fY hcl.own
   have hI3:=HI.quiet (HTA.then hcl.touch)
   have hI4:nZ w (w3.setCell ⟨s,2,none⟩ (.slice A2 q c2)) b base A' i c' Z' wA i wc (sB (Z.map SV.p) i):=by
    refine⟨hI3.blk.touch hw4 (λe=>hsb e.symm),aF hI3.own hw4 HSA,aF hI3.wds hw4 (λy hy e=>(aM hI3.wds hy).ne (aG hbs3) (by decide) e),λz hz=>(hI3.el z hz).touch hw4 hnS,hI3.yA,hI3.yW,hI3.yZ,hI3.yb,?_⟩
    refine hI3.touch.trans hw4 λy hy e=>?_
    have h1:=HSD.out
    have h2:=HI.touch.size
    omega
   have hy2:∀ g,aJ A2=some g->w.heap.size<=g:=by
    intro g hg
    have h1:=hcl.young g hg
    have h2:=HI.touch.size
    have h3:=HTA.size
    omega
   obtain⟨t0,t1,t2⟩:=hbs3.facts
   obtain⟨w4,hw4d⟩:=eX (w3.setCell ⟨s,2,none⟩ (.slice A2 q c2))
   rw[<-hw4d] at hbs4 hO4 hI4
   have HW4:=aB hw4d
   have HBS4:=aB hbs4
   have HO4:=aB hO4
   have HI4:=aB hI4
   have HY2:=aB hy2
   have HLE:=aB hle
   clear hcl hbs3 hw4 hbs4 hnS hO4 hle hI3 hI4 hy2 hw4d HCC s0 s1 s2
   obtain⟨X,hX⟩:∃ X:Nat->Int,X=λj=>(fB (uF (Z.map SV.p) n i) (SV.p ⟨fin,out,zA,q,zc,arcs⟩) j).1:=⟨_,rfl⟩
   have hX0:X 0=if fin=true then 1 else 0:=by
    rw[hX]
    simp only
    rw[xX]
    rfl
   have hXS:∀ j,j<q->X (j+1)=X j+((uF (Z.map SV.p) n i).getD (arcs.getD j (0,0,0)).2.2 z3).1:=by
    intro j hj
    rw[hX]
    simp only
    rw[xW _ _ _ (by have:=HZL.out;simp only[SV.p] at this ⊢;omega)]
    rfl
   have hXB:∀ j,0<=X j/\X j<=4096:=by
    intro j
    rw[hX]
    exact (HSB j).1
   have hXE:sB (Z.map SV.p) (i+1)=sB (Z.map SV.p) i++[X q]:=by
    rw[Zf (by rw[HLEN.out];exact hi2),HZP.out,HLEN.out,hX]
    have:(SV.p ⟨fin,out,zA,q,zc,arcs⟩).arcs.length=q:=HZL.out
    rw[this]
   have hZ2:SV.Ok ⟨fin,out,A2,q,c2,arcs⟩ w4:=⟨HZL,gL.of_own HO4,HLE.1,HLE.2⟩
   have hZE:(Z'++[(⟨fin,out,A2,q,c2,arcs⟩:SV)]).map SV.p=(Z.map SV.p).take (i+1):=by
    rw[qZb,HZ'.out,qXj (by rw[HLEN.out];exact hi2)]
    congr 1
    have h:=HZP.out
    rw[qJe,qJa (by rw[HLEN.out];exact hi2)] at h
    simp only[Option.getD_some] at h
    rw[h]
    rfl
   have HX0:=aB hX0
   have HXS:=aB hXS
   have HXB:=aB hXB
   have HXE:=aB hXE
   have HZ2:=aB hZ2
   have HZE:=aB hZE
   have hqI:(q:Int)<=2097152:=by omega
   obtain⟨wo,hwo⟩:=eX wr
   subst hwo
   clear hX hX0 hXS hXB hXE hZ2 hZE HSB hq
   cases fin with
   | false =>
    go_wp2_with fail
    rw[<-HW4.out]
    go_loopw [7,33] (λmv jv wr=>∃ (j:Nat),mv=.int .i64 (X j)/\jv=.int .i64 j/\j<=q/\Hid (aC (λ_=>False) w4 wr)) (λ_ jv _=>q-(intOf jv).toNat)
    case atStart=>exact⟨0,by rw[HX0.out];rfl,rfl,by omega,aB (aC.refl _ _)⟩
    case round =>
     obtain⟨j,rfl,rfl,hjq,HTj⟩:=hrel
     have hI:=HI4.quiet HTj
     obtain⟨b0,b1,b2⟩:=hI.blk.facts
     by_cases hj2:j<q
     ·have j1:(j:Int)<(q:Int):=by omega
      have j2:(0:Int)<=(j:Int):=by omega
      have j3:IntKind.i64.wrap ((j:Int)+1)=(j:Int)+1:=qZa _ (by omega)
      obtain⟨ag,ao,hA2,_,e0,e1,e2⟩:=iY (gL.of_own (aF HO4 HTj (λ_ _ f=>f))).rd HZL j hj2
      subst hA2
      have hxs:=HXS.out j hj2
      have hto:(arcs.getD j (0,0,0)).2.2<i:=(HFM.arc _ (cJ arcs (0,0,0) j (by rw[HZL.out];exact hj2))).2.2
      obtain⟨⟨la,ua,tt⟩,hz⟩:∃ z,arcs.getD j (0,0,0)=z:=⟨_,rfl⟩
      rw[hz] at e0 e1 e2 hxs hto
      simp only at e0 e1 e2 hxs hto
      obtain⟨wg,wo2,hwA,hwg,hwc⟩:=(gL.of_own hI.wds).rd.2 (by omega)
      subst hwA
      have v0:=hwc tt (Cg ((uF (Z.map SV.p) n i).getD tt z3).1) (by
       rw[qQb,Pf (by rw[HLEN.out];omega) hto,HLEN.out]
       rfl)
      obtain⟨y,hy⟩:∃ y,((uF (Z.map SV.p) n i).getD tt z3).1=y:=⟨_,rfl⟩
      rw[hy] at v0 hxs
      simp only[Cg] at v0
      have k1:(tt:Int)<(i:Int):=by omega
      have k2:(0:Int)<=(tt:Int):=by omega
      have hb1:=HXB.out j
      have hb2:=HXB.out (j+1)
      have k3:IntKind.i64.wrap (X j+y)=X j+y:=qZa _ (by omega)
      have HXJ:=aB hxs
      clear hI hz hwc hy hb1 hb2 hxs
      go_wp2_with fail
      go_quiet (fail)
      go_wp2_with fail
      go_roundw
      ·exact⟨j+1,by rw[HXJ.out],by simp,by omega,aB ((HTj.alloc _).drewN _)⟩
      ·simp only[intOf];omega
     ·have hje:j=q:=by omega
      subst hje
      have j4:¬ (j:Int)<(j:Int):=by omega
      obtain⟨s0,s1,s2⟩:=(HBS4.touch HTj (λf=>f)).facts
      have HIW:=aB hI
      have HNB:Hid (some b≠(Value.slice A' i c').ownBlock):=aB (λe=>(aM hI.own e.symm).ne (aG hI.blk) (by decide) rfl)
      have hzc:=HZ2.touch HTj (λ_ _ f=>f)
      have HZC:=aB hzc
      have hib:i+1<=maxLen/\(i+1)*40<=140737488355328/\(i+1)*8<=140737488355328:=by unfold maxLen;omega
      have HIB:=aB hib
      clear hI hzc hib
      go_wp2_with fail
      go_region_law (refine step_append_lies _ rfl (.tmp 52) (.tmp 54) 87 rfl 0 170 i7 _ 3 40 Tryz.underlying87 hi7 hz70 hz71 hz72 (by decide) (by decide) (.slice A' i c') i _ (by simp[Act.eval]) (aF HIW.own ((aC.refl _ _).alloc _).drew (λ_ _ f=>f)) ⟨wr.heap.size,0,none⟩ 1 1 [.bool false,.int .i64 out,.slice A2 j c2] (by simp[Act.eval]) rfl ?news ?one (by decide) HIB.1 HIB.2.1 (qJc _) _ rfl ?_;(case news=>exact World.news_of_block (aL.new wr _ _));(case one=>exact List.all_eq_true.1 rfl);intro g4 cap4 w9 hown hgrow hlies _;have hbC:=((HIW.blk.alloc (.cells #[.bool false,.int .i64 out,.slice A2 j c2] 170)).drew).grown hgrow HNB.out;obtain⟨q1,q2,q3⟩:=hbC.facts;have hN2:=nZ.state (HIW.quiet (((aC.refl (λ_=>False) wr).alloc (.cells #[.bool false,.int .i64 out,.slice A2 j c2] 170)).drew)) (z:=⟨false,out,A2,j,c2,arcs⟩) (HZC.touch (((aC.refl (λ_=>False) wr).alloc (.cells #[.bool false,.int .i64 out,.slice A2 j c2] 170)).drew) (λ_ _ f=>f)) HY2 hown hgrow (by rcases hlies with e | e;exact .inl e.symm;exact .inr ⟨g4,rfl,by rw[e];exact qXa _⟩);have HN2:=aB hN2;clear hown hgrow hlies hbC hN2)
      all_goals
       obtain⟨v9,hv9⟩:=eX (w9.setCell ⟨b,1,none⟩ (.slice (some ⟨g4,0,none⟩) (i+1) cap4))
       rw[<-hv9] at HN2
       rw[<-hv9]
       have hI9:=HN2.quiet ((aC.refl (λ_=>False) v9).alloc (.cells #[.int .i64 (X j)] 3))
       have hrd:aH (v9.alloc (.cells #[.int .i64 (X j)] 3)) 1 (some ⟨v9.heap.size,0,none⟩) 1 [.int .i64 (X j)]:=aH.new _ _ _ _ rfl
       have hone:∀ u∈[Value.int .i64 (X j)],u.oneCell'=true:=List.all_eq_true.1 rfl
       have hnb:some b≠(Value.slice wA i wc).ownBlock:=λe=>(aM hI9.wds e.symm).ne (aG hI9.blk) (by decide) rfl
       obtain⟨r0,r1,r2⟩:=HN2.blk.facts
       have HI9:=aB hI9
       have HRD:=aB hrd
       have HONE:=aB hone
       have HNB2:=aB hnb
       clear hv9 hI9 hrd hone hnb b0 b1 b2 q1 q2 q3
       go_wp2_with (at_builtin;refine aP _ rfl (.tmp 62) (.tmp 64) 49 rfl 3 i8 _ 1 8 Tryz.underlying49 hi8 hz80 hz81 hz82 rfl (by decide) (.slice wA i wc) i _ rfl HI9.wds (some ⟨v9.heap.size,0,none⟩) 1 1 [.int .i64 (X j)] rfl HRD (λh=>by cases h) HONE HIB.1 HIB.2.2 ?_;intro v1 w10 O10 G10 F10 _;obtain⟨A5,c5,hv,_,_⟩:=aS O10;subst hv;have hbC:=HI9.blk.grown G10 HNB2.out;obtain⟨q1,q2,q3⟩:=hbC.facts;have HN3:=aB (nZ.word (x:=X j) HI9 O10 G10 F10);clear hbC O10 G10 F10)
       go_roundw
       ·exact⟨i+1,some ⟨g4,0,none⟩,cap4,Z'++[⟨false,out,A2,j,c2,arcs⟩],A5,c5,by simp,by omega,aB (by rw[HXE.out];exact HN3),HZE⟩
       ·simp only[intOf];omega
   | true =>
    go_wp2_with fail
    rw[<-HW4.out]
    go_loopw [7,33] (λmv jv wr=>∃ (j:Nat),mv=.int .i64 (X j)/\jv=.int .i64 j/\j<=q/\Hid (aC (λ_=>False) w4 wr)) (λ_ jv _=>q-(intOf jv).toNat)
    case atStart=>exact⟨0,by rw[HX0.out];rfl,rfl,by omega,aB (aC.refl _ _)⟩
    case round =>
     obtain⟨j,rfl,rfl,hjq,HTj⟩:=hrel
     have hI:=HI4.quiet HTj
     obtain⟨b0,b1,b2⟩:=hI.blk.facts
     by_cases hj2:j<q
     ·have j1:(j:Int)<(q:Int):=by omega
      have j2:(0:Int)<=(j:Int):=by omega
      have j3:IntKind.i64.wrap ((j:Int)+1)=(j:Int)+1:=qZa _ (by omega)
      obtain⟨ag,ao,hA2,_,e0,e1,e2⟩:=iY (gL.of_own (aF HO4 HTj (λ_ _ f=>f))).rd HZL j hj2
      subst hA2
      have hxs:=HXS.out j hj2
      have hto:(arcs.getD j (0,0,0)).2.2<i:=(HFM.arc _ (cJ arcs (0,0,0) j (by rw[HZL.out];exact hj2))).2.2
      obtain⟨⟨la,ua,tt⟩,hz⟩:∃ z,arcs.getD j (0,0,0)=z:=⟨_,rfl⟩
      rw[hz] at e0 e1 e2 hxs hto
      simp only at e0 e1 e2 hxs hto
      obtain⟨wg,wo2,hwA,hwg,hwc⟩:=(gL.of_own hI.wds).rd.2 (by omega)
      subst hwA
      have v0:=hwc tt (Cg ((uF (Z.map SV.p) n i).getD tt z3).1) (by
       rw[qQb,Pf (by rw[HLEN.out];omega) hto,HLEN.out]
       rfl)
      obtain⟨y,hy⟩:∃ y,((uF (Z.map SV.p) n i).getD tt z3).1=y:=⟨_,rfl⟩
      rw[hy] at v0 hxs
      simp only[Cg] at v0
      have k1:(tt:Int)<(i:Int):=by omega
      have k2:(0:Int)<=(tt:Int):=by omega
      have hb1:=HXB.out j
      have hb2:=HXB.out (j+1)
      have k3:IntKind.i64.wrap (X j+y)=X j+y:=qZa _ (by omega)
      have HXJ:=aB hxs
      clear hI hz hwc hy hb1 hb2 hxs
      go_wp2_with fail
      go_quiet (fail)
      go_wp2_with fail
      go_roundw
      ·exact⟨j+1,by rw[HXJ.out],by simp,by omega,aB ((HTj.alloc _).drewN _)⟩
      ·simp only[intOf];omega
     ·have hje:j=q:=by omega
      subst hje
      have j4:¬ (j:Int)<(j:Int):=by omega
      obtain⟨s0,s1,s2⟩:=(HBS4.touch HTj (λf=>f)).facts
      have HIW:=aB hI
      have HNB:Hid (some b≠(Value.slice A' i c').ownBlock):=aB (λe=>(aM hI.own e.symm).ne (aG hI.blk) (by decide) rfl)
      have hzc:=HZ2.touch HTj (λ_ _ f=>f)
      have HZC:=aB hzc
      have hib:i+1<=maxLen/\(i+1)*40<=140737488355328/\(i+1)*8<=140737488355328:=by unfold maxLen;omega
      have HIB:=aB hib
      clear hI hzc hib
      go_wp2_with fail
      go_region_law (refine step_append_lies _ rfl (.tmp 52) (.tmp 54) 87 rfl 0 170 i7 _ 3 40 Tryz.underlying87 hi7 hz70 hz71 hz72 (by decide) (by decide) (.slice A' i c') i _ (by simp[Act.eval]) (aF HIW.own ((aC.refl _ _).alloc _).drew (λ_ _ f=>f)) ⟨wr.heap.size,0,none⟩ 1 1 [.bool true,.int .i64 out,.slice A2 j c2] (by simp[Act.eval]) rfl ?news ?one (by decide) HIB.1 HIB.2.1 (qJc _) _ rfl ?_;(case news=>exact World.news_of_block (aL.new wr _ _));(case one=>exact List.all_eq_true.1 rfl);intro g4 cap4 w9 hown hgrow hlies _;have hbC:=((HIW.blk.alloc (.cells #[.bool true,.int .i64 out,.slice A2 j c2] 170)).drew).grown hgrow HNB.out;obtain⟨q1,q2,q3⟩:=hbC.facts;have hN2:=nZ.state (HIW.quiet (((aC.refl (λ_=>False) wr).alloc (.cells #[.bool true,.int .i64 out,.slice A2 j c2] 170)).drew)) (z:=⟨true,out,A2,j,c2,arcs⟩) (HZC.touch (((aC.refl (λ_=>False) wr).alloc (.cells #[.bool true,.int .i64 out,.slice A2 j c2] 170)).drew) (λ_ _ f=>f)) HY2 hown hgrow (by rcases hlies with e | e;exact .inl e.symm;exact .inr ⟨g4,rfl,by rw[e];exact qXa _⟩);have HN2:=aB hN2;clear hown hgrow hlies hbC hN2)
      all_goals
       obtain⟨v9,hv9⟩:=eX (w9.setCell ⟨b,1,none⟩ (.slice (some ⟨g4,0,none⟩) (i+1) cap4))
       rw[<-hv9] at HN2
       rw[<-hv9]
       have hI9:=HN2.quiet ((aC.refl (λ_=>False) v9).alloc (.cells #[.int .i64 (X j)] 3))
       have hrd:aH (v9.alloc (.cells #[.int .i64 (X j)] 3)) 1 (some ⟨v9.heap.size,0,none⟩) 1 [.int .i64 (X j)]:=aH.new _ _ _ _ rfl
       have hone:∀ u∈[Value.int .i64 (X j)],u.oneCell'=true:=List.all_eq_true.1 rfl
       have hnb:some b≠(Value.slice wA i wc).ownBlock:=λe=>(aM hI9.wds e.symm).ne (aG hI9.blk) (by decide) rfl
       obtain⟨r0,r1,r2⟩:=HN2.blk.facts
       have HI9:=aB hI9
       have HRD:=aB hrd
       have HONE:=aB hone
       have HNB2:=aB hnb
       clear hv9 hI9 hrd hone hnb b0 b1 b2 q1 q2 q3
       go_wp2_with (at_builtin;refine aP _ rfl (.tmp 62) (.tmp 64) 49 rfl 3 i8 _ 1 8 Tryz.underlying49 hi8 hz80 hz81 hz82 rfl (by decide) (.slice wA i wc) i _ rfl HI9.wds (some ⟨v9.heap.size,0,none⟩) 1 1 [.int .i64 (X j)] rfl HRD (λh=>by cases h) HONE HIB.1 HIB.2.2 ?_;intro v1 w10 O10 G10 F10 _;obtain⟨A5,c5,hv,_,_⟩:=aS O10;subst hv;have hbC:=HI9.blk.grown G10 HNB2.out;obtain⟨q1,q2,q3⟩:=hbC.facts;have HN3:=aB (nZ.word (x:=X j) HI9 O10 G10 F10);clear hbC O10 G10 F10)
       go_roundw
       ·exact⟨i+1,some ⟨g4,0,none⟩,cap4,Z'++[⟨true,out,A2,j,c2,arcs⟩],A5,c5,by simp,by omega,aB (by rw[HXE.out];exact HN3),HZE⟩
       ·simp only[intOf];omega
  ·have hie:i=n:=by omega
   subst hie
   have j4:¬ (i:Int)<(i:Int):=by omega
   go_wp2_with fail
   exact bodyPost_ret (v:=.tuple #[.pointer (some ⟨b,0,none⟩),.bool true]) (by simp[results,Tryz.results39,go_sem]) rfl (by
    have hz:=HZ'.out
    rw[qZj (by rw[HLEN.out];exact qXa _)] at hz
    first
     | exact⟨b,A',c',Z',wA,wc,rfl,HI,hz⟩
     | exact⟨b,rfl,A',c',Z',wA,wc,HI,hz⟩
     | exact⟨b,rfl,A',c',Z',⟨wA,wc,HI⟩,hz⟩
     | exact⟨b,rfl,Z',⟨A',c',wA,wc,HI⟩,hz⟩)
def qB:Nat->Nat->List UInt8
 | 0,n=>[UInt8.ofNat n]
 | f+1,n=>if n<128 then [UInt8.ofNat n] else UInt8.ofNat (n % 128+128) :: qB f (n / 128)
def dJ(n:Nat):List UInt8:=qB 9 n
theorem Pd:∀ (f n:Nat),(qB f n).length<=f+1
 | 0,_=>qXa _
 | f+1,n=>by
  unfold qB
  split
  ·simp
  ·have:=Pd f (n / 128)
   simp
   omega
theorem lH{m:Nat}(h:m<256):bG (UInt8.ofNat m)=.int .u8 (m:Int):=by unfold bG;rw[UInt8.toNat_ofNat',Nat.mod_eq_of_lt h]
theorem aLl(m:Nat):(m:Int).fdiv (2 ^ min (Int.toNat 7) IntKind.u64.bits)=((m / 128:Nat):Int):=by
 have h:min (Int.toNat 7) IntKind.u64.bits=7:=by decide
 rw[h,Int.fdiv_eq_ediv_of_nonneg _ (by decide)]
 omega
theorem Yc:∀ a:Fin 256,bits .or .u8 (a.val:Int) 128=((a.val % 128+128:Nat):Int):=by decide +kernel
theorem aKx(m:Nat):bits .or .u8 ((m:Int) % 256) 128=(m:Int) % 128+128:=by
 have h:=Yc ⟨m % 256,by omega⟩
 simp only at h
 rw[show (m:Int) % 256=((m % 256:Nat):Int) by omega,h]
 omega
theorem nD(w0 w:World)(A:Option Addr)(q c:Nat)(xs:List Value)(h:fS 5 1 w0 w (.slice A q c) q xs)(n:Nat)(hn:n<18446744073709551616)(hq:q<=35184372088832) :
  Calls Tryz.prog 51 #[.slice A q c,.int .u64 n] w λe w'=>∃ (A':Option Addr) (q' c':Nat),e=.returned (.slice A' q' c')/\fS 5 1 w0 w' (.slice A' q' c') q' (xs++(dJ n).map bG)/\q'<=q+10/\aC (λg=>(Value.slice A q c).ownBlock=some g) w w':=by
 obtain⟨i0,hi0,hz0,hz1,hz2⟩:=aQ kD
 have H:=aB h
 have HN:=aB hn
 have HQ:=aB hq
 clear h hn hq
 go_in
 go_wp2_with fail
 go_loopw [0,1] (λbv nv wr=>∃ (A3:Option Addr) (k c3 m f:Nat) (ys:List UInt8),bv=.slice A3 (q+k) c3/\nv=.int .u64 m/\Hid (fS 5 1 w0 wr (.slice A3 (q+k) c3) (q+k) (xs++ys.map bG))/\Hid (ys++qB f m=dJ n)/\Hid (m<128 ^ (f+1)/\m<=n/\k+f=9)/\Hid (aC (λg=>(Value.slice A q c).ownBlock=some g) w wr)/\Hid (cK w (.slice A q c) (.slice A3 (q+k) c3))) (λ_ nv _=>(intOf nv).toNat)
 case atStart=>exact⟨A,0,c,n,9,[],rfl,rfl,aB (by rw[qZd,qXe];exact H),aB rfl,aB ⟨Nat.lt_of_lt_of_le HN (by decide),qXa _,rfl⟩,aB (aC.refl _ _),aB (.inl rfl)⟩
 case round =>
  obtain⟨A3,k,c3,m,f,ys,rfl,rfl,HX,HY,HB,HT,HF⟩:=hrel
  by_cases hm:128<=m
  ·have m0:(128:Int)<=(m:Int):=by omega
   have m1:=aKx m
   have m2:=aLl m
   have hf:∃ f',f=f'+1:=by
    cases f with
    | zero=>have:=HB.1;simp at this;omega
    | succ f'=>exact⟨f',rfl⟩
   obtain⟨f',rfl⟩:=hf
   have hvf:qB (f'+1) m=UInt8.ofNat (m % 128+128) :: qB f' (m / 128):=by
    conv=>lhs;unfold qB
    rw[if_neg (by omega)]
   have HVF:=aB hvf
   have HM:=aB hm
   clear hvf
   obtain⟨wa,hwa⟩:=eX (wr.alloc (.cells #[.int .u8 ((m:Int) % 128+128)] 5))
   have hTa:aC (λ_=>False) wr wa:=by rw[hwa];exact (aC.refl _ _).alloc _
   have hrd:aH wa 1 (some ⟨wr.heap.size,0,none⟩) 1 [.int .u8 ((m:Int) % 128+128)]:=by
    rw[hwa]
    have h:=aH.new (size:=1) wr 5 [.int .u8 ((m:Int) % 128+128)] 1 rfl
    simpa using h
   have hone:∀ u∈([.int .u8 ((m:Int) % 128+128)]:List Value),u.oneCell'=true:=by
    intro u hu
    rw[qXb] at hu
    subst hu
    rfl
   have hbb:q+k+1<=maxLen/\(q+k+1)*1<=140737488355328:=by
    have h1:=HQ.out
    have h2:=HB.2.2
    unfold maxLen
    omega
   have HXA:=aB (HX.to hTa)
   have HWA:=aB hwa
   have HRD:=aB hrd
   have HONE:=aB hone
   have HBB:=aB hbb
   have HTA:=aB hTa
   clear hm hwa hTa hrd hone hbb
   go_wp2_with (at_builtin;rw[<-HWA.out];refine aP _ rfl (.tmp 7) (.tmp 11) 50 rfl 5 i0 _ 1 1 Tryz.underlying50 hi0 hz0 hz1 hz2 rfl (by decide) (.slice A3 (q+k) c3) (q+k) _ rfl HXA.own (some ⟨wr.heap.size,0,none⟩) 1 1 [.int .u8 ((m:Int) % 128+128)] rfl HRD (λh=>by cases h) HONE HBB.1 HBB.2 ?_;intro v1 w10 O10 G10 F10 _;obtain⟨A7,c7,hv,_,_⟩:=aS O10;subst hv;have HX10:=aB (HXA.app O10 G10 F10);have HG10:=aB G10;have HF10:=aB F10;clear O10 G10 F10)
   have hT10:aC (λg=>(Value.slice A q c).ownBlock=some g) w w10:=(HT.then (HTA.up _)).trans ((aC.refl (λg=>(Value.slice A3 (q+k) c3).ownBlock=some g) wa).grown HG10 (λk e _=>e)) (λg hg e=>by
    rcases HF.out with e2 | ⟨g',e2,hle⟩
    ·exact e2.symm.trans e
    ·rw[e2] at e
     injection e with e
     omega)
   go_roundw
   case rel =>
    refine⟨A7,k+1,c7,m / 128,f',ys++[UInt8.ofNat (m % 128+128)],rfl,rfl,aB ?_,aB ?_,aB ⟨?_,?_,?_⟩,aB hT10,aB ?_⟩
    ·rw[qZb,<-qZe]
     simp only[qJf,qZd]
     rw[lH (by omega),show ((m % 128+128:Nat):Int)=(m:Int) % 128+128 by omega]
     exact HX10
    ·rw[qZe,<-HY.out,HVF.out]
     rfl
    ·have:=HB.1
     rw[Nat.pow_succ] at this
     exact Nat.div_lt_of_lt_mul (by omega)
    ·have:=HB.2.1
     omega
    ·have:=HB.2.2
     omega
    ·exact HF.up HF10 (Nat.le_trans HT.size HTA.size)
   case measure =>
    have:=HM.out
    simp only[intOf]
    omega
  ·have m0:¬ (128:Int)<=(m:Int):=by omega
   have m1:(m:Int) % 256=(m:Int):=by omega
   have hvf:qB f m=[UInt8.ofNat m]:=by
    cases f with
    | zero=>rfl
    | succ f' =>
     unfold qB
     rw[if_pos (by omega)]
   have HVF:=aB hvf
   have HM:=aB hm
   clear hvf
   obtain⟨wa,hwa⟩:=eX (wr.alloc (.cells #[.int .u8 (m:Int)] 5))
   have hTa:aC (λ_=>False) wr wa:=by rw[hwa];exact (aC.refl _ _).alloc _
   have hrd:aH wa 1 (some ⟨wr.heap.size,0,none⟩) 1 [.int .u8 (m:Int)]:=by
    rw[hwa]
    have h:=aH.new (size:=1) wr 5 [.int .u8 (m:Int)] 1 rfl
    simpa using h
   have hone:∀ u∈([.int .u8 (m:Int)]:List Value),u.oneCell'=true:=by
    intro u hu
    rw[qXb] at hu
    subst hu
    rfl
   have hbb:q+k+1<=maxLen/\(q+k+1)*1<=140737488355328:=by
    have h1:=HQ.out
    have h2:=HB.2.2
    unfold maxLen
    omega
   have HXA:=aB (HX.to hTa)
   have HWA:=aB hwa
   have HRD:=aB hrd
   have HONE:=aB hone
   have HBB:=aB hbb
   have HTA:=aB hTa
   clear hm hwa hTa hrd hone hbb
   go_wp2_with (at_builtin;rw[<-HWA.out];refine aP _ rfl (.tmp 15) (.tmp 18) 50 rfl 5 i0 _ 1 1 Tryz.underlying50 hi0 hz0 hz1 hz2 rfl (by decide) (.slice A3 (q+k) c3) (q+k) _ rfl HXA.own (some ⟨wr.heap.size,0,none⟩) 1 1 [.int .u8 (m:Int)] rfl HRD (λh=>by cases h) HONE HBB.1 HBB.2 ?_;intro v1 w10 O10 G10 F10 _;obtain⟨A7,c7,hv,_,_⟩:=aS O10;subst hv;have HX10:=aB (HXA.app O10 G10 F10);have HG10:=aB G10;have HF10:=aB F10;clear O10 G10 F10)
   have hT10:aC (λg=>(Value.slice A q c).ownBlock=some g) w w10:=(HT.then (HTA.up _)).trans ((aC.refl (λg=>(Value.slice A3 (q+k) c3).ownBlock=some g) wa).grown HG10 (λk e _=>e)) (λg hg e=>by
    rcases HF.out with e2 | ⟨g',e2,hle⟩
    ·exact e2.symm.trans e
    ·rw[e2] at e
     injection e with e
     omega)
   go_ret
   refine⟨A7,q+k+1,c7,rfl,?_,by have:=HB.2.2;omega,hT10⟩
   have h:=HX10.out
   rw[<-HY.out,HVF.out,qZb,<-qZe]
   simp only[qJf,qZd]
   rw[lH (by have:=HM.out;omega)]
   exact h
theorem aDf(w0 w:World)(A:Option Addr)(q c:Nat)(xs:List Value)(h:fS 5 1 w0 w (.slice A q c) q xs)(n:Nat)(hn:n<9223372036854775808)(hq:q<=35184372088832) :
  Calls Tryz.prog 111 #[.slice A q c,.int .i64 n] w λe w'=>∃ (A':Option Addr) (q' c':Nat),e=.returned (.slice A' q' c')/\fS 5 1 w0 w' (.slice A' q' c') q' (xs++(dJ n).map bG)/\q'<=q+10/\aC (λg=>(Value.slice A q c).ownBlock=some g) w w':=by
 have HP:=aB (nD w0 w A q c xs h n (by omega) hq)
 have z1:IntKind.u64.wrap (n:Int)=(n:Int):=IntWalk.u64_in _ (by omega)
 clear h hn hq
 go_in
 go_wp2_with ((go_at_call 51;refine HP.mono ?_;rintro e w2 ⟨A',q',c',rfl,h2,hq2,T2⟩;have H2:=aB (And.intro h2 (And.intro hq2 T2));clear h2 hq2 T2))
 go_ret
 exact⟨A',q',c',rfl,H2⟩
def aBf(L:List aD)(i:Nat):Int:=if cF (L.getD i aD.zero).word.toList=false then 71 else if (decide (1<=(L.getD i aD.zero).weight) && decide ((L.getD i aD.zero).weight<=1048576))=false then 72 else 73
theorem aBg(L:List aD)(i:Nat):aBf L i=if cF (L.getD i aD.zero).word.toList=false then 71 else if (decide (1<=(L.getD i aD.zero).weight) && decide ((L.getD i aD.zero).weight<=1048576))=false then 72 else 73:=rfl
def Ey(L:List aD):Int:=if L.length<=4096 then (match (List.range L.length).find? (λi=>!Qt L i) with | some i=>aBf L i | none=>0) else 70
theorem Wn(h:¬ L.length<=4096):Ey L=70:=by unfold Ey;rw[if_neg h]
theorem Je(h4:L.length<=4096)(hi:i<L.length)(hF:∀ k,k<i->Qt L k=true)(hno:Qt L i=false):Ey L=aBf L i:=by
 have h:(List.range L.length).find? (λi=>!Qt L i)=some i:=by
  rw[List.find?_range_eq_some]
  exact⟨by rw[hno];rfl,List.mem_range.2 hi,λj hj=>by rw[hF j hj];rfl⟩
 unfold Ey
 rw[if_pos h4,h]
theorem aKm{v:Bool}(hx:x=if v=false then 71 else if t=false then 72 else 73)(h:v=false):x=71:=by rw[hx,if_pos h]
theorem aKn{v:Bool}(hx:x=if v=false then 71 else if t=false then 72 else 73)(h:v=true)(h2:t=false):x=72:=by rw[hx,if_neg (by rw[h];decide),if_pos h2]
theorem aKo{v:Bool}(hx:x=if v=false then 71 else if t=false then 72 else 73)(h:v=true)(h2:t=true):x=73:=by rw[hx,if_neg (by rw[h];decide),if_neg (by rw[h2];decide)]
theorem eJ{P:Program}{ops:Array Oper}{C:World->Prop}{Q:Act->Prop}{o:Oper}{l:List Oper}{a:Act}:wpQuiet P ops C Q (o :: l) a=(if Region.wanted o (yielded ops a.tmps) then o.quiet P a C (wpQuiet P ops C Q l) else wpQuiet P ops C Q l (a.put o.dst undef)):=rfl
deriving instance DecidableEq for cU
def vY(K:List cU)(s:cU):List cU × Nat:=match K.findIdx? (λx=>decide (x=s)) with
 | some i=>(K,i)
 | none=>(K++[s],K.length)
def gV(st:List cU->Rs->List cU × Nat)(low:Int)(R:Rs):List cU->List Nat->List cU × List (Nat × Int × Nat)
 | K,[]=>(K,[])
 | K,c :: cs=>((gV st low R (st K (aI R c)).1 cs).1,(c,bE (aI R c)-low,(st K (aI R c)).2) :: (gV st low R (st K (aI R c)).1 cs).2)
def lW(R:Rs):Int:=if gY R=true then rX R-bE R else 0
def zL:Nat->List cU->Rs->List cU × Nat
 | 0,K,_=>(K,0)
 | f+1,K,R=>vY (gV (zL f) (bE R) R K (aO R)).1 ⟨gY R,lW R,(gV (zL f) (bE R) R K (aO R)).2⟩
theorem uM(st:List cU->Rs->List cU × Nat)(low:Int)(R:Rs)(c:Nat):∀ (cs:List Nat) (K:List cU),gV st low R K (cs++[c])=((st (gV st low R K cs).1 (aI R c)).1,(gV st low R K cs).2++[(c,bE (aI R c)-low,(st (gV st low R K cs).1 (aI R c)).2)])
 | [],K=>rfl
 | d :: cs,K=>by
  simp only[List.cons_append,gV]
  rw[uM st low R c cs]
theorem Fo(h:K[i]? = some s)(hu:∀ j,K[j]? = some s->j=i):vY K s=(K,i):=by
 unfold vY
 cases hf:K.findIdx? (λx=>decide (x=s)) with
 | some j =>
  obtain⟨hj,h1,_⟩:=List.findIdx?_eq_some_iff_getElem.1 hf
  rw[hu j (List.getElem?_eq_some_iff.2 ⟨hj,of_decide_eq_true h1⟩)]
 | none =>
  rw[List.findIdx?_eq_none_iff] at hf
  have:=hf s (qXc h)
  simp at this
theorem Fm(h:s ∉ K):vY K s=(K++[s],K.length):=by
 unfold vY
 cases hf:K.findIdx? (λx=>decide (x=s)) with
 | none=>rfl
 | some j =>
  obtain⟨hj,h1,_⟩:=List.findIdx?_eq_some_iff_getElem.1 hf
  have e:K[j]=s:=of_decide_eq_true h1
  exact absurd (e ▸ List.getElem_mem hj) h
theorem Kf{k:kG}{l m:Rs}(h:aK l=aK m):bJ f k l=bJ f k m:=by
 cases f with
 | zero=>rfl
 | succ f=>simp only[bJ,h]
theorem uL(l:Rs)(hs:bU l):aO (aK l)=aO l:=by
 have h1:=dG (fH hs)
 have h2:=dG hs
 refine mN (lt:=(·<·)) (λa=>Nat.lt_irrefl a) (λa b h=>Nat.not_lt_of_lt h) h1 h2 λc=>?_
 rw[bO,bO,jQ,jW]
 unfold jC
 simp
theorem wO(l:Rs):gY (aK l)=gY l:=by
 rw[Bool.eq_iff_iff,eY,eY]
 constructor
 ·rintro⟨n,h⟩
  exact⟨_,dY.1 h⟩
 ·rintro⟨n,h⟩
  exact⟨n-bE l,dY.2 (by rw[Int.sub_add_cancel];exact h)⟩
theorem Hi(l:Rs)(hs:bU l):rX (aK l)=lW l:=by
 unfold lW
 by_cases h:gY l=true
 ·rw[if_pos h]
  obtain⟨n,hn⟩:=eY.1 h
  rw[iF hs hn]
  exact iF (fH hs) (dY.2 (by rw[Int.sub_add_cancel];exact hn))
 ·rw[if_neg h]
  exact xG (fH hs) (by rw[wO];simpa using h)
theorem zE(l:Rs)(c:Nat):aK (aI (aK l) c)=aK (aI l c):=by
 rw[jQ l,jW,mC]
theorem uR(l:Rs)(h:aI l c≠[]):bE (aI (aK l) c)=bE (aI l c)-bE l:=by
 rw[jQ l,jW,mX _ h]
def Zt(f:Nat):Prop:=∀ (k:kG) (R:Rs),nY k->bU R->R≠[]->gT R<f->zL f k.states R=((bJ f k R).1.states,(bJ f k R).2)
theorem Kv(ih:Zt f){R:Rs}(hs:bU R)(hd:gT R<=f):∀ (cs:List Nat) (k:kG),nY k->(∀ c∈cs,aI R c≠[]) ->
  gV (zL f) (bE R) R k.states cs=((cY (bJ f) (aK R) k cs).1.states,(cY (bJ f) (aK R) k cs).2)
 | [],k,_,_=>rfl
 | c :: cs,k,hk,hc=>by
  have hc1:=hc c (qZg)
  have hdu:=gD hc1
  have h1:=ih k (aI R c) hk (eQ c hs) hc1 (by omega)
  have h2:=lM f k (aI R c) hk (eQ c hs) hc1 (by omega)
  have h3:=Kv ih hs hd cs (bJ f k (aI R c)).1 h2.1 (λd hd=>hc d (qQg _ hd))
  have h4:bJ f k (aI (aK R) c)=bJ f k (aI R c):=Kf (zE R c)
  simp only[gV,cY,h1,h3,h4,uR R hc1]
theorem Kw(ih:Zt f){R:Rs}(hs:bU R)(hd:gT R<=f){k:kG}(hk:nY k)(hi:k.rests[i]? = some (aK R))(hc:zF k.rests i (aK R) s):∀ (xs:List (Nat × Int × Nat)),(∀ a∈xs,a∈s.arcs) ->
  gV (zL f) (bE R) R k.states (xs.map (·.1))=(k.states,xs)
 | [],_=>rfl
 | a :: xs,ha=>by
  have h0:=ha a (qZg)
  have hm:a.1∈aO (aK R):=by rw[<-hc.labels];exact qJd h0
  have hc1:aI R a.1≠[]:=by rw[uL R hs] at hm;exact bO.1 hm
  have hdu:=gD hc1
  obtain⟨g1,g2,g3⟩:=hc.arc a h0
  rw[zE] at g3
  rw[uR R hc1] at g1
  have h1:=ih k (aI R a.1) hk (eQ a.1 hs) hc1 (by omega)
  have h2:bJ f k (aI R a.1)=(k,a.2.2):=by
   cases f with
   | zero=>omega
   | succ f =>
    have hx:qP k.rests (aK (aI R a.1))=some a.2.2:=by
     cases hx:qP k.rests (aK (aI R a.1)) with
     | none=>exact absurd (qXc g3) (wQ hx)
     | some j =>
      have hj:=rJ hx
      obtain⟨l1,e1⟩:=List.getElem?_eq_some_iff.1 hj
      obtain⟨l2,e2⟩:=List.getElem?_eq_some_iff.1 g3
      rw[(qZf hk.nodup).1 (e1.trans e2.symm)]
    simp only[bJ,hx]
  rw[h2] at h1
  have h3:=Kw ih hs hd hk hi hc xs (λd hd=>ha d (qQg _ hd))
  simp only[qJf,gV,h1,h3,<-g1]
theorem Qx:∀ f,Zt f
 | 0=>λ_ _ _ _ _ h=>absurd h (Nat.not_lt_zero _)
 | f+1=>λk R hk hs hne hd=>by
  have hlf:=uL R hs
  simp only[zL,bJ]
  cases hi:qP k.rests (aK R) with
  | some i =>
   have hR:=rJ hi
   obtain⟨s,hsi⟩:∃ s,k.states[i]? = some s:=by
    have:=(List.getElem?_eq_some_iff.1 hR).1
    rw[hk.len] at this
    exact⟨_,qJa this⟩
   have hc:=hk.corr i _ _ hR hsi
   have ha:=Kw (Qx f) hs (by omega) hk hR hc s.arcs (λ_ h=>h)
   rw[hc.labels,hlf] at ha
   rw[ha]
   have he:(⟨gY R,lW R,s.arcs⟩:cU)=s:=by
    obtain⟨sf,so,sa⟩:=s
    have h1:=hc.fin
    have h2:=hc.out
    simp only at h1 h2
    rw[wO] at h1
    rw[Hi R hs] at h2
    rw[h1,h2]
   simp only
   rw[he]
   exact Fo hsi (λj hj=>hk.unalike hj hsi)
  | none =>
   have hsl:=fH hs
   have ha:=Kv (Qx f) hs (by omega) (aO R) k hk (λc hc=>bO.1 hc)
   rw[ha]
   obtain⟨h1,h2,h3,h4⟩:=tZ (lM f) hsl (by rw[gC];omega) (aO (aK R)) k hk (λc hc=>bO.1 hc)
   rw[hlf] at h1 h2 h3 h4 ⊢
   have hnew:=aCv (wQ hi) hsl (Cj hne) (yL hne) h1 h2 (by rw[hlf];exact h3) h4
   simp only
   rw[<-wO R,<-Hi R hs]
   refine Fm λhm=>?_
   obtain⟨j,hj,e⟩:=qXf hm
   have e1:((cY (bJ f) (aK R) k (aO R)).1.states++[(⟨gY (aK R),rX (aK R),(cY (bJ f) (aK R) k (aO R)).2⟩:cU)])[j]? = some ⟨gY (aK R),rX (aK R),(cY (bJ f) (aK R) k (aO R)).2⟩:=by
    rw[qZc hj,qJa hj,e]
   have e2:((cY (bJ f) (aK R) k (aO R)).1.states++[(⟨gY (aK R),rX (aK R),(cY (bJ f) (aK R) k (aO R)).2⟩:cU)])[(cY (bJ f) (aK R) k (aO R)).1.states.length]? = some ⟨gY (aK R),rX (aK R),(cY (bJ f) (aK R) k (aO R)).2⟩:=by
    rw[qQf (qXa _),Nat.sub_self]
    rfl
   have:=hnew.unalike e1 e2
   omega
section
open Go.RowKit Go.WideMaps Go.WideElems Go.ChangeShapes Go.WideShapes Go.MapKept Go.ChangeMaps
theorem aGp:KeyLaw Tryz.prog 281 := deep_law (m:=2) (by decide) (by kernel_rfl) (by kernel_rfl) (by kernel_rfl)
theorem wV:Maps.Keyed Tryz.prog 281 := Maps.Keyed.of_law aGp
theorem xF:Maps.Keyed Tryz.prog 3 := Maps.int_keyed Tryz.underlying3
structure rI(w:World)(b:Nat)(kt:TypeId)(ks:List Value):Prop where
 ex:∃ es clock,w.heap[b]? = some (.map es clock)/\Stamped es clock/\es.toList.map (·.key)=ks/\es.toList.map (·.val)=(List.range ks.length).map qV
 keys:∀ v∈ks,∃ l,keyOf Tryz.prog kt v=some l
 nodup:ks.Nodup
theorem rI.lt(h:rI w b kt ks):b<w.heap.size:=by
 obtain⟨es,clock,hb,_⟩:=h.ex
 exact pD hb
theorem rI.far{S:Nat->Prop}(h:rI w b kt ks)(T:aC S w w')(hb:¬ S b):rI w' b kt ks:=by
 obtain⟨es,clock,e1,e2⟩:=h.ex
 exact⟨⟨es,clock,(T.block b h.lt hb).trans e1,e2⟩,h.keys,h.nodup⟩
theorem rI.quiet(h:rI w b kt ks)(T:aC (λ_=>False) w w'):rI w' b kt ks:=h.far T (λf=>f)
theorem rI.ne{g:Nat}{t:TypeId}(h:rI w b kt ks)(hg:bQ w g t):g≠b:=by
 obtain⟨es,clock,hb,_⟩:=h.ex
 exact nS hg hb
theorem rI.new(w:World)(kt:TypeId):rI (w.alloc (.map #[] 0)) w.heap.size kt []:=⟨⟨#[],0,heap_alloc_new w _,stamped_empty 0,rfl,rfl⟩,λv hv=>(by cases hv),List.nodup_nil⟩
theorem rI.look(h:rI w b kt ks)(K:Maps.Keyed Tryz.prog kt)(ht:Tryz.prog.underlying mt=some (.map kt 3))(hv:keyOf Tryz.prog kt v=some l) :
  (v ∉ ks/\(Instr.lookup mt (.map (some b)) v true).run Tryz.prog w=.ok (.tuple #[.int .i64 0,.bool false]) w) \/
  ∃ i:Nat,ks[i]? = some v/\(Instr.lookup mt (.map (some b)) v true).run Tryz.prog w=.ok (.tuple #[.int .i64 i,.bool true]) w:=by
 obtain⟨es,clock,hb,_,hk,hvl⟩:=h.ex
 have hz:(zeroValue 3).run Tryz.prog w=.ok (.int .i64 0) w:=by kernel_rfl
 have hkeys:∀ e∈es.toList,∃ l,keyOf Tryz.prog kt e.key=some l:=λe he=>h.keys e.key (by rw[<-hk];exact qJd he)
 rcases K.find w hv es.toList hkeys with⟨h1,h2⟩ | ⟨j,e0,h1,h2,h3⟩
 ·refine .inl ⟨λhm=>?_,by simp[Instr.lookup,run_underlying ht,MapKept.run_getObj_map hb,K.check w _ hv,h1,hz,Result.andThen]⟩
  rw[<-hk] at hm
  obtain⟨e,he,e2⟩:=List.mem_map.1 hm
  exact h2 e he e2
 ·have hkj:ks[j]? = some v:=by rw[<-hk,qQb,h2,<-h3];rfl
  have hvj:e0.val=qV j:=by
   have e1:(es.toList.map (·.val))[j]? = some e0.val:=by rw[qQb,h2];rfl
   rw[hvl,qQb,List.getElem?_range (List.getElem?_eq_some_iff.1 hkj).1] at e1
   simp only[Option.map_some,Option.some.injEq] at e1
   exact e1.symm
  refine .inr ⟨j,hkj,?_⟩
  simp[Instr.lookup,run_underlying ht,MapKept.run_getObj_map hb,K.check w _ hv,h1,Result.andThen,hvj,qV]
theorem rI.len(h:rI w b kt ks)(ht:Tryz.prog.underlying mt=some (.map kt 3))(ty:TypeId):(Builtin.len_ #[mt] ty #[.map (some b)]).run Tryz.prog w=.ok (.int .i64 (ks.length:Int)) w:=by
 obtain⟨es,clock,hb,_,hk,_⟩:=h.ex
 have hs:es.size=ks.length:=by rw[<-hk,qQc,Array.length_toList]
 simp[Builtin.len_,run_underlying ht,MapKept.run_getObj_map hb,goInt,hs]
theorem rI.no(h:rI w b kt ks)(K:Maps.Keyed Tryz.prog kt)(ht:Tryz.prog.underlying mt=some (.map kt 3))(hv:keyOf Tryz.prog kt v=some l)(hn:v ∉ ks) :
  (Instr.lookup mt (.map (some b)) v true).run Tryz.prog w=.ok (.tuple #[.int .i64 0,.bool false]) w:=by
 rcases h.look K ht hv with⟨_,h1⟩ | ⟨i,h1,_⟩
 ·exact h1
 ·exact absurd (qXc h1) hn
theorem rI.yes(h:rI w b kt ks)(K:Maps.Keyed Tryz.prog kt)(ht:Tryz.prog.underlying mt=some (.map kt 3))(hv:keyOf Tryz.prog kt v=some l)(hi:ks[i]? = some v) :
  (Instr.lookup mt (.map (some b)) v true).run Tryz.prog w=.ok (.tuple #[.int .i64 i,.bool true]) w:=by
 rcases h.look K ht hv with⟨h1,_⟩ | ⟨j,h1,h2⟩
 ·exact absurd (qXc hi) h1
 ·obtain⟨l1,e1⟩:=List.getElem?_eq_some_iff.1 hi
  obtain⟨l2,e2⟩:=List.getElem?_eq_some_iff.1 h1
  rw[(qZf h.nodup).1 (e1.trans e2.symm)]
  exact h2
theorem rI.put(h:rI w b kt ks)(K:Maps.Keyed Tryz.prog kt)(ht:Tryz.prog.underlying mt=some (.map kt 3))(hv:keyOf Tryz.prog kt v=some l)(hn:v ∉ ks) :
  ∃ o,(Instr.mapUpdate mt (.map (some b)) v (.int .i64 (ks.length:Int))).run Tryz.prog w=.ok () (setBlock w b o)/\rI (setBlock w b o) b kt (ks++[v]):=by
 obtain⟨es,clock,hb,hs,hk,hvl⟩:=h.ex
 have hkeys:∀ e∈es.toList,∃ l,keyOf Tryz.prog kt e.key=some l:=λe he=>h.keys e.key (by rw[<-hk];exact qJd he)
 rcases K.find w hv es.toList hkeys with⟨h1,h2⟩ | ⟨j,e0,h1,h2,h3⟩
 ·refine⟨.map (es.push ⟨v,.int .i64 (ks.length:Int),clock⟩) (clock+1),?_,⟨⟨_,_,fO h.lt,stamped_push hs h2,?_,?_⟩,?_,?_⟩⟩
  ·simp[Instr.mapUpdate,run_underlying ht,MapKept.run_getObj_map hb,K.check w false hv,h1,MapKept.run_setObj_map _ hb,Result.andThen,setBlock]
  ·rw[Array.toList_push,qZb,hk];rfl
  ·rw[Array.toList_push,qZb,hvl,List.length_append,List.length_singleton,List.range_succ,qZb];rfl
  ·intro x hx
   rcases List.mem_append.1 hx with hx | hx
   ·exact h.keys x hx
   ·rw[List.mem_singleton.1 hx];exact⟨l,hv⟩
  ·rw[List.nodup_append]
   refine⟨h.nodup,by simp,?_⟩
   intro a ha c hc e
   rw[List.mem_singleton.1 hc] at e
   exact hn (e ▸ ha)
 ·exfalso
  apply hn
  rw[<-hk,<-h3]
  exact qJd (qXc h2)
def kY(fin:Bool)(out:Int):Value:=.agg #[.bool fin,.int .i64 out,.int .i64 0,.int .i64 0,.int .i64 (-1),.int .i64 0]
def qH(a:Nat × Int × Nat)(k:Nat):Value:=.agg #[.bool false,.int .i64 0,.int .i64 (a.1:Int),.int .i64 a.2.1,.int .i64 (a.2.2:Int),.int .i64 ((k:Int)+1)]
theorem aFu{f g:Bool}{p:Int}(h:kY f o=kY g p):f=g/\o=p:=by
 unfold kY at h
 simp only[Value.agg.injEq,Array.mk.injEq,List.cons.injEq,Value.bool.injEq,Value.int.injEq,true_and,and_true] at h
 exact h
theorem aFh{a b:Nat × Int × Nat}{m:Nat}(h:qH a k=qH b m):a=b/\k=m:=by
 obtain⟨a1,a2,a3⟩:=a
 obtain⟨b1,b2,b3⟩:=b
 unfold qH at h
 simp only[Value.agg.injEq,Array.mk.injEq,List.cons.injEq,Value.int.injEq,true_and,and_true] at h
 obtain⟨h1,h2,h3,h4⟩:=h
 exact⟨by rw[show a1=b1 by omega,h2,show a3=b3 by omega],by omega⟩
theorem Uc{f:Bool}{a:Nat × Int × Nat}(h:kY f o=qH a k):False:=by
 unfold kY qH at h
 simp only[Value.agg.injEq,Array.mk.injEq,List.cons.injEq,Value.bool.injEq,Value.int.injEq,true_and,and_true] at h
 omega
theorem aJd:Tryz.prog.keyType 281 = true:=by kernel_rfl
theorem Ml:Tryz.prog.cellsOf 281 = 6:=by kernel_rfl
theorem Qd:Tryz.prog.cellsOf 4 = 1:=by kernel_rfl
theorem aGo{b:Bool}{x1 x2 x3 x4 x5:Int}(h1:oW x1)(h2:oW x2)(h3:oW x3)(h4:oW x4)(h5:oW x5):∃ l,keyOf Tryz.prog 281 (.agg #[.bool b,.int .i64 x1,.int .i64 x2,.int .i64 x3,.int .i64 x4,.int .i64 x5])=some l:=by
 have hs:∃ m,Tryz.prog.types.size=m+1:=⟨Tryz.prog.types.size-1,by kernel_rfl⟩
 obtain⟨m,hm⟩:=hs
 refine⟨.string (keyBytes [.bool b,.int .i64 x1,.int .i64 x2,.int .i64 x3,.int .i64 x4,.int .i64 x5]),?_⟩
 have e0:Tryz.prog.keyLits (m+1) 4 [.bool b]=some [.bool b]:=by
  unfold Program.keyLits
  simp[Tryz.underlying4]
 have e1:∀ x,oW x->Tryz.prog.keyLits (m+1) 3 [.int .i64 x]=some [.int .i64 x]:=by
  intro x hx
  unfold Program.keyLits
  simp[Tryz.underlying3,Rd hx]
 unfold keyOf
 simp only[Tryz.underlying281,aJd,Value.formed,Ml,Bool.true_and]
 rw[hm]
 unfold Program.keyLits
 simp only[Tryz.underlying281,Ml,Value.cells]
 simp[Fx,Qd,e0,e1 _ h1,e1 _ h2,e1 _ h3,e1 _ h4,e1 _ h5]
def kX(Lk:List Value)(fin:Bool)(out:Int):List (Nat × Int × Nat)->Nat->Prop
 | [],k=>Lk[k]? = some (kY fin out)
 | a :: l,k=>∃ m,kX Lk fin out l m/\Lk[k]? = some (qH a m)
theorem Cr{α:Type}{l:List α}(h:l.Nodup){x:α}(hi:l[i]? = some x)(hj:l[j]? = some x):i=j:=by
 obtain⟨l1,e1⟩:=List.getElem?_eq_some_iff.1 hi
 obtain⟨l2,e2⟩:=List.getElem?_eq_some_iff.1 hj
 exact (qZf h).1 (e1.trans e2.symm)
theorem wH(h:Lk.Nodup):∀ (l:List (Nat × Int × Nat)) {k m:Nat},kX Lk fin out l k->kX Lk fin out l m->k=m
 | [],_,_,h1,h2=>Cr h h1 h2
 | a :: l,_,_,⟨x,h1,e1⟩,⟨y,h2,e2⟩=>by
  obtain rfl:=wH h l h1 h2
  exact Cr h e1 e2
theorem Fy{f g:Bool}{p:Int}:∀ (l m:List (Nat × Int × Nat)) {k:Nat},kX Lk f o l k->kX Lk g p m k->f=g/\o=p/\l=m
 | [],[],k,h1,h2=>by
  have h1:Lk[k]? = some (kY f o):=h1
  have h2:Lk[k]? = some (kY g p):=h2
  rw[h1] at h2
  obtain⟨e1,e2⟩:=aFu (Option.some.inj h2)
  exact⟨e1,e2,rfl⟩
 | [],b :: m,k,h1,⟨y,_,e2⟩=>by
  have h1:Lk[k]? = some (kY f o):=h1
  rw[h1] at e2
  exact (Uc (Option.some.inj e2)).elim
 | a :: l,[],k,⟨x,_,e1⟩,h2=>by
  have h2:Lk[k]? = some (kY g p):=h2
  rw[h2] at e1
  exact (Uc (Option.some.inj e1)).elim
 | a :: l,b :: m,_,⟨x,h1,e1⟩,⟨y,h2,e2⟩=>by
  rw[e1] at e2
  obtain⟨rfl,rfl⟩:=aFh (Option.some.inj e2)
  obtain⟨r1,r2,r3⟩:=Fy l m h1 h2
  exact⟨r1,r2,by rw[r3]⟩
theorem wG{M:List Value}:∀ (l:List (Nat × Int × Nat)) {k:Nat},kX Lk fin out l k->kX (Lk++M) fin out l k
 | [],k,h=>by
  have h:Lk[k]? = _:=h
  show (Lk++M)[k]? = _
  rw[qZc (List.getElem?_eq_some_iff.1 h).1]
  exact h
 | a :: l,k,⟨x,h1,e1⟩=>⟨x,wG l h1,by rw[qZc (List.getElem?_eq_some_iff.1 e1).1];exact e1⟩
theorem Lm:∀ (l:List (Nat × Int × Nat)) {k:Nat},kX Lk fin out l k->k<Lk.length
 | [],_,h=>(List.getElem?_eq_some_iff.1 h).1
 | _ :: _,_,⟨_,_,e⟩=>(List.getElem?_eq_some_iff.1 e).1
structure Es(Lk:List Value)(K:List cU)(Bk:List Nat):Prop where
 len:Bk.length=K.length
 says:∀ (j:Nat) (s:cU) (k:Nat),K[j]? = some s->Bk[j]? = some k->kX Lk s.fin s.out s.arcs k
theorem Es.ext{M:List Value}(h:Es Lk K Bk):Es (Lk++M) K Bk:=⟨h.len,λj s k h1 h2=>wG _ (h.says j s k h1 h2)⟩
theorem Es.old(h:Es Lk K Bk)(hL:Lk.Nodup)(hB:Bk.Nodup)(hs:kX Lk s.fin s.out s.arcs k)(hj:Bk[j]? = some k):vY K s=(K,j):=by
 obtain⟨x,hx⟩:∃ x,K[j]? = some x:=by
  have:=(List.getElem?_eq_some_iff.1 hj).1
  rw[h.len] at this
  exact⟨_,qJa this⟩
 obtain⟨e1,e2,e3⟩:=Fy _ _ (h.says j x k hx hj) hs
 obtain rfl:x=s:=by
  obtain⟨x1,x2,x3⟩:=x
  obtain⟨s1,s2,s3⟩:=s
  simp only at e1 e2 e3
  rw[e1,e2,e3]
 refine Fo hx λi hi=>?_
 obtain⟨m,hm⟩:∃ m,Bk[i]? = some m:=by
  have:=(List.getElem?_eq_some_iff.1 hi).1
  rw[<-h.len] at this
  exact⟨_,qJa this⟩
 obtain rfl:=wH hL _ (h.says i x m hi hm) hs
 exact Cr hB hm hj
theorem Es.new(h:Es Lk K Bk)(hL:Lk.Nodup)(hs:kX Lk s.fin s.out s.arcs k)(hk:k ∉ Bk):vY K s=(K++[s],K.length)/\Es Lk (K++[s]) (Bk++[k]):=by
 refine⟨Fm λhm=>?_,by simp[h.len],λj x m hx hm=>?_⟩
 ·obtain⟨j,hj,e⟩:=qXf hm
  have hjB:j<Bk.length:=by rw[h.len];exact hj
  have h1:=h.says j s Bk[j] (by rw[qJa hj,e]) (qJa hjB)
  rw[wH hL _ hs h1] at hk
  exact hk (List.getElem_mem hjB)
 ·by_cases hj:j<K.length
  ·rw[qZc hj] at hx
   rw[qZc (by rw[h.len];exact hj)] at hm
   exact h.says j x m hx hm
  ·have hj2:j=K.length:=by
    have:=(List.getElem?_eq_some_iff.1 hx).1
    rw[List.length_append] at this
    simp at this
    omega
   subst hj2
   rw[qQf (qXa _),Nat.sub_self] at hx
   rw[<-h.len,qQf (qXa _),Nat.sub_self] at hm
   simp only[List.getElem?_cons_zero,Option.some.injEq] at hx hm
   subst hx hm
   exact hs
end
section
open Go.RowKit Go.MapKept Go.ChangeMaps
structure FL where
 A:Option Addr
 n:Nat
 c:Nat
 V:List RV
def FL.val(s:FL):Value:=.slice s.A s.n s.c
def FL.p(s:FL):Rs:=s.V.map RV.p
structure FL.Ok(s:FL)(w:World):Prop where
 len:s.V.length=s.n
 rd:gL w 158 2 s.A s.n (kF s.V)
 el:∀ r∈s.V,r.Ok w
 le:s.n<=s.c
def FL.Bd(s:FL):Prop:=∀ r∈s.V,0<=r.wt/\r.wt<=1048576
theorem FL.Ok.touch{s:FL}{S:Nat->Prop}(h:s.Ok w)(T:aC S w w')(h1:∀ g,bQ w g 21 -> ¬ S g)(h2:∀ g,bQ w g 158 -> ¬ S g):s.Ok w' :=
 ⟨h.len,h.rd.touch T h2,λr hr=>(h.el r hr).touch T h1,h.le⟩
theorem FL.Ok.quiet{s:FL}(h:s.Ok w)(T:aC (λ_=>False) w w'):s.Ok w':=h.touch T (λ_ _ f=>f) (λ_ _ f=>f)
theorem sS(w:World)(s:FL)(hs:s.Ok w)(hn:0<s.n)(hm:s.n<=maxLen) :
  Calls Tryz.prog 84 #[s.val] w λe w'=>e=.returned (.int .i64 (bE s.p))/\aC (λ_=>False) w w':=by
 obtain⟨A,n,c,V⟩:=s
 have HR:=aB hs.rd.rd
 have HLN:=aB hs.len
 simp only[FL.val,FL.p]
 simp only at HR HLN hn hm
 clear hs
 unfold maxLen at hm
 obtain⟨m,rfl⟩:∃ m,n=m+1:=⟨n-1,by omega⟩
 obtain⟨g,o,hA,hg,_,z1⟩:=Up HR.out HLN 0 (by omega)
 subst hA
 simp only[Nat.zero_mul,Nat.add_zero] at z1
 obtain⟨z,hz⟩:∃ z,(V.getD 0 RV.zero).wt=z:=⟨_,rfl⟩
 rw[hz] at z1
 have hl:bE (V.map RV.p)=(V.map RV.p).foldl (λn r=>min n r.2) z:=by
  cases V with
  | nil=>have:=HLN.out;simp at this
  | cons x V=>simp only[List.getD_cons_zero] at hz;subst hz;rfl
 have HL:=aB hl
 have HZ1:=aB z1
 have HG:=aB hg
 clear hl hz hg
 have y0:(0:Int)<((m:Int)+1):=by omega
 go_in
 go_wp2
 go_loopw [3,12] (λnv iv wr=>∃ (z':Int) (i:Nat),nv=.int .i64 z'/\iv=.int .i64 i/\i<=m+1/\Hid (z'=((V.map RV.p).take i).foldl (λn r=>min n r.2) z)/\Hid (aC (λ_=>False) w wr)) (λ_ iv _=>m+1-(intOf iv).toNat)
 case atStart=>exact⟨z,0,rfl,rfl,by omega,aB (by simp),aB (aC.refl _ _)⟩
 case round =>
  obtain⟨z',i,rfl,rfl,hi,HZ,HT⟩:=hrel
  by_cases hin:i<m+1
  ·have y1:(i:Int)<(m:Int)+1:=by omega
   have y2:(0:Int)<=(i:Int):=by omega
   obtain⟨g',o',hA,_,a0,a1⟩:=Up (HR.touch HT (λ_ _ f=>f)) HLN i hin
   injection hA with hA
   injection hA with hA1 hA2
   subst hA1 hA2
   obtain⟨u,hu⟩:∃ u,(V.getD i RV.zero).wt=u:=⟨_,rfl⟩
   rw[hu] at a1
   have hst:((V.map RV.p).take (i+1)).foldl (λn r=>min n r.2) z=min z' u:=by
    rw[kO (V.map RV.p) RV.zero.p i (by rw[qQc,HLN.out];exact hin),List.foldl_append,<-HZ.out]
    simp only[List.foldl_cons,List.foldl_nil]
    rw[<-hu]
    simp[qJb,RV.p,show i<V.length by rw[HLN.out];exact hin]
   have HST:=aB hst
   have j3:IntKind.i64.wrap ((i:Int)+1)=(i:Int)+1:=qZa _ (by omega)
   clear hst hu
   go_wp2
   all_goals
    go_roundw
    ·exact⟨_,i+1,rfl,by simp,by omega,aB (by rw[HST.out];first | done | (split<;>omega)),aB (HT.alloc _)⟩
    ·show m+1-(intOf (.int .i64 ((i:Int)+1))).toNat<m+1-(intOf (.int .i64 (i:Int))).toNat
     simp[intOf]
     omega
  ·have y1:¬ (i:Int)<(m:Int)+1:=by omega
   have ht:(V.map RV.p).take i=V.map RV.p:=qZj (by rw[qQc,HLN.out];omega)
   have hz:=HZ.out
   rw[ht,<-HL.out] at hz
   have HE:=aB hz
   clear hz ht
   go_wp2
   go_ret
   exact⟨by rw[<-HE.out];rfl,HT⟩
theorem Gz(w:World)(B:Nat)(s bv:Value)(m1:Nat)(Lk:List Value)(hb:aL w B 163 #[s,.map (some m1),bv])(hI:rI w m1 281 Lk)(hn:Lk.length<=1000000)
  (f:Bool)(x1 x2 x3 x4 x5:Int)(h1:oW x1)(h2:oW x2)(h3:oW x3)(h4:oW x4)(h5:oW x5)(v:Value)(hv:v=.agg #[.bool f,.int .i64 x1,.int .i64 x2,.int .i64 x3,.int .i64 x4,.int .i64 x5]) :
  Calls Tryz.prog 172 #[.pointer (some ⟨B,0,none⟩),v] w λe w'=>∃ (M:List Value) (k:Nat),e=.returned (.int .i64 k)/\(Lk++M)[k]? = some v/\M.length<=1/\rI w' m1 281 (Lk++M)/\aC (λg=>g=m1) w w':=by
 obtain⟨w1,hw1⟩:=eX (w.alloc (.cells #[.bool f,.int .i64 x1,.int .i64 x2,.int .i64 x3,.int .i64 x4,.int .i64 x5] 281))
 have hT1:aC (λ_=>False) w w1:=by rw[hw1];exact (aC.refl _ _).alloc _
 obtain⟨b0,b1,b2⟩:=hb.facts
 have hI1:=hI.quiet hT1
 obtain⟨l,hl⟩:=aGo (b:=f) h1 h2 h3 h4 h5
 rw[<-hv] at hl
 have hmu:Tryz.prog.underlying 160 = some (.map 281 3):=Tryz.underlying160
 by_cases hno:v ∉ Lk
 ·have hlk:∀ n,(Instr.lookup 160 (.map (some m1)) v true).run Tryz.prog (w1.drewN n)=.ok (.tuple #[.int .i64 0,.bool false]) (w1.drewN n):=λn=>(hI1.quiet ((aC.refl _ _).drewN n)).no wV hmu hl hno
  have HI1:=aB hI1
  have HT1:=aB hT1
  have HV:=aB hv
  have HB:=aB hb
  have HL:=aB hl
  have HNO:=aB hno
  have HMU:=aB hmu
  have hnI:(Lk.length:Int)<=1000000:=by omega
  rw[hw1,hv] at hlk
  have HW1:=aB hw1
  clear hI hI1 hl hv hT1 hb hw1 hno h1 h2 h3 h4 h5 hmu hn
  rw[HV.out]
  go_in
  go_wp2_with fail
  go_quiet (fail)
  rw[<-HW1.out]
  obtain⟨w2,hw2⟩:=eX (w1.drewN nq)
  rw[<-hw2]
  have hT2:aC (λ_=>False) w w2:=by rw[hw2];exact HT1.drewN _
  have hI2:rI w2 m1 281 Lk:=by rw[hw2];exact HI1.quiet ((aC.refl _ _).drewN _)
  have hbx:aL w2 w.heap.size 281 #[.bool f,.int .i64 x1,.int .i64 x2,.int .i64 x3,.int .i64 x4,.int .i64 x5]:=by rw[hw2,HW1.out];exact (aL.new _ _ _).drewN _
  clear b0 b1 b2
  obtain⟨b0,b1,b2⟩:=(HB.touch hT2 (λf=>f)).facts
  obtain⟨c0,c1,c2⟩:=hbx.facts
  have hlen:=hI2.len HMU 3
  obtain⟨o,hup,hI3⟩:=(hI2.quiet (aC.refl _ _).drew).put wV HMU HL HNO
  rw[HV.out] at hup
  have hT3:aC (λg=>g=m1) w (setBlock w2.drew m1 o):=(hT2.drew.up _).then (dV _ _ _)
  have HI3:=aB hI3
  have HT3:=aB hT3
  clear hw2 hT2 hI2 hbx hI3 hT3 hlk
  go_wp2_with fail
  go_region
  all_goals
   go_wp2_with fail
   go_ret
   exact⟨[v],Lk.length,rfl,by simp[HV.out],by simp,HI3,HT3⟩
 ·obtain⟨i,hi,hil⟩:=qXf (Classical.not_not.1 hno)
  have hi2:Lk[i]? = some v:=by rw[qJa hi,hil]
  have hlk:∀ n,(Instr.lookup 160 (.map (some m1)) v true).run Tryz.prog (w1.drewN n)=.ok (.tuple #[.int .i64 i,.bool true]) (w1.drewN n):=λn=>(hI1.quiet ((aC.refl _ _).drewN n)).yes wV hmu hl hi2
  have HI1:=aB hI1
  have HT1:=aB hT1
  have HV:=aB hv
  have HI2:=aB hi2
  rw[hw1,hv] at hlk
  have HW1:=aB hw1
  clear hI hI1 hl hv hT1 hb hw1 hno h1 h2 h3 h4 h5 hmu hn hi hil hi2
  rw[HV.out]
  go_in
  go_wp2_with fail
  go_quiet (fail)
  rw[<-HW1.out]
  have hT2:=HT1.drewN nq
  have hI2:=HI1.quiet ((aC.refl _ _).drewN nq)
  have HT2:=aB hT2
  have HI3:=aB hI2
  clear hT2 hI2 hlk
  go_wp2_with fail
  go_ret
  exact⟨[],i,rfl,by rw[qXe,<-HV.out];exact HI2,by simp,by rw[qXe];exact HI3,HT2.up _⟩
end
end Go.Proofs.YthockgmbooefpaaGreatDoor
