/- What the law rests on, part 12. No condition but those that each theorem names. -/
import Derived.Test.YthockgmbooefpaaGreatDoorL11
import Derived.Deep.CutRange
import Derived.Deep.CutBlock
import Derived.Deep.RegionLaw
set_option linter.unusedSectionVars false
set_option linter.unusedSimpArgs false
set_option linter.unusedVariables false
set_option maxRecDepth 100000
set_option maxHeartbeats 8000000
namespace Go.Proofs.YthockgmbooefpaaGreatDoor
open Go.RowKit
def sliceLen:Value→Nat
 | .slice _ n _=>n
 | _=>0
theorem out_bd {V:List RV} (hb:∀ r∈V,0≤r.wt∧r.wt≤1048576) (hne:V.map RV.p≠[]):0≤leastR (V.map RV.p)∧leastR (V.map RV.p)≤1048576:=by
 obtain ⟨r,hr,e⟩:=leastR_mem hne
 obtain ⟨v,hv,rfl⟩:=List.mem_map.1 hr
 have:=hb v hv
 rw [← e]
 exact this
theorem beh_head {R:Rs} {cs:List Nat} {x:List Nat × Int} {l:Rs} (h:cs.flatMap (behR R)=x :: l):∃ d t,x.1=d :: t∧d∈cs:=by
 have hm:x∈cs.flatMap (behR R):=by rw [h];exact List.mem_cons_self
 obtain ⟨c,hcs,hc⟩:=List.mem_flatMap.1 hm
 obtain ⟨y,n⟩:=x
 obtain ⟨t,e,_⟩:=mem_beh.1 hc
 exact ⟨c,t,e,hcs⟩
theorem fstOut_bd {R:Rs} (hb:∀ r∈R,0≤r.2∧r.2≤1048576) (hs:SortR R) (hne:R≠[]):0≤fstOut R∧fstOut R≤1048576:=by
 unfold fstOut
 by_cases h:finR R=true
 ·rw [if_pos h]
  obtain ⟨m,hm⟩:=finR_iff.1 h
  rw [outR_mem hs hm]
  have h1:=leastR_le hm
  have h2:=hb _ hm
  obtain ⟨r,hr,e⟩:=leastR_mem hne
  have h3:=hb r hr
  simp only at h1 h2
  omega
 ·rw [if_neg h]
  omega
theorem beh_drop (R:Rs) (c k:Nat) (hk:k<(underR R c).length):(behR R c).drop k=(c :: ((underR R c)[k]).1,((underR R c)[k]).2) :: (behR R c).drop (k+1):=by
 rw [List.drop_eq_getElem_cons (by rw [behR_len];exact hk)]
 simp [behR]
theorem rest_head {w:World} {A:Option Addr} {n:Nat} {x:RV} {V:List RV} (h:RdT w 158 2 A n (rCells (x :: V))) (hn:0<n) :
  ∃ g o,A=some ⟨g,o,none⟩∧g<w.heap.size∧w.cell? ⟨g,o,none⟩=some (.slice x.A x.q x.c)∧w.cell? ⟨g,o+1,none⟩=some (.int .i64 x.wt):=by
 obtain ⟨b,off,hA,hb,hc⟩:=h.rd.2 hn
 refine ⟨b,off,hA,hb,?_,?_⟩
 ·have:=hc 0 (.slice x.A x.q x.c) rfl
  rwa [Nat.add_zero] at this
 ·exact hc 1 (.int .i64 x.wt) rfl
theorem sb_trans {w wr u:World} {B m1 m2:Nat} {v0 v:Value} (h:Touch (SB B m1 m2 v0) w wr) (fr:Fresh w v0 v) (T:Touch (SB B m1 m2 v) wr u):Touch (SB B m1 m2 v0) w u:=by
 refine h.trans T ?_
 rintro g hg (e | e | e | e)
 ·exact .inl e
 ·exact .inr (.inl e)
 ·exact .inr (.inr (.inl e))
 ·rcases fr with e2 | ⟨g',e2,hg'⟩
  ·exact .inr (.inr (.inr (e2.symm.trans e)))
  ·rw [e2] at e
   injection e with e
   omega
theorem own_block_of {w:World} {base:Nat} {e:TypeId} {size:Nat} {A:Option Addr} {n c:Nat} {xs:List Value} (h:w.ownsRow base e size (.slice A n c) n xs) (hn:0<n) {g:Nat} (hg:adBlock A=some g):(Value.slice A n c).ownBlock=some g:=by
 obtain ⟨g',cap,hv,_⟩:=own_form h hn
 injection hv with hA _ _
 subst hA
 exact hg
theorem fst_step (f:Nat) (ih:FstC f):FstC (f+1):=by
 intro w B sA0 sn0 sc0 Z0 m1 m2 Lk0 Bk0 l hB hl hbd hlb hs hn hm hd hLk hsn
 obtain ⟨i0,hi0,hz0,hz1,hz2⟩:=info_parts infoFRest
 obtain ⟨i9,hi9,ha0,ha1,ha2⟩:=info_parts infoArc
 obtain ⟨A,n,c,V⟩:=l
 have hle:=fleast_any w ⟨A,n,c,V⟩ hl hn (Nat.le_trans hm (by unfold maxLen;omega))
 simp only [FL.val,FL.p] at hle ⊢
 simp only [FL.p] at hlb hs hd hLk hsn
 simp only at hn hm
 have hlen:=hl.len
 simp only at hlen
 have hne:V.map RV.p≠[]:=by
  intro e
  rw [List.map_eq_nil_iff] at e
  rw [e] at hlen
  simp at hlen
  omega
 have hlo:=out_bd hbd hne
 have hsp:=split_sorted hs
 obtain ⟨R,hR⟩:∃ R,V.map RV.p=R:=⟨_,rfl⟩
 rw [hR] at hle hlb hs hd hLk hsn hne hlo hsp ⊢
 obtain ⟨lo,hlow⟩:∃ lo,leastR R=lo:=⟨_,rfl⟩
 rw [hlow] at hle hlo
 have HB:=hide hB
 have HL:=hide hl
 have HBD:=hide hbd
 have HLB:=hide hlb
 have HS:=hide hs
 have HD:=hide hd
 have HLK:=hide hLk
 have HSN:=hide hsn
 have HSP:=hide hsp
 have HR:=hide hR
 have HLO:=hide hlow
 have HLE:=hide hle
 have HIH:=hide ih
 have HLEN:=hide hlen
 have HNE:=hide hne
 have HRB:Hid (∀ r∈R,0≤r.2∧r.2≤1048576):=hide (by
  intro r hr
  rw [← hR] at hr
  obtain ⟨v,hv,rfl⟩:=List.mem_map.1 hr
  exact hbd v hv)
 have hnI:(n:Int)≤4096:=by omega
 have hn0:(0:Int)<(n:Int):=by omega
 have HM:=hide hm
 have HN:=hide hn
 clear hB hl hbd hlb hs hd hLk hsn hne hsp hR hlow hle ih hlen hm hn
 go_enter Tryz.func83,Tryz.ntmps83
 go_wp2_with fail
 refine HLE.out.mono ?_
 rintro e w1 ⟨rfl,T1⟩
 obtain ⟨w2,hw2⟩:∃ y,y=w1.alloc (.cells #[.bool false,.int .i64 0,.slice none 0 0] 170):=⟨_,rfl⟩
 have hT12:Touch (fun _=>False) w1 w2:=by rw [hw2];exact (Touch.refl _ _).alloc _
 have hT2:=T1.then hT12
 have hbC:Blk w2 w1.heap.size 170 #[.bool false,.int .i64 0,.slice none 0 0]:=by rw [hw2];exact Blk.new _ _ _
 have hl2:=HL.out.quiet hT2
 have h1s:=T1.size
 obtain ⟨c0,c1,c2⟩:=hbC.facts
 have HT2:=hide hT2
 have HBC:=hide hbC
 have HL2:=hide hl2
 have HW2:=hide hw2
 have HX:Hid (∃ x V',V=x :: V'):=hide (by
  cases V with
  | nil=>have h1:=HLEN.out;have h2:=HN.out;simp at h1;omega
  | cons x V'=>exact ⟨x,V',rfl⟩)
 obtain ⟨x,V',hV⟩:=HX.out
 subst hV
 obtain ⟨g,o,hA,hg,x0,x1⟩:=rest_head hl2.rd HN.out
 simp only at hA
 subst hA
 have hxok:=HL2.out.el x List.mem_cons_self
 have hxl:=hxok.len
 have hgC:¬ g=w1.heap.size:=fun e=>(HL2.out.rd.ty HN.out g rfl).ne (blk_ty HBC.out) (by decide) e
 have hgC2:¬ w1.heap.size=g:=fun e=>hgC e.symm
 have x0':=x0
 have x1':=x1
 rw [hw2] at x0' x1'
 obtain ⟨⟨xA,xq,xc,xO,xw⟩,hx⟩:∃ y,y=x:=⟨_,rfl⟩
 subst hx
 simp only at x0 x1 x0' x1' hxl
 clear T1 hT12 hT2 hbC hl2 hw2 hg hxok HX
 go_upto_if 16 with fail
 rw [← HW2.out]
 clear x0' x1'
 go_cut [1] from 9 to 26 (fun lv wx=>∃ (fin:Bool) (out:Int) (M:FL),lv=M.val∧Hid (M.Ok wx)∧Hid (M.p=(firstsR R).flatMap (behR R))∧Hid (finR R=fin)∧Hid (fstOut R=out)∧M.n≤4096∧Hid (∀ r∈M.V,0≤r.wt∧r.wt≤1048576)∧Hid (Touch (fun g=>g=w1.heap.size) w2 wx)∧Hid (Blk wx w1.heap.size 170 #[.bool fin,.int .i64 out,.slice none 0 0]))
 case first =>
  by_cases hfin:finR R=true
  ·have h1:=HSP.out
   rw [if_pos hfin] at h1
   have h1:=HR.out.trans h1
   simp only [List.map_cons,RV.p,List.singleton_append,List.cons.injEq,Prod.mk.injEq] at h1
   obtain ⟨⟨rfl,hout⟩,hrest⟩:=h1
   simp only [List.length_nil] at hxl
   subst hxl
   obtain ⟨m,rfl⟩:∃ m,n=m+1:=⟨n-1,by have:=HN.out;omega⟩
   have hwb:=HBD.out _ List.mem_cons_self
   simp only at hwb
   have z1:IntKind.i64.wrap (xw-lo)=xw-lo:=IntWalk.i64_in _ (by omega)
   have hcle:=HL2.out.le
   simp only at hcle
   have z2:(1:Int)≤(m:Int)+1:=by omega
   have z3:(m:Int)+1≤(c:Int):=by omega
   have z4:(1:Int)≤(c:Int):=by omega
   have HFIN:=hide hfin
   have HREST:=hide hrest
   have HOUT:Hid (fstOut R=xw-lo):=hide (by unfold fstOut;rw [if_pos hfin,HLO.out,hout])
   clear hfin hrest hout hwb hcle
   go_wp2_with fail
   go_region
   all_goals go_wp2_with fail
   all_goals go_meet
   all_goals
    have ht:=HL2.out.tl (Nat.succ_pos m)
    have hbC:=(HBC.out.set_ 0 (.bool true)).set_ 1 (.int .i64 (xw-lo))
    have hTC:Touch (fun g=>g=w1.heap.size) w2 (((w2.setCell ⟨w1.heap.size,0,none⟩ (.bool true)).setCell ⟨w1.heap.size,1,none⟩ (.int .i64 (xw-lo))).drew):=(((Touch.refl (fun g=>g=w1.heap.size) w2).setCell (p:=⟨w1.heap.size,0,none⟩) (fun _=>rfl) _).setCell (p:=⟨w1.heap.size,1,none⟩) (fun _=>rfl) _).drew
    refine ⟨true,xw-lo,_,?_,hide (ht.touch hTC (fun g hg e=>hg.ne (blk_ty HBC.out) (by decide) e) (fun g hg e=>hg.ne (blk_ty HBC.out) (by decide) e)),hide HREST.out,HFIN,HOUT,?_,hide (fun r hr=>HBD.out r (List.mem_cons_of_mem _ hr)),hide hTC,hide (Blk.drew (by simpa using hbC))⟩
    ·simp [FL.tl,FL.val,Addr.add_lit, *]
    ·have:=HM.out
     show m+1-1≤4096
     omega
  ·have h1:=HSP.out
   rw [if_neg hfin,List.nil_append] at h1
   obtain ⟨d,t,hdt,_⟩:=beh_head (by rw [← h1,← HR.out,List.map_cons])
   simp only [RV.p] at hdt
   subst hdt
   obtain ⟨q,rfl⟩:∃ q,xq=q+1:=⟨t.length,by simpa using hxl.symm⟩
   have z1:((q:Int)+1 == 0)=false:=by simp;omega
   have z2:¬ ((q:Int)+1=0):=by omega
   have HFIN:=hide hfin
   have H1:=hide h1
   clear hfin h1 hxl
   go_wp2_with fail
   go_meet
   exact ⟨false,0,⟨some ⟨g,o,none⟩,n,c,_⟩,rfl,HL2,hide (HR.out.trans H1.out),hide (by simpa using HFIN.out),hide (by unfold fstOut;rw [if_neg HFIN.out]),HM.out,hide HBD.out,hide (Touch.refl _ _),HBC⟩
 case rest =>
  obtain ⟨fin,out,⟨lA,lm,lc,lV⟩,rfl,HMOK,HMP,HF,HO,hlm,HBD2,HTC,HC⟩:=hcut
  obtain ⟨C,hC⟩:∃ C,C=w1.heap.size:=⟨_,rfl⟩
  rw [← hC] at HTC HC h1s ⊢
  have hT0:Touch (fun _=>False) w wc:=HT2.out.trans HTC.out (fun i hi e=>by omega)
  have h3m:L3M w wc B C m1 m2 (.slice sA0 sn0 sc0) Z0 sA0 sn0 sc0 Z0 Lk0 Bk0 fin out none 0 0 []:=by
   refine ⟨HB.out.quiet hT0,HC.out,World.ownsRow_nil _ _ _ _,rfl,fun a ha=>(by cases ha),fun g hg=>(by cases hg),hT0.up _,.inl rfl,fun e=>?_,fun z hz=>.inl hz,fun z _ _ g _ e=>(by cases e),h1s⟩
   have:=(own_ty HB.out.own e).lt
   omega
  have h3p:L3P R f (Z0.map SV.p) Lk0.length sn0 (Z0.map SV.p) Lk0.length sn0 [] 0:=⟨rfl,Nat.le_add_right _ _,Nat.le_add_right _ _,Nat.zero_le _⟩
  have H3M:=hide h3m
  have H3P:=hide h3p
  clear hT0 h3m h3p hC x0 x1 c0 c1 c2 hgC hgC2 HBC HL2 HW2 HTC HC hxl HLE HLEN HL HBD HR HT2
  go_wp2_with fail
  go_loopw [1] (fun lv wr=>∃ (M:FL) (j:Nat) (sA:Option Addr) (sn sc:Nat) (Z:List SV) (Lk:List Value) (Bk:List Nat) (aA:Option Addr) (ac:Nat) (arcs:List (Nat × Int × Nat)),lv=M.val∧M.n≤4096∧Hid (M.Ok wr)∧Hid (M.p=((firstsR R).drop j).flatMap (behR R))∧Hid (∀ r∈M.V,0≤r.wt∧r.wt≤1048576)∧Hid (L3M w wr B C m1 m2 (.slice sA0 sn0 sc0) Z0 sA sn sc Z Lk Bk fin out aA j ac arcs)∧Hid (L3P R f (Z0.map SV.p) Lk0.length sn0 (Z.map SV.p) Lk.length sn arcs j)) (fun lv _=>sliceLen lv)
  case atStart=>exact ⟨⟨lA,lm,lc,lV⟩,0,sA0,sn0,sc0,Z0,Lk0,Bk0,none,0,[],rfl,hlm,HMOK,HMP,HBD2,H3M,H3P⟩
  case round =>
   clear H3M H3P HMOK HMP HBD2 hlm
   obtain ⟨⟨lA,lm,lc,lV⟩,j,sA,sn,sc,Z,Lk,Bk,aA,ac,arcs,rfl,hlm,HMOK,HMP,HBD,H3M,H3P⟩:=hrel
   simp only [FL.val] at hlm ⊢
   have hlV:lV.length=lm:=HMOK.out.len
   obtain ⟨b0,b1,b2⟩:=H3M.out.b2.facts
   by_cases h0:lm=0
   ·subst h0
    have hV0:lV=[]:=List.eq_nil_of_length_eq_zero hlV
    have hdr:(firstsR R).drop j=[]:=by
     have h1:=HMP.out
     simp only [FL.p,hV0,List.map_nil] at h1
     cases hd:(firstsR R).drop j with
     | nil=>rfl
     | cons d ds =>
      rw [hd,List.flatMap_cons] at h1
      have h2:underR R d≠[]:=mem_firsts.1 (List.mem_of_mem_drop (by rw [hd];exact List.mem_cons_self))
      have h3:=congrArg List.length h1
      rw [List.length_append,behR_len] at h3
      have h4:=List.length_pos_iff.2 h2
      simp at h3
      omega
    have hjl:(firstsR R).length≤j:=List.drop_eq_nil_iff.1 hdr
    have htk:(firstsR R).take j=firstsR R:=List.take_of_length_le hjl
    have hpl:=H3P.out.pl
    have hlb:=H3P.out.lb
    have hsb:=H3P.out.sb
    rw [htk] at hpl hlb hsb
    have htu:=tupR_le HS.out (firstsR R).length
    rw [List.take_length] at htu
    have hfew:=firsts_few R HS.out (firstsR R).length
    rw [List.take_length] at hfew
    have hob:=H3M.out.own
    have hos:=own_slice hob
    have hsok:(⟨fin,out,aA,j,ac,arcs⟩:SV).Ok wr:=⟨H3M.out.al,RdT.of_own hob,hos.1,hos.2⟩
    have hjf:=H3P.out.le
    have hlk:=HLK.out
    have hsnb:=HSN.out
    have hout:0≤out∧out≤1048576:=by rw [← HO.out];exact fstOut_bd HRB.out HS.out HNE.out
    have hadd:=fadd_any wr B sA sn sc Z m1 m2 Lk Bk H3M.out.bld ⟨fin,out,aA,j,ac,arcs⟩ hsok H3M.out.ab hout (by simp only;omega) (by omega)
    simp only [SV.p] at hadd
    have HADD:=hide hadd
    have HPL:=hide hpl
    have hb1:Lk.length+j≤Lk0.length+2*totR R:=by omega
    have hb2:sn≤sn0+totR R:=by omega
    have HBB:=hide (And.intro hb1 hb2)
    clear hlV hV0 hdr hjl htk hpl hlb hsb htu hfew hob hos hsok hjf hlk hsnb hout hadd hb1 hb2
    go_wp2_with fail
    refine HADD.out.mono ?_
    rintro e w8 ⟨i,sA',sn',sc',Z',Lk',Bk',rfl,hbld,hadd,hz,hlk',hfr,hT⟩
    have HADD2:=hide hadd
    have HBLD:=hide hbld
    have HZ:=hide hz
    have HLK2:=hide hlk'
    have HFR:=hide hfr
    have HTT:=hide hT
    clear hadd hbld hz hlk' hfr hT HADD
    go_wp2_with fail
    go_ret
    have hpl:=HPL.out
    have hlt:=addS_lt (Z.map SV.p) ⟨fin,out,arcs⟩
    rw [← HADD2.out] at hlt
    simp only [List.length_map,HBLD.out.len,H3M.out.bld.len] at hlt
    have hws:w.heap.size≤wr.heap.size:=H3M.out.touch.size
    refine ⟨i,sA',sn',sc',Z',Lk',Bk',rfl,HBLD.out,?_,?_,?_,hlt.1,H3M.out.fr.up HFR.out hws,?_,sb_trans H3M.out.touch H3M.out.fr HTT.out⟩
    ·rw [HADD2.out]
     simp only [fstF]
     rw [← hpl,HF.out,HO.out]
    ·have h1:=HLK2.out
     have h2:=HBB.out.1
     omega
    ·have h2:=HBB.out.2
     omega
    ·intro z hzz
     rcases HZ.out z hzz with h1 | rfl
     ·exact H3M.out.zs z h1
     ·refine .inr fun hn g hg=>H3M.out.af g ?_
      exact own_block_of H3M.out.own hn hg
   ·obtain ⟨q,rfl⟩:∃ q,lm=q+1:=⟨lm-1,by omega⟩
    cases lV with
    | nil=>simp at hlV
    | cons y lV =>
    obtain ⟨cc,hcc⟩:∃ cc,(firstsR R).drop j=cc :: (firstsR R).drop (j+1):=by
     have h1:=HMP.out
     cases hd:(firstsR R).drop j with
     | nil =>
      simp only [FL.p,hd,List.flatMap_nil,List.map_cons] at h1
      cases h1
     | cons d ds =>
      refine ⟨d,?_⟩
      have h2:(firstsR R).drop (j+1)=ds:=by
       rw [← List.drop_drop,hd]
       rfl
      rw [h2]
    have hmp:=HMP.out
    rw [hcc,List.flatMap_cons] at hmp
    have hcm:cc∈firstsR R:=List.mem_of_mem_drop (by rw [hcc];exact List.mem_cons_self)
    have hune:underR R cc≠[]:=mem_firsts.1 hcm
    have hul:0<(underR R cc).length:=List.length_pos_iff.2 hune
    obtain ⟨T,hT⟩:∃ T,T=((firstsR R).drop (j+1)).flatMap (behR R):=⟨_,rfl⟩
    rw [← hT] at hmp
    have hgt:∀ d∈(firstsR R).drop (j+1),cc<d:=by
     intro d hd
     have h1:=firsts_sorted HS.out
     have h2:=h1.sublist (List.drop_sublist j _)
     rw [hcc,List.pairwise_cons] at h2
     exact h2.1 d hd
    have hyp:∃ t,y.O=cc :: t:=by
     have h1:=beh_drop R cc 0 hul
     rw [List.drop_zero] at h1
     have h2:y.p :: lV.map RV.p=behR R cc++T:=hmp
     rw [h1,List.cons_append] at h2
     injection h2 with e1 _
     exact ⟨_,congrArg Prod.fst e1⟩
    obtain ⟨yt,hyt⟩:=hyp
    obtain ⟨g,o,hA,hg,y0,y1⟩:=rest_head HMOK.out.rd (Nat.succ_pos q)
    simp only at hA
    subst hA
    have hyok:=HMOK.out.el y List.mem_cons_self
    have hyl:=hyok.len
    have hyr:=hyok.rd.rd
    rw [hyt] at hyl hyr
    obtain ⟨yq,hyq⟩:∃ yq,y.q=yq+1:=⟨yt.length,by simpa using hyl.symm⟩
    rw [hyq] at y0 hyr
    obtain ⟨b,off,hyA,_,d0⟩:=rune_first hyr
    rw [hyA] at y0
    have n0:(0:Int)<(q:Int)+1:=by omega
    have n1:(0:Int)<(yq:Int)+1:=by omega
    have HT:=hide hT
    have HMP2:=hide hmp
    have HCC:=hide hcc
    have HCM:=hide hcm
    have HUL:=hide hul
    have HGT:=hide hgt
    have HQ:=hide hlm
    clear hlV h0 hcc hmp hcm hune hul hT hgt hyt hg hyok hyl hyr hyq hyA hlm
    go_upto_block 2 with fail
    go_cut [1,8] from 36 to 63 (fun lv uv wx=>∃ (M':FL) (uA:Option Addr) (uq uc:Nat) (U:List RV),lv=M'.val∧uv=.slice uA uq uc∧M'.n≤q∧uq≤4096∧Hid (M'.Ok wr)∧Hid (M'.p=T)∧Hid (∀ r∈M'.V,0≤r.wt∧r.wt≤1048576)∧Hid (ONx 158 2 wr wx (.slice uA uq uc) uq (rCells U))∧Hid (U.length=uq∧U.map RV.p=underR R cc∧∀ r∈U,r.Ok wr∧0≤r.wt∧r.wt≤1048576))
    case first =>
     go_wp2_with fail
     obtain ⟨wo,hwo⟩:∃ y,y=wr:=⟨_,rfl⟩
     subst hwo
     go_loopw [1,8] (fun lv uv wi=>∃ (M':FL) (k:Nat) (uA:Option Addr) (uc:Nat) (U:List RV),lv=M'.val∧uv=.slice uA k uc∧M'.n+k=q+1∧k≤(underR R cc).length∧Hid (M'.Ok wo)∧Hid (M'.p=(behR R cc).drop k++T)∧Hid (∀ r∈M'.V,0≤r.wt∧r.wt≤1048576)∧Hid (ONx 158 2 wo wi (.slice uA k uc) k (rCells U))∧Hid (U.length=k∧U.map RV.p=(underR R cc).take k∧∀ r∈U,r.Ok wo∧0≤r.wt∧r.wt≤1048576)) (fun lv _ _=>sliceLen lv)
     case atStart=>exact ⟨_,0,none,0,[],rfl,rfl,rfl,Nat.zero_le _,HMOK,hide (by rw [List.drop_zero];exact HMP2.out),HBD,hide (ONx.nil _ _ _),hide ⟨rfl,rfl,fun r hr=>(by cases hr)⟩⟩
     case round =>
      clear y0 y1 d0 b0 b1 b2
      obtain ⟨⟨lA,lm,lc,lV⟩,k,uA,uc,U,rfl,rfl,hmk,hku,HMO,HMT,HMB,HUO,HUU⟩:=hrel
      simp only [FL.val] at hmk ⊢
      have hlV:lV.length=lm:=HMO.out.len
      have hlu:=HUL.out
      by_cases h0:lm=0
      ·subst h0
       have hV0:lV=[]:=List.eq_nil_of_length_eq_zero hlV
       subst hV0
       have hmt:[]=(behR R cc).drop k++T:=HMT.out
       obtain ⟨e1,e2⟩:=List.append_eq_nil_iff.1 hmt.symm
       have hk:(underR R cc).length≤k:=by
        have:=List.drop_eq_nil_iff.1 e1
        rwa [behR_len] at this
       have HK:=hide hk
       have HE2:=hide e2
       clear hmt e1 e2 hk hlV
       go_wp2_with fail
       go_meet
       exact ⟨⟨lA,0,lc,[]⟩,uA,k,uc,U,rfl,rfl,Nat.zero_le _,(by have:=HQ.out;omega),HMO,hide HE2.out.symm,HMB,HUO,hide ⟨HUU.out.1,by rw [HUU.out.2.1,List.take_of_length_le HK.out],HUU.out.2.2⟩⟩
      ·obtain ⟨m,rfl⟩:∃ m,lm=m+1:=⟨lm-1,by omega⟩
       cases lV with
       | nil=>simp at hlV
       | cons z lV =>
       have hz:=HMO.out.el z List.mem_cons_self
       have hzb:=HMB.out z List.mem_cons_self
       obtain ⟨g,o,hA,hg,y0,y1⟩:=rest_head (HMO.out.quiet HUO.out.touch).rd (Nat.succ_pos m)
       simp only at hA
       subst hA
       have hzl:=hz.len
       have hzr:=(hz.touch HUO.out.touch (fun _ _ f=>f)).rd.rd
       have hzle:=hz.le
       have hmle:=HMO.out.le
       simp only at hmle
       by_cases hk:k<(underR R cc).length
       ·have hmt:z.p :: lV.map RV.p=(behR R cc).drop k++T:=HMT.out
        rw [beh_drop R cc k hk,List.cons_append] at hmt
        injection hmt with e1 e2
        have hzO:z.O=cc :: ((underR R cc)[k]).1:=congrArg Prod.fst e1
        have hzw:z.wt=((underR R cc)[k]).2:=congrArg Prod.snd e1
        obtain ⟨t,ht⟩:∃ t,t=((underR R cc)[k]).1:=⟨_,rfl⟩
        rw [← ht] at hzO
        obtain ⟨zA,zq,zc,zO,zw⟩:=z
        simp only at hzO hzw hzl hzr hzle hzb y0 y1
        subst hzO
        obtain ⟨zp,rfl⟩:∃ zp,zq=zp+1:=⟨t.length,by simpa using hzl.symm⟩
        obtain ⟨b,off,hyA,_,d0⟩:=rune_first hzr
        subst hyA
        have hsn:(underR R cc).take (k+1)=(underR R cc).take k++[(t,zw)]:=by
         rw [List.take_succ_eq_append_getElem hk,ht,hzw]
        have n0:(0:Int)<(m:Int)+1:=by omega
        have n1:(0:Int)<(zp:Int)+1:=by omega
        have n2:(1:Int)≤(zp:Int)+1:=by omega
        have n3:(zp:Int)+1≤(zc:Int):=by omega
        have n4:(1:Int)≤(zc:Int):=by omega
        have n5:(1:Int)≤(m:Int)+1:=by omega
        have n6:(m:Int)+1≤(lc:Int):=by omega
        have n7:(1:Int)≤(lc:Int):=by omega
        have hkm:k≤4096:=by have:=HQ.out;omega
        have hkI:(k:Int)≤4096:=by omega
        have HZ:=hide hz
        have HSN2:=hide hsn
        have HE2:=hide e2
        have HZB:=hide hzb
        have HKK:=hide hk
        have HKM:=hide hkm
        clear hz e1 e2 hzw ht hzl hzr hzle hmle hsn hzb hlV h0 hg hlu hku hkm
        go_wp2_with fail
        go_region_law (refine step_append_lies _ rfl (.tmp 49) (.tmp 60) 153 rfl 0 158 i0 _ 2 32 Tryz.underlying153 hi0 hz0 hz1 hz2 (by decide) (by decide) (.slice uA k uc) k _ (by simp [Act.eval]) (own_touch HUO.out.own ((Touch.refl _ _).alloc _).drew (fun _ _ f=>f)) ⟨wr.heap.size,0,none⟩ 1 1 [.slice (if zc=1 then some ⟨b,off,none⟩ else some ⟨b,off+1,none⟩) zp (zc-1),.int .i64 zw] (by simp [Act.eval]) rfl ?news ?one (by decide) ?b1 ?b2 (Nat.zero_le _) _ rfl ?_;(case news=>exact World.news_of_block (Blk.new wr _ _));(case one=>exact onecell_rest _ _ _ _);(case b1=>have:=HKM.out;unfold maxLen;omega);(case b2=>have:=HKM.out;omega);intro g4 cap4 w4 hown hgrow hlies _;have N4:=(HUO.out.to ((Touch.refl _ _).alloc _).drew).app2 hown hgrow hlies;have HN4:=hide N4;clear N4 hown hgrow hlies)
        all_goals go_wp2_with fail
        all_goals go_roundw
        all_goals first
         | (show sliceLen _<sliceLen _;simp only [sliceLen];omega)
         | (have hcut:(⟨if zc=1 then some ⟨b,off,none⟩ else some ⟨b,off+1,none⟩,zp,zc-1,t,zw⟩:RV).Ok wo:=by
             have:=HZ.out.cut (d:=cc) (t:=t) rfl
             simpa [RV.cut,Addr.add_lit] using this
            have hml:=HMO.out.tl (Nat.succ_pos m)
            refine ⟨_,k+1,some ⟨g4,0,none⟩,cap4,U++[⟨if zc=1 then some ⟨b,off,none⟩ else some ⟨b,off+1,none⟩,zp,zc-1,t,zw⟩],?_,rfl,?_,HKK.out,hide hml,hide HE2.out,hide (fun r hr=>HMB.out r (List.mem_cons_of_mem _ hr)),hide ?_,hide ⟨?_,?_,?_⟩⟩
            ·simp [FL.tl,Addr.add_lit, *]
            ·simp only [FL.tl];omega
            ·rw [rCells_app]
             exact HN4.out
            ·rw [List.length_append,HUU.out.1];rfl
            ·rw [List.map_append,HUU.out.2.1,HSN2.out];rfl
            ·intro r hr
             rcases List.mem_append.1 hr with h | h
             ·exact HUU.out.2.2 r h
             ·rw [List.mem_singleton.1 h]
              exact ⟨hcut,HZB.out⟩)
       ·have hmt:z.p :: lV.map RV.p=(behR R cc).drop k++T:=HMT.out
        have hdn:(behR R cc).drop k=[]:=List.drop_eq_nil_iff.2 (by rw [behR_len];omega)
        rw [hdn,List.nil_append] at hmt
        obtain ⟨d,t,hdt,hdm⟩:=beh_head (by rw [← HT.out,← hmt])
        have hdg:=HGT.out d hdm
        obtain ⟨zA,zq,zc,zO,zw⟩:=z
        simp only [RV.p] at hdt
        simp only at hzl hzr hzle hzb y0 y1
        subst hdt
        obtain ⟨zp,rfl⟩:∃ zp,zq=zp+1:=⟨t.length,by simpa using hzl.symm⟩
        obtain ⟨b,off,hyA,_,d0⟩:=rune_first hzr
        subst hyA
        have n0:(0:Int)<(m:Int)+1:=by omega
        have n1:(0:Int)<(zp:Int)+1:=by omega
        have n2:((d:Int) == (cc:Int))=false:=by simp;omega
        have n3:¬ (d:Int)=(cc:Int):=by omega
        have n4:decide ((d:Int)=(cc:Int))=false:=by simp;omega
        have hkk:k=(underR R cc).length:=by omega
        have hmm:m+1≤q:=by omega
        have hkm:k≤4096:=by have:=HQ.out;omega
        have HK:=hide (And.intro hkk (And.intro hmm hkm))
        have HMT2:=hide hmt
        clear hz hmt hdn hdm hdg hzl hzr hzle hzb hmle hlV h0 hg hlu hku hk hkk hmm hkm
        go_wp2_with fail
        go_meet
        exact ⟨_,uA,k,uc,U,rfl,rfl,HK.out.2.1,HK.out.2.2,HMO,hide HMT2.out,HMB,HUO,hide ⟨HUU.out.1,by rw [HUU.out.2.1,HK.out.1,List.take_length],HUU.out.2.2⟩⟩
    case rest =>
     obtain ⟨M',uA,uq,uc,U,rfl,rfl,hmq,huq,HMO,HMT,HMB,HUO,HUU⟩:=hcut
     have hup:=HUU.out.2.1
     have hul:=HUU.out.1
     have hos:=own_slice HUO.out.own
     have huok:(⟨uA,uq,uc,U⟩:FL).Ok wc:=⟨hul,RdT.of_own HUO.out.own,fun r hr=>(HUU.out.2.2 r hr).1.touch HUO.out.touch (fun _ _ f=>f),hos.1⟩
     have hkc:KC w B C m1 m2 (.slice sA0 sn0 sc0) Z0 fin out aA j ac arcs ⟨uA,uq,uc,U⟩ M' sA sn sc Z Lk Bk wc.drew:=⟨(H3M.out.quiet HUO.out.touch).quiet (Touch.refl _ _).drew,huok.quiet (Touch.refl _ _).drew,(HMO.out.quiet HUO.out.touch).quiet (Touch.refl _ _).drew⟩
     have huq0:0<uq:=by
      have h1:=HUL.out
      rw [← hup,List.length_map,hul] at h1
      exact h1
     have hbd:(⟨uA,uq,uc,U⟩:FL).Bd:=fun r hr=>(HUU.out.2.2 r hr).2
     have hlb:∀ r∈(⟨uA,uq,uc,U⟩:FL).p,∀ d∈r.1,d<1114112:=by
      intro r hr d hd
      have hr:r∈U.map RV.p:=hr
      rw [hup] at hr
      obtain ⟨t,n⟩:=r
      exact HLB.out _ (mem_under.1 hr) d (List.mem_cons_of_mem _ hd)
     have hup2:(⟨uA,uq,uc,U⟩:FL).p=underR R cc:=hup
     have hus:SortR (underR R cc):=sort_under cc HS.out
     have hud:depR (underR R cc)<f:=by
      have h1:=depR_under (mem_firsts.1 HCM.out)
      have h2:=HD.out
      omega
     have hcj:(firstsR R)[j]? = some cc:=by
      have h1:((firstsR R).drop j)[0]? = some cc:=by rw [HCC.out];rfl
      rwa [List.getElem?_drop,Nat.add_zero] at h1
     have hct:(firstsR R).take (j+1)=(firstsR R).take j++[cc]:=by
      obtain ⟨hj,e⟩:=List.getElem?_eq_some_iff.1 hcj
      rw [List.take_succ_eq_append_getElem hj,e]
     have htu:=tupR_le HS.out (j+1)
     rw [hct,tupR_snoc] at htu
     have hlk1:Lk.length+2*totR (underR R cc)≤800000:=by
      have h1:=H3P.out.lb
      have h2:=HLK.out
      omega
     have hsn1:sn+totR (underR R cc)≤800000:=by
      have h1:=H3P.out.sb
      have h2:=HSN.out
      omega
     have hclt:cc<1114112:=by
      obtain ⟨r,hr⟩:=List.exists_mem_of_ne_nil _ (mem_firsts.1 HCM.out)
      obtain ⟨t,n⟩:=r
      exact HLB.out _ (mem_under.1 hr) cc List.mem_cons_self
     obtain ⟨lu,hlu⟩:∃ lu,lu=leastR (underR R cc):=⟨_,rfl⟩
     have hlub:lo≤lu∧lu≤1048576:=by
      obtain ⟨r,hr,e⟩:=leastR_mem (mem_firsts.1 HCM.out)
      obtain ⟨t,n⟩:=r
      have h1:=leastR_le (mem_under.1 hr)
      have h2:=HRB.out _ (mem_under.1 hr)
      rw [HLO.out] at h1
      simp only at e h1 h2
      omega
     have z1:IntKind.i64.wrap (lu-lo)=lu-lo:=IntWalk.i64_in _ (by omega)
     have hleast:∀ (sA:Option Addr) (sn sc:Nat) (Z:List SV) (Lk:List Value) (Bk:List Nat) (wx:World),Hid (KC w B C m1 m2 (.slice sA0 sn0 sc0) Z0 fin out aA j ac arcs ⟨uA,uq,uc,U⟩ M' sA sn sc Z Lk Bk wx)→Calls Tryz.prog 84 #[.slice uA uq uc] wx fun e w'=>e=.returned (.int .i64 lu)∧Hid (KC w B C m1 m2 (.slice sA0 sn0 sc0) Z0 fin out aA j ac arcs ⟨uA,uq,uc,U⟩ M' sA sn sc Z Lk Bk w'):=by
      intro sA sn sc Z Lk Bk wx h
      have:=h.out.least huq0 huq
      rw [hup2,← hlu] at this
      exact this
     have hstate:∀ (wx:World),Hid (KC w B C m1 m2 (.slice sA0 sn0 sc0) Z0 fin out aA j ac arcs ⟨uA,uq,uc,U⟩ M' sA sn sc Z Lk Bk wx)→Calls Tryz.prog 83 #[.pointer (some ⟨B,0,none⟩),.slice uA uq uc] wx fun e w'=>∃ (i:Nat) (sA':Option Addr) (sn' sc':Nat) (Z':List SV) (Lk':List Value) (Bk':List Nat),e=.returned (.int .i64 i)∧Hid (KC w B C m1 m2 (.slice sA0 sn0 sc0) Z0 fin out aA j ac arcs ⟨uA,uq,uc,U⟩ M' sA' sn' sc' Z' Lk' Bk' w')∧Hid ((Z'.map SV.p,i)=fstF f (Z.map SV.p) (underR R cc)∧Lk'.length≤Lk.length+2*totR (underR R cc)+1∧sn'≤sn+totR (underR R cc)+1∧i<sn'):=by
      intro wx h
      have:=h.out.state HIH.out hbd hlb (by rw [hup2];exact hus) huq0 huq (by rw [hup2];exact hud) (by rw [hup2];exact hlk1) (by rw [hup2];exact hsn1)
      rw [hup2] at this
      exact this
     have hjb:j≤900000:=by
      have h1:=H3P.out.lb
      have h2:=HLK.out
      omega
     have HKC:=hide hkc
     have HLEAST:=hide hleast
     have HSTATE:=hide hstate
     have HCJ:=hide hcj
     have HCLT:=hide hclt
     have HLU:=hide hlu
     have HLUB:=hide hlub
     have HSN1:=hide hsn1
     have HJB:=hide hjb
     clear y0 y1 d0 b0 b1 b2
     obtain ⟨b0,b1,b2⟩:=hkc.l3.b2.facts
     clear hup hul hos huok hkc huq0 hbd hlb hup2 hus hud hcj hct htu hlk1 hsn1 hclt hlu hlub hleast hstate hjb
     go_wp2_with fail
     go_region_law (first
      | (go_simp;go_at_call 84;refine (HLEAST.out _ _ _ _ _ _ _ (by assumption)).mono ?_;rintro e wL ⟨rfl,HKL⟩;obtain ⟨e0,e1,e2⟩:=HKL.out.l3.b2.facts)
      | (go_simp;go_at_call 83;refine (HSTATE.out _ (by assumption)).mono ?_;rintro e wS ⟨i,sA',sn',sc',Z',Lk',Bk',rfl,HKS,HPS⟩;obtain ⟨f0,f1,f2⟩:=HKS.out.l3.b2.facts)
      | (refine step_append_lies _ rfl (.tmp 65) (.tmp 75) 168 rfl 0 173 i9 _ 3 24 Tryz.underlying168 hi9 ha0 ha1 ha2 (by decide) (by decide) (.slice aA j ac) j _ (by simp [Act.eval]) (own_touch (KC.own (Hid.out HKL)) ((Touch.refl _ _).alloc _) (fun _ _ f=>f)) ⟨wL.heap.size,0,none⟩ 1 1 [.int .i32 (cc:Int),.int .i64 (lu-lo),.int .i64 (i:Int)] (by simp [Act.eval]) rfl ?news ?one (by decide) ?b1 ?b2 (Nat.zero_le _) _ rfl ?_;(case news=>exact World.news_of_block (Blk.new wL _ _));(case one=>exact List.all_eq_true.1 rfl);(case b1=>have:=HJB.out;unfold maxLen;omega);(case b2=>have:=HJB.out;omega);intro g4 cap4 w9 hown hgrow hlies _;have hfin:=HKL.out.arc _ (a:=(cc,lu-lo,i)) ⟨HCLT.out,by have:=HLUB.out;simp only;omega,by have h1:=HPS.out.2.2;have h2:=HSN1.out;simp only;omega⟩ hown hgrow hlies;obtain ⟨q1,q2,q3⟩:=hfin.2.2.facts;have HFIN:=hide hfin;clear hfin hown hgrow hlies)
      | (refine step_append_lies _ rfl (.tmp 65) (.tmp 75) 168 rfl 0 173 i9 _ 3 24 Tryz.underlying168 hi9 ha0 ha1 ha2 (by decide) (by decide) (.slice aA j ac) j _ (by simp [Act.eval]) (own_touch (KC.own (Hid.out HKS)) ((Touch.refl _ _).alloc _) (fun _ _ f=>f)) ⟨wS.heap.size,0,none⟩ 1 1 [.int .i32 (cc:Int),.int .i64 (lu-lo),.int .i64 (i:Int)] (by simp [Act.eval]) rfl ?news ?one (by decide) ?b1 ?b2 (Nat.zero_le _) _ rfl ?_;(case news=>exact World.news_of_block (Blk.new wS _ _));(case one=>exact List.all_eq_true.1 rfl);(case b1=>have:=HJB.out;unfold maxLen;omega);(case b2=>have:=HJB.out;omega);intro g4 cap4 w9 hown hgrow hlies _;have hfin:=HKS.out.arc _ (a:=(cc,lu-lo,i)) ⟨HCLT.out,by have:=HLUB.out;simp only;omega,by have h1:=HPS.out.2.2;have h2:=HSN1.out;simp only;omega⟩ hown hgrow hlies;obtain ⟨q1,q2,q3⟩:=hfin.2.2.facts;have HFIN:=hide hfin;clear hfin hown hgrow hlies))
     all_goals go_wp2_with fail
     all_goals go_roundw
     all_goals first
      | (show sliceLen _<sliceLen _;simp only [FL.val,sliceLen];omega)
      | exact ⟨M',j+1,sA',sn',sc',Z',Lk',Bk',some ⟨g4,0,none⟩,cap4,arcs++[(cc,lu-lo,i)],rfl,(by have:=HQ.out;omega),hide HFIN.out.2.1,hide (HMT.out.trans HT.out),HMB,hide HFIN.out.1,hide (by
        have h:=H3P.out.step HCJ.out HPS.out.1 HPS.out.2.1 HPS.out.2.2.1
        rw [← HLU.out,HLO.out] at h
        exact h)⟩
theorem fst_any:∀ f,FstC f
 | 0=>fun _ _ _ _ _ _ _ _ _ _ _ _ _ _ _ _ _ _ h=>absurd h (Nat.not_lt_zero _)
 | f+1=>fst_step f (fst_any f)
end Go.Proofs.YthockgmbooefpaaGreatDoor
