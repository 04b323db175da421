/- What the law rests on, part 9. No condition but those that each theorem names. -/
import Derived.Test.YthockgmbooefpaaGreatDoorJ08
import Derived.Deep.AppendLies
import Derived.Deep.RegionLaw
import Derived.Test.YthockgmbooefpaaGreatDoorJ05
import Derived.Test.YthockgmbooefpaaGreatDoorJ07
import Derived.Deep.RegionHeld3
import Derived.Deep.DrawnRows
import Derived.BigRegion
import Derived.ChangeKeysEq
import Derived.Test.YthockgmbooefpaaGreatDoorJ01
set_option linter.unusedSectionVars false
set_option linter.unusedSimpArgs false
set_option linter.unusedVariables false
namespace Go.Proofs.YthockgmbooefpaaGreatDoor
open Go.RowKit
theorem infoArc:(Tryz.prog.info? 173).map (fun i=>(i.zero,i.size,i.bytes))=some (some (.agg #[.int .i32 0,.int .i64 0,.int .i64 0]),3,24):=by kernel_rfl
theorem infoSt:(Tryz.prog.info? 170).map (fun i=>(i.zero,i.size,i.bytes))=some (some (.agg #[.bool false,.int .i64 0,.slice none 0 0]),3,40):=by kernel_rfl
theorem infoRs:(Tryz.prog.info? 225).map (fun i=>(i.zero,i.size,i.bytes))=some (some (.slice none 0 0),1,24):=by kernel_rfl
theorem arcsF_snoc (st:KnP→Rs→KnP × Nat) (R:Rs) (c:Nat):∀ (cs:List Nat) (k:KnP),arcsF st R k (cs++[c])=((st (arcsF st R k cs).1 (underR R c)).1,(arcsF st R k cs).2++[(c,leastR (underR R c),(st (arcsF st R k cs).1 (underR R c)).2)])
 | [],k=>rfl
 | d :: cs,k=>by
  have:=arcsF_snoc st R c cs (st k (underR R d)).1
  simp only [List.cons_append,arcsF]
  rw [this]
theorem stateF_new {f:Nat} {k kc:KnP} {l:Rs} {arcs:List (Nat × Int × Nat)} (h:idxR k.rests (levelR l)=none) (hp:arcsF (stateF f) (levelR l) k (firstsR (levelR l))=(kc,arcs)) :
  stateF (f+1) k l=(⟨kc.rests++[levelR l],kc.states++[⟨finR (levelR l),outR (levelR l),arcs⟩]⟩,kc.states.length):=by simp only [stateF,h,hp]
theorem end_plain {f:Nat} {k:KnP} {l:Rs} {kc:KnP} {arcs:List (Nat × Int × Nat)} (hg:Good k) (hs:SortR l) (hd:depR l<f+1) (hf:k.states.length+totR l≤1000000) (hp:arcsF (stateF f) (levelR l) k (firstsR (levelR l))=(kc,arcs)) :
  kc.rests.length=kc.states.length∧kc.states.length≤1000000:=by
 have hR:=sort_level hs
 have hdR:=depR_level l
 obtain ⟨h1,_,_,_⟩:=arcs_ok (stateF_ok f) hR (by omega) (firstsR (levelR l)) k hg (fun x hx=>mem_firsts.1 hx)
 have h2:=arcs_few (stateF_few f) hR (firstsR (levelR l)) k (fun x hx=>mem_firsts.1 hx)
 have h3:=totC_sum (levelR l) _ ((firsts_sorted hR).imp fun h=>Nat.ne_of_lt h)
 rw [hp] at h1 h2
 rw [totR_level] at h3
 simp only at h2
 exact ⟨h1.len,by omega⟩
theorem round_plain {f:Nat} {k:KnP} {l:Rs} {i c:Nat} {kc:KnP} {arcs:List (Nat × Int × Nat)} (hg:Good k) (hs:SortR l) (hd:depR l<f+1) (hc:c∈firstsR (levelR l)) (hsn:(firstsR (levelR l)).take (i+1)=(firstsR (levelR l)).take i++[c])
  (hf:k.states.length+totR l≤1000000) (hp:arcsF (stateF f) (levelR l) k ((firstsR (levelR l)).take i)=(kc,arcs)) :
  Good kc∧SortR (underR (levelR l) c)∧underR (levelR l) c≠[]∧depR (underR (levelR l) c)<f∧kc.states.length+totR (underR (levelR l) c)≤1000000:=by
 have hR:=sort_level hs
 have hdR:=depR_level l
 have hu:=mem_firsts.1 hc
 have hdu:=depR_under hu
 obtain ⟨h1,_,_,_⟩:=arcs_ok (stateF_ok f) hR (by omega) ((firstsR (levelR l)).take i) k hg (fun x hx=>mem_firsts.1 (List.mem_of_mem_take hx))
 have h2:=arcs_few (stateF_few f) hR ((firstsR (levelR l)).take i) k (fun x hx=>mem_firsts.1 (List.mem_of_mem_take hx))
 rw [hp] at h1 h2
 have hnd:((firstsR (levelR l)).take (i+1)).Nodup:=(List.take_sublist _ _).nodup ((firsts_sorted hR).imp fun h=>Nat.ne_of_lt h)
 have h3:=totC_sum (levelR l) _ hnd
 rw [hsn,List.map_append,List.sum_append,totR_level] at h3
 have h4:=totC_under (levelR l) c
 simp only [List.map_cons,List.map_nil,List.sum_cons,List.sum_nil] at h3
 refine ⟨h1,sort_under c hR,hu,by omega,?_⟩
 simp only at h2
 omega
def StateC (f:Nat):Prop:=∀ (w:World) (k:KV) (l:RL),k.Ok w→Good k.p→l.Ok w→l.Bd→SortR l.p→0<l.n→l.n≤4096→depR l.p<f→k.p.states.length+totR l.p≤1000000 →
 Calls Tryz.prog 127 #[k.val,l.val] w fun e w'=>∃ k':KV,e=.returned (.tuple #[k'.val,.int .i64 ((stateF f k.p l.p).2:Int)])∧k'.Ok w'∧k'.p=(stateF f k.p l.p).1∧Touch k.S w w'∧Fresh w k.r k'.r∧Fresh w k.s k'.s∧∀ z∈k'.Z,z∈k.Z∨(0<z.n→∀ g,adBlock z.A=some g→w.heap.size≤g)
set_option maxRecDepth 100000 in
set_option maxHeartbeats 2000000 in
theorem state_step (f:Nat) (ih:StateC f):StateC (f+1):=by
 intro w k l hk hg hl hb hs hn hm hd hf
 obtain ⟨i9,hi9,hz90,hz91,hz92⟩:=info_parts infoArc
 obtain ⟨i8,hi8,hz80,hz81,hz82⟩:=info_parts infoRs
 obtain ⟨i7,hi7,hz70,hz71,hz72⟩:=info_parts infoSt
 have HK:=hide hk
 have HG:=hide hg
 have HL:=hide hl
 have HB:=hide hb
 have HS:=hide hs
 have HD:=hide hd
 have HF:=hide hf
 have HI:=hide ih
 clear hk hg hl hb hs hd hf ih
 obtain ⟨rA,rn,rc,X,sA,sn,sc,Z⟩:=k
 obtain ⟨lA,ln,lc,lV⟩:=l
 simp only at hn hm
 obtain ⟨B,hB⟩:∃ B,B=w.heap.size:=⟨_,rfl⟩
 obtain ⟨w0,hw0⟩:∃ x,x=(w.alloc (.cells #[.slice rA rn rc,.slice sA sn sc] 229)).alloc (.cells #[.slice none 0 0,.slice none 0 0] 229):=⟨_,rfl⟩
 have hT0:Touch (fun _=>False) w w0:=by rw [hw0];exact ((Touch.refl _ _).alloc _).alloc _
 have hb0:Blk w0 B 229 #[.slice rA rn rc,.slice sA sn sc]:=by rw [hw0,hB];exact (Blk.new _ _ _).alloc _
 have hb1:Blk w0 (B+1) 229 #[.slice none 0 0,.slice none 0 0]:=by rw [hw0,hB];exact blk_new1 _ _ _ _
 have HW0:=hide hw0
 have HBB:=hide hB
 have HT0:=hide hT0
 have HB0:=hide hb0
 have HB1:=hide hb1
 have HLV:=hide (level_any w0 ⟨lA,ln,lc,lV⟩ (HL.out.quiet hT0) hn hm HB.out)
 clear hw0 hB hT0 hb0 hb1
 simp only [KV.val,KV.r,KV.s]
 simp only [RL.val] at HLV ⊢
 go_enter Tryz.func127,Tryz.ntmps127
 go_wp2_with fail
 rw [← HW0.out,← HBB.out]
 refine HLV.out.mono ?_
 rintro e w1 ⟨⟨mA,mn,mc,mV⟩,rfl,hm1,hm2,hm3,hm4,T1⟩
 simp only
 simp only at hm3
 subst hm3
 have c0:=HB0.out.touch T1 (fun f=>f)
 have c1:=HB1.out.touch T1 (fun f=>f)
 obtain ⟨x0,x1,x2⟩:=c0.facts
 have HT1:=hide (HT0.out.then T1)
 have HM:=hide hm1
 have HMP:=hide hm2
 have HMB:=hide hm4
 have HC0:=hide c0
 have HC1:=hide c1
 have hk1:=HK.out.quiet HT1.out
 have HK1:=hide hk1
 have hIN:=(in_any w1 rA rn rc X (Reads.of_own hk1.r) hk1.rl hk1.re ⟨mA,mn,mc,mV⟩ hm1 (own_le hk1.r))
 obtain ⟨z,hz⟩:∃ z:Int,inZ (idxR (X.map RL.p) (RL.p ⟨mA,mn,mc,mV⟩))=z:=⟨_,rfl⟩
 rw [hz] at hIN
 have HIN:=hide hIN
 have HZ:=hide hz
 clear hIN hz
 clear c0 c1 T1 hm1 hm2 hm4 hk1 HLV
 simp only [RL.val] at HIN
 go_wp2_with fail
 refine HIN.out.mono ?_
 rintro e w2 ⟨rfl,T2⟩
 cases hidx:idxR (X.map RL.p) (RL.p ⟨mA,mn,mc,mV⟩) with
 | some i =>
  have hzi:z=(i:Int):=by rw [← HZ.out,hidx];rfl
  subst hzi
  have i0:(0:Int)≤(i:Int):=by omega
  have c0:=HC0.out.touch T2 (fun f=>f)
  have c1:=HC1.out.touch T2 (fun f=>f)
  obtain ⟨x0,x1,x2⟩:=c0.facts
  obtain ⟨z0,z1,z2⟩:=c1.facts
  have HT2:=hide (HT1.out.then T2)
  have HIX:=hide hidx
  have HC2:=hide c1
  clear c0 c1 T2 hidx
  go_wp2_with fail
  have hbf:=(HC2.out.set_ 0 (.slice rA rn rc)).set_ 1 (.slice sA sn sc)
  have f0:=hbf.cell 0
  have f1:=hbf.cell 1
  simp at f0 f1
  have hsf:stateF (f+1) (KV.p ⟨rA,rn,rc,X,sA,sn,sc,Z⟩) (RL.p ⟨lA,mn,lc,lV⟩)=(KV.p ⟨rA,rn,rc,X,sA,sn,sc,Z⟩,i):=stateF_old (by
   rw [← HMP.out]
   exact HIX.out)
  have hTF:Touch (fun x=>x=B+1) w2 ((w2.setCell ⟨B+1,0,none⟩ (.slice rA rn rc)).setCell ⟨B+1,1,none⟩ (.slice sA sn sc)):=((Touch.refl (fun x=>x=B+1) w2).setCell (p:=⟨B+1,0,none⟩) (fun _=>rfl) _).setCell (p:=⟨B+1,1,none⟩) (fun _=>rfl) _
  have hkS:¬ KV.S ⟨rA,rn,rc,X,sA,sn,sc,Z⟩ (B+1):=fun h=>by have:=HK.out.lt h;have:=HBB.out;omega
  rw [hsf]
  refine bodyPost_ret (v:=.tuple #[.agg #[.slice rA rn rc,.slice sA sn sc],.int .i64 (i:Int)]) (by simp [results,Tryz.results127,go_sem,f0,f1]) rfl ⟨⟨rA,rn,rc,X,sA,sn,sc,Z⟩,rfl,(HK.out.quiet HT2.out).box HC2.out hTF hkS (by decide) (by decide) (by decide),rfl,?_,.inl rfl,.inl rfl,fun z hz=>.inl hz⟩
  exact (HT2.out.up _).trans hTF (fun g hg (e:g=B+1)=>absurd hg (by have:=HBB.out;omega))
 | none =>
  have hzi:z = -1:=by rw [← HZ.out,hidx];rfl
  subst hzi
  have HIX:=hide hidx
  obtain ⟨C,hC⟩:∃ C,C=w2.heap.size:=⟨_,rfl⟩
  obtain ⟨w3,hw3⟩:∃ x,x=w2.alloc (.cells #[.bool false,.int .i64 0,.slice none 0 0] 170):=⟨_,rfl⟩
  have hT3:Touch (fun _=>False) w2 w3:=by rw [hw3];exact (Touch.refl _ _).alloc _
  have hb3:Blk w3 C 170 #[.bool false,.int .i64 0,.slice none 0 0]:=by rw [hw3,hC];exact Blk.new _ _ _
  have HW3:=hide hw3
  have HCC:=hide hC
  have HT12:=hide (HT1.out.then T2)
  have HT3:=hide ((HT1.out.then T2).then hT3)
  have HB3:=hide hb3
  have HD0:=hide ((HC0.out.touch T2 (fun f=>f)).touch hT3 (fun f=>f))
  have HD1:=hide ((HC1.out.touch T2 (fun f=>f)).touch hT3 (fun f=>f))
  have HM3:=hide ((HM.out.quiet T2).quiet hT3)
  have HK3:=hide (HK.out.quiet ((HT1.out.then T2).then hT3))
  have HML:Hid (mV.length=mn):=hide HM.out.len
  clear hidx hC hw3 hT3 hb3 T2
  go_wp2_with fail
  rw [← HW3.out,← HCC.out]
  go_loopw [8] (fun iv wr=>∃ (i:Nat),iv=.int .i64 i∧i≤mn∧Hid (Blk wr C 170 #[.bool (finR ((mV.map RV.p).take i)),.int .i64 (outR ((mV.map RV.p).take i)),.slice none 0 0])∧Hid (Touch (fun x=>x=C) w3 wr)) (fun iv _=>mn-(intOf iv).toNat)
  case atStart=>exact ⟨0,rfl,Nat.zero_le _,HB3,hide (Touch.refl _ _)⟩
  case round =>
   obtain ⟨i,rfl,hi,HX,HT⟩:=hrel
   have hM:RL.Ok ⟨mA,mn,mc,mV⟩ wr:=HM3.out.touch HT.out (fun g hg e=>hg.ne (blk_ty HB3.out) (by decide) e) (fun g hg e=>hg.ne (blk_ty HB3.out) (by decide) e)
   obtain ⟨x0,x1,x2⟩:=HX.out.facts
   by_cases hin:i<mn
   ·have y1:(i:Int)<(mn:Int):=by omega
    have y2:(0:Int)≤(i:Int):=by omega
    obtain ⟨g,o,hA',hgl,a0,a1⟩:=rest_at hM.rd.rd HML.out i hin
    have hA:mA=some ⟨g,o,none⟩:=hA'
    clear hA'
    have hgC:g≠C:=by
     have:=hM.rd.ty (by show 0<mn;omega) g (by show adBlock mA=some g;rw [hA];rfl)
     exact this.ne (blk_ty HX.out) (by decide)
    subst hA
    have hlen:=(hM.el _ (getD_mem mV RV.zero i (by rw [HML.out];exact hin))).len
    have hsn:=take_snoc (mV.map RV.p) RV.zero.p i (by rw [List.length_map,HML.out];exact hin)
    have hgd:(mV.map RV.p).getD i RV.zero.p=(mV.getD i RV.zero).p:=by simp [List.getD,show i<mV.length by rw [HML.out];exact hin]
    rw [hgd] at hsn
    obtain ⟨⟨rA',rq,rc',rO,u⟩,hu⟩:∃ r,mV.getD i RV.zero=r:=⟨_,rfl⟩
    rw [hu] at a0 a1 hlen hsn
    simp only [RV.p] at a0 a1 hlen hsn
    have hf:finR ((mV.map RV.p).take (i+1))=(finR ((mV.map RV.p).take i) || decide (rO=[])):=by rw [hsn];simp [finR]
    have ho:outR ((mV.map RV.p).take (i+1))=if rO=[] then u else outR ((mV.map RV.p).take i):=by rw [hsn];unfold outR;rw [List.foldl_append];rfl
    have HF1:=hide hf
    have HO1:=hide ho
    clear hu hsn hgd hf ho hM
    by_cases hr:rO=[]
    ·subst hr
     simp only [List.length_nil] at hlen
     subst hlen
     have n1:(wr.setCell ⟨C,0,none⟩ (.bool true)).cell? ⟨g,o+i*2+1,none⟩=some (.int .i64 u):=(World.cell?_setCell_other _ _ _ _ (by intro e;injection e with e _;exact hgC e.symm)).trans a1
     go_wp2_with fail
     go_roundw
     ·refine ⟨i+1,by simp,by omega,hide ?_,hide ((HT.out.setCell (p:=⟨C,0,none⟩) (fun _=>rfl) _).setCell (p:=⟨C,1,none⟩) (fun _=>rfl) _)⟩
      rw [HF1.out,HO1.out]
      simpa using (HX.out.set_ 0 (.bool true)).set_ 1 (.int .i64 u)
     ·show mn-(intOf (.int .i64 ((i:Int)+1))).toNat<mn-(intOf (.int .i64 (i:Int))).toNat
      simp [intOf]
      omega
    ·obtain ⟨d,t,rfl⟩:∃ d t,rO=d :: t:=by
      cases rO with
      | nil=>exact absurd rfl hr
      | cons d t=>exact ⟨d,t,rfl⟩
     obtain ⟨q,rfl⟩:∃ q,rq=q+1:=⟨t.length,by simpa using hlen.symm⟩
     have n1:((q:Int)+1 == 0)=false:=by simp;omega
     have n2:¬ (q:Int)+1=0:=by omega
     clear hlen
     go_wp2_with fail
     go_roundw
     ·refine ⟨i+1,by simp,by omega,hide ?_,HT⟩
      rw [HF1.out,HO1.out]
      simpa using HX.out
     ·show mn-(intOf (.int .i64 ((i:Int)+1))).toNat<mn-(intOf (.int .i64 (i:Int))).toNat
      simp [intOf]
      omega
   ·have ht:(mV.map RV.p).take i=mV.map RV.p:=List.take_of_length_le (by rw [List.length_map,HML.out];omega)
    have hX:=HX.out
    rw [ht] at hX
    have HXX:=hide hX
    have y1:¬ (i:Int)<(mn:Int):=by omega
    have hT4:Touch (fun x=>x=C) w3 wr:=HT.out
    have hCw:w.heap.size≤C:=by have:=HCC.out;have:=HT12.out.size;omega
    have hkC:¬ KV.S ⟨rA,rn,rc,X,sA,sn,sc,Z⟩ C:=fun e=>by have:=HK.out.lt e;omega
    have hK4:KV.Ok ⟨rA,rn,rc,X,sA,sn,sc,Z⟩ wr:=HK3.out.box HB3.out hT4 hkC (by decide) (by decide) (by decide)
    have HK4:=hide (And.intro hK4 (And.intro hCw (And.intro hkC hT4)))
    have HM4:=hide hM
    have HFS:=hide (firsts_any wr ⟨mA,mn,mc,mV⟩ hM hm)
    clear hX ht hM x0 x1 x2
    simp only [RL.val] at HFS
    go_wp2_with fail
    refine HFS.out.mono ?_
    rintro e w5 ⟨fA,fq,fc,rfl,N5,hl5,hq5⟩
    obtain ⟨w4,rfl⟩:∃ w4,w4=wr:=⟨_,rfl⟩
    have hL2:L2 w w5 B C ⟨rA,rn,rc,X,sA,sn,sc,Z⟩ ⟨rA,rn,rc,X,sA,sn,sc,Z⟩ (finR (mV.map RV.p)) (outR (mV.map RV.p)) none 0 0 [] ⟨mA,mn,mc,mV⟩ fA fq (firstsR (RL.p ⟨mA,mn,mc,mV⟩)):=by
     obtain ⟨hK4,hCw,hkC,hT4⟩:=HK4.out
     have hBC:B≠C:=(blk_ty HD0.out).ne (blk_ty HB3.out) (by decide)
     have hB1C:B+1≠C:=(blk_ty HD1.out).ne (blk_ty HB3.out) (by decide)
     exact ⟨hK4.quiet N5.touch,(HD0.out.touch hT4 hBC).touch N5.touch (fun f=>f),(HD1.out.touch hT4 hB1C).touch N5.touch (fun f=>f),HXX.out.touch N5.touch (fun f=>f),World.ownsRow_nil _ _ _ _,rfl,fun g e=>by simp [Value.ownBlock] at e,HM4.out.quiet N5.touch,RdT.of_own N5.own,
      (((HT3.out.up _).trans hT4 (fun g hg (e:g=C)=>absurd hg (by omega))).then (N5.touch.up _)),.inl rfl,.inl rfl,hkC,fun z hz=>.inl hz,fun z _ _ g _ e=>by simp [Value.ownBlock] at e⟩
    have HL2:=hide hL2
    obtain ⟨F,hF⟩:∃ F,F=firstsR (RL.p ⟨mA,mn,mc,mV⟩):=⟨_,rfl⟩
    rw [← hF] at HL2 hl5
    have HFF:=hide hF
    have HFL:=hide hl5
    clear hF hl5 hL2 N5 HFS
    go_wp2_with fail
    go_loopw [10] (fun iv wr=>∃ (i:Nat) (kc:KV) (aA:Option Addr) (ac:Nat) (arcs:List (Nat × Int × Nat)),iv=.int .i64 i∧i≤fq∧Hid (L2 w wr B C ⟨rA,rn,rc,X,sA,sn,sc,Z⟩ kc (finR (mV.map RV.p)) (outR (mV.map RV.p)) aA i ac arcs ⟨mA,mn,mc,mV⟩ fA fq F)∧Hid (arcsF (stateF f) (RL.p ⟨mA,mn,mc,mV⟩) (KV.p ⟨rA,rn,rc,X,sA,sn,sc,Z⟩) (F.take i)=(kc.p,arcs))) (fun iv _=>fq-(intOf iv).toNat)
    case atStart=>exact ⟨0,⟨rA,rn,rc,X,sA,sn,sc,Z⟩,none,0,[],rfl,by omega,HL2,hide rfl⟩
    case round =>
     obtain ⟨i,kc,aA,ac,arcs,rfl,hi,HL,HP⟩:=hrel
     by_cases hin:i<fq
     ·have y1:(i:Int)<(fq:Int):=by omega
      have y2:(0:Int)≤(i:Int):=by omega
      obtain ⟨g,o,hA,a0⟩:=rune_at HL.out.f.rd HFL.out i hin
      subst hA
      have hFm:=getD_mem F 0 i (by rw [HFL.out];exact hin)
      have hsn:=take_snoc F 0 i (by rw [HFL.out];exact hin)
      obtain ⟨c,hc⟩:∃ c,F.getD i 0=c:=⟨_,rfl⟩
      rw [hc] at a0 hFm hsn
      have HCM:=hide hFm
      have HSN:=hide hsn
      have HUN:=hide (under_any wr ⟨mA,mn,mc,mV⟩ HL.out.m hm c)
      have hb0:=HL.out.b0
      obtain ⟨kA,kn,kcc,kX,qA,qn,qc,kZ⟩:=kc
      simp only [KV.r,KV.s] at hb0
      simp only [RL.val] at HUN
      have HBK:=hide hb0
      clear hc hFm hsn hb0
      go_wp2_with fail
      refine HUN.out.mono ?_
      rintro e u1 ⟨⟨tA,tn,tc,tV⟩,rfl,ht1,ht2,ht3,ht4,T1⟩
      simp only
      have hb0:=HBK.out.touch T1 (fun f=>f)
      obtain ⟨x0,x1,x2⟩:=hb0.facts
      have hpl:=round_plain (f:=f) (k:=KV.p ⟨rA,rn,rc,X,sA,sn,sc,Z⟩) (l:=RL.p ⟨lA,mn,lc,lV⟩) (i:=i) (c:=c) (kc:=KV.p ⟨kA,kn,kcc,kX,qA,qn,qc,kZ⟩) (arcs:=arcs) HG.out HS.out HD.out (by rw [← HMP.out,← HFF.out];exact HCM.out) (by rw [← HMP.out,← HFF.out];exact HSN.out) HF.out (by rw [← HMP.out,← HFF.out];exact HP.out)
      rw [← HMP.out] at hpl
      obtain ⟨p1,p2,p3,p4,p5⟩:=hpl
      have htn:0<tn:=by
       have h1:(RL.p ⟨tA,tn,tc,tV⟩).length=tn:=by simp only [RL.p,List.length_map];exact ht1.len
       rw [ht2] at h1
       have:=List.length_pos_iff.2 p3
       omega
      have HTN:=hide htn
      have HST:=hide (HI.out u1 ⟨kA,kn,kcc,kX,qA,qn,qc,kZ⟩ ⟨tA,tn,tc,tV⟩ (HL.out.ok.quiet T1) p1 ht1 (ht4 HMB.out) (by rw [ht2];exact p2) htn (by simp only at ht3 ⊢;omega) (by rw [ht2];exact p4) (by rw [ht2];exact p5))
      clear p1 p2 p3 p4 p5 htn
      have HB0':=hide hb0
      have HT1':=hide T1
      have HTO:=hide (And.intro ht1 (And.intro ht2 (And.intro ht3 ht4)))
      simp only [KV.val,KV.r,KV.s,RL.val] at HST
      clear ht1 ht2 ht3 ht4 T1 hb0
      go_wp2_with fail
      refine HST.out.mono ?_
      rintro e u2 ⟨⟨kA',kn',kcc',kX',qA',qn',qc',kZ'⟩,rfl,ho2,hp2,T2,fr2,fs2,hz2⟩
      have hBw:w.heap.size≤B:=by have:=HBB.out;omega
      have hBS:¬ KV.S ⟨kA,kn,kcc,kX,qA,qn,qc,kZ⟩ B:=HL.out.ok.noS (t := 229) (by decide) (by decide) B (blk_ty HL.out.b0)
      have hb2:=HB0'.out.touch T2 hBS
      obtain ⟨x3,x4,x5⟩:=hb2.facts
      have HLC:=hide (l2_call HL.out hBw HT1'.out ho2 T2 fr2 fs2 hz2 (.cells #[.slice kA' kn' kcc',.slice qA' qn' qc'] 229))
      have HP2:=hide hp2
      obtain ⟨u4,hu4⟩:∃ x,x=((u2.setCell ⟨B,0,none⟩ (.slice kA' kn' kcc')).setCell ⟨B,1,none⟩ (.slice qA' qn' qc')).alloc (.cells #[.slice kA' kn' kcc',.slice qA' qn' qc'] 229):=⟨_,rfl⟩
      simp only [KV.r,KV.s] at HLC
      rw [← hu4] at HLC
      have HU4:=hide hu4
      clear hu4 ho2 hp2 T2 fr2 fs2 hz2 hb2
      go_wp2_with fail
      rw [← HU4.out]
      have hTok:RL.Ok ⟨tA,tn,tc,tV⟩ u4:=HLC.out.2 _ HTO.out.1
      obtain ⟨le,hle⟩:∃ le,leastR (RL.p ⟨tA,tn,tc,tV⟩)=le:=⟨_,rfl⟩
      have HLEE:=hide hle
      have hff:=HLC.out.1.f
      obtain ⟨g9,o9,hA9,d0⟩:=rune_at hff.rd HFL.out i hin
      injection hA9 with hA9
      injection hA9 with hA91 hA92
      subst hA91 hA92
      have hFc:F.getD i 0=c:=by
       have:=HSN.out
       rw [take_snoc F 0 i (by rw [HFL.out];exact hin)] at this
       have h2:=List.append_cancel_left this
       simpa using h2
      rw [hFc] at d0
      obtain ⟨z3,z4,z5⟩:=HLC.out.1.b2.facts
      clear hle hff hFc
      have hTd:Touch (fun _=>False) u4 u4.drew:=(Touch.refl _ _).drew
      have hLE:Calls Tryz.prog 128 #[.slice tA tn tc] u4.drew fun e w'=>e=.returned (.int .i64 le)∧w'=u4.drew:=by
       have:=least_is u4.drew ⟨tA,tn,tc,tV⟩ (hTok.quiet hTd) HTN.out (by have:=HTO.out.2.2.1;unfold maxLen;simp only at this ⊢;omega)
       rw [HLEE.out] at this
       exact this
      have HLE:=hide hLE
      have HOW:=hide HLC.out.1.own
      have HNC:Hid (some C≠(Value.slice aA i ac).ownBlock):=hide (fun e=>(own_ty HLC.out.1.own e.symm).ne (blk_ty HLC.out.1.b2) (by decide) rfl)
      clear hTd hLE hTok
      go_region_law (first
       | (refine step_append_lies _ rfl (.tmp 66) (.tmp 75) 168 rfl 0 173 i9 _ 3 24 Tryz.underlying168 hi9 hz90 hz91 hz92 (by decide) (by decide) (.slice aA i ac) i _ (by simp [Act.eval]) (own_touch HOW.out ((Touch.refl _ _).alloc _).drew (fun _ _ f=>f)) ⟨u4.heap.size,0,none⟩ 1 1 [.int .i32 (c:Int),.int .i64 le,.int .i64 ((stateF f (KV.p ⟨kA,kn,kcc,kX,qA,qn,qc,kZ⟩) (RL.p ⟨tA,tn,tc,tV⟩)).2:Int)] (by simp [Act.eval]) rfl ?news ?one (by decide) ?b1 ?b2 (Nat.zero_le _) _ rfl ?_;(case news=>exact World.news_of_block (Blk.new u4 _ _));(case one=>exact List.all_eq_true.1 rfl);(case b1=>unfold maxLen;omega);(case b2=>omega);intro g4 cap4 w9 hown hgrow hlies _;have hbC:=((HLC.out.1.b2.alloc (.cells #[.int .i32 (c:Int),.int .i64 le,.int .i64 ((stateF f (KV.p ⟨kA,kn,kcc,kX,qA,qn,qc,kZ⟩) (RL.p ⟨tA,tn,tc,tV⟩)).2:Int)] 173)).drew).grown hgrow HNC.out;obtain ⟨q1,q2,q3⟩:=hbC.facts;have HN2:=hide (l2_arc HLC.out.1 hBw (by have:=HCC.out;have:=HT12.out.size;omega) (((Touch.refl (fun _=>False) u4).alloc _).drew) c le (stateF f (KV.p ⟨kA,kn,kcc,kX,qA,qn,qc,kZ⟩) (RL.p ⟨tA,tn,tc,tV⟩)).2 hown hgrow (by rcases hlies with e | e;exact .inl e.symm;exact .inr ⟨g4,rfl,by rw [e];exact Nat.le_refl _⟩));clear hown hgrow hlies hbC)
       | (go_simp;refine (HLE.out).mono ?_;rintro e v9 ⟨rfl,rfl⟩;go_simp))
      all_goals
       go_wp2_with fail
       go_roundw
       ·refine ⟨i+1,⟨kA',kn',kcc',kX',qA',qn',qc',kZ'⟩,some ⟨g4,0,none⟩,cap4,arcs++[(c,le,(stateF f (KV.p ⟨kA,kn,kcc,kX,qA,qn,qc,kZ⟩) (RL.p ⟨tA,tn,tc,tV⟩)).2)],by simp,by omega,HN2,hide ?_⟩
        rw [HSN.out,arcsF_snoc,HP.out]
        simp only
        rw [← HTO.out.2.1,HLEE.out,← HP2.out]
       ·show fq-(intOf (.int .i64 ((i:Int)+1))).toNat<fq-(intOf (.int .i64 (i:Int))).toNat
        simp [intOf]
        omega
     ·have hiq:i=fq:=by omega
      subst hiq
      have hpf:=HP.out
      rw [List.take_of_length_le (by rw [HFL.out];exact Nat.le_refl _),HFF.out,HMP.out] at hpf
      have hep:=end_plain HG.out HS.out HD.out HF.out hpf
      have hsn:=stateF_new (by rw [← HMP.out];exact HIX.out) hpf
      obtain ⟨kA,kn,kcc,kX,qA,qn,qc,kZ⟩:=kc
      have hkn:kn≤1000000:=by
       have h1:=HL.out.ok.rl
       have h2:=hep.1
       have h3:=hep.2
       simp only [KV.p,List.length_map] at h1 h2 h3
       omega
      have hqn:qn≤1000000:=by
       have h1:=HL.out.ok.sl
       have h3:=hep.2
       simp only [KV.p,List.length_map] at h1 h3
       omega
      have HSN:=hide hsn
      have HQL:Hid (qn=(KV.p ⟨kA,kn,kcc,kX,qA,qn,qc,kZ⟩).states.length):=hide (by have h1:=HL.out.ok.sl;simp only [KV.p,List.length_map];exact h1.symm)
      have hBw:w.heap.size≤B:=by have:=HBB.out;omega
      have hb0:=HL.out.b0
      simp only [KV.r,KV.s] at hb0
      have hrO:=HL.out.ok.r
      simp only [KV.r] at hrO
      obtain ⟨x0,x1,x2⟩:=hb0.facts
      have HRO:=hide hrO
      have HNB:Hid (some B≠(Value.slice kA kn kcc).ownBlock):=hide (fun e=>(own_ty hrO e.symm).ne (blk_ty hb0) (by decide) rfl)
      have HB9:=hide hb0
      clear hpf hep hsn hb0 hrO
      go_wp2_with (at_builtin;refine wpList_app _ rfl (.tmp 79) (.tmp 81) 227 rfl 225 i8 _ 1 24 Tryz.underlying227 hi8 hz80 hz81 hz82 rfl (by decide) (.slice kA kn kcc) kn _ rfl (own_touch HRO.out ((Touch.refl _ _).alloc _) (fun _ _ f=>f)) (some ⟨_,0,none⟩) 1 1 [.slice mA mn mc] rfl ?ra ?rb ?rc ?rd ?re ?_)
      case ra=>exact Reads.new _ _ _ _ rfl
      try (case rb=>exact fun h=>by cases h)
      case rc=>exact List.all_eq_true.1 rfl
      case rd=>unfold maxLen;omega
      case re=>omega
      intro v4 w7 hown hgrow hfr _
      obtain ⟨A4,c4,rfl,_,_⟩:=own_len hown
      have HL3:=hide (l2_rest HL.out hBw ((Touch.refl (fun _=>False) wr).alloc _) (by unfold maxLen;simp only;omega) hown hgrow hfr)
      have hb7:=(HB9.out.alloc (.cells #[.slice mA mn mc] 225)).grown hgrow HNB.out
      obtain ⟨x3,x4,x5⟩:=hb7.facts
      have hb8:=HL3.out.b0
      have hc8:=HL3.out.b2
      simp only [KV.r,KV.s] at hb8
      obtain ⟨y3,y4,y5⟩:=hb8.facts
      obtain ⟨y6,y7,y8⟩:=hc8.facts
      have hsO:=HL3.out.ok.s
      simp only [KV.s] at hsO
      have HSO:=hide hsO
      have HNB2:Hid (some B≠(Value.slice qA qn qc).ownBlock):=hide (fun e=>(own_ty hsO e.symm).ne (blk_ty hb8) (by decide) rfl)
      have HB8:=hide hb8
      clear hown hgrow hfr hb7 hb8 hc8 hsO
      go_wp2_with (at_builtin;refine wpList_app _ rfl (.tmp 85) (.tmp 87) 87 rfl 170 i7 _ 3 40 Tryz.underlying87 hi7 hz70 hz71 hz72 rfl (by decide) (.slice qA qn qc) qn _ rfl (own_touch HSO.out ((Touch.refl _ _).alloc _) (fun _ _ f=>f)) (some ⟨_,0,none⟩) 1 1 [.bool (finR (mV.map RV.p)),.int .i64 (outR (mV.map RV.p)),.slice aA i ac] rfl ?ta ?tb ?tc ?td ?te ?_)
      case ta =>
       have h:=Reads.new (size:=3) (w7.setCell ⟨B,0,none⟩ (.slice A4 (kn+1) c4)) 170 [.bool (finR (mV.map RV.p)),.int .i64 (outR (mV.map RV.p)),.slice aA i ac] 1 rfl
       have hsz:(w7.setCell ⟨B,0,none⟩ (.slice A4 (kn+1) c4)).heap.size=w7.heap.size:=by simp [World.setCell]
       rw [hsz] at h
       exact h
      try (case tb=>exact fun h=>by cases h)
      case tc=>exact List.all_eq_true.1 rfl
      case td=>unfold maxLen;omega
      case te=>omega
      intro v5 w8 hown hgrow hfr _
      obtain ⟨A5,c5,rfl,_,_⟩:=own_len hown
      have HKE:=hide (kn_end HL3.out hBw ((Touch.refl (fun _=>False) _).alloc _) hown hgrow hfr)
      have hb9:=(HB8.out.alloc (.cells #[.bool (finR (mV.map RV.p)),.int .i64 (outR (mV.map RV.p)),.slice aA i ac] 170)).grown hgrow HNB2.out
      obtain ⟨x6,x7,x8⟩:=hb9.facts
      obtain ⟨v3,v4,v5⟩:=HKE.out.2.1.facts
      obtain ⟨v6,v7,v8⟩:=HKE.out.2.2.1.facts
      clear hown hgrow hfr hb9
      go_wp2_with fail
      have z1:IntKind.i64.wrap ((qn:Int)+1-1)=(qn:Int):=IntWalk.i64_in _ (by omega) |>.trans (by omega)
      have z2:IntKind.i64.wrap (qn:Int)=(qn:Int):=IntWalk.i64_in _ (by omega)
      go_region
      go_wp2_with fail
      obtain ⟨e1,e2,e3,e4,e5,e6,e7⟩:=HKE.out
      have hbf:=((e3.set_ 0 (.slice A4 (kn+1) c4)).set_ 1 (.slice A5 (qn+1) c5)).drew
      have f0:=hbf.cell 0
      have f1:=hbf.cell 1
      simp at f0 f1
      have hTF:Touch (fun x=>x=B+1) (w8.setCell ⟨B,1,none⟩ (.slice A5 (qn+1) c5)) ((((w8.setCell ⟨B,1,none⟩ (.slice A5 (qn+1) c5)).setCell ⟨B+1,0,none⟩ (.slice A4 (kn+1) c4)).setCell ⟨B+1,1,none⟩ (.slice A5 (qn+1) c5)).drew):=(((Touch.refl (fun x=>x=B+1) _).setCell (p:=⟨B+1,0,none⟩) (fun _=>rfl) _).setCell (p:=⟨B+1,1,none⟩) (fun _=>rfl) _).drew
      have hpM:RL.p ⟨mA,mn,mc,mV⟩=levelR (RL.p ⟨lA,mn,lc,lV⟩):=HMP.out
      refine bodyPost_ret (v:=.tuple #[.agg #[.slice A4 (kn+1) c4,.slice A5 (qn+1) c5],.int .i64 (qn:Int)]) (by simp [results,Tryz.results127,go_sem,f0,f1]) rfl ⟨⟨A4,kn+1,c4,kX++[⟨mA,mn,mc,mV⟩],A5,qn+1,c5,kZ++[⟨finR (mV.map RV.p),outR (mV.map RV.p),aA,i,ac,arcs⟩]⟩,?_,?_,?_,?_,e5,e6,e7⟩
      ·rw [HSN.out,← HQL.out]
      ·exact e1.box e3 hTF (e1.noS (t := 229) (by decide) (by decide) _ (blk_ty e3)) (by decide) (by decide) (by decide)
      ·rw [HSN.out,← hpM]
       simp only [KV.p,List.map_append,List.map_cons,List.map_nil]
       rfl
      ·exact e4.trans hTF (fun g hg (e:g=B+1)=>absurd hg (by omega))
theorem state_any:∀ f,StateC f
 | 0=>fun _ _ _ _ _ _ _ _ _ _ h _=>absurd h (Nat.not_lt_zero _)
 | f+1=>state_step f (state_any f)
end Go.Proofs.YthockgmbooefpaaGreatDoor
namespace Go.Proofs.YthockgmbooefpaaGreatDoor
open Go.RowKit
def u8V (x:Nat):Value:=.int .u8 (x:Int)
def rowV (s:List Nat):Array Value:=((List.range 25).map fun j=>u8V (s.getD j 0)).toArray
theorem rowV_size (s:List Nat):(rowV s).size=25:=by simp [rowV]
def cutR' (o:Nat) (s:List Nat):List Nat:=s.map (min · o)
theorem blk_setCells {g:Nat} {t:TypeId}:∀ (vs:List Value) (o:Nat) (w:World) (cs:Array Value),Blk w g t cs→∃ cs',Blk (w.setCells g o vs) g t cs'∧cs'.size=cs.size
 | [],_,_,cs,h=>⟨cs,h,rfl⟩
 | v :: r,o,w,cs,h=>by
  obtain ⟨cs',h1,h2⟩:=blk_setCells r (o+1) _ _ (h.set_ o v)
  exact ⟨cs',h1,by rw [h2];simp⟩
theorem Blk.range {w:World} {g:Nat} {t:TypeId} {cs:Array Value} (h:Blk w g t cs):w.rangeAt g 0 cs.toList:=fun j v hv=>by
 rw [Nat.zero_add,h.cell]
 simpa using hv
theorem Blk.there {w:World} {g:Nat} {t:TypeId} {cs:Array Value} (h:Blk w g t cs) {n:Nat} (hn:n≤cs.size):w.there g 0 n:=fun j hj=>by
 rw [Nat.zero_add,h.cell]
 exact ⟨by simp;omega,h.frozen j⟩
theorem Blk.setAll {w:World} {g:Nat} {t:TypeId} {cs ds:Array Value} (h:Blk w g t cs) (hs:ds.size=cs.size):Blk (w.setCells g 0 ds.toList) g t ds:=by
 obtain ⟨cs',h1,h2⟩:=blk_setCells ds.toList 0 w cs h
 have e:cs'=ds:=by
  apply Array.ext_getElem?
  intro j
  rw [← h1.cell j]
  by_cases hj:j<ds.size
  ·have:=World.cell?_setCells_in g ds.toList 0 w (fun i hi=>((h.there (Nat.le_of_eq hs)) i (by simpa using hi)).1) j (by simpa using hj)
   rw [Nat.zero_add] at this
   rw [this]
   simp [hj]
  ·rw [h1.cell,Array.getElem?_eq_none (by omega),Array.getElem?_eq_none (by omega)]
 rw [e] at h1
 exact h1
theorem Blk.row {w:World} {g:Nat} {s:List Nat} (h:Blk w g 181 (rowV s)) (t:List Nat):Blk (w.setCells g 0 (rowV t).toList) g 181 (rowV t):=h.setAll (by rw [rowV_size,rowV_size])
structure LevM (w:World) (b:Nat) (A:Option Addr) (n c:Nat) (X:List Nat) (o:Nat):Prop where
 blk:Blk w b 252 (#[.slice A n c,u8V o]++rowV (List.replicate (n+1) o))
 rd:RdT w 21 1 A n (X.map runeV)
 len:X.length=n
 few:n≤24
 o1:1≤o
 o2:o≤4
theorem LevM.quiet {w w':World} {b:Nat} {A:Option Addr} {n c:Nat} {X:List Nat} {o:Nat} (h:LevM w b A n c X o) (T:Touch (fun _=>False) w w'):LevM w' b A n c X o :=
 ⟨h.blk.touch T (fun f=>f),h.rd.quiet T,h.len,h.few,h.o1,h.o2⟩
theorem LevM.cells {w:World} {b:Nat} {A:Option Addr} {n c:Nat} {X:List Nat} {o:Nat} (h:LevM w b A n c X o) :
  w.cell? ⟨b,0,none⟩=some (.slice A n c)∧w.cell? ⟨b,1,none⟩=some (.int .u8 (o:Int))∧b<w.heap.size:=by
 have h0:=h.blk.cell 0
 have h1:=h.blk.cell 1
 refine ⟨?_,?_,h.blk.lt⟩
 ·rw [h0,Array.getElem?_append_left (by simp)];rfl
 ·rw [h1,Array.getElem?_append_left (by simp)];rfl
end Go.Proofs.YthockgmbooefpaaGreatDoor
namespace Go.Proofs.YthockgmbooefpaaGreatDoor
open Go.RowKit
def min4 (x y z u:Int):Int:=min (min (min x y) z) u
theorem run_min_int4 {P:Program} (w:World) (ts:Array TypeId) (t:TypeId) (k k1 k2 k3:IntKind) (x y z u:Int):(Builtin.min_ ts t #[.int k x,.int k1 y,.int k2 z,.int k3 u]).run P w=.ok (.int k (min4 x y z u)) w:=by
 have e:∀ a b:Int,(if b<a then b else a)=min a b:=fun a b=>by
  rw [Int.min_def]
  split<;>split<;>omega
 simp [Builtin.min_,Builtin.min2,e,min4]
attribute [local go_sem] run_min_int4
end Go.Proofs.YthockgmbooefpaaGreatDoor
