/- What the law rests on, part 4. No condition but those that each theorem names. -/
import Derived.Test.YthockgmbooefpaaGreatDoorM03
import Derived.Deep.AppendLies
import Derived.Deep.RegionLaw
import Derived.RegionTactic
import Derived.ChangeAlike
import Derived.BigQuiet
import Derived.Laws.BitsLemmas
import Derived.Deep.QuietTactic
import Derived.Laws.EntriesVeiled
import Derived.WideKeyArr
import Derived.WideKeyEntry
import Derived.StillTailTactics
import Derived.Laws.Cover3
set_option linter.unusedSectionVars false
set_option linter.unusedSimpArgs false
set_option linter.unusedVariables false
set_option maxRecDepth 100000
set_option maxHeartbeats 2000000
namespace Go.Proofs.YthockgmbooefpaaGreatDoor
open IntWalk renaming i64_in → qZe
open List renaming map_cons → qQa, getD → qZa, length_map → qXa, map_append → qQb, map_nil → qZb, mem_map → qXb, mem_singleton → qJb, getD_eq_getElem?_getD → qQc, mem_append → qZc, replicate → qJc, getElem?_eq_getElem → qZd, length_cons → qXd, take_of_length_le → qJd, all_eq_true → qXe, foldl_append → qJe, getElem?_append_right → qQf, mem_cons_of_mem → qZf, mem_cons_self → qXf, pairwise_append → qJf, take_length → qQg, getElem?_eq_none → qQh, length_eq_one_iff → qXh, map_eq_append_iff → qXi, take_succ_eq_append_getElem → qQk
open Nat renaming le_refl → qJa, add_assoc → qXc, zero_le → qQd, zero_add → qQe
variable{es:Array MapEntry}{base:Int}{arcs:List (Nat × Int × Nat)}{W:List Int}{xs:List Value}{B b c clock f g i j m n size wc:Nat}{S:Nat->Prop}{A wA:Option Addr}{l:Rs}{t:TypeId}{v w w':World}{k kc:iJ}
open Go.RowKit
theorem wI:(Tryz.prog.info? 173).map (λi=>(i.zero,i.size,i.bytes))=some (some (.agg #[.int .i32 0,.int .i64 0,.int .i64 0]),3,24):=by kernel_rfl
theorem Et:(Tryz.prog.info? 170).map (λi=>(i.zero,i.size,i.bytes))=some (some (.agg #[.bool false,.int .i64 0,.slice none 0 0]),3,40):=by kernel_rfl
theorem aDq:(Tryz.prog.info? 225).map (λi=>(i.zero,i.size,i.bytes))=some (some (.slice none 0 0),1,24):=by kernel_rfl
theorem xF(st:iJ->Rs->iJ × Nat)(R:Rs)(c:Nat):∀ (cs:List Nat) (k:iJ),cJ st R k (cs++[c])=((st (cJ st R k cs).1 (aG R c)).1,(cJ st R k cs).2++[(c,aW (aG R c),(st (cJ st R k cs).1 (aG R c)).2)])
 | [],k=>rfl
 | d :: cs,k=>by
  have:=xF st R c cs (st k (aG R d)).1
  simp only[List.cons_append,cJ]
  rw[this]
theorem Nc(h:jT k.rests (aJ l)=none)(hp:cJ (aY f) (aJ l) k (aK (aJ l))=(kc,arcs)) :
  aY (f+1) k l=(⟨kc.rests++[aJ l],kc.states++[⟨eI (aJ l),jB (aJ l),arcs⟩]⟩,kc.states.length):=by simp only[aY,h,hp]
theorem Qm(hg:jY k)(hs:bK l)(hd:fF l<f+1)(hf:k.states.length+fP l<=1000000)(hp:cJ (aY f) (aJ l) k (aK (aJ l))=(kc,arcs)) :
  kc.rests.length=kc.states.length/\kc.states.length<=1000000:=by
 have hR:=eN hs
 have hdR:=eH l
 obtain⟨h1,_,_,_⟩:=nG (iD f) hR (by omega) (aK (aJ l)) k hg (λx hx=>bD.1 hx)
 have h2:=rI (nP f) hR (aK (aJ l)) k (λx hx=>bD.1 hx)
 have h3:=sR (aJ l) _ ((cM hR).imp λh=>Nat.ne_of_lt h)
 rw[hp] at h1 h2
 rw[rF] at h3
 simp only at h2
 exact⟨h1.len,by omega⟩
theorem Iu(hg:jY k)(hs:bK l)(hd:fF l<f+1)(hc:c∈aK (aJ l))(hsn:(aK (aJ l)).take (i+1)=(aK (aJ l)).take i++[c])
  (hf:k.states.length+fP l<=1000000)(hp:cJ (aY f) (aJ l) k ((aK (aJ l)).take i)=(kc,arcs)) :
  jY kc/\bK (aG (aJ l) c)/\aG (aJ l) c≠[]/\fF (aG (aJ l) c)<f/\kc.states.length+fP (aG (aJ l) c)<=1000000:=by
 have hR:=eN hs
 have hdR:=eH l
 have hu:=bD.1 hc
 have hdu:=eW hu
 obtain⟨h1,_,_,_⟩:=nG (iD f) hR (by omega) ((aK (aJ l)).take i) k hg (λx hx=>bD.1 (List.mem_of_mem_take hx))
 have h2:=rI (nP f) hR ((aK (aJ l)).take i) k (λx hx=>bD.1 (List.mem_of_mem_take hx))
 rw[hp] at h1 h2
 have hnd:((aK (aJ l)).take (i+1)).Nodup:=(List.take_sublist _ _).nodup ((cM hR).imp λh=>Nat.ne_of_lt h)
 have h3:=sR (aJ l) _ hnd
 rw[hsn,qQb,List.sum_append,rF] at h3
 have h4:=rE (aJ l) c
 simp only[qQa,qZb,List.sum_cons,List.sum_nil] at h3
 refine⟨h1,dZ c hR,hu,by omega,?_⟩
 simp only at h2
 omega
def Lb(f:Nat):Prop:=∀ (w:World) (k:KV) (l:RL),k.Ok w->jY k.p->l.Ok w->l.Bd->bK l.p->0<l.n->l.n<=4096->fF l.p<f->k.p.states.length+fP l.p<=1000000 ->
 Calls Tryz.prog 127 #[k.val,l.val] w λe w'=>∃ k':KV,e=.returned (.tuple #[k'.val,.int .i64 ((aY f k.p l.p).2:Int)])/\k'.Ok w'/\k'.p=(aY f k.p l.p).1/\aC k.S w w'/\bJ w k.r k'.r/\bJ w k.s k'.s/\∀ z∈k'.Z,z∈k.Z\/(0<z.n->∀ g,aQ z.A=some g->w.heap.size<=g)
theorem Nd(f:Nat)(ih:Lb f):Lb (f+1):=by
 intro w k l hk hg hl hb hs hn hm hd hf
 obtain⟨i9,hi9,hz90,hz91,hz92⟩:=aO wI
 obtain⟨i8,hi8,hz80,hz81,hz82⟩:=aO aDq
 obtain⟨i7,hi7,hz70,hz71,hz72⟩:=aO Et
 have HK:=aB hk
 have HG:=aB hg
 have HL:=aB hl
 have HB:=aB hb
 have HS:=aB hs
 have HD:=aB hd
 have HF:=aB hf
 have HI:=aB ih
 clear hk hg hl hb hs hd hf ih
 obtain⟨rA,rn,rc,X,sA,sn,sc,Z⟩:=k
 obtain⟨lA,ln,lc,lV⟩:=l
 simp only at hn hm
 obtain⟨B,hB⟩:=eX w.heap.size
 obtain⟨w0,hw0⟩:=eX ((w.alloc (.cells #[.slice rA rn rc,.slice sA sn sc] 229)).alloc (.cells #[.slice none 0 0,.slice none 0 0] 229))
 have hT0:aC (λ_=>False) w w0:=by rw[hw0];exact ((aC.refl _ _).alloc _).alloc _
 have hb0:aL w0 B 229 #[.slice rA rn rc,.slice sA sn sc]:=by rw[hw0,hB];exact (aL.new _ _ _).alloc _
 have hb1:aL w0 (B+1) 229 #[.slice none 0 0,.slice none 0 0]:=by rw[hw0,hB];exact fU _ _ _ _
 have HW0:=aB hw0
 have HBB:=aB hB
 have HT0:=aB hT0
 have HB0:=aB hb0
 have HB1:=aB hb1
 have HLV:=aB (Rf w0 ⟨lA,ln,lc,lV⟩ (HL.quiet hT0) hn hm HB)
 clear hw0 hB hT0 hb0 hb1
 simp only[KV.val,KV.r,KV.s]
 simp only[RL.val] at HLV ⊢
 go_in
 go_wp2_with fail
 rw[<-HW0.out,<-HBB.out]
 refine HLV.mono ?_
 rintro e w1 ⟨⟨mA,mn,mc,mV⟩,rfl,hm1,hm2,hm3,hm4,T1⟩
 simp only
 simp only at hm3
 subst hm3
 have c0:=HB0.touch T1 (λf=>f)
 have c1:=HB1.touch T1 (λf=>f)
 obtain⟨x0,x1,x2⟩:=c0.facts
 have HT1:=aB (HT0.then T1)
 have HM:=aB hm1
 have HMP:=aB hm2
 have HMB:=aB hm4
 have HC0:=aB c0
 have HC1:=aB c1
 have hk1:=HK.quiet HT1
 have HK1:=aB hk1
 have hIN:=(aDp w1 rA rn rc X (aI.of_own hk1.r) hk1.rl hk1.re ⟨mA,mn,mc,mV⟩ hm1 (kT hk1.r))
 obtain⟨z,hz⟩:∃ z:Int,inZ (jT (X.map RL.p) (RL.p ⟨mA,mn,mc,mV⟩))=z:=⟨_,rfl⟩
 rw[hz] at hIN
 have HIN:=aB hIN
 have HZ:=aB hz
 clear hIN hz
 clear c0 c1 T1 hm1 hm2 hm4 hk1 HLV
 simp only[RL.val] at HIN
 go_wp2_with fail
 refine HIN.mono ?_
 rintro e w2 ⟨rfl,T2⟩
 cases hidx:jT (X.map RL.p) (RL.p ⟨mA,mn,mc,mV⟩) with
 | some i =>
  have hzi:z=(i:Int):=by rw[<-HZ.out,hidx];rfl
  subst hzi
  have i0:(0:Int)<=(i:Int):=by omega
  have c0:=HC0.touch T2 (λf=>f)
  have c1:=HC1.touch T2 (λf=>f)
  obtain⟨x0,x1,x2⟩:=c0.facts
  obtain⟨z0,z1,z2⟩:=c1.facts
  have HT2:=aB (HT1.then T2)
  have HIX:=aB hidx
  have HC2:=aB c1
  clear c0 c1 T2 hidx
  go_wp2_with fail
  have hbf:=(HC2.set_ 0 (.slice rA rn rc)).set_ 1 (.slice sA sn sc)
  have f0:=hbf.cell 0
  have f1:=hbf.cell 1
  simp at f0 f1
  have hsf:aY (f+1) (KV.p ⟨rA,rn,rc,X,sA,sn,sc,Z⟩) (RL.p ⟨lA,mn,lc,lV⟩)=(KV.p ⟨rA,rn,rc,X,sA,sn,sc,Z⟩,i):=Ad (by
   rw[<-HMP.out]
   exact HIX)
  have hTF:aC (λx=>x=B+1) w2 ((w2.setCell ⟨B+1,0,none⟩ (.slice rA rn rc)).setCell ⟨B+1,1,none⟩ (.slice sA sn sc)):=((aC.refl (λx=>x=B+1) w2).setCell (p:=⟨B+1,0,none⟩) (λ_=>rfl) _).setCell (p:=⟨B+1,1,none⟩) (λ_=>rfl) _
  have hkS:¬ KV.S ⟨rA,rn,rc,X,sA,sn,sc,Z⟩ (B+1):=λh=>by have:=HK.lt h;have:=HBB.out;omega
  rw[hsf]
  refine bodyPost_ret (v:=.tuple #[.agg #[.slice rA rn rc,.slice sA sn sc],.int .i64 (i:Int)]) (by simp[results,Tryz.results127,go_sem,f0,f1]) rfl ⟨⟨rA,rn,rc,X,sA,sn,sc,Z⟩,rfl,(HK.quiet HT2).box HC2 hTF hkS (by decide) (by decide) (by decide),rfl,?_,.inl rfl,.inl rfl,λz hz=>.inl hz⟩
  exact (HT2.up _).trans hTF (λg hg (e:g=B+1)=>absurd hg (by have:=HBB.out;omega))
 | none =>
  have hzi:z = -1:=by rw[<-HZ.out,hidx];rfl
  subst hzi
  have HIX:=aB hidx
  obtain⟨C,hC⟩:=eX w2.heap.size
  obtain⟨w3,hw3⟩:=eX (w2.alloc (.cells #[.bool false,.int .i64 0,.slice none 0 0] 170))
  have hT3:aC (λ_=>False) w2 w3:=by rw[hw3];exact (aC.refl _ _).alloc _
  have hb3:aL w3 C 170 #[.bool false,.int .i64 0,.slice none 0 0]:=by rw[hw3,hC];exact aL.new _ _ _
  have HW3:=aB hw3
  have HCC:=aB hC
  have HT12:=aB (HT1.then T2)
  have HT3:=aB ((HT1.then T2).then hT3)
  have HB3:=aB hb3
  have HD0:=aB ((HC0.touch T2 (λf=>f)).touch hT3 (λf=>f))
  have HD1:=aB ((HC1.touch T2 (λf=>f)).touch hT3 (λf=>f))
  have HM3:=aB ((HM.quiet T2).quiet hT3)
  have HK3:=aB (HK.quiet ((HT1.then T2).then hT3))
  have HML:Hid (mV.length=mn):=aB HM.len
  clear hidx hC hw3 hT3 hb3 T2
  go_wp2_with fail
  rw[<-HW3.out,<-HCC.out]
  go_loopw [8] (λiv wr=>∃ (i:Nat),iv=.int .i64 i/\i<=mn/\Hid (aL wr C 170 #[.bool (eI ((mV.map RV.p).take i)),.int .i64 (jB ((mV.map RV.p).take i)),.slice none 0 0])/\Hid (aC (λx=>x=C) w3 wr)) (λiv _=>mn-(intOf iv).toNat)
  case atStart=>exact⟨0,rfl,qQd _,HB3,aB (aC.refl _ _)⟩
  case round =>
   obtain⟨i,rfl,hi,HX,HT⟩:=hrel
   have hM:RL.Ok ⟨mA,mn,mc,mV⟩ wr:=HM3.touch HT (λg hg e=>hg.ne (aF HB3) (by decide) e) (λg hg e=>hg.ne (aF HB3) (by decide) e)
   obtain⟨x0,x1,x2⟩:=HX.facts
   by_cases hin:i<mn
   ·have y1:(i:Int)<(mn:Int):=by omega
    have y2:(0:Int)<=(i:Int):=by omega
    obtain⟨g,o,hA',hgl,a0,a1⟩:=fS hM.rd.rd HML i hin
    have hA:mA=some ⟨g,o,none⟩:=hA'
    clear hA'
    have hgC:g≠C:=by
     have:=hM.rd.ty (by show 0<mn;omega) g (by show aQ mA=some g;rw[hA];rfl)
     exact this.ne (aF HX) (by decide)
    subst hA
    have hlen:=(hM.el _ (aZ mV RV.zero i (by rw[HML.out];exact hin))).len
    have hsn:=bI (mV.map RV.p) RV.zero.p i (by rw[qXa,HML.out];exact hin)
    have hgd:(mV.map RV.p).getD i RV.zero.p=(mV.getD i RV.zero).p:=by simp[qZa,show i<mV.length by rw[HML.out];exact hin]
    rw[hgd] at hsn
    obtain⟨⟨rA',rq,rc',rO,u⟩,hu⟩:∃ r,mV.getD i RV.zero=r:=⟨_,rfl⟩
    rw[hu] at a0 a1 hlen hsn
    simp only[RV.p] at a0 a1 hlen hsn
    have hf:eI ((mV.map RV.p).take (i+1))=(eI ((mV.map RV.p).take i) || decide (rO=[])):=by rw[hsn];simp[eI]
    have ho:jB ((mV.map RV.p).take (i+1))=if rO=[] then u else jB ((mV.map RV.p).take i):=by rw[hsn];unfold jB;rw[qJe];rfl
    have HF1:=aB hf
    have HO1:=aB ho
    clear hu hsn hgd hf ho hM
    by_cases hr:rO=[]
    ·subst hr
     simp only[List.length_nil] at hlen
     subst hlen
     have n1:(wr.setCell ⟨C,0,none⟩ (.bool true)).cell? ⟨g,o+i*2+1,none⟩=some (.int .i64 u):=(World.cell?_setCell_other _ _ _ _ (by intro e;injection e with e _;exact hgC e.symm)).trans a1
     go_wp2_with fail
     go_roundw
     ·refine⟨i+1,by simp,by omega,aB ?_,aB ((HT.setCell (p:=⟨C,0,none⟩) (λ_=>rfl) _).setCell (p:=⟨C,1,none⟩) (λ_=>rfl) _)⟩
      rw[HF1.out,HO1.out]
      simpa using (HX.set_ 0 (.bool true)).set_ 1 (.int .i64 u)
     ·show mn-(intOf (.int .i64 ((i:Int)+1))).toNat<mn-(intOf (.int .i64 (i:Int))).toNat
      simp[intOf]
      omega
    ·obtain⟨d,t,rfl⟩:∃ d t,rO=d :: t:=by
      cases rO with
      | nil=>exact absurd rfl hr
      | cons d t=>exact⟨d,t,rfl⟩
     obtain⟨q,rfl⟩:∃ q,rq=q+1:=⟨t.length,by simpa using hlen.symm⟩
     have n1:((q:Int)+1 == 0)=false:=by simp;omega
     have n2:¬ (q:Int)+1=0:=by omega
     clear hlen
     go_wp2_with fail
     go_roundw
     ·refine⟨i+1,by simp,by omega,aB ?_,HT⟩
      rw[HF1.out,HO1.out]
      simpa using HX.out
     ·show mn-(intOf (.int .i64 ((i:Int)+1))).toNat<mn-(intOf (.int .i64 (i:Int))).toNat
      simp[intOf]
      omega
   ·have ht:(mV.map RV.p).take i=mV.map RV.p:=qJd (by rw[qXa,HML.out];omega)
    have hX:=HX.out
    rw[ht] at hX
    have HXX:=aB hX
    have y1:¬ (i:Int)<(mn:Int):=by omega
    have hT4:aC (λx=>x=C) w3 wr:=HT.out
    have hCw:w.heap.size<=C:=by have:=HCC.out;have:=HT12.size;omega
    have hkC:¬ KV.S ⟨rA,rn,rc,X,sA,sn,sc,Z⟩ C:=λe=>by have:=HK.lt e;omega
    have hK4:KV.Ok ⟨rA,rn,rc,X,sA,sn,sc,Z⟩ wr:=HK3.box HB3 hT4 hkC (by decide) (by decide) (by decide)
    have HK4:=aB (And.intro hK4 (And.intro hCw (And.intro hkC hT4)))
    have HM4:=aB hM
    have HFS:=aB (Lv wr ⟨mA,mn,mc,mV⟩ hM hm)
    clear hX ht hM x0 x1 x2
    simp only[RL.val] at HFS
    go_wp2_with fail
    refine HFS.mono ?_
    rintro e w5 ⟨fA,fq,fc,rfl,N5,hl5,hq5⟩
    obtain⟨w4,rfl⟩:=eX wr
    have hL2:L2 w w5 B C ⟨rA,rn,rc,X,sA,sn,sc,Z⟩ ⟨rA,rn,rc,X,sA,sn,sc,Z⟩ (eI (mV.map RV.p)) (jB (mV.map RV.p)) none 0 0 [] ⟨mA,mn,mc,mV⟩ fA fq (aK (RL.p ⟨mA,mn,mc,mV⟩)):=by
     obtain⟨hK4,hCw,hkC,hT4⟩:=HK4.out
     have hBC:B≠C:=(aF HD0).ne (aF HB3) (by decide)
     have hB1C:B+1≠C:=(aF HD1).ne (aF HB3) (by decide)
     exact⟨hK4.quiet N5.touch,(HD0.touch hT4 hBC).touch N5.touch (λf=>f),(HD1.touch hT4 hB1C).touch N5.touch (λf=>f),HXX.touch N5.touch (λf=>f),World.ownsRow_nil _ _ _ _,rfl,λg e=>by simp[Value.ownBlock] at e,HM4.quiet N5.touch,fM.of_own N5.own,
      (((HT3.up _).trans hT4 (λg hg (e:g=C)=>absurd hg (by omega))).then (N5.touch.up _)),.inl rfl,.inl rfl,hkC,λz hz=>.inl hz,λz _ _ g _ e=>by simp[Value.ownBlock] at e⟩
    have HL2:=aB hL2
    obtain⟨F,hF⟩:=eX (aK (RL.p ⟨mA,mn,mc,mV⟩))
    rw[<-hF] at HL2 hl5
    have HFF:=aB hF
    have HFL:=aB hl5
    clear hF hl5 hL2 N5 HFS
    go_wp2_with fail
    go_loopw [10] (λiv wr=>∃ (i:Nat) (kc:KV) (aA:Option Addr) (ac:Nat) (arcs:List (Nat × Int × Nat)),iv=.int .i64 i/\i<=fq/\Hid (L2 w wr B C ⟨rA,rn,rc,X,sA,sn,sc,Z⟩ kc (eI (mV.map RV.p)) (jB (mV.map RV.p)) aA i ac arcs ⟨mA,mn,mc,mV⟩ fA fq F)/\Hid (cJ (aY f) (RL.p ⟨mA,mn,mc,mV⟩) (KV.p ⟨rA,rn,rc,X,sA,sn,sc,Z⟩) (F.take i)=(kc.p,arcs))) (λiv _=>fq-(intOf iv).toNat)
    case atStart=>exact⟨0,⟨rA,rn,rc,X,sA,sn,sc,Z⟩,none,0,[],rfl,by omega,HL2,aB rfl⟩
    case round =>
     obtain⟨i,kc,aA,ac,arcs,rfl,hi,HL,HP⟩:=hrel
     by_cases hin:i<fq
     ·have y1:(i:Int)<(fq:Int):=by omega
      have y2:(0:Int)<=(i:Int):=by omega
      obtain⟨g,o,hA,a0⟩:=lU HL.f.rd HFL i hin
      subst hA
      have hFm:=aZ F 0 i (by rw[HFL.out];exact hin)
      have hsn:=bI F 0 i (by rw[HFL.out];exact hin)
      obtain⟨c,hc⟩:∃ c,F.getD i 0=c:=⟨_,rfl⟩
      rw[hc] at a0 hFm hsn
      have HCM:=aB hFm
      have HSN:=aB hsn
      have HUN:=aB (Sz wr ⟨mA,mn,mc,mV⟩ HL.m hm c)
      have hb0:=HL.b0
      obtain⟨kA,kn,kcc,kX,qA,qn,qc,kZ⟩:=kc
      simp only[KV.r,KV.s] at hb0
      simp only[RL.val] at HUN
      have HBK:=aB hb0
      clear hc hFm hsn hb0
      go_wp2_with fail
      refine HUN.mono ?_
      rintro e u1 ⟨⟨tA,tn,tc,tV⟩,rfl,ht1,ht2,ht3,ht4,T1⟩
      simp only
      have hb0:=HBK.touch T1 (λf=>f)
      obtain⟨x0,x1,x2⟩:=hb0.facts
      have hpl:=Iu (f:=f) (k:=KV.p ⟨rA,rn,rc,X,sA,sn,sc,Z⟩) (l:=RL.p ⟨lA,mn,lc,lV⟩) (i:=i) (c:=c) (kc:=KV.p ⟨kA,kn,kcc,kX,qA,qn,qc,kZ⟩) (arcs:=arcs) HG HS HD (by rw[<-HMP.out,<-HFF.out];exact HCM) (by rw[<-HMP.out,<-HFF.out];exact HSN) HF (by rw[<-HMP.out,<-HFF.out];exact HP)
      rw[<-HMP.out] at hpl
      obtain⟨p1,p2,p3,p4,p5⟩:=hpl
      have htn:0<tn:=by
       have h1:(RL.p ⟨tA,tn,tc,tV⟩).length=tn:=by simp only[RL.p,qXa];exact ht1.len
       rw[ht2] at h1
       have:=List.length_pos_iff.2 p3
       omega
      have HTN:=aB htn
      have HST:=aB (HI u1 ⟨kA,kn,kcc,kX,qA,qn,qc,kZ⟩ ⟨tA,tn,tc,tV⟩ (HL.ok.quiet T1) p1 ht1 (ht4 HMB) (by rw[ht2];exact p2) htn (by simp only at ht3 ⊢;omega) (by rw[ht2];exact p4) (by rw[ht2];exact p5))
      clear p1 p2 p3 p4 p5 htn
      have HB0':=aB hb0
      have HT1':=aB T1
      have HTO:=aB (And.intro ht1 (And.intro ht2 (And.intro ht3 ht4)))
      simp only[KV.val,KV.r,KV.s,RL.val] at HST
      clear ht1 ht2 ht3 ht4 T1 hb0
      go_wp2_with fail
      refine HST.mono ?_
      rintro e u2 ⟨⟨kA',kn',kcc',kX',qA',qn',qc',kZ'⟩,rfl,ho2,hp2,T2,fr2,fs2,hz2⟩
      have hBw:w.heap.size<=B:=by have:=HBB.out;omega
      have hBS:¬ KV.S ⟨kA,kn,kcc,kX,qA,qn,qc,kZ⟩ B:=HL.ok.noS (t := 229) (by decide) (by decide) B (aF HL.b0)
      have hb2:=HB0'.touch T2 hBS
      obtain⟨x3,x4,x5⟩:=hb2.facts
      have HLC:=aB (aAn HL hBw HT1' ho2 T2 fr2 fs2 hz2 (.cells #[.slice kA' kn' kcc',.slice qA' qn' qc'] 229))
      have HP2:=aB hp2
      obtain⟨u4,hu4⟩:=eX (((u2.setCell ⟨B,0,none⟩ (.slice kA' kn' kcc')).setCell ⟨B,1,none⟩ (.slice qA' qn' qc')).alloc (.cells #[.slice kA' kn' kcc',.slice qA' qn' qc'] 229))
      simp only[KV.r,KV.s] at HLC
      rw[<-hu4] at HLC
      have HU4:=aB hu4
      clear hu4 ho2 hp2 T2 fr2 fs2 hz2 hb2
      go_wp2_with fail
      rw[<-HU4.out]
      have hTok:RL.Ok ⟨tA,tn,tc,tV⟩ u4:=HLC.2 _ HTO.1
      obtain⟨le,hle⟩:∃ le,aW (RL.p ⟨tA,tn,tc,tV⟩)=le:=⟨_,rfl⟩
      have HLEE:=aB hle
      have hff:=HLC.1.f
      obtain⟨g9,o9,hA9,d0⟩:=lU hff.rd HFL i hin
      injection hA9 with hA9
      injection hA9 with hA91 hA92
      subst hA91 hA92
      have hFc:F.getD i 0=c:=by
       have:=HSN.out
       rw[bI F 0 i (by rw[HFL.out];exact hin)] at this
       have h2:=List.append_cancel_left this
       simpa using h2
      rw[hFc] at d0
      obtain⟨z3,z4,z5⟩:=HLC.1.b2.facts
      clear hle hff hFc
      have hTd:aC (λ_=>False) u4 u4.drew:=(aC.refl _ _).drew
      have hLE:Calls Tryz.prog 128 #[.slice tA tn tc] u4.drew λe w'=>e=.returned (.int .i64 le)/\w'=u4.drew:=by
       have:=Ht u4.drew ⟨tA,tn,tc,tV⟩ (hTok.quiet hTd) HTN (by have:=HTO.2.2.1;unfold maxLen;simp only at this ⊢;omega)
       rw[HLEE.out] at this
       exact this
      have HLE:=aB hLE
      have HOW:=aB HLC.1.own
      have HNC:Hid (some C≠(Value.slice aA i ac).ownBlock):=aB (λe=>(aH HLC.1.own e.symm).ne (aF HLC.1.b2) (by decide) rfl)
      clear hTd hLE hTok
      go_region_law (first
       | (refine step_append_lies _ rfl (.tmp 66) (.tmp 75) 168 rfl 0 173 i9 _ 3 24 Tryz.underlying168 hi9 hz90 hz91 hz92 (by decide) (by decide) (.slice aA i ac) i _ (by simp[Act.eval]) (aD HOW ((aC.refl _ _).alloc _).drew (λ_ _ f=>f)) ⟨u4.heap.size,0,none⟩ 1 1 [.int .i32 (c:Int),.int .i64 le,.int .i64 ((aY f (KV.p ⟨kA,kn,kcc,kX,qA,qn,qc,kZ⟩) (RL.p ⟨tA,tn,tc,tV⟩)).2:Int)] (by simp[Act.eval]) rfl ?news ?one (by decide) ?b1 ?b2 (qQd _) _ rfl ?_;(case news=>exact World.news_of_block (aL.new u4 _ _));(case one=>exact List.all_eq_true.1 rfl);(case b1=>unfold maxLen;omega);(case b2=>omega);intro g4 cap4 w9 hown hgrow hlies _;have hbC:=((HLC.1.b2.alloc (.cells #[.int .i32 (c:Int),.int .i64 le,.int .i64 ((aY f (KV.p ⟨kA,kn,kcc,kX,qA,qn,qc,kZ⟩) (RL.p ⟨tA,tn,tc,tV⟩)).2:Int)] 173)).drew).grown hgrow HNC.out;obtain⟨q1,q2,q3⟩:=hbC.facts;have HN2:=aB (aDu HLC.1 hBw (by have:=HCC.out;have:=HT12.size;omega) (((aC.refl (λ_=>False) u4).alloc _).drew) c le (aY f (KV.p ⟨kA,kn,kcc,kX,qA,qn,qc,kZ⟩) (RL.p ⟨tA,tn,tc,tV⟩)).2 hown hgrow (by rcases hlies with e | e;exact .inl e.symm;exact .inr ⟨g4,rfl,by rw[e];exact qJa _⟩));clear hown hgrow hlies hbC)
       | (go_simp;refine (HLE).mono ?_;rintro e v9 ⟨rfl,rfl⟩;go_simp))
      all_goals
       go_wp2_with fail
       go_roundw
       ·refine⟨i+1,⟨kA',kn',kcc',kX',qA',qn',qc',kZ'⟩,some ⟨g4,0,none⟩,cap4,arcs++[(c,le,(aY f (KV.p ⟨kA,kn,kcc,kX,qA,qn,qc,kZ⟩) (RL.p ⟨tA,tn,tc,tV⟩)).2)],by simp,by omega,HN2,aB ?_⟩
        rw[HSN.out,xF,HP.out]
        simp only
        rw[<-HTO.2.1,HLEE.out,<-HP2.out]
       ·show fq-(intOf (.int .i64 ((i:Int)+1))).toNat<fq-(intOf (.int .i64 (i:Int))).toNat
        simp[intOf]
        omega
     ·have hiq:i=fq:=by omega
      subst hiq
      have hpf:=HP.out
      rw[qJd (by rw[HFL.out];exact qJa _),HFF.out,HMP.out] at hpf
      have hep:=Qm HG HS HD HF hpf
      have hsn:=Nc (by rw[<-HMP.out];exact HIX) hpf
      obtain⟨kA,kn,kcc,kX,qA,qn,qc,kZ⟩:=kc
      have hkn:kn<=1000000:=by
       have h1:=HL.ok.rl
       have h2:=hep.1
       have h3:=hep.2
       simp only[KV.p,qXa] at h1 h2 h3
       omega
      have hqn:qn<=1000000:=by
       have h1:=HL.ok.sl
       have h3:=hep.2
       simp only[KV.p,qXa] at h1 h3
       omega
      have HSN:=aB hsn
      have HQL:Hid (qn=(KV.p ⟨kA,kn,kcc,kX,qA,qn,qc,kZ⟩).states.length):=aB (by have h1:=HL.ok.sl;simp only[KV.p,qXa];exact h1.symm)
      have hBw:w.heap.size<=B:=by have:=HBB.out;omega
      have hb0:=HL.b0
      simp only[KV.r,KV.s] at hb0
      have hrO:=HL.ok.r
      simp only[KV.r] at hrO
      obtain⟨x0,x1,x2⟩:=hb0.facts
      have HRO:=aB hrO
      have HNB:Hid (some B≠(Value.slice kA kn kcc).ownBlock):=aB (λe=>(aH hrO e.symm).ne (aF hb0) (by decide) rfl)
      have HB9:=aB hb0
      clear hpf hep hsn hb0 hrO
      go_wp2_with (at_builtin;refine aR _ rfl (.tmp 79) (.tmp 81) 227 rfl 225 i8 _ 1 24 Tryz.underlying227 hi8 hz80 hz81 hz82 rfl (by decide) (.slice kA kn kcc) kn _ rfl (aD HRO ((aC.refl _ _).alloc _) (λ_ _ f=>f)) (some ⟨_,0,none⟩) 1 1 [.slice mA mn mc] rfl ?ra ?rb ?rc ?rd ?re ?_)
      case ra=>exact aI.new _ _ _ _ rfl
      try (case rb=>exact λh=>by cases h)
      case rc=>exact List.all_eq_true.1 rfl
      case rd=>unfold maxLen;omega
      case re=>omega
      intro v4 w7 hown hgrow hfr _
      obtain⟨A4,c4,rfl,_,_⟩:=aX hown
      have HL3:=aB (aAo HL hBw ((aC.refl (λ_=>False) wr).alloc _) (by unfold maxLen;simp only;omega) hown hgrow hfr)
      have hb7:=(HB9.alloc (.cells #[.slice mA mn mc] 225)).grown hgrow HNB
      obtain⟨x3,x4,x5⟩:=hb7.facts
      have hb8:=HL3.b0
      have hc8:=HL3.b2
      simp only[KV.r,KV.s] at hb8
      obtain⟨y3,y4,y5⟩:=hb8.facts
      obtain⟨y6,y7,y8⟩:=hc8.facts
      have hsO:=HL3.ok.s
      simp only[KV.s] at hsO
      have HSO:=aB hsO
      have HNB2:Hid (some B≠(Value.slice qA qn qc).ownBlock):=aB (λe=>(aH hsO e.symm).ne (aF hb8) (by decide) rfl)
      have HB8:=aB hb8
      clear hown hgrow hfr hb7 hb8 hc8 hsO
      go_wp2_with (at_builtin;refine aR _ rfl (.tmp 85) (.tmp 87) 87 rfl 170 i7 _ 3 40 Tryz.underlying87 hi7 hz70 hz71 hz72 rfl (by decide) (.slice qA qn qc) qn _ rfl (aD HSO ((aC.refl _ _).alloc _) (λ_ _ f=>f)) (some ⟨_,0,none⟩) 1 1 [.bool (eI (mV.map RV.p)),.int .i64 (jB (mV.map RV.p)),.slice aA i ac] rfl ?ta ?tb ?tc ?td ?te ?_)
      case ta =>
       have h:=aI.new (size:=3) (w7.setCell ⟨B,0,none⟩ (.slice A4 (kn+1) c4)) 170 [.bool (eI (mV.map RV.p)),.int .i64 (jB (mV.map RV.p)),.slice aA i ac] 1 rfl
       have hsz:(w7.setCell ⟨B,0,none⟩ (.slice A4 (kn+1) c4)).heap.size=w7.heap.size:=by simp[World.setCell]
       rw[hsz] at h
       exact h
      try (case tb=>exact λh=>by cases h)
      case tc=>exact List.all_eq_true.1 rfl
      case td=>unfold maxLen;omega
      case te=>omega
      intro v5 w8 hown hgrow hfr _
      obtain⟨A5,c5,rfl,_,_⟩:=aX hown
      have HKE:=aB (aDt HL3 hBw ((aC.refl (λ_=>False) _).alloc _) hown hgrow hfr)
      have hb9:=(HB8.alloc (.cells #[.bool (eI (mV.map RV.p)),.int .i64 (jB (mV.map RV.p)),.slice aA i ac] 170)).grown hgrow HNB2
      obtain⟨x6,x7,x8⟩:=hb9.facts
      obtain⟨v3,v4,v5⟩:=HKE.2.1.facts
      obtain⟨v6,v7,v8⟩:=HKE.2.2.1.facts
      clear hown hgrow hfr hb9
      go_wp2_with fail
      have z1:IntKind.i64.wrap ((qn:Int)+1-1)=(qn:Int):=qZe _ (by omega) |>.trans (by omega)
      have z2:IntKind.i64.wrap (qn:Int)=(qn:Int):=qZe _ (by omega)
      go_region
      go_wp2_with fail
      obtain⟨e1,e2,e3,e4,e5,e6,e7⟩:=HKE.out
      have hbf:=((e3.set_ 0 (.slice A4 (kn+1) c4)).set_ 1 (.slice A5 (qn+1) c5)).drew
      have f0:=hbf.cell 0
      have f1:=hbf.cell 1
      simp at f0 f1
      have hTF:aC (λx=>x=B+1) (w8.setCell ⟨B,1,none⟩ (.slice A5 (qn+1) c5)) ((((w8.setCell ⟨B,1,none⟩ (.slice A5 (qn+1) c5)).setCell ⟨B+1,0,none⟩ (.slice A4 (kn+1) c4)).setCell ⟨B+1,1,none⟩ (.slice A5 (qn+1) c5)).drew):=(((aC.refl (λx=>x=B+1) _).setCell (p:=⟨B+1,0,none⟩) (λ_=>rfl) _).setCell (p:=⟨B+1,1,none⟩) (λ_=>rfl) _).drew
      have hpM:RL.p ⟨mA,mn,mc,mV⟩=aJ (RL.p ⟨lA,mn,lc,lV⟩):=HMP.out
      refine bodyPost_ret (v:=.tuple #[.agg #[.slice A4 (kn+1) c4,.slice A5 (qn+1) c5],.int .i64 (qn:Int)]) (by simp[results,Tryz.results127,go_sem,f0,f1]) rfl ⟨⟨A4,kn+1,c4,kX++[⟨mA,mn,mc,mV⟩],A5,qn+1,c5,kZ++[⟨eI (mV.map RV.p),jB (mV.map RV.p),aA,i,ac,arcs⟩]⟩,?_,?_,?_,?_,e5,e6,e7⟩
      ·rw[HSN.out,<-HQL.out]
      ·exact e1.box e3 hTF (e1.noS (t := 229) (by decide) (by decide) _ (aF e3)) (by decide) (by decide) (by decide)
      ·rw[HSN.out,<-hpM]
       simp only[KV.p,qQb,qQa,qZb]
       rfl
      ·exact e4.trans hTF (λg hg (e:g=B+1)=>absurd hg (by omega))
theorem Dr:∀ f,Lb f
 | 0=>λ_ _ _ _ _ _ _ _ _ _ h _=>absurd h (Nat.not_lt_zero _)
 | f+1=>Nd f (Dr f)
theorem SL.Ok.touch{s:SL}(h:s.Ok w)(T:aC (λ_=>False) w w'):s.Ok w':=⟨h.len,h.reads.touch T (λ_ _ f=>f),h.nil⟩
theorem Al{L:List aE}(h:cA L):fP (aT L)<=98304:=by
 have h1:∀ l:List aE,(∀ p∈l,(dM p).length<=24)->fP (aT l)<=24*l.length:=by
  intro l
  induction l with
  | nil=>intro _;exact qJa _
  | cons p l ih =>
   intro hp
   have:=ih λq hq=>hp q (qZf _ hq)
   have:=hp p qXf
   simp only[aT,qQa,fP,qXd] at *
   omega
 have:=h1 L λp hp=>(h.word p hp).2.2.2
 have:=h.len
 omega
structure eC(w:World)(A:Option Addr)(n:Nat)(Z:List SV):Prop where
 rd:fM w 170 3 A n (dY Z)
 len:Z.length=n
 el:∀ z∈Z,z.Ok w
theorem eC.quiet{Z:List SV}(h:eC w A n Z)(T:aC (λ_=>False) w w'):eC w' A n Z:=⟨h.rd.quiet T,h.len,λz hz=>(h.el z hz).touch T (λ_ _ f=>f)⟩
def aAj:KV:=⟨none,0,0,[],none,0,0,[]⟩
theorem aAk(w:World):aAj.Ok w:=⟨World.ownsRow_nil _ _ _ _,rfl,λx hx=>(by cases hx),World.ownsRow_nil _ _ _ _,rfl,λz hz=>(by cases hz)⟩
def Zg(w:World)(A:Option Addr)(n:Nat)(Z:List SV):Prop:=(0<n->∀ g,aQ A=some g->w.heap.size<=g)/\∀ z∈Z,0<z.n->∀ g,aQ z.A=some g->w.heap.size<=g
theorem Wl(w:World)(s:SL)(hs:s.Ok w)(hD:cA s.L)(hWf:∀ r∈s.L,r.word.size<=1099511627776) :
  Calls Tryz.prog 66 #[s.val] w λe w'=>∃ A n c Z,e=.returned (.agg #[.int .i64 (bB s.L).base,.slice A n c])/\eC w' A n Z/\Z.map SV.p=(bB s.L).states/\n<=c/\c<=maxLen/\Zg w A n Z/\aC (λ_=>False) w w':=by
 by_cases hz:s.L=[]
 ·have hn:s.n=0:=by rw[<-hs.len,hz];rfl
  obtain⟨A,n,c,L⟩:=s
  simp only at hz hn
  subst hz hn
  have hm:bB []=⟨0,[]⟩:=by unfold bB;rw[if_pos rfl]
  simp only[SL.val]
  rw[hm]
  clear hs hD hWf hm
  have hb:aL (w.alloc (.cells #[.int .i64 0,.slice none 0 0] 89)) w.heap.size 89 #[.int .i64 0,.slice none 0 0]:=aL.new _ _ _
  obtain⟨x0,x1,x2⟩:=hb.facts
  have HB:=aB hb
  clear hb
  go_in
  go_wp2_with fail
  have f0:=HB.cell 0
  have f1:=HB.cell 1
  simp at f0 f1
  exact bodyPost_ret (v:=.agg #[.int .i64 0,.slice none 0 0]) (by simp[results,Tryz.results66,go_sem]) rfl ⟨none,0,0,[],rfl,⟨⟨aI.nil _ _ _,λh=>absurd h (by omega)⟩,rfl,λz hz=>(by cases hz)⟩,rfl,qJa _,by unfold maxLen;omega,⟨λh=>absurd h (by omega),λz hz=>(by cases hz)⟩,(aC.refl _ _).alloc _⟩
 ·have hn:0<s.n:=by rw[<-hs.len];exact List.length_pos_iff.2 hz
  have hm:bB s.L=⟨aW (aT s.L),(aY 25 ⟨[],[]⟩ (aT s.L)).1.states⟩:=by unfold bB;rw[if_neg hz]
  rw[hm]
  have HNE:=aB hz
  have HD:=aB hD
  have HSS:=aB hs
  have HRS:=aB (λw1 T=>Si w1 s (hs.touch (w':=w1) T) hD hWf)
  have hn4:s.n<=4096:=by rw[<-hs.len];exact hD.len
  obtain⟨A,n,c,L⟩:=s
  simp only at hn hn4 HNE HD
  simp only[SL.val] at HRS ⊢
  clear hs hD hWf hz hm
  obtain⟨B,hB⟩:=eX w.heap.size
  obtain⟨w0,hw0⟩:=eX (w.alloc (.cells #[.int .i64 0,.slice none 0 0] 89))
  have hb:aL w0 B 89 #[.int .i64 0,.slice none 0 0]:=by rw[hw0,hB];exact aL.new _ _ _
  have hT0:aC (λ_=>False) w w0:=by rw[hw0];exact (aC.refl _ _).alloc _
  have HW0:=aB hw0
  have HBB:=aB hB
  have HB0:=aB hb
  have HT0:=aB hT0
  have y0:((n:Int) == 0)=false:=by simp;omega
  have y1:¬ (n:Int)=0:=by omega
  clear hw0 hB hb hT0
  go_in
  go_wp2_with fail
  rw[<-HW0.out,<-HBB.out]
  refine (HRS w0 HT0).mono ?_
  rintro e w1 ⟨⟨rA,rn,rc,rV⟩,rfl,hr1,hr2,hr3,hr4,T1⟩
  simp only[RL.val]
  simp only at hr2 hr3
  subst hr3
  have HR1:=aB hr1
  have HT1:=aB (HT0.then T1)
  have HB1:=aB (HB0.touch T1 (λf=>f))
  have hst:=Dr 25 w1 aAj ⟨rA,rn,rc,rV⟩ (aAk _) rY hr1 hr4 (by rw[hr2];exact HD.sort) hn hn4 (by rw[hr2];exact mP HD) (by rw[hr2];have:=Al HD.out;simp only[aAj,KV.p,qZb,List.length_nil];omega)
  have HP:=aB hr2
  have HBD:=aB hr4
  rw[hr2] at hst
  have hst2:Calls Tryz.prog 127 #[.agg #[.slice none 0 0,.slice none 0 0],.slice rA rn rc] w1 _:=hst
  have HST:=aB hst2
  clear hst hst2 hr1 hr2 hr4 T1 HRS
  go_wp2_with fail
  refine HST.mono ?_
  rintro e w2 ⟨⟨kA,kn,kc,kX,qA,qn,qc,kZ⟩,rfl,ho,hp,T2,_,hfs,hzs⟩
  have HFS:=aB (And.intro hfs hzs)
  clear hfs hzs
  have HW1:=aB HT1.size
  simp only[KV.val,KV.r,KV.s]
  have T2':aC (λ_=>False) w1 w2:=T2.mono (λg _ h=>by rcases h with h | h<;>simp[aAj,KV.r,KV.s,Value.ownBlock] at h)
  have HO:=aB ho
  have HKP:=aB hp
  have hb2:=HB1.touch T2' (λf=>f)
  obtain⟨x0,x1,x2⟩:=hb2.facts
  have HT2:=aB (HT1.then T2')
  have HR2:=aB (HR1.quiet T2')
  have HB2:=aB hb2
  clear ho hp T2 T2' hb2 HST
  obtain⟨u,hu⟩:=eX (w2.alloc (.cells #[.slice kA kn kc,.slice qA qn qc] 229))
  obtain⟨D,hDD⟩:=eX w2.heap.size
  have hTu:aC (λ_=>False) w2 u:=by rw[hu];exact (aC.refl _ _).alloc _
  have hbD:aL u D 229 #[.slice kA kn kc,.slice qA qn qc]:=by rw[hu,hDD];exact aL.new _ _ _
  have hbB:=HB2.touch hTu (λf=>f)
  have HU:=aB hu
  have HDD:=aB hDD
  have HTU:=aB hTu
  have HBB3:=aB hbB
  have hLE:Calls Tryz.prog 128 #[.slice rA rn rc] u.drew λe w'=>e=.returned (.int .i64 (aW (aT L)))/\w'=u.drew:=by
   have:=Ht u.drew ⟨rA,rn,rc,rV⟩ ((HR2.quiet hTu).quiet (aC.refl _ _).drew) hn (by unfold maxLen;simp only;omega)
   rw[HP.out] at this
   exact this
  have HLE:=aB hLE
  obtain⟨y3,y4,y5⟩:=hbD.facts
  obtain⟨z3,z4,z5⟩:=hbB.facts
  clear hu hDD hTu hbD hbB hLE
  go_wp2_with fail
  rw[<-HU.out,<-HDD.out]
  go_region_law (go_simp;refine (HLE).mono ?_;rintro e v9 ⟨rfl,rfl⟩;go_simp)
  all_goals
   go_wp2_with fail
   have hbf:=((HBB3.set_ 0 (.int .i64 (aW (aT L)))).set_ 1 (.slice qA qn qc)).drew
   have f0:=hbf.cell 0
   have f1:=hbf.cell 1
   simp at f0 f1
   have hTF:aC (λx=>x=B) u ((((u.setCell ⟨B,0,none⟩ (.int .i64 (aW (aT L)))).setCell ⟨B,1,none⟩ (.slice qA qn qc)).drew)):=(((aC.refl (λx=>x=B) _).setCell (p:=⟨B,0,none⟩) (λ_=>rfl) _).setCell (p:=⟨B,1,none⟩) (λ_=>rfl) _).drew
   have ho:=HO.quiet HTU
   have hnB:∀ t,t ≠ 89 -> ∀ g,bE u g t->¬ g=B:=λt ht g hg e=>hg.ne (aF HBB3) ht e
   have hos:=ho.s
   simp only[KV.s] at hos
   refine bodyPost_ret (v:=.agg #[.int .i64 (aW (aT L)),.slice qA qn qc]) (by simp[results,Tryz.results66,go_sem,f0,f1]) rfl ⟨qA,qn,qc,kZ,rfl,⟨(fM.of_own hos).touch hTF (hnB _ (by decide)),ho.sl,λz hz=>(ho.se z hz).touch hTF (hnB _ (by decide))⟩,?_,(cT hos).1,(cT hos).2,⟨?_,?_⟩,?_⟩
   ·exact congrArg iJ.states HKP
   ·intro _ g hg
    have hg2:(Value.slice qA qn qc).ownBlock=some g:=by
     cases qA with
     | none=>cases hg
     | some a=>exact hg
    rcases HFS.1 with e | ⟨g2,e,hle⟩
    ·have e2:(Value.slice qA qn qc).ownBlock=none:=e
     rw[hg2] at e2
     cases e2
    ·have e2:(Value.slice qA qn qc).ownBlock=some g2:=e
     rw[hg2] at e2
     injection e2 with e2
     have:=HW1.out
     omega
   ·intro z hz hn0 g hg
    rcases HFS.2 z hz with e | e
    ·cases e
    ·have h1:=e hn0 g hg
     have:=HW1.out
     omega
   ·refine ((HT2.then HTU).up _ |> λ(h:aC (λx=>x=B) w u)=>(h.then hTF)).mono ?_ |> id
    intro g hg e
    have:=HBB.out
    omega
theorem Wk(w:World)(s:SL)(hs:s.Ok w)(hD:cA s.L)(hWf:∀ r∈s.L,r.word.size<=1099511627776) :
  Calls Tryz.prog 66 #[s.val] w λe w'=>∃ A n c Z,e=.returned (.agg #[.int .i64 (bB s.L).base,.slice A n c])/\eC w' A n Z/\Z.map SV.p=(bB s.L).states/\n<=c/\c<=maxLen/\aC (λ_=>False) w w' :=
 (Wl w s hs hD hWf).mono λ_ _ ⟨A,n,c,Z,h1,h2,h3,h4,h5,_,h6⟩=>⟨A,n,c,Z,h1,h2,h3,h4,h5,h6⟩
structure aDc(w:World)(p:Addr)(base:Int)(A:Option Addr)(n c:Nat)(Z:List SV)(wv:Value):Prop where
 blk:∃ b,p=⟨b,0,none⟩/\aL w b 167 #[.int .i64 base,.slice A n c,wv]
 sts:eC w A n Z
theorem aDc.quiet{p:Addr}{Z:List SV}{wv:Value}(h:aDc w p base A n c Z wv)(T:aC (λ_=>False) w w'):aDc w' p base A n c Z wv:=by
 obtain⟨b,e,hb⟩:=h.blk
 exact⟨⟨b,e,hb.touch T (λf=>f)⟩,h.sts.quiet T⟩
theorem It(w:World)(b:Nat)(base:Int)(A:Option Addr)(n c:Nat)(wv:Value)(hb:aL w b 167 #[.int .i64 base,.slice A n c,wv])(hn:n<=1000000) :
  Calls Tryz.prog 98 #[.pointer (some ⟨b,0,none⟩)] w λe w'=>e=.returned (.int .i64 ((n:Int)-1))/\w'=w:=by
 obtain⟨x0,x1,x2⟩:=hb.facts
 have z1:IntKind.i64.wrap ((n:Int)-1)=(n:Int)-1:=qZe _ (by omega)
 go_in
 go_wp2
 go_ret
 exact⟨rfl,rfl⟩
theorem uC(X:List SV)(z0:SV)(k:Nat)(hk:k<X.length)(j:Nat)(hj:j<3):(dY X)[k*3+j]? = some ((X.getD k z0).cells.getD j undef):=by
 induction X generalizing k with
 | nil=>simp at hk
 | cons x X ih =>
  have e:dY (x :: X)=x.cells++dY X:=rfl
  cases k with
  | zero =>
   rw[e,Nat.zero_mul,qQe]
   obtain rfl | rfl | rfl:j=0\/j=1\/j=2:=by omega
   ·rfl
   ·rfl
   ·rfl
  | succ k =>
   rw[e,qQf (by simp[SV.cells];omega)]
   have:(k+1)*3+j-x.cells.length=k*3+j:=by simp[SV.cells];omega
   rw[this,ih k (by simp at hk;omega)]
   simp[qZa]
theorem sZ(X:List (Nat × Int × Nat))(k:Nat)(hk:k<X.length)(j:Nat)(hj:j<3):(dI X)[k*3+j]? = some ([.int .i32 ((X.getD k (0,0,0)).1:Int),.int .i64 (X.getD k (0,0,0)).2.1,.int .i64 ((X.getD k (0,0,0)).2.2:Int)].getD j undef):=by
 induction X generalizing k with
 | nil=>simp at hk
 | cons x X ih =>
  have e:dI (x :: X)=[.int .i32 (x.1:Int),.int .i64 x.2.1,.int .i64 (x.2.2:Int)]++dI X:=rfl
  cases k with
  | zero =>
   rw[e,Nat.zero_mul,qQe]
   obtain rfl | rfl | rfl:j=0\/j=1\/j=2:=by omega
   ·rfl
   ·rfl
   ·rfl
  | succ k =>
   rw[e,qQf (by simp;omega)]
   have:(k+1)*3+j-[Value.int .i32 (x.1:Int),.int .i64 x.2.1,.int .i64 (x.2.2:Int)].length=k*3+j:=by simp;omega
   rw[this,ih k (by simp at hk;omega)]
   simp[qZa]
def cE:SV:=⟨false,0,none,0,0,[]⟩
theorem lE{X:List SV}(h:aI w 3 A n (dY X))(hn:X.length=n)(k:Nat)(hk:k<n) :
  ∃ g off,A=some ⟨g,off,none⟩/\g<w.heap.size/\w.cell? ⟨g,off+k*3,none⟩=some (.bool (X.getD k cE).fin)/\w.cell? ⟨g,off+k*3+1,none⟩=some (.int .i64 (X.getD k cE).out)/\w.cell? ⟨g,off+k*3+2,none⟩=some (.slice (X.getD k cE).A (X.getD k cE).n (X.getD k cE).c):=by
 obtain⟨b,off,hA,hb,hc⟩:=h.2 (by omega)
 refine⟨b,off,hA,hb,?_,?_,?_⟩
 ·exact hc (k*3) _ (uC X cE k (by omega) 0 (by omega))
 ·rw[qXc];exact hc (k*3+1) _ (uC X cE k (by omega) 1 (by omega))
 ·rw[qXc];exact hc (k*3+2) _ (uC X cE k (by omega) 2 (by omega))
theorem fT{X:List (Nat × Int × Nat)}(h:aI w 3 A n (dI X))(hn:X.length=n)(k:Nat)(hk:k<n) :
  ∃ g off,A=some ⟨g,off,none⟩/\g<w.heap.size/\w.cell? ⟨g,off+k*3,none⟩=some (.int .i32 ((X.getD k (0,0,0)).1:Int))/\w.cell? ⟨g,off+k*3+1,none⟩=some (.int .i64 (X.getD k (0,0,0)).2.1)/\w.cell? ⟨g,off+k*3+2,none⟩=some (.int .i64 ((X.getD k (0,0,0)).2.2:Int)):=by
 obtain⟨b,off,hA,hb,hc⟩:=h.2 (by omega)
 refine⟨b,off,hA,hb,?_,?_,?_⟩
 ·exact hc (k*3) _ (sZ X k (by omega) 0 (by omega))
 ·rw[qXc];exact hc (k*3+1) _ (sZ X k (by omega) 1 (by omega))
 ·rw[qXc];exact hc (k*3+2) _ (sZ X k (by omega) 2 (by omega))
theorem Ne(l:List (Nat × Int × Nat))(a:Nat × Int × Nat)(r:Nat)(p:Int × Int):iW (l++[a]) r p=if a.1=r then ((a.2.2:Int),(iW l r p).2+a.2.1) else iW l r p:=by
 unfold iW
 rw[qJe]
 rfl
structure aCk(n:Nat)(Z:List SV):Prop where
 lab:∀ z∈Z,(z.arcs.map (·.1)).Nodup
 arc:∀ z∈Z,∀ a∈z.arcs,0<=a.2.1/\a.2.1<=1048576/\a.2.2<n
 out:∀ z∈Z,0<=z.out/\z.out<=1048576
theorem Jv{l:List (Nat × Int × Nat)}{r:Nat}(hn:(l.map (·.1)).Nodup)(hb:∀ a∈l,0<=a.2.1/\a.2.1<=1048576/\a.2.2<n)(sum:Int):sum<=(iW l r (-1,sum)).2/\(iW l r (-1,sum)).2<=sum+1048576/\-1<=(iW l r (-1,sum)).1/\(iW l r (-1,sum)).1<n:=by
 by_cases h:r∈l.map (·.1)
 ·obtain⟨a,ha,hr⟩:=List.mem_map.1 h
  rw[Af hn ha hr]
  have:=hb a ha
  simp only
  omega
 ·rw[rC h]
  simp only
  omega
theorem kJ(l:List UInt8):(⟨l.toArray⟩:ByteArray).toList=l:=by rw[Go.ByteArray.toList_eq]
def gW(U:List S3):List Value:=U.flatMap λu=>[.int .i64 u.1,.int .i64 u.2.1,.int .i64 u.2.2]
theorem pR(X:List S3)(k:Nat)(hk:k<X.length)(j:Nat)(hj:j<3):(gW X)[k*3+j]? = some ([.int .i64 (X.getD k z3).1,.int .i64 (X.getD k z3).2.1,.int .i64 (X.getD k z3).2.2].getD j undef):=by
 induction X generalizing k with
 | nil=>simp at hk
 | cons x X ih =>
  have e:gW (x :: X)=[.int .i64 x.1,.int .i64 x.2.1,.int .i64 x.2.2]++gW X:=rfl
  cases k with
  | zero =>
   rw[e,Nat.zero_mul,qQe]
   obtain rfl | rfl | rfl:j=0\/j=1\/j=2:=by omega
   ·rfl
   ·rfl
   ·rfl
  | succ k =>
   rw[e,qQf (by simp;omega)]
   have:(k+1)*3+j-[Value.int .i64 x.1,Value.int .i64 x.2.1,Value.int .i64 x.2.2].length=k*3+j:=by simp;omega
   rw[this,ih k (by simp at hk;omega)]
   simp[qZa]
theorem Fv{X:List S3}(h:aI w 3 A n (gW X))(hn:X.length=n)(k:Nat)(hk:k<n) :
  ∃ g off,A=some ⟨g,off,none⟩/\g<w.heap.size/\w.cell? ⟨g,off+k*3,none⟩=some (.int .i64 (X.getD k z3).1)/\w.cell? ⟨g,off+k*3+1,none⟩=some (.int .i64 (X.getD k z3).2.1)/\w.cell? ⟨g,off+k*3+2,none⟩=some (.int .i64 (X.getD k z3).2.2):=by
 obtain⟨b,off,hA,hb,hc⟩:=h.2 (by omega)
 refine⟨b,off,hA,hb,?_,?_,?_⟩
 ·exact hc (k*3) _ (pR X k (by omega) 0 (by omega))
 ·rw[qXc];exact hc (k*3+1) _ (pR X k (by omega) 1 (by omega))
 ·rw[qXc];exact hc (k*3+2) _ (pR X k (by omega) 2 (by omega))
def mJ(x:Int):Prop:=-9223372036854775808<=x/\x<=9223372036854775807
theorem Ao(x:Int):mJ (wrap64 x):=by unfold mJ wrap64;omega
def nH(s:List Bool):Array Value:=(s.map Value.bool).toArray
theorem xI(s:List Bool)(i:Nat)(h:i<s.length):(nH s)[i]? = some (.bool (s.getD i false)):=by
 simp[nH,qZa,h]
theorem Le(s:List Bool)(i:Nat)(b:Bool):(nH s).setIfInBounds i (.bool b)=nH (s.set i b):=by
 simp[nH,List.map_set]
theorem oW{v:Nat->List Bool->Nat->Bool × List Bool × Nat}(hv:∀ i s n,(v i s n).2.1.length=s.length):∀ l s n,(dJ v l s n).2.1.length=s.length
 | [],_,_=>rfl
 | a :: l,s,n=>by
  simp only[dJ]
  split
  ·exact oW hv l s n
  ·have h:=hv a.2.2 s n
   split
   ·rename_i s' n' e
    rw[e] at h
    rw[oW hv l s' n']
    exact h
   ·rename_i s' n' e
    rw[e] at h
    exact h
theorem Kk(sts:List bP):∀ f i s n,(fC sts f i s n).2.1.length=s.length
 | 0,_,_,_=>rfl
 | f+1,i,s,n=>by
  simp only[fC]
  have h:=oW (Kk sts f) (sts.getD i aS).arcs s n
  split
  ·rename_i s' n' e
   rw[e] at h
   simp only[List.length_set]
   exact h
  ·rename_i s' n' e
   rw[e] at h
   exact h
theorem Vt:(Tryz.prog.info? 4).map (λi=>(i.zero,i.size,i.bytes))=some (some (.bool false),1,1):=by kernel_rfl
theorem Wr{base:Nat}{e:TypeId}(h:w.ownsRow base e size (.slice (some ⟨g,0,none⟩) n n) n xs):aL w g e xs.toArray:=by
 obtain⟨hl,h | ⟨g',cap,cur,hv,_,hg,_,_,hsz,htk⟩⟩:=h
 ·simp at h
 ·injection hv with h1 h2 h3
  simp only[Option.some.injEq,Addr.mk.injEq] at h1
  obtain⟨rfl,_⟩:=h1
  subst h3
  have:cur.toList=xs:=by rw[<-htk,qJd (by simp[hsz])]
  rw[<-this]
  exact hg
section
open Go.RowKit Go.WideMaps Go.WideElems Go.ChangeShapes Go.WideShapes Go.MapKept Go.ChangeMaps
theorem rZ:ArrKey Tryz.prog 246 3 4:=⟨Tryz.underlying246,by kernel_rfl,by kernel_rfl,by kernel_rfl⟩
theorem fR:KeyLaw Tryz.prog 246 := rZ.law
theorem aDo:Tryz.prog.keyType 246 = true:=by kernel_rfl
theorem Ca:Tryz.prog.cellsOf 3 = 1:=by kernel_rfl
theorem Mc{x:Int}(h:mJ x):(Lit.int .i64 x).wf=true:=by
 have h1:IntKind.i64.min = -9223372036854775808:=by decide
 have h2:IntKind.i64.max=9223372036854775807:=by decide
 unfold mJ at h
 simp only[Lit.wf,h1,h2,Bool.and_eq_true,decide_eq_true_eq]
 exact h
theorem aAd{a b c d:Int}(ha:mJ a)(hb:mJ b)(hc:mJ c)(hd:mJ d):∃ l,keyOf Tryz.prog 246 (.agg #[.int .i64 a,.int .i64 b,.int .i64 c,.int .i64 d])=some l:=by
 have hs:∃ m,Tryz.prog.types.size=m+1:=⟨Tryz.prog.types.size-1,by kernel_rfl⟩
 obtain⟨m,hm⟩:=hs
 refine⟨.string (keyBytes [.int .i64 a,.int .i64 b,.int .i64 c,.int .i64 d]),?_⟩
 unfold keyOf
 simp only[rZ.hu,aDo,Value.formed,rZ.size,Bool.true_and]
 rw[hm]
 unfold Program.keyLits
 simp only[rZ.hu,rZ.size,Value.cells]
 have e1:∀ x,mJ x->Tryz.prog.keyLits (m+1) 3 [.int .i64 x]=some [.int .i64 x]:=by
  intro x hx
  unfold Program.keyLits
  simp[Tryz.underlying3,Mc hx]
 simp[List.range,List.range.loop,Ca,e1 _ ha,e1 _ hb,e1 _ hc,e1 _ hd]
def oN(k:Nat):Value:=.int .i64 k
def mM(w:World)(m:Nat)(v:Value)(xs:List Nat):Prop:=w.ownsRow 0 3 1 v xs.length (xs.map oN)/\xs.length<=m/\∀ k∈xs,k<m
structure Gd(w:World)(B b m:Nat)(es:Array MapEntry)(clock:Nat):Prop where
 blk:w.heap[b]? = some (.map es clock)
 stamped:Stamped es clock
 keys:∀ x∈es.toList,∃ l,keyOf Tryz.prog 246 x.key=some l
 vals:∀ (i:Nat) (x:MapEntry),es[i]? = some x->∃ xs,mM w m x.val xs
 young:∀ (i:Nat) (x:MapEntry),es[i]? = some x->∀ g,x.val.ownBlock=some g->B<=g
 apart:∀ (i j:Nat) (x y:MapEntry),es[i]? = some x->es[j]? = some y->i≠j->∀ g,x.val.ownBlock=some g->y.val.ownBlock≠some g
theorem mM.nil(w:World)(m:Nat):mM w m (.slice none 0 0) []:=⟨World.ownsRow_nil _ _ _ _,qQd _,λk hk=>(by cases hk)⟩
theorem lY(h:bE w g t)(hb:w.heap[b]? = some (.map es clock)):g≠b:=by
 obtain⟨cs,fr,hg⟩:=h
 intro e
 rw[e,hb] at hg
 cases hg
theorem dF(w:World)(b:Nat)(o:Obj):aC (λx=>x=b) w (setBlock w b o) :=
 ⟨rfl,rfl,rfl,by simp[setBlock],λk _ hk=>by
  have:b≠k:=λe=>hk e.symm
  simp[setBlock,this]⟩
theorem eY{o:Obj}(h:b<w.heap.size):(setBlock w b o).heap[b]? = some o:=by
 simp[setBlock,h]
theorem nL{o:Obj}(h:w.heap[b]? = some o):b<w.heap.size:=by
 rcases Nat.lt_or_ge b w.heap.size with h1 | h1
 ·exact h1
 ·rw[Array.getElem?_eq_none h1] at h;cases h
theorem mM.touch{v:Value}{xs:List Nat}(h:mM w m v xs)(T:aC S w w')(hs:∀ g,v.ownBlock=some g->¬ S g):mM w' m v xs:=⟨aD h.1 T hs,h.2⟩
theorem Gd.quiet(h:Gd w B b m es clock)(T:aC (λ_=>False) w w'):Gd w' B b m es clock :=
 ⟨(T.block b (nL h.blk) (λf=>f)).trans h.blk,h.stamped,h.keys,λi x hx=>by
   obtain⟨xs,hr⟩:=h.vals i x hx
   exact⟨xs,hr.touch T (λ_ _ f=>f)⟩,h.young,h.apart⟩
theorem Gd.far(h:Gd w B b m es clock)(T:aC S w w')(hb:¬ S b)(hs:∀ g,bE w g 3 -> ¬ S g):Gd w' B b m es clock :=
 ⟨(T.block b (nL h.blk) hb).trans h.blk,h.stamped,h.keys,λi x hx=>by
   obtain⟨xs,hr⟩:=h.vals i x hx
   exact⟨xs,hr.touch T (λg hg=>hs g (aH hr.1 hg))⟩,h.young,h.apart⟩
theorem Gd.up{m':Nat}(h:Gd w B b m es clock)(hm:m<=m'):Gd w B b m' es clock :=
 ⟨h.blk,h.stamped,h.keys,λi x hx=>by
  obtain⟨xs,h1,h2,h3⟩:=h.vals i x hx
  exact⟨xs,h1,by omega,λk hk=>by have:=h3 k hk;omega⟩,h.young,h.apart⟩
theorem Gd.lookup(h:Gd w B b m es clock){key:Value}{l:Lit}(hk:keyOf Tryz.prog 246 key=some l) :
  ∃ v xs,(Instr.lookup 241 (.map (some b)) key false).run Tryz.prog w=.ok v w/\mM w m v xs:=by
 rcases fR.find w hk es.toList h.keys with⟨h1,h2⟩ | ⟨j,e0,h1,h2,h3⟩
 ·refine⟨.slice none 0 0,[],?_,mM.nil _ _⟩
  simp[Instr.lookup,run_underlying Tryz.underlying241,MapKept.run_getObj_map h.blk,fR.check w _ hk,h1,Result.andThen]
 ·obtain⟨xs,hr⟩:=h.vals j e0 (by simpa using h2)
  refine⟨e0.val,xs,?_,hr⟩
  simp[Instr.lookup,run_underlying Tryz.underlying241,MapKept.run_getObj_map h.blk,fR.check w _ hk,h1,Result.andThen]
theorem Gd.entry(h:Gd w B b m es clock){key:Value}{l:Lit}(hk:keyOf Tryz.prog 246 key=some l) :
  ∃ (es1:Array MapEntry) (clock1 j:Nat) (e0:MapEntry),(Instr.mapEntry 241 (.map (some b)) key).run Tryz.prog w=.ok (.tuple #[e0.val,goInt e0.born]) (setBlock w b (.map es1 clock1))/\Gd (setBlock w b (.map es1 clock1)) B b m es1 clock1/\es1[j]? = some e0:=by
 have hT:=λo=>dF w b o
 have hlt:=nL h.blk
 have hne:∀ (i:Nat) (x:MapEntry),es[i]? = some x->∀ g,x.val.ownBlock=some g->¬ g=b:=by
  intro i x hx g hg
  obtain⟨xs,hr⟩:=h.vals i x hx
  exact lY (aH hr.1 hg) h.blk
 rcases fR.find w hk es.toList h.keys with⟨h1,h2⟩ | ⟨j,e0,h1,h2,h3⟩
 ·refine⟨es.push ⟨key,.slice none 0 0,clock⟩,clock+1,es.size,⟨key,.slice none 0 0,clock⟩,?_,⟨eY hlt,stamped_push h.stamped h2,?_,?_,?_,?_⟩,by simp⟩
  ·simp[Instr.mapEntry,run_underlying Tryz.underlying241,MapKept.run_getObj_map h.blk,fR.check w false hk,h1,MapKept.run_setObj_map _ h.blk,Result.andThen,setBlock]
  ·intro x hx
   simp only[Array.toList_push,qZc,qJb] at hx
   rcases hx with hx | rfl
   ·exact h.keys x hx
   ·exact⟨l,hk⟩
  ·intro i x hx
   rw[Array.getElem?_push] at hx
   split at hx
   ·injection hx with hx
    subst hx
    exact⟨[],mM.nil _ _⟩
   ·obtain⟨xs,hr⟩:=h.vals i x hx
    exact⟨xs,hr.touch (hT _) (hne i x hx)⟩
  ·intro i x hx g hg
   rw[Array.getElem?_push] at hx
   split at hx
   ·injection hx with hx
    subst hx
    cases hg
   ·exact h.young i x hx g hg
  ·intro i j x y hx hy hij g hg
   rw[Array.getElem?_push] at hx hy
   split at hx
   ·injection hx with hx
    subst hx
    cases hg
   ·split at hy
    ·injection hy with hy
     subst hy
     intro e
     cases e
    ·exact h.apart i j x y hx hy hij g hg
 ·have hj:es[j]? = some e0:=by simpa using h2
  have hsame:es.modify j (λe=>{ e with key:=key })=es:=by
   apply Array.ext'
   rw[Array.toList_modify,modify_eq_set _ _ _ _ h2]
   have:({ e0 with key:=key }:MapEntry)=e0:=by rw[<-h3]
   rw[this]
   exact set_self _ _ _ h2
  refine⟨es,clock,j,e0,?_,⟨eY hlt,h.stamped,h.keys,λi x hx=>?_,h.young,h.apart⟩,hj⟩
  ·simp[Instr.mapEntry,run_underlying Tryz.underlying241,MapKept.run_getObj_map h.blk,fR.check w false hk,h1,hj,h3,fR.stays w hk,hsame,MapKept.run_setObj_map _ h.blk,Result.andThen,setBlock]
  ·obtain⟨xs,hr⟩:=h.vals i x hx
   exact⟨xs,hr.touch (hT _) (hne i x hx)⟩
theorem Gd.store{w6:World}{e0:MapEntry}(h:Gd w B b m es clock)(hj:es[j]? = some e0){v1:Value}{xs:List Nat}(hg:w.grownBy w6 e0.val.ownBlock)(hf:bJ w e0.val v1)(hv:mM w6 (m+1) v1 xs)(hB:B<=w.heap.size) :
  ∃ es',(Instr.entryStore 241 (.map (some b)) (goInt e0.born) v1).run Tryz.prog w6=.ok () (setBlock w6 b (.map es' clock))/\Gd (setBlock w6 b (.map es' clock)) B b (m+1) es' clock:=by
 have hlt:=nL h.blk
 have hnb:∀ (i:Nat) (x:MapEntry),es[i]? = some x->∀ g,x.val.ownBlock=some g->¬ g=b:=by
  intro i x hx g hg
  obtain⟨xs,hr⟩:=h.vals i x hx
  exact lY (aH hr.1 hg) h.blk
 have hT6:aC (λx=>e0.val.ownBlock=some x) w w6:=(aC.refl _ _).grown hg (λk hk _=>hk)
 have hb6:w6.heap[b]? = some (.map es clock):=(hT6.block b hlt (λe=>hnb j e0 hj b e rfl)).trans h.blk
 have hT7:=λo=>dF w6 b o
 have hl:es.toList[j]? = some e0:=by simpa using hj
 have hidx:es.findIdx? (λe=>((e.born:Nat):Int) == ((e0.born:Nat):Int))=some j:=by
  rw[findIdx_arr]
  exact findIdx_born h.stamped.2.1 hl
 have hget:∀ i:Nat,(es.modify j (λe=>{ e with val:=v1 }))[i]? = if j=i then (es[i]?).map (λe=>{ e with val:=v1 }) else es[i]? := by
  intro i
  rw[Array.getElem?_modify]
 refine⟨es.modify j (λe=>{ e with val:=v1 }),?_,⟨eY (nL hb6),stamped_modify h.stamped j _ (λ_ _=>rfl) (λ_ _ _=>rfl),?_,?_,?_,?_⟩⟩
 ·simp[Instr.entryStore,MapKept.run_getObj_map hb6,asInt,asIntOf,goInt,hidx,MapKept.run_setObj_map _ hb6,Result.andThen,setBlock]
 ·intro x hx
  rw[Array.toList_modify,modify_eq_set _ _ _ _ hl] at hx
  rcases List.mem_or_eq_of_mem_set hx with hx | rfl
  ·exact h.keys x hx
  ·exact h.keys e0 (List.mem_of_getElem? hl)
 ·intro i x hx
  rw[hget] at hx
  split at hx
  ·rename_i hji
   subst hji
   rw[hj] at hx
   simp only[Option.map_some,Option.some.injEq] at hx
   subst hx
   refine⟨xs,hv.touch (hT7 _) λg hg' e=>?_⟩
   exact lY (aH hv.1 hg') hb6 e
  ·rename_i hji
   obtain⟨ys,hr⟩:=(h.up (Nat.le_succ m)).vals i x hx
   refine⟨ys,(hr.touch hT6 λg hg' e=>?_).touch (hT7 _) (hnb i x hx)⟩
   exact h.apart j i e0 x hj hx hji g e hg'
 ·intro i x hx g hg'
  rw[hget] at hx
  split at hx
  ·rename_i hji
   subst hji
   rw[hj] at hx
   simp only[Option.map_some,Option.some.injEq] at hx
   subst hx
   rcases hf with hf | ⟨g2,e2,hf⟩
   ·simp only at hg'
    rw[hf] at hg'
    exact h.young j e0 hj g hg'
   ·simp only at hg'
    rw[e2] at hg'
    injection hg' with hg'
    omega
  ·exact h.young i x hx g hg'
 ·have hfar:∀ (i:Nat) (x:MapEntry),es[i]? = some x->j≠i->∀ g,v1.ownBlock=some g->x.val.ownBlock≠some g:=by
   intro i x hx hji g hg' e
   rcases hf with hf | ⟨g2,e2,hf⟩
   ·rw[hf] at hg'
    exact h.apart j i e0 x hj hx hji g hg' e
   ·rw[e2] at hg'
    injection hg' with hg'
    obtain⟨ys,hr⟩:=h.vals i x hx
    have:=(aH hr.1 e).lt
    omega
  intro i k x y hx hy hik g hg'
  rw[hget] at hx hy
  split at hx
  ·rename_i hji
   rw[if_neg (by omega)] at hy
   subst hji
   rw[hj] at hx
   simp only[Option.map_some,Option.some.injEq] at hx
   subst hx
   exact hfar k y hy hik g hg'
  ·split at hy
   ·rename_i hji hjk
    subst hjk
    rw[hj] at hy
    simp only[Option.map_some,Option.some.injEq] at hy
    subst hy
    intro e
    exact hfar i x hx hji g e hg'
   ·exact h.apart i k x y hx hy hik g hg'
end
def uF(sts:List bP)(n:Nat):Nat->List S3
 | 0=>qJc n z3
 | i+1=>(uF sts n i).set i (cN (uF sts n i) (sts.getD i aS) (sts.getD i aS).arcs.length)
theorem mG(sts:List bP)(n:Nat):∀ i,(uF sts n i).length=n
 | 0=>by simp[uF]
 | i+1=>by simp[uF,mG sts n i]
structure Ek(sts:List bP)(base:Int):Prop where
 pos:0<sts.length
 few:sts.length<=98305
 base1:1<=base
 base2:base<=1048576
 root:(sts.getD (sts.length-1) aS).fin=false
 form:∀ i,i<sts.length->dQ i (sts.getD i aS)
 sumB:∀ i,i<sts.length->∀ j,(0<=(cN (uF sts sts.length i) (sts.getD i aS) j).1/\(cN (uF sts sts.length i) (sts.getD i aS) j).1<=4096)/\(0<=(cN (uF sts sts.length i) (sts.getD i aS) j).2.1/\(cN (uF sts sts.length i) (sts.getD i aS) j).2.1<=24)/\(0<=(cN (uF sts sts.length i) (sts.getD i aS) j).2.2/\(cN (uF sts sts.length i) (sts.getD i aS) j).2.2<=1048576)
 sumE:∀ i,i<sts.length->∀ a∈(sts.getD i aS).arcs,(0<=((uF sts sts.length i).getD a.2.2 z3).1/\((uF sts sts.length i).getD a.2.2 z3).1<=4096)/\(0<=((uF sts sts.length i).getD a.2.2 z3).2.1/\((uF sts sts.length i).getD a.2.2 z3).2.1<=24)/\(0<=((uF sts sts.length i).getD a.2.2 z3).2.2/\((uF sts sts.length i).getD a.2.2 z3).2.2<=1048576)
 top:base+((uF sts sts.length sts.length).getD (sts.length-1) z3).2.2<=1048576
 unalike:∀ i j,i<sts.length->j<sts.length->sts.getD i aS=sts.getD j aS->i=j
 vis:∃ F s',fC sts F (sts.length-1) (qJc sts.length false) 0=(true,s',sts.length)
theorem uR.deep{R:Rs}(h:uR R):fF R<=24:=by
 have:fF R<25:=wH (by omega) λr hr=>by have:=h.dep r hr;omega
 omega
theorem kN?{α:Type}{l:List α}{d:α}(h:i<l.length):l[i]? = some (l.getD i d):=by
 simp[qZa,h]
theorem Pc(hk:jY k)(hh:∀ X∈k.rests,uR X):∀ i,i<=k.states.length->Uk k (uF k.states k.states.length i) i
 | 0,_=>λj hj=>absurd hj (Nat.not_lt_zero _)
 | i+1,hi=>λj hj R hR=>by
  have ih:=Pc hk hh i (by omega)
  simp only[uF]
  by_cases e:j=i
  ·subst e
   have hz:k.states[j]? = some (k.states.getD j aS):=kN? (by omega)
   have hc:=hk.corr j R _ hR hz
   have hhR:=hh R (List.mem_of_getElem? hR)
   have hd:=hhR.deep
   have h:=(Ai ih hc hhR hd (k.states.getD j aS).arcs.length).2.2.2.1 (qJa _)
   rw[qQc,List.getElem?_set_self (by rw[mG];omega)]
   exact h
  ·rw[qQc,List.getElem?_set_ne (by omega),<-qQc]
   exact ih j (by omega) R hR
theorem Vp{R:Rs}(h:uR R):∀ r∈R,r.2<=1048576:=λr hr=>(h.wt r hr).2
theorem zK{L:List aE}(hD:cA L)(hne:L≠[]):Ek (bB L).states (bB L).base:=by
 have hm:bB L=⟨aW (aT L),(aY 25 ⟨[],[]⟩ (aT L)).1.states⟩:=by unfold bB;rw[if_neg hne]
 rw[hm]
 have M:=aAw hD hne
 have hher:=rB 25 ⟨[],[]⟩ (aT L) (λX hX=>(by cases hX)) (yM hD)
 have htot:=Al hD
 have hne2:=oP hne
 obtain⟨k,hk⟩:=eX ((aY 25 ⟨[],[]⟩ (aT L)).1)
 rw[<-hk] at M hher ⊢
 simp only
 have hwt:∀ r∈aT L,1<=r.2/\r.2<=1048576:=by
  intro r hr
  obtain⟨p,hp,rfl⟩:=List.mem_map.1 hr
  exact hD.weight p hp
 obtain⟨r0,hr0,e0⟩:=cL hne2
 have hb:=hwt r0 hr0
 have hst:∀ i,i<k.states.length->k.states[i]? = some (k.states.getD i aS):=λi hi=>kN? hi
 have hre:∀ i,i<k.states.length->∃ R,k.rests[i]? = some R/\vQ k.rests i R (k.states.getD i aS)/\uR R:=by
  intro i hi
  have hl:i<k.rests.length:=by rw[M.good.len];exact hi
  refine⟨k.rests[i],qZd hl,M.good.corr i _ _ (qZd hl) (hst i hi),hher _ (List.getElem_mem hl)⟩
 have hsums:=Pc M.good hher
 have hlast:k.states.length-1<k.states.length:=by have:=M.pos;omega
 refine⟨M.pos,by have:=M.few;omega,by omega,by omega,?_,?_,?_,?_,?_,?_,⟨25,_,M.vis 25 (qJa _)⟩⟩
 ·obtain⟨R,hR,hc,_⟩:=hre _ hlast
  rw[M.root] at hR
  injection hR with hR
  subst hR
  rw[hc.fin]
  cases hf:eI (aJ (aT L)) with
  | false=>rfl
  | true =>
   exfalso
   obtain⟨n,hn⟩:=eD.1 hf
   have h1:=cV.1 hn
   obtain⟨p,hp,e⟩:=List.mem_map.1 h1
   simp only[Prod.mk.injEq] at e
   have:=(hD.word p hp).2.2.1
   rw[e.1] at this
   simp at this
 ·intro i hi
  obtain⟨R,hR,hc,hh⟩:=hre i hi
  exact tI hc hh
 ·intro i hi j
  obtain⟨R,hR,hc,hh⟩:=hre i hi
  obtain⟨h1,h2,h3,_,_⟩:=Ai (hsums i (by omega)) hc hh hh.deep j
  refine⟨h1,⟨h2.1,?_⟩,h3.1,h3.2 _ (Vp hh)⟩
  have:=hh.deep
  omega
 ·intro i hi a ha
  obtain⟨R,hR,hc,hh⟩:=hre i hi
  obtain⟨h1,h2,h3,h4,h5,h6⟩:=(Ai (hsums i (by omega)) hc hh hh.deep 0).2.2.2.2 a ha
  exact⟨⟨h1,h2⟩,⟨h3,h4⟩,h5,h6⟩
 ·have h:=hsums k.states.length (qJa _) (k.states.length-1) hlast _ M.root
  have h2:=h.wt1 (1048576-aW (aT L)) λr hr=>by
   have h3:=hwt _ (cV.1 (show (r.1,r.2)∈aJ (aT L) from hr))
   simp only at h3
   omega
  omega
 ·intro i j hi hj e
  have h1:=hst i hi
  have h2:=hst j hj
  rw[<-e] at h2
  exact M.good.unalike h1 h2
section
open Go.RowKit Go.WideElems Go.ChangeShapes Go.WideShapes Go.MapKept Go.ChangeMaps
theorem Vu:(Tryz.prog.info? 243).map (λi=>(i.zero,i.size,i.bytes))=some (some (.agg #[.int .i64 0,.int .i64 0,.int .i64 0]),3,24):=by kernel_rfl
theorem Oi:(Tryz.prog.info? 3).map (λi=>(i.zero,i.size,i.bytes))=some (some (.int .i64 0),1,8):=by kernel_rfl
theorem Rm(n:Nat):(madeCells #[.int .i64 0,.int .i64 0,.int .i64 0] (n*3)).toList=gW (qJc n z3):=by
 unfold madeCells gW
 apply List.ext_getElem?
 intro i
 by_cases hi:i<n*3
 ·have h1:=pR (qJc n z3) (i / 3) (by simp;omega) (i % 3) (by omega)
  have e:i / 3*3+i % 3=i:=by omega
  rw[e] at h1
  unfold gW at h1
  rw[h1]
  have hg:(qJc n z3).getD (i / 3) z3=z3:=by
   rw[qQc,List.getElem?_replicate,if_pos (by omega)]
   rfl
  rw[hg]
  simp[hi]
  obtain h | h | h:i % 3=0\/i % 3=1\/i % 3=2:=by omega
  ·rw[h];rfl
  ·rw[h];rfl
  ·rw[h];rfl
 ·rw[qQh (by simp;omega),qQh]
  rw[List.length_flatMap]
  simp
  omega
theorem qR{base:Nat}{e:TypeId}(h:w.ownsRow base e size (.slice (some ⟨g,0,none⟩) n c) n xs)(j:Nat):w.frozen? ⟨g,j,none⟩=false:=by
 rcases h.2 with⟨h0,_⟩ | ⟨g',cap',cur,hv,_,hgg,_⟩
 ·cases h0
 ·injection hv with h1 _ _
  injection h1 with h1
  injection h1 with h1
  subst h1
  exact aL.frozen hgg j
theorem Ng(U:List S3)(i:Nat)(x:S3)(hi:i<U.length):((((gW U).set (i*3) (.int .i64 x.1)).set (i*3+1) (.int .i64 x.2.1)).set (i*3+2) (.int .i64 x.2.2))=gW (U.set i x):=by
 induction U generalizing i with
 | nil=>simp at hi
 | cons y U ih =>
  have e:∀ y:S3,∀ U,gW (y :: U)=.int .i64 y.1 :: .int .i64 y.2.1 :: .int .i64 y.2.2 :: gW U:=λ_ _=>rfl
  cases i with
  | zero=>rfl
  | succ i =>
   have e1:(i+1)*3=i*3+1+1+1:=by omega
   rw[e,List.set_cons_succ,e,e1]
   simp only[List.set_cons_succ]
   rw[<-ih i (by simpa using hi)]
end
theorem qS(w:World)(e:TypeId)(size:Nat):(w.alloc (.cells #[] e)).ownsRow 0 e size (.slice (some ⟨w.heap.size,0,none⟩) 0 0) 0 [] :=
 ⟨by simp,.inr ⟨w.heap.size,0,#[],rfl,qQd _,heap_alloc_new _ _,qJa _,qQd _,by simp,by simp⟩⟩
theorem sO(w:World)(a:Option Addr)(l c:Nat):(binOp .eql 168 (.slice a l c) (.slice none 0 0)).run Tryz.prog w=.ok (.bool a.isNone) w:=by
 simp only[binOp]
 simp[run_equal_slice_nil (P:=Tryz.prog) w 168 173 a l c Tryz.underlying168]
structure Cln(w w':World)(A:Option Addr)(n c:Nat)(arcs:List (Nat × Int × Nat)):Prop where
 own:w'.ownsRow 0 173 3 (.slice A n c) n (dI arcs)
 young:∀ g,aQ A=some g->w.heap.size<=g
 touch:aC (λ_=>False) w w'
theorem Uu(w:World)(A:Option Addr)(n c:Nat)(arcs:List (Nat × Int × Nat))(hl:arcs.length=n)(hr:aI w 3 A n (dI arcs))(hn:n<=2097152) :
  Calls Tryz.prog 86 #[.slice A n c] w λe w'=>∃ A' c',e=.returned (.slice A' n c')/\Cln w w' A' n c' arcs:=by
 cases A with
 | none =>
  have h0:n=0:=by
   rcases Nat.eq_zero_or_pos n with h | h
   ·exact h
   ·obtain⟨b,o,hA,_⟩:=hr.2 h
    cases hA
  subst h0
  have:arcs=[]:=List.length_eq_zero_iff.1 hl
  subst this
  have hmn:=λwx=>sO wx none 0 c
  clear hl hr hn
  go_in
  go_wp2_with fail
  go_ret
  exact⟨none,0,rfl,World.ownsRow_nil _ _ _ _,λg h=>(by cases h),aC.refl _ _⟩
 | some a =>
  obtain⟨i1,hi1,hy0,hy1,hy2⟩:=aO wI
  have HR:=aB hr
  have hcl:∀ u∈dI arcs,u.oneCell'=true:=by
   intro u hu
   obtain⟨x,_,hx⟩:=List.mem_flatMap.1 hu
   simp only[List.mem_cons,List.not_mem_nil,or_false] at hx
   rcases hx with rfl | rfl | rfl<;>rfl
  have HC:=aB hcl
  have hO:=qS w 173 3
  have HO:=aB hO
  have hT:aC (λ_=>False) w (w.alloc (.cells #[] 173)):=(aC.refl _ _).alloc _
  have HT:=aB hT
  have hb1:0+n<=maxLen:=by unfold maxLen;omega
  have hb2:(0+n)*24<=140737488355328:=by omega
  have HB:=aB (And.intro hb1 hb2)
  have HRD:=aB (hr.touch hT (λ_ _ f=>f))
  have hmn:=λwx=>sO wx (some a) n c
  clear hr hcl hO hT hb1 hb2 hn hl
  go_in
  go_wp2_with (at_builtin;refine aR _ rfl (.tmp 5) (.tmp 6) 168 rfl 173 i1 _ 3 24 Tryz.underlying168 hi1 hy0 hy1 hy2 rfl (by decide) (.slice (some ⟨w.heap.size,0,none⟩) 0 0) 0 _ rfl HO (some a) n c (dI arcs) rfl HRD (λh=>by cases h) HC HB.1 HB.2 ?_;intro v1 w10 O10 G10 F10 _;rw[qQe,List.nil_append] at O10;obtain⟨A2,c2,hv,_,_⟩:=aX O10;subst hv;have HO10:=aB O10;have HG:=aB G10;have HF:=aB F10;clear O10 G10 F10)
  go_ret
  refine⟨A2,c2,rfl,HO10,λg hg=>?_,HT.trans ((aC.refl (λy=>y=w.heap.size) _).grown HG (λk hk _=>by injection hk with hk;exact hk.symm)) (λi hi e=>by omega)⟩
  have hg2:(Value.slice A2 n c2).ownBlock=some g:=by
   cases A2 with
   | none=>cases hg
   | some a2=>exact hg
  rcases HF.out with h | ⟨g2,h,hle⟩
  ·rw[hg2] at h
   injection h with h
   have h2:g=w.heap.size:=h
   omega
  ·rw[hg2] at h
   injection h with h
   have:=HT.size
   omega
theorem Qb(w:World)(A:Option Addr)(n c:Nat)(arcs:List (Nat × Int × Nat))(hl:arcs.length=n)(hr:fM w 173 3 A n (dI arcs))(hn:n<=2097152) :
  Calls Tryz.prog 86 #[.slice A n c] w λe w'=>∃ A' c',e=.returned (.slice A' n c')/\Cln w w' A' n c' arcs:=Uu w A n c arcs hl hr.rd hn
def yQ(x:Int):Value:=.int .i64 x
structure mL(w wr:World)(b:Nat)(base:Int)(A:Option Addr)(i c:Nat)(Z:List SV)(wA:Option Addr)(k wc:Nat)(W:List Int):Prop where
 blk:aL wr b 167 #[.int .i64 base,.slice A i c,.slice wA k wc]
 own:wr.ownsRow 0 170 3 (.slice A i c) i (dY Z)
 wds:wr.ownsRow 0 3 1 (.slice wA k wc) k (W.map yQ)
 el:∀ z∈Z,z.Ok wr
 yA:∀ g,(Value.slice A i c).ownBlock=some g->w.heap.size<=g
 yW:∀ g,(Value.slice wA k wc).ownBlock=some g->w.heap.size<=g
 yZ:∀ z∈Z,∀ g,aQ z.A=some g->w.heap.size<=g
 yb:w.heap.size<=b
 touch:aC (λ_=>False) w wr
theorem mL.quiet{wr:World}{Z:List SV}{k:Nat}(h:mL w wr b base A i c Z wA k wc W)(T:aC (λ_=>False) wr v):mL w v b base A i c Z wA k wc W :=
 ⟨h.blk.touch T (λf=>f),aD h.own T (λ_ _ f=>f),aD h.wds T (λ_ _ f=>f),λz hz=>(h.el z hz).touch T (λ_ _ f=>f),h.yA,h.yW,h.yZ,h.yb,h.touch.then T⟩
theorem mL.state{v4:World}{A4:Option Addr}{c4:Nat}{Z:List SV}{k:Nat}{z:SV}(h:mL w v b base A i c Z wA k wc W)(hz:z.Ok v)(hy:∀ g,aQ z.A=some g->w.heap.size<=g)
  (hown:v4.ownsRow 0 170 3 (.slice A4 (i+1) c4) (i+1) (dY Z++z.cells))(hg:v.grownBy v4 (Value.slice A i c).ownBlock)(hf:bJ v (.slice A i c) (.slice A4 (i+1) c4)) :
  mL w (v4.setCell ⟨b,1,none⟩ (.slice A4 (i+1) c4)) b base A4 (i+1) c4 (Z++[z]) wA k wc W:=by
 have T:aC (λx=>(Value.slice A i c).ownBlock=some x) v v4:=(aC.refl _ _).grown hg (λk hk _=>hk)
 have hbv:=h.blk.grown hg (λe=>(aH h.own e.symm).ne (aF h.blk) (by decide) rfl)
 have T2:aC (λx=>(Value.slice A i c).ownBlock=some x\/x=b) v (v4.setCell ⟨b,1,none⟩ (.slice A4 (i+1) c4)):=(T.mono (λ_ _ e=>.inl e)).setCell (p:=⟨b,1,none⟩) (λ_=>.inr rfl) _
 have hn:∀ t,t ≠ 170 -> t ≠ 167 -> ∀ g,bE v g t->¬ ((Value.slice A i c).ownBlock=some g\/g=b):=by
  rintro t h1 h2 g hg (e | e)
  ·exact hg.ne (aH h.own e) h1 rfl
  ·exact hg.ne (aF h.blk) h2 e
 refine⟨?_,?_,aD h.wds T2 (λg e=>hn _ (by decide) (by decide) g (aH h.wds e)),?_,?_,h.yW,?_,h.yb,?_⟩
 ·have:=hbv.set_ 1 (.slice A4 (i+1) c4)
  simpa using this
 ·have:dY (Z++[z])=dY Z++z.cells:=by simp[dY]
  rw[this]
  exact eS hown (λe=>(aH hown e).ne (aF hbv) (by decide) rfl) _
 ·intro y hy2
  rcases List.mem_append.1 hy2 with hy2 | hy2
  ·exact (h.el y hy2).touch T2 (λg e=>hn _ (by decide) (by decide) g e)
  ·rw[qJb] at hy2
   subst hy2
   exact hz.touch T2 (λg e=>hn _ (by decide) (by decide) g e)
 ·intro g hg2
  rcases hf with e | ⟨g2,e,hle⟩
  ·rw[e] at hg2;exact h.yA g hg2
  ·rw[e] at hg2
   injection hg2 with hg2
   have:=h.touch.size
   omega
 ·intro y hy2
  rcases List.mem_append.1 hy2 with hy2 | hy2
  ·exact h.yZ y hy2
  ·rw[qJb] at hy2
   subst hy2
   exact hy
 ·refine h.touch.trans T2 λg hg e=>?_
  rcases e with e | e
  ·have:=h.yA g e;omega
  ·have:=h.yb;omega
theorem mL.word{v4:World}{wA4:Option Addr}{wc4:Nat}{Z:List SV}{k:Nat}{x:Int}(h:mL w v b base A i c Z wA k wc W)
  (hown:v4.ownsRow 0 3 1 (.slice wA4 (k+1) wc4) (k+1) (W.map yQ++[yQ x]))(hg:v.grownBy v4 (Value.slice wA k wc).ownBlock)(hf:bJ v (.slice wA k wc) (.slice wA4 (k+1) wc4)) :
  mL w (v4.setCell ⟨b,2,none⟩ (.slice wA4 (k+1) wc4)) b base A i c Z wA4 (k+1) wc4 (W++[x]):=by
 have T:aC (λx=>(Value.slice wA k wc).ownBlock=some x) v v4:=(aC.refl _ _).grown hg (λk hk _=>hk)
 have hbv:=h.blk.grown hg (λe=>(aH h.wds e.symm).ne (aF h.blk) (by decide) rfl)
 have T2:aC (λx=>(Value.slice wA k wc).ownBlock=some x\/x=b) v (v4.setCell ⟨b,2,none⟩ (.slice wA4 (k+1) wc4)):=(T.mono (λ_ _ e=>.inl e)).setCell (p:=⟨b,2,none⟩) (λ_=>.inr rfl) _
 have hn:∀ t,t ≠ 3 -> t ≠ 167 -> ∀ g,bE v g t->¬ ((Value.slice wA k wc).ownBlock=some g\/g=b):=by
  rintro t h1 h2 g hg (e | e)
  ·exact hg.ne (aH h.wds e) h1 rfl
  ·exact hg.ne (aF h.blk) h2 e
 refine⟨?_,aD h.own T2 (λg e=>hn _ (by decide) (by decide) g (aH h.own e)),?_,?_,h.yA,?_,h.yZ,h.yb,?_⟩
 ·have:=hbv.set_ 2 (.slice wA4 (k+1) wc4)
  simpa using this
 ·have:(W++[x]).map yQ=W.map yQ++[yQ x]:=by simp
  rw[this]
  exact eS hown (λe=>(aH hown e).ne (aF hbv) (by decide) rfl) _
 ·intro y hy2
  exact (h.el y hy2).touch T2 (λg e=>hn _ (by decide) (by decide) g e)
 ·intro g hg2
  rcases hf with e | ⟨g2,e,hle⟩
  ·rw[e] at hg2;exact h.yW g hg2
  ·rw[e] at hg2
   injection hg2 with hg2
   have:=h.touch.size
   omega
 ·refine h.touch.trans T2 λg hg e=>?_
  rcases e with e | e
  ·have:=h.yW g e;omega
  ·have:=h.yb;omega
theorem Hn{N:Nat}:∀ (l:List Nat) (a:Nat),l.Pairwise (·<·)->(∀ x∈l,a<=x/\x<N)->a<=N->l.length+a<=N
 | [],a,_,_,h=>by simpa using h
 | x :: l,a,hp,hb,_=>by
  rw[List.pairwise_cons] at hp
  have h1:=hb x qXf
  have:=Hn l (x+1) hp.2 (λy hy=>⟨hp.1 y hy,(hb y (qZf _ hy)).2⟩) (by omega)
  simp only[qXd]
  omega
theorem kL{z:bP}(h:dQ i z):z.arcs.length<=2097152:=by
 have h1:=Hn (N:=1114112) (z.arcs.map (·.1)) 0 h.lab (λx hx=>by
  obtain⟨a,ha,rfl⟩:=List.mem_map.1 hx
  have:=(h.run a ha).1
  unfold dS at this
  simp at this
  omega) (by omega)
 rw[qXa] at h1
 omega
def pX(sts:List bP)(i:Nat):List Int:=((uF sts sts.length i).take i).map (·.1)
theorem Yt{sts:List bP}(h:i<=sts.length):(pX sts i).length=i:=by simp[pX,mG,h]
theorem Tj{sts:List bP}(h:i<sts.length):pX sts (i+1)=pX sts i++[(cN (uF sts sts.length i) (sts.getD i aS) (sts.getD i aS).arcs.length).1]:=by
 unfold pX
 simp only[uF]
 rw[qQk (by rw[List.length_set,mG];exact h),qQb,List.take_set_of_le (qJa _)]
 simp
theorem Kl{sts:List bP}(h:i<=sts.length)(hj:j<i):(pX sts i)[j]? = some ((uF sts sts.length i).getD j z3).1:=by
 unfold pX
 rw[List.getElem?_map,List.getElem?_take_of_lt hj,kN? (d:=z3) (by rw[mG];omega)]
 rfl
structure iS where
 fin:Bool
 out:Int
 arcs:List (Int × Int × Int)
def fN(a:Nat × Int × Nat):Int × Int × Int:=((a.1:Int),a.2.1,(a.2.2:Int))
def bP.z(s:bP):iS:=⟨s.fin,s.out,s.arcs.map fN⟩
theorem nK{α β:Type}{f:α->β}(hf:∀ a b,f a=f b->a=b):∀ {l m:List α},l.map f=m.map f->l=m
 | [],[],_=>rfl
 | [],_ :: _,h=>by simp at h
 | _ :: _,[],h=>by simp at h
 | a :: l,b :: m,h=>by
  simp only[qQa,List.cons.injEq] at h
  rw[hf _ _ h.1,nK hf h.2]
def jZ(sts:List bP)(base:Int):Prop:=(sts=[]/\base=0)\/Ek sts base
def okJ(num:Nat)(out:Int)(arcs:List (Int × Int × Int))(j:Nat):Prop :=
 (0<=out/\out<=1048576)/\∃ l:List (Nat × Int × Nat),arcs.take j=l.map fN/\(l.map (·.1)).Pairwise (·<·)/\(∀ a∈l,dS a.1=true/\iY a.1=true)/\∀ a∈l,0<=a.2.1/\a.2.1<=1048576/\a.2.2<num
def Ra(arcs:List (Int × Int × Int)):Nat->Int
 | 0=>32
 | j+1=>(arcs.getD j (0,0,0)).1
def Md(l0:Int)(arcs:List (Int × Int × Int))(j:Nat):Int:=(arcs.take j).foldl (λm a=>min m a.2.1) l0
theorem Ri(l0:Int)(arcs:List (Int × Int × Int))(j:Nat)(hj:j<arcs.length):Md l0 arcs (j+1)=min (Md l0 arcs j) (arcs.getD j (0,0,0)).2.1:=by
 unfold Md
 rw[qQk hj,qJe]
 simp[qZa,hj]
theorem Hh(l:List (Nat × Int × Nat)):∀ m:Int,(l.map fN).foldl (λm a=>min m a.2.1) m=l.foldl (λm a=>min m a.2.1) m:=by
 induction l with
 | nil=>intro m;rfl
 | cons a l ih=>intro m;simp only[qQa,List.foldl_cons,ih,fN]
theorem Wq(num:Nat)(out:Int)(arcs:List (Int × Int × Int)):okJ num out arcs 0↔0<=out/\out<=1048576 :=
 ⟨λh=>h.1,λh=>⟨h,[],by simp,by simp,by simp,by simp⟩⟩
def aFz(x:Int):Prop:=∃ r:Nat,x=(r:Int)/\dS r=true/\iY r=true
theorem Wp{num:Nat}{out:Int}{arcs:List (Int × Int × Int)}(hj:j<arcs.length){la ao tt:Int}(ha:arcs.getD j (0,0,0)=(la,ao,tt)) :
  okJ num out arcs (j+1)↔okJ num out arcs j/\Ra arcs j<la/\aFz la/\0<=tt/\tt<(num:Int)/\0<=ao/\ao<=1048576:=by
 have htk:=bI arcs (0,0,0) j hj
 rw[ha] at htk
 constructor
 ·rintro⟨ho,l,h1,h2,h3,h4⟩
  rw[htk] at h1
  obtain⟨l1,l2,rfl,e1,e2⟩:=List.map_eq_append_iff.1 h1.symm
  have hl2:l2.length=1:=by
   have:=congrArg List.length e2
   simpa using this
  obtain⟨b,rfl⟩:=List.length_eq_one_iff.1 hl2
  simp only[qQa,qZb,List.cons.injEq,and_true,fN,Prod.mk.injEq] at e2
  obtain⟨r1,r2,r3⟩:=e2
  have hb3:=h3 b (by simp)
  have hb4:=h4 b (by simp)
  rw[qQb,qJf] at h2
  refine⟨⟨ho,l1,e1.symm,h2.1,λa h=>h3 a (by simp[h]),λa h=>h4 a (by simp[h])⟩,?_,⟨b.1,r1.symm,hb3⟩,by omega,by omega,by omega,by omega⟩
  cases j with
  | zero =>
   simp only[Ra]
   have:=hb3.2
   unfold iY at this
   simp only[Bool.and_eq_true,decide_eq_true_eq] at this
   omega
  | succ j =>
   simp only[Ra]
   have hjl:j<arcs.length:=by omega
   have hlast:=bI arcs (0,0,0) j hjl
   have hmem:arcs.getD j (0,0,0)∈l1.map fN:=by rw[e1,hlast];simp
   obtain⟨c,hc,hc2⟩:=List.mem_map.1 hmem
   have:=h2.2.2 c.1 (List.mem_map_of_mem hc) b.1 (by simp)
   rw[<-hc2]
   simp only[fN]
   omega
 ·rintro⟨⟨ho,l,h1,h2,h3,h4⟩,g1,⟨r,rfl,g2⟩,g3,g4,g5,g6⟩
  refine⟨ho,l++[(r,ao,tt.toNat)],?_,?_,?_,?_⟩
  ·rw[htk,h1]
   simp only[qQb,qQa,qZb,fN]
   rw[show ((tt.toNat:Nat):Int)=tt by omega]
  ·rw[qQb,qJf]
   refine⟨h2,by simp,?_⟩
   intro x hx y hy
   simp only[qQa,qZb,qJb] at hy
   subst hy
   obtain⟨c,hc,rfl⟩:=List.mem_map.1 hx
   cases j with
   | zero =>
    have hnil:l=[]:=by
     rw[List.take_zero] at h1
     exact List.map_eq_nil_iff.1 h1.symm
    rw[hnil] at hc
    cases hc
   | succ j =>
    simp only[Ra] at g1
    have hjl:j<arcs.length:=by omega
    have hlast:=bI arcs (0,0,0) j hjl
    rw[hlast] at h1
    obtain⟨l1,l2,rfl,e1,e2⟩:=List.map_eq_append_iff.1 h1.symm
    have hl2:l2.length=1:=by
     have:=congrArg List.length e2
     simpa using this
    obtain⟨b,rfl⟩:=List.length_eq_one_iff.1 hl2
    simp only[qQa,qZb,List.cons.injEq,and_true] at e2
    rw[<-e2] at g1
    simp only[fN] at g1
    rw[qQb,qJf] at h2
    rcases List.mem_append.1 hc with hc | hc
    ·have:=h2.2.2 c.1 (List.mem_map_of_mem hc) b.1 (by simp)
     omega
    ·simp only[qJb] at hc
     subst hc
     omega
  ·intro a h
   rcases List.mem_append.1 h with h | h
   ·exact h3 a h
   ·simp only[qJb] at h
    subst h
    exact g2
  ·intro a h
   rcases List.mem_append.1 h with h | h
   ·exact h4 a h
   ·simp only[qJb] at h
    subst h
    simp only
    omega
def pY(num:Nat)(z:iS):Prop:=∃ s:bP,s.z=z/\dQ num s
theorem Qt(num:Nat)(z:iS):pY num z↔(z.fin=false->z.out=0)/\okJ num z.out z.arcs z.arcs.length/\Md (if z.fin=true then z.out else 1048577) z.arcs z.arcs.length=0:=by
 constructor
 ·rintro⟨s,rfl,h⟩
  refine⟨h.fin0,⟨⟨h.out0,h.out1⟩,s.arcs,by simp only[bP.z];rw[qJd (by simp)],h.lab,h.run,h.arc⟩,?_⟩
  have hl:=h.low
  unfold Wg at hl
  unfold Md
  simp only[bP.z,qQg,Hh]
  exact hl
 ·rintro⟨h1,⟨h2,l,h3,h4,h5,h6⟩,h7⟩
  rw[qQg] at h3
  refine⟨⟨z.fin,z.out,l⟩,?_,h2.1,h2.2,h1,h4,h5,h6,?_⟩
  ·obtain⟨f,o,a⟩:=z
   simp only at h3
   simp only[bP.z]
   rw[h3]
  ·unfold Md at h7
   rw[qQg,h3,Hh] at h7
   exact h7
structure eF where
 b:Nat
def bs[Inhabited eF]:Nat:=(default:eF).b
section
variable[Inhabited eF]
def OT(w:World)(g:Nat)(t:TypeId):Prop:=(g<w.heap.size/\g<bs)\/bE w g t
theorem OT.ne{b':Nat}{t':TypeId}(h:OT w b t)(h':bE w b' t')(ht:t≠t')(hb:bs<=b'):b≠b':=by
 rcases h with⟨_,h⟩ | h
 ·omega
 ·exact h.ne h' ht
theorem OT.lt(h:OT w b t):b<w.heap.size:=by
 rcases h with h | h
 ·exact h.1
 ·exact h.lt
theorem OT.touch(h:OT w b t)(T:aC S w w')(hS:¬ S b):OT w' b t:=by
 rcases h with h | h
 ·exact .inl ⟨Nat.lt_of_lt_of_le h.1 T.size,h.2⟩
 ·exact .inr (h.touch T hS)
structure Ar(w:World)(t:TypeId)(size:Nat)(A:Option Addr)(n:Nat)(xs:List Value):Prop where
 rd:aI w size A n xs
 ty:0<n->∀ g,aQ A=some g->OT w g t
theorem Ar.touch(h:Ar w t size A n xs)(T:aC S w w')(hS:∀ g,OT w g t->¬ S g):Ar w' t size A n xs:=by
 by_cases hn:0<n
 ·exact⟨h.rd.touch T λg hg=>hS g (h.ty hn g hg),λ_ g hg=>(h.ty hn g hg).touch T (hS g (h.ty hn g hg))⟩
 ·exact⟨⟨h.rd.1,λh=>absurd h hn⟩,λh=>absurd h hn⟩
theorem Ar.quiet(h:Ar w t size A n xs)(T:aC (λ_=>False) w w'):Ar w' t size A n xs:=h.touch T λ_ _ f=>f
theorem fM.o(h:fM w t size A n xs):Ar w t size A n xs:=⟨h.rd,λhn g hg=>.inr (h.ty hn g hg)⟩
theorem Ar.of_own{base:Nat}(h:w.ownsRow base t size (.slice A n c) n xs):Ar w t size A n xs:=(fM.of_own h).o
structure SV.Od(s:SV)(w:World):Prop where
 len:s.arcs.length=s.n
 rd:Ar w 173 3 s.A s.n (dI s.arcs)
 le:s.n<=s.c
 mx:s.c<=maxLen
theorem SV.Od.touch{s:SV}(h:s.Od w)(T:aC S w w')(hS:∀ g,OT w g 173 -> ¬ S g):s.Od w':=⟨h.len,h.rd.touch T hS,h.le,h.mx⟩
theorem SV.Ok.od{s:SV}(h:s.Ok w):s.Od w:=⟨h.len,h.rd.o,h.le,h.mx⟩
structure mN(w:World)(A:Option Addr)(n:Nat)(Z:List SV):Prop where
 rd:Ar w 170 3 A n (dY Z)
 len:Z.length=n
 el:∀ z∈Z,z.Od w
theorem mN.quiet{Z:List SV}(h:mN w A n Z)(T:aC (λ_=>False) w w'):mN w' A n Z:=⟨h.rd.quiet T,h.len,λz hz=>(h.el z hz).touch T (λ_ _ f=>f)⟩
theorem eC.od{Z:List SV}(h:eC w A n Z):mN w A n Z:=⟨h.rd.o,h.len,λz hz=>(h.el z hz).od⟩
structure ZV where
 fin:Bool
 out:Int
 A:Option Addr
 n:Nat
 c:Nat
 arcs:List (Int × Int × Int)
def fE(l:List (Int × Int × Int)):List Value:=l.flatMap λa=>[.int .i32 a.1,.int .i64 a.2.1,.int .i64 a.2.2]
def ZV.cells(s:ZV):List Value:=[.bool s.fin,.int .i64 s.out,.slice s.A s.n s.c]
def ZV.p(s:ZV):iS:=⟨s.fin,s.out,s.arcs⟩
structure ZV.Ok(s:ZV)(w:World):Prop where
 len:s.arcs.length=s.n
 rd:Ar w 173 3 s.A s.n (fE s.arcs)
 le:s.n<=s.c
 mx:s.c<=maxLen
def fL(Z:List ZV):List Value:=Z.flatMap ZV.cells
end
section
variable[Inhabited eF]
theorem ZV.Ok.touch{s:ZV}(h:s.Ok w)(T:aC S w w')(hS:∀ g,OT w g 173 -> ¬ S g):s.Ok w':=⟨h.len,h.rd.touch T hS,h.le,h.mx⟩
theorem ZV.Ok.quiet{s:ZV}(h:s.Ok w)(T:aC (λ_=>False) w w'):s.Ok w':=h.touch T (λ_ _ f=>f)
structure iT(w:World)(A:Option Addr)(n:Nat)(Z:List ZV):Prop where
 rd:Ar w 170 3 A n (fL Z)
 len:Z.length=n
 el:∀ z∈Z,z.Ok w
theorem iT.quiet{Z:List ZV}(h:iT w A n Z)(T:aC (λ_=>False) w w'):iT w' A n Z:=⟨h.rd.quiet T,h.len,λz hz=>(h.el z hz).quiet T⟩
end
theorem vP(l:List (Nat × Int × Nat)):fE (l.map fN)=dI l:=by
 unfold fE dI
 rw[List.flatMap_map]
 rfl
section
variable[Inhabited eF]
def ZV.sv(z:ZV)(s:bP):SV:=⟨z.fin,z.out,z.A,z.n,z.c,s.arcs⟩
theorem ZV.sv_ok{z:ZV}{s:bP}(h:z.Ok w)(hs:s.z=z.p):(z.sv s).Od w/\(z.sv s).p=s/\(z.sv s).cells=z.cells:=by
 obtain⟨f,o,A,n,c,a⟩:=z
 obtain⟨f',o',a'⟩:=s
 simp only[bP.z,ZV.p,iS.mk.injEq] at hs
 obtain⟨rfl,rfl,rfl⟩:=hs
 refine⟨⟨?_,?_,h.le,h.mx⟩,rfl,rfl⟩
 ·have:=h.len
  simpa [ZV.sv] using this
 ·have:=h.rd
  rw[vP] at this
  exact this
def SV.zv(s:SV):ZV:=⟨s.fin,s.out,s.A,s.n,s.c,s.arcs.map fN⟩
theorem SV.zv_ok{s:SV}(h:s.Od w):s.zv.Ok w/\s.zv.p=s.p.z/\s.zv.cells=s.cells :=
 ⟨⟨by simp only[SV.zv,qXa];exact h.len,by simp only[SV.zv];rw[vP];exact h.rd,h.le,h.mx⟩,rfl,rfl⟩
theorem Pa{Z:List SV}(h:mN w A n Z):iT w A n (Z.map SV.zv):=by
 refine⟨?_,by rw[qXa];exact h.len,λz hz=>?_⟩
 ·have e:fL (Z.map SV.zv)=dY Z:=by
   unfold fL dY
   rw[List.flatMap_map]
   rfl
  rw[e]
  exact h.rd
 ·obtain⟨s,hs,rfl⟩:=List.mem_map.1 hz
  exact (SV.zv_ok (h.el s hs)).1
theorem Jy:∀ (Z:List ZV) (sts:List bP),Z.map ZV.p=sts.map bP.z->(∀ z∈Z,z.Ok w)->∃ Y:List SV,Y.map SV.p=sts/\dY Y=fL Z/\Y.length=Z.length/\∀ y∈Y,y.Od w
 | [],[],_,_=>⟨[],rfl,rfl,rfl,λy hy=>by cases hy⟩
 | [],_ :: _,h,_=>by simp at h
 | _ :: _,[],h,_=>by simp at h
 | z :: Z,s :: sts,h,hz=>by
  simp only[qQa,List.cons.injEq] at h
  obtain⟨Y,h1,h2,h3,h4⟩:=Jy Z sts h.2 (λx hx=>hz x (qZf _ hx))
  obtain⟨g1,g2,g3⟩:=ZV.sv_ok (hz z qXf) h.1.symm
  refine⟨z.sv s :: Y,by rw[qQa,h1,g2],?_,by rw[qXd,qXd,h3],?_⟩
  ·unfold dY fL at *
   rw[List.flatMap_cons,List.flatMap_cons,h2,g3]
  ·intro y hy
   rcases List.mem_cons.1 hy with rfl | hy
   ·exact g1
   ·exact h4 y hy
theorem iT.ok{Z:List ZV}(h:iT w A n Z){sts:List bP}(hs:Z.map ZV.p=sts.map bP.z):∃ Y:List SV,Y.map SV.p=sts/\mN w A n Y:=by
 obtain⟨Y,h1,h2,h3,h4⟩:=Jy Z sts hs h.el
 exact⟨Y,h1,by rw[h2];exact h.rd,by rw[h3];exact h.len,h4⟩
def bG:ZV:=⟨false,0,none,0,0,[]⟩
end
theorem uP(X:List ZV)(k:Nat)(hk:k<X.length)(j:Nat)(hj:j<3):(fL X)[k*3+j]? = some ((X.getD k bG).cells.getD j undef):=by
 have h:=rW ZV.cells 3 (λ_=>rfl) X k j hk hj
 unfold fL
 rw[h]
 have e:X.getD k bG=X[k]:=by simp[qZa,hk]
 rw[e]
 have hl:(X[k].cells).length=3:=rfl
 rw[qQc,qZd (by rw[hl];exact hj)]
 rfl
theorem rH(X:List (Int × Int × Int))(k:Nat)(hk:k<X.length)(j:Nat)(hj:j<3):(fE X)[k*3+j]? = some ([.int .i32 (X.getD k (0,0,0)).1,.int .i64 (X.getD k (0,0,0)).2.1,.int .i64 (X.getD k (0,0,0)).2.2].getD j undef):=by
 have h:=rW (λa:Int × Int × Int=>[Value.int .i32 a.1,.int .i64 a.2.1,.int .i64 a.2.2]) 3 (λ_=>rfl) X k j hk hj
 unfold fE
 rw[h]
 have e:X.getD k (0,0,0)=X[k]:=by simp[qZa,hk]
 rw[e,qQc,qZd (by simpa using hj)]
 rfl
theorem iI{X:List ZV}(h:aI w 3 A n (fL X))(hn:X.length=n)(k:Nat)(hk:k<n) :
  ∃ g off,A=some ⟨g,off,none⟩/\g<w.heap.size/\w.cell? ⟨g,off+k*3,none⟩=some (.bool (X.getD k bG).fin)/\w.cell? ⟨g,off+k*3+1,none⟩=some (.int .i64 (X.getD k bG).out)/\w.cell? ⟨g,off+k*3+2,none⟩=some (.slice (X.getD k bG).A (X.getD k bG).n (X.getD k bG).c):=by
 obtain⟨g,off,hA,hg,hc⟩:=h.2 (by omega)
 refine⟨g,off,hA,hg,?_,?_,?_⟩
 ·exact hc _ _ (uP X k (by omega) 0 (by omega))
 ·exact hc _ _ (uP X k (by omega) 1 (by omega))
 ·exact hc _ _ (uP X k (by omega) 2 (by omega))
theorem iR{X:List (Int × Int × Int)}(h:aI w 3 A n (fE X))(hn:X.length=n)(k:Nat)(hk:k<n) :
  ∃ g off,A=some ⟨g,off,none⟩/\g<w.heap.size/\w.cell? ⟨g,off+k*3,none⟩=some (.int .i32 (X.getD k (0,0,0)).1)/\w.cell? ⟨g,off+k*3+1,none⟩=some (.int .i64 (X.getD k (0,0,0)).2.1)/\w.cell? ⟨g,off+k*3+2,none⟩=some (.int .i64 (X.getD k (0,0,0)).2.2):=by
 obtain⟨g,off,hA,hg,hc⟩:=h.2 (by omega)
 refine⟨g,off,hA,hg,?_,?_,?_⟩
 ·exact hc _ _ (rH X k (by omega) 0 (by omega))
 ·exact hc _ _ (rH X k (by omega) 1 (by omega))
 ·exact hc _ _ (rH X k (by omega) 2 (by omega))
section
variable[Inhabited eF]
end
end Go.Proofs.YthockgmbooefpaaGreatDoor
