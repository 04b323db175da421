/- What the law rests on, part 11. No condition but those that each theorem names. -/
import Derived.Test.YthockgmbooefpaaGreatDoorM10
import Derived.Lib.AppendZerosOnto
import Derived.Lib.SliceRun
import Derived.Test.YthockgmbooefpaaGreatDoorM00
import Derived.Deep.CutRange
import Derived.Test.YthockgmbooefpaaGreatDoorM01
import Derived.BigQuiet
import Derived.Deep.QuietTactic
import Derived.Test.YthockgmbooefpaaGreatDoorM03
import Derived.Deep.RegionHeld3
import Derived.Deep.RegionLaw
import Derived.Deep.DrawnRows
import Derived.BigRegion
import Derived.ChangeKeysEq
import Derived.Test.YthockgmbooefpaaGreatDoorM04
import Derived.RangeFuncNested
import Derived.RangeFuncBound
import Derived.RangeFuncCalls
import Derived.RangeFuncLeaves
import Derived.Shelf.Abstract
import Derived.Shelf.RegionOpen
import Derived.WalkKit
import Derived.OwnWalkIn
import Derived.TacticsInMore
import Derived.LoopNIn
import Derived.LoopIn
import Derived.Test.YthockgmbooefpaaGreatDoorM06
import Derived.Test.YthockgmbooefpaaGreatDoorM07
set_option linter.unusedSectionVars false
set_option linter.unusedSimpArgs false
set_option linter.unusedVariables false
set_option maxRecDepth 100000
set_option maxHeartbeats 2000000
namespace Go.Proofs.YthockgmbooefpaaGreatDoor
open IntWalk renaming i64_in → qQf
open List renaming length_cons → qQa, mem_cons → qZa, mem_map → qXa, pairwise_cons → qJa, length_nil → qQb, mem_cons_of_mem → qZb, mem_cons_self → qXb, cons_append → qQc, mem_append → qZc, flatMap_cons → qQd, getD → qZd, length_map → qXd, nil_append → qJd, length_append → qQe, take_succ_eq_append_getElem → qXe, all_eq_true → qZf, append_nil → qXf, map_cons → qJf, mem_filter → qQg, mem_flatMap → qZg, mem_singleton → qXg, pairwise_map → qJg, range → qQh, size_toArray → qZh, append_assoc → qXh, append_toArray → qJh, filterMap_cons → qQi, foldl_cons → qZi, getElem_mem → qXi, getElem_of_mem → qJi, map_congr_left → qQj, push_toArray → qZj, take_of_length_le → qXj, drop_eq_getElem_cons → qXk, drop_of_length_le → qJk, filter_eq_nil_iff → qQl, getElem?_eq_getElem → qXl
open Nat renaming le_refl → qJb, not_lt_zero → qXc, zero_le → qJc, zero_add → qZe, le_trans → qJe, reduceAdd → qJj, reduceSub → qQk
variable{cs:Array Value}{base:Int}{s wd:List Nat}{Z:List SV}{L O X:List aE}{sts:List bP}{b c g i m n o q wc:Nat}{A wA:Option Addr}{α:Type}{t:TypeId}{v:Value}{w w' w0:World}
open Go.RowKit
theorem Vn(k:Nat)(hk:k<=5864062014700)(w:World) :
  Calls Tryz.prog 186 #[.slice none 0 0,.int .i64 k] w λe w'=>∃ v,e=.returned v/\w'.ownsRow 0 125 2 v 0 []/\aC (λ_=>False) w w'/\∀ g,v.ownBlock=some g->w.heap.size<=g:=by
 obtain⟨i0,hi,hz0,hz1,hz2⟩:=aO jK
 rcases Nat.eq_zero_or_pos k with rfl | hk0
 ·clear hi hz0 hz1 hz2
  go_in
  go_wp2
  go_ret
  exact⟨_,rfl,World.ownsRow_nil _ _ _ _,aC.refl _ _,λg e=>by simp[Value.ownBlock] at e⟩
 ·have h1:¬ (k:Int)<0:=by omega
  have h4:(0:Int)<(k:Int):=by omega
  have hold:(Builtin.firstCells i0.size 0 (.slice none 0 0)).run Tryz.prog w.drew=.ok ([]:List Value).toArray w.drew:=run_firstCells_none w.drew i0.size 0 0 0
  have hrz:∀ ty,(Builtin.append_ #[37,3] ty #[.slice none 0 0,.int .i64 (k:Int)]).run Tryz.prog w =
    .ok (.slice (some ⟨w.heap.size,0,none⟩) k (grownCap w k 0 125)) (w.drew.alloc (.cells (([]:List Value).toArray++Builtin.zeroCells (Value.agg #[.string ByteArray.empty,.int .i64 0]).cells k++Builtin.zeroCells (Value.agg #[.string ByteArray.empty,.int .i64 0]).cells (grownCap w k 0 125 - k)) 125)):=λty=>by
   have h:=Lib.run_append_grow_zeros w 37 3 ty 125 i0 _ .i64 .i64 Tryz.underlying37 Tryz.underlying3 hi hz0 none 0 0 [] hold k hk0 (by omega) (by omega) (by omega) (by rw[hz2];omega) (by rw[qZe];exact growslice_fits hk0 (by rw[hz2];omega))
   rw[qZe] at h
   exact h
  obtain⟨G,hG⟩:∃ G,G=grownCap w k 0 125 := ⟨_,rfl⟩
  have hGn:k<=G:=by rw[hG];exact grownCap_ge w _ _ _
  have hG63:G<=maxLen:=by rw[hG];exact grownCap_le_maxLen w k 0 _ (by unfold maxLen;omega)
  rw[<-hG] at hrz
  have HR:=aB hrz
  have HGM:=aB hG63
  unfold maxLen at hG63
  obtain⟨cs,hcs⟩:=eX (([]:List Value).toArray++Builtin.zeroCells (Value.agg #[.string ByteArray.empty,.int .i64 0]).cells k++Builtin.zeroCells (Value.agg #[.string ByteArray.empty,.int .i64 0]).cells (G-k))
  have hsz:cs.size=G*2:=by
   rw[hcs]
   have hc2:(Value.agg #[.string ByteArray.empty,.int .i64 0]).cells.size=2:=rfl
   simp only[Array.size_append,Builtin.zeroCells,Array.size_map,Array.size_range,hc2,qZh,qQb]
   omega
  rw[<-hcs] at HR
  obtain⟨w2,hw2⟩:=eX (w.drew.alloc (.cells cs 125))
  have hb:aL w2 w.heap.size 125 cs:=by rw[hw2];exact aL.new w.drew _ _
  have ht:aC (λ_=>False) w w2:=by rw[hw2];exact ((aC.refl _ _).drew).alloc _
  rw[<-hw2] at HR
  have HB:=aB hb
  have HT:=aB ht
  have HS:=aB hsz
  clear hold hrz hG hcs hw2 hb ht hsz hi hz0 hz1 hz2
  go_in
  go_wp2_with (at_builtin;refine Lib.wpList_append_run _ rfl _ _ _ _ rfl _ _ rfl rfl _ _ (HR _) ?_)
  go_ret
  exact⟨_,rfl,⟨rfl,.inr ⟨w.heap.size,G,cs,rfl,qJc _,HB,qJc _,HGM,HS,by simp⟩⟩,HT,λg e=>by simp[Value.ownBlock] at e;omega⟩
def kD(l:List SL):Nat:=(l.map (·.n)).foldr (·+·) 0
theorem Dw(l:List SL)(s:SL):kD (l++[s])=kD l+s.n:=by
 unfold kD
 induction l with
 | nil=>simp
 | cons a l ih=>simp only[qQc,qJf,List.foldr_cons,ih];omega
theorem Dx(l:List SL)(i:Nat):kD (l.take i)<=kD l:=by
 unfold kD
 induction l generalizing i with
 | nil=>simp
 | cons a l ih =>
  cases i with
  | zero=>simp
  | succ i=>simp only[List.take_succ_cons,qJf,List.foldr_cons];have:=ih i;omega
theorem Az(L:List aE):∀ u∈bC L,u.oneCell'=true:=by
 intro u hu
 unfold bC at hu
 obtain⟨r,_,hu⟩:=List.mem_flatMap.1 hu
 simp only[aE.cells,qZa,List.not_mem_nil,or_false] at hu
 rcases hu with rfl | rfl<;>rfl
theorem Lm(w:World)(A0:Option Addr)(k c0:Nat)(Ss:List SL)(hk:Ss.length=k)(hR:aI w 1 A0 k (Ss.map SL.val))(hok:∀ s∈Ss,s.Ok w)(hsum:kD Ss<=5864062014700)(hk2:k<=5864062014700) :
  Calls Tryz.prog 175 #[.slice A0 k c0] w λe w'=>∃ A n c,e=.returned (.slice A n c)/\cZ w' A n c (Ss.flatMap SL.L)/\aC (λ_=>False) w w'/\n=kD Ss/\(A=none->n=0/\c=0)/\∀ g,aQ A=some g->w.heap.size<=g:=by
 obtain⟨i0,hi,hz0,hz1,hz2⟩:=aO jK
 have HR:=aB hR
 have HK:=aB hk
 have HO:=aB hok
 have HS:=aB hsum
 clear hR hk hok
 have hat:∀ wr,aC (λ_=>False) w wr->∀ i,i<k->∃ g off,A0=some ⟨g,off,none⟩/\g<wr.heap.size/\wr.cell? ⟨g,off+i,none⟩=some (Ss.getD i default).val:=by
  intro wr T i hi
  obtain⟨b,off,hA,hb,hc⟩:=(HR.touch T (λ_ _ f=>f)).2 (by omega)
  refine⟨b,off,hA,hb,hc i _ ?_⟩
  have hl:i<Ss.length:=by rw[HK.out];exact hi
  simp[qZd,hl]
 have HAT:=aB hat
 clear hat
 go_in
 go_wp2
 go_loopw [3,11] (λsv iv wr=>∃ i s:Nat,iv=.int .i64 i/\sv=.int .i64 s/\i<=k/\s<=5864062014700/\Hid (s=kD (Ss.take i))/\wr=w) (λ_ iv _=>k-(intOf iv).toNat)
 case atStart=>exact⟨0,0,rfl,rfl,qJc _,by omega,aB (by simp[kD]),rfl⟩
 case round =>
  obtain⟨i,s,rfl,rfl,hik,hs,HSU,rfl⟩:=hrel
  by_cases h0:i<k
  ·have y0:(i:Int)<(k:Int):=by omega
   obtain⟨g,off,rfl,hg,hc⟩:=HAT.out wr (aC.refl _ _) i h0
   have hl:i<Ss.length:=by rw[HK.out];exact h0
   have hsn:kD (Ss.take (i+1))=kD (Ss.take i)+(Ss.getD i default).n:=by
    have e:Ss.getD i default=Ss[i]:=by simp[qZd,hl]
    rw[qXe hl,Dw,e]
   have hle:=Dx Ss (i+1)
   rw[hsn,<-HSU.out] at hle
   rw[<-HSU.out] at hsn
   have hle2:s+(Ss.getD i default).n<=5864062014700:=qJe hle HS
   obtain⟨⟨sA,sn,sc,sL⟩,hx⟩:∃ x,x=Ss.getD i default:=⟨_,rfl⟩
   rw[<-hx] at hc hsn hle2
   simp only[SL.val] at hc hsn hle2
   have HSN:=aB hsn
   clear hx hsn hle hl
   obtain⟨s2,hs2⟩:=eX (s+sn)
   have y1:(s:Int)+(sn:Int)=(s2:Int):=by omega
   have y2:IntKind.i64.wrap (s2:Int)=(s2:Int):=qQf _ (by omega)
   have y3:¬ (s2:Int)<0:=by omega
   have y4:s2<=5864062014700:=by omega
   have HS2:=aB hs2
   clear hs2
   go_wp2
   go_roundw
   ·exact⟨i+1,s2,by simp,rfl,by omega,y4,aB (by rw[HSN.out,HS2.out]),trivial⟩
   ·show k-(intOf (.int .i64 ((i:Int)+1))).toNat<k-(intOf (.int .i64 (i:Int))).toNat
    simp[intOf]
    omega
  ·have hik':i=k:=by omega
   have hs':s=kD Ss:=by rw[HSU.out,qXj (by rw[HK.out];omega)]
   have HSS:=aB hs'
   clear hs' hik' HSU
   go_wp2_with fail
   refine (Vn s hs wr).mono ?_
   rintro e w1 ⟨v,rfl,O1,T1,F1⟩
   have HO1:=aB O1
   have HT1:=aB T1
   have HF1:=aB F1
   clear O1 T1 F1
   go_wp2_with fail
   obtain⟨wo,rfl⟩:∃ wo:World,wo=wr:=⟨_,rfl⟩
   go_loopw [6,27] (λrv iv wr=>∃ i n:Nat,iv=.int .i64 i/\i<=k/\n<=5864062014700/\Hid (n=kD (Ss.take i))/\Hid (wr.ownsRow 0 125 2 rv n (bC ((Ss.take i).flatMap SL.L)))/\Hid (aC (λ_=>False) wo wr)/\Hid (∀ g,rv.ownBlock=some g->wo.heap.size<=g)) (λ_ iv _=>k-(intOf iv).toNat)
   case atStart=>exact⟨0,0,rfl,qJc _,by omega,aB (by simp[kD]),aB (by simpa [bC] using HO1.out),HT1,HF1⟩
   case round =>
    obtain⟨i,n,rfl,hik2,hn,HSU,HOQ,HTQ,HFQ⟩:=hrel
    by_cases h1:i<k
    ·have y0:(i:Int)<(k:Int):=by omega
     obtain⟨g,off,hA,hg,hc⟩:=HAT.out wr HTQ i h1
     subst hA
     have hl:i<Ss.length:=by rw[HK.out];exact h1
     have eg:Ss.getD i default=Ss[i]:=by simp[qZd,hl]
     have hsn:kD (Ss.take (i+1))=kD (Ss.take i)+(Ss.getD i default).n:=by
      rw[qXe hl,Dw,eg]
     have hfl:(Ss.take (i+1)).flatMap SL.L=(Ss.take i).flatMap SL.L++(Ss.getD i default).L:=by
      rw[qXe hl,List.flatMap_append,eg];simp
     have hle:=Dx Ss (i+1)
     have hmem:Ss.getD i default∈Ss:=by rw[eg];exact qXi _
     rw[hsn,<-HSU.out] at hle
     rw[<-HSU.out] at hsn
     have hle2:n+(Ss.getD i default).n<=5864062014700:=qJe hle HS
     have hok:=HO.out _ hmem
     obtain⟨⟨sA,sn,sc,sL⟩,hx⟩:∃ x,x=Ss.getD i default:=⟨_,rfl⟩
     rw[<-hx] at hc hsn hle2 hfl hok
     simp only[SL.val] at hc hsn hle2 hfl
     obtain⟨o1,o2,o3⟩:=hok
     simp only at o1 o2 o3
     have HRS:=aB (o2.touch HTQ (λ_ _ f=>f))
     have HON:=aB o3
     have HSN:=aB hsn
     have HFL:=aB hfl
     obtain⟨A6,c6,rfl,hc6,hm6⟩:=aX HOQ
     clear hx hsn hle hl eg hmem hfl o1 o2 o3
     unfold maxLen at hm6
     go_wp2_with (at_builtin;refine aR _ rfl (.tmp 31) (.tmp 32) 37 rfl 125 i0 _ 2 24 Tryz.underlying37 hi hz0 hz1 hz2 rfl (by decide) (.slice A6 n c6) n _ rfl HOQ sA sn sc (bC sL) rfl HRS ?s1 ?s2 ?s3 ?s4 ?_)
     case s1=>exact HON
     case s2=>exact Az sL
     case s3=>unfold maxLen;omega
     case s4=>omega
     intro v2 w2 O2 G2 F2 _
     have T2:=HTQ.app G2 (λg hg hlt=>by have:=HFQ.out g hg;omega)
     have hF:∀ g,v2.ownBlock=some g->wo.heap.size<=g:=by
      intro g hg
      rcases F2 with e | ⟨g',e,hg'⟩
      ·rw[e] at hg;exact HFQ g hg
      ·rw[hg] at e
       injection e with e
       have:=HTQ.size
       omega
     rw[<-nM,<-HFL.out] at O2
     have HO2:=aB O2
     have HT2:=aB T2
     have HF2:=aB hF
     clear O2 G2 F2 T2 hF
     go_wp2
     go_roundw
     ·exact⟨i+1,n+sn,by simp,by omega,by omega,aB HSN.symm,HO2,HT2,HF2⟩
     ·show k-(intOf (.int .i64 ((i:Int)+1))).toNat<k-(intOf (.int .i64 (i:Int))).toNat
      simp[intOf]
      omega
    ·have hik':Ss.take i=Ss:=qXj (by rw[HK.out];omega)
     have HSE:=aB hik'
     clear hik'
     go_wp2
     go_ret
     obtain⟨A6,c6,rfl,_,_⟩:=aX HOQ
     have hsu:=HSU.out
     have ho:=HOQ.out
     rw[HSE.out] at hsu ho
     refine⟨A6,n,c6,rfl,ho,HTQ,hsu,?_,λg hg=>HFQ.out g (by rw[<-hg];cases A6<;>rfl)⟩
     rintro rfl
     rcases ho.2 with⟨e,_⟩ | ⟨g,cap,cur,e,_⟩
     ·injection e with _ e1 e2
      exact⟨e1,e2⟩
     ·cases e
def pZ(X Y:List aE):Prop:=Y.Pairwise (λa b=>iN a b=true)/\∀ k,key k Y=(key k X).getLast?.toList
theorem gS{A B:List aE}(hA:A.Pairwise (λa b=>iN a b=true))(hB:B.Pairwise (λa b=>iN a b=true))(h:bO A B):A=B:=by
 induction A generalizing B with
 | nil =>
  cases B with
  | nil=>rfl
  | cons b B=>have:=h.symm.mem (x:=b) (by simp);cases this
 | cons a A ih =>
  cases B with
  | nil=>have:=h.mem (x:=a) (by simp);cases this
  | cons b B =>
   obtain⟨hA1,hA2⟩:=List.pairwise_cons.1 hA
   obtain⟨hB1,hB2⟩:=List.pairwise_cons.1 hB
   have hab:a=b:=by
    rcases List.mem_cons.1 (h.mem (x:=a) (by simp)) with e | e
    ·exact e
    ·rcases List.mem_cons.1 (h.symm.mem (x:=b) (by simp)) with f | f
     ·exact f.symm
     ·have h1:=Da (hB1 a e) (hA1 b f)
      rw[zF] at h1
      cases h1
   subst hab
   rw[ih hA2 hB2 λk=>?_]
   have hk:=h k
   unfold key at hk ⊢
   simp only[List.filter_cons] at hk
   split at hk
   ·injection hk
   ·exact hk
theorem pZ.unique{Y Z:List aE}(h:pZ X Y)(k:pZ X Z):Y=Z:=gS h.1 k.1 λx=>(h.2 x).trans (k.2 x).symm
theorem pZ.of_same{X' Y:List aE}(h:pZ X Y)(k:bO X X'):pZ X' Y:=⟨h.1,λx=>by rw[h.2,k]⟩
def rR(x:aE):List aE->Prop
 | []=>True
 | y :: _=>y.word.toList≠x.word.toList
instance (x:aE) (l:List aE):Decidable (rR x l):=by
 cases l<;>(unfold rR;infer_instance)
def dd:List aE->List aE
 | []=>[]
 | x :: l=>if rR x l then x :: dd l else dd l
theorem aDj(l:List aE):(dd l).Sublist l:=by
 induction l with
 | nil=>exact List.Sublist.slnil
 | cons x l ih =>
  unfold dd
  split
  ·exact ih.cons_cons x
  ·exact ih.cons x
theorem Qk{x:aE}{l:List aE}(hs:dO (x :: l))(hd:rR x l):∀ y∈l,iN x y=true:=by
 intro y hy
 cases l with
 | nil=>cases hy
 | cons z l =>
  obtain⟨h1,h2⟩:=List.pairwise_cons.1 hs
  have hxz:iN x z=true:=by
   rcases Cz (a:=x) (b:=z) (λe=>hd e.symm) with e | e
   ·exact e
   ·have:=h1 z (by simp)
    unfold vE at this
    rw[e] at this
    cases this
  rcases List.mem_cons.1 hy with rfl | hy
  ·exact hxz
  ·exact wO hxz ((List.pairwise_cons.1 h2).1 y hy)
theorem aDi(l:List aE)(hs:dO l):pZ l (dd l):=by
 induction l with
 | nil=>exact⟨List.Pairwise.nil,λk=>rfl⟩
 | cons x l ih =>
  obtain⟨i1,i2⟩:=ih (List.pairwise_cons.1 hs).2
  unfold dd
  by_cases hd:rR x l
  ·rw[if_pos hd]
   have hp:=Qk hs hd
   refine⟨List.pairwise_cons.2 ⟨λy hy=>hp y ((aDj l).subset hy),i1⟩,λk=>?_⟩
   by_cases hk:x.word.toList=k
   ·have e1:key k l=[]:=by
     unfold key
     rw[qQl]
     intro y hy e
     exact qU (hp y hy) (hk.trans (of_decide_eq_true e).symm)
    have e2:=i2 k
    rw[e1] at e2
    have e3:key k (x :: dd l)=x :: key k (dd l):=by simp[key,hk]
    have e4:key k (x :: l)=x :: key k l:=by simp[key,hk]
    rw[e3,e4,e2,e1]
    rfl
   ·have e3:key k (x :: dd l)=key k (dd l):=by simp[key,hk]
    have e4:key k (x :: l)=key k l:=by simp[key,hk]
    rw[e3,e4,i2]
  ·rw[if_neg hd]
   refine⟨i1,λk=>?_⟩
   rw[i2]
   by_cases hk:x.word.toList=k
   ·have e4:key k (x :: l)=x :: key k l:=by simp[key,hk]
    rw[e4]
    cases l with
    | nil=>exact absurd trivial hd
    | cons z l =>
     have hz:z.word.toList=x.word.toList:=Classical.byContradiction hd
     have e5:key k (z :: l)=z :: key k l:=by simp[key,hz.trans hk]
     rw[e5]
     simp[List.getLast?_cons_cons]
   ·have e4:key k (x :: l)=key k l:=by simp[key,hk]
    rw[e4]
theorem Zy(Z:List aE)(i:Nat)(hi:i<Z.length):dd (Z.drop i)=if rR (Z.getD i aE.zero) (Z.drop (i+1)) then Z.getD i aE.zero :: dd (Z.drop (i+1)) else dd (Z.drop (i+1)):=by
 have e:Z.drop i=Z[i] :: Z.drop (i+1):=qXk hi
 have e2:Z.getD i aE.zero=Z[i]:=by simp[qZd,hi]
 rw[e,e2,dd]
theorem vC(w:World)(A0:Option Addr)(k c0:Nat)(Ss:List SL)(hk:Ss.length=k)(hR:aI w 1 A0 k (Ss.map SL.val))(hok:∀ s∈Ss,s.Ok w)(hsum:kD Ss<=5864062014700)(hk2:k<=5864062014700) :
  Calls Tryz.prog 144 #[.slice A0 k c0] w λe w'=>∃ A n c Y,e=.returned (.slice A n c)/\cZ w' A n c Y/\pZ (Ss.flatMap SL.L) Y/\aC (λ_=>False) w w'/\n<=kD Ss/\(A=none->n=0/\c=0)/\∀ g,aQ A=some g->w.heap.size<=g:=by
 obtain⟨i0,hi,hz0,hz1,hz2⟩:=aO jK
 obtain⟨X,hX⟩:=eX (Ss.flatMap SL.L)
 obtain⟨N,hN⟩:=eX (kD Ss)
 have HCO:=aB (Lm w A0 k c0 Ss hk hR hok hsum hk2)
 rw[<-hX,<-hN] at HCO
 rw[<-hX,<-hN]
 rw[<-hN] at hsum
 clear hk hR hok hk2 hX hN
 go_in
 go_wp2_with fail
 refine HCO.mono ?_
 rintro e w1 ⟨A1,n,c1,rfl,O1,T1,hnn,hnil1,F1⟩
 have hn:n<=5864062014700:=by omega
 have HO1:=aB O1
 have HT1:=aB T1
 have HF1:=aB F1
 have HNN:=aB hnn
 have HSF:=aB (Fr w1 A1 n c1 X O1 hn)
 clear O1 T1 F1 hnn hnil1 HCO
 go_wp2_with fail
 refine HSF.mono ?_
 rintro e w2 ⟨rfl,⟨Z,O2,s2,k2⟩,T2⟩
 have HO2:=aB O2
 have HZS:=aB s2
 have HZK:=aB k2
 have HT2:=aB (HT1.trans T2 (λi hi hp=>by have:=HF1.out i hp;omega))
 clear O2 s2 k2 T2 HSF
 go_wp2_with fail
 go_loopw [4,13] (λrv iv wr=>∃ i q:Nat,iv=.int .i64 i/\i<=n/\q<=i/\Hid (∃ O,wr.ownsRow 0 125 2 rv q (bC O)/\O++dd (Z.drop i)=dd Z)/\Hid (aC (λ_=>False) w2 wr)/\Hid (∀ g,rv.ownBlock=some g->w2.heap.size<=g)) (λ_ iv _=>n-(intOf iv).toNat)
 case atStart=>exact⟨0,0,rfl,qJc _,qJc _,aB ⟨[],World.ownsRow_nil _ _ _ _,rfl⟩,aB (aC.refl _ _),aB (λg e=>by simp[Value.ownBlock] at e)⟩
 case round =>
  obtain⟨i,q,rfl,hin,hqi,HE,HT,HF⟩:=hrel
  have HZ:=aB (aD HO2 HT (λ_ _ f=>f))
  by_cases h0:i<n
  ·have y0:(i:Int)<(n:Int):=by omega
   have hzl:=bM HO2
   obtain⟨g,rfl,hg,a0,a1,_,_⟩:=cY HZ.out hzl i h0
   have hst:=Zy Z i (by omega)
   obtain⟨⟨xw,xn⟩,hx⟩:∃ r,r=Z.getD i aE.zero:=⟨_,rfl⟩
   rw[<-hx] at a0 a1 hst
   simp only at a0 a1
   obtain⟨O,O3,hO⟩:=HE.out
   obtain⟨A4,c4,rfl,_,hm4⟩:=aX O3
   unfold maxLen at hm4
   have HO3:=aB O3
   have HOE:=aB hO
   have HST:=aB hst
   obtain⟨j,hj⟩:=eX (i+1)
   have y1:(i:Int)+1=(j:Int):=by omega
   have y2:IntKind.i64.wrap (j:Int)=(j:Int):=qQf _ (by omega)
   have HJ:=aB hj
   obtain⟨p,hp⟩:=eX wr.heap.size
   have HPP:=aB hp
   have hjn:j<=n:=by omega
   obtain⟨wa,hwa⟩:=eX (wr.alloc (.cells #[.string xw,.int .i64 xn] 125))
   have ta:aC (λ_=>False) wr wa:=by rw[hwa];exact (aC.refl _ _).alloc _
   have ba:aL wa p 125 #[.string xw,.int .i64 xn]:=by rw[hwa,hp];exact aL.new _ _ _
   have HTA:=aB ta
   have HBA:=aB ba
   have HWA:=aB hwa
   have hcase:(j=n/\rR ⟨xw,xn⟩ (Z.drop j))\/∃ yw yn,j<n/\(⟨yw,yn⟩:aE)=Z.getD j aE.zero/\((¬ yw.toList=xw.toList/\rR ⟨xw,xn⟩ (Z.drop j))\/(yw.toList=xw.toList/\¬ rR ⟨xw,xn⟩ (Z.drop j))):=by
    by_cases hj2:j=n
    ·left
     refine⟨hj2,?_⟩
     rw[qJk (by omega)]
     trivial
    ·right
     have e:Z.drop j=Z[j]'(by omega) :: Z.drop (j+1):=qXk (by omega)
     have e2:Z.getD j aE.zero=Z[j]'(by omega):=by simp[qZd,show j<Z.length by omega]
     refine⟨(Z.getD j aE.zero).word,(Z.getD j aE.zero).weight,by omega,rfl,?_⟩
     rw[e,e2]
     by_cases hq:(Z[j]'(by omega)).word.toList=xw.toList
     ·exact .inr ⟨hq,λhd=>hd hq⟩
     ·exact .inl ⟨hq,hq⟩
   clear O3 hO hst HE hj hwa ta ba hx hp
   rcases hcase with⟨h1,hd⟩ | ⟨yw,yn,h1,hy,hd⟩
   ·have HDI:=aB hd
    have HJN:=aB h1
    have x1:((j:Int) == (n:Int))=true:=by simp[h1]
    have x2:(j == n)=true:=by simp[h1]
    clear hd h1 hzl
    go_upto_region 7 with fail
    rw[<-HWA.out,<-HPP.out]
    obtain⟨e0,e1⟩:wa.cell? ⟨p,0,none⟩=some (.string xw)/\wa.cell? ⟨p,1,none⟩=some (.int .i64 xn):=⟨HBA.cell 0,HBA.cell 1⟩
    go_quiet (fail)
    obtain⟨wb,hwb⟩:=eX (wa.drewN nq)
    have tb:aC (λ_=>False) wa wb:=by rw[hwb];exact (aC.refl _ _).drewN _
    rw[<-hwb]
    have hbb:=HBA.touch tb (λf=>f)
    have HTB:=aB (HTA.then tb)
    obtain⟨e2,e3⟩:wb.cell? ⟨p,0,none⟩=some (.string xw)/\wb.cell? ⟨p,1,none⟩=some (.int .i64 xn):=⟨hbb.cell 0,hbb.cell 1⟩
    clear hwb tb hbb e0 e1
    go_wp2_with (at_builtin;refine aR _ rfl (.tmp 34) (.tmp 36) 37 rfl 125 i0 _ 2 24 Tryz.underlying37 hi hz0 hz1 hz2 rfl (by decide) (.slice A4 q c4) q _ rfl (aD HO3 (HTB.alloc _) (λ_ _ f=>f)) (some ⟨_,0,none⟩) 1 1 (aE.cells ⟨xw,xn⟩) rfl ?s1 ?s2 ?s3 ?s4 ?s5 ?_)
    case s1=>exact aI.new _ _ _ _ rfl
    try (case s2=>exact λh=>by cases h)
    case s3=>exact List.all_eq_true.1 rfl
    case s4=>unfold maxLen;omega
    case s5=>omega
    intro v2 w3 O5 G5 F5 _
    have T5:=((HT.then HTB).alloc (.cells #[.string xw,.int .i64 xn] 125)).app G5 (λg hg hlt=>by have:=HF.out g hg;omega)
    have hF5:∀ g,v2.ownBlock=some g->w2.heap.size<=g:=by
     intro g hg
     rcases F5 with e | ⟨g',e,hg'⟩
     ·rw[e] at hg;exact HF g hg
     ·rw[hg] at e
      injection e with e
      have h1:=HT.size
      have h2:=HTB.size
      simp at hg'
      omega
    have HO5:=aB O5
    have HT5:=aB T5
    have HF5:=aB hF5
    clear O5 T5 hF5 G5 F5
    go_wp2
    go_roundw
    ·refine⟨j,q+1,rfl,hjn,by have:=HJ.out;omega,aB ⟨O++[⟨xw,xn⟩],?_,?_⟩,HT5,HF5⟩
     ·have:=HO5.out
      rw[nM]
      simpa [bC] using this
     ·have hs:=HST.out
      rw[<-HJ.out,if_pos HDI.out] at hs
      rw[<-HOE.out,hs,qXh]
      rfl
    ·have:=HJ.out
     show n-(j:Int).toNat<n-(i:Int).toNat
     omega
   ·obtain⟨g',hA,_,b0,b1,_,_⟩:=cY HZ.out hzl j h1
    injection hA with hA
    injection hA with hA _
    subst hA
    rw[<-hy] at b0 b1
    simp only at b0 b1
    have x1:((j:Int) == (n:Int))=false:=by simp;omega
    have x2:(j == n)=false:=by simp;omega
    have HY:=aB hy
    clear hy hzl
    rcases hd with⟨q1,hd⟩ | ⟨q1,hd⟩
    ·have HDI:=aB hd
     have q2:(yw.toList == xw.toList)=false:=by simp[q1]
     have q3:decide (yw.toList=xw.toList)=false:=by simp[q1]
     have q4:¬ yw=xw:=λe=>q1 (by rw[e])
     have q5:decide (yw=xw)=false:=by simp[q4]
     clear hd
     go_upto_region 7 with fail
     rw[<-HWA.out,<-HPP.out]
     obtain⟨e0,e1⟩:wa.cell? ⟨p,0,none⟩=some (.string xw)/\wa.cell? ⟨p,1,none⟩=some (.int .i64 xn):=⟨HBA.cell 0,HBA.cell 1⟩
     have b0':=(HTA.cell (a:=⟨g,j*2,none⟩) hg (λf=>f)).trans b0
     go_quiet (fail)
     obtain⟨wb,hwb⟩:=eX (wa.drewN nq)
     have tb:aC (λ_=>False) wa wb:=by rw[hwb];exact (aC.refl _ _).drewN _
     rw[<-hwb]
     have hbb:=HBA.touch tb (λf=>f)
     have HTB:=aB (HTA.then tb)
     obtain⟨e2,e3⟩:wb.cell? ⟨p,0,none⟩=some (.string xw)/\wb.cell? ⟨p,1,none⟩=some (.int .i64 xn):=⟨hbb.cell 0,hbb.cell 1⟩
     clear hwb tb hbb e0 e1
     go_wp2_with (at_builtin;refine aR _ rfl (.tmp 34) (.tmp 36) 37 rfl 125 i0 _ 2 24 Tryz.underlying37 hi hz0 hz1 hz2 rfl (by decide) (.slice A4 q c4) q _ rfl (aD HO3 (HTB.alloc _) (λ_ _ f=>f)) (some ⟨_,0,none⟩) 1 1 (aE.cells ⟨xw,xn⟩) rfl ?s1 ?s2 ?s3 ?s4 ?s5 ?_)
     case s1=>exact aI.new _ _ _ _ rfl
     try (case s2=>exact λh=>by cases h)
     case s3=>exact List.all_eq_true.1 rfl
     case s4=>unfold maxLen;omega
     case s5=>omega
     intro v2 w3 O5 G5 F5 _
     have T5:=((HT.then HTB).alloc (.cells #[.string xw,.int .i64 xn] 125)).app G5 (λg hg hlt=>by have:=HF.out g hg;omega)
     have hF5:∀ g,v2.ownBlock=some g->w2.heap.size<=g:=by
      intro g hg
      rcases F5 with e | ⟨g',e,hg'⟩
      ·rw[e] at hg;exact HF g hg
      ·rw[hg] at e
       injection e with e
       have h1:=HT.size
       have h2:=HTB.size
       simp at hg'
       omega
     have HO5:=aB O5
     have HT5:=aB T5
     have HF5:=aB hF5
     clear O5 T5 hF5 G5 F5
     go_wp2
     go_roundw
     ·refine⟨j,q+1,rfl,hjn,by have:=HJ.out;omega,aB ⟨O++[⟨xw,xn⟩],?_,?_⟩,HT5,HF5⟩
      ·have:=HO5.out
       rw[nM]
       simpa [bC] using this
      ·have hs:=HST.out
       rw[<-HJ.out,if_pos HDI.out] at hs
       rw[<-HOE.out,hs,qXh]
       rfl
     ·have:=HJ.out
      show n-(j:Int).toNat<n-(i:Int).toNat
      omega
    ·have HDI:=aB hd
     clear hd
     go_upto_region 7 with fail
     rw[<-HWA.out,<-HPP.out]
     obtain⟨e0,e1⟩:wa.cell? ⟨p,0,none⟩=some (.string xw)/\wa.cell? ⟨p,1,none⟩=some (.int .i64 xn):=⟨HBA.cell 0,HBA.cell 1⟩
     have b0':=(HTA.cell (a:=⟨g,j*2,none⟩) hg (λf=>f)).trans b0
     go_quiet (fail)
     obtain⟨wb,hwb⟩:=eX (wa.drewN nq)
     have tb:aC (λ_=>False) wa wb:=by rw[hwb];exact (aC.refl _ _).drewN _
     rw[<-hwb]
     have hbb:=HBA.touch tb (λf=>f)
     have HTB:=aB (HTA.then tb)
     obtain⟨e2,e3⟩:wb.cell? ⟨p,0,none⟩=some (.string xw)/\wb.cell? ⟨p,1,none⟩=some (.int .i64 xn):=⟨hbb.cell 0,hbb.cell 1⟩
     clear hwb tb hbb e0 e1
     go_wp2
     go_roundw
     ·refine⟨j,q,rfl,hjn,by have:=HJ.out;omega,aB ⟨O,aD HO3 HTB (λ_ _ f=>f),?_⟩,aB (HT.then HTB),HF⟩
      have hs:=HST.out
      rw[<-HJ.out,if_neg HDI.out] at hs
      rw[<-HOE.out,hs]
     ·have:=HJ.out
      show n-(j:Int).toNat<n-(i:Int).toNat
      omega
  ·have hin':Z.drop i=[]:=qJk (by have:=bM HO2.out;omega)
   obtain⟨O,O3,hO⟩:=HE.out
   rw[hin'] at hO
   simp only[dd,qXf] at hO
   subst hO
   obtain⟨A4,c4,rfl,_,_⟩:=aX O3
   have HO3:=aB O3
   clear O3 HE hin'
   go_wp2
   go_ret
   refine⟨A4,q,c4,dd Z,rfl,HO3,(aDi Z HZS).of_same HZK.symm,HT2.then HT,by have:=HNN.out;omega,?_,?_⟩
   ·rintro rfl
    rcases HO3.2 with⟨e,_⟩ | ⟨g,cap,cur,e,_⟩
    ·injection e with _ e1 e2
     exact⟨e1,e2⟩
    ·cases e
   ·intro g hg
    have h1:=HF.out g (by rw[<-hg];cases A4<;>rfl)
    have h2:=HT2.size
    omega
theorem Sa(w:World)(s:SL)(hs:s.Ok w)(hsum:s.n<=5864062014700) :
  Calls Tryz.prog 101 #[s.val] w λe w'=>∃ A n c Y,e=.returned (.slice A n c)/\cZ w' A n c Y/\pZ s.L Y/\aC (λ_=>False) w w'/\n<=s.n/\(A=none->n=0/\c=0)/\∀ g,aQ A=some g->w.heap.size<=g:=by
 obtain⟨wa,hwa⟩:=eX (w.alloc (.cells [s.val].toArray 37))
 obtain⟨g,hg⟩:=eX w.heap.size
 have ta:aC (λ_=>False) w wa:=by rw[hwa];exact (aC.refl _ _).alloc _
 have hr:aI wa 1 (some ⟨g,0,none⟩) 1 ([s].map SL.val):=by rw[hwa,hg];exact aI.new w _ _ _ rfl
 have HOR:=aB (vC wa (some ⟨g,0,none⟩) 1 1 [s] rfl hr (λx hx=>by simp at hx;subst hx;exact⟨hs.len,hs.reads.touch ta (λ_ _ f=>f),hs.nil⟩) (by simp[kD];exact hsum) (by decide))
 have HTA:=aB ta
 have HWA:=aB hwa
 have HG:=aB hg
 clear hs ta hr hwa hg
 obtain⟨sA,sn,sc,sL⟩:=s
 simp only[SL.val] at HWA ⊢
 simp only at hsum
 go_in
 go_wp2_with fail
 have e1:w.alloc (.cells #[.slice sA sn sc] 37)=wa:=HWA.symm
 rw[e1,<-HG.out]
 clear e1
 refine HOR.mono ?_
 rintro e w1 ⟨A,n,c,Y,rfl,O1,N1,T1,h1,h2,h3⟩
 have HO:=aB O1
 have HN:=aB N1
 have HT:=aB T1
 have H1:=aB (And.intro h1 (And.intro h2 h3))
 clear O1 N1 T1 h1 h2 h3
 go_wp2
 go_ret
 obtain⟨h1,h2,h3⟩:=H1.out
 have hN:=HN.out
 simp only[qQd,List.flatMap_nil,qXf] at hN
 refine⟨A,n,c,Y,rfl,HO,hN,HTA.then HT,by simpa [kD] using h1,h2,λg hg=>?_⟩
 have:=h3 g hg
 have:=HTA.size
 omega
def eJ(p:aE):Bool:=!(p.weight == 0)
structure PNx(w0 w:World)(v:Value)(q:Nat)(N:List aE):Prop where
 own:w.ownsRow 0 125 2 v q (bC N)
 len:N.length=q
 touch:aC (λ_=>False) w0 w
 fresh:∀ g,v.ownBlock=some g->w0.heap.size<=g
theorem PNx.to{w2:World}{N:List aE}(h:PNx w0 w v q N)(t:aC (λ_=>False) w w2):PNx w0 w2 v q N :=
 ⟨aD h.own t (λ_ _ f=>f),h.len,h.touch.then t,h.fresh⟩
theorem PNx.app{w1 w3:World}{v':Value}{N:List aE}{m:aE}(h:PNx w0 w1 v q N)(ho:w3.ownsRow 0 125 2 v' (q+1) (bC N++m.cells))(hg:w1.grownBy w3 v.ownBlock)(hf:bJ w1 v v'):PNx w0 w3 v' (q+1) (N++[m]):=by
 refine⟨by rw[nM];simpa [bC] using ho,by simp[h.len],h.touch.app hg (λg hg hlt=>by have:=h.fresh g hg;omega),?_⟩
 intro g hg
 rcases hf with e | ⟨g',e,hg'⟩
 ·rw[e] at hg;exact h.fresh g hg
 ·rw[hg] at e
  injection e with e
  have:=h.touch.size
  omega
def fI(p:aE):Bool->List aE->List aE
 | done,[]=>if done=true then [] else [p]
 | true,x :: l=>if x.word.toList=p.word.toList then fI p true l else x :: fI p true l
 | false,x :: l=>if iN x p=true then x :: fI p false l else p :: (if x.word.toList=p.word.toList then fI p true l else x :: fI p true l)
theorem Sh(p:aE)(l:List aE):fI p true l=l.filter (λx=>decide (¬ x.word.toList=p.word.toList)):=by
 induction l with
 | nil=>rfl
 | cons x l ih =>
  unfold fI
  by_cases h:x.word.toList=p.word.toList
  ·rw[if_pos h,ih];simp[h]
  ·rw[if_neg h,ih];simp[h]
theorem zG(p x:aE)(l:List aE)(h:¬ iN x p=true):fI p false (x :: l)=p :: (x :: l).filter (λx=>decide (¬ x.word.toList=p.word.toList)):=by
 rw[<-Sh]
 unfold fI
 rw[if_neg h]
theorem Im(p:aE)(l:List aE):∀ y∈fI p false l,y=p\/y∈l:=by
 induction l with
 | nil=>intro y hy;simp[fI] at hy;exact .inl hy
 | cons x l ih =>
  intro y hy
  by_cases h:iN x p=true
  ·unfold fI at hy
   rw[if_pos h] at hy
   rcases List.mem_cons.1 hy with e | e
   ·exact .inr (by simp[e])
   ·rcases ih y e with e | e
    ·exact .inl e
    ·exact .inr (by simp[e])
  ·rw[zG p x l h] at hy
   rcases List.mem_cons.1 hy with e | e
   ·exact .inl e
   ·exact .inr (List.mem_filter.1 e).1
theorem wQ(p:aE)(l:List aE)(hs:kK l):kK (fI p false l)/\∀ k,key k (fI p false l)=if p.word.toList=k then [p] else key k l:=by
 induction l with
 | nil =>
  refine⟨by simp[fI,kK],λk=>?_⟩
  by_cases hk:p.word.toList=k
  ·simp[fI,key,hk]
  ·simp[fI,key,hk]
 | cons x l ih =>
  obtain⟨h1,h2⟩:=List.pairwise_cons.1 hs
  obtain⟨i1,i2⟩:=ih h2
  by_cases h:iN x p=true
  ·have e:fI p false (x :: l)=x :: fI p false l:=by rw[fI,if_pos h]
   rw[e]
   refine⟨List.pairwise_cons.2 ⟨λy hy=>?_,i1⟩,λk=>?_⟩
   ·rcases Im p l y hy with e | e
    ·rw[e];exact h
    ·exact h1 y e
   ·have hi:=i2 k
    by_cases hk:x.word.toList=k
    ·have hp:¬ p.word.toList=k:=λe=>qU h (hk.trans e.symm)
     rw[if_neg hp] at hi ⊢
     have e3:key k (x :: fI p false l)=x :: key k (fI p false l):=by simp[key,hk]
     have e4:key k (x :: l)=x :: key k l:=by simp[key,hk]
     rw[e3,e4,hi]
    ·have e3:key k (x :: fI p false l)=key k (fI p false l):=by simp[key,hk]
     have e4:key k (x :: l)=key k l:=by simp[key,hk]
     rw[e3,e4,hi]
  ·rw[zG p x l h]
   have hpx:vE p x:=by simpa [vE] using h
   have hpl:∀ y∈x :: l,vE p y:=by
    intro y hy
    rcases List.mem_cons.1 hy with e | e
    ·rw[e];exact hpx
    ·exact iB hpx (gU (h1 y e))
   refine⟨List.pairwise_cons.2 ⟨λy hy=>?_,hs.sublist List.filter_sublist⟩,λk=>?_⟩
   ·obtain⟨y1,y2⟩:=List.mem_filter.1 hy
    have y2:=of_decide_eq_true y2
    rcases Cz (a:=p) (b:=y) (λe=>y2 e.symm) with e | e
    ·exact e
    ·have:=hpl y y1
     unfold vE at this
     rw[e] at this
     cases this
   ·by_cases hk:p.word.toList=k
    ·rw[if_pos hk]
     have e3:key k (p :: (x :: l).filter (λx=>decide (¬ x.word.toList=p.word.toList)))=p :: key k ((x :: l).filter (λx=>decide (¬ x.word.toList=p.word.toList))):=by simp[key,hk]
     have e4:key k ((x :: l).filter (λx=>decide (¬ x.word.toList=p.word.toList)))=[]:=by
      unfold key
      rw[qQl]
      intro y hy e
      have y2:=of_decide_eq_true (List.mem_filter.1 hy).2
      exact y2 ((of_decide_eq_true e).trans hk.symm)
     rw[e3,e4]
    ·rw[if_neg hk]
     have e3:key k (p :: (x :: l).filter (λx=>decide (¬ x.word.toList=p.word.toList)))=key k ((x :: l).filter (λx=>decide (¬ x.word.toList=p.word.toList))):=by simp[key,hk]
     rw[e3]
     unfold key
     rw[List.filter_filter]
     congr 1
     funext y
     by_cases hy:y.word.toList=k
     ·have:¬ y.word.toList=p.word.toList:=λe=>hk (e.symm.trans hy)
      have hkp:¬ k=p.word.toList:=λe=>hk e.symm
      simp[hy,hkp]
     ·simp[hy]
theorem pZ.nil:pZ [] []:=⟨List.Pairwise.nil,λ_=>rfl⟩
theorem pZ.put(h:pZ X O)(p:aE):pZ (X++[p]) (fI p false O):=by
 obtain⟨h1,h2⟩:=wQ p O h.1
 refine⟨h1,λk=>?_⟩
 rw[h2,lQ]
 by_cases hk:p.word.toList=k
 ·rw[if_pos hk]
  have e:key k [p]=[p]:=by simp[key,hk]
  rw[e];simp
 ·rw[if_neg hk]
  have e:key k [p]=[]:=by simp[key,hk]
  rw[e,qXf]
  exact h.2 k
theorem pZ.mem(h:pZ X O){x:aE}(hx:x∈O):x∈X:=by
 have h1:x∈key x.word.toList O:=by simp[key,hx]
 rw[h.2] at h1
 have h2:=List.mem_of_getLast? (by simpa using h1)
 exact (List.mem_filter.1 h2).1
theorem Wo(hn:O.Pairwise (λa b=>a≠b)):∀ {X:List aE},(∀ x∈O,x∈X)->O.length<=X.length:=by
 induction O with
 | nil=>intro X _;exact qJc _
 | cons a O ih =>
  intro X h
  obtain⟨h1,h2⟩:=List.pairwise_cons.1 hn
  obtain⟨X1,X2,rfl⟩:=List.append_of_mem (h a (by simp))
  have:=ih h2 (X:=X1++X2) (λx hx=>by
   rcases List.mem_append.1 (h x (by simp[hx])) with e | e
   ·exact List.mem_append.2 (.inl e)
   ·rcases List.mem_cons.1 e with e | e
    ·exact absurd e.symm (h1 x hx)
    ·exact List.mem_append.2 (.inr e))
  simp only[qQe,qQa] at this ⊢
  omega
theorem pZ.len(h:pZ X O)(k:Nat)(hX:X.length<=k):O.length<=k :=
 qJe (Wo (h.1.imp (λ{a b} hab e=>by rw[e,zF] at hab;cases hab)) (λx hx=>h.mem hx)) hX
def Dt(r:Nat):Nat->List Nat->List Nat->List Nat
 | t,c :: wd,a :: b :: s=>min (min (a+if c=r then 0 else 1) (b+1)) (t+1) :: Dt r (min (min (a+if c=r then 0 else 1) (b+1)) (t+1)) wd (b :: s)
 | _,_,_=>[]
def lW(wd:List Nat)(s:List Nat)(r:Nat):List Nat:=(s.headD 0+1) :: Dt r (s.headD 0+1) wd s
theorem Du(r:Nat):∀ (wd:List Nat) (t:Nat) (s:List Nat),s.length=wd.length+1->(Dt r t wd s).length=wd.length
 | [],t,s,h=>by
  cases s with
  | nil=>rfl
  | cons a s=>cases s<;>rfl
 | c :: wd,t,[],h=>by simp at h
 | c :: wd,t,[a],h=>by simp at h
 | c :: wd,t,a :: b :: s,h=>by
  simp only[Dt,qQa]
  rw[Du r wd _ (b :: s) (by simpa using h)]
theorem mX(r:Nat)(h:s.length=wd.length+1):(lW wd s r).length=wd.length+1:=by
 unfold lW
 rw[qQa,Du r wd _ s h]
theorem Hg:∀ (text s:List Nat),s.length=wd.length+1->(text.foldl (lW wd) s).length=wd.length+1
 | [],s,h=>h
 | r :: text,s,h=>Hg text _ (mX r h)
theorem eB.from{e size:Nat}{w1:World}{xs:List Value}(h:eB e size w0 w1 v q xs)(T:aC (λ_=>False) w w0):eB e size w w1 v q xs :=
 ⟨h.own,T.then h.touch,λg hg=>qJe T.size (h.fresh g hg)⟩
def u8V(x:Nat):Value:=.int .u8 (x:Int)
def Iw(s:List Nat):Array Value:=((qQh 25).map λj=>u8V (s.getD j 0)).toArray
theorem Dk(s:List Nat):(Iw s).size=25:=by simp[Iw]
def aCq(o:Nat)(s:List Nat):List Nat:=s.map (min · o)
theorem rK:∀ (vs:List Value) (o:Nat) (w:World) (cs:Array Value),aL w g t cs->∃ cs',aL (w.setCells g o vs) g t cs'/\cs'.size=cs.size
 | [],_,_,cs,h=>⟨cs,h,rfl⟩
 | v :: r,o,w,cs,h=>by
  obtain⟨cs',h1,h2⟩:=rK r (o+1) _ _ (h.set_ o v)
  exact⟨cs',h1,by rw[h2];simp⟩
theorem aL.range(h:aL w g t cs):w.rangeAt g 0 cs.toList:=λj v hv=>by
 rw[qZe,h.cell]
 simpa using hv
theorem aL.there(h:aL w g t cs)(hn:n<=cs.size):w.there g 0 n:=λj hj=>by
 rw[qZe,h.cell]
 exact⟨by simp;omega,h.frozen j⟩
theorem aL.setAll{ds:Array Value}(h:aL w g t cs)(hs:ds.size=cs.size):aL (w.setCells g 0 ds.toList) g t ds:=by
 obtain⟨cs',h1,h2⟩:=rK ds.toList 0 w cs h
 have e:cs'=ds:=by
  apply Array.ext_getElem?
  intro j
  rw[<-h1.cell j]
  by_cases hj:j<ds.size
  ·have:=World.cell?_setCells_in g ds.toList 0 w (λi hi=>((h.there (Nat.le_of_eq hs)) i (by simpa using hi)).1) j (by simpa using hj)
   rw[qZe] at this
   rw[this]
   simp[hj]
  ·rw[h1.cell,Array.getElem?_eq_none (by omega),Array.getElem?_eq_none (by omega)]
 rw[e] at h1
 exact h1
theorem aL.row(h:aL w g 181 (Iw s))(t:List Nat):aL (w.setCells g 0 (Iw t).toList) g 181 (Iw t):=h.setAll (by rw[Dk,Dk])
structure Pq(w:World)(b:Nat)(A:Option Addr)(n c:Nat)(X:List Nat)(o:Nat):Prop where
 blk:aL w b 252 (#[.slice A n c,u8V o]++Iw (List.replicate (n+1) o))
 rd:fM w 21 1 A n (X.map eV)
 len:X.length=n
 few:n<=24
 o1:1<=o
 o2:o<=4
theorem Pq.quiet{X:List Nat}(h:Pq w b A n c X o)(T:aC (λ_=>False) w w'):Pq w' b A n c X o :=
 ⟨h.blk.touch T (λf=>f),h.rd.quiet T,h.len,h.few,h.o1,h.o2⟩
theorem Pq.cells{X:List Nat}(h:Pq w b A n c X o) :
  w.cell? ⟨b,0,none⟩=some (.slice A n c)/\w.cell? ⟨b,1,none⟩=some (.int .u8 (o:Int))/\b<w.heap.size:=by
 have h0:=h.blk.cell 0
 have h1:=h.blk.cell 1
 refine⟨?_,?_,h.blk.lt⟩
 ·rw[h0,Array.getElem?_append_left (by simp)];rfl
 ·rw[h1,Array.getElem?_append_left (by simp)];rfl
section
def aGa(x y z u:Int):Int:=min (min (min x y) z) u
theorem Fd{P:Program}(w:World)(ts:Array TypeId)(t:TypeId)(k k1 k2 k3:IntKind)(x y z u:Int):(Builtin.min_ ts t #[.int k x,.int k1 y,.int k2 z,.int k3 u]).run P w=.ok (.int k (aGa x y z u)) w:=by
 have e:∀ a b:Int,(if b<a then b else a)=min a b:=λa b=>by
  rw[Int.min_def]
  split<;>split<;>omega
 simp[Builtin.min_,Builtin.min2,e,aGa]
attribute [local go_sem] Fd
end
section
open Go.RowKit Go.Shelf
attribute [local go_sem] Oper.semAt_some
theorem vN{B:Nat}{W:World}(h0:aC (λ_=>False) w0 W)(h:Below B W w')(hB:w0.heap.size<=B):aC (λ_=>False) w0 w' :=
 ⟨h.os.trans h0.os,h.tape.trans h0.tape,h.output.trans h0.output,qJe h0.size h.size,λk hk _=>(h.block k (Nat.lt_of_lt_of_le hk hB)).trans (h0.block k hk (λf=>f))⟩
def sS{α:Type}(f:Nat->α)(k:Nat):List α:=(qQh k).map f
theorem uN(f:Nat->α)(k:Nat):sS f (k+1)=sS f k++[f k]:=by simp[sS,List.range_succ]
theorem Kh(f:Nat->α)(k:Nat):(sS f k).length=k:=by simp[sS]
def lK(L:List aE)(j:Nat):Int × aE:=(((L.length-1-j:Nat):Int),L.getD (L.length-1-j) aE.zero)
def vY(x:Int × aE):Array Value:=#[.int .i64 x.1,.agg #[.string x.2.word,.int .i64 x.2.weight]]
theorem Up(F:Fence)(n:Nat)(hf:F.fn 157)(hro:F.round=none)(hn:1<=n)(l Bs n0:Nat)(w0:World)(A:Option Addr)(len cap:Nat)(L:List aE)(hL:L.length=len)(hR:aI w0 2 A len (bC L))(hlen:len<=maxLen)(J Jx:List (Int × aE)->World->Prop)
  (hY:∀ pre x W,J pre W->pre.length<len->YieldAt F (n-1) Tryz.prog l (vY x) W λe W' =>
    (e=.returned (.bool true)/\J (pre++[x]) W'/\Below n0 W W')\/(e=.returned (.bool false)/\Jx (pre++[x]) W'))
  (W:World)(hW:aC (λ_=>False) w0 W)(hbs:Bs<n0)(hn0:w0.heap.size<=n0)(hBs:W.cell? ⟨Bs,0,none⟩=some (.slice A len cap))(h0:J [] W) :
  CallsIn F n Tryz.prog 157 #[.func (.yield l) #[] #[],.pointer (some ⟨Bs,0,none⟩)] W λe W'=>(∃ v,e=.returned v) /\
   ((∃ ys,ys=sS (lK L) len/\J ys W')\/(∃ pre,(∃ k,k<=len/\pre=sS (lK L) k)/\Jx pre W')):=by
 unfold maxLen at hlen
 have HR:=aB hR
 have HL:=aB hL
 have hw:IntKind.i64.wrap ((len:Int)-1)=(len:Int)-1:=qQf _ (by omega)
 have HST:((len:Int)-1 = -1/\len=0)\/∃ i:Nat,(len:Int)-1=(i:Int)/\len=i+1:=by
  by_cases h:len=0
  ·exact .inl ⟨by omega,h⟩
  ·exact .inr ⟨len-1,by omega,by omega⟩
 have HST:=aB HST
 clear hR hL
 refine callsIn_of_wp Tryz.func157 rfl hf ?_ hro
 simp only[Tryz.ntmps157,qZh,qQa,qQb,qJj,qQk,Array.replicate_succ,Array.replicate_zero,qZj,qJh,qJd,qQc]
 gi_wp2
 gi_loopw [3] (λiv wr=>∃ (z:Int) (k m:Nat),iv=.int .i64 z/\Hid (k+m=len)/\Hid ((z = -1/\m=0)\/∃ i:Nat,z=(i:Int)/\m=i+1)/\Hid (J (sS (lK L) k) wr)/\Hid (Below n0 W wr)) (λiv _=>(intOf iv+1).toNat)
 case atStart=>exact⟨_,0,len,rfl,aB (qZe _),HST,aB h0,aB (Below.refl _ _)⟩
 case round =>
  obtain⟨z,k,m,rfl,HK,HZ,HJ,HB⟩:=hrel
  have c1:=(HB.cell (p:=⟨Bs,0,none⟩) hbs).trans hBs
  rcases HZ.out with⟨rfl,rfl⟩ | ⟨i,rfl,rfl⟩
  ·clear HZ
   gi_wp2
   go_end0
   have hk:k=len:=by have:=HK.out;omega
   exact⟨⟨_,rfl⟩,.inl ⟨_,rfl,by rw[<-hk];exact HJ⟩⟩
  ·clear HZ
   have y0:¬ (i:Int)<0:=by omega
   have y1:(0:Int)<=(i:Int):=by omega
   have y2:i<len:=by have:=HK.out;omega
   have y3:(i:Int)<(len:Int):=by omega
   have y4:L.length-1-k=i:=by have:=HK.out;rw[HL.out];omega
   obtain⟨g,o,hA,_,a0,a1⟩:=iC (HR.touch (vN hW HB hn0) (λ_ _ f=>f)) HL.symm i y2
   subst hA
   have hbf:lK L k=((i:Int),L.getD i aE.zero):=by unfold lK;rw[y4]
   have hus:=uN (lK L) k
   rw[hbf] at hus
   obtain⟨⟨xw,xn⟩,hx⟩:∃ x,x=L.getD i aE.zero:=⟨_,rfl⟩
   rw[<-hx] at a0 a1 hus
   simp only at a0 a1
   have HUS:=aB hus
   clear hx hus hbf
   obtain⟨fn,tmps,assign,body,hy,hR⟩:=hY _ ((i:Int),⟨xw,xn⟩) wr HJ (by rw[Kh];have:=HK.out;omega)
   simp only[vY] at hy
   obtain⟨z2,hz2⟩:∃ z2:Int,(i:Int)-1=z2:=⟨_,rfl⟩
   have hw2:IntKind.i64.wrap z2=z2:=qQf _ (by omega)
   have HZ2:=aB hz2
   gi_wp2
   refine hR.mono ?_
   rintro e W3 (⟨rfl,hJ3,hk3⟩ | ⟨rfl,hJx3⟩)
   ·have HJ3:=aB hJ3
    have HK3:=aB hk3
    clear hJ3 hk3
    gi_wp2
    go_roundw
    case rel =>
     have hz2:=HZ2.out
     refine⟨z2,k+1,i,rfl,aB (by have:=HK.out;omega),aB ?_,aB (by rw[HUS.out];exact HJ3),aB (HB.trans HK3)⟩
     by_cases hi0:i=0
     ·exact .inl ⟨by omega,hi0⟩
     ·exact .inr ⟨i-1,by omega,by omega⟩
    case measure =>
     have hz2:=HZ2.out
     show (z2+1).toNat<((i:Int)+1).toNat
     omega
   ·gi_wp2
    refine bodyPost_ret (results_none rfl _ _ _) rfl ?_
    exact⟨⟨_,rfl⟩,.inr ⟨_,⟨k+1,by have:=HK.out;omega,HUS.symm⟩,hJx3⟩⟩
end
section
open Go.RowKit Go.Shelf
attribute [local go_sem] Oper.semAt_some
theorem Gr(F:Fence)(n:Nat)(hf:F.fn 110)(hro:F.round=none)(a:Option Addr)(len cap:Nat)(w:World) :
  CallsIn F n Tryz.prog 110 #[.slice a len cap] w λe w'=>e=.returned (.func (.func 157) #[] #[.pointer (some ⟨w.heap.size,0,none⟩)])/\w'=w.alloc (.cells #[.slice a len cap] 37):=by
 refine callsIn_of_wp Tryz.func110 rfl hf ?_ hro
 simp only[Tryz.ntmps110,qZh,qQa,qQb,qJj,qQk,Array.replicate_succ,Array.replicate_zero,qZj,qJh,qJd,qQc]
 gi_wp2
 go_ret
 exact⟨rfl,rfl⟩
theorem Lf(F:Fence)(n:Nat)(hf:F.fn 157)(hro:F.round=none)(hn:1<=n)(Bs n0:Nat)(w0:World)(A:Option Addr)(len cap:Nat)(L:List aE)(hL:L.length=len)(hR:aI w0 2 A len (bC L))(hlen:len<=maxLen)(w:World)(hw:aC (λ_=>False) w0 w)(hbs:Bs<n0)(hn0:n0<=w.heap.size)(h00:w0.heap.size<=n0)(hc:w.cell? ⟨Bs,0,none⟩=some (.slice A len cap)) :
  SeqStopsK F n Tryz.prog 157 #[.pointer (some ⟨Bs,0,none⟩)] vY (Below n0) (λys=>ys=sS (lK L) len) (λpre=>∃ k,k<=len/\pre=sS (lK L) k) len w:=λl J Jx W hW _ _ hY h0 =>
 Up F n hf hro hn l Bs n0 w0 A len cap L hL hR hlen J Jx hY W (vN hw hW hw.size) hbs h00 ((hW.cell (p:=⟨Bs,0,none⟩) (Nat.lt_of_lt_of_le hbs hn0)).trans hc) h0
theorem By(L:List aE)(w:List UInt8):∀ k,k<=L.length->(∀ p∈sS (lK L) k,¬ p.2.word.toList=w)->key w (L.drop (L.length-k))=[]:=by
 intro k
 induction k with
 | zero=>intro _ _;rw[Nat.sub_zero,List.drop_length];rfl
 | succ k ih =>
  intro hk h
  rw[uN] at h
  have h1:=ih (by omega) (λp hp=>h p (List.mem_append_left _ hp))
  have h2:=h (lK L k) (by simp)
  have e1:L.length-1-k=L.length-(k+1):=by omega
  unfold lK at h2
  rw[e1] at h2
  refine Qo (by omega) w h2 ?_
  rw[show L.length-(k+1)+1=L.length-k by omega]
  exact h1
theorem Pw(L:List aE)(w:List UInt8)(h:∀ p∈sS (lK L) L.length,¬ p.2.word.toList=w):bZ w L=(0,false):=by
 have h1:=By L w L.length (qJb _) h
 rw[Nat.sub_self,List.drop_zero] at h1
 unfold bZ
 rw[h1]
 rfl
theorem Uq(L:List aE)(w:List UInt8){k:Nat}(hk:k<=L.length){ini:List (Int × aE)}{last:Int × aE}(he:sS (lK L) k=ini++[last])(hi:∀ p∈ini,¬ p.2.word.toList=w)(hl:last.2.word.toList=w):bZ w L=(last.2.weight,true):=by
 cases k with
 | zero=>simp[sS] at he
 | succ k =>
  rw[uN] at he
  obtain⟨h1,h2⟩:=List.append_inj' he rfl
  simp only[List.cons.injEq,and_true] at h2
  have h3:=By L w k (by omega) (by rw[h1];exact hi)
  have e1:L.length-1-k=L.length-(k+1):=by omega
  rw[<-h2] at hl ⊢
  unfold lK at hl ⊢
  rw[e1] at hl ⊢
  exact Ve (by omega) w hl (by rw[show L.length-(k+1)+1=L.length-k by omega];exact h3)
theorem aAb(F:Fence)(n:Nat)(h1f:F.fn 44)(h2f:F.fn 110)(h3f:F.fn 157)(hro:F.round=none)(hn:3<=n)(w:World)(A:Option Addr)(len cap:Nat)(L:List aE)(hL:L.length=len)(hR:aI w 2 A len (bC L))(hlen:len<=maxLen)(k:ByteArray) :
  CallsIn F n Tryz.prog 44 #[.slice A len cap,.string k] w λe w'=>e=.returned (.tuple #[.int .i64 (bZ k.toList L).1,.bool (bZ k.toList L).2])/\Below w.heap.size w w':=by
 have h1:1<=n:=by omega
 refine callsIn_of_wp_marks Tryz.func44 rfl h1f ?_ hro
 simp only[Tryz.ntmps44,qZh,qQa,qQb,qJj,qQk,Array.replicate_succ,Array.replicate_zero,qZj,qJh,qJd,qQc]
 gi_wp2_with (gi_at_call 110;refine (Gr F (n-1) h2f hro _ _ _ _).mono ?_;rintro e w' ⟨rfl,rfl⟩)
 have hk0:=((Boxed.new w 9 (.string k)).alloc (.cells #[.int .i64 0] 3)).alloc (.cells #[.bool false] 4) |>.alloc (.cells #[.slice A len cap] 37)
 have hk1:=((Boxed.new (w.alloc (.cells #[.string k] 9)) 3 (.int .i64 0)).alloc (.cells #[.bool false] 4)).alloc (.cells #[.slice A len cap] 37)
 have hk2:=(Boxed.new ((w.alloc (.cells #[.string k] 9)).alloc (.cells #[.int .i64 0] 3)) 4 (.bool false)).alloc (.cells #[.slice A len cap] 37)
 have hk3:=Boxed.new (((w.alloc (.cells #[.string k] 9)).alloc (.cells #[.int .i64 0] 3)).alloc (.cells #[.bool false] 4)) 37 (.slice A len cap)
 have hT0:aC (λ_=>False) w ((((w.alloc (.cells #[.string k] 9)).alloc (.cells #[.int .i64 0] 3)).alloc (.cells #[.bool false] 4)).alloc (.cells #[.slice A len cap] 37)):=((((aC.refl _ w).alloc _).alloc _).alloc _).alloc _
 have hsz:((((w.alloc (.cells #[.string k] 9)).alloc (.cells #[.int .i64 0] 3)).alloc (.cells #[.bool false] 4)).alloc (.cells #[.slice A len cap] 37)).heap.size=w.heap.size+1+1+1+1:=by simp
 simp only[World.size_alloc] at hk1 hk2 hk3
 obtain⟨W0,hW0⟩:∃ W0,(((w.alloc (.cells #[.string k] 9)).alloc (.cells #[.int .i64 0] 3)).alloc (.cells #[.bool false] 4)).alloc (.cells #[.slice A len cap] 37)=W0:=⟨_,rfl⟩
 rw[hW0] at hk0 hk1 hk2 hk3 hT0 hsz ⊢
 clear hW0
 have hB0:Below w.heap.size w W0:=hT0.below (qJb _) (λ_ _ f=>f)
 refine wpIn_rangeFunc_ownH hro h1 (gf := 157) (lb:=#[.pointer (some ⟨w.heap.size+1+1+1,0,none⟩)]) rfl h3f (enters_of Tryz.func157 (by kernel_rfl) rfl)
  (Lf F (n-1) h3f hro (by omega) (w.heap.size+1+1+1) (w.heap.size+1+1+1+1) w A len cap L hL hR hlen W0 hT0 (by omega) (by omega) (by omega) hk3.cell) belowK_t (belowK_b (by omega)) (Below.refl _ _) (λ_=>rfl)
  (λpre W=>((Boxed W w.heap.size 9 (.string k)/\Boxed W (w.heap.size+1) 3 (.int .i64 0))/\(Boxed W (w.heap.size+1+1) 4 (.bool false)/\(Boxed W (w.heap.size+1+1+1) 37 (.slice A len cap)/\∀ p∈pre,¬ p.2.word.toList=k.toList)))/\Below w.heap.size w W)
  (λc pre W=>(c=.ret/\∃ ini last,pre=ini++[last]/\(∀ p∈ini,¬ p.2.word.toList=k.toList)/\last.2.word.toList=k.toList/\Boxed W (w.heap.size+1) 3 (.int .i64 last.2.weight)/\Boxed W (w.heap.size+1+1) 4 (.bool true))/\Below w.heap.size w W)
  (OwnFrom.and (OwnFrom.and (OwnFrom.and (Own.from (boxed_own _ _ _) _) (Own.from (boxed_own _ _ _) _)) (OwnFrom.and (Own.from (boxed_own _ _ _) _) (OwnFrom.and (Own.from (boxed_own _ _ _) _) (ownFrom_pure _ _)))) (ownFrom_below (qJb _) (by omega)))
  (λc=>OwnFrom.and (Own.from (λs X Y row hs hg hr=>by
    obtain⟨hc,ini,last,e1,e2,e3,e4,e5⟩:=hs
    exact⟨hc,ini,last,e1,e2,e3,boxed_own _ _ (λ(_:Unit)=>Value.int .i64 last.2.weight) () X Y row e4 hg hr,boxed_own _ _ (λ(_:Unit)=>Value.bool true) () X Y row e5 hg hr⟩) _) (ownFrom_below (qJb _) (by omega)))
  ⟨⟨⟨hk0,hk1⟩,hk2,hk3,by simp⟩,hB0⟩
  (λx a' W=>∃ Bx,w.heap.size+1+1<Bx/\(W.cell? ⟨Bx,0,none⟩=some (.string x.2.word)/\W.cell? ⟨Bx,1,none⟩=some (.int .i64 x.2.weight))/\a'={ tmps:=#[.slice A len cap,.string k,undef,.pointer (some ⟨w.heap.size,0,none⟩),.pointer (some ⟨w.heap.size+1,0,none⟩),.pointer (some ⟨w.heap.size+1+1,0,none⟩),undef,.pointer (some ⟨Bx,0,none⟩),.slice A len cap,.func (.func 157) #[] #[.pointer (some ⟨w.heap.size+1+1+1,0,none⟩)],.int .i64 x.1,.agg #[.string x.2.word,.int .i64 x.2.weight],undef,undef,undef,undef,undef,undef],defers:=[] })
  (λx a' _ X Y row hs hg hr=>by
    obtain⟨Bx,e1,e2,e3⟩:=hs
    exact⟨Bx,e1,⟨cell_kept e2.1 hg (λr e=>(hr r e).2),cell_kept e2.2 hg (λr e=>(hr r e).2)⟩,e3⟩)
  ?assign ?body ?done ?stop
 case assign =>
  rintro l pre ⟨i,⟨xw,xn⟩⟩ W K ⟨⟨⟨b0,b1⟩,b2,b3,hp⟩,hB⟩ hK
  simp only[vY]
  gi_wp2
  refine hK _ _ ((KeepsOthers.alloc _ _).from _) ((Below.refl _ W).alloc b3.lt _) ⟨⟨⟨b0.alloc _,b1.alloc _⟩,b2.alloc _,b3.alloc _,hp⟩,hB.alloc hB.size _⟩ ⟨W.heap.size,b2.lt,⟨?_,?_⟩,rfl⟩
  ·unfold World.cell?;rw[World.alloc_heap_new];rfl
  ·unfold World.cell?;rw[World.alloc_heap_new];rfl
 case body =>
  rintro l pre ⟨i,⟨xw,xn⟩⟩ a' W hl ⟨r,hr⟩ ⟨⟨⟨b0,b1⟩,b2,b3,hp⟩,hB⟩ ⟨Bx,hBx,⟨c0,c1⟩,rfl⟩ hlt
  simp only at c0 c1
  have d0:=b0.cell
  have f1:=b1.frozen
  have f2:=b2.frozen
  have d1:=b1.cell
  have d2:=b2.cell
  by_cases hk:xw.toList=k.toList
  ·have q2:(xw.toList == k.toList)=true:=by simp[hk]
   gi_wp2
   have e1:=(b1.set (.int .i64 xn)).other (B':=w.heap.size+1+1) (by omega) (.bool true)
   have e2:=(b2.other (B':=w.heap.size+1) (by omega) (.int .i64 xn)).set (.bool true)
   exact⟨((KeepsOthers.setCell _ _ _).trans (KeepsOthers.setCell _ _ _)).from _,⟨rfl,pre,(i,⟨xw,xn⟩),rfl,hp,hk,e1,e2⟩,(hB.setCell (p:=⟨w.heap.size+1,0,none⟩) (by simp) _).setCell (p:=⟨w.heap.size+1+1,0,none⟩) (by simp;omega) _⟩
  ·have q2:(xw.toList == k.toList)=false:=by simp[hk]
   have q3:decide (xw.toList=k.toList)=false:=by simp[hk]
   gi_wp2
   exact⟨KeepsFrom.refl _ _,Below.refl _ _,⟨⟨b0,b1⟩,b2,b3,λp hp'=>(List.mem_append.1 hp').elim (hp p) (λe=>by simp at e;subst e;exact hk)⟩,hB⟩
 case done =>
  rintro D ys W hD rfl ⟨⟨⟨b0,b1⟩,b2,b3,hp⟩,hB⟩ hK
  have hfm:=Pw L k.toList (by rw[hL];exact hp)
  have f1:=b1.frozen
  have f2:=b2.frozen
  have d1:=b1.cell
  have d2:=b2.cell
  gi_wp2
  have e1:=(b1.set (.int .i64 0)).other (B':=w.heap.size+1+1) (by omega) (.bool false)
  have e2:=(b2.other (B':=w.heap.size+1) (by omega) (.int .i64 0)).set (.bool false)
  have hK':=((KeepsOthers.setCell W ⟨w.heap.size+1,0,none⟩ (.int .i64 0)).trans (KeepsOthers.setCell _ ⟨w.heap.size+1+1,0,none⟩ (.bool false))).same D _ hK rfl
  refine⟨by simp,.inl ⟨_,_,rfl,run_takeDeferred hK',?_⟩⟩
  have g1:=cell_kept e1.cell (grownBy_putObj' _ D (.deferred none)) (λr e=>by cases e;exact⟨_,hK',rfl⟩)
  have g2:=cell_kept e2.cell (grownBy_putObj' _ D (.deferred none)) (λr e=>by cases e;exact⟨_,hK',rfl⟩)
  refine⟨.tuple #[.int .i64 0,.bool false],?_,by rw[hfm],((hB.setCell (p:=⟨w.heap.size+1,0,none⟩) (by simp) _).setCell (p:=⟨w.heap.size+1+1,0,none⟩) (by simp;omega) _).trans (belowK_b (w:=w) (qJb _) _ D _ _ (by omega) hK' rfl rfl)⟩
  simp[results,Tryz.f44,go_sem,g1,g2]
 case stop =>
  rintro D c pre W hD ⟨k',hk',rfl⟩ ⟨⟨rfl,ini,last,e1,e2,e3,e4,e5⟩,hB⟩ hK
  have hfm:=Uq L k.toList (by rw[hL];exact hk') e1 e2 e3
  gi_wp2
  refine⟨by simp,.inl ⟨_,_,rfl,run_takeDeferred hK,?_⟩⟩
  have g1:=cell_kept e4.cell (grownBy_putObj' _ D (.deferred none)) (λr e=>by cases e;exact⟨_,hK,rfl⟩)
  have g2:=cell_kept e5.cell (grownBy_putObj' _ D (.deferred none)) (λr e=>by cases e;exact⟨_,hK,rfl⟩)
  refine⟨.tuple #[.int .i64 last.2.weight,.bool true],?_,by rw[hfm],hB.trans (belowK_b (w:=w) (qJb _) W D _ _ (by omega) hK rfl rfl)⟩
  simp[results,Tryz.f44,go_sem,g1,g2]
theorem Rz(w:World)(A:Option Addr)(n c:Nat)(L:List aE)(hL:L.length=n)(hR:aI w 2 A n (bC L))(hn:n<=maxLen)(k:ByteArray) :
  Calls Tryz.prog 44 #[.slice A n c,.string k] w λe w'=>e=.returned (.tuple #[.int .i64 (bZ k.toList L).1,.bool (bZ k.toList L).2])/\aC (λ_=>False) w w' :=
 (callsIn_wide.1 (aAb Fence.wide 3 trivial trivial trivial rfl (qJb _) w A n c L hL hR hn k)).mono λ_ _ ⟨he,hb⟩=>⟨he,hb.os,hb.tape,hb.output,hb.size,λj hj _=>hb.block j hj⟩
end
section
variable[Inhabited eF]
theorem kW{r:Nat}(hr:r<1114112)(t:List UInt8):cO (aM r).length (aM r++t)=r:=by
 unfold aM
 split
 ·simp only[cO,qQa,qQb,UInt8.toNat_ofNat',qQc,qJd]
  omega
 ·split
  ·simp only[cO,qQa,qQb,UInt8.toNat_ofNat',qQc,qJd]
   omega
  ·split
   ·simp only[cO,qQa,qQb,UInt8.toNat_ofNat',qQc,qJd]
    omega
   ·simp only[cO,qQa,qQb,UInt8.toNat_ofNat',qQc,qJd]
    omega
theorem qX:∀ (x:List Nat),(∀ r∈x,dS r=true)->cQ (x.flatMap aM)=some x
 | [],_=>jE
 | r :: x,h=>by
  have hs:=h r qXb
  have ih:=qX x (λq hq=>h q (qZb _ hq))
  have hl:=iH r
  rw[qQd]
  have hit:fB (aM r++x.flatMap aM)=(r,(aM r).length):=by
   have:=sU (n:=(aM r).length) (bs:=aM r++x.flatMap aM) hl.1 hl.2 (by rw[qQe];omega) ⟨by rw[kW (cU hs)];exact hs,by rw[kW (cU hs),List.take_left]⟩
   rw[kW (cU hs)] at this
   exact this
  rw[jM (by rw[qQe];omega),hit]
  simp only
  rw[if_neg (by omega),List.drop_left,ih]
  rfl
def Iy(sts:List bP):Nat->Nat->Rs
 | 0,_=>[]
 | f+1,i=>(if (sts.getD i aS).fin=true then [([],(sts.getD i aS).out)] else [])++(sts.getD i aS).arcs.flatMap λa=>(Iy sts f a.2.2).map λr=>(a.1 :: r.1,r.2+a.2.1)
def gV(sts:List bP)(i:Nat):Rs:=Iy sts (i+1) i
def wW(sts:List bP):Prop:=∀ i,i<sts.length->∀ a∈(sts.getD i aS).arcs,a.2.2<i
theorem fV{β:Type}{f g:α->List β}:∀ {l:List α},(∀ a∈l,f a=g a)->l.flatMap f=l.flatMap g
 | [],_=>rfl
 | a :: l,h=>by rw[qQd,qQd,h a qXb,fV λb hb=>h b (qZb _ hb)]
theorem Dm(hd:wW sts):∀ (f i g:Nat),i<f->i<sts.length->f<=g->Iy sts g i=Iy sts f i
 | 0,_,_,h,_,_=>absurd h (qXc _)
 | f+1,i,g,hi,hl,hg=>by
  obtain⟨g,rfl⟩:∃ k,g=k+1:=⟨g-1,by omega⟩
  simp only[Iy]
  congr 1
  refine fV λa ha=>?_
  have:=hd i hl a ha
  rw[Dm hd f a.2.2 g (by omega) (by omega) (by omega)]
theorem tZ(hd:wW sts)(hi:i<sts.length):gV sts i=(if (sts.getD i aS).fin=true then [([],(sts.getD i aS).out)] else [])++(sts.getD i aS).arcs.flatMap λa=>(gV sts a.2.2).map λr=>(a.1 :: r.1,r.2+a.2.1):=by
 have h:gV sts i=(if (sts.getD i aS).fin=true then [([],(sts.getD i aS).out)] else [])++(sts.getD i aS).arcs.flatMap λa=>(Iy sts i a.2.2).map λr=>(a.1 :: r.1,r.2+a.2.1):=rfl
 rw[h]
 congr 1
 refine fV λa ha=>?_
 have:=hd i hi a ha
 show (Iy sts i a.2.2).map _=(Iy sts (a.2.2+1) a.2.2).map _
 rw[Dm hd (a.2.2+1) a.2.2 i (by omega) (by omega) (by omega)]
theorem aBx:∀ {x y:bP},x.fin=y.fin->x.out=y.out->x.arcs=y.arcs->x=y
 | ⟨_,_,_⟩,⟨_,_,_⟩,rfl,rfl,rfl=>rfl
section
variable{sts:List bP}
theorem iA(hd:wW sts)(hi:i<sts.length){n:Int}:([],n)∈gV sts i↔(sts.getD i aS).fin=true/\n=(sts.getD i aS).out:=by
 rw[tZ hd hi,qZc,qZg]
 constructor
 ·rintro (h | ⟨a,_,h⟩)
  ·split at h
   ·rename_i hf
    simp only[qXg,Prod.mk.injEq,true_and] at h
    exact⟨hf,h⟩
   ·cases h
  ·obtain⟨r,_,hr⟩:=List.mem_map.1 h
   simp at hr
 ·rintro⟨hf,rfl⟩
  left
  rw[if_pos hf]
  exact List.mem_singleton.2 rfl
theorem fK(hd:wW sts)(hi:i<sts.length){t:List Nat}{n:Int}:(c :: t,n)∈gV sts i↔∃ a∈(sts.getD i aS).arcs,a.1=c/\(t,n-a.2.1)∈gV sts a.2.2:=by
 rw[tZ hd hi,qZc,qZg]
 constructor
 ·rintro (h | ⟨a,ha,h⟩)
  ·split at h<;>simp at h
  ·obtain⟨r,hr,he⟩:=List.mem_map.1 h
   simp only[Prod.mk.injEq,List.cons.injEq] at he
   obtain⟨⟨h1,h2⟩,h3⟩:=he
   refine⟨a,ha,h1,?_⟩
   rw[<-h2,show n-a.2.1=r.2 by omega]
   exact hr
 ·rintro⟨a,ha,rfl,h⟩
  right
  refine⟨a,ha,List.mem_map.2 ⟨_,h,?_⟩⟩
  simp only[Prod.mk.injEq,true_and]
  omega
structure aFg(sts:List bP)(i:Nat):Prop where
 sort:bK (gV sts i)
 ne:gV sts i≠[]
 least:aW (gV sts i)=0
theorem eQ(hf:∀ i,i<sts.length->dQ i (sts.getD i aS)):wW sts:=λi hi a ha=>((hf i hi).arc a ha).2.2
theorem aAp{z:bP}(h:(z.arcs.map (·.1)).Pairwise (·<·)){a b:Nat × Int × Nat}(ha:a∈z.arcs)(hb:b∈z.arcs)(e:a.1=b.1):a=b:=by
 obtain⟨i,hi,rfl⟩:=qJi ha
 obtain⟨j,hj,rfl⟩:=qJi hb
 rw[qJg] at h
 have h2:=List.pairwise_iff_getElem.1 h
 rcases Nat.lt_trichotomy i j with h3 | h3 | h3
 ·have:=h2 i j hi hj h3;omega
 ·subst h3;rfl
 ·have:=h2 j i hj hi h3;omega
theorem Wh{z:bP}(h:dQ i z):(z.fin=true/\z.out=0)\/∃ a∈z.arcs,a.2.1=0:=by
 have hl:=h.low
 unfold Wg at hl
 have gen:∀ (l:List (Nat × Int × Nat)) (m:Int),l.foldl (λm a=>min m a.2.1) m=0->m=0\/∃ a∈l,a.2.1=0:=by
  intro l
  induction l with
  | nil=>intro m h;exact .inl h
  | cons a l ih =>
   intro m h
   rw[qZi] at h
   rcases ih _ h with h1 | ⟨b,hb,h1⟩
   ·by_cases hm:m<=a.2.1
    ·left;omega
    ·right;exact⟨a,qXb,by omega⟩
   ·exact .inr ⟨b,qZb _ hb,h1⟩
 rcases gen _ _ hl with h1 | h1
 ·left
  split at h1
  ·rename_i hf
   exact⟨hf,h1⟩
  ·omega
 ·exact .inr h1
theorem Dl(hf:∀ i,i<sts.length->dQ i (sts.getD i aS)):∀ (k i:Nat),i<k->i<sts.length->aFg sts i
 | 0,_,h,_=>absurd h (qXc _)
 | k+1,i,hk,hi=>by
  have hd:=eQ hf
  have hF:=hf i hi
  have ih:∀ a∈(sts.getD i aS).arcs,aFg sts a.2.2:=λa ha=>Dl hf k a.2.2 (by have:=hd i hi a ha;omega) (by have:=hd i hi a ha;omega)
  have hpos:∀ r∈gV sts i,0<=r.2:=by
   rintro⟨x,n⟩ hr
   cases x with
   | nil =>
    have:=(iA hd hi).1 hr
    have h0:=hF.out0
    simp only
    omega
   | cons c t =>
    obtain⟨a,ha,_,h⟩:=(fK hd hi).1 hr
    have h1:=dG h
    rw[(ih a ha).least] at h1
    have h2:=(hF.arc a ha).1
    simp only at h1 ⊢
    omega
  have hzero:∃ x,(x,0)∈gV sts i:=by
   rcases Wh hF with⟨h1,h2⟩ | ⟨a,ha,h2⟩
   ·exact⟨[],(iA hd hi).2 ⟨h1,h2.symm⟩⟩
   ·obtain⟨r,hr,hr0⟩:=cL (ih a ha).ne
    rw[(ih a ha).least] at hr0
    obtain⟨x,n⟩:=r
    simp only at hr0
    subst hr0
    exact⟨a.1 :: x,(fK hd hi).2 ⟨a,ha,rfl,by rw[h2];exact hr⟩⟩
  obtain⟨x0,hx0⟩:=hzero
  have hne:gV sts i≠[]:=λe=>by rw[e] at hx0;cases hx0
  refine⟨?_,hne,?_⟩
  ·rw[tZ hd hi]
   unfold bK
   rw[List.pairwise_append]
   refine⟨by split<;>simp,?_,?_⟩
   ·rw[List.pairwise_flatMap]
    refine⟨λa ha=>?_,?_⟩
    ·have hs:=(ih a ha).sort
     unfold bK at hs
     rw[qJg]
     refine hs.imp λ{x y} h=>?_
     unfold Tv at h ⊢
     rw[tN]
     exact h
    ·have hl:=hF.lab
     rw[qJg] at hl
     refine hl.imp λ{a b} h=>?_
     intro x hx y hy
     obtain⟨p,_,rfl⟩:=List.mem_map.1 hx
     obtain⟨q,_,rfl⟩:=List.mem_map.1 hy
     simp only[Tv,pU]
     rw[if_neg (by omega)]
     simpa using h
   ·intro x hx y hy
    split at hx
    ·simp only[qXg] at hx
     subst hx
     obtain⟨a,_,hy⟩:=List.mem_flatMap.1 hy
     obtain⟨q,_,rfl⟩:=List.mem_map.1 hy
     rfl
    ·cases hx
  ·have h1:=dG hx0
   obtain⟨r,hr,hr0⟩:=cL hne
   have:=hpos r hr
   simp only at h1
   omega
theorem nA(hf:∀ i,i<sts.length->dQ i (sts.getD i aS))(hi:i<sts.length){a:Nat × Int × Nat}(ha:a∈(sts.getD i aS).arcs) :
  aG (gV sts i) a.1≠[]/\aW (aG (gV sts i) a.1)=a.2.1/\aJ (aG (gV sts i) a.1)=gV sts a.2.2:=by
 have hd:=eQ hf
 have hF:=hf i hi
 have hto:=hd i hi a ha
 have ok:=Dl hf (a.2.2+1) a.2.2 (by omega) (by omega)
 have oki:=Dl hf (i+1) i (by omega) hi
 have hm:∀ t n,(t,n)∈aG (gV sts i) a.1↔(t,n-a.2.1)∈gV sts a.2.2:=by
  intro t n
  rw[bY,fK hd hi]
  constructor
  ·rintro⟨b,hb,he,h⟩
   rw[<-aAp hF.lab hb ha he]
   exact h
  ·intro h
   exact⟨a,ha,rfl,h⟩
 obtain⟨r,hr,hr0⟩:=cL ok.ne
 rw[ok.least] at hr0
 have hin:(r.1,a.2.1)∈aG (gV sts i) a.1:=by
  rw[hm,Int.sub_self,<-hr0]
  exact hr
 have hne:aG (gV sts i) a.1≠[]:=λe=>by rw[e] at hin;cases hin
 have hle:aW (aG (gV sts i) a.1)=a.2.1:=by
  have h1:=dG hin
  obtain⟨q,hq,hq0⟩:=cL hne
  have h2:=(hm q.1 q.2).1 hq
  have h3:=dG h2
  rw[ok.least] at h3
  simp only at h1 h3
  omega
 refine⟨hne,hle,zX (eN (dZ _ oki.sort)) ok.sort ?_⟩
 rintro⟨t,n⟩
 rw[cV,hm,hle,show n+a.2.1-a.2.1=n by omega]
theorem xU(hf:∀ i,i<sts.length->dQ i (sts.getD i aS))(hi:i<sts.length):vQ ((qQh sts.length).map (gV sts)) i (gV sts i) (sts.getD i aS):=by
 have hd:=eQ hf
 have hF:=hf i hi
 have ok:=Dl hf (i+1) i (by omega) hi
 have hfin:(sts.getD i aS).fin=eI (gV sts i):=by
  rw[Bool.eq_iff_iff,eD]
  constructor
  ·intro h
   exact⟨_,(iA hd hi).2 ⟨h,rfl⟩⟩
  ·rintro⟨n,h⟩
   exact ((iA hd hi).1 h).1
 refine⟨ok.sort,ok.ne,ok.least,hfin,?_,?_,?_⟩
 ·by_cases h:(sts.getD i aS).fin=true
  ·exact (fX ok.sort ((iA hd hi).2 ⟨h,rfl⟩)).symm
  ·have h2:(sts.getD i aS).fin=false:=by simpa using h
   rw[hF.fin0 h2,tR ok.sort (by rw[<-hfin];exact h2)]
 ·refine lD (lt:=λa b:Nat=>a<b) (λa h=>by omega) (λa b h g=>by omega) hF.lab (cM ok.sort) ?_
  intro c
  rw[bD]
  constructor
  ·intro h
   obtain⟨a,ha,rfl⟩:=List.mem_map.1 h
   exact (nA hf hi ha).1
  ·intro h
   obtain⟨r,hr⟩:=List.exists_mem_of_ne_nil _ h
   have h2:=(bY (t:=r.1) (n:=r.2)).1 hr
   obtain⟨a,ha,he,_⟩:=(fK hd hi).1 h2
   exact List.mem_map.2 ⟨a,ha,he⟩
 ·intro a ha
  have hto:=hd i hi a ha
  obtain⟨_,h2,h3⟩:=nA hf hi ha
  refine⟨h2.symm,hto,?_⟩
  rw[h3]
  simp[show a.2.2<sts.length by omega]
theorem Fc(hf:∀ i,i<sts.length->dQ i (sts.getD i aS))(hu:∀ i j,i<sts.length->j<sts.length->sts.getD i aS=sts.getD j aS->i=j):∀ (k i j:Nat),i<k->i<sts.length->j<sts.length->gV sts i=gV sts j->i=j
 | 0,_,_,h,_,_,_=>absurd h (qXc _)
 | k+1,i,j,hk,hi,hj,e=>by
  have ci:=xU hf hi
  have cj:=xU hf hj
  refine hu i j hi hj ?_
  have e1:(sts.getD i aS).fin=(sts.getD j aS).fin:=by rw[ci.fin,cj.fin,e]
  have e2:(sts.getD i aS).out=(sts.getD j aS).out:=by rw[ci.out,cj.out,e]
  have e3:(sts.getD i aS).arcs=(sts.getD j aS).arcs:=by
   have hl:(sts.getD i aS).arcs.map (·.1)=(sts.getD j aS).arcs.map (·.1):=by rw[ci.labels,cj.labels,e]
   have hlen:(sts.getD i aS).arcs.length=(sts.getD j aS).arcs.length:=by have:=congrArg List.length hl;simpa using this
   refine List.ext_getElem hlen λn h1 h2=>?_
   have hlab:(sts.getD i aS).arcs[n].1=(sts.getD j aS).arcs[n].1:=by
    have:=congrArg (λl=>l[n]?) hl
    simp only[List.getElem?_map,qXl h1,qXl h2,Option.map_some,Option.some.injEq] at this
    exact this
   have ha:=qXi h1
   have hb:=qXi h2
   obtain⟨_,p2,p3⟩:=nA hf hi ha
   obtain⟨_,q2,q3⟩:=nA hf hj hb
   rw[hlab,e] at p2 p3
   have t1:=eQ hf i hi _ ha
   have t2:=eQ hf j hj _ hb
   have hto:=Fc hf hu k (sts.getD i aS).arcs[n].2.2 (sts.getD j aS).arcs[n].2.2 (by omega) (by omega) (by omega) (p3.symm.trans q3)
   exact Prod.ext hlab (Prod.ext (p2.symm.trans q2) hto)
  exact aBx e1 e2 e3
end
end
section
variable[Inhabited eF]
section
variable{sts:List bP}
theorem Kd(U:List S3):∀ (l:List (Nat × Int × Nat)) (x:S3),(∀ a∈l,(U.getD a.2.2 z3).1=(gV sts a.2.2).length/\∀ r∈gV sts a.2.2,(r.1.length:Int)<=(U.getD a.2.2 z3).2.1/\r.2<=(U.getD a.2.2 z3).2.2) ->
  (l.foldl (dE U) x).1=x.1+((l.flatMap λa=>(gV sts a.2.2).map λr=>(a.1 :: r.1,r.2+a.2.1)).length:Nat)/\x.2.1<=(l.foldl (dE U) x).2.1/\x.2.2<=(l.foldl (dE U) x).2.2 /\
  ∀ r∈l.flatMap λa=>(gV sts a.2.2).map λr=>(a.1 :: r.1,r.2+a.2.1),(r.1.length:Int)<=(l.foldl (dE U) x).2.1/\r.2<=(l.foldl (dE U) x).2.2
 | [],x,_=>⟨by simp,Int.le_refl _,Int.le_refl _,λr hr=>by cases hr⟩
 | a :: l,x,h=>by
  obtain⟨h1,h2,h3,h4⟩:=Kd U l (dE U x a) (λb hb=>h b (qZb _ hb))
  obtain⟨g1,g2⟩:=h a qXb
  rw[qZi]
  simp only[dE] at h1 h2 h3 h4 ⊢
  refine⟨?_,by omega,by omega,?_⟩
  ·rw[h1,qQd,qQe,qXd,g1]
   omega
  ·intro r hr
   rw[qQd] at hr
   rcases List.mem_append.1 hr with hr | hr
   ·obtain⟨q,hq,rfl⟩:=List.mem_map.1 hr
    have:=g2 q hq
    simp only[qQa]
    omega
   ·exact h4 r hr
theorem Fw(hf:∀ i,i<sts.length->dQ i (sts.getD i aS)):∀ (k i:Nat),i<k->i<sts.length ->
  (cN (uF sts sts.length i) (sts.getD i aS) (sts.getD i aS).arcs.length).1=(gV sts i).length/\∀ r∈gV sts i,(r.1.length:Int)<=(cN (uF sts sts.length i) (sts.getD i aS) (sts.getD i aS).arcs.length).2.1/\r.2<=(cN (uF sts sts.length i) (sts.getD i aS) (sts.getD i aS).arcs.length).2.2
 | 0,_,h,_=>absurd h (qXc _)
 | k+1,i,hk,hi=>by
  have hd:=eQ hf
  have ih:∀ a∈(sts.getD i aS).arcs,((uF sts sts.length i).getD a.2.2 z3).1=(gV sts a.2.2).length/\∀ r∈gV sts a.2.2,(r.1.length:Int)<=((uF sts sts.length i).getD a.2.2 z3).2.1/\r.2<=((uF sts sts.length i).getD a.2.2 z3).2.2:=λa ha=>by
   have hto:=hd i hi a ha
   rw[uL i a.2.2 hto (by omega)]
   exact Fw hf k a.2.2 (by omega) (by omega)
  obtain⟨h1,h2,h3,h4⟩:=Kd (uF sts sts.length i) (sts.getD i aS).arcs (if (sts.getD i aS).fin=true then 1 else 0,0,(sts.getD i aS).out) ih
  have e:cN (uF sts sts.length i) (sts.getD i aS) (sts.getD i aS).arcs.length=(sts.getD i aS).arcs.foldl (dE (uF sts sts.length i)) (if (sts.getD i aS).fin=true then 1 else 0,0,(sts.getD i aS).out):=by
   unfold cN
   rw[List.take_length]
  rw[e]
  simp only at h1 h2 h3
  rw[tZ hd hi]
  refine⟨?_,?_⟩
  ·rw[h1,qQe]
   split
   ·simp
   ·simp
  ·intro r hr
   rcases List.mem_append.1 hr with hr | hr
   ·split at hr
    ·simp only[qXg] at hr
     subst hr
     simp only[qQb]
     omega
    ·cases hr
   ·exact h4 r hr
theorem Fe(hf:∀ i,i<sts.length->dQ i (sts.getD i aS)):∀ (k i:Nat),i<k->i<sts.length->∀ r∈gV sts i,∀ c∈r.1,dS c=true/\iY c=true
 | 0,_,h,_=>absurd h (qXc _)
 | k+1,i,hk,hi=>by
  have hd:=eQ hf
  rintro⟨x,n⟩ hr c hc
  cases x with
  | nil=>cases hc
  | cons d t =>
   obtain⟨a,ha,rfl,h⟩:=(fK hd hi).1 hr
   have hto:=hd i hi a ha
   rcases List.mem_cons.1 hc with rfl | hc
   ·exact (hf i hi).run a ha
   ·exact Fe hf k a.2.2 (by omega) (by omega) _ h c hc
def nV(sts:List bP)(m:Nat):iJ:=⟨((qQh sts.length).map (gV sts)).take m,sts.take m⟩
theorem aAf(hf:∀ i,i<sts.length->dQ i (sts.getD i aS))(hu:∀ i j,i<sts.length->j<sts.length->sts.getD i aS=sts.getD j aS->i=j)(hi:i<m)(hm:m<=sts.length):jT (nV sts m).rests (gV sts i)=some i:=by
 unfold jT nV
 simp only
 rw[List.findIdx?_eq_some_iff_getElem]
 refine⟨by simp;omega,by simp[hi],?_⟩
 intro j hj
 simp only[List.getElem_take,List.getElem_map,List.getElem_range,decide_eq_true_eq]
 intro e
 have:=Fc hf hu (j+1) j i (by omega) (by omega) (by omega) e
 omega
theorem aAe(hf:∀ i,i<sts.length->dQ i (sts.getD i aS))(hu:∀ i j,i<sts.length->j<sts.length->sts.getD i aS=sts.getD j aS->i=j)(hi:m<=i)(hil:i<sts.length):jT (nV sts m).rests (gV sts i)=none:=by
 unfold jT nV
 simp only
 rw[List.findIdx?_eq_none_iff]
 intro x hx
 obtain⟨j,hj,rfl⟩:=qJi hx
 simp only[List.length_take,qXd,List.length_range] at hj
 simp only[List.getElem_take,List.getElem_map,List.getElem_range,decide_eq_false_iff_not]
 intro e
 have:=Fc hf hu (j+1) j i (by omega) (by omega) hil e
 omega
theorem Wy(hm:m<sts.length):nV sts (m+1)=⟨(nV sts m).rests++[gV sts m],(nV sts m).states++[sts.getD m aS]⟩:=by
 unfold nV
 simp only
 rw[qXe (by simpa using hm),qXe hm]
 simp[qZd,hm]
theorem Ee(hf:∀ i,i<sts.length->dQ i (sts.getD i aS))(hu:∀ i j,i<sts.length->j<sts.length->sts.getD i aS=sts.getD j aS->i=j) :
  ∀ (F f i m:Nat) (l:Rs) (s':List Bool) (n':Nat),i<sts.length->fF (gV sts i)<f->aJ l=gV sts i->m<=i->fC sts F i (gQ sts.length m) m=(true,s',n') ->
   n'=i+1/\s'=gQ sts.length (i+1)/\aY f (nV sts m) l=(nV sts (i+1),i)
 | 0,_,_,_,_,_,_,_,_,_,_,h=>by simp[fC] at h
 | F+1,0,_,_,_,_,_,_,h,_,_,_=>absurd h (qXc _)
 | F+1,f+1,i,m,l,s',n',hi,hdep,hl,hmi,hv=>by
  have hd:=eQ hf
  have hc:=xU hf hi
  simp only[fC] at hv
  obtain⟨⟨ok,s1,n1⟩,hr⟩:∃ r,dJ (fC sts F) (sts.getD i aS).arcs (gQ sts.length m) m=r:=⟨_,rfl⟩
  rw[hr] at hv
  cases ok with
  | false=>simp at hv
  | true =>
   simp only[Prod.mk.injEq,decide_eq_true_eq] at hv
   obtain⟨hv1,hv2,hv3⟩:=hv
   have hn1:n1=i:=by omega
   have arcs:∀ (xs:List (Nat × Int × Nat)),(∀ a∈xs,a∈(sts.getD i aS).arcs)->∀ (m1:Nat) (s1:List Bool) (n1:Nat),m1<=i->dJ (fC sts F) xs (gQ sts.length m1) m1=(true,s1,n1) ->
     s1=gQ sts.length n1/\n1<=i/\cJ (aY f) (gV sts i) (nV sts m1) (xs.map (·.1))=(nV sts n1,xs):=by
    intro xs
    induction xs with
    | nil =>
     intro _ m1 s1 n1 hm1 h
     simp only[dJ,Prod.mk.injEq,true_and] at h
     obtain⟨rfl,rfl⟩:=h
     exact⟨rfl,hm1,rfl⟩
    | cons a xs ih =>
     intro hx m1 s1 n1 hm1 h
     have ha:=hx a qXb
     have hto:=hd i hi a ha
     obtain⟨u1,u2,u3⟩:=nA hf hi ha
     have hda:fF (gV sts a.2.2)<f:=by
      rw[<-u3,eH]
      have:=eW u1
      omega
     obtain⟨f',hf'⟩:∃ f',f=f'+1:=⟨f-1,by omega⟩
     simp only[dJ] at h
     by_cases hs:a.2.2<m1
     ·rw[if_pos (by rw[pM (by omega)];simpa using hs)] at h
      obtain⟨e1,e2,e3⟩:=ih (λb hb=>hx b (qZb _ hb)) m1 s1 n1 hm1 h
      have hst:aY f (nV sts m1) (aG (gV sts i) a.1)=(nV sts m1,a.2.2):=by
       rw[hf']
       refine Ad ?_
       rw[u3]
       exact aAf hf hu hs (by omega)
      refine⟨e1,e2,?_⟩
      simp only[qJf,cJ]
      rw[hst]
      simp only
      rw[e3,u2]
     ·rw[if_neg (by rw[pM (by omega)];simpa using hs)] at h
      obtain⟨⟨ok,s2,n2⟩,hr2⟩:∃ r,fC sts F a.2.2 (gQ sts.length m1) m1=r:=⟨_,rfl⟩
      rw[hr2] at h
      cases ok with
      | false=>simp at h
      | true =>
       simp only at h
       obtain⟨g1,g2,g3⟩:=Ee hf hu F f a.2.2 m1 (aG (gV sts i) a.1) s2 n2 (by omega) hda u3 (by omega) hr2
       subst g1
       subst g2
       obtain⟨e1,e2,e3⟩:=ih (λb hb=>hx b (qZb _ hb)) (a.2.2+1) s1 n1 (by omega) h
       refine⟨e1,e2,?_⟩
       simp only[qJf,cJ]
       rw[g3]
       simp only
       rw[e3,u2]
   obtain⟨e1,e2,e3⟩:=arcs _ (λa ha=>ha) m s1 n1 hmi hr
   subst hn1
   refine⟨by omega,?_,?_⟩
   ·rw[<-hv2,e1,Do hi]
   ·simp only[aY]
    rw[hl,aAe hf hu hmi hi]
    simp only
    rw[<-hc.labels,e3,<-hc.fin,<-hc.out,Wy hi]
    simp only[Prod.mk.injEq,iJ.mk.injEq,true_and]
    simp only[nV,List.length_take]
    omega
def gN(sts:List bP)(base:Int):List aE:=(gV sts (sts.length-1)).map λr=>⟨⟨(r.1.flatMap aM).toArray⟩,r.2+base⟩
def mI(sts:List bP)(base:Int):List aE:=if sts=[] then [] else gN sts base
theorem aFq(h:Ek sts base):cA (gN sts base)/\bB (gN sts base)=⟨base,sts⟩:=by
 have hf:=h.form
 have hN:sts.length-1<sts.length:=by have:=h.pos;omega
 have ok:=Dl hf sts.length _ hN hN
 have hs:=Fw hf sts.length _ hN hN
 have hrun:=Fe hf sts.length _ hN hN
 have hsb:=h.sumB _ hN (sts.getD (sts.length-1) aS).arcs.length
 have htop:=h.top
 rw[uL sts.length (sts.length-1) hN (qJb _)] at htop
 have hb1:=h.base1
 have hroot:=h.root
 have hd:=eQ hf
 have hbound:∀ r∈gV sts (sts.length-1),r.1.length<=24/\0<=r.2/\r.2+base<=1048576/\0<r.1.length:=by
  intro r hr
  have h1:=hs.2 r hr
  have h2:=dG hr
  rw[ok.least] at h2
  refine⟨by omega,h2,by omega,?_⟩
  obtain⟨x,n⟩:=r
  cases x with
  | nil =>
   have:=(iA hd hN).1 hr
   rw[hroot] at this
   cases this.1
  | cons c t=>simp
 have hwr:∀ r∈gV sts (sts.length-1),dM ⟨⟨(r.1.flatMap aM).toArray⟩,r.2+base⟩=r.1:=by
  intro r hr
  unfold dM
  simp only
  rw[kJ,qX _ (λc hc=>(hrun r hr c hc).1)]
  rfl
 have hrests:aT (gN sts base)=fO (-base) (gV sts (sts.length-1)):=by
  unfold aT gN fO
  rw[List.map_map]
  refine qQj λr hr=>?_
  simp only[Function.comp]
  rw[hwr r hr]
  simp only[Prod.mk.injEq,true_and]
  omega
 have hsort:bK (aT (gN sts base)):=by
  rw[hrests]
  have hs:=ok.sort
  unfold bK at hs ⊢
  unfold fO
  rw[qJg]
  exact hs
 have hD:cA (gN sts base):=by
  refine⟨?_,?_,?_,hsort⟩
  ·unfold gN
   rw[qXd]
   have:=hs.1
   omega
  ·intro p hp
   obtain⟨r,hr,rfl⟩:=List.mem_map.1 hp
   rw[hwr r hr]
   simp only
   rw[kJ]
   have hb:=hbound r hr
   refine⟨qX _ (λc hc=>(hrun r hr c hc).1),?_,hb.2.2.2,hb.1⟩
   rw[qZf]
   exact λc hc=>(hrun r hr c hc).2
  ·intro p hp
   obtain⟨r,hr,rfl⟩:=List.mem_map.1 hp
   have hb:=hbound r hr
   simp only
   omega
 refine⟨hD,?_⟩
 have hne:gN sts base≠[]:=by
  unfold gN
  intro e
  exact ok.ne (List.map_eq_nil_iff.1 e)
 have hm:bB (gN sts base)=⟨aW (aT (gN sts base)),(aY 25 ⟨[],[]⟩ (aT (gN sts base))).1.states⟩:=by unfold bB;rw[if_neg hne]
 obtain⟨F,s',hvis⟩:=h.vis
 have hdep:fF (gV sts (sts.length-1))<25:=wH (by omega) (λr hr=>by have:=(hbound r hr).1;omega)
 have hlev:aJ (aT (gN sts base))=gV sts (sts.length-1):=by rw[hrests,kS,Ax ok.least]
 rw[<-zW] at hvis
 obtain⟨_,_,g3⟩:=Ee hf h.unalike F 25 (sts.length-1) 0 (aT (gN sts base)) s' sts.length hN hdep hlev (qJc _) hvis
 have e0:nV sts 0=⟨[],[]⟩:=by simp[nV]
 rw[e0] at g3
 rw[hm,g3,hrests,lR _ ok.ne,ok.least]
 simp only[aFf.mk.injEq]
 refine⟨by omega,?_⟩
 unfold nV
 simp only
 rw[qXj (by omega)]
theorem pJ(h:jZ sts base):cA (mI sts base)/\bB (mI sts base)=⟨base,sts⟩:=by
 unfold mI
 rcases h with⟨rfl,rfl⟩ | h
 ·exact⟨⟨by simp,by simp,by simp,List.Pairwise.nil⟩,rfl⟩
 ·have:=h.pos
  rw[if_neg (λe=>by rw[e] at this;simp at this)]
  exact aFq h
end
end
theorem Ag(r o:Nat):∀ (wd:List Nat) (t:Nat) (s:List Nat),o<=t+1->(∀ x∈s,o<=x)->∀ x∈Dt r t wd s,o<=x
 | [],t,s,_,_,x,hx=>by
  cases s with
  | nil=>cases hx
  | cons a s=>cases s<;>cases hx
 | c :: wd,t,[],_,_,x,hx=>by cases hx
 | c :: wd,t,[a],_,_,x,hx=>by cases hx
 | c :: wd,t,a :: b :: s,ht,h,x,hx=>by
  have ha:=h a qXb
  have hb:=h b (qZb _ qXb)
  simp only[Dt,qZa] at hx
  have hm:o<=min (min (a+if c=r then 0 else 1) (b+1)) (t+1):=by omega
  rcases hx with rfl | hx
  ·exact hm
  ·exact Ag r o wd _ (b :: s) (by omega) (λy hy=>h y (qZb _ hy)) x hx
theorem Nf(r:Nat)(hs:s≠[])(h:∀ x∈s,o<=x):∀ x∈lW wd s r,o<=x:=by
 intro x hx
 cases s with
 | nil=>exact absurd rfl hs
 | cons a s =>
  have ha:=h a qXb
  simp only[lW,List.headD_cons,qZa] at hx
  rcases hx with rfl | hx
  ·omega
  ·exact Ag r o wd _ (a :: s) (by omega) h x hx
theorem Cf:∀ (text s:List Nat),s.length=wd.length+1->(∀ x∈s,o<=x)->∀ x∈text.foldl (lW wd) s,o<=x
 | [],s,_,h=>h
 | r :: text,s,hl,h=>Cf text _ (mX r hl) (Nf r (λe=>by rw[e] at hl;simp at hl) h)
theorem Rd(h:s≠[]):s.getLastD 0∈s:=by
 rw[List.getLastD_eq_getLast?,List.getLast?_eq_some_getLast h]
 exact List.getLast_mem h
theorem mQ{β:Type}{f g:α->Option β}:∀ {l:List α},(∀ a∈l,f a=g a)->l.filterMap f=l.filterMap g
 | [],_=>rfl
 | a :: l,h=>by rw[qQi,qQi,h a qXb,mQ λb hb=>h b (qZb _ hb)]
abbrev Bp:=List Nat × Int × Nat
def Vq(wd:List Nat)(o:Nat)(s head:List Nat)(sum:Int)(r:List Nat × Int):Option Bp :=
 if (r.1.foldl (lW wd) s).getLastD 0<o then some (head++r.1,sum+r.2,(r.1.foldl (lW wd) s).getLastD 0) else none
def fzF(sts:List bP)(wd:List Nat)(o:Nat):Nat->Nat->List Nat->Int->List Nat->List Bp
 | 0,_,_,_,_=>[]
 | f+1,i,head,sum,s=>if s.all (λx=>decide (o<=x))=true then [] else
   (if (sts.getD i aS).fin=true/\s.getLastD 0<o then [(head,sum+(sts.getD i aS).out,s.getLastD 0)] else []) ++
   (sts.getD i aS).arcs.flatMap λa=>fzF sts wd o f a.2.2 (head++[a.1]) (sum+a.2.1) (lW wd s a.1)
section
variable[Inhabited eF]
theorem Ma(hd:wW sts)(wd:List Nat)(o:Nat):∀ (f i:Nat) (head:List Nat) (sum:Int) (s:List Nat),i<f->i<sts.length->s.length=wd.length+1 ->
  fzF sts wd o f i head sum s=(gV sts i).filterMap (Vq wd o s head sum)
 | 0,_,_,_,_,h,_,_=>absurd h (qXc _)
 | f+1,i,head,sum,s,hi,hl,hs=>by
  have hne:s≠[]:=λe=>by rw[e] at hs;simp at hs
  simp only[fzF]
  by_cases hdead:s.all (λx=>decide (o<=x))=true
  ·rw[if_pos hdead]
   have hall:∀ x∈s,o<=x:=λx hx=>of_decide_eq_true (List.all_eq_true.1 hdead x hx)
   symm
   rw[List.filterMap_eq_nil_iff]
   intro r _
   have h1:=Cf r.1 s hs hall
   have h2:=Rd (s:=r.1.foldl (lW wd) s) (λe=>by have:=Hg r.1 s hs;rw[e] at this;simp at this)
   have:=h1 _ h2
   unfold Vq
   rw[if_neg (by omega)]
  ·rw[if_neg hdead,tZ hd hl,List.filterMap_append]
   congr 1
   ·by_cases hf:(sts.getD i aS).fin=true
    ·rw[if_pos hf]
     simp only[qQi,List.filterMap_nil,Vq,List.foldl_nil,qXf]
     by_cases hlt:s.getLastD 0<o
     ·rw[if_pos ⟨hf,hlt⟩,if_pos hlt]
     ·rw[if_neg (λh=>hlt h.2),if_neg hlt]
    ·rw[if_neg hf,if_neg (λh=>hf h.1)]
     rfl
   ·rw[List.filterMap_flatMap]
    refine fV λa ha=>?_
    have hai:=hd i hl a ha
    rw[Ma hd wd o f a.2.2 (head++[a.1]) (sum+a.2.1) (lW wd s a.1) (by omega) (by omega) (mX _ hs),List.filterMap_map]
    refine mQ λr _=>?_
    simp only[Function.comp,Vq,qZi,qXh,List.singleton_append]
    have e:sum+a.2.1+r.2=sum+(r.2+a.2.1):=by omega
    rw[e]
    first | done | rfl
end
def aGh(r:Nat):Nat->List Nat->List Nat->List Nat
 | t,c :: wd,a :: b :: s=>(if c=r then a else 1+min (min a b) t) :: aGh r (if c=r then a else 1+min (min a b) t) wd (b :: s)
 | _,_,_=>[]
def aHe(wd:List Nat)(s:List Nat)(r:Nat):List Nat:=(s.headD 0+1) :: aGh r (s.headD 0+1) wd s
section
variable[Inhabited eF]
structure gD where
 i:Nat
 head:List Nat
 sum:Int
 row:List Nat
def gD.Ok(sts:List bP)(wd:List Nat)(t:gD):Prop:=t.i<sts.length/\t.row.length=wd.length+1
def Lz(o:Nat)(t:gD):Bool:=t.row.all λx=>decide (o<=x)
def Vl(sts:List bP)(o:Nat)(t:gD):List Bp :=
 if Lz o t=true then [] else if (sts.getD t.i aS).fin=true/\t.row.getLastD 0<o then [(t.head,t.sum+(sts.getD t.i aS).out,t.row.getLastD 0)] else []
def oI(sts:List bP)(wd:List Nat)(o:Nat)(t:gD):List gD :=
 if Lz o t=true then [] else (sts.getD t.i aS).arcs.map λa=>⟨a.2.2,t.head++[a.1],t.sum+a.2.1,lW wd t.row a.1⟩
def fzI(sts:List bP)(wd:List Nat)(o:Nat)(t:gD):List Bp:=(gV sts t.i).filterMap (Vq wd o t.row t.head t.sum)
theorem aDm(hd:wW sts){t:gD}(h:t.Ok sts wd):fzI sts wd o t=Vl sts o t++(oI sts wd o t).flatMap (fzI sts wd o):=by
 have h1:=Ma hd wd o (t.i+1) t.i t.head t.sum t.row (Nat.lt_succ_self _) h.1 h.2
 unfold fzI
 rw[<-h1]
 simp only[fzF,Vl,oI]
 by_cases hdead:Lz o t=true
 ·have h2:t.row.all (λx=>decide (o<=x))=true:=hdead
  rw[if_pos hdead,if_pos hdead,if_pos h2]
  rfl
 ·have h2:¬ t.row.all (λx=>decide (o<=x))=true:=hdead
  rw[if_neg hdead,if_neg hdead,if_neg h2]
  congr 1
  rw[List.flatMap_map]
  refine fV λa ha=>?_
  have hai:=hd t.i h.1 a ha
  exact Ma hd wd o t.i a.2.2 _ _ _ hai (by have:=h.1;omega) (mX _ h.2)
def nzF(sts:List bP):Nat->Nat->Nat
 | 0,_=>0
 | f+1,i=>1+((sts.getD i aS).arcs.map λa=>nzF sts f a.2.2).sum
def nz(sts:List bP)(i:Nat):Nat:=nzF sts (i+1) i
theorem Ie(hd:wW sts):∀ (f i g:Nat),i<f->i<sts.length->f<=g->nzF sts g i=nzF sts f i
 | 0,_,_,h,_,_=>absurd h (qXc _)
 | f+1,i,g,hi,hl,hg=>by
  obtain⟨g,rfl⟩:∃ k,g=k+1:=⟨g-1,by omega⟩
  simp only[nzF]
  congr 2
  refine qQj λa ha=>?_
  have hai:=hd i hl a ha
  exact Ie hd f a.2.2 g (by omega) (by omega) (by omega)
theorem aGb(hd:wW sts)(hl:i<sts.length):nz sts i=1+((sts.getD i aS).arcs.map λa=>nz sts a.2.2).sum:=by
 unfold nz
 conv=>lhs;unfold nzF
 congr 2
 refine qQj λa ha=>?_
 have hai:=hd i hl a ha
 exact Ie hd (a.2.2+1) a.2.2 i (by omega) (by omega) (by omega)
def Ru(sts:List bP)(l:List gD):Nat:=(l.map λt=>nz sts t.i).sum
theorem aBa(hd:wW sts){t:gD}(h:t.Ok sts wd):Ru sts (oI sts wd o t)<nz sts t.i:=by
 rw[aGb hd h.1]
 unfold Ru oI
 split
 ·simp
  omega
 ·rw[List.map_map]
  have e:((sts.getD t.i aS).arcs.map ((λt:gD=>nz sts t.i) ∘ λa=>(⟨a.2.2,t.head++[a.1],t.sum+a.2.1,lW wd t.row a.1⟩:gD)))=(sts.getD t.i aS).arcs.map λa=>nz sts a.2.2:=rfl
  rw[e]
  omega
theorem Oq(sts:List bP)(l m:List gD):Ru sts (l++m)=Ru sts l+Ru sts m:=by simp[Ru]
theorem If(sts:List bP)(l:List gD):Ru sts l.reverse=Ru sts l:=by
 unfold Ru
 rw[List.map_reverse,List.sum_reverse]
end
structure Za(w:World)(b:Nat)(base:Int)(A:Option Addr)(n c:Nat)(Z:List SV)(wA:Option Addr)(wc:Nat)(W:List Int):Prop where
 blk:aL w b 167 #[.int .i64 base,.slice A n c,.slice wA n wc]
 sts:eC w A n Z
 wds:fM w 3 1 wA n (W.map yQ)
 len:W.length=n
theorem Za.quiet{W:List Int}(h:Za w b base A n c Z wA wc W)(T:aC (λ_=>False) w w'):Za w' b base A n c Z wA wc W :=
 ⟨h.blk.touch T (λf=>f),h.sts.quiet T,h.wds.quiet T,h.len⟩
theorem mL.wk{wr:World}{W:List Int}(h:mL w wr b base A n c Z wA n wc W)(hl:Z.length=n)(hW:W.length=n):Za wr b base A n c Z wA wc W :=
 ⟨h.blk,⟨fM.of_own h.own,hl,h.el⟩,fM.of_own h.wds,hW⟩
def lenOf(n:Nat)(W:List Int):Int:=if n=0 then 0 else W.getD (n-1) 0
structure Kw(w:World)(b:Nat)(L:List aE)(n:Nat)(A:Option Addr)(c:Nat)(Z:List SV)(wA:Option Addr)(wc:Nat):Prop where
 wk:Za w b (bB L).base A n c Z wA wc (pX (bB L).states n)
 st:Z.map SV.p=(bB L).states
 few:n<=1000000
theorem Kw.quiet(h:Kw w b L n A c Z wA wc)(T:aC (λ_=>False) w w'):Kw w' b L n A c Z wA wc:=⟨h.wk.quiet T,h.st,h.few⟩
theorem On(h:L≠[]):bB L=⟨aW (aT L),(aY 25 ⟨[],[]⟩ (aT L)).1.states⟩:=by unfold bB;rw[if_neg h]
section
variable{w:World}{b:Nat}{L:List aE}{n:Nat}{A:Option Addr}{c:Nat}{Z:List SV}{wA:Option Addr}{wc:Nat}
theorem Kw.n_len(h:Kw w b L n A c Z wA wc):(bB L).states.length=n:=by rw[<-h.st,qXd];exact h.wk.sts.len
theorem Jq(h:jZ sts base)(hs:Z.map SV.p=sts):aCk sts.length Z:=by
 have key:∀ z∈Z,∃ i,i<sts.length/\dQ i z.p:=by
  intro z hz
  rcases h with⟨h,_⟩ | h
  ·rw[h] at hs
   have:Z=[]:=by simpa using hs
   rw[this] at hz
   cases hz
  ·obtain⟨i,hi,rfl⟩:=List.mem_iff_getElem.1 hz
   have hl:i<sts.length:=by rw[<-hs,qXd];exact hi
   refine⟨i,hl,?_⟩
   have:=h.form i hl
   rw[<-hs] at this
   simpa [qZd,hi] using this
 refine⟨λz hz=>?_,λz hz a ha=>?_,λz hz=>?_⟩
 ·obtain⟨i,hi,hf⟩:=key z hz
  exact hf.lab.imp λh=>Nat.ne_of_lt h
 ·obtain⟨i,hi,hf⟩:=key z hz
  have:=hf.arc a ha
  exact⟨this.1,this.2.1,by omega⟩
 ·obtain⟨i,hi,hf⟩:=key z hz
  exact⟨hf.out0,hf.out1⟩
theorem gE(hD:cA L):0<=(bB L).base/\(bB L).base<=1048576:=by
 rcases dD hD with⟨_,h⟩ | h
 ·rw[h];omega
 ·have h1:=h.base1
  have h2:=h.base2
  omega
end
theorem xX(w:World)(hL:dN w)(L:List aE)(hD:cA L)(A:Option Addr)(n c:Nat)(Z:List SV)(hst:eC w A n Z)(hs:Z.map SV.p=(bB L).states) :
  Calls Tryz.prog 39 #[.agg #[.int .i64 (bB L).base,.slice A n c]] w λe w'=>∃ b A' c' Z' wA wc,e=.returned (.tuple #[.pointer (some ⟨b,0,none⟩),.bool true])/\Kw w' b L n A' c' Z' wA wc/\mL w w' b (bB L).base A' n c' Z' wA n wc (pX (bB L).states n):=by
 have hn:(bB L).states.length=n:=by rw[<-hs,qXd];exact hst.len
 have hfew:n<=1000000:=by
  rcases dD hD with⟨h,_⟩ | h
  ·rw[h] at hn;simp at hn;omega
  ·have:=h.few;omega
 have hc:=aAx w hL (bB L).base A n c Z hst (by rw[hs];exact dD hD) hfew
 refine hc.mono ?_
 rintro e w' ⟨b,A',c',Z',wA,wc,rfl,hI,hZ⟩
 rw[hs] at hI hZ
 have hl:Z'.length=n:=by rw[<-qXd (f:=SV.p),hZ,hn]
 exact⟨b,A',c',Z',wA,wc,rfl,⟨hI.wk hl (Yt (by omega)),hZ,hfew⟩,hI⟩
theorem Ko(r:Nat):(aM r).length<=4:=by
 unfold aM
 repeat' split
 all_goals simp
theorem iZ:∀ x:List Nat,(x.flatMap aM).length<=4*x.length
 | []=>by simp
 | r :: x=>by
  have h1:=Ko r
  have h2:=iZ x
  simp only[qQd,qQe,qQa]
  omega
theorem xW(hD:cA L):∀ r∈L,r.word.size<=1099511627776:=by
 intro r hr
 obtain⟨h1,_,_,h4⟩:=hD.word r hr
 have h:=(cK _ _ _ (qJb _) h1).1
 have h2:=iZ (dM r)
 rw[<-h,ByteArray.toList_eq] at h2
 have e:r.word.size=r.word.data.toList.length:=by rw[Array.length_toList];rfl
 omega
end Go.Proofs.YthockgmbooefpaaGreatDoor
