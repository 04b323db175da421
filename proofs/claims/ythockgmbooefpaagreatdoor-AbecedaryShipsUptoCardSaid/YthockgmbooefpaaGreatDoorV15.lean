/- What the law rests on, part 15. No condition but those that each theorem names. -/
import Derived.Test.YthockgmbooefpaaGreatDoorV14
import Derived.Lib.AppendZerosOnto
import Derived.Lib.SliceRun
import Derived.Test.YthockgmbooefpaaGreatDoorV00
import Derived.Deep.CutRange
import Derived.Test.YthockgmbooefpaaGreatDoorV13
import Derived.Test.YthockgmbooefpaaGreatDoorV03
import Derived.Test.YthockgmbooefpaaGreatDoorV09
import Derived.Test.YthockgmbooefpaaGreatDoorV01
import Derived.Test.YthockgmbooefpaaGreatDoorRows
import Derived.Lib.LaidTab
import Derived.SizedLaws
import Derived.Deep.SlicePairs
set_option linter.unusedSectionVars false
set_option linter.unusedSimpArgs false
set_option linter.unusedVariables false
set_option maxRecDepth 100000
set_option maxHeartbeats 8000000
namespace Go.Proofs.YthockgmbooefpaaGreatDoor
open List renaming pairwise_cons → qQa, mem_cons → qXa, mem_filter → qJa, all_eq_true → qQb, append_nil → qZb, getD → qXb, filter_cons_of_neg → qJb, filter_cons_of_pos → qQc, append_assoc → qZc, filterMap_cons_none → qXc, filter_sublist → qJc, length_cons → qQd, filterMap_cons_some → qXd, filter_nil → qJd, mem_append → qQe, take_of_length_le → qZe, take_succ_eq_append_getElem → qXe, drop_eq_getElem_cons → qQf, drop_of_length_le → qZf, filter_eq_nil_iff → qXf, filter_eq_self → qJf, filter_filter → qQg, length_nil → qZg, mem_of_getLast? → qXg
open Nat renaming zero_le → qZa, le_refl → qZd, le_trans → qJe
variable{B L N O X Y:List aD}{q:Nat}{v:Value}{w w0 w1:World}{p:aD}
open Go.RowKit
theorem aBt(k:Nat)(hk:k<=5864062014700)(w:World) :
  Calls Tryz.prog 186 #[.slice none 0 0,.int .i64 k] w λe w'=>∃ v,e=.returned v/\w'.ownsRow 0 125 2 v 0 []/\aC (λ_=>False) w w'/\∀ g,v.ownBlock=some g->w.heap.size<=g:=by
 obtain⟨i0,hi,hz0,hz1,hz2⟩:=aQ kE
 rcases Nat.eq_zero_or_pos k with rfl | hk0
 ·clear hi hz0 hz1 hz2
  go_in
  go_wp2
  go_ret
  exact⟨_,rfl,World.ownsRow_nil _ _ _ _,aC.refl _ _,λg e=>by simp[Value.ownBlock] at e⟩
 ·have h1:¬ (k:Int)<0:=by omega
  have h4:(0:Int)<(k:Int):=by omega
  have hold:(Builtin.firstCells i0.size 0 (.slice none 0 0)).run Tryz.prog w.drew=.ok ([]:List Value).toArray w.drew:=run_firstCells_none w.drew i0.size 0 0 0
  have hrz:∀ ty,(Builtin.append_ #[37,3] ty #[.slice none 0 0,.int .i64 (k:Int)]).run Tryz.prog w =
    .ok (.slice (some ⟨w.heap.size,0,none⟩) k (grownCap w k 0 125)) (w.drew.alloc (.cells (([]:List Value).toArray++Builtin.zeroCells (Value.agg #[.string ByteArray.empty,.int .i64 0]).cells k++Builtin.zeroCells (Value.agg #[.string ByteArray.empty,.int .i64 0]).cells (grownCap w k 0 125 - k)) 125)):=λty=>by
   have h:=Lib.run_append_grow_zeros w 37 3 ty 125 i0 _ .i64 .i64 Tryz.underlying37 Tryz.underlying3 hi hz0 none 0 0 [] hold k hk0 (by omega) (by omega) (by omega) (by rw[hz2];omega) (by rw[Nat.zero_add];exact growslice_fits hk0 (by rw[hz2];omega))
   rw[Nat.zero_add] at h
   exact h
  obtain⟨G,hG⟩:∃ G,G=grownCap w k 0 125 := ⟨_,rfl⟩
  have hGn:k<=G:=by rw[hG];exact grownCap_ge w _ _ _
  have hG63:G<=maxLen:=by rw[hG];exact grownCap_le_maxLen w k 0 _ (by unfold maxLen;omega)
  rw[<-hG] at hrz
  have HR:=aB hrz
  have HGM:=aB hG63
  unfold maxLen at hG63
  obtain⟨cs,hcs⟩:=eX (([]:List Value).toArray++Builtin.zeroCells (Value.agg #[.string ByteArray.empty,.int .i64 0]).cells k++Builtin.zeroCells (Value.agg #[.string ByteArray.empty,.int .i64 0]).cells (G-k))
  have hsz:cs.size=G*2:=by
   rw[hcs]
   have hc2:(Value.agg #[.string ByteArray.empty,.int .i64 0]).cells.size=2:=rfl
   simp only[Array.size_append,Builtin.zeroCells,Array.size_map,Array.size_range,hc2,List.size_toArray,qZg]
   omega
  rw[<-hcs] at HR
  obtain⟨w2,hw2⟩:=eX (w.drew.alloc (.cells cs 125))
  have hb:aL w2 w.heap.size 125 cs:=by rw[hw2];exact aL.new w.drew _ _
  have ht:aC (λ_=>False) w w2:=by rw[hw2];exact ((aC.refl _ _).drew).alloc _
  rw[<-hw2] at HR
  have HB:=aB hb
  have HT:=aB ht
  have HS:=aB hsz
  clear hold hrz hG hcs hw2 hb ht hsz hi hz0 hz1 hz2
  go_in
  go_wp2_with (at_builtin;refine Lib.wpList_append_run _ rfl _ _ _ _ rfl _ _ rfl rfl _ _ (HR _) ?_)
  go_ret
  exact⟨_,rfl,⟨rfl,.inr ⟨w.heap.size,G,cs,rfl,qZa _,HB,qZa _,HGM,HS,by simp⟩⟩,HT,λg e=>by simp[Value.ownBlock] at e;omega⟩
def lE(l:List SL):Nat:=(l.map (·.n)).foldr (·+·) 0
theorem Ii(l:List SL)(s:SL):lE (l++[s])=lE l+s.n:=by
 unfold lE
 induction l with
 | nil=>simp
 | cons a l ih=>simp only[List.cons_append,List.map_cons,List.foldr_cons,ih];omega
theorem Ij(l:List SL)(i:Nat):lE (l.take i)<=lE l:=by
 unfold lE
 induction l generalizing i with
 | nil=>simp
 | cons a l ih =>
  cases i with
  | zero=>simp
  | succ i=>simp only[List.take_succ_cons,List.map_cons,List.foldr_cons];have:=ih i;omega
theorem Fe(L:List aD):∀ u∈bK L,u.oneCell'=true:=by
 intro u hu
 unfold bK at hu
 obtain⟨r,_,hu⟩:=List.mem_flatMap.1 hu
 simp only[aD.cells,qXa,List.not_mem_nil,or_false] at hu
 rcases hu with rfl | rfl<;>rfl
theorem Qe(w:World)(A0:Option Addr)(k c0:Nat)(Ss:List SL)(hk:Ss.length=k)(hR:aH w 1 A0 k (Ss.map SL.val))(hok:∀ s∈Ss,s.Ok w)(hsum:lE Ss<=5864062014700)(hk2:k<=5864062014700) :
  Calls Tryz.prog 175 #[.slice A0 k c0] w λe w'=>∃ A n c,e=.returned (.slice A n c)/\dO w' A n c (Ss.flatMap SL.L)/\aC (λ_=>False) w w'/\n=lE Ss/\(A=none->n=0/\c=0)/\∀ g,aJ A=some g->w.heap.size<=g:=by
 obtain⟨i0,hi,hz0,hz1,hz2⟩:=aQ kE
 have HR:=aB hR
 have HK:=aB hk
 have HO:=aB hok
 have HS:=aB hsum
 clear hR hk hok
 have hat:∀ wr,aC (λ_=>False) w wr->∀ i,i<k->∃ g off,A0=some ⟨g,off,none⟩/\g<wr.heap.size/\wr.cell? ⟨g,off+i,none⟩=some (Ss.getD i default).val:=by
  intro wr T i hi
  obtain⟨b,off,hA,hb,hc⟩:=(HR.touch T (λ_ _ f=>f)).2 (by omega)
  refine⟨b,off,hA,hb,hc i _ ?_⟩
  have hl:i<Ss.length:=by rw[HK.out];exact hi
  simp[qXb,hl]
 have HAT:=aB hat
 clear hat
 go_in
 go_wp2
 go_loopw [3,11] (λsv iv wr=>∃ i s:Nat,iv=.int .i64 i/\sv=.int .i64 s/\i<=k/\s<=5864062014700/\Hid (s=lE (Ss.take i))/\wr=w) (λ_ iv _=>k-(intOf iv).toNat)
 case atStart=>exact⟨0,0,rfl,rfl,qZa _,by omega,aB (by simp[lE]),rfl⟩
 case round =>
  obtain⟨i,s,rfl,rfl,hik,hs,HSU,rfl⟩:=hrel
  by_cases h0:i<k
  ·have y0:(i:Int)<(k:Int):=by omega
   obtain⟨g,off,rfl,hg,hc⟩:=HAT.out wr (aC.refl _ _) i h0
   have hl:i<Ss.length:=by rw[HK.out];exact h0
   have hsn:lE (Ss.take (i+1))=lE (Ss.take i)+(Ss.getD i default).n:=by
    have e:Ss.getD i default=Ss[i]:=by simp[qXb,hl]
    rw[qXe hl,Ii,e]
   have hle:=Ij Ss (i+1)
   rw[hsn,<-HSU.out] at hle
   rw[<-HSU.out] at hsn
   have hle2:s+(Ss.getD i default).n<=5864062014700:=qJe hle HS
   obtain⟨⟨sA,sn,sc,sL⟩,hx⟩:∃ x,x=Ss.getD i default:=⟨_,rfl⟩
   rw[<-hx] at hc hsn hle2
   simp only[SL.val] at hc hsn hle2
   have HSN:=aB hsn
   clear hx hsn hle hl
   obtain⟨s2,hs2⟩:=eX (s+sn)
   have y1:(s:Int)+(sn:Int)=(s2:Int):=by omega
   have y2:IntKind.i64.wrap (s2:Int)=(s2:Int):=IntWalk.i64_in _ (by omega)
   have y3:¬ (s2:Int)<0:=by omega
   have y4:s2<=5864062014700:=by omega
   have HS2:=aB hs2
   clear hs2
   go_wp2
   go_roundw
   ·exact⟨i+1,s2,by simp,rfl,by omega,y4,aB (by rw[HSN.out,HS2.out]),trivial⟩
   ·show k-(intOf (.int .i64 ((i:Int)+1))).toNat<k-(intOf (.int .i64 (i:Int))).toNat
    simp[intOf]
    omega
  ·have hik':i=k:=by omega
   have hs':s=lE Ss:=by rw[HSU.out,qZe (by rw[HK.out];omega)]
   have HSS:=aB hs'
   clear hs' hik' HSU
   go_wp2_with fail
   refine (aBt s hs wr).mono ?_
   rintro e w1 ⟨v,rfl,O1,T1,F1⟩
   have HO1:=aB O1
   have HT1:=aB T1
   have HF1:=aB F1
   clear O1 T1 F1
   go_wp2_with fail
   obtain⟨wo,rfl⟩:∃ wo:World,wo=wr:=⟨_,rfl⟩
   go_loopw [6,27] (λrv iv wr=>∃ i n:Nat,iv=.int .i64 i/\i<=k/\n<=5864062014700/\Hid (n=lE (Ss.take i))/\Hid (wr.ownsRow 0 125 2 rv n (bK ((Ss.take i).flatMap SL.L)))/\Hid (aC (λ_=>False) wo wr)/\Hid (∀ g,rv.ownBlock=some g->wo.heap.size<=g)) (λ_ iv _=>k-(intOf iv).toNat)
   case atStart=>exact⟨0,0,rfl,qZa _,by omega,aB (by simp[lE]),aB (by simpa [bK] using HO1.out),HT1,HF1⟩
   case round =>
    obtain⟨i,n,rfl,hik2,hn,HSU,HOQ,HTQ,HFQ⟩:=hrel
    by_cases h1:i<k
    ·have y0:(i:Int)<(k:Int):=by omega
     obtain⟨g,off,hA,hg,hc⟩:=HAT.out wr HTQ i h1
     subst hA
     have hl:i<Ss.length:=by rw[HK.out];exact h1
     have eg:Ss.getD i default=Ss[i]:=by simp[qXb,hl]
     have hsn:lE (Ss.take (i+1))=lE (Ss.take i)+(Ss.getD i default).n:=by
      rw[qXe hl,Ii,eg]
     have hfl:(Ss.take (i+1)).flatMap SL.L=(Ss.take i).flatMap SL.L++(Ss.getD i default).L:=by
      rw[qXe hl,List.flatMap_append,eg];simp
     have hle:=Ij Ss (i+1)
     have hmem:Ss.getD i default∈Ss:=by rw[eg];exact List.getElem_mem _
     rw[hsn,<-HSU.out] at hle
     rw[<-HSU.out] at hsn
     have hle2:n+(Ss.getD i default).n<=5864062014700:=qJe hle HS
     have hok:=HO.out _ hmem
     obtain⟨⟨sA,sn,sc,sL⟩,hx⟩:∃ x,x=Ss.getD i default:=⟨_,rfl⟩
     rw[<-hx] at hc hsn hle2 hfl hok
     simp only[SL.val] at hc hsn hle2 hfl
     obtain⟨o1,o2,o3⟩:=hok
     simp only at o1 o2 o3
     have HRS:=aB (o2.touch HTQ (λ_ _ f=>f))
     have HON:=aB o3
     have HSN:=aB hsn
     have HFL:=aB hfl
     obtain⟨A6,c6,rfl,hc6,hm6⟩:=aS HOQ
     clear hx hsn hle hl eg hmem hfl o1 o2 o3
     unfold maxLen at hm6
     go_wp2_with (at_builtin;refine aP _ rfl (.tmp 31) (.tmp 32) 37 rfl 125 i0 _ 2 24 Tryz.underlying37 hi hz0 hz1 hz2 rfl (by decide) (.slice A6 n c6) n _ rfl HOQ sA sn sc (bK sL) rfl HRS ?s1 ?s2 ?s3 ?s4 ?_)
     case s1=>exact HON
     case s2=>exact Fe sL
     case s3=>unfold maxLen;omega
     case s4=>omega
     intro v2 w2 O2 G2 F2 _
     have T2:=HTQ.app G2 (λg hg hlt=>by have:=HFQ.out g hg;omega)
     have hF:∀ g,v2.ownBlock=some g->wo.heap.size<=g:=by
      intro g hg
      rcases F2 with e | ⟨g',e,hg'⟩
      ·rw[e] at hg;exact HFQ g hg
      ·rw[hg] at e
       injection e with e
       have:=HTQ.size
       omega
     rw[<-pF,<-HFL.out] at O2
     have HO2:=aB O2
     have HT2:=aB T2
     have HF2:=aB hF
     clear O2 G2 F2 T2 hF
     go_wp2
     go_roundw
     ·exact⟨i+1,n+sn,by simp,by omega,by omega,aB HSN.symm,HO2,HT2,HF2⟩
     ·show k-(intOf (.int .i64 ((i:Int)+1))).toNat<k-(intOf (.int .i64 (i:Int))).toNat
      simp[intOf]
      omega
    ·have hik':Ss.take i=Ss:=qZe (by rw[HK.out];omega)
     have HSE:=aB hik'
     clear hik'
     go_wp2
     go_ret
     obtain⟨A6,c6,rfl,_,_⟩:=aS HOQ
     have hsu:=HSU.out
     have ho:=HOQ.out
     rw[HSE.out] at hsu ho
     refine⟨A6,n,c6,rfl,ho,HTQ,hsu,?_,λg hg=>HFQ.out g (by rw[<-hg];cases A6<;>rfl)⟩
     rintro rfl
     rcases ho.2 with⟨e,_⟩ | ⟨g,cap,cur,e,_⟩
     ·injection e with _ e1 e2
      exact⟨e1,e2⟩
     ·cases e
def qD(X Y:List aD):Prop:=Y.Pairwise (λa b=>jY a b=true)/\∀ k,key k Y=(key k X).getLast?.toList
theorem jF{A:List aD}(hA:A.Pairwise (λa b=>jY a b=true))(hB:B.Pairwise (λa b=>jY a b=true))(h:bP A B):A=B:=by
 induction A generalizing B with
 | nil =>
  cases B with
  | nil=>rfl
  | cons b B=>have:=h.symm.mem (x:=b) (by simp);cases this
 | cons a A ih =>
  cases B with
  | nil=>have:=h.mem (x:=a) (by simp);cases this
  | cons b B =>
   obtain⟨hA1,hA2⟩:=List.pairwise_cons.1 hA
   obtain⟨hB1,hB2⟩:=List.pairwise_cons.1 hB
   have hab:a=b:=by
    rcases List.mem_cons.1 (h.mem (x:=a) (by simp)) with e | e
    ·exact e
    ·rcases List.mem_cons.1 (h.symm.mem (x:=b) (by simp)) with f | f
     ·exact f.symm
     ·have h1:=Hm (hB1 a e) (hA1 b f)
      rw[Cy] at h1
      cases h1
   subst hab
   rw[ih hA2 hB2 λk=>?_]
   have hk:=h k
   unfold key at hk ⊢
   simp only[List.filter_cons] at hk
   split at hk
   ·injection hk
   ·exact hk
theorem qD.unique{Z:List aD}(h:qD X Y)(k:qD X Z):Y=Z:=jF h.1 k.1 λx=>(h.2 x).trans (k.2 x).symm
theorem qD.of_same{X':List aD}(h:qD X Y)(k:bP X X'):qD X' Y:=⟨h.1,λx=>by rw[h.2,k]⟩
def uI(x:aD):List aD->Prop
 | []=>True
 | y :: _=>y.word.toList≠x.word.toList
instance (x:aD) (l:List aD):Decidable (uI x l):=by
 cases l<;>(unfold uI;infer_instance)
def dd:List aD->List aD
 | []=>[]
 | x :: l=>if uI x l then x :: dd l else dd l
theorem aIw(l:List aD):(dd l).Sublist l:=by
 induction l with
 | nil=>exact List.Sublist.slnil
 | cons x l ih =>
  unfold dd
  split
  ·exact ih.cons_cons x
  ·exact ih.cons x
theorem Wj{x:aD}{l:List aD}(hs:eG (x :: l))(hd:uI x l):∀ y∈l,jY x y=true:=by
 intro y hy
 cases l with
 | nil=>cases hy
 | cons z l =>
  obtain⟨h1,h2⟩:=List.pairwise_cons.1 hs
  have hxz:jY x z=true:=by
   rcases Hl (a:=x) (b:=z) (λe=>hd e.symm) with e | e
   ·exact e
   ·have:=h1 z (by simp)
    unfold yR at this
    rw[e] at this
    cases this
  rcases List.mem_cons.1 hy with rfl | hy
  ·exact hxz
  ·exact zZ hxz ((List.pairwise_cons.1 h2).1 y hy)
theorem aIv(l:List aD)(hs:eG l):qD l (dd l):=by
 induction l with
 | nil=>exact⟨List.Pairwise.nil,λk=>rfl⟩
 | cons x l ih =>
  obtain⟨i1,i2⟩:=ih (List.pairwise_cons.1 hs).2
  unfold dd
  by_cases hd:uI x l
  ·rw[if_pos hd]
   have hp:=Wj hs hd
   refine⟨List.pairwise_cons.2 ⟨λy hy=>hp y ((aIw l).subset hy),i1⟩,λk=>?_⟩
   by_cases hk:x.word.toList=k
   ·have e1:key k l=[]:=by
     unfold key
     rw[qXf]
     intro y hy e
     exact qZ (hp y hy) (hk.trans (of_decide_eq_true e).symm)
    have e2:=i2 k
    rw[e1] at e2
    have e3:key k (x :: dd l)=x :: key k (dd l):=by simp[key,hk]
    have e4:key k (x :: l)=x :: key k l:=by simp[key,hk]
    rw[e3,e4,e2,e1]
    rfl
   ·have e3:key k (x :: dd l)=key k (dd l):=by simp[key,hk]
    have e4:key k (x :: l)=key k l:=by simp[key,hk]
    rw[e3,e4,i2]
  ·rw[if_neg hd]
   refine⟨i1,λk=>?_⟩
   rw[i2]
   by_cases hk:x.word.toList=k
   ·have e4:key k (x :: l)=x :: key k l:=by simp[key,hk]
    rw[e4]
    cases l with
    | nil=>exact absurd trivial hd
    | cons z l =>
     have hz:z.word.toList=x.word.toList:=Classical.byContradiction hd
     have e5:key k (z :: l)=z :: key k l:=by simp[key,hz.trans hk]
     rw[e5]
     simp[List.getLast?_cons_cons]
   ·have e4:key k (x :: l)=key k l:=by simp[key,hk]
    rw[e4]
theorem aFp(Z:List aD)(i:Nat)(hi:i<Z.length):dd (Z.drop i)=if uI (Z.getD i aD.zero) (Z.drop (i+1)) then Z.getD i aD.zero :: dd (Z.drop (i+1)) else dd (Z.drop (i+1)):=by
 have e:Z.drop i=Z[i] :: Z.drop (i+1):=qQf hi
 have e2:Z.getD i aD.zero=Z[i]:=by simp[qXb,hi]
 rw[e,e2,dd]
theorem yP(w:World)(A0:Option Addr)(k c0:Nat)(Ss:List SL)(hk:Ss.length=k)(hR:aH w 1 A0 k (Ss.map SL.val))(hok:∀ s∈Ss,s.Ok w)(hsum:lE Ss<=5864062014700)(hk2:k<=5864062014700) :
  Calls Tryz.prog 144 #[.slice A0 k c0] w λe w'=>∃ A n c Y,e=.returned (.slice A n c)/\dO w' A n c Y/\qD (Ss.flatMap SL.L) Y/\aC (λ_=>False) w w'/\n<=lE Ss/\(A=none->n=0/\c=0)/\∀ g,aJ A=some g->w.heap.size<=g:=by
 obtain⟨i0,hi,hz0,hz1,hz2⟩:=aQ kE
 obtain⟨X,hX⟩:=eX (Ss.flatMap SL.L)
 obtain⟨N,hN⟩:=eX (lE Ss)
 have HCO:=aB (Qe w A0 k c0 Ss hk hR hok hsum hk2)
 rw[<-hX,<-hN] at HCO
 rw[<-hX,<-hN]
 rw[<-hN] at hsum
 clear hk hR hok hk2 hX hN
 go_in
 go_wp2_with fail
 refine HCO.mono ?_
 rintro e w1 ⟨A1,n,c1,rfl,O1,T1,hnn,hnil1,F1⟩
 have hn:n<=5864062014700:=by omega
 have HO1:=aB O1
 have HT1:=aB T1
 have HF1:=aB F1
 have HNN:=aB hnn
 have HSF:=aB (Ke w1 A1 n c1 X O1 hn)
 clear O1 T1 F1 hnn hnil1 HCO
 go_wp2_with fail
 refine HSF.mono ?_
 rintro e w2 ⟨rfl,⟨Z,O2,s2,k2⟩,T2⟩
 have HO2:=aB O2
 have HZS:=aB s2
 have HZK:=aB k2
 have HT2:=aB (HT1.trans T2 (λi hi hp=>by have:=HF1.out i hp;omega))
 clear O2 s2 k2 T2 HSF
 go_wp2_with fail
 go_loopw [4,13] (λrv iv wr=>∃ i q:Nat,iv=.int .i64 i/\i<=n/\q<=i/\Hid (∃ O,wr.ownsRow 0 125 2 rv q (bK O)/\O++dd (Z.drop i)=dd Z)/\Hid (aC (λ_=>False) w2 wr)/\Hid (∀ g,rv.ownBlock=some g->w2.heap.size<=g)) (λ_ iv _=>n-(intOf iv).toNat)
 case atStart=>exact⟨0,0,rfl,qZa _,qZa _,aB ⟨[],World.ownsRow_nil _ _ _ _,rfl⟩,aB (aC.refl _ _),aB (λg e=>by simp[Value.ownBlock] at e)⟩
 case round =>
  obtain⟨i,q,rfl,hin,hqi,HE,HT,HF⟩:=hrel
  have HZ:=aB (aF HO2 HT (λ_ _ f=>f))
  by_cases h0:i<n
  ·have y0:(i:Int)<(n:Int):=by omega
   have hzl:=bN HO2
   obtain⟨g,rfl,hg,a0,a1,_,_⟩:=dU HZ.out hzl i h0
   have hst:=aFp Z i (by omega)
   obtain⟨⟨xw,xn⟩,hx⟩:∃ r,r=Z.getD i aD.zero:=⟨_,rfl⟩
   rw[<-hx] at a0 a1 hst
   simp only at a0 a1
   obtain⟨O,O3,hO⟩:=HE.out
   obtain⟨A4,c4,rfl,_,hm4⟩:=aS O3
   unfold maxLen at hm4
   have HO3:=aB O3
   have HOE:=aB hO
   have HST:=aB hst
   obtain⟨j,hj⟩:=eX (i+1)
   have y1:(i:Int)+1=(j:Int):=by omega
   have y2:IntKind.i64.wrap (j:Int)=(j:Int):=IntWalk.i64_in _ (by omega)
   have HJ:=aB hj
   obtain⟨p,hp⟩:=eX wr.heap.size
   have HPP:=aB hp
   have hjn:j<=n:=by omega
   obtain⟨wa,hwa⟩:=eX (wr.alloc (.cells #[.string xw,.int .i64 xn] 125))
   have ta:aC (λ_=>False) wr wa:=by rw[hwa];exact (aC.refl _ _).alloc _
   have ba:aL wa p 125 #[.string xw,.int .i64 xn]:=by rw[hwa,hp];exact aL.new _ _ _
   have HTA:=aB ta
   have HBA:=aB ba
   have HWA:=aB hwa
   have hcase:(j=n/\uI ⟨xw,xn⟩ (Z.drop j))\/∃ yw yn,j<n/\(⟨yw,yn⟩:aD)=Z.getD j aD.zero/\((¬ yw.toList=xw.toList/\uI ⟨xw,xn⟩ (Z.drop j))\/(yw.toList=xw.toList/\¬ uI ⟨xw,xn⟩ (Z.drop j))):=by
    by_cases hj2:j=n
    ·left
     refine⟨hj2,?_⟩
     rw[qZf (by omega)]
     trivial
    ·right
     have e:Z.drop j=Z[j]'(by omega) :: Z.drop (j+1):=qQf (by omega)
     have e2:Z.getD j aD.zero=Z[j]'(by omega):=by simp[qXb,show j<Z.length by omega]
     refine⟨(Z.getD j aD.zero).word,(Z.getD j aD.zero).weight,by omega,rfl,?_⟩
     rw[e,e2]
     by_cases hq:(Z[j]'(by omega)).word.toList=xw.toList
     ·exact .inr ⟨hq,λhd=>hd hq⟩
     ·exact .inl ⟨hq,hq⟩
   clear O3 hO hst HE hj hwa ta ba hx hp
   rcases hcase with⟨h1,hd⟩ | ⟨yw,yn,h1,hy,hd⟩
   ·have HDI:=aB hd
    have HJN:=aB h1
    have x1:((j:Int) == (n:Int))=true:=by simp[h1]
    have x2:(j == n)=true:=by simp[h1]
    clear hd h1 hzl
    go_upto_region 7 with fail
    rw[<-HWA.out,<-HPP.out]
    obtain⟨e0,e1⟩:wa.cell? ⟨p,0,none⟩=some (.string xw)/\wa.cell? ⟨p,1,none⟩=some (.int .i64 xn):=⟨HBA.cell 0,HBA.cell 1⟩
    go_quiet (fail)
    obtain⟨wb,hwb⟩:=eX (wa.drewN nq)
    have tb:aC (λ_=>False) wa wb:=by rw[hwb];exact (aC.refl _ _).drewN _
    rw[<-hwb]
    have hbb:=HBA.touch tb (λf=>f)
    have HTB:=aB (HTA.then tb)
    obtain⟨e2,e3⟩:wb.cell? ⟨p,0,none⟩=some (.string xw)/\wb.cell? ⟨p,1,none⟩=some (.int .i64 xn):=⟨hbb.cell 0,hbb.cell 1⟩
    clear hwb tb hbb e0 e1
    go_wp2_with (at_builtin;refine aP _ rfl (.tmp 34) (.tmp 36) 37 rfl 125 i0 _ 2 24 Tryz.underlying37 hi hz0 hz1 hz2 rfl (by decide) (.slice A4 q c4) q _ rfl (aF HO3 (HTB.alloc _) (λ_ _ f=>f)) (some ⟨_,0,none⟩) 1 1 (aD.cells ⟨xw,xn⟩) rfl ?s1 ?s2 ?s3 ?s4 ?s5 ?_)
    case s1=>exact aH.new _ _ _ _ rfl
    try (case s2=>exact λh=>by cases h)
    case s3=>exact List.all_eq_true.1 rfl
    case s4=>unfold maxLen;omega
    case s5=>omega
    intro v2 w3 O5 G5 F5 _
    have T5:=((HT.then HTB).alloc (.cells #[.string xw,.int .i64 xn] 125)).app G5 (λg hg hlt=>by have:=HF.out g hg;omega)
    have hF5:∀ g,v2.ownBlock=some g->w2.heap.size<=g:=by
     intro g hg
     rcases F5 with e | ⟨g',e,hg'⟩
     ·rw[e] at hg;exact HF g hg
     ·rw[hg] at e
      injection e with e
      have h1:=HT.size
      have h2:=HTB.size
      simp at hg'
      omega
    have HO5:=aB O5
    have HT5:=aB T5
    have HF5:=aB hF5
    clear O5 T5 hF5 G5 F5
    go_wp2
    go_roundw
    ·refine⟨j,q+1,rfl,hjn,by have:=HJ.out;omega,aB ⟨O++[⟨xw,xn⟩],?_,?_⟩,HT5,HF5⟩
     ·have:=HO5.out
      rw[pF]
      simpa [bK] using this
     ·have hs:=HST.out
      rw[<-HJ.out,if_pos HDI.out] at hs
      rw[<-HOE.out,hs,qZc]
      rfl
    ·have:=HJ.out
     show n-(j:Int).toNat<n-(i:Int).toNat
     omega
   ·obtain⟨g',hA,_,b0,b1,_,_⟩:=dU HZ.out hzl j h1
    injection hA with hA
    injection hA with hA _
    subst hA
    rw[<-hy] at b0 b1
    simp only at b0 b1
    have x1:((j:Int) == (n:Int))=false:=by simp;omega
    have x2:(j == n)=false:=by simp;omega
    have HY:=aB hy
    clear hy hzl
    rcases hd with⟨q1,hd⟩ | ⟨q1,hd⟩
    ·have HDI:=aB hd
     have q2:(yw.toList == xw.toList)=false:=by simp[q1]
     have q3:decide (yw.toList=xw.toList)=false:=by simp[q1]
     have q4:¬ yw=xw:=λe=>q1 (by rw[e])
     have q5:decide (yw=xw)=false:=by simp[q4]
     clear hd
     go_upto_region 7 with fail
     rw[<-HWA.out,<-HPP.out]
     obtain⟨e0,e1⟩:wa.cell? ⟨p,0,none⟩=some (.string xw)/\wa.cell? ⟨p,1,none⟩=some (.int .i64 xn):=⟨HBA.cell 0,HBA.cell 1⟩
     have b0':=(HTA.cell (a:=⟨g,j*2,none⟩) hg (λf=>f)).trans b0
     go_quiet (fail)
     obtain⟨wb,hwb⟩:=eX (wa.drewN nq)
     have tb:aC (λ_=>False) wa wb:=by rw[hwb];exact (aC.refl _ _).drewN _
     rw[<-hwb]
     have hbb:=HBA.touch tb (λf=>f)
     have HTB:=aB (HTA.then tb)
     obtain⟨e2,e3⟩:wb.cell? ⟨p,0,none⟩=some (.string xw)/\wb.cell? ⟨p,1,none⟩=some (.int .i64 xn):=⟨hbb.cell 0,hbb.cell 1⟩
     clear hwb tb hbb e0 e1
     go_wp2_with (at_builtin;refine aP _ rfl (.tmp 34) (.tmp 36) 37 rfl 125 i0 _ 2 24 Tryz.underlying37 hi hz0 hz1 hz2 rfl (by decide) (.slice A4 q c4) q _ rfl (aF HO3 (HTB.alloc _) (λ_ _ f=>f)) (some ⟨_,0,none⟩) 1 1 (aD.cells ⟨xw,xn⟩) rfl ?s1 ?s2 ?s3 ?s4 ?s5 ?_)
     case s1=>exact aH.new _ _ _ _ rfl
     try (case s2=>exact λh=>by cases h)
     case s3=>exact List.all_eq_true.1 rfl
     case s4=>unfold maxLen;omega
     case s5=>omega
     intro v2 w3 O5 G5 F5 _
     have T5:=((HT.then HTB).alloc (.cells #[.string xw,.int .i64 xn] 125)).app G5 (λg hg hlt=>by have:=HF.out g hg;omega)
     have hF5:∀ g,v2.ownBlock=some g->w2.heap.size<=g:=by
      intro g hg
      rcases F5 with e | ⟨g',e,hg'⟩
      ·rw[e] at hg;exact HF g hg
      ·rw[hg] at e
       injection e with e
       have h1:=HT.size
       have h2:=HTB.size
       simp at hg'
       omega
     have HO5:=aB O5
     have HT5:=aB T5
     have HF5:=aB hF5
     clear O5 T5 hF5 G5 F5
     go_wp2
     go_roundw
     ·refine⟨j,q+1,rfl,hjn,by have:=HJ.out;omega,aB ⟨O++[⟨xw,xn⟩],?_,?_⟩,HT5,HF5⟩
      ·have:=HO5.out
       rw[pF]
       simpa [bK] using this
      ·have hs:=HST.out
       rw[<-HJ.out,if_pos HDI.out] at hs
       rw[<-HOE.out,hs,qZc]
       rfl
     ·have:=HJ.out
      show n-(j:Int).toNat<n-(i:Int).toNat
      omega
    ·have HDI:=aB hd
     clear hd
     go_upto_region 7 with fail
     rw[<-HWA.out,<-HPP.out]
     obtain⟨e0,e1⟩:wa.cell? ⟨p,0,none⟩=some (.string xw)/\wa.cell? ⟨p,1,none⟩=some (.int .i64 xn):=⟨HBA.cell 0,HBA.cell 1⟩
     have b0':=(HTA.cell (a:=⟨g,j*2,none⟩) hg (λf=>f)).trans b0
     go_quiet (fail)
     obtain⟨wb,hwb⟩:=eX (wa.drewN nq)
     have tb:aC (λ_=>False) wa wb:=by rw[hwb];exact (aC.refl _ _).drewN _
     rw[<-hwb]
     have hbb:=HBA.touch tb (λf=>f)
     have HTB:=aB (HTA.then tb)
     obtain⟨e2,e3⟩:wb.cell? ⟨p,0,none⟩=some (.string xw)/\wb.cell? ⟨p,1,none⟩=some (.int .i64 xn):=⟨hbb.cell 0,hbb.cell 1⟩
     clear hwb tb hbb e0 e1
     go_wp2
     go_roundw
     ·refine⟨j,q,rfl,hjn,by have:=HJ.out;omega,aB ⟨O,aF HO3 HTB (λ_ _ f=>f),?_⟩,aB (HT.then HTB),HF⟩
      have hs:=HST.out
      rw[<-HJ.out,if_neg HDI.out] at hs
      rw[<-HOE.out,hs]
     ·have:=HJ.out
      show n-(j:Int).toNat<n-(i:Int).toNat
      omega
  ·have hin':Z.drop i=[]:=qZf (by have:=bN HO2.out;omega)
   obtain⟨O,O3,hO⟩:=HE.out
   rw[hin'] at hO
   simp only[dd,qZb] at hO
   subst hO
   obtain⟨A4,c4,rfl,_,_⟩:=aS O3
   have HO3:=aB O3
   clear O3 HE hin'
   go_wp2
   go_ret
   refine⟨A4,q,c4,dd Z,rfl,HO3,(aIv Z HZS).of_same HZK.symm,HT2.then HT,by have:=HNN.out;omega,?_,?_⟩
   ·rintro rfl
    rcases HO3.2 with⟨e,_⟩ | ⟨g,cap,cur,e,_⟩
    ·injection e with _ e1 e2
     exact⟨e1,e2⟩
    ·cases e
   ·intro g hg
    have h1:=HF.out g (by rw[<-hg];cases A4<;>rfl)
    have h2:=HT2.size
    omega
theorem Hn(w:World)(s:SL)(hs:s.Ok w)(hsum:s.n<=5864062014700) :
  Calls Tryz.prog 101 #[s.val] w λe w'=>∃ A n c Y,e=.returned (.slice A n c)/\dO w' A n c Y/\qD s.L Y/\aC (λ_=>False) w w'/\n<=s.n/\(A=none->n=0/\c=0)/\∀ g,aJ A=some g->w.heap.size<=g:=by
 obtain⟨wa,hwa⟩:=eX (w.alloc (.cells [s.val].toArray 37))
 obtain⟨g,hg⟩:=eX w.heap.size
 have ta:aC (λ_=>False) w wa:=by rw[hwa];exact (aC.refl _ _).alloc _
 have hr:aH wa 1 (some ⟨g,0,none⟩) 1 ([s].map SL.val):=by rw[hwa,hg];exact aH.new w _ _ _ rfl
 have HOR:=aB (yP wa (some ⟨g,0,none⟩) 1 1 [s] rfl hr (λx hx=>by simp at hx;subst hx;exact⟨hs.len,hs.reads.touch ta (λ_ _ f=>f),hs.nil⟩) (by simp[lE];exact hsum) (by decide))
 have HTA:=aB ta
 have HWA:=aB hwa
 have HG:=aB hg
 clear hs ta hr hwa hg
 obtain⟨sA,sn,sc,sL⟩:=s
 simp only[SL.val] at HWA ⊢
 simp only at hsum
 go_in
 go_wp2_with fail
 have e1:w.alloc (.cells #[.slice sA sn sc] 37)=wa:=HWA.symm
 rw[e1,<-HG.out]
 clear e1
 refine HOR.mono ?_
 rintro e w1 ⟨A,n,c,Y,rfl,O1,N1,T1,h1,h2,h3⟩
 have HO:=aB O1
 have HN:=aB N1
 have HT:=aB T1
 have H1:=aB (And.intro h1 (And.intro h2 h3))
 clear O1 N1 T1 h1 h2 h3
 go_wp2
 go_ret
 obtain⟨h1,h2,h3⟩:=H1.out
 have hN:=HN.out
 simp only[List.flatMap_cons,List.flatMap_nil,qZb] at hN
 refine⟨A,n,c,Y,rfl,HO,hN,HTA.then HT,by simpa [lE] using h1,h2,λg hg=>?_⟩
 have:=h3 g hg
 have:=HTA.size
 omega
def dM(p:aD):Bool:=!(p.weight == 0)
structure Zw(w0 w:World)(v:Value)(q:Nat)(N:List aD):Prop where
 own:w.ownsRow 0 125 2 v q (bK N)
 len:N.length=q
 touch:aC (λ_=>False) w0 w
 fresh:∀ g,v.ownBlock=some g->w0.heap.size<=g
theorem Zw.to{w2:World}(h:Zw w0 w v q N)(t:aC (λ_=>False) w w2):Zw w0 w2 v q N :=
 ⟨aF h.own t (λ_ _ f=>f),h.len,h.touch.then t,h.fresh⟩
theorem Zw.app{w3:World}{v':Value}{m:aD}(h:Zw w0 w1 v q N)(ho:w3.ownsRow 0 125 2 v' (q+1) (bK N++m.cells))(hg:w1.grownBy w3 v.ownBlock)(hf:cK w1 v v'):Zw w0 w3 v' (q+1) (N++[m]):=by
 refine⟨by rw[pF];simpa [bK] using ho,by simp[h.len],h.touch.app hg (λg hg hlt=>by have:=h.fresh g hg;omega),?_⟩
 intro g hg
 rcases hf with e | ⟨g',e,hg'⟩
 ·rw[e] at hg;exact h.fresh g hg
 ·rw[hg] at e
  injection e with e
  have:=h.touch.size
  omega
def eK(p:aD):Bool->List aD->List aD
 | done,[]=>if done=true then [] else [p]
 | true,x :: l=>if x.word.toList=p.word.toList then eK p true l else x :: eK p true l
 | false,x :: l=>if jY x p=true then x :: eK p false l else p :: (if x.word.toList=p.word.toList then eK p true l else x :: eK p true l)
theorem Yk(p:aD)(l:List aD):eK p true l=l.filter (λx=>decide (¬ x.word.toList=p.word.toList)):=by
 induction l with
 | nil=>rfl
 | cons x l ih =>
  unfold eK
  by_cases h:x.word.toList=p.word.toList
  ·rw[if_pos h,ih];simp[h]
  ·rw[if_neg h,ih];simp[h]
theorem Da(p x:aD)(l:List aD)(h:¬ jY x p=true):eK p false (x :: l)=p :: (x :: l).filter (λx=>decide (¬ x.word.toList=p.word.toList)):=by
 rw[<-Yk]
 unfold eK
 rw[if_neg h]
theorem Nk(p:aD)(l:List aD):∀ y∈eK p false l,y=p\/y∈l:=by
 induction l with
 | nil=>intro y hy;simp[eK] at hy;exact .inl hy
 | cons x l ih =>
  intro y hy
  by_cases h:jY x p=true
  ·unfold eK at hy
   rw[if_pos h] at hy
   rcases List.mem_cons.1 hy with e | e
   ·exact .inr (by simp[e])
   ·rcases ih y e with e | e
    ·exact .inl e
    ·exact .inr (by simp[e])
  ·rw[Da p x l h] at hy
   rcases List.mem_cons.1 hy with e | e
   ·exact .inl e
   ·exact .inr (List.mem_filter.1 e).1
theorem Ad(p:aD)(l:List aD)(hs:lQ l):lQ (eK p false l)/\∀ k,key k (eK p false l)=if p.word.toList=k then [p] else key k l:=by
 induction l with
 | nil =>
  refine⟨by simp[eK,lQ],λk=>?_⟩
  by_cases hk:p.word.toList=k
  ·simp[eK,key,hk]
  ·simp[eK,key,hk]
 | cons x l ih =>
  obtain⟨h1,h2⟩:=List.pairwise_cons.1 hs
  obtain⟨i1,i2⟩:=ih h2
  by_cases h:jY x p=true
  ·have e:eK p false (x :: l)=x :: eK p false l:=by rw[eK,if_pos h]
   rw[e]
   refine⟨List.pairwise_cons.2 ⟨λy hy=>?_,i1⟩,λk=>?_⟩
   ·rcases Nk p l y hy with e | e
    ·rw[e];exact h
    ·exact h1 y e
   ·have hi:=i2 k
    by_cases hk:x.word.toList=k
    ·have hp:¬ p.word.toList=k:=λe=>qZ h (hk.trans e.symm)
     rw[if_neg hp] at hi ⊢
     have e3:key k (x :: eK p false l)=x :: key k (eK p false l):=by simp[key,hk]
     have e4:key k (x :: l)=x :: key k l:=by simp[key,hk]
     rw[e3,e4,hi]
    ·have e3:key k (x :: eK p false l)=key k (eK p false l):=by simp[key,hk]
     have e4:key k (x :: l)=key k l:=by simp[key,hk]
     rw[e3,e4,hi]
  ·rw[Da p x l h]
   have hpx:yR p x:=by simpa [yR] using h
   have hpl:∀ y∈x :: l,yR p y:=by
    intro y hy
    rcases List.mem_cons.1 hy with e | e
    ·rw[e];exact hpx
    ·exact jU hpx (jM (h1 y e))
   refine⟨List.pairwise_cons.2 ⟨λy hy=>?_,hs.sublist qJc⟩,λk=>?_⟩
   ·obtain⟨y1,y2⟩:=List.mem_filter.1 hy
    have y2:=of_decide_eq_true y2
    rcases Hl (a:=p) (b:=y) (λe=>y2 e.symm) with e | e
    ·exact e
    ·have:=hpl y y1
     unfold yR at this
     rw[e] at this
     cases this
   ·by_cases hk:p.word.toList=k
    ·rw[if_pos hk]
     have e3:key k (p :: (x :: l).filter (λx=>decide (¬ x.word.toList=p.word.toList)))=p :: key k ((x :: l).filter (λx=>decide (¬ x.word.toList=p.word.toList))):=by simp[key,hk]
     have e4:key k ((x :: l).filter (λx=>decide (¬ x.word.toList=p.word.toList)))=[]:=by
      unfold key
      rw[qXf]
      intro y hy e
      have y2:=of_decide_eq_true (List.mem_filter.1 hy).2
      exact y2 ((of_decide_eq_true e).trans hk.symm)
     rw[e3,e4]
    ·rw[if_neg hk]
     have e3:key k (p :: (x :: l).filter (λx=>decide (¬ x.word.toList=p.word.toList)))=key k ((x :: l).filter (λx=>decide (¬ x.word.toList=p.word.toList))):=by simp[key,hk]
     rw[e3]
     unfold key
     rw[qQg]
     congr 1
     funext y
     by_cases hy:y.word.toList=k
     ·have:¬ y.word.toList=p.word.toList:=λe=>hk (e.symm.trans hy)
      have hkp:¬ k=p.word.toList:=λe=>hk e.symm
      simp[hy,hkp]
     ·simp[hy]
theorem aHh(w:World)(A:Option Addr)(n c:Nat)(L:List aD)(hL:L.length=n)(hR:aH w 2 A n (bK L))(hn:n<=5864062014700)(hW:∀ r∈L,r.Wf)(p:aD)(hp:p.Wf) :
  Calls Tryz.prog 161 #[.slice A n c,p.val] w λe w'=>∃ A' q c',e=.returned (.slice A' q c')/\Zw w w' (.slice A' q c') q (eK p false L)/\q<=n+1:=by
 obtain⟨i0,hi,hz0,hz1,hz2⟩:=aQ kE
 obtain⟨w0,hw0⟩:=eX (w.alloc (.cells #[.string p.word,.int .i64 p.weight] 125))
 obtain⟨b3,hb3⟩:=eX w.heap.size
 have t0:aC (λ_=>False) w w0:=by rw[hw0];exact (aC.refl _ _).alloc _
 have k0:aL w0 b3 125 #[.string p.word,.int .i64 p.weight]:=by rw[hw0,hb3];exact aL.new _ _ _
 have HR:=aB (hR.touch t0 (λ_ _ f=>f))
 have HL:=aB hL
 have HW:=aB hW
 have HWP:=aB hp
 have HT0:=aB t0
 have HB3:=aB k0
 have HW0:=aB hw0
 have HB:=aB hb3
 obtain⟨pw,pn⟩:=p
 clear hR hL hW hp t0 k0 hw0 hb3
 rw[Af]
 simp only at HB3 HW0
 go_in
 go_wp2_with fail
 rw[<-HW0.out,<-HB.out]
 go_loopw [5,6,7] (λov dv iv wr=>∃ (i q:Nat) (done:Bool) (A5:Option Addr) (c5:Nat),iv=.int .i64 i/\ov=.slice A5 q c5/\dv=.bool done/\i<=n/\q<=i+done.toNat/\Hid (aC (λ_=>False) w0 wr)/\Hid (∃ O,Zw w0 wr (.slice A5 q c5) q O/\O++eK ⟨pw,pn⟩ done (L.drop i)=eK ⟨pw,pn⟩ false L)) (λ_ _ iv _=>n-(intOf iv).toNat)
 case atStart=>exact⟨0,0,false,none,0,rfl,rfl,rfl,qZa _,qZa _,aB (aC.refl _ _),aB ⟨[],⟨World.ownsRow_nil _ _ _ _,rfl,aC.refl _ _,λg e=>by simp[Value.ownBlock] at e⟩,rfl⟩⟩
 case round =>
  obtain⟨i,q,done,A5,c5,rfl,rfl,rfl,hin',hqi,HT,HPU⟩:=hrel
  by_cases hin:i<n
  ·have y0:(i:Int)<(n:Int):=by omega
   have hdr:L.drop i=L.getD i aD.zero :: L.drop (i+1):=by
    have hl:i<L.length:=by rw[HL.out];exact hin
    have e2:L.getD i aD.zero=L[i]:=by simp[qXb,hl]
    rw[e2];exact qQf hl
   obtain⟨gl,ol,hAl,_,l0,l1⟩:=dN (HR.touch HT (λ_ _ f=>f)) HL.symm i hin
   subst hAl
   have hwx:(L.getD i aD.zero).Wf:=HW.out _ (by
    have hl:i<L.length:=by rw[HL.out];exact hin
    have e2:L.getD i aD.zero=L[i]:=by simp[qXb,hl]
    rw[e2];exact List.getElem_mem _)
   obtain⟨⟨xw,xn⟩,hx⟩:∃ x,x=L.getD i aD.zero:=⟨_,rfl⟩
   rw[<-hx] at l0 l1 hdr hwx
   simp only at l0 l1
   have HX:=aB hx
   have HWX:=aB hwx
   have hb3:=HB3.touch HT (λf=>f)
   obtain⟨b0,b1⟩:_/\_:=⟨hb3.cell 0,hb3.cell 1⟩
   simp at b0 b1
   have hpu:=HPU.out
   obtain⟨O,hN,hpu⟩:=hpu
   rw[hdr] at hpu
   have HNO:=aB hN
   have HPO:=aB hpu
   obtain⟨A5',c5',e5,_,hm5⟩:=aS hN.own
   injection e5 with e51 e52 e53
   subst e51 e53
   unfold maxLen at hm5
   have hd1:done.toNat<=1:=by cases done<;>decide
   have hq62:q<=5864062014710:=by omega
   clear hx hdr hwx hb3 hpu hN HPU e52
   cases done with
   | true =>
    go_wp2_with fail
    go_quiet (fail)
    obtain⟨w1,hw1⟩:=eX (wr.drewN nq)
    have HN1:=aB (HNO.to (show aC (λ_=>False) _ w1 by rw[hw1];exact (aC.refl _ _).drewN _))
    rw[<-hw1]
    clear hw1
    obtain⟨gl',ol',hAl,_,l0,l1⟩:=dN (HR.touch HN1.touch (λ_ _ f=>f)) HL.symm i hin
    injection hAl with hAl
    injection hAl with hA1 hA2
    subst hA1 hA2
    rw[<-HX.out] at l0 l1
    simp only at l0 l1
    have hb3:=HB3.touch HN1.touch (λf=>f)
    obtain⟨b0,b1⟩:_/\_:=⟨hb3.cell 0,hb3.cell 1⟩
    simp at b0 b1
    clear hb3
    by_cases q1:xw.toList=pw.toList
    ·have q2:(xw.toList == pw.toList)=true:=by simp[q1]
     go_wp2_with fail
     go_quiet (fail)
     obtain⟨w2,hw2⟩:=eX (w1.drewN nq)
     have HN2:=aB (HN1.to (show aC (λ_=>False) _ w2 by rw[hw2];exact (aC.refl _ _).drewN _))
     rw[<-hw2]
     clear hw2
     go_wp2_with fail
     go_roundw
     ·refine⟨i+1,q,true,_,_,by simp,rfl,rfl,by omega,by have e1:Bool.toNat true=1:=rfl;have e2:Bool.toNat false=0:=rfl;omega,aB HN2.touch,aB ⟨O,HN2,?_⟩⟩
      have h:=HPO.out
      rw[eK,if_pos q1] at h
      exact h
     ·show n-(intOf (.int .i64 ((i:Int)+1))).toNat<n-(intOf (.int .i64 (i:Int))).toNat
      simp[intOf]
      omega
    ·have q2:(xw.toList == pw.toList)=false:=by simp[q1]
     have q3:decide (xw.toList=pw.toList)=false:=by simp[q1]
     have q4:¬ xw=pw:=λe=>q1 (by rw[e])
     have q5:decide (xw=pw)=false:=by simp[q4]
     go_wp2_with fail
     go_quiet (fail)
     obtain⟨w2,hw2⟩:=eX (w1.drewN nq)
     have HN2:=aB (HN1.to (show aC (λ_=>False) _ w2 by rw[hw2];exact (aC.refl _ _).drewN _))
     rw[<-hw2]
     clear hw2
     obtain⟨gl',ol',hAl,_,l0,l1⟩:=dN (HR.touch HN2.touch (λ_ _ f=>f)) HL.symm i hin
     injection hAl with hAl
     injection hAl with hA1 hA2
     subst hA1 hA2
     rw[<-HX.out] at l0 l1
     simp only at l0 l1
     have hb3:=HB3.touch HN2.touch (λf=>f)
     obtain⟨b0,b1⟩:_/\_:=⟨hb3.cell 0,hb3.cell 1⟩
     simp at b0 b1
     clear hb3
     go_wp2_with (at_builtin;refine aP _ rfl (.tmp 39) (.tmp 44) 37 rfl 125 i0 _ 2 24 Tryz.underlying37 hi hz0 hz1 hz2 rfl (by decide) (.slice A5 q c5) q _ rfl (aF HN2.own ((aC.refl _ _).alloc _) (λ_ _ f=>f)) (some ⟨_,0,none⟩) 1 1 (aD.cells ⟨xw,xn⟩) rfl ?s1a ?s1b ?s1c ?s1d ?s1e ?_)
     case s1a=>exact aH.new _ _ _ _ rfl
     try (case s1b=>exact λh=>by cases h)
     case s1c=>exact List.all_eq_true.1 rfl
     case s1d=>unfold maxLen;omega
     case s1e=>omega
     intro v3 w3 hown hgrow hfr _
     have N3:=(HN2.to ((aC.refl _ _).alloc _)).app hown hgrow hfr
     obtain⟨A3,c3,rfl,_,hm3⟩:=aS hown
     unfold maxLen at hm3
     have HN3:=aB N3
     clear N3 hown hgrow hfr
     go_wp2_with fail
     go_roundw
     ·refine⟨i+1,q+1,true,_,_,by simp,rfl,rfl,by omega,by have e1:Bool.toNat true=1:=rfl;have e2:Bool.toNat false=0:=rfl;omega,aB HN3.touch,aB ⟨O++[⟨xw,xn⟩],Hid.out HN3,?_⟩⟩
      have h:=HPO.out
      rw[eK,if_neg q1] at h
      rw[<-h,qZc];rfl
     ·show n-(intOf (.int .i64 ((i:Int)+1))).toNat<n-(intOf (.int .i64 (i:Int))).toNat
      simp[intOf]
      omega
   | false =>
    cases hb:jY ⟨xw,xn⟩ ⟨pw,pn⟩ with
    | true =>
     have q1:¬ xw.toList=pw.toList:=qZ hb
     have q2:(xw.toList == pw.toList)=false:=by simp[q1]
     have q3:decide (xw.toList=pw.toList)=false:=by simp[q1]
     have q4:¬ xw=pw:=λe=>q1 (by rw[e])
     have q5:decide (xw=pw)=false:=by simp[q4]
     have HPB:=aB hb
     clear hb
     go_wp2_with fail
     go_still_tail 10,(by kernel_rfl)
     change wpList _ _ _ _ _ wr.drew
     have HD:Hid (aC (λ_=>False) wr wr.drew):=aB (aC.refl _ _).drew
     generalize wr.drew=wd at HD ⊢
     go_wp2_with fail
     refine (vZ xw pw HWX HWP wd).mono ?_
     rw[show Op.bytesLess xw.toList pw.toList=true from HPB.out]
     rintro e w1 ⟨rfl,T1⟩
     have HN1:=aB (HNO.to (HD.then T1))
     clear T1
     obtain⟨gl',ol',hAl,_,l0,l1⟩:=dN (HR.touch HN1.touch (λ_ _ f=>f)) HL.symm i hin
     injection hAl with hAl
     injection hAl with hA1 hA2
     subst hA1 hA2
     rw[<-HX.out] at l0 l1
     simp only at l0 l1
     have hb3:=HB3.touch HN1.touch (λf=>f)
     obtain⟨b0,b1⟩:_/\_:=⟨hb3.cell 0,hb3.cell 1⟩
     simp at b0 b1
     clear hb3
     go_wp2_with fail
     go_quiet (fail)
     obtain⟨w2,hw2⟩:=eX (w1.drewN nq)
     have HN2:=aB (HN1.to (show aC (λ_=>False) _ w2 by rw[hw2];exact (aC.refl _ _).drewN _))
     rw[<-hw2]
     clear hw2
     obtain⟨gl',ol',hAl,_,l0,l1⟩:=dN (HR.touch HN2.touch (λ_ _ f=>f)) HL.symm i hin
     injection hAl with hAl
     injection hAl with hA1 hA2
     subst hA1 hA2
     rw[<-HX.out] at l0 l1
     simp only at l0 l1
     have hb3:=HB3.touch HN2.touch (λf=>f)
     obtain⟨b0,b1⟩:_/\_:=⟨hb3.cell 0,hb3.cell 1⟩
     simp at b0 b1
     clear hb3
     go_wp2_with (at_builtin;refine aP _ rfl (.tmp 39) (.tmp 44) 37 rfl 125 i0 _ 2 24 Tryz.underlying37 hi hz0 hz1 hz2 rfl (by decide) (.slice A5 q c5) q _ rfl (aF HN2.own ((aC.refl _ _).alloc _) (λ_ _ f=>f)) (some ⟨_,0,none⟩) 1 1 (aD.cells ⟨xw,xn⟩) rfl ?s2a ?s2b ?s2c ?s2d ?s2e ?_)
     case s2a=>exact aH.new _ _ _ _ rfl
     try (case s2b=>exact λh=>by cases h)
     case s2c=>exact List.all_eq_true.1 rfl
     case s2d=>unfold maxLen;omega
     case s2e=>omega
     intro v3 w3 hown hgrow hfr _
     have N3:=(HN2.to ((aC.refl _ _).alloc _)).app hown hgrow hfr
     obtain⟨A3,c3,rfl,_,hm3⟩:=aS hown
     unfold maxLen at hm3
     have HN3:=aB N3
     clear N3 hown hgrow hfr
     go_wp2_with fail
     go_roundw
     ·refine⟨i+1,q+1,false,_,_,by simp,rfl,rfl,by omega,by have e1:Bool.toNat true=1:=rfl;have e2:Bool.toNat false=0:=rfl;omega,aB HN3.touch,aB ⟨O++[⟨xw,xn⟩],Hid.out HN3,?_⟩⟩
      have h:=HPO.out
      rw[eK,if_pos HPB.out] at h
      rw[<-h,qZc];rfl
     ·show n-(intOf (.int .i64 ((i:Int)+1))).toNat<n-(intOf (.int .i64 (i:Int))).toNat
      simp[intOf]
      omega
    | false =>
     have HPB:=aB hb
     clear hb
     go_wp2_with fail
     go_still_tail 10,(by kernel_rfl)
     change wpList _ _ _ _ _ wr.drew
     have HD:Hid (aC (λ_=>False) wr wr.drew):=aB (aC.refl _ _).drew
     generalize wr.drew=wd at HD ⊢
     go_wp2_with fail
     refine (vZ xw pw HWX HWP wd).mono ?_
     rw[show Op.bytesLess xw.toList pw.toList=false from HPB.out]
     rintro e w1 ⟨rfl,T1⟩
     have HN1:=aB (HNO.to (HD.then T1))
     clear T1
     obtain⟨gl',ol',hAl,_,l0,l1⟩:=dN (HR.touch HN1.touch (λ_ _ f=>f)) HL.symm i hin
     injection hAl with hAl
     injection hAl with hA1 hA2
     subst hA1 hA2
     rw[<-HX.out] at l0 l1
     simp only at l0 l1
     have hb3:=HB3.touch HN1.touch (λf=>f)
     obtain⟨b0,b1⟩:_/\_:=⟨hb3.cell 0,hb3.cell 1⟩
     simp at b0 b1
     clear hb3
     go_wp2_with (at_builtin;refine aP _ rfl (.tmp 27) (.tmp 29) 37 rfl 125 i0 _ 2 24 Tryz.underlying37 hi hz0 hz1 hz2 rfl (by decide) (.slice A5 q c5) q _ rfl (aF HN1.own ((aC.refl _ _).alloc _) (λ_ _ f=>f)) (some ⟨_,0,none⟩) 1 1 (aD.cells ⟨pw,pn⟩) rfl ?s3a ?s3b ?s3c ?s3d ?s3e ?_)
     case s3a=>exact aH.new _ _ _ _ rfl
     try (case s3b=>exact λh=>by cases h)
     case s3c=>exact List.all_eq_true.1 rfl
     case s3d=>unfold maxLen;omega
     case s3e=>omega
     intro v2 w2 hown hgrow hfr _
     have N2:=(HN1.to ((aC.refl _ _).alloc _)).app hown hgrow hfr
     obtain⟨A2,c2,rfl,_,hm2⟩:=aS hown
     unfold maxLen at hm2
     have HN2:=aB N2
     clear N2 hown hgrow hfr
     obtain⟨gl',ol',hAl,_,l0,l1⟩:=dN (HR.touch HN2.touch (λ_ _ f=>f)) HL.symm i hin
     injection hAl with hAl
     injection hAl with hA1 hA2
     subst hA1 hA2
     rw[<-HX.out] at l0 l1
     simp only at l0 l1
     have hb3:=HB3.touch HN2.touch (λf=>f)
     obtain⟨b0,b1⟩:_/\_:=⟨hb3.cell 0,hb3.cell 1⟩
     simp at b0 b1
     clear hb3
     by_cases q1:xw.toList=pw.toList
     ·have q2:(xw.toList == pw.toList)=true:=by simp[q1]
      go_wp2_with fail
      go_quiet (fail)
      obtain⟨w3,hw3⟩:=eX (w2.drewN nq)
      have HN3:=aB (HN2.to (show aC (λ_=>False) _ w3 by rw[hw3];exact (aC.refl _ _).drewN _))
      rw[<-hw3]
      clear hw3
      go_wp2_with fail
      go_roundw
      ·refine⟨i+1,q+1,true,_,_,by simp,rfl,rfl,by omega,by have e1:Bool.toNat true=1:=rfl;have e2:Bool.toNat false=0:=rfl;omega,aB HN3.touch,aB ⟨O++[⟨pw,pn⟩],Hid.out HN3,?_⟩⟩
       have h:=HPO.out
       rw[eK,if_neg (by rw[HPB.out];decide),if_pos q1] at h
       rw[<-h,qZc];rfl
      ·show n-(intOf (.int .i64 ((i:Int)+1))).toNat<n-(intOf (.int .i64 (i:Int))).toNat
       simp[intOf]
       omega
     ·have q2:(xw.toList == pw.toList)=false:=by simp[q1]
      have q3:decide (xw.toList=pw.toList)=false:=by simp[q1]
      have q4:¬ xw=pw:=λe=>q1 (by rw[e])
      have q5:decide (xw=pw)=false:=by simp[q4]
      go_wp2_with fail
      go_quiet (fail)
      obtain⟨w3,hw3⟩:=eX (w2.drewN nq)
      have HN3:=aB (HN2.to (show aC (λ_=>False) _ w3 by rw[hw3];exact (aC.refl _ _).drewN _))
      rw[<-hw3]
      clear hw3
      obtain⟨gl',ol',hAl,_,l0,l1⟩:=dN (HR.touch HN3.touch (λ_ _ f=>f)) HL.symm i hin
      injection hAl with hAl
      injection hAl with hA1 hA2
      subst hA1 hA2
      rw[<-HX.out] at l0 l1
      simp only at l0 l1
      have hb3:=HB3.touch HN3.touch (λf=>f)
      obtain⟨b0,b1⟩:_/\_:=⟨hb3.cell 0,hb3.cell 1⟩
      simp at b0 b1
      clear hb3
      go_wp2_with (at_builtin;refine aP _ rfl (.tmp 39) (.tmp 44) 37 rfl 125 i0 _ 2 24 Tryz.underlying37 hi hz0 hz1 hz2 rfl (by decide) (.slice A2 (q+1) c2) (q+1) _ rfl (aF HN3.own ((aC.refl _ _).alloc _) (λ_ _ f=>f)) (some ⟨_,0,none⟩) 1 1 (aD.cells ⟨xw,xn⟩) rfl ?s4a ?s4b ?s4c ?s4d ?s4e ?_)
      case s4a=>exact aH.new _ _ _ _ rfl
      try (case s4b=>exact λh=>by cases h)
      case s4c=>exact List.all_eq_true.1 rfl
      case s4d=>unfold maxLen;omega
      case s4e=>omega
      intro v4 w4 hown hgrow hfr _
      have N4:=(HN3.to ((aC.refl _ _).alloc _)).app hown hgrow hfr
      obtain⟨A4,c4,rfl,_,hm4⟩:=aS hown
      unfold maxLen at hm4
      have HN4:=aB N4
      clear N4 hown hgrow hfr
      go_wp2_with fail
      go_roundw
      ·refine⟨i+1,q+1+1,true,_,_,by simp,rfl,rfl,by omega,by have e1:Bool.toNat true=1:=rfl;have e2:Bool.toNat false=0:=rfl;omega,aB HN4.touch,aB ⟨(O++[⟨pw,pn⟩])++[⟨xw,xn⟩],Hid.out HN4,?_⟩⟩
       have h:=HPO.out
       rw[eK,if_neg (by rw[HPB.out];decide),if_neg q1] at h
       rw[<-h]
       simp
      ·show n-(intOf (.int .i64 ((i:Int)+1))).toNat<n-(intOf (.int .i64 (i:Int))).toNat
       simp[intOf]
       omega
  ·have hdr:L.drop i=[]:=qZf (by rw[HL.out];omega)
   have hpu:=HPU.out
   obtain⟨O,hN,hpu⟩:=hpu
   rw[hdr] at hpu
   have HNO:=aB hN
   have HPO:=aB hpu
   obtain⟨A5',c5',e5,_,hm5⟩:=aS hN.own
   injection e5 with e51 e52 e53
   subst e51 e53
   unfold maxLen at hm5
   have hd1:done.toNat<=1:=by cases done<;>decide
   have hq62:q<=n+1:=by omega
   have hb3:=HB3.touch HT (λf=>f)
   obtain⟨b0,b1⟩:_/\_:=⟨hb3.cell 0,hb3.cell 1⟩
   simp at b0 b1
   have HQI:=aB hqi
   clear hb3 hpu hN HPU e52 hdr hqi
   cases done with
   | true =>
    go_wp2_with fail
    go_ret
    have h:=HPO.out
    simp[eK] at h
    refine⟨A5,q,c5,rfl,?_,hq62⟩
    rw[<-h]
    exact⟨HNO.own,HNO.len,HT0.then HT,λg hg=>by have h1:=HNO.fresh g hg;have h2:=HT0.size;omega⟩
   | false =>
    go_wp2_with (at_builtin;refine aP _ rfl (.tmp 48) (.tmp 50) 37 rfl 125 i0 _ 2 24 Tryz.underlying37 hi hz0 hz1 hz2 rfl (by decide) (.slice A5 q c5) q _ rfl (aF HNO.own ((aC.refl _ _).alloc _) (λ_ _ f=>f)) (some ⟨_,0,none⟩) 1 1 (aD.cells ⟨pw,pn⟩) rfl ?s5a ?s5b ?s5c ?s5d ?s5e ?_)
    case s5a=>exact aH.new _ _ _ _ rfl
    try (case s5b=>exact λh=>by cases h)
    case s5c=>exact List.all_eq_true.1 rfl
    case s5d=>unfold maxLen;omega
    case s5e=>omega
    intro v2 w2 hown hgrow hfr _
    have N2:=(HNO.to ((aC.refl _ _).alloc _)).app hown hgrow hfr
    obtain⟨A2,c2,rfl,_,hm2⟩:=aS hown
    unfold maxLen at hm2
    have HN2:=aB N2
    clear N2 hown hgrow hfr
    go_wp2_with fail
    go_ret
    have h:=HPO.out
    simp[eK] at h
    refine⟨A2,q+1,c2,rfl,?_,by have:=HQI.out;simp at this;omega⟩
    rw[<-h]
    exact⟨HN2.own,HN2.len,HT0.then HN2.touch,λg hg=>by have h1:=HN2.fresh g hg;have h2:=HT0.size;omega⟩
theorem qD.nil:qD [] []:=⟨List.Pairwise.nil,λ_=>rfl⟩
theorem qD.put(h:qD X O)(p:aD):qD (X++[p]) (eK p false O):=by
 obtain⟨h1,h2⟩:=Ad p O h.1
 refine⟨h1,λk=>?_⟩
 rw[h2,lC]
 by_cases hk:p.word.toList=k
 ·rw[if_pos hk]
  have e:key k [p]=[p]:=by simp[key,hk]
  rw[e];simp
 ·rw[if_neg hk]
  have e:key k [p]=[]:=by simp[key,hk]
  rw[e,qZb]
  exact h.2 k
theorem qD.mem(h:qD X O){x:aD}(hx:x∈O):x∈X:=by
 have h1:x∈key x.word.toList O:=by simp[key,hx]
 rw[h.2] at h1
 have h2:=qXg (by simpa using h1)
 exact (List.mem_filter.1 h2).1
theorem aCw(hn:O.Pairwise (λa b=>a≠b)):∀ {X:List aD},(∀ x∈O,x∈X)->O.length<=X.length:=by
 induction O with
 | nil=>intro X _;exact qZa _
 | cons a O ih =>
  intro X h
  obtain⟨h1,h2⟩:=List.pairwise_cons.1 hn
  obtain⟨X1,X2,rfl⟩:=List.append_of_mem (h a (by simp))
  have:=ih h2 (X:=X1++X2) (λx hx=>by
   rcases List.mem_append.1 (h x (by simp[hx])) with e | e
   ·exact List.mem_append.2 (.inl e)
   ·rcases List.mem_cons.1 e with e | e
    ·exact absurd e.symm (h1 x hx)
    ·exact List.mem_append.2 (.inr e))
  simp only[List.length_append,qQd] at this ⊢
  omega
theorem qD.len(h:qD X O)(k:Nat)(hX:X.length<=k):O.length<=k :=
 qJe (aCw (h.1.imp (λ{a b} hab e=>by rw[e,Cy] at hab;cases hab)) (λx hx=>h.mem hx)) hX
structure Pp(w0 w:World)(v:Value)(q:Nat)(N:List aE):Prop where
 own:w.ownsRow 0 43 3 v q (aW N)
 len:N.length=q
 touch:aC (λ_=>False) w0 w
 fresh:∀ g,v.ownBlock=some g->w0.heap.size<=g
theorem Xt(X Y:List aE):aW (X++Y)=aW X++aW Y:=by simp[aW]
theorem Pp.nil(w:World):Pp w w (.slice none 0 0) 0 []:=⟨World.ownsRow_nil _ _ _ _,rfl,aC.refl _ _,λg e=>by simp[Value.ownBlock] at e⟩
theorem Pp.to{w2:World}{N:List aE}(h:Pp w0 w v q N)(t:aC (λ_=>False) w w2):Pp w0 w2 v q N :=
 ⟨aF h.own t (λ_ _ f=>f),h.len,h.touch.then t,h.fresh⟩
theorem Pp.from{N:List aE}(h:Pp w1 w v q N)(t:aC (λ_=>False) w0 w1):Pp w0 w v q N :=
 ⟨h.own,h.len,t.then h.touch,λg hg=>by have h1:=h.fresh g hg;have h2:=t.size;omega⟩
theorem Pp.app{w3:World}{v':Value}{N:List aE}{m:aE}(h:Pp w0 w1 v q N)(ho:w3.ownsRow 0 43 3 v' (q+1) (aW N++m.cells))(hg:w1.grownBy w3 v.ownBlock)(hf:cK w1 v v'):Pp w0 w3 v' (q+1) (N++[m]):=by
 refine⟨by rw[Xt];simpa [aW] using ho,by simp[h.len],h.touch.app hg (λg hg hlt=>by have:=h.fresh g hg;omega),?_⟩
 intro g hg
 rcases hf with e | ⟨g',e,hg'⟩
 ·rw[e] at hg;exact h.fresh g hg
 ·rw[hg] at e
  injection e with e
  have:=h.touch.size
  omega
def aE.Wf(p:aE):Prop:=p.word.size<=9223372036854775807
theorem Xs{A:Option Addr}{n:Nat}{X:List aE}(h:aH w 3 A n (aW X))(hn:n=X.length)(k:Nat)(hk:k<n) :
  ∃ g off,A=some ⟨g,off,none⟩/\g<w.heap.size/\w.cell? ⟨g,off+k*3,none⟩=some (.string (X.getD k aE.zero).word)/\w.cell? ⟨g,off+k*3+1,none⟩=some (.int .i64 (X.getD k aE.zero).weight) /\
   w.cell? ⟨g,off+k*3+2,none⟩=some (.int .i64 (X.getD k aE.zero).dist):=by
 subst hn
 obtain⟨b,off,hA,hb,hc⟩:=h.2 (by omega)
 refine⟨b,off,hA,hb,?_,?_,?_⟩
 ·exact hc (k*3) _ (oJ X k hk 0 (by omega))
 ·rw[Nat.add_assoc];exact hc (k*3+1) _ (oJ X k hk 1 (by omega))
 ·rw[Nat.add_assoc];exact hc (k*3+2) _ (oJ X k hk 2 (by omega))
theorem fP(k:List UInt8)(x:aE)(l:List aE):kH k (x :: l)=if x.word.toList=k then x :: kH k l else kH k l:=by
 unfold kH
 by_cases h:x.word.toList=k
 ·rw[if_pos h,qQc (by simp[h])]
 ·rw[if_neg h,qJb (by simp[h])]
theorem Nz:∀ {A B:List aE},bI A->bI B->aU A B->A=B:=by
 intro A
 induction A with
 | nil =>
  intro B _ _ h
  cases B with
  | nil=>rfl
  | cons b B=>exact absurd (h.symm.mem (x:=b) (by simp)) (by simp)
 | cons a A ih =>
  intro B hA hB h
  cases B with
  | nil=>exact absurd (h.mem (x:=a) (by simp)) (by simp)
  | cons b B =>
   obtain⟨a1,a2⟩:=List.pairwise_cons.1 hA
   obtain⟨b1,b2⟩:=List.pairwise_cons.1 hB
   have p1:gH a b:=by
    rcases List.mem_cons.1 (h.symm.mem (x:=b) (by simp)) with e | e
    ·rw[e];exact tD _
    ·exact a1 b e
   have p2:gH b a:=by
    rcases List.mem_cons.1 (h.mem (x:=a) (by simp)) with e | e
    ·rw[e];exact tD _
    ·exact b1 a e
   have hw:a.word.toList=b.word.toList:=by
    by_cases e:a.word.toList=b.word.toList
    ·exact e
    ·rcases Mr e with x | x
     ·unfold gH at p2
      rw[x] at p2
      cases p2
     ·unfold gH at p1
      rw[x] at p1
      cases p1
   have hk:=h a.word.toList
   rw[fP,fP,if_pos rfl,if_pos hw.symm] at hk
   injection hk with hab _
   subst hab
   refine congrArg _ (ih a2 b2 λk=>?_)
   have hk:=h k
   rw[fP,fP] at hk
   split at hk
   ·injection hk
   ·exact hk
def sF(V:List aD)(M:List aE):List aE:=M.filter (λm=>!(bC m.word.toList V).2)
def qN(o:Option Nat):Int × Bool:=match o with
 | some d=>((d:Int),true)
 | none=>(0,false)
theorem aAw(o:Option Nat):Gc o=.returned (.tuple #[.int .i64 (qN o).1,.bool (qN o).2]):=by cases o<;>rfl
def pU(a:List UInt8)(k:Int)(p:aD):Option aE :=
 if 0<p.weight/\cF p.word.toList=true/\(qN (dK p.word.toList a)).2=true/\(qN (dK p.word.toList a)).1<=k then some ⟨p.word,p.weight,(qN (dK p.word.toList a)).1⟩ else none
def vD(a:List UInt8)(k:Int)(Y:List aD):List aE:=Y.filterMap (pU a k)
theorem Rc(V:List aD)(M:List aE)(m:aE):sF V (M++[m])=sF V M++(if (bC m.word.toList V).2=true then [] else [m]):=by
 unfold sF
 rw[List.filter_append]
 cases h:(bC m.word.toList V).2<;>simp[h]
theorem Rx(a:List UInt8)(k:Int)(Y:List aD)(p:aD):vD a k (Y++[p])=vD a k Y++(pU a k p).toList:=by
 unfold vD
 rw[List.filterMap_append]
 cases h:pU a k p<;>simp[h]
theorem aKv(L:List aE)(i:Nat)(hi:i<L.length):L.take (i+1)=L.take i++[L.getD i aE.zero]:=by
 have e:L.getD i aE.zero=L[i]:=by simp[qXb,hi]
 rw[qXe hi,e]
theorem aCt(a:List UInt8)(k:Int)(p:aD):pU a k p=if 0<p.weight/\cF p.word.toList=true/\rS (dK p.word.toList a) k=true then some ⟨p.word,p.weight,(qN (dK p.word.toList a)).1⟩ else none:=by
 unfold pU
 cases dK p.word.toList a with
 | none=>simp[qN,rS]
 | some d=>simp[qN,rS]
def aKa(w:World)(V:List aD)(M:List aE)(a:List UInt8)(k:Int)(e:Ending)(w':World):Prop :=
 ∃ A q c Y Z,e=.returned (.tuple #[.slice A q c,.int .i64 0])/\Pp w w' (.slice A q c) q Z/\qD V Y/\bI Z/\aU (sF Y M++vD a k Y) Z
theorem aBl(w:World)(hL:cV w)(A:Option Addr)(n c:Nat)(M:List aE)(hM:M.length=n)(hRM:aH w 3 A n (aW M))(s:SL)(hs:s.Ok w)(hsum:n+s.n<=4398046510000)
  (hWV:∀ r∈s.L,r.word.size<=1099511627776)(a:ByteArray)(k:Nat)(ha:a.size<=1099511627776)(X:List Nat)(hX:bZ a.toList=some X)(hr:nP a.toList k=true) :
  Calls Tryz.prog 42 #[.slice A n c,s.val,.string a,.int .i64 (k:Int)] w (aKa w s.L M a.toList k):=by
 have HN:=aB (Mk w hL a k ha X hX hr)
 have HL:=aB hL
 have HM:=aB hM
 have HRM:=aB hRM
 have HS:=aB hs
 have HWV:=aB hWV
 have HA:=aB ha
 obtain⟨i0,hi,hz0,hz1,hz2⟩:=aQ aGd
 obtain⟨sA,sn,sc,V⟩:=s
 simp only[SL.val]
 simp only at hsum HWV
 clear hM hRM hs hWV ha hr hL hX
 go_in
 go_wp2_with fail
 refine HN.mono ?_
 rintro e w1 ⟨lb,lA,ln,lc,rfl,_,T1,_⟩
 have HT1:=aB T1
 have HPN:=aB (Hn w1 ⟨sA,sn,sc,V⟩ ⟨HS.len,HS.reads.touch T1 (λ_ _ f=>f),HS.nil⟩ (by show sn<=_;omega))
 clear T1 HN
 simp only[SL.val] at HPN
 go_wp2_with fail
 refine HPN.mono ?_
 rintro e w2 ⟨A6,q6,c6,Y,rfl,O6,N6,T6,hq6,_,h6⟩
 have HYO:=aB O6
 have HNR:=aB N6
 have HT2:=aB (HT1.then T6)
 have HYL:=aB (bN O6)
 have hqs:q6<=sn:=hq6
 clear O6 N6 T6 hq6 h6 HPN
 go_wp2_with fail
 go_loopw [12,34] (λov iv wr=>∃ (i q:Nat) (A3:Option Addr) (c3:Nat),iv=.int .i64 i/\ov=.slice A3 q c3/\i<=n/\q<=i/\Hid (Pp w2 wr (.slice A3 q c3) q (sF Y (M.take i)))) (λ_ iv _=>n-(intOf iv).toNat)
 case atStart=>exact⟨0,0,none,0,rfl,rfl,qZa _,qZa _,aB (Pp.nil _)⟩
 case round =>
  obtain⟨i,q,A3,c3,rfl,rfl,hin',hqi,HN⟩:=hrel
  have HT:=aB HN.touch
  by_cases hin:i<n
  ·have y0:(i:Int)<(n:Int):=by omega
   obtain⟨gl,ol,hAl,_,l0,l1,l2⟩:=Xs (HRM.touch (HT2.then HN.touch) (λ_ _ f=>f)) HM.symm i hin
   subst hAl
   have hsn:=aKv M i (by rw[HM.out];exact hin)
   obtain⟨⟨xw,xn,xd⟩,hx⟩:∃ x,x=M.getD i aE.zero:=⟨_,rfl⟩
   rw[<-hx] at l0 l1 l2 hsn
   simp only at l0 l1 l2
   have hkp:=Rc Y (M.take i) ⟨xw,xn,xd⟩
   rw[<-hsn] at hkp
   have HKP:=aB hkp
   clear hsn hx hkp
   go_upto_region 9 with fail
   obtain⟨wa,hwa⟩:=eX (wr.alloc (.cells #[.string xw,.int .i64 xn,.int .i64 xd] 43))
   obtain⟨b,hb⟩:=eX wr.heap.size
   rw[<-hwa,<-hb]
   have hTa:aC (λ_=>False) wr wa:=by rw[hwa];exact (aC.refl _ _).alloc _
   have hba:aL wa b 43 #[.string xw,.int .i64 xn,.int .i64 xd]:=by rw[hwa,hb];exact aL.new _ _ _
   obtain⟨b0,b1,b2⟩:_/\_/\_:=⟨hba.cell 0,hba.cell 1,hba.cell 2⟩
   simp at b0 b1 b2
   have lb1:=hba.lt
   have HTA:=aB hTa
   have HBA:=aB hba
   have HF:=aB (Hj wa A6 q6 c6 Y HYL.symm ((aH.of_own HYO).touch (HT.then hTa) (λ_ _ f=>f)) (by unfold maxLen;omega) xw)
   clear hwa hb hTa hba l0 l1 l2
   cases hf:(bC xw.toList Y).2 with
   | true =>
    have HFF:=aB hf
    rw[hf] at HF
    clear hf
    go_wp2_with fail
    refine HF.mono ?_
    rintro e w3 ⟨rfl,T3⟩
    have HT3:=aB (HTA.then T3)
    clear T3
    go_wp2_with fail
    go_roundw
    ·refine⟨i+1,q,A3,c3,by simp,rfl,by omega,by omega,aB ?_⟩
     rw[HKP.out,if_pos HFF.out,qZb]
     exact HN.to HT3
    ·show n-(intOf (.int .i64 ((i:Int)+1))).toNat<n-(intOf (.int .i64 (i:Int))).toNat
     simp[intOf]
     omega
   | false =>
    have HFF:=aB hf
    rw[hf] at HF
    clear hf b0 b1 b2 lb1
    have hba:=HBA.out
    obtain⟨b0,b1,b2⟩:_/\_/\_:=⟨hba.cell 0,hba.cell 1,hba.cell 2⟩
    simp at b0 b1 b2
    have lb1:=hba.lt
    clear hba
    go_wp2_with fail
    refine HF.mono ?_
    rintro e w3 ⟨rfl,T3⟩
    have hb3:=HBA.touch T3 (λf=>f)
    clear b0 b1 b2 lb1
    obtain⟨b0,b1,b2⟩:_/\_/\_:=⟨hb3.cell 0,hb3.cell 1,hb3.cell 2⟩
    simp at b0 b1 b2
    have lb1:=hb3.lt
    have HN3:=aB (HN.to (HTA.then T3))
    have HT3:=aB (HT.then (HTA.then T3))
    clear T3 hb3 HF
    go_wp2_with (at_builtin;refine aP _ rfl (.tmp 47) (.tmp 49) 39 rfl 43 i0 _ 3 32 Tryz.underlying39 hi hz0 hz1 hz2 rfl (by decide) (.slice A3 q c3) q _ rfl (aF HN3.own ((aC.refl _ _).alloc _) (λ_ _ f=>f)) (some ⟨_,0,none⟩) 1 1 (aE.cells ⟨xw,xn,xd⟩) rfl ?s1a ?s1b ?s1c ?s1d ?s1e ?_)
    case s1a=>exact aH.new _ _ _ _ rfl
    try (case s1b=>exact λh=>by cases h)
    case s1c=>exact List.all_eq_true.1 rfl
    case s1d=>unfold maxLen;omega
    case s1e=>omega
    intro v4 w4 hown hgrow hfr _
    have N4:=(HN3.to ((aC.refl _ _).alloc _)).app hown hgrow hfr
    obtain⟨A4,c4,rfl,_,hm4⟩:=aS hown
    have HN4:=aB N4
    clear N4 hown hgrow hfr hm4
    go_wp2_with fail
    go_roundw
    ·refine⟨i+1,q+1,A4,c4,by simp,rfl,by omega,by omega,aB ?_⟩
     rw[HKP.out,if_neg (by rw[HFF.out];decide)]
     exact HN4
    ·show n-(intOf (.int .i64 ((i:Int)+1))).toNat<n-(intOf (.int .i64 (i:Int))).toNat
     simp[intOf]
     omega
  ·have hX:M.take i=M:=qZe (by rw[HM.out];omega)
   rw[hX] at HN
   obtain⟨K,hK⟩:=eX (sF Y M)
   rw[<-hK] at HN
   have HK:=aB hK
   have hqn:q<=n:=by omega
   have y0:¬ (i:Int)<(n:Int):=by omega
   have HN0:=HN
   clear hX hK hin hin' hqi HN HT
   go_wp2_with fail
   go_loopw [12,54] (λov jv wr=>∃ (j q:Nat) (A3:Option Addr) (c3:Nat),jv=.int .i64 j/\ov=.slice A3 q c3/\j<=q6/\q<=n+j/\Hid (Pp w2 wr (.slice A3 q c3) q (K++vD a.toList (k:Int) (Y.take j)))) (λ_ jv _=>q6-(intOf jv).toNat)
   case atStart=>exact⟨0,q,A3,c3,rfl,rfl,qZa _,by omega,aB (by simpa [vD] using HN0.out)⟩
   case round =>
    clear HN0 hqn
    obtain⟨j,q,A3,c3,rfl,rfl,hjn',hqj,HN⟩:=hrel
    have HT:=aB HN.touch
    by_cases hjn:j<q6
    ·have y0:(j:Int)<(q6:Int):=by omega
     obtain⟨gl,ol,hAl,_,l0,l1⟩:=dN ((aH.of_own HYO).touch HT (λ_ _ f=>f)) HYL j hjn
     subst hAl
     have hsn:=aIn Y j (by rw[<-HYL.out];exact hjn)
     have hwx:=HWV.out _ (HNR.mem (Hk Y j (by rw[<-HYL.out];exact hjn)))
     obtain⟨⟨xw,xn⟩,hx⟩:∃ x,x=Y.getD j aD.zero:=⟨_,rfl⟩
     rw[<-hx] at l0 l1 hsn hwx
     simp only at l0 l1 hwx
     have hov:=Rx a.toList (k:Int) (Y.take j) ⟨xw,xn⟩
     rw[<-hsn,aCt] at hov
     simp only at hov
     have HWX:=aB hwx
     clear hsn hx hwx
     go_upto_region 16 with fail
     obtain⟨wa,hwa⟩:=eX (wr.alloc (.cells #[.string xw,.int .i64 xn] 125))
     obtain⟨b,hb⟩:=eX wr.heap.size
     rw[<-hwa,<-hb]
     have hTa:aC (λ_=>False) wr wa:=by rw[hwa];exact (aC.refl _ _).alloc _
     have hba:aL wa b 125 #[.string xw,.int .i64 xn]:=by rw[hwa,hb];exact aL.new _ _ _
     have HTA:=aB hTa
     have HBA:=aB hba
     have HLA:=aB (cV.touch HL (HT2.then (HN.touch.then hTa)))
     have hwd:=mQ wa xw (by have:=HWX.out;omega) HLA
     obtain⟨v,hv⟩:=eX (cF xw.toList)
     rw[<-hv] at hwd hov
     obtain⟨u,hu⟩:=eX (rS (dK xw.toList a.toList) (k:Int))
     rw[<-hu] at hov
     have HWD:=aB hwd
     have HU:=aB hu
     have HOV:=aB hov
     clear hwa hb hTa hba l0 l1 hwd hv hu hov
     have hba:=HBA.out
     obtain⟨b0,b1⟩:_/\_:=⟨hba.cell 0,hba.cell 1⟩
     simp at b0 b1
     have lb1:=hba.lt
     clear hba
     by_cases hx0:0<xn
     ·cases v with
      | false =>
       go_wp2_with fail
       refine HWD.mono ?_
       rintro e w3 ⟨rfl,T3⟩
       have HT3:=aB (HTA.then T3)
       clear T3
       go_wp2_with fail
       go_roundw
       ·refine⟨j+1,q,A3,c3,by simp,rfl,by omega,by omega,aB ?_⟩
        rw[HOV.out,if_neg (by simp),Option.toList_none,qZb]
        exact HN.to HT3
       ·simp only[intOf]
        omega
      | true =>
       go_wp2_with fail
       refine HWD.mono ?_
       rintro e w3 ⟨rfl,T3⟩
       have HT3:=aB (HTA.then T3)
       have hb3:=HBA.touch T3 (λf=>f)
       clear b0 b1 lb1
       obtain⟨b0,b1⟩:_/\_:=⟨hb3.cell 0,hb3.cell 1⟩
       simp at b0 b1
       have lb1:=hb3.lt
       have HB3:=aB hb3
       have HWI:=aB (Tn w3 (cV.touch HLA T3) xw a (by have:=HWX.out;omega) (by have:=HA.out;omega) (k:Int))
       have HLB:=aB (cV.touch HLA T3)
       rw[<-HU.out] at HWI
       clear T3 hb3
       cases u with
       | false =>
        go_wp2_with fail
        refine HWI.mono ?_
        rintro e w4 ⟨rfl,T4⟩
        have HT4:=aB (HT3.then T4)
        clear T4
        go_wp2_with fail
        go_roundw
        ·refine⟨j+1,q,A3,c3,by simp,rfl,by omega,by omega,aB ?_⟩
         rw[HOV.out,if_neg (by simp),Option.toList_none,qZb]
         exact HN.to HT4
        ·simp only[intOf]
         omega
       | true =>
        go_wp2_with fail
        refine HWI.mono ?_
        rintro e w4 ⟨rfl,T4⟩
        have HT4:=aB (HT3.then T4)
        have hb4:=HB3.touch T4 (λf=>f)
        clear b0 b1 lb1
        obtain⟨b0,b1⟩:_/\_:=⟨hb4.cell 0,hb4.cell 1⟩
        simp at b0 b1
        have lb1:=hb4.lt
        have HB4:=aB hb4
        have hd4:=Lv w4 (cV.touch HLB T4) xw a (by have:=HWX.out;omega) (by have:=HA.out;omega)
        rw[aAw] at hd4
        obtain⟨z,hz⟩:=eX ((qN (dK xw.toList a.toList)).1)
        obtain⟨y,hy⟩:=eX ((qN (dK xw.toList a.toList)).2)
        rw[<-hz,<-hy] at hd4
        have HZ:=aB hz
        have HD4:=aB hd4
        clear T4 hb4 hd4 hz hy
        go_wp2_with fail
        refine HD4.mono ?_
        rintro e w5 ⟨rfl,T5⟩
        have HN5:=aB (HN.to (HT4.then T5))
        have HT5:=aB (HT.then (HT4.then T5))
        have hb5:=HB4.touch T5 (λf=>f)
        clear b0 b1 lb1
        obtain⟨b0,b1⟩:_/\_:=⟨hb5.cell 0,hb5.cell 1⟩
        simp at b0 b1
        have lb1:=hb5.lt
        clear T5 hb5 HD4
        go_wp2_with (at_builtin;refine aP _ rfl (.tmp 80) (.tmp 87) 39 rfl 43 i0 _ 3 32 Tryz.underlying39 hi hz0 hz1 hz2 rfl (by decide) (.slice A3 q c3) q _ rfl (aF HN5.own ((aC.refl _ _).alloc _) (λ_ _ f=>f)) (some ⟨_,0,none⟩) 1 1 (aE.cells ⟨xw,xn,z⟩) rfl ?s2a ?s2b ?s2c ?s2d ?s2e ?_)
        case s2a=>exact aH.new _ _ _ _ rfl
        try (case s2b=>exact λh=>by cases h)
        case s2c=>exact List.all_eq_true.1 rfl
        case s2d=>unfold maxLen;omega
        case s2e=>omega
        intro v6 w6 hown hgrow hfr _
        have N6:=(HN5.to ((aC.refl _ _).alloc _)).app hown hgrow hfr
        obtain⟨A6,c6,rfl,_,hm6⟩:=aS hown
        have HN6:=aB N6
        clear N6 hown hgrow hfr hm6
        go_wp2_with fail
        go_roundw
        ·refine⟨j+1,q+1,A6,c6,by simp,rfl,by omega,by omega,aB ?_⟩
         rw[HOV.out,if_pos (by simp[hx0]),<-HZ.out,<-qZc]
         exact HN6
        ·simp only[intOf]
         omega
     ·have hx1:¬ (0:Int)<xn:=hx0
      go_wp2_with fail
      go_roundw
      ·refine⟨j+1,q,A3,c3,by simp,rfl,by omega,by omega,aB ?_⟩
       rw[HOV.out,if_neg (by simp[hx0]),Option.toList_none,qZb]
       exact HN.to HTA
      ·simp only[intOf]
       omega
    ·have hX:Y.take j=Y:=qZe (by rw[<-HYL.out];omega)
     rw[hX,HK.out] at HN
     have y0:¬ (j:Int)<(q6:Int):=by omega
     have hown:=HN.own
     have HSO:=aB (Cn wr A3 q c3 _ hown (by omega))
     clear hX hjn hjn' hqj hown
     go_wp2_with fail
     refine HSO.mono ?_
     rintro e w7 ⟨rfl,⟨Z,O7,s7,k7⟩,T7⟩
     have HO7:=aB O7
     have HZ:=aB (And.intro s7 k7)
     have HT7:=aB T7
     clear O7 s7 k7 T7 HSO
     go_wp2_with fail
     go_ret2
     refine⟨A3,q,c3,Y,Z,rfl,⟨HO7,(cT HO7).symm,?_,λg hg=>by have h1:=HN.fresh g hg;have h2:=HT2.size;omega⟩,HNR,HZ.1,HZ.2⟩
     refine aC.trans (HT2.then HN.touch) HT7 (λg hg e=>?_)
     have h1:=HN.fresh g (by
      cases A3 with
      | none=>simp[aJ] at e
      | some p =>
       rcases HO7.2 with⟨e1,_⟩ | ⟨g',cap,cur,e1,_,_⟩
       ·cases e1
       ·cases e1
        simpa [aJ,Value.ownBlock] using e)
     have h2:=HT2.size
     omega
theorem Mm{W:World}{laid:List (String × DataW Unit)}(he:laid=[("abecedary/letters.least",Rows.laid_abecedary_letters_least)])(h:laidMetH Tryz.prog laid W):cV W:=by
 subst he
 have hL:laidMet Tryz.prog (("abecedary/letters.least",Lib.tabData .i32 [0,0,128,2048,65536]) :: []) W:=h
 have h:=Lib.tabIs_of_head (g:=0) (t := 278) (e := 21) (n:=5) (by kernel_rfl) (by kernel_rfl) Tryz.underlying278 Tryz.underlying21 (by kernel_rfl) (by kernel_rfl) hL
 unfold Lib.TabIs World.var? at h
 rw[show Tryz.prog.globalNamed "abecedary/letters.least" = some 0 by kernel_rfl] at h
 simp only[Option.bind_some] at h
 have hg:∃ cs t fr,W.heap[0]? = some (.cells cs t fr)/\cs=(([0,0,128,2048,65536]:List Int).map λz=>Value.int .i32 z).toArray:=by
  cases hh:W.heap[0]? with
  | none=>rw[hh] at h;cases h
  | some o =>
   rw[hh] at h
   cases o with
   | cells cs t fr=>exact⟨cs,t,fr,rfl,Option.some.inj h⟩
   | _=>cases h
 obtain⟨cs,t,fr,hg,rfl⟩:=hg
 refine⟨(Array.getElem?_eq_some_iff.1 hg).1,?_,?_,?_⟩
 ·unfold World.cell?;rw[hg];rfl
 ·unfold World.cell?;rw[hg];rfl
 ·unfold World.cell?;rw[hg];rfl
section
open Go.RowKit Go.ChangeShapes Go.WideShapes Go.ChangeAt
section
variable{H:Type}{enc:TypeId × Value->H}{w:World}{base:Nat}{spare:Nat->Bool}{held:Bool}
theorem aAp(d:DataW H):1<=Rows.uptoBulk d:=by
 cases d with
 | lit l=>cases l<;>simp[Rows.uptoBulk]
 | _=>simp[Rows.uptoBulk]
theorem aAo(l:List (DataW H)):l.length<=Rows.uptoBulkAll l:=by
 induction l with
 | nil=>simp[Rows.uptoBulkAll]
 | cons x r ih=>have:=aAp x;simp only[Rows.uptoBulkAll,qQd];omega
end
noncomputable def laidWorld (os:Os):World :=
 { World.holding Tryz.prog os ⟨#[],#[],[]⟩ with heap:=(World.holding Tryz.prog os ⟨#[],#[],[]⟩).heap.modify 0 fun
   | .cells _ t frozen=>.cells #[.int .i32 0,.int .i32 0,.int .i32 128,.int .i32 2048,.int .i32 65536] t frozen
   | o=>o }
section
variable{H:Type}{enc:TypeId × Value->H}{w:World}{base:Nat}{spare:Nat->Bool}{held:Bool}
theorem aKs{cs:List Value}(h:cs.length=3):∃ a b c,cs=[a,b,c]:=by
 match cs,h with
 | [a,b,c],_=>exact⟨a,b,c,rfl⟩
theorem Ru{r:Reach}{b0:Nat}{d:DataW H}{p:List MemPlace}(hv:Value.okWide Tryz.prog w r b0 24 v)(h:DataW.Trod enc Tryz.prog w base spare held 24 v d p) :
  ∃ (q:ByteArray) (x y:Int),v=.agg #[.string q,.int .i64 x,.int .i64 y]/\q.size<=9223372036854775807:=by
 obtain⟨cs,rfl,hsz⟩:=okWide_struct Tryz.underlying24 hv
 obtain⟨fuel,hf⟩:=h
 have hC:Tryz.prog.cellsOf 24 = 3:=by kernel_rfl
 obtain⟨s,hs,ws⟩:=Jg Tryz.underlying24 hf 0 _ rfl (by kernel_rfl) (by kernel_rfl)
 obtain⟨b,hb,_⟩:=lI (k:=.i64) Tryz.underlying24 hf 1 _ rfl (by kernel_rfl) (by kernel_rfl)
 obtain⟨c,hc,_⟩:=lI (k:=.i64) Tryz.underlying24 hf 2 _ rfl (by kernel_rfl) (by kernel_rfl)
 obtain⟨x0,x1,x2,hcs⟩:=aKs (by show cs.toList.length=3;rw[Array.length_toList];exact hsz.trans hC)
 have e:cs=#[x0,x1,x2]:=by rw[<-Array.toArray_toList (xs:=cs),hcs]
 subst e
 simp[Value.cells] at hs hb hc
 subst hs hb hc
 exact⟨s,b,c,rfl,ws⟩
end
theorem Bf{H:Type}{x:DataW H}:∀ {l:List (DataW H)},x∈l->Rows.uptoBulk x<=Rows.uptoBulkAll l
 | y :: l,h=>by
  simp only[Rows.uptoBulkAll]
  rcases List.mem_cons.1 h with rfl | h
  ·omega
  ·have:=Bf h
   omega
end
theorem dZ(hD:aZ L):L.Pairwise (λa b=>jY a b=true):=by
 have h:=hD.sort
 unfold bU aV at h
 rw[List.pairwise_map] at h
 refine List.Pairwise.imp_of_mem ?_ h
 intro a b ha hb hab
 obtain⟨a1,a2⟩:=cL _ _ _ (qZd _) (hD.word a ha).1
 obtain⟨b1,b2⟩:=cL _ _ _ (qZd _) (hD.word b hb).1
 unfold jY
 rw[a1,b1,pC _ _ (λr hr=>fD (a2 r hr)) (λr hr=>fD (b2 r hr))]
 exact hab
theorem Wu(hD:aZ L)(X:List Nat)(o:Nat):bI (cM L X o):=by
 unfold bI cM
 rw[List.pairwise_filterMap]
 refine (dZ hD).imp ?_
 intro a b hab x hx y hy
 split at hx
 ·split at hy
  ·simp only[Option.some.injEq] at hx hy
   subst hx hy
   exact gE hab
  ·cases hy
 ·cases hx
theorem Jl(f:aD->Option aE)(hf:∀ p m,f p=some m->m.word=p.word)(x:List UInt8)(L:List aD):kH x (L.filterMap f)=(key x L).filterMap f:=by
 induction L with
 | nil=>rfl
 | cons p L ih =>
  rw[Ch]
  cases h:f p with
  | none =>
   rw[qXc h,ih]
   split
   ·rw[qXc h]
   ·rfl
  | some m =>
   rw[qXd h,fP,ih,hf p m h]
   split
   ·rw[qXd h]
   ·rfl
theorem Xr(Y:List aD)(M:List aE)(x:List UInt8):kH x (sF Y M)=if (bC x Y).2=true then [] else kH x M:=by
 unfold sF
 induction M with
 | nil=>split<;>rfl
 | cons m M ih =>
  by_cases hw:m.word.toList=x
  ·cases hf:(bC x Y).2 with
   | true =>
    rw[qJb (by rw[hw,hf];decide),ih,hf,if_pos rfl,if_pos rfl]
   | false =>
    rw[qQc (by rw[hw,hf];decide),fP,fP,ih,hf]
    simp
  ·by_cases hf:(bC m.word.toList Y).2=true
   ·rw[qJb (by rw[hf];decide),ih,fP,if_neg hw]
   ·rw[qQc (by simpa using hf),fP,fP,if_neg hw,if_neg hw,ih]
theorem sY(x:List UInt8)(L:List aD)(p:aD->Bool):key x (L.filter p)=(key x L).filter p:=by
 unfold key
 rw[qQg,qQg]
 congr 1
 funext r
 rw[Bool.and_comm]
theorem Ji(h:L.Pairwise (λa b=>jY a b=true))(x:List UInt8):key x L=(key x L).getLast?.toList:=by
 have hs:(key x L).Pairwise (λa b=>jY a b=true):=h.sublist qJc
 have hm:∀ p∈key x L,p.word.toList=x:=λp hp=>of_decide_eq_true (List.mem_filter.1 hp).2
 cases hk:key x L with
 | nil=>rfl
 | cons p l =>
  cases l with
  | nil=>rfl
  | cons q l =>
   rw[hk] at hs hm
   have h1:=(List.pairwise_cons.1 hs).1 q (by simp)
   exact absurd ((hm p (by simp)).trans (hm q (by simp)).symm) (qZ h1)
theorem uX{x:List UInt8}(h:p∈key x L):p∈L:=(List.mem_filter.1 h).1
theorem pO(hD:aZ L)(hp:p∈L):cF p.word.toList=true:=by
 obtain⟨h1,h2,h3,h4⟩:=hD.word p hp
 have h:=(cL _ _ _ (qZd _) h1).1
 have h5:=iP (cZ p)
 rw[<-h] at h5
 unfold cF
 rw[h1]
 simp only[Bool.and_eq_true,decide_eq_true_eq]
 exact⟨by omega,h2,h3,h4⟩
def Bw(X:List Nat)(o:Nat)(p:aD):Option aE:=if tJ X (cZ p)<o then some ⟨p.word,p.weight,(tJ X (cZ p):Int)⟩ else none
theorem By(X:List Nat)(o:Nat)(p:aD)(m:aE)(h:Bw X o p=some m):m.word=p.word:=by
 unfold Bw at h
 split at h
 ·injection h with h;rw[<-h]
 ·cases h
theorem Xv(a:List UInt8)(k:Int)(p:aD)(m:aE)(h:pU a k p=some m):m.word=p.word:=by
 unfold pU at h
 split at h
 ·injection h with h;rw[<-h]
 ·cases h
theorem aCu(hD:aZ B)(hp:p∈B){a:List UInt8}{X:List Nat}(hX:bZ a=some X)(hl:X.length<=24)(k:Nat):pU a (k:Int) p=Bw X (k+1) p:=by
 have h1:=Gd hD hp hX hl
 have h2:=pO hD hp
 have h3:=hD.weight p hp
 unfold pU Bw
 rw[h1,h2]
 simp only[qN]
 by_cases h:tJ X (cZ p)<k+1
 ·rw[if_pos h,if_pos (by refine⟨by omega,?_,?_,by omega⟩<;>simp)]
 ·rw[if_neg h,if_neg (by rintro⟨_,_,_,h4⟩;omega)]
theorem Yd{V Y0:List aD}(hL:aZ L)(hY:qD V Y)(hY0:qD (L++V) Y0)(hB:aZ (Y0.filter dM)){a:List UInt8}{X:List Nat}(hX:bZ a=some X)(hl:X.length<=24)(k:Nat) :
  aU (sF Y (cM L X (k+1))++vD a (k:Int) Y) (cM (Y0.filter dM) X (k+1)):=by
 intro x
 have e1:cM L X (k+1)=L.filterMap (Bw X (k+1)):=rfl
 have e2:cM (Y0.filter dM) X (k+1)=(Y0.filter dM).filterMap (Bw X (k+1)):=rfl
 have e3:vD a (k:Int) Y=Y.filterMap (pU a (k:Int)):=rfl
 rw[oG,Xr,e1,e2,e3,Jl _ (By X (k+1)),Jl _ (Xv a (k:Int)),Jl _ (By X (k+1)),sY]
 have k0:=hY0.2 x
 have k1:=hY.2 x
 rw[lC] at k0
 have hfind:(bC x Y).2=(key x V).getLast?.isSome:=by
  unfold bC
  rw[k1]
  cases (key x V).getLast? <;> rfl
 rw[hfind,k1]
 cases hv:(key x V).getLast? with
 | none =>
  have hV:key x V=[]:=List.getLast?_eq_none_iff.1 hv
  rw[hV,qZb,<-Ji (dZ hL) x] at k0
  rw[k0]
  have hf:(key x L).filter dM=key x L:=by
   rw[qJf]
   intro p hp
   have:=(hL.weight p (uX hp)).1
   unfold dM
   have h0:(p.weight == 0)=false:=by simp;omega
   rw[h0];rfl
  rw[hf]
  simp
 | some p =>
  have hl2:(key x L++key x V).getLast? = some p:=by
   rw[List.getLast?_append,hv];rfl
  rw[hl2] at k0
  have hp0:p∈Y0:=uX (x:=x) (by rw[k0];simp)
  rw[k0]
  simp only[Option.toList_some,Option.isSome_some,if_true,List.nil_append]
  by_cases hk:dM p=true
  ·have hpB:p∈Y0.filter dM:=List.mem_filter.2 ⟨hp0,hk⟩
   have hn:=aCu hB hpB hX hl k
   rw[qQc hk,qJd]
   cases ho:Bw X (k+1) p with
   | none=>rw[qXc (hn.trans ho),qXc ho];rfl
   | some m=>rw[qXd (hn.trans ho),qXd ho];rfl
  ·rw[qJb hk,qJd]
   have h0:p.weight=0:=by simpa [dM] using hk
   have hn:pU a (k:Int) p=none:=by
    unfold pU
    rw[if_neg (by rintro⟨h1,_⟩;omega)]
   rw[qXc hn]
   rfl
theorem Zw.ok{A:Option Addr}{c:Nat}(h:Zw w0 w (.slice A q c) q N):SL.Ok ⟨A,q,c,N⟩ w:=by
 refine⟨h.len,aH.of_own h.own,λhA=>?_⟩
 simp only at hA ⊢
 rcases h.own.2 with⟨e,_⟩ | ⟨g',cap,cur,e,_,_⟩
 ·cases e;exact⟨rfl,rfl⟩
 ·rw[hA] at e;cases e
def Rp(X:List aD):List aD:=X.foldl (λo p=>eK p false o) []
theorem Xx(X:List aD)(p:aD):Rp (X++[p])=eK p false (Rp X):=by simp[Rp]
theorem vB(X:List aD):qD X (Rp X):=by
 obtain⟨r,hr⟩:=eX X.reverse
 have hl:X=r.reverse:=by rw[hr,List.reverse_reverse]
 rw[hl]
 clear hl hr
 induction r with
 | nil=>exact qD.nil
 | cons p r ih =>
  rw[List.reverse_cons,Xx]
  exact ih.put p
def zM(B O:List aD):List aD:=(Rp (B++O)).filter dM
theorem lZ(B O:List aD):lQ (zM B O):=(vB (B++O)).1.sublist qJc
theorem Xb(hB:aZ B)(k:List UInt8):(key k B).filter dM=key k B:=by
 rw[qJf]
 intro p hp
 have:=(hB.weight p (uX hp)).1
 unfold dM
 have h0:(p.weight == 0)=false:=by simp;omega
 rw[h0];rfl
theorem rK(hB:aZ B)(O:List aD)(k:List UInt8):key k (zM B O)=match (key k O).getLast? with
  | some p=>if dM p=true then [p] else []
  | none=>key k B:=by
 unfold zM
 rw[sY,(vB (B++O)).2 k,lC,List.getLast?_append]
 cases h:(key k O).getLast? with
 | some p =>
  simp only[Option.some_or,Option.toList_some]
  by_cases hk:dM p=true
  ·rw[qQc hk,qJd,if_pos hk]
  ·rw[qJb hk,qJd,if_neg hk]
 | none =>
  simp only[Option.none_or]
  rw[<-Ji (dZ hB) k,Xb hB]
theorem aGj(hL:aZ L):zM L []=L :=
 jF (lZ L []) (dZ hL) λk=>by rw[rK hL];rfl
theorem Mz(h:qD X Y)(k:List UInt8):(key k Y).getLast? = (key k X).getLast? := by
 rw[h.2 k]
 cases (key k X).getLast? <;> rfl
def iB(w:List UInt8)(L:List aD):List aD:=L.filter (λx=>decide (¬ x.word.toList=w))
theorem Bo(w k:List UInt8)(L:List aD):key k (iB w L)=if w=k then [] else key k L:=by
 unfold iB
 rw[sY]
 by_cases h:w=k
 ·subst h
  rw[if_pos rfl,qXf]
  intro p hp
  have:=of_decide_eq_true (List.mem_filter.1 hp).2
  simp[this]
 ·rw[if_neg h,qJf]
  intro p hp
  have h2:=of_decide_eq_true (List.mem_filter.1 hp).2
  simp only[decide_eq_true_eq]
  rw[h2]
  exact λe=>h e.symm
theorem mV(h:lQ L)(w:List UInt8):lQ (iB w L):=List.Pairwise.sublist qJc h
theorem Mh(k:List UInt8)(O:List aD)(p:aD):(key k (O++[p])).getLast? = if p.word.toList=k then some p else (key k O).getLast? := by
 rw[lC]
 by_cases h:p.word.toList=k
 ·have e:key k [p]=[p]:=by simp[key,h]
  rw[e,if_pos h];simp
 ·have e:key k [p]=[]:=by simp[key,h]
  rw[e,if_neg h,qZb]
theorem aGk(hB:aZ B)(h:qD (O++[p]) Y)(hp:dM p=true):zM B Y=eK p false (zM B O):=by
 obtain⟨h1,h2⟩:=Ad p (zM B O) (lZ B O)
 refine jF (lZ B Y) h1 λk=>?_
 rw[h2,rK hB,Mz h,Mh]
 by_cases e:p.word.toList=k
 ·rw[if_pos e,if_pos e]
  simp only
  rw[if_pos hp]
 ·rw[if_neg e,if_neg e,rK hB]
theorem aCf(hB:aZ B)(h:qD (O++[p]) Y)(hp:¬ dM p=true):zM B Y=iB p.word.toList (zM B O):=by
 refine jF (lZ B Y) (mV (lZ B O) _) λk=>?_
 rw[Bo,rK hB,Mz h,Mh]
 by_cases e:p.word.toList=k
 ·rw[if_pos e,if_pos e]
  simp only
  rw[if_neg hp]
 ·rw[if_neg e,if_neg e,rK hB]
theorem aBj{A:List aD}{k:List UInt8}(h:key k A=key k B):bC k A=bC k B:=by unfold bC;rw[h]
theorem aCg(hB:aZ B)(hO:∀ p∈O,0<=p.weight)(k:List UInt8) :
  bC k (zM B O)=if (bC k O).2=true then ((bC k O).1,decide (0<(bC k O).1)) else bC k B:=by
 have h:=rK hB O k
 cases hk:(key k O).getLast? with
 | none =>
  have e:bC k O=(0,false):=by unfold bC;rw[hk]
  rw[hk] at h
  rw[e,if_neg (by decide)]
  exact aBj h
 | some p =>
  have e:bC k O=(p.weight,true):=by unfold bC;rw[hk]
  rw[hk] at h
  simp only at h
  rw[e,if_pos rfl]
  have hp:p∈O:=uX (qXg hk)
  have h0:=hO p hp
  unfold bC
  rw[h]
  by_cases hz:p.weight=0
  ·have hn:¬ dM p=true:=by unfold dM;simp[hz]
   rw[if_neg hn]
   simp[hz]
  ·have hn:dM p=true:=by unfold dM;simp[hz]
   rw[if_pos hn]
   simp only[List.getLast?_singleton,Prod.mk.injEq,true_and]
   symm
   simp only[decide_eq_true_eq]
   omega
theorem Yz(hW:∀ p∈L,cF p.word.toList=true)(hs:lQ L):bU (aV L):=by
 unfold bU aV
 rw[List.pairwise_map]
 refine List.Pairwise.imp_of_mem ?_ hs
 intro a b ha hb hab
 have ra:bZ a.word.toList=some (cZ a):=by obtain⟨x,h,_⟩:=iI (hW a ha);unfold cZ;rw[h];rfl
 have rb:bZ b.word.toList=some (cZ b):=by obtain⟨x,h,_⟩:=iI (hW b hb);unfold cZ;rw[h];rfl
 obtain⟨a1,a2⟩:=cL _ _ _ (qZd _) ra
 obtain⟨b1,b2⟩:=cL _ _ _ (qZd _) rb
 unfold jY at hab
 rw[a1,b1,pC _ _ (λr hr=>fD (a2 r hr)) (λr hr=>fD (b2 r hr))] at hab
 exact hab
theorem Jc(hl:L.length<=4096)(hW:∀ p∈L,cF p.word.toList=true/\1<=p.weight/\p.weight<=1048576)(hs:lQ L):aZ L:=by
 refine⟨hl,λp hp=>?_,λp hp=>(hW p hp).2,Yz (λp hp=>(hW p hp).1) hs⟩
 obtain⟨x,h1,h2,h3,h4⟩:=iI (hW p hp).1
 have e:cZ p=x:=by unfold cZ;rw[h1];rfl
 rw[e]
 exact⟨h1,h2,h3,h4⟩
theorem Wp{w:List UInt8}(h:(bC w L).2=true):∃ p∈L,p.word.toList=w/\(bC w L).1=p.weight:=by
 unfold bC at h ⊢
 cases hk:(key w L).getLast? with
 | none=>rw[hk] at h;cases h
 | some p =>
  have hp:=qXg hk
  exact⟨p,uX hp,of_decide_eq_true (List.mem_filter.1 hp).2,rfl⟩
theorem Gi{w:List UInt8}(h:(bC w L).2=false):bC w L=(0,false):=by
 unfold bC at h ⊢
 cases hk:(key w L).getLast? with
 | none=>rfl
 | some p=>rw[hk] at h;cases h
theorem Qp{α:Type}(q:α->Bool)(l:List α):l.length=(l.filter q).length+(l.filter λx=>!q x).length:=by
 induction l with
 | nil=>rfl
 | cons x l ih =>
  cases h:q x with
  | true=>rw[qQc h,qJb (by simp[h])];simp only[qQd];omega
  | false=>rw[qJb (by simp[h]),qQc (by simp[h])];simp only[qQd];omega
theorem uJ(hs:lQ L)(w:List UInt8):(iB w L).length+(if (bC w L).2=true then 1 else 0)=L.length:=by
 have h:=Qp (λx:aD=>decide (x.word.toList=w)) L
 have e:(L.filter λx=>!decide (x.word.toList=w))=iB w L:=by unfold iB;congr 1;funext x;simp
 have k1:L.filter (λx=>decide (x.word.toList=w))=key w L:=rfl
 rw[e,k1,Ji hs w] at h
 unfold bC
 cases hk:(key w L).getLast? with
 | none=>rw[hk] at h;simp only[Option.toList_none,qZg] at h;simp;omega
 | some p=>rw[hk] at h;simp only[Option.toList_some,qQd,qZg] at h;simp;omega
theorem Ae(hs:lQ L)(p:aD):(eK p false L).length=if (bC p.word.toList L).2=true then L.length else L.length+1:=by
 obtain⟨h1,h2⟩:=Ad p L hs
 have a:=uJ h1 p.word.toList
 have b:=uJ hs p.word.toList
 have e:iB p.word.toList (eK p false L)=iB p.word.toList L:=jF (mV h1 _) (mV hs _) λk=>by
  rw[Bo,Bo]
  by_cases hk:p.word.toList=k
  ·rw[if_pos hk,if_pos hk]
  ·rw[if_neg hk,if_neg hk,h2,if_neg hk]
 have f:(bC p.word.toList (eK p false L)).2=true:=by
  have h3:=h2 p.word.toList
  rw[if_pos rfl] at h3
  unfold bC
  rw[h3]
  rfl
 rw[f,if_pos rfl,e] at a
 split at b
 ·rename_i h;rw[if_pos h];omega
 ·rename_i h;rw[if_neg h];omega
theorem Lu(hL:aZ L)(hw:cF p.word.toList=true)(h1:1<=p.weight)(h2:p.weight<=1048576)(hf:(bC p.word.toList L).2=true\/L.length<4096):aZ (eK p false L):=by
 refine Jc ?_ ?_ (Ad p L (dZ hL)).1
 ·rw[Ae (dZ hL)]
  have:=hL.len
  split
  ·exact this
  ·rcases hf with hf | hf
   ·exact absurd hf ‹_›
   ·omega
 ·intro q hq
  rcases Nk p L q hq with rfl | hq
  ·exact⟨hw,h1,h2⟩
  ·exact⟨pO hL hq,hL.weight q hq⟩
theorem Gb(hL:aZ L)(w:List UInt8):aZ (iB w L):=by
 have hs:(iB w L).Sublist L:=qJc
 refine Jc (qJe hs.length_le hL.len) ?_ (mV (dZ hL) w)
 intro q hq
 exact⟨pO hL (hs.subset hq),hL.weight q (hs.subset hq)⟩
structure OvP(O:List aD):Prop where
 strict:lQ O
 ok:∀ p∈O,cF p.word.toList=true/\0<=p.weight/\p.weight<=1048576
structure qE(B O L:List aD):Prop where
 dB:aZ B
 ov:OvP O
 lay:L=zM B O
 dL:aZ L
theorem qE.begin(h:aZ L):qE L [] L:=⟨h,⟨List.Pairwise.nil,λp hp=>by cases hp⟩,(aGj h).symm,h⟩
theorem OvP.add(h:OvP O)(hn:qD (O++[p]) Y)(hw:cF p.word.toList=true)(h0:0<=p.weight)(h1:p.weight<=1048576):OvP Y:=by
 refine⟨hn.1,λq hq=>?_⟩
 rcases List.mem_append.1 (hn.mem hq) with h2 | h2
 ·exact h.ok q h2
 ·rw[List.mem_singleton.1 h2]
  exact⟨hw,h0,h1⟩
theorem qE.find(h:qE B O L)(k:List UInt8):bC k L=if (bC k O).2=true then ((bC k O).1,decide (0<(bC k O).1)) else bC k B:=by
 rw[h.lay]
 exact aCg h.dB (λp hp=>(h.ov.ok p hp).2.1) k
theorem aCe(h:1<=p.weight):dM p=true:=by unfold dM;have h0:(p.weight == 0)=false:=(by simp;omega);rw[h0];rfl
theorem qE.put(h:qE B O L)(hn:qD (O++[p]) Y)(hw:cF p.word.toList=true)(h0:1<=p.weight)(h1:p.weight<=1048576)(hf:(bC p.word.toList L).2=true\/L.length<4096):qE B Y (eK p false L) :=
 ⟨h.dB,h.ov.add hn hw (by omega) h1,by rw[aGk h.dB hn (aCe h0),<-h.lay],Lu h.dL hw h0 h1 hf⟩
theorem qE.drop(h:qE B O L){w:ByteArray}(hn:qD (O++[⟨w,0⟩]) Y)(hw:cF w.toList=true):qE B Y (iB w.toList L) :=
 ⟨h.dB,h.ov.add hn hw (Int.le_refl 0) (by show (0:Int)<=1048576;omega),by rw[aCf h.dB hn (by simp[dM]),<-h.lay],Gb h.dL _⟩
def iV(L:List aD)(w:List UInt8)(n:Int):Int:=if cF w=false then 140 else if n<1\/1048576<n then 141 else if (bC w L).2=false/\4096<=L.length then 142 else 0
def rY(L:List aD)(w:ByteArray)(n:Int):List aD:=if iV L w.toList n=0 then eK ⟨w,n⟩ false L else L
def tP(L:List aD)(w:ByteArray)(n:Int):Int:=if iV L w.toList n=0 then (bC w.toList L).1 else 0
def lD(L:List aD)(w:List UInt8):Int:=if cF w=false then 140 else if (bC w L).2=false then 143 else 0
def tH(L:List aD)(w:ByteArray):List aD:=if lD L w.toList=0 then iB w.toList L else L
def tG(L:List aD)(w:ByteArray):Int:=if lD L w.toList=0 then (bC w.toList L).1 else 0
theorem aJo{w:List UInt8}{n:Int}(h:iV L w n=0):cF w=true/\1<=n/\n<=1048576/\((bC w L).2=true\/L.length<4096):=by
 unfold iV at h
 split at h
 ·omega
 ·split at h
  ·omega
  ·split at h
   ·omega
   ·rename_i a b c
    refine⟨by simpa using a,by omega,by omega,?_⟩
    by_cases hf:(bC w L).2=true
    ·exact .inl hf
    ·exact .inr (Nat.lt_of_not_le λh4=>c ⟨by simpa using hf,h4⟩)
theorem aEg(hL:aZ L)(w:ByteArray)(n:Int):aZ (rY L w n):=by
 unfold rY
 split
 ·rename_i h
  obtain⟨h1,h2,h3,h4⟩:=aJo h
  exact Lu hL h1 h2 h3 h4
 ·exact hL
theorem aDm(hL:aZ L)(w:ByteArray):aZ (tH L w):=by
 unfold tH
 split
 ·exact Gb hL _
 ·exact hL
end Go.Proofs.YthockgmbooefpaaGreatDoor
