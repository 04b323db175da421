/- What the law rests on, part 23. No condition but those that each theorem names. -/
import Derived.Test.YthockgmbooefpaaGreatDoorL22
import Derived.Lib.AppendZerosOnto
import Derived.Lib.SliceRun
import Derived.Test.YthockgmbooefpaaGreatDoorL00
import Derived.Deep.CutRange
set_option linter.unusedSectionVars false
set_option linter.unusedSimpArgs false
set_option linter.unusedVariables false
set_option maxRecDepth 100000
set_option maxHeartbeats 2000000
namespace Go.Proofs.YthockgmbooefpaaGreatDoor
open Go.RowKit
theorem grow_any (k:Nat) (hk:k≤5864062014700) (w:World) :
  Calls Tryz.prog 186 #[.slice none 0 0,.int .i64 k] w fun e w'=>∃ v,e=.returned v∧w'.ownsRow 0 125 2 v 0 []∧Touch (fun _=>False) w w'∧∀ g,v.ownBlock=some g→w.heap.size≤g:=by
 obtain ⟨i0,hi,hz0,hz1,hz2⟩:=info_parts infoPair
 rcases Nat.eq_zero_or_pos k with rfl | hk0
 ·clear hi hz0 hz1 hz2
  go_enter Tryz.func186,Tryz.ntmps186
  go_wp2
  go_ret
  exact ⟨_,rfl,World.ownsRow_nil _ _ _ _,Touch.refl _ _,fun g e=>by simp [Value.ownBlock] at e⟩
 ·have h1:¬ (k:Int)<0:=by omega
  have h4:(0:Int)<(k:Int):=by omega
  have hold:(Builtin.firstCells i0.size 0 (.slice none 0 0)).run Tryz.prog w.drew=.ok ([]:List Value).toArray w.drew:=run_firstCells_none w.drew i0.size 0 0 0
  have hrz:∀ ty,(Builtin.append_ #[37,3] ty #[.slice none 0 0,.int .i64 (k:Int)]).run Tryz.prog w =
    .ok (.slice (some ⟨w.heap.size,0,none⟩) k (grownCap w k 0 125)) (w.drew.alloc (.cells (([]:List Value).toArray++Builtin.zeroCells (Value.agg #[.string ByteArray.empty,.int .i64 0]).cells k++Builtin.zeroCells (Value.agg #[.string ByteArray.empty,.int .i64 0]).cells (grownCap w k 0 125 - k)) 125)):=fun ty=>by
   have h:=Lib.run_append_grow_zeros w 37 3 ty 125 i0 _ .i64 .i64 Tryz.underlying37 Tryz.underlying3 hi hz0 none 0 0 [] hold k hk0 (by omega) (by omega) (by omega) (by rw [hz2];omega) (by rw [Nat.zero_add];exact growslice_fits hk0 (by rw [hz2];omega))
   rw [Nat.zero_add] at h
   exact h
  obtain ⟨G,hG⟩:∃ G,G=grownCap w k 0 125 := ⟨_,rfl⟩
  have hGn:k≤G:=by rw [hG];exact grownCap_ge w _ _ _
  have hG63:G≤maxLen:=by rw [hG];exact grownCap_le_maxLen w k 0 _ (by unfold maxLen;omega)
  rw [← hG] at hrz
  have HR:=hide hrz
  have HGM:=hide hG63
  unfold maxLen at hG63
  obtain ⟨cs,hcs⟩:∃ cs,cs=([]:List Value).toArray++Builtin.zeroCells (Value.agg #[.string ByteArray.empty,.int .i64 0]).cells k++Builtin.zeroCells (Value.agg #[.string ByteArray.empty,.int .i64 0]).cells (G-k):=⟨_,rfl⟩
  have hsz:cs.size=G*2:=by
   rw [hcs]
   have hc2:(Value.agg #[.string ByteArray.empty,.int .i64 0]).cells.size=2:=rfl
   simp only [Array.size_append,Builtin.zeroCells,Array.size_map,Array.size_range,hc2,List.size_toArray,List.length_nil]
   omega
  rw [← hcs] at HR
  obtain ⟨w2,hw2⟩:∃ w2,w2=w.drew.alloc (.cells cs 125):=⟨_,rfl⟩
  have hb:Blk w2 w.heap.size 125 cs:=by rw [hw2];exact Blk.new w.drew _ _
  have ht:Touch (fun _=>False) w w2:=by rw [hw2];exact ((Touch.refl _ _).drew).alloc _
  rw [← hw2] at HR
  have HB:=hide hb
  have HT:=hide ht
  have HS:=hide hsz
  clear hold hrz hG hcs hw2 hb ht hsz hi hz0 hz1 hz2
  go_enter Tryz.func186,Tryz.ntmps186
  go_wp2_with (at_builtin;refine Lib.wpList_append_run _ rfl _ _ _ _ rfl _ _ rfl rfl _ _ (HR.out _) ?_)
  go_ret
  exact ⟨_,rfl,⟨rfl,.inr ⟨w.heap.size,G,cs,rfl,Nat.zero_le _,HB.out,Nat.zero_le _,HGM.out,HS.out,by simp⟩⟩,HT.out,fun g e=>by simp [Value.ownBlock] at e;omega⟩
def sumN (l:List SL):Nat:=(l.map (·.n)).foldr (·+·) 0
theorem sumN_snoc (l:List SL) (s:SL):sumN (l++[s])=sumN l+s.n:=by
 unfold sumN
 induction l with
 | nil=>simp
 | cons a l ih=>simp only [List.cons_append,List.map_cons,List.foldr_cons,ih];omega
theorem sumN_take (l:List SL) (i:Nat):sumN (l.take i)≤sumN l:=by
 unfold sumN
 induction l generalizing i with
 | nil=>simp
 | cons a l ih =>
  cases i with
  | zero=>simp
  | succ i=>simp only [List.take_succ_cons,List.map_cons,List.foldr_cons];have:=ih i;omega
theorem onecell_pairs (L:List PRow):∀ u∈pCells L,u.oneCell'=true:=by
 intro u hu
 unfold pCells at hu
 obtain ⟨r,_,hu⟩:=List.mem_flatMap.1 hu
 simp only [PRow.cells,List.mem_cons,List.not_mem_nil,or_false] at hu
 rcases hu with rfl | rfl<;>rfl
theorem concat_any (w:World) (A0:Option Addr) (k c0:Nat) (Ss:List SL) (hk:Ss.length=k) (hR:Reads w 1 A0 k (Ss.map SL.val)) (hok:∀ s∈Ss,s.Ok w) (hsum:sumN Ss≤5864062014700) (hk2:k≤5864062014700) :
  Calls Tryz.prog 175 #[.slice A0 k c0] w fun e w'=>∃ A n c,e=.returned (.slice A n c)∧POwn w' A n c (Ss.flatMap SL.L)∧Touch (fun _=>False) w w'∧n=sumN Ss∧(A=none→n=0∧c=0)∧∀ g,adBlock A=some g→w.heap.size≤g:=by
 obtain ⟨i0,hi,hz0,hz1,hz2⟩:=info_parts infoPair
 have HR:=hide hR
 have HK:=hide hk
 have HO:=hide hok
 have HS:=hide hsum
 clear hR hk hok
 have hat:∀ wr,Touch (fun _=>False) w wr→∀ i,i<k→∃ g off,A0=some ⟨g,off,none⟩∧g<wr.heap.size∧wr.cell? ⟨g,off+i,none⟩=some (Ss.getD i default).val:=by
  intro wr T i hi
  obtain ⟨b,off,hA,hb,hc⟩:=(HR.out.touch T (fun _ _ f=>f)).2 (by omega)
  refine ⟨b,off,hA,hb,hc i _ ?_⟩
  have hl:i<Ss.length:=by rw [HK.out];exact hi
  simp [List.getD,hl]
 have HAT:=hide hat
 clear hat
 go_enter Tryz.func175,Tryz.ntmps175
 go_wp2
 go_loopw [3,11] (fun sv iv wr=>∃ i s:Nat,iv=.int .i64 i∧sv=.int .i64 s∧i≤k∧s≤5864062014700∧Hid (s=sumN (Ss.take i))∧wr=w) (fun _ iv _=>k-(intOf iv).toNat)
 case atStart=>exact ⟨0,0,rfl,rfl,Nat.zero_le _,by omega,hide (by simp [sumN]),rfl⟩
 case round =>
  obtain ⟨i,s,rfl,rfl,hik,hs,HSU,rfl⟩:=hrel
  by_cases h0:i<k
  ·have y0:(i:Int)<(k:Int):=by omega
   obtain ⟨g,off,rfl,hg,hc⟩:=HAT.out wr (Touch.refl _ _) i h0
   have hl:i<Ss.length:=by rw [HK.out];exact h0
   have hsn:sumN (Ss.take (i+1))=sumN (Ss.take i)+(Ss.getD i default).n:=by
    have e:Ss.getD i default=Ss[i]:=by simp [List.getD,hl]
    rw [List.take_succ_eq_append_getElem hl,sumN_snoc,e]
   have hle:=sumN_take Ss (i+1)
   rw [hsn,← HSU.out] at hle
   rw [← HSU.out] at hsn
   have hle2:s+(Ss.getD i default).n≤5864062014700:=Nat.le_trans hle HS.out
   obtain ⟨⟨sA,sn,sc,sL⟩,hx⟩:∃ x,x=Ss.getD i default:=⟨_,rfl⟩
   rw [← hx] at hc hsn hle2
   simp only [SL.val] at hc hsn hle2
   have HSN:=hide hsn
   clear hx hsn hle hl
   obtain ⟨s2,hs2⟩:∃ s2,s2=s+sn:=⟨_,rfl⟩
   have y1:(s:Int)+(sn:Int)=(s2:Int):=by omega
   have y2:IntKind.i64.wrap (s2:Int)=(s2:Int):=IntWalk.i64_in _ (by omega)
   have y3:¬ (s2:Int)<0:=by omega
   have y4:s2≤5864062014700:=by omega
   have HS2:=hide hs2
   clear hs2
   go_wp2
   go_roundw
   ·exact ⟨i+1,s2,by simp,rfl,by omega,y4,hide (by rw [HSN.out,HS2.out]),trivial⟩
   ·show k-(intOf (.int .i64 ((i:Int)+1))).toNat<k-(intOf (.int .i64 (i:Int))).toNat
    simp [intOf]
    omega
  ·have hik':i=k:=by omega
   have hs':s=sumN Ss:=by rw [HSU.out,List.take_of_length_le (by rw [HK.out];omega)]
   have HSS:=hide hs'
   clear hs' hik' HSU
   go_wp2_with fail
   refine (grow_any s hs wr).mono ?_
   rintro e w1 ⟨v,rfl,O1,T1,F1⟩
   have HO1:=hide O1
   have HT1:=hide T1
   have HF1:=hide F1
   clear O1 T1 F1
   go_wp2_with fail
   obtain ⟨wo,rfl⟩:∃ wo:World,wo=wr:=⟨_,rfl⟩
   go_loopw [6,27] (fun rv iv wr=>∃ i n:Nat,iv=.int .i64 i∧i≤k∧n≤5864062014700∧Hid (n=sumN (Ss.take i))∧Hid (wr.ownsRow 0 125 2 rv n (pCells ((Ss.take i).flatMap SL.L)))∧Hid (Touch (fun _=>False) wo wr)∧Hid (∀ g,rv.ownBlock=some g→wo.heap.size≤g)) (fun _ iv _=>k-(intOf iv).toNat)
   case atStart=>exact ⟨0,0,rfl,Nat.zero_le _,by omega,hide (by simp [sumN]),hide (by simpa [pCells] using HO1.out),HT1,HF1⟩
   case round =>
    obtain ⟨i,n,rfl,hik2,hn,HSU,HOQ,HTQ,HFQ⟩:=hrel
    by_cases h1:i<k
    ·have y0:(i:Int)<(k:Int):=by omega
     obtain ⟨g,off,hA,hg,hc⟩:=HAT.out wr HTQ.out i h1
     subst hA
     have hl:i<Ss.length:=by rw [HK.out];exact h1
     have eg:Ss.getD i default=Ss[i]:=by simp [List.getD,hl]
     have hsn:sumN (Ss.take (i+1))=sumN (Ss.take i)+(Ss.getD i default).n:=by
      rw [List.take_succ_eq_append_getElem hl,sumN_snoc,eg]
     have hfl:(Ss.take (i+1)).flatMap SL.L=(Ss.take i).flatMap SL.L++(Ss.getD i default).L:=by
      rw [List.take_succ_eq_append_getElem hl,List.flatMap_append,eg];simp
     have hle:=sumN_take Ss (i+1)
     have hmem:Ss.getD i default∈Ss:=by rw [eg];exact List.getElem_mem _
     rw [hsn,← HSU.out] at hle
     rw [← HSU.out] at hsn
     have hle2:n+(Ss.getD i default).n≤5864062014700:=Nat.le_trans hle HS.out
     have hok:=HO.out _ hmem
     obtain ⟨⟨sA,sn,sc,sL⟩,hx⟩:∃ x,x=Ss.getD i default:=⟨_,rfl⟩
     rw [← hx] at hc hsn hle2 hfl hok
     simp only [SL.val] at hc hsn hle2 hfl
     obtain ⟨o1,o2,o3⟩:=hok
     simp only at o1 o2 o3
     have HRS:=hide (o2.touch HTQ.out (fun _ _ f=>f))
     have HON:=hide o3
     have HSN:=hide hsn
     have HFL:=hide hfl
     obtain ⟨A6,c6,rfl,hc6,hm6⟩:=own_len HOQ.out
     clear hx hsn hle hl eg hmem hfl o1 o2 o3
     unfold maxLen at hm6
     go_wp2_with (at_builtin;refine wpList_app _ rfl (.tmp 31) (.tmp 32) 37 rfl 125 i0 _ 2 24 Tryz.underlying37 hi hz0 hz1 hz2 rfl (by decide) (.slice A6 n c6) n _ rfl HOQ.out sA sn sc (pCells sL) rfl HRS.out ?s1 ?s2 ?s3 ?s4 ?_)
     case s1=>exact HON.out
     case s2=>exact onecell_pairs sL
     case s3=>unfold maxLen;omega
     case s4=>omega
     intro v2 w2 O2 G2 F2 _
     have T2:=HTQ.out.app G2 (fun g hg hlt=>by have:=HFQ.out g hg;omega)
     have hF:∀ g,v2.ownBlock=some g→wo.heap.size≤g:=by
      intro g hg
      rcases F2 with e | ⟨g',e,hg'⟩
      ·rw [e] at hg;exact HFQ.out g hg
      ·rw [hg] at e
       injection e with e
       have:=HTQ.out.size
       omega
     rw [← pCells_app,← HFL.out] at O2
     have HO2:=hide O2
     have HT2:=hide T2
     have HF2:=hide hF
     clear O2 G2 F2 T2 hF
     go_wp2
     go_roundw
     ·exact ⟨i+1,n+sn,by simp,by omega,by omega,hide HSN.out.symm,HO2,HT2,HF2⟩
     ·show k-(intOf (.int .i64 ((i:Int)+1))).toNat<k-(intOf (.int .i64 (i:Int))).toNat
      simp [intOf]
      omega
    ·have hik':Ss.take i=Ss:=List.take_of_length_le (by rw [HK.out];omega)
     have HSE:=hide hik'
     clear hik'
     go_wp2
     go_ret
     obtain ⟨A6,c6,rfl,_,_⟩:=own_len HOQ.out
     have hsu:=HSU.out
     have ho:=HOQ.out
     rw [HSE.out] at hsu ho
     refine ⟨A6,n,c6,rfl,ho,HTQ.out,hsu,?_,fun g hg=>HFQ.out g (by rw [← hg];cases A6<;>rfl)⟩
     rintro rfl
     rcases ho.2 with ⟨e,_⟩ | ⟨g,cap,cur,e,_⟩
     ·injection e with _ e1 e2
      exact ⟨e1,e2⟩
     ·cases e
end Go.Proofs.YthockgmbooefpaaGreatDoor
namespace Go.Proofs.YthockgmbooefpaaGreatDoor
def Nrm (X Y:List PRow):Prop:=Y.Pairwise (fun a b=>plt a b=true)∧∀ k,key k Y=(key k X).getLast?.toList
theorem strict_unique {A B:List PRow} (hA:A.Pairwise (fun a b=>plt a b=true)) (hB:B.Pairwise (fun a b=>plt a b=true)) (h:SameK A B):A=B:=by
 induction A generalizing B with
 | nil =>
  cases B with
  | nil=>rfl
  | cons b B=>have:=h.symm.mem (x:=b) (by simp);cases this
 | cons a A ih =>
  cases B with
  | nil=>have:=h.mem (x:=a) (by simp);cases this
  | cons b B =>
   obtain ⟨hA1,hA2⟩:=List.pairwise_cons.1 hA
   obtain ⟨hB1,hB2⟩:=List.pairwise_cons.1 hB
   have hab:a=b:=by
    rcases List.mem_cons.1 (h.mem (x:=a) (by simp)) with e | e
    ·exact e
    ·rcases List.mem_cons.1 (h.symm.mem (x:=b) (by simp)) with f | f
     ·exact f.symm
     ·have h1:=plt_trans (hB1 a e) (hA1 b f)
      rw [plt_irrefl] at h1
      cases h1
   subst hab
   rw [ih hA2 hB2 fun k=>?_]
   have hk:=h k
   unfold key at hk ⊢
   simp only [List.filter_cons] at hk
   split at hk
   ·injection hk
   ·exact hk
theorem Nrm.unique {X Y Z:List PRow} (h:Nrm X Y) (k:Nrm X Z):Y=Z:=strict_unique h.1 k.1 fun x=>(h.2 x).trans (k.2 x).symm
theorem Nrm.of_same {X X' Y:List PRow} (h:Nrm X Y) (k:SameK X X'):Nrm X' Y:=⟨h.1,fun x=>by rw [h.2,k]⟩
def diffs (x:PRow):List PRow→Prop
 | []=>True
 | y :: _=>y.word.toList≠x.word.toList
instance (x:PRow) (l:List PRow):Decidable (diffs x l):=by
 cases l<;>(unfold diffs;infer_instance)
def dd:List PRow→List PRow
 | []=>[]
 | x :: l=>if diffs x l then x :: dd l else dd l
theorem dd_sub (l:List PRow):(dd l).Sublist l:=by
 induction l with
 | nil=>exact List.Sublist.slnil
 | cons x l ih =>
  unfold dd
  split
  ·exact ih.cons_cons x
  ·exact ih.cons x
theorem diffs_plt {x:PRow} {l:List PRow} (hs:SrtP (x :: l)) (hd:diffs x l):∀ y∈l,plt x y=true:=by
 intro y hy
 cases l with
 | nil=>cases hy
 | cons z l =>
  obtain ⟨h1,h2⟩:=List.pairwise_cons.1 hs
  have hxz:plt x z=true:=by
   rcases plt_total (a:=x) (b:=z) (fun e=>hd e.symm) with e | e
   ·exact e
   ·have:=h1 z (by simp)
    unfold ple at this
    rw [e] at this
    cases this
  rcases List.mem_cons.1 hy with rfl | hy
  ·exact hxz
  ·exact plt_ple hxz ((List.pairwise_cons.1 h2).1 y hy)
theorem dd_nrm (l:List PRow) (hs:SrtP l):Nrm l (dd l):=by
 induction l with
 | nil=>exact ⟨List.Pairwise.nil,fun k=>rfl⟩
 | cons x l ih =>
  obtain ⟨i1,i2⟩:=ih (List.pairwise_cons.1 hs).2
  unfold dd
  by_cases hd:diffs x l
  ·rw [if_pos hd]
   have hp:=diffs_plt hs hd
   refine ⟨List.pairwise_cons.2 ⟨fun y hy=>hp y ((dd_sub l).subset hy),i1⟩,fun k=>?_⟩
   by_cases hk:x.word.toList=k
   ·have e1:key k l=[]:=by
     unfold key
     rw [List.filter_eq_nil_iff]
     intro y hy e
     exact plt_ne (hp y hy) (hk.trans (of_decide_eq_true e).symm)
    have e2:=i2 k
    rw [e1] at e2
    have e3:key k (x :: dd l)=x :: key k (dd l):=by simp [key,hk]
    have e4:key k (x :: l)=x :: key k l:=by simp [key,hk]
    rw [e3,e4,e2,e1]
    rfl
   ·have e3:key k (x :: dd l)=key k (dd l):=by simp [key,hk]
    have e4:key k (x :: l)=key k l:=by simp [key,hk]
    rw [e3,e4,i2]
  ·rw [if_neg hd]
   refine ⟨i1,fun k=>?_⟩
   rw [i2]
   by_cases hk:x.word.toList=k
   ·have e4:key k (x :: l)=x :: key k l:=by simp [key,hk]
    rw [e4]
    cases l with
    | nil=>exact absurd trivial hd
    | cons z l =>
     have hz:z.word.toList=x.word.toList:=Classical.byContradiction hd
     have e5:key k (z :: l)=z :: key k l:=by simp [key,hz.trans hk]
     rw [e5]
     simp [List.getLast?_cons_cons]
   ·have e4:key k (x :: l)=key k l:=by simp [key,hk]
    rw [e4]
end Go.Proofs.YthockgmbooefpaaGreatDoor
namespace Go.Proofs.YthockgmbooefpaaGreatDoor
open Go.RowKit
theorem dd_step (Z:List PRow) (i:Nat) (hi:i<Z.length):dd (Z.drop i)=if diffs (Z.getD i PRow.zero) (Z.drop (i+1)) then Z.getD i PRow.zero :: dd (Z.drop (i+1)) else dd (Z.drop (i+1)):=by
 have e:Z.drop i=Z[i] :: Z.drop (i+1):=List.drop_eq_getElem_cons hi
 have e2:Z.getD i PRow.zero=Z[i]:=by simp [List.getD,hi]
 rw [e,e2,dd]
theorem ordered_any (w:World) (A0:Option Addr) (k c0:Nat) (Ss:List SL) (hk:Ss.length=k) (hR:Reads w 1 A0 k (Ss.map SL.val)) (hok:∀ s∈Ss,s.Ok w) (hsum:sumN Ss≤5864062014700) (hk2:k≤5864062014700) :
  Calls Tryz.prog 144 #[.slice A0 k c0] w fun e w'=>∃ A n c Y,e=.returned (.slice A n c)∧POwn w' A n c Y∧Nrm (Ss.flatMap SL.L) Y∧Touch (fun _=>False) w w'∧n≤sumN Ss∧(A=none→n=0∧c=0)∧∀ g,adBlock A=some g→w.heap.size≤g:=by
 obtain ⟨i0,hi,hz0,hz1,hz2⟩:=info_parts infoPair
 obtain ⟨X,hX⟩:∃ X,X=Ss.flatMap SL.L:=⟨_,rfl⟩
 obtain ⟨N,hN⟩:∃ N,N=sumN Ss:=⟨_,rfl⟩
 have HCO:=hide (concat_any w A0 k c0 Ss hk hR hok hsum hk2)
 rw [← hX,← hN] at HCO
 rw [← hX,← hN]
 rw [← hN] at hsum
 clear hk hR hok hk2 hX hN
 go_enter Tryz.func144,Tryz.ntmps144
 go_wp2_with fail
 refine HCO.out.mono ?_
 rintro e w1 ⟨A1,n,c1,rfl,O1,T1,hnn,hnil1,F1⟩
 have hn:n≤5864062014700:=by omega
 have HO1:=hide O1
 have HT1:=hide T1
 have HF1:=hide F1
 have HNN:=hide hnn
 have HSF:=hide (sortfunc_any w1 A1 n c1 X O1 hn)
 clear O1 T1 F1 hnn hnil1 HCO
 go_wp2_with fail
 refine HSF.out.mono ?_
 rintro e w2 ⟨rfl,⟨Z,O2,s2,k2⟩,T2⟩
 have HO2:=hide O2
 have HZS:=hide s2
 have HZK:=hide k2
 have HT2:=hide (HT1.out.trans T2 (fun i hi hp=>by have:=HF1.out i hp;omega))
 clear O2 s2 k2 T2 HSF
 go_wp2_with fail
 go_loopw [4,13] (fun rv iv wr=>∃ i q:Nat,iv=.int .i64 i∧i≤n∧q≤i∧Hid (∃ O,wr.ownsRow 0 125 2 rv q (pCells O)∧O++dd (Z.drop i)=dd Z)∧Hid (Touch (fun _=>False) w2 wr)∧Hid (∀ g,rv.ownBlock=some g→w2.heap.size≤g)) (fun _ iv _=>n-(intOf iv).toNat)
 case atStart=>exact ⟨0,0,rfl,Nat.zero_le _,Nat.zero_le _,hide ⟨[],World.ownsRow_nil _ _ _ _,rfl⟩,hide (Touch.refl _ _),hide (fun g e=>by simp [Value.ownBlock] at e)⟩
 case round =>
  obtain ⟨i,q,rfl,hin,hqi,HE,HT,HF⟩:=hrel
  have HZ:=hide (own_touch HO2.out HT.out (fun _ _ f=>f))
  by_cases h0:i<n
  ·have y0:(i:Int)<(n:Int):=by omega
   have hzl:=pown_len HO2.out
   obtain ⟨g,rfl,hg,a0,a1,_,_⟩:=pown_at HZ.out hzl i h0
   have hst:=dd_step Z i (by omega)
   obtain ⟨⟨xw,xn⟩,hx⟩:∃ r,r=Z.getD i PRow.zero:=⟨_,rfl⟩
   rw [← hx] at a0 a1 hst
   simp only at a0 a1
   obtain ⟨O,O3,hO⟩:=HE.out
   obtain ⟨A4,c4,rfl,_,hm4⟩:=own_len O3
   unfold maxLen at hm4
   have HO3:=hide O3
   have HOE:=hide hO
   have HST:=hide hst
   obtain ⟨j,hj⟩:∃ j,j=i+1:=⟨_,rfl⟩
   have y1:(i:Int)+1=(j:Int):=by omega
   have y2:IntKind.i64.wrap (j:Int)=(j:Int):=IntWalk.i64_in _ (by omega)
   have HJ:=hide hj
   obtain ⟨p,hp⟩:∃ p,p=wr.heap.size:=⟨_,rfl⟩
   have HPP:=hide hp
   have hjn:j≤n:=by omega
   obtain ⟨wa,hwa⟩:∃ wa,wa=wr.alloc (.cells #[.string xw,.int .i64 xn] 125):=⟨_,rfl⟩
   have ta:Touch (fun _=>False) wr wa:=by rw [hwa];exact (Touch.refl _ _).alloc _
   have ba:Blk wa p 125 #[.string xw,.int .i64 xn]:=by rw [hwa,hp];exact Blk.new _ _ _
   have HTA:=hide ta
   have HBA:=hide ba
   have HWA:=hide hwa
   have hcase:(j=n∧diffs ⟨xw,xn⟩ (Z.drop j))∨∃ yw yn,j<n∧(⟨yw,yn⟩:PRow)=Z.getD j PRow.zero∧((¬ yw.toList=xw.toList∧diffs ⟨xw,xn⟩ (Z.drop j))∨(yw.toList=xw.toList∧¬ diffs ⟨xw,xn⟩ (Z.drop j))):=by
    by_cases hj2:j=n
    ·left
     refine ⟨hj2,?_⟩
     rw [List.drop_of_length_le (by omega)]
     trivial
    ·right
     have e:Z.drop j=Z[j]'(by omega) :: Z.drop (j+1):=List.drop_eq_getElem_cons (by omega)
     have e2:Z.getD j PRow.zero=Z[j]'(by omega):=by simp [List.getD,show j<Z.length by omega]
     refine ⟨(Z.getD j PRow.zero).word,(Z.getD j PRow.zero).weight,by omega,rfl,?_⟩
     rw [e,e2]
     by_cases hq:(Z[j]'(by omega)).word.toList=xw.toList
     ·exact .inr ⟨hq,fun hd=>hd hq⟩
     ·exact .inl ⟨hq,hq⟩
   clear O3 hO hst HE hj hwa ta ba hx hp
   rcases hcase with ⟨h1,hd⟩ | ⟨yw,yn,h1,hy,hd⟩
   ·have HDI:=hide hd
    have HJN:=hide h1
    have x1:((j:Int) == (n:Int))=true:=by simp [h1]
    have x2:(j == n)=true:=by simp [h1]
    clear hd h1 hzl
    go_upto_region 7 with fail
    rw [← HWA.out,← HPP.out]
    obtain ⟨e0,e1⟩:wa.cell? ⟨p,0,none⟩=some (.string xw)∧wa.cell? ⟨p,1,none⟩=some (.int .i64 xn):=⟨HBA.out.cell 0,HBA.out.cell 1⟩
    go_quiet (fail)
    obtain ⟨wb,hwb⟩:∃ wb,wb=wa.drewN nq:=⟨_,rfl⟩
    have tb:Touch (fun _=>False) wa wb:=by rw [hwb];exact (Touch.refl _ _).drewN _
    rw [← hwb]
    have hbb:=HBA.out.touch tb (fun f=>f)
    have HTB:=hide (HTA.out.then tb)
    obtain ⟨e2,e3⟩:wb.cell? ⟨p,0,none⟩=some (.string xw)∧wb.cell? ⟨p,1,none⟩=some (.int .i64 xn):=⟨hbb.cell 0,hbb.cell 1⟩
    clear hwb tb hbb e0 e1
    go_wp2_with (at_builtin;refine wpList_app _ rfl (.tmp 34) (.tmp 36) 37 rfl 125 i0 _ 2 24 Tryz.underlying37 hi hz0 hz1 hz2 rfl (by decide) (.slice A4 q c4) q _ rfl (own_touch HO3.out (HTB.out.alloc _) (fun _ _ f=>f)) (some ⟨_,0,none⟩) 1 1 (PRow.cells ⟨xw,xn⟩) rfl ?s1 ?s2 ?s3 ?s4 ?s5 ?_)
    case s1=>exact Reads.new _ _ _ _ rfl
    try (case s2=>exact fun h=>by cases h)
    case s3=>exact List.all_eq_true.1 rfl
    case s4=>unfold maxLen;omega
    case s5=>omega
    intro v2 w3 O5 G5 F5 _
    have T5:=((HT.out.then HTB.out).alloc (.cells #[.string xw,.int .i64 xn] 125)).app G5 (fun g hg hlt=>by have:=HF.out g hg;omega)
    have hF5:∀ g,v2.ownBlock=some g→w2.heap.size≤g:=by
     intro g hg
     rcases F5 with e | ⟨g',e,hg'⟩
     ·rw [e] at hg;exact HF.out g hg
     ·rw [hg] at e
      injection e with e
      have h1:=HT.out.size
      have h2:=HTB.out.size
      simp at hg'
      omega
    have HO5:=hide O5
    have HT5:=hide T5
    have HF5:=hide hF5
    clear O5 T5 hF5 G5 F5
    go_wp2
    go_roundw
    ·refine ⟨j,q+1,rfl,hjn,by have:=HJ.out;omega,hide ⟨O++[⟨xw,xn⟩],?_,?_⟩,HT5,HF5⟩
     ·have:=HO5.out
      rw [pCells_app]
      simpa [pCells] using this
     ·have hs:=HST.out
      rw [← HJ.out,if_pos HDI.out] at hs
      rw [← HOE.out,hs,List.append_assoc]
      rfl
    ·have:=HJ.out
     show n-(j:Int).toNat<n-(i:Int).toNat
     omega
   ·obtain ⟨g',hA,_,b0,b1,_,_⟩:=pown_at HZ.out hzl j h1
    injection hA with hA
    injection hA with hA _
    subst hA
    rw [← hy] at b0 b1
    simp only at b0 b1
    have x1:((j:Int) == (n:Int))=false:=by simp;omega
    have x2:(j == n)=false:=by simp;omega
    have HY:=hide hy
    clear hy hzl
    rcases hd with ⟨q1,hd⟩ | ⟨q1,hd⟩
    ·have HDI:=hide hd
     have q2:(yw.toList == xw.toList)=false:=by simp [q1]
     have q3:decide (yw.toList=xw.toList)=false:=by simp [q1]
     have q4:¬ yw=xw:=fun e=>q1 (by rw [e])
     have q5:decide (yw=xw)=false:=by simp [q4]
     clear hd
     go_upto_region 7 with fail
     rw [← HWA.out,← HPP.out]
     obtain ⟨e0,e1⟩:wa.cell? ⟨p,0,none⟩=some (.string xw)∧wa.cell? ⟨p,1,none⟩=some (.int .i64 xn):=⟨HBA.out.cell 0,HBA.out.cell 1⟩
     have b0':=(HTA.out.cell (a:=⟨g,j*2,none⟩) hg (fun f=>f)).trans b0
     go_quiet (fail)
     obtain ⟨wb,hwb⟩:∃ wb,wb=wa.drewN nq:=⟨_,rfl⟩
     have tb:Touch (fun _=>False) wa wb:=by rw [hwb];exact (Touch.refl _ _).drewN _
     rw [← hwb]
     have hbb:=HBA.out.touch tb (fun f=>f)
     have HTB:=hide (HTA.out.then tb)
     obtain ⟨e2,e3⟩:wb.cell? ⟨p,0,none⟩=some (.string xw)∧wb.cell? ⟨p,1,none⟩=some (.int .i64 xn):=⟨hbb.cell 0,hbb.cell 1⟩
     clear hwb tb hbb e0 e1
     go_wp2_with (at_builtin;refine wpList_app _ rfl (.tmp 34) (.tmp 36) 37 rfl 125 i0 _ 2 24 Tryz.underlying37 hi hz0 hz1 hz2 rfl (by decide) (.slice A4 q c4) q _ rfl (own_touch HO3.out (HTB.out.alloc _) (fun _ _ f=>f)) (some ⟨_,0,none⟩) 1 1 (PRow.cells ⟨xw,xn⟩) rfl ?s1 ?s2 ?s3 ?s4 ?s5 ?_)
     case s1=>exact Reads.new _ _ _ _ rfl
     try (case s2=>exact fun h=>by cases h)
     case s3=>exact List.all_eq_true.1 rfl
     case s4=>unfold maxLen;omega
     case s5=>omega
     intro v2 w3 O5 G5 F5 _
     have T5:=((HT.out.then HTB.out).alloc (.cells #[.string xw,.int .i64 xn] 125)).app G5 (fun g hg hlt=>by have:=HF.out g hg;omega)
     have hF5:∀ g,v2.ownBlock=some g→w2.heap.size≤g:=by
      intro g hg
      rcases F5 with e | ⟨g',e,hg'⟩
      ·rw [e] at hg;exact HF.out g hg
      ·rw [hg] at e
       injection e with e
       have h1:=HT.out.size
       have h2:=HTB.out.size
       simp at hg'
       omega
     have HO5:=hide O5
     have HT5:=hide T5
     have HF5:=hide hF5
     clear O5 T5 hF5 G5 F5
     go_wp2
     go_roundw
     ·refine ⟨j,q+1,rfl,hjn,by have:=HJ.out;omega,hide ⟨O++[⟨xw,xn⟩],?_,?_⟩,HT5,HF5⟩
      ·have:=HO5.out
       rw [pCells_app]
       simpa [pCells] using this
      ·have hs:=HST.out
       rw [← HJ.out,if_pos HDI.out] at hs
       rw [← HOE.out,hs,List.append_assoc]
       rfl
     ·have:=HJ.out
      show n-(j:Int).toNat<n-(i:Int).toNat
      omega
    ·have HDI:=hide hd
     clear hd
     go_upto_region 7 with fail
     rw [← HWA.out,← HPP.out]
     obtain ⟨e0,e1⟩:wa.cell? ⟨p,0,none⟩=some (.string xw)∧wa.cell? ⟨p,1,none⟩=some (.int .i64 xn):=⟨HBA.out.cell 0,HBA.out.cell 1⟩
     have b0':=(HTA.out.cell (a:=⟨g,j*2,none⟩) hg (fun f=>f)).trans b0
     go_quiet (fail)
     obtain ⟨wb,hwb⟩:∃ wb,wb=wa.drewN nq:=⟨_,rfl⟩
     have tb:Touch (fun _=>False) wa wb:=by rw [hwb];exact (Touch.refl _ _).drewN _
     rw [← hwb]
     have hbb:=HBA.out.touch tb (fun f=>f)
     have HTB:=hide (HTA.out.then tb)
     obtain ⟨e2,e3⟩:wb.cell? ⟨p,0,none⟩=some (.string xw)∧wb.cell? ⟨p,1,none⟩=some (.int .i64 xn):=⟨hbb.cell 0,hbb.cell 1⟩
     clear hwb tb hbb e0 e1
     go_wp2
     go_roundw
     ·refine ⟨j,q,rfl,hjn,by have:=HJ.out;omega,hide ⟨O,own_touch HO3.out HTB.out (fun _ _ f=>f),?_⟩,hide (HT.out.then HTB.out),HF⟩
      have hs:=HST.out
      rw [← HJ.out,if_neg HDI.out] at hs
      rw [← HOE.out,hs]
     ·have:=HJ.out
      show n-(j:Int).toNat<n-(i:Int).toNat
      omega
  ·have hin':Z.drop i=[]:=List.drop_of_length_le (by have:=pown_len HO2.out;omega)
   obtain ⟨O,O3,hO⟩:=HE.out
   rw [hin'] at hO
   simp only [dd,List.append_nil] at hO
   subst hO
   obtain ⟨A4,c4,rfl,_,_⟩:=own_len O3
   have HO3:=hide O3
   clear O3 HE hin'
   go_wp2
   go_ret
   refine ⟨A4,q,c4,dd Z,rfl,HO3.out,(dd_nrm Z HZS.out).of_same HZK.out.symm,HT2.out.then HT.out,by have:=HNN.out;omega,?_,?_⟩
   ·rintro rfl
    rcases HO3.out.2 with ⟨e,_⟩ | ⟨g,cap,cur,e,_⟩
    ·injection e with _ e1 e2
     exact ⟨e1,e2⟩
    ·cases e
   ·intro g hg
    have h1:=HF.out g (by rw [← hg];cases A4<;>rfl)
    have h2:=HT2.out.size
    omega
theorem pnorm_any (w:World) (s:SL) (hs:s.Ok w) (hsum:s.n≤5864062014700) :
  Calls Tryz.prog 101 #[s.val] w fun e w'=>∃ A n c Y,e=.returned (.slice A n c)∧POwn w' A n c Y∧Nrm s.L Y∧Touch (fun _=>False) w w'∧n≤s.n∧(A=none→n=0∧c=0)∧∀ g,adBlock A=some g→w.heap.size≤g:=by
 obtain ⟨wa,hwa⟩:∃ wa,wa=w.alloc (.cells [s.val].toArray 37):=⟨_,rfl⟩
 obtain ⟨g,hg⟩:∃ g,g=w.heap.size:=⟨_,rfl⟩
 have ta:Touch (fun _=>False) w wa:=by rw [hwa];exact (Touch.refl _ _).alloc _
 have hr:Reads wa 1 (some ⟨g,0,none⟩) 1 ([s].map SL.val):=by rw [hwa,hg];exact Reads.new w _ _ _ rfl
 have HOR:=hide (ordered_any wa (some ⟨g,0,none⟩) 1 1 [s] rfl hr (fun x hx=>by simp at hx;subst hx;exact ⟨hs.len,hs.reads.touch ta (fun _ _ f=>f),hs.nil⟩) (by simp [sumN];exact hsum) (by decide))
 have HTA:=hide ta
 have HWA:=hide hwa
 have HG:=hide hg
 clear hs ta hr hwa hg
 obtain ⟨sA,sn,sc,sL⟩:=s
 simp only [SL.val] at HWA ⊢
 simp only at hsum
 go_enter Tryz.func101,Tryz.ntmps101
 go_wp2_with fail
 have e1:w.alloc (.cells #[.slice sA sn sc] 37)=wa:=HWA.out.symm
 rw [e1,← HG.out]
 clear e1
 refine HOR.out.mono ?_
 rintro e w1 ⟨A,n,c,Y,rfl,O1,N1,T1,h1,h2,h3⟩
 have HO:=hide O1
 have HN:=hide N1
 have HT:=hide T1
 have H1:=hide (And.intro h1 (And.intro h2 h3))
 clear O1 N1 T1 h1 h2 h3
 go_wp2
 go_ret
 obtain ⟨h1,h2,h3⟩:=H1.out
 have hN:=HN.out
 simp only [List.flatMap_cons,List.flatMap_nil,List.append_nil] at hN
 refine ⟨A,n,c,Y,rfl,HO.out,hN,HTA.out.then HT.out,by simpa [sumN] using h1,h2,fun g hg=>?_⟩
 have:=h3 g hg
 have:=HTA.out.size
 omega
def keepP (p:PRow):Bool:=!(p.weight == 0)
structure PNx (w0 w:World) (v:Value) (q:Nat) (N:List PRow):Prop where
 own:w.ownsRow 0 125 2 v q (pCells N)
 len:N.length=q
 touch:Touch (fun _=>False) w0 w
 fresh:∀ g,v.ownBlock=some g→w0.heap.size≤g
theorem PNx.to {w0 w w2:World} {v:Value} {q:Nat} {N:List PRow} (h:PNx w0 w v q N) (t:Touch (fun _=>False) w w2):PNx w0 w2 v q N :=
 ⟨own_touch h.own t (fun _ _ f=>f),h.len,h.touch.then t,h.fresh⟩
theorem PNx.app {w0 w1 w3:World} {v v':Value} {q:Nat} {N:List PRow} {m:PRow} (h:PNx w0 w1 v q N) (ho:w3.ownsRow 0 125 2 v' (q+1) (pCells N++m.cells)) (hg:w1.grownBy w3 v.ownBlock) (hf:Fresh w1 v v'):PNx w0 w3 v' (q+1) (N++[m]):=by
 refine ⟨by rw [pCells_app];simpa [pCells] using ho,by simp [h.len],h.touch.app hg (fun g hg hlt=>by have:=h.fresh g hg;omega),?_⟩
 intro g hg
 rcases hf with e | ⟨g',e,hg'⟩
 ·rw [e] at hg;exact h.fresh g hg
 ·rw [hg] at e
  injection e with e
  have:=h.touch.size
  omega
def putF (p:PRow):Bool→List PRow→List PRow
 | done,[]=>if done=true then [] else [p]
 | true,x :: l=>if x.word.toList=p.word.toList then putF p true l else x :: putF p true l
 | false,x :: l=>if plt x p=true then x :: putF p false l else p :: (if x.word.toList=p.word.toList then putF p true l else x :: putF p true l)
theorem putF_true (p:PRow) (l:List PRow):putF p true l=l.filter (fun x=>decide (¬ x.word.toList=p.word.toList)):=by
 induction l with
 | nil=>rfl
 | cons x l ih =>
  unfold putF
  by_cases h:x.word.toList=p.word.toList
  ·rw [if_pos h,ih];simp [h]
  ·rw [if_neg h,ih];simp [h]
theorem putF_false (p x:PRow) (l:List PRow) (h:¬ plt x p=true):putF p false (x :: l)=p :: (x :: l).filter (fun x=>decide (¬ x.word.toList=p.word.toList)):=by
 rw [← putF_true]
 unfold putF
 rw [if_neg h]
theorem putF_mem (p:PRow) (l:List PRow):∀ y∈putF p false l,y=p∨y∈l:=by
 induction l with
 | nil=>intro y hy;simp [putF] at hy;exact .inl hy
 | cons x l ih =>
  intro y hy
  by_cases h:plt x p=true
  ·unfold putF at hy
   rw [if_pos h] at hy
   rcases List.mem_cons.1 hy with e | e
   ·exact .inr (by simp [e])
   ·rcases ih y e with e | e
    ·exact .inl e
    ·exact .inr (by simp [e])
  ·rw [putF_false p x l h] at hy
   rcases List.mem_cons.1 hy with e | e
   ·exact .inl e
   ·exact .inr (List.mem_filter.1 e).1
theorem putF_ok (p:PRow) (l:List PRow) (hs:Strict l):Strict (putF p false l)∧∀ k,key k (putF p false l)=if p.word.toList=k then [p] else key k l:=by
 induction l with
 | nil =>
  refine ⟨by simp [putF,Strict],fun k=>?_⟩
  by_cases hk:p.word.toList=k
  ·simp [putF,key,hk]
  ·simp [putF,key,hk]
 | cons x l ih =>
  obtain ⟨h1,h2⟩:=List.pairwise_cons.1 hs
  obtain ⟨i1,i2⟩:=ih h2
  by_cases h:plt x p=true
  ·have e:putF p false (x :: l)=x :: putF p false l:=by rw [putF,if_pos h]
   rw [e]
   refine ⟨List.pairwise_cons.2 ⟨fun y hy=>?_,i1⟩,fun k=>?_⟩
   ·rcases putF_mem p l y hy with e | e
    ·rw [e];exact h
    ·exact h1 y e
   ·have hi:=i2 k
    by_cases hk:x.word.toList=k
    ·have hp:¬ p.word.toList=k:=fun e=>plt_ne h (hk.trans e.symm)
     rw [if_neg hp] at hi ⊢
     have e3:key k (x :: putF p false l)=x :: key k (putF p false l):=by simp [key,hk]
     have e4:key k (x :: l)=x :: key k l:=by simp [key,hk]
     rw [e3,e4,hi]
    ·have e3:key k (x :: putF p false l)=key k (putF p false l):=by simp [key,hk]
     have e4:key k (x :: l)=key k l:=by simp [key,hk]
     rw [e3,e4,hi]
  ·rw [putF_false p x l h]
   have hpx:ple p x:=by simpa [ple] using h
   have hpl:∀ y∈x :: l,ple p y:=by
    intro y hy
    rcases List.mem_cons.1 hy with e | e
    ·rw [e];exact hpx
    ·exact ple_trans hpx (ple_of_plt (h1 y e))
   refine ⟨List.pairwise_cons.2 ⟨fun y hy=>?_,hs.sublist List.filter_sublist⟩,fun k=>?_⟩
   ·obtain ⟨y1,y2⟩:=List.mem_filter.1 hy
    have y2:=of_decide_eq_true y2
    rcases plt_total (a:=p) (b:=y) (fun e=>y2 e.symm) with e | e
    ·exact e
    ·have:=hpl y y1
     unfold ple at this
     rw [e] at this
     cases this
   ·by_cases hk:p.word.toList=k
    ·rw [if_pos hk]
     have e3:key k (p :: (x :: l).filter (fun x=>decide (¬ x.word.toList=p.word.toList)))=p :: key k ((x :: l).filter (fun x=>decide (¬ x.word.toList=p.word.toList))):=by simp [key,hk]
     have e4:key k ((x :: l).filter (fun x=>decide (¬ x.word.toList=p.word.toList)))=[]:=by
      unfold key
      rw [List.filter_eq_nil_iff]
      intro y hy e
      have y2:=of_decide_eq_true (List.mem_filter.1 hy).2
      exact y2 ((of_decide_eq_true e).trans hk.symm)
     rw [e3,e4]
    ·rw [if_neg hk]
     have e3:key k (p :: (x :: l).filter (fun x=>decide (¬ x.word.toList=p.word.toList)))=key k ((x :: l).filter (fun x=>decide (¬ x.word.toList=p.word.toList))):=by simp [key,hk]
     rw [e3]
     unfold key
     rw [List.filter_filter]
     congr 1
     funext y
     by_cases hy:y.word.toList=k
     ·have:¬ y.word.toList=p.word.toList:=fun e=>hk (e.symm.trans hy)
      have hkp:¬ k=p.word.toList:=fun e=>hk e.symm
      simp [hy,hkp]
     ·simp [hy]
theorem put_any (w:World) (A:Option Addr) (n c:Nat) (L:List PRow) (hL:L.length=n) (hR:Reads w 2 A n (pCells L)) (hn:n≤5864062014700) (hW:∀ r∈L,r.Wf) (p:PRow) (hp:p.Wf) :
  Calls Tryz.prog 161 #[.slice A n c,p.val] w fun e w'=>∃ A' q c',e=.returned (.slice A' q c')∧PNx w w' (.slice A' q c') q (putF p false L)∧q≤n+1:=by
 obtain ⟨i0,hi,hz0,hz1,hz2⟩:=info_parts infoPair
 obtain ⟨w0,hw0⟩:∃ x,x=w.alloc (.cells #[.string p.word,.int .i64 p.weight] 125):=⟨_,rfl⟩
 obtain ⟨b3,hb3⟩:∃ x,x=w.heap.size:=⟨_,rfl⟩
 have t0:Touch (fun _=>False) w w0:=by rw [hw0];exact (Touch.refl _ _).alloc _
 have k0:Blk w0 b3 125 #[.string p.word,.int .i64 p.weight]:=by rw [hw0,hb3];exact Blk.new _ _ _
 have HR:=hide (hR.touch t0 (fun _ _ f=>f))
 have HL:=hide hL
 have HW:=hide hW
 have HWP:=hide hp
 have HT0:=hide t0
 have HB3:=hide k0
 have HW0:=hide hw0
 have HB:=hide hb3
 obtain ⟨pw,pn⟩:=p
 clear hR hL hW hp t0 k0 hw0 hb3
 rw [pval_eq]
 simp only at HB3 HW0
 go_enter Tryz.func161,Tryz.ntmps161
 go_wp2_with fail
 rw [← HW0.out,← HB.out]
 go_loopw [5,6,7] (fun ov dv iv wr=>∃ (i q:Nat) (done:Bool) (A5:Option Addr) (c5:Nat),iv=.int .i64 i∧ov=.slice A5 q c5∧dv=.bool done∧i≤n∧q≤i+done.toNat∧Hid (Touch (fun _=>False) w0 wr)∧Hid (∃ O,PNx w0 wr (.slice A5 q c5) q O∧O++putF ⟨pw,pn⟩ done (L.drop i)=putF ⟨pw,pn⟩ false L)) (fun _ _ iv _=>n-(intOf iv).toNat)
 case atStart=>exact ⟨0,0,false,none,0,rfl,rfl,rfl,Nat.zero_le _,Nat.zero_le _,hide (Touch.refl _ _),hide ⟨[],⟨World.ownsRow_nil _ _ _ _,rfl,Touch.refl _ _,fun g e=>by simp [Value.ownBlock] at e⟩,rfl⟩⟩
 case round =>
  obtain ⟨i,q,done,A5,c5,rfl,rfl,rfl,hin',hqi,HT,HPU⟩:=hrel
  by_cases hin:i<n
  ·have y0:(i:Int)<(n:Int):=by omega
   have hdr:L.drop i=L.getD i PRow.zero :: L.drop (i+1):=by
    have hl:i<L.length:=by rw [HL.out];exact hin
    have e2:L.getD i PRow.zero=L[i]:=by simp [List.getD,hl]
    rw [e2];exact List.drop_eq_getElem_cons hl
   obtain ⟨gl,ol,hAl,_,l0,l1⟩:=preads_at (HR.out.touch HT.out (fun _ _ f=>f)) HL.out.symm i hin
   subst hAl
   have hwx:(L.getD i PRow.zero).Wf:=HW.out _ (by
    have hl:i<L.length:=by rw [HL.out];exact hin
    have e2:L.getD i PRow.zero=L[i]:=by simp [List.getD,hl]
    rw [e2];exact List.getElem_mem _)
   obtain ⟨⟨xw,xn⟩,hx⟩:∃ x,x=L.getD i PRow.zero:=⟨_,rfl⟩
   rw [← hx] at l0 l1 hdr hwx
   simp only at l0 l1
   have HX:=hide hx
   have HWX:=hide hwx
   have hb3:=HB3.out.touch HT.out (fun f=>f)
   obtain ⟨b0,b1⟩:_∧_:=⟨hb3.cell 0,hb3.cell 1⟩
   simp at b0 b1
   have hpu:=HPU.out
   obtain ⟨O,hN,hpu⟩:=hpu
   rw [hdr] at hpu
   have HNO:=hide hN
   have HPO:=hide hpu
   obtain ⟨A5',c5',e5,_,hm5⟩:=own_len hN.own
   injection e5 with e51 e52 e53
   subst e51 e53
   unfold maxLen at hm5
   have hd1:done.toNat≤1:=by cases done<;>decide
   have hq62:q≤5864062014710:=by omega
   clear hx hdr hwx hb3 hpu hN HPU e52
   cases done with
   | true =>
    go_wp2_with fail
    go_quiet (fail)
    obtain ⟨w1,hw1⟩:∃ x,x=wr.drewN nq:=⟨_,rfl⟩
    have HN1:=hide (HNO.out.to (show Touch (fun _=>False) _ w1 by rw [hw1];exact (Touch.refl _ _).drewN _))
    rw [← hw1]
    clear hw1
    obtain ⟨gl',ol',hAl,_,l0,l1⟩:=preads_at (HR.out.touch HN1.out.touch (fun _ _ f=>f)) HL.out.symm i hin
    injection hAl with hAl
    injection hAl with hA1 hA2
    subst hA1 hA2
    rw [← HX.out] at l0 l1
    simp only at l0 l1
    have hb3:=HB3.out.touch HN1.out.touch (fun f=>f)
    obtain ⟨b0,b1⟩:_∧_:=⟨hb3.cell 0,hb3.cell 1⟩
    simp at b0 b1
    clear hb3
    by_cases q1:xw.toList=pw.toList
    ·have q2:(xw.toList == pw.toList)=true:=by simp [q1]
     go_wp2_with fail
     go_quiet (fail)
     obtain ⟨w2,hw2⟩:∃ x,x=w1.drewN nq:=⟨_,rfl⟩
     have HN2:=hide (HN1.out.to (show Touch (fun _=>False) _ w2 by rw [hw2];exact (Touch.refl _ _).drewN _))
     rw [← hw2]
     clear hw2
     go_wp2_with fail
     go_roundw
     ·refine ⟨i+1,q,true,_,_,by simp,rfl,rfl,by omega,by have e1:Bool.toNat true=1:=rfl;have e2:Bool.toNat false=0:=rfl;omega,hide HN2.out.touch,hide ⟨O,HN2.out,?_⟩⟩
      have h:=HPO.out
      rw [putF,if_pos q1] at h
      exact h
     ·show n-(intOf (.int .i64 ((i:Int)+1))).toNat<n-(intOf (.int .i64 (i:Int))).toNat
      simp [intOf]
      omega
    ·have q2:(xw.toList == pw.toList)=false:=by simp [q1]
     have q3:decide (xw.toList=pw.toList)=false:=by simp [q1]
     have q4:¬ xw=pw:=fun e=>q1 (by rw [e])
     have q5:decide (xw=pw)=false:=by simp [q4]
     go_wp2_with fail
     go_quiet (fail)
     obtain ⟨w2,hw2⟩:∃ x,x=w1.drewN nq:=⟨_,rfl⟩
     have HN2:=hide (HN1.out.to (show Touch (fun _=>False) _ w2 by rw [hw2];exact (Touch.refl _ _).drewN _))
     rw [← hw2]
     clear hw2
     obtain ⟨gl',ol',hAl,_,l0,l1⟩:=preads_at (HR.out.touch HN2.out.touch (fun _ _ f=>f)) HL.out.symm i hin
     injection hAl with hAl
     injection hAl with hA1 hA2
     subst hA1 hA2
     rw [← HX.out] at l0 l1
     simp only at l0 l1
     have hb3:=HB3.out.touch HN2.out.touch (fun f=>f)
     obtain ⟨b0,b1⟩:_∧_:=⟨hb3.cell 0,hb3.cell 1⟩
     simp at b0 b1
     clear hb3
     go_wp2_with (at_builtin;refine wpList_app _ rfl (.tmp 39) (.tmp 44) 37 rfl 125 i0 _ 2 24 Tryz.underlying37 hi hz0 hz1 hz2 rfl (by decide) (.slice A5 q c5) q _ rfl (own_touch HN2.out.own ((Touch.refl _ _).alloc _) (fun _ _ f=>f)) (some ⟨_,0,none⟩) 1 1 (PRow.cells ⟨xw,xn⟩) rfl ?s1a ?s1b ?s1c ?s1d ?s1e ?_)
     case s1a=>exact Reads.new _ _ _ _ rfl
     try (case s1b=>exact fun h=>by cases h)
     case s1c=>exact List.all_eq_true.1 rfl
     case s1d=>unfold maxLen;omega
     case s1e=>omega
     intro v3 w3 hown hgrow hfr _
     have N3:=(HN2.out.to ((Touch.refl _ _).alloc _)).app hown hgrow hfr
     obtain ⟨A3,c3,rfl,_,hm3⟩:=own_len hown
     unfold maxLen at hm3
     have HN3:=hide N3
     clear N3 hown hgrow hfr
     go_wp2_with fail
     go_roundw
     ·refine ⟨i+1,q+1,true,_,_,by simp,rfl,rfl,by omega,by have e1:Bool.toNat true=1:=rfl;have e2:Bool.toNat false=0:=rfl;omega,hide HN3.out.touch,hide ⟨O++[⟨xw,xn⟩],HN3.out,?_⟩⟩
      have h:=HPO.out
      rw [putF,if_neg q1] at h
      rw [← h,List.append_assoc];rfl
     ·show n-(intOf (.int .i64 ((i:Int)+1))).toNat<n-(intOf (.int .i64 (i:Int))).toNat
      simp [intOf]
      omega
   | false =>
    cases hb:plt ⟨xw,xn⟩ ⟨pw,pn⟩ with
    | true =>
     have q1:¬ xw.toList=pw.toList:=plt_ne hb
     have q2:(xw.toList == pw.toList)=false:=by simp [q1]
     have q3:decide (xw.toList=pw.toList)=false:=by simp [q1]
     have q4:¬ xw=pw:=fun e=>q1 (by rw [e])
     have q5:decide (xw=pw)=false:=by simp [q4]
     have HPB:=hide hb
     clear hb
     go_wp2_with fail
     go_still_tail 10,(by kernel_rfl)
     change wpList _ _ _ _ _ wr.drew
     have HD:Hid (Touch (fun _=>False) wr wr.drew):=hide (Touch.refl _ _).drew
     generalize wr.drew=wd at HD ⊢
     go_wp2_with fail
     refine (ahead_any xw pw HWX.out HWP.out wd).mono ?_
     rw [show Op.bytesLess xw.toList pw.toList=true from HPB.out]
     rintro e w1 ⟨rfl,T1⟩
     have HN1:=hide (HNO.out.to (HD.out.then T1))
     clear T1
     obtain ⟨gl',ol',hAl,_,l0,l1⟩:=preads_at (HR.out.touch HN1.out.touch (fun _ _ f=>f)) HL.out.symm i hin
     injection hAl with hAl
     injection hAl with hA1 hA2
     subst hA1 hA2
     rw [← HX.out] at l0 l1
     simp only at l0 l1
     have hb3:=HB3.out.touch HN1.out.touch (fun f=>f)
     obtain ⟨b0,b1⟩:_∧_:=⟨hb3.cell 0,hb3.cell 1⟩
     simp at b0 b1
     clear hb3
     go_wp2_with fail
     go_quiet (fail)
     obtain ⟨w2,hw2⟩:∃ x,x=w1.drewN nq:=⟨_,rfl⟩
     have HN2:=hide (HN1.out.to (show Touch (fun _=>False) _ w2 by rw [hw2];exact (Touch.refl _ _).drewN _))
     rw [← hw2]
     clear hw2
     obtain ⟨gl',ol',hAl,_,l0,l1⟩:=preads_at (HR.out.touch HN2.out.touch (fun _ _ f=>f)) HL.out.symm i hin
     injection hAl with hAl
     injection hAl with hA1 hA2
     subst hA1 hA2
     rw [← HX.out] at l0 l1
     simp only at l0 l1
     have hb3:=HB3.out.touch HN2.out.touch (fun f=>f)
     obtain ⟨b0,b1⟩:_∧_:=⟨hb3.cell 0,hb3.cell 1⟩
     simp at b0 b1
     clear hb3
     go_wp2_with (at_builtin;refine wpList_app _ rfl (.tmp 39) (.tmp 44) 37 rfl 125 i0 _ 2 24 Tryz.underlying37 hi hz0 hz1 hz2 rfl (by decide) (.slice A5 q c5) q _ rfl (own_touch HN2.out.own ((Touch.refl _ _).alloc _) (fun _ _ f=>f)) (some ⟨_,0,none⟩) 1 1 (PRow.cells ⟨xw,xn⟩) rfl ?s2a ?s2b ?s2c ?s2d ?s2e ?_)
     case s2a=>exact Reads.new _ _ _ _ rfl
     try (case s2b=>exact fun h=>by cases h)
     case s2c=>exact List.all_eq_true.1 rfl
     case s2d=>unfold maxLen;omega
     case s2e=>omega
     intro v3 w3 hown hgrow hfr _
     have N3:=(HN2.out.to ((Touch.refl _ _).alloc _)).app hown hgrow hfr
     obtain ⟨A3,c3,rfl,_,hm3⟩:=own_len hown
     unfold maxLen at hm3
     have HN3:=hide N3
     clear N3 hown hgrow hfr
     go_wp2_with fail
     go_roundw
     ·refine ⟨i+1,q+1,false,_,_,by simp,rfl,rfl,by omega,by have e1:Bool.toNat true=1:=rfl;have e2:Bool.toNat false=0:=rfl;omega,hide HN3.out.touch,hide ⟨O++[⟨xw,xn⟩],HN3.out,?_⟩⟩
      have h:=HPO.out
      rw [putF,if_pos HPB.out] at h
      rw [← h,List.append_assoc];rfl
     ·show n-(intOf (.int .i64 ((i:Int)+1))).toNat<n-(intOf (.int .i64 (i:Int))).toNat
      simp [intOf]
      omega
    | false =>
     have HPB:=hide hb
     clear hb
     go_wp2_with fail
     go_still_tail 10,(by kernel_rfl)
     change wpList _ _ _ _ _ wr.drew
     have HD:Hid (Touch (fun _=>False) wr wr.drew):=hide (Touch.refl _ _).drew
     generalize wr.drew=wd at HD ⊢
     go_wp2_with fail
     refine (ahead_any xw pw HWX.out HWP.out wd).mono ?_
     rw [show Op.bytesLess xw.toList pw.toList=false from HPB.out]
     rintro e w1 ⟨rfl,T1⟩
     have HN1:=hide (HNO.out.to (HD.out.then T1))
     clear T1
     obtain ⟨gl',ol',hAl,_,l0,l1⟩:=preads_at (HR.out.touch HN1.out.touch (fun _ _ f=>f)) HL.out.symm i hin
     injection hAl with hAl
     injection hAl with hA1 hA2
     subst hA1 hA2
     rw [← HX.out] at l0 l1
     simp only at l0 l1
     have hb3:=HB3.out.touch HN1.out.touch (fun f=>f)
     obtain ⟨b0,b1⟩:_∧_:=⟨hb3.cell 0,hb3.cell 1⟩
     simp at b0 b1
     clear hb3
     go_wp2_with (at_builtin;refine wpList_app _ rfl (.tmp 27) (.tmp 29) 37 rfl 125 i0 _ 2 24 Tryz.underlying37 hi hz0 hz1 hz2 rfl (by decide) (.slice A5 q c5) q _ rfl (own_touch HN1.out.own ((Touch.refl _ _).alloc _) (fun _ _ f=>f)) (some ⟨_,0,none⟩) 1 1 (PRow.cells ⟨pw,pn⟩) rfl ?s3a ?s3b ?s3c ?s3d ?s3e ?_)
     case s3a=>exact Reads.new _ _ _ _ rfl
     try (case s3b=>exact fun h=>by cases h)
     case s3c=>exact List.all_eq_true.1 rfl
     case s3d=>unfold maxLen;omega
     case s3e=>omega
     intro v2 w2 hown hgrow hfr _
     have N2:=(HN1.out.to ((Touch.refl _ _).alloc _)).app hown hgrow hfr
     obtain ⟨A2,c2,rfl,_,hm2⟩:=own_len hown
     unfold maxLen at hm2
     have HN2:=hide N2
     clear N2 hown hgrow hfr
     obtain ⟨gl',ol',hAl,_,l0,l1⟩:=preads_at (HR.out.touch HN2.out.touch (fun _ _ f=>f)) HL.out.symm i hin
     injection hAl with hAl
     injection hAl with hA1 hA2
     subst hA1 hA2
     rw [← HX.out] at l0 l1
     simp only at l0 l1
     have hb3:=HB3.out.touch HN2.out.touch (fun f=>f)
     obtain ⟨b0,b1⟩:_∧_:=⟨hb3.cell 0,hb3.cell 1⟩
     simp at b0 b1
     clear hb3
     by_cases q1:xw.toList=pw.toList
     ·have q2:(xw.toList == pw.toList)=true:=by simp [q1]
      go_wp2_with fail
      go_quiet (fail)
      obtain ⟨w3,hw3⟩:∃ x,x=w2.drewN nq:=⟨_,rfl⟩
      have HN3:=hide (HN2.out.to (show Touch (fun _=>False) _ w3 by rw [hw3];exact (Touch.refl _ _).drewN _))
      rw [← hw3]
      clear hw3
      go_wp2_with fail
      go_roundw
      ·refine ⟨i+1,q+1,true,_,_,by simp,rfl,rfl,by omega,by have e1:Bool.toNat true=1:=rfl;have e2:Bool.toNat false=0:=rfl;omega,hide HN3.out.touch,hide ⟨O++[⟨pw,pn⟩],HN3.out,?_⟩⟩
       have h:=HPO.out
       rw [putF,if_neg (by rw [HPB.out];decide),if_pos q1] at h
       rw [← h,List.append_assoc];rfl
      ·show n-(intOf (.int .i64 ((i:Int)+1))).toNat<n-(intOf (.int .i64 (i:Int))).toNat
       simp [intOf]
       omega
     ·have q2:(xw.toList == pw.toList)=false:=by simp [q1]
      have q3:decide (xw.toList=pw.toList)=false:=by simp [q1]
      have q4:¬ xw=pw:=fun e=>q1 (by rw [e])
      have q5:decide (xw=pw)=false:=by simp [q4]
      go_wp2_with fail
      go_quiet (fail)
      obtain ⟨w3,hw3⟩:∃ x,x=w2.drewN nq:=⟨_,rfl⟩
      have HN3:=hide (HN2.out.to (show Touch (fun _=>False) _ w3 by rw [hw3];exact (Touch.refl _ _).drewN _))
      rw [← hw3]
      clear hw3
      obtain ⟨gl',ol',hAl,_,l0,l1⟩:=preads_at (HR.out.touch HN3.out.touch (fun _ _ f=>f)) HL.out.symm i hin
      injection hAl with hAl
      injection hAl with hA1 hA2
      subst hA1 hA2
      rw [← HX.out] at l0 l1
      simp only at l0 l1
      have hb3:=HB3.out.touch HN3.out.touch (fun f=>f)
      obtain ⟨b0,b1⟩:_∧_:=⟨hb3.cell 0,hb3.cell 1⟩
      simp at b0 b1
      clear hb3
      go_wp2_with (at_builtin;refine wpList_app _ rfl (.tmp 39) (.tmp 44) 37 rfl 125 i0 _ 2 24 Tryz.underlying37 hi hz0 hz1 hz2 rfl (by decide) (.slice A2 (q+1) c2) (q+1) _ rfl (own_touch HN3.out.own ((Touch.refl _ _).alloc _) (fun _ _ f=>f)) (some ⟨_,0,none⟩) 1 1 (PRow.cells ⟨xw,xn⟩) rfl ?s4a ?s4b ?s4c ?s4d ?s4e ?_)
      case s4a=>exact Reads.new _ _ _ _ rfl
      try (case s4b=>exact fun h=>by cases h)
      case s4c=>exact List.all_eq_true.1 rfl
      case s4d=>unfold maxLen;omega
      case s4e=>omega
      intro v4 w4 hown hgrow hfr _
      have N4:=(HN3.out.to ((Touch.refl _ _).alloc _)).app hown hgrow hfr
      obtain ⟨A4,c4,rfl,_,hm4⟩:=own_len hown
      unfold maxLen at hm4
      have HN4:=hide N4
      clear N4 hown hgrow hfr
      go_wp2_with fail
      go_roundw
      ·refine ⟨i+1,q+1+1,true,_,_,by simp,rfl,rfl,by omega,by have e1:Bool.toNat true=1:=rfl;have e2:Bool.toNat false=0:=rfl;omega,hide HN4.out.touch,hide ⟨(O++[⟨pw,pn⟩])++[⟨xw,xn⟩],HN4.out,?_⟩⟩
       have h:=HPO.out
       rw [putF,if_neg (by rw [HPB.out];decide),if_neg q1] at h
       rw [← h]
       simp
      ·show n-(intOf (.int .i64 ((i:Int)+1))).toNat<n-(intOf (.int .i64 (i:Int))).toNat
       simp [intOf]
       omega
  ·have hdr:L.drop i=[]:=List.drop_of_length_le (by rw [HL.out];omega)
   have hpu:=HPU.out
   obtain ⟨O,hN,hpu⟩:=hpu
   rw [hdr] at hpu
   have HNO:=hide hN
   have HPO:=hide hpu
   obtain ⟨A5',c5',e5,_,hm5⟩:=own_len hN.own
   injection e5 with e51 e52 e53
   subst e51 e53
   unfold maxLen at hm5
   have hd1:done.toNat≤1:=by cases done<;>decide
   have hq62:q≤n+1:=by omega
   have hb3:=HB3.out.touch HT.out (fun f=>f)
   obtain ⟨b0,b1⟩:_∧_:=⟨hb3.cell 0,hb3.cell 1⟩
   simp at b0 b1
   have HQI:=hide hqi
   clear hb3 hpu hN HPU e52 hdr hqi
   cases done with
   | true =>
    go_wp2_with fail
    go_ret
    have h:=HPO.out
    simp [putF] at h
    refine ⟨A5,q,c5,rfl,?_,hq62⟩
    rw [← h]
    exact ⟨HNO.out.own,HNO.out.len,HT0.out.then HT.out,fun g hg=>by have h1:=HNO.out.fresh g hg;have h2:=HT0.out.size;omega⟩
   | false =>
    go_wp2_with (at_builtin;refine wpList_app _ rfl (.tmp 48) (.tmp 50) 37 rfl 125 i0 _ 2 24 Tryz.underlying37 hi hz0 hz1 hz2 rfl (by decide) (.slice A5 q c5) q _ rfl (own_touch HNO.out.own ((Touch.refl _ _).alloc _) (fun _ _ f=>f)) (some ⟨_,0,none⟩) 1 1 (PRow.cells ⟨pw,pn⟩) rfl ?s5a ?s5b ?s5c ?s5d ?s5e ?_)
    case s5a=>exact Reads.new _ _ _ _ rfl
    try (case s5b=>exact fun h=>by cases h)
    case s5c=>exact List.all_eq_true.1 rfl
    case s5d=>unfold maxLen;omega
    case s5e=>omega
    intro v2 w2 hown hgrow hfr _
    have N2:=(HNO.out.to ((Touch.refl _ _).alloc _)).app hown hgrow hfr
    obtain ⟨A2,c2,rfl,_,hm2⟩:=own_len hown
    unfold maxLen at hm2
    have HN2:=hide N2
    clear N2 hown hgrow hfr
    go_wp2_with fail
    go_ret
    have h:=HPO.out
    simp [putF] at h
    refine ⟨A2,q+1,c2,rfl,?_,by have:=HQI.out;simp at this;omega⟩
    rw [← h]
    exact ⟨HN2.out.own,HN2.out.len,HT0.out.then HN2.out.touch,fun g hg=>by have h1:=HN2.out.fresh g hg;have h2:=HT0.out.size;omega⟩
theorem Nrm.nil:Nrm [] []:=⟨List.Pairwise.nil,fun _=>rfl⟩
theorem Nrm.put {X O:List PRow} (h:Nrm X O) (p:PRow):Nrm (X++[p]) (putF p false O):=by
 obtain ⟨h1,h2⟩:=putF_ok p O h.1
 refine ⟨h1,fun k=>?_⟩
 rw [h2,key_app]
 by_cases hk:p.word.toList=k
 ·rw [if_pos hk]
  have e:key k [p]=[p]:=by simp [key,hk]
  rw [e];simp
 ·rw [if_neg hk]
  have e:key k [p]=[]:=by simp [key,hk]
  rw [e,List.append_nil]
  exact h.2 k
theorem Nrm.mem {X O:List PRow} (h:Nrm X O) {x:PRow} (hx:x∈O):x∈X:=by
 have h1:x∈key x.word.toList O:=by simp [key,hx]
 rw [h.2] at h1
 have h2:=List.mem_of_getLast? (by simpa using h1)
 exact (List.mem_filter.1 h2).1
theorem nodup_le {O:List PRow} (hn:O.Pairwise (fun a b=>a≠b)):∀ {X:List PRow},(∀ x∈O,x∈X)→O.length≤X.length:=by
 induction O with
 | nil=>intro X _;exact Nat.zero_le _
 | cons a O ih =>
  intro X h
  obtain ⟨h1,h2⟩:=List.pairwise_cons.1 hn
  obtain ⟨X1,X2,rfl⟩:=List.append_of_mem (h a (by simp))
  have:=ih h2 (X:=X1++X2) (fun x hx=>by
   rcases List.mem_append.1 (h x (by simp [hx])) with e | e
   ·exact List.mem_append.2 (.inl e)
   ·rcases List.mem_cons.1 e with e | e
    ·exact absurd e.symm (h1 x hx)
    ·exact List.mem_append.2 (.inr e))
  simp only [List.length_append,List.length_cons] at this ⊢
  omega
theorem Nrm.len {X O:List PRow} (h:Nrm X O) (k:Nat) (hX:X.length≤k):O.length≤k :=
 Nat.le_trans (nodup_le (h.1.imp (fun {a b} hab e=>by rw [e,plt_irrefl] at hab;cases hab)) (fun x hx=>h.mem hx)) hX
end Go.Proofs.YthockgmbooefpaaGreatDoor
