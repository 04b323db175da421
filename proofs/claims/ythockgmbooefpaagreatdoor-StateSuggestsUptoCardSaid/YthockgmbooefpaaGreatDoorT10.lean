/- What the law rests on, part 10. No condition but those that each theorem names. -/
import Derived.Test.YthockgmbooefpaaGreatDoorT06
import Derived.Test.YthockgmbooefpaaGreatDoorT01
import Derived.Test.YthockgmbooefpaaGreatDoorT09
import Derived.RangeFuncNested
import Derived.RangeFuncBound
import Derived.RangeFuncCalls
import Derived.RangeFuncLeaves
import Derived.Shelf.Abstract
import Derived.Shelf.RegionOpen
import Derived.WalkKit
import Derived.OwnWalkIn
import Derived.TacticsInMore
import Derived.LoopNIn
import Derived.LoopIn
import Derived.Test.YthockgmbooefpaaGreatDoorT00
set_option linter.unusedSectionVars false
set_option linter.unusedSimpArgs false
set_option linter.unusedVariables false
set_option maxRecDepth 100000
set_option maxHeartbeats 8000000
namespace Go.Proofs.YthockgmbooefpaaGreatDoor
open Go.RowKit
def levR (a:List UInt8) (k:Int):Bool:=wordU a && (decide (0≤k) && decide (k≤3))
theorem rlev_any (w:World) (a:ByteArray) (k:Int) (ha:a.size≤9223372036854775807) :
  Calls Tryz.prog 123 #[.string a,.int .i64 k] w fun e w'=>e=.returned (.bool (levR a.toList k))∧Touch (fun _=>False) w w':=by
 have HR:=hide (rword_any w a ha)
 obtain ⟨v,hv⟩:∃ v,wordU a.toList=v:=⟨_,rfl⟩
 have he:levR a.toList k=(v && (decide (0≤k) && decide (k≤3))):=by unfold levR;rw [hv]
 rw [hv] at HR
 rw [he]
 clear ha hv he
 cases v with
 | false =>
  go_enter Tryz.func123,Tryz.ntmps123
  go_wp2_with fail
  refine HR.out.mono ?_
  rintro e w1 ⟨rfl,T1⟩
  have HT1:=hide T1
  clear T1
  go_wp2_with fail
  go_ret
  exact ⟨rfl,HT1.out⟩
 | true =>
  by_cases h0:0≤k
  ·by_cases h3:k≤3
   all_goals
    go_enter Tryz.func123,Tryz.ntmps123
    go_wp2_with fail
    refine HR.out.mono ?_
    rintro e w1 ⟨rfl,T1⟩
    have HT1:=hide T1
    clear T1
    go_wp2_with fail
    go_ret
    exact ⟨by simp [h0,h3],HT1.out⟩
  ·go_enter Tryz.func123,Tryz.ntmps123
   go_wp2_with fail
   refine HR.out.mono ?_
   rintro e w1 ⟨rfl,T1⟩
   have HT1:=hide T1
   clear T1
   go_wp2_with fail
   go_ret
   exact ⟨by simp;omega,HT1.out⟩
end Go.Proofs.YthockgmbooefpaaGreatDoor
namespace Go.Proofs.YthockgmbooefpaaGreatDoor
open Go.RowKit
def levC (A:Option Addr) (n c o:Nat) (s:List Nat):Array Value:=#[.slice A n c,u8V o]++rowV s
theorem levC_zero (o:Nat):levC none 0 0 o []=#[.slice none 0 0,.int .u8 (o:Int),.int .u8 0,.int .u8 0,.int .u8 0,.int .u8 0,.int .u8 0,.int .u8 0,.int .u8 0,.int .u8 0,.int .u8 0,.int .u8 0,.int .u8 0,.int .u8 0,.int .u8 0,.int .u8 0,.int .u8 0,.int .u8 0,.int .u8 0,.int .u8 0,.int .u8 0,.int .u8 0,.int .u8 0,.int .u8 0,.int .u8 0,.int .u8 0,.int .u8 0]:=by
 unfold levC
 rw [rowV_nil]
 simp [u8V]
theorem levC_at (A:Option Addr) (n c o:Nat) (s:List Nat):(levC A n c o s)[0]? = some (.slice A n c)∧(levC A n c o s)[1]? = some (.int .u8 (o:Int))∧∀ j,j<25→(levC A n c o s)[2+j]? = some (.int .u8 ((s.getD j 0:Nat):Int)):=by
 unfold levC
 refine ⟨?_,?_,fun j hj=>?_⟩
 ·rw [Array.getElem?_append_left (by simp)];rfl
 ·rw [Array.getElem?_append_left (by simp)];rfl
 ·rw [Array.getElem?_append_right (by simp)]
  have:2+j-(#[.slice A n c,u8V o]:Array Value).size=j:=by simp
  rw [this,rowV_get _ _ hj]
  rfl
theorem levC_set0 (A B:Option Addr) (n c m d o:Nat) (s:List Nat):(levC A n c o s).setIfInBounds 0 (.slice B m d)=levC B m d o s:=by
 unfold levC
 rw [Array.setIfInBounds_append_left (by simp)]
 rfl
theorem levC_setj (A:Option Addr) (n c o:Nat) (s:List Nat) (j:Nat) (v:Value):(levC A n c o s).setIfInBounds (2+j) v=#[.slice A n c,u8V o]++(rowV s).setIfInBounds j v:=by
 unfold levC
 rw [Array.setIfInBounds_append_right (by simp)]
 congr 2
 simp
theorem lnew_no (w:World) (hL:Lst w) (a:ByteArray) (k:Int) (ha:a.size≤9223372036854775807) (hr:levR a.toList k=false) :
  Calls Tryz.prog 88 #[.string a,.int .i64 k] w fun e w'=>e=.returned (.tuple #[.pointer none,.int .i64 110])∧Touch (fun _=>False) w w':=by
 have HR:=hide (word_any w a ha hL)
 obtain ⟨v,hv⟩:∃ v,wordU a.toList=v:=⟨_,rfl⟩
 have he:(v && (decide (0≤k) && decide (k≤3)))=false:=by rw [← hv];exact hr
 rw [hv] at HR
 clear hr hv
 cases v with
 | false =>
  clear he
  go_enter Tryz.func88,Tryz.ntmps88
  go_wp2_with fail
  refine HR.out.mono ?_
  rintro e w1 ⟨rfl,T1⟩
  have HT1:=hide T1
  clear T1
  go_wp2_with fail
  go_ret2
  exact ⟨rfl,HT1.out⟩
 | true =>
  have hk:k<0∨(¬ k<0∧3<k):=by
   simp at he
   omega
  clear he
  rcases hk with h0 | ⟨h0,h1⟩
  all_goals
   go_enter Tryz.func88,Tryz.ntmps88
   go_wp2_with fail
   refine HR.out.mono ?_
   rintro e w1 ⟨rfl,T1⟩
   have HT1:=hide T1
   clear T1
   go_wp2_with fail
   go_ret2
   exact ⟨rfl,HT1.out⟩
def LNewT (w:World) (X:List Nat) (o:Nat) (e:Ending) (w':World):Prop:=∃ b A n c,e=.returned (.tuple #[.pointer (some ⟨b,0,none⟩),.int .i64 0])∧LevM w' b A n c X o∧Touch (fun _=>False) w w'∧w.heap.size≤b
theorem lnew_yes (w:World) (hL:Lst w) (a:ByteArray) (k:Nat) (ha:a.size≤1099511627776) (X:List Nat) (hX:runesU a.toList=some X) (hr:levR a.toList k=true) :
  Calls Tryz.prog 88 #[.string a,.int .i64 (k:Int)] w (LNewT w X (k+1)):=by
 have hr0:=hr
 unfold levR at hr
 simp only [Bool.and_eq_true,decide_eq_true_eq] at hr
 obtain ⟨hw,h0,h3⟩:=hr
 have HR:=hide (word_any w a (by omega) hL)
 rw [hw] at HR
 have hXl:X.length≤24:=by
  obtain ⟨x,h1,_,_,h4⟩:=word_runes hw
  rw [hX] at h1
  injection h1 with h1
  rw [h1];exact h4
 have HXL:=hide hXl
 have HX:=hide hX
 have HL:=hide hL
 have HA:=hide ha
 have y0:(0:Int)≤(k:Int):=h0
 have y1:(k:Int)≤3:=h3
 have z1:IntKind.u8.wrap ((k:Int))=(k:Int):=wrap_u8 _ (by omega) (by omega)
 have z2:IntKind.u8.wrap ((k:Int)+1)=(k:Int)+1:=wrap_u8 _ (by omega) (by omega)
 clear hr0 hw hXl hX hL ha h0 h3
 go_enter Tryz.func88,Tryz.ntmps88
 go_wp2_with fail
 refine HR.out.mono ?_
 rintro e w1 ⟨rfl,T1⟩
 have HT1:=hide T1
 clear T1
 go_upto_region 4 with fail
 have hk1:(k:Int)+1=((k+1:Nat):Int):=by omega
 rw [hk1,← levC_zero (k+1)]
 obtain ⟨wa,hwa⟩:∃ x,x=w1.alloc (.cells (levC none 0 0 (k+1) []) 252):=⟨_,rfl⟩
 obtain ⟨b,hb⟩:∃ x,x=w1.heap.size:=⟨_,rfl⟩
 rw [← hwa,← hb]
 have hTa:Touch (fun _=>False) w wa:=by rw [hwa];exact HT1.out.alloc _
 have hba:Blk wa b 252 (levC none 0 0 (k+1) []):=by rw [hwa,hb];exact Blk.new _ _ _
 have HBF:=hide (show w.heap.size≤b by rw [hb];exact HT1.out.size)
 have HTA:=hide hTa
 have HBA:=hide hba
 have HRU:=hide (runes_any wa a HA.out (Lst.touch HL.out hTa))
 clear hk1 hwa hb hTa hba
 go_wp2_with fail
 refine HRU.out.mono ?_
 rintro e w2 ⟨A,n,c,O,ok,rfl,ho,hl,hs,hx⟩
 have hx2:=HX.out
 rw [hx2] at hx
 cases ok with
 | false=>simp at hx
 | true =>
  simp only [if_true,Option.some.injEq] at hx
  subst hx
  have hb2:=HBA.out.touch ho.touch (fun f=>f)
  have c0:w2.cell? ⟨b,0,none⟩=some (.slice none 0 0):=by rw [hb2.cell];exact (levC_at _ _ _ _ _).1
  have f0:w2.frozen? ⟨b,0,none⟩=false:=hb2.frozen 0
  have l0:=hb2.lt
  have HB2:=hide hb2
  have HO:=hide ho
  have HLN:=hide hl
  clear ho hl hs hb2 hx2
  go_upto_region 5 with fail
  obtain ⟨w3,hw3⟩:∃ x,x=w2.setCell ⟨b,0,none⟩ (.slice A n c):=⟨_,rfl⟩
  rw [← hw3]
  have hb3:Blk w3 b 252 (levC A n c (k+1) []):=by
   rw [hw3]
   have:=HB2.out.set_ 0 (.slice A n c)
   rw [levC_set0] at this
   exact this
  have hT3:Touch (fun g=>g=b) w2 w3:=by rw [hw3];exact (Touch.refl (fun g=>g=b) w2).setCell (p:=⟨b,0,none⟩) (fun _=>rfl) _
  have hr3:RdT w3 21 1 A n (X.map runeV):=(RdT.of_own HO.out.own).touch hT3 (fun g hg e=>hg.ne (blk_ty HB2.out) (by decide) e)
  have HB3:=hide hb3
  have HT3:=hide hT3
  have HR3:=hide hr3
  have d0:w3.cell? ⟨b,0,none⟩=some (.slice A n c):=by rw [hb3.cell];exact (levC_at _ _ _ _ _).1
  have l3:=hb3.lt
  have hn:(n:Int)≤24:=by have:=HXL.out;have:=HLN.out;omega
  clear hw3 hb3 hT3 hr3 c0 f0 l0
  go_wp2_with fail
  clear d0 l3
  go_loopw [7,38] (fun _ iv wr=>∃ (j:Nat),iv=.int .i64 j∧j≤n+1∧Hid (Blk wr b 252 (levC A n c (k+1) (List.replicate j (k+1))))∧Hid (Touch (fun g=>g=b) w3 wr)) (fun _ iv _=>n+1-(intOf iv).toNat)
  case atStart=>exact ⟨0,rfl,by omega,HB3,hide (Touch.refl _ _)⟩
  case round =>
   obtain ⟨j,rfl,hj,HB,HT⟩:=hrel
   by_cases hjn:j≤n
   ·have y1:(j:Int)<(n:Int)+1:=by omega
    have y2:(0:Int)≤(j:Int):=by omega
    have y3:(j:Int)<25:=by omega
    have y4:IntKind.i64.wrap ((j:Int)+1)=(j:Int)+1:=IntWalk.i64_in _ (by omega)
    obtain ⟨_,a1,a2⟩:=levC_at A n c (k+1) (List.replicate j (k+1))
    have c1:wr.cell? ⟨b,1,none⟩=some (.int .u8 ((k+1:Nat):Int)):=by rw [HB.out.cell];exact a1
    have c2:wr.cell? ⟨b,2+j,none⟩=some (.int .u8 (((List.replicate j (k+1)).getD j 0:Nat):Int)):=by rw [HB.out.cell];exact a2 j (by omega)
    have f2:wr.frozen? ⟨b,2+j,none⟩=false:=HB.out.frozen _
    have l1:=HB.out.lt
    obtain ⟨u,hu⟩:∃ x,x=(List.replicate j (k+1)).getD j 0:=⟨_,rfl⟩
    rw [← hu] at c2
    have HJ:=hide hjn
    clear hu a1 a2 hj hjn
    go_wp2_with fail
    go_region
    go_wp2_with fail
    go_roundw
    ·have h1:=rowV_snoc (List.replicate j (k+1)) (k+1) (by rw [List.length_replicate];have:=HJ.out;omega)
     rw [List.length_replicate] at h1
     have h2:=HB.out.set_ (2+j) (u8V (k+1))
     rw [levC_setj,h1,← List.replicate_succ'] at h2
     exact ⟨j+1,by simp,by have:=HJ.out;omega,hide h2.drew,hide ((HT.out.setCell (p:=⟨b,2+j,none⟩) (fun _=>rfl) _).drew)⟩
    ·have:=HJ.out
     simp only [intOf]
     omega
   ·have hje:j=n+1:=by omega
    subst hje
    have y1:¬ ((n+1:Nat):Int)<(n:Int)+1:=by omega
    clear hj hjn
    go_wp2_with fail
    go_ret2
    have hT:Touch (fun g=>g=b) w2 wr:=HT3.out.then HT.out
    refine ⟨b,A,n,c,rfl,⟨HB.out,HR3.out.touch HT.out (fun g hg e=>hg.ne (blk_ty HB3.out) (by decide) e),HLN.out,by omega,by omega,by omega⟩,?_,HBF.out⟩
    refine Touch.trans (HTA.out.then HO.out.touch) hT (fun i hi e=>?_)
    have:=HBF.out
    omega
end Go.Proofs.YthockgmbooefpaaGreatDoor
namespace Go.Proofs.YthockgmbooefpaaGreatDoor
open Go.RowKit Go.Shelf
attribute [local go_sem] Oper.semAt_some
theorem touch_below {B:Nat} {w0 W w':World} (h0:Touch (fun _=>False) w0 W) (h:Below B W w') (hB:w0.heap.size≤B):Touch (fun _=>False) w0 w' :=
 ⟨h.os.trans h0.os,h.tape.trans h0.tape,h.output.trans h0.output,Nat.le_trans h0.size h.size,fun k hk _=>(h.block k (Nat.lt_of_lt_of_le hk hB)).trans (h0.block k hk (fun f=>f))⟩
def upto {α:Type} (f:Nat→α) (k:Nat):List α:=(List.range k).map f
theorem upto_succ {α:Type} (f:Nat→α) (k:Nat):upto f (k+1)=upto f k++[f k]:=by simp [upto,List.range_succ]
theorem upto_length {α:Type} (f:Nat→α) (k:Nat):(upto f k).length=k:=by simp [upto]
def backF (L:List PRow) (j:Nat):Int × PRow:=(((L.length-1-j:Nat):Int),L.getD (L.length-1-j) PRow.zero)
def backEnc (x:Int × PRow):Array Value:=#[.int .i64 x.1,.agg #[.string x.2.word,.int .i64 x.2.weight]]
theorem back1_in (F:Fence) (n:Nat) (hf:F.fn 157) (hro:F.round=none) (hn:1≤n) (l Bs n0:Nat) (w0:World) (A:Option Addr) (len cap:Nat) (L:List PRow) (hL:L.length=len) (hR:Reads w0 2 A len (pCells L)) (hlen:len≤maxLen) (J Jx:List (Int × PRow)→World→Prop)
  (hY:∀ pre x W,J pre W→pre.length<len→YieldAt F (n-1) Tryz.prog l (backEnc x) W fun e W' =>
    (e=.returned (.bool true)∧J (pre++[x]) W'∧Below n0 W W')∨(e=.returned (.bool false)∧Jx (pre++[x]) W'))
  (W:World) (hW:Touch (fun _=>False) w0 W) (hbs:Bs<n0) (hn0:w0.heap.size≤n0) (hBs:W.cell? ⟨Bs,0,none⟩=some (.slice A len cap)) (h0:J [] W) :
  CallsIn F n Tryz.prog 157 #[.func (.yield l) #[] #[],.pointer (some ⟨Bs,0,none⟩)] W fun e W'=>(∃ v,e=.returned v) ∧
   ((∃ ys,ys=upto (backF L) len∧J ys W')∨(∃ pre,(∃ k,k≤len∧pre=upto (backF L) k)∧Jx pre W')):=by
 unfold maxLen at hlen
 have HR:=hide hR
 have HL:=hide hL
 have hw:IntKind.i64.wrap ((len:Int)-1)=(len:Int)-1:=IntWalk.i64_in _ (by omega)
 have HST:((len:Int)-1 = -1∧len=0)∨∃ i:Nat,(len:Int)-1=(i:Int)∧len=i+1:=by
  by_cases h:len=0
  ·exact .inl ⟨by omega,h⟩
  ·exact .inr ⟨len-1,by omega,by omega⟩
 have HST:=hide HST
 clear hR hL
 refine callsIn_of_wp Tryz.func157 rfl hf ?_ hro
 simp only [Tryz.ntmps157,List.size_toArray,List.length_cons,List.length_nil,Nat.reduceAdd,Nat.reduceSub,Array.replicate_succ,Array.replicate_zero,List.push_toArray,List.append_toArray,List.nil_append,List.cons_append]
 gi_wp2
 gi_loopw [3] (fun iv wr=>∃ (z:Int) (k m:Nat),iv=.int .i64 z∧Hid (k+m=len)∧Hid ((z = -1∧m=0)∨∃ i:Nat,z=(i:Int)∧m=i+1)∧Hid (J (upto (backF L) k) wr)∧Hid (Below n0 W wr)) (fun iv _=>(intOf iv+1).toNat)
 case atStart=>exact ⟨_,0,len,rfl,hide (Nat.zero_add _),HST,hide h0,hide (Below.refl _ _)⟩
 case round =>
  obtain ⟨z,k,m,rfl,HK,HZ,HJ,HB⟩:=hrel
  have c1:=(HB.out.cell (p:=⟨Bs,0,none⟩) hbs).trans hBs
  rcases HZ.out with ⟨rfl,rfl⟩ | ⟨i,rfl,rfl⟩
  ·clear HZ
   gi_wp2
   go_end0
   have hk:k=len:=by have:=HK.out;omega
   exact ⟨⟨_,rfl⟩,.inl ⟨_,rfl,by rw [← hk];exact HJ.out⟩⟩
  ·clear HZ
   have y0:¬ (i:Int)<0:=by omega
   have y1:(0:Int)≤(i:Int):=by omega
   have y2:i<len:=by have:=HK.out;omega
   have y3:(i:Int)<(len:Int):=by omega
   have y4:L.length-1-k=i:=by have:=HK.out;rw [HL.out];omega
   obtain ⟨g,o,hA,_,a0,a1⟩:=preads_at (HR.out.touch (touch_below hW HB.out hn0) (fun _ _ f=>f)) HL.out.symm i y2
   subst hA
   have hbf:backF L k=((i:Int),L.getD i PRow.zero):=by unfold backF;rw [y4]
   have hus:=upto_succ (backF L) k
   rw [hbf] at hus
   obtain ⟨⟨xw,xn⟩,hx⟩:∃ x,x=L.getD i PRow.zero:=⟨_,rfl⟩
   rw [← hx] at a0 a1 hus
   simp only at a0 a1
   have HUS:=hide hus
   clear hx hus hbf
   obtain ⟨fn,tmps,assign,body,hy,hR⟩:=hY _ ((i:Int),⟨xw,xn⟩) wr HJ.out (by rw [upto_length];have:=HK.out;omega)
   simp only [backEnc] at hy
   obtain ⟨z2,hz2⟩:∃ z2:Int,(i:Int)-1=z2:=⟨_,rfl⟩
   have hw2:IntKind.i64.wrap z2=z2:=IntWalk.i64_in _ (by omega)
   have HZ2:=hide hz2
   gi_wp2
   refine hR.mono ?_
   rintro e W3 (⟨rfl,hJ3,hk3⟩ | ⟨rfl,hJx3⟩)
   ·have HJ3:=hide hJ3
    have HK3:=hide hk3
    clear hJ3 hk3
    gi_wp2
    go_roundw
    case rel =>
     have hz2:=HZ2.out
     refine ⟨z2,k+1,i,rfl,hide (by have:=HK.out;omega),hide ?_,hide (by rw [HUS.out];exact HJ3.out),hide (HB.out.trans HK3.out)⟩
     by_cases hi0:i=0
     ·exact .inl ⟨by omega,hi0⟩
     ·exact .inr ⟨i-1,by omega,by omega⟩
    case measure =>
     have hz2:=HZ2.out
     show (z2+1).toNat<((i:Int)+1).toNat
     omega
   ·gi_wp2
    refine bodyPost_ret (results_none rfl _ _ _) rfl ?_
    exact ⟨⟨_,rfl⟩,.inr ⟨_,⟨k+1,by have:=HK.out;omega,HUS.out.symm⟩,hJx3⟩⟩
end Go.Proofs.YthockgmbooefpaaGreatDoor
namespace Go.Proofs.YthockgmbooefpaaGreatDoor
open Go.RowKit Go.Shelf
attribute [local go_sem] Oper.semAt_some
theorem backward_in (F:Fence) (n:Nat) (hf:F.fn 110) (hro:F.round=none) (a:Option Addr) (len cap:Nat) (w:World) :
  CallsIn F n Tryz.prog 110 #[.slice a len cap] w fun e w'=>e=.returned (.func (.func 157) #[] #[.pointer (some ⟨w.heap.size,0,none⟩)])∧w'=w.alloc (.cells #[.slice a len cap] 37):=by
 refine callsIn_of_wp Tryz.func110 rfl hf ?_ hro
 simp only [Tryz.ntmps110,List.size_toArray,List.length_cons,List.length_nil,Nat.reduceAdd,Nat.reduceSub,Array.replicate_succ,Array.replicate_zero,List.push_toArray,List.append_toArray,List.nil_append,List.cons_append]
 gi_wp2
 go_ret
 exact ⟨rfl,rfl⟩
theorem back_stops (F:Fence) (n:Nat) (hf:F.fn 157) (hro:F.round=none) (hn:1≤n) (Bs n0:Nat) (w0:World) (A:Option Addr) (len cap:Nat) (L:List PRow) (hL:L.length=len) (hR:Reads w0 2 A len (pCells L)) (hlen:len≤maxLen) (w:World) (hw:Touch (fun _=>False) w0 w) (hbs:Bs<n0) (hn0:n0≤w.heap.size) (h00:w0.heap.size≤n0) (hc:w.cell? ⟨Bs,0,none⟩=some (.slice A len cap)) :
  SeqStopsK F n Tryz.prog 157 #[.pointer (some ⟨Bs,0,none⟩)] backEnc (Below n0) (fun ys=>ys=upto (backF L) len) (fun pre=>∃ k,k≤len∧pre=upto (backF L) k) len w:=fun l J Jx W hW _ _ hY h0 =>
 back1_in F n hf hro hn l Bs n0 w0 A len cap L hL hR hlen J Jx hY W (touch_below hw hW hw.size) hbs h00 ((hW.cell (p:=⟨Bs,0,none⟩) (Nat.lt_of_lt_of_le hbs hn0)).trans hc) h0
theorem back_none (L:List PRow) (w:List UInt8):∀ k,k≤L.length→(∀ p∈upto (backF L) k,¬ p.2.word.toList=w)→key w (L.drop (L.length-k))=[]:=by
 intro k
 induction k with
 | zero=>intro _ _;rw [Nat.sub_zero,List.drop_length];rfl
 | succ k ih =>
  intro hk h
  rw [upto_succ] at h
  have h1:=ih (by omega) (fun p hp=>h p (List.mem_append_left _ hp))
  have h2:=h (backF L k) (by simp)
  have e1:L.length-1-k=L.length-(k+1):=by omega
  unfold backF at h2
  rw [e1] at h2
  refine find_miss (by omega) w h2 ?_
  rw [show L.length-(k+1)+1=L.length-k by omega]
  exact h1
theorem back_miss (L:List PRow) (w:List UInt8) (h:∀ p∈upto (backF L) L.length,¬ p.2.word.toList=w):findP w L=(0,false):=by
 have h1:=back_none L w L.length (Nat.le_refl _) h
 rw [Nat.sub_self,List.drop_zero] at h1
 unfold findP
 rw [h1]
 rfl
theorem back_hit (L:List PRow) (w:List UInt8) {k:Nat} (hk:k≤L.length) {ini:List (Int × PRow)} {last:Int × PRow} (he:upto (backF L) k=ini++[last]) (hi:∀ p∈ini,¬ p.2.word.toList=w) (hl:last.2.word.toList=w):findP w L=(last.2.weight,true):=by
 cases k with
 | zero=>simp [upto] at he
 | succ k =>
  rw [upto_succ] at he
  obtain ⟨h1,h2⟩:=List.append_inj' he rfl
  simp only [List.cons.injEq,and_true] at h2
  have h3:=back_none L w k (by omega) (by rw [h1];exact hi)
  have e1:L.length-1-k=L.length-(k+1):=by omega
  rw [← h2] at hl ⊢
  unfold backF at hl ⊢
  rw [e1] at hl ⊢
  exact find_hit (by omega) w hl (by rw [show L.length-(k+1)+1=L.length-k by omega];exact h3)
theorem find_in (F:Fence) (n:Nat) (h1f:F.fn 44) (h2f:F.fn 110) (h3f:F.fn 157) (hro:F.round=none) (hn:3≤n) (w:World) (A:Option Addr) (len cap:Nat) (L:List PRow) (hL:L.length=len) (hR:Reads w 2 A len (pCells L)) (hlen:len≤maxLen) (k:ByteArray) :
  CallsIn F n Tryz.prog 44 #[.slice A len cap,.string k] w fun e w'=>e=.returned (.tuple #[.int .i64 (findP k.toList L).1,.bool (findP k.toList L).2])∧Below w.heap.size w w':=by
 have h1:1≤n:=by omega
 refine callsIn_of_wp_marks Tryz.func44 rfl h1f ?_ hro
 simp only [Tryz.ntmps44,List.size_toArray,List.length_cons,List.length_nil,Nat.reduceAdd,Nat.reduceSub,Array.replicate_succ,Array.replicate_zero,List.push_toArray,List.append_toArray,List.nil_append,List.cons_append]
 gi_wp2_with (gi_at_call 110;refine (backward_in F (n-1) h2f hro _ _ _ _).mono ?_;rintro e w' ⟨rfl,rfl⟩)
 have hk0:=((Boxed.new w 9 (.string k)).alloc (.cells #[.int .i64 0] 3)).alloc (.cells #[.bool false] 4) |>.alloc (.cells #[.slice A len cap] 37)
 have hk1:=((Boxed.new (w.alloc (.cells #[.string k] 9)) 3 (.int .i64 0)).alloc (.cells #[.bool false] 4)).alloc (.cells #[.slice A len cap] 37)
 have hk2:=(Boxed.new ((w.alloc (.cells #[.string k] 9)).alloc (.cells #[.int .i64 0] 3)) 4 (.bool false)).alloc (.cells #[.slice A len cap] 37)
 have hk3:=Boxed.new (((w.alloc (.cells #[.string k] 9)).alloc (.cells #[.int .i64 0] 3)).alloc (.cells #[.bool false] 4)) 37 (.slice A len cap)
 have hT0:Touch (fun _=>False) w ((((w.alloc (.cells #[.string k] 9)).alloc (.cells #[.int .i64 0] 3)).alloc (.cells #[.bool false] 4)).alloc (.cells #[.slice A len cap] 37)):=((((Touch.refl _ w).alloc _).alloc _).alloc _).alloc _
 have hsz:((((w.alloc (.cells #[.string k] 9)).alloc (.cells #[.int .i64 0] 3)).alloc (.cells #[.bool false] 4)).alloc (.cells #[.slice A len cap] 37)).heap.size=w.heap.size+1+1+1+1:=by simp
 simp only [World.size_alloc] at hk1 hk2 hk3
 obtain ⟨W0,hW0⟩:∃ W0,(((w.alloc (.cells #[.string k] 9)).alloc (.cells #[.int .i64 0] 3)).alloc (.cells #[.bool false] 4)).alloc (.cells #[.slice A len cap] 37)=W0:=⟨_,rfl⟩
 rw [hW0] at hk0 hk1 hk2 hk3 hT0 hsz ⊢
 clear hW0
 have hB0:Below w.heap.size w W0:=hT0.below (Nat.le_refl _) (fun _ _ f=>f)
 refine wpIn_rangeFunc_ownH hro h1 (gf := 157) (lb:=#[.pointer (some ⟨w.heap.size+1+1+1,0,none⟩)]) rfl h3f (enters_of Tryz.func157 (by kernel_rfl) rfl)
  (back_stops F (n-1) h3f hro (by omega) (w.heap.size+1+1+1) (w.heap.size+1+1+1+1) w A len cap L hL hR hlen W0 hT0 (by omega) (by omega) (by omega) hk3.cell) belowK_t (belowK_b (by omega)) (Below.refl _ _) (fun _=>rfl)
  (fun pre W=>((Boxed W w.heap.size 9 (.string k)∧Boxed W (w.heap.size+1) 3 (.int .i64 0))∧(Boxed W (w.heap.size+1+1) 4 (.bool false)∧(Boxed W (w.heap.size+1+1+1) 37 (.slice A len cap)∧∀ p∈pre,¬ p.2.word.toList=k.toList)))∧Below w.heap.size w W)
  (fun c pre W=>(c=.ret∧∃ ini last,pre=ini++[last]∧(∀ p∈ini,¬ p.2.word.toList=k.toList)∧last.2.word.toList=k.toList∧Boxed W (w.heap.size+1) 3 (.int .i64 last.2.weight)∧Boxed W (w.heap.size+1+1) 4 (.bool true))∧Below w.heap.size w W)
  (OwnFrom.and (OwnFrom.and (OwnFrom.and (Own.from (boxed_own _ _ _) _) (Own.from (boxed_own _ _ _) _)) (OwnFrom.and (Own.from (boxed_own _ _ _) _) (OwnFrom.and (Own.from (boxed_own _ _ _) _) (ownFrom_pure _ _)))) (ownFrom_below (Nat.le_refl _) (by omega)))
  (fun c=>OwnFrom.and (Own.from (fun s X Y row hs hg hr=>by
    obtain ⟨hc,ini,last,e1,e2,e3,e4,e5⟩:=hs
    exact ⟨hc,ini,last,e1,e2,e3,boxed_own _ _ (fun (_:Unit)=>Value.int .i64 last.2.weight) () X Y row e4 hg hr,boxed_own _ _ (fun (_:Unit)=>Value.bool true) () X Y row e5 hg hr⟩) _) (ownFrom_below (Nat.le_refl _) (by omega)))
  ⟨⟨⟨hk0,hk1⟩,hk2,hk3,by simp⟩,hB0⟩
  (fun x a' W=>∃ Bx,w.heap.size+1+1<Bx∧(W.cell? ⟨Bx,0,none⟩=some (.string x.2.word)∧W.cell? ⟨Bx,1,none⟩=some (.int .i64 x.2.weight))∧a'={ tmps:=#[.slice A len cap,.string k,undef,.pointer (some ⟨w.heap.size,0,none⟩),.pointer (some ⟨w.heap.size+1,0,none⟩),.pointer (some ⟨w.heap.size+1+1,0,none⟩),undef,.pointer (some ⟨Bx,0,none⟩),.slice A len cap,.func (.func 157) #[] #[.pointer (some ⟨w.heap.size+1+1+1,0,none⟩)],.int .i64 x.1,.agg #[.string x.2.word,.int .i64 x.2.weight],undef,undef,undef,undef,undef,undef],defers:=[] })
  (fun x a' _ X Y row hs hg hr=>by
    obtain ⟨Bx,e1,e2,e3⟩:=hs
    exact ⟨Bx,e1,⟨cell_kept e2.1 hg (fun r e=>(hr r e).2),cell_kept e2.2 hg (fun r e=>(hr r e).2)⟩,e3⟩)
  ?assign ?body ?done ?stop
 case assign =>
  rintro l pre ⟨i,⟨xw,xn⟩⟩ W K ⟨⟨⟨b0,b1⟩,b2,b3,hp⟩,hB⟩ hK
  simp only [backEnc]
  gi_wp2
  refine hK _ _ ((KeepsOthers.alloc _ _).from _) ((Below.refl _ W).alloc b3.lt _) ⟨⟨⟨b0.alloc _,b1.alloc _⟩,b2.alloc _,b3.alloc _,hp⟩,hB.alloc hB.size _⟩ ⟨W.heap.size,b2.lt,⟨?_,?_⟩,rfl⟩
  ·unfold World.cell?;rw [World.alloc_heap_new];rfl
  ·unfold World.cell?;rw [World.alloc_heap_new];rfl
 case body =>
  rintro l pre ⟨i,⟨xw,xn⟩⟩ a' W hl ⟨r,hr⟩ ⟨⟨⟨b0,b1⟩,b2,b3,hp⟩,hB⟩ ⟨Bx,hBx,⟨c0,c1⟩,rfl⟩ hlt
  simp only at c0 c1
  have d0:=b0.cell
  have f1:=b1.frozen
  have f2:=b2.frozen
  have d1:=b1.cell
  have d2:=b2.cell
  by_cases hk:xw.toList=k.toList
  ·have q2:(xw.toList == k.toList)=true:=by simp [hk]
   gi_wp2
   have e1:=(b1.set (.int .i64 xn)).other (B':=w.heap.size+1+1) (by omega) (.bool true)
   have e2:=(b2.other (B':=w.heap.size+1) (by omega) (.int .i64 xn)).set (.bool true)
   exact ⟨((KeepsOthers.setCell _ _ _).trans (KeepsOthers.setCell _ _ _)).from _,⟨rfl,pre,(i,⟨xw,xn⟩),rfl,hp,hk,e1,e2⟩,(hB.setCell (p:=⟨w.heap.size+1,0,none⟩) (by simp) _).setCell (p:=⟨w.heap.size+1+1,0,none⟩) (by simp;omega) _⟩
  ·have q2:(xw.toList == k.toList)=false:=by simp [hk]
   have q3:decide (xw.toList=k.toList)=false:=by simp [hk]
   gi_wp2
   exact ⟨KeepsFrom.refl _ _,Below.refl _ _,⟨⟨b0,b1⟩,b2,b3,fun p hp'=>(List.mem_append.1 hp').elim (hp p) (fun e=>by simp at e;subst e;exact hk)⟩,hB⟩
 case done =>
  rintro D ys W hD rfl ⟨⟨⟨b0,b1⟩,b2,b3,hp⟩,hB⟩ hK
  have hfm:=back_miss L k.toList (by rw [hL];exact hp)
  have f1:=b1.frozen
  have f2:=b2.frozen
  have d1:=b1.cell
  have d2:=b2.cell
  gi_wp2
  have e1:=(b1.set (.int .i64 0)).other (B':=w.heap.size+1+1) (by omega) (.bool false)
  have e2:=(b2.other (B':=w.heap.size+1) (by omega) (.int .i64 0)).set (.bool false)
  have hK':=((KeepsOthers.setCell W ⟨w.heap.size+1,0,none⟩ (.int .i64 0)).trans (KeepsOthers.setCell _ ⟨w.heap.size+1+1,0,none⟩ (.bool false))).same D _ hK rfl
  refine ⟨by simp,.inl ⟨_,_,rfl,run_takeDeferred hK',?_⟩⟩
  have g1:=cell_kept e1.cell (grownBy_putObj' _ D (.deferred none)) (fun r e=>by cases e;exact ⟨_,hK',rfl⟩)
  have g2:=cell_kept e2.cell (grownBy_putObj' _ D (.deferred none)) (fun r e=>by cases e;exact ⟨_,hK',rfl⟩)
  refine ⟨.tuple #[.int .i64 0,.bool false],?_,by rw [hfm],((hB.setCell (p:=⟨w.heap.size+1,0,none⟩) (by simp) _).setCell (p:=⟨w.heap.size+1+1,0,none⟩) (by simp;omega) _).trans (belowK_b (w:=w) (Nat.le_refl _) _ D _ _ (by omega) hK' rfl rfl)⟩
  simp [results,Tryz.f44,go_sem,g1,g2]
 case stop =>
  rintro D c pre W hD ⟨k',hk',rfl⟩ ⟨⟨rfl,ini,last,e1,e2,e3,e4,e5⟩,hB⟩ hK
  have hfm:=back_hit L k.toList (by rw [hL];exact hk') e1 e2 e3
  gi_wp2
  refine ⟨by simp,.inl ⟨_,_,rfl,run_takeDeferred hK,?_⟩⟩
  have g1:=cell_kept e4.cell (grownBy_putObj' _ D (.deferred none)) (fun r e=>by cases e;exact ⟨_,hK,rfl⟩)
  have g2:=cell_kept e5.cell (grownBy_putObj' _ D (.deferred none)) (fun r e=>by cases e;exact ⟨_,hK,rfl⟩)
  refine ⟨.tuple #[.int .i64 last.2.weight,.bool true],?_,by rw [hfm],hB.trans (belowK_b (w:=w) (Nat.le_refl _) W D _ _ (by omega) hK rfl rfl)⟩
  simp [results,Tryz.f44,go_sem,g1,g2]
theorem pfind_any (w:World) (A:Option Addr) (n c:Nat) (L:List PRow) (hL:L.length=n) (hR:Reads w 2 A n (pCells L)) (hn:n≤maxLen) (k:ByteArray) :
  Calls Tryz.prog 44 #[.slice A n c,.string k] w fun e w'=>e=.returned (.tuple #[.int .i64 (findP k.toList L).1,.bool (findP k.toList L).2])∧Touch (fun _=>False) w w' :=
 (callsIn_wide.1 (find_in Fence.wide 3 trivial trivial trivial rfl (Nat.le_refl _) w A n c L hL hR hn k)).mono fun _ _ ⟨he,hb⟩=>⟨he,hb.os,hb.tape,hb.output,hb.size,fun j hj _=>hb.block j hj⟩
end Go.Proofs.YthockgmbooefpaaGreatDoor
