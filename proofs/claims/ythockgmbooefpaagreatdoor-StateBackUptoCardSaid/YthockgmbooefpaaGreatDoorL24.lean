/- What the law rests on, part 24. No condition but those that each theorem names. -/
import Derived.Test.YthockgmbooefpaaGreatDoorL01
import Derived.BigQuiet
import Derived.Deep.QuietTactic
import Derived.Test.YthockgmbooefpaaGreatDoorL03
import Derived.Deep.RegionHeld3
import Derived.Deep.RegionLaw
import Derived.Deep.DrawnRows
import Derived.BigRegion
import Derived.ChangeKeysEq
import Derived.Test.YthockgmbooefpaaGreatDoorL04
import Derived.Test.YthockgmbooefpaaGreatDoorL21
import Derived.RangeFuncNested
import Derived.RangeFuncBound
import Derived.RangeFuncCalls
import Derived.RangeFuncLeaves
import Derived.Shelf.Abstract
import Derived.Shelf.RegionOpen
import Derived.WalkKit
import Derived.OwnWalkIn
import Derived.TacticsInMore
import Derived.LoopNIn
import Derived.LoopIn
import Derived.Test.YthockgmbooefpaaGreatDoorL00
import Derived.Test.YthockgmbooefpaaGreatDoorL19
set_option linter.unusedSectionVars false
set_option linter.unusedSimpArgs false
set_option linter.unusedVariables false
set_option maxRecDepth 100000
set_option maxHeartbeats 2000000
namespace Go.Proofs.YthockgmbooefpaaGreatDoor
open Go.RowKit
def stepG (r:Nat):Nat→List Nat→List Nat→List Nat
 | t,c :: wd,a :: b :: s=>min (min (a+if c=r then 0 else 1) (b+1)) (t+1) :: stepG r (min (min (a+if c=r then 0 else 1) (b+1)) (t+1)) wd (b :: s)
 | _,_,_=>[]
def stepD (wd:List Nat) (s:List Nat) (r:Nat):List Nat:=(s.headD 0+1) :: stepG r (s.headD 0+1) wd s
theorem stepG_len (r:Nat):∀ (wd:List Nat) (t:Nat) (s:List Nat),s.length=wd.length+1→(stepG r t wd s).length=wd.length
 | [],t,s,h=>by
  cases s with
  | nil=>rfl
  | cons a s=>cases s<;>rfl
 | c :: wd,t,[],h=>by simp at h
 | c :: wd,t,[a],h=>by simp at h
 | c :: wd,t,a :: b :: s,h=>by
  simp only [stepG,List.length_cons]
  rw [stepG_len r wd _ (b :: s) (by simpa using h)]
theorem stepD_len {wd s:List Nat} (r:Nat) (h:s.length=wd.length+1):(stepD wd s r).length=wd.length+1:=by
 unfold stepD
 rw [List.length_cons,stepG_len r wd _ s h]
theorem fold_len {wd:List Nat}:∀ (text s:List Nat),s.length=wd.length+1→(text.foldl (stepD wd) s).length=wd.length+1
 | [],s,h=>h
 | r :: text,s,h=>fold_len text _ (stepD_len r h)
end Go.Proofs.YthockgmbooefpaaGreatDoor
namespace Go.Proofs.YthockgmbooefpaaGreatDoor
open Go.RowKit
theorem ONx.from {e size:Nat} {w w0 w1:World} {v:Value} {q:Nat} {xs:List Value} (h:ONx e size w0 w1 v q xs) (T:Touch (fun _=>False) w w0):ONx e size w w1 v q xs :=
 ⟨h.own,T.then h.touch,fun g hg=>Nat.le_trans T.size (h.fresh g hg)⟩
end Go.Proofs.YthockgmbooefpaaGreatDoor
namespace Go.Proofs.YthockgmbooefpaaGreatDoor
open Go.RowKit
def u8V (x:Nat):Value:=.int .u8 (x:Int)
def rowV (s:List Nat):Array Value:=((List.range 25).map fun j=>u8V (s.getD j 0)).toArray
theorem rowV_size (s:List Nat):(rowV s).size=25:=by simp [rowV]
def cutR' (o:Nat) (s:List Nat):List Nat:=s.map (min · o)
theorem blk_setCells {g:Nat} {t:TypeId}:∀ (vs:List Value) (o:Nat) (w:World) (cs:Array Value),Blk w g t cs→∃ cs',Blk (w.setCells g o vs) g t cs'∧cs'.size=cs.size
 | [],_,_,cs,h=>⟨cs,h,rfl⟩
 | v :: r,o,w,cs,h=>by
  obtain ⟨cs',h1,h2⟩:=blk_setCells r (o+1) _ _ (h.set_ o v)
  exact ⟨cs',h1,by rw [h2];simp⟩
theorem Blk.range {w:World} {g:Nat} {t:TypeId} {cs:Array Value} (h:Blk w g t cs):w.rangeAt g 0 cs.toList:=fun j v hv=>by
 rw [Nat.zero_add,h.cell]
 simpa using hv
theorem Blk.there {w:World} {g:Nat} {t:TypeId} {cs:Array Value} (h:Blk w g t cs) {n:Nat} (hn:n≤cs.size):w.there g 0 n:=fun j hj=>by
 rw [Nat.zero_add,h.cell]
 exact ⟨by simp;omega,h.frozen j⟩
theorem Blk.setAll {w:World} {g:Nat} {t:TypeId} {cs ds:Array Value} (h:Blk w g t cs) (hs:ds.size=cs.size):Blk (w.setCells g 0 ds.toList) g t ds:=by
 obtain ⟨cs',h1,h2⟩:=blk_setCells ds.toList 0 w cs h
 have e:cs'=ds:=by
  apply Array.ext_getElem?
  intro j
  rw [← h1.cell j]
  by_cases hj:j<ds.size
  ·have:=World.cell?_setCells_in g ds.toList 0 w (fun i hi=>((h.there (Nat.le_of_eq hs)) i (by simpa using hi)).1) j (by simpa using hj)
   rw [Nat.zero_add] at this
   rw [this]
   simp [hj]
  ·rw [h1.cell,Array.getElem?_eq_none (by omega),Array.getElem?_eq_none (by omega)]
 rw [e] at h1
 exact h1
theorem Blk.row {w:World} {g:Nat} {s:List Nat} (h:Blk w g 181 (rowV s)) (t:List Nat):Blk (w.setCells g 0 (rowV t).toList) g 181 (rowV t):=h.setAll (by rw [rowV_size,rowV_size])
structure LevM (w:World) (b:Nat) (A:Option Addr) (n c:Nat) (X:List Nat) (o:Nat):Prop where
 blk:Blk w b 252 (#[.slice A n c,u8V o]++rowV (List.replicate (n+1) o))
 rd:RdT w 21 1 A n (X.map runeV)
 len:X.length=n
 few:n≤24
 o1:1≤o
 o2:o≤4
theorem LevM.quiet {w w':World} {b:Nat} {A:Option Addr} {n c:Nat} {X:List Nat} {o:Nat} (h:LevM w b A n c X o) (T:Touch (fun _=>False) w w'):LevM w' b A n c X o :=
 ⟨h.blk.touch T (fun f=>f),h.rd.quiet T,h.len,h.few,h.o1,h.o2⟩
theorem LevM.cells {w:World} {b:Nat} {A:Option Addr} {n c:Nat} {X:List Nat} {o:Nat} (h:LevM w b A n c X o) :
  w.cell? ⟨b,0,none⟩=some (.slice A n c)∧w.cell? ⟨b,1,none⟩=some (.int .u8 (o:Int))∧b<w.heap.size:=by
 have h0:=h.blk.cell 0
 have h1:=h.blk.cell 1
 refine ⟨?_,?_,h.blk.lt⟩
 ·rw [h0,Array.getElem?_append_left (by simp)];rfl
 ·rw [h1,Array.getElem?_append_left (by simp)];rfl
end Go.Proofs.YthockgmbooefpaaGreatDoor
namespace Go.Proofs.YthockgmbooefpaaGreatDoor
open Go.RowKit
def min4 (x y z u:Int):Int:=min (min (min x y) z) u
theorem run_min_int4 {P:Program} (w:World) (ts:Array TypeId) (t:TypeId) (k k1 k2 k3:IntKind) (x y z u:Int):(Builtin.min_ ts t #[.int k x,.int k1 y,.int k2 z,.int k3 u]).run P w=.ok (.int k (min4 x y z u)) w:=by
 have e:∀ a b:Int,(if b<a then b else a)=min a b:=fun a b=>by
  rw [Int.min_def]
  split<;>split<;>omega
 simp [Builtin.min_,Builtin.min2,e,min4]
attribute [local go_sem] run_min_int4
end Go.Proofs.YthockgmbooefpaaGreatDoor
namespace Go.Proofs.YthockgmbooefpaaGreatDoor
open Go.RowKit Go.Shelf
attribute [local go_sem] Oper.semAt_some
theorem touch_below {B:Nat} {w0 W w':World} (h0:Touch (fun _=>False) w0 W) (h:Below B W w') (hB:w0.heap.size≤B):Touch (fun _=>False) w0 w' :=
 ⟨h.os.trans h0.os,h.tape.trans h0.tape,h.output.trans h0.output,Nat.le_trans h0.size h.size,fun k hk _=>(h.block k (Nat.lt_of_lt_of_le hk hB)).trans (h0.block k hk (fun f=>f))⟩
def upto {α:Type} (f:Nat→α) (k:Nat):List α:=(List.range k).map f
theorem upto_succ {α:Type} (f:Nat→α) (k:Nat):upto f (k+1)=upto f k++[f k]:=by simp [upto,List.range_succ]
theorem upto_length {α:Type} (f:Nat→α) (k:Nat):(upto f k).length=k:=by simp [upto]
def backF (L:List PRow) (j:Nat):Int × PRow:=(((L.length-1-j:Nat):Int),L.getD (L.length-1-j) PRow.zero)
def backEnc (x:Int × PRow):Array Value:=#[.int .i64 x.1,.agg #[.string x.2.word,.int .i64 x.2.weight]]
theorem back1_in (F:Fence) (n:Nat) (hf:F.fn 157) (hro:F.round=none) (hn:1≤n) (l Bs n0:Nat) (w0:World) (A:Option Addr) (len cap:Nat) (L:List PRow) (hL:L.length=len) (hR:Reads w0 2 A len (pCells L)) (hlen:len≤maxLen) (J Jx:List (Int × PRow)→World→Prop)
  (hY:∀ pre x W,J pre W→pre.length<len→YieldAt F (n-1) Tryz.prog l (backEnc x) W fun e W' =>
    (e=.returned (.bool true)∧J (pre++[x]) W'∧Below n0 W W')∨(e=.returned (.bool false)∧Jx (pre++[x]) W'))
  (W:World) (hW:Touch (fun _=>False) w0 W) (hbs:Bs<n0) (hn0:w0.heap.size≤n0) (hBs:W.cell? ⟨Bs,0,none⟩=some (.slice A len cap)) (h0:J [] W) :
  CallsIn F n Tryz.prog 157 #[.func (.yield l) #[] #[],.pointer (some ⟨Bs,0,none⟩)] W fun e W'=>(∃ v,e=.returned v) ∧
   ((∃ ys,ys=upto (backF L) len∧J ys W')∨(∃ pre,(∃ k,k≤len∧pre=upto (backF L) k)∧Jx pre W')):=by
 unfold maxLen at hlen
 have HR:=hide hR
 have HL:=hide hL
 have hw:IntKind.i64.wrap ((len:Int)-1)=(len:Int)-1:=IntWalk.i64_in _ (by omega)
 have HST:((len:Int)-1 = -1∧len=0)∨∃ i:Nat,(len:Int)-1=(i:Int)∧len=i+1:=by
  by_cases h:len=0
  ·exact .inl ⟨by omega,h⟩
  ·exact .inr ⟨len-1,by omega,by omega⟩
 have HST:=hide HST
 clear hR hL
 refine callsIn_of_wp Tryz.func157 rfl hf ?_ hro
 simp only [Tryz.ntmps157,List.size_toArray,List.length_cons,List.length_nil,Nat.reduceAdd,Nat.reduceSub,Array.replicate_succ,Array.replicate_zero,List.push_toArray,List.append_toArray,List.nil_append,List.cons_append]
 gi_wp2
 gi_loopw [3] (fun iv wr=>∃ (z:Int) (k m:Nat),iv=.int .i64 z∧Hid (k+m=len)∧Hid ((z = -1∧m=0)∨∃ i:Nat,z=(i:Int)∧m=i+1)∧Hid (J (upto (backF L) k) wr)∧Hid (Below n0 W wr)) (fun iv _=>(intOf iv+1).toNat)
 case atStart=>exact ⟨_,0,len,rfl,hide (Nat.zero_add _),HST,hide h0,hide (Below.refl _ _)⟩
 case round =>
  obtain ⟨z,k,m,rfl,HK,HZ,HJ,HB⟩:=hrel
  have c1:=(HB.out.cell (p:=⟨Bs,0,none⟩) hbs).trans hBs
  rcases HZ.out with ⟨rfl,rfl⟩ | ⟨i,rfl,rfl⟩
  ·clear HZ
   gi_wp2
   go_end0
   have hk:k=len:=by have:=HK.out;omega
   exact ⟨⟨_,rfl⟩,.inl ⟨_,rfl,by rw [← hk];exact HJ.out⟩⟩
  ·clear HZ
   have y0:¬ (i:Int)<0:=by omega
   have y1:(0:Int)≤(i:Int):=by omega
   have y2:i<len:=by have:=HK.out;omega
   have y3:(i:Int)<(len:Int):=by omega
   have y4:L.length-1-k=i:=by have:=HK.out;rw [HL.out];omega
   obtain ⟨g,o,hA,_,a0,a1⟩:=preads_at (HR.out.touch (touch_below hW HB.out hn0) (fun _ _ f=>f)) HL.out.symm i y2
   subst hA
   have hbf:backF L k=((i:Int),L.getD i PRow.zero):=by unfold backF;rw [y4]
   have hus:=upto_succ (backF L) k
   rw [hbf] at hus
   obtain ⟨⟨xw,xn⟩,hx⟩:∃ x,x=L.getD i PRow.zero:=⟨_,rfl⟩
   rw [← hx] at a0 a1 hus
   simp only at a0 a1
   have HUS:=hide hus
   clear hx hus hbf
   obtain ⟨fn,tmps,assign,body,hy,hR⟩:=hY _ ((i:Int),⟨xw,xn⟩) wr HJ.out (by rw [upto_length];have:=HK.out;omega)
   simp only [backEnc] at hy
   obtain ⟨z2,hz2⟩:∃ z2:Int,(i:Int)-1=z2:=⟨_,rfl⟩
   have hw2:IntKind.i64.wrap z2=z2:=IntWalk.i64_in _ (by omega)
   have HZ2:=hide hz2
   gi_wp2
   refine hR.mono ?_
   rintro e W3 (⟨rfl,hJ3,hk3⟩ | ⟨rfl,hJx3⟩)
   ·have HJ3:=hide hJ3
    have HK3:=hide hk3
    clear hJ3 hk3
    gi_wp2
    go_roundw
    case rel =>
     have hz2:=HZ2.out
     refine ⟨z2,k+1,i,rfl,hide (by have:=HK.out;omega),hide ?_,hide (by rw [HUS.out];exact HJ3.out),hide (HB.out.trans HK3.out)⟩
     by_cases hi0:i=0
     ·exact .inl ⟨by omega,hi0⟩
     ·exact .inr ⟨i-1,by omega,by omega⟩
    case measure =>
     have hz2:=HZ2.out
     show (z2+1).toNat<((i:Int)+1).toNat
     omega
   ·gi_wp2
    refine bodyPost_ret (results_none rfl _ _ _) rfl ?_
    exact ⟨⟨_,rfl⟩,.inr ⟨_,⟨k+1,by have:=HK.out;omega,HUS.out.symm⟩,hJx3⟩⟩
end Go.Proofs.YthockgmbooefpaaGreatDoor
namespace Go.Proofs.YthockgmbooefpaaGreatDoor
open Go.RowKit Go.Shelf
attribute [local go_sem] Oper.semAt_some
theorem backward_in (F:Fence) (n:Nat) (hf:F.fn 110) (hro:F.round=none) (a:Option Addr) (len cap:Nat) (w:World) :
  CallsIn F n Tryz.prog 110 #[.slice a len cap] w fun e w'=>e=.returned (.func (.func 157) #[] #[.pointer (some ⟨w.heap.size,0,none⟩)])∧w'=w.alloc (.cells #[.slice a len cap] 37):=by
 refine callsIn_of_wp Tryz.func110 rfl hf ?_ hro
 simp only [Tryz.ntmps110,List.size_toArray,List.length_cons,List.length_nil,Nat.reduceAdd,Nat.reduceSub,Array.replicate_succ,Array.replicate_zero,List.push_toArray,List.append_toArray,List.nil_append,List.cons_append]
 gi_wp2
 go_ret
 exact ⟨rfl,rfl⟩
theorem back_stops (F:Fence) (n:Nat) (hf:F.fn 157) (hro:F.round=none) (hn:1≤n) (Bs n0:Nat) (w0:World) (A:Option Addr) (len cap:Nat) (L:List PRow) (hL:L.length=len) (hR:Reads w0 2 A len (pCells L)) (hlen:len≤maxLen) (w:World) (hw:Touch (fun _=>False) w0 w) (hbs:Bs<n0) (hn0:n0≤w.heap.size) (h00:w0.heap.size≤n0) (hc:w.cell? ⟨Bs,0,none⟩=some (.slice A len cap)) :
  SeqStopsK F n Tryz.prog 157 #[.pointer (some ⟨Bs,0,none⟩)] backEnc (Below n0) (fun ys=>ys=upto (backF L) len) (fun pre=>∃ k,k≤len∧pre=upto (backF L) k) len w:=fun l J Jx W hW _ _ hY h0 =>
 back1_in F n hf hro hn l Bs n0 w0 A len cap L hL hR hlen J Jx hY W (touch_below hw hW hw.size) hbs h00 ((hW.cell (p:=⟨Bs,0,none⟩) (Nat.lt_of_lt_of_le hbs hn0)).trans hc) h0
theorem back_none (L:List PRow) (w:List UInt8):∀ k,k≤L.length→(∀ p∈upto (backF L) k,¬ p.2.word.toList=w)→key w (L.drop (L.length-k))=[]:=by
 intro k
 induction k with
 | zero=>intro _ _;rw [Nat.sub_zero,List.drop_length];rfl
 | succ k ih =>
  intro hk h
  rw [upto_succ] at h
  have h1:=ih (by omega) (fun p hp=>h p (List.mem_append_left _ hp))
  have h2:=h (backF L k) (by simp)
  have e1:L.length-1-k=L.length-(k+1):=by omega
  unfold backF at h2
  rw [e1] at h2
  refine find_miss (by omega) w h2 ?_
  rw [show L.length-(k+1)+1=L.length-k by omega]
  exact h1
theorem back_miss (L:List PRow) (w:List UInt8) (h:∀ p∈upto (backF L) L.length,¬ p.2.word.toList=w):findP w L=(0,false):=by
 have h1:=back_none L w L.length (Nat.le_refl _) h
 rw [Nat.sub_self,List.drop_zero] at h1
 unfold findP
 rw [h1]
 rfl
theorem back_hit (L:List PRow) (w:List UInt8) {k:Nat} (hk:k≤L.length) {ini:List (Int × PRow)} {last:Int × PRow} (he:upto (backF L) k=ini++[last]) (hi:∀ p∈ini,¬ p.2.word.toList=w) (hl:last.2.word.toList=w):findP w L=(last.2.weight,true):=by
 cases k with
 | zero=>simp [upto] at he
 | succ k =>
  rw [upto_succ] at he
  obtain ⟨h1,h2⟩:=List.append_inj' he rfl
  simp only [List.cons.injEq,and_true] at h2
  have h3:=back_none L w k (by omega) (by rw [h1];exact hi)
  have e1:L.length-1-k=L.length-(k+1):=by omega
  rw [← h2] at hl ⊢
  unfold backF at hl ⊢
  rw [e1] at hl ⊢
  exact find_hit (by omega) w hl (by rw [show L.length-(k+1)+1=L.length-k by omega];exact h3)
theorem find_in (F:Fence) (n:Nat) (h1f:F.fn 44) (h2f:F.fn 110) (h3f:F.fn 157) (hro:F.round=none) (hn:3≤n) (w:World) (A:Option Addr) (len cap:Nat) (L:List PRow) (hL:L.length=len) (hR:Reads w 2 A len (pCells L)) (hlen:len≤maxLen) (k:ByteArray) :
  CallsIn F n Tryz.prog 44 #[.slice A len cap,.string k] w fun e w'=>e=.returned (.tuple #[.int .i64 (findP k.toList L).1,.bool (findP k.toList L).2])∧Below w.heap.size w w':=by
 have h1:1≤n:=by omega
 refine callsIn_of_wp_marks Tryz.func44 rfl h1f ?_ hro
 simp only [Tryz.ntmps44,List.size_toArray,List.length_cons,List.length_nil,Nat.reduceAdd,Nat.reduceSub,Array.replicate_succ,Array.replicate_zero,List.push_toArray,List.append_toArray,List.nil_append,List.cons_append]
 gi_wp2_with (gi_at_call 110;refine (backward_in F (n-1) h2f hro _ _ _ _).mono ?_;rintro e w' ⟨rfl,rfl⟩)
 have hk0:=((Boxed.new w 9 (.string k)).alloc (.cells #[.int .i64 0] 3)).alloc (.cells #[.bool false] 4) |>.alloc (.cells #[.slice A len cap] 37)
 have hk1:=((Boxed.new (w.alloc (.cells #[.string k] 9)) 3 (.int .i64 0)).alloc (.cells #[.bool false] 4)).alloc (.cells #[.slice A len cap] 37)
 have hk2:=(Boxed.new ((w.alloc (.cells #[.string k] 9)).alloc (.cells #[.int .i64 0] 3)) 4 (.bool false)).alloc (.cells #[.slice A len cap] 37)
 have hk3:=Boxed.new (((w.alloc (.cells #[.string k] 9)).alloc (.cells #[.int .i64 0] 3)).alloc (.cells #[.bool false] 4)) 37 (.slice A len cap)
 have hT0:Touch (fun _=>False) w ((((w.alloc (.cells #[.string k] 9)).alloc (.cells #[.int .i64 0] 3)).alloc (.cells #[.bool false] 4)).alloc (.cells #[.slice A len cap] 37)):=((((Touch.refl _ w).alloc _).alloc _).alloc _).alloc _
 have hsz:((((w.alloc (.cells #[.string k] 9)).alloc (.cells #[.int .i64 0] 3)).alloc (.cells #[.bool false] 4)).alloc (.cells #[.slice A len cap] 37)).heap.size=w.heap.size+1+1+1+1:=by simp
 simp only [World.size_alloc] at hk1 hk2 hk3
 obtain ⟨W0,hW0⟩:∃ W0,(((w.alloc (.cells #[.string k] 9)).alloc (.cells #[.int .i64 0] 3)).alloc (.cells #[.bool false] 4)).alloc (.cells #[.slice A len cap] 37)=W0:=⟨_,rfl⟩
 rw [hW0] at hk0 hk1 hk2 hk3 hT0 hsz ⊢
 clear hW0
 have hB0:Below w.heap.size w W0:=hT0.below (Nat.le_refl _) (fun _ _ f=>f)
 refine wpIn_rangeFunc_ownH hro h1 (gf := 157) (lb:=#[.pointer (some ⟨w.heap.size+1+1+1,0,none⟩)]) rfl h3f (enters_of Tryz.func157 (by kernel_rfl) rfl)
  (back_stops F (n-1) h3f hro (by omega) (w.heap.size+1+1+1) (w.heap.size+1+1+1+1) w A len cap L hL hR hlen W0 hT0 (by omega) (by omega) (by omega) hk3.cell) belowK_t (belowK_b (by omega)) (Below.refl _ _) (fun _=>rfl)
  (fun pre W=>((Boxed W w.heap.size 9 (.string k)∧Boxed W (w.heap.size+1) 3 (.int .i64 0))∧(Boxed W (w.heap.size+1+1) 4 (.bool false)∧(Boxed W (w.heap.size+1+1+1) 37 (.slice A len cap)∧∀ p∈pre,¬ p.2.word.toList=k.toList)))∧Below w.heap.size w W)
  (fun c pre W=>(c=.ret∧∃ ini last,pre=ini++[last]∧(∀ p∈ini,¬ p.2.word.toList=k.toList)∧last.2.word.toList=k.toList∧Boxed W (w.heap.size+1) 3 (.int .i64 last.2.weight)∧Boxed W (w.heap.size+1+1) 4 (.bool true))∧Below w.heap.size w W)
  (OwnFrom.and (OwnFrom.and (OwnFrom.and (Own.from (boxed_own _ _ _) _) (Own.from (boxed_own _ _ _) _)) (OwnFrom.and (Own.from (boxed_own _ _ _) _) (OwnFrom.and (Own.from (boxed_own _ _ _) _) (ownFrom_pure _ _)))) (ownFrom_below (Nat.le_refl _) (by omega)))
  (fun c=>OwnFrom.and (Own.from (fun s X Y row hs hg hr=>by
    obtain ⟨hc,ini,last,e1,e2,e3,e4,e5⟩:=hs
    exact ⟨hc,ini,last,e1,e2,e3,boxed_own _ _ (fun (_:Unit)=>Value.int .i64 last.2.weight) () X Y row e4 hg hr,boxed_own _ _ (fun (_:Unit)=>Value.bool true) () X Y row e5 hg hr⟩) _) (ownFrom_below (Nat.le_refl _) (by omega)))
  ⟨⟨⟨hk0,hk1⟩,hk2,hk3,by simp⟩,hB0⟩
  (fun x a' W=>∃ Bx,w.heap.size+1+1<Bx∧(W.cell? ⟨Bx,0,none⟩=some (.string x.2.word)∧W.cell? ⟨Bx,1,none⟩=some (.int .i64 x.2.weight))∧a'={ tmps:=#[.slice A len cap,.string k,undef,.pointer (some ⟨w.heap.size,0,none⟩),.pointer (some ⟨w.heap.size+1,0,none⟩),.pointer (some ⟨w.heap.size+1+1,0,none⟩),undef,.pointer (some ⟨Bx,0,none⟩),.slice A len cap,.func (.func 157) #[] #[.pointer (some ⟨w.heap.size+1+1+1,0,none⟩)],.int .i64 x.1,.agg #[.string x.2.word,.int .i64 x.2.weight],undef,undef,undef,undef,undef,undef],defers:=[] })
  (fun x a' _ X Y row hs hg hr=>by
    obtain ⟨Bx,e1,e2,e3⟩:=hs
    exact ⟨Bx,e1,⟨cell_kept e2.1 hg (fun r e=>(hr r e).2),cell_kept e2.2 hg (fun r e=>(hr r e).2)⟩,e3⟩)
  ?assign ?body ?done ?stop
 case assign =>
  rintro l pre ⟨i,⟨xw,xn⟩⟩ W K ⟨⟨⟨b0,b1⟩,b2,b3,hp⟩,hB⟩ hK
  simp only [backEnc]
  gi_wp2
  refine hK _ _ ((KeepsOthers.alloc _ _).from _) ((Below.refl _ W).alloc b3.lt _) ⟨⟨⟨b0.alloc _,b1.alloc _⟩,b2.alloc _,b3.alloc _,hp⟩,hB.alloc hB.size _⟩ ⟨W.heap.size,b2.lt,⟨?_,?_⟩,rfl⟩
  ·unfold World.cell?;rw [World.alloc_heap_new];rfl
  ·unfold World.cell?;rw [World.alloc_heap_new];rfl
 case body =>
  rintro l pre ⟨i,⟨xw,xn⟩⟩ a' W hl ⟨r,hr⟩ ⟨⟨⟨b0,b1⟩,b2,b3,hp⟩,hB⟩ ⟨Bx,hBx,⟨c0,c1⟩,rfl⟩ hlt
  simp only at c0 c1
  have d0:=b0.cell
  have f1:=b1.frozen
  have f2:=b2.frozen
  have d1:=b1.cell
  have d2:=b2.cell
  by_cases hk:xw.toList=k.toList
  ·have q2:(xw.toList == k.toList)=true:=by simp [hk]
   gi_wp2
   have e1:=(b1.set (.int .i64 xn)).other (B':=w.heap.size+1+1) (by omega) (.bool true)
   have e2:=(b2.other (B':=w.heap.size+1) (by omega) (.int .i64 xn)).set (.bool true)
   exact ⟨((KeepsOthers.setCell _ _ _).trans (KeepsOthers.setCell _ _ _)).from _,⟨rfl,pre,(i,⟨xw,xn⟩),rfl,hp,hk,e1,e2⟩,(hB.setCell (p:=⟨w.heap.size+1,0,none⟩) (by simp) _).setCell (p:=⟨w.heap.size+1+1,0,none⟩) (by simp;omega) _⟩
  ·have q2:(xw.toList == k.toList)=false:=by simp [hk]
   have q3:decide (xw.toList=k.toList)=false:=by simp [hk]
   gi_wp2
   exact ⟨KeepsFrom.refl _ _,Below.refl _ _,⟨⟨b0,b1⟩,b2,b3,fun p hp'=>(List.mem_append.1 hp').elim (hp p) (fun e=>by simp at e;subst e;exact hk)⟩,hB⟩
 case done =>
  rintro D ys W hD rfl ⟨⟨⟨b0,b1⟩,b2,b3,hp⟩,hB⟩ hK
  have hfm:=back_miss L k.toList (by rw [hL];exact hp)
  have f1:=b1.frozen
  have f2:=b2.frozen
  have d1:=b1.cell
  have d2:=b2.cell
  gi_wp2
  have e1:=(b1.set (.int .i64 0)).other (B':=w.heap.size+1+1) (by omega) (.bool false)
  have e2:=(b2.other (B':=w.heap.size+1) (by omega) (.int .i64 0)).set (.bool false)
  have hK':=((KeepsOthers.setCell W ⟨w.heap.size+1,0,none⟩ (.int .i64 0)).trans (KeepsOthers.setCell _ ⟨w.heap.size+1+1,0,none⟩ (.bool false))).same D _ hK rfl
  refine ⟨by simp,.inl ⟨_,_,rfl,run_takeDeferred hK',?_⟩⟩
  have g1:=cell_kept e1.cell (grownBy_putObj' _ D (.deferred none)) (fun r e=>by cases e;exact ⟨_,hK',rfl⟩)
  have g2:=cell_kept e2.cell (grownBy_putObj' _ D (.deferred none)) (fun r e=>by cases e;exact ⟨_,hK',rfl⟩)
  refine ⟨.tuple #[.int .i64 0,.bool false],?_,by rw [hfm],((hB.setCell (p:=⟨w.heap.size+1,0,none⟩) (by simp) _).setCell (p:=⟨w.heap.size+1+1,0,none⟩) (by simp;omega) _).trans (belowK_b (w:=w) (Nat.le_refl _) _ D _ _ (by omega) hK' rfl rfl)⟩
  simp [results,Tryz.f44,go_sem,g1,g2]
 case stop =>
  rintro D c pre W hD ⟨k',hk',rfl⟩ ⟨⟨rfl,ini,last,e1,e2,e3,e4,e5⟩,hB⟩ hK
  have hfm:=back_hit L k.toList (by rw [hL];exact hk') e1 e2 e3
  gi_wp2
  refine ⟨by simp,.inl ⟨_,_,rfl,run_takeDeferred hK,?_⟩⟩
  have g1:=cell_kept e4.cell (grownBy_putObj' _ D (.deferred none)) (fun r e=>by cases e;exact ⟨_,hK,rfl⟩)
  have g2:=cell_kept e5.cell (grownBy_putObj' _ D (.deferred none)) (fun r e=>by cases e;exact ⟨_,hK,rfl⟩)
  refine ⟨.tuple #[.int .i64 last.2.weight,.bool true],?_,by rw [hfm],hB.trans (belowK_b (w:=w) (Nat.le_refl _) W D _ _ (by omega) hK rfl rfl)⟩
  simp [results,Tryz.f44,go_sem,g1,g2]
theorem pfind_any (w:World) (A:Option Addr) (n c:Nat) (L:List PRow) (hL:L.length=n) (hR:Reads w 2 A n (pCells L)) (hn:n≤maxLen) (k:ByteArray) :
  Calls Tryz.prog 44 #[.slice A n c,.string k] w fun e w'=>e=.returned (.tuple #[.int .i64 (findP k.toList L).1,.bool (findP k.toList L).2])∧Touch (fun _=>False) w w' :=
 (callsIn_wide.1 (find_in Fence.wide 3 trivial trivial trivial rfl (Nat.le_refl _) w A n c L hL hR hn k)).mono fun _ _ ⟨he,hb⟩=>⟨he,hb.os,hb.tape,hb.output,hb.size,fun j hj _=>hb.block j hj⟩
end Go.Proofs.YthockgmbooefpaaGreatDoor
namespace Go.Proofs.YthockgmbooefpaaGreatDoor
open Go.RowKit
variable [Inhabited BaseT]
def rstF (sts:List StP):Nat→Nat→Rs
 | 0,_=>[]
 | f+1,i=>(if (sts.getD i noSt).fin=true then [([],(sts.getD i noSt).out)] else [])++(sts.getD i noSt).arcs.flatMap fun a=>(rstF sts f a.2.2).map fun r=>(a.1 :: r.1,r.2+a.2.1)
def rst (sts:List StP) (i:Nat):Rs:=rstF sts (i+1) i
def Down (sts:List StP):Prop:=∀ i,i<sts.length→∀ a∈(sts.getD i noSt).arcs,a.2.2<i
theorem flatMap_congr' {α β:Type} {f g:α→List β}:∀ {l:List α},(∀ a∈l,f a=g a)→l.flatMap f=l.flatMap g
 | [],_=>rfl
 | a :: l,h=>by rw [List.flatMap_cons,List.flatMap_cons,h a List.mem_cons_self,flatMap_congr' fun b hb=>h b (List.mem_cons_of_mem _ hb)]
theorem rstF_fuel {sts:List StP} (hd:Down sts):∀ (f i g:Nat),i<f→i<sts.length→f≤g→rstF sts g i=rstF sts f i
 | 0,_,_,h,_,_=>absurd h (Nat.not_lt_zero _)
 | f+1,i,g,hi,hl,hg=>by
  obtain ⟨g,rfl⟩:∃ k,g=k+1:=⟨g-1,by omega⟩
  simp only [rstF]
  congr 1
  refine flatMap_congr' fun a ha=>?_
  have:=hd i hl a ha
  rw [rstF_fuel hd f a.2.2 g (by omega) (by omega) (by omega)]
theorem rst_eq {sts:List StP} (hd:Down sts) {i:Nat} (hi:i<sts.length):rst sts i=(if (sts.getD i noSt).fin=true then [([],(sts.getD i noSt).out)] else [])++(sts.getD i noSt).arcs.flatMap fun a=>(rst sts a.2.2).map fun r=>(a.1 :: r.1,r.2+a.2.1):=by
 have h:rst sts i=(if (sts.getD i noSt).fin=true then [([],(sts.getD i noSt).out)] else [])++(sts.getD i noSt).arcs.flatMap fun a=>(rstF sts i a.2.2).map fun r=>(a.1 :: r.1,r.2+a.2.1):=rfl
 rw [h]
 congr 1
 refine flatMap_congr' fun a ha=>?_
 have:=hd i hi a ha
 show (rstF sts i a.2.2).map _=(rstF sts (a.2.2+1) a.2.2).map _
 rw [rstF_fuel hd (a.2.2+1) a.2.2 i (by omega) (by omega) (by omega)]
section
variable {sts:List StP}
theorem mem_rst_cons (hd:Down sts) {i:Nat} (hi:i<sts.length) {c:Nat} {t:List Nat} {n:Int}:(c :: t,n)∈rst sts i↔∃ a∈(sts.getD i noSt).arcs,a.1=c∧(t,n-a.2.1)∈rst sts a.2.2:=by
 rw [rst_eq hd hi,List.mem_append,List.mem_flatMap]
 constructor
 ·rintro (h | ⟨a,ha,h⟩)
  ·split at h<;>simp at h
  ·obtain ⟨r,hr,he⟩:=List.mem_map.1 h
   simp only [Prod.mk.injEq,List.cons.injEq] at he
   obtain ⟨⟨h1,h2⟩,h3⟩:=he
   refine ⟨a,ha,h1,?_⟩
   rw [← h2,show n-a.2.1=r.2 by omega]
   exact hr
 ·rintro ⟨a,ha,rfl,h⟩
  right
  refine ⟨a,ha,List.mem_map.2 ⟨_,h,?_⟩⟩
  simp only [Prod.mk.injEq,true_and]
  omega
theorem form_down (hf:∀ i,i<sts.length→FormP i (sts.getD i noSt)):Down sts:=fun i hi a ha=>((hf i hi).arc a ha).2.2
end
end Go.Proofs.YthockgmbooefpaaGreatDoor
namespace Go.Proofs.YthockgmbooefpaaGreatDoor
open Go.RowKit
variable [Inhabited BaseT]
section
variable {sts:List StP}
end
end Go.Proofs.YthockgmbooefpaaGreatDoor
namespace Go.Proofs.YthockgmbooefpaaGreatDoor
open Go.RowKit
theorem stepG_dead (r o:Nat):∀ (wd:List Nat) (t:Nat) (s:List Nat),o≤t+1→(∀ x∈s,o≤x)→∀ x∈stepG r t wd s,o≤x
 | [],t,s,_,_,x,hx=>by
  cases s with
  | nil=>cases hx
  | cons a s=>cases s<;>cases hx
 | c :: wd,t,[],_,_,x,hx=>by cases hx
 | c :: wd,t,[a],_,_,x,hx=>by cases hx
 | c :: wd,t,a :: b :: s,ht,h,x,hx=>by
  have ha:=h a List.mem_cons_self
  have hb:=h b (List.mem_cons_of_mem _ List.mem_cons_self)
  simp only [stepG,List.mem_cons] at hx
  have hm:o≤min (min (a+if c=r then 0 else 1) (b+1)) (t+1):=by omega
  rcases hx with rfl | hx
  ·exact hm
  ·exact stepG_dead r o wd _ (b :: s) (by omega) (fun y hy=>h y (List.mem_cons_of_mem _ hy)) x hx
theorem stepD_dead {wd s:List Nat} {o:Nat} (r:Nat) (hs:s≠[]) (h:∀ x∈s,o≤x):∀ x∈stepD wd s r,o≤x:=by
 intro x hx
 cases s with
 | nil=>exact absurd rfl hs
 | cons a s =>
  have ha:=h a List.mem_cons_self
  simp only [stepD,List.headD_cons,List.mem_cons] at hx
  rcases hx with rfl | hx
  ·omega
  ·exact stepG_dead r o wd _ (a :: s) (by omega) h x hx
theorem fold_dead {wd:List Nat} {o:Nat}:∀ (text s:List Nat),s.length=wd.length+1→(∀ x∈s,o≤x)→∀ x∈text.foldl (stepD wd) s,o≤x
 | [],s,_,h=>h
 | r :: text,s,hl,h=>fold_dead text _ (stepD_len r hl) (stepD_dead r (fun e=>by rw [e] at hl;simp at hl) h)
theorem lastD_mem {s:List Nat} (h:s≠[]):s.getLastD 0∈s:=by
 rw [List.getLastD_eq_getLast?,List.getLast?_eq_some_getLast h]
 exact List.getLast_mem h
theorem filterMap_congr' {α β:Type} {f g:α→Option β}:∀ {l:List α},(∀ a∈l,f a=g a)→l.filterMap f=l.filterMap g
 | [],_=>rfl
 | a :: l,h=>by rw [List.filterMap_cons,List.filterMap_cons,h a List.mem_cons_self,filterMap_congr' fun b hb=>h b (List.mem_cons_of_mem _ hb)]
abbrev FzHit:=List Nat × Int × Nat
def hitF (wd:List Nat) (o:Nat) (s head:List Nat) (sum:Int) (r:List Nat × Int):Option FzHit :=
 if (r.1.foldl (stepD wd) s).getLastD 0<o then some (head++r.1,sum+r.2,(r.1.foldl (stepD wd) s).getLastD 0) else none
def fzF (sts:List StP) (wd:List Nat) (o:Nat):Nat→Nat→List Nat→Int→List Nat→List FzHit
 | 0,_,_,_,_=>[]
 | f+1,i,head,sum,s=>if s.all (fun x=>decide (o≤x))=true then [] else
   (if (sts.getD i noSt).fin=true∧s.getLastD 0<o then [(head,sum+(sts.getD i noSt).out,s.getLastD 0)] else []) ++
   (sts.getD i noSt).arcs.flatMap fun a=>fzF sts wd o f a.2.2 (head++[a.1]) (sum+a.2.1) (stepD wd s a.1)
section
variable [Inhabited BaseT]
theorem fz_rst {sts:List StP} (hd:Down sts) (wd:List Nat) (o:Nat):∀ (f i:Nat) (head:List Nat) (sum:Int) (s:List Nat),i<f→i<sts.length→s.length=wd.length+1 →
  fzF sts wd o f i head sum s=(rst sts i).filterMap (hitF wd o s head sum)
 | 0,_,_,_,_,h,_,_=>absurd h (Nat.not_lt_zero _)
 | f+1,i,head,sum,s,hi,hl,hs=>by
  have hne:s≠[]:=fun e=>by rw [e] at hs;simp at hs
  simp only [fzF]
  by_cases hdead:s.all (fun x=>decide (o≤x))=true
  ·rw [if_pos hdead]
   have hall:∀ x∈s,o≤x:=fun x hx=>of_decide_eq_true (List.all_eq_true.1 hdead x hx)
   symm
   rw [List.filterMap_eq_nil_iff]
   intro r _
   have h1:=fold_dead r.1 s hs hall
   have h2:=lastD_mem (s:=r.1.foldl (stepD wd) s) (fun e=>by have:=fold_len r.1 s hs;rw [e] at this;simp at this)
   have:=h1 _ h2
   unfold hitF
   rw [if_neg (by omega)]
  ·rw [if_neg hdead,rst_eq hd hl,List.filterMap_append]
   congr 1
   ·by_cases hf:(sts.getD i noSt).fin=true
    ·rw [if_pos hf]
     simp only [List.filterMap_cons,List.filterMap_nil,hitF,List.foldl_nil,List.append_nil]
     by_cases hlt:s.getLastD 0<o
     ·rw [if_pos ⟨hf,hlt⟩,if_pos hlt]
     ·rw [if_neg (fun h=>hlt h.2),if_neg hlt]
    ·rw [if_neg hf,if_neg (fun h=>hf h.1)]
     rfl
   ·rw [List.filterMap_flatMap]
    refine flatMap_congr' fun a ha=>?_
    have hai:=hd i hl a ha
    rw [fz_rst hd wd o f a.2.2 (head++[a.1]) (sum+a.2.1) (stepD wd s a.1) (by omega) (by omega) (stepD_len _ hs),List.filterMap_map]
    refine filterMap_congr' fun r _=>?_
    simp only [Function.comp,hitF,List.foldl_cons,List.append_assoc,List.singleton_append]
    have e:sum+a.2.1+r.2=sum+(r.2+a.2.1):=by omega
    rw [e]
    first | done | rfl
end
end Go.Proofs.YthockgmbooefpaaGreatDoor
namespace Go.Proofs.YthockgmbooefpaaGreatDoor
open Go.RowKit
def tabG (r:Nat):Nat→List Nat→List Nat→List Nat
 | t,c :: wd,a :: b :: s=>(if c=r then a else 1+min (min a b) t) :: tabG r (if c=r then a else 1+min (min a b) t) wd (b :: s)
 | _,_,_=>[]
def tabD (wd:List Nat) (s:List Nat) (r:Nat):List Nat:=(s.headD 0+1) :: tabG r (s.headD 0+1) wd s
end Go.Proofs.YthockgmbooefpaaGreatDoor
namespace Go.Proofs.YthockgmbooefpaaGreatDoor
open Go.RowKit
variable [Inhabited BaseT]
structure FzIt where
 i:Nat
 head:List Nat
 sum:Int
 row:List Nat
def FzIt.Ok (sts:List StP) (wd:List Nat) (t:FzIt):Prop:=t.i<sts.length∧t.row.length=wd.length+1
def fzDead (o:Nat) (t:FzIt):Bool:=t.row.all fun x=>decide (o≤x)
def fzHit (sts:List StP) (o:Nat) (t:FzIt):List FzHit :=
 if fzDead o t=true then [] else if (sts.getD t.i noSt).fin=true∧t.row.getLastD 0<o then [(t.head,t.sum+(sts.getD t.i noSt).out,t.row.getLastD 0)] else []
def fzKids (sts:List StP) (wd:List Nat) (o:Nat) (t:FzIt):List FzIt :=
 if fzDead o t=true then [] else (sts.getD t.i noSt).arcs.map fun a=>⟨a.2.2,t.head++[a.1],t.sum+a.2.1,stepD wd t.row a.1⟩
def fzI (sts:List StP) (wd:List Nat) (o:Nat) (t:FzIt):List FzHit:=(rst sts t.i).filterMap (hitF wd o t.row t.head t.sum)
theorem fzI_eq {sts:List StP} (hd:Down sts) {wd:List Nat} {o:Nat} {t:FzIt} (h:t.Ok sts wd):fzI sts wd o t=fzHit sts o t++(fzKids sts wd o t).flatMap (fzI sts wd o):=by
 have h1:=fz_rst hd wd o (t.i+1) t.i t.head t.sum t.row (Nat.lt_succ_self _) h.1 h.2
 unfold fzI
 rw [← h1]
 simp only [fzF,fzHit,fzKids]
 by_cases hdead:fzDead o t=true
 ·have h2:t.row.all (fun x=>decide (o≤x))=true:=hdead
  rw [if_pos hdead,if_pos hdead,if_pos h2]
  rfl
 ·have h2:¬ t.row.all (fun x=>decide (o≤x))=true:=hdead
  rw [if_neg hdead,if_neg hdead,if_neg h2]
  congr 1
  rw [List.flatMap_map]
  refine flatMap_congr' fun a ha=>?_
  have hai:=hd t.i h.1 a ha
  exact fz_rst hd wd o t.i a.2.2 _ _ _ hai (by have:=h.1;omega) (stepD_len _ h.2)
def nzF (sts:List StP):Nat→Nat→Nat
 | 0,_=>0
 | f+1,i=>1+((sts.getD i noSt).arcs.map fun a=>nzF sts f a.2.2).sum
def nz (sts:List StP) (i:Nat):Nat:=nzF sts (i+1) i
theorem nzF_fuel {sts:List StP} (hd:Down sts):∀ (f i g:Nat),i<f→i<sts.length→f≤g→nzF sts g i=nzF sts f i
 | 0,_,_,h,_,_=>absurd h (Nat.not_lt_zero _)
 | f+1,i,g,hi,hl,hg=>by
  obtain ⟨g,rfl⟩:∃ k,g=k+1:=⟨g-1,by omega⟩
  simp only [nzF]
  congr 2
  refine List.map_congr_left fun a ha=>?_
  have hai:=hd i hl a ha
  exact nzF_fuel hd f a.2.2 g (by omega) (by omega) (by omega)
theorem nz_eq {sts:List StP} (hd:Down sts) {i:Nat} (hl:i<sts.length):nz sts i=1+((sts.getD i noSt).arcs.map fun a=>nz sts a.2.2).sum:=by
 unfold nz
 conv=>lhs;unfold nzF
 congr 2
 refine List.map_congr_left fun a ha=>?_
 have hai:=hd i hl a ha
 exact nzF_fuel hd (a.2.2+1) a.2.2 i (by omega) (by omega) (by omega)
def nzL (sts:List StP) (l:List FzIt):Nat:=(l.map fun t=>nz sts t.i).sum
theorem nz_kids {sts:List StP} (hd:Down sts) {wd:List Nat} {o:Nat} {t:FzIt} (h:t.Ok sts wd):nzL sts (fzKids sts wd o t)<nz sts t.i:=by
 rw [nz_eq hd h.1]
 unfold nzL fzKids
 split
 ·simp
  omega
 ·rw [List.map_map]
  have e:((sts.getD t.i noSt).arcs.map ((fun t:FzIt=>nz sts t.i) ∘ fun a=>(⟨a.2.2,t.head++[a.1],t.sum+a.2.1,stepD wd t.row a.1⟩:FzIt)))=(sts.getD t.i noSt).arcs.map fun a=>nz sts a.2.2:=rfl
  rw [e]
  omega
theorem nzL_app (sts:List StP) (l m:List FzIt):nzL sts (l++m)=nzL sts l+nzL sts m:=by simp [nzL]
theorem nzL_reverse (sts:List StP) (l:List FzIt):nzL sts l.reverse=nzL sts l:=by
 unfold nzL
 rw [List.map_reverse,List.sum_reverse]
end Go.Proofs.YthockgmbooefpaaGreatDoor
