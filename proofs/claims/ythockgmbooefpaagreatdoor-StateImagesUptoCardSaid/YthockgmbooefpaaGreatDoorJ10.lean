/- What the law rests on, part 10. No condition but those that each theorem names. -/
import Derived.RangeFuncNested
import Derived.RangeFuncBound
import Derived.RangeFuncCalls
import Derived.RangeFuncLeaves
import Derived.Shelf.Abstract
import Derived.Shelf.RegionOpen
import Derived.WalkKit
import Derived.OwnWalkIn
import Derived.TacticsInMore
import Derived.LoopNIn
import Derived.LoopIn
import Derived.Test.YthockgmbooefpaaGreatDoorJ00
import Derived.Test.YthockgmbooefpaaGreatDoorJ06
set_option linter.unusedSectionVars false
set_option linter.unusedSimpArgs false
set_option linter.unusedVariables false
namespace Go.Proofs.YthockgmbooefpaaGreatDoor
open Go.RowKit Go.Shelf
attribute [local go_sem] Oper.semAt_some
theorem touch_below {B:Nat} {w0 W w':World} (h0:Touch (fun _=>False) w0 W) (h:Below B W w') (hB:w0.heap.size≤B):Touch (fun _=>False) w0 w' :=
 ⟨h.os.trans h0.os,h.tape.trans h0.tape,h.output.trans h0.output,Nat.le_trans h0.size h.size,fun k hk _=>(h.block k (Nat.lt_of_lt_of_le hk hB)).trans (h0.block k hk (fun f=>f))⟩
def upto {α:Type} (f:Nat→α) (k:Nat):List α:=(List.range k).map f
theorem upto_succ {α:Type} (f:Nat→α) (k:Nat):upto f (k+1)=upto f k++[f k]:=by simp [upto,List.range_succ]
theorem upto_length {α:Type} (f:Nat→α) (k:Nat):(upto f k).length=k:=by simp [upto]
def backF (L:List PRow) (j:Nat):Int × PRow:=(((L.length-1-j:Nat):Int),L.getD (L.length-1-j) PRow.zero)
def backEnc (x:Int × PRow):Array Value:=#[.int .i64 x.1,.agg #[.string x.2.word,.int .i64 x.2.weight]]
set_option maxRecDepth 100000 in
set_option maxHeartbeats 2000000 in
theorem back1_in (F:Fence) (n:Nat) (hf:F.fn 157) (hro:F.round=none) (hn:1≤n) (l Bs n0:Nat) (w0:World) (A:Option Addr) (len cap:Nat) (L:List PRow) (hL:L.length=len) (hR:Reads w0 2 A len (pCells L)) (hlen:len≤maxLen) (J Jx:List (Int × PRow)→World→Prop)
  (hY:∀ pre x W,J pre W→pre.length<len→YieldAt F (n-1) Tryz.prog l (backEnc x) W fun e W' =>
    (e=.returned (.bool true)∧J (pre++[x]) W'∧Below n0 W W')∨(e=.returned (.bool false)∧Jx (pre++[x]) W'))
  (W:World) (hW:Touch (fun _=>False) w0 W) (hbs:Bs<n0) (hn0:w0.heap.size≤n0) (hBs:W.cell? ⟨Bs,0,none⟩=some (.slice A len cap)) (h0:J [] W) :
  CallsIn F n Tryz.prog 157 #[.func (.yield l) #[] #[],.pointer (some ⟨Bs,0,none⟩)] W fun e W'=>(∃ v,e=.returned v) ∧
   ((∃ ys,ys=upto (backF L) len∧J ys W')∨(∃ pre,(∃ k,k≤len∧pre=upto (backF L) k)∧Jx pre W')):=by
 unfold maxLen at hlen
 have HR:=hide hR
 have HL:=hide hL
 have hw:IntKind.i64.wrap ((len:Int)-1)=(len:Int)-1:=IntWalk.i64_in _ (by omega)
 have HST:((len:Int)-1 = -1∧len=0)∨∃ i:Nat,(len:Int)-1=(i:Int)∧len=i+1:=by
  by_cases h:len=0
  ·exact .inl ⟨by omega,h⟩
  ·exact .inr ⟨len-1,by omega,by omega⟩
 have HST:=hide HST
 clear hR hL
 refine callsIn_of_wp Tryz.func157 rfl hf ?_ hro
 simp only [Tryz.ntmps157,List.size_toArray,List.length_cons,List.length_nil,Nat.reduceAdd,Nat.reduceSub,Array.replicate_succ,Array.replicate_zero,List.push_toArray,List.append_toArray,List.nil_append,List.cons_append]
 gi_wp2
 gi_loopw [3] (fun iv wr=>∃ (z:Int) (k m:Nat),iv=.int .i64 z∧Hid (k+m=len)∧Hid ((z = -1∧m=0)∨∃ i:Nat,z=(i:Int)∧m=i+1)∧Hid (J (upto (backF L) k) wr)∧Hid (Below n0 W wr)) (fun iv _=>(intOf iv+1).toNat)
 case atStart=>exact ⟨_,0,len,rfl,hide (Nat.zero_add _),HST,hide h0,hide (Below.refl _ _)⟩
 case round =>
  obtain ⟨z,k,m,rfl,HK,HZ,HJ,HB⟩:=hrel
  have c1:=(HB.out.cell (p:=⟨Bs,0,none⟩) hbs).trans hBs
  rcases HZ.out with ⟨rfl,rfl⟩ | ⟨i,rfl,rfl⟩
  ·clear HZ
   gi_wp2
   go_end0
   have hk:k=len:=by have:=HK.out;omega
   exact ⟨⟨_,rfl⟩,.inl ⟨_,rfl,by rw [← hk];exact HJ.out⟩⟩
  ·clear HZ
   have y0:¬ (i:Int)<0:=by omega
   have y1:(0:Int)≤(i:Int):=by omega
   have y2:i<len:=by have:=HK.out;omega
   have y3:(i:Int)<(len:Int):=by omega
   have y4:L.length-1-k=i:=by have:=HK.out;rw [HL.out];omega
   obtain ⟨g,o,hA,_,a0,a1⟩:=preads_at (HR.out.touch (touch_below hW HB.out hn0) (fun _ _ f=>f)) HL.out.symm i y2
   subst hA
   have hbf:backF L k=((i:Int),L.getD i PRow.zero):=by unfold backF;rw [y4]
   have hus:=upto_succ (backF L) k
   rw [hbf] at hus
   obtain ⟨⟨xw,xn⟩,hx⟩:∃ x,x=L.getD i PRow.zero:=⟨_,rfl⟩
   rw [← hx] at a0 a1 hus
   simp only at a0 a1
   have HUS:=hide hus
   clear hx hus hbf
   obtain ⟨fn,tmps,assign,body,hy,hR⟩:=hY _ ((i:Int),⟨xw,xn⟩) wr HJ.out (by rw [upto_length];have:=HK.out;omega)
   simp only [backEnc] at hy
   obtain ⟨z2,hz2⟩:∃ z2:Int,(i:Int)-1=z2:=⟨_,rfl⟩
   have hw2:IntKind.i64.wrap z2=z2:=IntWalk.i64_in _ (by omega)
   have HZ2:=hide hz2
   gi_wp2
   refine hR.mono ?_
   rintro e W3 (⟨rfl,hJ3,hk3⟩ | ⟨rfl,hJx3⟩)
   ·have HJ3:=hide hJ3
    have HK3:=hide hk3
    clear hJ3 hk3
    gi_wp2
    go_roundw
    case rel =>
     have hz2:=HZ2.out
     refine ⟨z2,k+1,i,rfl,hide (by have:=HK.out;omega),hide ?_,hide (by rw [HUS.out];exact HJ3.out),hide (HB.out.trans HK3.out)⟩
     by_cases hi0:i=0
     ·exact .inl ⟨by omega,hi0⟩
     ·exact .inr ⟨i-1,by omega,by omega⟩
    case measure =>
     have hz2:=HZ2.out
     show (z2+1).toNat<((i:Int)+1).toNat
     omega
   ·gi_wp2
    refine bodyPost_ret (results_none rfl _ _ _) rfl ?_
    exact ⟨⟨_,rfl⟩,.inr ⟨_,⟨k+1,by have:=HK.out;omega,HUS.out.symm⟩,hJx3⟩⟩
end Go.Proofs.YthockgmbooefpaaGreatDoor
namespace Go.Proofs.YthockgmbooefpaaGreatDoor
open Go.RowKit Go.Shelf
attribute [local go_sem] Oper.semAt_some
set_option maxHeartbeats 1000000 in
theorem backward_in (F:Fence) (n:Nat) (hf:F.fn 110) (hro:F.round=none) (a:Option Addr) (len cap:Nat) (w:World) :
  CallsIn F n Tryz.prog 110 #[.slice a len cap] w fun e w'=>e=.returned (.func (.func 157) #[] #[.pointer (some ⟨w.heap.size,0,none⟩)])∧w'=w.alloc (.cells #[.slice a len cap] 37):=by
 refine callsIn_of_wp Tryz.func110 rfl hf ?_ hro
 simp only [Tryz.ntmps110,List.size_toArray,List.length_cons,List.length_nil,Nat.reduceAdd,Nat.reduceSub,Array.replicate_succ,Array.replicate_zero,List.push_toArray,List.append_toArray,List.nil_append,List.cons_append]
 gi_wp2
 go_ret
 exact ⟨rfl,rfl⟩
theorem back_stops (F:Fence) (n:Nat) (hf:F.fn 157) (hro:F.round=none) (hn:1≤n) (Bs n0:Nat) (w0:World) (A:Option Addr) (len cap:Nat) (L:List PRow) (hL:L.length=len) (hR:Reads w0 2 A len (pCells L)) (hlen:len≤maxLen) (w:World) (hw:Touch (fun _=>False) w0 w) (hbs:Bs<n0) (hn0:n0≤w.heap.size) (h00:w0.heap.size≤n0) (hc:w.cell? ⟨Bs,0,none⟩=some (.slice A len cap)) :
  SeqStopsK F n Tryz.prog 157 #[.pointer (some ⟨Bs,0,none⟩)] backEnc (Below n0) (fun ys=>ys=upto (backF L) len) (fun pre=>∃ k,k≤len∧pre=upto (backF L) k) len w:=fun l J Jx W hW _ _ hY h0 =>
 back1_in F n hf hro hn l Bs n0 w0 A len cap L hL hR hlen J Jx hY W (touch_below hw hW hw.size) hbs h00 ((hW.cell (p:=⟨Bs,0,none⟩) (Nat.lt_of_lt_of_le hbs hn0)).trans hc) h0
theorem back_none (L:List PRow) (w:List UInt8):∀ k,k≤L.length→(∀ p∈upto (backF L) k,¬ p.2.word.toList=w)→key w (L.drop (L.length-k))=[]:=by
 intro k
 induction k with
 | zero=>intro _ _;rw [Nat.sub_zero,List.drop_length];rfl
 | succ k ih =>
  intro hk h
  rw [upto_succ] at h
  have h1:=ih (by omega) (fun p hp=>h p (List.mem_append_left _ hp))
  have h2:=h (backF L k) (by simp)
  have e1:L.length-1-k=L.length-(k+1):=by omega
  unfold backF at h2
  rw [e1] at h2
  refine find_miss (by omega) w h2 ?_
  rw [show L.length-(k+1)+1=L.length-k by omega]
  exact h1
theorem back_miss (L:List PRow) (w:List UInt8) (h:∀ p∈upto (backF L) L.length,¬ p.2.word.toList=w):findP w L=(0,false):=by
 have h1:=back_none L w L.length (Nat.le_refl _) h
 rw [Nat.sub_self,List.drop_zero] at h1
 unfold findP
 rw [h1]
 rfl
theorem back_hit (L:List PRow) (w:List UInt8) {k:Nat} (hk:k≤L.length) {ini:List (Int × PRow)} {last:Int × PRow} (he:upto (backF L) k=ini++[last]) (hi:∀ p∈ini,¬ p.2.word.toList=w) (hl:last.2.word.toList=w):findP w L=(last.2.weight,true):=by
 cases k with
 | zero=>simp [upto] at he
 | succ k =>
  rw [upto_succ] at he
  obtain ⟨h1,h2⟩:=List.append_inj' he rfl
  simp only [List.cons.injEq,and_true] at h2
  have h3:=back_none L w k (by omega) (by rw [h1];exact hi)
  have e1:L.length-1-k=L.length-(k+1):=by omega
  rw [← h2] at hl ⊢
  unfold backF at hl ⊢
  rw [e1] at hl ⊢
  exact find_hit (by omega) w hl (by rw [show L.length-(k+1)+1=L.length-k by omega];exact h3)
set_option maxRecDepth 100000 in
set_option maxHeartbeats 2000000 in
theorem find_in (F:Fence) (n:Nat) (h1f:F.fn 44) (h2f:F.fn 110) (h3f:F.fn 157) (hro:F.round=none) (hn:3≤n) (w:World) (A:Option Addr) (len cap:Nat) (L:List PRow) (hL:L.length=len) (hR:Reads w 2 A len (pCells L)) (hlen:len≤maxLen) (k:ByteArray) :
  CallsIn F n Tryz.prog 44 #[.slice A len cap,.string k] w fun e w'=>e=.returned (.tuple #[.int .i64 (findP k.toList L).1,.bool (findP k.toList L).2])∧Below w.heap.size w w':=by
 have h1:1≤n:=by omega
 refine callsIn_of_wp_marks Tryz.func44 rfl h1f ?_ hro
 simp only [Tryz.ntmps44,List.size_toArray,List.length_cons,List.length_nil,Nat.reduceAdd,Nat.reduceSub,Array.replicate_succ,Array.replicate_zero,List.push_toArray,List.append_toArray,List.nil_append,List.cons_append]
 gi_wp2_with (gi_at_call 110;refine (backward_in F (n-1) h2f hro _ _ _ _).mono ?_;rintro e w' ⟨rfl,rfl⟩)
 have hk0:=((Boxed.new w 9 (.string k)).alloc (.cells #[.int .i64 0] 3)).alloc (.cells #[.bool false] 4) |>.alloc (.cells #[.slice A len cap] 37)
 have hk1:=((Boxed.new (w.alloc (.cells #[.string k] 9)) 3 (.int .i64 0)).alloc (.cells #[.bool false] 4)).alloc (.cells #[.slice A len cap] 37)
 have hk2:=(Boxed.new ((w.alloc (.cells #[.string k] 9)).alloc (.cells #[.int .i64 0] 3)) 4 (.bool false)).alloc (.cells #[.slice A len cap] 37)
 have hk3:=Boxed.new (((w.alloc (.cells #[.string k] 9)).alloc (.cells #[.int .i64 0] 3)).alloc (.cells #[.bool false] 4)) 37 (.slice A len cap)
 have hT0:Touch (fun _=>False) w ((((w.alloc (.cells #[.string k] 9)).alloc (.cells #[.int .i64 0] 3)).alloc (.cells #[.bool false] 4)).alloc (.cells #[.slice A len cap] 37)):=((((Touch.refl _ w).alloc _).alloc _).alloc _).alloc _
 have hsz:((((w.alloc (.cells #[.string k] 9)).alloc (.cells #[.int .i64 0] 3)).alloc (.cells #[.bool false] 4)).alloc (.cells #[.slice A len cap] 37)).heap.size=w.heap.size+1+1+1+1:=by simp
 simp only [World.size_alloc] at hk1 hk2 hk3
 obtain ⟨W0,hW0⟩:∃ W0,(((w.alloc (.cells #[.string k] 9)).alloc (.cells #[.int .i64 0] 3)).alloc (.cells #[.bool false] 4)).alloc (.cells #[.slice A len cap] 37)=W0:=⟨_,rfl⟩
 rw [hW0] at hk0 hk1 hk2 hk3 hT0 hsz ⊢
 clear hW0
 have hB0:Below w.heap.size w W0:=hT0.below (Nat.le_refl _) (fun _ _ f=>f)
 refine wpIn_rangeFunc_ownH hro h1 (gf := 157) (lb:=#[.pointer (some ⟨w.heap.size+1+1+1,0,none⟩)]) rfl h3f (enters_of Tryz.func157 (by kernel_rfl) rfl)
  (back_stops F (n-1) h3f hro (by omega) (w.heap.size+1+1+1) (w.heap.size+1+1+1+1) w A len cap L hL hR hlen W0 hT0 (by omega) (by omega) (by omega) hk3.cell) belowK_t (belowK_b (by omega)) (Below.refl _ _) (fun _=>rfl)
  (fun pre W=>((Boxed W w.heap.size 9 (.string k)∧Boxed W (w.heap.size+1) 3 (.int .i64 0))∧(Boxed W (w.heap.size+1+1) 4 (.bool false)∧(Boxed W (w.heap.size+1+1+1) 37 (.slice A len cap)∧∀ p∈pre,¬ p.2.word.toList=k.toList)))∧Below w.heap.size w W)
  (fun c pre W=>(c=.ret∧∃ ini last,pre=ini++[last]∧(∀ p∈ini,¬ p.2.word.toList=k.toList)∧last.2.word.toList=k.toList∧Boxed W (w.heap.size+1) 3 (.int .i64 last.2.weight)∧Boxed W (w.heap.size+1+1) 4 (.bool true))∧Below w.heap.size w W)
  (OwnFrom.and (OwnFrom.and (OwnFrom.and (Own.from (boxed_own _ _ _) _) (Own.from (boxed_own _ _ _) _)) (OwnFrom.and (Own.from (boxed_own _ _ _) _) (OwnFrom.and (Own.from (boxed_own _ _ _) _) (ownFrom_pure _ _)))) (ownFrom_below (Nat.le_refl _) (by omega)))
  (fun c=>OwnFrom.and (Own.from (fun s X Y row hs hg hr=>by
    obtain ⟨hc,ini,last,e1,e2,e3,e4,e5⟩:=hs
    exact ⟨hc,ini,last,e1,e2,e3,boxed_own _ _ (fun (_:Unit)=>Value.int .i64 last.2.weight) () X Y row e4 hg hr,boxed_own _ _ (fun (_:Unit)=>Value.bool true) () X Y row e5 hg hr⟩) _) (ownFrom_below (Nat.le_refl _) (by omega)))
  ⟨⟨⟨hk0,hk1⟩,hk2,hk3,by simp⟩,hB0⟩
  (fun x a' W=>∃ Bx,w.heap.size+1+1<Bx∧(W.cell? ⟨Bx,0,none⟩=some (.string x.2.word)∧W.cell? ⟨Bx,1,none⟩=some (.int .i64 x.2.weight))∧a'={ tmps:=#[.slice A len cap,.string k,undef,.pointer (some ⟨w.heap.size,0,none⟩),.pointer (some ⟨w.heap.size+1,0,none⟩),.pointer (some ⟨w.heap.size+1+1,0,none⟩),undef,.pointer (some ⟨Bx,0,none⟩),.slice A len cap,.func (.func 157) #[] #[.pointer (some ⟨w.heap.size+1+1+1,0,none⟩)],.int .i64 x.1,.agg #[.string x.2.word,.int .i64 x.2.weight],undef,undef,undef,undef,undef,undef],defers:=[] })
  (fun x a' _ X Y row hs hg hr=>by
    obtain ⟨Bx,e1,e2,e3⟩:=hs
    exact ⟨Bx,e1,⟨cell_kept e2.1 hg (fun r e=>(hr r e).2),cell_kept e2.2 hg (fun r e=>(hr r e).2)⟩,e3⟩)
  ?assign ?body ?done ?stop
 case assign =>
  rintro l pre ⟨i,⟨xw,xn⟩⟩ W K ⟨⟨⟨b0,b1⟩,b2,b3,hp⟩,hB⟩ hK
  simp only [backEnc]
  gi_wp2
  refine hK _ _ ((KeepsOthers.alloc _ _).from _) ((Below.refl _ W).alloc b3.lt _) ⟨⟨⟨b0.alloc _,b1.alloc _⟩,b2.alloc _,b3.alloc _,hp⟩,hB.alloc hB.size _⟩ ⟨W.heap.size,b2.lt,⟨?_,?_⟩,rfl⟩
  ·unfold World.cell?;rw [World.alloc_heap_new];rfl
  ·unfold World.cell?;rw [World.alloc_heap_new];rfl
 case body =>
  rintro l pre ⟨i,⟨xw,xn⟩⟩ a' W hl ⟨r,hr⟩ ⟨⟨⟨b0,b1⟩,b2,b3,hp⟩,hB⟩ ⟨Bx,hBx,⟨c0,c1⟩,rfl⟩ hlt
  simp only at c0 c1
  have d0:=b0.cell
  have f1:=b1.frozen
  have f2:=b2.frozen
  have d1:=b1.cell
  have d2:=b2.cell
  by_cases hk:xw.toList=k.toList
  ·have q2:(xw.toList == k.toList)=true:=by simp [hk]
   gi_wp2
   have e1:=(b1.set (.int .i64 xn)).other (B':=w.heap.size+1+1) (by omega) (.bool true)
   have e2:=(b2.other (B':=w.heap.size+1) (by omega) (.int .i64 xn)).set (.bool true)
   exact ⟨((KeepsOthers.setCell _ _ _).trans (KeepsOthers.setCell _ _ _)).from _,⟨rfl,pre,(i,⟨xw,xn⟩),rfl,hp,hk,e1,e2⟩,(hB.setCell (p:=⟨w.heap.size+1,0,none⟩) (by simp) _).setCell (p:=⟨w.heap.size+1+1,0,none⟩) (by simp;omega) _⟩
  ·have q2:(xw.toList == k.toList)=false:=by simp [hk]
   have q3:decide (xw.toList=k.toList)=false:=by simp [hk]
   gi_wp2
   exact ⟨KeepsFrom.refl _ _,Below.refl _ _,⟨⟨b0,b1⟩,b2,b3,fun p hp'=>(List.mem_append.1 hp').elim (hp p) (fun e=>by simp at e;subst e;exact hk)⟩,hB⟩
 case done =>
  rintro D ys W hD rfl ⟨⟨⟨b0,b1⟩,b2,b3,hp⟩,hB⟩ hK
  have hfm:=back_miss L k.toList (by rw [hL];exact hp)
  have f1:=b1.frozen
  have f2:=b2.frozen
  have d1:=b1.cell
  have d2:=b2.cell
  gi_wp2
  have e1:=(b1.set (.int .i64 0)).other (B':=w.heap.size+1+1) (by omega) (.bool false)
  have e2:=(b2.other (B':=w.heap.size+1) (by omega) (.int .i64 0)).set (.bool false)
  have hK':=((KeepsOthers.setCell W ⟨w.heap.size+1,0,none⟩ (.int .i64 0)).trans (KeepsOthers.setCell _ ⟨w.heap.size+1+1,0,none⟩ (.bool false))).same D _ hK rfl
  refine ⟨by simp,.inl ⟨_,_,rfl,run_takeDeferred hK',?_⟩⟩
  have g1:=cell_kept e1.cell (grownBy_putObj' _ D (.deferred none)) (fun r e=>by cases e;exact ⟨_,hK',rfl⟩)
  have g2:=cell_kept e2.cell (grownBy_putObj' _ D (.deferred none)) (fun r e=>by cases e;exact ⟨_,hK',rfl⟩)
  refine ⟨.tuple #[.int .i64 0,.bool false],?_,by rw [hfm],((hB.setCell (p:=⟨w.heap.size+1,0,none⟩) (by simp) _).setCell (p:=⟨w.heap.size+1+1,0,none⟩) (by simp;omega) _).trans (belowK_b (w:=w) (Nat.le_refl _) _ D _ _ (by omega) hK' rfl rfl)⟩
  simp [results,Tryz.f44,go_sem,g1,g2]
 case stop =>
  rintro D c pre W hD ⟨k',hk',rfl⟩ ⟨⟨rfl,ini,last,e1,e2,e3,e4,e5⟩,hB⟩ hK
  have hfm:=back_hit L k.toList (by rw [hL];exact hk') e1 e2 e3
  gi_wp2
  refine ⟨by simp,.inl ⟨_,_,rfl,run_takeDeferred hK,?_⟩⟩
  have g1:=cell_kept e4.cell (grownBy_putObj' _ D (.deferred none)) (fun r e=>by cases e;exact ⟨_,hK,rfl⟩)
  have g2:=cell_kept e5.cell (grownBy_putObj' _ D (.deferred none)) (fun r e=>by cases e;exact ⟨_,hK,rfl⟩)
  refine ⟨.tuple #[.int .i64 last.2.weight,.bool true],?_,by rw [hfm],hB.trans (belowK_b (w:=w) (Nat.le_refl _) W D _ _ (by omega) hK rfl rfl)⟩
  simp [results,Tryz.f44,go_sem,g1,g2]
theorem pfind_any (w:World) (A:Option Addr) (n c:Nat) (L:List PRow) (hL:L.length=n) (hR:Reads w 2 A n (pCells L)) (hn:n≤maxLen) (k:ByteArray) :
  Calls Tryz.prog 44 #[.slice A n c,.string k] w fun e w'=>e=.returned (.tuple #[.int .i64 (findP k.toList L).1,.bool (findP k.toList L).2])∧Touch (fun _=>False) w w' :=
 (callsIn_wide.1 (find_in Fence.wide 3 trivial trivial trivial rfl (Nat.le_refl _) w A n c L hL hR hn k)).mono fun _ _ ⟨he,hb⟩=>⟨he,hb.os,hb.tape,hb.output,hb.size,fun j hj _=>hb.block j hj⟩
end Go.Proofs.YthockgmbooefpaaGreatDoor
namespace Go.Proofs.YthockgmbooefpaaGreatDoor
open Go.RowKit
theorem infoByte:(Tryz.prog.info? 5).map (fun i=>(i.zero,i.size,i.bytes))=some (some (.int .u8 0),1,1):=by kernel_rfl
def byteV (b:UInt8):Value:=.int .u8 (b.toNat:Int)
theorem onecell_bytes (O:List UInt8):∀ u∈O.map byteV,u.oneCell'=true:=by
 intro u hu
 obtain ⟨_,_,rfl⟩:=List.mem_map.1 hu
 rfl
theorem and63 (r:Nat) (h:r<2147483648):bits .and .i32 (r:Int) 63=((r % 64:Nat):Int):=and_i32 6 (by decide) r h
theorem or_224 (c:Nat) (h:c<16):bits .or .i32 224 (c:Int)=224+(c:Int) :=
 bits_join .i32 31 (by decide) (fun n h0 h1=>IntWalk.i32_in _ (by omega)) 5 (224:Int) (c:Int) (by omega) (by omega) (by omega) (by omega) (by omega) (by omega)
theorem or_240 (c:Nat) (h:c<8):bits .or .i32 240 (c:Int)=240+(c:Int) :=
 bits_join .i32 31 (by decide) (fun n h0 h1=>IntWalk.i32_in _ (by omega)) 4 (240:Int) (c:Int) (by omega) (by omega) (by omega) (by omega) (by omega) (by omega)
theorem byteV_add {n x:Nat} (h:n+x<256):byteV (UInt8.ofNat (n+x))=.int .u8 ((n:Int)+(x:Int)):=u8_cell h
set_option maxRecDepth 100000 in
set_option maxHeartbeats 2000000 in
theorem wrow_one (w:World) (v:Value) (q:Nat) (xs:List Value) (hv:w.ownsRow 0 5 1 v q xs) (hL:Lst w) (hq:q≤1099511627776) (r:Nat) (h1:r<128) :
  Calls Tryz.prog 148 #[v,.int .i32 r] w fun e w'=>∃ v',e=.returned v'∧w'.ownsRow 0 5 1 v' (q+(writeU r).length) (xs++(writeU r).map byteV)∧w.grownBy w' v.ownBlock∧Fresh w v v':=by
 obtain ⟨ti,hi,hz0,hz1,hz2⟩:=info_parts infoByte
 obtain ⟨l0,l2,l3,l4⟩:=hL
 have h0:(0:Int)≤(r:Int):=by omega
 have hwr:(writeU r).map byteV=[.int .u8 (r:Int)]:=by
  unfold writeU;rw [if_pos h1]
  simp only [List.map_cons,List.map_nil,show byteV (UInt8.ofNat r)=.int .u8 (r:Int) from by unfold byteV;rw [UInt8.toNat_ofNat',Nat.mod_eq_of_lt (by omega)]]
  try rfl
 have hwl:(writeU r).length=1:=by have:=congrArg List.length hwr;simpa using this
 have e0:(r:Int) % 256=(r:Int):=by omega
 have i0:(r:Int)<128:=by omega
 rw [hwl,hwr]
 have HV:=hide hv
 have hrd:∀ w:World,Reads (w.alloc (.cells #[.int .u8 (r:Int)] 5)) 1 (some ⟨w.heap.size,0,none⟩) 1 [.int .u8 (r:Int)]:=fun w=>Reads.new (size:=1) _ _ [.int .u8 (r:Int)] 1 (by simp)
 have hone:∀ u∈([.int .u8 (r:Int)]:List Value),u.oneCell'=true:=by
  intro u hu
  simp only [List.mem_cons,List.not_mem_nil,or_false] at hu
  rcases hu with rfl
  all_goals rfl
 have hb1:q+1≤maxLen:=by unfold maxLen;omega
 have hb2:(q+1)*1≤140737488355328:=by omega
 clear hwr hwl hv h1
 go_enter Tryz.func148,Tryz.ntmps148
 go_wp2_with (at_builtin;refine wpList_app _ rfl (.tmp 10) (.tmp 13) 50 rfl 5 ti _ 1 1 Tryz.underlying50 hi hz0 hz1 hz2 rfl (by decide) v q _ rfl (own_touch HV.out ((Touch.refl _ _).alloc _) (fun _ _ f=>f)) (some ⟨_,0,none⟩) 1 1 [.int .u8 (r:Int)] rfl (hrd _) (fun h=>by cases h) hone hb1 hb2 ?_)
 intro v4 w4 hown hgrow hfr _
 have hg1:w.grownBy w4 v.ownBlock:=⟨hgrow.os,hgrow.tape,hgrow.output,Nat.le_trans (by simp) hgrow.size,fun k hk hne=>(hgrow.block k (by simp;omega) hne).trans (Below.heap_alloc w _ k hk)⟩
 have hf1:Fresh w v v4:=by
  rcases hfr with e | ⟨g,e,hg⟩
  ·exact Or.inl e
  ·exact Or.inr ⟨g,e,Nat.le_trans (by simp) hg⟩
 have HE:=hide (And.intro hown (And.intro hg1 hf1))
 clear hown hgrow hfr hg1 hf1
 go_wp2_with fail
 first
  | (go_ret;exact ⟨v4,rfl,HE.out.1,HE.out.2.1,HE.out.2.2⟩)
  | exact bodyPost_ret (v:=v4) (by simp [results,Tryz.results148,go_sem]) rfl ⟨v4,rfl,HE.out.1,HE.out.2.1,HE.out.2.2⟩
set_option maxRecDepth 100000 in
set_option maxHeartbeats 2000000 in
theorem wrow_two (w:World) (v:Value) (q:Nat) (xs:List Value) (hv:w.ownsRow 0 5 1 v q xs) (hL:Lst w) (hq:q≤1099511627776) (r:Nat) (h1:128≤r) (h2:r<2048) :
  Calls Tryz.prog 148 #[v,.int .i32 r] w fun e w'=>∃ v',e=.returned v'∧w'.ownsRow 0 5 1 v' (q+(writeU r).length) (xs++(writeU r).map byteV)∧w.grownBy w' v.ownBlock∧Fresh w v v':=by
 obtain ⟨ti,hi,hz0,hz1,hz2⟩:=info_parts infoByte
 obtain ⟨l0,l2,l3,l4⟩:=hL
 have h0:(0:Int)≤(r:Int):=by omega
 obtain ⟨l,hl⟩:∃ l,r % 64=l:=⟨_,rfl⟩
 obtain ⟨a,ha⟩:∃ a,r / 64=a:=⟨_,rfl⟩
 have hwr:(writeU r).map byteV=[.int .u8 ((192:Int)+(a:Int)),.int .u8 ((128:Int)+(l:Int))]:=by
  unfold writeU;rw [if_neg (by omega),if_pos h2,hl,ha]
  simp only [List.map_cons,List.map_nil,byteV_add (n:=192) (x:=a) (by omega),byteV_add (n:=128) (x:=l) (by omega)]
  try rfl
 have hwl:(writeU r).length=2:=by have:=congrArg List.length hwr;simpa using this
 have f1:=and63 r (by omega)
 rw [hl] at f1
 have e2:(r:Int) / 64=(a:Int):=by omega
 have b1:l<64:=by omega
 have b2:a<32:=by omega
 have i0:¬ (r:Int)<128:=by omega
 have i1:(r:Int)<2048:=by omega
 rw [hwl,hwr]
 have HV:=hide hv
 have hrd:∀ w:World,Reads (w.alloc (.cells #[.int .u8 ((192:Int)+(a:Int)),.int .u8 ((128:Int)+(l:Int))] 5)) 1 (some ⟨w.heap.size,0,none⟩) 2 [.int .u8 ((192:Int)+(a:Int)),.int .u8 ((128:Int)+(l:Int))]:=fun w=>Reads.new (size:=1) _ _ [.int .u8 ((192:Int)+(a:Int)),.int .u8 ((128:Int)+(l:Int))] 2 (by simp)
 have hone:∀ u∈([.int .u8 ((192:Int)+(a:Int)),.int .u8 ((128:Int)+(l:Int))]:List Value),u.oneCell'=true:=by
  intro u hu
  simp only [List.mem_cons,List.not_mem_nil,or_false] at hu
  rcases hu with rfl | rfl
  all_goals rfl
 have hb1:q+2≤maxLen:=by unfold maxLen;omega
 have hb2:(q+2)*1≤140737488355328:=by omega
 clear hwr hwl hv h1 hl ha
 go_enter Tryz.func148,Tryz.ntmps148
 go_wp2_with (at_builtin;refine wpList_app _ rfl (.tmp 20) (.tmp 29) 50 rfl 5 ti _ 1 1 Tryz.underlying50 hi hz0 hz1 hz2 rfl (by decide) v q _ rfl (own_touch HV.out ((Touch.refl _ _).alloc _) (fun _ _ f=>f)) (some ⟨_,0,none⟩) 2 2 [.int .u8 ((192:Int)+(a:Int)),.int .u8 ((128:Int)+(l:Int))] rfl (hrd _) (fun h=>by cases h) hone hb1 hb2 ?_)
 intro v4 w4 hown hgrow hfr _
 have hg1:w.grownBy w4 v.ownBlock:=⟨hgrow.os,hgrow.tape,hgrow.output,Nat.le_trans (by simp) hgrow.size,fun k hk hne=>(hgrow.block k (by simp;omega) hne).trans (Below.heap_alloc w _ k hk)⟩
 have hf1:Fresh w v v4:=by
  rcases hfr with e | ⟨g,e,hg⟩
  ·exact Or.inl e
  ·exact Or.inr ⟨g,e,Nat.le_trans (by simp) hg⟩
 have HE:=hide (And.intro hown (And.intro hg1 hf1))
 clear hown hgrow hfr hg1 hf1
 go_wp2_with fail
 first
  | (go_ret;exact ⟨v4,rfl,HE.out.1,HE.out.2.1,HE.out.2.2⟩)
  | exact bodyPost_ret (v:=v4) (by simp [results,Tryz.results148,go_sem]) rfl ⟨v4,rfl,HE.out.1,HE.out.2.1,HE.out.2.2⟩
set_option maxRecDepth 100000 in
set_option maxHeartbeats 2000000 in
theorem wrow_three (w:World) (v:Value) (q:Nat) (xs:List Value) (hv:w.ownsRow 0 5 1 v q xs) (hL:Lst w) (hq:q≤1099511627776) (r:Nat) (h1:2048≤r) (h2:(r:Int)<65536) :
  Calls Tryz.prog 148 #[v,.int .i32 r] w fun e w'=>∃ v',e=.returned v'∧w'.ownsRow 0 5 1 v' (q+(writeU r).length) (xs++(writeU r).map byteV)∧w.grownBy w' v.ownBlock∧Fresh w v v':=by
 obtain ⟨ti,hi,hz0,hz1,hz2⟩:=info_parts infoByte
 obtain ⟨l0,l2,l3,l4⟩:=hL
 have h0:(0:Int)≤(r:Int):=by omega
 obtain ⟨l,hl⟩:∃ l,r % 64=l:=⟨_,rfl⟩
 obtain ⟨a,ha⟩:∃ a,r / 64=a:=⟨_,rfl⟩
 obtain ⟨m,hm⟩:∃ m,a % 64=m:=⟨_,rfl⟩
 obtain ⟨c,hc⟩:∃ c,r / 4096=c:=⟨_,rfl⟩
 have hwr:(writeU r).map byteV=[.int .u8 ((224:Int)+(c:Int)),.int .u8 ((128:Int)+(m:Int)),.int .u8 ((128:Int)+(l:Int))]:=by
  unfold writeU;rw [if_neg (by omega),if_neg (by omega),if_pos (by omega),hl,ha,hm,hc]
  simp only [List.map_cons,List.map_nil,byteV_add (n:=224) (x:=c) (by omega),byteV_add (n:=128) (x:=m) (by omega),byteV_add (n:=128) (x:=l) (by omega)]
  try rfl
 have hwl:(writeU r).length=3:=by have:=congrArg List.length hwr;simpa using this
 have f1:=and63 r (by omega)
 rw [hl] at f1
 have f2:=and63 a (by omega)
 rw [hm] at f2
 have e2:(r:Int) / 64=(a:Int):=by omega
 have e3:(r:Int) / 4096=(c:Int):=by omega
 have b1:l<64:=by omega
 have b2:m<64:=by omega
 have b3:c<16:=by omega
 have b4:(a:Int)<2048:=by omega
 have g1:=or_224 c b3
 have g2:((224:Int)+(c:Int)) % 256=224+(c:Int):=by omega
 have i0:¬ (r:Int)<128:=by omega
 have i1:¬ (r:Int)<2048:=by omega
 rw [hwl,hwr]
 have HV:=hide hv
 have hrd:∀ w:World,Reads (w.alloc (.cells #[.int .u8 ((224:Int)+(c:Int)),.int .u8 ((128:Int)+(m:Int)),.int .u8 ((128:Int)+(l:Int))] 5)) 1 (some ⟨w.heap.size,0,none⟩) 3 [.int .u8 ((224:Int)+(c:Int)),.int .u8 ((128:Int)+(m:Int)),.int .u8 ((128:Int)+(l:Int))]:=fun w=>Reads.new (size:=1) _ _ [.int .u8 ((224:Int)+(c:Int)),.int .u8 ((128:Int)+(m:Int)),.int .u8 ((128:Int)+(l:Int))] 3 (by simp)
 have hone:∀ u∈([.int .u8 ((224:Int)+(c:Int)),.int .u8 ((128:Int)+(m:Int)),.int .u8 ((128:Int)+(l:Int))]:List Value),u.oneCell'=true:=by
  intro u hu
  simp only [List.mem_cons,List.not_mem_nil,or_false] at hu
  rcases hu with rfl | rfl | rfl
  all_goals rfl
 have hb1:q+3≤maxLen:=by unfold maxLen;omega
 have hb2:(q+3)*1≤140737488355328:=by omega
 clear hwr hwl hv h1 hl ha hm hc
 go_enter Tryz.func148,Tryz.ntmps148
 go_wp2_with (at_builtin;refine wpList_app _ rfl (.tmp 36) (.tmp 50) 50 rfl 5 ti _ 1 1 Tryz.underlying50 hi hz0 hz1 hz2 rfl (by decide) v q _ rfl (own_touch HV.out ((Touch.refl _ _).alloc _) (fun _ _ f=>f)) (some ⟨_,0,none⟩) 3 3 [.int .u8 ((224:Int)+(c:Int)),.int .u8 ((128:Int)+(m:Int)),.int .u8 ((128:Int)+(l:Int))] rfl (hrd _) (fun h=>by cases h) hone hb1 hb2 ?_)
 intro v4 w4 hown hgrow hfr _
 have hg1:w.grownBy w4 v.ownBlock:=⟨hgrow.os,hgrow.tape,hgrow.output,Nat.le_trans (by simp) hgrow.size,fun k hk hne=>(hgrow.block k (by simp;omega) hne).trans (Below.heap_alloc w _ k hk)⟩
 have hf1:Fresh w v v4:=by
  rcases hfr with e | ⟨g,e,hg⟩
  ·exact Or.inl e
  ·exact Or.inr ⟨g,e,Nat.le_trans (by simp) hg⟩
 have HE:=hide (And.intro hown (And.intro hg1 hf1))
 clear hown hgrow hfr hg1 hf1
 go_wp2_with fail
 first
  | (go_ret;exact ⟨v4,rfl,HE.out.1,HE.out.2.1,HE.out.2.2⟩)
  | exact bodyPost_ret (v:=v4) (by simp [results,Tryz.results148,go_sem]) rfl ⟨v4,rfl,HE.out.1,HE.out.2.1,HE.out.2.2⟩
set_option maxRecDepth 100000 in
set_option maxHeartbeats 2000000 in
theorem wrow_four (w:World) (v:Value) (q:Nat) (xs:List Value) (hv:w.ownsRow 0 5 1 v q xs) (hL:Lst w) (hq:q≤1099511627776) (r:Nat) (h1:(65536:Int)≤(r:Int)) (h2:(r:Int)<1114112) :
  Calls Tryz.prog 148 #[v,.int .i32 r] w fun e w'=>∃ v',e=.returned v'∧w'.ownsRow 0 5 1 v' (q+(writeU r).length) (xs++(writeU r).map byteV)∧w.grownBy w' v.ownBlock∧Fresh w v v':=by
 obtain ⟨ti,hi,hz0,hz1,hz2⟩:=info_parts infoByte
 obtain ⟨l0,l2,l3,l4⟩:=hL
 have h0:(0:Int)≤(r:Int):=by omega
 obtain ⟨l,hl⟩:∃ l,r % 64=l:=⟨_,rfl⟩
 obtain ⟨a,ha⟩:∃ a,r / 64=a:=⟨_,rfl⟩
 obtain ⟨m,hm⟩:∃ m,a % 64=m:=⟨_,rfl⟩
 obtain ⟨c,hc⟩:∃ c,r / 4096=c:=⟨_,rfl⟩
 obtain ⟨d,hd⟩:∃ d,c % 64=d:=⟨_,rfl⟩
 obtain ⟨f,hf⟩:∃ f,r / 262144=f:=⟨_,rfl⟩
 have hwr:(writeU r).map byteV=[.int .u8 ((240:Int)+(f:Int)),.int .u8 ((128:Int)+(d:Int)),.int .u8 ((128:Int)+(m:Int)),.int .u8 ((128:Int)+(l:Int))]:=by
  unfold writeU;rw [if_neg (by omega),if_neg (by omega),if_neg (by omega),hl,ha,hm,hc,hd,hf]
  simp only [List.map_cons,List.map_nil,byteV_add (n:=240) (x:=f) (by omega),byteV_add (n:=128) (x:=d) (by omega),byteV_add (n:=128) (x:=m) (by omega),byteV_add (n:=128) (x:=l) (by omega)]
  try rfl
 have hwl:(writeU r).length=4:=by have:=congrArg List.length hwr;simpa using this
 have f1:=and63 r (by omega)
 rw [hl] at f1
 have f2:=and63 a (by omega)
 rw [hm] at f2
 have f3:=and63 c (by omega)
 rw [hd] at f3
 have e2:(r:Int) / 64=(a:Int):=by omega
 have e3:(r:Int) / 4096=(c:Int):=by omega
 have e4:(r:Int) / 262144=(f:Int):=by omega
 have b1:l<64:=by omega
 have b2:m<64:=by omega
 have b3:d<64:=by omega
 have b4:f<8:=by omega
 have b5:(a:Int)<20000:=by omega
 have b6:(c:Int)<300:=by omega
 have g1:=or_240 f b4
 have g2:((240:Int)+(f:Int)) % 256=240+(f:Int):=by omega
 have i0:¬ (r:Int)<128:=by omega
 have i1:¬ (r:Int)<2048:=by omega
 have i2:¬ (r:Int)<65536:=by omega
 rw [hwl,hwr]
 have HV:=hide hv
 have hrd:∀ w:World,Reads (w.alloc (.cells #[.int .u8 ((240:Int)+(f:Int)),.int .u8 ((128:Int)+(d:Int)),.int .u8 ((128:Int)+(m:Int)),.int .u8 ((128:Int)+(l:Int))] 5)) 1 (some ⟨w.heap.size,0,none⟩) 4 [.int .u8 ((240:Int)+(f:Int)),.int .u8 ((128:Int)+(d:Int)),.int .u8 ((128:Int)+(m:Int)),.int .u8 ((128:Int)+(l:Int))]:=fun w=>Reads.new (size:=1) _ _ [.int .u8 ((240:Int)+(f:Int)),.int .u8 ((128:Int)+(d:Int)),.int .u8 ((128:Int)+(m:Int)),.int .u8 ((128:Int)+(l:Int))] 4 (by simp)
 have hone:∀ u∈([.int .u8 ((240:Int)+(f:Int)),.int .u8 ((128:Int)+(d:Int)),.int .u8 ((128:Int)+(m:Int)),.int .u8 ((128:Int)+(l:Int))]:List Value),u.oneCell'=true:=by
  intro u hu
  simp only [List.mem_cons,List.not_mem_nil,or_false] at hu
  rcases hu with rfl | rfl | rfl | rfl
  all_goals rfl
 have hb1:q+4≤maxLen:=by unfold maxLen;omega
 have hb2:(q+4)*1≤140737488355328:=by omega
 clear hwr hwl hv h1 hl ha hm hc hd hf
 go_enter Tryz.func148,Tryz.ntmps148
 go_wp2_with (at_builtin;refine wpList_app _ rfl (.tmp 52) (.tmp 71) 50 rfl 5 ti _ 1 1 Tryz.underlying50 hi hz0 hz1 hz2 rfl (by decide) v q _ rfl (own_touch HV.out ((Touch.refl _ _).alloc _) (fun _ _ f=>f)) (some ⟨_,0,none⟩) 4 4 [.int .u8 ((240:Int)+(f:Int)),.int .u8 ((128:Int)+(d:Int)),.int .u8 ((128:Int)+(m:Int)),.int .u8 ((128:Int)+(l:Int))] rfl (hrd _) (fun h=>by cases h) hone hb1 hb2 ?_)
 intro v4 w4 hown hgrow hfr _
 have hg1:w.grownBy w4 v.ownBlock:=⟨hgrow.os,hgrow.tape,hgrow.output,Nat.le_trans (by simp) hgrow.size,fun k hk hne=>(hgrow.block k (by simp;omega) hne).trans (Below.heap_alloc w _ k hk)⟩
 have hf1:Fresh w v v4:=by
  rcases hfr with e | ⟨g,e,hg⟩
  ·exact Or.inl e
  ·exact Or.inr ⟨g,e,Nat.le_trans (by simp) hg⟩
 have HE:=hide (And.intro hown (And.intro hg1 hf1))
 clear hown hgrow hfr hg1 hf1
 go_wp2_with fail
 first
  | (go_ret;exact ⟨v4,rfl,HE.out.1,HE.out.2.1,HE.out.2.2⟩)
  | exact bodyPost_ret (v:=v4) (by simp [results,Tryz.results148,go_sem]) rfl ⟨v4,rfl,HE.out.1,HE.out.2.1,HE.out.2.2⟩
theorem wrow_any (w:World) (v:Value) (q:Nat) (xs:List Value) (hv:w.ownsRow 0 5 1 v q xs) (hL:Lst w) (hq:q≤1099511627776) (r:Nat) (hr:r<1114112) :
  Calls Tryz.prog 148 #[v,.int .i32 r] w fun e w'=>∃ v',e=.returned v'∧w'.ownsRow 0 5 1 v' (q+(writeU r).length) (xs++(writeU r).map byteV)∧w.grownBy w' v.ownBlock∧Fresh w v v':=by
 by_cases h1:r<128
 ·exact wrow_one w v q xs hv hL hq r h1
 ·by_cases h2:r<2048
  ·exact wrow_two w v q xs hv hL hq r (by omega) h2
  ·by_cases h3:(r:Int)<65536
   ·exact wrow_three w v q xs hv hL hq r (by omega) h3
   ·exact wrow_four w v q xs hv hL hq r (by omega) (by omega)
end Go.Proofs.YthockgmbooefpaaGreatDoor
