/- What the law rests on, part 39. No condition but those that each theorem names. -/
import Derived.Test.YtbijfoeaemceiaaGreatDoorM38
import Derived.StillTailTactics
import Derived.Deep.AppendLies
import Derived.Deep.RegionLaw
set_option linter.unusedSectionVars false
set_option linter.unusedSimpArgs false
set_option linter.unusedVariables false
namespace Go.Proofs.YtbijfoeaemceiaaGreatDoor
open Go.RowKit
theorem infoMatch:(Tryz.prog.info? 98).map (fun i=>(i.zero,i.size,i.bytes))=some (some (.agg #[.string ByteArray.empty,.int .i64 0,.int .i64 0]),3,32):=by kernel_rfl
theorem cells_lenB (r:MRow):(MRow.cells r).length=3:=rfl
theorem mCells_atB (X:List MRow) (k:Nat) (hk:k<X.length) (j:Nat) (hj:j<3):(mCells X)[k*3+j]? = (X.getD k MRow.zero).cells[j]? := by
 have e:X.getD k MRow.zero=X[k]:=by simp [List.getD,hk]
 rw [e]
 exact flat_at MRow.cells 3 cells_lenB X k j hk hj
theorem reads_atB {w:World} {A:Option Addr} {n:Nat} {X:List MRow} (h:Reads w 3 A n (mCells X)) (hn:n=X.length) (k:Nat) (hk:k<n) :
  ∃ g off,A=some ⟨g,off,none⟩∧g<w.heap.size∧w.cell? ⟨g,off+k*3,none⟩=some (.string (X.getD k MRow.zero).word)∧w.cell? ⟨g,off+k*3+1,none⟩=some (.int .i64 (X.getD k MRow.zero).weight) ∧
   w.cell? ⟨g,off+k*3+2,none⟩=some (.int .i64 (X.getD k MRow.zero).dist):=by
 subst hn
 obtain ⟨b,off,hA,hb,hc⟩:=h.2 (by omega)
 refine ⟨b,off,hA,hb,?_,?_,?_⟩
 ·exact hc (k*3) _ (mCells_atB X k hk 0 (by omega))
 ·rw [Nat.add_assoc];exact hc (k*3+1) _ (mCells_atB X k hk 1 (by omega))
 ·rw [Nat.add_assoc];exact hc (k*3+2) _ (mCells_atB X k hk 2 (by omega))
theorem plen_any (w:World) (A:Option Addr) (n c:Nat) (_hn:n≤maxLen) :
  Calls Tryz.prog 234 #[.slice A n c] w fun e w'=>e=.returned (.int .i64 n)∧w=w':=by
 unfold maxLen at _hn
 go_enter Tryz.func234,Tryz.ntmps234
 go_wp2
 go_ret
 exact ⟨rfl,rfl⟩
set_option maxRecDepth 100000 in
theorem pless_any (w:World) (A:Option Addr) (n c:Nat) (X:List MRow) (hX:n=X.length) (h:Reads w 3 A n (mCells X)) (_hn:n≤maxLen) (i j:Nat) (hi:i<n) (hj:j<n) :
  Calls Tryz.prog 235 #[.slice A n c,.int .i64 i,.int .i64 j] w fun e w'=>e=.returned (.bool (better (X.getD j MRow.zero) (X.getD i MRow.zero)))∧Touch (fun _=>False) w w':=by
 unfold maxLen at _hn
 obtain ⟨g,off,rfl,hg,a0,a1,a2⟩:=reads_atB h hX i hi
 obtain ⟨g',off',hA,_,b0,b1,b2⟩:=reads_atB h hX j hj
 injection hA with hA
 injection hA with h1 h2
 subst h1 h2
 obtain ⟨⟨xw,xn,xd⟩,hx⟩:∃ x,x=X.getD i MRow.zero:=⟨_,rfl⟩
 obtain ⟨⟨yw,yn,yd⟩,hy⟩:∃ x,x=X.getD j MRow.zero:=⟨_,rfl⟩
 rw [← hx] at a0 a1 a2 ⊢
 rw [← hy] at b0 b1 b2 ⊢
 simp only at a0 a1 a2 b0 b1 b2
 have HX:=hide h
 clear hx hy h hX
 have i0:(0:Int)≤(i:Int):=by omega
 have i1:(i:Int)<(n:Int):=by omega
 have j0:(0:Int)≤(j:Int):=by omega
 have j1:(j:Int)<(n:Int):=by omega
 go_enter Tryz.func235,Tryz.ntmps235
 go_wp2
 go_still_tail 8,(by kernel_rfl)
 change wpList _ _ _ _ _ w.drew
 have HT:Hid (Touch (fun _=>False) w w.drew):=hide (Touch.refl _ _).drew
 generalize w.drew=w2 at HT ⊢
 go_wp2_with (go_at_call 184;refine (pbetter_any ⟨yw,yn,yd⟩ ⟨xw,xn,xd⟩ _).mono ?_;rintro e w3 ⟨rfl,hc⟩;have HC:=hide hc;clear hc)
 go_ret
 exact ⟨rfl,HT.out.then HC.out⟩
theorem own_at {w:World} {A:Option Addr} {n c:Nat} {X:List MRow} (h:w.ownsRow 0 98 3 (.slice A n c) n (mCells X)) (hn:n=X.length) (k:Nat) (hk:k<n) :
  ∃ g,A=some ⟨g,0,none⟩∧g<w.heap.size∧w.cell? ⟨g,k*3,none⟩=some (.string (X.getD k MRow.zero).word)∧w.cell? ⟨g,k*3+1,none⟩=some (.int .i64 (X.getD k MRow.zero).weight) ∧
   w.cell? ⟨g,k*3+2,none⟩=some (.int .i64 (X.getD k MRow.zero).dist)∧w.frozen? ⟨g,k*3,none⟩=false∧w.frozen? ⟨g,k*3+1,none⟩=false∧w.frozen? ⟨g,k*3+2,none⟩=false:=by
 subst hn
 obtain ⟨g,cap,hv,_,_,hg,hc,hf⟩:=own_form h (by omega)
 injection hv with hA' _ _
 exact ⟨g,hA',hg,hc (k*3) _ (mCells_atB X k hk 0 (by omega)),hc (k*3+1) _ (mCells_atB X k hk 1 (by omega)),hc (k*3+2) _ (mCells_atB X k hk 2 (by omega)),hf _,hf _,hf _⟩
theorem set3 (X:List MRow) (k:Nat) (r:MRow):(((mCells X).set (k*3) (.string r.word)).set (k*3+1) (.int .i64 r.weight)).set (k*3+2) (.int .i64 r.dist)=mCells (X.set k r):=by
 induction X generalizing k with
 | nil=>simp [mCells]
 | cons x X ih =>
  cases k with
  | zero=>simp [mCells,MRow.cells]
  | succ k =>
   have:=ih k
   simp only [mCells,List.flatMap_cons,List.set_cons_succ] at this ⊢
   rw [← this]
   simp only [MRow.cells,List.cons_append,List.nil_append,Nat.succ_mul]
   rw [show k*3+3=(k*3)+1+1+1 by omega,show k*3+1+1+1+1=(k*3+1)+1+1+1 by omega,show k*3+1+1+1+2=(k*3+2)+1+1+1 by omega]
   simp only [List.set_cons_succ]
theorem own_set3 {w:World} {g n c:Nat} {X:List MRow} (h:w.ownsRow 0 98 3 (.slice (some ⟨g,0,none⟩) n c) n (mCells X)) (k:Nat) (r:MRow) :
  (((w.setCell ⟨g,k*3,none⟩ (.string r.word)).setCell ⟨g,k*3+1,none⟩ (.int .i64 r.weight)).setCell ⟨g,k*3+2,none⟩ (.int .i64 r.dist)).ownsRow 0 98 3 (.slice (some ⟨g,0,none⟩) n c) n (mCells (X.set k r)):=by
 rw [← set3]
 exact own_set (own_set (own_set h _ _) _ _) _ _
set_option maxRecDepth 100000 in
set_option maxHeartbeats 1000000 in
theorem pswap_any (w:World) (A:Option Addr) (n c:Nat) (X:List MRow) (hX:n=X.length) (h:w.ownsRow 0 98 3 (.slice A n c) n (mCells X)) (i j:Nat) (hi:i<n) (hj:j<n) :
  Calls Tryz.prog 236 #[.slice A n c,.int .i64 i,.int .i64 j] w fun e w'=>e=.returned (.tuple #[])∧w'.ownsRow 0 98 3 (.slice A n c) n (mCells (swp X i j))∧Touch (fun g=>adBlock A=some g) w w':=by
 obtain ⟨g,rfl,hg,a0,a1,a2,f0,f1,f2⟩:=own_at h hX i hi
 obtain ⟨g',hA,_,b0,b1,b2,f3,f4,f5⟩:=own_at h hX j hj
 have hn:=own_le h
 injection hA with hA
 injection hA with h1 h2
 subst h1
 have HX:=hide h
 obtain ⟨⟨xw,xn,xd⟩,hx⟩:∃ x,x=X.getD i MRow.zero:=⟨_,rfl⟩
 obtain ⟨⟨yw,yn,yd⟩,hy⟩:∃ x,x=X.getD j MRow.zero:=⟨_,rfl⟩
 rw [← hx] at a0 a1 a2
 rw [← hy] at b0 b1 b2
 simp only at a0 a1 a2 b0 b1 b2
 have EX:=hide hx
 have EY:=hide hy
 clear hx hy h hX
 unfold maxLen at hn
 have i0:(0:Int)≤(i:Int):=by omega
 have i1:(i:Int)<(n:Int):=by omega
 have j0:(0:Int)≤(j:Int):=by omega
 have j1:(j:Int)<(n:Int):=by omega
 go_enter Tryz.func236,Tryz.ntmps236
 obtain ⟨v0,s0⟩:=cell?_setCell_some (p:=⟨g,i*3,none⟩) (x:=.string yw) b0
 obtain ⟨v1,s1⟩:=cell?_setCell_some (p:=⟨g,i*3,none⟩) (x:=.string yw) b1
 obtain ⟨v1,s1⟩:=cell?_setCell_some (p:=⟨g,i*3+1,none⟩) (x:=.int .i64 yn) s1
 obtain ⟨v2,s2⟩:=cell?_setCell_some (p:=⟨g,i*3,none⟩) (x:=.string yw) b2
 obtain ⟨v2,s2⟩:=cell?_setCell_some (p:=⟨g,i*3+1,none⟩) (x:=.int .i64 yn) s2
 obtain ⟨v2,s2⟩:=cell?_setCell_some (p:=⟨g,i*3+2,none⟩) (x:=.int .i64 yd) s2
 go_region
 all_goals go_wp2
 go_end0
 have HS:=own_set3 (own_set3 HX.out i ⟨yw,yn,yd⟩) j ⟨xw,xn,xd⟩
 have e:swp X i j=(X.set i ⟨yw,yn,yd⟩).set j ⟨xw,xn,xd⟩:=by unfold swp;rw [← EX.out,← EY.out]
 rw [e]
 refine ⟨rfl,own_touch (S:=fun _=>False) HS (Touch.refl _ _).drew (fun _ _ f=>f),?_⟩
 refine Touch.drew ?_
 iterate 6 refine Touch.setCell ?_ (fun _=>(rfl:adBlock (some ⟨g,0,none⟩)=some g)) _
 exact Touch.refl _ _
structure Pil (w:World) (p:Nat) (most:Int) (v:Value) (X:List MRow):Prop where
 blk:Blk w p 287 #[.int .i64 most,v]
 own:w.ownsRow 0 98 3 v X.length (mCells X)
def pfp (p:Nat) (v:Value):Nat→Prop:=fun g=>g=p∨v.ownBlock=some g
theorem Pil.touch {w w':World} {p:Nat} {most:Int} {v:Value} {X:List MRow} {S:Nat→Prop} (h:Pil w p most v X) (ht:Touch S w w') (hs:∀ g,g<w.heap.size→pfp p v g→¬ S g):Pil w' p most v X:=by
 refine ⟨h.blk.touch ht (hs p h.blk.lt (.inl rfl)),own_touch h.own ht (fun g hg=>hs g ?_ (.inr hg))⟩
 rcases h.own.2 with ⟨rfl,_⟩ | ⟨g',cap,cur,rfl,_,hgg,_⟩
 ·simp [Value.ownBlock] at hg
 ·simp [Value.ownBlock] at hg
  subst hg
  exact (Array.getElem?_eq_some_iff.1 hgg).1
theorem Pil.quiet {w w':World} {p:Nat} {most:Int} {v:Value} {X:List MRow} (h:Pil w p most v X) (ht:Touch (fun _=>False) w w'):Pil w' p most v X:=h.touch ht (fun _ _ _ f=>f)
def pth (p:Nat):Value:=.iface 289 (.pointer (some ⟨p,1,none⟩))
theorem meth_push (n:Nat) (a:Addr) (w:World):(method (n+1) 289 (.pointer (some a)) "Push").run Tryz.prog w=.ok (238,.pointer (some a)) w:=by kernel_rfl
theorem meth_len0 (n:Nat) (a:Addr) (w:World):(method (n+1) 289 (.pointer (some a)) "Len").run Tryz.prog w=(loadVar 285 a >>= fun v=>pure (234,v)).run Tryz.prog w:=by
 unfold method
 kernel_rfl
theorem meth_swap0 (n:Nat) (a:Addr) (w:World):(method (n+1) 289 (.pointer (some a)) "Swap").run Tryz.prog w=(loadVar 285 a >>= fun v=>pure (236,v)).run Tryz.prog w:=by
 unfold method
 kernel_rfl
theorem meth_less0 (n:Nat) (a:Addr) (w:World):(method (n+1) 289 (.pointer (some a)) "Less").run Tryz.prog w=(loadVar 285 a >>= fun v=>pure (235,v)).run Tryz.prog w:=by
 unfold method
 kernel_rfl
theorem meth_pop (n:Nat) (a:Addr) (w:World):(method (n+1) 289 (.pointer (some a)) "Pop").run Tryz.prog w=.ok (237,.pointer (some a)) w:=by kernel_rfl
theorem load_pile (a:Addr) (w:World) (v:Value) (f:FuncId) (hc:w.cell? a=some v):(loadVar 285 a >>= fun v=>pure (f,v)).run Tryz.prog w=.ok (f,v) w:=by
 have h:(isAgg 285).run Tryz.prog w=.ok false w:=by kernel_rfl
 simp [loadVar,h,hc]
theorem meth_len (n:Nat) (a:Addr) (w:World) (v:Value) (hc:w.cell? a=some v):(method (n+1) 289 (.pointer (some a)) "Len").run Tryz.prog w=.ok (234,v) w:=(meth_len0 n a w).trans (load_pile a w v _ hc)
theorem meth_swap (n:Nat) (a:Addr) (w:World) (v:Value) (hc:w.cell? a=some v):(method (n+1) 289 (.pointer (some a)) "Swap").run Tryz.prog w=.ok (236,v) w:=(meth_swap0 n a w).trans (load_pile a w v _ hc)
theorem meth_less (n:Nat) (a:Addr) (w:World) (v:Value) (hc:w.cell? a=some v):(method (n+1) 289 (.pointer (some a)) "Less").run Tryz.prog w=.ok (235,v) w:=(meth_less0 n a w).trans (load_pile a w v _ hc)
end Go.Proofs.YtbijfoeaemceiaaGreatDoor
namespace Go.Proofs.YtbijfoeaemceiaaGreatDoor
open Go.RowKit
theorem assert_match (cs:Array Value) (w:World):(Instr.typeAssert (.iface 98 (.agg cs)) 20 98 false).run Tryz.prog w=.ok (.agg cs) w:=by kernel_rfl
theorem val_cells (m:MRow):m.val=.agg #[.string m.word,.int .i64 m.weight,.int .i64 m.dist]:=rfl
set_option maxRecDepth 100000 in
set_option maxHeartbeats 1000000 in
theorem ppush_any (w:World) (p:Nat) (most:Int) (v:Value) (X:List MRow) (h:Pil w p most v X) (hX:X.length≤64) (m:MRow) :
  Calls Tryz.prog 238 #[.pointer (some ⟨p,1,none⟩),.iface 98 m.val] w fun e w' =>
   e=.returned (.tuple #[])∧∃ v',Pil w' p most v' (X++[m])∧Touch (pfp p v) w w'∧Fresh w v v':=by
 obtain ⟨hb,ho⟩:=h
 obtain ⟨A,c,hv,_,hc⟩:=own_len ho
 have c1:=hb.cell 1
 have f1:=hb.frozen 1
 simp at c1
 have hp:=hb.lt
 have HO:=hide ho
 have HB:=hide hb
 subst hv
 clear ho hb
 obtain ⟨i0,hi,hz0,hz1,hz2⟩:=info_parts infoMatch
 obtain ⟨mw,mn,md⟩:=m
 rw [val_cells]
 simp only
 have ta:=assert_match #[.string mw,.int .i64 mn,.int .i64 md]
 go_enter Tryz.func238,Tryz.ntmps238
 go_region_law (refine step_append_lies _ rfl (.tmp 7) (.tmp 10) 285 rfl 0 98 i0 _ 3 32 Tryz.underlying285 hi hz0 hz1 hz2 (by decide) (by decide) (.slice A X.length c) X.length (mCells X) (by simp [Act.eval]) ?own ⟨w.heap.size,0,none⟩ 1 1 (MRow.cells ⟨mw,mn,md⟩) (by simp [Act.eval]) rfl ?news ?one (by decide) ?b1 ?b2 (Nat.zero_le _) _ rfl ?_;(case own=>exact own_touch HO.out ((Touch.refl _ _).alloc _).drew (fun _ _ f=>f));(case news=>exact World.news_of_block (Blk.new w _ _));(case one=>exact List.all_eq_true.1 rfl);(case b1=>unfold maxLen;omega);(case b2=>omega);intro g cap w1 hown hgrow hlies hsz;have hgr:(w.alloc (.cells #[.string mw,.int .i64 mn,.int .i64 md] 98)).drew.grownBy w1 (Value.slice A X.length c).ownBlock:=hgrow;clear hgrow;have hb1:Blk w1 p 287 #[.int .i64 most,.slice A X.length c]:=(HB.out.alloc _).drew.grown hgr (fun e=>own_blk_ne HO.out HB.out (by decide) e.symm);obtain ⟨k1,k2,k3⟩:=hb1.facts;have HOW:=hide hown;have HG:=hide hgr;have HL:=hide hlies;have HB1:=hide hb1;clear hown hgr hlies hb1)
 all_goals go_end0
 all_goals refine ⟨rfl,.slice (some ⟨g,0,none⟩) (X.length+1) cap,⟨HB1.out.set_ 1 _,?_⟩,?_,?_⟩
 any_goals
  have e1:(X++[(⟨mw,mn,md⟩:MRow)]).length=X.length+1:=by simp
  have e2:mCells (X++[(⟨mw,mn,md⟩:MRow)])=mCells X++MRow.cells ⟨mw,mn,md⟩:=by simp [mCells]
  first
   | exact (by rw [e1,e2];exact own_setCell_far HOW.out (own_blk_ne HOW.out HB1.out (by decide)) _)
   | exact ((((Touch.refl _ _).alloc _).drew.app HG.out (fun g' hg' _=>.inr hg')).setCell (fun _=>.inl rfl) _)
   | exact (by
     rcases HL.out with e | e
     ·exact .inl e.symm
     ·exact .inr ⟨g,rfl,by rw [e];simp⟩)
theorem own_cut {w:World} {base:Nat} {e:TypeId} {size:Nat} {A:Option Addr} {n c:Nat} {xs:List Value} (h:w.ownsRow base e size (.slice A (n+1) c) (n+1) xs) :
  w.ownsRow base e size (.slice A n c) n (xs.take (n*size)):=by
 refine ⟨by rw [List.length_take,h.1];exact Nat.min_eq_left (Nat.mul_le_mul_right _ (by omega)),?_⟩
 rcases h.2 with ⟨h0,_⟩ | ⟨g',cap',cur,hv,hge,hgg,hle,hm,hsz,ht⟩
 ·cases h0
 ·injection hv with ha _ hc
  subst ha hc
  refine .inr ⟨g',c,cur,rfl,hge,hgg,by omega,hm,hsz,?_⟩
  rw [← ht,List.take_take,Nat.min_eq_left (Nat.mul_le_mul_right _ (by omega))]
theorem mCells_take (X:List MRow) (n:Nat):(mCells X).take (n*3)=mCells (X.take n):=by
 induction X generalizing n with
 | nil=>simp [mCells]
 | cons x X ih =>
  cases n with
  | zero=>simp [mCells]
  | succ n =>
   simp only [mCells,List.flatMap_cons,List.take_succ_cons] at ih ⊢
   rw [List.take_append,cells_lenB,List.take_of_length_le (by rw [cells_lenB];omega),show (n+1)*3-3=n*3 by omega,ih]
set_option maxRecDepth 100000 in
set_option maxHeartbeats 1000000 in
theorem ppop_any (w:World) (p:Nat) (most:Int) (v:Value) (X:List MRow) (n:Nat) (hX:X.length=n+1) (h:Pil w p most v X) :
  Calls Tryz.prog 237 #[.pointer (some ⟨p,1,none⟩)] w fun e w' =>
   e=.returned (.iface 98 (X.getD n MRow.zero).val)∧∃ v',Pil w' p most v' (X.take n)∧Touch (pfp p v) w w'∧v'.ownBlock=v.ownBlock:=by
 obtain ⟨hb,ho⟩:=h
 rw [hX] at ho
 obtain ⟨A,c,hv,_,hc⟩:=own_len ho
 subst hv
 have hlen:n+1≤maxLen:=own_le ho
 obtain ⟨g,rfl,hg,a0,a1,a2,_,_,_⟩:=own_at ho hX.symm n (by omega)
 have c1:=hb.cell 1
 have f1:=hb.frozen 1
 simp at c1
 have hp:=hb.lt
 have HO:=hide ho
 have HB:=hide hb
 have HX:=hide hX
 clear ho hb hX
 unfold maxLen at hc hlen
 obtain ⟨⟨xw,xn,xd⟩,hx⟩:∃ x,x=X.getD n MRow.zero:=⟨_,rfl⟩
 rw [← hx] at a0 a1 a2 ⊢
 simp only at a0 a1 a2
 rw [val_cells]
 simp only
 clear hx
 have i0:(0:Int)≤(n:Int):=by omega
 have i1:((n+1:Nat):Int)-1=(n:Int):=by omega
 have i2:(n:Int)<((n+1:Nat):Int):=by omega
 go_enter Tryz.func237,Tryz.ntmps237
 go_wp2
 go_ret
 refine ⟨rfl,.slice (some ⟨g,0,none⟩) n c,⟨(HB.out.set_ 1 _).alloc _,?_⟩,((Touch.refl _ _).setCell (fun _=>.inl rfl) _).alloc _,rfl⟩
 rw [← mCells_take,show (X.take n).length=n by rw [List.length_take,HX.out];omega]
 refine own_touch (S:=fun _=>False) ?_ ((Touch.refl _ _).alloc _) (fun _ _ f=>f)
 refine own_setCell_far (own_cut HO.out) ?_ _
 exact own_blk_ne HO.out HB.out (by decide)
end Go.Proofs.YtbijfoeaemceiaaGreatDoor
