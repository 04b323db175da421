/- What the law rests on, part 40. No condition but those that each theorem names. -/
import Derived.Test.YtbijfoeaemceiaaGreatDoorS39
import Derived.Deep.AppendLies
import Derived.Deep.RegionLaw
set_option linter.unusedSectionVars false
set_option linter.unusedSimpArgs false
set_option linter.unusedVariables false
namespace Go.Proofs.YtbijfoeaemceiaaGreatDoor
open Go.RowKit
theorem assert_match (cs:Array Value) (w:World):(Instr.typeAssert (.iface 98 (.agg cs)) 20 98 false).run Tryz.prog w=.ok (.agg cs) w:=by kernel_rfl
theorem val_cells (m:MRow):m.val=.agg #[.string m.word,.int .i64 m.weight,.int .i64 m.dist]:=rfl
set_option maxRecDepth 100000 in
set_option maxHeartbeats 1000000 in
theorem ppush_any (w:World) (p:Nat) (most:Int) (v:Value) (X:List MRow) (h:Pil w p most v X) (hX:X.length≤64) (m:MRow) :
  Calls Tryz.prog 238 #[.pointer (some ⟨p,1,none⟩),.iface 98 m.val] w fun e w' =>
   e=.returned (.tuple #[])∧∃ v',Pil w' p most v' (X++[m])∧Touch (pfp p v) w w'∧Fresh w v v':=by
 obtain ⟨hb,ho⟩:=h
 obtain ⟨A,c,hv,_,hc⟩:=own_len ho
 have c1:=hb.cell 1
 have f1:=hb.frozen 1
 simp at c1
 have hp:=hb.lt
 have HO:=hide ho
 have HB:=hide hb
 subst hv
 clear ho hb
 obtain ⟨i0,hi,hz0,hz1,hz2⟩:=info_parts infoMatch
 obtain ⟨mw,mn,md⟩:=m
 rw [val_cells]
 simp only
 have ta:=assert_match #[.string mw,.int .i64 mn,.int .i64 md]
 go_enter Tryz.func238,Tryz.ntmps238
 go_region_law (refine step_append_lies _ rfl (.tmp 7) (.tmp 10) 285 rfl 0 98 i0 _ 3 32 Tryz.underlying285 hi hz0 hz1 hz2 (by decide) (by decide) (.slice A X.length c) X.length (mCells X) (by simp [Act.eval]) ?own ⟨w.heap.size,0,none⟩ 1 1 (MRow.cells ⟨mw,mn,md⟩) (by simp [Act.eval]) rfl ?news ?one (by decide) ?b1 ?b2 (Nat.zero_le _) _ rfl ?_;(case own=>exact own_touch HO.out ((Touch.refl _ _).alloc _).drew (fun _ _ f=>f));(case news=>exact World.news_of_block (Blk.new w _ _));(case one=>exact List.all_eq_true.1 rfl);(case b1=>unfold maxLen;omega);(case b2=>omega);intro g cap w1 hown hgrow hlies hsz;have hgr:(w.alloc (.cells #[.string mw,.int .i64 mn,.int .i64 md] 98)).drew.grownBy w1 (Value.slice A X.length c).ownBlock:=hgrow;clear hgrow;have hb1:Blk w1 p 287 #[.int .i64 most,.slice A X.length c]:=(HB.out.alloc _).drew.grown hgr (fun e=>own_blk_ne HO.out HB.out (by decide) e.symm);obtain ⟨k1,k2,k3⟩:=hb1.facts;have HOW:=hide hown;have HG:=hide hgr;have HL:=hide hlies;have HB1:=hide hb1;clear hown hgr hlies hb1)
 all_goals go_end0
 all_goals refine ⟨rfl,.slice (some ⟨g,0,none⟩) (X.length+1) cap,⟨HB1.out.set_ 1 _,?_⟩,?_,?_⟩
 any_goals
  have e1:(X++[(⟨mw,mn,md⟩:MRow)]).length=X.length+1:=by simp
  have e2:mCells (X++[(⟨mw,mn,md⟩:MRow)])=mCells X++MRow.cells ⟨mw,mn,md⟩:=by simp [mCells]
  first
   | exact (by rw [e1,e2];exact own_setCell_far HOW.out (own_blk_ne HOW.out HB1.out (by decide)) _)
   | exact ((((Touch.refl _ _).alloc _).drew.app HG.out (fun g' hg' _=>.inr hg')).setCell (fun _=>.inl rfl) _)
   | exact (by
     rcases HL.out with e | e
     ·exact .inl e.symm
     ·exact .inr ⟨g,rfl,by rw [e];simp⟩)
theorem own_cut {w:World} {base:Nat} {e:TypeId} {size:Nat} {A:Option Addr} {n c:Nat} {xs:List Value} (h:w.ownsRow base e size (.slice A (n+1) c) (n+1) xs) :
  w.ownsRow base e size (.slice A n c) n (xs.take (n*size)):=by
 refine ⟨by rw [List.length_take,h.1];exact Nat.min_eq_left (Nat.mul_le_mul_right _ (by omega)),?_⟩
 rcases h.2 with ⟨h0,_⟩ | ⟨g',cap',cur,hv,hge,hgg,hle,hm,hsz,ht⟩
 ·cases h0
 ·injection hv with ha _ hc
  subst ha hc
  refine .inr ⟨g',c,cur,rfl,hge,hgg,by omega,hm,hsz,?_⟩
  rw [← ht,List.take_take,Nat.min_eq_left (Nat.mul_le_mul_right _ (by omega))]
theorem mCells_take (X:List MRow) (n:Nat):(mCells X).take (n*3)=mCells (X.take n):=by
 induction X generalizing n with
 | nil=>simp [mCells]
 | cons x X ih =>
  cases n with
  | zero=>simp [mCells]
  | succ n =>
   simp only [mCells,List.flatMap_cons,List.take_succ_cons] at ih ⊢
   rw [List.take_append,cells_lenB,List.take_of_length_le (by rw [cells_lenB];omega),show (n+1)*3-3=n*3 by omega,ih]
set_option maxRecDepth 100000 in
set_option maxHeartbeats 1000000 in
theorem ppop_any (w:World) (p:Nat) (most:Int) (v:Value) (X:List MRow) (n:Nat) (hX:X.length=n+1) (h:Pil w p most v X) :
  Calls Tryz.prog 237 #[.pointer (some ⟨p,1,none⟩)] w fun e w' =>
   e=.returned (.iface 98 (X.getD n MRow.zero).val)∧∃ v',Pil w' p most v' (X.take n)∧Touch (pfp p v) w w'∧v'.ownBlock=v.ownBlock:=by
 obtain ⟨hb,ho⟩:=h
 rw [hX] at ho
 obtain ⟨A,c,hv,_,hc⟩:=own_len ho
 subst hv
 have hlen:n+1≤maxLen:=own_le ho
 obtain ⟨g,rfl,hg,a0,a1,a2,_,_,_⟩:=own_at ho hX.symm n (by omega)
 have c1:=hb.cell 1
 have f1:=hb.frozen 1
 simp at c1
 have hp:=hb.lt
 have HO:=hide ho
 have HB:=hide hb
 have HX:=hide hX
 clear ho hb hX
 unfold maxLen at hc hlen
 obtain ⟨⟨xw,xn,xd⟩,hx⟩:∃ x,x=X.getD n MRow.zero:=⟨_,rfl⟩
 rw [← hx] at a0 a1 a2 ⊢
 simp only at a0 a1 a2
 rw [val_cells]
 simp only
 clear hx
 have i0:(0:Int)≤(n:Int):=by omega
 have i1:((n+1:Nat):Int)-1=(n:Int):=by omega
 have i2:(n:Int)<((n+1:Nat):Int):=by omega
 go_enter Tryz.func237,Tryz.ntmps237
 go_wp2
 go_ret
 refine ⟨rfl,.slice (some ⟨g,0,none⟩) n c,⟨(HB.out.set_ 1 _).alloc _,?_⟩,((Touch.refl _ _).setCell (fun _=>.inl rfl) _).alloc _,rfl⟩
 rw [← mCells_take,show (X.take n).length=n by rw [List.length_take,HX.out];omega]
 refine own_touch (S:=fun _=>False) ?_ ((Touch.refl _ _).alloc _) (fun _ _ f=>f)
 refine own_setCell_far (own_cut HO.out) ?_ _
 exact own_blk_ne HO.out HB.out (by decide)
end Go.Proofs.YtbijfoeaemceiaaGreatDoor
namespace Go.Proofs.YtbijfoeaemceiaaGreatDoor
open Go.RowKit
theorem upF_succ (f:Nat) (X:List MRow) (j:Nat):upF (f+1) X j=if j=0 then X else if better (X.getD ((j-1) / 2) MRow.zero) (X.getD j MRow.zero)=true then upF f (swp X ((j-1) / 2) j) ((j-1) / 2) else X:=rfl
theorem downF_succ (f:Nat) (X:List MRow) (i n:Nat):downF (f+1) X i n=if n≤2*i+1 then X else if better (X.getD i MRow.zero) (X.getD (kid X i n) MRow.zero)=true then downF f (swp X i (kid X i n)) (kid X i n) n else X:=rfl
theorem ad_own {A:Option Addr} {n c g:Nat}:adBlock A=some g↔(Value.slice A n c).ownBlock=some g:=by
 cases A<;>simp [adBlock,Value.ownBlock]
set_option maxRecDepth 100000 in
set_option maxHeartbeats 1000000 in
theorem up_any (w:World) (p:Nat) (most:Int) (v:Value) (X:List MRow) (h:Pil w p most v X) (hX:X.length≤65) (j:Nat) (hj:j<X.length) :
  Calls Tryz.prog 203 #[pth p,.int .i64 j] w fun e w'=>e=.returned (.tuple #[])∧Pil w' p most v (upF X.length X j)∧Touch (pfp p v) w w':=by
 unfold pth
 go_enter Tryz.func203,Tryz.ntmps203
 go_wp2
 go_loopw [1] (fun i wr=>∃ (k:Nat) (Y:List MRow),k<Y.length∧Y.length=X.length∧i=.int .i64 k∧Hid (∃ f,k≤f∧upF f Y k=upF X.length X j)∧Hid (Pil wr p most v Y∧Touch (pfp p v) w wr)) (fun i _=>(intOf i).toNat)
 case atStart=>exact ⟨j,X,hj,rfl,rfl,hide ⟨X.length,by omega,rfl⟩,hide ⟨h,Touch.refl _ _⟩⟩
 case round =>
  obtain ⟨k,Y,hk,hY,rfl,HU,HP⟩:=hrel
  have c1:=HP.out.1.blk.cell 1
  simp at c1
  by_cases h0:k=0
  ·subst h0
   have q0:Int.tdiv (((0:Nat):Int)-1) 2=0:=by decide
   go_wp2
   go_end0
   obtain ⟨f,_,hf⟩:=HU.out
   have e:upF f Y 0=Y:=by cases f<;>simp [upF]
   rw [← hf,e]
   exact ⟨rfl,HP.out⟩
  ·obtain ⟨m,hm⟩:∃ m,m=(k-1) / 2:=⟨_,rfl⟩
   have q0:Int.tdiv ((k:Int)-1) 2=(m:Int):=by rw [Int.tdiv_eq_ediv_of_nonneg (by omega)];omega
   have q1:((m:Int) == (k:Int))=false:=by simp;omega
   have HM:=hide hm
   have hmk:m<k:=by omega
   clear hm
   have ml:(method 435 289 (.pointer (some ⟨p,1,none⟩)) "Less").run Tryz.prog wr=.ok (235,v) wr:=meth_less 434 _ wr v c1
   obtain ⟨A,c,rfl,_,hc⟩:=own_len (hY ▸ HP.out.1.own)
   have O1:Hid (wr.ownsRow 0 98 3 (.slice A X.length c) X.length (mCells Y)):=hide (hY ▸ HP.out.1.own)
   have hkX:k<X.length:=by omega
   cases hb:better (Y.getD m MRow.zero) (Y.getD k MRow.zero) with
   | false =>
    have HB:=hide hb
    clear hb
    go_wp2_with (go_at_call 235;refine (pless_any wr A X.length c Y hY.symm (Reads.of_own O1.out) (own_le O1.out) k m hkX (Nat.lt_trans hmk hkX)).mono ?_;rintro e w2 ⟨rfl,hc2⟩;have C2:=hide hc2;clear hc2;rw [HB.out])
    go_end0
    obtain ⟨f,hkf,hf⟩:=HU.out
    have e:upF f Y k=Y:=by
     cases f with
     | zero=>omega
     | succ f=>unfold upF;rw [if_neg h0,← HM.out,HB.out];simp
    rw [← hf,e]
    exact ⟨rfl,HP.out.1.quiet C2.out,HP.out.2.then (C2.out.up _)⟩
   | true =>
    have HB:=hide hb
    clear hb
    go_wp2_with (first
     | (go_at_call 235;refine (pless_any wr A X.length c Y hY.symm (Reads.of_own O1.out) (own_le O1.out) k m hkX (Nat.lt_trans hmk hkX)).mono ?_;rintro e w2 ⟨rfl,hc2⟩;have C2:=hide hc2;have P2:=hide (HP.out.1.quiet hc2);have c2:=P2.out.blk.cell 1;simp at c2;have ms:(method 435 289 (.pointer (some ⟨p,1,none⟩)) "Swap").run Tryz.prog w2=.ok (236,.slice A X.length c) w2:=meth_swap 434 _ w2 _ c2;clear hc2;rw [HB.out])
     | (go_at_call 236;refine (pswap_any w2 A X.length c Y hY.symm (hY ▸ P2.out.own) m k (Nat.lt_trans hmk hkX) hkX).mono ?_;rintro e w3 ⟨rfl,ho3,hc3⟩;have C3:=hide hc3;have O3:=hide ho3;clear hc3 ho3))
    go_roundw
    ·refine ⟨m,swp Y m k,by rw [swp_len];exact Nat.lt_trans hmk hk,by rw [swp_len];exact hY,rfl,hide ?_,hide ⟨⟨P2.out.blk.touch C3.out (fun e=>?_),?_⟩,(HP.out.2.then (C2.out.up _)).then (C3.out.mono (fun g _ hg=>.inr ?_))⟩⟩
     ·obtain ⟨f,hkf,hf⟩:=HU.out
      cases f with
      | zero=>omega
      | succ f =>
       refine ⟨f,by omega,?_⟩
       rw [upF_succ] at hf
       rw [if_neg h0,← HM.out,if_pos HB.out] at hf
       exact hf
     ·exact own_blk_ne O1.out HP.out.1.blk (by decide) (ad_own.1 e)
     ·rw [swp_len,hY]
      exact O3.out
     ·exact ad_own.1 hg
    ·show (intOf (.int .i64 (m:Int))).toNat<(intOf (.int .i64 (k:Int))).toNat
     simp [intOf]
     exact hmk
set_option maxRecDepth 100000 in
set_option maxHeartbeats 1000000 in
theorem down_any (w:World) (p:Nat) (most:Int) (v:Value) (X:List MRow) (h:Pil w p most v X) (hX:X.length≤65) (n:Nat) (hn:n≤X.length) :
  Calls Tryz.prog 202 #[pth p,.int .i64 0,.int .i64 n] w fun e w'=>(∃ b,e=.returned (.bool b))∧Pil w' p most v (downF X.length X 0 n)∧Touch (pfp p v) w w':=by
 unfold pth
 go_enter Tryz.func202,Tryz.ntmps202
 go_wp2
 go_loopw [7] (fun i wr=>∃ (k:Nat) (Y:List MRow),k≤65∧Y.length=X.length∧i=.int .i64 k∧Hid (∃ f,n≤f+k∧downF f Y k n=downF X.length X 0 n)∧Hid (Pil wr p most v Y∧Touch (pfp p v) w wr)) (fun i _=>65-(intOf i).toNat)
 case atStart=>exact ⟨0,X,Nat.zero_le _,rfl,rfl,hide ⟨X.length,by omega,rfl⟩,hide ⟨h,Touch.refl _ _⟩⟩
 case round =>
  obtain ⟨k,Y,hk,hY,rfl,HU,HP⟩:=hrel
  have c1:=HP.out.1.blk.cell 1
  simp at c1
  obtain ⟨m,hm⟩:∃ m,m=2*k+1:=⟨_,rfl⟩
  have q0:(2:Int)*(k:Int)+1=(m:Int):=by omega
  have q1:(m:Int)≤200:=by omega
  by_cases h0:n≤m
  ·have HM:=hide hm
   clear hm
   have q2:decide ((n:Int)≤(m:Int))=true:=by simp;omega
   go_wp2
   go_ret
   obtain ⟨f,hkf,hf⟩:=HU.out
   have e:downF f Y k n=Y:=by
    cases f with
    | zero=>rfl
    | succ f=>rw [downF_succ,if_pos (by rw [← HM.out];exact h0)]
   rw [← hf,e]
   exact ⟨⟨_,rfl⟩,HP.out⟩
  ·have q2:decide ((n:Int)≤(m:Int))=false:=by simp;omega
   have hmX:m<X.length:=by omega
   have hkX:k<X.length:=by omega
   have hk65:k<65:=by omega
   have hmk:k<m:=by omega
   have hm65:m≤65:=by omega
   have HM:=hide hm
   clear hm
   have q3:decide ((m:Int)<0)=false:=by simp
   obtain ⟨A,c,rfl,_,hc⟩:=own_len (hY ▸ HP.out.1.own)
   have O1:Hid (wr.ownsRow 0 98 3 (.slice A X.length c) X.length (mCells Y)):=hide (hY ▸ HP.out.1.own)
   have P0:=hide HP.out.1
   have ml0:(method 435 289 (.pointer (some ⟨p,1,none⟩)) "Less").run Tryz.prog wr=.ok (235,.slice A X.length c) wr:=meth_less 434 _ wr _ c1
   obtain ⟨m2,hm2⟩:∃ m2,m2=m+1:=⟨_,rfl⟩
   have r0:(m:Int)+1=(m2:Int):=by omega
   have hmm:m<m2:=by omega
   have HM2:=hide hm2
   clear hm2
   by_cases h2:m2<n
   ·have q4:decide ((m2:Int)<(n:Int))=true:=by simp;omega
    have hm2X:m2<X.length:=by omega
    cases hb:better (Y.getD m MRow.zero) (Y.getD m2 MRow.zero) with
    | true =>
     have KD:Hid (kid Y k n=m2):=hide (by unfold kid;rw [show 2*k+2=m2 by rw [HM2.out,HM.out],← HM.out,if_pos ⟨h2,hb⟩])
     have B0:=hide hb
     clear hb
     go_wp2_with fail
     refine (pless_any wr A X.length c Y hY.symm (Reads.of_own (hY ▸ P0.out.own)) (own_le O1.out) m2 m hm2X hmX).mono ?_
     rintro e w1 ⟨rfl,hc⟩
     have C0:=hide hc
     have P1:=hide (P0.out.quiet hc)
     have c1:=P1.out.blk.cell 1
     simp at c1
     have ml1:(method 435 289 (.pointer (some ⟨p,1,none⟩)) "Less").run Tryz.prog w1=.ok (235,.slice A X.length c) w1:=meth_less 434 _ w1 _ c1
     have ms1:(method 435 289 (.pointer (some ⟨p,1,none⟩)) "Swap").run Tryz.prog w1=.ok (236,.slice A X.length c) w1:=meth_swap 434 _ w1 _ c1
     clear hc
     rw [B0.out]
     cases hd:better (Y.getD k MRow.zero) (Y.getD m2 MRow.zero) with
     | false =>
      have BD:=hide hd
      clear hd
      go_wp2_with fail
      refine (pless_any w1 A X.length c Y hY.symm (Reads.of_own (hY ▸ P1.out.own)) (own_le O1.out) m2 k hm2X hkX).mono ?_
      rintro e wd ⟨rfl,hc⟩
      have C1:=hide hc
      have P2:=hide (P1.out.quiet hc)
      have c2:=P2.out.blk.cell 1
      simp at c2
      have ml2:(method 435 289 (.pointer (some ⟨p,1,none⟩)) "Less").run Tryz.prog wd=.ok (235,.slice A X.length c) wd:=meth_less 434 _ wd _ c2
      have ms2:(method 435 289 (.pointer (some ⟨p,1,none⟩)) "Swap").run Tryz.prog wd=.ok (236,.slice A X.length c) wd:=meth_swap 434 _ wd _ c2
      clear hc
      rw [BD.out]
      go_wp2
      go_ret
      obtain ⟨f,hkf,hf⟩:=HU.out
      have e:downF f Y k n=Y:=by
       cases f with
       | zero=>omega
       | succ f=>rw [downF_succ,if_neg (by rw [← HM.out];omega),KD.out,BD.out];simp
      rw [← hf,e]
      exact ⟨⟨_,rfl⟩,P2.out,((HP.out.2.then (C0.out.up _)).then (C1.out.up _))⟩
     | true =>
      have BD:=hide hd
      clear hd
      go_wp2_with fail
      refine (pless_any w1 A X.length c Y hY.symm (Reads.of_own (hY ▸ P1.out.own)) (own_le O1.out) m2 k hm2X hkX).mono ?_
      rintro e wd ⟨rfl,hc⟩
      have C1:=hide hc
      have P2:=hide (P1.out.quiet hc)
      have c2:=P2.out.blk.cell 1
      simp at c2
      have ml2:(method 435 289 (.pointer (some ⟨p,1,none⟩)) "Less").run Tryz.prog wd=.ok (235,.slice A X.length c) wd:=meth_less 434 _ wd _ c2
      have ms2:(method 435 289 (.pointer (some ⟨p,1,none⟩)) "Swap").run Tryz.prog wd=.ok (236,.slice A X.length c) wd:=meth_swap 434 _ wd _ c2
      clear hc
      rw [BD.out]
      go_wp2_with (go_at_call 236;refine (pswap_any wd A X.length c Y hY.symm (hY ▸ P2.out.own) k m2 hkX hm2X).mono ?_;rintro e w3 ⟨rfl,ho3,hc3⟩;have C9:=hide hc3;have O3:=hide ho3;clear hc3 ho3)
      go_roundw
      ·refine ⟨m2,swp Y k m2,by omega,by rw [swp_len];exact hY,by simp,hide ?_,hide ⟨⟨P2.out.blk.touch C9.out (fun e=>?_),?_⟩,((HP.out.2.then (C0.out.up _)).then (C1.out.up _)).then (C9.out.mono (fun g _ hg=>.inr ?_))⟩⟩
       ·obtain ⟨f,hkf,hf⟩:=HU.out
        cases f with
        | zero=>omega
        | succ f =>
         refine ⟨f,by omega,?_⟩
         rw [downF_succ,if_neg (by rw [← HM.out];omega),KD.out,if_pos BD.out] at hf
         exact hf
       ·exact own_blk_ne O1.out HP.out.1.blk (by decide) (ad_own.1 e)
       ·rw [swp_len,hY]
        exact O3.out
       ·exact ad_own.1 hg
      ·show 65-(intOf (.int .i64 (m2:Int))).toNat<65-(intOf (.int .i64 (k:Int))).toNat
       simp [intOf]
       omega
    | false =>
     have KD:Hid (kid Y k n=m):=hide (by unfold kid;rw [show 2*k+2=m2 by rw [HM2.out,HM.out],← HM.out,if_neg (by rw [hb];simp)])
     have B0:=hide hb
     clear hb
     go_wp2_with fail
     refine (pless_any wr A X.length c Y hY.symm (Reads.of_own (hY ▸ P0.out.own)) (own_le O1.out) m2 m hm2X hmX).mono ?_
     rintro e w1 ⟨rfl,hc⟩
     have C0:=hide hc
     have P1:=hide (P0.out.quiet hc)
     have c1:=P1.out.blk.cell 1
     simp at c1
     have ml1:(method 435 289 (.pointer (some ⟨p,1,none⟩)) "Less").run Tryz.prog w1=.ok (235,.slice A X.length c) w1:=meth_less 434 _ w1 _ c1
     have ms1:(method 435 289 (.pointer (some ⟨p,1,none⟩)) "Swap").run Tryz.prog w1=.ok (236,.slice A X.length c) w1:=meth_swap 434 _ w1 _ c1
     clear hc
     rw [B0.out]
     cases hd:better (Y.getD k MRow.zero) (Y.getD m MRow.zero) with
     | false =>
      have BD:=hide hd
      clear hd
      go_wp2_with fail
      refine (pless_any w1 A X.length c Y hY.symm (Reads.of_own (hY ▸ P1.out.own)) (own_le O1.out) m k hmX hkX).mono ?_
      rintro e wd ⟨rfl,hc⟩
      have C1:=hide hc
      have P2:=hide (P1.out.quiet hc)
      have c2:=P2.out.blk.cell 1
      simp at c2
      have ml2:(method 435 289 (.pointer (some ⟨p,1,none⟩)) "Less").run Tryz.prog wd=.ok (235,.slice A X.length c) wd:=meth_less 434 _ wd _ c2
      have ms2:(method 435 289 (.pointer (some ⟨p,1,none⟩)) "Swap").run Tryz.prog wd=.ok (236,.slice A X.length c) wd:=meth_swap 434 _ wd _ c2
      clear hc
      rw [BD.out]
      go_wp2
      go_ret
      obtain ⟨f,hkf,hf⟩:=HU.out
      have e:downF f Y k n=Y:=by
       cases f with
       | zero=>omega
       | succ f=>rw [downF_succ,if_neg (by rw [← HM.out];omega),KD.out,BD.out];simp
      rw [← hf,e]
      exact ⟨⟨_,rfl⟩,P2.out,((HP.out.2.then (C0.out.up _)).then (C1.out.up _))⟩
     | true =>
      have BD:=hide hd
      clear hd
      go_wp2_with fail
      refine (pless_any w1 A X.length c Y hY.symm (Reads.of_own (hY ▸ P1.out.own)) (own_le O1.out) m k hmX hkX).mono ?_
      rintro e wd ⟨rfl,hc⟩
      have C1:=hide hc
      have P2:=hide (P1.out.quiet hc)
      have c2:=P2.out.blk.cell 1
      simp at c2
      have ml2:(method 435 289 (.pointer (some ⟨p,1,none⟩)) "Less").run Tryz.prog wd=.ok (235,.slice A X.length c) wd:=meth_less 434 _ wd _ c2
      have ms2:(method 435 289 (.pointer (some ⟨p,1,none⟩)) "Swap").run Tryz.prog wd=.ok (236,.slice A X.length c) wd:=meth_swap 434 _ wd _ c2
      clear hc
      rw [BD.out]
      go_wp2_with (go_at_call 236;refine (pswap_any wd A X.length c Y hY.symm (hY ▸ P2.out.own) k m hkX hmX).mono ?_;rintro e w3 ⟨rfl,ho3,hc3⟩;have C9:=hide hc3;have O3:=hide ho3;clear hc3 ho3)
      go_roundw
      ·refine ⟨m,swp Y k m,by omega,by rw [swp_len];exact hY,by simp,hide ?_,hide ⟨⟨P2.out.blk.touch C9.out (fun e=>?_),?_⟩,((HP.out.2.then (C0.out.up _)).then (C1.out.up _)).then (C9.out.mono (fun g _ hg=>.inr ?_))⟩⟩
       ·obtain ⟨f,hkf,hf⟩:=HU.out
        cases f with
        | zero=>omega
        | succ f =>
         refine ⟨f,by omega,?_⟩
         rw [downF_succ,if_neg (by rw [← HM.out];omega),KD.out,if_pos BD.out] at hf
         exact hf
       ·exact own_blk_ne O1.out HP.out.1.blk (by decide) (ad_own.1 e)
       ·rw [swp_len,hY]
        exact O3.out
       ·exact ad_own.1 hg
      ·show 65-(intOf (.int .i64 (m:Int))).toNat<65-(intOf (.int .i64 (k:Int))).toNat
       simp [intOf]
       omega
   ·have q4:decide ((m2:Int)<(n:Int))=false:=by simp;omega
    have KD:Hid (kid Y k n=m):=hide (by unfold kid;rw [show 2*k+2=m2 by rw [HM2.out,HM.out],← HM.out,if_neg (fun h=>h2 h.1)])
    cases hd:better (Y.getD k MRow.zero) (Y.getD m MRow.zero) with
    | false =>
     have BD:=hide hd
     clear hd
     go_wp2_with fail
     refine (pless_any wr A X.length c Y hY.symm (Reads.of_own (hY ▸ P0.out.own)) (own_le O1.out) m k hmX hkX).mono ?_
     rintro e wd ⟨rfl,hc⟩
     have C0:=hide hc
     have P1:=hide (P0.out.quiet hc)
     have c1:=P1.out.blk.cell 1
     simp at c1
     have ml1:(method 435 289 (.pointer (some ⟨p,1,none⟩)) "Less").run Tryz.prog wd=.ok (235,.slice A X.length c) wd:=meth_less 434 _ wd _ c1
     have ms1:(method 435 289 (.pointer (some ⟨p,1,none⟩)) "Swap").run Tryz.prog wd=.ok (236,.slice A X.length c) wd:=meth_swap 434 _ wd _ c1
     clear hc
     rw [BD.out]
     go_wp2
     go_ret
     obtain ⟨f,hkf,hf⟩:=HU.out
     have e:downF f Y k n=Y:=by
      cases f with
      | zero=>omega
      | succ f=>rw [downF_succ,if_neg (by rw [← HM.out];omega),KD.out,BD.out];simp
     rw [← hf,e]
     exact ⟨⟨_,rfl⟩,P1.out,(HP.out.2.then (C0.out.up _))⟩
    | true =>
     have BD:=hide hd
     clear hd
     go_wp2_with fail
     refine (pless_any wr A X.length c Y hY.symm (Reads.of_own (hY ▸ P0.out.own)) (own_le O1.out) m k hmX hkX).mono ?_
     rintro e wd ⟨rfl,hc⟩
     have C0:=hide hc
     have P1:=hide (P0.out.quiet hc)
     have c1:=P1.out.blk.cell 1
     simp at c1
     have ml1:(method 435 289 (.pointer (some ⟨p,1,none⟩)) "Less").run Tryz.prog wd=.ok (235,.slice A X.length c) wd:=meth_less 434 _ wd _ c1
     have ms1:(method 435 289 (.pointer (some ⟨p,1,none⟩)) "Swap").run Tryz.prog wd=.ok (236,.slice A X.length c) wd:=meth_swap 434 _ wd _ c1
     clear hc
     rw [BD.out]
     go_wp2_with (go_at_call 236;refine (pswap_any wd A X.length c Y hY.symm (hY ▸ P1.out.own) k m hkX hmX).mono ?_;rintro e w3 ⟨rfl,ho3,hc3⟩;have C9:=hide hc3;have O3:=hide ho3;clear hc3 ho3)
     go_roundw
     ·refine ⟨m,swp Y k m,by omega,by rw [swp_len];exact hY,by simp,hide ?_,hide ⟨⟨P1.out.blk.touch C9.out (fun e=>?_),?_⟩,(HP.out.2.then (C0.out.up _)).then (C9.out.mono (fun g _ hg=>.inr ?_))⟩⟩
      ·obtain ⟨f,hkf,hf⟩:=HU.out
       cases f with
       | zero=>omega
       | succ f =>
        refine ⟨f,by omega,?_⟩
        rw [downF_succ,if_neg (by rw [← HM.out];omega),KD.out,if_pos BD.out] at hf
        exact hf
      ·exact own_blk_ne O1.out HP.out.1.blk (by decide) (ad_own.1 e)
      ·rw [swp_len,hY]
       exact O3.out
      ·exact ad_own.1 hg
     ·show 65-(intOf (.int .i64 (m:Int))).toNat<65-(intOf (.int .i64 (k:Int))).toNat
      simp [intOf]
      omega
end Go.Proofs.YtbijfoeaemceiaaGreatDoor
