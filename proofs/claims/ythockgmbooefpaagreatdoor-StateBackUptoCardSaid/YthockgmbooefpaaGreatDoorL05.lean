/- What the law rests on, part 5. No condition but those that each theorem names. -/
import Derived.Test.YthockgmbooefpaaGreatDoorL04
import Derived.RegionTactic
import Derived.ChangeAlike
import Derived.BigQuiet
import Derived.Laws.BitsLemmas
import Derived.Deep.QuietTactic
set_option linter.unusedSectionVars false
set_option linter.unusedSimpArgs false
set_option linter.unusedVariables false
set_option maxRecDepth 100000
set_option maxHeartbeats 4000000
namespace Go.Proofs.YthockgmbooefpaaGreatDoor
open Go.RowKit
def uCells (U:List S3):List Value:=U.flatMap fun u=>[.int .i64 u.1,.int .i64 u.2.1,.int .i64 u.2.2]
theorem uCells_at (X:List S3) (k:Nat) (hk:k<X.length) (j:Nat) (hj:j<3):(uCells X)[k*3+j]? = some ([.int .i64 (X.getD k z3).1,.int .i64 (X.getD k z3).2.1,.int .i64 (X.getD k z3).2.2].getD j undef):=by
 induction X generalizing k with
 | nil=>simp at hk
 | cons x X ih =>
  have e:uCells (x :: X)=[.int .i64 x.1,.int .i64 x.2.1,.int .i64 x.2.2]++uCells X:=rfl
  cases k with
  | zero =>
   rw [e,Nat.zero_mul,Nat.zero_add]
   obtain rfl | rfl | rfl:j=0∨j=1∨j=2:=by omega
   ·rfl
   ·rfl
   ·rfl
  | succ k =>
   rw [e,List.getElem?_append_right (by simp;omega)]
   have:(k+1)*3+j-[Value.int .i64 x.1,Value.int .i64 x.2.1,Value.int .i64 x.2.2].length=k*3+j:=by simp;omega
   rw [this,ih k (by simp at hk;omega)]
   simp [List.getD]
theorem sum_at {w:World} {A:Option Addr} {n:Nat} {X:List S3} (h:Reads w 3 A n (uCells X)) (hn:X.length=n) (k:Nat) (hk:k<n) :
  ∃ g off,A=some ⟨g,off,none⟩∧g<w.heap.size∧w.cell? ⟨g,off+k*3,none⟩=some (.int .i64 (X.getD k z3).1)∧w.cell? ⟨g,off+k*3+1,none⟩=some (.int .i64 (X.getD k z3).2.1)∧w.cell? ⟨g,off+k*3+2,none⟩=some (.int .i64 (X.getD k z3).2.2):=by
 obtain ⟨b,off,hA,hb,hc⟩:=h.2 (by omega)
 refine ⟨b,off,hA,hb,?_,?_,?_⟩
 ·exact hc (k*3) _ (uCells_at X k (by omega) 0 (by omega))
 ·rw [Nat.add_assoc];exact hc (k*3+1) _ (uCells_at X k (by omega) 1 (by omega))
 ·rw [Nat.add_assoc];exact hc (k*3+2) _ (uCells_at X k (by omega) 2 (by omega))
theorem sum_any (w:World) (z:SV) (hz:z.Ok w) (U:List S3) (uA:Option Addr) (N uc:Nat) (hU:RdT w 243 3 uA N (uCells U)) (hUl:U.length=N) (_:N≤1000000)
  (hB:∀ j,(0≤(sumP U z.p j).1∧(sumP U z.p j).1≤4096)∧(0≤(sumP U z.p j).2.1∧(sumP U z.p j).2.1≤24)∧(0≤(sumP U z.p j).2.2∧(sumP U z.p j).2.2≤1048576))
  (hE:∀ a∈z.arcs,a.2.2<N∧(0≤a.2.1∧a.2.1≤1048576)∧(0≤(U.getD a.2.2 z3).1∧(U.getD a.2.2 z3).1≤4096)∧(0≤(U.getD a.2.2 z3).2.1∧(U.getD a.2.2 z3).2.1≤24)∧(0≤(U.getD a.2.2 z3).2.2∧(U.getD a.2.2 z3).2.2≤1048576)) :
  Calls Tryz.prog 139 #[.agg #[.bool z.fin,.int .i64 z.out,.slice z.A z.n z.c],.slice uA N uc] w fun e w'=>e=.returned (.tuple #[.agg #[.int .i64 (sumP U z.p z.n).1,.int .i64 (sumP U z.p z.n).2.1,.int .i64 (sumP U z.p z.n).2.2],.bool true])∧Touch (fun _=>False) w w':=by
 obtain ⟨fin,out,aA,n,ac,arcs⟩:=z
 obtain ⟨hlen,hrd,hle,hmx⟩:=hz
 simp only [SV.p] at *
 have hnm:n≤maxLen:=Nat.le_trans hle hmx
 have HU:=hide hU
 have HUL:=hide hUl
 have HRD:=hide hrd
 have HLEN:=hide hlen
 have HB:=hide hB
 have HE:=hide hE
 clear hU hrd hlen hB hE hle hmx hUl
 cases fin with
 | true =>
  go_enter Tryz.func139,Tryz.ntmps139
  go_wp2_with fail
  obtain ⟨w3,hw3⟩:∃ x,x=((w.alloc (.cells #[.bool true,.int .i64 out,.slice aA n ac] 170)).alloc (.cells #[.int .i64 0,.int .i64 0,.int .i64 0] 243)).alloc (.cells #[.int .i64 1,.int .i64 0,.int .i64 out] 243):=⟨_,rfl⟩
  obtain ⟨X,hX⟩:∃ X,X=w.heap.size+1+1:=⟨_,rfl⟩
  obtain ⟨Y,hY⟩:∃ Y,Y=w.heap.size+1:=⟨_,rfl⟩
  have hT3:Touch (fun _=>False) w w3:=by
   rw [hw3]
   exact ((((Touch.refl _ _).alloc _).alloc _).alloc _)
  have hbX:Blk w3 X 243 #[.int .i64 1,.int .i64 0,.int .i64 out]:=by
   rw [hw3,hX]
   have h:=Blk.new ((w.alloc (.cells #[.bool true,.int .i64 out,.slice aA n ac] 170)).alloc (.cells #[.int .i64 0,.int .i64 0,.int .i64 0] 243)) 243 #[.int .i64 1,.int .i64 0,.int .i64 out]
   simpa using h
  have hbY:Blk w3 Y 243 #[.int .i64 0,.int .i64 0,.int .i64 0]:=by
   rw [hw3,hY]
   have h:=(Blk.new (w.alloc (.cells #[.bool true,.int .i64 out,.slice aA n ac] 170)) 243 #[.int .i64 0,.int .i64 0,.int .i64 0]).alloc (.cells #[.int .i64 1,.int .i64 0,.int .i64 out] 243)
   simpa using h
  rw [← hw3,← hX]
  try rw [← hY]
  have HT3:=hide hT3
  have HXL:=hide (show w.heap.size≤X by omega)
  have HXY:=hide (show Y≠X by omega)
  have HYL:=hide (show w.heap.size≤Y by omega)
  have HBX:=hide hbX
  have HBY:=hide hbY
  clear hw3 hT3 hbX hbY hX hY
  go_loopw [19] (fun iv wr=>∃ (i:Nat) (x1 x2 x3:Int),iv=.int .i64 i∧i≤n∧Hid ((x1,x2,x3)=sumP U ⟨true,out,arcs⟩ i)∧Hid (Blk wr X 243 #[.int .i64 x1,.int .i64 x2,.int .i64 x3])∧Hid (Touch (fun g=>g=X) w3 wr)) (fun iv _=>n-(intOf iv).toNat)
  case atStart=>exact ⟨0,1,0,out,rfl,by omega,hide (by rw [sumP_zero];rfl),HBX,hide (Touch.refl _ _)⟩
  case round =>
   obtain ⟨i,x1,x2,x3,rfl,hi,HP,HX,HT⟩:=hrel
   have hbi:=HB.out i
   rw [← HP.out] at hbi
   simp only at hbi
   obtain ⟨⟨b1,b2⟩,⟨b3,b4⟩,⟨b5,b6⟩⟩:=hbi
   have hq:Touch (fun _=>False) w wr:=HT3.out.trans HT.out (fun g hg e=>by have:=HXL.out;omega)
   by_cases hin:i<n
   ·have y1:(i:Int)<(n:Int):=by omega
    have y2:(0:Int)≤(i:Int):=by omega
    have z2:IntKind.i64.wrap ((i:Int)+1)=(i:Int)+1:=IntWalk.i64_in _ (by unfold maxLen at hnm;omega)
    obtain ⟨g,o,hA,hg,c1,c2,c3⟩:=arc_at (HRD.out.quiet hq).rd HLEN.out i hin
    subst hA
    have hmem:=getD_mem arcs (0,0,0) i (by rw [HLEN.out];exact hin)
    have he:=HE.out _ hmem
    have hsu:=sumP_succ U ⟨true,out,arcs⟩ i (by rw [HLEN.out];exact hin)
    rw [← HP.out] at hsu
    simp only at hsu
    obtain ⟨⟨la,ao,tt⟩,hz⟩:∃ z,arcs.getD i (0,0,0)=z:=⟨_,rfl⟩
    rw [hz] at c1 c2 c3 he hsu
    simp only [sumStep] at c1 c2 c3 he hsu
    obtain ⟨g2,o2,hA2,hg2,d1,d2,d3⟩:=sum_at (HU.out.quiet hq).rd HUL.out tt he.1
    subst hA2
    obtain ⟨⟨u1,u2,u3⟩,hu⟩:∃ z,U.getD tt z3=z:=⟨_,rfl⟩
    rw [hu] at d1 d2 d3 he hsu
    simp only at d1 d2 d3 he hsu
    obtain ⟨e0,⟨e1,e2⟩,⟨e3,e4⟩,⟨e5,e6⟩,⟨e7,e8⟩⟩:=he
    have hbn:=HB.out (i+1)
    rw [hsu] at hbn
    have j0:¬ (4096:Int)<x1+u1:=by have:=hbn.1.2;simp only at this;omega
    have HSU:=hide hsu
    have y3:(0:Int)≤(tt:Int):=by omega
    have y4:(tt:Int)<(N:Int):=by omega
    have k1:IntKind.i64.wrap (x1+u1)=x1+u1:=IntWalk.i64_in _ (by omega)
    have k2:IntKind.i64.wrap (u2+1)=u2+1:=IntWalk.i64_in _ (by omega)
    have k3:IntKind.i64.wrap (ao+u3)=ao+u3:=IntWalk.i64_in _ (by omega)
    obtain ⟨q1,q2,q3⟩:=HX.out.facts
    clear hmem hsu hz hu hbn e0 hq
    go_wp2_with fail
    go_roundw
    ·refine ⟨i+1,_,_,_,by simp,by omega,hide ?_,hide (((((HX.out.set_ 0 _).set_ 1 _).set_ 2 _).alloc _).alloc _),hide (((((HT.out.setCell (fun _=>rfl) _).setCell (fun _=>rfl) _).setCell (fun _=>rfl) _).alloc _).alloc _)⟩
     rw [HSU.out]
     try (simp only [Prod.mk.injEq,true_and];constructor<;>split<;>omega)
    ·simp only [intOf];omega
   ·have hie:i=n:=by omega
    subst hie
    obtain ⟨q1,q2,q3⟩:=HX.out.facts
    have hby:=HBY.out.touch HT.out HXY.out
    obtain ⟨r1,r2,r3⟩:=hby.facts
    have j1:x2≤24:=b4
    have j2:x3≤1048576:=b6
    have HQ:=hide hq
    clear hq
    go_wp2_with fail
    have hxy1:¬ X=Y:=fun e=>HXY.out e.symm
    have hxy2:¬ Y=X:=HXY.out
    go_region
    all_goals go_wp2
    have hbF:Blk (((wr.setCell ⟨Y,0,none⟩ (.int .i64 x1)).setCell ⟨Y,1,none⟩ (.int .i64 x2)).setCell ⟨Y,2,none⟩ (.int .i64 x3)).drew Y 243 #[.int .i64 x1,.int .i64 x2,.int .i64 x3]:=(((hby.set_ 0 _).set_ 1 _).set_ 2 _).drew
    have f0:=hbF.cell 0
    have f1:=hbF.cell 1
    have f2:=hbF.cell 2
    have hTF:Touch (fun _=>False) w (((wr.setCell ⟨Y,0,none⟩ (.int .i64 x1)).setCell ⟨Y,1,none⟩ (.int .i64 x2)).setCell ⟨Y,2,none⟩ (.int .i64 x3)).drew:=by
     refine Touch.drew ?_
     iterate 3 refine Touch.setCell ?_ (fun h=>by have:=HYL.out;simp only at h;omega) _
     exact HQ.out
    refine bodyPost_ret (v:=.tuple #[.agg #[.int .i64 x1,.int .i64 x2,.int .i64 x3],.bool true]) (by simp [results,Tryz.results139,go_sem,f0,f1,f2]) rfl ⟨?_,hTF⟩
    rw [← HP.out]
 | false =>
  go_enter Tryz.func139,Tryz.ntmps139
  go_wp2_with fail
  obtain ⟨w3,hw3⟩:∃ x,x=((w.alloc (.cells #[.bool false,.int .i64 out,.slice aA n ac] 170)).alloc (.cells #[.int .i64 0,.int .i64 0,.int .i64 0] 243)).alloc (.cells #[.int .i64 0,.int .i64 0,.int .i64 out] 243):=⟨_,rfl⟩
  obtain ⟨X,hX⟩:∃ X,X=w.heap.size+1+1:=⟨_,rfl⟩
  obtain ⟨Y,hY⟩:∃ Y,Y=w.heap.size+1:=⟨_,rfl⟩
  have hT3:Touch (fun _=>False) w w3:=by
   rw [hw3]
   exact ((((Touch.refl _ _).alloc _).alloc _).alloc _)
  have hbX:Blk w3 X 243 #[.int .i64 0,.int .i64 0,.int .i64 out]:=by
   rw [hw3,hX]
   have h:=Blk.new ((w.alloc (.cells #[.bool false,.int .i64 out,.slice aA n ac] 170)).alloc (.cells #[.int .i64 0,.int .i64 0,.int .i64 0] 243)) 243 #[.int .i64 0,.int .i64 0,.int .i64 out]
   simpa using h
  have hbY:Blk w3 Y 243 #[.int .i64 0,.int .i64 0,.int .i64 0]:=by
   rw [hw3,hY]
   have h:=(Blk.new (w.alloc (.cells #[.bool false,.int .i64 out,.slice aA n ac] 170)) 243 #[.int .i64 0,.int .i64 0,.int .i64 0]).alloc (.cells #[.int .i64 0,.int .i64 0,.int .i64 out] 243)
   simpa using h
  rw [← hw3,← hX]
  try rw [← hY]
  have HT3:=hide hT3
  have HXL:=hide (show w.heap.size≤X by omega)
  have HXY:=hide (show Y≠X by omega)
  have HYL:=hide (show w.heap.size≤Y by omega)
  have HBX:=hide hbX
  have HBY:=hide hbY
  clear hw3 hT3 hbX hbY hX hY
  go_loopw [19] (fun iv wr=>∃ (i:Nat) (x1 x2 x3:Int),iv=.int .i64 i∧i≤n∧Hid ((x1,x2,x3)=sumP U ⟨false,out,arcs⟩ i)∧Hid (Blk wr X 243 #[.int .i64 x1,.int .i64 x2,.int .i64 x3])∧Hid (Touch (fun g=>g=X) w3 wr)) (fun iv _=>n-(intOf iv).toNat)
  case atStart=>exact ⟨0,0,0,out,rfl,by omega,hide (by rw [sumP_zero];rfl),HBX,hide (Touch.refl _ _)⟩
  case round =>
   obtain ⟨i,x1,x2,x3,rfl,hi,HP,HX,HT⟩:=hrel
   have hbi:=HB.out i
   rw [← HP.out] at hbi
   simp only at hbi
   obtain ⟨⟨b1,b2⟩,⟨b3,b4⟩,⟨b5,b6⟩⟩:=hbi
   have hq:Touch (fun _=>False) w wr:=HT3.out.trans HT.out (fun g hg e=>by have:=HXL.out;omega)
   by_cases hin:i<n
   ·have y1:(i:Int)<(n:Int):=by omega
    have y2:(0:Int)≤(i:Int):=by omega
    have z2:IntKind.i64.wrap ((i:Int)+1)=(i:Int)+1:=IntWalk.i64_in _ (by unfold maxLen at hnm;omega)
    obtain ⟨g,o,hA,hg,c1,c2,c3⟩:=arc_at (HRD.out.quiet hq).rd HLEN.out i hin
    subst hA
    have hmem:=getD_mem arcs (0,0,0) i (by rw [HLEN.out];exact hin)
    have he:=HE.out _ hmem
    have hsu:=sumP_succ U ⟨false,out,arcs⟩ i (by rw [HLEN.out];exact hin)
    rw [← HP.out] at hsu
    simp only at hsu
    obtain ⟨⟨la,ao,tt⟩,hz⟩:∃ z,arcs.getD i (0,0,0)=z:=⟨_,rfl⟩
    rw [hz] at c1 c2 c3 he hsu
    simp only [sumStep] at c1 c2 c3 he hsu
    obtain ⟨g2,o2,hA2,hg2,d1,d2,d3⟩:=sum_at (HU.out.quiet hq).rd HUL.out tt he.1
    subst hA2
    obtain ⟨⟨u1,u2,u3⟩,hu⟩:∃ z,U.getD tt z3=z:=⟨_,rfl⟩
    rw [hu] at d1 d2 d3 he hsu
    simp only at d1 d2 d3 he hsu
    obtain ⟨e0,⟨e1,e2⟩,⟨e3,e4⟩,⟨e5,e6⟩,⟨e7,e8⟩⟩:=he
    have hbn:=HB.out (i+1)
    rw [hsu] at hbn
    have j0:¬ (4096:Int)<x1+u1:=by have:=hbn.1.2;simp only at this;omega
    have HSU:=hide hsu
    have y3:(0:Int)≤(tt:Int):=by omega
    have y4:(tt:Int)<(N:Int):=by omega
    have k1:IntKind.i64.wrap (x1+u1)=x1+u1:=IntWalk.i64_in _ (by omega)
    have k2:IntKind.i64.wrap (u2+1)=u2+1:=IntWalk.i64_in _ (by omega)
    have k3:IntKind.i64.wrap (ao+u3)=ao+u3:=IntWalk.i64_in _ (by omega)
    obtain ⟨q1,q2,q3⟩:=HX.out.facts
    clear hmem hsu hz hu hbn e0 hq
    go_wp2_with fail
    go_roundw
    ·refine ⟨i+1,_,_,_,by simp,by omega,hide ?_,hide (((((HX.out.set_ 0 _).set_ 1 _).set_ 2 _).alloc _).alloc _),hide (((((HT.out.setCell (fun _=>rfl) _).setCell (fun _=>rfl) _).setCell (fun _=>rfl) _).alloc _).alloc _)⟩
     rw [HSU.out]
     try (simp only [Prod.mk.injEq,true_and];constructor<;>split<;>omega)
    ·simp only [intOf];omega
   ·have hie:i=n:=by omega
    subst hie
    obtain ⟨q1,q2,q3⟩:=HX.out.facts
    have hby:=HBY.out.touch HT.out HXY.out
    obtain ⟨r1,r2,r3⟩:=hby.facts
    have j1:x2≤24:=b4
    have j2:x3≤1048576:=b6
    have HQ:=hide hq
    clear hq
    go_wp2_with fail
    have hxy1:¬ X=Y:=fun e=>HXY.out e.symm
    have hxy2:¬ Y=X:=HXY.out
    go_region
    all_goals go_wp2
    have hbF:Blk (((wr.setCell ⟨Y,0,none⟩ (.int .i64 x1)).setCell ⟨Y,1,none⟩ (.int .i64 x2)).setCell ⟨Y,2,none⟩ (.int .i64 x3)).drew Y 243 #[.int .i64 x1,.int .i64 x2,.int .i64 x3]:=(((hby.set_ 0 _).set_ 1 _).set_ 2 _).drew
    have f0:=hbF.cell 0
    have f1:=hbF.cell 1
    have f2:=hbF.cell 2
    have hTF:Touch (fun _=>False) w (((wr.setCell ⟨Y,0,none⟩ (.int .i64 x1)).setCell ⟨Y,1,none⟩ (.int .i64 x2)).setCell ⟨Y,2,none⟩ (.int .i64 x3)).drew:=by
     refine Touch.drew ?_
     iterate 3 refine Touch.setCell ?_ (fun h=>by have:=HYL.out;simp only at h;omega) _
     exact HQ.out
    refine bodyPost_ret (v:=.tuple #[.agg #[.int .i64 x1,.int .i64 x2,.int .i64 x3],.bool true]) (by simp [results,Tryz.results139,go_sem,f0,f1,f2]) rfl ⟨?_,hTF⟩
    rw [← HP.out]
def I64 (x:Int):Prop:=-9223372036854775808≤x∧x≤9223372036854775807
theorem wrap64_I64 (x:Int):I64 (wrap64 x):=by unfold I64 wrap64;omega
theorem key_any (w:World) (z:SV) (hz:z.Ok w) (ho:0≤z.out∧z.out≤1048576) :
  Calls Tryz.prog 140 #[.agg #[.bool z.fin,.int .i64 z.out,.slice z.A z.n z.c]] w fun e w'=>∃ a b c d,e=.returned (.agg #[.int .i64 a,.int .i64 b,.int .i64 c,.int .i64 d])∧(I64 a∧I64 b∧I64 c∧I64 d)∧Touch (fun _=>False) w w':=by
 obtain ⟨fin,out,aA,n,ac,arcs⟩:=z
 obtain ⟨hlen,hrd,hle,hmx⟩:=hz
 simp only at *
 have hnm:n≤maxLen:=Nat.le_trans hle hmx
 have HRD:=hide hrd
 have HLEN:=hide hlen
 clear hrd hlen hle hmx
 go_enter Tryz.func140,Tryz.ntmps140
 go_wp2_with fail
 obtain ⟨w3,hw3⟩:∃ x,x=((w.alloc (.cells #[.bool fin,.int .i64 out,.slice aA n ac] 170)).alloc (.cells #[.int .i64 0,.int .i64 0,.int .i64 0,.int .i64 0] 246)).alloc (.cells #[.int .i64 out,.int .i64 n,.int .i64 0,.int .i64 0] 246):=⟨_,rfl⟩
 obtain ⟨X,hX⟩:∃ X,X=w.heap.size+1+1:=⟨_,rfl⟩
 obtain ⟨Y,hY⟩:∃ Y,Y=w.heap.size+1:=⟨_,rfl⟩
 have hT3:Touch (fun _=>False) w w3:=by
  rw [hw3]
  exact (((Touch.refl _ _).alloc _).alloc _).alloc _
 have hbX:Blk w3 X 246 #[.int .i64 out,.int .i64 n,.int .i64 0,.int .i64 0]:=by
  rw [hw3,hX]
  have h:=Blk.new ((w.alloc (.cells #[.bool fin,.int .i64 out,.slice aA n ac] 170)).alloc (.cells #[.int .i64 0,.int .i64 0,.int .i64 0,.int .i64 0] 246)) 246 #[.int .i64 out,.int .i64 n,.int .i64 0,.int .i64 0]
  simpa using h
 have hbY:Blk w3 Y 246 #[.int .i64 0,.int .i64 0,.int .i64 0,.int .i64 0]:=by
  rw [hw3,hY]
  have h:=(Blk.new (w.alloc (.cells #[.bool fin,.int .i64 out,.slice aA n ac] 170)) 246 #[.int .i64 0,.int .i64 0,.int .i64 0,.int .i64 0]).alloc (.cells #[.int .i64 out,.int .i64 n,.int .i64 0,.int .i64 0] 246)
  simpa using h
 rw [← hw3,← hX]
 try rw [← hY]
 have HT3:=hide hT3
 have HXL:=hide (show w.heap.size≤X by omega)
 have HXY:=hide (show Y≠X by omega)
 have HYL:=hide (show w.heap.size≤Y by omega)
 have HBX:=hide hbX
 have HBY:=hide hbY
 clear hw3 hT3 hbX hbY hX hY
 go_loopw [15] (fun iv wr=>∃ (i:Nat) (x3 x4:Int),iv=.int .i64 i∧i≤n∧Hid (I64 x3∧I64 x4)∧Hid (Blk wr X 246 #[.int .i64 out,.int .i64 n,.int .i64 x3,.int .i64 x4])∧Hid (Touch (fun g=>g=X) w3 wr)) (fun iv _=>n-(intOf iv).toNat)
 case atStart=>exact ⟨0,0,0,rfl,by omega,hide (by unfold I64;omega),HBX,hide (Touch.refl _ _)⟩
 case round =>
  obtain ⟨i,x3,x4,rfl,hi,HI,HX,HT⟩:=hrel
  have hq:Touch (fun _=>False) w wr:=HT3.out.trans HT.out (fun g hg e=>by have:=HXL.out;omega)
  by_cases hin:i<n
  ·have y1:(i:Int)<(n:Int):=by omega
   have y2:(0:Int)≤(i:Int):=by omega
   have z2:IntKind.i64.wrap ((i:Int)+1)=(i:Int)+1:=IntWalk.i64_in _ (by unfold maxLen at hnm;omega)
   obtain ⟨g,o,hA,hg,c1,c2,c3⟩:=arc_at (HRD.out.quiet hq).rd HLEN.out i hin
   subst hA
   obtain ⟨⟨la,ao,tt⟩,hz⟩:∃ z,arcs.getD i (0,0,0)=z:=⟨_,rfl⟩
   rw [hz] at c1 c2 c3
   simp only at c1 c2 c3
   obtain ⟨q1,q2,q3⟩:=HX.out.facts
   clear hz hq
   go_wp2_with fail
   go_roundw
   ·refine ⟨i+1,_,_,by simp,by omega,hide ⟨wrap64_I64 _,wrap64_I64 _⟩,hide (((HX.out.set_ 2 _).set_ 3 _).alloc _),hide (((HT.out.setCell (fun _=>rfl) _).setCell (fun _=>rfl) _).alloc _)⟩
   ·simp only [intOf];omega
  ·have hie:i=n:=by omega
   subst hie
   obtain ⟨q1,q2,q3⟩:=HX.out.facts
   have hby:=HBY.out.touch HT.out HXY.out
   obtain ⟨r1,r2,r3⟩:=hby.facts
   have HQ:=hide hq
   have hxy1:¬ X=Y:=fun e=>HXY.out e.symm
   have hxy2:¬ Y=X:=HXY.out
   clear hq
   go_wp2_with fail
   have hbF:Blk ((((wr.setCell ⟨Y,0,none⟩ (.int .i64 out)).setCell ⟨Y,1,none⟩ (.int .i64 i)).setCell ⟨Y,2,none⟩ (.int .i64 x3)).setCell ⟨Y,3,none⟩ (.int .i64 x4)) Y 246 #[.int .i64 out,.int .i64 i,.int .i64 x3,.int .i64 x4]:=(((hby.set_ 0 _).set_ 1 _).set_ 2 _).set_ 3 _
   have f0:=hbF.cell 0
   have f1:=hbF.cell 1
   have f2:=hbF.cell 2
   have f3:=hbF.cell 3
   have hTF:Touch (fun _=>False) w ((((wr.setCell ⟨Y,0,none⟩ (.int .i64 out)).setCell ⟨Y,1,none⟩ (.int .i64 i)).setCell ⟨Y,2,none⟩ (.int .i64 x3)).setCell ⟨Y,3,none⟩ (.int .i64 x4)):=by
    iterate 4 refine Touch.setCell ?_ (fun h=>by have:=HYL.out;simp only at h;omega) _
    exact HQ.out
   exact bodyPost_ret (v:=.agg #[.int .i64 out,.int .i64 i,.int .i64 x3,.int .i64 x4]) (by simp [results,Tryz.results140,go_sem,f0,f1,f2,f3]) rfl ⟨_,_,_,_,rfl,⟨by unfold I64;omega,by unfold I64;unfold maxLen at hnm;omega,HI.out.1,HI.out.2⟩,hTF⟩
theorem alike_any (w:World) (x y:SV) (hx:x.Ok w) (hy:y.Ok w) (hne:x.p≠y.p) :
  Calls Tryz.prog 141 #[.agg #[.bool x.fin,.int .i64 x.out,.slice x.A x.n x.c],.agg #[.bool y.fin,.int .i64 y.out,.slice y.A y.n y.c]] w fun e w'=>e=.returned (.bool false)∧Touch (fun _=>False) w w':=by
 obtain ⟨xf,xo,xA,xn,xc,xa⟩:=x
 obtain ⟨yf,yo,yA,yn,yc,ya⟩:=y
 obtain ⟨xlen,xrd,xle,xmx⟩:=hx
 obtain ⟨ylen,yrd,yle,ymx⟩:=hy
 simp only [SV.p] at *
 have hnm:xn≤maxLen:=Nat.le_trans xle xmx
 have HX:=hide xrd
 have HXL:=hide xlen
 have HY:=hide yrd
 have HYL:=hide ylen
 have HNE:=hide hne
 clear xrd xlen yrd ylen xle xmx yle ymx hne
 by_cases e1:xf=yf
 ·subst e1
  by_cases e2:xo=yo
  ·subst e2
   by_cases e3:xn=yn
   ·subst e3
    go_enter Tryz.func141,Tryz.ntmps141
    go_wp2_with fail
    obtain ⟨w3,hw3⟩:∃ x,x=(w.alloc (.cells #[.bool xf,.int .i64 xo,.slice xA xn xc] 170)).alloc (.cells #[.bool xf,.int .i64 xo,.slice yA xn yc] 170):=⟨_,rfl⟩
    obtain ⟨X,hX⟩:∃ X,X=w.heap.size:=⟨_,rfl⟩
    obtain ⟨Y,hY⟩:∃ Y,Y=w.heap.size+1:=⟨_,rfl⟩
    have hT3:Touch (fun _=>False) w w3:=by
     rw [hw3]
     exact ((Touch.refl _ _).alloc _).alloc _
    have hbX:Blk w3 X 170 #[.bool xf,.int .i64 xo,.slice xA xn xc]:=by
     rw [hw3,hX]
     exact (Blk.new _ _ _).alloc _
    have hbY:Blk w3 Y 170 #[.bool xf,.int .i64 xo,.slice yA xn yc]:=by
     rw [hw3,hY]
     have h:=Blk.new (w.alloc (.cells #[.bool xf,.int .i64 xo,.slice xA xn xc] 170)) 170 #[.bool xf,.int .i64 xo,.slice yA xn yc]
     simpa using h
    rw [← hw3]
    try rw [← hY]
    rw [← hX]
    have HT3:=hide hT3
    have HBX:=hide hbX
    have HBY:=hide hbY
    clear hw3 hT3 hbX hbY hX hY
    go_loopw [30] (fun iv wr=>∃ (i:Nat),iv=.int .i64 i∧i≤xn∧Hid (xa.take i=ya.take i)∧Hid (Touch (fun _=>False) w3 wr)) (fun iv _=>xn-(intOf iv).toNat)
    case atStart=>exact ⟨0,rfl,by omega,hide rfl,hide (Touch.refl _ _)⟩
    case round =>
     obtain ⟨i,rfl,hi,HP,HT⟩:=hrel
     by_cases hin:i<xn
     ·have y1:(i:Int)<(xn:Int):=by omega
      have y2:(0:Int)≤(i:Int):=by omega
      have z2:IntKind.i64.wrap ((i:Int)+1)=(i:Int)+1:=IntWalk.i64_in _ (by unfold maxLen at hnm;omega)
      obtain ⟨g,o,hA,hg,c1,c2,c3⟩:=arc_at (HX.out.quiet (HT3.out.then HT.out)).rd HXL.out i hin
      obtain ⟨g2,o2,hA2,hg2,d1,d2,d3⟩:=arc_at (HY.out.quiet (HT3.out.then HT.out)).rd HYL.out i hin
      subst hA
      subst hA2
      have hsx:=take_snoc xa (0,0,0) i (by rw [HXL.out];exact hin)
      have hsy:=take_snoc ya (0,0,0) i (by rw [HYL.out];exact hin)
      obtain ⟨⟨la,ao,tt⟩,hz⟩:∃ z,xa.getD i (0,0,0)=z:=⟨_,rfl⟩
      obtain ⟨⟨lb,bo,ub⟩,hz2⟩:∃ z,ya.getD i (0,0,0)=z:=⟨_,rfl⟩
      rw [hz] at c1 c2 c3 hsx
      rw [hz2] at d1 d2 d3 hsy
      simp only at c1 c2 c3 d1 d2 d3 hsx hsy
      have HSX:=hide hsx
      have HSY:=hide hsy
      obtain ⟨q1,q2,q3⟩:=(HBX.out.touch HT.out (fun f=>f)).facts
      obtain ⟨r1,r2,r3⟩:=(HBY.out.touch HT.out (fun f=>f)).facts
      clear hz hz2 hsx hsy
      by_cases p1:la=lb
      ·subst p1
       by_cases p2:ao=bo
       ·subst p2
        by_cases p3:tt=ub
        ·subst p3
         go_wp2_with fail
         go_quiet (fail)
         go_wp2_with fail
         go_roundw
         ·refine ⟨i+1,by simp,by omega,hide ?_,hide (HT.out.drewN _)⟩
          rw [HSX.out,HSY.out,HP.out]
         ·simp only [intOf];omega
        ·have p4:((tt:Int) == (ub:Int))=false:=by simp;omega
         go_wp2_with fail
         go_quiet (fail)
         go_wp2_with fail
         go_ret
         exact ⟨rfl,HT3.out.then (HT.out.drewN _)⟩
       ·have p4:(ao == bo)=false:=by simp;exact p2
        go_wp2_with fail
        go_quiet (fail)
        go_wp2_with fail
        go_ret
        exact ⟨rfl,HT3.out.then (HT.out.drewN _)⟩
      ·have p4:((la:Int) == (lb:Int))=false:=by simp;omega
       go_wp2_with fail
       go_quiet (fail)
       go_wp2_with fail
       go_ret
       exact ⟨rfl,HT3.out.then (HT.out.drewN _)⟩
     ·have hie:i=xn:=by omega
      exfalso
      subst hie
      have h:=HP.out
      rw [List.take_of_length_le (by rw [HXL.out];exact Nat.le_refl _),List.take_of_length_le (by rw [HYL.out];exact Nat.le_refl _)] at h
      exact HNE.out (by rw [h])
   ·have e4:((xn:Int) == (yn:Int))=false:=by simp;omega
    go_enter Tryz.func141,Tryz.ntmps141
    cases xf
    ·go_wp2_with fail
     go_ret
     exact ⟨rfl,((Touch.refl _ _).alloc _).alloc _⟩
    ·go_wp2_with fail
     go_ret
     exact ⟨rfl,((Touch.refl _ _).alloc _).alloc _⟩
  ·have e4:(xo == yo)=false:=by simp;exact e2
   go_enter Tryz.func141,Tryz.ntmps141
   cases xf
   ·go_wp2_with fail
    go_ret
    exact ⟨rfl,((Touch.refl _ _).alloc _).alloc _⟩
   ·go_wp2_with fail
    go_ret
    exact ⟨rfl,((Touch.refl _ _).alloc _).alloc _⟩
 ·go_enter Tryz.func141,Tryz.ntmps141
  cases xf
  ·cases yf
   ·exact absurd rfl e1
   ·go_wp2_with fail
    go_ret
    exact ⟨rfl,((Touch.refl _ _).alloc _).alloc _⟩
  ·cases yf
   ·go_wp2_with fail
    go_ret
    exact ⟨rfl,((Touch.refl _ _).alloc _).alloc _⟩
   ·exact absurd rfl e1
end Go.Proofs.YthockgmbooefpaaGreatDoor
