/- What the law rests on, part 14. No condition but those that each theorem names. -/
import Derived.Test.YthockgmbooefpaaDoorD13
import Derived.BigQuiet
import Derived.Laws.BitsLemmas
import Derived.Deep.QuietTactic
set_option linter.unusedSectionVars false
set_option linter.unusedSimpArgs false
set_option linter.unusedVariables false
namespace Go.Proofs.YthockgmbooefpaaDoor
open Go.RowKit
def I64 (x:Int):Prop:=-9223372036854775808≤x∧x≤9223372036854775807
theorem wrap64_I64 (x:Int):I64 (wrap64 x):=by unfold I64 wrap64;omega
set_option maxRecDepth 100000 in
set_option maxHeartbeats 4000000 in
theorem key_any (w:World) (z:SV) (hz:z.Ok w) (ho:0≤z.out∧z.out≤1048576) :
  Calls Tryd.prog 70 #[.agg #[.bool z.fin,.int .i64 z.out,.slice z.A z.n z.c]] w fun e w'=>∃ a b c d,e=.returned (.agg #[.int .i64 a,.int .i64 b,.int .i64 c,.int .i64 d])∧(I64 a∧I64 b∧I64 c∧I64 d)∧Touch (fun _=>False) w w':=by
 obtain ⟨fin,out,aA,n,ac,arcs⟩:=z
 obtain ⟨hlen,hrd,hle,hmx⟩:=hz
 simp only at *
 have hnm:n≤maxLen:=Nat.le_trans hle hmx
 have HRD:=hide hrd
 have HLEN:=hide hlen
 clear hrd hlen hle hmx
 go_enter Tryd.func70,Tryd.ntmps70
 go_wp2_with fail
 obtain ⟨w3,hw3⟩:∃ x,x=((w.alloc (.cells #[.bool fin,.int .i64 out,.slice aA n ac] 108)).alloc (.cells #[.int .i64 0,.int .i64 0,.int .i64 0,.int .i64 0] 140)).alloc (.cells #[.int .i64 out,.int .i64 n,.int .i64 0,.int .i64 0] 140):=⟨_,rfl⟩
 obtain ⟨X,hX⟩:∃ X,X=w.heap.size+1+1:=⟨_,rfl⟩
 obtain ⟨Y,hY⟩:∃ Y,Y=w.heap.size+1:=⟨_,rfl⟩
 have hT3:Touch (fun _=>False) w w3:=by
  rw [hw3]
  exact (((Touch.refl _ _).alloc _).alloc _).alloc _
 have hbX:Blk w3 X 140 #[.int .i64 out,.int .i64 n,.int .i64 0,.int .i64 0]:=by
  rw [hw3,hX]
  have h:=Blk.new ((w.alloc (.cells #[.bool fin,.int .i64 out,.slice aA n ac] 108)).alloc (.cells #[.int .i64 0,.int .i64 0,.int .i64 0,.int .i64 0] 140)) 140 #[.int .i64 out,.int .i64 n,.int .i64 0,.int .i64 0]
  simpa using h
 have hbY:Blk w3 Y 140 #[.int .i64 0,.int .i64 0,.int .i64 0,.int .i64 0]:=by
  rw [hw3,hY]
  have h:=(Blk.new (w.alloc (.cells #[.bool fin,.int .i64 out,.slice aA n ac] 108)) 140 #[.int .i64 0,.int .i64 0,.int .i64 0,.int .i64 0]).alloc (.cells #[.int .i64 out,.int .i64 n,.int .i64 0,.int .i64 0] 140)
  simpa using h
 rw [← hw3,← hX]
 try rw [← hY]
 have HT3:=hide hT3
 have HXL:=hide (show w.heap.size≤X by omega)
 have HXY:=hide (show Y≠X by omega)
 have HYL:=hide (show w.heap.size≤Y by omega)
 have HBX:=hide hbX
 have HBY:=hide hbY
 clear hw3 hT3 hbX hbY hX hY
 go_loopw [15] (fun iv wr=>∃ (i:Nat) (x3 x4:Int),iv=.int .i64 i∧i≤n∧Hid (I64 x3∧I64 x4)∧Hid (Blk wr X 140 #[.int .i64 out,.int .i64 n,.int .i64 x3,.int .i64 x4])∧Hid (Touch (fun g=>g=X) w3 wr)) (fun iv _=>n-(intOf iv).toNat)
 case atStart=>exact ⟨0,0,0,rfl,by omega,hide (by unfold I64;omega),HBX,hide (Touch.refl _ _)⟩
 case round =>
  obtain ⟨i,x3,x4,rfl,hi,HI,HX,HT⟩:=hrel
  have hq:Touch (fun _=>False) w wr:=HT3.out.trans HT.out (fun g hg e=>by have:=HXL.out;omega)
  by_cases hin:i<n
  ·have y1:(i:Int)<(n:Int):=by omega
   have y2:(0:Int)≤(i:Int):=by omega
   have z2:IntKind.i64.wrap ((i:Int)+1)=(i:Int)+1:=IntWalk.i64_in _ (by unfold maxLen at hnm;omega)
   obtain ⟨g,o,hA,hg,c1,c2,c3⟩:=arc_at (HRD.out.quiet hq).rd HLEN.out i hin
   subst hA
   obtain ⟨⟨la,ao,tt⟩,hz⟩:∃ z,arcs.getD i (0,0,0)=z:=⟨_,rfl⟩
   rw [hz] at c1 c2 c3
   simp only at c1 c2 c3
   obtain ⟨q1,q2,q3⟩:=HX.out.facts
   clear hz hq
   go_wp2_with fail
   go_roundw
   ·refine ⟨i+1,_,_,by simp,by omega,hide ⟨wrap64_I64 _,wrap64_I64 _⟩,hide (((HX.out.set_ 2 _).set_ 3 _).alloc _),hide (((HT.out.setCell (fun _=>rfl) _).setCell (fun _=>rfl) _).alloc _)⟩
   ·simp only [intOf];omega
  ·have hie:i=n:=by omega
   subst hie
   obtain ⟨q1,q2,q3⟩:=HX.out.facts
   have hby:=HBY.out.touch HT.out HXY.out
   obtain ⟨r1,r2,r3⟩:=hby.facts
   have HQ:=hide hq
   have hxy1:¬ X=Y:=fun e=>HXY.out e.symm
   have hxy2:¬ Y=X:=HXY.out
   clear hq
   go_wp2_with fail
   have hbF:Blk ((((wr.setCell ⟨Y,0,none⟩ (.int .i64 out)).setCell ⟨Y,1,none⟩ (.int .i64 i)).setCell ⟨Y,2,none⟩ (.int .i64 x3)).setCell ⟨Y,3,none⟩ (.int .i64 x4)) Y 140 #[.int .i64 out,.int .i64 i,.int .i64 x3,.int .i64 x4]:=(((hby.set_ 0 _).set_ 1 _).set_ 2 _).set_ 3 _
   have f0:=hbF.cell 0
   have f1:=hbF.cell 1
   have f2:=hbF.cell 2
   have f3:=hbF.cell 3
   have hTF:Touch (fun _=>False) w ((((wr.setCell ⟨Y,0,none⟩ (.int .i64 out)).setCell ⟨Y,1,none⟩ (.int .i64 i)).setCell ⟨Y,2,none⟩ (.int .i64 x3)).setCell ⟨Y,3,none⟩ (.int .i64 x4)):=by
    iterate 4 refine Touch.setCell ?_ (fun h=>by have:=HYL.out;simp only at h;omega) _
    exact HQ.out
   exact bodyPost_ret (v:=.agg #[.int .i64 out,.int .i64 i,.int .i64 x3,.int .i64 x4]) (by simp [results,Tryd.results70,go_sem,f0,f1,f2,f3]) rfl ⟨_,_,_,_,rfl,⟨by unfold I64;omega,by unfold I64;unfold maxLen at hnm;omega,HI.out.1,HI.out.2⟩,hTF⟩
set_option maxRecDepth 100000 in
set_option maxHeartbeats 4000000 in
theorem alike_any (w:World) (x y:SV) (hx:x.Ok w) (hy:y.Ok w) (hne:x.p≠y.p) :
  Calls Tryd.prog 71 #[.agg #[.bool x.fin,.int .i64 x.out,.slice x.A x.n x.c],.agg #[.bool y.fin,.int .i64 y.out,.slice y.A y.n y.c]] w fun e w'=>e=.returned (.bool false)∧Touch (fun _=>False) w w':=by
 obtain ⟨xf,xo,xA,xn,xc,xa⟩:=x
 obtain ⟨yf,yo,yA,yn,yc,ya⟩:=y
 obtain ⟨xlen,xrd,xle,xmx⟩:=hx
 obtain ⟨ylen,yrd,yle,ymx⟩:=hy
 simp only [SV.p] at *
 have hnm:xn≤maxLen:=Nat.le_trans xle xmx
 have HX:=hide xrd
 have HXL:=hide xlen
 have HY:=hide yrd
 have HYL:=hide ylen
 have HNE:=hide hne
 clear xrd xlen yrd ylen xle xmx yle ymx hne
 by_cases e1:xf=yf
 ·subst e1
  by_cases e2:xo=yo
  ·subst e2
   by_cases e3:xn=yn
   ·subst e3
    go_enter Tryd.func71,Tryd.ntmps71
    go_wp2_with fail
    obtain ⟨w3,hw3⟩:∃ x,x=(w.alloc (.cells #[.bool xf,.int .i64 xo,.slice xA xn xc] 108)).alloc (.cells #[.bool xf,.int .i64 xo,.slice yA xn yc] 108):=⟨_,rfl⟩
    obtain ⟨X,hX⟩:∃ X,X=w.heap.size:=⟨_,rfl⟩
    obtain ⟨Y,hY⟩:∃ Y,Y=w.heap.size+1:=⟨_,rfl⟩
    have hT3:Touch (fun _=>False) w w3:=by
     rw [hw3]
     exact ((Touch.refl _ _).alloc _).alloc _
    have hbX:Blk w3 X 108 #[.bool xf,.int .i64 xo,.slice xA xn xc]:=by
     rw [hw3,hX]
     exact (Blk.new _ _ _).alloc _
    have hbY:Blk w3 Y 108 #[.bool xf,.int .i64 xo,.slice yA xn yc]:=by
     rw [hw3,hY]
     have h:=Blk.new (w.alloc (.cells #[.bool xf,.int .i64 xo,.slice xA xn xc] 108)) 108 #[.bool xf,.int .i64 xo,.slice yA xn yc]
     simpa using h
    rw [← hw3]
    try rw [← hY]
    rw [← hX]
    have HT3:=hide hT3
    have HBX:=hide hbX
    have HBY:=hide hbY
    clear hw3 hT3 hbX hbY hX hY
    go_loopw [30] (fun iv wr=>∃ (i:Nat),iv=.int .i64 i∧i≤xn∧Hid (xa.take i=ya.take i)∧Hid (Touch (fun _=>False) w3 wr)) (fun iv _=>xn-(intOf iv).toNat)
    case atStart=>exact ⟨0,rfl,by omega,hide rfl,hide (Touch.refl _ _)⟩
    case round =>
     obtain ⟨i,rfl,hi,HP,HT⟩:=hrel
     by_cases hin:i<xn
     ·have y1:(i:Int)<(xn:Int):=by omega
      have y2:(0:Int)≤(i:Int):=by omega
      have z2:IntKind.i64.wrap ((i:Int)+1)=(i:Int)+1:=IntWalk.i64_in _ (by unfold maxLen at hnm;omega)
      obtain ⟨g,o,hA,hg,c1,c2,c3⟩:=arc_at (HX.out.quiet (HT3.out.then HT.out)).rd HXL.out i hin
      obtain ⟨g2,o2,hA2,hg2,d1,d2,d3⟩:=arc_at (HY.out.quiet (HT3.out.then HT.out)).rd HYL.out i hin
      subst hA
      subst hA2
      have hsx:=take_snoc xa (0,0,0) i (by rw [HXL.out];exact hin)
      have hsy:=take_snoc ya (0,0,0) i (by rw [HYL.out];exact hin)
      obtain ⟨⟨la,ao,tt⟩,hz⟩:∃ z,xa.getD i (0,0,0)=z:=⟨_,rfl⟩
      obtain ⟨⟨lb,bo,ub⟩,hz2⟩:∃ z,ya.getD i (0,0,0)=z:=⟨_,rfl⟩
      rw [hz] at c1 c2 c3 hsx
      rw [hz2] at d1 d2 d3 hsy
      simp only at c1 c2 c3 d1 d2 d3 hsx hsy
      have HSX:=hide hsx
      have HSY:=hide hsy
      obtain ⟨q1,q2,q3⟩:=(HBX.out.touch HT.out (fun f=>f)).facts
      obtain ⟨r1,r2,r3⟩:=(HBY.out.touch HT.out (fun f=>f)).facts
      clear hz hz2 hsx hsy
      by_cases p1:la=lb
      ·subst p1
       by_cases p2:ao=bo
       ·subst p2
        by_cases p3:tt=ub
        ·subst p3
         go_wp2_with fail
         go_quiet (fail)
         go_wp2_with fail
         go_roundw
         ·refine ⟨i+1,by simp,by omega,hide ?_,hide (HT.out.drewN _)⟩
          rw [HSX.out,HSY.out,HP.out]
         ·simp only [intOf];omega
        ·have p4:((tt:Int) == (ub:Int))=false:=by simp;omega
         go_wp2_with fail
         go_quiet (fail)
         go_wp2_with fail
         go_ret
         exact ⟨rfl,HT3.out.then (HT.out.drewN _)⟩
       ·have p4:(ao == bo)=false:=by simp;exact p2
        go_wp2_with fail
        go_quiet (fail)
        go_wp2_with fail
        go_ret
        exact ⟨rfl,HT3.out.then (HT.out.drewN _)⟩
      ·have p4:((la:Int) == (lb:Int))=false:=by simp;omega
       go_wp2_with fail
       go_quiet (fail)
       go_wp2_with fail
       go_ret
       exact ⟨rfl,HT3.out.then (HT.out.drewN _)⟩
     ·have hie:i=xn:=by omega
      exfalso
      subst hie
      have h:=HP.out
      rw [List.take_of_length_le (by rw [HXL.out];exact Nat.le_refl _),List.take_of_length_le (by rw [HYL.out];exact Nat.le_refl _)] at h
      exact HNE.out (by rw [h])
   ·have e4:((xn:Int) == (yn:Int))=false:=by simp;omega
    go_enter Tryd.func71,Tryd.ntmps71
    cases xf
    ·go_wp2_with fail
     go_ret
     exact ⟨rfl,((Touch.refl _ _).alloc _).alloc _⟩
    ·go_wp2_with fail
     go_ret
     exact ⟨rfl,((Touch.refl _ _).alloc _).alloc _⟩
  ·have e4:(xo == yo)=false:=by simp;exact e2
   go_enter Tryd.func71,Tryd.ntmps71
   cases xf
   ·go_wp2_with fail
    go_ret
    exact ⟨rfl,((Touch.refl _ _).alloc _).alloc _⟩
   ·go_wp2_with fail
    go_ret
    exact ⟨rfl,((Touch.refl _ _).alloc _).alloc _⟩
 ·go_enter Tryd.func71,Tryd.ntmps71
  cases xf
  ·cases yf
   ·exact absurd rfl e1
   ·go_wp2_with fail
    go_ret
    exact ⟨rfl,((Touch.refl _ _).alloc _).alloc _⟩
  ·cases yf
   ·go_wp2_with fail
    go_ret
    exact ⟨rfl,((Touch.refl _ _).alloc _).alloc _⟩
   ·exact absurd rfl e1
end Go.Proofs.YthockgmbooefpaaDoor
