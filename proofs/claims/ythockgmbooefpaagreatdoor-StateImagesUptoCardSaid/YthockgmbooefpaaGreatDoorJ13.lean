/- What the law rests on, part 13. No condition but those that each theorem names. -/
import Derived.Test.YthockgmbooefpaaGreatDoorJ12
import Derived.BigQuiet
import Derived.Laws.BitsLemmas
import Derived.Deep.QuietTactic
import Derived.Laws.EntriesVeiled
set_option linter.unusedSectionVars false
set_option linter.unusedSimpArgs false
set_option linter.unusedVariables false
namespace Go.Proofs.YthockgmbooefpaaGreatDoor
open Go.RowKit
def I64 (x:Int):Prop:=-9223372036854775808≤x∧x≤9223372036854775807
theorem wrap64_I64 (x:Int):I64 (wrap64 x):=by unfold I64 wrap64;omega
set_option maxRecDepth 100000 in
set_option maxHeartbeats 4000000 in
theorem key_any (w:World) (z:SV) (hz:z.Ok w) (ho:0≤z.out∧z.out≤1048576) :
  Calls Tryz.prog 140 #[.agg #[.bool z.fin,.int .i64 z.out,.slice z.A z.n z.c]] w fun e w'=>∃ a b c d,e=.returned (.agg #[.int .i64 a,.int .i64 b,.int .i64 c,.int .i64 d])∧(I64 a∧I64 b∧I64 c∧I64 d)∧Touch (fun _=>False) w w':=by
 obtain ⟨fin,out,aA,n,ac,arcs⟩:=z
 obtain ⟨hlen,hrd,hle,hmx⟩:=hz
 simp only at *
 have hnm:n≤maxLen:=Nat.le_trans hle hmx
 have HRD:=hide hrd
 have HLEN:=hide hlen
 clear hrd hlen hle hmx
 go_enter Tryz.func140,Tryz.ntmps140
 go_wp2_with fail
 obtain ⟨w3,hw3⟩:∃ x,x=((w.alloc (.cells #[.bool fin,.int .i64 out,.slice aA n ac] 170)).alloc (.cells #[.int .i64 0,.int .i64 0,.int .i64 0,.int .i64 0] 246)).alloc (.cells #[.int .i64 out,.int .i64 n,.int .i64 0,.int .i64 0] 246):=⟨_,rfl⟩
 obtain ⟨X,hX⟩:∃ X,X=w.heap.size+1+1:=⟨_,rfl⟩
 obtain ⟨Y,hY⟩:∃ Y,Y=w.heap.size+1:=⟨_,rfl⟩
 have hT3:Touch (fun _=>False) w w3:=by
  rw [hw3]
  exact (((Touch.refl _ _).alloc _).alloc _).alloc _
 have hbX:Blk w3 X 246 #[.int .i64 out,.int .i64 n,.int .i64 0,.int .i64 0]:=by
  rw [hw3,hX]
  have h:=Blk.new ((w.alloc (.cells #[.bool fin,.int .i64 out,.slice aA n ac] 170)).alloc (.cells #[.int .i64 0,.int .i64 0,.int .i64 0,.int .i64 0] 246)) 246 #[.int .i64 out,.int .i64 n,.int .i64 0,.int .i64 0]
  simpa using h
 have hbY:Blk w3 Y 246 #[.int .i64 0,.int .i64 0,.int .i64 0,.int .i64 0]:=by
  rw [hw3,hY]
  have h:=(Blk.new (w.alloc (.cells #[.bool fin,.int .i64 out,.slice aA n ac] 170)) 246 #[.int .i64 0,.int .i64 0,.int .i64 0,.int .i64 0]).alloc (.cells #[.int .i64 out,.int .i64 n,.int .i64 0,.int .i64 0] 246)
  simpa using h
 rw [← hw3,← hX]
 try rw [← hY]
 have HT3:=hide hT3
 have HXL:=hide (show w.heap.size≤X by omega)
 have HXY:=hide (show Y≠X by omega)
 have HYL:=hide (show w.heap.size≤Y by omega)
 have HBX:=hide hbX
 have HBY:=hide hbY
 clear hw3 hT3 hbX hbY hX hY
 go_loopw [15] (fun iv wr=>∃ (i:Nat) (x3 x4:Int),iv=.int .i64 i∧i≤n∧Hid (I64 x3∧I64 x4)∧Hid (Blk wr X 246 #[.int .i64 out,.int .i64 n,.int .i64 x3,.int .i64 x4])∧Hid (Touch (fun g=>g=X) w3 wr)) (fun iv _=>n-(intOf iv).toNat)
 case atStart=>exact ⟨0,0,0,rfl,by omega,hide (by unfold I64;omega),HBX,hide (Touch.refl _ _)⟩
 case round =>
  obtain ⟨i,x3,x4,rfl,hi,HI,HX,HT⟩:=hrel
  have hq:Touch (fun _=>False) w wr:=HT3.out.trans HT.out (fun g hg e=>by have:=HXL.out;omega)
  by_cases hin:i<n
  ·have y1:(i:Int)<(n:Int):=by omega
   have y2:(0:Int)≤(i:Int):=by omega
   have z2:IntKind.i64.wrap ((i:Int)+1)=(i:Int)+1:=IntWalk.i64_in _ (by unfold maxLen at hnm;omega)
   obtain ⟨g,o,hA,hg,c1,c2,c3⟩:=arc_at (HRD.out.quiet hq).rd HLEN.out i hin
   subst hA
   obtain ⟨⟨la,ao,tt⟩,hz⟩:∃ z,arcs.getD i (0,0,0)=z:=⟨_,rfl⟩
   rw [hz] at c1 c2 c3
   simp only at c1 c2 c3
   obtain ⟨q1,q2,q3⟩:=HX.out.facts
   clear hz hq
   go_wp2_with fail
   go_roundw
   ·refine ⟨i+1,_,_,by simp,by omega,hide ⟨wrap64_I64 _,wrap64_I64 _⟩,hide (((HX.out.set_ 2 _).set_ 3 _).alloc _),hide (((HT.out.setCell (fun _=>rfl) _).setCell (fun _=>rfl) _).alloc _)⟩
   ·simp only [intOf];omega
  ·have hie:i=n:=by omega
   subst hie
   obtain ⟨q1,q2,q3⟩:=HX.out.facts
   have hby:=HBY.out.touch HT.out HXY.out
   obtain ⟨r1,r2,r3⟩:=hby.facts
   have HQ:=hide hq
   have hxy1:¬ X=Y:=fun e=>HXY.out e.symm
   have hxy2:¬ Y=X:=HXY.out
   clear hq
   go_wp2_with fail
   have hbF:Blk ((((wr.setCell ⟨Y,0,none⟩ (.int .i64 out)).setCell ⟨Y,1,none⟩ (.int .i64 i)).setCell ⟨Y,2,none⟩ (.int .i64 x3)).setCell ⟨Y,3,none⟩ (.int .i64 x4)) Y 246 #[.int .i64 out,.int .i64 i,.int .i64 x3,.int .i64 x4]:=(((hby.set_ 0 _).set_ 1 _).set_ 2 _).set_ 3 _
   have f0:=hbF.cell 0
   have f1:=hbF.cell 1
   have f2:=hbF.cell 2
   have f3:=hbF.cell 3
   have hTF:Touch (fun _=>False) w ((((wr.setCell ⟨Y,0,none⟩ (.int .i64 out)).setCell ⟨Y,1,none⟩ (.int .i64 i)).setCell ⟨Y,2,none⟩ (.int .i64 x3)).setCell ⟨Y,3,none⟩ (.int .i64 x4)):=by
    iterate 4 refine Touch.setCell ?_ (fun h=>by have:=HYL.out;simp only at h;omega) _
    exact HQ.out
   exact bodyPost_ret (v:=.agg #[.int .i64 out,.int .i64 i,.int .i64 x3,.int .i64 x4]) (by simp [results,Tryz.results140,go_sem,f0,f1,f2,f3]) rfl ⟨_,_,_,_,rfl,⟨by unfold I64;omega,by unfold I64;unfold maxLen at hnm;omega,HI.out.1,HI.out.2⟩,hTF⟩
set_option maxRecDepth 100000 in
set_option maxHeartbeats 4000000 in
theorem alike_any (w:World) (x y:SV) (hx:x.Ok w) (hy:y.Ok w) (hne:x.p≠y.p) :
  Calls Tryz.prog 141 #[.agg #[.bool x.fin,.int .i64 x.out,.slice x.A x.n x.c],.agg #[.bool y.fin,.int .i64 y.out,.slice y.A y.n y.c]] w fun e w'=>e=.returned (.bool false)∧Touch (fun _=>False) w w':=by
 obtain ⟨xf,xo,xA,xn,xc,xa⟩:=x
 obtain ⟨yf,yo,yA,yn,yc,ya⟩:=y
 obtain ⟨xlen,xrd,xle,xmx⟩:=hx
 obtain ⟨ylen,yrd,yle,ymx⟩:=hy
 simp only [SV.p] at *
 have hnm:xn≤maxLen:=Nat.le_trans xle xmx
 have HX:=hide xrd
 have HXL:=hide xlen
 have HY:=hide yrd
 have HYL:=hide ylen
 have HNE:=hide hne
 clear xrd xlen yrd ylen xle xmx yle ymx hne
 by_cases e1:xf=yf
 ·subst e1
  by_cases e2:xo=yo
  ·subst e2
   by_cases e3:xn=yn
   ·subst e3
    go_enter Tryz.func141,Tryz.ntmps141
    go_wp2_with fail
    obtain ⟨w3,hw3⟩:∃ x,x=(w.alloc (.cells #[.bool xf,.int .i64 xo,.slice xA xn xc] 170)).alloc (.cells #[.bool xf,.int .i64 xo,.slice yA xn yc] 170):=⟨_,rfl⟩
    obtain ⟨X,hX⟩:∃ X,X=w.heap.size:=⟨_,rfl⟩
    obtain ⟨Y,hY⟩:∃ Y,Y=w.heap.size+1:=⟨_,rfl⟩
    have hT3:Touch (fun _=>False) w w3:=by
     rw [hw3]
     exact ((Touch.refl _ _).alloc _).alloc _
    have hbX:Blk w3 X 170 #[.bool xf,.int .i64 xo,.slice xA xn xc]:=by
     rw [hw3,hX]
     exact (Blk.new _ _ _).alloc _
    have hbY:Blk w3 Y 170 #[.bool xf,.int .i64 xo,.slice yA xn yc]:=by
     rw [hw3,hY]
     have h:=Blk.new (w.alloc (.cells #[.bool xf,.int .i64 xo,.slice xA xn xc] 170)) 170 #[.bool xf,.int .i64 xo,.slice yA xn yc]
     simpa using h
    rw [← hw3]
    try rw [← hY]
    rw [← hX]
    have HT3:=hide hT3
    have HBX:=hide hbX
    have HBY:=hide hbY
    clear hw3 hT3 hbX hbY hX hY
    go_loopw [30] (fun iv wr=>∃ (i:Nat),iv=.int .i64 i∧i≤xn∧Hid (xa.take i=ya.take i)∧Hid (Touch (fun _=>False) w3 wr)) (fun iv _=>xn-(intOf iv).toNat)
    case atStart=>exact ⟨0,rfl,by omega,hide rfl,hide (Touch.refl _ _)⟩
    case round =>
     obtain ⟨i,rfl,hi,HP,HT⟩:=hrel
     by_cases hin:i<xn
     ·have y1:(i:Int)<(xn:Int):=by omega
      have y2:(0:Int)≤(i:Int):=by omega
      have z2:IntKind.i64.wrap ((i:Int)+1)=(i:Int)+1:=IntWalk.i64_in _ (by unfold maxLen at hnm;omega)
      obtain ⟨g,o,hA,hg,c1,c2,c3⟩:=arc_at (HX.out.quiet (HT3.out.then HT.out)).rd HXL.out i hin
      obtain ⟨g2,o2,hA2,hg2,d1,d2,d3⟩:=arc_at (HY.out.quiet (HT3.out.then HT.out)).rd HYL.out i hin
      subst hA
      subst hA2
      have hsx:=take_snoc xa (0,0,0) i (by rw [HXL.out];exact hin)
      have hsy:=take_snoc ya (0,0,0) i (by rw [HYL.out];exact hin)
      obtain ⟨⟨la,ao,tt⟩,hz⟩:∃ z,xa.getD i (0,0,0)=z:=⟨_,rfl⟩
      obtain ⟨⟨lb,bo,ub⟩,hz2⟩:∃ z,ya.getD i (0,0,0)=z:=⟨_,rfl⟩
      rw [hz] at c1 c2 c3 hsx
      rw [hz2] at d1 d2 d3 hsy
      simp only at c1 c2 c3 d1 d2 d3 hsx hsy
      have HSX:=hide hsx
      have HSY:=hide hsy
      obtain ⟨q1,q2,q3⟩:=(HBX.out.touch HT.out (fun f=>f)).facts
      obtain ⟨r1,r2,r3⟩:=(HBY.out.touch HT.out (fun f=>f)).facts
      clear hz hz2 hsx hsy
      by_cases p1:la=lb
      ·subst p1
       by_cases p2:ao=bo
       ·subst p2
        by_cases p3:tt=ub
        ·subst p3
         go_wp2_with fail
         go_quiet (fail)
         go_wp2_with fail
         go_roundw
         ·refine ⟨i+1,by simp,by omega,hide ?_,hide (HT.out.drewN _)⟩
          rw [HSX.out,HSY.out,HP.out]
         ·simp only [intOf];omega
        ·have p4:((tt:Int) == (ub:Int))=false:=by simp;omega
         go_wp2_with fail
         go_quiet (fail)
         go_wp2_with fail
         go_ret
         exact ⟨rfl,HT3.out.then (HT.out.drewN _)⟩
       ·have p4:(ao == bo)=false:=by simp;exact p2
        go_wp2_with fail
        go_quiet (fail)
        go_wp2_with fail
        go_ret
        exact ⟨rfl,HT3.out.then (HT.out.drewN _)⟩
      ·have p4:((la:Int) == (lb:Int))=false:=by simp;omega
       go_wp2_with fail
       go_quiet (fail)
       go_wp2_with fail
       go_ret
       exact ⟨rfl,HT3.out.then (HT.out.drewN _)⟩
     ·have hie:i=xn:=by omega
      exfalso
      subst hie
      have h:=HP.out
      rw [List.take_of_length_le (by rw [HXL.out];exact Nat.le_refl _),List.take_of_length_le (by rw [HYL.out];exact Nat.le_refl _)] at h
      exact HNE.out (by rw [h])
   ·have e4:((xn:Int) == (yn:Int))=false:=by simp;omega
    go_enter Tryz.func141,Tryz.ntmps141
    cases xf
    ·go_wp2_with fail
     go_ret
     exact ⟨rfl,((Touch.refl _ _).alloc _).alloc _⟩
    ·go_wp2_with fail
     go_ret
     exact ⟨rfl,((Touch.refl _ _).alloc _).alloc _⟩
  ·have e4:(xo == yo)=false:=by simp;exact e2
   go_enter Tryz.func141,Tryz.ntmps141
   cases xf
   ·go_wp2_with fail
    go_ret
    exact ⟨rfl,((Touch.refl _ _).alloc _).alloc _⟩
   ·go_wp2_with fail
    go_ret
    exact ⟨rfl,((Touch.refl _ _).alloc _).alloc _⟩
 ·go_enter Tryz.func141,Tryz.ntmps141
  cases xf
  ·cases yf
   ·exact absurd rfl e1
   ·go_wp2_with fail
    go_ret
    exact ⟨rfl,((Touch.refl _ _).alloc _).alloc _⟩
  ·cases yf
   ·go_wp2_with fail
    go_ret
    exact ⟨rfl,((Touch.refl _ _).alloc _).alloc _⟩
   ·exact absurd rfl e1
end Go.Proofs.YthockgmbooefpaaGreatDoor
namespace Go.Proofs.YthockgmbooefpaaGreatDoor
open Go.RowKit
def bCells (s:List Bool):Array Value:=(s.map Value.bool).toArray
theorem bCells_get (s:List Bool) (i:Nat) (h:i<s.length):(bCells s)[i]? = some (.bool (s.getD i false)):=by
 simp [bCells,List.getD,h]
theorem bCells_set (s:List Bool) (i:Nat) (b:Bool):(bCells s).setIfInBounds i (.bool b)=bCells (s.set i b):=by
 simp [bCells,List.map_set]
theorem visArcs_len {v:Nat→List Bool→Nat→Bool × List Bool × Nat} (hv:∀ i s n,(v i s n).2.1.length=s.length):∀ l s n,(visArcs v l s n).2.1.length=s.length
 | [],_,_=>rfl
 | a :: l,s,n=>by
  simp only [visArcs]
  split
  ·exact visArcs_len hv l s n
  ·have h:=hv a.2.2 s n
   split
   ·rename_i s' n' e
    rw [e] at h
    rw [visArcs_len hv l s' n']
    exact h
   ·rename_i s' n' e
    rw [e] at h
    exact h
theorem visF_len (sts:List StP):∀ f i s n,(visF sts f i s n).2.1.length=s.length
 | 0,_,_,_=>rfl
 | f+1,i,s,n=>by
  simp only [visF]
  have h:=visArcs_len (visF_len sts f) (sts.getD i noSt).arcs s n
  split
  ·rename_i s' n' e
   rw [e] at h
   simp only [List.length_set]
   exact h
  ·rename_i s' n' e
   rw [e] at h
   exact h
def VisC (Z:List SV) (base:Int) (A:Option Addr) (n c M S V Y g:Nat) (f:Nat):Prop :=
 ∀ (w:World) (i:Nat) (s s':List Bool) (nx nx':Nat),Blk w M 89 #[.int .i64 base,.slice A n c]→StsOk w A n Z→Blk w S 282 #[.slice (some ⟨g,0,none⟩) n n]→Blk w g 4 (bCells s) →
  Blk w V 276 #[.func (.func 173) #[] #[.pointer (some ⟨M,0,none⟩),.pointer (some ⟨S,0,none⟩),.pointer (some ⟨V,0,none⟩),.pointer (some ⟨Y,0,none⟩)]]→Blk w Y 3 #[.int .i64 nx]→i<n→s.length=n →
  visF (Z.map SV.p) f i s nx=(true,s',nx') →
  Calls Tryz.prog 173 #[.int .i64 i,.pointer (some ⟨M,0,none⟩),.pointer (some ⟨S,0,none⟩),.pointer (some ⟨V,0,none⟩),.pointer (some ⟨Y,0,none⟩)] w fun e w'=>e=.returned (.bool true)∧Blk w' g 4 (bCells s')∧Blk w' Y 3 #[.int .i64 nx']∧Touch (fun x=>x=g∨x=Y) w w'
set_option maxRecDepth 100000 in
set_option maxHeartbeats 4000000 in
theorem visit_any (Z:List SV) (base:Int) (A:Option Addr) (n c M S V Y g:Nat) (hlt:∀ z∈Z,∀ a∈z.arcs,a.2.2<n) (hn:n≤1000000):∀ f,VisC Z base A n c M S V Y g f
 | 0=>by
  intro w i s s' nx nx' _ _ _ _ _ _ _ _ h
  simp [visF] at h
 | f+1=>by
  intro w i s s' nx nx' hM hst hS hg hV hY hi hsl hvis
  have ih:=visit_any Z base A n c M S V Y g hlt hn f
  obtain ⟨b,o,hA,hb,c0,c1,c2⟩:=state_at hst.rd.rd hst.len i hi
  have hzm:=getD_mem Z svZero i (by rw [hst.len];exact hi)
  have hlz:=hlt _ hzm
  have hel:=hst.el _ hzm
  have hsg:((Z.map SV.p).getD i noSt).arcs=(Z.getD i svZero).arcs:=by
   simp [List.getD,hst.len,hi,SV.p]
  subst hA
  simp only [visF] at hvis
  rw [hsg] at hvis
  obtain ⟨⟨fin,out,aA,q,ac,arcs⟩,hz⟩:∃ z,Z.getD i svZero=z:=⟨_,rfl⟩
  rw [hz] at c0 c1 c2 hlz hel hvis
  simp only at c0 c1 c2 hlz hvis
  obtain ⟨alen,ard,ale,amx⟩:=hel
  simp only at alen ard ale amx
  have hqm:q≤maxLen:=Nat.le_trans ale amx
  obtain ⟨m0,m1,m2⟩:=hM.facts
  have HM:=hide hM
  have HST:=hide hst
  have HS:=hide hS
  have HG:=hide hg
  have HV:=hide hV
  have HY:=hide hY
  have HSL:=hide hsl
  have HLZ:=hide hlz
  have HAL:=hide alen
  have HRD:=hide ard
  have HVIS:=hide hvis
  have HIH:=hide ih
  have HZM:Hid (∀ wr,Touch (fun x=>x=g∨x=Y) w wr→Blk wr M 89 #[.int .i64 base,.slice (some ⟨b,o,none⟩) n c]∧StsOk wr (some ⟨b,o,none⟩) n Z∧Blk wr S 282 #[.slice (some ⟨g,0,none⟩) n n]∧Blk wr V 276 #[.func (.func 173) #[] #[.pointer (some ⟨M,0,none⟩),.pointer (some ⟨S,0,none⟩),.pointer (some ⟨V,0,none⟩),.pointer (some ⟨Y,0,none⟩)]]∧RdT wr 173 3 aA q (aCells arcs)):=by
   intro wr T
   have hno:∀ t,t ≠ 4 → t ≠ 3 → ∀ x,TyAt w x t→¬ (x=g∨x=Y):=by
    intro t h1 h2 x hx hor
    rcases hor with e | e
    ·exact hx.ne (blk_ty hg) h1 e
    ·exact hx.ne (blk_ty hY) h2 e
   refine ⟨hM.touch T (hno _ (by decide) (by decide) _ (blk_ty hM)),⟨hst.rd.touch T (hno _ (by decide) (by decide)),hst.len,fun z hz=>(hst.el z hz).touch T (hno _ (by decide) (by decide))⟩,hS.touch T (hno _ (by decide) (by decide) _ (blk_ty hS)),hV.touch T (hno _ (by decide) (by decide) _ (blk_ty hV)),ard.touch T (hno _ (by decide) (by decide))⟩
  clear hM hst hS hg hV hY hsl hlz alen ard hvis ih hzm hsg hz hlt ale amx
  go_enter Tryz.func173,Tryz.ntmps173
  go_wp2_with fail
  go_loopw [16] (fun iv wr=>∃ (j:Nat) (sj:List Bool) (nj:Nat),iv=.int .i64 j∧j≤q∧sj.length=n∧Hid (visArcs (visF (Z.map SV.p) f) arcs s nx=visArcs (visF (Z.map SV.p) f) (arcs.drop j) sj nj)∧Hid (Blk wr g 4 (bCells sj))∧Hid (Blk wr Y 3 #[.int .i64 nj])∧Hid (Touch (fun x=>x=g∨x=Y) w wr)) (fun iv _=>q-(intOf iv).toNat)
  case atStart=>exact ⟨0,s,nx,rfl,by omega,HSL.out,hide rfl,HG,HY,hide (Touch.refl _ _)⟩
  case round =>
   obtain ⟨j,sj,nj,rfl,hj,hsj,HE,HGj,HYj,HT⟩:=hrel
   obtain ⟨hMr,hSTr,hSr,hVr,hAr⟩:=HZM.out wr HT.out
   obtain ⟨p0,p1,p2⟩:=hSr.facts
   obtain ⟨v0,v1,v2⟩:=hVr.facts
   by_cases hjq:j<q
   ·have y1:(j:Int)<(q:Int):=by omega
    have y2:(0:Int)≤(j:Int):=by omega
    have z2:IntKind.i64.wrap ((j:Int)+1)=(j:Int)+1:=IntWalk.i64_in _ (by unfold maxLen at hqm;omega)
    obtain ⟨ag,ao,hA,hag,d0,d1,d2⟩:=arc_at hAr.rd HAL.out j hjq
    subst hA
    have hto:=HLZ.out _ (getD_mem arcs (0,0,0) j (by rw [HAL.out];exact hjq))
    have hdr:arcs.drop j=arcs.getD j (0,0,0) :: arcs.drop (j+1):=by
     rw [List.drop_eq_getElem_cons (by rw [HAL.out];exact hjq)]
     simp [List.getD,HAL.out,hjq]
    have he:=HE.out
    rw [hdr] at he
    obtain ⟨⟨la,ua,tt⟩,hz⟩:∃ z,arcs.getD j (0,0,0)=z:=⟨_,rfl⟩
    rw [hz] at d0 d1 d2 hto he
    simp only at d0 d1 d2 hto he
    simp only [visArcs] at he
    have hcs:wr.cell? ⟨g,tt,none⟩=some (.bool (sj.getD tt false)):=by
     rw [HGj.out.cell]
     exact bCells_get _ _ (by rw [hsj];exact hto)
    have hgl:=HGj.out.lt
    have y3:(0:Int)≤(tt:Int):=by omega
    have y4:(tt:Int)<(n:Int):=by omega
    clear hz hdr hMr hSTr hSr hVr hAr
    by_cases hseen:sj.getD tt false=true
    ·rw [if_pos hseen] at he
     rw [hseen] at hcs
     have HEE:=hide he
     clear he hseen
     go_wp2_with fail
     go_roundw
     ·exact ⟨j+1,sj,nj,by simp,by omega,hsj,hide HEE.out,hide (HGj.out.alloc _),hide (HYj.out.alloc _),hide (HT.out.alloc _)⟩
     ·simp only [intOf];omega
    ·rw [if_neg hseen] at he
     have hsf:sj.getD tt false=false:=by simpa using hseen
     rw [hsf] at hcs
     obtain ⟨⟨okv,s1,n1⟩,hvf⟩:∃ r,visF (Z.map SV.p) f tt sj nj=r:=⟨_,rfl⟩
     rw [hvf] at he
     cases okv with
     | false =>
      simp only at he
      have hv:=HVIS.out
      rw [he] at hv
      simp at hv
     | true =>
      simp only at he
      have HEE:=hide he
      have hs1:s1.length=n:=by
       have:=visF_len (Z.map SV.p) f tt sj nj
       rw [hvf] at this
       simp only at this
       omega
      obtain ⟨u,hu⟩:∃ u,u=wr.alloc (.cells #[.int .i32 la,.int .i64 ua,.int .i64 tt] 173):=⟨_,rfl⟩
      have hTu:Touch (fun x=>x=g∨x=Y) w u:=by rw [hu];exact HT.out.alloc _
      have hTu2:Touch (fun _=>False) wr u:=by rw [hu];exact (Touch.refl _ _).alloc _
      obtain ⟨k1,k2,k3,k4,_⟩:=HZM.out u hTu
      have hcall:=HIH.out u tt sj s1 nj n1 k1 k2 k3 (HGj.out.touch hTu2 (fun f=>f)) k4 (HYj.out.touch hTu2 (fun f=>f)) hto hsj hvf
      have HU:=hide hu
      have HTU:=hide hTu
      have HCALL:=hide hcall
      clear he hseen hsf hu hTu hTu2 k1 k2 k3 k4 hcall hvf
      go_wp2_with ((go_at_call 173;rw [← HU.out];refine (HCALL.out).mono ?_;rintro e v2 ⟨rfl,hg2,hy2,T2⟩;have HG2:=hide hg2;have HY2:=hide hy2;have HT2:=hide (HTU.out.then T2);clear hg2 hy2 T2))
      go_roundw
      ·exact ⟨j+1,s1,n1,by simp,by omega,hs1,HEE,HG2,HY2,HT2⟩
      ·simp only [intOf];omega
   ·have hjq2:j=q:=by omega
    subst hjq2
    have he:=HE.out
    rw [show arcs.drop j=[] from List.drop_eq_nil_of_le (by rw [HAL.out];exact Nat.le_refl _)] at he
    simp only [visArcs] at he
    have hv:=HVIS.out
    rw [he] at hv
    simp only [Prod.mk.injEq,decide_eq_true_eq] at hv
    obtain ⟨h1,h2,h3⟩:=hv
    have hnj:nj=i:=by omega
    subst hnj
    have hcs:wr.cell? ⟨g,nj,none⟩=some (.bool (sj.getD nj false)):=by
     rw [HGj.out.cell]
     exact bCells_get _ _ (by rw [hsj];exact hi)
    have hgl:=HGj.out.lt
    have hgf:=HGj.out.frozen nj
    obtain ⟨r0,r1,r2⟩:=HYj.out.facts
    have z2:IntKind.i64.wrap ((nj:Int)+1)=(nj:Int)+1:=IntWalk.i64_in _ (by omega)
    have hgY:¬ g=Y:=HGj.out.ne_ HYj.out (by decide)
    have hYg:¬ Y=g:=fun e=>hgY e.symm
    have hYS:¬ Y=S:=HYj.out.ne_ hSr (by decide)
    have hgS:¬ g=S:=HGj.out.ne_ hSr (by decide)
    have y3:(0:Int)≤(nj:Int):=by omega
    have y4:(nj:Int)<(n:Int):=by omega
    have H2:=hide h2
    have H3:=hide h3
    clear he h1 h2 h3 hMr hSTr hSr hVr hAr
    go_wp2_with fail
    go_ret
    refine ⟨by simp,?_,?_,?_⟩
    ·rw [← H2.out,← bCells_set]
     exact (HGj.out.set_ _ _).far hgY _
    ·have:=((HYj.out.far hYg (p:=⟨g,nj,none⟩) (.bool true)).set_ 0 (.int .i64 ((nj:Int)+1)))
     rw [← H3.out]
     simpa using this
    ·exact (HT.out.setCell (fun _=>.inl rfl) _).setCell (fun _=>.inr rfl) _
theorem infoBool:(Tryz.prog.info? 4).map (fun i=>(i.zero,i.size,i.bytes))=some (some (.bool false),1,1):=by kernel_rfl
theorem own_full {w:World} {base:Nat} {e:TypeId} {size g n:Nat} {xs:List Value} (h:w.ownsRow base e size (.slice (some ⟨g,0,none⟩) n n) n xs):Blk w g e xs.toArray:=by
 obtain ⟨hl,h | ⟨g',cap,cur,hv,_,hg,_,_,hsz,htk⟩⟩:=h
 ·simp at h
 ·injection hv with h1 h2 h3
  simp only [Option.some.injEq,Addr.mk.injEq] at h1
  obtain ⟨rfl,_⟩:=h1
  subst h3
  have:cur.toList=xs:=by rw [← htk,List.take_of_length_le (by simp [hsz])]
  rw [← this]
  exact hg
set_option maxRecDepth 100000 in
set_option maxHeartbeats 4000000 in
theorem numbered_any (w:World) (base:Int) (A:Option Addr) (n c:Nat) (Z:List SV) (hst:StsOk w A n Z) (hlt:∀ z∈Z,∀ a∈z.arcs,a.2.2<n) (hn0:0<n) (hn:n≤1000000) (F:Nat) (s':List Bool) (hvis:visF (Z.map SV.p) F (n-1) (List.replicate n false) 0=(true,s',n)) :
  Calls Tryz.prog 142 #[.agg #[.int .i64 base,.slice A n c]] w fun e w'=>e=.returned (.bool true)∧Touch (fun _=>False) w w':=by
 obtain ⟨i0,hi,hz0,hz1,hz2⟩:=info_parts infoBool
 have HST:=hide hst
 have HV:=hide hvis
 have hmf:∀ (fn:Fn) (first cap:Array Value) (w:World),(Instr.makeFunc fn first cap).run Tryz.prog w=.ok (.func fn first cap) w:=fun _ _ _ _=>rfl
 have z1:IntKind.i64.wrap ((n:Int)-1)=(n:Int)-1:=IntWalk.i64_in _ (by omega)
 clear hst hvis
 go_enter Tryz.func142,Tryz.ntmps142
 go_wp2_with (refine wpList_make_full _ rfl (.tmp 8) (.tmp 8) 282 rfl 0 4 i0 _ 1 Tryz.underlying282 hi hz0 hz1 .i64 .i64 (n:Int) (n:Int) n rfl rfl rfl rfl ?b2 ?b3 (Nat.zero_le _) ?_)
 case b2=>rw [hz2];omega
 case b3=>unfold maxLen;omega
 intro w1 O1 G1
 have hmc:(madeCells #[Value.bool false] n).toList=(List.replicate n false).map .bool:=by
  unfold madeCells
  apply List.ext_getElem
  ·simp
  ·intro i h1 h2
   simp [Nat.mod_one]
 rw [hmc] at O1
 obtain ⟨M,hM⟩:∃ M,M=w.heap.size:=⟨_,rfl⟩
 obtain ⟨Y,hY⟩:∃ Y,Y=w.heap.size+1:=⟨_,rfl⟩
 obtain ⟨g,hg⟩:∃ g,g=w.heap.size+1+1:=⟨_,rfl⟩
 have hbM:Blk w1 M 89 #[.int .i64 base,.slice A n c]:=by
  rw [hM]
  exact ((Blk.new _ _ _).alloc _).grown G1 (by simp)
 have hbY:Blk w1 Y 3 #[.int .i64 ((0:Nat):Int)]:=by
  rw [hY]
  exact (blk_new1 _ _ _ _).grown G1 (by simp)
 rw [← hg] at O1
 have hbg:Blk w1 g 4 (bCells (List.replicate n false)):=own_full O1
 have hT1:Touch (fun _=>False) w w1:=(((Touch.refl _ _).alloc _).alloc _).grown G1 (fun k h=>by cases h)
 rw [← hg,← hY,← hM]
 have HBM:=hide hbM
 have HBY:=hide hbY
 have HBG:=hide hbg
 have HT1:=hide hT1
 have HM:=hide hM
 have HY:=hide hY
 have HG:=hide hg
 obtain ⟨q1,q2,q3⟩:=hbM.facts
 obtain ⟨r1,r2,r3⟩:=hbY.facts
 clear O1 G1 hmc hM hY hg hbM hbY hbg hT1
 obtain ⟨u1,hu1⟩:∃ x,x=(w1.alloc (.cells #[.slice (some ⟨g,0,none⟩) n n] 282)).alloc (.cells #[.func (.func 173) #[] #[.pointer (some ⟨M,0,none⟩),.pointer (some ⟨w1.heap.size,0,none⟩),.pointer (some ⟨w1.heap.size+1,0,none⟩),.pointer (some ⟨Y,0,none⟩)]] 276):=⟨_,rfl⟩
 have hTu:Touch (fun _=>False) w1 u1:=by rw [hu1];exact ((Touch.refl _ _).alloc _).alloc _
 have hbS:Blk u1 w1.heap.size 282 #[.slice (some ⟨g,0,none⟩) n n]:=by rw [hu1];exact (Blk.new _ _ _).alloc _
 have hbV:Blk u1 (w1.heap.size+1) 276 #[.func (.func 173) #[] #[.pointer (some ⟨M,0,none⟩),.pointer (some ⟨w1.heap.size,0,none⟩),.pointer (some ⟨w1.heap.size+1,0,none⟩),.pointer (some ⟨Y,0,none⟩)]]:=by rw [hu1];exact blk_new1 _ _ _ _
 have hb1M:=HBM.out.touch hTu (fun f=>f)
 have hb1Y:=HBY.out.touch hTu (fun f=>f)
 have hb1g:=HBG.out.touch hTu (fun f=>f)
 have hst1:=(HST.out.quiet HT1.out).quiet hTu
 have hcall:=visit_any Z base A n c M w1.heap.size (w1.heap.size+1) Y g hlt hn F u1 (n-1) (List.replicate n false) s' 0 n hb1M hst1 hbS hb1g hbV hb1Y (by omega) (by simp) HV.out
 rw [show (((n-1:Nat):Int))=(n:Int)-1 by omega] at hcall
 have hgY:¬ M=g:=hb1M.ne_ hb1g (by decide)
 have hgY2:¬ M=Y:=hb1M.ne_ hb1Y (by decide)
 have HU1:=hide hu1
 have HCALL:=hide hcall
 have HTT:=hide (HT1.out.then hTu)
 have HB1M:=hide hb1M
 have HN:=hide (fun h=>h.elim hgY hgY2:¬ (M=g∨M=Y))
 clear hTu hbS hbV hu1 hb1M hb1Y hb1g hst1 hcall hgY hgY2
 go_wp2_with ((go_at_call 173;rw [← HU1.out];refine (HCALL.out).mono ?_;rintro e v2 ⟨rfl,hg2,hy2,T2⟩;have HT2:=hide T2;obtain ⟨k1,k2,k3⟩:=hy2.facts;obtain ⟨l1,l2,l3⟩:=(HB1M.out.touch T2 HN.out).facts;clear hg2 hy2 T2))
 go_ret
 refine ⟨rfl,HTT.out.trans HT2.out fun i hi e=>?_⟩
 have h1:=HG.out
 have h2:=HY.out
 omega
end Go.Proofs.YthockgmbooefpaaGreatDoor
