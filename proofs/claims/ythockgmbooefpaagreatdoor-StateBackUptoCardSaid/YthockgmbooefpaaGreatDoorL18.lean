/- What the law rests on, part 18. No condition but those that each theorem names. -/
import Derived.Test.YthockgmbooefpaaGreatDoorL17
import Derived.Test.YthockgmbooefpaaGreatDoorL05
import Derived.Test.YthockgmbooefpaaGreatDoorL07
set_option linter.unusedSectionVars false
set_option linter.unusedSimpArgs false
set_option linter.unusedVariables false
set_option maxRecDepth 100000
set_option maxHeartbeats 4000000
namespace Go.Proofs.YthockgmbooefpaaGreatDoor
open Go.RowKit
variable [Inhabited BaseT]
def kst (p:Int × Int) (a:Nat × Int × Nat):Int × Int:=(wrap64 (p.1*31+(a.1:Int)+a.2.1),wrap64 (p.2*37+(a.2.2:Int)))
def keyV (s:StP):Value:=.agg #[.int .i64 s.out,.int .i64 s.arcs.length,.int .i64 (s.arcs.foldl kst (0,0)).1,.int .i64 (s.arcs.foldl kst (0,0)).2]
theorem kst_I64 (l:List (Nat × Int × Nat)):∀ p:Int × Int,I64 p.1∧I64 p.2→I64 (l.foldl kst p).1∧I64 (l.foldl kst p).2:=by
 induction l with
 | nil=>intro p h;exact h
 | cons a l ih=>intro p _;exact ih _ ⟨wrap64_I64 _,wrap64_I64 _⟩
theorem arcs_no {α:Type} {xa ya:List α} {i:Nat} {a b:α} {P Q:Prop} (h1:xa.take (i+1)=xa.take i++[a]) (h2:ya.take (i+1)=ya.take i++[b]) (h3:xa.take i=ya.take i) (hne:a≠b):false=true↔(P∧Q∧xa=ya):=by
 constructor
 ·intro h
  cases h
 ·rintro ⟨_,_,rfl⟩
  rw [h1] at h2
  have:=List.append_cancel_left h2
  simp only [List.cons.injEq,and_true] at this
  exact absurd this hne
theorem gkey_any (w:World) (z:SV) (hz:z.Od w) (ho:0≤z.out∧z.out≤1048576) :
  Calls Tryz.prog 140 #[.agg #[.bool z.fin,.int .i64 z.out,.slice z.A z.n z.c]] w fun e w'=>e=.returned (keyV z.p)∧Touch (fun _=>False) w w':=by
 obtain ⟨fin,out,aA,n,ac,arcs⟩:=z
 obtain ⟨hlen,hrd,hle,hmx⟩:=hz
 simp only [SV.p,keyV] at *
 have hnm:n≤maxLen:=Nat.le_trans hle hmx
 have HRD:=hide hrd
 have HLEN:=hide hlen
 clear hrd hlen hle hmx
 go_enter Tryz.func140,Tryz.ntmps140
 go_wp2_with fail
 obtain ⟨w3,hw3⟩:∃ x,x=((w.alloc (.cells #[.bool fin,.int .i64 out,.slice aA n ac] 170)).alloc (.cells #[.int .i64 0,.int .i64 0,.int .i64 0,.int .i64 0] 246)).alloc (.cells #[.int .i64 out,.int .i64 n,.int .i64 0,.int .i64 0] 246):=⟨_,rfl⟩
 obtain ⟨X,hX⟩:∃ X,X=w.heap.size+1+1:=⟨_,rfl⟩
 obtain ⟨Y,hY⟩:∃ Y,Y=w.heap.size+1:=⟨_,rfl⟩
 have hT3:Touch (fun _=>False) w w3:=by
  rw [hw3]
  exact (((Touch.refl _ _).alloc _).alloc _).alloc _
 have hbX:Blk w3 X 246 #[.int .i64 out,.int .i64 n,.int .i64 0,.int .i64 0]:=by
  rw [hw3,hX]
  have h:=Blk.new ((w.alloc (.cells #[.bool fin,.int .i64 out,.slice aA n ac] 170)).alloc (.cells #[.int .i64 0,.int .i64 0,.int .i64 0,.int .i64 0] 246)) 246 #[.int .i64 out,.int .i64 n,.int .i64 0,.int .i64 0]
  simpa using h
 have hbY:Blk w3 Y 246 #[.int .i64 0,.int .i64 0,.int .i64 0,.int .i64 0]:=by
  rw [hw3,hY]
  have h:=(Blk.new (w.alloc (.cells #[.bool fin,.int .i64 out,.slice aA n ac] 170)) 246 #[.int .i64 0,.int .i64 0,.int .i64 0,.int .i64 0]).alloc (.cells #[.int .i64 out,.int .i64 n,.int .i64 0,.int .i64 0] 246)
  simpa using h
 rw [← hw3,← hX]
 try rw [← hY]
 have HT3:=hide hT3
 have HXL:=hide (show w.heap.size≤X by omega)
 have HXY:=hide (show Y≠X by omega)
 have HYL:=hide (show w.heap.size≤Y by omega)
 have HBX:=hide hbX
 have HBY:=hide hbY
 clear hw3 hT3 hbX hbY hX hY
 go_loopw [15] (fun iv wr=>∃ (i:Nat) (x3 x4:Int),iv=.int .i64 i∧i≤n∧Hid ((x3,x4)=(arcs.take i).foldl kst (0,0))∧Hid (Blk wr X 246 #[.int .i64 out,.int .i64 n,.int .i64 x3,.int .i64 x4])∧Hid (Touch (fun g=>g=X) w3 wr)) (fun iv _=>n-(intOf iv).toNat)
 case atStart=>exact ⟨0,0,0,rfl,by omega,hide rfl,HBX,hide (Touch.refl _ _)⟩
 case round =>
  obtain ⟨i,x3,x4,rfl,hi,HI,HX,HT⟩:=hrel
  have hq:Touch (fun _=>False) w wr:=HT3.out.trans HT.out (fun g hg e=>by have:=HXL.out;omega)
  by_cases hin:i<n
  ·have y1:(i:Int)<(n:Int):=by omega
   have y2:(0:Int)≤(i:Int):=by omega
   have z2:IntKind.i64.wrap ((i:Int)+1)=(i:Int)+1:=IntWalk.i64_in _ (by unfold maxLen at hnm;omega)
   obtain ⟨g,o,hA,hg,c1,c2,c3⟩:=arc_at (HRD.out.quiet hq).rd HLEN.out i hin
   subst hA
   obtain ⟨⟨la,ao,tt⟩,hz⟩:∃ z,arcs.getD i (0,0,0)=z:=⟨_,rfl⟩
   have htk:=take_snoc arcs (0,0,0) i (by rw [HLEN.out];exact hin)
   rw [hz] at c1 c2 c3 htk
   simp only at c1 c2 c3
   have HTK:=hide htk
   obtain ⟨q1,q2,q3⟩:=HX.out.facts
   clear hz hq htk
   go_wp2_with fail
   go_roundw
   ·refine ⟨i+1,_,_,by simp,by omega,hide ?_,hide (((HX.out.set_ 2 _).set_ 3 _).alloc _),hide (((HT.out.setCell (fun _=>rfl) _).setCell (fun _=>rfl) _).alloc _)⟩
    rw [HTK.out,List.foldl_append,← HI.out]
    simp only [List.foldl_cons,List.foldl_nil,kst,Prod.mk.injEq]
    constructor
    ·unfold wrap64;omega
    ·unfold wrap64;omega
   ·simp only [intOf];omega
  ·have hie:i=n:=by omega
   subst hie
   obtain ⟨q1,q2,q3⟩:=HX.out.facts
   have hby:=HBY.out.touch HT.out HXY.out
   obtain ⟨r1,r2,r3⟩:=hby.facts
   have HQ:=hide hq
   have hxy1:¬ X=Y:=fun e=>HXY.out e.symm
   have hxy2:¬ Y=X:=HXY.out
   clear hq
   go_wp2_with fail
   have hbF:Blk ((((wr.setCell ⟨Y,0,none⟩ (.int .i64 out)).setCell ⟨Y,1,none⟩ (.int .i64 i)).setCell ⟨Y,2,none⟩ (.int .i64 x3)).setCell ⟨Y,3,none⟩ (.int .i64 x4)) Y 246 #[.int .i64 out,.int .i64 i,.int .i64 x3,.int .i64 x4]:=(((hby.set_ 0 _).set_ 1 _).set_ 2 _).set_ 3 _
   have f0:=hbF.cell 0
   have f1:=hbF.cell 1
   have f2:=hbF.cell 2
   have f3:=hbF.cell 3
   have hTF:Touch (fun _=>False) w ((((wr.setCell ⟨Y,0,none⟩ (.int .i64 out)).setCell ⟨Y,1,none⟩ (.int .i64 i)).setCell ⟨Y,2,none⟩ (.int .i64 x3)).setCell ⟨Y,3,none⟩ (.int .i64 x4)):=by
    iterate 4 refine Touch.setCell ?_ (fun h=>by have:=HYL.out;simp only at h;omega) _
    exact HQ.out
   have hfin:=HI.out
   rw [List.take_of_length_le (by rw [HLEN.out];exact Nat.le_refl _)] at hfin
   have e3:(arcs.foldl kst (0,0)).1=x3:=by rw [← hfin]
   have e4:(arcs.foldl kst (0,0)).2=x4:=by rw [← hfin]
   refine bodyPost_ret (v:=.agg #[.int .i64 out,.int .i64 i,.int .i64 x3,.int .i64 x4]) (by simp [results,Tryz.results140,go_sem,f0,f1,f2,f3]) rfl ⟨?_,hTF⟩
   rw [HLEN.out,e3,e4]
theorem galike_any (w:World) (x y:SV) (hx:x.Od w) (hy:y.Od w) :
  Calls Tryz.prog 141 #[.agg #[.bool x.fin,.int .i64 x.out,.slice x.A x.n x.c],.agg #[.bool y.fin,.int .i64 y.out,.slice y.A y.n y.c]] w fun e w'=>BoolIff (x.p=y.p) e∧Touch (fun _=>False) w w':=by
 obtain ⟨xf,xo,xA,xn,xc,xa⟩:=x
 obtain ⟨yf,yo,yA,yn,yc,ya⟩:=y
 obtain ⟨xlen,xrd,xle,xmx⟩:=hx
 obtain ⟨ylen,yrd,yle,ymx⟩:=hy
 simp only [SV.p,StP.mk.injEq] at *
 obtain ⟨Q,hQ⟩:∃ Q:Prop,(xf=yf∧xo=yo∧xa=ya)=Q:=⟨_,rfl⟩
 rw [hQ]
 have HQ:=hide hQ
 clear hQ
 have hnm:xn≤maxLen:=Nat.le_trans xle xmx
 have HX:=hide xrd
 have HXL:=hide xlen
 have HY:=hide yrd
 have HYL:=hide ylen
 clear xrd xlen yrd ylen xle xmx yle ymx
 by_cases e1:xf=yf
 ·subst e1
  by_cases e2:xo=yo
  ·subst e2
   by_cases e3:xn=yn
   ·subst e3
    go_enter Tryz.func141,Tryz.ntmps141
    go_wp2_with fail
    obtain ⟨w3,hw3⟩:∃ x,x=(w.alloc (.cells #[.bool xf,.int .i64 xo,.slice xA xn xc] 170)).alloc (.cells #[.bool xf,.int .i64 xo,.slice yA xn yc] 170):=⟨_,rfl⟩
    obtain ⟨X,hX⟩:∃ X,X=w.heap.size:=⟨_,rfl⟩
    obtain ⟨Y,hY⟩:∃ Y,Y=w.heap.size+1:=⟨_,rfl⟩
    have hT3:Touch (fun _=>False) w w3:=by
     rw [hw3]
     exact ((Touch.refl _ _).alloc _).alloc _
    have hbX:Blk w3 X 170 #[.bool xf,.int .i64 xo,.slice xA xn xc]:=by
     rw [hw3,hX]
     exact (Blk.new _ _ _).alloc _
    have hbY:Blk w3 Y 170 #[.bool xf,.int .i64 xo,.slice yA xn yc]:=by
     rw [hw3,hY]
     have h:=Blk.new (w.alloc (.cells #[.bool xf,.int .i64 xo,.slice xA xn xc] 170)) 170 #[.bool xf,.int .i64 xo,.slice yA xn yc]
     simpa using h
    rw [← hw3]
    try rw [← hY]
    rw [← hX]
    have HT3:=hide hT3
    have HBX:=hide hbX
    have HBY:=hide hbY
    clear hw3 hT3 hbX hbY hX hY
    go_loopw [30] (fun iv wr=>∃ (i:Nat),iv=.int .i64 i∧i≤xn∧Hid (xa.take i=ya.take i)∧Hid (Touch (fun _=>False) w3 wr)) (fun iv _=>xn-(intOf iv).toNat)
    case atStart=>exact ⟨0,rfl,by omega,hide rfl,hide (Touch.refl _ _)⟩
    case round =>
     obtain ⟨i,rfl,hi,HP,HT⟩:=hrel
     by_cases hin:i<xn
     ·have y1:(i:Int)<(xn:Int):=by omega
      have y2:(0:Int)≤(i:Int):=by omega
      have z2:IntKind.i64.wrap ((i:Int)+1)=(i:Int)+1:=IntWalk.i64_in _ (by unfold maxLen at hnm;omega)
      obtain ⟨g,o,hA,hg,c1,c2,c3⟩:=arc_at (HX.out.quiet (HT3.out.then HT.out)).rd HXL.out i hin
      obtain ⟨g2,o2,hA2,hg2,d1,d2,d3⟩:=arc_at (HY.out.quiet (HT3.out.then HT.out)).rd HYL.out i hin
      subst hA
      subst hA2
      have hsx:=take_snoc xa (0,0,0) i (by rw [HXL.out];exact hin)
      have hsy:=take_snoc ya (0,0,0) i (by rw [HYL.out];exact hin)
      obtain ⟨⟨la,ao,tt⟩,hz⟩:∃ z,xa.getD i (0,0,0)=z:=⟨_,rfl⟩
      obtain ⟨⟨lb,bo,ub⟩,hz2⟩:∃ z,ya.getD i (0,0,0)=z:=⟨_,rfl⟩
      rw [hz] at c1 c2 c3 hsx
      rw [hz2] at d1 d2 d3 hsy
      simp only at c1 c2 c3 d1 d2 d3 hsx hsy
      have HSX:=hide hsx
      have HSY:=hide hsy
      obtain ⟨q1,q2,q3⟩:=(HBX.out.touch HT.out (fun f=>f)).facts
      obtain ⟨r1,r2,r3⟩:=(HBY.out.touch HT.out (fun f=>f)).facts
      clear hz hz2 hsx hsy
      by_cases p1:la=lb
      ·subst p1
       by_cases p2:ao=bo
       ·subst p2
        by_cases p3:tt=ub
        ·subst p3
         go_wp2_with fail
         go_quiet (fail)
         go_wp2_with fail
         go_roundw
         ·refine ⟨i+1,by simp,by omega,hide ?_,hide (HT.out.drewN _)⟩
          rw [HSX.out,HSY.out,HP.out]
         ·simp only [intOf];omega
        ·have p4:((tt:Int) == (ub:Int))=false:=by simp;omega
         go_wp2_with fail
         go_quiet (fail)
         go_wp2_with fail
         go_ret
         refine ⟨.mk false ?_,HT3.out.then (HT.out.drewN _)⟩
         rw [← HQ.out]
         exact arcs_no HSX.out HSY.out HP.out (fun h=>by simp only [Prod.mk.injEq] at h;exact p3 h.2.2)
       ·have p4:(ao == bo)=false:=by simp;exact p2
        go_wp2_with fail
        go_quiet (fail)
        go_wp2_with fail
        go_ret
        refine ⟨.mk false ?_,HT3.out.then (HT.out.drewN _)⟩
        rw [← HQ.out]
        exact arcs_no HSX.out HSY.out HP.out (fun h=>by simp only [Prod.mk.injEq] at h;exact p2 h.2.1)
      ·have p4:((la:Int) == (lb:Int))=false:=by simp;omega
       go_wp2_with fail
       go_quiet (fail)
       go_wp2_with fail
       go_ret
       refine ⟨.mk false ?_,HT3.out.then (HT.out.drewN _)⟩
       rw [← HQ.out]
       exact arcs_no HSX.out HSY.out HP.out (fun h=>by simp only [Prod.mk.injEq] at h;exact p1 h.1)
     ·have hie:i=xn:=by omega
      have h:=HP.out
      rw [List.take_of_length_le (by rw [HXL.out];omega),List.take_of_length_le (by rw [HYL.out];omega)] at h
      have HE:=hide h
      have y1:¬ (i:Int)<(xn:Int):=by omega
      clear h hie hin hi
      go_wp2_with fail
      go_ret
      refine ⟨.mk true ?_,HT3.out.then HT.out⟩
      rw [← HQ.out]
      exact ⟨fun _=>⟨trivial,trivial,HE.out⟩,fun _=>rfl⟩
   ·have e4:((xn:Int) == (yn:Int))=false:=by simp;omega
    have hno:¬ Q:=by
     rw [← HQ.out]
     rintro ⟨_,_,h⟩
     exact e3 (by rw [← HXL.out,← HYL.out,h])
    have HNO:=hide hno
    clear hno
    go_enter Tryz.func141,Tryz.ntmps141
    cases xf
    ·go_wp2_with fail
     go_ret
     exact ⟨.mk false ⟨(fun h=>by cases h),fun h=>absurd h HNO.out⟩,((Touch.refl _ _).alloc _).alloc _⟩
    ·go_wp2_with fail
     go_ret
     exact ⟨.mk false ⟨(fun h=>by cases h),fun h=>absurd h HNO.out⟩,((Touch.refl _ _).alloc _).alloc _⟩
  ·have e4:(xo == yo)=false:=by simp;exact e2
   have hno:¬ Q:=by
    rw [← HQ.out]
    rintro ⟨_,h,_⟩
    exact e2 h
   have HNO:=hide hno
   clear hno
   go_enter Tryz.func141,Tryz.ntmps141
   cases xf
   ·go_wp2_with fail
    go_ret
    exact ⟨.mk false ⟨(fun h=>by cases h),fun h=>absurd h HNO.out⟩,((Touch.refl _ _).alloc _).alloc _⟩
   ·go_wp2_with fail
    go_ret
    exact ⟨.mk false ⟨(fun h=>by cases h),fun h=>absurd h HNO.out⟩,((Touch.refl _ _).alloc _).alloc _⟩
 ·have hno:¬ Q:=by
   rw [← HQ.out]
   rintro ⟨h,_⟩
   exact e1 h
  have HNO:=hide hno
  clear hno
  go_enter Tryz.func141,Tryz.ntmps141
  cases xf
  ·cases yf
   ·exact absurd rfl e1
   ·go_wp2_with fail
    go_ret
    exact ⟨.mk false ⟨(fun h=>by cases h),fun h=>absurd h HNO.out⟩,((Touch.refl _ _).alloc _).alloc _⟩
  ·cases yf
   ·go_wp2_with fail
    go_ret
    exact ⟨.mk false ⟨(fun h=>by cases h),fun h=>absurd h HNO.out⟩,((Touch.refl _ _).alloc _).alloc _⟩
   ·exact absurd rfl e1
end Go.Proofs.YthockgmbooefpaaGreatDoor
namespace Go.Proofs.YthockgmbooefpaaGreatDoor
open Go.RowKit Go.WideMaps Go.WideElems Go.ChangeShapes Go.WideShapes Go.MapKept Go.ChangeMaps
variable [Inhabited BaseT]
structure Gr2 (w:World) (B b m:Nat) (kv:Nat→Value) (es:Array MapEntry) (clock:Nat):Prop where
 g:Grp w B b m es clock
 has:∀ k,k<m→∃ (i:Nat) (x:MapEntry),es[i]? = some x∧x.key=kv k
 dist:∀ (i j:Nat) (x y:MapEntry),es[i]? = some x→es[j]? = some y→x.key=y.key→i=j
 full:∀ (i:Nat) (x:MapEntry),es[i]? = some x→∃ xs,RowV w m x.val xs∧∀ k,k<m→kv k=x.key→k∈xs
theorem rowV_inj {w:World} {m m':Nat} {v:Value} {xs ys:List Nat} (h:RowV w m v xs) (k:RowV w m' v ys):xs=ys:=by
 have inj:∀ {a b:List Nat},a.map natV=b.map natV→a=b:=fun h=>map_inj (fun x y e=>by simp only [natV,Value.int.injEq,true_and] at e;omega) h
 obtain ⟨⟨h1,h2⟩,_⟩:=h
 obtain ⟨⟨k1,k2⟩,_⟩:=k
 rcases h2 with ⟨rfl,hn⟩ | ⟨g,cap,cur,rfl,_,hg,_,_,_,ht⟩
 ·rcases k2 with ⟨_,kn⟩ | ⟨g,cap,cur,hv,_⟩
  ·rw [List.eq_nil_of_length_eq_zero hn,List.eq_nil_of_length_eq_zero kn]
  ·cases hv
 ·rcases k2 with ⟨hv,_⟩ | ⟨g',cap',cur',hv,_,kg,_,_,_,kt⟩
  ·cases hv
  ·injection hv with e1 e2 e3
   injection e1 with e1
   injection e1 with e1
   subst e1
   rw [hg] at kg
   simp only [Option.some.injEq,Obj.cells.injEq] at kg
   obtain ⟨rfl,_⟩:=kg
   rw [← e2] at kt
   exact inj (ht.symm.trans kt)
theorem Gr2.quiet {w w':World} {B b m clock:Nat} {kv:Nat→Value} {es:Array MapEntry} (h:Gr2 w B b m kv es clock) (T:Touch (fun _=>False) w w'):Gr2 w' B b m kv es clock :=
 ⟨h.g.quiet T,h.has,h.dist,fun i x hx=>by
  obtain ⟨xs,hr,hf⟩:=h.full i x hx
  exact ⟨xs,hr.touch T (fun _ _ f=>f),hf⟩⟩
theorem Gr2.far {w w':World} {B b m clock:Nat} {kv:Nat→Value} {es:Array MapEntry} {S:Nat→Prop} (h:Gr2 w B b m kv es clock) (T:Touch S w w') (hb:¬ S b) (hs:∀ g,TyAt w g 3 → ¬ S g):Gr2 w' B b m kv es clock :=
 ⟨h.g.far T hb hs,h.has,h.dist,fun i x hx=>by
  obtain ⟨xs,hr,hf⟩:=h.full i x hx
  exact ⟨xs,hr.touch T (fun g hg=>hs g (own_ty hr.1 hg)),hf⟩⟩
theorem Gr2.lookup {w:World} {B b m clock:Nat} {kv:Nat→Value} {es:Array MapEntry} (h:Gr2 w B b m kv es clock) {key:Value} {l:Lit} (hk:keyOf Tryz.prog 246 key=some l) :
  ∃ v xs,(Instr.lookup 241 (.map (some b)) key false).run Tryz.prog w=.ok v w∧RowV w m v xs∧∀ k,k<m→kv k=key→k∈xs:=by
 rcases grp_law.find w hk es.toList h.g.keys with ⟨h1,h2⟩ | ⟨j,e0,h1,h2,h3⟩
 ·refine ⟨.slice none 0 0,[],?_,RowV.nil _ _,fun k hm e=>?_⟩
  ·simp [Instr.lookup,run_underlying Tryz.underlying241,MapKept.run_getObj_map h.g.blk,grp_law.check w _ hk,h1,Result.andThen]
  ·obtain ⟨i,x,hx,hxk⟩:=h.has k hm
   exact absurd (hxk.trans e) (h2 x (List.mem_of_getElem? (by simpa using hx)))
 ·obtain ⟨xs,hr,hf⟩:=h.full j e0 (by simpa using h2)
  refine ⟨e0.val,xs,?_,hr,fun k hm e=>hf k hm (e.trans h3.symm)⟩
  simp [Instr.lookup,run_underlying Tryz.underlying241,MapKept.run_getObj_map h.g.blk,grp_law.check w _ hk,h1,Result.andThen]
theorem Gr2.entry {w:World} {B b m clock:Nat} {kv:Nat→Value} {es:Array MapEntry} (h2:Gr2 w B b m kv es clock) {key:Value} {l:Lit} (hk:keyOf Tryz.prog 246 key=some l) :
  ∃ (es1:Array MapEntry) (clock1 j:Nat) (e0:MapEntry),(Instr.mapEntry 241 (.map (some b)) key).run Tryz.prog w=.ok (.tuple #[e0.val,goInt e0.born]) (setBlock w b (.map es1 clock1))∧Gr2 (setBlock w b (.map es1 clock1)) B b m kv es1 clock1∧es1[j]? = some e0∧e0.key=key:=by
 have h:=h2.g
 have hT:=fun o=>touch_setBlock w b o
 have hlt:=map_lt h.blk
 have hne:∀ (i:Nat) (x:MapEntry),es[i]? = some x→∀ g,x.val.ownBlock=some g→¬ g=b:=by
  intro i x hx g hg
  obtain ⟨xs,hr⟩:=h.vals i x hx
  exact map_ne (own_ty hr.1 hg) h.blk
 rcases grp_law.find w hk es.toList h.keys with ⟨h1,f2⟩ | ⟨j,e0,h1,f2,h3⟩
 ·refine ⟨es.push ⟨key,.slice none 0 0,clock⟩,clock+1,es.size,⟨key,.slice none 0 0,clock⟩,?_,⟨⟨heap_setBlock hlt,stamped_push h.stamped f2,?_,?_,?_,?_⟩,?_,?_,?_⟩,by simp,rfl⟩
  ·simp [Instr.mapEntry,run_underlying Tryz.underlying241,MapKept.run_getObj_map h.blk,grp_law.check w false hk,h1,MapKept.run_setObj_map _ h.blk,Result.andThen,setBlock]
  ·intro x hx
   simp only [Array.toList_push,List.mem_append,List.mem_singleton] at hx
   rcases hx with hx | rfl
   ·exact h.keys x hx
   ·exact ⟨l,hk⟩
  ·intro i x hx
   rw [Array.getElem?_push] at hx
   split at hx
   ·injection hx with hx
    subst hx
    exact ⟨[],RowV.nil _ _⟩
   ·obtain ⟨xs,hr⟩:=h.vals i x hx
    exact ⟨xs,hr.touch (hT _) (hne i x hx)⟩
  ·intro i x hx g hg
   rw [Array.getElem?_push] at hx
   split at hx
   ·injection hx with hx
    subst hx
    cases hg
   ·exact h.young i x hx g hg
  ·intro i j x y hx hy hij g hg
   rw [Array.getElem?_push] at hx hy
   split at hx
   ·injection hx with hx
    subst hx
    cases hg
   ·split at hy
    ·injection hy with hy
     subst hy
     intro e
     cases e
    ·exact h.apart i j x y hx hy hij g hg
  ·intro k hm
   obtain ⟨i,x,hx,hxk⟩:=h2.has k hm
   exact ⟨i,x,by rw [Array.getElem?_push,if_neg (by have:=(Array.getElem?_eq_some_iff.1 hx).1;omega)];exact hx,hxk⟩
  ·intro i j x y hx hy hxy
   rw [Array.getElem?_push] at hx hy
   split at hx
   ·rename_i hi
    split at hy
    ·rename_i hj
     omega
    ·obtain rfl:=Option.some.inj hx
     exact False.elim <| f2 y (List.mem_of_getElem? (i:=j) (by simpa using hy)) hxy.symm
   ·split at hy
    ·obtain rfl:=Option.some.inj hy
     exact False.elim <| f2 x (List.mem_of_getElem? (i:=i) (by simpa using hx)) hxy
    ·exact h2.dist i j x y hx hy hxy
  ·intro i x hx
   rw [Array.getElem?_push] at hx
   split at hx
   ·injection hx with hx
    subst hx
    refine ⟨[],RowV.nil _ _,fun k hm e=>?_⟩
    obtain ⟨i',x',hx',hxk'⟩:=h2.has k hm
    exact absurd (hxk'.trans e) (f2 x' (List.mem_of_getElem? (i:=i') (by simpa using hx')))
   ·obtain ⟨xs,hr,hf⟩:=h2.full i x hx
    exact ⟨xs,hr.touch (hT _) (hne i x hx),hf⟩
 ·have hj:es[j]? = some e0:=by simpa using f2
  have hsame:es.modify j (fun e=>{ e with key:=key })=es:=by
   apply Array.ext'
   rw [Array.toList_modify,modify_eq_set _ _ _ _ f2]
   have:({ e0 with key:=key }:MapEntry)=e0:=by rw [← h3]
   rw [this]
   exact set_self _ _ _ f2
  refine ⟨es,clock,j,e0,?_,⟨⟨heap_setBlock hlt,h.stamped,h.keys,fun i x hx=>?_,h.young,h.apart⟩,h2.has,h2.dist,fun i x hx=>?_⟩,hj,h3⟩
  ·simp [Instr.mapEntry,run_underlying Tryz.underlying241,MapKept.run_getObj_map h.blk,grp_law.check w false hk,h1,hj,h3,grp_law.stays w hk,hsame,MapKept.run_setObj_map _ h.blk,Result.andThen,setBlock]
  ·obtain ⟨xs,hr⟩:=h.vals i x hx
   exact ⟨xs,hr.touch (hT _) (hne i x hx)⟩
  ·obtain ⟨xs,hr,hf⟩:=h2.full i x hx
   exact ⟨xs,hr.touch (hT _) (hne i x hx),hf⟩
theorem Gr2.store {w w6:World} {B b m clock j:Nat} {kv:Nat→Value} {es:Array MapEntry} {e0:MapEntry} (h2:Gr2 w B b m kv es clock) (hkv:e0.key=kv m) {ys:List Nat} (hys:RowV w m e0.val ys) (hj:es[j]? = some e0) {v1:Value} {xs:List Nat} (hg:w.grownBy w6 e0.val.ownBlock) (hf:Fresh w e0.val v1) (hv:RowV w6 (m+1) v1 xs) (hxs:xs=ys++[m]) (hB:B≤w.heap.size) :
  ∃ es',(Instr.entryStore 241 (.map (some b)) (goInt e0.born) v1).run Tryz.prog w6=.ok () (setBlock w6 b (.map es' clock))∧Gr2 (setBlock w6 b (.map es' clock)) B b (m+1) kv es' clock:=by
 have h:=h2.g
 have hlt:=map_lt h.blk
 have hnb:∀ (i:Nat) (x:MapEntry),es[i]? = some x→∀ g,x.val.ownBlock=some g→¬ g=b:=by
  intro i x hx g hg
  obtain ⟨xs,hr⟩:=h.vals i x hx
  exact map_ne (own_ty hr.1 hg) h.blk
 have hT6:Touch (fun x=>e0.val.ownBlock=some x) w w6:=(Touch.refl _ _).grown hg (fun k hk _=>hk)
 have hb6:w6.heap[b]? = some (.map es clock):=(hT6.block b hlt (fun e=>hnb j e0 hj b e rfl)).trans h.blk
 have hT7:=fun o=>touch_setBlock w6 b o
 have hl:es.toList[j]? = some e0:=by simpa using hj
 have hidx:es.findIdx? (fun e=>((e.born:Nat):Int) == ((e0.born:Nat):Int))=some j:=by
  rw [findIdx_arr]
  exact findIdx_born h.stamped.2.1 hl
 have hget:∀ i:Nat,(es.modify j (fun e=>{ e with val:=v1 }))[i]? = if j=i then (es[i]?).map (fun e=>{ e with val:=v1 }) else es[i]? := by
  intro i
  rw [Array.getElem?_modify]
 refine ⟨es.modify j (fun e=>{ e with val:=v1 }),?_,⟨⟨heap_setBlock (map_lt hb6),stamped_modify h.stamped j _ (fun _ _=>rfl) (fun _ _ _=>rfl),?_,?_,?_,?_⟩,?_,?_,?_⟩⟩
 ·simp [Instr.entryStore,MapKept.run_getObj_map hb6,asInt,asIntOf,goInt,hidx,MapKept.run_setObj_map _ hb6,Result.andThen,setBlock]
 ·intro x hx
  rw [Array.toList_modify,modify_eq_set _ _ _ _ hl] at hx
  rcases List.mem_or_eq_of_mem_set hx with hx | rfl
  ·exact h.keys x hx
  ·exact h.keys e0 (List.mem_of_getElem? hl)
 ·intro i x hx
  rw [hget] at hx
  split at hx
  ·rename_i hji
   subst hji
   rw [hj] at hx
   simp only [Option.map_some,Option.some.injEq] at hx
   subst hx
   refine ⟨xs,hv.touch (hT7 _) fun g hg' e=>?_⟩
   exact map_ne (own_ty hv.1 hg') hb6 e
  ·rename_i hji
   obtain ⟨ys,hr⟩:=(h.up (Nat.le_succ m)).vals i x hx
   refine ⟨ys,(hr.touch hT6 fun g hg' e=>?_).touch (hT7 _) (hnb i x hx)⟩
   exact h.apart j i e0 x hj hx hji g e hg'
 ·intro i x hx g hg'
  rw [hget] at hx
  split at hx
  ·rename_i hji
   subst hji
   rw [hj] at hx
   simp only [Option.map_some,Option.some.injEq] at hx
   subst hx
   rcases hf with hf | ⟨g2,e2,hf⟩
   ·simp only at hg'
    rw [hf] at hg'
    exact h.young j e0 hj g hg'
   ·simp only at hg'
    rw [e2] at hg'
    injection hg' with hg'
    omega
  ·exact h.young i x hx g hg'
 ·have hfar:∀ (i:Nat) (x:MapEntry),es[i]? = some x→j≠i→∀ g,v1.ownBlock=some g→x.val.ownBlock≠some g:=by
   intro i x hx hji g hg' e
   rcases hf with hf | ⟨g2,e2,hf⟩
   ·rw [hf] at hg'
    exact h.apart j i e0 x hj hx hji g hg' e
   ·rw [e2] at hg'
    injection hg' with hg'
    obtain ⟨ys,hr⟩:=h.vals i x hx
    have:=(own_ty hr.1 e).lt
    omega
  intro i k x y hx hy hik g hg'
  rw [hget] at hx hy
  split at hx
  ·rename_i hji
   rw [if_neg (by omega)] at hy
   subst hji
   rw [hj] at hx
   simp only [Option.map_some,Option.some.injEq] at hx
   subst hx
   exact hfar k y hy hik g hg'
  ·split at hy
   ·rename_i hji hjk
    subst hjk
    rw [hj] at hy
    simp only [Option.map_some,Option.some.injEq] at hy
    subst hy
    intro e
    exact hfar i x hx hji g e hg'
   ·exact h.apart i k x y hx hy hik g hg'
 ·intro k hk
  rcases Nat.lt_succ_iff_lt_or_eq.1 hk with hk | rfl
  ·obtain ⟨i,x,hx,hxk⟩:=h2.has k hk
   by_cases e:j=i
   ·exact ⟨i,{ x with val:=v1 },by rw [hget,if_pos e,hx];rfl,hxk⟩
   ·exact ⟨i,x,by rw [hget,if_neg e];exact hx,hxk⟩
  ·exact ⟨j,{ e0 with val:=v1 },by rw [hget,if_pos rfl,hj];rfl,hkv⟩
 ·have hk:∀ (i:Nat) (x:MapEntry),(es.modify j (fun e=>{ e with val:=v1 }))[i]? = some x→∃ x',es[i]? = some x'∧x'.key=x.key:=by
   intro i x hx
   rw [hget] at hx
   split at hx
   ·obtain ⟨x',h1,h3⟩:=Option.map_eq_some_iff.1 hx
    exact ⟨x',h1,by rw [← h3]⟩
   ·exact ⟨x,hx,rfl⟩
  intro i k x y hx hy hxy
  obtain ⟨x',h1,h3⟩:=hk i x hx
  obtain ⟨y',h4,h5⟩:=hk k y hy
  exact h2.dist i k x' y' h1 h4 (by rw [h3,h5,hxy])
 ·intro i x hx
  rw [hget] at hx
  split at hx
  ·rename_i hji
   subst hji
   rw [hj] at hx
   simp only [Option.map_some,Option.some.injEq] at hx
   subst hx
   obtain ⟨zs,hr,hf⟩:=h2.full j e0 hj
   have e:=rowV_inj hr hys
   subst e
   refine ⟨xs,hv.touch (hT7 _) fun g hg' e=>?_,?_⟩
   ·exact map_ne (own_ty hv.1 hg') hb6 e
   ·intro k hk e
    rw [hxs]
    rcases Nat.lt_succ_iff_lt_or_eq.1 hk with hk | rfl
    ·exact List.mem_append_left _ (hf k hk e)
    ·exact List.mem_append_right _ (List.mem_singleton.2 rfl)
  ·rename_i hji
   obtain ⟨zs,hr,hf⟩:=h2.full i x hx
   have hr2:RowV w (m+1) x.val zs:=⟨hr.1,by have:=hr.2.1;omega,fun k hk=>by have:=hr.2.2 k hk;omega⟩
   refine ⟨zs,(hr2.touch hT6 fun g hg' e=>?_).touch (hT7 _) (hnb i x hx),?_⟩
   ·exact h.apart j i e0 x hj hx hji g e hg'
   ·intro k hk e
    rcases Nat.lt_succ_iff_lt_or_eq.1 hk with hk | rfl
    ·exact hf k hk e
    ·exact absurd (h2.dist j i e0 x hj hx (hkv.trans e)) hji
end Go.Proofs.YthockgmbooefpaaGreatDoor
namespace Go.Proofs.YthockgmbooefpaaGreatDoor
open Go.RowKit
variable [Inhabited BaseT]
structure VisOk (w:World) (g Y:Nat) (s':List Bool) (nx':Nat) (ok:Bool):Prop where
 yes:ok=true→Blk w g 4 (bCells s')∧Blk w Y 3 #[.int .i64 nx']
theorem visF_next {sts:List StP} {f i:Nat} {s s':List Bool} {n n':Nat} (h:visF sts f i s n=(true,s',n')):n'=i+1:=by
 cases f with
 | zero=>simp [visF] at h
 | succ f =>
  simp only [visF] at h
  split at h
  ·simp only [Prod.mk.injEq,decide_eq_true_eq] at h
   omega
  ·simp at h
theorem VisOk.no {w:World} {g Y:Nat} {s':List Bool} {nx':Nat}:VisOk w g Y s' nx' false:=⟨fun h=>by cases h⟩
def VisG (Z:List SV) (base:Int) (A:Option Addr) (n c M S V Y g:Nat) (f:Nat):Prop :=
 ∀ (w:World) (i:Nat) (s s':List Bool) (nx nx':Nat) (ok:Bool),i<f→nx≤1000000→Blk w M 89 #[.int .i64 base,.slice A n c]→StsOd w A n Z→Blk w S 282 #[.slice (some ⟨g,0,none⟩) n n]→Blk w g 4 (bCells s) →
  Blk w V 276 #[.func (.func 173) #[] #[.pointer (some ⟨M,0,none⟩),.pointer (some ⟨S,0,none⟩),.pointer (some ⟨V,0,none⟩),.pointer (some ⟨Y,0,none⟩)]]→Blk w Y 3 #[.int .i64 nx]→i<n→s.length=n →
  visF (Z.map SV.p) f i s nx=(ok,s',nx') →
  Calls Tryz.prog 173 #[.int .i64 i,.pointer (some ⟨M,0,none⟩),.pointer (some ⟨S,0,none⟩),.pointer (some ⟨V,0,none⟩),.pointer (some ⟨Y,0,none⟩)] w fun e w'=>e=.returned (.bool ok)∧VisOk w' g Y s' nx' ok∧Touch (fun x=>x=g∨x=Y) w w'
theorem gvisit_any (Z:List SV) (base:Int) (A:Option Addr) (n c M S V Y g:Nat) (hlt:∀ i,i<n→∀ a∈(Z.getD i svZero).arcs,a.2.2<i) (hn:n≤1000000) (hbg:bs≤g) (hbY:bs≤Y):∀ f,VisG Z base A n c M S V Y g f
 | 0=>by
  intro w i s s' nx nx' ok h
  omega
 | f+1=>by
  intro w i s s' nx nx' ok hif hnx hM hst hS hg hV hY hi hsl hvis
  have ih:=gvisit_any Z base A n c M S V Y g hlt hn hbg hbY f
  obtain ⟨b,o,hA,hb,c0,c1,c2⟩:=state_at hst.rd.rd hst.len i hi
  have hzm:=getD_mem Z svZero i (by rw [hst.len];exact hi)
  have hlz:=hlt i hi
  have hel:=hst.el _ hzm
  have hsg:((Z.map SV.p).getD i noSt).arcs=(Z.getD i svZero).arcs:=by
   simp [List.getD,hst.len,hi,SV.p]
  subst hA
  simp only [visF] at hvis
  rw [hsg] at hvis
  obtain ⟨⟨fin,out,aA,q,ac,arcs⟩,hz⟩:∃ z,Z.getD i svZero=z:=⟨_,rfl⟩
  rw [hz] at c0 c1 c2 hlz hel hvis
  simp only at c0 c1 c2 hlz hvis
  obtain ⟨alen,ard,ale,amx⟩:=hel
  simp only at alen ard ale amx
  have hqm:q≤maxLen:=Nat.le_trans ale amx
  obtain ⟨m0,m1,m2⟩:=hM.facts
  have HM:=hide hM
  have HST:=hide hst
  have HS:=hide hS
  have HG:=hide hg
  have HV:=hide hV
  have HY:=hide hY
  have HSL:=hide hsl
  have HLZ:=hide hlz
  have HAL:=hide alen
  have HRD:=hide ard
  have HVIS:=hide hvis
  have HIH:=hide ih
  have HZM:Hid (∀ wr,Touch (fun x=>x=g∨x=Y) w wr→Blk wr M 89 #[.int .i64 base,.slice (some ⟨b,o,none⟩) n c]∧StsOd wr (some ⟨b,o,none⟩) n Z∧Blk wr S 282 #[.slice (some ⟨g,0,none⟩) n n]∧Blk wr V 276 #[.func (.func 173) #[] #[.pointer (some ⟨M,0,none⟩),.pointer (some ⟨S,0,none⟩),.pointer (some ⟨V,0,none⟩),.pointer (some ⟨Y,0,none⟩)]]∧RdO wr 173 3 aA q (aCells arcs)):=by
   intro wr T
   have hno:∀ t,t ≠ 4 → t ≠ 3 → ∀ x,OT w x t→¬ (x=g∨x=Y):=by
    intro t h1 h2 x hx hor
    rcases hor with e | e
    ·exact hx.ne (blk_ty hg) h1 hbg e
    ·exact hx.ne (blk_ty hY) h2 hbY e
   refine ⟨hM.touch T (hno _ (by decide) (by decide) _ (.inr (blk_ty hM))),⟨hst.rd.touch T (hno _ (by decide) (by decide)),hst.len,fun z hz=>(hst.el z hz).touch T (hno _ (by decide) (by decide))⟩,hS.touch T (hno _ (by decide) (by decide) _ (.inr (blk_ty hS))),hV.touch T (hno _ (by decide) (by decide) _ (.inr (blk_ty hV))),ard.touch T (hno _ (by decide) (by decide))⟩
  clear hM hst hS hg hV hY hsl hlz alen ard hvis ih hzm hsg hz hlt ale amx
  go_enter Tryz.func173,Tryz.ntmps173
  go_wp2_with fail
  go_loopw [16] (fun iv wr=>∃ (j:Nat) (sj:List Bool) (nj:Nat),iv=.int .i64 j∧j≤q∧sj.length=n∧nj≤1000000∧Hid (visArcs (visF (Z.map SV.p) f) arcs s nx=visArcs (visF (Z.map SV.p) f) (arcs.drop j) sj nj)∧Hid (Blk wr g 4 (bCells sj))∧Hid (Blk wr Y 3 #[.int .i64 nj])∧Hid (Touch (fun x=>x=g∨x=Y) w wr)) (fun iv _=>q-(intOf iv).toNat)
  case atStart=>exact ⟨0,s,nx,rfl,by omega,HSL.out,hnx,hide rfl,HG,HY,hide (Touch.refl _ _)⟩
  case round =>
   obtain ⟨j,sj,nj,rfl,hj,hsj,hnj,HE,HGj,HYj,HT⟩:=hrel
   obtain ⟨hMr,hSTr,hSr,hVr,hAr⟩:=HZM.out wr HT.out
   obtain ⟨p0,p1,p2⟩:=hSr.facts
   obtain ⟨v0,v1,v2⟩:=hVr.facts
   by_cases hjq:j<q
   ·have y1:(j:Int)<(q:Int):=by omega
    have y2:(0:Int)≤(j:Int):=by omega
    have z2:IntKind.i64.wrap ((j:Int)+1)=(j:Int)+1:=IntWalk.i64_in _ (by unfold maxLen at hqm;omega)
    obtain ⟨ag,ao,hA,hag,d0,d1,d2⟩:=arc_at hAr.rd HAL.out j hjq
    subst hA
    have hto:=HLZ.out _ (getD_mem arcs (0,0,0) j (by rw [HAL.out];exact hjq))
    have hdr:arcs.drop j=arcs.getD j (0,0,0) :: arcs.drop (j+1):=by
     rw [List.drop_eq_getElem_cons (by rw [HAL.out];exact hjq)]
     simp [List.getD,HAL.out,hjq]
    have he:=HE.out
    rw [hdr] at he
    obtain ⟨⟨la,ua,tt⟩,hz⟩:∃ z,arcs.getD j (0,0,0)=z:=⟨_,rfl⟩
    rw [hz] at d0 d1 d2 hto he
    simp only at d0 d1 d2 hto he
    simp only [visArcs] at he
    have hcs:wr.cell? ⟨g,tt,none⟩=some (.bool (sj.getD tt false)):=by
     rw [HGj.out.cell]
     exact bCells_get _ _ (by rw [hsj];omega)
    have hgl:=HGj.out.lt
    have y3:(0:Int)≤(tt:Int):=by omega
    have y4:(tt:Int)<(n:Int):=by omega
    clear hz hdr hMr hSTr hSr hVr hAr
    by_cases hseen:sj.getD tt false=true
    ·rw [if_pos hseen] at he
     rw [hseen] at hcs
     have HEE:=hide he
     clear he hseen
     go_wp2_with fail
     go_roundw
     ·exact ⟨j+1,sj,nj,by simp,by omega,hsj,hnj,hide HEE.out,hide (HGj.out.alloc _),hide (HYj.out.alloc _),hide (HT.out.alloc _)⟩
     ·simp only [intOf];omega
    ·rw [if_neg hseen] at he
     have hsf:sj.getD tt false=false:=by simpa using hseen
     rw [hsf] at hcs
     obtain ⟨⟨okv,s1,n1⟩,hvf⟩:∃ r,visF (Z.map SV.p) f tt sj nj=r:=⟨_,rfl⟩
     rw [hvf] at he
     have hs1:s1.length=n:=by
      have:=visF_len (Z.map SV.p) f tt sj nj
      rw [hvf] at this
      simp only at this
      omega
     obtain ⟨u,hu⟩:∃ u,u=wr.alloc (.cells #[.int .i32 la,.int .i64 ua,.int .i64 tt] 173):=⟨_,rfl⟩
     have hTu:Touch (fun x=>x=g∨x=Y) w u:=by rw [hu];exact HT.out.alloc _
     have hTu2:Touch (fun _=>False) wr u:=by rw [hu];exact (Touch.refl _ _).alloc _
     obtain ⟨k1,k2,k3,k4,_⟩:=HZM.out u hTu
     have hcall:=HIH.out u tt sj s1 nj n1 okv (by omega) hnj k1 k2 k3 (HGj.out.touch hTu2 (fun f=>f)) k4 (HYj.out.touch hTu2 (fun f=>f)) (by omega) hsj hvf
     have HU:=hide hu
     have HTU:=hide hTu
     have HCALL:=hide hcall
     cases okv with
     | false =>
      simp only at he
      have hv:=HVIS.out
      rw [he] at hv
      simp only [Prod.mk.injEq] at hv
      obtain ⟨hv,_⟩:=hv
      subst hv
      clear he hseen hsf hu hTu hTu2 k1 k2 k3 k4 hcall hvf
      go_wp2_with ((go_at_call 173;rw [← HU.out];refine (HCALL.out).mono ?_;rintro e v2 ⟨rfl,_,T2⟩;have HT2:=hide (HTU.out.then T2);clear T2))
      go_ret
      exact ⟨rfl,VisOk.no,HT2.out⟩
     | true =>
      simp only at he
      have HEE:=hide he
      have hn1:=visF_next hvf
      clear he hseen hsf hu hTu hTu2 k1 k2 k3 k4 hcall hvf
      go_wp2_with ((go_at_call 173;rw [← HU.out];refine (HCALL.out).mono ?_;rintro e v2 ⟨rfl,hvo,T2⟩;have hgy:=hvo.yes rfl;have HG2:=hide hgy.1;have HY2:=hide hgy.2;have HT2:=hide (HTU.out.then T2);clear hvo hgy T2))
      go_roundw
      ·exact ⟨j+1,s1,n1,by simp,by omega,hs1,by omega,HEE,HG2,HY2,HT2⟩
      ·simp only [intOf];omega
   ·have hjq2:j=q:=by omega
    subst hjq2
    have he:=HE.out
    rw [show arcs.drop j=[] from List.drop_eq_nil_of_le (by rw [HAL.out];exact Nat.le_refl _)] at he
    simp only [visArcs] at he
    have hv:=HVIS.out
    rw [he] at hv
    simp only [Prod.mk.injEq] at hv
    obtain ⟨h1,h2,h3⟩:=hv
    have hcs:wr.cell? ⟨g,i,none⟩=some (.bool (sj.getD i false)):=by
     rw [HGj.out.cell]
     exact bCells_get _ _ (by rw [hsj];exact hi)
    have hgl:=HGj.out.lt
    have hgf:=HGj.out.frozen i
    obtain ⟨r0,r1,r2⟩:=HYj.out.facts
    have z2:IntKind.i64.wrap ((i:Int)+1)=(i:Int)+1:=IntWalk.i64_in _ (by omega)
    have hgY:¬ g=Y:=HGj.out.ne_ HYj.out (by decide)
    have hYg:¬ Y=g:=fun e=>hgY e.symm
    have hYS:¬ Y=S:=HYj.out.ne_ hSr (by decide)
    have hgS:¬ g=S:=HGj.out.ne_ hSr (by decide)
    have y3:(0:Int)≤(i:Int):=by omega
    have y4:(i:Int)<(n:Int):=by omega
    have y5:(0:Int)≤(nj:Int):=by omega
    have H1:=hide h1
    have H2:=hide h2
    have H3:=hide h3
    have hfin:VisOk (((wr.setCell ⟨g,i,none⟩ (.bool true)).setCell ⟨Y,0,none⟩ (.int .i64 ((nj:Int)+1)))) g Y s' nx' ok∧Touch (fun x=>x=g∨x=Y) w ((wr.setCell ⟨g,i,none⟩ (.bool true)).setCell ⟨Y,0,none⟩ (.int .i64 ((nj:Int)+1))):=by
     refine ⟨⟨fun _=>⟨?_,?_⟩⟩,(HT.out.setCell (fun _=>.inl rfl) _).setCell (fun _=>.inr rfl) _⟩
     ·rw [← H2.out,← bCells_set]
      exact (HGj.out.set_ _ _).far hgY _
     ·have:=((HYj.out.far hYg (p:=⟨g,i,none⟩) (.bool true)).set_ 0 (.int .i64 ((nj:Int)+1)))
      rw [← H3.out]
      simpa using this
    have HFIN:=hide hfin
    have z3:IntKind.i64.wrap ((nj:Int)+1)=(nj:Int)+1:=IntWalk.i64_in _ (by omega)
    have hok:(((nj:Int)+1) == ((i:Int)+1))=ok:=by
     rw [← h1,Bool.eq_iff_iff]
     simp
     omega
    clear he h1 h2 h3 hMr hSTr hSr hVr hAr hfin
    go_wp2_with fail
    go_ret
    refine ⟨?_,HFIN.out.1,HFIN.out.2⟩
    rw [← H1.out]
    simp
theorem gnumbered_any (w:World) (base:Int) (A:Option Addr) (n c:Nat) (Z:List SV) (hst:StsOd w A n Z) (hlt:∀ i,i<n→∀ a∈(Z.getD i svZero).arcs,a.2.2<i) (hn0:0<n) (hn:n≤1000000) (hbs:bs≤w.heap.size) :
  Calls Tryz.prog 142 #[.agg #[.int .i64 base,.slice A n c]] w fun e w'=>BoolIff (∃ s',visF (Z.map SV.p) n (n-1) (List.replicate n false) 0=(true,s',n)) e∧Touch (fun _=>False) w w':=by
 obtain ⟨⟨ok,s',nx'⟩,hvis⟩:∃ r,visF (Z.map SV.p) n (n-1) (List.replicate n false) 0=r:=⟨_,rfl⟩
 have hiff:ok=true↔∃ s',visF (Z.map SV.p) n (n-1) (List.replicate n false) 0=(true,s',n):=by
  rw [hvis]
  constructor
  ·rintro rfl
   have h1:=visF_next hvis
   exact ⟨s',by rw [h1,show n-1+1=n by omega]⟩
  ·rintro ⟨s2,h⟩
   simp only [Prod.mk.injEq] at h
   exact h.1
 obtain ⟨Q,hQ⟩:∃ Q:Prop,(∃ s',visF (Z.map SV.p) n (n-1) (List.replicate n false) 0=(true,s',n))=Q:=⟨_,rfl⟩
 rw [hQ] at hiff ⊢
 have HIFF:=hide hiff
 clear hQ hiff
 obtain ⟨i0,hi,hz0,hz1,hz2⟩:=info_parts infoBool
 have HST:=hide hst
 have HV:=hide hvis
 have hmf:∀ (fn:Fn) (first cap:Array Value) (w:World),(Instr.makeFunc fn first cap).run Tryz.prog w=.ok (.func fn first cap) w:=fun _ _ _ _=>rfl
 have z1:IntKind.i64.wrap ((n:Int)-1)=(n:Int)-1:=IntWalk.i64_in _ (by omega)
 clear hst hvis
 go_enter Tryz.func142,Tryz.ntmps142
 go_wp2_with (refine wpList_make_full _ rfl (.tmp 8) (.tmp 8) 282 rfl 0 4 i0 _ 1 Tryz.underlying282 hi hz0 hz1 .i64 .i64 (n:Int) (n:Int) n rfl rfl rfl rfl ?b2 ?b3 (Nat.zero_le _) ?_)
 case b2=>rw [hz2];omega
 case b3=>unfold maxLen;omega
 intro w1 O1 G1
 have hmc:(madeCells #[Value.bool false] n).toList=(List.replicate n false).map .bool:=by
  unfold madeCells
  apply List.ext_getElem
  ·simp
  ·intro i h1 h2
   simp [Nat.mod_one]
 rw [hmc] at O1
 obtain ⟨M,hM⟩:∃ M,M=w.heap.size:=⟨_,rfl⟩
 obtain ⟨Y,hY⟩:∃ Y,Y=w.heap.size+1:=⟨_,rfl⟩
 obtain ⟨g,hg⟩:∃ g,g=w.heap.size+1+1:=⟨_,rfl⟩
 have hbM:Blk w1 M 89 #[.int .i64 base,.slice A n c]:=by
  rw [hM]
  exact ((Blk.new _ _ _).alloc _).grown G1 (by simp)
 have hbY:Blk w1 Y 3 #[.int .i64 ((0:Nat):Int)]:=by
  rw [hY]
  exact (blk_new1 _ _ _ _).grown G1 (by simp)
 rw [← hg] at O1
 have hbg:Blk w1 g 4 (bCells (List.replicate n false)):=own_full O1
 have hT1:Touch (fun _=>False) w w1:=(((Touch.refl _ _).alloc _).alloc _).grown G1 (fun k h=>by cases h)
 rw [← hg,← hY,← hM]
 have HBM:=hide hbM
 have HBY:=hide hbY
 have HBG:=hide hbg
 have HT1:=hide hT1
 have HM:=hide hM
 have HY:=hide hY
 have HG:=hide hg
 obtain ⟨q1,q2,q3⟩:=hbM.facts
 obtain ⟨r1,r2,r3⟩:=hbY.facts
 clear O1 G1 hmc hM hY hg hbM hbY hbg hT1
 obtain ⟨u1,hu1⟩:∃ x,x=(w1.alloc (.cells #[.slice (some ⟨g,0,none⟩) n n] 282)).alloc (.cells #[.func (.func 173) #[] #[.pointer (some ⟨M,0,none⟩),.pointer (some ⟨w1.heap.size,0,none⟩),.pointer (some ⟨w1.heap.size+1,0,none⟩),.pointer (some ⟨Y,0,none⟩)]] 276):=⟨_,rfl⟩
 have hTu:Touch (fun _=>False) w1 u1:=by rw [hu1];exact ((Touch.refl _ _).alloc _).alloc _
 have hbS:Blk u1 w1.heap.size 282 #[.slice (some ⟨g,0,none⟩) n n]:=by rw [hu1];exact (Blk.new _ _ _).alloc _
 have hbV:Blk u1 (w1.heap.size+1) 276 #[.func (.func 173) #[] #[.pointer (some ⟨M,0,none⟩),.pointer (some ⟨w1.heap.size,0,none⟩),.pointer (some ⟨w1.heap.size+1,0,none⟩),.pointer (some ⟨Y,0,none⟩)]]:=by rw [hu1];exact blk_new1 _ _ _ _
 have hb1M:=HBM.out.touch hTu (fun f=>f)
 have hb1Y:=HBY.out.touch hTu (fun f=>f)
 have hb1g:=HBG.out.touch hTu (fun f=>f)
 have hst1:=(HST.out.quiet HT1.out).quiet hTu
 have hcall:=gvisit_any Z base A n c M w1.heap.size (w1.heap.size+1) Y g hlt hn (by have:=HG.out;omega) (by have:=HY.out;omega) n u1 (n-1) (List.replicate n false) s' 0 nx' ok (by omega) (by omega) hb1M hst1 hbS hb1g hbV hb1Y (by omega) (by simp) HV.out
 rw [show (((n-1:Nat):Int))=(n:Int)-1 by omega] at hcall
 have hgY:¬ M=g:=hb1M.ne_ hb1g (by decide)
 have hgY2:¬ M=Y:=hb1M.ne_ hb1Y (by decide)
 have HU1:=hide hu1
 have HCALL:=hide hcall
 have HTT:=hide (HT1.out.then hTu)
 have HB1M:=hide hb1M
 have HN:=hide (fun h=>h.elim hgY hgY2:¬ (M=g∨M=Y))
 clear hTu hbS hbV hu1 hb1M hb1Y hb1g hst1 hcall hgY hgY2
 cases ok with
 | false =>
  go_wp2_with ((go_at_call 173;rw [← HU1.out];refine (HCALL.out).mono ?_;rintro e v2 ⟨rfl,_,T2⟩;have HT2:=hide T2;clear T2))
  go_ret
  refine ⟨.mk false HIFF.out,HTT.out.trans HT2.out fun i hi e=>?_⟩
  have h1:=HG.out
  have h2:=HY.out
  omega
 | true =>
  have hnx:=visF_next HV.out
  have hnn:nx'=n:=by omega
  subst hnn
  clear hnx
  go_wp2_with ((go_at_call 173;rw [← HU1.out];refine (HCALL.out).mono ?_;rintro e v2 ⟨rfl,hvo,T2⟩;have HT2:=hide T2;have hgy:=hvo.yes rfl;obtain ⟨k1,k2,k3⟩:=hgy.2.facts;obtain ⟨l1,l2,l3⟩:=(HB1M.out.touch T2 HN.out).facts;clear hgy hvo T2))
  go_ret
  refine ⟨.mk true ⟨fun _=>HIFF.out.1 (by simp),fun _=>rfl⟩,HTT.out.trans HT2.out fun i hi e=>?_⟩
  have h1:=HG.out
  have h2:=HY.out
  omega
end Go.Proofs.YthockgmbooefpaaGreatDoor
