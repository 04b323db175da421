/- What the law rests on, part 8. No condition but those that each theorem names. -/
import Derived.Test.YthockgmbooefpaaGreatDoorJ07
import Derived.StillTailTactics
set_option linter.unusedSectionVars false
set_option linter.unusedSimpArgs false
set_option linter.unusedVariables false
namespace Go.Proofs.YthockgmbooefpaaGreatDoor
open Go.RowKit
theorem eq_of_getD {α:Type} {l m:List α} (d:α) (hl:l.length=m.length) (h:∀ j,j<l.length→l.getD j d=m.getD j d):l=m:=by
 apply List.ext_getElem hl
 intro i h1 h2
 have:=h i h1
 simpa [List.getD,h1,h2] using this
set_option maxRecDepth 100000 in
set_option maxHeartbeats 1000000 in
theorem samerunes_any (w:World) (A:Option Addr) (q c:Nat) (O:List Nat) (B:Option Addr) (r e:Nat) (U:List Nat) (hA:Reads w 1 A q (O.map runeV)) (hO:O.length=q) (hB:Reads w 1 B r (U.map runeV)) (hU:U.length=r) (hq:q≤maxLen) (v:Bool) (hv:decide (O=U)=v) :
  Calls Tryz.prog 190 #[.slice A q c,.slice B r e] w fun x w'=>x=.returned (.bool v)∧Touch (fun _=>False) w w':=by
 have HA:=hide hA
 have HO:=hide hO
 have HB:=hide hB
 have HU:=hide hU
 clear hA hO hB hU
 unfold maxLen at hq
 by_cases hqr:q=r
 ·subst hqr
  have HV:=hide hv
  clear hv
  go_enter Tryz.func190,Tryz.ntmps190
  go_wp2_with fail
  go_loopw [5] (fun iv wr=>∃ (i:Nat),iv=.int .i64 i∧i≤q∧Hid (∀ j,j<i→O.getD j 0=U.getD j 0)∧Hid (Touch (fun _=>False) w wr)) (fun iv _=>q-(intOf iv).toNat)
  case atStart=>exact ⟨0,rfl,by omega,hide (fun j hj=>by omega),hide (Touch.refl _ _)⟩
  case round =>
   obtain ⟨i,rfl,hi,HE,HT⟩:=hrel
   by_cases hin:i<q
   ·have y1:(i:Int)<(q:Int):=by omega
    have y2:(0:Int)≤(i:Int):=by omega
    obtain ⟨g,o,hA,a0⟩:=rune_at (HA.out.touch HT.out (fun _ _ f=>f)) HO.out i hin
    subst hA
    obtain ⟨g',o',hB,b0⟩:=rune_at (HB.out.touch HT.out (fun _ _ f=>f)) HU.out i hin
    subst hB
    obtain ⟨x,hx⟩:∃ x,O.getD i 0=x:=⟨_,rfl⟩
    obtain ⟨y,hy⟩:∃ y,U.getD i 0=y:=⟨_,rfl⟩
    rw [hx] at a0
    rw [hy] at b0
    have HX:=hide (And.intro hx hy)
    clear hx hy
    by_cases hxy:x=y
    ·have w1:((x:Int) != (y:Int))=false:=by simp [hxy]
     have HXY:=hide hxy
     go_wp2_with fail
     go_quiet (fail)
     go_wp2_with fail
     go_roundw
     ·exact ⟨i+1,by simp,by omega,hide (fun j hj=>by
       by_cases hj2:j=i
       ·subst hj2;rw [HX.out.1,HX.out.2,HXY.out]
       ·exact HE.out j (by omega)),hide (HT.out.drewN _)⟩
     ·show q-(intOf (.int .i64 ((i:Int)+1))).toNat<q-(intOf (.int .i64 (i:Int))).toNat
      simp [intOf]
      omega
    ·have w1:((x:Int) != (y:Int))=true:=by simp;omega
     have hne:O≠U:=fun e=>hxy (by rw [← HX.out.1,← HX.out.2,e])
     have hvv:v=false:=by rw [← HV.out];exact decide_eq_false hne
     subst hvv
     clear hne
     go_wp2_with fail
     go_quiet (fail)
     go_wp2_with fail
     go_ret
     exact ⟨rfl,HT.out.drewN _⟩
   ·have hall:O=U:=eq_of_getD 0 (by rw [HO.out,HU.out]) fun j hj=>HE.out j (by rw [HO.out] at hj;omega)
    have hvv:v=true:=by rw [← HV.out];exact decide_eq_true hall
    have y1:¬ (i:Int)<(q:Int):=by omega
    subst hvv
    clear hall
    go_wp2_with fail
    go_ret
    exact ⟨rfl,HT.out⟩
 ·have w1:((q:Int) != (r:Int))=true:=by simp;omega
  have hne:O≠U:=fun e=>hqr (by rw [← HO.out,← HU.out,e])
  have hvv:v=false:=by rw [← hv];exact decide_eq_false hne
  subst hvv
  clear hv hne
  go_enter Tryz.func190,Tryz.ntmps190
  go_wp2_with fail
  go_ret
  exact ⟨rfl,Touch.refl _ _⟩
set_option maxRecDepth 100000 in
set_option maxHeartbeats 2000000 in
theorem same_any (w:World) (s t:RL) (hs:s.Ok w) (ht:t.Ok w) (hm:s.n≤maxLen) (v:Bool) (hv:decide (s.p=t.p)=v) :
  Calls Tryz.prog 184 #[s.val,t.val] w fun x w'=>x=.returned (.bool v)∧Touch (fun _=>False) w w':=by
 obtain ⟨A,q,c,V⟩:=s
 obtain ⟨B,r,e,U⟩:=t
 have HA:=hide hs.rd.rd
 have HO:=hide hs.len
 have HB:=hide ht.rd.rd
 have HU:=hide ht.len
 have HEA:=hide hs.el
 have HEB:=hide ht.el
 simp only [RL.val]
 simp only [RL.p] at hv
 simp only at HA HO HB HU HEA HEB hm
 clear hs ht
 unfold maxLen at hm
 by_cases hqr:q=r
 ·subst hqr
  have HV:=hide hv
  clear hv
  go_enter Tryz.func184,Tryz.ntmps184
  go_wp2_with fail
  go_loopw [5] (fun iv wr=>∃ (i:Nat),iv=.int .i64 i∧i≤q∧Hid (∀ j,j<i→(V.map RV.p).getD j RV.zero.p=(U.map RV.p).getD j RV.zero.p)∧Hid (Touch (fun _=>False) w wr)) (fun iv _=>q-(intOf iv).toNat)
  case atStart=>exact ⟨0,rfl,by omega,hide (fun j hj=>by omega),hide (Touch.refl _ _)⟩
  case round =>
   obtain ⟨i,rfl,hi,HE,HT⟩:=hrel
   by_cases hin:i<q
   ·have y1:(i:Int)<(q:Int):=by omega
    have y2:(0:Int)≤(i:Int):=by omega
    have gA:∀ w',Touch (fun _=>False) w w'→∃ g off,A=some ⟨g,off,none⟩∧g<w'.heap.size∧w'.cell? ⟨g,off+i*2,none⟩=some (.slice (V.getD i RV.zero).A (V.getD i RV.zero).q (V.getD i RV.zero).c)∧w'.cell? ⟨g,off+i*2+1,none⟩=some (.int .i64 (V.getD i RV.zero).wt):=fun w' T=>rest_at (HA.out.touch T (fun _ _ f=>f)) HO.out i hin
    have gB:∀ w',Touch (fun _=>False) w w'→∃ g off,B=some ⟨g,off,none⟩∧g<w'.heap.size∧w'.cell? ⟨g,off+i*2,none⟩=some (.slice (U.getD i RV.zero).A (U.getD i RV.zero).q (U.getD i RV.zero).c)∧w'.cell? ⟨g,off+i*2+1,none⟩=some (.int .i64 (U.getD i RV.zero).wt):=fun w' T=>rest_at (HB.out.touch T (fun _ _ f=>f)) HU.out i hin
    have ea:=(HEA.out _ (getD_mem V RV.zero i (by rw [HO.out];exact hin))).touch HT.out (fun _ _ f=>f)
    have eb:=(HEB.out _ (getD_mem U RV.zero i (by rw [HU.out];exact hin))).touch HT.out (fun _ _ f=>f)
    have pa:(V.map RV.p).getD i RV.zero.p=(V.getD i RV.zero).p:=by simp [List.getD,show i<V.length by rw [HO.out];exact hin]
    have pb:(U.map RV.p).getD i RV.zero.p=(U.getD i RV.zero).p:=by simp [List.getD,show i<U.length by rw [HU.out];exact hin]
    obtain ⟨⟨xA,xq,xc,xO,xw⟩,hx⟩:∃ r,V.getD i RV.zero=r:=⟨_,rfl⟩
    obtain ⟨⟨zA,zq,zc,zO,zw⟩,hz⟩:∃ r,U.getD i RV.zero=r:=⟨_,rfl⟩
    rw [hx] at gA ea pa
    rw [hz] at gB eb pb
    simp only [RV.p] at gA ea pa gB eb pb
    have HPA:=hide pa
    have HPB:=hide pb
    have HGA:=hide gA
    have HGB:=hide gB
    have hxm:=Nat.le_trans ea.le ea.mx
    simp only at hxm
    have HSR:=hide (fun (wd:World) (T:Touch (fun _=>False) wr wd) v hv=>samerunes_any wd xA xq xc xO zA zq zc zO (ea.rd.rd.touch T (fun _ _ f=>f)) ea.len (eb.rd.rd.touch T (fun _ _ f=>f)) eb.len hxm v hv)
    obtain ⟨g,o,hgA,hgl,a0,a1⟩:=gA wr HT.out
    subst hgA
    obtain ⟨g',o',hgB,hgl',b0,b1⟩:=gB wr HT.out
    subst hgB
    have HC:=hide (And.intro a1 (And.intro b1 (And.intro hgl hgl')))
    clear pa pb gA gB hx hz ea eb hgl hgl' a1 b1
    by_cases hrr:xO=zO
    ·go_wp2_with fail
     go_still_tail 10,(by kernel_rfl)
     change wpList _ _ _ _ _ wr.drew
     have hTd:Touch (fun _=>False) wr wr.drew:=(Touch.refl _ _).drew
     generalize wr.drew=wd at hTd ⊢
     have HTD:=hide hTd
     clear hTd
     go_wp2_with fail
     refine (HSR.out wd HTD.out true (decide_eq_true hrr)).mono ?_
     rintro x w2 ⟨rfl,T2'⟩
     have T2:=HTD.out.then T2'
     clear T2'
     have HT2:=hide (HT.out.then T2)
     have c1:=(T2.cell (a:=⟨g,o+i*2+1,none⟩) HC.out.2.2.1 (fun f=>f)).trans HC.out.1
     have c2:=(T2.cell (a:=⟨g',o'+i*2+1,none⟩) HC.out.2.2.2 (fun f=>f)).trans HC.out.2.1
     have HRR:=hide hrr
     clear T2 hrr
     by_cases hww:xw=zw
     ·have w1:(xw != zw)=false:=by simp [hww]
      have HWW:=hide hww
      go_wp2_with fail
      go_quiet (fail)
      go_wp2_with fail
      go_roundw
      ·exact ⟨i+1,by simp,by omega,hide (fun j hj=>by
        by_cases hj2:j=i
        ·subst hj2;exact HPA.out.trans ((by rw [HRR.out,HWW.out]:(xO,xw)=(zO,zw)).trans HPB.out.symm)
        ·exact HE.out j (by omega)),hide (HT2.out.drewN _)⟩
      ·show q-(intOf (.int .i64 ((i:Int)+1))).toNat<q-(intOf (.int .i64 (i:Int))).toNat
       simp [intOf]
       omega
     ·have w1:(xw != zw)=true:=by simp [hww]
      have hne:V.map RV.p≠U.map RV.p:=fun e=>hww (by
       have:=HPA.out
       rw [e,HPB.out] at this
       injection this with _ this
       exact this.symm)
      have hvv:v=false:=by rw [← HV.out];exact decide_eq_false hne
      subst hvv
      clear hne
      go_wp2_with fail
      go_quiet (fail)
      go_wp2_with fail
      go_ret
      exact ⟨rfl,HT2.out.drewN _⟩
    ·have hne:V.map RV.p≠U.map RV.p:=fun e=>hrr (by
      have:=HPA.out
      rw [e,HPB.out] at this
      injection this with this _
      exact this.symm)
     have hvv:v=false:=by rw [← HV.out];exact decide_eq_false hne
     subst hvv
     clear hne
     go_wp2_with fail
     go_still_tail 10,(by kernel_rfl)
     change wpList _ _ _ _ _ wr.drew
     have hTd:Touch (fun _=>False) wr wr.drew:=(Touch.refl _ _).drew
     generalize wr.drew=wd at hTd ⊢
     have HTD:=hide hTd
     clear hTd
     go_wp2_with fail
     refine (HSR.out wd HTD.out false (decide_eq_false hrr)).mono ?_
     rintro x w2 ⟨rfl,T2'⟩
     have T2:=HTD.out.then T2'
     clear T2'
     have HT2:=hide (HT.out.then T2)
     clear T2 hrr
     go_wp2_with fail
     refine wp_region_quiet_lit (by kernel_rfl) (by kernel_rfl) ?_
     quiet_step (fail)
     quiet_step (fail)
     quiet_step (fail)
     rw [wpQuiet_skip]
     rotate_left;· kernel_rfl
     go_simp
     rw [wpQuiet_skip]
     rotate_left;· kernel_rfl
     go_simp
     rw [wpQuiet_skip]
     rotate_left;· kernel_rfl
     go_simp
     rw [wpQuiet_skip]
     rotate_left;· kernel_rfl
     go_simp
     rw [wpQuiet_skip]
     rotate_left;· kernel_rfl
     go_simp
     rw [wpQuiet_skip]
     rotate_left;· kernel_rfl
     go_simp
     rw [wpQuiet_skip]
     rotate_left;· kernel_rfl
     go_simp
     rw [wpQuiet_skip]
     rotate_left;· kernel_rfl
     go_simp
     rw [wpQuiet_skip]
     rotate_left;· kernel_rfl
     go_simp
     rw [wpQuiet_skip]
     rotate_left;· kernel_rfl
     go_simp
     rw [wpQuiet_skip]
     rotate_left;· kernel_rfl
     go_simp
     quiet_step (fail)
     refine wpQuiet_nil ?_
     intro nq
     go_wp2_with fail
     go_ret
     exact ⟨rfl,HT2.out.drewN _⟩
   ·have hall:V.map RV.p=U.map RV.p:=eq_of_getD RV.zero.p (by rw [List.length_map,List.length_map,HO.out,HU.out]) fun j hj=>HE.out j (by rw [List.length_map,HO.out] at hj;omega)
    have hvv:v=true:=by rw [← HV.out];exact decide_eq_true hall
    have y1:¬ (i:Int)<(q:Int):=by omega
    subst hvv
    clear hall
    go_wp2_with fail
    go_ret
    exact ⟨rfl,HT.out⟩
 ·have w1:((q:Int) != (r:Int))=true:=by simp;omega
  have hne:V.map RV.p≠U.map RV.p:=fun e=>hqr (by have:=congrArg List.length e;rw [List.length_map,List.length_map,HO.out,HU.out] at this;exact this)
  have hvv:v=false:=by rw [← hv];exact decide_eq_false hne
  subst hvv
  clear hv hne
  go_enter Tryz.func184,Tryz.ntmps184
  go_wp2_with fail
  go_ret
  exact ⟨rfl,Touch.refl _ _⟩
def inZ:Option Nat→Int
 | some i=>(i:Int)
 | none=>-1
theorem vals_at {w:World} {A:Option Addr} {n:Nat} {X:List RL} (h:Reads w 1 A n (X.map RL.val)) (hn:X.length=n) (k:Nat) (hk:k<n) :
  ∃ g off,A=some ⟨g,off,none⟩∧g<w.heap.size∧w.cell? ⟨g,off+k,none⟩=some (X.getD k ⟨none,0,0,[]⟩).val:=by
 obtain ⟨b,off,hA,hb,hc⟩:=h.2 (by omega)
 refine ⟨b,off,hA,hb,hc k _ ?_⟩
 simp [List.getD,show k<X.length by omega]
set_option maxRecDepth 100000 in
set_option maxHeartbeats 1000000 in
theorem in_any (w:World) (A:Option Addr) (n c:Nat) (X:List RL) (hR:Reads w 1 A n (X.map RL.val)) (hX:X.length=n) (hE:∀ s∈X,s.Ok w∧s.n≤maxLen) (t:RL) (ht:t.Ok w) (hn:n≤maxLen) :
  Calls Tryz.prog 165 #[.slice A n c,t.val] w fun x w'=>x=.returned (.int .i64 (inZ (idxR (X.map RL.p) t.p)))∧Touch (fun _=>False) w w':=by
 have HR:=hide hR
 have HX:=hide hX
 have HE:=hide hE
 have HT:=hide ht
 obtain ⟨z,hz⟩:∃ z:Int,inZ (idxR (X.map RL.p) t.p)=z:=⟨_,rfl⟩
 rw [hz]
 have HZ:=hide hz
 clear hR hX hE ht hz
 unfold maxLen at hn
 obtain ⟨tA,tn,tc,tV⟩:=t
 simp only [RL.val]
 go_enter Tryz.func165,Tryz.ntmps165
 go_wp2_with fail
 go_loopw [5] (fun iv wr=>∃ (i:Nat),iv=.int .i64 i∧i≤n∧Hid (∀ j,j<i→(X.getD j ⟨none,0,0,[]⟩).p≠RL.p ⟨tA,tn,tc,tV⟩)∧Hid (Touch (fun _=>False) w wr)) (fun iv _=>n-(intOf iv).toNat)
 case atStart=>exact ⟨0,rfl,by omega,hide (fun j hj=>by omega),hide (Touch.refl _ _)⟩
 case round =>
  obtain ⟨i,rfl,hi,HN,HTT⟩:=hrel
  by_cases hin:i<n
  ·have y1:(i:Int)<(n:Int):=by omega
   have y2:(0:Int)≤(i:Int):=by omega
   obtain ⟨g,o,hA,_,a0⟩:=vals_at (HR.out.touch HTT.out (fun _ _ f=>f)) HX.out i hin
   subst hA
   have hel:=HE.out _ (getD_mem X ⟨none,0,0,[]⟩ i (by rw [HX.out];exact hin))
   obtain ⟨⟨xA,xn,xc,xV⟩,hx⟩:∃ r,X.getD i ⟨none,0,0,[]⟩=r:=⟨_,rfl⟩
   rw [hx] at a0 hel
   simp only [RL.val] at a0
   have HSM:=hide (fun v hv=>same_any wr ⟨xA,xn,xc,xV⟩ ⟨tA,tn,tc,tV⟩ (hel.1.quiet HTT.out) (HT.out.quiet HTT.out) hel.2 v hv)
   have HXX:=hide hx
   simp only [RL.val] at HSM
   clear hel hx
   by_cases hp:RL.p ⟨xA,xn,xc,xV⟩=RL.p ⟨tA,tn,tc,tV⟩
   ·have hzi:z=(i:Int):=by
     rw [← HZ.out]
     have:idxR (X.map RL.p) (RL.p ⟨tA,tn,tc,tV⟩)=some i:=by
      unfold idxR
      rw [List.findIdx?_eq_some_iff_getElem]
      have hl:i<X.length:=by rw [HX.out];exact hin
      have hg:∀ j,j<X.length→X.getD j ⟨none,0,0,[]⟩=X.getD j ⟨none,0,0,[]⟩:=fun _ _=>rfl
      refine ⟨by rw [List.length_map];exact hl,?_,?_⟩
      ·rw [List.getElem_map]
       have e:X[i]=⟨xA,xn,xc,xV⟩:=by rw [← HXX.out];simp [List.getD,hl]
       rw [e]
       exact decide_eq_true hp
      ·intro j hj
       rw [List.getElem_map]
       have hjl:j<X.length:=by omega
       have e:X[j]=X.getD j ⟨none,0,0,[]⟩:=by simp [List.getD,hjl]
       rw [e]
       simpa using HN.out j hj
     exact congrArg inZ this
    subst hzi
    go_wp2_with fail
    refine (HSM.out true (decide_eq_true hp)).mono ?_
    rintro x w2 ⟨rfl,T2⟩
    have HT2:=hide (HTT.out.then T2)
    clear T2 hp
    go_wp2_with fail
    go_ret
    exact ⟨rfl,HT2.out⟩
   ·have HP:=hide hp
    go_wp2_with fail
    refine (HSM.out false (decide_eq_false hp)).mono ?_
    rintro x w2 ⟨rfl,T2⟩
    have HT2:=hide (HTT.out.then T2)
    clear T2 hp
    go_wp2_with fail
    go_roundw
    ·exact ⟨i+1,by simp,by omega,hide (fun j hj=>by
      by_cases hj2:j=i
      ·subst hj2;rw [HXX.out];exact HP.out
      ·exact HN.out j (by omega)),HT2⟩
    ·show n-(intOf (.int .i64 ((i:Int)+1))).toNat<n-(intOf (.int .i64 (i:Int))).toNat
     simp [intOf]
     omega
  ·have hzi:z = -1:=by
    rw [← HZ.out]
    have:idxR (X.map RL.p) (RL.p ⟨tA,tn,tc,tV⟩)=none:=by
     unfold idxR
     rw [List.findIdx?_eq_none_iff]
     intro y hy
     obtain ⟨s,hs,rfl⟩:=List.mem_map.1 hy
     obtain ⟨j,hj,rfl⟩:=List.getElem_of_mem hs
     have:=HN.out j (by rw [HX.out] at hj;omega)
     have e:X[j]=X.getD j ⟨none,0,0,[]⟩:=by simp [List.getD,hj]
     rw [e]
     simpa using this
    exact congrArg inZ this
   subst hzi
   have y1:¬ (i:Int)<(n:Int):=by omega
   go_wp2_with fail
   go_ret
   exact ⟨rfl,HTT.out⟩
end Go.Proofs.YthockgmbooefpaaGreatDoor
namespace Go.Proofs.YthockgmbooefpaaGreatDoor
open Go.RowKit
theorem touch_of_grown {w w':World} {row:Option Nat} (h:w.grownBy w' row):Touch (fun g=>row=some g) w w':=⟨h.os,h.tape,h.output,h.size,fun k hk hne=>h.block k hk (fun e=>hne e.symm)⟩
set_option maxRecDepth 100000 in
set_option maxHeartbeats 1000000 in
theorem rests_any (w:World) (s:SL) (hs:s.Ok w) (hD:DictP s.L) (hWf:∀ r∈s.L,r.word.size≤1099511627776) :
  Calls Tryz.prog 126 #[s.val] w fun e w'=>∃ s':RL,e=.returned s'.val∧s'.Ok w'∧s'.p=restsL s.L∧s'.n=s.n∧s'.Bd∧Touch (fun _=>False) w w':=by
 obtain ⟨i0,hi,hz0,hz1,hz2⟩:=info_parts infoRest
 obtain ⟨A,n,c,L⟩:=s
 have HR:=hide hs.reads
 have HLN:=hide hs.len
 have HD:=hide hD
 have HWF:=hide hWf
 simp only [SL.val]
 simp only at HR HLN HD HWF
 have hm:n≤4096:=by have h1:=hD.len;have h2:=hs.len;simp only at h1 h2;omega
 clear hs hD hWf
 go_enter Tryz.func126,Tryz.ntmps126
 go_wp2_with fail
 go_loopw [3,4] (fun ov iv wr=>∃ (i:Nat) (A3:Option Addr) (c3:Nat) (V:List RV),ov=.slice A3 i c3∧iv=.int .i64 i∧i≤n∧Hid (ONx 236 2 w wr (.slice A3 i c3) i (rCells V)∧V.length=i)∧Hid ((∀ r∈V,r.Ok wr)∧V.map RV.p=(restsL L).take i)) (fun _ iv _=>n-(intOf iv).toNat)
 case atStart=>exact ⟨0,none,0,[],rfl,rfl,by omega,hide ⟨ONx.nil _ _ _,rfl⟩,hide ⟨fun r hr=>(by cases hr),by simp⟩⟩
 case round =>
  obtain ⟨i,A3,c3,V,rfl,rfl,hi',HO,HV⟩:=hrel
  by_cases hin:i<n
  ·have y1:(i:Int)<(n:Int):=by omega
   have y2:(0:Int)≤(i:Int):=by omega
   have gP:∀ w',Touch (fun _=>False) w w'→∃ g off,A=some ⟨g,off,none⟩∧g<w'.heap.size∧w'.cell? ⟨g,off+i*2,none⟩=some (.string (L.getD i PRow.zero).word)∧w'.cell? ⟨g,off+i*2+1,none⟩=some (.int .i64 (L.getD i PRow.zero).weight):=fun w' T=>preads_at (HR.out.touch T (fun _ _ f=>f)) HLN.out.symm i hin
   have hmem:=pgetD_mem L i (by rw [HLN.out];exact hin)
   have hsn:=psnoc L i (by rw [HLN.out];exact hin)
   obtain ⟨⟨xw,xn⟩,hx⟩:∃ x,L.getD i PRow.zero=x:=⟨_,rfl⟩
   rw [hx] at hmem hsn
   simp only [hx] at gP
   have hwd:=HD.out.word _ hmem
   have hwf:=HWF.out _ hmem
   simp only at hwd hwf
   have htk:(restsL L).take (i+1)=(restsL L).take i++[(wordR ⟨xw,xn⟩,xn)]:=by
    unfold restsL
    rw [← List.map_take,← List.map_take,hsn,List.map_append]
    rfl
   have HTK:=hide htk
   have HWD:=hide hwd
   have HRU:=hide (rrunes_any wr xw hwf)
   obtain ⟨g,o,hA,hg,a0,a1⟩:=gP wr HO.out.1.touch
   subst hA
   have HA1:=hide (And.intro a1 hg)
   clear gP hmem hsn hx hwd hwf htk a1 hg
   go_wp2_with fail
   refine HRU.out.mono ?_
   rintro e w2 ⟨rA,rq,rc,rO,ok,rfl,N2,hl2,hq2,hru⟩
   have hok:ok=true∧rO=wordR ⟨xw,xn⟩:=by
    have h1:=HWD.out.1
    rw [hru] at h1
    cases ok with
    | false=>cases h1
    | true=>exact ⟨rfl,Option.some.inj h1⟩
   obtain ⟨rfl,hrO⟩:=hok
   have hrOk:RV.Ok ⟨rA,rq,rc,rO,xn⟩ w2:=by
    obtain ⟨_,_,e,h1,h2⟩:=own_len N2.own
    injection e with e1 _ e3
    subst e1 e3
    exact ⟨hl2,RdT.of_own N2.own,by simp only;omega,h2⟩
   have HO2:=hide (HO.out.1.to N2.touch)
   have a2:=(N2.touch.cell (a:=⟨g,o+i*2+1,none⟩) HA1.out.2 (fun f=>f)).trans HA1.out.1
   have HV2:=hide (And.intro (fun r hr=>(HV.out.1 r hr).touch N2.touch (fun _ _ f=>f):∀ r∈V,r.Ok w2) (And.intro hrOk hrO))
   clear N2 hl2 hq2 hru hrOk hrO HRU
   go_wp2_with (at_builtin;refine wpList_app _ rfl (.tmp 22) (.tmp 30) 225 rfl 236 i0 _ 2 32 Tryz.underlying225 hi hz0 hz1 hz2 rfl (by decide) (.slice A3 i c3) i _ rfl (own_touch HO2.out.own ((Touch.refl _ _).alloc _) (fun _ _ f=>f)) (some ⟨_,0,none⟩) 1 1 [.slice rA rq rc,.int .i64 xn] rfl ?sa ?sb ?sc ?sd ?se ?_)
   case sa=>exact Reads.new _ _ _ _ rfl
   try (case sb=>exact fun h=>by cases h)
   case sc=>exact onecell_rest _ _ _ _
   case sd=>unfold maxLen;omega
   case se=>omega
   intro v4 w4 hown hgrow hfr _
   have hO2a:=HO2.out.to ((Touch.refl _ _).alloc (.cells #[.slice rA rq rc,.int .i64 xn] 236))
   have N4:=hO2a.app (m:=1) (ys:=[.slice rA rq rc,.int .i64 xn]) hown hgrow hfr
   have hkeep:∀ r:RV,r.Ok w2→r.Ok w4:=fun r hr =>
    (hr.touch ((Touch.refl _ _).alloc _) (fun _ _ f=>f)).touch (touch_of_grown hgrow) (fun g' hg' e=>(own_ty hO2a.own e).ne hg' (by decide) rfl)
   obtain ⟨A4,c4,rfl,_,_⟩:=own_len hown
   have HN4:=hide N4
   have HK:=hide hkeep
   clear N4 hown hgrow hfr hO2a hkeep
   go_wp2_with fail
   go_roundw
   ·refine ⟨i+1,A4,c4,V++[⟨rA,rq,rc,rO,xn⟩],rfl,by simp,by omega,hide ⟨?_,?_⟩,hide ⟨?_,?_⟩⟩
    ·rw [rCells_app]
     exact HN4.out
    ·rw [List.length_append,HO.out.2]
     rfl
    ·intro r hr
     rcases List.mem_append.1 hr with h | h
     ·exact HK.out r (HV2.out.1 r h)
     ·rw [List.mem_singleton] at h
      subst h
      exact HK.out _ HV2.out.2.1
    ·rw [List.map_append,HV.out.2,HTK.out,← HV2.out.2.2]
     rfl
   ·show n-(intOf (.int .i64 ((i:Int)+1))).toNat<n-(intOf (.int .i64 (i:Int))).toNat
    simp [intOf]
    omega
  ·have ht:(restsL L).take i=restsL L:=List.take_of_length_le (by unfold restsL;rw [List.length_map,HLN.out];omega)
   have hin2:i=n:=by omega
   subst hin2
   have hV:=HV.out
   rw [ht] at hV
   have HVV:=hide hV
   have y1:¬ (i:Int)<(i:Int):=by omega
   clear hV ht
   go_wp2_with fail
   go_ret
   refine ⟨⟨A3,i,c3,V⟩,rfl,⟨HO.out.2,RdT.of_own HO.out.1.own,HVV.out.1⟩,HVV.out.2,rfl,?_,HO.out.1.touch⟩
   intro r hr
   simp only at hr
   have h1:(r.O,r.wt)∈restsL L:=by rw [← HVV.out.2];exact List.mem_map.2 ⟨r,hr,rfl⟩
   obtain ⟨p,hp,e⟩:=List.mem_map.1 h1
   injection e with _ e
   have:=HD.out.weight p hp
   rw [e] at this
   omega
end Go.Proofs.YthockgmbooefpaaGreatDoor
namespace Go.Proofs.YthockgmbooefpaaGreatDoor
open Go.RowKit
set_option maxRecDepth 100000 in
theorem least_is (w:World) (s:RL) (hs:s.Ok w) (hn:0<s.n) (hm:s.n≤maxLen) :
  Calls Tryz.prog 128 #[s.val] w fun e w'=>e=.returned (.int .i64 (leastR s.p))∧w'=w:=by
 obtain ⟨A,n,c,V⟩:=s
 have HR:=hide hs.rd.rd
 have HLN:=hide hs.len
 simp only [RL.val,RL.p]
 simp only at HR HLN hn hm
 clear hs
 unfold maxLen at hm
 obtain ⟨m,rfl⟩:∃ m,n=m+1:=⟨n-1,by omega⟩
 obtain ⟨g,o,hA,hg,_,z1⟩:=rest_at HR.out HLN.out 0 (by omega)
 subst hA
 simp only [Nat.zero_mul,Nat.add_zero] at z1
 obtain ⟨z,hz⟩:∃ z,(V.getD 0 RV.zero).wt=z:=⟨_,rfl⟩
 rw [hz] at z1
 have hl:leastR (V.map RV.p)=(V.map RV.p).foldl (fun n r=>min n r.2) z:=by
  cases V with
  | nil=>have:=HLN.out;simp at this
  | cons x V=>simp only [List.getD_cons_zero] at hz;subst hz;rfl
 have HL:=hide hl
 have HZ1:=hide z1
 have HG:=hide hg
 clear hl hz hg
 have y0:(0:Int)<((m:Int)+1):=by omega
 go_enter Tryz.func128,Tryz.ntmps128
 go_wp2
 go_loopw [3,4] (fun nv iv wr=>∃ (z':Int) (i:Nat),nv=.int .i64 z'∧iv=.int .i64 i∧i≤m+1∧Hid (z'=((V.map RV.p).take i).foldl (fun n r=>min n r.2) z)∧Hid (wr=w)) (fun _ iv _=>m+1-(intOf iv).toNat)
 case atStart=>exact ⟨z,0,rfl,rfl,by omega,hide (by simp),hide rfl⟩
 case round =>
  obtain ⟨z',i,rfl,rfl,hi,HZ,HT⟩:=hrel
  have hT:=HT.out
  subst hT
  by_cases hin:i<m+1
  ·have y1:(i:Int)<(m:Int)+1:=by omega
   have y2:(0:Int)≤(i:Int):=by omega
   obtain ⟨g',o',hA,_,_,a1⟩:=rest_at HR.out HLN.out i hin
   injection hA with hA
   injection hA with hA1 hA2
   subst hA1 hA2
   obtain ⟨u,hu⟩:∃ u,(V.getD i RV.zero).wt=u:=⟨_,rfl⟩
   rw [hu] at a1
   have hst:((V.map RV.p).take (i+1)).foldl (fun n r=>min n r.2) z=min z' u:=by
    rw [take_snoc (V.map RV.p) RV.zero.p i (by rw [List.length_map,HLN.out];exact hin),List.foldl_append,← HZ.out]
    simp only [List.foldl_cons,List.foldl_nil]
    rw [← hu]
    simp [List.getD,RV.p,show i<V.length by rw [HLN.out];exact hin]
   have HST:=hide hst
   clear hst hu
   go_wp2
   all_goals
    go_roundw
    ·exact ⟨_,i+1,rfl,by simp,by omega,hide (by rw [HST.out];first | done | (split<;>omega)),by first | exact hide rfl | exact hide trivial⟩
    ·show m+1-(intOf (.int .i64 ((i:Int)+1))).toNat<m+1-(intOf (.int .i64 (i:Int))).toNat
     simp [intOf]
     omega
  ·have y1:¬ (i:Int)<(m:Int)+1:=by omega
   have ht:(V.map RV.p).take i=V.map RV.p:=List.take_of_length_le (by rw [List.length_map,HLN.out];omega)
   have hz:=HZ.out
   rw [ht,← HL.out] at hz
   have HE:=hide hz
   clear hz ht
   go_wp2
   go_ret
   exact ⟨by rw [← HE.out];rfl,rfl⟩
end Go.Proofs.YthockgmbooefpaaGreatDoor
namespace Go.Proofs.YthockgmbooefpaaGreatDoor
open Go.RowKit
def aCells (l:List (Nat × Int × Nat)):List Value:=l.flatMap fun a=>[.int .i32 (a.1:Int),.int .i64 a.2.1,.int .i64 (a.2.2:Int)]
theorem aCells_app (V W:List (Nat × Int × Nat)):aCells (V++W)=aCells V++aCells W:=List.flatMap_append
structure SV where
 fin:Bool
 out:Int
 A:Option Addr
 n:Nat
 c:Nat
 arcs:List (Nat × Int × Nat)
def SV.cells (s:SV):List Value:=[.bool s.fin,.int .i64 s.out,.slice s.A s.n s.c]
def SV.p (s:SV):StP:=⟨s.fin,s.out,s.arcs⟩
structure SV.Ok (s:SV) (w:World):Prop where
 len:s.arcs.length=s.n
 rd:RdT w 173 3 s.A s.n (aCells s.arcs)
 le:s.n≤s.c
 mx:s.c≤maxLen
def sCells (Z:List SV):List Value:=Z.flatMap SV.cells
theorem sCells_app (V W:List SV):sCells (V++W)=sCells V++sCells W:=List.flatMap_append
theorem SV.Ok.touch {s:SV} {w w':World} {S:Nat→Prop} (h:s.Ok w) (T:Touch S w w') (hS:∀ g,TyAt w g 173 → ¬ S g):s.Ok w':=⟨h.len,h.rd.touch T hS,h.le,h.mx⟩
structure KV where
 rA:Option Addr
 rn:Nat
 rc:Nat
 X:List RL
 sA:Option Addr
 sn:Nat
 sc:Nat
 Z:List SV
def KV.r (k:KV):Value:=.slice k.rA k.rn k.rc
def KV.s (k:KV):Value:=.slice k.sA k.sn k.sc
def KV.val (k:KV):Value:=.agg #[k.r,k.s]
def KV.p (k:KV):KnP:=⟨k.X.map RL.p,k.Z.map SV.p⟩
theorem RdT.touch' {w w':World} {S:Nat→Prop} {t:TypeId} {size:Nat} {A:Option Addr} {n:Nat} {xs:List Value} (h:RdT w t size A n xs) (T:Touch S w w') (hS:0<n→∀ g,adBlock A=some g→¬ S g):RdT w' t size A n xs:=by
 by_cases hn:0<n
 ·exact ⟨h.rd.touch T fun g hg=>hS hn g hg,fun _ g hg=>(h.ty hn g hg).touch T (hS hn g hg)⟩
 ·exact ⟨⟨h.rd.1,fun h=>absurd h hn⟩,fun h=>absurd h hn⟩
structure KV.Ok (k:KV) (w:World):Prop where
 r:w.ownsRow 0 225 1 k.r k.rn (k.X.map RL.val)
 rl:k.X.length=k.rn
 re:∀ x∈k.X,x.Ok w∧x.n≤maxLen
 s:w.ownsRow 0 170 3 k.s k.sn (sCells k.Z)
 sl:k.Z.length=k.sn
 se:∀ z∈k.Z,z.Ok w
def KV.S (k:KV) (g:Nat):Prop:=k.r.ownBlock=some g∨k.s.ownBlock=some g
theorem KV.Ok.noS {k:KV} {w:World} (h:k.Ok w) {t:TypeId} (h1:t ≠ 225) (h2:t ≠ 170):∀ g,TyAt w g t→¬ k.S g:=by
 rintro g hg (e | e)
 ·exact (own_ty h.r e).ne hg (fun e=>h1 e.symm) rfl
 ·exact (own_ty h.s e).ne hg (fun e=>h2 e.symm) rfl
theorem KV.Ok.quiet {k:KV} {w w':World} (h:k.Ok w) (T:Touch (fun _=>False) w w'):k.Ok w' :=
 ⟨own_touch h.r T (fun _ _ f=>f),h.rl,fun x hx=>⟨(h.re x hx).1.quiet T,(h.re x hx).2⟩,own_touch h.s T (fun _ _ f=>f),h.sl,fun z hz=>(h.se z hz).touch T (fun _ _ f=>f)⟩
theorem KV.Ok.far {k:KV} {w w':World} {S:Nat→Prop} (h:k.Ok w) (T:Touch S w w') (hr:∀ g,k.S g→¬ S g) (h1:∀ g,TyAt w g 21 → ¬ S g) (h2:∀ g,TyAt w g 236 → ¬ S g) (h3:∀ g,TyAt w g 173 → ¬ S g):k.Ok w' :=
 ⟨own_touch h.r T (fun g e=>hr g (.inl e)),h.rl,fun x hx=>⟨(h.re x hx).1.touch T h1 h2,(h.re x hx).2⟩,own_touch h.s T (fun g e=>hr g (.inr e)),h.sl,fun z hz=>(h.se z hz).touch T h3⟩
theorem blk_ty {w:World} {g:Nat} {t:TypeId} {cs:Array Value} (h:Blk w g t cs):TyAt w g t:=⟨cs,(),h⟩
theorem KV.Ok.lt {k:KV} {w:World} (h:k.Ok w) {g:Nat} (hg:k.S g):g<w.heap.size:=by
 rcases hg with e | e
 ·exact (own_ty h.r e).lt
 ·exact (own_ty h.s e).lt
theorem KV.Ok.box {k:KV} {w w':World} {b:Nat} {t:TypeId} {cs:Array Value} (h:k.Ok w) (hb:Blk w b t cs) (T:Touch (fun x=>x=b) w w') (hn:¬ k.S b) (h1:t ≠ 21) (h2:t ≠ 236) (h3:t ≠ 173):k.Ok w' :=
 h.far T (fun _ hg e=>hn (e ▸ hg)) (fun _ hg e=>hg.ne (blk_ty hb) (fun e=>h1 e.symm) e) (fun _ hg e=>hg.ne (blk_ty hb) (fun e=>h2 e.symm) e) (fun _ hg e=>hg.ne (blk_ty hb) (fun e=>h3 e.symm) e)
theorem stateF_old {f:Nat} {k:KnP} {l:Rs} {i:Nat} (h:idxR k.rests (levelR l)=some i):stateF (f+1) k l=(k,i):=by simp only [stateF,h]
structure L2 (w wr:World) (B C:Nat) (k0 kc:KV) (fin:Bool) (out:Int) (aA:Option Addr) (ai ac:Nat) (arcs:List (Nat × Int × Nat)) (M:RL) (fA:Option Addr) (fq:Nat) (F:List Nat):Prop where
 ok:kc.Ok wr
 b0:Blk wr B 229 #[kc.r,kc.s]
 b1:Blk wr (B+1) 229 #[.slice none 0 0,.slice none 0 0]
 b2:Blk wr C 170 #[.bool fin,.int .i64 out,.slice aA ai ac]
 own:wr.ownsRow 0 173 3 (.slice aA ai ac) ai (aCells arcs)
 al:arcs.length=ai
 af:∀ g,(Value.slice aA ai ac).ownBlock=some g→w.heap.size≤g
 m:M.Ok wr
 f:RdT wr 21 1 fA fq (F.map runeV)
 touch:Touch k0.S w wr
 fr:Fresh w k0.r kc.r
 fs:Fresh w k0.s kc.s
 nb:¬ kc.S C
 zs:∀ z∈kc.Z,z∈k0.Z∨(0<z.n→∀ g,adBlock z.A=some g→w.heap.size≤g)
 za:∀ z∈kc.Z,0<z.n→∀ g,adBlock z.A=some g→(Value.slice aA ai ac).ownBlock≠some g
theorem Fresh.up {w u:World} {a b c:Value} (h:Fresh w a b) (k:Fresh u b c) (hs:w.heap.size≤u.heap.size):Fresh w a c:=by
 rcases k with e | ⟨g,e,hg⟩
 ·rcases h with e2 | ⟨g,e2,hg⟩
  ·exact .inl (e.trans e2)
  ·exact .inr ⟨g,e.trans e2,hg⟩
 ·exact .inr ⟨g,e,Nat.le_trans hs hg⟩
def S4 (k:KV) (B:Nat) (g:Nat):Prop:=k.S g∨g=B
theorem l2_call {w wr u1 u2:World} {B C:Nat} {k0 kc kd:KV} {fin:Bool} {out:Int} {aA:Option Addr} {ai ac:Nat} {arcs:List (Nat × Int × Nat)} {M:RL} {fA:Option Addr} {fq:Nat} {F:List Nat}
  (h:L2 w wr B C k0 kc fin out aA ai ac arcs M fA fq F) (hB:w.heap.size≤B) (T1:Touch (fun _=>False) wr u1) (hd:kd.Ok u2) (T2:Touch kc.S u1 u2) (fr:Fresh u1 kc.r kd.r) (fs:Fresh u1 kc.s kd.s)
  (hz:∀ z∈kd.Z,z∈kc.Z∨(0<z.n→∀ g,adBlock z.A=some g→u1.heap.size≤g)) (o:Obj) :
  L2 w (((u2.setCell ⟨B,0,none⟩ kd.r).setCell ⟨B,1,none⟩ kd.s).alloc o) B C k0 kd fin out aA ai ac arcs M fA fq F ∧
  (∀ t:RL,t.Ok u1→t.Ok (((u2.setCell ⟨B,0,none⟩ kd.r).setCell ⟨B,1,none⟩ kd.s).alloc o)):=by
 have hw1:w.heap.size≤wr.heap.size:=h.touch.size
 have hwu:wr.heap.size≤u1.heap.size:=T1.size
 have hkc:kc.Ok u1:=h.ok.quiet T1
 have T12:Touch kc.S wr u2:=(T1.up _).then T2
 have T3:Touch (S4 kc B) wr u2:=T12.mono (fun _ _ h=>.inl h)
 have T4:Touch (S4 kc B) wr (((u2.setCell ⟨B,0,none⟩ kd.r).setCell ⟨B,1,none⟩ kd.s).alloc o):=((T3.setCell (p:=⟨B,0,none⟩) (fun _=>.inr rfl) _).setCell (p:=⟨B,1,none⟩) (fun _=>.inr rfl) _).alloc o
 have hnS:∀ t,t ≠ 225 → t ≠ 170 → t ≠ 229 → ∀ g,TyAt wr g t→¬ S4 kc B g:=by
  rintro t h1 h2 h3 g hg (e | e)
  ·exact h.ok.noS h1 h2 g hg e
  ·exact hg.ne (blk_ty h.b0) h3 e
 have hBS:¬ kc.S B:=h.ok.noS (t := 229) (by decide) (by decide) B (blk_ty h.b0)
 have hB1S:¬ S4 kc B (B+1):=by
  rintro (e | e)
  ·exact h.ok.noS (t := 229) (by decide) (by decide) _ (blk_ty h.b1) e
  ·omega
 have hCS:¬ S4 kc B C:=by
  rintro (e | e)
  ·exact h.nb e
  ·exact (blk_ty h.b2).ne (blk_ty h.b0) (by decide) e
 have hb0:Blk u2 B 229 #[kc.r,kc.s]:=h.b0.touch T12 hBS
 have hdB:¬ kd.S B:=hd.noS (t := 229) (by decide) (by decide) B (blk_ty hb0)
 have hCu2:Blk u2 C 170 #[.bool fin,.int .i64 out,.slice aA ai ac]:=h.b2.touch T12 h.nb
 have hClt:C<u1.heap.size:=Nat.lt_of_lt_of_le h.b2.lt hwu
 refine ⟨⟨?_,?_,?_,?_,?_,h.al,h.af,?_,?_,?_,?_,?_,?_,?_,?_⟩,?_⟩
 ·exact (hd.box hb0 (((Touch.refl (fun x=>x=B) _).setCell (p:=⟨B,0,none⟩) (fun _=>rfl) _).setCell (p:=⟨B,1,none⟩) (fun _=>rfl) _) hdB (by decide) (by decide) (by decide)).quiet ((Touch.refl _ _).alloc o)
 ·have:=(hb0.set_ 0 kd.r).set_ 1 kd.s
  exact Blk.alloc (by simpa using this) o
 ·exact h.b1.touch T4 hB1S
 ·exact h.b2.touch T4 hCS
 ·exact own_touch h.own T4 (fun g hg=>hnS _ (by decide) (by decide) (by decide) g (own_ty h.own hg))
 ·exact h.m.touch T4 (hnS _ (by decide) (by decide) (by decide)) (hnS _ (by decide) (by decide) (by decide))
 ·exact h.f.touch T4 (hnS _ (by decide) (by decide) (by decide))
 ·refine h.touch.trans T4 ?_
  rintro g hg ((e | e) | e)
  ·rcases h.fr with e2 | ⟨g',e2,hg'⟩
   ·exact .inl (e2.symm.trans e)
   ·rw [e2] at e;injection e with e;omega
  ·rcases h.fs with e2 | ⟨g',e2,hg'⟩
   ·exact .inr (e2.symm.trans e)
   ·rw [e2] at e;injection e with e;omega
  ·omega
 ·exact h.fr.up fr (Nat.le_trans hw1 hwu)
 ·exact h.fs.up fs (Nat.le_trans hw1 hwu)
 ·rintro (e | e)
  ·exact (own_ty hd.r e).ne (blk_ty hCu2) (by decide) rfl
  ·rcases fs with e2 | ⟨g',e2,hg'⟩
   ·exact h.nb (.inr (e2.symm.trans e))
   ·rw [e2] at e;injection e with e;omega
 ·intro z hzz
  rcases hz z hzz with h1 | h1
  ·exact h.zs z h1
  ·exact .inr fun hn g hg=>Nat.le_trans (Nat.le_trans hw1 hwu) (h1 hn g hg)
 ·intro z hzz hn g hg e
  rcases hz z hzz with h1 | h1
  ·exact h.za z h1 hn g hg e
  ·have:=(own_ty h.own e).lt
   have:=h1 hn g hg
   omega
 ·intro t ht
  have hb1':∀ t',t' ≠ 225 → t' ≠ 170 → t' ≠ 229 → ∀ g,TyAt u1 g t'→¬ S4 kc B g:=by
   rintro t' h1 h2 h3 g hg (e | e)
   ·exact hkc.noS h1 h2 g hg e
   ·exact hg.ne (blk_ty (h.b0.touch T1 (fun f=>f))) h3 e
  have T5:Touch (S4 kc B) u1 (((u2.setCell ⟨B,0,none⟩ kd.r).setCell ⟨B,1,none⟩ kd.s).alloc o):=(((T2.mono (T:=S4 kc B) (fun _ _ h=>.inl h)).setCell (p:=⟨B,0,none⟩) (fun _=>.inr rfl) _).setCell (p:=⟨B,1,none⟩) (fun _=>.inr rfl) _).alloc o
  exact ht.touch T5 (hb1' _ (by decide) (by decide) (by decide)) (hb1' _ (by decide) (by decide) (by decide))
def S5 (v:Value) (C:Nat) (g:Nat):Prop:=v.ownBlock=some g∨g=C
theorem l2_arc {w u4 v v4:World} {B C:Nat} {k0 kd:KV} {fin:Bool} {out:Int} {aA:Option Addr} {ai ac:Nat} {arcs:List (Nat × Int × Nat)} {M:RL} {fA:Option Addr} {fq:Nat} {F:List Nat}
  (h0:L2 w u4 B C k0 kd fin out aA ai ac arcs M fA fq F) (_:w.heap.size≤B) (hC:w.heap.size≤C) (T:Touch (fun _=>False) u4 v) {g' cap:Nat} (c:Nat) (le:Int) (n:Nat)
  (hown:v4.ownsRow 0 173 3 (.slice (some ⟨g',0,none⟩) (ai+1) cap) (ai+1) (aCells arcs++[.int .i32 (c:Int),.int .i64 le,.int .i64 (n:Int)])) (hg:v.grownBy v4 (Value.slice aA ai ac).ownBlock) (hf:Fresh v (.slice aA ai ac) (.slice (some ⟨g',0,none⟩) (ai+1) cap)) :
  L2 w (v4.setCell ⟨C,2,none⟩ (.slice (some ⟨g',0,none⟩) (ai+1) cap)) B C k0 kd fin out (some ⟨g',0,none⟩) (ai+1) cap (arcs++[(c,le,n)]) M fA fq F:=by
 have ok:=h0.ok.quiet T
 have b0:=h0.b0.touch T (fun f=>f)
 have b1:=h0.b1.touch T (fun f=>f)
 have b2:=h0.b2.touch T (fun f=>f)
 have own:=own_touch h0.own T (fun _ _ f=>f)
 have hwv:w.heap.size≤v.heap.size:=Nat.le_trans h0.touch.size T.size
 have Tg:Touch (S5 (.slice aA ai ac) C) v v4:=(touch_of_grown hg).mono (fun _ _ h=>.inl h)
 have T5:Touch (S5 (.slice aA ai ac) C) v (v4.setCell ⟨C,2,none⟩ (.slice (some ⟨g',0,none⟩) (ai+1) cap)):=Tg.setCell (p:=⟨C,2,none⟩) (fun _=>.inr rfl) _
 have hn5:∀ t,t ≠ 173 → t ≠ 170 → ∀ g,TyAt v g t→¬ S5 (.slice aA ai ac) C g:=by
  rintro t h1 h2 g hg (e | e)
  ·exact hg.ne (own_ty own e) h1 rfl
  ·exact hg.ne (blk_ty b2) h2 e
 have hb2:Blk v4 C 170 #[.bool fin,.int .i64 out,.slice aA ai ac]:=b2.grown hg (fun e=>(own_ty own e.symm).ne (blk_ty b2) (by decide) rfl)
 have hgw:w.heap.size≤g':=by
  rcases hf with e | ⟨g2,e,h2⟩
  ·exact h0.af g' (by rw [← e];rfl)
  ·have e:g'=g2:=Option.some.inj e
   omega
 refine ⟨⟨?_,ok.rl,fun x hx=>⟨(ok.re x hx).1.touch T5 (hn5 _ (by decide) (by decide)) (hn5 _ (by decide) (by decide)),(ok.re x hx).2⟩,?_,ok.sl,?_⟩,?_,?_,?_,?_,?_,?_,?_,?_,?_,h0.fr,h0.fs,h0.nb,h0.zs,?_⟩
 ·exact own_touch ok.r T5 (fun g e=>hn5 _ (by decide) (by decide) g (own_ty ok.r e))
 ·refine own_touch ok.s T5 ?_
  rintro g e (e2 | e2)
  ·exact (own_ty ok.s e).ne (own_ty own e2) (by decide) rfl
  ·exact h0.nb (.inr (e2 ▸ e))
 ·intro z hz
  have hz1:=ok.se z hz
  refine ⟨hz1.len,hz1.rd.touch' T5 ?_,hz1.le,hz1.mx⟩
  rintro hn g e (e2 | e2)
  ·exact h0.za z hz hn g e e2
  ·exact (hz1.rd.ty hn g e).ne (blk_ty b2) (by decide) e2
 ·exact b0.touch T5 (hn5 _ (by decide) (by decide) _ (blk_ty b0))
 ·exact b1.touch T5 (hn5 _ (by decide) (by decide) _ (blk_ty b1))
 ·simpa using hb2.set_ 2 (.slice (some ⟨g',0,none⟩) (ai+1) cap)
 ·rw [aCells_app]
  refine own_touch (S:=fun x=>x=C) hown ((Touch.refl (fun x=>x=C) _).setCell (p:=⟨C,2,none⟩) (fun _=>rfl) _) ?_
  intro g e e2
  exact (own_ty hown e).ne (blk_ty hb2) (by decide) e2
 ·rw [List.length_append,h0.al];rfl
 ·intro g e
  have e:g'=g:=Option.some.inj e
  omega
 ·exact (h0.m.quiet T).touch T5 (hn5 _ (by decide) (by decide)) (hn5 _ (by decide) (by decide))
 ·exact (h0.f.quiet T).touch T5 (hn5 _ (by decide) (by decide))
 ·refine (h0.touch.then (T.up _)).trans T5 ?_
  rintro g hgl (e | e)
  ·have:=h0.af g e;omega
  ·omega
 ·intro z hz hn g e e2
  have e2:g'=g:=Option.some.inj e2
  have hzt:=((ok.se z hz).rd.ty hn g e).lt
  rcases hf with e3 | ⟨g2,e3,h2⟩
  ·exact h0.za z hz hn g e (by rw [← e3,← e2];rfl)
  ·have e3:g'=g2:=Option.some.inj e3
   omega
end Go.Proofs.YthockgmbooefpaaGreatDoor
namespace Go.Proofs.YthockgmbooefpaaGreatDoor
open Go.RowKit
def S6 (v:Value) (B:Nat) (g:Nat):Prop:=v.ownBlock=some g∨g=B
theorem own_slice {w:World} {base:Nat} {e:TypeId} {size n:Nat} {A:Option Addr} {c:Nat} {xs:List Value} (h:w.ownsRow base e size (.slice A n c) n xs):n≤c∧c≤maxLen:=by
 obtain ⟨_,_,e,h1,h2⟩:=own_len h
 injection e with e1 e2 e3
 subst e3
 exact ⟨by omega,h2⟩
theorem l2_rest {w u v v4:World} {B C:Nat} {k0:KV} {kA:Option Addr} {kn kc:Nat} {X:List RL} {sA:Option Addr} {sn sc:Nat} {Z:List SV} {fin:Bool} {out:Int} {aA:Option Addr} {ai ac:Nat} {arcs:List (Nat × Int × Nat)} {M:RL} {fA:Option Addr} {fq:Nat} {F:List Nat}
  (h0:L2 w u B C k0 ⟨kA,kn,kc,X,sA,sn,sc,Z⟩ fin out aA ai ac arcs M fA fq F) (hB:w.heap.size≤B) (T:Touch (fun _=>False) u v) (hM:M.n≤maxLen) {a':Option Addr} {cap:Nat}
  (hown:v4.ownsRow 0 225 1 (.slice a' (kn+1) cap) (kn+1) (X.map RL.val++[M.val])) (hg:v.grownBy v4 (Value.slice kA kn kc).ownBlock) (hf:Fresh v (.slice kA kn kc) (.slice a' (kn+1) cap)) :
  L2 w (v4.setCell ⟨B,0,none⟩ (.slice a' (kn+1) cap)) B C k0 ⟨a',kn+1,cap,X++[M],sA,sn,sc,Z⟩ fin out aA ai ac arcs M fA fq F:=by
 have ok:=h0.ok.quiet T
 have b0:=h0.b0.touch T (fun f=>f)
 have b1:=h0.b1.touch T (fun f=>f)
 have b2:=h0.b2.touch T (fun f=>f)
 have own:=own_touch h0.own T (fun _ _ f=>f)
 have hwv:w.heap.size≤v.heap.size:=Nat.le_trans h0.touch.size T.size
 have hr:v.ownsRow 0 225 1 (.slice kA kn kc) kn (X.map RL.val):=ok.r
 have Tg:Touch (S6 (.slice kA kn kc) B) v v4:=(touch_of_grown hg).mono (fun _ _ h=>.inl h)
 have T6:Touch (S6 (.slice kA kn kc) B) v (v4.setCell ⟨B,0,none⟩ (.slice a' (kn+1) cap)):=Tg.setCell (p:=⟨B,0,none⟩) (fun _=>.inr rfl) _
 have hn6:∀ t,t ≠ 225 → t ≠ 229 → ∀ g,TyAt v g t→¬ S6 (.slice kA kn kc) B g:=by
  rintro t h1 h2 g hg (e | e)
  ·exact hg.ne (own_ty hr e) h1 rfl
  ·exact hg.ne (blk_ty b0) h2 e
 have hb0:Blk v4 B 229 #[.slice kA kn kc,.slice sA sn sc]:=b0.grown hg (fun e=>(own_ty hr e.symm).ne (blk_ty b0) (by decide) rfl)
 have hb2:Blk v4 C 170 #[.bool fin,.int .i64 out,.slice aA ai ac]:=b2.grown hg (fun e=>(own_ty hr e.symm).ne (blk_ty b2) (by decide) rfl)
 have hM2:M.Ok (v4.setCell ⟨B,0,none⟩ (.slice a' (kn+1) cap)):=(h0.m.quiet T).touch T6 (hn6 _ (by decide) (by decide)) (hn6 _ (by decide) (by decide))
 refine ⟨⟨?_,?_,?_,?_,ok.sl,?_⟩,?_,?_,?_,?_,h0.al,h0.af,hM2,?_,?_,?_,h0.fs,?_,h0.zs,h0.za⟩
 ·show World.ownsRow _ _ _ _ _ _ ((X++[M]).map RL.val)
  rw [List.map_append]
  refine own_touch (S:=fun x=>x=B) hown ((Touch.refl (fun x=>x=B) _).setCell (p:=⟨B,0,none⟩) (fun _=>rfl) _) ?_
  intro g e e2
  exact (own_ty hown e).ne (blk_ty hb0) (by decide) e2
 ·show (X++[M]).length=kn+1
  rw [List.length_append,ok.rl];rfl
 ·intro x hx
  rcases List.mem_append.1 hx with h | h
  ·exact ⟨(ok.re x h).1.touch T6 (hn6 _ (by decide) (by decide)) (hn6 _ (by decide) (by decide)),(ok.re x h).2⟩
  ·rw [List.mem_singleton] at h
   subst h
   exact ⟨hM2,hM⟩
 ·exact own_touch ok.s T6 (fun g e=>hn6 _ (by decide) (by decide) g (own_ty ok.s e))
 ·exact fun z hz=>(ok.se z hz).touch T6 (hn6 _ (by decide) (by decide))
 ·have h9:Blk (v4.setCell ⟨B,0,none⟩ (.slice a' (kn+1) cap)) B 229 #[.slice a' (kn+1) cap,.slice sA sn sc]:=by simpa using hb0.set_ 0 (.slice a' (kn+1) cap)
  exact h9
 ·refine b1.touch T6 ?_
  rintro (e | e)
  ·exact (own_ty hr e).ne (blk_ty b1) (by decide) rfl
  ·omega
 ·exact b2.touch T6 (hn6 _ (by decide) (by decide) _ (blk_ty b2))
 ·exact own_touch own T6 (fun g e=>hn6 _ (by decide) (by decide) g (own_ty own e))
 ·exact (h0.f.quiet T).touch T6 (hn6 _ (by decide) (by decide))
 ·refine (h0.touch.then (T.up _)).trans T6 ?_
  rintro g hgl (e | e)
  ·rcases h0.fr with e2 | ⟨g',e2,hg'⟩
   ·exact .inl (e2.symm.trans e)
   ·have:g'=g:=Option.some.inj (e2.symm.trans e)
    omega
  ·omega
 ·exact h0.fr.up hf hwv
 ·rintro (e | e)
  ·exact (own_ty hown e).ne (blk_ty hb2) (by decide) rfl
  ·exact h0.nb (.inr e)
theorem kn_end {w u v v4:World} {B C:Nat} {k0:KV} {kA:Option Addr} {kn kc:Nat} {X:List RL} {sA:Option Addr} {sn sc:Nat} {Z:List SV} {fin:Bool} {out:Int} {aA:Option Addr} {ai ac:Nat} {arcs:List (Nat × Int × Nat)} {M:RL} {fA:Option Addr} {fq:Nat} {F:List Nat}
  (h0:L2 w u B C k0 ⟨kA,kn,kc,X,sA,sn,sc,Z⟩ fin out aA ai ac arcs M fA fq F) (hB:w.heap.size≤B) (T:Touch (fun _=>False) u v) {a':Option Addr} {cap:Nat}
  (hown:v4.ownsRow 0 170 3 (.slice a' (sn+1) cap) (sn+1) (sCells Z++[.bool fin,.int .i64 out,.slice aA ai ac])) (hg:v.grownBy v4 (Value.slice sA sn sc).ownBlock) (hf:Fresh v (.slice sA sn sc) (.slice a' (sn+1) cap)) :
  KV.Ok ⟨kA,kn,kc,X,a',sn+1,cap,Z++[⟨fin,out,aA,ai,ac,arcs⟩]⟩ (v4.setCell ⟨B,1,none⟩ (.slice a' (sn+1) cap)) ∧
  Blk (v4.setCell ⟨B,1,none⟩ (.slice a' (sn+1) cap)) B 229 #[.slice kA kn kc,.slice a' (sn+1) cap] ∧
  Blk (v4.setCell ⟨B,1,none⟩ (.slice a' (sn+1) cap)) (B+1) 229 #[.slice none 0 0,.slice none 0 0] ∧
  Touch k0.S w (v4.setCell ⟨B,1,none⟩ (.slice a' (sn+1) cap))∧Fresh w k0.r (.slice kA kn kc)∧Fresh w k0.s (.slice a' (sn+1) cap) ∧
  ∀ z∈Z++[(⟨fin,out,aA,ai,ac,arcs⟩:SV)],z∈k0.Z∨(0<z.n→∀ g,adBlock z.A=some g→w.heap.size≤g):=by
 have ok:=h0.ok.quiet T
 have b0:=h0.b0.touch T (fun f=>f)
 have b1:=h0.b1.touch T (fun f=>f)
 have own:=own_touch h0.own T (fun _ _ f=>f)
 have hwv:w.heap.size≤v.heap.size:=Nat.le_trans h0.touch.size T.size
 have hr:v.ownsRow 0 170 3 (.slice sA sn sc) sn (sCells Z):=ok.s
 have Tg:Touch (S6 (.slice sA sn sc) B) v v4:=(touch_of_grown hg).mono (fun _ _ h=>.inl h)
 have T6:Touch (S6 (.slice sA sn sc) B) v (v4.setCell ⟨B,1,none⟩ (.slice a' (sn+1) cap)):=Tg.setCell (p:=⟨B,1,none⟩) (fun _=>.inr rfl) _
 have hn6:∀ t,t ≠ 170 → t ≠ 229 → ∀ g,TyAt v g t→¬ S6 (.slice sA sn sc) B g:=by
  rintro t h1 h2 g hg (e | e)
  ·exact hg.ne (own_ty hr e) h1 rfl
  ·exact hg.ne (blk_ty b0) h2 e
 have hb0:Blk v4 B 229 #[.slice kA kn kc,.slice sA sn sc]:=b0.grown hg (fun e=>(own_ty hr e.symm).ne (blk_ty b0) (by decide) rfl)
 have own6:=own_touch own T6 (fun g e=>hn6 _ (by decide) (by decide) g (own_ty own e))
 refine ⟨⟨?_,ok.rl,?_,?_,?_,?_⟩,?_,?_,?_,h0.fr,h0.fs.up hf hwv,?_⟩
 ·exact own_touch ok.r T6 (fun g e=>hn6 _ (by decide) (by decide) g (own_ty ok.r e))
 ·exact fun x hx=>⟨(ok.re x hx).1.touch T6 (hn6 _ (by decide) (by decide)) (hn6 _ (by decide) (by decide)),(ok.re x hx).2⟩
 ·show World.ownsRow _ _ _ _ _ _ (sCells (Z++[_]))
  rw [sCells_app]
  refine own_touch (S:=fun x=>x=B) hown ((Touch.refl (fun x=>x=B) _).setCell (p:=⟨B,1,none⟩) (fun _=>rfl) _) ?_
  intro g e e2
  exact (own_ty hown e).ne (blk_ty hb0) (by decide) e2
 ·show (Z++[_]).length=sn+1
  rw [List.length_append,ok.sl];rfl
 ·intro z hz
  rcases List.mem_append.1 hz with h | h
  ·exact (ok.se z h).touch T6 (hn6 _ (by decide) (by decide))
  ·rw [List.mem_singleton] at h
   subst h
   exact ⟨h0.al,RdT.of_own own6,(own_slice own6).1,(own_slice own6).2⟩
 ·simpa using hb0.set_ 1 (.slice a' (sn+1) cap)
 ·refine b1.touch T6 ?_
  rintro (e | e)
  ·exact (own_ty hr e).ne (blk_ty b1) (by decide) rfl
  ·omega
 ·refine (h0.touch.then (T.up _)).trans T6 ?_
  rintro g hgl (e | e)
  ·rcases h0.fs with e2 | ⟨g',e2,hg'⟩
   ·exact .inr (e2.symm.trans e)
   ·have:g'=g:=Option.some.inj (e2.symm.trans e)
    omega
  ·omega
 ·intro z hz
  rcases List.mem_append.1 hz with h | h
  ·exact h0.zs z h
  ·rw [List.mem_singleton] at h
   subst h
   refine .inr fun hn g e=>?_
   simp only at e hn
   cases hA:aA with
   | none =>
    rw [hA] at e
    cases e
   | some a =>
    have hsp:∃ g2,aA=some ⟨g2,0,none⟩:=by
     obtain ⟨g2,_,e2,_⟩:=own_form h0.own (by omega)
     injection e2 with e2
     exact ⟨g2,e2⟩
    obtain ⟨g2,rfl⟩:=hsp
    have e3:g2=g:=Option.some.inj e
    subst e3
    exact h0.af g2 rfl
end Go.Proofs.YthockgmbooefpaaGreatDoor
