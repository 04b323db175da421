/- What the law rests on, part 2. No condition but those that each theorem names. -/
import Derived.Test.YthockgmbooefpaaGreatDoorV01
import Derived.BigQuiet
import Derived.Deep.QuietTactic
import Derived.Test.YthockgmbooefpaaGreatDoorV00
import Derived.Deep.AppendLies
import Derived.Deep.RegionLaw
import Derived.StillTailTactics
set_option linter.unusedSectionVars false
set_option linter.unusedSimpArgs false
set_option linter.unusedVariables false
set_option maxRecDepth 100000
set_option maxHeartbeats 8000000
namespace Go.Proofs.YthockgmbooefpaaGreatDoor
open Int renaming sub_add_cancel → qZd
open IntWalk renaming i64_in → qQd
open List renaming mem_cons_self → qQa, mem_cons → qZa, mem_cons_of_mem → qXa, getElem?_eq_some_iff → qJa, getD → qQb, cons_append → qXb, map_cons → qJb, mem_map → qQc, nil_append → qZc, length_cons → qXc, pairwise_cons → qJc, foldl_cons → qXd, head?_cons → qJd, map → qQe, flatMap_cons → qZe, getElem?_append_left → qXe, getElem?_append_right → qJe, length_take → qQf, mem_singleton → qZf, sum_cons → qXf, all_eq_true → qJf, getElem?_eq_getElem → qQg, map_congr_left → qZg, mem_append → qXg, range → qJg, take → qQh, append_assoc → qJh, eq_nil_of_length_eq_zero → qQi, flatMap_append → qZi, foldl_nil → qXi, length_append → qJi, length_nil → qQj, map_append → qZj, mem_of_getLast? → qXj, ne_nil_of_mem → qJj, nodup_cons → qQk, take_of_length_le → qZk, exists_mem_of_ne_nil → qXl, filter_eq_nil_iff → qZm, getLast?_eq_none_iff → qZn, pairwise_singleton → qJo, take_succ_eq_append_getElem → qZp
open Nat renaming le_refl → qZb, sub_self → qZh, zero_le → qXh
variable{arcs:List (Nat × Int × Nat)}{wd x:List Nat}{bs:List UInt8}{xs:List Value}{L:List aD}{b base c d f g i j m n q size:Nat}{A:Option Addr}{α:Type}{t:TypeId}{v:Value}{w w':World}
open Go.RowKit
def mO(r:Nat):Nat->List Nat->List Nat->List Nat
 | t,c :: wd,a :: b :: s=>min (min (a+if c=r then 0 else 1) (b+1)) (t+1) :: mO r (min (min (a+if c=r then 0 else 1) (b+1)) (t+1)) wd (b :: s)
 | _,_,_=>[]
def dP(wd:List Nat)(s:List Nat)(r:Nat):List Nat:=(s.headD 0+1) :: mO r (s.headD 0+1) wd s
theorem Ic(r:Nat):∀ (wd:List Nat) (t:Nat) (s:List Nat),s.length=wd.length+1->(mO r t wd s).length=wd.length
 | [],t,s,h=>by
  cases s with
  | nil=>rfl
  | cons a s=>cases s<;>rfl
 | c :: wd,t,[],h=>by simp at h
 | c :: wd,t,[a],h=>by simp at h
 | c :: wd,t,a :: b :: s,h=>by
  simp only[mO,qXc]
  rw[Ic r wd _ (b :: s) (by simpa using h)]
theorem jV{s:List Nat}(r:Nat)(h:s.length=wd.length+1):(dP wd s r).length=wd.length+1:=by
 unfold dP
 rw[qXc,Ic r wd _ s h]
theorem Bt:∀ (text s:List Nat),s.length=wd.length+1->(text.foldl (dP wd) s).length=wd.length+1
 | [],s,h=>h
 | r :: text,s,h=>Bt text _ (jV r h)
theorem Ib(r:Nat):∀ (wd:List Nat) (t:Nat) (s:List Nat) (j:Nat),s.length=wd.length+1->j<wd.length ->
  (mO r t wd s).getD j 0=min (min (s.getD j 0+if wd.getD j 0=r then 0 else 1) (s.getD (j+1) 0+1)) ((t :: mO r t wd s).getD j 0+1)
 | [],t,s,j,h,hj=>by simp at hj
 | c :: wd,t,[],j,h,hj=>by simp at h
 | c :: wd,t,[a],j,h,hj=>by simp at h
 | c :: wd,t,a :: b :: s,0,h,hj=>by simp[mO]
 | c :: wd,t,a :: b :: s,j+1,h,hj=>by
  have ih:=Ib r wd (min (min (a+if c=r then 0 else 1) (b+1)) (t+1)) (b :: s) j (by simpa using h) (by simpa using hj)
  simp only[mO,List.getD_cons_succ] at ih ⊢
  exact ih
theorem Ia{s:List Nat}(r:Nat)(h:s.length=wd.length+1)(hj:j<wd.length) :
  (dP wd s r).getD (j+1) 0=min (min (s.getD j 0+if wd.getD j 0=r then 0 else 1) (s.getD (j+1) 0+1)) ((dP wd s r).getD j 0+1):=by
 unfold dP
 rw[List.getD_cons_succ]
 exact Ib r wd _ s j h hj
theorem Og(r B:Nat):∀ (wd:List Nat) (t:Nat) (s:List Nat),(∀ x∈s,x<=B)->∀ x∈mO r t wd s,x<=B+1
 | [],t,s,_,x,hx=>by
  cases s with
  | nil=>cases hx
  | cons a s=>cases s<;>cases hx
 | c :: wd,t,[],_,x,hx=>by cases hx
 | c :: wd,t,[a],_,x,hx=>by cases hx
 | c :: wd,t,a :: b :: s,h,x,hx=>by
  have hb:=h b (qXa _ qQa)
  simp only[mO,qZa] at hx
  rcases hx with rfl | hx
  ·omega
  ·exact Og r B wd _ (b :: s) (λy hy=>h y (qXa _ hy)) x hx
theorem Of{s:List Nat}{B:Nat}(r:Nat)(h:∀ x∈s,x<=B):∀ x∈dP wd s r,x<=B+1:=by
 intro x hx
 simp only[dP,qZa] at hx
 rcases hx with rfl | hx
 ·cases s with
  | nil=>simp
  | cons a s=>have:=h a qQa;simp;omega
 ·exact Og r B wd _ s h x hx
theorem Gq(wd s:List Nat)(r:Nat):(dP wd s r).headD 0=s.headD 0+1:=rfl
def oO(wd text:List Nat):List Nat:=text.foldl (dP wd) (qJg (wd.length+1))
theorem xM(wd text:List Nat)(r:Nat):oO wd (text++[r])=dP wd (oO wd text) r:=by
 unfold oO
 rw[List.foldl_append]
 rfl
theorem oP(wd text:List Nat):(oO wd text).length=wd.length+1:=Bt text _ (by simp)
theorem gG(X:List Nat)(k:Nat)(hk:k<X.length):X.take (k+1)=X.take k++[X.getD k 0]:=by
 rw[qZp hk]
 simp[qQb,hk]
theorem Ha{X:List Nat}{k:Nat}(h:X.length=k+1):X=X.take k++[X.getD k 0]:=by
 rw[<-gG X k (by omega),qZk (by omega)]
theorem xK(wd:List Nat):∀ (k:Nat) (text:List Nat),text.length=k->(oO wd text).headD 0=k
 | 0,text,h=>by
  rw[qQi h]
  unfold oO
  rw[qXi,List.range_succ_eq_map]
  rfl
 | k+1,text,h=>by
  have ih:=xK wd k (text.take k) (by rw[qQf];omega)
  rw[Ha h,xM,Gq,ih]
theorem Ai(wd:List Nat):∀ (k:Nat) (text:List Nat),text.length=k->∀ x∈oO wd text,x<=wd.length+k
 | 0,text,h=>by
  rw[qQi h]
  intro x hx
  unfold oO at hx
  rw[qXi,List.mem_range] at hx
  omega
 | k+1,text,h=>by
  have ih:=Ai wd k (text.take k) (by rw[qQf];omega)
  rw[Ha h,xM]
  exact Of _ ih
def oK(x:Nat):Value:=.int .i64 (x:Int)
theorem Gt:(Tryz.prog.info? 3).map (λi=>(i.zero,i.size,i.bytes))=some (some (.int .i64 0),1,8):=by kernel_rfl
theorem zY{X:List Nat}(h:aH w 1 A n (X.map oK))(hl:X.length=n)(j:Nat)(hj:j<n) :
  ∃ g off,A=some ⟨g,off,none⟩/\w.cell? ⟨g,off+j,none⟩=some (.int .i64 (X.getD j 0:Int)):=by
 obtain⟨g,off,hA,_,hc⟩:=h.2 (by omega)
 refine⟨g,off,hA,hc j _ ?_⟩
 simp[qQb,oK,show j<X.length by omega]
theorem aDa(w:World)(x:Nat):fS 3 1 w (w.alloc (.cells #[oK x] 3)) (.slice (some ⟨w.heap.size,0,none⟩) 1 1) 1 [oK x] :=
 ⟨⟨by simp,.inr ⟨w.heap.size,1,#[oK x],rfl,qXh _,heap_alloc_new _ _,qZb _,by decide,by simp,rfl⟩⟩,(aC.refl _ _).alloc _,λg h=>by
   simp[Value.ownBlock] at h
   omega⟩
theorem fS.from{e:Nat}{w0 w1:World}(h:fS e size w0 w1 v q xs)(T:aC (λ_=>False) w w0):fS e size w w1 v q xs :=
 ⟨h.own,T.then h.touch,λg hg=>Nat.le_trans T.size (h.fresh g hg)⟩
theorem aCq(X:List Nat)(k:Nat)(hk:k<X.length):X.getD k 0∈X:=by
 have e:X.getD k 0=X[k]:=by simp[qQb,hk]
 rw[e]
 exact List.getElem_mem hk
theorem aFv(w:World)(A:Option Addr)(n c:Nat)(X:List Nat)(hX:aH w 1 A n (X.map fF))(hXl:X.length=n)(B:Option Addr)(m d:Nat)(Y:List Nat)(hY:aH w 1 B m (Y.map fF))(hYl:Y.length=m)(hn:n<=1048576)(hm:m<=1048576) :
  Calls Tryz.prog 163 #[.slice A n c,.slice B m d] w λe w'=>e=.returned (.int .i64 ((oO Y X).getD m 0:Int))/\aC (λ_=>False) w w':=by
 obtain⟨i1,hi1,hy0,hy1,hy2⟩:=aQ Gt
 have HX:=aB hX
 have HXL:=aB hXl
 have HY:=aB hY
 have HYL:=aB hYl
 have HN:=aB hn
 have HM:=aB hm
 clear hX hXl hY hYl hn hm
 go_in
 go_wp2_with fail
 go_loopw [5,6] (λrv iv wr=>∃ (j:Nat) (Ar:Option Addr) (cr:Nat),rv=.slice Ar j cr/\iv=.int .i64 j/\j<=m+1/\Hid (fS 3 1 w wr (.slice Ar j cr) j ((qJg j).map oK))) (λ_ iv _=>m+1-(intOf iv).toNat)
 case atStart=>exact⟨0,none,0,rfl,rfl,qXh _,aB (fS.nil _ _ _)⟩
 case round =>
  obtain⟨j,Ar,cr,rfl,rfl,hj,HO⟩:=hrel
  by_cases hjm:j<=m
  ·have y0:(j:Int)<=(m:Int):=by omega
   have y1:IntKind.i64.wrap ((j:Int)+1)=(j:Int)+1:=qQd _ (by have:=HM.out;omega)
   have HJ:=aB hjm
   have HB:Hid (j+1<=maxLen/\(j+1)*8<=140737488355328):=aB (by have:=HM.out;unfold maxLen;omega)
   clear hj hjm
   go_wp2_with (at_builtin;refine aP _ rfl (.tmp 19) (.tmp 21) 49 rfl 3 i1 _ 1 8 Tryz.underlying49 hi1 hy0 hy1 hy2 rfl (by decide) (.slice Ar j cr) j _ rfl (aF HO.own ((aC.refl _ _).alloc _) (λ_ _ f=>f)) (some ⟨wr.heap.size,0,none⟩) 1 1 [.int .i64 (j:Int)] rfl (aH.new wr _ _ 1 rfl) (λh=>by cases h) (List.all_eq_true.1 rfl) HB.1 HB.2 ?_;intro v1 w5 O5 G5 F5 _;obtain⟨A5,c5,hv,_,_⟩:=aS O5;subst hv;have HO5:=aB ((HO.to ((aC.refl _ _).alloc _)).app O5 G5 F5);clear O5 G5 F5)
   go_roundw
   ·refine⟨j+1,A5,c5,rfl,by simp,by have:=HJ.out;omega,aB ?_⟩
    rw[List.range_succ,qZj]
    exact HO5
   ·have:=HJ.out
    simp only[intOf]
    omega
  ·have hje:j=m+1:=by omega
   subst hje
   have y0:¬ ((m:Int)+1)<=(m:Int):=by omega
   have y0':¬ ((m+1:Nat):Int)<=(m:Int):=by omega
   clear hj hjm
   go_wp2_with fail
   go_loopw [5,7] (λrv iv wr=>∃ (k i:Nat) (Ar:Option Addr) (cr:Nat),rv=.slice Ar (m+1) cr/\iv=.int .i64 (i:Int)/\Hid (i=k+1)/\k<=n/\Hid (fS 3 1 w wr (.slice Ar (m+1) cr) (m+1) ((oO Y (X.take k)).map oK))) (λ_ iv _=>n+1-(intOf iv).toNat)
   case atStart=>exact⟨0,1,Ar,cr,rfl,rfl,aB rfl,qXh _,aB (by have h:=HO.out;have e:oO Y (X.take 0)=qJg (m+1):=(by unfold oO;rw[List.take_zero,qXi,HYL.out]);rw[e];exact h)⟩
   case round =>
    obtain⟨k,i,Ar2,cr2,rfl,rfl,HI,hk,HR⟩:=hrel
    obtain⟨wo,hwo⟩:=eX wr
    subst hwo
    by_cases hkn:k<n
    ·have y2:(i:Int)<=(n:Int):=by have:=HI.out;omega
     have y3:IntKind.i64.wrap ((i:Int)+1)=(i:Int)+1:=qQd _ (by have:=HI.out;have:=HN.out;omega)
     have y4:IntKind.i64.wrap ((i:Int)-1)=(k:Int):=by rw[qQd _ (by have:=HI.out;have:=HN.out;omega)];have:=HI.out;omega
     have HK:=aB hkn
     obtain⟨s,hs⟩:=eX (oO Y (X.take k))
     obtain⟨r,hr⟩:=eX (X.getD k 0)
     obtain⟨t,ht⟩:=eX (dP Y s r)
     have htk:oO Y (X.take (k+1))=t:=by rw[gG X k (by rw[HXL.out];exact hkn),xM,ht,hs,hr]
     have hsl:s.length=m+1:=by rw[hs,oP,HYL.out]
     have htl:t.length=m+1:=by rw[ht,jV _ (by rw[hsl,HYL.out]),HYL.out]
     have hth:t.headD 0=i:=by rw[ht,Gq,hs,xK Y k (X.take k) (by rw[qQf,HXL.out];omega)];exact HI.symm
     have hsb:∀ x∈s,x<=m+k:=by rw[hs];have:=Ai Y k (X.take k) (by rw[qQf,HXL.out];omega);rw[HYL.out] at this;exact this
     have htb:∀ x∈t,x<=m+k+1:=by rw[ht];exact Of _ hsb
     have hget:∀ j,j<m->t.getD (j+1) 0=min (min (s.getD j 0+if Y.getD j 0=r then 0 else 1) (s.getD (j+1) 0+1)) (t.getD j 0+1):=λj hj=>by
      rw[ht]
      exact Ia r (by rw[hsl,HYL.out]) (by rw[HYL.out];exact hj)
     have ht1:t.take 1=[i]:=by
      cases t with
      | nil=>simp at htl
      | cons x t=>simp at hth;simp[hth]
     rw[<-hs] at HR
     have HS:=aB hs
     have HTK:=aB htk
     have HSL:=aB hsl
     have HTL:=aB htl
     have HSB:=aB hsb
     have HTB:=aB htb
     have HGET:=aB hget
     have HT1:=aB ht1
     have HRR:=aB hr
     obtain⟨w2,hw2⟩:=eX (wo.alloc (.cells #[.int .i64 (i:Int)] 3))
     have ho2:fS 3 1 wo w2 (.slice (some ⟨wo.heap.size,0,none⟩) 1 1) 1 ((t.take 1).map oK):=by
      rw[hw2,ht1]
      exact aDa wo i
     have HO2:=aB ho2
     have HW2:=aB hw2
     clear hs hr ht htk hsl htl hth hsb htb hget ht1 hkn hk hw2 ho2
     go_wp2_with fail
     rw[<-HW2.out]
     go_loopw [8,9] (λnv jv wx=>∃ (j l:Nat) (An:Option Addr) (cn:Nat),nv=.slice An j cn/\jv=.int .i64 (j:Int)/\Hid (j=l+1)/\l<=m/\Hid (fS 3 1 wo wx (.slice An j cn) j ((t.take j).map oK))) (λ_ jv _=>m+1-(intOf jv).toNat)
     case atStart=>exact⟨1,0,_,1,rfl,rfl,aB rfl,qXh _,HO2⟩
     case round =>
      obtain⟨j,l,An,cn,rfl,rfl,HJ,hl,HNX⟩:=hrel
      by_cases hlm:l<m
      ·have a0:(j:Int)<=(m:Int):=by have:=HJ.out;omega
       have a1:IntKind.i64.wrap ((j:Int)+1)=(j:Int)+1:=qQd _ (by have:=HJ.out;have:=HM.out;omega)
       have a2:IntKind.i64.wrap ((j:Int)-1)=(l:Int):=by rw[qQd _ (by have:=HJ.out;have:=HM.out;omega)];have:=HJ.out;omega
       have b0:(0:Int)<=(l:Int):=by omega
       have b1:(l:Int)<(j:Int):=by have:=HJ.out;omega
       have b2:(l:Int)<(m:Int):=by omega
       have b3:(0:Int)<=(k:Int):=by omega
       have b4:(k:Int)<(n:Int):=by have:=HK.out;omega
       have b5:(0:Int)<=(j:Int):=by omega
       have b6:(j:Int)<(m:Int)+1:=by omega
       have b7:(l:Int)<(m:Int)+1:=by omega
       have htj:(t.take j).length=j:=by rw[qQf,HTL.out];have:=HJ.out;omega
       obtain⟨g1,o1,hA1,c1⟩:=zY (aH.of_own HNX.own) htj l (by have:=HJ.out;omega)
       have hrow:=aF HR.own HNX.touch (λ_ _ f=>f)
       obtain⟨g2,o2,hA2,c2⟩:=zY (aH.of_own hrow) HSL l (by omega)
       obtain⟨g3,o3,hA3,c3⟩:=zY (aH.of_own hrow) HSL j (by have:=HJ.out;omega)
       have hTw:aC (λ_=>False) w wr:=HR.touch.then HNX.touch
       obtain⟨g4,o4,hA4,c4⟩:=pI (HX.touch hTw (λ_ _ f=>f)) HXL k HK
       obtain⟨g5,o5,hA5,c5⟩:=pI (HY.touch hTw (λ_ _ f=>f)) HYL l hlm
       subst hA1
       subst hA2
       injection hA3 with hA3
       injection hA3 with e1 e2
       subst e1
       subst e2
       subst hA4
       subst hA5
       rw[<-HRR.out] at c4
       have hgt:=HGET.out l hlm
       have e1:(t.take j).getD l 0=t.getD l 0:=by
        have hlj:l<j:=by have:=HJ.out;omega
        simp[qQb,List.getElem?_take,hlj]
       rw[e1] at c1
       have hjj:j=l+1:=HJ.out
       rw[hjj] at c3
       rw[<-hjj] at hgt
       have hb1:=HTB.out _ (aCq t l (by rw[HTL.out];omega))
       have hb2:=HSB.out _ (aCq s l (by rw[HSL.out];omega))
       have hb3:=HSB.out _ (aCq s (l+1) (by rw[HSL.out];omega))
       rw[hjj] at hgt
       obtain⟨tv,htv⟩:=eX (t.getD l 0)
       obtain⟨sa,hsa⟩:=eX (s.getD l 0)
       obtain⟨sb,hsb⟩:=eX (s.getD (l+1) 0)
       obtain⟨cc,hcc⟩:=eX (Y.getD l 0)
       rw[<-htv] at c1 hgt hb1
       rw[<-hsa] at c2 hgt hb2
       rw[<-hsb] at c3 hgt hb3
       rw[<-hcc] at c5 hgt
       rw[<-hjj] at c3
       have HGT:=aB hgt
       have HLM:=aB hlm
       have z1:IntKind.i64.wrap ((tv:Int)+1)=(tv:Int)+1:=qQd _ (by have:=HN.out;have:=HM.out;have:=HK.out;omega)
       have z2:IntKind.i64.wrap ((sa:Int)+1)=(sa:Int)+1:=qQd _ (by have:=HN.out;have:=HM.out;have:=HK.out;omega)
       have z3:IntKind.i64.wrap ((sb:Int)+1)=(sb:Int)+1:=qQd _ (by have:=HN.out;have:=HM.out;have:=HK.out;omega)
       have HB:=aB (show j+1<=maxLen/\(j+1)*8<=140737488355328 by have:=HM.out;have:=HLM.out;have:=HJ.out;unfold maxLen;omega)
       clear hgt htv hsa hsb hcc hjj hrow hTw htj e1 hb1 hb2 hb3 hlm hl
       by_cases hc:r=cc
       ·have q1:((r:Int) == (cc:Int))=true:=by simp;omega
        have HC:=aB hc
        clear hc
        go_wp2_with fail
        go_quiet (fail)
        go_wp2_with (at_builtin;refine aP _ rfl (.tmp 70) (.tmp 75) 49 rfl 3 i1 _ 1 8 Tryz.underlying49 hi1 hy0 hy1 hy2 rfl (by decide) (.slice (some ⟨g1,o1,none⟩) j cn) j _ rfl (aF HNX.own (((aC.refl _ _).drewN _).alloc _) (λ_ _ f=>f)) (some ⟨_,0,none⟩) 1 1 [_] rfl (aH.new _ _ [_] 1 rfl) (λh=>by cases h) (List.all_eq_true.1 rfl) HB.1 HB.2 ?_;intro v1 w5 O5 G5 F5 _;obtain⟨A5,c5,hv,_,_⟩:=aS O5;subst hv;have HO5:=aB ((HNX.to (((aC.refl _ _).drewN _).alloc _)).app O5 G5 F5);clear O5 G5 F5)
        all_goals
         go_roundw
         ·refine⟨j+1,l+1,A5,c5,rfl,by simp,aB (by have:=HJ.out;omega),by have:=HLM.out;omega,aB ?_⟩
          have h:=HO5.out
          rw[gG t j (by rw[HTL.out];have:=HJ.out;have:=HLM.out;omega),qZj]
          have hg:=HGT.out
          rw[<-HJ.out] at hg
          have hcv:=HC.out
          have key:∀ x:Int,x=((t.getD j 0:Nat):Int)->fS 3 1 wo w5 (.slice A5 (j+1) c5) (j+1) (qQe oK (qQh j t)++[.int .i64 x])->fS 3 1 wo w5 (.slice A5 (j+1) c5) (j+1) (qQe oK (qQh j t)++qQe oK [t.getD j 0]):=λx hx h=>by
           rw[hx] at h
           exact h
          refine key _ ?_ h
          rw[hg]
          first
           | rw[show (if cc=r then 0 else 1:Nat)=0 from if_pos hcv.symm]
           | rw[show (if cc=r then 0 else 1:Nat)=1 from if_neg (λe=>hcv e.symm)]
          split<;>split<;>omega
         ·have:=HJ.out
          have:=HLM.out
          simp only[intOf]
          omega
       ·have q1:((r:Int) == (cc:Int))=false:=by simp;omega
        have HC:=aB hc
        clear hc
        go_wp2_with fail
        go_quiet (fail)
        go_wp2_with (at_builtin;refine aP _ rfl (.tmp 70) (.tmp 75) 49 rfl 3 i1 _ 1 8 Tryz.underlying49 hi1 hy0 hy1 hy2 rfl (by decide) (.slice (some ⟨g1,o1,none⟩) j cn) j _ rfl (aF HNX.own (((aC.refl _ _).drewN _).alloc _) (λ_ _ f=>f)) (some ⟨_,0,none⟩) 1 1 [_] rfl (aH.new _ _ [_] 1 rfl) (λh=>by cases h) (List.all_eq_true.1 rfl) HB.1 HB.2 ?_;intro v1 w5 O5 G5 F5 _;obtain⟨A5,c5,hv,_,_⟩:=aS O5;subst hv;have HO5:=aB ((HNX.to (((aC.refl _ _).drewN _).alloc _)).app O5 G5 F5);clear O5 G5 F5)
        all_goals
         go_roundw
         ·refine⟨j+1,l+1,A5,c5,rfl,by simp,aB (by have:=HJ.out;omega),by have:=HLM.out;omega,aB ?_⟩
          have h:=HO5.out
          rw[gG t j (by rw[HTL.out];have:=HJ.out;have:=HLM.out;omega),qZj]
          have hg:=HGT.out
          rw[<-HJ.out] at hg
          have hcv:=HC.out
          have key:∀ x:Int,x=((t.getD j 0:Nat):Int)->fS 3 1 wo w5 (.slice A5 (j+1) c5) (j+1) (qQe oK (qQh j t)++[.int .i64 x])->fS 3 1 wo w5 (.slice A5 (j+1) c5) (j+1) (qQe oK (qQh j t)++qQe oK [t.getD j 0]):=λx hx h=>by
           rw[hx] at h
           exact h
          refine key _ ?_ h
          rw[hg]
          first
           | rw[show (if cc=r then 0 else 1:Nat)=0 from if_pos hcv.symm]
           | rw[show (if cc=r then 0 else 1:Nat)=1 from if_neg (λe=>hcv e.symm)]
          split<;>split<;>omega
         ·have:=HJ.out
          have:=HLM.out
          simp only[intOf]
          omega
      ·have hlm2:l=m:=by omega
       have a0:¬ (j:Int)<=(m:Int):=by have:=HJ.out;omega
       have hjm:j=m+1:=by have:=HJ.out;omega
       have htf:t.take j=t:=qZk (by rw[HTL.out];omega)
       have hox:=HNX.out
       rw[htf,hjm] at hox
       have HOX:=aB hox
       have HJM:=aB hjm
       clear hlm2 hjm htf hox hlm hl
       go_wp2_with fail
       go_roundw
       ·refine⟨k+1,i+1,An,cn,by rw[HJM.out],by simp,aB (by have:=HI.out;omega),by have:=HK.out;omega,aB ?_⟩
        rw[HTK.out]
        exact HOX.from HR.touch
       ·have:=HI.out
        have:=HK.out
        simp only[intOf]
        omega
    ·have hkn2:k=n:=by omega
     have y2:¬ (i:Int)<=(n:Int):=by have:=HI.out;omega
     have hxt:X.take k=X:=qZk (by rw[HXL.out];omega)
     have hr2:=HR.out
     rw[hxt] at hr2
     obtain⟨g1,o1,hA1,c1⟩:=zY (aH.of_own hr2.own) (by rw[oP,HYL.out]) m (by omega)
     subst hA1
     have y3:(0:Int)<=(m:Int):=by omega
     have y4:(m:Int)<(m:Int)+1:=by omega
     have HT:=aB hr2.touch
     clear hr2 hxt hkn2 hkn hk
     go_wp2_with fail
     go_ret
     exact⟨rfl,HT⟩
def dK(a b:List UInt8):Option Nat:=match bZ a,bZ b with
 | some x,some y=>if x.length<=1024/\y.length<=1024 then some ((oO y x).getD y.length 0) else none
 | _,_=>none
def Gc(o:Option Nat):Ending:=match o with
 | some d=>.returned (.tuple #[.int .i64 (d:Int),.bool true])
 | none=>.returned (.tuple #[.int .i64 0,.bool false])
theorem Yn(w:World)(a b:ByteArray)(ha:a.size<=1099511627776)(hb:b.size<=1099511627776) :
  Calls Tryz.prog 124 #[.string a,.string b] w λe w'=>e=Gc (dK a.toList b.toList)/\aC (λ_=>False) w w':=by
 have HRA:=aB (λwx=>tK wx a ha)
 have HRB:=aB (λwx=>tK wx b hb)
 clear ha hb
 go_in
 go_wp2_with fail
 refine (HRA w).mono ?_
 rintro e w1 ⟨A1,n1,c1,X,k1,rfl,ho1,hl1,hs1,hx1⟩
 have HO1:=aB ho1
 have HL1:=aB hl1
 have HX1:=aB hx1
 clear ho1 hl1 hs1 hx1
 go_wp2_with fail
 refine (HRB w1).mono ?_
 rintro e w2 ⟨A2,n2,c2,Y,k2,rfl,ho2,hl2,hs2,hx2⟩
 have HO2:=aB ho2
 have HO12:=aB (HO1.to ho2.touch)
 have HL2:=aB hl2
 have HX2:=aB hx2
 have HT2:=aB (HO1.touch.then ho2.touch)
 clear ho2 hl2 hs2 hx2
 cases k1 with
 | false =>
  have hd:dK a.toList b.toList=none:=by
   unfold dK
   rw[HX1.out]
   rfl
  have HD:=aB hd
  clear hd
  go_wp2_with fail
  go_ret2
  exact⟨by rw[HD.out];rfl,HT2⟩
 | true =>
  cases k2 with
  | false =>
   have hd:dK a.toList b.toList=none:=by
    unfold dK
    rw[HX1.out,HX2.out]
    rfl
   have HD:=aB hd
   clear hd
   go_wp2_with fail
   go_ret2
   exact⟨by rw[HD.out];rfl,HT2⟩
  | true =>
   by_cases h1:1024<n1
   ·have y0:(1024:Int)<(n1:Int):=by omega
    have hd:dK a.toList b.toList=none:=by
     unfold dK
     rw[HX1.out,HX2.out]
     simp only[if_true]
     rw[if_neg (by have:=HL1.out;omega)]
    have HD:=aB hd
    clear hd h1
    go_wp2_with fail
    go_ret2
    exact⟨by rw[HD.out];rfl,HT2⟩
   ·have y0:¬ (1024:Int)<(n1:Int):=by omega
    by_cases h2:1024<n2
    ·have y1:(1024:Int)<(n2:Int):=by omega
     have hd:dK a.toList b.toList=none:=by
      unfold dK
      rw[HX1.out,HX2.out]
      simp only[if_true]
      rw[if_neg (by have:=HL2.out;omega)]
     have HD:=aB hd
     clear hd h1 h2
     go_wp2_with fail
     go_ret2
     exact⟨by rw[HD.out];rfl,HT2⟩
    ·have y1:¬ (1024:Int)<(n2:Int):=by omega
     have hd:dK a.toList b.toList=some ((oO Y X).getD n2 0):=by
      unfold dK
      rw[HX1.out,HX2.out]
      simp only[if_true]
      rw[if_pos (by have:=HL1.out;have:=HL2.out;omega),HL2.out]
     have hfar:=aFv w2 A1 n1 c1 X (aH.of_own HO12.own) HL1 A2 n2 c2 Y (aH.of_own HO2.own) HL2 (by omega) (by omega)
     have HD:=aB hd
     have HF:=aB hfar
     clear hd hfar h1 h2
     go_wp2_with fail
     refine HF.mono ?_
     rintro e w3 ⟨rfl,T3⟩
     have HT3:=aB (HT2.then T3)
     clear T3
     go_wp2_with fail
     go_ret2
     exact⟨by rw[HD.out];rfl,HT3⟩
abbrev Rs:=List (List Nat × Int)
structure cU where
 fin:Bool
 out:Int
 arcs:List (Nat × Int × Nat)
structure kG where
 rests:List Rs
 states:List cU
def bE:Rs->Int
 | []=>0
 | x :: l=>(x :: l).foldl (λn r=>min n r.2) x.2
def aK(l:Rs):Rs:=l.map λr=>(r.1,r.2-bE l)
def aI(l:Rs)(c:Nat):Rs:=l.filterMap λr=>match r.1 with
 | []=>none
 | d :: t=>if d=c then some (t,r.2) else none
def kK(out:List Nat)(r:List Nat × Int):List Nat:=match r.1 with
 | []=>out
 | d :: _=>if out.getLast? = some d then out else out++[d]
def aO(l:Rs):List Nat:=l.foldl kK []
def qP(all:List Rs)(l:Rs):Option Nat:=all.findIdx? (λx=>decide (x=l))
def rX(l:Rs):Int:=l.foldl (λo r=>if r.1=[] then r.2 else o) 0
def gY(l:Rs):Bool:=l.any λr=>decide (r.1=[])
def cY(st:kG->Rs->kG × Nat)(R:Rs):kG->List Nat->kG × List (Nat × Int × Nat)
 | k,[]=>(k,[])
 | k,c :: cs=>((cY st R (st k (aI R c)).1 cs).1,(c,bE (aI R c),(st k (aI R c)).2) :: (cY st R (st k (aI R c)).1 cs).2)
def bJ:Nat->kG->Rs->kG × Nat
 | 0,k,_=>(k,0)
 | f+1,k,l=>match qP k.rests (aK l) with
  | some i=>(k,i)
  | none=>(⟨(cY (bJ f) (aK l) k (aO (aK l))).1.rests++[aK l],(cY (bJ f) (aK l) k (aO (aK l))).1.states++[⟨gY (aK l),rX (aK l),(cY (bJ f) (aK l) k (aO (aK l))).2⟩]⟩,(cY (bJ f) (aK l) k (aO (aK l))).1.states.length)
theorem Gl(l:Rs):∀ a:Int,(l.foldl (λn r=>min n r.2) a<=a/\∀ r∈l,l.foldl (λn r=>min n r.2) a<=r.2)/\(l.foldl (λn r=>min n r.2) a=a\/∃ r∈l,r.2=l.foldl (λn r=>min n r.2) a):=by
 induction l with
 | nil=>intro a;simp
 | cons x l ih =>
  intro a
  simp only[qXd]
  obtain⟨⟨h1,h2⟩,h3⟩:=ih (min a x.2)
  refine⟨⟨Int.le_trans h1 (Int.min_le_left _ _),?_⟩,?_⟩
  ·intro r hr
   rcases List.mem_cons.1 hr with e | e
   ·subst e;exact Int.le_trans h1 (Int.min_le_right _ _)
   ·exact h2 r e
  ·rcases h3 with e | ⟨r,hr,e⟩
   ·rcases Int.le_total a x.2 with h | h
    ·left;rw[e];exact Int.min_eq_left h
    ·right;exact⟨x,qQa,by rw[e];exact (Int.min_eq_right h).symm⟩
   ·exact .inr ⟨r,qXa _ hr,e⟩
theorem dX{l:Rs}{r:List Nat × Int}(h:r∈l):bE l<=r.2:=by
 cases l with
 | nil=>cases h
 | cons x l=>exact (Gl (x :: l) x.2).1.2 r h
theorem dE{l:Rs}(h:l≠[]):∃ r∈l,r.2=bE l:=by
 cases l with
 | nil=>exact absurd rfl h
 | cons x l =>
  rcases (Gl (x :: l) x.2).2 with e | h
  ·exact⟨x,qQa,e.symm⟩
  ·exact h
theorem dY{l:Rs}{n:Int}:(x,n)∈aK l↔(x,n+bE l)∈l:=by
 unfold aK
 rw[qQc]
 constructor
 ·rintro⟨r,hr,e⟩
  obtain⟨r1,r2⟩:=r
  simp only[Prod.mk.injEq] at e
  obtain⟨rfl,rfl⟩:=e
  rw[qZd]
  exact hr
 ·intro h
  exact⟨_,h,by simp⟩
theorem Cj{l:Rs}(h:l≠[]):aK l≠[]:=by
 unfold aK
 simpa using h
theorem yL{l:Rs}(h:l≠[]):bE (aK l)=0:=by
 obtain⟨r,hr,e⟩:=dE (Cj h)
 obtain⟨s,hs,e2⟩:=dE h
 have h1:(s.1,(0:Int))∈aK l:=dY.2 (by rw[Int.zero_add,<-e2];exact hs)
 have h2:=dX h1
 have h3:=dX (dY.1 (show (r.1,r.2)∈aK l from hr))
 simp only at h2 h3
 omega
theorem Ez{l:Rs}(h:bE l=0):aK l=l:=by
 unfold aK
 rw[h]
 conv=>rhs;rw[<-List.map_id l]
 congr 1
 funext r
 simp
theorem cA{l:Rs}{t:List Nat}{n:Int}:(t,n)∈aI l c↔(c :: t,n)∈l:=by
 unfold aI
 rw[List.mem_filterMap]
 constructor
 ·rintro⟨⟨x,m⟩,hr,e⟩
  cases x with
  | nil=>cases e
  | cons d y =>
   simp only at e
   split at e
   ·rename_i hd
    simp only[Option.some.injEq,Prod.mk.injEq] at e
    obtain⟨rfl,rfl⟩:=e
    subst hd
    exact hr
   ·cases e
 ·intro h
  exact⟨_,h,by simp⟩
def rW:List Nat->List Nat->Bool
 | [],[]=>false
 | [],_ :: _=>true
 | _ :: _,[]=>false
 | a :: x,b :: y=>if a=b then rW x y else decide (a<b)
def Zo(a b:List Nat × Int):Prop:=rW a.1 b.1=true
def bU(l:Rs):Prop:=l.Pairwise Zo
theorem uS(x:List Nat):rW x x=false:=by
 induction x with
 | nil=>rfl
 | cons a x ih=>simp[rW,ih]
theorem wT:∀ x y:List Nat,rW x y=true->rW y x=false
 | [],[],_=>rfl
 | [],_ :: _,_=>rfl
 | _ :: _,[],h=>by cases h
 | a :: x,b :: y,h=>by
  simp only[rW] at h ⊢
  by_cases e:a=b
  ·subst e
   rw[if_pos rfl] at h ⊢
   exact wT x y h
  ·rw[if_neg e] at h
   rw[if_neg (λh=>e h.symm)]
   simp only[decide_eq_true_eq] at h
   simp
   omega
theorem wU{y:List Nat}:rW (c :: x) (c :: y)=rW x y:=by simp[rW]
theorem fH{l:Rs}(h:bU l):bU (aK l):=by
 unfold bU aK at *
 rw[List.pairwise_map]
 exact h
theorem eQ{l:Rs}(c:Nat)(h:bU l):bU (aI l c):=by
 unfold bU aI at *
 rw[List.pairwise_filterMap]
 refine h.imp ?_
 rintro⟨x,n⟩ ⟨y,m⟩ hab b hb b' hb'
 cases x with
 | nil=>cases hb
 | cons d x =>
  cases y with
  | nil=>cases hb'
  | cons e y =>
   simp only at hb hb'
   split at hb
   ·split at hb'
    ·rename_i h1 h2
     subst h1 h2
     simp only[Option.some.injEq] at hb hb'
     subst hb hb'
     exact wU.symm.trans hab
    ·cases hb'
   ·cases hb
theorem mN{lt:α->α->Prop}(irr:∀ a,¬ lt a a)(asym:∀ a b,lt a b->¬ lt b a):∀ {l m:List α},l.Pairwise lt->m.Pairwise lt->(∀ x,x∈l↔x∈m)->l=m
 | [],[],_,_,_=>rfl
 | [],y :: m,_,_,h=>absurd ((h y).2 qQa) (List.not_mem_nil)
 | x :: l,[],_,_,h=>absurd ((h x).1 qQa) (List.not_mem_nil)
 | x :: l,y :: m,hl,hm,h=>by
  rw[qJc] at hl hm
  have e:x=y:=by
   refine Classical.byContradiction λhne=>?_
   have h1:x∈m:=by
    rcases List.mem_cons.1 ((h x).1 qQa) with e | e
    ·exact absurd e hne
    ·exact e
   have h2:y∈l:=by
    rcases List.mem_cons.1 ((h y).2 qQa) with e | e
    ·exact absurd e.symm hne
    ·exact e
   exact asym _ _ (hl.1 y h2) (hm.1 x h1)
  subst e
  rw[mN irr asym hl.2 hm.2 λz=>?_]
  constructor
  ·intro hz
   rcases List.mem_cons.1 ((h z).1 (qXa _ hz)) with e | e
   ·subst e;exact absurd (hl.1 _ hz) (irr _)
   ·exact e
  ·intro hz
   rcases List.mem_cons.1 ((h z).2 (qXa _ hz)) with e | e
   ·subst e;exact absurd (hm.1 _ hz) (irr _)
   ·exact e
theorem Dn{l m:Rs}(hl:bU l)(hm:bU m)(h:∀ x,x∈l↔x∈m):l=m :=
 mN (λa e=>by unfold Zo at e;rw[uS] at e;cases e) (λa b e f=>by unfold Zo at e f;rw[wT _ _ e] at f;cases f) hl hm h
theorem Ny{l:Rs}(h:bU l){n m:Int}(h1:(x,n)∈l)(h2:(x,m)∈l):n=m:=by
 induction l with
 | nil=>cases h1
 | cons y l ih =>
  unfold bU at h
  rw[qJc] at h
  rcases List.mem_cons.1 h1 with e | e<;>rcases List.mem_cons.1 h2 with f | f
  ·rw[<-e] at f;injection f with _ f;exact f.symm
  ·have:=h.1 _ f;rw[<-e] at this;unfold Zo at this;rw[uS] at this;cases this
  ·have:=h.1 _ e;rw[<-f] at this;unfold Zo at this;rw[uS] at this;cases this
  ·exact ih h.2 e f
theorem sG{out:List Nat}{r:List Nat × Int}:c∈kK out r↔c∈out\/r.1.head? = some c:=by
 unfold kK
 obtain⟨x,n⟩:=r
 cases x with
 | nil=>simp
 | cons d t =>
  simp only[qJd,Option.some.injEq]
  split
  ·rename_i h
   have hd:d∈out:=qXj h
   constructor
   ·exact .inl
   ·rintro (h | h)
    ·exact h
    ·exact h ▸ hd
  ·rw[qXg,qZf]
   exact or_congr_right eq_comm
theorem zN(l:Rs):∀ (out:List Nat) (c:Nat),c∈l.foldl kK out↔c∈out\/∃ r∈l,r.1.head? = some c:=by
 induction l with
 | nil=>intro out c;simp
 | cons x l ih =>
  intro out c
  rw[qXd,ih,sG]
  simp only[qZa,exists_eq_or_imp]
  exact or_assoc
theorem bO{l:Rs}:c∈aO l↔aI l c≠[]:=by
 unfold aO
 rw[zN]
 constructor
 ·rintro (h | ⟨⟨x,n⟩,hr,h⟩)
  ·cases h
  ·cases x with
   | nil=>cases h
   | cons d t =>
    simp only[qJd,Option.some.injEq] at h
    subst h
    exact qJj (cA.2 hr)
 ·intro h
  obtain⟨⟨t,n⟩,ht⟩:=qXl _ h
  exact .inr ⟨_,cA.1 ht,rfl⟩
theorem Xg{y:List Nat}{a:Nat}(h:rW x y=true)(ha:x.head? = some a)(hb:y.head? = some b):a<=b:=by
 cases x with
 | nil=>cases ha
 | cons c x =>
  cases y with
  | nil=>cases hb
  | cons d y =>
   simp only[qJd,Option.some.injEq] at ha hb
   subst ha hb
   simp only[rW] at h
   split at h
   ·omega
   ·simp only[decide_eq_true_eq] at h;omega
theorem sR{out:List Nat}{r:List Nat × Int}(ho:out.Pairwise (·<·))(hb:∀ d,r.1.head? = some d->∀ x∈out,x<=d):(kK out r).Pairwise (·<·):=by
 obtain⟨x,n⟩:=r
 cases x with
 | nil=>exact ho
 | cons d t =>
  unfold kK
  simp only
  split
  ·exact ho
  ·rename_i hne
   rw[List.pairwise_append]
   refine⟨ho,qJo _ _,λa ha b hbb=>?_⟩
   rw[qZf] at hbb
   subst hbb
   have h1:=hb b rfl a ha
   rcases Nat.lt_or_ge a b with h | h
   ·exact h
   ·have e:a=b:=by omega
    subst e
    exfalso
    apply hne
    cases hlast:out.getLast? with
    | none=>rw[qZn] at hlast;subst hlast;cases ha
    | some z =>
     have hz:=qXj hlast
     have h2:=hb a rfl z hz
     obtain⟨ini,rfl⟩:=List.getLast?_eq_some_iff.1 hlast
     rw[List.pairwise_append] at ho
     rcases List.mem_append.1 ha with h | h
     ·have:=ho.2.2 a h z (by simp);omega
     ·rw[qZf] at h;rw[h]
theorem sU(l:Rs):∀ out:List Nat,out.Pairwise (·<·)->bU l->(∀ r∈l,∀ d,r.1.head? = some d->∀ x∈out,x<=d)->(l.foldl kK out).Pairwise (·<·):=by
 induction l with
 | nil=>intro out ho _ _;exact ho
 | cons y l ih =>
  intro out ho hs hb
  unfold bU at hs
  rw[qJc] at hs
  rw[qXd]
  refine ih _ (sR ho (hb y qQa)) hs.2 ?_
  intro r hr d hd x hx
  rcases sG.1 hx with h | h
  ·exact hb r (qXa _ hr) d hd x h
  ·exact Xg (hs.1 r hr) h hd
theorem dG{l:Rs}(h:bU l):(aO l).Pairwise (·<·):=sU l [] List.Pairwise.nil h (λ_ _ _ _ x hx=>by cases hx)
theorem eY{l:Rs}:gY l=true↔∃ n,([],n)∈l:=by
 unfold gY
 rw[List.any_eq_true]
 constructor
 ·rintro⟨⟨x,n⟩,hr,e⟩
  simp only[decide_eq_true_eq] at e
  subst e
  exact⟨n,hr⟩
 ·rintro⟨n,h⟩
  exact⟨_,h,by simp⟩
theorem Gm(l:Rs):∀ o:Int,bU l->(∀ n,([],n)∈l->l.foldl (λo r=>if r.1=[] then r.2 else o) o=n)/\((∀ n,([],n) ∉ l)->l.foldl (λo r=>if r.1=[] then r.2 else o) o=o):=by
 induction l with
 | nil=>intro o _;exact⟨λn h=>(by cases h),λ_=>rfl⟩
 | cons y l ih =>
  intro o hs
  have hs2:bU l:=by unfold bU at hs ⊢;exact (List.pairwise_cons.1 hs).2
  obtain⟨x,m⟩:=y
  simp only[qXd]
  by_cases hx:x=[]
  ·subst hx
   rw[if_pos rfl]
   have hno:∀ n,([],n) ∉ l:=by
    intro n hn
    unfold bU at hs
    have:=(List.pairwise_cons.1 hs).1 _ hn
    cases this
   refine⟨λn hn=>?_,λh=>absurd qQa (h m)⟩
   rw[(ih m hs2).2 hno]
   exact Ny hs qQa hn
  ·rw[if_neg hx]
   refine⟨λn hn=>(ih o hs2).1 n ?_,λh=>(ih o hs2).2 λn hn=>h n (qXa _ hn)⟩
   rcases List.mem_cons.1 hn with e | e
   ·injection e with e _;exact absurd e.symm hx
   ·exact e
theorem iF{l:Rs}(h:bU l){n:Int}(hn:([],n)∈l):rX l=n:=(Gm l 0 h).1 n hn
theorem xG{l:Rs}(h:bU l)(hn:gY l=false):rX l=0:=(Gm l 0 h).2 λn e=>by
 have:=eY.2 ⟨n,e⟩
 rw[hn] at this
 cases this
theorem zX{l:Rs}(h:bU l){n:Int}:([],n)∈l↔gY l=true/\rX l=n:=by
 constructor
 ·intro hn;exact⟨eY.2 ⟨n,hn⟩,iF h hn⟩
 ·rintro⟨h1,h2⟩
  obtain⟨m,hm⟩:=eY.1 h1
  rw[iF h hm] at h2
  rw[<-h2]
  exact hm
def gT:Rs->Nat
 | []=>0
 | r :: l=>max r.1.length (gT l)
theorem Ua{l:Rs}{r:List Nat × Int}(h:r∈l):r.1.length<=gT l:=by
 induction l with
 | nil=>cases h
 | cons x l ih =>
  unfold gT
  rcases List.mem_cons.1 h with e | e
  ·subst e;exact Nat.le_max_left _ _
  ·exact Nat.le_trans (ih e) (Nat.le_max_right _ _)
theorem zW{l:Rs}(hd:0<d)(h:∀ r∈l,r.1.length<d):gT l<d:=by
 induction l with
 | nil=>exact hd
 | cons x l ih =>
  unfold gT
  exact Nat.max_lt.2 ⟨h x qQa,ih λr hr=>h r (qXa _ hr)⟩
theorem gC(l:Rs):gT (aK l)=gT l:=by
 unfold aK
 generalize bE l=n
 induction l with
 | nil=>rfl
 | cons x l ih=>simp only[qJb,gT,ih]
theorem gD{l:Rs}(h:aI l c≠[]):gT (aI l c)<gT l:=by
 obtain⟨⟨t,n⟩,ht⟩:=qXl _ h
 have h1:=Ua (cA.1 ht)
 simp only[qXc] at h1
 refine zW (by omega) λr hr=>?_
 have h2:=Ua (cA.1 (show (r.1,r.2)∈aI l c from hr))
 simp only[qXc] at h2
 omega
structure zF(rests:List Rs)(i:Nat)(R:Rs)(s:cU):Prop where
 sort:bU R
 ne:R≠[]
 least:bE R=0
 fin:s.fin=gY R
 out:s.out=rX R
 labels:s.arcs.map (·.1)=aO R
 arc:∀ a∈s.arcs,a.2.1=bE (aI R a.1)/\a.2.2<i/\rests[a.2.2]? = some (aK (aI R a.1))
structure nY(k:kG):Prop where
 len:k.rests.length=k.states.length
 corr:∀ i R s,k.rests[i]? = some R->k.states[i]? = some s->zF k.rests i R s
 nodup:k.rests.Nodup
def Km(d:Nat)(k k':kG):Prop:=∃ a b,k'.rests=k.rests++a/\k'.states=k.states++b/\∀ X∈a,gT X<d
theorem Km.refl(d:Nat)(k:kG):Km d k k:=⟨[],[],by simp,by simp,λX h=>by cases h⟩
theorem Km.trans{k k' k'':kG}(h:Km d k k')(g:Km d k' k''):Km d k k'':=by
 obtain⟨a,b,e1,e2,e3⟩:=h
 obtain⟨a',b',f1,f2,f3⟩:=g
 refine⟨a++a',b++b',by rw[f1,e1,qJh],by rw[f2,e2,qJh],λX hX=>?_⟩
 rcases List.mem_append.1 hX with h | h
 ·exact e3 X h
 ·exact f3 X h
theorem Km.mono{d':Nat}{k k':kG}(h:Km d k k')(hd:d<=d'):Km d' k k':=by
 obtain⟨a,b,e1,e2,e3⟩:=h
 exact⟨a,b,e1,e2,λX hX=>Nat.lt_of_lt_of_le (e3 X hX) hd⟩
theorem Km.at{k k':kG}(h:Km d k k'){R:Rs}(hR:k.rests[i]? = some R):k'.rests[i]? = some R:=by
 obtain⟨a,b,e1,_,_⟩:=h
 rw[e1,qXe (List.getElem?_eq_some_iff.1 hR).1]
 exact hR
theorem zF.ext{rests a:List Rs}{R:Rs}{s:cU}(h:zF rests i R s):zF (rests++a) i R s :=
 ⟨h.sort,h.ne,h.least,h.fin,h.out,h.labels,λx hx=>⟨(h.arc x hx).1,(h.arc x hx).2.1,by
  have:=(h.arc x hx).2.2
  rw[qXe (List.getElem?_eq_some_iff.1 this).1]
  exact this⟩⟩
theorem rJ{all:List Rs}{l:Rs}(h:qP all l=some i):all[i]? = some l:=by
 unfold qP at h
 obtain⟨hi,h1,_⟩:=List.findIdx?_eq_some_iff_getElem.1 h
 rw[qJa]
 exact⟨hi,of_decide_eq_true h1⟩
theorem wQ{all:List Rs}{l:Rs}(h:qP all l=none):l ∉ all:=by
 unfold qP at h
 rw[List.findIdx?_eq_none_iff] at h
 intro hl
 have:=h l hl
 simp at this
def aIq(st:kG->Rs->kG × Nat)(f:Nat):Prop:=∀ k l,nY k->bU l->l≠[]->gT l<f->nY (st k l).1/\Km (gT l+1) k (st k l).1/\(st k l).1.rests[(st k l).2]? = some (aK l)
theorem tZ{st:kG->Rs->kG × Nat}(hst:aIq st f){R:Rs}(hR:bU R)(hd:gT R<=f):∀ (cs:List Nat) (k:kG),nY k->(∀ c∈cs,aI R c≠[]) ->
  nY (cY st R k cs).1/\Km (gT R) k (cY st R k cs).1/\(cY st R k cs).2.map (·.1)=cs /\
  ∀ a∈(cY st R k cs).2,a.2.1=bE (aI R a.1)/\(cY st R k cs).1.rests[a.2.2]? = some (aK (aI R a.1))
 | [],k,hk,_=>⟨hk,Km.refl _ _,rfl,λa h=>by cases h⟩
 | c :: cs,k,hk,hc=>by
  have hu:=hc c qQa
  have hdu:=gD hu
  obtain⟨g1,g2,g3⟩:=hst k (aI R c) hk (eQ c hR) hu (by omega)
  obtain⟨h1,h2,h3,h4⟩:=tZ hst hR hd cs (st k (aI R c)).1 g1 (λx hx=>hc x (qXa _ hx))
  refine⟨h1,(g2.mono (by omega)).trans h2,by simp only[cY,qJb,h3],λa ha=>?_⟩
  simp only[cY] at ha
  rcases List.mem_cons.1 ha with e | e
  ·subst e
   exact⟨rfl,h2.at g3⟩
  ·exact h4 a e
theorem aCv{k k1:kG}{R:Rs}(hk:R ∉ k.rests)(hR:bU R)(hne:R≠[])(hl:bE R=0)(h1:nY k1)(h2:Km (gT R) k k1)(h3:arcs.map (·.1)=aO R)
  (h4:∀ a∈arcs,a.2.1=bE (aI R a.1)/\k1.rests[a.2.2]? = some (aK (aI R a.1))) :
  nY ⟨k1.rests++[R],k1.states++[⟨gY R,rX R,arcs⟩]⟩:=by
 refine⟨by simp[h1.len],?_,?_⟩
 ·intro i S s hS hs
  simp only at hS hs
  by_cases hi:i<k1.rests.length
  ·rw[qXe hi] at hS
   rw[qXe (by rw[<-h1.len];exact hi)] at hs
   exact (h1.corr i S s hS hs).ext
  ·have hi2:i=k1.rests.length:=by
    have:=(List.getElem?_eq_some_iff.1 hS).1
    rw[qJi] at this
    simp at this
    omega
   subst hi2
   rw[qJe (qZb _),qZh] at hS
   rw[h1.len,qJe (qZb _),qZh] at hs
   simp only[List.getElem?_cons_zero,Option.some.injEq] at hS hs
   subst hS hs
   refine⟨hR,hne,hl,rfl,rfl,h3,λa ha=>⟨(h4 a ha).1,(List.getElem?_eq_some_iff.1 (h4 a ha).2).1,?_⟩⟩
   rw[qXe (List.getElem?_eq_some_iff.1 (h4 a ha).2).1]
   exact (h4 a ha).2
 ·rw[List.nodup_append]
  refine⟨h1.nodup,by simp,?_⟩
  intro a ha b hb
  rw[qZf] at hb
  subst hb
  rintro rfl
  obtain⟨x,y,e1,_,e3⟩:=h2
  rw[e1] at ha
  rcases List.mem_append.1 ha with h | h
  ·exact hk h
  ·exact absurd (e3 _ h) (Nat.lt_irrefl _)
theorem lM:∀ f,aIq (bJ f) f
 | 0=>λk l _ _ _ h=>absurd h (Nat.not_lt_zero _)
 | f+1=>λk l hk hs hne hd=>by
  have hR:=fH hs
  have hRn:=Cj hne
  have hRl:=yL hne
  have hRd:=gC l
  simp only[bJ]
  cases hi:qP k.rests (aK l) with
  | some i=>exact⟨hk,Km.refl _ _,rJ hi⟩
  | none =>
   obtain⟨h1,h2,h3,h4⟩:=tZ (lM f) hR (by omega) (aO (aK l)) k hk (λc hc=>bO.1 hc)
   refine⟨aCv (wQ hi) hR hRn hRl h1 h2 h3 h4,?_,?_⟩
   ·rw[<-hRd]
    refine (h2.mono (Nat.le_succ _)).trans ⟨[aK l],[_],rfl,rfl,λX hX=>?_⟩
    rw[qZf] at hX
    subst hX
    exact Nat.lt_succ_self _
   ·simp only
    rw[<-h1.len,qJe (qZb _),qZh]
    rfl
theorem pT{R:Rs}{t:List Nat}{n:Int}:(t,n)∈aK (aI R c)↔(c :: t,n+bE (aI R c))∈R:=by rw[dY,cA]
theorem zF.mem_cons{rests:List Rs}{R:Rs}{s:cU}(h:zF rests i R s){t:List Nat}{n:Int} :
  (c :: t,n)∈R↔∃ a∈s.arcs,a.1=c/\∃ X,rests[a.2.2]? = some X/\(t,n-a.2.1)∈X:=by
 constructor
 ·intro hm
  have hc:c∈aO R:=bO.2 (qJj (cA.2 hm))
  rw[<-h.labels] at hc
  obtain⟨a,ha,rfl⟩:=List.mem_map.1 hc
  refine⟨a,ha,rfl,_,(h.arc a ha).2.2,?_⟩
  rw[pT,(h.arc a ha).1,qZd]
  exact hm
 ·rintro⟨a,ha,rfl,X,hX,hm⟩
  rw[(h.arc a ha).2.2] at hX
  injection hX with hX
  subst hX
  rw[pT,(h.arc a ha).1,qZd] at hm
  exact hm
theorem nY.unalike{k:kG}(h:nY k){s:cU}(hi:k.states[i]? = some s)(hj:k.states[j]? = some s):i=j:=by
 have li:i<k.rests.length:=by rw[h.len];exact (List.getElem?_eq_some_iff.1 hi).1
 have lj:j<k.rests.length:=by rw[h.len];exact (List.getElem?_eq_some_iff.1 hj).1
 have ri:k.rests[i]? = some k.rests[i]:=qQg li
 have rj:k.rests[j]? = some k.rests[j]:=qQg lj
 have ci:=h.corr i _ _ ri hi
 have cj:=h.corr j _ _ rj hj
 have e:k.rests[i]=k.rests[j]:=Dn ci.sort cj.sort λx=>by
  obtain⟨x,n⟩:=x
  cases x with
  | nil=>rw[zX ci.sort,zX cj.sort,<-ci.fin,<-ci.out,<-cj.fin,<-cj.out]
  | cons c t=>rw[ci.mem_cons,cj.mem_cons]
 exact (List.getElem_inj h.nodup).1 e
def gJ:Rs->Nat
 | []=>0
 | r :: l=>r.1.length+gJ l
def Dz(c:Nat):Rs->Nat
 | []=>0
 | r :: l=>(if r.1.head? = some c then r.1.length else 0)+Dz c l
theorem tV(l:Rs)(c:Nat):gJ (aI l c)+(aI l c).length=Dz c l:=by
 induction l with
 | nil=>rfl
 | cons r l ih =>
  obtain⟨x,n⟩:=r
  cases x with
  | nil=>simpa [aI,Dz] using ih
  | cons d t =>
   by_cases h:d=c
   ·subst h
    have e:aI ((d :: t,n) :: l) d=(t,n) :: aI l d:=by simp[aI]
    rw[e]
    simp only[gJ,Dz,qJd,qXc,if_pos]
    omega
   ·have e:aI ((d :: t,n) :: l) c=aI l c:=by simp[aI,h]
    rw[e]
    simp only[Dz,qJd,Option.some.injEq,if_neg h]
    omega
theorem vP(cs:List Nat):(cs.map λ_=>0).sum=0:=by
 induction cs with
 | nil=>rfl
 | cons c cs ih=>simp only[qJb,qXf,ih]
theorem Uw(f g:Nat->Nat)(cs:List Nat):(cs.map λc=>f c+g c).sum=(cs.map f).sum+(cs.map g).sum:=by
 induction cs with
 | nil=>rfl
 | cons c cs ih=>simp only[qJb,qXf,ih];omega
theorem Ea(l:Rs):∀ cs:List Nat,cs.Nodup->(cs.map λc=>Dz c l).sum<=gJ l:=by
 induction l with
 | nil=>intro cs _;simp only[Dz,gJ];rw[vP];exact qZb _
 | cons r l ih =>
  intro cs hcs
  have h1:=ih cs hcs
  have h2:∀ cs:List Nat,cs.Nodup->(cs.map λc=>if r.1.head? = some c then r.1.length else 0).sum<=r.1.length:=by
   intro cs
   induction cs with
   | nil=>simp
   | cons c cs ih2 =>
    intro hn
    rw[qQk] at hn
    simp only[qJb,qXf]
    by_cases hc:r.1.head? = some c
    ·rw[if_pos hc]
     have e:(cs.map λc=>if r.1.head? = some c then r.1.length else 0)=cs.map λ_=>0:=by
      refine qZg λd hd=>if_neg λe=>?_
      rw[hc] at e
      injection e with e
      subst e
      exact hn.1 hd
     rw[e,vP]
     exact qZb _
    ·rw[if_neg hc,Nat.zero_add]
     exact ih2 hn.2
  have h3:=h2 cs hcs
  have h4:(cs.map λc=>Dz c (r :: l)).sum=(cs.map λc=>if r.1.head? = some c then r.1.length else 0).sum+(cs.map λc=>Dz c l).sum:=Uw _ _ cs
  rw[h4]
  simp only[gJ]
  omega
theorem Eb(l:Rs):gJ (aK l)=gJ l:=by
 unfold aK
 generalize bE l=n
 induction l with
 | nil=>rfl
 | cons x l ih=>simp only[qJb,gJ,ih]
def aIh(st:kG->Rs->kG × Nat):Prop:=∀ k l,bU l->(st k l).1.states.length<=k.states.length+gJ l+1
theorem Kt{st:kG->Rs->kG × Nat}(hst:aIh st){R:Rs}(hR:bU R):∀ (cs:List Nat) (k:kG),(∀ c∈cs,aI R c≠[])->(cY st R k cs).1.states.length<=k.states.length+(cs.map λc=>Dz c R).sum
 | [],k,_=>by simp[cY]
 | c :: cs,k,hc=>by
  have h1:=hst k (aI R c) (eQ c hR)
  have h2:=Kt hst hR cs (st k (aI R c)).1 (λx hx=>hc x (qXa _ hx))
  have h3:=tV R c
  have h4:0<(aI R c).length:=List.length_pos_iff.2 (hc c qQa)
  simp only[cY,qJb,qXf]
  omega
theorem tR:∀ f,aIh (bJ f)
 | 0=>λk l _=>by simp only[bJ];omega
 | f+1=>λk l hs=>by
  simp only[bJ]
  cases hi:qP k.rests (aK l) with
  | some i=>simp only;omega
  | none =>
   simp only[qJi,qXc,qQj]
   have h1:=Kt (tR f) (fH hs) (aO (aK l)) k (λc hc=>bO.1 hc)
   have h2:=Ea (aK l) (aO (aK l)) ((dG (fH hs)).imp λh=>Nat.ne_of_lt h)
   rw[Eb] at h2
   omega
def jD(N m:Nat):List Bool:=(qJg N).map λj=>decide (j<m)
theorem rO{N:Nat}(h:j<N):(jD N m).getD j false=decide (j<m):=by simp[jD,qQb,h]
theorem Hy{N:Nat}(_:m<N):(jD N m).set m true=jD N (m+1):=by
 apply List.ext_getElem
 ·simp[jD]
 ·intro i h1 h2
  simp only[jD,List.length_set,List.length_map,List.length_range] at h1
  rw[List.getElem_set]
  simp only[jD,List.getElem_map,List.getElem_range]
  by_cases e:m=i
  ·subst e;simp
  ·rw[if_neg e]
   simp only[decide_eq_decide]
   omega
theorem Dk(N:Nat):jD N 0=List.replicate N false:=by
 apply List.ext_getElem
 ·simp[jD]
 ·intro i h1 h2
  simp[jD]
def aY:cU:=⟨false,0,[]⟩
def eD(v:Nat->List Bool->Nat->Bool × List Bool × Nat):List (Nat × Int × Nat)->List Bool->Nat->Bool × List Bool × Nat
 | [],s,n=>(true,s,n)
 | a :: l,s,n=>if s.getD a.2.2 false=true then eD v l s n else match v a.2.2 s n with
  | (true,s',n')=>eD v l s' n'
  | (false,s',n')=>(false,s',n')
def gZ(sts:List cU):Nat->Nat->List Bool->Nat->Bool × List Bool × Nat
 | 0,_,s,n=>(false,s,n)
 | f+1,i,s,n=>match eD (gZ sts f) (sts.getD i aY).arcs s n with
  | (true,s',n')=>(decide (n'+1=i+1),s'.set i true,n'+1)
  | (false,s',n')=>(false,s',n')
def aIi(sts:List cU)(st:kG->Rs->kG × Nat)(f:Nat):Prop:=∀ k l,nY k->bU l->l≠[]->gT l<f->(st k l).1.states <+: sts ->
 ((st k l).1=k/\(st k l).2<k.states.length)\/(k.states.length<=(st k l).2/\(st k l).2+1=(st k l).1.states.length /\
   ∀ F,f<=F->gZ sts F (st k l).2 (jD sts.length k.states.length) k.states.length=(true,jD sts.length (st k l).1.states.length,(st k l).1.states.length))
theorem Km.pre{k k':kG}(h:Km d k k'):k.states <+: k'.states:=by
 obtain⟨_,b,_,e,_⟩:=h
 exact⟨b,e.symm⟩
theorem Kx{sts:List cU}{st:kG->Rs->kG × Nat}(hv:aIi sts st f)(hok:aIq st f){R:Rs}(hR:bU R)(hd:gT R<=f):∀ (cs:List Nat) (k:kG),nY k->(∀ c∈cs,aI R c≠[]) ->
  (cY st R k cs).1.states <+: sts->∀ F,f<=F->eD (gZ sts F) (cY st R k cs).2 (jD sts.length k.states.length) k.states.length=(true,jD sts.length (cY st R k cs).1.states.length,(cY st R k cs).1.states.length)
 | [],k,_,_,_,F,_=>rfl
 | c :: cs,k,hk,hc,hp,F,hF=>by
  have hu:=hc c qQa
  have hdu:=gD hu
  obtain⟨g1,g2,_⟩:=hok k (aI R c) hk (eQ c hR) hu (by omega)
  obtain⟨_,h2,_,_⟩:=tZ hok hR hd cs (st k (aI R c)).1 g1 (λx hx=>hc x (qXa _ hx))
  have hpq:(st k (aI R c)).1.states <+: sts:=h2.pre.trans hp
  have ih:=Kx hv hok hR hd cs (st k (aI R c)).1 g1 (λx hx=>hc x (qXa _ hx)) hp F hF
  have hkl:k.states.length<=sts.length:=(g2.pre.trans hpq).length_le
  simp only[cY,eD]
  rcases hv k (aI R c) hk (eQ c hR) hu (by omega) hpq with⟨e1,e2⟩ | ⟨e1,e2,e3⟩
  ·rw[rO (by omega),if_pos (by simpa using e2)]
   rw[e1] at ih ⊢
   exact ih
  ·have hql:(st k (aI R c)).1.states.length<=sts.length:=hpq.length_le
   rw[rO (by omega),if_neg (by simpa using e1),e3 F hF]
   exact ih
theorem Dp(sts:List cU):∀ f,aIi sts (bJ f) f
 | 0=>λk l _ _ _ h _=>absurd h (Nat.not_lt_zero _)
 | f+1=>λk l hk hs hne hd=>by
  have hR:=fH hs
  have hRd:=gC l
  simp only[bJ]
  cases hi:qP k.rests (aK l) with
  | some i =>
   intro _
   left
   refine⟨rfl,?_⟩
   have:=(List.getElem?_eq_some_iff.1 (rJ hi)).1
   rw[hk.len] at this
   exact this
  | none =>
   intro hp
   right
   obtain⟨h1,h2,_,_⟩:=tZ (lM f) hR (by omega) (aO (aK l)) k hk (λc hc=>bO.1 hc)
   simp only at hp ⊢
   have hpp:=h2.pre
   have hps:(cY (bJ f) (aK l) k (aO (aK l))).1.states <+: sts:=(List.prefix_append _ _).trans hp
   refine⟨hpp.length_le,by simp,λF hF=>?_⟩
   obtain⟨F,rfl⟩:∃ F',F=F'+1:=⟨F-1,by omega⟩
   have hv:=Kx (Dp sts f) (lM f) hR (by omega) (aO (aK l)) k hk (λc hc=>bO.1 hc) hps F (by omega)
   have hlen:(cY (bJ f) (aK l) k (aO (aK l))).1.states.length<sts.length:=by
    have:=hp.length_le
    rw[qJi] at this
    simp at this
    omega
   have hst:sts.getD (cY (bJ f) (aK l) k (aO (aK l))).1.states.length aY=⟨gY (aK l),rX (aK l),(cY (bJ f) (aK l) k (aO (aK l))).2⟩:=by
    obtain⟨t,ht⟩:=hp
    rw[<-ht,List.getD_eq_getElem?_getD,qJh,qJe (qZb _),qZh]
    rfl
   simp only[gZ]
   rw[hst]
   simp only
   rw[hv]
   simp only
   rw[Hy hlen]
   simp
theorem Lq(l:Rs):∀ cs:List Nat,cs.Nodup->(∀ r∈l,∀ c,r.1.head? = some c->c∈cs)->l.length=(l.filter λr=>decide (r.1=[])).length+(cs.map λc=>(aI l c).length).sum:=by
 induction l with
 | nil=>intro cs _ _;simp only[aI,List.filterMap_nil,qQj];rw[vP];rfl
 | cons r l ih =>
  intro cs hcs hh
  have h1:=ih cs hcs λx hx=>hh x (qXa _ hx)
  obtain⟨x,n⟩:=r
  cases x with
  | nil =>
   have e:(cs.map λc=>(aI (([],n) :: l) c).length)=cs.map λc=>(aI l c).length:=by
    refine qZg λc _=>?_
    simp[aI]
   rw[e]
   simp only[List.filter_cons,decide_true,if_true,qXc]
   omega
  | cons d t =>
   have hd:=hh _ qQa d rfl
   have h2:∀ cs:List Nat,cs.Nodup->d∈cs->(cs.map λc=>if c=d then 1 else 0).sum=1:=by
    intro cs
    induction cs with
    | nil=>intro _ h;cases h
    | cons c cs ih2 =>
     intro hn hm
     rw[qQk] at hn
     simp only[qJb,qXf]
     by_cases hc:c=d
     ·subst hc
      rw[if_pos rfl]
      have e:(cs.map λx=>if x=c then 1 else 0)=cs.map λ_=>0:=qZg λx hx=>if_neg λ(e:x=c)=>hn.1 (by rw[<-e];exact hx)
      rw[e,vP]
     ·rw[if_neg hc,Nat.zero_add]
      rcases List.mem_cons.1 hm with e | e
      ·exact absurd e.symm hc
      ·exact ih2 hn.2 e
   have e:(cs.map λc=>(aI ((d :: t,n) :: l) c).length)=cs.map λc=>(if c=d then 1 else 0)+(aI l c).length:=by
    refine qZg λc _=>?_
    by_cases hc:c=d
    ·subst hc;simp[aI];omega
    ·have hc2:¬ d=c:=λe=>hc e.symm
     simp[aI,hc,hc2]
   rw[e,Uw (λc=>if c=d then 1 else 0) (λc=>(aI l c).length) cs,h2 cs hcs hd]
   simp only[List.filter_cons,qXc]
   simp only[reduceCtorEq,decide_false,Bool.false_eq_true,if_false]
   omega
theorem Xw{l:Rs}(h:bU l):(l.filter λr=>decide (r.1=[])).length=if gY l=true then 1 else 0:=by
 induction l with
 | nil=>rfl
 | cons r l ih =>
  have hs2:bU l:=by unfold bU at h ⊢;exact (List.pairwise_cons.1 h).2
  obtain⟨x,n⟩:=r
  cases x with
  | nil =>
   have hno:l.filter (λr=>decide (r.1=[]))=[]:=by
    rw[qZm]
    intro r hr
    unfold bU at h
    have:=(List.pairwise_cons.1 h).1 r hr
    obtain⟨y,m⟩:=r
    cases y with
    | nil=>cases this
    | cons _ _=>simp
   have hf:gY (([],n) :: l)=true:=eY.2 ⟨n,qQa⟩
   rw[hf]
   simp[hno]
  | cons d t =>
   have hf:gY ((d :: t,n) :: l)=gY l:=by simp[gY]
   rw[hf,<-ih hs2]
   simp
theorem Pg{l:Rs}(h:bU l):l.length=(if gY l=true then 1 else 0)+((aO l).map λc=>(aI l c).length).sum:=by
 rw[<-Xw h]
 refine Lq l (aO l) ((dG h).imp λh=>Nat.ne_of_lt h) λr hr c hc=>?_
 rw[bO]
 obtain⟨x,n⟩:=r
 cases x with
 | nil=>cases hc
 | cons d t =>
  simp only[qJd,Option.some.injEq] at hc
  subst hc
  exact qJj (cA.2 hr)
theorem Tk{r:Nat}(h:fT bs=(r,n))(hn:n≠0):scal r=true/\aN r=bs.take n:=by
 have hex:∃ m,1<=m/\m<=4/\m<=bs.length/\Hit m bs:=Classical.byContradiction λhno=>by
  have:=Il (bs:=bs) λm h1 h4 hl hh=>hno ⟨m,h1,h4,hl,hh⟩
  rw[this] at h
  injection h with _ h
  exact hn h.symm
 obtain⟨m,h1,h4,hl,hh⟩:=hex
 have e:=vR h1 h4 hl hh
 rw[h] at e
 injection e with e1 e2
 subst e1 e2
 exact hh
theorem cL(n:Nat):∀ (bs:List UInt8) (x:List Nat),bs.length<=n->bZ bs=some x->bs=x.flatMap aN/\∀ r∈x,scal r=true:=by
 induction n with
 | zero =>
  intro bs x hl h
  have:bs=[]:=qQi (by omega)
  subst this
  rw[kN] at h
  injection h with h
  subst h
  exact⟨rfl,λr hr=>by cases hr⟩
 | succ n ih =>
  intro bs x hl h
  by_cases hz:bs=[]
  ·subst hz
   rw[kN] at h
   injection h with h
   subst h
   exact⟨rfl,λr hr=>by cases hr⟩
  ·have hp:0<bs.length:=List.length_pos_iff.2 hz
   rw[kT hp] at h
   by_cases h0:(fT bs).2=0
   ·rw[if_pos h0] at h;cases h
   ·rw[if_neg h0] at h
    obtain⟨y,hy,rfl⟩:=Option.map_eq_some_iff.1 h
    obtain⟨e1,e2⟩:=Tk (bs:=bs) (r:=(fT bs).1) (n:=(fT bs).2) rfl h0
    obtain⟨e3,e4⟩:=ih (bs.drop (fT bs).2) y (by rw[List.length_drop];omega) hy
    refine⟨?_,?_⟩
    ·rw[qZe,e2,<-e3,List.take_append_drop]
    ·intro r hr
     rcases List.mem_cons.1 hr with e | e
     ·rw[e];exact e1
     ·exact e4 r e
theorem Si{a b:List UInt8}(ha:bZ a=some x)(hb:bZ b=some x):a=b :=
 (cL _ a x (qZb _) ha).1.trans (cL _ b x (qZb _) hb).1.symm
theorem iZ{p:Nat}(hp:p<256)(hq:q<256)(x y:List UInt8):Op.bytesLess (UInt8.ofNat p :: x) (UInt8.ofNat q :: y)=if p=q then Op.bytesLess x y else decide (p<q):=by
 have hP:(UInt8.ofNat p).toNat=p:=by rw[UInt8.toNat_ofNat'];omega
 have hQ:(UInt8.ofNat q).toNat=q:=by rw[UInt8.toNat_ofNat'];omega
 by_cases e:p=q
 ·subst e
  rw[if_pos rfl]
  simp[Op.bytesLess,UInt8.lt_irrefl]
 ·rw[if_neg e]
  have hne:UInt8.ofNat p≠UInt8.ofNat q:=λh=>e (by rw[<-hP,<-hQ,h])
  have hlt:(UInt8.ofNat p<UInt8.ofNat q)↔p<q:=by rw[UInt8.lt_iff_toNat_lt,hP,hQ]
  simp[Op.bytesLess,hne,hlt]
theorem aFj(p x y:List UInt8):Op.bytesLess (p++x) (p++y)=Op.bytesLess x y:=by
 induction p with
 | nil=>rfl
 | cons a p ih=>simp[Op.bytesLess,UInt8.lt_irrefl,ih]
theorem Eh{a:Nat}(h:a<b)(hb:b<1114112)(s t:List UInt8):Op.bytesLess (aN a++s) (aN b++t)=true:=by
 unfold aN
 by_cases a1:a<128
 ·rw[if_pos a1]
  by_cases b1:b<128
  ·rw[if_pos b1]
   simp only[qXb,qZc]
   rw[iZ (by omega) (by omega),if_neg (by omega)]
   exact decide_eq_true h
  ·rw[if_neg b1]
   by_cases b2:b<2048
   ·rw[if_pos b2];simp only[qXb,qZc];rw[iZ (by omega) (by omega),if_neg (by omega)];exact decide_eq_true (by omega)
   ·rw[if_neg b2]
    by_cases b3:b<65536
    ·rw[if_pos b3];simp only[qXb,qZc];rw[iZ (by omega) (by omega),if_neg (by omega)];exact decide_eq_true (by omega)
    ·rw[if_neg b3];simp only[qXb,qZc];rw[iZ (by omega) (by omega),if_neg (by omega)];exact decide_eq_true (by omega)
 ·rw[if_neg a1,if_neg (show ¬ b<128 by omega)]
  by_cases a2:a<2048
  ·rw[if_pos a2]
   by_cases b2:b<2048
   ·rw[if_pos b2]
    simp only[qXb,qZc]
    rw[iZ (by omega) (by omega)]
    by_cases e1:192+a / 64=192+b / 64
    ·rw[if_pos e1,iZ (by omega) (by omega),if_neg (by omega)];exact decide_eq_true (by omega)
    ·rw[if_neg e1];exact decide_eq_true (by omega)
   ·rw[if_neg b2]
    by_cases b3:b<65536
    ·rw[if_pos b3];simp only[qXb,qZc];rw[iZ (by omega) (by omega),if_neg (by omega)];exact decide_eq_true (by omega)
    ·rw[if_neg b3];simp only[qXb,qZc];rw[iZ (by omega) (by omega),if_neg (by omega)];exact decide_eq_true (by omega)
  ·rw[if_neg a2,if_neg (show ¬ b<2048 by omega)]
   by_cases a3:a<65536
   ·rw[if_pos a3]
    by_cases b3:b<65536
    ·rw[if_pos b3]
     simp only[qXb,qZc]
     rw[iZ (by omega) (by omega)]
     by_cases e1:224+a / 4096=224+b / 4096
     ·rw[if_pos e1,iZ (by omega) (by omega)]
      by_cases e2:128+a / 64 % 64=128+b / 64 % 64
      ·rw[if_pos e2,iZ (by omega) (by omega),if_neg (by omega)];exact decide_eq_true (by omega)
      ·rw[if_neg e2];exact decide_eq_true (by omega)
     ·rw[if_neg e1];exact decide_eq_true (by omega)
    ·rw[if_neg b3];simp only[qXb,qZc];rw[iZ (by omega) (by omega),if_neg (by omega)];exact decide_eq_true (by omega)
   ·rw[if_neg a3,if_neg (show ¬ b<65536 by omega)]
    simp only[qXb,qZc]
    rw[iZ (by omega) (by omega)]
    by_cases e1:240+a / 262144=240+b / 262144
    ·rw[if_pos e1,iZ (by omega) (by omega)]
     by_cases e2:128+a / 4096 % 64=128+b / 4096 % 64
     ·rw[if_pos e2,iZ (by omega) (by omega)]
      by_cases e3:128+a / 64 % 64=128+b / 64 % 64
      ·rw[if_pos e3,iZ (by omega) (by omega),if_neg (by omega)];exact decide_eq_true (by omega)
      ·rw[if_neg e3];exact decide_eq_true (by omega)
     ·rw[if_neg e2];exact decide_eq_true (by omega)
    ·rw[if_neg e1];exact decide_eq_true (by omega)
theorem Is(r:Nat):∃ b t,aN r=b :: t:=by
 unfold aN
 split
 ·exact⟨_,_,rfl⟩
 ·split
  ·exact⟨_,_,rfl⟩
  ·split<;>exact⟨_,_,rfl⟩
theorem aFi{x y:List UInt8}(h:Op.bytesLess x y=true):Op.bytesLess y x=false:=by
 refine Bool.eq_false_iff.2 λe=>?_
 have:=kC _ _ _ h e
 rw[iL] at this
 cases this
theorem pC:∀ (x y:List Nat),(∀ r∈x,r<1114112)->(∀ r∈y,r<1114112)->Op.bytesLess (x.flatMap aN) (y.flatMap aN)=rW x y
 | [],[],_,_=>rfl
 | [],b :: y,_,_=>by
  obtain⟨c,t,e⟩:=Is b
  rw[qZe,e]
  rfl
 | a :: x,[],_,_=>by
  obtain⟨c,t,e⟩:=Is a
  rw[qZe,e]
  rfl
 | a :: x,b :: y,hx,hy=>by
  rw[qZe,qZe]
  simp only[rW]
  by_cases e:a=b
  ·subst e
   rw[if_pos rfl,aFj]
   exact pC x y (λr hr=>hx r (qXa _ hr)) (λr hr=>hy r (qXa _ hr))
  ·rw[if_neg e]
   rcases Nat.lt_or_gt_of_ne e with h | h
   ·rw[Eh h (hy b qQa)];exact (decide_eq_true h).symm
   ·rw[aFi (Eh h (hx a qQa) _ _)];exact (decide_eq_false (by omega)).symm
def cZ(p:aD):List Nat:=(bZ p.word.toList).getD []
def aV(L:List aD):Rs:=L.map λp=>(cZ p,p.weight)
theorem iI(h:cF bs=true):∃ x,bZ bs=some x/\x.all lU=true/\0<x.length/\x.length<=24:=by
 unfold cF at h
 cases hr:bZ bs with
 | none=>rw[hr] at h;simp at h
 | some x =>
  rw[hr] at h
  simp only[Bool.and_eq_true,decide_eq_true_eq] at h
  exact⟨x,rfl,h.2.1,h.2.2.1,h.2.2.2⟩
structure aZ(L:List aD):Prop where
 len:L.length<=4096
 word:∀ p∈L,bZ p.word.toList=some (cZ p)/\(cZ p).all lU=true/\0<(cZ p).length/\(cZ p).length<=24
 weight:∀ p∈L,1<=p.weight/\p.weight<=1048576
 sort:bU (aV L)
theorem sH{R:α->α->Prop}(tr:∀ a b c,R a b->R b c->R a c):∀ l:List α,(∀ i a b,l[i]? = some a->l[i+1]? = some b->R a b)->l.Pairwise R
 | [],_=>List.Pairwise.nil
 | [x],_=>qJo _ _
 | x :: y :: l,h=>by
  have ih:=sH tr (y :: l) λi a b ha hb=>h (i+1) a b ha hb
  rw[qJc]
  refine⟨λz hz=>?_,ih⟩
  have h0:=h 0 x y rfl rfl
  rcases List.mem_cons.1 hz with e | e
  ·rw[e];exact h0
  ·exact tr _ _ _ h0 ((List.pairwise_cons.1 ih).1 z e)
theorem sD(h:gF L=true):aZ L:=by
 unfold gF at h
 simp only[Bool.and_eq_true,decide_eq_true_eq,qJf,List.mem_range] at h
 have hfit:∀ i (hi:i<L.length),1<=L[i].weight/\L[i].weight<=1048576/\cF L[i].word.toList=true/\(i=0\/Op.bytesLess (L.getD (i-1) aD.zero).word.toList L[i].word.toList=true):=by
  intro i hi
  have:=h.2 i hi
  rw[Jh] at this
  have e:L.getD i aD.zero=L[i]:=by simp[qQb,hi]
  rw[e] at this
  simp only[Bool.and_eq_true,Bool.or_eq_true,decide_eq_true_eq] at this
  exact⟨this.1.1,this.1.2,this.2.1,this.2.2⟩
 have hw:∀ p∈L,bZ p.word.toList=some (cZ p)/\(cZ p).all lU=true/\0<(cZ p).length/\(cZ p).length<=24:=by
  intro p hp
  obtain⟨i,hi,rfl⟩:=List.getElem_of_mem hp
  obtain⟨x,h1,h2,h3,h4⟩:=iI (hfit i hi).2.2.1
  have e:cZ L[i]=x:=by unfold cZ;rw[h1];rfl
  rw[e]
  exact⟨h1,h2,h3,h4⟩
 refine⟨h.1,hw,?_,?_⟩
 ·intro p hp
  obtain⟨i,hi,rfl⟩:=List.getElem_of_mem hp
  exact⟨(hfit i hi).1,(hfit i hi).2.1⟩
 ·unfold bU aV
  rw[List.pairwise_map]
  have hp:L.Pairwise (λa b=>jY a b=true):=sH (R:=λa b=>jY a b=true) (λa b c h k=>Hm h k) L λi a b ha hb=>by
   obtain⟨hi,rfl⟩:=List.getElem?_eq_some_iff.1 ha
   obtain⟨hj,rfl⟩:=List.getElem?_eq_some_iff.1 hb
   have:=(hfit (i+1) hj).2.2.2
   rw[Nat.add_sub_cancel] at this
   have e:L.getD i aD.zero=L[i]:=by simp[qQb,hi]
   rw[e] at this
   rcases this with h | h
   ·omega
   ·exact h
  refine List.Pairwise.imp_of_mem ?_ hp
  intro a b ha hb hab
  obtain⟨a1,a2⟩:=cL _ _ _ (qZb _) (hw a ha).1
  obtain⟨b1,b2⟩:=cL _ _ _ (qZb _) (hw b hb).1
  unfold jY at hab
  rw[a1,b1,pC _ _ (λr hr=>fD (a2 r hr)) (λr hr=>fD (b2 r hr))] at hab
  exact hab
structure aKf where
 base:Int
 states:List cU
def aR(L:List aD):aKf:=if L=[] then ⟨0,[]⟩ else ⟨bE (aV L),(bJ 25 ⟨[],[]⟩ (aV L)).1.states⟩
theorem rC(h:L≠[]):aV L≠[]:=by unfold aV;simpa using h
theorem Bz:nY ⟨[],[]⟩:=⟨rfl,λi R s h=>by simp at h,by simp⟩
theorem qL(h:aZ L):gT (aV L)<25:=by
 refine zW (by omega) λr hr=>?_
 obtain⟨p,hp,rfl⟩:=List.mem_map.1 hr
 have:=(h.word p hp).2.2.2
 simp only
 omega
structure aLe(L:List aD)(k:kG):Prop where
 good:nY k
 root:k.rests[k.states.length-1]? = some (aK (aV L))
 pos:0<k.states.length
 few:k.states.length<=gJ (aV L)+1
 vis:∀ F,25<=F->gZ k.states F (k.states.length-1) (List.replicate k.states.length false) 0=(true,jD k.states.length k.states.length,k.states.length)
theorem aGq(h:aZ L)(hne:L≠[]):aLe L (bJ 25 ⟨[],[]⟩ (aV L)).1:=by
 obtain⟨h1,_,h3⟩:=lM 25 ⟨[],[]⟩ (aV L) Bz h.sort (rC hne) (qL h)
 have h4:=tR 25 ⟨[],[]⟩ (aV L) h.sort
 have h5:=Dp (bJ 25 ⟨[],[]⟩ (aV L)).1.states 25 ⟨[],[]⟩ (aV L) Bz h.sort (rC hne) (qL h) (List.prefix_refl _)
 rcases h5 with⟨_,e⟩ | ⟨_,e2,e3⟩
 ·simp at e
 ·have e:(bJ 25 ⟨[],[]⟩ (aV L)).1.states.length-1=(bJ 25 ⟨[],[]⟩ (aV L)).2:=by omega
  refine⟨h1,by rw[e];exact h3,by omega,by simpa using h4,λF hF=>?_⟩
  rw[e]
  have:=e3 F hF
  rw[qQj,Dk] at this
  exact this
def jC(d:Int)(l:Rs):Rs:=l.map λr=>(r.1,r.2-d)
theorem jQ(l:Rs):aK l=jC (bE l) l:=rfl
theorem Hg{d:Int}{l:Rs}{n:Int}:(x,n)∈jC d l↔(x,n+d)∈l:=by
 unfold jC
 rw[qQc]
 constructor
 ·rintro⟨⟨r1,r2⟩,hr,e⟩
  simp only[Prod.mk.injEq] at e
  obtain⟨rfl,rfl⟩:=e
  rw[qZd]
  exact hr
 ·intro h
  exact⟨_,h,by simp⟩
theorem jW(d:Int)(l:Rs)(c:Nat):aI (jC d l) c=jC d (aI l c):=by
 unfold aI jC
 rw[List.filterMap_map,List.map_filterMap]
 congr 1
 funext r
 obtain⟨x,n⟩:=r
 cases x with
 | nil=>rfl
 | cons e t =>
  simp only[Function.comp]
  split<;>rfl
theorem mX(d:Int){l:Rs}(h:l≠[]):bE (jC d l)=bE l-d:=by
 have hne:jC d l≠[]:=by unfold jC;simpa using h
 obtain⟨⟨x,n⟩,hr,e⟩:=dE hne
 obtain⟨⟨y,m⟩,hs,e2⟩:=dE h
 have h1:=dX (Hg.1 hr)
 have h2:=dX (Hg.2 (show (y,m-d+d)∈l by rw[qZd];exact hs))
 simp only at e e2 h1 h2
 omega
theorem mC(d:Int)(l:Rs):aK (jC d l)=aK l:=by
 by_cases h:l=[]
 ·subst h;rfl
 ·unfold aK
  rw[mX d h]
  unfold jC
  rw[List.map_map]
  congr 1
  funext r
  simp only[Function.comp,Prod.mk.injEq,true_and]
  omega
def kI(arcs:List (Nat × Int × Nat))(r:Nat)(p:Int × Int):Int × Int:=arcs.foldl (λp a=>if a.1=r then ((a.2.2:Int),p.2+a.2.1) else p) p
def fU(sts:List cU):List Nat->Int->Int->Option (Int × Int)
 | [],at_,sum=>some (at_,sum)
 | r :: x,at_,sum=>if at_<0 then none else fU sts x (kI (sts.getD at_.toNat aY).arcs r (-1,sum)).1 (kI (sts.getD at_.toNat aY).arcs r (-1,sum)).2
def Jd(sts:List cU):Option (Int × Int)->Int × Bool
 | none=>(0,false)
 | some (at_,sum)=>if at_<0 then (0,false) else if (sts.getD at_.toNat aY).fin=true then (sum+(sts.getD at_.toNat aY).out,true) else (0,false)
theorem tT{r:Nat}{p:Int × Int}(h:r ∉ arcs.map (·.1)):kI arcs r p=p:=by
 unfold kI
 induction arcs generalizing p with
 | nil=>rfl
 | cons a l ih =>
  simp only[qJb,qZa,not_or] at h
  rw[qXd,if_neg (λe=>h.1 e.symm)]
  exact ih h.2
theorem Dq{r:Nat}{p:Int × Int}(hn:(arcs.map (·.1)).Nodup){a:Nat × Int × Nat}(ha:a∈arcs)(hr:a.1=r):kI arcs r p=((a.2.2:Int),p.2+a.2.1):=by
 unfold kI
 induction arcs generalizing p with
 | nil=>cases ha
 | cons b l ih =>
  rw[qJb,qQk] at hn
  rw[qXd]
  rcases List.mem_cons.1 ha with e | e
  ·subst e
   rw[if_pos hr]
   exact tT (arcs:=l) (by rw[<-hr];exact hn.1)
  ·have hb:¬ b.1=r:=λh=>hn.1 (by rw[h,<-hr];exact List.mem_map.2 ⟨a,e,rfl⟩)
   rw[if_neg hb]
   exact ih hn.2 e
theorem Bv(sts:List cU)(x:List Nat){at_ sum:Int}(h:at_<0):Jd sts (fU sts x at_ sum)=(0,false):=by
 cases x with
 | nil=>simp[fU,Jd,h]
 | cons r x=>simp[fU,Jd,h]
theorem aBn{k:kG}(hk:nY k):∀ (x:List Nat) (X:Rs) (i:Nat),X≠[]->bU X->k.rests[i]? = some (aK X) ->
  (∀ w,(x,w)∈X->Jd k.states (fU k.states x i (bE X))=(w,true))/\((∀ w,(x,w) ∉ X)->Jd k.states (fU k.states x i (bE X))=(0,false))
 | [],X,i,hX,hs,hi=>by
  have hlt:i<k.states.length:=by rw[<-hk.len];exact (List.getElem?_eq_some_iff.1 hi).1
  have hst:k.states[i]? = some k.states[i]:=qQg hlt
  have hc:=hk.corr i _ _ hi hst
  have hg:k.states.getD ((i:Nat):Int).toNat aY=k.states[i]:=by simp[qQb,hlt]
  simp only[fU,Jd]
  rw[if_neg (show ¬ ((i:Nat):Int)<0 by omega),hg,hc.fin,hc.out]
  refine⟨λw hw=>?_,λhno=>?_⟩
  ·have hm:([],w-bE X)∈aK X:=dY.2 (by rw[qZd];exact hw)
   obtain⟨h1,h2⟩:=(zX hc.sort).1 hm
   rw[if_pos h1,h2]
   simp only[Prod.mk.injEq,and_true]
   omega
  ·rw[if_neg λh1=>?_]
   obtain⟨n,hn⟩:=eY.1 h1
   exact hno _ (dY.1 hn)
 | c :: x,X,i,hX,hs,hi=>by
  have hlt:i<k.states.length:=by rw[<-hk.len];exact (List.getElem?_eq_some_iff.1 hi).1
  have hst:k.states[i]? = some k.states[i]:=qQg hlt
  have hc:=hk.corr i _ _ hi hst
  have hg:k.states.getD ((i:Nat):Int).toNat aY=k.states[i]:=by simp[qQb,hlt]
  simp only[fU]
  rw[if_neg (show ¬ ((i:Nat):Int)<0 by omega),hg]
  have hlab:=hc.labels
  have hnd:(k.states[i].arcs.map (·.1)).Nodup:=by rw[hlab];exact (dG hc.sort).imp λh=>Nat.ne_of_lt h
  by_cases hu:aI X c=[]
  ·have hno:c ∉ k.states[i].arcs.map (·.1):=by
    rw[hlab,bO,jQ,jW,hu]
    exact λh=>h rfl
   rw[tT hno]
   refine⟨λw hw=>?_,λ_=>Bv _ _ (show (-1:Int)<0 by omega)⟩
   have:=cA.2 hw
   rw[hu] at this
   cases this
  ·have hin:c∈k.states[i].arcs.map (·.1):=by
    rw[hlab,bO,jQ,jW]
    unfold jC
    simpa using hu
   obtain⟨a,ha,hac⟩:=List.mem_map.1 hin
   rw[Dq hnd ha hac]
   have harc:=hc.arc a ha
   rw[hac,jQ,jW,mX _ hu,mC] at harc
   have e:bE X+a.2.1=bE (aI X c):=by rw[harc.1];omega
   simp only
   rw[e]
   obtain⟨i1,i2⟩:=aBn hk x (aI X c) a.2.2 hu (eQ c hs) harc.2.2
   exact⟨λw hw=>i1 w (cA.2 hw),λhno=>i2 λw hw=>hno w (cA.1 hw)⟩
theorem Gy(h:aZ L){p:aD}(hp:p∈L):bC p.word.toList L=(p.weight,true):=by
 have hin:p∈key p.word.toList L:=by simp[key,hp]
 have hall:∀ q∈key p.word.toList L,q=p:=by
  intro q hq
  simp only[key,List.mem_filter,decide_eq_true_eq] at hq
  have e:cZ q=cZ p:=by unfold cZ;rw[hq.2]
  have h1:(cZ q,q.weight)∈aV L:=List.mem_map.2 ⟨q,hq.1,rfl⟩
  have h2:(cZ p,p.weight)∈aV L:=List.mem_map.2 ⟨p,hp,rfl⟩
  rw[e] at h1
  have hw:=Ny h.sort h1 h2
  obtain⟨qw,qn⟩:=q
  obtain⟨pw,pn⟩:=p
  simp only at hq hw
  rw[hw,pN hq.2]
 unfold bC
 cases hl:(key p.word.toList L).getLast? with
 | none=>rw[qZn] at hl;rw[hl] at hin;cases hin
 | some q=>rw[hall q (qXj hl)]
theorem Mg(h:∀ p∈L,p.word.toList≠bs):bC bs L=(0,false):=by
 have:key bs L=[]:=by
  unfold key
  rw[qZm]
  intro p hp
  simpa using h p hp
 unfold bC
 rw[this]
 rfl
theorem xD(h:aZ L)(hne:L≠[])(bs:List UInt8)(x:List Nat)(hx:bZ bs=some x) :
  Jd (aR L).states (fU (aR L).states x ((aR L).states.length-1:Nat) (aR L).base)=bC bs L:=by
 have hm:=aGq h hne
 have hmach:aR L=⟨bE (aV L),(bJ 25 ⟨[],[]⟩ (aV L)).1.states⟩:=by unfold aR;rw[if_neg hne]
 rw[hmach]
 simp only
 obtain⟨f1,f2⟩:=aBn hm.good x (aV L) _ (rC hne) h.sort hm.root
 by_cases hex:∃ p∈L,p.word.toList=bs
 ·obtain⟨p,hp,rfl⟩:=hex
  have hxp:cZ p=x:=by unfold cZ;rw[hx];rfl
  rw[Gy h hp]
  exact f1 p.weight (List.mem_map.2 ⟨p,hp,by rw[hxp]⟩)
 ·have hno:∀ p∈L,p.word.toList≠bs:=λp hp e=>hex ⟨p,hp,e⟩
  rw[Mg hno]
  refine f2 λw hw=>?_
  obtain⟨p,hp,e⟩:=List.mem_map.1 hw
  injection e with e1 _
  have h1:=(h.word p hp).1
  rw[e1] at h1
  exact hno p hp (Si h1 hx)
def bQ(w:World)(b:Nat)(t:TypeId):Prop:=∃ cs,∃ _:Unit,w.heap[b]? = some (.cells cs t (0,0))
theorem bQ.ne{b':Nat}{t':TypeId}(h:bQ w b t)(h':bQ w b' t')(ht:t≠t'):b≠b':=by
 rintro rfl
 obtain⟨_,_,e⟩:=h
 obtain⟨_,_,e'⟩:=h'
 rw[e] at e'
 injection e' with e'
 injection e' with _ e'
 exact ht e'
theorem bQ.lt(h:bQ w b t):b<w.heap.size:=by
 obtain⟨_,_,e⟩:=h
 exact (Array.getElem?_eq_some_iff.1 e).1
theorem bQ.touch{S:Nat->Prop}(h:bQ w b t)(T:aC S w w')(hS:¬ S b):bQ w' b t:=by
 have hl:=h.lt
 obtain⟨cs,fr,e⟩:=h
 exact⟨cs,fr,(T.block b hl hS).trans e⟩
structure gL(w:World)(t:TypeId)(size:Nat)(A:Option Addr)(n:Nat)(xs:List Value):Prop where
 rd:aH w size A n xs
 ty:0<n->∀ g,aJ A=some g->bQ w g t
theorem gL.touch{S:Nat->Prop}(h:gL w t size A n xs)(T:aC S w w')(hS:∀ g,bQ w g t->¬ S g):gL w' t size A n xs:=by
 by_cases hn:0<n
 ·exact⟨h.rd.touch T λg hg=>hS g (h.ty hn g hg),λ_ g hg=>(h.ty hn g hg).touch T (hS g (h.ty hn g hg))⟩
 ·exact⟨⟨h.rd.1,λh=>absurd h hn⟩,λh=>absurd h hn⟩
theorem gL.quiet(h:gL w t size A n xs)(T:aC (λ_=>False) w w'):gL w' t size A n xs:=h.touch T λ_ _ f=>f
theorem gL.of_own(h:w.ownsRow base t size (.slice A n c) n xs):gL w t size A n xs:=by
 refine⟨aH.of_own h,λhn g hg=>?_⟩
 rcases h.2 with⟨e,e2⟩ | ⟨g',cap,cur,e,_,hb,_⟩
 ·omega
 ·injection e with e _ _
  subst e
  simp only[aJ,Option.map_some,Option.some.injEq] at hg
  subst hg
  exact⟨cur,(),hb⟩
theorem aM(h:w.ownsRow base t size v n xs)(hg:v.ownBlock=some g):bQ w g t:=by
 rcases h.2 with⟨e,_⟩ | ⟨g',cap,cur,e,_,hb,_⟩
 ·rw[e] at hg;simp[Value.ownBlock] at hg
 ·rw[e] at hg
  simp[Value.ownBlock] at hg
  subst hg
  exact⟨cur,(),hb⟩
structure RV where
 A:Option Addr
 q:Nat
 c:Nat
 O:List Nat
 wt:Int
def RV.zero:RV:=⟨none,0,0,[],0⟩
def RV.cells(r:RV):List Value:=[.slice r.A r.q r.c,.int .i64 r.wt]
def RV.p(r:RV):List Nat × Int:=(r.O,r.wt)
structure RV.Ok(r:RV)(w:World):Prop where
 len:r.O.length=r.q
 rd:gL w 21 1 r.A r.q (r.O.map fF)
 le:r.q<=r.c
 mx:r.c<=maxLen
def kF(V:List RV):List Value:=V.flatMap RV.cells
theorem Db(V W:List RV):kF (V++W)=kF V++kF W:=qZi
theorem Hq(X:List RV)(k:Nat)(hk:k<X.length)(j:Nat)(hj:j<2):(kF X)[k*2+j]? = some ((X.getD k RV.zero).cells.getD j undef):=by
 induction X generalizing k with
 | nil=>simp at hk
 | cons x X ih =>
  have e:kF (x :: X)=x.cells++kF X:=rfl
  cases k with
  | zero =>
   rw[e,Nat.zero_mul,Nat.zero_add]
   obtain rfl | rfl:j=0\/j=1:=by omega
   ·rfl
   ·rfl
  | succ k =>
   rw[e,qJe (by simp[RV.cells];omega)]
   have:(k+1)*2+j-x.cells.length=k*2+j:=by simp[RV.cells];omega
   rw[this,ih k (by simp at hk;omega)]
   simp[qQb]
structure RL where
 A:Option Addr
 n:Nat
 c:Nat
 V:List RV
def RL.val(s:RL):Value:=.slice s.A s.n s.c
def RL.p(s:RL):Rs:=s.V.map RV.p
structure RL.Ok(s:RL)(w:World):Prop where
 len:s.V.length=s.n
 rd:gL w 236 2 s.A s.n (kF s.V)
 el:∀ r∈s.V,r.Ok w
theorem RV.Ok.touch{r:RV}{S:Nat->Prop}(h:r.Ok w)(T:aC S w w')(hS:∀ g,bQ w g 21 -> ¬ S g):r.Ok w':=⟨h.len,h.rd.touch T hS,h.le,h.mx⟩
theorem RL.Ok.touch{s:RL}{S:Nat->Prop}(h:s.Ok w)(T:aC S w w')(h1:∀ g,bQ w g 21 -> ¬ S g)(h2:∀ g,bQ w g 236 -> ¬ S g):s.Ok w' :=
 ⟨h.len,h.rd.touch T h2,λr hr=>(h.el r hr).touch T h1⟩
theorem RL.Ok.quiet{s:RL}(h:s.Ok w)(T:aC (λ_=>False) w w'):s.Ok w':=h.touch T (λ_ _ f=>f) (λ_ _ f=>f)
theorem Up{X:List RV}(h:aH w 2 A n (kF X))(hn:X.length=n)(k:Nat)(hk:k<n) :
  ∃ g off,A=some ⟨g,off,none⟩/\g<w.heap.size/\w.cell? ⟨g,off+k*2,none⟩=some (.slice (X.getD k RV.zero).A (X.getD k RV.zero).q (X.getD k RV.zero).c)/\w.cell? ⟨g,off+k*2+1,none⟩=some (.int .i64 (X.getD k RV.zero).wt):=by
 obtain⟨b,off,hA,hb,hc⟩:=h.2 (by omega)
 refine⟨b,off,hA,hb,?_,?_⟩
 ·exact hc (k*2) _ (Hq X k (by omega) 0 (by omega))
 ·rw[Nat.add_assoc];exact hc (k*2+1) _ (Hq X k (by omega) 1 (by omega))
theorem cJ(X:List α)(d:α)(k:Nat)(hk:k<X.length):X.getD k d∈X:=by
 have e:X.getD k d=X[k]:=by simp[qQb,hk]
 rw[e];exact List.getElem_mem _
theorem kO(X:List α)(d:α)(k:Nat)(hk:k<X.length):X.take (k+1)=X.take k++[X.getD k d]:=by
 have e:X.getD k d=X[k]:=by simp[qQb,hk]
 rw[qZp hk,e]
def RL.Bd(s:RL):Prop:=∀ r∈s.V,0<=r.wt/\r.wt<=1048576
theorem vC(A:Option Addr)(q c:Nat)(z:Int):∀ u∈([.slice A q c,.int .i64 z]:List Value),u.oneCell'=true:=by
 intro u hu
 simp at hu
 rcases hu with e | e<;>subst e<;>rfl
theorem fS.app2{e:Nat}{w0 w1 w3:World}{cap:Nat}{ys:List Value}(h:fS e size w0 w1 v q xs)(ho:w3.ownsRow 0 e size (.slice (some ⟨g,0,none⟩) (q+m) cap) (q+m) (xs++ys))(hg:w1.grownBy w3 v.ownBlock)(hl:v.ownBlock=some g\/g=w1.heap.size):fS e size w0 w3 (.slice (some ⟨g,0,none⟩) (q+m) cap) (q+m) (xs++ys):=by
 refine h.app ho hg ?_
 rcases hl with e | e
 ·exact .inl e.symm
 ·exact .inr ⟨g,rfl,by rw[e];exact qZb _⟩
def RV.cut(r:RV)(t:List Nat):RV:=⟨if r.c=1 then r.A else r.A.map (·.add 1),r.q-1,r.c-1,t,r.wt⟩
theorem RV.Ok.cut{r:RV}(h:r.Ok w){t:List Nat}(hO:r.O=d :: t):(r.cut t).Ok w:=by
 have hl:=h.len
 rw[hO,qXc] at hl
 have hle:=h.le
 have hmx:=h.mx
 refine⟨by simp only[RV.cut];omega,⟨?_,?_⟩,by simp only[RV.cut];omega,by simp only[RV.cut];unfold maxLen at hmx ⊢;omega⟩
 ·have:=h.rd.rd.cut (k:=1) (cap:=r.c) (by omega) hle
  rw[hO] at this
  simp only[RV.cut]
  by_cases e:r.c=1
  ·rw[if_pos e] at this ⊢
   exact this
  ·rw[if_neg e] at this ⊢
   exact this
 ·intro hn g hg
  simp only[RV.cut] at hg hn
  have hq:0<r.q:=by omega
  refine h.rd.ty hq g ?_
  split at hg
  ·exact hg
  ·cases hA:r.A with
   | none=>rw[hA] at hg;cases hg
   | some a =>
    rw[hA] at hg
    simp only[Option.map_some,aJ,Option.some.injEq] at hg ⊢
    rw[<-hg]
    unfold Addr.add
    split<;>rfl
theorem tM{t:List Nat}(h:aH w 1 A (q+1) ((d :: t).map fF)):∃ b off,A=some ⟨b,off,none⟩/\b<w.heap.size/\w.cell? ⟨b,off,none⟩=some (.int .i32 (d:Int)):=by
 obtain⟨b,off,hA,hb,hc⟩:=h.2 (by omega)
 refine⟨b,off,hA,hb,?_⟩
 have:=hc 0 (fF d) rfl
 rw[Nat.add_zero] at this
 exact this
def dQ(l:List (Nat × Int × Nat)):List Value:=l.flatMap λa=>[.int .i32 (a.1:Int),.int .i64 a.2.1,.int .i64 (a.2.2:Int)]
theorem Pr(V W:List (Nat × Int × Nat)):dQ (V++W)=dQ V++dQ W:=qZi
structure SV where
 fin:Bool
 out:Int
 A:Option Addr
 n:Nat
 c:Nat
 arcs:List (Nat × Int × Nat)
def SV.cells(s:SV):List Value:=[.bool s.fin,.int .i64 s.out,.slice s.A s.n s.c]
def SV.p(s:SV):cU:=⟨s.fin,s.out,s.arcs⟩
structure SV.Ok(s:SV)(w:World):Prop where
 len:s.arcs.length=s.n
 rd:gL w 173 3 s.A s.n (dQ s.arcs)
 le:s.n<=s.c
 mx:s.c<=maxLen
def gA(Z:List SV):List Value:=Z.flatMap SV.cells
theorem Sj(V W:List SV):gA (V++W)=gA V++gA W:=qZi
theorem SV.Ok.touch{s:SV}{S:Nat->Prop}(h:s.Ok w)(T:aC S w w')(hS:∀ g,bQ w g 173 -> ¬ S g):s.Ok w':=⟨h.len,h.rd.touch T hS,h.le,h.mx⟩
structure KV where
 rA:Option Addr
 rn:Nat
 rc:Nat
 X:List RL
 sA:Option Addr
 sn:Nat
 sc:Nat
 Z:List SV
def KV.r(k:KV):Value:=.slice k.rA k.rn k.rc
def KV.s(k:KV):Value:=.slice k.sA k.sn k.sc
def KV.val(k:KV):Value:=.agg #[k.r,k.s]
def KV.p(k:KV):kG:=⟨k.X.map RL.p,k.Z.map SV.p⟩
theorem gL.touch'{S:Nat->Prop}(h:gL w t size A n xs)(T:aC S w w')(hS:0<n->∀ g,aJ A=some g->¬ S g):gL w' t size A n xs:=by
 by_cases hn:0<n
 ·exact⟨h.rd.touch T λg hg=>hS hn g hg,λ_ g hg=>(h.ty hn g hg).touch T (hS hn g hg)⟩
 ·exact⟨⟨h.rd.1,λh=>absurd h hn⟩,λh=>absurd h hn⟩
structure KV.Ok(k:KV)(w:World):Prop where
 r:w.ownsRow 0 225 1 k.r k.rn (k.X.map RL.val)
 rl:k.X.length=k.rn
 re:∀ x∈k.X,x.Ok w/\x.n<=maxLen
 s:w.ownsRow 0 170 3 k.s k.sn (gA k.Z)
 sl:k.Z.length=k.sn
 se:∀ z∈k.Z,z.Ok w
def KV.S(k:KV)(g:Nat):Prop:=k.r.ownBlock=some g\/k.s.ownBlock=some g
theorem KV.Ok.noS{k:KV}(h:k.Ok w)(h1:t ≠ 225)(h2:t ≠ 170):∀ g,bQ w g t->¬ k.S g:=by
 rintro g hg (e | e)
 ·exact (aM h.r e).ne hg (λe=>h1 e.symm) rfl
 ·exact (aM h.s e).ne hg (λe=>h2 e.symm) rfl
theorem KV.Ok.quiet{k:KV}(h:k.Ok w)(T:aC (λ_=>False) w w'):k.Ok w' :=
 ⟨aF h.r T (λ_ _ f=>f),h.rl,λx hx=>⟨(h.re x hx).1.quiet T,(h.re x hx).2⟩,aF h.s T (λ_ _ f=>f),h.sl,λz hz=>(h.se z hz).touch T (λ_ _ f=>f)⟩
theorem KV.Ok.far{k:KV}{S:Nat->Prop}(h:k.Ok w)(T:aC S w w')(hr:∀ g,k.S g->¬ S g)(h1:∀ g,bQ w g 21 -> ¬ S g)(h2:∀ g,bQ w g 236 -> ¬ S g)(h3:∀ g,bQ w g 173 -> ¬ S g):k.Ok w' :=
 ⟨aF h.r T (λg e=>hr g (.inl e)),h.rl,λx hx=>⟨(h.re x hx).1.touch T h1 h2,(h.re x hx).2⟩,aF h.s T (λg e=>hr g (.inr e)),h.sl,λz hz=>(h.se z hz).touch T h3⟩
theorem aG{cs:Array Value}(h:aL w g t cs):bQ w g t:=⟨cs,(),h⟩
theorem KV.Ok.lt{k:KV}(h:k.Ok w)(hg:k.S g):g<w.heap.size:=by
 rcases hg with e | e
 ·exact (aM h.r e).lt
 ·exact (aM h.s e).lt
theorem Sq{k:kG}{l:Rs}(h:qP k.rests (aK l)=some i):bJ (f+1) k l=(k,i):=by simp only[bJ,h]
structure L2(w wr:World)(B C:Nat)(k0 kc:KV)(fin:Bool)(out:Int)(aA:Option Addr)(ai ac:Nat)(arcs:List (Nat × Int × Nat))(M:RL)(fA:Option Addr)(fq:Nat)(F:List Nat):Prop where
 ok:kc.Ok wr
 b0:aL wr B 229 #[kc.r,kc.s]
 b1:aL wr (B+1) 229 #[.slice none 0 0,.slice none 0 0]
 b2:aL wr C 170 #[.bool fin,.int .i64 out,.slice aA ai ac]
 own:wr.ownsRow 0 173 3 (.slice aA ai ac) ai (dQ arcs)
 al:arcs.length=ai
 af:∀ g,(Value.slice aA ai ac).ownBlock=some g->w.heap.size<=g
 m:M.Ok wr
 f:gL wr 21 1 fA fq (F.map fF)
 touch:aC k0.S w wr
 fr:cK w k0.r kc.r
 fs:cK w k0.s kc.s
 nb:¬ kc.S C
 zs:∀ z∈kc.Z,z∈k0.Z\/(0<z.n->∀ g,aJ z.A=some g->w.heap.size<=g)
 za:∀ z∈kc.Z,0<z.n->∀ g,aJ z.A=some g->(Value.slice aA ai ac).ownBlock≠some g
theorem cK.up{u:World}{a b c:Value}(h:cK w a b)(k:cK u b c)(hs:w.heap.size<=u.heap.size):cK w a c:=by
 rcases k with e | ⟨g,e,hg⟩
 ·rcases h with e2 | ⟨g,e2,hg⟩
  ·exact .inl (e.trans e2)
  ·exact .inr ⟨g,e.trans e2,hg⟩
 ·exact .inr ⟨g,e,Nat.le_trans hs hg⟩
theorem fY{e:TypeId}(h:w.ownsRow base e size (.slice A n c) n xs):n<=c/\c<=maxLen:=by
 obtain⟨_,_,e,h1,h2⟩:=aS h
 injection e with e1 e2 e3
 subst e3
 exact⟨by omega,h2⟩
theorem Ug:(Tryz.prog.info? 173).map (λi=>(i.zero,i.size,i.bytes))=some (some (.agg #[.int .i32 0,.int .i64 0,.int .i64 0]),3,24):=by kernel_rfl
theorem aBz:(Tryz.prog.info? 170).map (λi=>(i.zero,i.size,i.bytes))=some (some (.agg #[.bool false,.int .i64 0,.slice none 0 0]),3,40):=by kernel_rfl
end Go.Proofs.YthockgmbooefpaaGreatDoor
