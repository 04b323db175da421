/- What the law rests on, part 13. No condition but those that each theorem names. -/
import Derived.Test.YthockgmbooefpaaGreatDoorM11
import Derived.Test.YthockgmbooefpaaGreatDoorM04
import Derived.Laws.CopyRow
import Derived.Test.YthockgmbooefpaaGreatDoorM12
import Derived.Test.YthockgmbooefpaaGreatDoorM08
import Derived.Laws.MakeOwn
import Derived.Lib.SlBuf
import Derived.StillTailTactics
import Derived.Test.YthockgmbooefpaaGreatDoorM10
import Derived.Test.YthockgmbooefpaaGreatDoorM01
import Derived.BigQuiet
import Derived.Deep.QuietTactic
import Derived.Deep.AppendLies
import Derived.Deep.RegionLaw
import Derived.OwnWalk
import Derived.Test.YthockgmbooefpaaGreatDoorM06
set_option linter.unusedSectionVars false
set_option linter.unusedSimpArgs false
set_option linter.unusedVariables false
set_option maxRecDepth 100000
set_option maxHeartbeats 4000000
namespace Go.Proofs.YthockgmbooefpaaGreatDoor
open IntWalk renaming i64_in → qXc
open List renaming getElem_cons_succ → qQa, getElem_cons_zero → qZa, getElem_toArray → qXa, setIfInBounds_toArray → qJa, set_cons_succ → qQb, set_cons_zero → qZb, getD → qXb, filter_append → qQc, take_succ_eq_append_getElem → qZc, take_of_length_le → qJc, eq_nil_of_length_eq_zero → qZd, take_append_of_le_length → qJe
open Nat renaming zero_le → qJb
variable{m:Int}{Z:List SV}{B L O:List aE}{B0 c d n oc on p q wb wc:Nat}{S:Nat->Prop}{A oA wA:Option Addr}{s:SL}{v:Value}{w w':World}
open Go.RowKit
theorem Qa(w:World)(g n c:Nat)(X:List aE)(h:cZ w (some ⟨g,0,none⟩) n c X)(i c':Nat)(hi:i<n)(ty:TypeId) :
  ∃ w',(Builtin.clear_ #[37] ty #[.slice (some ⟨g,i*2,none⟩) (n-i) c']).run Tryz.prog w=.ok (.tuple #[]) w'/\cZ w' (some ⟨g,0,none⟩) i c (X.take i)/\aC (λk=>k=g) w w':=by
 obtain⟨i0,hi0,hz0,hz1,_⟩:=aO jK
 rcases h.2 with⟨e,_⟩ | ⟨g',cap,cur,e,_,hgg,hnc,hcm,hcs,ht⟩
 ·cases e
 injection e with e1 e2 e3
 injection e1 with e1
 injection e1 with e1
 subst e1 e3
 obtain⟨Zs,hZ⟩:=eX ((Builtin.zeroCells (Value.agg #[.string ByteArray.empty,.int .i64 0]).cells (n-i)).toList)
 have hzl:Zs.length=(n-i)*2:=by rw[hZ,Array.length_toList];simp[Builtin.zeroCells,Value.cells]
 have hz1c:∀ v∈Zs,v.oneCell'=true:=by
  intro v hv
  rw[hZ] at hv
  simp only[Builtin.zeroCells,Array.toList_map,List.mem_map] at hv
  obtain⟨j,_,rfl⟩:=hv
  have:j % (Value.agg #[Value.string ByteArray.empty,Value.int IntKind.i64 0]).cells.size=0\/j % (Value.agg #[Value.string ByteArray.empty,Value.int IntKind.i64 0]).cells.size=1:=by
   simp only[Value.cells,List.size_toArray,List.length_cons,List.length_nil]
   omega
  rcases this with e | e<;>(rw[e];rfl)
 have hst:=run_storeCells_at (P:=Tryz.prog) g (i*2) 125 Zs 0 cur w hgg (by rw[hzl,hcs];omega) hz1c
 simp only[Nat.add_zero] at hst
 obtain⟨cs,hcsd⟩:=eX ((cur.toList.take (i*2)++Zs++cur.toList.drop (i*2+Zs.length)).toArray)
 rw[<-hcsd] at hst
 refine⟨w.setRow g cs,?_,⟨?_,.inr ⟨g,c,cs,rfl,qJb _,setRow_heap w g cur cs _ _ hgg,by omega,hcm,?_,?_⟩⟩,⟨rfl,rfl,rfl,by simp,λk _ hk=>setRow_other w g k cs hk⟩⟩
 ·obtain⟨m,hm⟩:∃ m,n-i=m+1:=⟨n-i-1,by omega⟩
  have hv:∀ w,(zeroValue 125).run Tryz.prog w=.ok (Value.agg #[.string ByteArray.empty,.int .i64 0]) w:=λw=>by simp[zeroValue,typeInfo,hi0,hz0]
  rw[hm] at hZ ⊢
  simp[Builtin.clear_,run_underlying Tryz.underlying37,hv,<-hZ,hst]
 ·rw[qT,List.length_take,<-bM h];omega
 ·rw[hcsd];simp[hzl,hcs];omega
 ·rw[hcsd]
  simp only[List.append_assoc]
  rw[qJe (by rw[List.length_take,Array.length_toList];omega),List.take_take,Nat.min_self,<-Ik,<-ht,List.take_take]
  congr 1
  omega
abbrev aFr:Value:=.func (.func 145) #[] #[]
theorem sV(a:aE)(w:World) :
  Calls Tryz.prog 145 #[a.val] w λe w'=>e=.returned (.bool (a.weight == 0))/\aC (λ_=>False) w w':=by
 obtain⟨aw,an⟩:=a
 rw[Ez]
 go_in
 go_wp2
 go_ret
 exact⟨rfl,(aC.refl _ _).alloc _⟩
theorem Qw(w:World)(A:Option Addr)(n c:Nat)(X:List aE)(h:cZ w A n c X) :
  Calls Tryz.prog 174 #[.slice A n c,aFr] w λe w'=>((e=.returned (.int .i64 (-1))/\X.filter eJ=X)\/∃ i,i<n/\e=.returned (.int .i64 (i:Nat))/\(X.take i).filter eJ=X.take i/\((X.getD i aE.zero).weight == 0)=true)/\aC (λ_=>False) w w':=by
 have hn:=kT h
 unfold maxLen at hn
 have HO:=aB h
 have HL:=aB (bM h)
 clear h
 go_in
 go_wp2
 go_loopw [8] (λiv wr=>∃ i:Nat,iv=.int .i64 i/\i<=n/\Hid ((X.take i).filter eJ=X.take i)/\Hid (aC (λ_=>False) w wr)) (λiv _=>n-(intOf iv).toNat)
 case atStart=>exact⟨0,rfl,qJb _,aB (by simp),aB (aC.refl _ _)⟩
 case round =>
  obtain⟨i,rfl,hin,HF,HT⟩:=hrel
  by_cases h0:i<n
  ·have y0:(i:Int)<(n:Int):=by omega
   obtain⟨g,rfl,hg,a0,a1,_,_⟩:=cY (aD HO HT (λ_ _ f=>f)) HL i h0
   have hlt:i<X.length:=by rw[<-HL.out];exact h0
   have htk:X.take (i+1)=X.take i++[X.getD i aE.zero]:=by
    have e2:X.getD i aE.zero=X[i]:=by simp[qXb,hlt]
    rw[qZc hlt,e2]
   obtain⟨⟨xw,xn⟩,hx⟩:∃ r,r=X.getD i aE.zero:=⟨_,rfl⟩
   rw[<-hx] at a0 a1 htk
   simp only at a0 a1
   have HX:=aB hx
   have HTK:=aB htk
   clear hx htk hlt
   by_cases hz:xn=0
   ·have q1:(xn == 0)=true:=by simp[hz]
    have HQ:=aB q1
    clear hz q1
    go_wp2_with (go_at_call 145;refine (sV ⟨xw,xn⟩ wr).mono ?_;rw[show ((⟨xw,xn⟩:aE).weight == 0)=true from HQ.out];rintro e w2 ⟨rfl,T2⟩;have HT2:=aB (HT.then T2);clear T2)
    go_ret
    exact⟨.inr ⟨i,h0,rfl,HF,by rw[<-HX.out];exact HQ⟩,HT2⟩
   ·have q1:(xn == 0)=false:=by simp[hz]
    have HQ:=aB q1
    clear hz q1
    go_wp2_with (go_at_call 145;refine (sV ⟨xw,xn⟩ wr).mono ?_;rw[show ((⟨xw,xn⟩:aE).weight == 0)=false from HQ.out];rintro e w2 ⟨rfl,T2⟩;have HT2:=aB (HT.then T2);clear T2)
    go_roundw
    ·refine⟨i+1,by simp,by omega,aB ?_,HT2⟩
     rw[HTK.out,qQc,HF.out]
     have e:eJ ⟨xw,xn⟩=true:=by unfold eJ;rw[show ((⟨xw,xn⟩:aE).weight == 0)=false from HQ.out];rfl
     simp[e]
    ·show n-(intOf (.int .i64 ((i:Int)+1))).toNat<n-(intOf (.int .i64 (i:Int))).toNat
     simp[intOf]
     omega
  ·have hX:X.take i=X:=qJc (by rw[<-HL.out];omega)
   have HXX:=aB hX
   clear hX
   go_wp2
   go_ret
   have hf:=HF.out
   rw[HXX.out] at hf
   exact⟨.inl ⟨rfl,hf⟩,HT⟩
theorem Lq(w:World)(A:Option Addr)(n c:Nat)(X:List aE)(h:cZ w A n c X) :
  Calls Tryz.prog 143 #[.slice A n c,aFr] w λe w'=>∃ m,m<=n/\e=.returned (.slice A m c)/\cZ w' A m c (X.filter eJ)/\aC (λg=>aQ A=some g) w w':=by
 have hn:=kT h
 have hnc:n<=c/\c<=maxLen:=by
  obtain⟨A',c',e,h1,h2⟩:=aX h
  injection e with _ _ e3
  subst e3
  exact⟨by omega,h2⟩
 obtain⟨hnc,hcm⟩:=hnc
 unfold maxLen at hn hcm
 have HO:=aB h
 have HL:=aB (bM h)
 have HIX:=aB (Qw w A n c X h)
 clear h
 go_in
 go_wp2_with fail
 refine HIX.mono ?_
 rintro e w1 ⟨⟨rfl,hf⟩ | ⟨i,hi,rfl,hf,hz⟩,T1⟩
 ·have HF:=aB hf
  have HO1:=aB (aD HO T1 (λ_ _ f=>f))
  have HT:=aB T1
  clear hf T1
  go_wp2
  go_ret
  exact⟨n,Nat.le_refl _,rfl,by rw[HF.out];exact HO1,HT.up _⟩
 ·have HF:=aB hf
  have HZ:=aB hz
  have HO1:=aB (aD HO T1 (λ_ _ f=>f))
  have HT:=aB T1
  have x0:((i:Int) == -1)=false:=by simp
  have x1:¬ ((i:Int) = -1):=by omega
  have x2:(i:Int)<(n:Int):=by omega
  clear hf hz T1
  obtain⟨wo,hwo⟩:=eX w1
  rw[<-hwo] at HO1 HT ⊢
  clear hwo
  go_wp2
  go_loopw [5,6] (λiv jv wr=>∃ i j:Nat,iv=.int .i64 i/\jv=.int .i64 j/\i<j/\j<=n/\Hid (∃ Y,cZ wr A n c Y/\Y.take i=(X.take j).filter eJ/\Y.drop j=X.drop j)/\Hid (aC (λg=>aQ A=some g) w wr)) (λ_ jv _=>n-(intOf jv).toNat)
  case atStart =>
   refine⟨i,i+1,rfl,by simp,by omega,by omega,aB ⟨X,HO1,?_,rfl⟩,aB (HT.up _)⟩
   have hlt:i<X.length:=by rw[<-HL.out];exact hi
   have e2:X.getD i aE.zero=X[i]:=by simp[qXb,hlt]
   have hz:=HZ.out
   rw[e2] at hz
   rw[qZc hlt,qQc,HF.out]
   have e:eJ X[i]=false:=by unfold eJ;rw[hz];rfl
   simp[e]
  case round =>
   obtain⟨i2,j,rfl,rfl,hij,hjn,HE,HT2⟩:=hrel
   by_cases h0:j<n
   ·have y0:(j:Int)<(n:Int):=by omega
    obtain⟨Y,O2,e1,e2⟩:=HE.out
    have hyl:=bM O2
    obtain⟨g,hA,hg,a0,a1,_,_⟩:=cY O2 hyl j h0
    subst hA
    obtain⟨g',hA',_,b0,b1,f0,f1⟩:=cY O2 hyl i2 (by omega)
    injection hA' with hA'
    injection hA' with hA' _
    subst hA'
    have hltX:j<X.length:=by rw[<-HL.out];exact h0
    have hltY:j<Y.length:=by omega
    have hxy:Y.getD j aE.zero=X.getD j aE.zero:=by
     have:=congrArg (λl=>l.getD 0 aE.zero) e2
     simpa [qXb] using this
    have hdr:Y.drop (j+1)=X.drop (j+1):=by
     have:=congrArg (List.drop 1) e2
     simpa using this
    have htk:X.take (j+1)=X.take j++[X.getD j aE.zero]:=by
     have e3:X.getD j aE.zero=X[j]:=by simp[qXb,hltX]
     rw[qZc hltX,e3]
    rw[hxy] at a0 a1
    obtain⟨⟨xw,xn⟩,hx⟩:∃ r,r=X.getD j aE.zero:=⟨_,rfl⟩
    rw[<-hx] at a0 a1 htk
    obtain⟨⟨zw,zn⟩,hz⟩:∃ r,r=Y.getD i2 aE.zero:=⟨_,rfl⟩
    rw[<-hz] at b0 b1
    simp only at a0 a1 b0 b1
    have HO2:=aB O2
    have HEE:=aB (And.intro e1 (And.intro hdr (And.intro htk hyl)))
    obtain⟨p,hp⟩:=eX wr.heap.size
    obtain⟨wa,hwa⟩:=eX (wr.alloc (.cells #[.string xw,.int .i64 xn] 125))
    have ta:aC (λ_=>False) wr wa:=by rw[hwa];exact (aC.refl _ _).alloc _
    have ba:aL wa p 125 #[.string xw,.int .i64 xn]:=by rw[hwa,hp];exact aL.new _ _ _
    have HTA:=aB ta
    have HBA:=aB ba
    have HWA:=aB hwa
    have HPP:=aB hp
    have x3:i2<n:=by omega
    have x4:(i2:Int)<(n:Int):=by omega
    clear O2 e1 e2 hxy hdr htk hx hz HE hltX hltY ta ba hwa hp hyl
    by_cases hq:xn=0
    ·have q1:(xn == 0)=true:=by simp[hq]
     have HQ:=aB q1
     clear hq q1
     go_wp2_with fail
     rw[<-HWA.out]
     refine (sV ⟨xw,xn⟩ wa).mono ?_
     rw[show ((⟨xw,xn⟩:aE).weight == 0)=true from HQ.out]
     rintro e w2 ⟨rfl,T2⟩
     have HTC:=aB (HTA.then T2)
     clear T2
     go_wp2_with fail
     go_roundw
     ·obtain⟨e1,hdr,htk,hyl⟩:=HEE.out
      refine⟨i2,j+1,rfl,by simp,by omega,by omega,aB ⟨Y,aD HO2 HTC (λ_ _ f=>f),?_,hdr⟩,aB (HT2.then (HTC.up _))⟩
      rw[htk,qQc,e1]
      have e:eJ ⟨xw,xn⟩=false:=by unfold eJ;rw[show ((⟨xw,xn⟩:aE).weight == 0)=true from HQ.out];rfl
      simp[e]
     ·show n-(intOf (.int .i64 ((j:Int)+1))).toNat<n-(intOf (.int .i64 (j:Int))).toNat
      simp[intOf]
      omega
    ·have q1:(xn == 0)=false:=by simp[hq]
     have HQ:=aB q1
     clear hq q1
     go_wp2_with fail
     rw[<-HWA.out,<-HPP.out]
     refine (sV ⟨xw,xn⟩ wa).mono ?_
     rw[show ((⟨xw,xn⟩:aE).weight == 0)=false from HQ.out]
     rintro e w2 ⟨rfl,T2⟩
     have HTC:=aB (HTA.then T2)
     have hb2:=HBA.touch T2 (λf=>f)
     obtain⟨c0,c1⟩:w2.cell? ⟨p,0,none⟩=some (.string xw)/\w2.cell? ⟨p,1,none⟩=some (.int .i64 xn):=⟨hb2.cell 0,hb2.cell 1⟩
     have O3:=aD HO2 HTC (λ_ _ f=>f)
     obtain⟨g',hA',hg2,d0,d1,k0,k1⟩:=cY O3 (bM O3) i2 x3
     injection hA' with hA'
     injection hA' with hA' _
     subst hA'
     have HO3:=aB O3
     clear T2 hb2 O3 a0 a1 b0 b1 f0 f1
     go_wp2_with fail
     go_roundw
     ·obtain⟨e1,hdr,htk,hyl⟩:=HEE.out
      have HS:=gH HO3 i2 ⟨xw,xn⟩
      refine⟨i2+1,j+1,by simp,by simp,by omega,by omega,aB ⟨Y.set i2 ⟨xw,xn⟩,HS,?_,?_⟩,aB ?_⟩
      ·rw[htk,qQc,<-e1]
       have e:eJ ⟨xw,xn⟩=true:=by unfold eJ;rw[show ((⟨xw,xn⟩:aE).weight == 0)=false from HQ.out];rfl
       have hl2:i2<(Y.set i2 ⟨xw,xn⟩).length:=by rw[List.length_set];omega
       rw[qZc hl2]
       simp[e,List.take_set_of_le]
      ·rw[List.drop_set_of_lt (by omega)]
       exact hdr
      ·iterate 2 refine aC.setCell ?_ (λ_=>(rfl:aQ (some ⟨g,0,none⟩)=some g)) _
       exact HT2.then (HTC.up _)
     ·show n-(intOf (.int .i64 ((j:Int)+1))).toNat<n-(intOf (.int .i64 (j:Int))).toNat
      simp[intOf]
      omega
   ·have hjn':j=n:=by omega
    obtain⟨Y,O2,e1,e2⟩:=HE.out
    obtain⟨g,hA,hg,_,_,_,_⟩:=cY O2 (bM O2) i2 (by omega)
    subst hA
    have hfil:Y.take i2=X.filter eJ:=by
     rw[e1,qJc (by rw[<-HL.out];omega)]
    obtain⟨w3,r3,O3,T3⟩:=Qa wr g n c Y O2 i2 (c-i2) (by omega) 0
    have HFI:=aB hfil
    have HO3:=aB O3
    have HT3:=aB (HT2.then (T3.mono (λi hi e=>by rw[e];rfl)))
    have x3:i2<n:=by omega
    have x4:(i2:Int)<=(n:Int):=by omega
    have x5:¬ c=i2:=by omega
    have x6:i2<=c:=by omega
    have x7:(i2:Int)<=(c:Int):=by omega
    have HR3:=aB r3
    clear O2 e1 e2 hfil O3 T3 HE r3
    go_wp2_with fail
    rw[HR3.out]
    simp only[Result.andThen]
    rw[Oper.upon_value]
    go_wp2
    go_ret
    refine⟨i2,by omega,rfl,?_,HT3⟩
    rw[<-HFI.out]
    exact HO3
theorem Ml(w:World)(s t:SL)(hs:s.Ok w)(ht:t.Ok w)(hsum:s.n+t.n<=5864062014700) :
  Calls Tryz.prog 87 #[s.val,t.val] w λe w'=>∃ A n c Y,e=.returned (.slice A n c)/\cZ w' A n c (Y.filter eJ)/\pZ (s.L++t.L) Y/\aC (λ_=>False) w w'/\n<=s.n+t.n/\(A=none->n=0/\c=0)/\∀ g,aQ A=some g->w.heap.size<=g:=by
 obtain⟨wa,hwa⟩:=eX (w.alloc (.cells [s.val,t.val].toArray 37))
 obtain⟨g,hg⟩:=eX w.heap.size
 have ta:aC (λ_=>False) w wa:=by rw[hwa];exact (aC.refl _ _).alloc _
 have hr:aI wa 1 (some ⟨g,0,none⟩) 2 ([s,t].map SL.val):=by rw[hwa,hg];exact aI.new w _ _ _ rfl
 have HOR:=aB (vC wa (some ⟨g,0,none⟩) 2 2 [s,t] rfl hr (λx hx=>by simp at hx;rcases hx with rfl | rfl;exact hs.touch ta;exact ht.touch ta) (by simp[kD];exact hsum) (by decide))
 have HTA:=aB ta
 have HWA:=aB hwa
 have HG:=aB hg
 clear hs ht ta hr hwa hg
 obtain⟨sA,sn,sc,sL⟩:=s
 obtain⟨tA,tn,tc,tL⟩:=t
 simp only[SL.val] at HWA ⊢
 simp only at hsum
 go_in
 go_wp2_with fail
 have e1:w.alloc (.cells #[.slice sA sn sc,.slice tA tn tc] 37)=wa:=HWA.symm
 rw[e1,<-HG.out]
 clear e1
 refine HOR.mono ?_
 rintro e w1 ⟨A,n,c,Y,rfl,O1,N1,T1,h1,h2,h3⟩
 have HDE:=aB (Lq w1 A n c Y O1)
 have HN:=aB N1
 have HT:=aB T1
 have H1:=aB (And.intro h1 (And.intro h2 h3))
 clear O1 N1 T1 h1 h2 h3
 go_wp2_with fail
 refine HDE.mono ?_
 rintro e w2 ⟨m,hm,rfl,O2,T2⟩
 have HO:=aB O2
 have HM:=aB hm
 have HT2:=aB (HTA.then (HT.trans T2 (λi hi hp=>by
  have:=H1.2.2 i hp
  omega)))
 clear O2 T2 hm HDE
 go_wp2
 go_ret
 obtain⟨h1,h2,h3⟩:=H1.out
 have hN:=HN.out
 simp only[List.flatMap_cons,List.flatMap_nil,List.append_nil] at hN
 simp[kD] at h1
 have hm:=HM.out
 refine⟨A,m,c,Y,rfl,HO,hN,HT2,by omega,λe=>?_,λg hg=>?_⟩
 ·have:=h2 e
  omega
 ·have:=h3 g hg
  have:=HTA.size
  omega
theorem Sg(w:World)(A:Option Addr)(n c:Nat)(X:List aE)(hX:X.length=n)(hA:aI w 2 A n (bC X))(hn:n<=maxLen)(B:Option Addr)(d:Nat)(hB:aI w 2 B n (bC X)) :
  Calls Tryz.prog 22 #[.slice A n c,.slice B n d] w λe w'=>e=.returned (.bool true)/\aC (λ_=>False) w w':=by
 unfold maxLen at hn
 have HA:=aB hA
 have HB:=aB hB
 have HX:=aB hX
 clear hA hB hX
 go_in
 go_wp2
 go_loopw [5] (λi wr=>∃ k:Nat,k<=n/\i=.int .i64 k/\Hid (aC (λ_=>False) w wr)) (λi _=>n-(intOf i).toNat)
 case atStart=>exact⟨0,qJb _,rfl,aB (aC.refl _ _)⟩
 case round =>
  obtain⟨k,hk,rfl,HT⟩:=hrel
  by_cases hkn:k<n
  ·obtain⟨g,o,hg,_,a0,a1⟩:=iC (HA.touch HT (λ_ _ f=>f)) HX.symm k hkn
   obtain⟨g',o',hg',_,b0,b1⟩:=iC (HB.touch HT (λ_ _ f=>f)) HX.symm k hkn
   subst hg hg'
   obtain⟨⟨xw,xn⟩,hx⟩:∃ x,x=X.getD k aE.zero:=⟨_,rfl⟩
   rw[<-hx] at a0 a1 b0 b1
   simp only at a0 a1 b0 b1
   have k0:(k:Int)<(n:Int):=by omega
   clear hx
   go_wp2
   go_quiet (fail)
   go_wp2
   go_roundw
   ·exact⟨k+1,by omega,by simp,aB (HT.drewN _)⟩
   ·show n-(intOf (.int .i64 ((k:Int)+1))).toNat<n-(intOf (.int .i64 (k:Int))).toNat
    simp[intOf]
    omega
  ·go_wp2
   go_ret
   exact⟨rfl,HT⟩
section
open Go.RowKit Go.Shelf
def Eq(t:TypeId):Prop:=t = 167 \/ t = 170 \/ t = 173 \/ t = 3 \/ t = 125
structure qJ(w:World)(d:Nat)(m:Int)(L:List aE)(wb:Nat)(B:List aE)(n:Nat)(A:Option Addr)(c:Nat)(Z:List SV)(wA:Option Addr)(wc:Nat)(oA:Option Addr)(on oc:Nat)(O:List aE):Prop where
 blk:aL w d 96 #[dC wb,.slice oA on oc,.int .i64 m]
 wk:Kw w wb B n A c Z wA wc
 ov:fM w 125 2 oA on (bC O)
 len:O.length=on
 few:on<=33
 nil:oA=none->on=0/\oc=0
 lay:nZ B O L
 pos:0<d
def gK(w:World)(d:Nat)(L:List aE)(q:Nat):Prop:=q<=32/\∃ wb B n A c Z wA wc oA oc O,qJ w d (L.length:Int) L wb B n A c Z wA wc oA q oc O
theorem eC.far(h:eC w A n Z)(T:aC S w w')(hS:∀ g t,bE w g t->Eq t->¬ S g):eC w' A n Z :=
 ⟨h.rd.touch T (λg hg=>hS g _ hg (.inr (.inl rfl))),h.len,λz hz=>(h.el z hz).touch T (λg hg=>hS g _ hg (.inr (.inr (.inl rfl))))⟩
theorem Kw.far{b:Nat}(h:Kw w b L n A c Z wA wc)(T:aC S w w')(hS:∀ g t,bE w g t->Eq t->¬ S g):Kw w' b L n A c Z wA wc :=
 ⟨⟨h.wk.blk.touch T (hS _ _ (aF h.wk.blk) (.inl rfl)),h.wk.sts.far T hS,h.wk.wds.touch T (λg hg=>hS g _ hg (.inr (.inr (.inr (.inl rfl))))),h.wk.len⟩,h.st,h.few⟩
section
variable{w w':World}{d:Nat}{m:Int}{L:List aE}{wb:Nat}{B:List aE}{n:Nat}{A:Option Addr}{c:Nat}{Z:List SV}{wA:Option Addr}{wc:Nat}{oA:Option Addr}{on oc:Nat}{O:List aE}{q:Nat}{S:Nat->Prop}
theorem qJ.far(h:qJ w d m L wb B n A c Z wA wc oA on oc O)(T:aC S w w')(hd:¬ S d)(hS:∀ g t,bE w g t->Eq t->¬ S g):qJ w' d m L wb B n A c Z wA wc oA on oc O :=
 ⟨h.blk.touch T hd,h.wk.far T hS,h.ov.touch T (λg hg=>hS g _ hg (.inr (.inr (.inr (.inr rfl))))),h.len,h.few,h.nil,h.lay,h.pos⟩
theorem qJ.quiet(h:qJ w d m L wb B n A c Z wA wc oA on oc O)(T:aC (λ_=>False) w w'):qJ w' d m L wb B n A c Z wA wc oA on oc O:=h.far T (λf=>f) (λ_ _ _ _ f=>f)
theorem gK.quiet(h:gK w d L q)(T:aC (λ_=>False) w w'):gK w' d L q:=by
 obtain⟨h1,wb,B,n,A,c,Z,wA,wc,oA,oc,O,hx⟩:=h
 exact⟨h1,wb,B,n,A,c,Z,wA,wc,oA,oc,O,hx.quiet T⟩
theorem gK.far(h:gK w d L q)(T:aC S w w')(hd:¬ S d)(hS:∀ g t,bE w g t->Eq t->¬ S g):gK w' d L q:=by
 obtain⟨h1,wb,B,n,A,c,Z,wA,wc,oA,oc,O,hx⟩:=h
 exact⟨h1,wb,B,n,A,c,Z,wA,wc,oA,oc,O,hx.far T hd hS⟩
theorem gK.dict(h:gK w d L q):cA L:=by
 obtain⟨h1,wb,B,n,A,c,Z,wA,wc,oA,oc,O,hx⟩:=h
 exact hx.lay.dL
theorem gK.ty(h:gK w d L q):bE w d 96 := by
 obtain⟨h1,wb,B,n,A,c,Z,wA,wc,oA,oc,O,hx⟩:=h
 exact aF hx.blk
theorem gK.pos(h:gK w d L q):0<d:=by
 obtain⟨h1,wb,B,n,A,c,Z,wA,wc,oA,oc,O,hx⟩:=h
 exact hx.pos
end
theorem kB{g:Nat}{t:TypeId}(h:bE w d 96)(hg:bE w g t)(ht:Eq t):¬ g=d:=by
 intro e
 subst e
 refine h.ne hg ?_ rfl
 rcases ht with rfl | rfl | rfl | rfl | rfl<;>decide
theorem gK.other{e:Nat}(h:gK w d L q)(T:aC (λg=>g=e) w w')(he:bE w e 96)(hne:d≠e):gK w' d L q :=
 h.far T hne (λg t hg ht=>kB he hg ht)
theorem dN.far(h:dN w)(T:aC S w w')(hS:¬ S 0):dN w':=by
 obtain⟨h0,h1,h2,h3⟩:=h
 exact⟨Nat.lt_of_lt_of_le h0 T.size,(T.cell (a:=⟨0,2,none⟩) h0 hS).trans h1,(T.cell (a:=⟨0,3,none⟩) h0 hS).trans h2,(T.cell (a:=⟨0,4,none⟩) h0 hS).trans h3⟩
theorem Va(w:World)(hL:dN w)(hx:qJ w d m L wb B n A c Z wA wc oA on oc O)(k:ByteArray)(hk:k.size<=1099511627776) :
  Calls Tryz.prog 15 #[dC d,.string k] w λe w'=>e=.returned (.tuple #[.int .i64 (bZ k.toList L).1,.bool (bZ k.toList L).2])/\aC (λ_=>False) w w':=by
 have hf:=hx.lay.find k.toList
 have HPF:=aB (Rz w oA on oc O hx.len hx.ov.rd (by unfold maxLen;have:=hx.few;omega) k)
 have HDF:=aB (λ(wx:World) (T:aC (λ_=>False) w wx)=>Qi (hx.wk.quiet T) hx.lay.dB (dN.touch hL T) k hk)
 have HB:=aB hx.blk
 obtain⟨x0,x1,x2⟩:=hx.blk.facts
 obtain⟨⟨x,t⟩,hxo⟩:∃ r,r=bZ k.toList O:=⟨_,rfl⟩
 obtain⟨⟨y,u⟩,hyb⟩:∃ r,r=bZ k.toList B:=⟨_,rfl⟩
 rw[<-hxo,<-hyb] at hf
 rw[<-hxo] at HPF
 simp only[<-hyb] at HDF
 simp only at HPF HDF hf
 clear hx hL hk hxo hyb
 cases t with
 | true =>
  rw[if_pos rfl] at hf
  rw[hf]
  clear hf HDF
  go_in
  go_wp2_with fail
  refine HPF.mono ?_
  rintro e w1 ⟨rfl,T1⟩
  have HT1:=aB T1
  clear T1 HPF x0 x1 x2
  go_wp2_with fail
  go_ret2
  exact⟨by simp,HT1⟩
 | false =>
  rw[if_neg (by decide)] at hf
  rw[hf]
  clear hf
  go_in
  go_wp2_with fail
  refine HPF.mono ?_
  rintro e w1 ⟨rfl,T1⟩
  have HT1:=aB T1
  have HD1:=aB (HDF _ T1)
  clear x0 x1 x2
  obtain⟨x0,x1,x2⟩:=(HB.touch T1 (λf=>f)).facts
  clear T1 HPF HDF
  go_wp2_with fail
  refine HD1.mono ?_
  rintro e w2 ⟨rfl,T2⟩
  have HT2:=aB (HT1.then T2)
  clear T2
  go_wp2_with fail
  go_ret2
  exact⟨rfl,HT2⟩
theorem yB(w:World)(hL:dN w)(h:gK w d L q)(k:ByteArray)(hk:k.size<=1099511627776) :
  Calls Tryz.prog 15 #[dC d,.string k] w λe w'=>e=.returned (.tuple #[.int .i64 (bZ k.toList L).1,.bool (bZ k.toList L).2])/\aC (λ_=>False) w w':=by
 obtain⟨h1,wb,B,n,A,c,Z,wA,wc,oA,oc,O,hx⟩:=h
 exact Va w hL hx k hk
end
section
open Go.RowKit Go.Shelf
theorem Ws{base:Nat}{e:TypeId}{size:Nat}{xs:List Value}(h:w.ownsRow base e size (.slice A n c) n xs):A=none->n=0/\c=0:=by
 intro hA
 rcases h.2 with⟨e1,_⟩ | ⟨g,cap,cur,e1,_⟩
 ·simp only[Value.slice.injEq] at e1
  exact⟨e1.2.1,e1.2.2⟩
 ·simp only[Value.slice.injEq] at e1
  rw[hA] at e1
  exact absurd e1.1 (by simp)
theorem sJ(h:cZ w A n c L):SL.Ok ⟨A,n,c,L⟩ w:=⟨(bM h).symm,aI.of_own h,Ws h⟩
theorem aAz{Y:List aE}(h:pZ (B++O) Y):Y.filter eJ=vS B O:=by
 have e:Y=Rp (B++O):=h.unique (yY (B++O))
 rw[e]
 rfl
theorem zJ(h:cA L):eK L=true:=by
 refine nN h.len λj hj=>?_
 rw[rU]
 have e:L.getD j aE.zero=L[j]:=by simp[qXb,hj]
 rw[e]
 have hm:L[j]∈L:=List.getElem_mem hj
 obtain⟨w1,w2⟩:=h.weight _ hm
 rw[rG h hm]
 simp only[w1,w2,decide_true,Bool.true_and,Bool.or_eq_true,decide_eq_true_eq]
 by_cases h0:j=0
 ·exact .inl h0
 ·right
  have hj1:j-1<L.length:=by omega
  have e1:L.getD (j-1) aE.zero=L[j-1]:=by simp[qXb,hj1]
  rw[e1]
  have hs:=fJ h
  rw[List.pairwise_iff_getElem] at hs
  exact hs (j-1) j hj1 hj (by omega)
theorem Ou(w:World)(hL:dN w)(hx:qJ w d m L wb B n A c Z wA wc oA on oc O) :
  Calls Tryz.prog 40 #[dC d] w λe w'=>∃ A' c',e=.returned (.slice A' L.length c')/\cZ w' A' L.length c' L/\aC (λ_=>False) w w':=by
 have hks:∀ wx,aC (λ_=>False) w wx->wx.cell? ⟨d,0,none⟩=some (dC wb)/\wx.cell? ⟨d,1,none⟩=some (.slice oA on oc)/\aC (λ_=>False) w wx :=
  λwx T=>⟨((hx.blk.touch T (λf=>f)).cell 0).trans rfl,((hx.blk.touch T (λf=>f)).cell 1).trans rfl,T⟩
 have HKS:=aB hks
 have HCO:=aB (λ(wx:World) (T:aC (λ_=>False) w wx) (Bb:Nat) (hB:aL wx Bb 92 #[.pointer (some ⟨wb,0,none⟩)])=>uU (dN.touch hL T) (hx.wk.quiet T) hx.lay.dB Bb hB)
 have HOV:=aB (λ(wx:World) (T:aC (λ_=>False) w wx)=>(show SL.Ok ⟨oA,on,oc,O⟩ wx from⟨hx.len,hx.ov.rd.touch T (λ_ _ f=>f),hx.nil⟩))
 have HFEW:=aB (And.intro hx.few hx.lay.dB.len)
 have HLAY:=aB hx.lay.lay
 clear hks hx hL
 go_in
 go_upto_region 1 with fail
 refine wp_region_held_drew (S:=λwx=>wx.cell? ⟨d,0,none⟩=some (dC wb)/\wx.cell? ⟨d,1,none⟩=some (.slice oA on oc)/\aC (λ_=>False) w wx) (by kernel_rfl) (HKS _ (aC.refl _ _).drew) (λhHeld=>?_)
 refine wpAnyH_take (i:=0) (v:=?v0) rfl (by kernel_rfl) (by kernel_rfl) (by kernel_rfl) (λ_ _ _ h=>h) (Or.inl ⟨by kernel_rfl,?h0⟩) hHeld ?_
 case h0=>rintro wq ⟨s0,s1,s2⟩;go_simp;with_reducible rfl
 simp only[qXa,qQa,qZa,Act.put,qJa,qZb,qQb]
 refine wpAnyH_take (i:=1) (v:=?v1) rfl (by kernel_rfl) (by kernel_rfl) (by kernel_rfl) (λ_ _ _ h=>h) (Or.inl ⟨by kernel_rfl,?h1⟩) hHeld ?_
 case h1=>rintro wq ⟨s0,s1,s2⟩;go_simp;with_reducible rfl
 simp only[qXa,qQa,qZa,Act.put,qJa,qZb,qQb]
 refine wpAnyH_take (i:=2) (v:=?v2) rfl (by kernel_rfl) (by kernel_rfl) (by kernel_rfl) (λ_ _ _ h=>h) (Or.inl ⟨by kernel_rfl,?h2⟩) hHeld ?_
 case h2=>rintro wq ⟨s0,s1,s2⟩;go_simp;with_reducible rfl
 simp only[qXa,qQa,qZa,Act.put,qJa,qZb,qQb]
 refine wpAnyH_take (i:=3) (v:=?v3) rfl (by kernel_rfl) (by kernel_rfl) (by kernel_rfl) (λ_ _ _ h=>h) (Or.inl ⟨by kernel_rfl,?h3⟩) hHeld ?_
 case h3=>rintro wq ⟨s0,s1,s2⟩;go_simp;with_reducible rfl
 simp only[qXa,qQa,qZa,Act.put,qJa,qZb,qQb]
 refine wpAnyH_take (i:=6) (v:=?v6) rfl (by kernel_rfl) (by kernel_rfl) (by kernel_rfl) (λ_ _ _ h=>h) (Or.inl ⟨by kernel_rfl,?h6⟩) hHeld ?_
 case h6=>rintro wq ⟨s0,s1,s2⟩;go_simp;with_reducible rfl
 simp only[qXa,qQa,qZa,Act.put,qJa,qZb,qQb]
 refine wpAnyH_take (i:=7) (v:=?v7) rfl (by kernel_rfl) (by kernel_rfl) (by kernel_rfl) (λ_ _ _ h=>h) (Or.inl ⟨by kernel_rfl,?h7⟩) hHeld ?_
 case h7=>rintro wq ⟨s0,s1,s2⟩;go_simp;with_reducible rfl
 simp only[qXa,qQa,qZa,Act.put,qJa,qZb,qQb]
 refine wpAnyH_take (i:=8) (v:=?v8) rfl (by kernel_rfl) (by kernel_rfl) (by kernel_rfl) (λ_ _ _ h=>h) (Or.inl ⟨by kernel_rfl,?h8⟩) hHeld ?_
 case h8=>rintro wq ⟨s0,s1,s2⟩;go_simp;with_reducible rfl
 simp only[qXa,qQa,qZa,Act.put,qJa,qZb,qQb]
 refine wpAnyH_take (i:=9) (v:=?v9) rfl (by kernel_rfl) (by kernel_rfl) (by kernel_rfl) (λ_ _ _ h=>h) (Or.inl ⟨by kernel_rfl,?h9⟩) hHeld ?_
 case h9=>rintro wq ⟨s0,s1,s2⟩;go_simp;with_reducible rfl
 simp only[qXa,qQa,qZa,Act.put,qJa,qZb,qQb]
 refine wpAnyH_ready (rs:=[4]) (by kernel_rfl) (by simp) ?_
 refine AllReadyH.cons rfl (λK hK=>?_) AllReadyH.nil
 go_simp
 refine (Nw _ wb).mono ?_
 rintro e w1 ⟨Bb,rfl,hB,T1⟩
 have HT1:=aB (((aC.refl (λ_=>False) w).drew).then T1)
 have HC1:=aB (HCO w1 HT1 Bb hB)
 clear T1 hB
 go_simp
 refine hK.out _ _ (HKS _ HT1) (λhHeld=>?_)
 clear hK K
 try simp only[qXa,qQa,qZa,Act.put,qJa,qZb,qQb]
 refine wpAnyH_ready (rs:=[5]) (by kernel_rfl) (by simp) ?_
 refine AllReadyH.cons rfl (λK hK=>?_) AllReadyH.nil
 go_simp
 refine HC1.mono ?_
 rintro e w2 ⟨A2,c2,rfl,ho2⟩
 have HT2:=aB (HT1.then ho2.touch)
 have HOK2:=aB (sJ ho2.own)
 have HM:=aB (Ml w2 ⟨A2,B.length,c2,B⟩ ⟨oA,on,oc,O⟩ HOK2 (HOV w2 HT2) (by have:=HFEW.out;simp only;omega))
 simp only[SL.val] at HM
 clear ho2
 go_simp
 refine hK.out _ _ (HKS _ HT2) (λhHeld=>?_)
 clear hK K
 try simp only[qXa,qQa,qZa,Act.put,qJa,qZb,qQb]
 refine wpAnyH_ready (rs:=[10]) (by kernel_rfl) (by simp) ?_
 refine AllReadyH.cons rfl (λK hK=>?_) AllReadyH.nil
 go_simp
 refine HM.mono ?_
 rintro e w3 ⟨A3,n3,c3,Y,rfl,O3,N3,T3,_⟩
 have HT3:=aB (HT2.then T3)
 have hfy:Y.filter eJ=L:=(aAz N3).trans HLAY.symm
 rw[hfy] at O3
 obtain rfl:=bM O3
 have HO3:=aB O3
 clear O3 N3 T3 hfy
 go_simp
 refine hK.out _ _ (HKS _ HT3) (λhHeld=>?_)
 clear hK K
 try simp only[qXa,qQa,qZa,Act.put,qJa,qZb,qQb]
 refine wpAnyH_take (i:=11) (v:=?v11) rfl (by kernel_rfl) (by kernel_rfl) (by kernel_rfl) (λ_ _ _ h=>h) (Or.inl ⟨by kernel_rfl,?h11⟩) hHeld ?_
 case h11=>rintro wq ⟨s0,s1,s2⟩;go_simp;with_reducible rfl
 simp only[qXa,qQa,qZa,Act.put,qJa,qZb,qQb]
 refine wpAnyH_done (by kernel_rfl) ?_ _
 go_wp2_with fail
 go_ret
 exact⟨A3,c3,rfl,HO3,HT3⟩
theorem Ct(w:World)(hL:dN w)(hx:qJ w d m L wb B n A c Z wA wc oA on oc O) :
  Calls Tryz.prog 48 #[dC d] w λe w'=>∃ A' n' c' Z',e=.returned (.agg #[.int .i64 (bB L).base,.slice A' n' c'])/\eC w' A' n' Z'/\Z'.map SV.p=(bB L).states/\n'<=c'/\aC (λ_=>False) w w':=by
 have hlen:=hx.lay.dL.len
 obtain⟨wa,hwa⟩:=eX (w.alloc (.cells #[.int .i64 0,.slice none 0 0] 89))
 obtain⟨rb,hrb⟩:=eX w.heap.size
 have hTa:aC (λ_=>False) w wa:=by rw[hwa];exact (aC.refl _ _).alloc _
 have hbR:aL wa rb 89 #[.int .i64 0,.slice none 0 0]:=by rw[hwa,hrb];exact aL.new _ _ _
 have HPR:=aB (Ou wa (dN.touch hL hTa) (hx.quiet hTa))
 have HFB:=aB (λ(wx:World) (T:aC (λ_=>False) wa wx) (A1:Option Addr) (c1:Nat) (ho:cZ wx A1 L.length c1 L)=>yD wx (dN.touch hL (hTa.then T)) ⟨A1,L.length,c1,L⟩ (sJ ho) (xW hx.lay.dL) (by unfold maxLen;simp only;omega))
 have hru:eK L=true:=zJ hx.lay.dL
 have HRU:=aB hru
 have HWA:=aB hwa
 have HRB:=aB hrb
 have HTA:=aB hTa
 have HBR:=aB hbR
 clear hru hwa hTa hrb hbR hx hL hlen
 go_in
 go_upto_region 1 with fail
 rw[<-HWA.out,<-HRB.out]
 go_wp2_with fail
 refine HPR.mono ?_
 rintro e w1 ⟨A1,c1,rfl,ho1,T1⟩
 have HT1:=aB T1
 have HF:=aB (HFB w1 T1 A1 c1 ho1)
 simp only[SL.val] at HF
 clear T1 ho1 HFB HPR
 go_wp2_with fail
 refine HF.mono ?_
 rintro e w2 (⟨hr,_⟩ | ⟨_,A2,n2,c2,Z2,rfl,hst,hz,hnc,T2⟩)
 ·rw[HRU.out] at hr
  cases hr
 ·have HT2:=aB (HT1.then T2)
  obtain⟨bs,hbs⟩:=eX ((bB L).base)
  rw[<-hbs]
  have hbR2:=HBR.touch HT2 (λf=>f)
  obtain⟨w3,hw3⟩:=eX (w2.alloc (.cells #[.int .i64 bs,.slice A2 n2 c2] 89))
  obtain⟨mb,hmb⟩:=eX w2.heap.size
  have hT3:aC (λ_=>False) w2 w3:=by rw[hw3];exact (aC.refl _ _).alloc _
  have hbM:aL w3 mb 89 #[.int .i64 bs,.slice A2 n2 c2]:=by rw[hw3,hmb];exact aL.new _ _ _
  have hbR3:=hbR2.touch hT3 (λf=>f)
  obtain⟨x0,x1,x2⟩:=hbR3.facts
  obtain⟨m0,m1,m2⟩:=hbM.facts
  have HBR3:=aB hbR3
  have HST:=aB (hst.quiet hT3)
  have HZ:=aB hz
  have HNC:=aB hnc
  have HT3:=aB (HT2.then hT3)
  have HW3:=aB hw3
  have HMB:=aB hmb
  have HBS:=aB hbs
  have HMR:Hid (rb≠mb):=aB (by
   have:=hbR2.lt
   rw[hmb];omega)
  clear T2 hst hz hnc HF hbR2 hw3 hmb hT3 hbM hbR3 hbs
  go_upto_region 2 with fail
  rw[<-HW3.out,<-HMB.out]
  go_wp2_with fail
  have hbF:aL ((w3.setCell ⟨rb,0,none⟩ (.int .i64 bs)).setCell ⟨rb,1,none⟩ (.slice A2 n2 c2)) rb 89 #[.int .i64 bs,.slice A2 n2 c2]:=by
   have:=(HBR3.set_ 0 (.int .i64 bs)).set_ 1 (.slice A2 n2 c2)
   simpa using this
  have hTF:aC (λg=>g=rb) w3 ((w3.setCell ⟨rb,0,none⟩ (.int .i64 bs)).setCell ⟨rb,1,none⟩ (.slice A2 n2 c2)):=((aC.refl (λg=>g=rb) w3).setCell (p:=⟨rb,0,none⟩) (λ_=>rfl) _).setCell (p:=⟨rb,1,none⟩) (λ_=>rfl) _
  obtain⟨k0,k1,k2⟩:=hbF.facts
  refine bodyPost_ret (v:=.agg #[.int .i64 bs,.slice A2 n2 c2]) (by simp[results,Tryz.results48,go_sem,k0]) rfl ?_
  refine⟨A2,n2,c2,Z2,by rw[HBS.out],?_,HZ,HNC,?_⟩
  ·exact HST.far hTF (λg t hg ht e=>by
    subst e
    refine (aF HBR3).ne hg ?_ rfl
    rcases ht with rfl | rfl | rfl | rfl | rfl<;>decide)
  ·exact (HTA.then HT3).trans hTF (λg hg e=>by have:=HRB.out;omega)
theorem Qc(w:World)(hL:dN w)(hx:qJ w d m L wb B n A c Z wA wc oA on oc O)(hm:m=(L.length:Int)) :
  Calls Tryz.prog 135 #[dC d] w λe w'=>e=.returned (.tuple #[])/\gK w' d L 0/\aC (λg=>g=d) w w':=by
 have HMA:=aB (Ct w hL hx)
 have HDN:=aB (λ(wx:World) (T:aC (λ_=>False) w wx) (A1:Option Addr) (n1 c1:Nat) (Z1:List SV) (h1:eC wx A1 n1 Z1) (h2:Z1.map SV.p=(bB L).states)=>xX wx (dN.touch hL T) L hx.lay.dL A1 n1 c1 Z1 h1 h2)
 have HX:=aB hx
 have HM:=aB hm
 obtain⟨bs,hbs⟩:=eX ((bB L).base)
 rw[<-hbs] at HMA HDN
 clear hx hL hm hbs
 go_in
 go_wp2_with fail
 refine HMA.mono ?_
 rintro e w1 ⟨A1,n1,c1,Z1,rfl,hst,hz,_,T1⟩
 have HT1:=aB T1
 have HD:=aB (HDN w1 T1 A1 n1 c1 Z1 hst hz)
 clear T1 hst hz HMA HDN
 go_wp2_with fail
 refine HD.mono ?_
 rintro e w2 ⟨b,A',c',Z',wA',wc',rfl,hdw,hI⟩
 have HT2:=aB (HT1.then hI.touch)
 have HDW:=aB hdw
 have hxb:=HX.blk.touch HT2 (λf=>f)
 obtain⟨x0,x1,x2⟩:=hxb.facts
 have HXB:=aB hxb
 clear hdw hI HD hxb
 go_wp2_with fail
 go_end0
 have hbF:aL ((w2.setCell ⟨d,0,none⟩ (dC b)).setCell ⟨d,1,none⟩ (.slice none 0 0)) d 96 #[dC b,.slice none 0 0,.int .i64 m]:=by
  have:=(HXB.set_ 0 (dC b)).set_ 1 (.slice none 0 0)
  simpa using this
 have hTF:aC (λg=>g=d) w2 ((w2.setCell ⟨d,0,none⟩ (dC b)).setCell ⟨d,1,none⟩ (.slice none 0 0)):=((aC.refl (λg=>g=d) w2).setCell (p:=⟨d,0,none⟩) (λ_=>rfl) _).setCell (p:=⟨d,1,none⟩) (λ_=>rfl) _
 rw[HM.out] at hbF
 refine⟨rfl,⟨by omega,_,_,_,_,_,_,_,_,_,_,_,⟨hbF,HDW.far hTF (λg t hg ht=>kB (aF HXB) hg ht),⟨aI.nil _ _ _,λh=>absurd h (by omega)⟩,rfl,by omega,λ_=>⟨rfl,rfl⟩,nZ.begin HX.lay.dL,HX.pos⟩⟩,HT2.up _ |>.then hTF⟩
theorem Ry(w:World)(hL:dN w)(h:gK w d L q) :
  Calls Tryz.prog 40 #[dC d] w λe w'=>∃ A' c',e=.returned (.slice A' L.length c')/\cZ w' A' L.length c' L/\aC (λ_=>False) w w':=by
 obtain⟨h1,wb,B,n,A,c,Z,wA,wc,oA,oc,O,hx⟩:=h
 exact Ou w hL hx
theorem Hz(w:World)(hL:dN w)(h:gK w d L q) :
  Calls Tryz.prog 48 #[dC d] w λe w'=>∃ A' n' c' Z',e=.returned (.agg #[.int .i64 (bB L).base,.slice A' n' c'])/\eC w' A' n' Z'/\Z'.map SV.p=(bB L).states/\n'<=c'/\aC (λ_=>False) w w':=by
 obtain⟨h1,wb,B,n,A,c,Z,wA,wc,oA,oc,O,hx⟩:=h
 exact Ct w hL hx
end
section
open Go.RowKit Go.Shelf
theorem Be{P:Program}(w:World)(dT sT ty elem:TypeId)(g o dLen dCap:Nat)(a:Addr)(sLen sCap size:Nat)(cur:Array Value)(t:TypeId)(cs:List Value)
  (hu:P.underlying dT=some (.slice elem))(i:TypeInfo)(hi0:P.info? elem=some i)(hi:i.size=size)
  (hg:w.heap[g]? = some (.cells cur t (0,0)))(hn:cs.length=Nat.min sLen dLen*size)
  (hsrc:∀ j v,cs[j]? = some v->w.cell? (a.add j)=some v)(hfit:o+cs.length<=cur.size)(h1:∀ v∈cs,v.oneCell'=true) :
  (Builtin.copy_ #[dT,sT] ty #[.slice (some ⟨g,o,none⟩) dLen dCap,.slice (some a) sLen sCap]).run P w =
    .ok (goInt (Nat.min sLen dLen)) (w.setRow g (cur.toList.take o++cs++cur.toList.drop (o+cs.length)).toArray):=by
 have hl:=run_loadCells_list (P:=P) w a cs hsrc
 have hst:=run_storeCells_at P g o t cs 0 cur w hg (by simpa using hfit) h1
 simp[Builtin.copy_,run_underlying hu,Builtin.lenOf,Builtin.firstCells,sizeOf,typeInfo,hi0,hi,<-hn,hl,hst]
theorem zR{P:Program}(w:World)(dT sT ty elem:TypeId)(g o dCap:Nat)(sCap:Nat)
  (hu:P.underlying dT=some (.slice elem))(i:TypeInfo)(hi0:P.info? elem=some i) :
  (Builtin.copy_ #[dT,sT] ty #[.slice (some ⟨g,o,none⟩) 0 dCap,.slice none 0 sCap]).run P w=.ok (goInt 0) w:=by
 simp[Builtin.copy_,run_underlying hu,Builtin.lenOf,Builtin.firstCells,sizeOf,typeInfo,hi0,storeCells]
theorem Rv(L:List aE):∀ u∈bC L,u.oneCell'=true:=by
 intro u hu
 obtain⟨r,_,h⟩:=List.mem_flatMap.1 hu
 simp only[aE.cells,List.mem_cons,List.not_mem_nil,or_false] at h
 rcases h with rfl | rfl<;>rfl
theorem Rl(z:Array Value)(n:Nat):(madeCells z n).size=n:=by simp[madeCells]
theorem aDh(w2:World)(g n:Nat)(oA:Option Addr)(oc:Nat)(O:List aE)(CS:Array Value)(hCS:CS.size=(n+1)*2)(hg:w2.heap[g]? = some (.cells CS 125 (0,0)))(hO:O.length=n)(hr:aI w2 2 oA n (bC O))(hn:n<=33) :
  ∃ w3,(∀ ty,(Builtin.copy_ #[37,37] ty #[.slice (some ⟨g,0,none⟩) n (n+1),.slice oA n oc]).run Tryz.prog w2=.ok (goInt (n:Int)) w3)/\cZ w3 (some ⟨g,0,none⟩) n (n+1) O/\aC (λk=>k=g) w2 w3:=by
 obtain⟨i0,hi,hz0,hz1,hz2⟩:=aO jK
 have hlen:=qT O
 rw[hO] at hlen
 have hrow:∀ w3 cs,w3.heap[g]? = some (.cells cs 125 (0,0))->cs.size=(n+1)*2->cs.toList.take (n*2)=bC O->cZ w3 (some ⟨g,0,none⟩) n (n+1) O:=λw3 cs h1 h2 h3 =>
  ⟨hlen,.inr ⟨g,n+1,cs,rfl,qJb _,h1,by omega,by unfold maxLen;omega,h2,h3⟩⟩
 cases oA with
 | none =>
  have h0:n=0:=by
   refine Classical.byContradiction λh=>?_
   obtain⟨b,off,e,_⟩:=hr.2 (by omega)
   cases e
  subst h0
  have hO0:O=[]:=qZd hO
  subst hO0
  exact⟨w2,λty=>zR w2 _ _ ty _ g 0 1 oc Tryz.underlying37 i0 hi,hrow w2 CS hg hCS rfl,aC.refl _ _⟩
 | some a =>
  have hsrc:∀ j v,(bC O)[j]? = some v->w2.cell? (a.add j)=some v:=by
   intro j v hj
   rcases Nat.eq_zero_or_pos n with h0 | h0
   ·have:O=[]:=qZd (by omega)
    subst this
    simp[bC] at hj
   ·obtain⟨b,off,e,_,hc⟩:=hr.2 h0
    cases e
    have hadd:(⟨b,off,none⟩:Addr).add j=⟨b,off+j,none⟩:=by unfold Addr.add;split<;>simp_all
    rw[hadd]
    exact hc j v hj
  refine⟨_,λty=>?_,hrow (w2.setRow g (CS.toList.take 0++bC O++CS.toList.drop (0+(bC O).length)).toArray) _ (setRow_heap w2 g CS _ _ _ hg) ?_ ?_,⟨rfl,rfl,rfl,by simp[World.setRow],λk _ hk=>setRow_other w2 g k _ hk⟩⟩
  ·have h:=Be (P:=Tryz.prog) w2 37 37 ty 125 g 0 n (n+1) a n oc 2 CS _ (bC O) Tryz.underlying37 i0 hi hz1 hg (by rw[hlen];simp) hsrc (by rw[hlen,hCS];omega) (Rv O)
   rw[h]
   simp
  ·simp only[List.take_zero,List.nil_append,Nat.zero_add,List.size_toArray,List.length_append,List.length_drop,Array.length_toList,hlen,hCS]
   omega
  ·simp only[List.take_zero,List.nil_append,Nat.zero_add]
   rw[qJe (by rw[hlen];exact Nat.le_refl _),qJc (by rw[hlen];exact Nat.le_refl _)]
theorem xP(w:World)(hL:dN w)(hx:qJ w d m L wb B n A c Z wA wc oA on oc O)(hq:on<=32)
  (p:aE)(L2:List aE)(hl:∀ Y,pZ (O++[p]) Y->nZ B Y L2)(hm:m=(L2.length:Int)) :
  Calls Tryz.prog 79 #[dC d,p.val] w λe w'=>e=.returned (.tuple #[])/\(∃ q,gK w' d L2 q)/\aC (λg=>g=d) w w':=by
 obtain⟨pw,pn⟩:=p
 obtain⟨i0,hi0,hz0,hz1,hz2⟩:=aO jK
 obtain⟨wa,hwa⟩:=eX (w.alloc (.cells #[.string pw,.int .i64 pn] 125))
 obtain⟨bb,hbb⟩:=eX w.heap.size
 have hTa:aC (λ_=>False) w wa:=by rw[hwa];exact (aC.refl _ _).alloc _
 have hbB:aL wa bb 125 #[.string pw,.int .i64 pn]:=by rw[hwa,hbb];exact aL.new _ _ _
 obtain⟨CS,hCS⟩:=eX (madeCells #[.string ByteArray.empty,.int .i64 0] ((on+1)*2))
 have hsz:CS.size=(on+1)*2:=by rw[hCS];exact Rl _ _
 have hmk:∀ W:World,(Instr.makeSlice 37 (.int .i64 (on:Int)) (.int .i64 ((on:Int)+1))).run Tryz.prog W=.ok (.slice (some ⟨W.heap.size,0,none⟩) on (on+1)) (W.alloc (.cells CS 125)):=by
  intro W
  have h:=run_makeSlice (P:=Tryz.prog) W 37 125 i0 _ Tryz.underlying37 hi0 hz0 .i64 .i64 (on:Int) ((on:Int)+1) (by omega) (by omega) (by rw[hz1];omega) (by rw[hz2];omega) (by omega)
  rw[h]
  simp only[Int.toNat_natCast,Int.toNat_natCast_add_one,hz1,hCS,Value.cells]
 have z1:IntKind.i64.wrap ((on:Int)+1)=(on:Int)+1:=qXc _ (by omega)
 obtain⟨x0,x1,x2⟩:=(hx.blk.touch hTa (λf=>f)).facts
 have HX:=aB hx
 have HL:=aB hL
 have HQ:=aB hq
 have HLY:=aB hl
 have HM:=aB hm
 have HTA:=aB hTa
 have HBB:=aB hbB
 have HWA:=aB hwa
 have HB0:=aB hbb
 have HSZ:=aB hsz
 clear hx hL hl hm hTa hbB hwa hbb hsz hCS hq
 unfold aE.val
 go_in
 go_upto_region 1 with fail
 rw[<-HWA.out,<-HB0.out]
 go_still_tail 11,(by kernel_rfl)
 change wpList _ _ _ _ _ wa.drew
 have HDR:Hid (aC (λ_=>False) w wa.drew):=aB (HTA.then (aC.refl _ _).drew)
 have HBD:Hid (aL wa.drew bb 125 #[.string pw,.int .i64 pn]):=aB HBB.drew
 generalize wa.drew=wd at HDR HBD ⊢
 obtain⟨wM,hwM⟩:=eX (wd.alloc (.cells CS 125))
 obtain⟨gM,hgM⟩:=eX wd.heap.size
 have HWM:=aB hwM
 have HGM:=aB hgM
 have hTM:aC (λ_=>False) w wM:=by rw[hwM];exact HDR.alloc _
 have hgCS:wM.heap[gM]? = some (.cells CS 125 (0,0)):=by rw[hwM,hgM];exact aL.new wd 125 CS
 obtain⟨wC,hcp,hoC,hTC⟩:=aDh wM gM on oA oc O CS HSZ hgCS HX.len (HX.ov.rd.touch hTM (λ_ _ f=>f)) (by have:=HQ.out;omega)
 have hgy:w.heap.size<=gM:=by rw[hgM];exact HDR.size
 have hTwC:aC (λ_=>False) w wC:=hTM.trans hTC (λg hg e=>by omega)
 have HTM:=aB hTM
 have HBC:Hid (aL wC bb 125 #[.string pw,.int .i64 pn]):=aB (by
  have h1:aL wM bb 125 #[.string pw,.int .i64 pn]:=by rw[hwM];exact HBD.alloc _
  exact h1.touch hTC (λe=>by have:=HBD.lt;omega))
 have HCP:=aB hcp
 have HOC:=aB hoC
 have HTWC:=aB hTwC
 have HGY:=aB hgy
 clear hwM hgM hTM hgCS hcp hoC hTC hTwC hgy x0 x1 x2
 obtain⟨x0,x1,x2⟩:=(HX.blk.touch HTM (λf=>f)).facts
 go_upto_region 2 with fail
 rw[<-HWM.out,<-HGM.out]
 have hcp:=HCP.out
 obtain⟨y0,y1,y2⟩:=(HX.blk.touch HTWC (λf=>f)).facts
 go_upto_region 3 with fail
 clear hcp x0 x1 x2
 obtain⟨wB,hwB⟩:=eX (wC.alloc (.cells #[.string pw,.int .i64 pn] 125))
 have hTB:aC (λ_=>False) wC wB:=by rw[hwB];exact (aC.refl _ _).alloc _
 have hrd:aI wB 2 (some ⟨wC.heap.size,0,none⟩) 1 [.string pw,.int .i64 pn]:=by
  rw[hwB]
  have h:=aI.new (size:=2) wC 125 [.string pw,.int .i64 pn] 1 rfl
  simpa using h
 have hone:∀ u∈[Value.string pw,.int .i64 pn],u.oneCell'=true:=by
  intro u hu
  simp only[List.mem_cons,List.not_mem_nil,or_false] at hu
  rcases hu with rfl | rfl<;>rfl
 obtain⟨b0,b1,b2⟩:=HBC.facts
 have HWB:=aB hwB
 have HTB:=aB (HTWC.then hTB)
 have HOB:=aB (World.ownsRow.alloc HOC (.cells #[.string pw,.int .i64 pn] 125))
 rw[<-hwB] at HOB
 have HRD:=aB hrd
 have HONE:=aB hone
 have HBBd:Hid (on+1<=maxLen/\(on+1)*24<=140737488355328):=aB (by unfold maxLen;have:=HQ.out;omega)
 have hpc:bC (O++[(⟨pw,pn⟩:aE)])=bC O++[.string pw,.int .i64 pn]:=by simp[bC,aE.cells]
 have HPC:=aB hpc
 have hgyo:∀ g,(Value.slice (some ⟨gM,0,none⟩) on (on+1)).ownBlock=some g->w.heap.size<=g:=λg hg=>by
  simp[Value.ownBlock] at hg
  have:=HGY.out
  omega
 have HGYO:=aB hgyo
 clear hwB hTB hrd hone hpc hgyo
 go_wp2_with (at_builtin;rw[<-HWB.out];refine aR _ rfl (.tmp 24) (.tmp 26) 37 rfl 125 i0 _ 2 24 Tryz.underlying37 hi0 hz0 hz1 hz2 rfl (by decide) (.slice (some ⟨gM,0,none⟩) on (on+1)) on _ rfl HOB (some ⟨wC.heap.size,0,none⟩) 1 1 [.string pw,.int .i64 pn] rfl HRD (λh=>by cases h) HONE HBBd.1 HBBd.2 ?_;intro v6 w6 O6 G6 F6 _;obtain⟨A6,c6,hv,_,_⟩:=aX O6;subst hv;have HO6:=aB O6;have HT6:=aB (HTB.grown G6 (λk hk hlt=>by have:=HGYO.out k hk;omega));clear O6 G6 F6 b0 b1 b2 y0 y1 y2)
 have hO6:=HO6.out
 rw[<-HPC.out] at hO6
 have HNR:=aB (Sa w6 ⟨A6,on+1,c6,O++[⟨pw,pn⟩]⟩ (sJ hO6) (by have:=HQ.out;simp only;omega))
 simp only[SL.val] at HNR
 clear hO6
 refine HNR.mono ?_
 rintro e w7 ⟨A7,n7,c7,Y,rfl,O7,N7,T7,h7,hnil7,_⟩
 have HT7:=aB (HT6.then T7)
 have HN7:=aB N7
 have HO7:=aB O7
 have HK7:=aB (And.intro h7 hnil7)
 have hb7:=HX.blk.touch HT7 (λf=>f)
 obtain⟨x0,x1,x2⟩:=hb7.facts
 have HB7:=aB hb7
 have HLN7:=aB (bM O7)
 clear T7 h7 hnil7 HNR hb7 O7 N7
 go_upto_region 4 with fail
 have hb8:aL (w7.setCell ⟨d,1,none⟩ (.slice A7 n7 c7)) d 96 #[dC wb,.slice A7 n7 c7,.int .i64 m]:=by
  have:=HB7.set_ 1 (.slice A7 n7 c7)
  simpa using this
 have hT8:aC (λg=>g=d) w7 (w7.setCell ⟨d,1,none⟩ (.slice A7 n7 c7)):=(aC.refl (λg=>g=d) w7).setCell (p:=⟨d,1,none⟩) (λ_=>rfl) _
 obtain⟨w8,hw8⟩:=eX (w7.setCell ⟨d,1,none⟩ (.slice A7 n7 c7))
 rw[<-hw8] at hb8 hT8 ⊢
 have hTw8:aC (λg=>g=d) w w8:=(HT7.up _).then hT8
 have hdx:qJ w8 d m L2 wb B n A c Z wA wc A7 n7 c7 Y :=
  ⟨hb8,(HX.wk.quiet HT7).far hT8 (λg t hg ht=>kB (aF HB7) hg ht),(fM.of_own HO7).touch hT8 (λg hg=>kB (aF HB7) hg (.inr (.inr (.inr (.inr rfl))))),HLN7.symm,by have h1:n7<=on+1:=HK7.1;have h2:=HQ.out;omega,HK7.2,HLY Y HN7,HX.pos⟩
 have hL8:dN w8:=HL.far hTw8 (λe=>by have:=HX.pos;omega)
 clear x0 x1 x2
 obtain⟨x0,x1,x2⟩:=hb8.facts
 by_cases h32:n7<=32
 ·have k1:¬ (32:Int)<(n7:Int):=by omega
  have HDX:=aB hdx
  have HTW8:=aB hTw8
  have H32:=aB h32
  clear hdx hTw8 hL8 hb8 hT8 hw8 h32
  go_wp2_with fail
  go_end0
  refine⟨rfl,⟨n7,H32,wb,B,n,A,c,Z,wA,wc,A7,c7,Y,?_⟩,HTW8⟩
  have h:=HDX.out
  rw[HM.out] at h
  exact h
 ·have k1:(32:Int)<(n7:Int):=by omega
  have HCM:=aB (Qc w8 hL8 hdx HM)
  have HTW8:=aB hTw8
  clear hdx hTw8 hL8 hb8 hT8 hw8 h32
  go_wp2_with fail
  refine HCM.mono ?_
  rintro e w9 ⟨rfl,hd9,T9⟩
  have HD9:=aB hd9
  have HT9:=aB (HTW8.then T9)
  clear hd9 T9 HCM
  go_wp2_with fail
  go_end0
  exact⟨rfl,⟨0,HD9⟩,HT9⟩
end
section
open Go.RowKit Go.Shelf
theorem wT{k:ByteArray}{n e:Int}(h:oS L k.toList n=e)(he:¬ e=0):Ji L k n=0/\Jj L k n=L:=by
 unfold Ji Jj
 rw[h,if_neg he,if_neg he]
 exact⟨rfl,rfl⟩
theorem Ov{k:ByteArray}{e:Int}(h:tT L k.toList=e)(he:¬ e=0):Ip L k=0/\Mp L k=L:=by
 unfold Ip Mp
 rw[h,if_neg he,if_neg he]
 exact⟨rfl,rfl⟩
theorem Uz(w:World)(hL:dN w)(h:gK w d L q)(k:ByteArray)(hk:k.size<=1099511627776)(n:Int) :
  Calls Tryz.prog 32 #[dC d,.string k,.int .i64 n] w λe w'=>e=.returned (.tuple #[.int .i64 (Ji L k n),.int .i64 (oS L k.toList n)])/\(∃ q',gK w' d (Jj L k n) q')/\aC (λg=>g=d) w w':=by
 have hdl:=h.dict.len
 have hstr:=fJ h.dict
 have HWG:=aB (yB w hL h k hk)
 have HWD:=aB (λ(wx:World) (T:aC (λ_=>False) w wx)=>oX wx k (by omega) (dN.touch hL T))
 have HD:=aB h
 have HL:=aB hL
 obtain⟨⟨x,t⟩,hxt⟩:∃ r,r=bZ k.toList L:=⟨_,rfl⟩
 rw[<-hxt] at HWG
 simp only at HWG
 have HXT:=aB hxt
 have hdlI:(L.length:Int)<=4096:=by omega
 obtain⟨v,hv⟩:=eX (cD k.toList)
 simp only[<-hv] at HWD
 have HV:=aB hv
 clear h hL hk hxt hv
 cases v with
 | false =>
  have hE:oS L k.toList n=140:=by unfold oS;rw[if_pos HV.symm]
  obtain⟨hH,hLl⟩:=wT hE (by decide)
  rw[hE,hH,hLl]
  clear hE hH hLl
  go_in
  go_wp2_with fail
  refine HWG.mono ?_
  rintro e w1 ⟨rfl,T1⟩
  have HT1:=aB T1
  clear T1
  go_wp2_with fail
  refine (HWD w1 HT1).mono ?_
  rintro e w2 ⟨rfl,T2⟩
  have HT2:=aB (HT1.then T2)
  clear T2
  go_wp2_with fail
  go_ret2
  exact⟨rfl,⟨q,HD.quiet HT2⟩,HT2.up _⟩
 | true =>
  have hvn:¬ cD k.toList=false:=by rw[<-HV.out];decide
  by_cases hn1:n<1
  ·have hE:oS L k.toList n=141:=by unfold oS;rw[if_neg hvn,if_pos (.inl hn1)]
   obtain⟨hH,hLl⟩:=wT hE (by decide)
   rw[hE,hH,hLl]
   clear hE hH hLl hvn
   go_in
   go_wp2_with fail
   refine HWG.mono ?_
   rintro e w1 ⟨rfl,T1⟩
   have HT1:=aB T1
   clear T1
   go_wp2_with fail
   refine (HWD w1 HT1).mono ?_
   rintro e w2 ⟨rfl,T2⟩
   have HT2:=aB (HT1.then T2)
   clear T2
   go_wp2_with fail
   go_ret2
   exact⟨rfl,⟨q,HD.quiet HT2⟩,HT2.up _⟩
  ·by_cases hn2:1048576<n
   ·have hE:oS L k.toList n=141:=by unfold oS;rw[if_neg hvn,if_pos (.inr hn2)]
    obtain⟨hH,hLl⟩:=wT hE (by decide)
    rw[hE,hH,hLl]
    clear hE hH hLl hvn
    go_in
    go_wp2_with fail
    refine HWG.mono ?_
    rintro e w1 ⟨rfl,T1⟩
    have HT1:=aB T1
    clear T1
    go_wp2_with fail
    refine (HWD w1 HT1).mono ?_
    rintro e w2 ⟨rfl,T2⟩
    have HT2:=aB (HT1.then T2)
    clear T2
    go_wp2_with fail
    go_ret2
    exact⟨rfl,⟨q,HD.quiet HT2⟩,HT2.up _⟩
   ·have hno:¬ (n<1\/1048576<n):=by omega
    obtain⟨hq32,wb,B,nB,A,c,Z,wA,wc,oA,oc,O,hx⟩:=HD.out
    have HX:=aB hx
    have HQ:=aB hq32
    have HNN:=aB (show 1<=n/\n<=1048576 by omega)
    cases t with
    | true =>
     have hfd:(bZ k.toList L).2=true:=by rw[<-HXT.out]
     have hE:oS L k.toList n=0:=by unfold oS;rw[if_neg hvn,if_neg hno,if_neg (λh=>by rw[hfd] at h;cases h.1)]
     have hH:Ji L k n=x:=by unfold Ji;rw[hE,if_pos rfl,<-HXT.out]
     have hLl:Jj L k n=fI ⟨k,n⟩ false L:=by unfold Jj;rw[hE,if_pos rfl]
     rw[hE,hH,hLl]
     have hpl:(fI ⟨k,n⟩ false L).length=L.length:=by rw[Ey hstr,if_pos hfd]
     have HLY:Hid (∀ Y,pZ (O++[⟨k,n⟩]) Y->nZ B Y (fI ⟨k,n⟩ false L)):=aB (λY hY=>hx.lay.put hY HV.symm HNN.1 HNN.2 (.inl hfd))
     have HPL:=aB hpl
     clear hE hH hLl hvn hx hno hq32 hfd hpl hstr
     go_in
     go_wp2_with fail
     refine HWG.mono ?_
     rintro e w1 ⟨rfl,T1⟩
     have HT1:=aB T1
     clear T1
     go_wp2_with fail
     refine (HWD w1 HT1).mono ?_
     rintro e w2 ⟨rfl,T2⟩
     have HT2:=aB (HT1.then T2)
     have HCH:=aB (xP w2 (dN.touch HL HT2) (HX.quiet HT2) HQ ⟨k,n⟩ _ HLY (by rw[HPL.out]))
     simp only[aE.val] at HCH
     clear T2
     go_wp2_with fail
     refine HCH.mono ?_
     rintro e w3 ⟨rfl,hd3,T3⟩
     have HD3:=aB hd3
     have HT3:=aB ((HT2.up _).then T3)
     clear hd3 T3 HCH
     go_wp2_with fail
     go_ret2
     exact⟨rfl,HD3,HT3⟩
    | false =>
     have hfd:(bZ k.toList L).2=false:=by rw[<-HXT.out]
     have hx0:x=0:=by
      have h1:=Qp hfd
      rw[<-HXT.out] at h1
      exact congrArg Prod.fst h1
     subst hx0
     by_cases hful:L.length=4096
     ·have hE:oS L k.toList n=142:=by unfold oS;rw[if_neg hvn,if_neg hno,if_pos ⟨hfd,by omega⟩]
      obtain⟨hH,hLl⟩:=wT hE (by decide)
      rw[hE,hH,hLl]
      have hfi:(L.length:Int)=4096:=by omega
      clear hE hH hLl hvn hx hno hq32 hfd hstr hdl hdlI
      go_in
      go_wp2_with fail
      refine HWG.mono ?_
      rintro e w1 ⟨rfl,T1⟩
      have HT1:=aB T1
      clear T1
      go_wp2_with fail
      refine (HWD w1 HT1).mono ?_
      rintro e w2 ⟨rfl,T2⟩
      have HT2:=aB (HT1.then T2)
      have hxb:=(HX.blk.touch HT2 (λf=>f))
      rw[hfi] at hxb
      obtain⟨x0,x1,x2⟩:=hxb.facts
      clear T2 hxb hfi
      go_wp2_with fail
      go_ret2
      exact⟨rfl,⟨q,HD.quiet HT2⟩,HT2.up _⟩
     ·have hlt:L.length<4096:=by omega
      have hE:oS L k.toList n=0:=by unfold oS;rw[if_neg hvn,if_neg hno,if_neg (λh=>by omega)]
      have hH:Ji L k n=0:=by unfold Ji;rw[hE,if_pos rfl,<-HXT.out]
      have hLl:Jj L k n=fI ⟨k,n⟩ false L:=by unfold Jj;rw[hE,if_pos rfl]
      rw[hE,hH,hLl]
      have hpl:(fI ⟨k,n⟩ false L).length=L.length+1:=by rw[Ey hstr,if_neg (by rw[hfd];decide)]
      have HLY:Hid (∀ Y,pZ (O++[⟨k,n⟩]) Y->nZ B Y (fI ⟨k,n⟩ false L)):=aB (λY hY=>hx.lay.put hY HV.symm HNN.1 HNN.2 (.inr hlt))
      have HPL:=aB hpl
      have b1:((L.length:Int) == 4096)=false:=by simp;omega
      have b2:¬ (L.length:Int)=4096:=by omega
      have z1:IntKind.i64.wrap ((L.length:Int)+1)=(L.length:Int)+1:=qXc _ (by omega)
      clear hE hH hLl hvn hx hno hq32 hfd hpl hstr hful hlt
      go_in
      go_wp2_with fail
      refine HWG.mono ?_
      rintro e w1 ⟨rfl,T1⟩
      have HT1:=aB T1
      clear T1
      go_wp2_with fail
      refine (HWD w1 HT1).mono ?_
      rintro e w2 ⟨rfl,T2⟩
      have HT2:=aB (HT1.then T2)
      have hx2:=HX.quiet HT2
      obtain⟨x0,x1,x2⟩:=hx2.blk.facts
      obtain⟨w3,hw3⟩:=eX (w2.setCell ⟨d,2,none⟩ (.int .i64 ((L.length:Int)+1)))
      have hT3:aC (λg=>g=d) w2 w3:=by rw[hw3];exact (aC.refl (λg=>g=d) w2).setCell (p:=⟨d,2,none⟩) (λ_=>rfl) _
      have hb3:aL w3 d 96 #[dC wb,.slice oA q oc,.int .i64 ((L.length:Int)+1)]:=by
       rw[hw3]
       have:=hx2.blk.set_ 2 (.int .i64 ((L.length:Int)+1))
       simpa using this
      have hx3:qJ w3 d ((L.length:Int)+1) L wb B nB A c Z wA wc oA q oc O :=
       ⟨hb3,hx2.wk.far hT3 (λg t hg ht=>kB (aF hx2.blk) hg ht),hx2.ov.touch hT3 (λg hg=>kB (aF hx2.blk) hg (.inr (.inr (.inr (.inr rfl))))),hx2.len,hx2.few,hx2.nil,hx2.lay,hx2.pos⟩
      have HCH:=aB (xP w3 ((dN.touch HL HT2).far hT3 (λe=>by have:=hx2.pos;omega)) hx3 HQ ⟨k,n⟩ _ HLY (by rw[HPL.out];omega))
      simp only[aE.val] at HCH
      have HT3:=aB ((HT2.up _).then hT3)
      have HW3:=aB hw3
      clear T2 hx2 hw3 hT3 hb3 hx3
      go_upto_region 10 with fail
      rw[<-HW3.out]
      go_wp2_with fail
      refine HCH.mono ?_
      rintro e w4 ⟨rfl,hd4,T4⟩
      have HD4:=aB hd4
      have HT4:=aB (HT3.then T4)
      clear hd4 T4 HCH
      go_wp2_with fail
      go_ret2
      exact⟨rfl,HD4,HT4⟩
theorem Hc(w:World)(hL:dN w)(h:gK w d L q)(k:ByteArray)(hk:k.size<=1099511627776) :
  Calls Tryz.prog 35 #[dC d,.string k] w λe w'=>e=.returned (.tuple #[.int .i64 (Ip L k),.int .i64 (tT L k.toList)])/\(∃ q',gK w' d (Mp L k) q')/\aC (λg=>g=d) w w':=by
 have hdl:=h.dict.len
 have hstr:=fJ h.dict
 have HWG:=aB (yB w hL h k hk)
 have HWD:=aB (λ(wx:World) (T:aC (λ_=>False) w wx)=>oX wx k (by omega) (dN.touch hL T))
 have HD:=aB h
 have HL:=aB hL
 obtain⟨⟨x,t⟩,hxt⟩:∃ r,r=bZ k.toList L:=⟨_,rfl⟩
 rw[<-hxt] at HWG
 simp only at HWG
 have HXT:=aB hxt
 obtain⟨v,hv⟩:=eX (cD k.toList)
 simp only[<-hv] at HWD
 have HV:=aB hv
 clear h hL hk hxt hv
 cases v with
 | false =>
  have hE:tT L k.toList=140:=by unfold tT;rw[if_pos HV.symm]
  obtain⟨hH,hLl⟩:=Ov hE (by decide)
  rw[hE,hH,hLl]
  clear hE hH hLl
  go_in
  go_wp2_with fail
  refine HWG.mono ?_
  rintro e w1 ⟨rfl,T1⟩
  have HT1:=aB T1
  clear T1
  go_wp2_with fail
  refine (HWD w1 HT1).mono ?_
  rintro e w2 ⟨rfl,T2⟩
  have HT2:=aB (HT1.then T2)
  clear T2
  go_wp2_with fail
  go_ret2
  exact⟨rfl,⟨q,HD.quiet HT2⟩,HT2.up _⟩
 | true =>
  have hvn:¬ cD k.toList=false:=by rw[<-HV.out];decide
  cases t with
  | false =>
   have hfd:(bZ k.toList L).2=false:=by rw[<-HXT.out]
   have hE:tT L k.toList=143:=by unfold tT;rw[if_neg hvn,if_pos hfd]
   obtain⟨hH,hLl⟩:=Ov hE (by decide)
   rw[hE,hH,hLl]
   clear hE hH hLl hvn hfd
   go_in
   go_wp2_with fail
   refine HWG.mono ?_
   rintro e w1 ⟨rfl,T1⟩
   have HT1:=aB T1
   clear T1
   go_wp2_with fail
   refine (HWD w1 HT1).mono ?_
   rintro e w2 ⟨rfl,T2⟩
   have HT2:=aB (HT1.then T2)
   clear T2
   go_wp2_with fail
   go_ret2
   exact⟨rfl,⟨q,HD.quiet HT2⟩,HT2.up _⟩
  | true =>
   have hfd:(bZ k.toList L).2=true:=by rw[<-HXT.out]
   have hE:tT L k.toList=0:=by unfold tT;rw[if_neg hvn,if_neg (by rw[hfd];decide)]
   have hH:Ip L k=x:=by unfold Ip;rw[hE,if_pos rfl,<-HXT.out]
   have hLl:Mp L k=jV k.toList L:=by unfold Mp;rw[hE,if_pos rfl]
   rw[hE,hH,hLl]
   obtain⟨hq32,wb,B,nB,A,c,Z,wA,wc,oA,oc,O,hx⟩:=HD.out
   have HX:=aB hx
   have HQ:=aB hq32
   have hpl:(jV k.toList L).length+1=L.length:=by have:=xZ hstr k.toList;rw[hfd,if_pos rfl] at this;exact this
   have HLY:Hid (∀ Y,pZ (O++[⟨k,0⟩]) Y->nZ B Y (jV k.toList L)):=aB (λY hY=>hx.lay.drop hY HV.symm)
   have HPL:=aB hpl
   have z1:IntKind.i64.wrap ((L.length:Int)-1)=(L.length:Int)-1:=qXc _ (by omega)
   clear hE hH hLl hvn hx hq32 hfd hpl hstr
   go_in
   go_wp2_with fail
   refine HWG.mono ?_
   rintro e w1 ⟨rfl,T1⟩
   have HT1:=aB T1
   clear T1
   go_wp2_with fail
   refine (HWD w1 HT1).mono ?_
   rintro e w2 ⟨rfl,T2⟩
   have HT2:=aB (HT1.then T2)
   have hx2:=HX.quiet HT2
   obtain⟨x0,x1,x2⟩:=hx2.blk.facts
   obtain⟨w3,hw3⟩:=eX (w2.setCell ⟨d,2,none⟩ (.int .i64 ((L.length:Int)-1)))
   have hT3:aC (λg=>g=d) w2 w3:=by rw[hw3];exact (aC.refl (λg=>g=d) w2).setCell (p:=⟨d,2,none⟩) (λ_=>rfl) _
   have hb3:aL w3 d 96 #[dC wb,.slice oA q oc,.int .i64 ((L.length:Int)-1)]:=by
    rw[hw3]
    have:=hx2.blk.set_ 2 (.int .i64 ((L.length:Int)-1))
    simpa using this
   have hx3:qJ w3 d ((L.length:Int)-1) L wb B nB A c Z wA wc oA q oc O :=
    ⟨hb3,hx2.wk.far hT3 (λg t hg ht=>kB (aF hx2.blk) hg ht),hx2.ov.touch hT3 (λg hg=>kB (aF hx2.blk) hg (.inr (.inr (.inr (.inr rfl))))),hx2.len,hx2.few,hx2.nil,hx2.lay,hx2.pos⟩
   have HCH:=aB (xP w3 ((dN.touch HL HT2).far hT3 (λe=>by have:=hx2.pos;omega)) hx3 HQ ⟨k,0⟩ _ HLY (by have:=HPL.out;omega))
   simp only[aE.val] at HCH
   have HT3:=aB ((HT2.up _).then hT3)
   have HW3:=aB hw3
   clear T2 hx2 hw3 hT3 hb3 hx3
   go_upto_region 7 with fail
   rw[<-HW3.out]
   go_wp2_with fail
   refine HCH.mono ?_
   rintro e w4 ⟨rfl,hd4,T4⟩
   have HD4:=aB hd4
   have HT4:=aB (HT3.then T4)
   clear hd4 T4 HCH
   go_wp2_with fail
   go_ret2
   exact⟨rfl,HD4,HT4⟩
end
structure Ks(B0:Nat)(w:World)(s:SL)(L:List aE):Prop where
 ok:s.Ok w
 eq:s.L=L
 far:0<s.n->∀ g,aQ s.A=some g->g<B0\/bE w g 125
theorem Ks.touch(h:Ks B0 w s L)(T:aC S w w')(h1:∀ g,g<B0->¬ S g)(h2:∀ g,bE w g 125 -> ¬ S g):Ks B0 w' s L:=by
 have hS:0<s.n->∀ g,aQ s.A=some g->¬ S g:=λh0 g hg=>(h.far h0 g hg).elim (h1 g) (h2 g)
 refine⟨⟨h.ok.len,?_,h.ok.nil⟩,h.eq,λh0 g hg=>(h.far h0 g hg).imp id (λht=>ht.touch T (h2 g ht))⟩
 rcases Nat.eq_zero_or_pos s.n with e | e
 ·exact⟨h.ok.reads.1,λh0=>by omega⟩
 ·exact h.ok.reads.touch T (hS e)
theorem Ks.quiet(h:Ks B0 w s L)(T:aC (λ_=>False) w w'):Ks B0 w' s L:=h.touch T (λ_ _ f=>f) (λ_ _ f=>f)
theorem Ks.dict(h:Ks B0 w s L)(T:aC (λg=>g=d) w w')(hd:B0<=d)(ht:bE w d 96):Ks B0 w' s L :=
 h.touch T (λg hg e=>by omega) (λg hg=>kB ht hg (.inr (.inr (.inr (.inr rfl)))))
theorem Ks.own(h:cZ w A n c L):Ks B0 w ⟨A,n,c,L⟩ L :=
 ⟨sJ h,rfl,λh0 g hg=>.inr ((fM.of_own h).ty h0 g hg)⟩
def dK.val(r:dK):Value:=.agg #[.string r.word,.int .i64 r.weight,.int .i64 r.dist]
structure Pil(w:World)(p:Nat)(most:Int)(v:Value)(X:List dK):Prop where
 blk:aL w p 264 #[.int .i64 most,v]
 own:w.ownsRow 0 43 3 v X.length (iK X)
def pfp(p:Nat)(v:Value):Nat->Prop:=λg=>g=p\/v.ownBlock=some g
theorem Pil.touch{most:Int}{X:List dK}(h:Pil w p most v X)(ht:aC S w w')(hs:∀ g,g<w.heap.size->pfp p v g->¬ S g):Pil w' p most v X:=by
 refine⟨h.blk.touch ht (hs p h.blk.lt (.inl rfl)),aD h.own ht (λg hg=>hs g ?_ (.inr hg))⟩
 rcases h.own.2 with⟨rfl,_⟩ | ⟨g',cap,cur,rfl,_,hgg,_⟩
 ·simp[Value.ownBlock] at hg
 ·simp[Value.ownBlock] at hg
  subst hg
  exact (Array.getElem?_eq_some_iff.1 hgg).1
theorem Pil.quiet{most:Int}{X:List dK}(h:Pil w p most v X)(ht:aC (λ_=>False) w w'):Pil w' p most v X:=h.touch ht (λ_ _ _ f=>f)
theorem Ti(m:dK):m.val=.agg #[.string m.word,.int .i64 m.weight,.int .i64 m.dist]:=rfl
structure Kep(w:World)(p:Nat)(most:Nat)(v:Value)(S:List dK):Prop where
 ex:∃ H,Pil w p (most:Int) v H/\H.Perm S/\aGu H H.length
 srt:Srt S
 len:S.length<=most
 m64:most<=64
theorem Kep.touch{most:Nat}{S:List dK}{T:Nat->Prop}(h:Kep w p most v S)(ht:aC T w w')(hs:∀ g,g<w.heap.size->pfp p v g->¬ T g):Kep w' p most v S:=by
 obtain⟨H,hp,h1,h2⟩:=h.ex
 exact⟨⟨H,hp.touch ht hs,h1,h2⟩,h.srt,h.len,h.m64⟩
theorem add_zero(w:World)(p:Nat)(v:Value)(S:List dK)(h:Kep w p 0 v S)(m:dK) :
  Calls Tryz.prog 108 #[.pointer (some ⟨p,0,none⟩),m.val] w λe w'=>e=.returned (.bool false)/\aC (λ_=>False) w w':=by
 obtain⟨H,hp,hperm,hh⟩:=h.ex
 have c0:=hp.blk.cell 0
 simp at c0
 have hpl:=hp.blk.lt
 obtain⟨mw,mn,md⟩:=m
 rw[Ti]
 simp only
 clear hp hperm hh h
 go_in
 go_wp2
 go_ret
 exact⟨rfl,(aC.refl _ _).alloc _⟩
structure Nx(w0 w:World)(v:Value)(q:Nat)(N:List dK):Prop where
 own:w.ownsRow 0 43 3 v q (iK N)
 len:N.length=q
 touch:aC (λ_=>False) w0 w
 fresh:∀ g,v.ownBlock=some g->w0.heap.size<=g
theorem Nx.to{w0 w2:World}{N:List dK}(h:Nx w0 w v q N)(t:aC (λ_=>False) w w2):Nx w0 w2 v q N :=
 ⟨aD h.own t (λ_ _ f=>f),h.len,h.touch.then t,h.fresh⟩
theorem Hw(N:List dK)(m:dK):iK (N++[m])=iK N++m.cells:=by simp[iK]
theorem Nx.app{w0 w1 w3:World}{v':Value}{N:List dK}{m:dK}(h:Nx w0 w1 v q N)(ho:w3.ownsRow 0 43 3 v' (q+1) (iK N++m.cells))(hg:w1.grownBy w3 v.ownBlock)(hf:bJ w1 v v') :
  Nx w0 w3 v' (q+1) (N++[m]):=by
 refine⟨by rw[Hw];exact ho,by simp[h.len],?_,?_⟩
 ·exact h.touch.trans ((aC.refl (λg=>v.ownBlock=some g) w1).grown hg (λk hk _=>hk)) (λi hi e=>by have:=h.fresh i e;omega)
 ·intro g e
  rcases hf with k | ⟨g',k,hk⟩
  ·exact h.fresh g (by rw[<-k];exact e)
  ·rw[k] at e
   injection e with e
   have:=h.touch.size
   omega
section
open Go.RowKit Go.Shelf
def Ub(w:World)(L:List aE)(e:Ending)(w':World):Prop :=
 (eK L=false/\(∃ k:Int,(70<=k/\k=Av L)/\e=.returned (.tuple #[.pointer none,.int .i64 k]))/\aC (λ_=>False) w w') \/
 (eK L=true/\∃ d,e=.returned (.tuple #[dC d,.int .i64 0])/\gK w' d L 0/\w.heap.size<=d/\aC (λ_=>False) w w')
theorem Ce(w:World)(hL:dN w)(s:SL)(hs:s.Ok w)(hWz:∀ r∈s.L,r.word.size<=1099511627776)(hn:s.n<=maxLen) :
  Calls Tryz.prog 11 #[s.val] w (Ub w s.L):=by
 have HFB:=aB (yD w hL s hs hWz hn)
 have HL:=aB hL
 have HSL:=aB hs.len
 obtain⟨sA,sn,sc,sL⟩:=s
 simp only[SL.val] at HFB ⊢
 clear hs hWz hn hL
 go_in
 go_wp2_with fail
 refine HFB.mono ?_
 rintro e w1 (⟨hr,k,hk,rfl,T1⟩ | ⟨hr,A,n,c,Z,rfl,hst,hz,_,T1⟩)
 ·have hT2:aC (λ_=>False) w (w1.alloc (.cells #[.int .i64 0,.slice none 0 0] 89)):=T1.alloc _
  have k1:(k == 0)=false:=by simp;omega
  have k2:¬ k=0:=by omega
  have HT2:=aB hT2
  have HR:=aB (And.intro hr hk)
  clear hT2 T1 HFB hk hr
  go_wp2_with fail
  go_ret2
  exact .inl ⟨HR.1,⟨k,HR.2,rfl⟩,HT2⟩
 ·have hD:=jG hr
  obtain⟨bs,hbs⟩:=eX ((bB sL).base)
  obtain⟨w2,hw2⟩:=eX (w1.alloc (.cells #[.int .i64 bs,.slice A n c] 89))
  have hT12:aC (λ_=>False) w1 w2:=by rw[hw2];exact (aC.refl _ _).alloc _
  have hT2:aC (λ_=>False) w w2:=T1.then hT12
  have hbM:aL w2 w1.heap.size 89 #[.int .i64 bs,.slice A n c]:=by rw[hw2];exact aL.new _ _ _
  have hdn:=xX w2 (dN.touch HL hT2) sL hD A n c Z (hst.quiet hT12) hz
  rw[<-hbs] at hdn
  have HT2:=aB hT2
  have HW2:=aB hw2
  have HDN:=aB hdn
  have HD:=aB hD
  have HR:=aB hr
  obtain⟨m0,m1,m2⟩:=hbM.facts
  rw[<-hbs]
  clear hw2 hT2 T1 HFB hT12 hbM hdn hst hz hr hD hbs
  go_wp2_with fail
  rw[<-HW2.out]
  go_wp2_with fail
  refine HDN.mono ?_
  rintro e w3 ⟨b,A',c',Z',wA,wc,rfl,hdw,hI⟩
  have HT3:=aB (HT2.then hI.touch)
  have HDW:=aB hdw
  clear hdw hI HDN m0 m1 m2
  go_wp2_with fail
  go_ret2
  have hT4:aC (λ_=>False) w3 (w3.alloc (.cells #[dC b,.slice none 0 0,.int .i64 (sn:Int)] 96)):=(aC.refl _ _).alloc _
  refine .inr ⟨HR,w3.heap.size,rfl,⟨qJb _,_,_,_,_,_,_,_,_,none,0,[],⟨?_,HDW.quiet hT4,⟨aI.nil _ _ _,λh=>absurd h (by omega)⟩,rfl,by omega,λ_=>⟨rfl,rfl⟩,nZ.begin HD,?_⟩⟩,HT3.size,HT3.then hT4⟩
  ·have e:(sL.length:Int)=(sn:Int):=by have h0:sL.length=sn:=HSL.out;omega
   rw[e]
   exact aL.new _ _ _
  ·exact Nat.lt_of_lt_of_le HL.1 HT3.size
theorem Lr(w:World)(hL:dN w) :
  Calls Tryz.prog 30 #[] w λe w'=>∃ d,e=.returned (dC d)/\gK w' d [] 0/\w.heap.size<=d/\aC (λ_=>False) w w':=by
 have HLD:=aB (Ce w hL ⟨none,0,0,[]⟩ ⟨rfl,aI.nil _ _ _,λ_=>⟨rfl,rfl⟩⟩ (λr hr=>by cases hr) (by unfold maxLen;simp only;omega))
 simp only[SL.val] at HLD
 clear hL
 go_in
 go_wp2_with fail
 refine HLD.mono ?_
 rintro e w1 (⟨hr,_⟩ | ⟨_,d,rfl,hd,hdl,T1⟩)
 ·cases hr
 ·have HD:=aB hd
  have HDL:=aB hdl
  have HT1:=aB T1
  clear hd hdl T1 HLD
  go_wp2_with fail
  go_ret
  exact⟨d,rfl,HD,HDL,HT1⟩
end
structure OpD where
 kind:Int
 word:ByteArray
 n:Int
def OpD.zero:OpD:=⟨0,ByteArray.empty,0⟩
def OpD.cells(o:OpD):List Value:=[.int .i64 o.kind,.string o.word,.int .i64 o.n]
def OpD.val(o:OpD):Value:=.agg #[.int .i64 o.kind,.string o.word,.int .i64 o.n]
def OpD.Wf(o:OpD):Prop:=o.word.size<=1099511627776
end Go.Proofs.YthockgmbooefpaaGreatDoor
