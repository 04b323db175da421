/- What the law rests on, part 16. No condition but those that each theorem names. -/
import Derived.Test.YthockgmbooefpaaGreatDoorV15
import Derived.Test.YthockgmbooefpaaGreatDoorV04
import Derived.Laws.CopyRow
import Derived.Test.YthockgmbooefpaaGreatDoorV10
import Derived.Test.YthockgmbooefpaaGreatDoorV07
import Derived.Laws.MakeOwn
import Derived.Lib.SlBuf
import Derived.StillTailTactics
import Derived.Test.YthockgmbooefpaaGreatDoorV11
import Derived.Lib.Walk
set_option linter.unusedSectionVars false
set_option linter.unusedSimpArgs false
set_option linter.unusedVariables false
set_option maxRecDepth 100000
set_option maxHeartbeats 4000000
namespace Go.Proofs.YthockgmbooefpaaGreatDoor
open IntWalk renaming i64_in → qQd
open List renaming take_of_length_le → qQa, getD → qZa, all_eq_true → qJa, getElem_cons_succ → qQb, getElem_cons_zero → qZb, getElem_toArray → qXb, setIfInBounds_toArray → qJb, set_cons_succ → qQc, set_cons_zero → qZc, filter_append → qXc, length_take → qZd, take_succ_eq_append_getElem → qXd, eq_nil_of_length_eq_zero → qJd, take_append_of_le_length → qXf
open Nat renaming zero_le → qXa, le_refl → qJc
variable{m:Int}{Z:List SV}{B L O:List aD}{B0 c d n oc on q wb wc:Nat}{S:Nat->Prop}{A oA wA:Option Addr}{s:SL}{w w':World}
open Go.RowKit
theorem Wb(w:World)(g n c:Nat)(X:List aD)(h:dO w (some ⟨g,0,none⟩) n c X)(i c':Nat)(hi:i<n)(ty:TypeId) :
  ∃ w',(Builtin.clear_ #[37] ty #[.slice (some ⟨g,i*2,none⟩) (n-i) c']).run Tryz.prog w=.ok (.tuple #[]) w'/\dO w' (some ⟨g,0,none⟩) i c (X.take i)/\aC (λk=>k=g) w w':=by
 obtain⟨i0,hi0,hz0,hz1,_⟩:=aQ kE
 rcases h.2 with⟨e,_⟩ | ⟨g',cap,cur,e,_,hgg,hnc,hcm,hcs,ht⟩
 ·cases e
 injection e with e1 e2 e3
 injection e1 with e1
 injection e1 with e1
 subst e1 e3
 obtain⟨Zs,hZ⟩:=eX ((Builtin.zeroCells (Value.agg #[.string ByteArray.empty,.int .i64 0]).cells (n-i)).toList)
 have hzl:Zs.length=(n-i)*2:=by rw[hZ,Array.length_toList];simp[Builtin.zeroCells,Value.cells]
 have hz1c:∀ v∈Zs,v.oneCell'=true:=by
  intro v hv
  rw[hZ] at hv
  simp only[Builtin.zeroCells,Array.toList_map,List.mem_map] at hv
  obtain⟨j,_,rfl⟩:=hv
  have:j % (Value.agg #[Value.string ByteArray.empty,Value.int IntKind.i64 0]).cells.size=0\/j % (Value.agg #[Value.string ByteArray.empty,Value.int IntKind.i64 0]).cells.size=1:=by
   simp only[Value.cells,List.size_toArray,List.length_cons,List.length_nil]
   omega
  rcases this with e | e<;>(rw[e];rfl)
 have hst:=run_storeCells_at (P:=Tryz.prog) g (i*2) 125 Zs 0 cur w hgg (by rw[hzl,hcs];omega) hz1c
 simp only[Nat.add_zero] at hst
 obtain⟨cs,hcsd⟩:=eX ((cur.toList.take (i*2)++Zs++cur.toList.drop (i*2+Zs.length)).toArray)
 rw[<-hcsd] at hst
 refine⟨w.setRow g cs,?_,⟨?_,.inr ⟨g,c,cs,rfl,qXa _,setRow_heap w g cur cs _ _ hgg,by omega,hcm,?_,?_⟩⟩,⟨rfl,rfl,rfl,by simp,λk _ hk=>setRow_other w g k cs hk⟩⟩
 ·obtain⟨m,hm⟩:∃ m,n-i=m+1:=⟨n-i-1,by omega⟩
  have hv:∀ w,(zeroValue 125).run Tryz.prog w=.ok (Value.agg #[.string ByteArray.empty,.int .i64 0]) w:=λw=>by simp[zeroValue,typeInfo,hi0,hz0]
  rw[hm] at hZ ⊢
  simp[Builtin.clear_,run_underlying Tryz.underlying37,hv,<-hZ,hst]
 ·rw[tF,qZd,<-bN h];omega
 ·rw[hcsd];simp[hzl,hcs];omega
 ·rw[hcsd]
  simp only[List.append_assoc]
  rw[qXf (by rw[qZd,Array.length_toList];omega),List.take_take,Nat.min_self,<-Nh,<-ht,List.take_take]
  congr 1
  omega
abbrev aKk:Value:=.func (.func 145) #[] #[]
theorem vU(a:aD)(w:World) :
  Calls Tryz.prog 145 #[a.val] w λe w'=>e=.returned (.bool (a.weight == 0))/\aC (λ_=>False) w w':=by
 obtain⟨aw,an⟩:=a
 rw[Af]
 go_in
 go_wp2
 go_ret
 exact⟨rfl,(aC.refl _ _).alloc _⟩
theorem Wx(w:World)(A:Option Addr)(n c:Nat)(X:List aD)(h:dO w A n c X) :
  Calls Tryz.prog 174 #[.slice A n c,aKk] w λe w'=>((e=.returned (.int .i64 (-1))/\X.filter dM=X)\/∃ i,i<n/\e=.returned (.int .i64 (i:Nat))/\(X.take i).filter dM=X.take i/\((X.getD i aD.zero).weight == 0)=true)/\aC (λ_=>False) w w':=by
 have hn:=dR h
 unfold maxLen at hn
 have HO:=aB h
 have HL:=aB (bN h)
 clear h
 go_in
 go_wp2
 go_loopw [8] (λiv wr=>∃ i:Nat,iv=.int .i64 i/\i<=n/\Hid ((X.take i).filter dM=X.take i)/\Hid (aC (λ_=>False) w wr)) (λiv _=>n-(intOf iv).toNat)
 case atStart=>exact⟨0,rfl,qXa _,aB (by simp),aB (aC.refl _ _)⟩
 case round =>
  obtain⟨i,rfl,hin,HF,HT⟩:=hrel
  by_cases h0:i<n
  ·have y0:(i:Int)<(n:Int):=by omega
   obtain⟨g,rfl,hg,a0,a1,_,_⟩:=dU (aF HO HT (λ_ _ f=>f)) HL i h0
   have hlt:i<X.length:=by rw[<-HL.out];exact h0
   have htk:X.take (i+1)=X.take i++[X.getD i aD.zero]:=by
    have e2:X.getD i aD.zero=X[i]:=by simp[qZa,hlt]
    rw[qXd hlt,e2]
   obtain⟨⟨xw,xn⟩,hx⟩:∃ r,r=X.getD i aD.zero:=⟨_,rfl⟩
   rw[<-hx] at a0 a1 htk
   simp only at a0 a1
   have HX:=aB hx
   have HTK:=aB htk
   clear hx htk hlt
   by_cases hz:xn=0
   ·have q1:(xn == 0)=true:=by simp[hz]
    have HQ:=aB q1
    clear hz q1
    go_wp2_with (go_at_call 145;refine (vU ⟨xw,xn⟩ wr).mono ?_;rw[show ((⟨xw,xn⟩:aD).weight == 0)=true from HQ.out];rintro e w2 ⟨rfl,T2⟩;have HT2:=aB (HT.then T2);clear T2)
    go_ret
    exact⟨.inr ⟨i,h0,rfl,HF,by rw[<-HX.out];exact HQ⟩,HT2⟩
   ·have q1:(xn == 0)=false:=by simp[hz]
    have HQ:=aB q1
    clear hz q1
    go_wp2_with (go_at_call 145;refine (vU ⟨xw,xn⟩ wr).mono ?_;rw[show ((⟨xw,xn⟩:aD).weight == 0)=false from HQ.out];rintro e w2 ⟨rfl,T2⟩;have HT2:=aB (HT.then T2);clear T2)
    go_roundw
    ·refine⟨i+1,by simp,by omega,aB ?_,HT2⟩
     rw[HTK.out,qXc,HF.out]
     have e:dM ⟨xw,xn⟩=true:=by unfold dM;rw[show ((⟨xw,xn⟩:aD).weight == 0)=false from HQ.out];rfl
     simp[e]
    ·show n-(intOf (.int .i64 ((i:Int)+1))).toNat<n-(intOf (.int .i64 (i:Int))).toNat
     simp[intOf]
     omega
  ·have hX:X.take i=X:=qQa (by rw[<-HL.out];omega)
   have HXX:=aB hX
   clear hX
   go_wp2
   go_ret
   have hf:=HF.out
   rw[HXX.out] at hf
   exact⟨.inl ⟨rfl,hf⟩,HT⟩
theorem Qi(w:World)(A:Option Addr)(n c:Nat)(X:List aD)(h:dO w A n c X) :
  Calls Tryz.prog 143 #[.slice A n c,aKk] w λe w'=>∃ m,m<=n/\e=.returned (.slice A m c)/\dO w' A m c (X.filter dM)/\aC (λg=>aJ A=some g) w w':=by
 have hn:=dR h
 have hnc:n<=c/\c<=maxLen:=by
  obtain⟨A',c',e,h1,h2⟩:=aS h
  injection e with _ _ e3
  subst e3
  exact⟨by omega,h2⟩
 obtain⟨hnc,hcm⟩:=hnc
 unfold maxLen at hn hcm
 have HO:=aB h
 have HL:=aB (bN h)
 have HIX:=aB (Wx w A n c X h)
 clear h
 go_in
 go_wp2_with fail
 refine HIX.mono ?_
 rintro e w1 ⟨⟨rfl,hf⟩ | ⟨i,hi,rfl,hf,hz⟩,T1⟩
 ·have HF:=aB hf
  have HO1:=aB (aF HO T1 (λ_ _ f=>f))
  have HT:=aB T1
  clear hf T1
  go_wp2
  go_ret
  exact⟨n,qJc _,rfl,by rw[HF.out];exact HO1,HT.up _⟩
 ·have HF:=aB hf
  have HZ:=aB hz
  have HO1:=aB (aF HO T1 (λ_ _ f=>f))
  have HT:=aB T1
  have x0:((i:Int) == -1)=false:=by simp
  have x1:¬ ((i:Int) = -1):=by omega
  have x2:(i:Int)<(n:Int):=by omega
  clear hf hz T1
  obtain⟨wo,hwo⟩:=eX w1
  rw[<-hwo] at HO1 HT ⊢
  clear hwo
  go_wp2
  go_loopw [5,6] (λiv jv wr=>∃ i j:Nat,iv=.int .i64 i/\jv=.int .i64 j/\i<j/\j<=n/\Hid (∃ Y,dO wr A n c Y/\Y.take i=(X.take j).filter dM/\Y.drop j=X.drop j)/\Hid (aC (λg=>aJ A=some g) w wr)) (λ_ jv _=>n-(intOf jv).toNat)
  case atStart =>
   refine⟨i,i+1,rfl,by simp,by omega,by omega,aB ⟨X,HO1,?_,rfl⟩,aB (HT.up _)⟩
   have hlt:i<X.length:=by rw[<-HL.out];exact hi
   have e2:X.getD i aD.zero=X[i]:=by simp[qZa,hlt]
   have hz:=HZ.out
   rw[e2] at hz
   rw[qXd hlt,qXc,HF.out]
   have e:dM X[i]=false:=by unfold dM;rw[hz];rfl
   simp[e]
  case round =>
   obtain⟨i2,j,rfl,rfl,hij,hjn,HE,HT2⟩:=hrel
   by_cases h0:j<n
   ·have y0:(j:Int)<(n:Int):=by omega
    obtain⟨Y,O2,e1,e2⟩:=HE.out
    have hyl:=bN O2
    obtain⟨g,hA,hg,a0,a1,_,_⟩:=dU O2 hyl j h0
    subst hA
    obtain⟨g',hA',_,b0,b1,f0,f1⟩:=dU O2 hyl i2 (by omega)
    injection hA' with hA'
    injection hA' with hA' _
    subst hA'
    have hltX:j<X.length:=by rw[<-HL.out];exact h0
    have hltY:j<Y.length:=by omega
    have hxy:Y.getD j aD.zero=X.getD j aD.zero:=by
     have:=congrArg (λl=>l.getD 0 aD.zero) e2
     simpa [qZa] using this
    have hdr:Y.drop (j+1)=X.drop (j+1):=by
     have:=congrArg (List.drop 1) e2
     simpa using this
    have htk:X.take (j+1)=X.take j++[X.getD j aD.zero]:=by
     have e3:X.getD j aD.zero=X[j]:=by simp[qZa,hltX]
     rw[qXd hltX,e3]
    rw[hxy] at a0 a1
    obtain⟨⟨xw,xn⟩,hx⟩:∃ r,r=X.getD j aD.zero:=⟨_,rfl⟩
    rw[<-hx] at a0 a1 htk
    obtain⟨⟨zw,zn⟩,hz⟩:∃ r,r=Y.getD i2 aD.zero:=⟨_,rfl⟩
    rw[<-hz] at b0 b1
    simp only at a0 a1 b0 b1
    have HO2:=aB O2
    have HEE:=aB (And.intro e1 (And.intro hdr (And.intro htk hyl)))
    obtain⟨p,hp⟩:=eX wr.heap.size
    obtain⟨wa,hwa⟩:=eX (wr.alloc (.cells #[.string xw,.int .i64 xn] 125))
    have ta:aC (λ_=>False) wr wa:=by rw[hwa];exact (aC.refl _ _).alloc _
    have ba:aL wa p 125 #[.string xw,.int .i64 xn]:=by rw[hwa,hp];exact aL.new _ _ _
    have HTA:=aB ta
    have HBA:=aB ba
    have HWA:=aB hwa
    have HPP:=aB hp
    have x3:i2<n:=by omega
    have x4:(i2:Int)<(n:Int):=by omega
    clear O2 e1 e2 hxy hdr htk hx hz HE hltX hltY ta ba hwa hp hyl
    by_cases hq:xn=0
    ·have q1:(xn == 0)=true:=by simp[hq]
     have HQ:=aB q1
     clear hq q1
     go_wp2_with fail
     rw[<-HWA.out]
     refine (vU ⟨xw,xn⟩ wa).mono ?_
     rw[show ((⟨xw,xn⟩:aD).weight == 0)=true from HQ.out]
     rintro e w2 ⟨rfl,T2⟩
     have HTC:=aB (HTA.then T2)
     clear T2
     go_wp2_with fail
     go_roundw
     ·obtain⟨e1,hdr,htk,hyl⟩:=HEE.out
      refine⟨i2,j+1,rfl,by simp,by omega,by omega,aB ⟨Y,aF HO2 HTC (λ_ _ f=>f),?_,hdr⟩,aB (HT2.then (HTC.up _))⟩
      rw[htk,qXc,e1]
      have e:dM ⟨xw,xn⟩=false:=by unfold dM;rw[show ((⟨xw,xn⟩:aD).weight == 0)=true from HQ.out];rfl
      simp[e]
     ·show n-(intOf (.int .i64 ((j:Int)+1))).toNat<n-(intOf (.int .i64 (j:Int))).toNat
      simp[intOf]
      omega
    ·have q1:(xn == 0)=false:=by simp[hq]
     have HQ:=aB q1
     clear hq q1
     go_wp2_with fail
     rw[<-HWA.out,<-HPP.out]
     refine (vU ⟨xw,xn⟩ wa).mono ?_
     rw[show ((⟨xw,xn⟩:aD).weight == 0)=false from HQ.out]
     rintro e w2 ⟨rfl,T2⟩
     have HTC:=aB (HTA.then T2)
     have hb2:=HBA.touch T2 (λf=>f)
     obtain⟨c0,c1⟩:w2.cell? ⟨p,0,none⟩=some (.string xw)/\w2.cell? ⟨p,1,none⟩=some (.int .i64 xn):=⟨hb2.cell 0,hb2.cell 1⟩
     have O3:=aF HO2 HTC (λ_ _ f=>f)
     obtain⟨g',hA',hg2,d0,d1,k0,k1⟩:=dU O3 (bN O3) i2 x3
     injection hA' with hA'
     injection hA' with hA' _
     subst hA'
     have HO3:=aB O3
     clear T2 hb2 O3 a0 a1 b0 b1 f0 f1
     go_wp2_with fail
     go_roundw
     ·obtain⟨e1,hdr,htk,hyl⟩:=HEE.out
      have HS:=iU HO3 i2 ⟨xw,xn⟩
      refine⟨i2+1,j+1,by simp,by simp,by omega,by omega,aB ⟨Y.set i2 ⟨xw,xn⟩,HS,?_,?_⟩,aB ?_⟩
      ·rw[htk,qXc,<-e1]
       have e:dM ⟨xw,xn⟩=true:=by unfold dM;rw[show ((⟨xw,xn⟩:aD).weight == 0)=false from HQ.out];rfl
       have hl2:i2<(Y.set i2 ⟨xw,xn⟩).length:=by rw[List.length_set];omega
       rw[qXd hl2]
       simp[e,List.take_set_of_le]
      ·rw[List.drop_set_of_lt (by omega)]
       exact hdr
      ·iterate 2 refine aC.setCell ?_ (λ_=>(rfl:aJ (some ⟨g,0,none⟩)=some g)) _
       exact HT2.then (HTC.up _)
     ·show n-(intOf (.int .i64 ((j:Int)+1))).toNat<n-(intOf (.int .i64 (j:Int))).toNat
      simp[intOf]
      omega
   ·have hjn':j=n:=by omega
    obtain⟨Y,O2,e1,e2⟩:=HE.out
    obtain⟨g,hA,hg,_,_,_,_⟩:=dU O2 (bN O2) i2 (by omega)
    subst hA
    have hfil:Y.take i2=X.filter dM:=by
     rw[e1,qQa (by rw[<-HL.out];omega)]
    obtain⟨w3,r3,O3,T3⟩:=Wb wr g n c Y O2 i2 (c-i2) (by omega) 0
    have HFI:=aB hfil
    have HO3:=aB O3
    have HT3:=aB (HT2.then (T3.mono (λi hi e=>by rw[e];rfl)))
    have x3:i2<n:=by omega
    have x4:(i2:Int)<=(n:Int):=by omega
    have x5:¬ c=i2:=by omega
    have x6:i2<=c:=by omega
    have x7:(i2:Int)<=(c:Int):=by omega
    have HR3:=aB r3
    clear O2 e1 e2 hfil O3 T3 HE r3
    go_wp2_with fail
    rw[HR3.out]
    simp only[Result.andThen]
    rw[Oper.upon_value]
    go_wp2
    go_ret
    refine⟨i2,by omega,rfl,?_,HT3⟩
    rw[<-HFI.out]
    exact HO3
theorem Sa(w:World)(s t:SL)(hs:s.Ok w)(ht:t.Ok w)(hsum:s.n+t.n<=5864062014700) :
  Calls Tryz.prog 87 #[s.val,t.val] w λe w'=>∃ A n c Y,e=.returned (.slice A n c)/\dO w' A n c (Y.filter dM)/\qD (s.L++t.L) Y/\aC (λ_=>False) w w'/\n<=s.n+t.n/\(A=none->n=0/\c=0)/\∀ g,aJ A=some g->w.heap.size<=g:=by
 obtain⟨wa,hwa⟩:=eX (w.alloc (.cells [s.val,t.val].toArray 37))
 obtain⟨g,hg⟩:=eX w.heap.size
 have ta:aC (λ_=>False) w wa:=by rw[hwa];exact (aC.refl _ _).alloc _
 have hr:aH wa 1 (some ⟨g,0,none⟩) 2 ([s,t].map SL.val):=by rw[hwa,hg];exact aH.new w _ _ _ rfl
 have HOR:=aB (yP wa (some ⟨g,0,none⟩) 2 2 [s,t] rfl hr (λx hx=>by simp at hx;rcases hx with rfl | rfl;exact hs.touch ta;exact ht.touch ta) (by simp[lE];exact hsum) (by decide))
 have HTA:=aB ta
 have HWA:=aB hwa
 have HG:=aB hg
 clear hs ht ta hr hwa hg
 obtain⟨sA,sn,sc,sL⟩:=s
 obtain⟨tA,tn,tc,tL⟩:=t
 simp only[SL.val] at HWA ⊢
 simp only at hsum
 go_in
 go_wp2_with fail
 have e1:w.alloc (.cells #[.slice sA sn sc,.slice tA tn tc] 37)=wa:=HWA.symm
 rw[e1,<-HG.out]
 clear e1
 refine HOR.mono ?_
 rintro e w1 ⟨A,n,c,Y,rfl,O1,N1,T1,h1,h2,h3⟩
 have HDE:=aB (Qi w1 A n c Y O1)
 have HN:=aB N1
 have HT:=aB T1
 have H1:=aB (And.intro h1 (And.intro h2 h3))
 clear O1 N1 T1 h1 h2 h3
 go_wp2_with fail
 refine HDE.mono ?_
 rintro e w2 ⟨m,hm,rfl,O2,T2⟩
 have HO:=aB O2
 have HM:=aB hm
 have HT2:=aB (HTA.then (HT.trans T2 (λi hi hp=>by
  have:=H1.2.2 i hp
  omega)))
 clear O2 T2 hm HDE
 go_wp2
 go_ret
 obtain⟨h1,h2,h3⟩:=H1.out
 have hN:=HN.out
 simp only[List.flatMap_cons,List.flatMap_nil,List.append_nil] at hN
 simp[lE] at h1
 have hm:=HM.out
 refine⟨A,m,c,Y,rfl,HO,hN,HT2,by omega,λe=>?_,λg hg=>?_⟩
 ·have:=h2 e
  omega
 ·have:=h3 g hg
  have:=HTA.size
  omega
theorem Hp(w:World)(A:Option Addr)(n c:Nat)(X:List aD)(hX:X.length=n)(hA:aH w 2 A n (bK X))(hn:n<=maxLen)(B:Option Addr)(d:Nat)(hB:aH w 2 B n (bK X)) :
  Calls Tryz.prog 22 #[.slice A n c,.slice B n d] w λe w'=>e=.returned (.bool true)/\aC (λ_=>False) w w':=by
 unfold maxLen at hn
 have HA:=aB hA
 have HB:=aB hB
 have HX:=aB hX
 clear hA hB hX
 go_in
 go_wp2
 go_loopw [5] (λi wr=>∃ k:Nat,k<=n/\i=.int .i64 k/\Hid (aC (λ_=>False) w wr)) (λi _=>n-(intOf i).toNat)
 case atStart=>exact⟨0,qXa _,rfl,aB (aC.refl _ _)⟩
 case round =>
  obtain⟨k,hk,rfl,HT⟩:=hrel
  by_cases hkn:k<n
  ·obtain⟨g,o,hg,_,a0,a1⟩:=dN (HA.touch HT (λ_ _ f=>f)) HX.symm k hkn
   obtain⟨g',o',hg',_,b0,b1⟩:=dN (HB.touch HT (λ_ _ f=>f)) HX.symm k hkn
   subst hg hg'
   obtain⟨⟨xw,xn⟩,hx⟩:∃ x,x=X.getD k aD.zero:=⟨_,rfl⟩
   rw[<-hx] at a0 a1 b0 b1
   simp only at a0 a1 b0 b1
   have k0:(k:Int)<(n:Int):=by omega
   clear hx
   go_wp2
   go_quiet (fail)
   go_wp2
   go_roundw
   ·exact⟨k+1,by omega,by simp,aB (HT.drewN _)⟩
   ·show n-(intOf (.int .i64 ((k:Int)+1))).toNat<n-(intOf (.int .i64 (k:Int))).toNat
    simp[intOf]
    omega
  ·go_wp2
   go_ret
   exact⟨rfl,HT⟩
section
open Go.RowKit Go.Shelf
def Lt(t:TypeId):Prop:=t = 167 \/ t = 170 \/ t = 173 \/ t = 3 \/ t = 125
structure sK(w:World)(d:Nat)(m:Int)(L:List aD)(wb:Nat)(B:List aD)(n:Nat)(A:Option Addr)(c:Nat)(Z:List SV)(wA:Option Addr)(wc:Nat)(oA:Option Addr)(on oc:Nat)(O:List aD):Prop where
 blk:aL w d 96 #[bB wb,.slice oA on oc,.int .i64 m]
 wk:It w wb B n A c Z wA wc
 ov:gL w 125 2 oA on (bK O)
 len:O.length=on
 few:on<=33
 nil:oA=none->on=0/\oc=0
 lay:qE B O L
 pos:0<d
def iK(w:World)(d:Nat)(L:List aD)(q:Nat):Prop:=q<=32/\∃ wb B n A c Z wA wc oA oc O,sK w d (L.length:Int) L wb B n A c Z wA wc oA q oc O
theorem eW.far(h:eW w A n Z)(T:aC S w w')(hS:∀ g t,bQ w g t->Lt t->¬ S g):eW w' A n Z :=
 ⟨h.rd.touch T (λg hg=>hS g _ hg (.inr (.inl rfl))),h.len,λz hz=>(h.el z hz).touch T (λg hg=>hS g _ hg (.inr (.inr (.inl rfl))))⟩
theorem It.far{b:Nat}(h:It w b L n A c Z wA wc)(T:aC S w w')(hS:∀ g t,bQ w g t->Lt t->¬ S g):It w' b L n A c Z wA wc :=
 ⟨⟨h.wk.blk.touch T (hS _ _ (aG h.wk.blk) (.inl rfl)),h.wk.sts.far T hS,h.wk.wds.touch T (λg hg=>hS g _ hg (.inr (.inr (.inr (.inl rfl))))),h.wk.len⟩,h.st,h.few⟩
section
variable{w w':World}{d:Nat}{m:Int}{L:List aD}{wb:Nat}{B:List aD}{n:Nat}{A:Option Addr}{c:Nat}{Z:List SV}{wA:Option Addr}{wc:Nat}{oA:Option Addr}{on oc:Nat}{O:List aD}{q:Nat}{S:Nat->Prop}
theorem sK.far(h:sK w d m L wb B n A c Z wA wc oA on oc O)(T:aC S w w')(hd:¬ S d)(hS:∀ g t,bQ w g t->Lt t->¬ S g):sK w' d m L wb B n A c Z wA wc oA on oc O :=
 ⟨h.blk.touch T hd,h.wk.far T hS,h.ov.touch T (λg hg=>hS g _ hg (.inr (.inr (.inr (.inr rfl))))),h.len,h.few,h.nil,h.lay,h.pos⟩
theorem sK.quiet(h:sK w d m L wb B n A c Z wA wc oA on oc O)(T:aC (λ_=>False) w w'):sK w' d m L wb B n A c Z wA wc oA on oc O:=h.far T (λf=>f) (λ_ _ _ _ f=>f)
theorem iK.quiet(h:iK w d L q)(T:aC (λ_=>False) w w'):iK w' d L q:=by
 obtain⟨h1,wb,B,n,A,c,Z,wA,wc,oA,oc,O,hx⟩:=h
 exact⟨h1,wb,B,n,A,c,Z,wA,wc,oA,oc,O,hx.quiet T⟩
theorem iK.far(h:iK w d L q)(T:aC S w w')(hd:¬ S d)(hS:∀ g t,bQ w g t->Lt t->¬ S g):iK w' d L q:=by
 obtain⟨h1,wb,B,n,A,c,Z,wA,wc,oA,oc,O,hx⟩:=h
 exact⟨h1,wb,B,n,A,c,Z,wA,wc,oA,oc,O,hx.far T hd hS⟩
theorem iK.dict(h:iK w d L q):aZ L:=by
 obtain⟨h1,wb,B,n,A,c,Z,wA,wc,oA,oc,O,hx⟩:=h
 exact hx.lay.dL
theorem iK.ty(h:iK w d L q):bQ w d 96 := by
 obtain⟨h1,wb,B,n,A,c,Z,wA,wc,oA,oc,O,hx⟩:=h
 exact aG hx.blk
theorem iK.pos(h:iK w d L q):0<d:=by
 obtain⟨h1,wb,B,n,A,c,Z,wA,wc,oA,oc,O,hx⟩:=h
 exact hx.pos
end
theorem lB{g:Nat}{t:TypeId}(h:bQ w d 96)(hg:bQ w g t)(ht:Lt t):¬ g=d:=by
 intro e
 subst e
 refine h.ne hg ?_ rfl
 rcases ht with rfl | rfl | rfl | rfl | rfl<;>decide
theorem iK.other{e:Nat}(h:iK w d L q)(T:aC (λg=>g=e) w w')(he:bQ w e 96)(hne:d≠e):iK w' d L q :=
 h.far T hne (λg t hg ht=>lB he hg ht)
theorem cV.far(h:cV w)(T:aC S w w')(hS:¬ S 0):cV w':=by
 obtain⟨h0,h1,h2,h3⟩:=h
 exact⟨Nat.lt_of_lt_of_le h0 T.size,(T.cell (a:=⟨0,2,none⟩) h0 hS).trans h1,(T.cell (a:=⟨0,3,none⟩) h0 hS).trans h2,(T.cell (a:=⟨0,4,none⟩) h0 hS).trans h3⟩
theorem aBe(w:World)(hL:cV w)(hx:sK w d m L wb B n A c Z wA wc oA on oc O)(k:ByteArray)(hk:k.size<=1099511627776) :
  Calls Tryz.prog 15 #[bB d,.string k] w λe w'=>e=.returned (.tuple #[.int .i64 (bC k.toList L).1,.bool (bC k.toList L).2])/\aC (λ_=>False) w w':=by
 have hf:=hx.lay.find k.toList
 have HPF:=aB (Hj w oA on oc O hx.len hx.ov.rd (by unfold maxLen;have:=hx.few;omega) k)
 have HDF:=aB (λ(wx:World) (T:aC (λ_=>False) w wx)=>Wi (hx.wk.quiet T) hx.lay.dB (cV.touch hL T) k hk)
 have HB:=aB hx.blk
 obtain⟨x0,x1,x2⟩:=hx.blk.facts
 obtain⟨⟨x,t⟩,hxo⟩:∃ r,r=bC k.toList O:=⟨_,rfl⟩
 obtain⟨⟨y,u⟩,hyb⟩:∃ r,r=bC k.toList B:=⟨_,rfl⟩
 rw[<-hxo,<-hyb] at hf
 rw[<-hxo] at HPF
 simp only[<-hyb] at HDF
 simp only at HPF HDF hf
 clear hx hL hk hxo hyb
 cases t with
 | true =>
  rw[if_pos rfl] at hf
  rw[hf]
  clear hf HDF
  go_in
  go_wp2_with fail
  refine HPF.mono ?_
  rintro e w1 ⟨rfl,T1⟩
  have HT1:=aB T1
  clear T1 HPF x0 x1 x2
  go_wp2_with fail
  go_ret2
  exact⟨by simp,HT1⟩
 | false =>
  rw[if_neg (by decide)] at hf
  rw[hf]
  clear hf
  go_in
  go_wp2_with fail
  refine HPF.mono ?_
  rintro e w1 ⟨rfl,T1⟩
  have HT1:=aB T1
  have HD1:=aB (HDF _ T1)
  clear x0 x1 x2
  obtain⟨x0,x1,x2⟩:=(HB.touch T1 (λf=>f)).facts
  clear T1 HPF HDF
  go_wp2_with fail
  refine HD1.mono ?_
  rintro e w2 ⟨rfl,T2⟩
  have HT2:=aB (HT1.then T2)
  clear T2
  go_wp2_with fail
  go_ret2
  exact⟨rfl,HT2⟩
theorem Bp(w:World)(hL:cV w)(h:iK w d L q)(k:ByteArray)(hk:k.size<=1099511627776) :
  Calls Tryz.prog 15 #[bB d,.string k] w λe w'=>e=.returned (.tuple #[.int .i64 (bC k.toList L).1,.bool (bC k.toList L).2])/\aC (λ_=>False) w w':=by
 obtain⟨h1,wb,B,n,A,c,Z,wA,wc,oA,oc,O,hx⟩:=h
 exact aBe w hL hx k hk
end
section
open Go.RowKit Go.Shelf
theorem aDb{base:Nat}{e:TypeId}{size:Nat}{xs:List Value}(h:w.ownsRow base e size (.slice A n c) n xs):A=none->n=0/\c=0:=by
 intro hA
 rcases h.2 with⟨e1,_⟩ | ⟨g,cap,cur,e1,_⟩
 ·simp only[Value.slice.injEq] at e1
  exact⟨e1.2.1,e1.2.2⟩
 ·simp only[Value.slice.injEq] at e1
  rw[hA] at e1
  exact absurd e1.1 (by simp)
theorem vF(h:dO w A n c L):SL.Ok ⟨A,n,c,L⟩ w:=⟨(bN h).symm,aH.of_own h,aDb h⟩
theorem aGv{Y:List aD}(h:qD (B++O) Y):Y.filter dM=zM B O:=by
 have e:Y=Rp (B++O):=h.unique (vB (B++O))
 rw[e]
 rfl
theorem Dd(h:aZ L):gF L=true:=by
 refine Dc h.len λj hj=>?_
 rw[Jh]
 have e:L.getD j aD.zero=L[j]:=by simp[qZa,hj]
 rw[e]
 have hm:L[j]∈L:=List.getElem_mem hj
 obtain⟨w1,w2⟩:=h.weight _ hm
 rw[pO h hm]
 simp only[w1,w2,decide_true,Bool.true_and,Bool.or_eq_true,decide_eq_true_eq]
 by_cases h0:j=0
 ·exact .inl h0
 ·right
  have hj1:j-1<L.length:=by omega
  have e1:L.getD (j-1) aD.zero=L[j-1]:=by simp[qZa,hj1]
  rw[e1]
  have hs:=dZ h
  rw[List.pairwise_iff_getElem] at hs
  exact hs (j-1) j hj1 hj (by omega)
theorem Un(w:World)(hL:cV w)(hx:sK w d m L wb B n A c Z wA wc oA on oc O) :
  Calls Tryz.prog 40 #[bB d] w λe w'=>∃ A' c',e=.returned (.slice A' L.length c')/\dO w' A' L.length c' L/\aC (λ_=>False) w w':=by
 have hks:∀ wx,aC (λ_=>False) w wx->wx.cell? ⟨d,0,none⟩=some (bB wb)/\wx.cell? ⟨d,1,none⟩=some (.slice oA on oc)/\aC (λ_=>False) w wx :=
  λwx T=>⟨((hx.blk.touch T (λf=>f)).cell 0).trans rfl,((hx.blk.touch T (λf=>f)).cell 1).trans rfl,T⟩
 have HKS:=aB hks
 have HCO:=aB (λ(wx:World) (T:aC (λ_=>False) w wx) (Bb:Nat) (hB:aL wx Bb 92 #[.pointer (some ⟨wb,0,none⟩)])=>yG (cV.touch hL T) (hx.wk.quiet T) hx.lay.dB Bb hB)
 have HOV:=aB (λ(wx:World) (T:aC (λ_=>False) w wx)=>(show SL.Ok ⟨oA,on,oc,O⟩ wx from⟨hx.len,hx.ov.rd.touch T (λ_ _ f=>f),hx.nil⟩))
 have HFEW:=aB (And.intro hx.few hx.lay.dB.len)
 have HLAY:=aB hx.lay.lay
 clear hks hx hL
 go_in
 go_upto_region 1 with fail
 refine wp_region_held_drew (S:=λwx=>wx.cell? ⟨d,0,none⟩=some (bB wb)/\wx.cell? ⟨d,1,none⟩=some (.slice oA on oc)/\aC (λ_=>False) w wx) (by kernel_rfl) (HKS _ (aC.refl _ _).drew) (λhHeld=>?_)
 refine dF 0 ?_ rfl (by kernel_rfl) (λ_ _ _ h=>h) ?_ hHeld (dF 1 ?_ rfl (by kernel_rfl) (λ_ _ _ h=>h) ?_ hHeld (dF 2 ?_ rfl (by kernel_rfl) (λ_ _ _ h=>h) ?_ hHeld (dF 3 ?_ rfl (by kernel_rfl) (λ_ _ _ h=>h) ?_ hHeld (dF 6 ?_ rfl (by kernel_rfl) (λ_ _ _ h=>h) ?_ hHeld (dF 7 ?_ rfl (by kernel_rfl) (λ_ _ _ h=>h) ?_ hHeld (dF 8 ?_ rfl (by kernel_rfl) (λ_ _ _ h=>h) ?_ hHeld (dF 9 ?_ rfl (by kernel_rfl) (λ_ _ _ h=>h) ?_ hHeld ?_)))))))
 iterate 8 (rotate_left;try simp only[qXb,qQb,qZb,Act.put,qJb,qZc,qQc];rintro wq ⟨s0,s1,s2⟩;go_simp;with_reducible rfl)
 simp only[qXb,qQb,qZb,Act.put,qJb,qZc,qQc]
 refine wpAnyH_ready (rs:=[4]) (by kernel_rfl) (by simp) ?_
 refine AllReadyH.cons rfl (λK hK=>?_) AllReadyH.nil
 go_simp
 refine (Tv _ wb).mono ?_
 rintro e w1 ⟨Bb,rfl,hB,T1⟩
 have HT1:=aB (((aC.refl (λ_=>False) w).drew).then T1)
 have HC1:=aB (HCO w1 HT1 Bb hB)
 clear T1 hB
 go_simp
 refine hK.out _ _ (HKS _ HT1) (λhHeld=>?_)
 clear hK K
 try simp only[qXb,qQb,qZb,Act.put,qJb,qZc,qQc]
 refine wpAnyH_ready (rs:=[5]) (by kernel_rfl) (by simp) ?_
 refine AllReadyH.cons rfl (λK hK=>?_) AllReadyH.nil
 go_simp
 refine HC1.mono ?_
 rintro e w2 ⟨A2,c2,rfl,ho2⟩
 have HT2:=aB (HT1.then ho2.touch)
 have HOK2:=aB (vF ho2.own)
 have HM:=aB (Sa w2 ⟨A2,B.length,c2,B⟩ ⟨oA,on,oc,O⟩ HOK2 (HOV w2 HT2) (by have:=HFEW.out;simp only;omega))
 simp only[SL.val] at HM
 clear ho2
 go_simp
 refine hK.out _ _ (HKS _ HT2) (λhHeld=>?_)
 clear hK K
 try simp only[qXb,qQb,qZb,Act.put,qJb,qZc,qQc]
 refine wpAnyH_ready (rs:=[10]) (by kernel_rfl) (by simp) ?_
 refine AllReadyH.cons rfl (λK hK=>?_) AllReadyH.nil
 go_simp
 refine HM.mono ?_
 rintro e w3 ⟨A3,n3,c3,Y,rfl,O3,N3,T3,_⟩
 have HT3:=aB (HT2.then T3)
 have hfy:Y.filter dM=L:=(aGv N3).trans HLAY.symm
 rw[hfy] at O3
 obtain rfl:=bN O3
 have HO3:=aB O3
 clear O3 N3 T3 hfy
 go_simp
 refine hK.out _ _ (HKS _ HT3) (λhHeld=>?_)
 clear hK K
 try simp only[qXb,qQb,qZb,Act.put,qJb,qZc,qQc]
 refine dF 11 ?_ rfl (by kernel_rfl) (λ_ _ _ h=>h) ?_ hHeld ?_
 rotate_left;rintro wq ⟨s0,s1,s2⟩;go_simp;with_reducible rfl
 simp only[qXb,qQb,qZb,Act.put,qJb,qZc,qQc]
 refine wpAnyH_done (by kernel_rfl) ?_ _
 go_wp2_with fail
 go_ret
 exact⟨A3,c3,rfl,HO3,HT3⟩
theorem Hf(w:World)(hL:cV w)(hx:sK w d m L wb B n A c Z wA wc oA on oc O) :
  Calls Tryz.prog 48 #[bB d] w λe w'=>∃ A' n' c' Z',e=.returned (.agg #[.int .i64 (aR L).base,.slice A' n' c'])/\eW w' A' n' Z'/\Z'.map SV.p=(aR L).states/\n'<=c'/\aC (λ_=>False) w w':=by
 have hlen:=hx.lay.dL.len
 obtain⟨wa,hwa⟩:=eX (w.alloc (.cells #[.int .i64 0,.slice none 0 0] 89))
 obtain⟨rb,hrb⟩:=eX w.heap.size
 have hTa:aC (λ_=>False) w wa:=by rw[hwa];exact (aC.refl _ _).alloc _
 have hbR:aL wa rb 89 #[.int .i64 0,.slice none 0 0]:=by rw[hwa,hrb];exact aL.new _ _ _
 have HPR:=aB (Un wa (cV.touch hL hTa) (hx.quiet hTa))
 have HFB:=aB (λ(wx:World) (T:aC (λ_=>False) wa wx) (A1:Option Addr) (c1:Nat) (ho:dO wx A1 L.length c1 L)=>Bq wx (cV.touch hL (hTa.then T)) ⟨A1,L.length,c1,L⟩ (vF ho) (lT hx.lay.dL) (by unfold maxLen;simp only;omega))
 have hru:gF L=true:=Dd hx.lay.dL
 have HRU:=aB hru
 have HWA:=aB hwa
 have HRB:=aB hrb
 have HTA:=aB hTa
 have HBR:=aB hbR
 clear hru hwa hTa hrb hbR hx hL hlen
 go_in
 go_upto_region 1 with fail
 rw[<-HWA.out,<-HRB.out]
 go_wp2_with fail
 refine HPR.mono ?_
 rintro e w1 ⟨A1,c1,rfl,ho1,T1⟩
 have HT1:=aB T1
 have HF:=aB (HFB w1 T1 A1 c1 ho1)
 simp only[SL.val] at HF
 clear T1 ho1 HFB HPR
 go_wp2_with fail
 refine HF.mono ?_
 rintro e w2 (⟨hr,_⟩ | ⟨_,A2,n2,c2,Z2,rfl,hst,hz,hnc,T2⟩)
 ·rw[HRU.out] at hr
  cases hr
 ·have HT2:=aB (HT1.then T2)
  obtain⟨bs,hbs⟩:=eX ((aR L).base)
  rw[<-hbs]
  have hbR2:=HBR.touch HT2 (λf=>f)
  obtain⟨w3,hw3⟩:=eX (w2.alloc (.cells #[.int .i64 bs,.slice A2 n2 c2] 89))
  obtain⟨mb,hmb⟩:=eX w2.heap.size
  have hT3:aC (λ_=>False) w2 w3:=by rw[hw3];exact (aC.refl _ _).alloc _
  have hbM:aL w3 mb 89 #[.int .i64 bs,.slice A2 n2 c2]:=by rw[hw3,hmb];exact aL.new _ _ _
  have hbR3:=hbR2.touch hT3 (λf=>f)
  obtain⟨x0,x1,x2⟩:=hbR3.facts
  obtain⟨m0,m1,m2⟩:=hbM.facts
  have HBR3:=aB hbR3
  have HST:=aB (hst.quiet hT3)
  have HZ:=aB hz
  have HNC:=aB hnc
  have HT3:=aB (HT2.then hT3)
  have HW3:=aB hw3
  have HMB:=aB hmb
  have HBS:=aB hbs
  have HMR:Hid (rb≠mb):=aB (by
   have:=hbR2.lt
   rw[hmb];omega)
  clear T2 hst hz hnc HF hbR2 hw3 hmb hT3 hbM hbR3 hbs
  go_upto_region 2 with fail
  rw[<-HW3.out,<-HMB.out]
  go_wp2_with fail
  have hbF:aL ((w3.setCell ⟨rb,0,none⟩ (.int .i64 bs)).setCell ⟨rb,1,none⟩ (.slice A2 n2 c2)) rb 89 #[.int .i64 bs,.slice A2 n2 c2]:=by
   have:=(HBR3.set_ 0 (.int .i64 bs)).set_ 1 (.slice A2 n2 c2)
   simpa using this
  have hTF:aC (λg=>g=rb) w3 ((w3.setCell ⟨rb,0,none⟩ (.int .i64 bs)).setCell ⟨rb,1,none⟩ (.slice A2 n2 c2)):=((aC.refl (λg=>g=rb) w3).setCell (p:=⟨rb,0,none⟩) (λ_=>rfl) _).setCell (p:=⟨rb,1,none⟩) (λ_=>rfl) _
  obtain⟨k0,k1,k2⟩:=hbF.facts
  refine bodyPost_ret (v:=.agg #[.int .i64 bs,.slice A2 n2 c2]) (by simp[results,Tryz.results48,go_sem,k0]) rfl ?_
  refine⟨A2,n2,c2,Z2,by rw[HBS.out],?_,HZ,HNC,?_⟩
  ·exact HST.far hTF (λg t hg ht e=>by
    subst e
    refine (aG HBR3).ne hg ?_ rfl
    rcases ht with rfl | rfl | rfl | rfl | rfl<;>decide)
  ·exact (HTA.then HT3).trans hTF (λg hg e=>by have:=HRB.out;omega)
theorem Wc(w:World)(hL:cV w)(hx:sK w d m L wb B n A c Z wA wc oA on oc O)(hm:m=(L.length:Int)) :
  Calls Tryz.prog 135 #[bB d] w λe w'=>e=.returned (.tuple #[])/\iK w' d L 0/\aC (λg=>g=d) w w':=by
 have HMA:=aB (Hf w hL hx)
 have HDN:=aB (λ(wx:World) (T:aC (λ_=>False) w wx) (A1:Option Addr) (n1 c1:Nat) (Z1:List SV) (h1:eW wx A1 n1 Z1) (h2:Z1.map SV.p=(aR L).states)=>Bm wx (cV.touch hL T) L hx.lay.dL A1 n1 c1 Z1 h1 h2)
 have HX:=aB hx
 have HM:=aB hm
 obtain⟨bs,hbs⟩:=eX ((aR L).base)
 rw[<-hbs] at HMA HDN
 clear hx hL hm hbs
 go_in
 go_wp2_with fail
 refine HMA.mono ?_
 rintro e w1 ⟨A1,n1,c1,Z1,rfl,hst,hz,_,T1⟩
 have HT1:=aB T1
 have HD:=aB (HDN w1 T1 A1 n1 c1 Z1 hst hz)
 clear T1 hst hz HMA HDN
 go_wp2_with fail
 refine HD.mono ?_
 rintro e w2 ⟨b,A',c',Z',wA',wc',rfl,hdw,hI⟩
 have HT2:=aB (HT1.then hI.touch)
 have HDW:=aB hdw
 have hxb:=HX.blk.touch HT2 (λf=>f)
 obtain⟨x0,x1,x2⟩:=hxb.facts
 have HXB:=aB hxb
 clear hdw hI HD hxb
 go_wp2_with fail
 go_end0
 have hbF:aL ((w2.setCell ⟨d,0,none⟩ (bB b)).setCell ⟨d,1,none⟩ (.slice none 0 0)) d 96 #[bB b,.slice none 0 0,.int .i64 m]:=by
  have:=(HXB.set_ 0 (bB b)).set_ 1 (.slice none 0 0)
  simpa using this
 have hTF:aC (λg=>g=d) w2 ((w2.setCell ⟨d,0,none⟩ (bB b)).setCell ⟨d,1,none⟩ (.slice none 0 0)):=((aC.refl (λg=>g=d) w2).setCell (p:=⟨d,0,none⟩) (λ_=>rfl) _).setCell (p:=⟨d,1,none⟩) (λ_=>rfl) _
 rw[HM.out] at hbF
 refine⟨rfl,⟨by omega,_,_,_,_,_,_,_,_,_,_,_,⟨hbF,HDW.far hTF (λg t hg ht=>lB (aG HXB) hg ht),⟨aH.nil _ _ _,λh=>absurd h (by omega)⟩,rfl,by omega,λ_=>⟨rfl,rfl⟩,qE.begin HX.lay.dL,HX.pos⟩⟩,HT2.up _ |>.then hTF⟩
theorem Ye(w:World)(hL:cV w)(h:iK w d L q) :
  Calls Tryz.prog 40 #[bB d] w λe w'=>∃ A' c',e=.returned (.slice A' L.length c')/\dO w' A' L.length c' L/\aC (λ_=>False) w w':=by
 obtain⟨h1,wb,B,n,A,c,Z,wA,wc,oA,oc,O,hx⟩:=h
 exact Un w hL hx
theorem Mv(w:World)(hL:cV w)(h:iK w d L q) :
  Calls Tryz.prog 48 #[bB d] w λe w'=>∃ A' n' c' Z',e=.returned (.agg #[.int .i64 (aR L).base,.slice A' n' c'])/\eW w' A' n' Z'/\Z'.map SV.p=(aR L).states/\n'<=c'/\aC (λ_=>False) w w':=by
 obtain⟨h1,wb,B,n,A,c,Z,wA,wc,oA,oc,O,hx⟩:=h
 exact Hf w hL hx
end
section
open Go.RowKit Go.Shelf
theorem Ff{P:Program}(w:World)(dT sT ty elem:TypeId)(g o dLen dCap:Nat)(a:Addr)(sLen sCap size:Nat)(cur:Array Value)(t:TypeId)(cs:List Value)
  (hu:P.underlying dT=some (.slice elem))(i:TypeInfo)(hi0:P.info? elem=some i)(hi:i.size=size)
  (hg:w.heap[g]? = some (.cells cur t (0,0)))(hn:cs.length=Nat.min sLen dLen*size)
  (hsrc:∀ j v,cs[j]? = some v->w.cell? (a.add j)=some v)(hfit:o+cs.length<=cur.size)(h1:∀ v∈cs,v.oneCell'=true) :
  (Builtin.copy_ #[dT,sT] ty #[.slice (some ⟨g,o,none⟩) dLen dCap,.slice (some a) sLen sCap]).run P w =
    .ok (goInt (Nat.min sLen dLen)) (w.setRow g (cur.toList.take o++cs++cur.toList.drop (o+cs.length)).toArray):=by
 have hl:=run_loadCells_list (P:=P) w a cs hsrc
 have hst:=run_storeCells_at P g o t cs 0 cur w hg (by simpa using hfit) h1
 simp[Builtin.copy_,run_underlying hu,Builtin.lenOf,Builtin.firstCells,sizeOf,typeInfo,hi0,hi,<-hn,hl,hst]
theorem Dh{P:Program}(w:World)(dT sT ty elem:TypeId)(g o dCap:Nat)(sCap:Nat)
  (hu:P.underlying dT=some (.slice elem))(i:TypeInfo)(hi0:P.info? elem=some i) :
  (Builtin.copy_ #[dT,sT] ty #[.slice (some ⟨g,o,none⟩) 0 dCap,.slice none 0 sCap]).run P w=.ok (goInt 0) w:=by
 simp[Builtin.copy_,run_underlying hu,Builtin.lenOf,Builtin.firstCells,sizeOf,typeInfo,hi0,storeCells]
theorem Xz(L:List aD):∀ u∈bK L,u.oneCell'=true:=by
 intro u hu
 obtain⟨r,_,h⟩:=List.mem_flatMap.1 hu
 simp only[aD.cells,List.mem_cons,List.not_mem_nil,or_false] at h
 rcases h with rfl | rfl<;>rfl
theorem Xn(z:Array Value)(n:Nat):(madeCells z n).size=n:=by simp[madeCells]
theorem aIu(w2:World)(g n:Nat)(oA:Option Addr)(oc:Nat)(O:List aD)(CS:Array Value)(hCS:CS.size=(n+1)*2)(hg:w2.heap[g]? = some (.cells CS 125 (0,0)))(hO:O.length=n)(hr:aH w2 2 oA n (bK O))(hn:n<=33) :
  ∃ w3,(∀ ty,(Builtin.copy_ #[37,37] ty #[.slice (some ⟨g,0,none⟩) n (n+1),.slice oA n oc]).run Tryz.prog w2=.ok (goInt (n:Int)) w3)/\dO w3 (some ⟨g,0,none⟩) n (n+1) O/\aC (λk=>k=g) w2 w3:=by
 obtain⟨i0,hi,hz0,hz1,hz2⟩:=aQ kE
 have hlen:=tF O
 rw[hO] at hlen
 have hrow:∀ w3 cs,w3.heap[g]? = some (.cells cs 125 (0,0))->cs.size=(n+1)*2->cs.toList.take (n*2)=bK O->dO w3 (some ⟨g,0,none⟩) n (n+1) O:=λw3 cs h1 h2 h3 =>
  ⟨hlen,.inr ⟨g,n+1,cs,rfl,qXa _,h1,by omega,by unfold maxLen;omega,h2,h3⟩⟩
 cases oA with
 | none =>
  have h0:n=0:=by
   refine Classical.byContradiction λh=>?_
   obtain⟨b,off,e,_⟩:=hr.2 (by omega)
   cases e
  subst h0
  have hO0:O=[]:=qJd hO
  subst hO0
  exact⟨w2,λty=>Dh w2 _ _ ty _ g 0 1 oc Tryz.underlying37 i0 hi,hrow w2 CS hg hCS rfl,aC.refl _ _⟩
 | some a =>
  have hsrc:∀ j v,(bK O)[j]? = some v->w2.cell? (a.add j)=some v:=by
   intro j v hj
   rcases Nat.eq_zero_or_pos n with h0 | h0
   ·have:O=[]:=qJd (by omega)
    subst this
    simp[bK] at hj
   ·obtain⟨b,off,e,_,hc⟩:=hr.2 h0
    cases e
    have hadd:(⟨b,off,none⟩:Addr).add j=⟨b,off+j,none⟩:=by unfold Addr.add;split<;>simp_all
    rw[hadd]
    exact hc j v hj
  refine⟨_,λty=>?_,hrow (w2.setRow g (CS.toList.take 0++bK O++CS.toList.drop (0+(bK O).length)).toArray) _ (setRow_heap w2 g CS _ _ _ hg) ?_ ?_,⟨rfl,rfl,rfl,by simp[World.setRow],λk _ hk=>setRow_other w2 g k _ hk⟩⟩
  ·have h:=Ff (P:=Tryz.prog) w2 37 37 ty 125 g 0 n (n+1) a n oc 2 CS _ (bK O) Tryz.underlying37 i0 hi hz1 hg (by rw[hlen];simp) hsrc (by rw[hlen,hCS];omega) (Xz O)
   rw[h]
   simp
  ·simp only[List.take_zero,List.nil_append,Nat.zero_add,List.size_toArray,List.length_append,List.length_drop,Array.length_toList,hlen,hCS]
   omega
  ·simp only[List.take_zero,List.nil_append,Nat.zero_add]
   rw[qXf (by rw[hlen];exact qJc _),qQa (by rw[hlen];exact qJc _)]
theorem Bg(w:World)(hL:cV w)(hx:sK w d m L wb B n A c Z wA wc oA on oc O)(hq:on<=32)
  (p:aD)(L2:List aD)(hl:∀ Y,qD (O++[p]) Y->qE B Y L2)(hm:m=(L2.length:Int)) :
  Calls Tryz.prog 79 #[bB d,p.val] w λe w'=>e=.returned (.tuple #[])/\(∃ q,iK w' d L2 q)/\aC (λg=>g=d) w w':=by
 obtain⟨pw,pn⟩:=p
 obtain⟨i0,hi0,hz0,hz1,hz2⟩:=aQ kE
 obtain⟨wa,hwa⟩:=eX (w.alloc (.cells #[.string pw,.int .i64 pn] 125))
 obtain⟨bb,hbb⟩:=eX w.heap.size
 have hTa:aC (λ_=>False) w wa:=by rw[hwa];exact (aC.refl _ _).alloc _
 have hbB:aL wa bb 125 #[.string pw,.int .i64 pn]:=by rw[hwa,hbb];exact aL.new _ _ _
 obtain⟨CS,hCS⟩:=eX (madeCells #[.string ByteArray.empty,.int .i64 0] ((on+1)*2))
 have hsz:CS.size=(on+1)*2:=by rw[hCS];exact Xn _ _
 have hmk:∀ W:World,(Instr.makeSlice 37 (.int .i64 (on:Int)) (.int .i64 ((on:Int)+1))).run Tryz.prog W=.ok (.slice (some ⟨W.heap.size,0,none⟩) on (on+1)) (W.alloc (.cells CS 125)):=by
  intro W
  have h:=run_makeSlice (P:=Tryz.prog) W 37 125 i0 _ Tryz.underlying37 hi0 hz0 .i64 .i64 (on:Int) ((on:Int)+1) (by omega) (by omega) (by rw[hz1];omega) (by rw[hz2];omega) (by omega)
  rw[h]
  simp only[Int.toNat_natCast,Int.toNat_natCast_add_one,hz1,hCS,Value.cells]
 have z1:IntKind.i64.wrap ((on:Int)+1)=(on:Int)+1:=qQd _ (by omega)
 obtain⟨x0,x1,x2⟩:=(hx.blk.touch hTa (λf=>f)).facts
 have HX:=aB hx
 have HL:=aB hL
 have HQ:=aB hq
 have HLY:=aB hl
 have HM:=aB hm
 have HTA:=aB hTa
 have HBB:=aB hbB
 have HWA:=aB hwa
 have HB0:=aB hbb
 have HSZ:=aB hsz
 clear hx hL hl hm hTa hbB hwa hbb hsz hCS hq
 unfold aD.val
 go_in
 go_upto_region 1 with fail
 rw[<-HWA.out,<-HB0.out]
 go_still_tail 11,(by kernel_rfl)
 change wpList _ _ _ _ _ wa.drew
 have HDR:Hid (aC (λ_=>False) w wa.drew):=aB (HTA.then (aC.refl _ _).drew)
 have HBD:Hid (aL wa.drew bb 125 #[.string pw,.int .i64 pn]):=aB HBB.drew
 generalize wa.drew=wd at HDR HBD ⊢
 obtain⟨wM,hwM⟩:=eX (wd.alloc (.cells CS 125))
 obtain⟨gM,hgM⟩:=eX wd.heap.size
 have HWM:=aB hwM
 have HGM:=aB hgM
 have hTM:aC (λ_=>False) w wM:=by rw[hwM];exact HDR.alloc _
 have hgCS:wM.heap[gM]? = some (.cells CS 125 (0,0)):=by rw[hwM,hgM];exact aL.new wd 125 CS
 obtain⟨wC,hcp,hoC,hTC⟩:=aIu wM gM on oA oc O CS HSZ hgCS HX.len (HX.ov.rd.touch hTM (λ_ _ f=>f)) (by have:=HQ.out;omega)
 have hgy:w.heap.size<=gM:=by rw[hgM];exact HDR.size
 have hTwC:aC (λ_=>False) w wC:=hTM.trans hTC (λg hg e=>by omega)
 have HTM:=aB hTM
 have HBC:Hid (aL wC bb 125 #[.string pw,.int .i64 pn]):=aB (by
  have h1:aL wM bb 125 #[.string pw,.int .i64 pn]:=by rw[hwM];exact HBD.alloc _
  exact h1.touch hTC (λe=>by have:=HBD.lt;omega))
 have HCP:=aB hcp
 have HOC:=aB hoC
 have HTWC:=aB hTwC
 have HGY:=aB hgy
 clear hwM hgM hTM hgCS hcp hoC hTC hTwC hgy x0 x1 x2
 obtain⟨x0,x1,x2⟩:=(HX.blk.touch HTM (λf=>f)).facts
 go_upto_region 2 with fail
 rw[<-HWM.out,<-HGM.out]
 have hcp:=HCP.out
 obtain⟨y0,y1,y2⟩:=(HX.blk.touch HTWC (λf=>f)).facts
 go_upto_region 3 with fail
 clear hcp x0 x1 x2
 obtain⟨wB,hwB⟩:=eX (wC.alloc (.cells #[.string pw,.int .i64 pn] 125))
 have hTB:aC (λ_=>False) wC wB:=by rw[hwB];exact (aC.refl _ _).alloc _
 have hrd:aH wB 2 (some ⟨wC.heap.size,0,none⟩) 1 [.string pw,.int .i64 pn]:=by
  rw[hwB]
  have h:=aH.new (size:=2) wC 125 [.string pw,.int .i64 pn] 1 rfl
  simpa using h
 have hone:∀ u∈[Value.string pw,.int .i64 pn],u.oneCell'=true:=by
  intro u hu
  simp only[List.mem_cons,List.not_mem_nil,or_false] at hu
  rcases hu with rfl | rfl<;>rfl
 obtain⟨b0,b1,b2⟩:=HBC.facts
 have HWB:=aB hwB
 have HTB:=aB (HTWC.then hTB)
 have HOB:=aB (World.ownsRow.alloc HOC (.cells #[.string pw,.int .i64 pn] 125))
 rw[<-hwB] at HOB
 have HRD:=aB hrd
 have HONE:=aB hone
 have HBBd:Hid (on+1<=maxLen/\(on+1)*24<=140737488355328):=aB (by unfold maxLen;have:=HQ.out;omega)
 have hpc:bK (O++[(⟨pw,pn⟩:aD)])=bK O++[.string pw,.int .i64 pn]:=by simp[bK,aD.cells]
 have HPC:=aB hpc
 have hgyo:∀ g,(Value.slice (some ⟨gM,0,none⟩) on (on+1)).ownBlock=some g->w.heap.size<=g:=λg hg=>by
  simp[Value.ownBlock] at hg
  have:=HGY.out
  omega
 have HGYO:=aB hgyo
 clear hwB hTB hrd hone hpc hgyo
 go_wp2_with (at_builtin;rw[<-HWB.out];refine aP _ rfl (.tmp 24) (.tmp 26) 37 rfl 125 i0 _ 2 24 Tryz.underlying37 hi0 hz0 hz1 hz2 rfl (by decide) (.slice (some ⟨gM,0,none⟩) on (on+1)) on _ rfl HOB (some ⟨wC.heap.size,0,none⟩) 1 1 [.string pw,.int .i64 pn] rfl HRD (λh=>by cases h) HONE HBBd.1 HBBd.2 ?_;intro v6 w6 O6 G6 F6 _;obtain⟨A6,c6,hv,_,_⟩:=aS O6;subst hv;have HO6:=aB O6;have HT6:=aB (HTB.grown G6 (λk hk hlt=>by have:=HGYO.out k hk;omega));clear O6 G6 F6 b0 b1 b2 y0 y1 y2)
 have hO6:=HO6.out
 rw[<-HPC.out] at hO6
 have HNR:=aB (Hn w6 ⟨A6,on+1,c6,O++[⟨pw,pn⟩]⟩ (vF hO6) (by have:=HQ.out;simp only;omega))
 simp only[SL.val] at HNR
 clear hO6
 refine HNR.mono ?_
 rintro e w7 ⟨A7,n7,c7,Y,rfl,O7,N7,T7,h7,hnil7,_⟩
 have HT7:=aB (HT6.then T7)
 have HN7:=aB N7
 have HO7:=aB O7
 have HK7:=aB (And.intro h7 hnil7)
 have hb7:=HX.blk.touch HT7 (λf=>f)
 obtain⟨x0,x1,x2⟩:=hb7.facts
 have HB7:=aB hb7
 have HLN7:=aB (bN O7)
 clear T7 h7 hnil7 HNR hb7 O7 N7
 go_upto_region 4 with fail
 have hb8:aL (w7.setCell ⟨d,1,none⟩ (.slice A7 n7 c7)) d 96 #[bB wb,.slice A7 n7 c7,.int .i64 m]:=by
  have:=HB7.set_ 1 (.slice A7 n7 c7)
  simpa using this
 have hT8:aC (λg=>g=d) w7 (w7.setCell ⟨d,1,none⟩ (.slice A7 n7 c7)):=(aC.refl (λg=>g=d) w7).setCell (p:=⟨d,1,none⟩) (λ_=>rfl) _
 obtain⟨w8,hw8⟩:=eX (w7.setCell ⟨d,1,none⟩ (.slice A7 n7 c7))
 rw[<-hw8] at hb8 hT8 ⊢
 have hTw8:aC (λg=>g=d) w w8:=(HT7.up _).then hT8
 have hdx:sK w8 d m L2 wb B n A c Z wA wc A7 n7 c7 Y :=
  ⟨hb8,(HX.wk.quiet HT7).far hT8 (λg t hg ht=>lB (aG HB7) hg ht),(gL.of_own HO7).touch hT8 (λg hg=>lB (aG HB7) hg (.inr (.inr (.inr (.inr rfl))))),HLN7.symm,by have h1:n7<=on+1:=HK7.1;have h2:=HQ.out;omega,HK7.2,HLY Y HN7,HX.pos⟩
 have hL8:cV w8:=HL.far hTw8 (λe=>by have:=HX.pos;omega)
 clear x0 x1 x2
 obtain⟨x0,x1,x2⟩:=hb8.facts
 by_cases h32:n7<=32
 ·have k1:¬ (32:Int)<(n7:Int):=by omega
  have HDX:=aB hdx
  have HTW8:=aB hTw8
  have H32:=aB h32
  clear hdx hTw8 hL8 hb8 hT8 hw8 h32
  go_wp2_with fail
  go_end0
  refine⟨rfl,⟨n7,H32,wb,B,n,A,c,Z,wA,wc,A7,c7,Y,?_⟩,HTW8⟩
  have h:=HDX.out
  rw[HM.out] at h
  exact h
 ·have k1:(32:Int)<(n7:Int):=by omega
  have HCM:=aB (Wc w8 hL8 hdx HM)
  have HTW8:=aB hTw8
  clear hdx hTw8 hL8 hb8 hT8 hw8 h32
  go_wp2_with fail
  refine HCM.mono ?_
  rintro e w9 ⟨rfl,hd9,T9⟩
  have HD9:=aB hd9
  have HT9:=aB (HTW8.then T9)
  clear hd9 T9 HCM
  go_wp2_with fail
  go_end0
  exact⟨rfl,⟨0,HD9⟩,HT9⟩
end
section
open Go.RowKit Go.Shelf
theorem nH{k:ByteArray}{n e:Int}(h:iV L k.toList n=e)(he:¬ e=0):tP L k n=0/\rY L k n=L:=by
 unfold tP rY
 rw[h,if_neg he,if_neg he]
 exact⟨rfl,rfl⟩
theorem Ah{k:ByteArray}{e:Int}(h:lD L k.toList=e)(he:¬ e=0):tG L k=0/\tH L k=L:=by
 unfold tG tH
 rw[h,if_neg he,if_neg he]
 exact⟨rfl,rfl⟩
theorem aBc(w:World)(hL:cV w)(h:iK w d L q)(k:ByteArray)(hk:k.size<=1099511627776)(n:Int) :
  Calls Tryz.prog 32 #[bB d,.string k,.int .i64 n] w λe w'=>e=.returned (.tuple #[.int .i64 (tP L k n),.int .i64 (iV L k.toList n)])/\(∃ q',iK w' d (rY L k n) q')/\aC (λg=>g=d) w w':=by
 have hdl:=h.dict.len
 have hstr:=dZ h.dict
 have HWG:=aB (Bp w hL h k hk)
 have HWD:=aB (λ(wx:World) (T:aC (λ_=>False) w wx)=>mQ wx k (by omega) (cV.touch hL T))
 have HD:=aB h
 have HL:=aB hL
 obtain⟨⟨x,t⟩,hxt⟩:∃ r,r=bC k.toList L:=⟨_,rfl⟩
 rw[<-hxt] at HWG
 simp only at HWG
 have HXT:=aB hxt
 have hdlI:(L.length:Int)<=4096:=by omega
 obtain⟨v,hv⟩:=eX (cF k.toList)
 simp only[<-hv] at HWD
 have HV:=aB hv
 clear h hL hk hxt hv
 cases v with
 | false =>
  have hE:iV L k.toList n=140:=by unfold iV;rw[if_pos HV.symm]
  obtain⟨hH,hLl⟩:=nH hE (by decide)
  rw[hE,hH,hLl]
  clear hE hH hLl
  go_in
  go_wp2_with fail
  refine HWG.mono ?_
  rintro e w1 ⟨rfl,T1⟩
  have HT1:=aB T1
  clear T1
  go_wp2_with fail
  refine (HWD w1 HT1).mono ?_
  rintro e w2 ⟨rfl,T2⟩
  have HT2:=aB (HT1.then T2)
  clear T2
  go_wp2_with fail
  go_ret2
  exact⟨rfl,⟨q,HD.quiet HT2⟩,HT2.up _⟩
 | true =>
  have hvn:¬ cF k.toList=false:=by rw[<-HV.out];decide
  by_cases hn1:n<1
  ·have hE:iV L k.toList n=141:=by unfold iV;rw[if_neg hvn,if_pos (.inl hn1)]
   obtain⟨hH,hLl⟩:=nH hE (by decide)
   rw[hE,hH,hLl]
   clear hE hH hLl hvn
   go_in
   go_wp2_with fail
   refine HWG.mono ?_
   rintro e w1 ⟨rfl,T1⟩
   have HT1:=aB T1
   clear T1
   go_wp2_with fail
   refine (HWD w1 HT1).mono ?_
   rintro e w2 ⟨rfl,T2⟩
   have HT2:=aB (HT1.then T2)
   clear T2
   go_wp2_with fail
   go_ret2
   exact⟨rfl,⟨q,HD.quiet HT2⟩,HT2.up _⟩
  ·by_cases hn2:1048576<n
   ·have hE:iV L k.toList n=141:=by unfold iV;rw[if_neg hvn,if_pos (.inr hn2)]
    obtain⟨hH,hLl⟩:=nH hE (by decide)
    rw[hE,hH,hLl]
    clear hE hH hLl hvn
    go_in
    go_wp2_with fail
    refine HWG.mono ?_
    rintro e w1 ⟨rfl,T1⟩
    have HT1:=aB T1
    clear T1
    go_wp2_with fail
    refine (HWD w1 HT1).mono ?_
    rintro e w2 ⟨rfl,T2⟩
    have HT2:=aB (HT1.then T2)
    clear T2
    go_wp2_with fail
    go_ret2
    exact⟨rfl,⟨q,HD.quiet HT2⟩,HT2.up _⟩
   ·have hno:¬ (n<1\/1048576<n):=by omega
    obtain⟨hq32,wb,B,nB,A,c,Z,wA,wc,oA,oc,O,hx⟩:=HD.out
    have HX:=aB hx
    have HQ:=aB hq32
    have HNN:=aB (show 1<=n/\n<=1048576 by omega)
    cases t with
    | true =>
     have hfd:(bC k.toList L).2=true:=by rw[<-HXT.out]
     have hE:iV L k.toList n=0:=by unfold iV;rw[if_neg hvn,if_neg hno,if_neg (λh=>by rw[hfd] at h;cases h.1)]
     have hH:tP L k n=x:=by unfold tP;rw[hE,if_pos rfl,<-HXT.out]
     have hLl:rY L k n=eK ⟨k,n⟩ false L:=by unfold rY;rw[hE,if_pos rfl]
     rw[hE,hH,hLl]
     have hpl:(eK ⟨k,n⟩ false L).length=L.length:=by rw[Ae hstr,if_pos hfd]
     have HLY:Hid (∀ Y,qD (O++[⟨k,n⟩]) Y->qE B Y (eK ⟨k,n⟩ false L)):=aB (λY hY=>hx.lay.put hY HV.symm HNN.1 HNN.2 (.inl hfd))
     have HPL:=aB hpl
     clear hE hH hLl hvn hx hno hq32 hfd hpl hstr
     go_in
     go_wp2_with fail
     refine HWG.mono ?_
     rintro e w1 ⟨rfl,T1⟩
     have HT1:=aB T1
     clear T1
     go_wp2_with fail
     refine (HWD w1 HT1).mono ?_
     rintro e w2 ⟨rfl,T2⟩
     have HT2:=aB (HT1.then T2)
     have HCH:=aB (Bg w2 (cV.touch HL HT2) (HX.quiet HT2) HQ ⟨k,n⟩ _ HLY (by rw[HPL.out]))
     simp only[aD.val] at HCH
     clear T2
     go_wp2_with fail
     refine HCH.mono ?_
     rintro e w3 ⟨rfl,hd3,T3⟩
     have HD3:=aB hd3
     have HT3:=aB ((HT2.up _).then T3)
     clear hd3 T3 HCH
     go_wp2_with fail
     go_ret2
     exact⟨rfl,HD3,HT3⟩
    | false =>
     have hfd:(bC k.toList L).2=false:=by rw[<-HXT.out]
     have hx0:x=0:=by
      have h1:=Gi hfd
      rw[<-HXT.out] at h1
      exact congrArg Prod.fst h1
     subst hx0
     by_cases hful:L.length=4096
     ·have hE:iV L k.toList n=142:=by unfold iV;rw[if_neg hvn,if_neg hno,if_pos ⟨hfd,by omega⟩]
      obtain⟨hH,hLl⟩:=nH hE (by decide)
      rw[hE,hH,hLl]
      have hfi:(L.length:Int)=4096:=by omega
      clear hE hH hLl hvn hx hno hq32 hfd hstr hdl hdlI
      go_in
      go_wp2_with fail
      refine HWG.mono ?_
      rintro e w1 ⟨rfl,T1⟩
      have HT1:=aB T1
      clear T1
      go_wp2_with fail
      refine (HWD w1 HT1).mono ?_
      rintro e w2 ⟨rfl,T2⟩
      have HT2:=aB (HT1.then T2)
      have hxb:=(HX.blk.touch HT2 (λf=>f))
      rw[hfi] at hxb
      obtain⟨x0,x1,x2⟩:=hxb.facts
      clear T2 hxb hfi
      go_wp2_with fail
      go_ret2
      exact⟨rfl,⟨q,HD.quiet HT2⟩,HT2.up _⟩
     ·have hlt:L.length<4096:=by omega
      have hE:iV L k.toList n=0:=by unfold iV;rw[if_neg hvn,if_neg hno,if_neg (λh=>by omega)]
      have hH:tP L k n=0:=by unfold tP;rw[hE,if_pos rfl,<-HXT.out]
      have hLl:rY L k n=eK ⟨k,n⟩ false L:=by unfold rY;rw[hE,if_pos rfl]
      rw[hE,hH,hLl]
      have hpl:(eK ⟨k,n⟩ false L).length=L.length+1:=by rw[Ae hstr,if_neg (by rw[hfd];decide)]
      have HLY:Hid (∀ Y,qD (O++[⟨k,n⟩]) Y->qE B Y (eK ⟨k,n⟩ false L)):=aB (λY hY=>hx.lay.put hY HV.symm HNN.1 HNN.2 (.inr hlt))
      have HPL:=aB hpl
      have b1:((L.length:Int) == 4096)=false:=by simp;omega
      have b2:¬ (L.length:Int)=4096:=by omega
      have z1:IntKind.i64.wrap ((L.length:Int)+1)=(L.length:Int)+1:=qQd _ (by omega)
      clear hE hH hLl hvn hx hno hq32 hfd hpl hstr hful hlt
      go_in
      go_wp2_with fail
      refine HWG.mono ?_
      rintro e w1 ⟨rfl,T1⟩
      have HT1:=aB T1
      clear T1
      go_wp2_with fail
      refine (HWD w1 HT1).mono ?_
      rintro e w2 ⟨rfl,T2⟩
      have HT2:=aB (HT1.then T2)
      have hx2:=HX.quiet HT2
      obtain⟨x0,x1,x2⟩:=hx2.blk.facts
      obtain⟨w3,hw3⟩:=eX (w2.setCell ⟨d,2,none⟩ (.int .i64 ((L.length:Int)+1)))
      have hT3:aC (λg=>g=d) w2 w3:=by rw[hw3];exact (aC.refl (λg=>g=d) w2).setCell (p:=⟨d,2,none⟩) (λ_=>rfl) _
      have hb3:aL w3 d 96 #[bB wb,.slice oA q oc,.int .i64 ((L.length:Int)+1)]:=by
       rw[hw3]
       have:=hx2.blk.set_ 2 (.int .i64 ((L.length:Int)+1))
       simpa using this
      have hx3:sK w3 d ((L.length:Int)+1) L wb B nB A c Z wA wc oA q oc O :=
       ⟨hb3,hx2.wk.far hT3 (λg t hg ht=>lB (aG hx2.blk) hg ht),hx2.ov.touch hT3 (λg hg=>lB (aG hx2.blk) hg (.inr (.inr (.inr (.inr rfl))))),hx2.len,hx2.few,hx2.nil,hx2.lay,hx2.pos⟩
      have HCH:=aB (Bg w3 ((cV.touch HL HT2).far hT3 (λe=>by have:=hx2.pos;omega)) hx3 HQ ⟨k,n⟩ _ HLY (by rw[HPL.out];omega))
      simp only[aD.val] at HCH
      have HT3:=aB ((HT2.up _).then hT3)
      have HW3:=aB hw3
      clear T2 hx2 hw3 hT3 hb3 hx3
      go_upto_region 10 with fail
      rw[<-HW3.out]
      go_wp2_with fail
      refine HCH.mono ?_
      rintro e w4 ⟨rfl,hd4,T4⟩
      have HD4:=aB hd4
      have HT4:=aB (HT3.then T4)
      clear hd4 T4 HCH
      go_wp2_with fail
      go_ret2
      exact⟨rfl,HD4,HT4⟩
theorem Lx(w:World)(hL:cV w)(h:iK w d L q)(k:ByteArray)(hk:k.size<=1099511627776) :
  Calls Tryz.prog 35 #[bB d,.string k] w λe w'=>e=.returned (.tuple #[.int .i64 (tG L k),.int .i64 (lD L k.toList)])/\(∃ q',iK w' d (tH L k) q')/\aC (λg=>g=d) w w':=by
 have hdl:=h.dict.len
 have hstr:=dZ h.dict
 have HWG:=aB (Bp w hL h k hk)
 have HWD:=aB (λ(wx:World) (T:aC (λ_=>False) w wx)=>mQ wx k (by omega) (cV.touch hL T))
 have HD:=aB h
 have HL:=aB hL
 obtain⟨⟨x,t⟩,hxt⟩:∃ r,r=bC k.toList L:=⟨_,rfl⟩
 rw[<-hxt] at HWG
 simp only at HWG
 have HXT:=aB hxt
 obtain⟨v,hv⟩:=eX (cF k.toList)
 simp only[<-hv] at HWD
 have HV:=aB hv
 clear h hL hk hxt hv
 cases v with
 | false =>
  have hE:lD L k.toList=140:=by unfold lD;rw[if_pos HV.symm]
  obtain⟨hH,hLl⟩:=Ah hE (by decide)
  rw[hE,hH,hLl]
  clear hE hH hLl
  go_in
  go_wp2_with fail
  refine HWG.mono ?_
  rintro e w1 ⟨rfl,T1⟩
  have HT1:=aB T1
  clear T1
  go_wp2_with fail
  refine (HWD w1 HT1).mono ?_
  rintro e w2 ⟨rfl,T2⟩
  have HT2:=aB (HT1.then T2)
  clear T2
  go_wp2_with fail
  go_ret2
  exact⟨rfl,⟨q,HD.quiet HT2⟩,HT2.up _⟩
 | true =>
  have hvn:¬ cF k.toList=false:=by rw[<-HV.out];decide
  cases t with
  | false =>
   have hfd:(bC k.toList L).2=false:=by rw[<-HXT.out]
   have hE:lD L k.toList=143:=by unfold lD;rw[if_neg hvn,if_pos hfd]
   obtain⟨hH,hLl⟩:=Ah hE (by decide)
   rw[hE,hH,hLl]
   clear hE hH hLl hvn hfd
   go_in
   go_wp2_with fail
   refine HWG.mono ?_
   rintro e w1 ⟨rfl,T1⟩
   have HT1:=aB T1
   clear T1
   go_wp2_with fail
   refine (HWD w1 HT1).mono ?_
   rintro e w2 ⟨rfl,T2⟩
   have HT2:=aB (HT1.then T2)
   clear T2
   go_wp2_with fail
   go_ret2
   exact⟨rfl,⟨q,HD.quiet HT2⟩,HT2.up _⟩
  | true =>
   have hfd:(bC k.toList L).2=true:=by rw[<-HXT.out]
   have hE:lD L k.toList=0:=by unfold lD;rw[if_neg hvn,if_neg (by rw[hfd];decide)]
   have hH:tG L k=x:=by unfold tG;rw[hE,if_pos rfl,<-HXT.out]
   have hLl:tH L k=iB k.toList L:=by unfold tH;rw[hE,if_pos rfl]
   rw[hE,hH,hLl]
   obtain⟨hq32,wb,B,nB,A,c,Z,wA,wc,oA,oc,O,hx⟩:=HD.out
   have HX:=aB hx
   have HQ:=aB hq32
   have hpl:(iB k.toList L).length+1=L.length:=by have:=uJ hstr k.toList;rw[hfd,if_pos rfl] at this;exact this
   have HLY:Hid (∀ Y,qD (O++[⟨k,0⟩]) Y->qE B Y (iB k.toList L)):=aB (λY hY=>hx.lay.drop hY HV.symm)
   have HPL:=aB hpl
   have z1:IntKind.i64.wrap ((L.length:Int)-1)=(L.length:Int)-1:=qQd _ (by omega)
   clear hE hH hLl hvn hx hq32 hfd hpl hstr
   go_in
   go_wp2_with fail
   refine HWG.mono ?_
   rintro e w1 ⟨rfl,T1⟩
   have HT1:=aB T1
   clear T1
   go_wp2_with fail
   refine (HWD w1 HT1).mono ?_
   rintro e w2 ⟨rfl,T2⟩
   have HT2:=aB (HT1.then T2)
   have hx2:=HX.quiet HT2
   obtain⟨x0,x1,x2⟩:=hx2.blk.facts
   obtain⟨w3,hw3⟩:=eX (w2.setCell ⟨d,2,none⟩ (.int .i64 ((L.length:Int)-1)))
   have hT3:aC (λg=>g=d) w2 w3:=by rw[hw3];exact (aC.refl (λg=>g=d) w2).setCell (p:=⟨d,2,none⟩) (λ_=>rfl) _
   have hb3:aL w3 d 96 #[bB wb,.slice oA q oc,.int .i64 ((L.length:Int)-1)]:=by
    rw[hw3]
    have:=hx2.blk.set_ 2 (.int .i64 ((L.length:Int)-1))
    simpa using this
   have hx3:sK w3 d ((L.length:Int)-1) L wb B nB A c Z wA wc oA q oc O :=
    ⟨hb3,hx2.wk.far hT3 (λg t hg ht=>lB (aG hx2.blk) hg ht),hx2.ov.touch hT3 (λg hg=>lB (aG hx2.blk) hg (.inr (.inr (.inr (.inr rfl))))),hx2.len,hx2.few,hx2.nil,hx2.lay,hx2.pos⟩
   have HCH:=aB (Bg w3 ((cV.touch HL HT2).far hT3 (λe=>by have:=hx2.pos;omega)) hx3 HQ ⟨k,0⟩ _ HLY (by have:=HPL.out;omega))
   simp only[aD.val] at HCH
   have HT3:=aB ((HT2.up _).then hT3)
   have HW3:=aB hw3
   clear T2 hx2 hw3 hT3 hb3 hx3
   go_upto_region 7 with fail
   rw[<-HW3.out]
   go_wp2_with fail
   refine HCH.mono ?_
   rintro e w4 ⟨rfl,hd4,T4⟩
   have HD4:=aB hd4
   have HT4:=aB (HT3.then T4)
   clear hd4 T4 HCH
   go_wp2_with fail
   go_ret2
   exact⟨rfl,HD4,HT4⟩
end
structure mR(B0:Nat)(w:World)(s:SL)(L:List aD):Prop where
 ok:s.Ok w
 eq:s.L=L
 far:0<s.n->∀ g,aJ s.A=some g->g<B0\/bQ w g 125
theorem mR.touch(h:mR B0 w s L)(T:aC S w w')(h1:∀ g,g<B0->¬ S g)(h2:∀ g,bQ w g 125 -> ¬ S g):mR B0 w' s L:=by
 have hS:0<s.n->∀ g,aJ s.A=some g->¬ S g:=λh0 g hg=>(h.far h0 g hg).elim (h1 g) (h2 g)
 refine⟨⟨h.ok.len,?_,h.ok.nil⟩,h.eq,λh0 g hg=>(h.far h0 g hg).imp id (λht=>ht.touch T (h2 g ht))⟩
 rcases Nat.eq_zero_or_pos s.n with e | e
 ·exact⟨h.ok.reads.1,λh0=>by omega⟩
 ·exact h.ok.reads.touch T (hS e)
theorem mR.quiet(h:mR B0 w s L)(T:aC (λ_=>False) w w'):mR B0 w' s L:=h.touch T (λ_ _ f=>f) (λ_ _ f=>f)
theorem mR.dict(h:mR B0 w s L)(T:aC (λg=>g=d) w w')(hd:B0<=d)(ht:bQ w d 96):mR B0 w' s L :=
 h.touch T (λg hg e=>by omega) (λg hg=>lB ht hg (.inr (.inr (.inr (.inr rfl)))))
theorem mR.own(h:dO w A n c L):mR B0 w ⟨A,n,c,L⟩ L :=
 ⟨vF h,rfl,λh0 g hg=>.inr ((gL.of_own h).ty h0 g hg)⟩
theorem aFq(hD:aZ L):∀ r∈L,r.Wf:=λr hr=>by have:=lT hD r hr;unfold aD.Wf;omega
theorem aDs(w:World)(B0:Nat)(s:SL)(hs:mR B0 w s L)(hD:aZ L)(k:ByteArray)(hk:k.size<=1099511627776)(n:Int) :
  Calls Tryz.prog 122 #[s.val,.string k,.int .i64 n] w λe w'=>∃ s':SL,e=.returned (.tuple #[s'.val,.int .i64 (tP L k n),.int .i64 (iV L k.toList n)])/\mR B0 w' s' (rY L k n)/\aC (λ_=>False) w w':=by
 have HRW:=aB (xP w k (by omega))
 have hdl:=hD.len
 have hsl:=hs.ok.len
 have heq:=hs.eq
 obtain⟨sA,sn,sc,sL⟩:=s
 simp only at heq hsl
 subst heq
 have hsn:sn<=4096:=by omega
 have hsnI:(sn:Int)<=4096:=by omega
 have HRF:=aB (λ(wx:World) (T:aC (λ_=>False) w wx)=>Hs wx sA sn sc sL hsl (hs.ok.reads.touch T (λ_ _ f=>f)) (by unfold maxLen;omega) k)
 have HPU:=aB (λ(wx:World) (T:aC (λ_=>False) w wx)=>aHh wx sA sn sc sL hsl (hs.ok.reads.touch T (λ_ _ f=>f)) (by omega) (aFq hD) ⟨k,n⟩ (by show k.size<=9223372036854775807;omega))
 have HS:=aB hs
 obtain⟨⟨x,t⟩,hxt⟩:∃ r,r=bC k.toList sL:=⟨_,rfl⟩
 simp only[<-hxt] at HRF
 have HXT:=aB hxt
 obtain⟨v,hv⟩:=eX (cF k.toList)
 rw[<-hv] at HRW
 have HV:=aB hv
 have HSL:=aB hsl
 simp only[SL.val]
 clear hs hk hxt hv hD
 cases v with
 | false =>
  have hE:iV sL k.toList n=140:=by unfold iV;rw[if_pos HV.symm]
  obtain⟨hH,hLl⟩:=nH hE (by decide)
  rw[hE,hH,hLl]
  clear hE hH hLl
  go_in
  go_wp2_with fail
  refine HRW.mono ?_
  rintro e w1 ⟨rfl,T1⟩
  have HT1:=aB T1
  clear T1
  go_wp2_with fail
  refine (HRF w1 HT1).mono ?_
  rintro e w2 ⟨rfl,T2⟩
  have HT2:=aB (HT1.then T2)
  clear T2
  go_wp2_with fail
  go_ret3
  exact⟨⟨sA,sn,sc,sL⟩,rfl,HS.quiet HT2,HT2⟩
 | true =>
  have hvn:¬ cF k.toList=false:=by rw[<-HV.out];decide
  by_cases hn1:n<1
  ·have hE:iV sL k.toList n=141:=by unfold iV;rw[if_neg hvn,if_pos (.inl hn1)]
   obtain⟨hH,hLl⟩:=nH hE (by decide)
   rw[hE,hH,hLl]
   clear hE hH hLl hvn
   go_in
   go_wp2_with fail
   refine HRW.mono ?_
   rintro e w1 ⟨rfl,T1⟩
   have HT1:=aB T1
   clear T1
   go_wp2_with fail
   refine (HRF w1 HT1).mono ?_
   rintro e w2 ⟨rfl,T2⟩
   have HT2:=aB (HT1.then T2)
   clear T2
   go_wp2_with fail
   go_ret3
   exact⟨⟨sA,sn,sc,sL⟩,rfl,HS.quiet HT2,HT2⟩
  ·by_cases hn2:1048576<n
   ·have hE:iV sL k.toList n=141:=by unfold iV;rw[if_neg hvn,if_pos (.inr hn2)]
    obtain⟨hH,hLl⟩:=nH hE (by decide)
    rw[hE,hH,hLl]
    clear hE hH hLl hvn
    go_in
    go_wp2_with fail
    refine HRW.mono ?_
    rintro e w1 ⟨rfl,T1⟩
    have HT1:=aB T1
    clear T1
    go_wp2_with fail
    refine (HRF w1 HT1).mono ?_
    rintro e w2 ⟨rfl,T2⟩
    have HT2:=aB (HT1.then T2)
    clear T2
    go_wp2_with fail
    go_ret3
    exact⟨⟨sA,sn,sc,sL⟩,rfl,HS.quiet HT2,HT2⟩
   ·have hno:¬ (n<1\/1048576<n):=by omega
    by_cases hful:t=false/\sn=4096
    ·obtain⟨ht,hs4⟩:=hful
     subst ht
     have hfd:(bC k.toList sL).2=false:=by rw[<-HXT.out]
     have hE:iV sL k.toList n=142:=by unfold iV;rw[if_neg hvn,if_neg hno,if_pos ⟨hfd,by omega⟩]
     obtain⟨hH,hLl⟩:=nH hE (by decide)
     rw[hE,hH,hLl]
     have b1:(4096:Int)<=(sn:Int):=by omega
     clear hE hH hLl hvn hfd hno hs4
     go_in
     go_wp2_with fail
     refine HRW.mono ?_
     rintro e w1 ⟨rfl,T1⟩
     have HT1:=aB T1
     clear T1
     go_wp2_with fail
     refine (HRF w1 HT1).mono ?_
     rintro e w2 ⟨rfl,T2⟩
     have HT2:=aB (HT1.then T2)
     clear T2
     go_wp2_with fail
     go_ret3
     exact⟨⟨sA,sn,sc,sL⟩,rfl,HS.quiet HT2,HT2⟩
    ·have hE:iV sL k.toList n=0:=by
      unfold iV
      rw[if_neg hvn,if_neg hno,if_neg]
      rintro⟨h1,h2⟩
      rw[<-HXT.out] at h1
      exact hful ⟨h1,by omega⟩
     have hH:tP sL k n=x:=by unfold tP;rw[hE,if_pos rfl,<-HXT.out]
     have hLl:rY sL k n=eK ⟨k,n⟩ false sL:=by unfold rY;rw[hE,if_pos rfl]
     rw[hE,hH,hLl]
     have hcase:t=true\/(t=false/\¬ (4096:Int)<=(sn:Int)):=by
      cases t with
      | true=>exact .inl rfl
      | false=>exact .inr ⟨rfl,λh=>hful ⟨rfl,by omega⟩⟩
     simp only[aD.val] at HPU
     clear hE hH hLl hvn hno hful
     rcases hcase with rfl | ⟨rfl,b1⟩
     all_goals
      go_in
      go_wp2_with fail
      refine HRW.mono ?_
      rintro e w1 ⟨rfl,T1⟩
      have HT1:=aB T1
      clear T1
      go_wp2_with fail
      refine (HRF w1 HT1).mono ?_
      rintro e w2 ⟨rfl,T2⟩
      have HT2:=aB (HT1.then T2)
      clear T2
      go_wp2_with fail
      refine (HPU w2 HT2).mono ?_
      rintro e w3 ⟨A3,q3,c3,rfl,N3,_⟩
      have HN3:=aB N3
      have HT3:=aB (HT2.then N3.touch)
      clear N3
      go_wp2_with fail
      go_ret3
      exact⟨⟨A3,q3,c3,eK ⟨k,n⟩ false sL⟩,rfl,mR.own HN3.own,HT3⟩
theorem Ql(w:List UInt8)(O:List aD)(p:aD):iB w (O++[p])=if p.word.toList=w then iB w O else iB w O++[p]:=by
 unfold iB
 rw[qXc]
 split
 ·rename_i h;simp[h]
 ·rename_i h;simp[h]
theorem yV(w:World)(B0:Nat)(s:SL)(hs:mR B0 w s L)(hD:aZ L)(k:ByteArray)(hk:k.size<=1099511627776) :
  Calls Tryz.prog 121 #[s.val,.string k] w λe w'=>∃ s':SL,e=.returned (.tuple #[s'.val,.int .i64 (tG L k),.int .i64 (lD L k.toList)])/\mR B0 w' s' (tH L k)/\aC (λ_=>False) w w':=by
 have HRW:=aB (xP w k (by omega))
 have hdl:=hD.len
 have hsl:=hs.ok.len
 have heq:=hs.eq
 obtain⟨sA,sn,sc,sL⟩:=s
 simp only at heq hsl
 subst heq
 have hsn:sn<=4096:=by omega
 have hsnI:(sn:Int)<=4096:=by omega
 have HRF:=aB (λ(wx:World) (T:aC (λ_=>False) w wx)=>Hs wx sA sn sc sL hsl (hs.ok.reads.touch T (λ_ _ f=>f)) (by unfold maxLen;omega) k)
 have HS:=aB hs
 obtain⟨⟨x,t⟩,hxt⟩:∃ r,r=bC k.toList sL:=⟨_,rfl⟩
 simp only[<-hxt] at HRF
 have HXT:=aB hxt
 obtain⟨v,hv⟩:=eX (cF k.toList)
 rw[<-hv] at HRW
 have HV:=aB hv
 have HSL:=aB hsl
 simp only[SL.val]
 clear hs hk hxt hv hD
 cases v with
 | false =>
  have hE:lD sL k.toList=140:=by unfold lD;rw[if_pos HV.symm]
  obtain⟨hH,hLl⟩:=Ah hE (by decide)
  rw[hE,hH,hLl]
  clear hE hH hLl
  go_in
  go_wp2_with fail
  refine HRW.mono ?_
  rintro e w1 ⟨rfl,T1⟩
  have HT1:=aB T1
  clear T1
  go_wp2_with fail
  refine (HRF w1 HT1).mono ?_
  rintro e w2 ⟨rfl,T2⟩
  have HT2:=aB (HT1.then T2)
  clear T2
  go_wp2_with fail
  go_ret3
  exact⟨⟨sA,sn,sc,sL⟩,rfl,HS.quiet HT2,HT2⟩
 | true =>
  have hvn:¬ cF k.toList=false:=by rw[<-HV.out];decide
  cases t with
  | false =>
   have hfd:(bC k.toList sL).2=false:=by rw[<-HXT.out]
   have hE:lD sL k.toList=143:=by unfold lD;rw[if_neg hvn,if_pos hfd]
   obtain⟨hH,hLl⟩:=Ah hE (by decide)
   rw[hE,hH,hLl]
   clear hE hH hLl hvn hfd
   go_in
   go_wp2_with fail
   refine HRW.mono ?_
   rintro e w1 ⟨rfl,T1⟩
   have HT1:=aB T1
   clear T1
   go_wp2_with fail
   refine (HRF w1 HT1).mono ?_
   rintro e w2 ⟨rfl,T2⟩
   have HT2:=aB (HT1.then T2)
   clear T2
   go_wp2_with fail
   go_ret3
   exact⟨⟨sA,sn,sc,sL⟩,rfl,HS.quiet HT2,HT2⟩
  | true =>
   have hfd:(bC k.toList sL).2=true:=by rw[<-HXT.out]
   have hE:lD sL k.toList=0:=by unfold lD;rw[if_neg hvn,if_neg (by rw[hfd];decide)]
   have hH:tG sL k=x:=by unfold tG;rw[hE,if_pos rfl,<-HXT.out]
   have hLl:tH sL k=iB k.toList sL:=by unfold tH;rw[hE,if_pos rfl]
   rw[hE,hH,hLl]
   obtain⟨i0,hi,hz0,hz1,hz2⟩:=aQ kE
   clear hE hH hLl hvn hfd
   go_in
   go_wp2_with fail
   refine HRW.mono ?_
   rintro e w1 ⟨rfl,T1⟩
   have HT1:=aB T1
   clear T1
   go_wp2_with fail
   refine (HRF w1 HT1).mono ?_
   rintro e w2 ⟨rfl,T2⟩
   have HT2:=aB (HT1.then T2)
   clear T2
   go_wp2_with fail
   go_loopw [10,11] (λov iv wr=>∃ (i q:Nat) (A5:Option Addr) (c5:Nat),iv=.int .i64 i/\ov=.slice A5 q c5/\i<=sn/\q<=i/\Hid (Zw w2 wr (.slice A5 q c5) q (iB k.toList (sL.take i)))) (λ_ iv _=>sn-(intOf iv).toNat)
   case atStart=>exact⟨0,0,none,0,rfl,rfl,qXa _,qJc _,aB ⟨World.ownsRow_nil _ _ _ _,rfl,aC.refl _ _,λg e=>by simp[Value.ownBlock] at e⟩⟩
   case round =>
    obtain⟨i,q,A5,c5,rfl,rfl,hin',hqi,HP⟩:=hrel
    by_cases hin:i<sn
    ·have y0:(i:Int)<(sn:Int):=by omega
     have y1:(0:Int)<=(i:Int):=by omega
     have y2:IntKind.i64.wrap ((i:Int)+1)=(i:Int)+1:=qQd _ (by omega)
     have hrr:=HS.ok.reads.touch (HT2.then HP.touch) (λ_ _ f=>f)
     simp only at hrr
     obtain⟨gl,ol,hAl,hgl,l0,l1⟩:=dN hrr HSL.symm i hin
     subst hAl
     have hsn2:=aIn sL i (by rw[HSL.out];exact hin)
     obtain⟨⟨xw,xn⟩,hx⟩:∃ x,x=sL.getD i aD.zero:=⟨_,rfl⟩
     rw[<-hx] at l0 l1 hsn2
     simp only at l0 l1
     have hds:=Ql k.toList (sL.take i) ⟨xw,xn⟩
     rw[<-hsn2] at hds
     have HDS:=aB hds
     have HIN:=aB hin
     clear hrr hx hsn2 hds
     by_cases q1:xw.toList=k.toList
     ·have q2:(xw.toList == k.toList)=true:=by simp[q1]
      have q3:xw=k:=pN q1
      have HQ1:=aB q1
      subst q3
      clear hin
      go_wp2_with fail
      go_roundw
      ·exact⟨i+1,q,A5,c5,by simp,rfl,by have:=HIN.out;omega,by omega,aB (by rw[HDS.out,if_pos HQ1.out];exact HP)⟩
      ·show sn-(intOf (.int .i64 ((i:Int)+1))).toNat<sn-(intOf (.int .i64 (i:Int))).toNat
       have:=HIN.out
       simp[intOf]
       omega
     ·have q2:(xw.toList == k.toList)=false:=by simp[q1]
      have q4:¬ xw=k:=λe=>q1 (by rw[e])
      have HQ1:=aB q1
      obtain⟨A5',c5',e5,_,hm5⟩:=aS HP.own
      injection e5 with e51 e52 e53
      subst e51 e53
      clear hin e52
      go_wp2_with (at_builtin;refine aP _ rfl (.tmp 39) (.tmp 44) 37 rfl 125 i0 _ 2 24 Tryz.underlying37 hi hz0 hz1 hz2 rfl (by decide) (.slice A5 q c5) q _ rfl (aF HP.own ((aC.refl _ _).alloc _) (λ_ _ f=>f)) (some ⟨_,0,none⟩) 1 1 (aD.cells ⟨xw,xn⟩) rfl ?s1a ?s1b ?s1c ?s1d ?s1e ?_)
      case s1a=>exact aH.new _ _ _ _ rfl
      try (case s1b=>exact λh=>by cases h)
      case s1c=>exact List.all_eq_true.1 rfl
      case s1d=>unfold maxLen;omega
      case s1e=>omega
      intro v3 w3 hown hgrow hfr _
      obtain⟨A6,c6,hv6,_,_⟩:=aS hown
      subst hv6
      have HN3:=aB ((HP.to ((aC.refl _ _).alloc _)).app hown hgrow hfr)
      clear hown hgrow hfr
      go_wp2_with fail
      go_roundw
      ·exact⟨i+1,q+1,A6,c6,by simp,rfl,by have:=HIN.out;omega,by omega,aB (by rw[HDS.out,if_neg HQ1.out];exact HN3)⟩
      ·show sn-(intOf (.int .i64 ((i:Int)+1))).toNat<sn-(intOf (.int .i64 (i:Int))).toNat
       have:=HIN.out
       simp[intOf]
       omega
    ·have y0:¬ (i:Int)<(sn:Int):=by omega
     have hie:sL.take i=sL:=qQa (by rw[HSL.out];omega)
     have HIE:=aB hie
     clear hie hin
     go_wp2_with fail
     go_ret3
     have hp:=HP.out
     rw[HIE.out] at hp
     exact⟨⟨A5,q,c5,iB k.toList sL⟩,rfl,mR.own hp.own,HT2.then hp.touch⟩
theorem Gp(O:List aE)(k:Nat)(hk:k<O.length):O.getD k aE.zero∈O:=by
 have e:O.getD k aE.zero=O[k]:=by simp[qZa,hk]
 rw[e];exact List.getElem_mem _
theorem Vy{L:List aE}{i k:Nat}{x:aE}(h:x∈gU (L.take i) k):x∈L :=
 List.mem_of_mem_take (((Sn (L.take i)).2.mem_iff).1 (List.mem_of_mem_take h))
def Zx(w:World)(L:List aE)(most:Nat)(e:Ending)(w':World):Prop:=∃ A m c,m=(gU L most).length/\m<=c/\c<=maxLen/\e=.returned (.slice A m c)/\aH w' 3 A m (aW (gU L most))/\aC (λ_=>False) w w'/\∀ g,aJ A=some g->w.heap.size<=g
theorem Ym(w:World)(A:Option Addr)(n c:Nat)(L:List aE)(hL:L.length=n)(hR:aH w 3 A n (aW L))(hn:n<=maxLen)(hW:∀ r∈L,r.WfB)(kk:Int)(most:Nat)(hm64:most<=64)(hc:max (min kk 64) 0=(most:Int)) :
  Calls Tryz.prog 64 #[.slice A n c,.int .i64 kk] w (Zx w L most):=by
 unfold maxLen at hn
 have HR:=aB hR
 have HL:=aB hL
 have HW:=aB hW
 obtain⟨i0,hi,hz0,hz1,hz2⟩:=aQ wR
 clear hR hL hW
 go_in
 go_wp2
 go_loopw [5,6] (λout iv wr=>∃ (i:Nat) (Ao:Option Addr) (mo co:Nat),i<=n/\out=.slice Ao mo co/\iv=.int .i64 i/\mo<=64/\mo<=co/\Hid (co<=maxLen)/\Hid (mo=(gU (L.take i) most).length)/\Hid (aH wr 3 Ao mo (aW (gU (L.take i) most)))/\Hid (aC (λ_=>False) w wr)/\Hid (∀ g,aJ Ao=some g->w.heap.size<=g)) (λ_ iv _=>n-(intOf iv).toNat)
 case atStart =>
  have e:gU (L.take 0) most=[]:=by simp[gU,zB]
  refine⟨0,none,0,0,qXa _,rfl,rfl,by omega,qJc _,aB (by unfold maxLen;omega),aB ?_,aB ?_,aB (aC.refl _ _),aB (λg h=>by simp[aJ] at h)⟩
  ·rw[e];rfl
  ·rw[e];exact aH.nil _ _ _
 case round =>
  obtain⟨i,Ao,mo,co,hin',rfl,rfl,hmo,hmc,HCO,HMO',HRO',HTO,HFO⟩:=hrel
  by_cases hin:i<n
  ·obtain⟨O,hO⟩:=eX (gU (L.take i) most)
   have HMO:Hid (mo=O.length):=by rw[hO];exact HMO'
   have HRO:Hid (aH wr 3 Ao mo (aW O)):=by rw[hO];exact HRO'
   have HO:=aB hO
   obtain⟨⟨mw,mn,md⟩,hm⟩:∃ x,x=L.getD i aE.zero:=⟨_,rfl⟩
   have HM:=aB hm
   have n0:(i:Int)<(n:Int):=by omega
   have HWM:Hid (aE.WfB ⟨mw,mn,md⟩):=aB (by rw[hm];exact HW _ (Gp L i (by rw[HL.out];exact hin)))
   have HWO:Hid (∀ k,k<O.length->(O.getD k aE.zero).WfB):=aB (λk hk=>HW.out _ (Vy (by rw[<-hO];exact Gp O k hk)))
   clear hO hm HMO' HRO'
   go_wp2
   obtain⟨wo,rfl⟩:∃ wo:World,wo=wr:=⟨_,rfl⟩
   go_loopw [7,8,9] (λnx dn j wr=>∃ (q k:Nat) (done:Bool) (A7:Option Addr) (c7:Nat),k<=mo/\nx=.slice A7 q c7/\dn=.bool done/\j=.int .i64 k/\q=k+done.toNat/\Hid (Nx wo wr (.slice A7 q c7) q (Tu ⟨mw,mn,md⟩ O k done))/\Hid (zH ⟨mw,mn,md⟩ O k done)) (λ_ _ j _=>mo-(intOf j).toNat)
   case atStart =>
    refine⟨0,0,false,none,0,qXa _,rfl,rfl,rfl,rfl,aB ⟨World.ownsRow_nil _ _ _ _,rfl,aC.refl _ _,?_⟩,aB ?_⟩
    ·intro g e;simp[Value.ownBlock] at e
    ·intro y hy;simp at hy
   case round =>
    obtain⟨q,k,done,A7,c7,hk,rfl,rfl,rfl,hq,HN,HK⟩:=hrel
    have hq1:q<=65:=by cases done<;>simp at hq<;>omega
    have HQ:=aB hq
    clear hq
    have TN:=HN.touch
    have TNH:=aB (HTO.then TN)
    obtain⟨gl,ol,hAl,_,l0,l1,l2⟩:=fZ ((HR.touch HTO (λ_ _ f=>f)).touch TN (λ_ _ f=>f)) HL.symm i hin
    subst hAl
    rw[<-HM.out] at l0 l1 l2
    simp only at l0 l1 l2
    by_cases hkm:k<mo
    ·obtain⟨go,oo,hAo,_,o0,o1,o2⟩:=fZ (HRO.touch TN (λ_ _ f=>f)) HMO k hkm
     subst hAo
     obtain⟨⟨xw,xn,xd⟩,hx⟩:∃ x,x=O.getD k aE.zero:=⟨_,rfl⟩
     rw[<-hx] at o0 o1 o2
     simp only at o0 o1 o2
     have HX:=aB hx
     have k0:(k:Int)<(mo:Int):=by omega
     have hkO:k<O.length:=by rw[<-HMO.out];exact hkm
     have HKO:=aB hkO
     clear hx TN hkO
     cases done with
     | true =>
      go_wp2_with fail
      go_quiet (fail)
      obtain⟨w1,hw1⟩:=eX (wr.drewN nq)
      have HN1:=aB (HN.to ((aC.refl _ _).drewN nq))
      rw[<-hw1] at HN1 ⊢
      clear hw1
      obtain⟨go',oo',hAo,_,p0,p1',p2⟩:=fZ (HRO.touch HN1.touch (λ_ _ f=>f)) HMO k hkm
      injection hAo with hAo
      injection hAo with hA1 hA2
      subst hA1 hA2
      rw[<-HX.out] at p0 p1' p2
      simp only at p0 p1' p2
      go_wp2_with (first | (at_builtin;refine aP _ rfl (.tmp 44) (.tmp 49) 39 rfl 43 i0 _ 3 32 Tryz.underlying39 hi hz0 hz1 hz2 rfl (by decide) (.slice A7 q c7) q _ rfl (aF HN1.own ((aC.refl _ _).alloc _) (λ_ _ f=>f)) (some ⟨_,0,none⟩) 1 1 (aE.cells ⟨xw,xn,xd⟩) rfl ?s1a ?s1b ?s1c ?s1d ?s1e ?_))
      case s1a=>exact aH.new _ _ _ _ rfl
      try (case s1b=>exact λh=>by cases h)
      case s1c=>exact List.all_eq_true.1 rfl
      case s1d=>unfold maxLen;omega
      case s1e=>omega
      intro v2 w2 hown hgrow hfr _
      have N2:=(HN1.to ((aC.refl _ _).alloc _)).app hown hgrow hfr
      obtain⟨A2,c2,rfl,_,_⟩:=aS hown
      have HN2:=aB N2
      clear N2 hown hgrow hfr
      go_wp2
      go_roundw
      ·obtain⟨e1,e2⟩:=aGw ⟨mw,mn,md⟩ O k HKO HK
       have HN3:=HN2.out
       rw[HX.out,e1] at HN3
       exact⟨q+1,k+1,true,A2,c2,by omega,rfl,rfl,by simp,by have hq:=HQ.out;simp at hq ⊢;omega,aB HN3,aB e2⟩
      ·show mo-(intOf (.int .i64 ((k:Int)+1))).toNat<mo-(intOf (.int .i64 (k:Int))).toNat
       simp[intOf]
       omega
     | false =>
      cases hb:cD ⟨mw,mn,md⟩ ⟨xw,xn,xd⟩ with
      | true =>
       have HB:=aB hb
       clear hb
       go_wp2_with fail
       go_still_tail 11,(by kernel_rfl)
       change wpList _ _ _ _ _ wr.drew
       have HD:Hid (aC (λ_=>False) wr wr.drew):=aB (aC.refl _ _).drew
       generalize wr.drew=wd at HD ⊢
       go_wp2_with (first | (go_at_call 16;refine (yT ⟨mw,mn,md⟩ ⟨xw,xn,xd⟩ HWM (by rw[HX.out];exact HWO k HKO) wd).mono ?_;rintro e w1 ⟨rfl,T1⟩;have HN1:=aB (HN.to (HD.then T1));clear T1;obtain⟨go',oo',hAo,_,p0,p1',p2⟩:=fZ (HRO.touch HN1.touch (λ_ _ f=>f)) HMO k hkm;injection hAo with hAo;injection hAo with hA1 hA2;subst hA1 hA2;rw[<-HX.out] at p0 p1' p2;simp only at p0 p1' p2;obtain⟨gl',ol',hAl,_,l0',l1',l2'⟩:=fZ ((HR.touch HTO (λ_ _ f=>f)).touch HN1.touch (λ_ _ f=>f)) HL.symm i hin;injection hAl with hAl;injection hAl with hA1 hA2;subst hA1 hA2;rw[<-HM.out] at l0' l1' l2';simp only at l0' l1' l2';rw[HB.out]) | (at_builtin;refine aP _ rfl (.tmp 37) (.tmp 42) 39 rfl 43 i0 _ 3 32 Tryz.underlying39 hi hz0 hz1 hz2 rfl (by decide) (.slice A7 q c7) q _ rfl (aF HN1.own ((aC.refl _ _).alloc _) (λ_ _ f=>f)) (some ⟨_,0,none⟩) 1 1 (aE.cells ⟨mw,mn,md⟩) rfl ?s3a ?s3b ?s3c ?s3d ?s3e ?_))
       case s3a=>exact aH.new _ _ _ _ rfl
       try (case s3b=>exact λh=>by cases h)
       case s3c=>exact List.all_eq_true.1 rfl
       case s3d=>unfold maxLen;omega
       case s3e=>omega
       intro v2 w2 hown hgrow hfr _
       have N2:=(HN1.to ((aC.refl _ _).alloc _)).app hown hgrow hfr
       obtain⟨A2,c2,rfl,_,_⟩:=aS hown
       have HN2:=aB N2
       clear N2 hown hgrow hfr
       obtain⟨go',oo',hAo,_,z0,z1,z2⟩:=fZ (HRO.touch HN2.touch (λ_ _ f=>f)) HMO k hkm
       injection hAo with hAo
       injection hAo with hA1 hA2
       subst hA1 hA2
       rw[<-HX.out] at z0 z1 z2
       simp only at z0 z1 z2
       go_wp2_with (at_builtin;refine aP _ rfl (.tmp 44) (.tmp 49) 39 rfl 43 i0 _ 3 32 Tryz.underlying39 hi hz0 hz1 hz2 rfl (by decide) (.slice A2 (q+1) c2) (q+1) _ rfl (aF HN2.own ((aC.refl _ _).alloc _) (λ_ _ f=>f)) (some ⟨_,0,none⟩) 1 1 (aE.cells ⟨xw,xn,xd⟩) rfl ?s4a ?s4b ?s4c ?s4d ?s4e ?_)
       case s4a=>exact aH.new _ _ _ _ rfl
       try (case s4b=>exact λh=>by cases h)
       case s4c=>exact List.all_eq_true.1 rfl
       case s4d=>unfold maxLen;omega
       case s4e=>omega
       intro v3 w3 hown hgrow hfr _
       have N3:=(HN2.to ((aC.refl _ _).alloc _)).app hown hgrow hfr
       obtain⟨A3,c3,rfl,_,_⟩:=aS hown
       have HN3':=aB N3
       clear N3 hown hgrow hfr
       go_wp2
       go_roundw
       ·obtain⟨e1,e2⟩:=aGx ⟨mw,mn,md⟩ O k HKO HK (by rw[<-HX.out];exact HB)
        have HN3:=HN3'.out
        rw[HX.out,e1] at HN3
        exact⟨q+1+1,k+1,true,A3,c3,by omega,rfl,rfl,by simp,by have hq:=HQ.out;simp at hq ⊢;omega,aB HN3,aB e2⟩
       ·show mo-(intOf (.int .i64 ((k:Int)+1))).toNat<mo-(intOf (.int .i64 (k:Int))).toNat
        simp[intOf]
        omega
      | false =>
       have HB:=aB hb
       clear hb
       go_wp2_with fail
       go_still_tail 11,(by kernel_rfl)
       change wpList _ _ _ _ _ wr.drew
       have HD:Hid (aC (λ_=>False) wr wr.drew):=aB (aC.refl _ _).drew
       generalize wr.drew=wd at HD ⊢
       go_wp2_with (first | (go_at_call 16;refine (yT ⟨mw,mn,md⟩ ⟨xw,xn,xd⟩ HWM (by rw[HX.out];exact HWO k HKO) wd).mono ?_;rintro e w1 ⟨rfl,T1⟩;have HN1:=aB (HN.to (HD.then T1));clear T1;obtain⟨go',oo',hAo,_,p0,p1',p2⟩:=fZ (HRO.touch HN1.touch (λ_ _ f=>f)) HMO k hkm;injection hAo with hAo;injection hAo with hA1 hA2;subst hA1 hA2;rw[<-HX.out] at p0 p1' p2;simp only at p0 p1' p2;obtain⟨gl',ol',hAl,_,l0',l1',l2'⟩:=fZ ((HR.touch HTO (λ_ _ f=>f)).touch HN1.touch (λ_ _ f=>f)) HL.symm i hin;injection hAl with hAl;injection hAl with hA1 hA2;subst hA1 hA2;rw[<-HM.out] at l0' l1' l2';simp only at l0' l1' l2';rw[HB.out]) | (at_builtin;refine aP _ rfl (.tmp 44) (.tmp 49) 39 rfl 43 i0 _ 3 32 Tryz.underlying39 hi hz0 hz1 hz2 rfl (by decide) (.slice A7 q c7) q _ rfl (aF HN1.own ((aC.refl _ _).alloc _) (λ_ _ f=>f)) (some ⟨_,0,none⟩) 1 1 (aE.cells ⟨xw,xn,xd⟩) rfl ?s2a ?s2b ?s2c ?s2d ?s2e ?_))
       case s2a=>exact aH.new _ _ _ _ rfl
       try (case s2b=>exact λh=>by cases h)
       case s2c=>exact List.all_eq_true.1 rfl
       case s2d=>unfold maxLen;omega
       case s2e=>omega
       intro v2 w2 hown hgrow hfr _
       have N2:=(HN1.to ((aC.refl _ _).alloc _)).app hown hgrow hfr
       obtain⟨A2,c2,rfl,_,_⟩:=aS hown
       have HN2:=aB N2
       clear N2 hown hgrow hfr
       go_wp2
       go_roundw
       ·obtain⟨e1,e2⟩:=aKw ⟨mw,mn,md⟩ O k HKO HK (by rw[<-HX.out];exact HB)
        have HN3:=HN2.out
        rw[HX.out,e1] at HN3
        exact⟨q+1,k+1,false,A2,c2,by omega,rfl,rfl,by simp,by have hq:=HQ.out;simp at hq ⊢;omega,aB HN3,aB e2⟩
       ·show mo-(intOf (.int .i64 ((k:Int)+1))).toNat<mo-(intOf (.int .i64 (k:Int))).toNat
        simp[intOf]
        omega
    ·have hkm':k=mo:=by omega
     have HKM:=aB hkm'
     cases done with
     | true =>
      obtain⟨qf,hqf⟩:=eX q
      rw[<-hqf] at HN HQ ⊢
      have HF:Hid (Nx wo wr (.slice A7 qf c7) qf (nW ⟨mw,mn,md⟩ O)):=by
       have e:=aCx ⟨mw,mn,md⟩ O true (by rw[<-HMO.out,<-HKM.out];exact HK)
       simp only[if_true] at e
       rw[<-HMO.out,<-HKM.out] at e
       rw[<-e]
       exact HN
      clear hqf
      have hqf:qf=mo+1:=by have:=HQ.out;simp at this;omega
      clear hkm' TN
      obtain⟨g,cap,hv,hcl,hcm,hg,_,_⟩:=eZ HF.own (by omega)
      injection hv with hA _ hc
      subst hA hc
      have hFl:=HF.len
      have HCM:=aB hcm
      have HQF:=aB hqf
      have hbest:gU (L.take (i+1)) most=(nW ⟨mw,mn,md⟩ O).take most:=by rw[sN L i (by rw[HL.out];exact hin),<-HM.out,<-HO.out]
      have HBE:=aB hbest
      have HFL:=aB hFl
      have HTT:=aB (HTO.then HF.touch)
      have HFF:Hid (∀ g',aJ (some ⟨g,0,none⟩)=some g'->w.heap.size<=g'):=aB (λg' h=>by have h1:=HF.fresh g' (by rw[<-h];rfl);have h2:=HTO.size;omega)
      have hcmI:c7<=9223372036854775807:=by unfold maxLen at hcm;omega
      clear hFl hbest hcm
      by_cases hbig:most<qf
      ·have z0:decide ((most:Int)<(qf:Int))=true:=by simp;omega
       have z1:(most:Int)<=(c7:Int):=by omega
       have z2:most<=c7:=by omega
       clear hqf
       go_wp2
       go_roundw
       ·have hr:=(aH.of_own HF.own).take (k:=most) (by omega)
        rw[qQ] at hr
        refine⟨i+1,some ⟨g,0,none⟩,most,c7,by omega,(by first | rfl | (congr 1;omega)),by simp,hm64,z2,HCM,aB ?_,aB ?_,HTT,HFF⟩
        ·rw[HBE.out,qZd,HFL.out];omega
        ·rw[HBE.out];exact hr
       ·show n-(intOf (.int .i64 ((i:Int)+1))).toNat<n-(intOf (.int .i64 (i:Int))).toNat
        simp[intOf]
        omega
      ·have z0:decide ((most:Int)<(qf:Int))=false:=by simp;omega
       have hq64:qf<=64:=by omega
       clear hqf
       go_wp2
       go_roundw
       ·have hr:=aH.of_own HF.own
        refine⟨i+1,_,qf,c7,by omega,rfl,by simp,hq64,hcl,HCM,aB ?_,aB ?_,HTT,HFF⟩
        ·rw[HBE.out,qQa (by rw[HFL.out];omega),HFL.out]
        ·rw[HBE.out,qQa (by rw[HFL.out];omega)];exact hr
       ·show n-(intOf (.int .i64 ((i:Int)+1))).toNat<n-(intOf (.int .i64 (i:Int))).toNat
        simp[intOf]
        omega
     | false =>
      clear hkm' TN
      have HN1:=HN
      go_wp2_with (first | (at_builtin;refine aP _ rfl (.tmp 53) (.tmp 58) 39 rfl 43 i0 _ 3 32 Tryz.underlying39 hi hz0 hz1 hz2 rfl (by decide) (.slice A7 q c7) q _ rfl (aF HN1.own ((aC.refl _ _).alloc _) (λ_ _ f=>f)) (some ⟨_,0,none⟩) 1 1 (aE.cells ⟨mw,mn,md⟩) rfl ?s5a ?s5b ?s5c ?s5d ?s5e ?_))
      case s5a=>exact aH.new _ _ _ _ rfl
      try (case s5b=>exact λh=>by cases h)
      case s5c=>exact List.all_eq_true.1 rfl
      case s5d=>unfold maxLen;omega
      case s5e=>omega
      intro v2 w2 hown hgrow hfr _
      have N2:=(HN1.to ((aC.refl _ _).alloc _)).app hown hgrow hfr
      obtain⟨A2,c2,rfl,_,_⟩:=aS hown
      have HN2:=aB N2
      clear N2 hown hgrow hfr
      obtain⟨qf,hqf'⟩:=eX (q+1)
      rw[<-hqf'] at HN2 ⊢
      have hqf:qf=mo+1:=by have:=HQ.out;have:=HKM.out;simp at *;omega
      have HF:Hid (Nx wo w2 (.slice A2 qf c2) qf (nW ⟨mw,mn,md⟩ O)):=by
       have e:=aCx ⟨mw,mn,md⟩ O false (by rw[<-HMO.out,<-HKM.out];exact HK)
       simp only[Bool.false_eq_true,if_false] at e
       rw[<-HMO.out,<-HKM.out] at e
       rw[<-e]
       exact HN2
      clear hqf'
      obtain⟨g,cap,hv,hcl,hcm,hg,_,_⟩:=eZ HF.own (by omega)
      injection hv with hA _ hc
      subst hA hc
      have hFl:=HF.len
      have HCM:=aB hcm
      have HQF:=aB hqf
      have hbest:gU (L.take (i+1)) most=(nW ⟨mw,mn,md⟩ O).take most:=by rw[sN L i (by rw[HL.out];exact hin),<-HM.out,<-HO.out]
      have HBE:=aB hbest
      have HFL:=aB hFl
      have HTT:=aB (HTO.then HF.touch)
      have HFF:Hid (∀ g',aJ (some ⟨g,0,none⟩)=some g'->w.heap.size<=g'):=aB (λg' h=>by have h1:=HF.fresh g' (by rw[<-h];rfl);have h2:=HTO.size;omega)
      have hcmI:c2<=9223372036854775807:=by unfold maxLen at hcm;omega
      clear hFl hbest hcm
      by_cases hbig:most<qf
      ·have z0:decide ((most:Int)<(qf:Int))=true:=by simp;omega
       have z1:(most:Int)<=(c2:Int):=by omega
       have z2:most<=c2:=by omega
       clear hqf
       go_wp2
       go_roundw
       ·have hr:=(aH.of_own HF.own).take (k:=most) (by omega)
        rw[qQ] at hr
        refine⟨i+1,some ⟨g,0,none⟩,most,c2,by omega,(by first | rfl | (congr 1;omega)),by simp,hm64,z2,HCM,aB ?_,aB ?_,HTT,HFF⟩
        ·rw[HBE.out,qZd,HFL.out];omega
        ·rw[HBE.out];exact hr
       ·show n-(intOf (.int .i64 ((i:Int)+1))).toNat<n-(intOf (.int .i64 (i:Int))).toNat
        simp[intOf]
        omega
      ·have z0:decide ((most:Int)<(qf:Int))=false:=by simp;omega
       have hq64:qf<=64:=by omega
       clear hqf
       go_wp2
       go_roundw
       ·have hr:=aH.of_own HF.own
        refine⟨i+1,_,qf,c2,by omega,rfl,by simp,hq64,hcl,HCM,aB ?_,aB ?_,HTT,HFF⟩
        ·rw[HBE.out,qQa (by rw[HFL.out];omega),HFL.out]
        ·rw[HBE.out,qQa (by rw[HFL.out];omega)];exact hr
       ·show n-(intOf (.int .i64 ((i:Int)+1))).toNat<n-(intOf (.int .i64 (i:Int))).toNat
        simp[intOf]
        omega
  ·have hieq:i=n:=by omega
   have e:L.take i=L:=qQa (by rw[HL.out];omega)
   rw[e] at HMO' HRO'
   clear e
   subst hieq
   go_wp2
   go_ret
   exact⟨_,_,_,HMO',hmc,HCO,rfl,HRO',HTO,HFO⟩
end Go.Proofs.YthockgmbooefpaaGreatDoor
