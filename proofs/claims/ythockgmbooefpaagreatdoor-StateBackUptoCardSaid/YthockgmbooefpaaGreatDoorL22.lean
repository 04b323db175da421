/- What the law rests on, part 22. No condition but those that each theorem names. -/
import Derived.Test.YthockgmbooefpaaGreatDoorL21
import Derived.Deep.CutRange
set_option linter.unusedSectionVars false
set_option linter.unusedSimpArgs false
set_option linter.unusedVariables false
set_option maxRecDepth 100000
set_option maxHeartbeats 2000000
namespace Go.Proofs.YthockgmbooefpaaGreatDoor
theorem getD_mid (S W:List PRow) (x:PRow):(S++(x :: W)).getD S.length PRow.zero=x:=by
 simp [List.getD]
theorem set_mid (S W:List PRow) (x y:PRow):(S++(x :: W)).set S.length y=S++(y :: W):=by
 rw [List.set_append_right _ _ (Nat.le_refl _),Nat.sub_self,List.set_cons_zero]
theorem swpP_parts (S T W:List PRow) (u v:PRow) (i j:Nat) (hi:i=S.length) (hj:j=S.length+1+T.length):swpP (S++(u :: (T++(v :: W)))) i j=S++(v :: (T++(u :: W))):=by
 subst hi
 have e1:S++(u :: (T++(v :: W)))=(S++(u :: T))++(v :: W):=by simp
 have l1:(S++(u :: T)).length=j:=by simp;omega
 have g2:(S++(u :: (T++(v :: W)))).getD j PRow.zero=v:=by rw [e1,← l1,getD_mid]
 unfold swpP
 rw [g2,getD_mid,set_mid]
 have e2:S++(v :: (T++(v :: W)))=(S++(v :: T))++(v :: W):=by simp
 have l2:(S++(v :: T)).length=j:=by simp;omega
 rw [e2,← l2,set_mid]
 simp
theorem snoc_of {l:List PRow} {k:Nat} (h:l.length=k+1):∃ l' x,l=l'++[x]∧l'.length=k:=by
 have hne:l≠[]:=by intro e;rw [e] at h;simp at h
 refine ⟨l.dropLast,l.getLast hne,(List.dropLast_concat_getLast hne).symm,?_⟩
 rw [List.length_dropLast];omega
theorem swr_parts (k:Nat):∀ (P U M V Q:List PRow) (a b:Nat),a=P.length→U.length=k→V.length=k→b=P.length+k+M.length →
  swrF (P++(U++(M++(V++Q)))) a b k=P++(V++(M++(U++Q))):=by
 induction k with
 | zero =>
  intro P U M V Q a b ha hU hV hb
  have hU':=List.eq_nil_of_length_eq_zero hU
  have hV':=List.eq_nil_of_length_eq_zero hV
  subst hU' hV'
  rfl
 | succ k ih =>
  intro P U M V Q a b ha hU hV hb
  obtain ⟨U',u,rfl,hU'⟩:=snoc_of hU
  obtain ⟨V',v,rfl,hV'⟩:=snoc_of hV
  have:=ih P U' (u :: M) V' (v :: Q) a b ha hU' hV' (by rw [hb];simp;omega)
  have e:P++((U'++[u])++(M++((V'++[v])++Q)))=P++(U'++((u :: M)++(V'++(v :: Q)))):=by simp
  rw [e,swrF,this]
  have e2:P++(V'++((u :: M)++(U'++(v :: Q))))=(P++V')++(u :: ((M++U')++(v :: Q))):=by simp
  rw [e2,swpP_parts (P++V') (M++U') Q u v (a+k) (b+k) (by simp;omega) (by simp;omega)]
  simp
def bub (X:List PRow) (a:Nat):Nat→List PRow
 | 0=>X
 | d+1=>if plt (X.getD (a+d+1) PRow.zero) (X.getD (a+d) PRow.zero)=true then bub (swpP X (a+d+1) (a+d)) a d else X
def insF (X:List PRow) (a:Nat):Nat→List PRow
 | 0=>X
 | c+1=>bub (insF X a c) a (c+1)
theorem swpP_comm_parts (S W:List PRow) (u v:PRow) (i j:Nat) (hi:i=S.length+1) (hj:j=S.length):swpP (S++(u :: v :: W)) i j=S++(v :: u :: W):=by
 subst hi hj
 unfold swpP
 have g1:(S++(u :: v :: W)).getD (S.length+1) PRow.zero=v:=by
  simp [List.getD]
 have s1:∀ y,(S++(u :: v :: W)).set (S.length+1) y=S++(u :: y :: W):=by
  intro y
  rw [List.set_append_right _ _ (Nat.le_succ _)]
  simp
 rw [g1,getD_mid,s1,set_mid]
theorem bub_len (d:Nat):∀ (X:List PRow) (a:Nat),(bub X a d).length=X.length:=by
 induction d with
 | zero=>intro X a;rfl
 | succ d ih =>
  intro X a
  unfold bub
  split
  ·rw [ih,swpP_len]
  ·rfl
theorem insF_len (X:List PRow) (a c:Nat):(insF X a c).length=X.length:=by
 induction c with
 | zero=>rfl
 | succ c ih=>rw [insF,bub_len,ih]
theorem bub_parts (d:Nat):∀ (P Y Q:List PRow) (x:PRow) (a:Nat),a=P.length→Y.length=d→SrtP Y→∃ Z,bub (P++(Y++(x :: Q))) a d=P++(Z++Q)∧SrtP Z∧SameK (Y++[x]) Z:=by
 induction d with
 | zero =>
  intro P Y Q x a ha hY hs
  have:=List.eq_nil_of_length_eq_zero hY
  subst this
  exact ⟨[x],by simp [bub],by simp [SrtP],SameK.refl _⟩
 | succ d ih =>
  intro P Y Q x a ha hY hs
  obtain ⟨Y',y,rfl,hY'⟩:=snoc_of hY
  have e:P++((Y'++[y])++(x :: Q))=(P++Y')++(y :: x :: Q):=by simp
  have g0:(P++((Y'++[y])++(x :: Q))).getD (a+d) PRow.zero=y:=by
   have l:(P++Y').length=a+d:=by simp;omega
   rw [e,← l,getD_mid]
  have g1:(P++((Y'++[y])++(x :: Q))).getD (a+d+1) PRow.zero=x:=by
   have l:(P++Y'++[y]).length=a+d+1:=by simp;omega
   have e':(P++Y')++(y :: x :: Q)=(P++Y'++[y])++(x :: Q):=by simp
   rw [e,e',← l,getD_mid]
  have hs1:=List.pairwise_append.1 hs
  unfold bub
  rw [g0,g1]
  by_cases hb:plt x y=true
  ·rw [if_pos hb,e,swpP_comm_parts (P++Y') Q y x (a+d+1) (a+d) (by simp;omega) (by simp;omega)]
   obtain ⟨Z,h1,h2,h3⟩:=ih P Y' (y :: Q) x a ha hY' hs1.1
   have e2:(P++Y')++(x :: y :: Q)=P++(Y'++(x :: (y :: Q))):=by simp
   refine ⟨Z++[y],by rw [e2,h1];simp,srt_app h2 (by simp [SrtP]) ?_,?_⟩
   ·intro z hz w hw
    simp at hw
    subst hw
    rcases List.mem_append.1 (h3.symm.mem hz) with hz' | hz'
    ·exact hs1.2.2 z hz' _ (by simp)
    ·simp at hz'
     subst hz'
     exact ple_of_plt hb
   ·have k1:SameK ([y]++[x]) ([x]++[y]):=SameK.swap (by
     intro p hp q hq heq
     simp at hp hq
     subst hp hq
     exact plt_ne hb heq.symm)
    have k2:=(SameK.refl Y').app k1
    have k3:=h3.app (SameK.refl [y])
    have e3:Y'++[y]++[x]=Y'++([y]++[x]):=by simp
    have e4:Y'++([x]++[y])=Y'++[x]++[y]:=by simp
    rw [e3]
    exact k2.trans (by rw [e4];exact k3)
  ·rw [if_neg hb]
   have hb':ple y x:=by simpa [ple] using hb
   refine ⟨Y'++[y]++[x],by simp,srt_app hs (by simp [SrtP]) ?_,SameK.refl _⟩
   intro z hz w hw
   simp at hw
   subst hw
   rcases List.mem_append.1 hz with hz | hz
   ·exact ple_trans (hs1.2.2 z hz y (by simp)) hb'
   ·simp at hz
    subst hz
    exact hb'
theorem ins_parts (c:Nat):∀ (P Y Q:List PRow) (a:Nat),a=P.length→c<Y.length→∃ Z,insF (P++(Y++Q)) a c=P++(Z++(Y.drop (c+1)++Q))∧SrtP Z∧SameK (Y.take (c+1)) Z:=by
 induction c with
 | zero =>
  intro P Y Q a ha hc
  cases Y with
  | nil=>simp at hc
  | cons y Y=>exact ⟨[y],by simp [insF],by simp [SrtP],by simpa using SameK.refl _⟩
 | succ c ih =>
  intro P Y Q a ha hc
  obtain ⟨Z,h1,h2,h3⟩:=ih P Y Q a ha (by omega)
  have hZ:Z.length=c+1:=by
   have l1:=congrArg List.length h1
   rw [insF_len] at l1
   simp at l1
   omega
  have e:Y.drop (c+1)=Y[c+1] :: Y.drop (c+1+1):=List.drop_eq_getElem_cons hc
  rw [e] at h1
  obtain ⟨Z',k1,k2,k3⟩:=bub_parts (c+1) P Z (Y.drop (c+1+1)++Q) (Y[c+1]) a ha hZ h2
  refine ⟨Z',?_,k2,?_⟩
  ·rw [insF,h1,List.cons_append]
   exact k1
  ·have e2:Y.take (c+1+1)=Y.take (c+1)++[Y[c+1]]:=List.take_succ_eq_append_getElem hc
   rw [e2]
   exact (h3.app (SameK.refl _)).trans k3
theorem ins_whole (P Y Q:List PRow) (a b:Nat) (ha:a=P.length) (hb:b=a+Y.length):∃ Z,insF (P++(Y++Q)) a (b-a-1)=P++(Z++Q)∧SrtP Z∧SameK Y Z:=by
 by_cases h0:Y.length=0
 ·have:=List.eq_nil_of_length_eq_zero h0
  subst this
  have:b-a-1=0:=by simp at hb;omega
  rw [this]
  exact ⟨[],by simp [insF],List.Pairwise.nil,SameK.refl _⟩
 ·obtain ⟨Z,h1,h2,h3⟩:=ins_parts (b-a-1) P Y Q a ha (by omega)
  have e:b-a-1+1=Y.length:=by omega
  rw [e,List.drop_length,List.nil_append] at h1
  rw [e,List.take_length] at h3
  exact ⟨Z,h1,h2,h3⟩
end Go.Proofs.YthockgmbooefpaaGreatDoor
namespace Go.Proofs.YthockgmbooefpaaGreatDoor
open Go.RowKit
theorem split_at {l:List PRow} {k:Nat} (h:k≤l.length):∃ a b,l=a++b∧a.length=k∧b.length=l.length-k :=
 ⟨l.take k,l.drop k,(List.take_append_drop k l).symm,by rw [List.length_take];omega,by rw [List.length_drop]⟩
theorem rot_any (w:World) (A:Option Addr) (n c:Nat) (P U V Q:List PRow) (h:POwn w A n c (P++(U++(V++Q)))) (a m b:Nat) (ha:a=P.length) (hm:m=a+U.length) (hb:b=m+V.length) (hU:0<U.length) (hV:0<V.length) (F:Value) :
  Calls Tryz.prog 194 #[.slice A n c,.int .i64 a,.int .i64 m,.int .i64 b,F] w fun e w'=>e=.returned (.tuple #[])∧POwn w' A n c (P++(V++(U++Q)))∧Touch (fun g=>adBlock A=some g) w w':=by
 have hn:=own_le h
 unfold maxLen at hn
 have hl:=pown_len h
 simp only [List.length_append] at hl
 obtain ⟨G,hG⟩:∃ G,G=P++(V++(U++Q)):=⟨_,rfl⟩
 rw [← hG]
 have HX:=hide h
 have HG:=hide hG
 have HA:=hide ha
 have HM:=hide hm
 have HB:=hide hb
 obtain ⟨u,hu⟩:∃ u,u=U.length:=⟨_,rfl⟩
 obtain ⟨v,hv⟩:∃ v,v=V.length:=⟨_,rfl⟩
 have HU:=hide hu
 have HV:=hide hv
 have x0:(m:Int)-(a:Int)=(u:Int):=by omega
 have x1:(b:Int)-(m:Int)=(v:Int):=by omega
 have x2:IntKind.i64.wrap (u:Int)=(u:Int):=IntWalk.i64_in _ (by omega)
 have x3:IntKind.i64.wrap (v:Int)=(v:Int):=IntWalk.i64_in _ (by omega)
 have hmn:b≤n:=by omega
 have hmb:m≤b:=by omega
 have hu0:0<u:=by omega
 have hv0:0<v:=by omega
 have hum:u≤m:=by omega
 have hvb:m+v=b:=by omega
 clear h hG ha hm hb hl hu hv hU hV
 go_enter Tryz.func194,Tryz.ntmps194
 go_wp2
 go_loopw [10,11] (fun iv jv wr=>∃ i j:Nat,iv=.int .i64 i∧jv=.int .i64 j∧0<i∧0<j∧i≤m∧m+j≤b∧Hid (∃ P' U' V' Q',P'.length+i=m∧U'.length=i∧V'.length=j∧POwn wr A n c (P'++(U'++(V'++Q')))∧G=P'++(V'++(U'++Q')))∧Hid (Touch (fun g=>adBlock A=some g) w wr)) (fun iv jv _=>(intOf iv).toNat+(intOf jv).toNat)
 case atStart=>exact ⟨u,v,rfl,rfl,hu0,hv0,hum,by omega,hide ⟨P,U,V,Q,by have:=HA.out;have:=HM.out;have:=HU.out;omega,HU.out.symm,HV.out.symm,HX.out,HG.out⟩,hide (Touch.refl _ _)⟩
 case round =>
  obtain ⟨i,j,rfl,rfl,hi0,hj0,him,hjb,HE,HT⟩:=hrel
  obtain ⟨P',U',V',Q',e1,e2,e3,O1,e4⟩:=HE.out
  have hl:=pown_len O1
  simp only [List.length_append] at hl
  have HO:=hide O1
  have HG1:=hide e4
  clear O1 e4 HE
  obtain ⟨d,hd⟩:∃ d,d=m-i:=⟨_,rfl⟩
  have y0:(m:Int)-(i:Int)=(d:Int):=by omega
  have y1:IntKind.i64.wrap (d:Int)=(d:Int):=IntWalk.i64_in _ (by omega)
  rcases Nat.lt_trichotomy i j with hij | hij | hij
  ·obtain ⟨V1,V2,rfl,f1,f2⟩:=split_at (l:=V') (k:=j-i) (by omega)
   obtain ⟨z,hz⟩:∃ z,z=m+j-i:=⟨_,rfl⟩
   have y2:(m:Int)+(j:Int)-(i:Int)=(z:Int):=by omega
   have y3:IntKind.i64.wrap (z:Int)=(z:Int):=IntWalk.i64_in _ (by omega)
   have y4:IntKind.i64.wrap ((m:Int)+(j:Int))=(m:Int)+(j:Int):=IntWalk.i64_in _ (by omega)
   obtain ⟨r,hr⟩:∃ r,r=j-i:=⟨_,rfl⟩
   have y5:(j:Int)-(i:Int)=(r:Int):=by omega
   have y6:IntKind.i64.wrap (r:Int)=(r:Int):=IntWalk.i64_in _ (by omega)
   have y7:¬ i=j:=by omega
   have y8:¬ (j:Int)<(i:Int):=by omega
   have hsw:=swr_parts i P' U' V1 V2 Q' d z (by omega) e2 (by rw [f2,e3];omega) (by omega)
   have HSW:=hide hsw
   have h1:d+i≤n:=by omega
   have h2:z+i≤n:=by omega
   have HH:=hide (And.intro e1 (And.intro e2 (And.intro e3 (And.intro f1 (And.intro f2 hr)))))
   clear hsw hl hd hz e1 e2 e3 f1 f2 hr
   go_wp2_with (go_at_call 195;refine (swr_any wr A n c _ HO.out d z i h1 h2 _).mono ?_;rintro e w2 ⟨rfl,O2,T2⟩;have HO2:=hide O2;have HT2:=hide (HT.out.then T2);clear O2 T2)
   go_roundw
   ·obtain ⟨e1,e2,e3,f1,f2,hr⟩:=HH.out
    have O3:=HO2.out
    rw [show P'++(U'++((V1++V2)++Q'))=P'++(U'++(V1++(V2++Q'))) by simp,HSW.out] at O3
    refine ⟨i,r,rfl,rfl,hi0,by omega,him,by omega,hide ⟨P',V2,V1,U'++Q',e1,by rw [f2,e3];omega,by omega,O3,?_⟩,HT2⟩
    rw [HG1.out];simp
   ·simp [intOf]
    have:=HH.out.2.2.2.2.2
    omega
  ·subst hij
   have hsw:=swr_parts i P' U' [] V' Q' d m (by omega) e2 e3 (by simp;omega)
   have HSW:=hide hsw
   have h1:d+i≤n:=by omega
   have h2:m+i≤n:=by omega
   clear hsw hl hd e1 e2 e3
   go_wp2_with (go_at_call 195;refine (swr_any wr A n c _ HO.out d m i h1 h2 _).mono ?_;rintro e w2 ⟨rfl,O2,T2⟩;have HO2:=hide O2;have HT2:=hide (HT.out.then T2);clear O2 T2)
   go_end0
   have O3:=HO2.out
   rw [show P'++(U'++(V'++Q'))=P'++(U'++([]++(V'++Q'))) by simp,HSW.out] at O3
   refine ⟨rfl,?_,HT2.out⟩
   rw [HG1.out]
   exact O3
  ·obtain ⟨U1,U2,rfl,f1,f2⟩:=split_at (l:=U') (k:=j) (by omega)
   obtain ⟨r,hr⟩:∃ r,r=i-j:=⟨_,rfl⟩
   have y5:(i:Int)-(j:Int)=(r:Int):=by omega
   have y6:IntKind.i64.wrap (r:Int)=(r:Int):=IntWalk.i64_in _ (by omega)
   have y7:¬ i=j:=by omega
   have y8:(j:Int)<(i:Int):=by omega
   have hsw:=swr_parts j P' U1 U2 V' Q' d m (by omega) f1 e3 (by omega)
   have HSW:=hide hsw
   have h1:d+j≤n:=by omega
   have h2:m+j≤n:=by omega
   have HH:=hide (And.intro e1 (And.intro e2 (And.intro e3 (And.intro f1 (And.intro f2 hr)))))
   clear hsw hl hd e1 e2 e3 f1 f2 hr
   go_wp2_with (go_at_call 195;refine (swr_any wr A n c _ HO.out d m j h1 h2 _).mono ?_;rintro e w2 ⟨rfl,O2,T2⟩;have HO2:=hide O2;have HT2:=hide (HT.out.then T2);clear O2 T2)
   go_roundw
   ·obtain ⟨e1,e2,e3,f1,f2,hr⟩:=HH.out
    have O3:=HO2.out
    rw [show P'++((U1++U2)++(V'++Q'))=P'++(U1++(U2++(V'++Q'))) by simp,HSW.out] at O3
    refine ⟨r,j,rfl,rfl,by omega,hj0,by omega,hjb,hide ⟨P'++V',U2,U1,Q',by rw [List.length_append];omega,by rw [f2,e2];omega,f1,by simpa using O3,?_⟩,HT2⟩
    rw [HG1.out];simp
   ·simp [intOf]
    have:=HH.out.2.2.2.2.2
    omega
theorem isort_any (w:World) (A:Option Addr) (n c:Nat) (X:List PRow) (h:POwn w A n c X) (a b:Nat) (hab:a≤b) (hb:b≤n) (hn62:n≤4611686018427387904) :
  Calls Tryz.prog 191 #[.slice A n c,.int .i64 a,.int .i64 b,cmpF] w fun e w'=>e=.returned (.tuple #[])∧POwn w' A n c (insF X a (b-a-1))∧Touch (fun g=>adBlock A=some g) w w':=by
 have HX:=hide h
 clear h
 go_enter Tryz.func191,Tryz.ntmps191
 go_wp2
 go_loopw [8] (fun iv wr=>∃ cn i:Nat,iv=.int .i64 i∧i=a+1+cn∧cn≤b-a-1∧Hid (POwn wr A n c (insF X a cn))∧Hid (Touch (fun g=>adBlock A=some g) w wr)) (fun iv _=>b-(intOf iv).toNat)
 case atStart=>exact ⟨0,a+1,rfl,rfl,Nat.zero_le _,HX,hide (Touch.refl _ _)⟩
 case round =>
  obtain ⟨cn,i,rfl,hi,hcn,HO,HT⟩:=hrel
  have HI:=hide hi
  by_cases hib:i<b
  ·have i0:(i:Int)<(b:Int):=by omega
   obtain ⟨T,hT⟩:∃ T,T=insF X a (cn+1):=⟨_,rfl⟩
   have HTE:=hide hT
   obtain ⟨Y0,hY0⟩:∃ Y,Y=insF X a cn:=⟨_,rfl⟩
   rw [← hY0] at HO
   have hbub:bub Y0 a (i-a)=T:=by
    have e:i-a=cn+1:=by omega
    rw [e,hT,hY0,insF]
   have HBU:=hide hbub
   have hai:a≤i:=by omega
   clear hT hY0 hbub hi hcn
   go_wp2
   obtain ⟨wo,rfl⟩:∃ wo:World,wo=wr:=⟨_,rfl⟩
   go_loopw [9] (fun jv wr=>∃ j:Nat,jv=.int .i64 j∧a≤j∧j≤i∧Hid (∃ Y,POwn wr A n c Y∧bub Y a (j-a)=T)∧Hid (Touch (fun g=>adBlock A=some g) w wr)) (fun jv _=>(intOf jv).toNat)
   case atStart=>exact ⟨i,rfl,hai,Nat.le_refl _,hide ⟨Y0,HO.out,HBU.out⟩,HT⟩
   case round =>
    obtain ⟨j,rfl,haj,hji,HE,HT2⟩:=hrel
    obtain ⟨Y,OY,hYb⟩:=HE.out
    have HOY:=hide OY
    have HYB:=hide hYb
    have hl:=pown_len OY
    clear OY hYb HE
    by_cases h0:a<j
    ·obtain ⟨d,hd⟩:∃ d,j=a+d+1:=⟨j-a-1,by omega⟩
     obtain ⟨q,hq⟩:∃ q,q=j-1:=⟨_,rfl⟩
     obtain ⟨g,hA0,hg,a0,a1,f0,f1⟩:=pown_at HOY.out hl j (by omega)
     subst hA0
     obtain ⟨g',hA,_,b0,b1,f3,f4⟩:=pown_at HOY.out hl q (by omega)
     injection hA with hA
     injection hA with hA _
     subst hA
     obtain ⟨⟨xw,xn⟩,hx⟩:∃ r,r=Y.getD j PRow.zero:=⟨_,rfl⟩
     obtain ⟨⟨yw,yn⟩,hy⟩:∃ r,r=Y.getD q PRow.zero:=⟨_,rfl⟩
     have hbu:bub Y a (j-a)=if plt ⟨xw,xn⟩ ⟨yw,yn⟩=true then bub (swpP Y j q) a (q-a) else Y:=by
      have e1:j-a=d+1:=by omega
      have e2:q=a+d:=by omega
      have e3:q-a=d:=by omega
      rw [e1,e3,bub,← hd,← e2,hx,hy]
     rw [← hx] at a0 a1
     rw [← hy] at b0 b1
     simp only at a0 a1 b0 b1
     have EX:=hide hx
     have EY:=hide hy
     have HBB:=hide hbu
     have y0:(j:Int)-1=(q:Int):=by omega
     have y1:IntKind.i64.wrap (q:Int)=(q:Int):=IntWalk.i64_in _ (by omega)
     have y2:IntKind.i64.wrap (j:Int)=(j:Int):=IntWalk.i64_in _ (by omega)
     have y3:j<n:=by omega
     have y4:q<n:=by omega
     have y5:(j:Int)<(n:Int):=by omega
     have y6:(q:Int)<(n:Int):=by omega
     have y7:decide (a<j)=true:=by simp [h0]
     have y8:(a:Int)<(j:Int):=by omega
     have y9:a≤q:=by omega
     have y10:q≤i:=by omega
     have HDQ:=hide (And.intro hd hq)
     have HLL:=hide hl
     clear hx hy hbu hd hq hl
     cases hb:plt ⟨xw,xn⟩ ⟨yw,yn⟩ with
     | true =>
      have HPB:=hide hb
      clear hb
      go_wp2_with fail
      go_still_tail 14,(by kernel_rfl)
      change wpList _ _ _ _ _ wr.drew
      have HD:Hid (Touch (fun _=>False) wr wr.drew):=hide (Touch.refl _ _).drew
      generalize wr.drew=wd at HD ⊢
      go_wp2_with (go_at_call 177;refine (cmp_any ⟨xw,xn⟩ ⟨yw,yn⟩ wd).mono ?_;rw [HPB.out];rintro e w2 ⟨⟨z,rfl,hz⟩,T2⟩;have O2:=own_touch HOY.out (HD.out.then T2) (fun _ _ f=>f);obtain ⟨g',hA,_,a0,a1,f0,f1⟩:=pown_at O2 HLL.out j y3;injection hA with hA;injection hA with hA _;subst hA;obtain ⟨g',hA,_,b0,b1,f3,f4⟩:=pown_at O2 HLL.out q y4;injection hA with hA;injection hA with hA _;subst hA;rw [← EX.out] at a0 a1;rw [← EY.out] at b0 b1;simp only at a0 a1 b0 b1;obtain ⟨v0,s0⟩:=cell?_setCell_some (p:=⟨g,j*2,none⟩) (x:=.string yw) b0;obtain ⟨v1,s1⟩:=cell?_setCell_some (p:=⟨g,j*2,none⟩) (x:=.string yw) b1;obtain ⟨v1,s1⟩:=cell?_setCell_some (p:=⟨g,j*2+1,none⟩) (x:=.int .i64 yn) s1;have HO2:=hide O2;have HT3:=hide (HT2.out.then ((HD.out.then T2).up _));clear O2 T2)
      go_region
      all_goals go_wp2
      go_roundw
      ·have HS:=pown_set2 (pown_set2 HO2.out j ⟨yw,yn⟩) q ⟨xw,xn⟩
       have e:swpP Y j q=(Y.set j ⟨yw,yn⟩).set q ⟨xw,xn⟩:=by unfold swpP;rw [← EX.out,← EY.out]
       rw [← e] at HS
       refine ⟨q,rfl,y9,y10,hide ⟨swpP Y j q,own_touch (S:=fun _=>False) HS (Touch.refl _ _).drew (fun _ _ f=>f),?_⟩,hide ?_⟩
       ·rw [← HYB.out,HBB.out,if_pos HPB.out]
       ·refine Touch.drew ?_
        iterate 4 refine Touch.setCell ?_ (fun _=>(rfl:adBlock (some ⟨g,0,none⟩)=some g)) _
        exact HT3.out
      ·simp [intOf]
       have:=HDQ.out
       omega
     | false =>
      have HPB:=hide hb
      clear hb
      go_wp2_with fail
      go_still_tail 14,(by kernel_rfl)
      change wpList _ _ _ _ _ wr.drew
      have HD:Hid (Touch (fun _=>False) wr wr.drew):=hide (Touch.refl _ _).drew
      generalize wr.drew=wd at HD ⊢
      go_wp2_with (go_at_call 177;refine (cmp_any ⟨xw,xn⟩ ⟨yw,yn⟩ wd).mono ?_;rw [HPB.out];rintro e w2 ⟨⟨z,rfl,hz⟩,T2⟩;have HO2:=hide (own_touch HOY.out (HD.out.then T2) (fun _ _ f=>f));have HT3:=hide (HT2.out.then ((HD.out.then T2).up _));clear T2)
      go_roundw
      ·have hi:=HI.out
       have e:Y=insF X a (cn+1):=by rw [← HTE.out,← HYB.out,HBB.out,if_neg (by rw [HPB.out];decide)]
       exact ⟨cn+1,i+1,by simp,by omega,by omega,hide (by rw [← e];exact HO2.out),HT3⟩
      ·show b-(intOf (.int .i64 ((i:Int)+1))).toNat<b-(intOf (.int .i64 (i:Int))).toNat
       simp [intOf]
       omega
    ·have hja:j=a:=by omega
     have hYT:Y=T:=by rw [← HYB.out,hja,Nat.sub_self];rfl
     have HYT:=hide hYT
     have y7:decide (a<j)=false:=by simp;omega
     have y8:¬ (a:Int)<(j:Int):=by omega
     clear hja hYT h0 hl
     go_wp2_with fail
     go_quiet (fail)
     obtain ⟨wd,hwd⟩:∃ wd,wd=wr.drewN nq:=⟨_,rfl⟩
     have hdd:Touch (fun _=>False) wr wd:=by rw [hwd];exact (Touch.refl _ _).drewN _
     have HD:=hide hdd
     rw [← hwd]
     clear hwd hdd
     go_wp2
     go_roundw
     ·have hi:=HI.out
      have e:Y=insF X a (cn+1):=by rw [HYT.out,HTE.out]
      exact ⟨cn+1,i+1,by simp,by omega,by omega,hide (by rw [← e];exact own_touch HOY.out HD.out (fun _ _ f=>f)),hide (HT2.out.then (HD.out.up _))⟩
     ·show b-(intOf (.int .i64 ((i:Int)+1))).toNat<b-(intOf (.int .i64 (i:Int))).toNat
      simp [intOf]
      omega
  ·have hc:cn=b-a-1:=by omega
   clear hi hcn
   go_wp2
   go_end0
   refine ⟨rfl,?_,HT.out⟩
   rw [← hc]
   exact HO.out
theorem getD_seg (S R W:List PRow) (i k:Nat) (hi:i=S.length+k) (hk:k<R.length):(S++(R++W)).getD i PRow.zero=R.getD k PRow.zero:=by
 subst hi
 rw [List.getD_eq_getElem?_getD,List.getElem?_append_right (Nat.le_add_right _ _),Nat.add_sub_cancel_left,List.getElem?_append_left hk]
 rfl
theorem sm_one (w:World) (A:Option Addr) (n c:Nat) (P R Q:List PRow) (x:PRow) (h:POwn w A n c (P++(x :: (R++Q)))) (a m b:Nat) (ha:a=P.length) (hm:m=a+1) (hb:b=m+R.length) (hR:SrtP R) (hn62:n≤5864062014700) :
  Calls Tryz.prog 192 #[.slice A n c,.int .i64 a,.int .i64 m,.int .i64 b,cmpF] w fun e w'=>e=.returned (.tuple #[])∧(∃ Z,POwn w' A n c (P++(Z++Q))∧SrtP Z∧SameK (x :: R) Z)∧Touch (fun g=>adBlock A=some g) w w':=by
 have hl:=pown_len h
 simp only [List.length_append,List.length_cons] at hl
 obtain ⟨X,hX⟩:∃ X,X=P++(x :: (R++Q)):=⟨_,rfl⟩
 rw [← hX] at h
 have hn:=own_le h
 unfold maxLen at hn
 have HX:=hide h
 have HE:=hide hX
 have HA:=hide ha
 have HB:=hide hb
 have HR:=hide hR
 have hbn:b≤n:=by omega
 have hmb:m≤b:=by omega
 have hab:a<n:=by omega
 have x0:((m:Int)-(a:Int) == 1)=true:=by simp;omega
 have x1:(m:Int)-(a:Int)=1:=by omega
 have ham:m=a+1:=hm
 have HAM:=hide ham
 clear h hX ha hb hl hR hm ham
 go_enter Tryz.func192,Tryz.ntmps192
 go_wp2
 go_loopw [10,11] (fun iv jv wr=>∃ i j:Nat,iv=.int .i64 i∧jv=.int .i64 j∧m≤i∧i≤j∧j≤b∧Hid (POwn wr A n c X)∧Hid ((i=m∨plt (X.getD (i-1) PRow.zero) x=true)∧(j=b∨plt (X.getD j PRow.zero) x=false))∧Hid (Touch (fun _=>False) w wr)) (fun iv jv _=>(intOf jv).toNat-(intOf iv).toNat)
 case atStart=>exact ⟨m,b,rfl,rfl,Nat.le_refl _,hmb,Nat.le_refl _,HX,hide ⟨.inl rfl,.inl rfl⟩,hide (Touch.refl _ _)⟩
 case round =>
  obtain ⟨i,j,rfl,rfl,hmi,hij,hjb,HO,HI,HT⟩:=hrel
  by_cases h0:i<j
  ·have y0:(i:Int)<(j:Int):=by omega
   obtain ⟨h,hh⟩:∃ h,h=(i+j) / 2:=⟨_,rfl⟩
   have y1:((i:Int)+(j:Int)) / 2=(h:Int):=by omega
   have y2:h<n:=by omega
   have y3:(h:Int)<(n:Int):=by omega
   have y4:(a:Int)<(n:Int):=by omega
   have y5:IntKind.i64.wrap (h:Int)=(h:Int):=IntWalk.i64_in _ (by omega)
   have y6:IntKind.i64.wrap (a:Int)=(a:Int):=IntWalk.i64_in _ (by omega)
   have y7:i≤h:=by omega
   have y8:h<j:=by omega
   have hl:=pown_len HO.out
   obtain ⟨g,hA0,hg,a0,a1,f0,f1⟩:=pown_at HO.out hl h y2
   subst hA0
   obtain ⟨g',hA,_,b0,b1,f3,f4⟩:=pown_at HO.out hl a hab
   injection hA with hA
   injection hA with hA _
   subst hA
   have ex:X.getD a PRow.zero=x:=by rw [HE.out,HA.out,getD_mid]
   rw [ex] at b0 b1
   obtain ⟨⟨zw,zn⟩,hz⟩:∃ r,r=X.getD h PRow.zero:=⟨_,rfl⟩
   rw [← hz] at a0 a1
   have EZ:=hide hz
   obtain ⟨⟨xw,xn⟩,hx⟩:∃ r,r=x:=⟨_,rfl⟩
   rw [← hx] at b0 b1
   have EX:=hide hx
   simp only at a0 a1 b0 b1
   clear hl ex hz hx hh
   cases hb:plt ⟨zw,zn⟩ ⟨xw,xn⟩ with
   | true =>
    have HPB:=hide hb
    clear hb
    go_wp2_with fail
    go_still_tail 9,(by kernel_rfl)
    change wpList _ _ _ _ _ wr.drew
    have HD:Hid (Touch (fun _=>False) wr wr.drew):=hide (Touch.refl _ _).drew
    generalize wr.drew=wd at HD ⊢
    go_wp2_with (go_at_call 177;refine (cmp_any ⟨zw,zn⟩ ⟨xw,xn⟩ wd).mono ?_;rw [HPB.out];rintro e w2 ⟨⟨z,rfl,hz⟩,T2⟩;have HT2:=hide (HT.out.then (HD.out.then T2));have HO2:=hide (own_touch HO.out (HD.out.then T2) (fun _ _ f=>f));clear T2)
    go_roundw
    ·refine ⟨h+1,j,by simp,rfl,by omega,by omega,hjb,HO2,hide ⟨.inr ?_,HI.out.2⟩,HT2⟩
     rw [Nat.add_sub_cancel,← EZ.out,← EX.out]
     exact HPB.out
    ·show (j:Int).toNat-((h:Int)+1).toNat<(j:Int).toNat-(i:Int).toNat
     omega
   | false =>
    have HPB:=hide hb
    clear hb
    go_wp2_with fail
    go_still_tail 9,(by kernel_rfl)
    change wpList _ _ _ _ _ wr.drew
    have HD:Hid (Touch (fun _=>False) wr wr.drew):=hide (Touch.refl _ _).drew
    generalize wr.drew=wd at HD ⊢
    go_wp2_with (go_at_call 177;refine (cmp_any ⟨zw,zn⟩ ⟨xw,xn⟩ wd).mono ?_;rw [HPB.out];rintro e w2 ⟨⟨z,rfl,hz⟩,T2⟩;have HT2:=hide (HT.out.then (HD.out.then T2));have HO2:=hide (own_touch HO.out (HD.out.then T2) (fun _ _ f=>f));clear T2)
    go_roundw
    ·refine ⟨i,h,rfl,rfl,hmi,y7,by omega,HO2,hide ⟨HI.out.1,.inr ?_⟩,HT2⟩
     rw [← EZ.out,← EX.out]
     exact HPB.out
    ·show (h:Int).toNat-(i:Int).toNat<(j:Int).toNat-(i:Int).toNat
     omega
  ·have hij':j=i:=by omega
   subst hij'
   obtain ⟨t,ht⟩:∃ t,j=m+t:=⟨j-m,by omega⟩
   obtain ⟨o,ho⟩:∃ o,o=a+t:=⟨_,rfl⟩
   have z0:(j:Int)-1=(o:Int):=by have:=HAM.out;omega
   have z1:IntKind.i64.wrap (o:Int)=(o:Int):=IntWalk.i64_in _ (by omega)
   have z2:a≤o:=by omega
   have z3:o<n:=by have:=HAM.out;omega
   have htR:t≤R.length:=by have:=HB.out;omega
   have HTT:=hide ht
   have HOO:=hide ho
   have HTR:=hide htR
   have HI2:=HI
   clear ht ho htR h0 hij hmi
   go_wp2
   obtain ⟨wo,rfl⟩:∃ wo:World,wo=wr:=⟨_,rfl⟩
   go_loopw [13] (fun kv wr=>∃ k s:Nat,kv=.int .i64 k∧k≤o∧Hid (k=a+s)∧Hid (POwn wr A n c (P++(R.take s++(x :: (R.drop s++Q)))))∧Hid (Touch (fun g=>adBlock A=some g) w wr)) (fun kv _=>o-(intOf kv).toNat)
   case atStart =>
    refine ⟨a,0,rfl,z2,hide rfl,hide ?_,hide (HT.out.up _)⟩
    have:=HO.out
    rw [HE.out] at this
    simpa using this
   case round =>
    obtain ⟨k,s,rfl,hko,HK,HO2,HT2⟩:=hrel
    by_cases hk:k<o
    ·obtain ⟨Y,hY⟩:∃ Y,Y=P++(R.take s++(x :: (R.drop s++Q))):=⟨_,rfl⟩
     rw [← hY] at HO2
     have HYE:=hide hY
     have hl:=pown_len HO2.out
     obtain ⟨k2,hk2⟩:∃ k2,k2=k+1:=⟨_,rfl⟩
     obtain ⟨g,hA0,hg,a0,a1,f0,f1⟩:=pown_at HO2.out hl k (by omega)
     subst hA0
     obtain ⟨g',hA,_,b0,b1,f3,f4⟩:=pown_at HO2.out hl k2 (by omega)
     injection hA with hA
     injection hA with hA _
     subst hA
     obtain ⟨⟨xw,xn⟩,hx⟩:∃ r,r=Y.getD k PRow.zero:=⟨_,rfl⟩
     obtain ⟨⟨yw,yn⟩,hy⟩:∃ r,r=Y.getD k2 PRow.zero:=⟨_,rfl⟩
     rw [← hx] at a0 a1
     rw [← hy] at b0 b1
     simp only at a0 a1 b0 b1
     have EX:=hide hx
     have EY:=hide hy
     have HK2:=hide hk2
     have i0:(k:Int)<(o:Int):=by omega
     have i1:(k:Int)+1=(k2:Int):=by omega
     have i2:IntKind.i64.wrap (k:Int)=(k:Int):=IntWalk.i64_in _ (by omega)
     have i3:IntKind.i64.wrap (k2:Int)=(k2:Int):=IntWalk.i64_in _ (by omega)
     have i4:k<n:=by omega
     have i5:k2<n:=by omega
     have i6:(k:Int)<(n:Int):=by omega
     have i7:(k2:Int)<(n:Int):=by omega
     have i8:k2≤o:=by omega
     obtain ⟨v0,s0⟩:=cell?_setCell_some (p:=⟨g,k*2,none⟩) (x:=.string yw) b0
     obtain ⟨v1,s1⟩:=cell?_setCell_some (p:=⟨g,k*2,none⟩) (x:=.string yw) b1
     obtain ⟨v1,s1⟩:=cell?_setCell_some (p:=⟨g,k*2+1,none⟩) (x:=.int .i64 yn) s1
     clear hx hy hl hk2 hY
     go_wp2
     go_region
     all_goals go_wp2
     go_roundw
     ·have HS:=pown_set2 (pown_set2 HO2.out k ⟨yw,yn⟩) k2 ⟨xw,xn⟩
      have e:swpP Y k k2=(Y.set k ⟨yw,yn⟩).set k2 ⟨xw,xn⟩:=by unfold swpP;rw [← EX.out,← EY.out]
      rw [← e] at HS
      have hs:s<R.length:=by have:=HTR.out;have:=HOO.out;have:=HK.out;omega
      have e2:swpP Y k k2=P++(R.take (s+1)++(x :: (R.drop (s+1)++Q))):=by
       have r1:R.drop s=R[s] :: R.drop (s+1):=List.drop_eq_getElem_cons hs
       have r2:R.take (s+1)=R.take s++[R[s]]:=List.take_succ_eq_append_getElem hs
       have l1:(P++R.take s).length=k:=by have:=HK.out;have:=HA.out;rw [List.length_append,List.length_take];omega
       have e3:Y=(P++R.take s)++(x :: ([]++(R[s] :: (R.drop (s+1)++Q)))):=by rw [HYE.out,r1];simp only [List.append_assoc,List.cons_append,List.nil_append]
       rw [e3,swpP_parts (P++R.take s) [] (R.drop (s+1)++Q) x R[s] k k2 l1.symm (by rw [l1,HK2.out];rfl),r2]
       simp only [List.append_assoc,List.cons_append,List.nil_append]
      rw [e2] at HS
      refine ⟨k2,s+1,rfl,i8,hide (by have:=HK.out;have:=HK2.out;omega),hide (own_touch (S:=fun _=>False) HS (Touch.refl _ _).drew (fun _ _ f=>f)),hide ?_⟩
      refine Touch.drew ?_
      iterate 4 refine Touch.setCell ?_ (fun _=>(rfl:adBlock (some ⟨g,0,none⟩)=some g)) _
      exact HT2.out
     ·simp [intOf]
      have:=HK2.out
      omega
    ·have hk':k=o:=by omega
     subst hk'
     go_wp2
     have hst:s=t:=by have:=HK.out;have:=HOO.out;omega
     subst hst
     obtain ⟨i1,i2⟩:=HI.out
     have hm:=HAM.out
     have ht:=HTT.out
     have hA:=HA.out
     have hB:=HB.out
     have eX:X=(P++[x])++(R++Q):=by rw [HE.out];simp
     have hc:=cut_parts (L:=[x]) (R:=R) (by simp [SrtP]) HR.out 0 s (Nat.zero_le _) HTR.out (.inl rfl) (by
      rcases i1 with e | e
      ·exact .inr (.inl (by omega))
      ·by_cases hs0:s=0
       ·exact .inr (.inl hs0)
       ·refine .inr (.inr ?_)
        rw [eX,getD_seg (P++[x]) R Q (j-1) (s-1) (by simp;omega) (by have:=HTR.out;omega)] at e
        simpa using e)
     have hd:∀ y∈R.drop s,ple x y:=by
      intro y hy
      obtain ⟨q,q1,q2,rfl⟩:=mem_drop_at hy
      rcases i2 with e | e
      ·omega
      ·rw [eX,getD_seg (P++[x]) R Q j s (by simp;omega) (by omega)] at e
       exact ple_trans (show ple x (R.getD s PRow.zero) from e) (srt_at HR.out q1 q2)
     simp only [List.drop_zero,List.mem_singleton,forall_eq] at hc
     refine bodyPost_ret (v:=.tuple #[]) (by simp [results,Tryz.results192,go_sem]) rfl ⟨rfl,⟨R.take s++(x :: R.drop s),?_,?_,?_⟩,HT2.out⟩
     ·have:=HO2.out
      simpa using this
     ·refine srt_app (srt_take HR.out s) (List.pairwise_cons.2 ⟨hd,srt_drop HR.out s⟩) ?_
      intro p hp r hr
      rcases List.mem_cons.1 hr with rfl | hr
      ·exact ple_of_plt (hc.2 p hp)
      ·exact ple_trans (ple_of_plt (hc.2 p hp)) (hd r hr)
     ·have k1:SameK ([x]++R.take s) (R.take s++[x]):=SameK.swap fun p hp r hr he=>by
       simp only [List.mem_singleton] at hp
       subst hp
       exact plt_ne (hc.2 r hr) he.symm
      have k2:=k1.app (SameK.refl (R.drop s))
      simpa using k2
theorem sm_last (w:World) (A:Option Addr) (n c:Nat) (P L Q:List PRow) (x:PRow) (h:POwn w A n c (P++(L++(x :: Q)))) (a m b:Nat) (ha:a=P.length) (hm:m=a+L.length) (hb:b=m+1) (hL1:L.length≠1) (hL:SrtP L) (hn62:n≤5864062014700) :
  Calls Tryz.prog 192 #[.slice A n c,.int .i64 a,.int .i64 m,.int .i64 b,cmpF] w fun e w'=>e=.returned (.tuple #[])∧(∃ Z,POwn w' A n c (P++(Z++Q))∧SrtP Z∧SameK (L++[x]) Z)∧Touch (fun g=>adBlock A=some g) w w':=by
 have hl:=pown_len h
 simp only [List.length_append,List.length_cons] at hl
 obtain ⟨X,hX⟩:∃ X,X=P++(L++(x :: Q)):=⟨_,rfl⟩
 rw [← hX] at h
 have hn:=own_le h
 unfold maxLen at hn
 have HX:=hide h
 have HE:=hide hX
 have HA:=hide ha
 have HB:=hide hb
 have HL:=hide hL
 have HM:=hide hm
 have hbn:m<n:=by omega
 have ham:a≤m:=by omega
 have x0:((m:Int)-(a:Int) == 1)=false:=by simp;omega
 have x1:((b:Int)-(m:Int) == 1)=true:=by simp;omega
 have x2:(b:Int)-(m:Int)=1:=by omega
 have x3:b≤n:=by omega
 clear h hX ha hb hl hL hm hL1
 go_enter Tryz.func192,Tryz.ntmps192
 go_wp2
 go_loopw [14,15] (fun iv jv wr=>∃ i j:Nat,iv=.int .i64 i∧jv=.int .i64 j∧a≤i∧i≤j∧j≤m∧Hid (POwn wr A n c X)∧Hid ((i=a∨plt x (X.getD (i-1) PRow.zero)=false)∧(j=m∨plt x (X.getD j PRow.zero)=true))∧Hid (Touch (fun _=>False) w wr)) (fun iv jv _=>(intOf jv).toNat-(intOf iv).toNat)
 case atStart=>exact ⟨a,m,rfl,rfl,Nat.le_refl _,ham,Nat.le_refl _,HX,hide ⟨.inl rfl,.inl rfl⟩,hide (Touch.refl _ _)⟩
 case round =>
  obtain ⟨i,j,rfl,rfl,hmi,hij,hjb,HO,HI,HT⟩:=hrel
  by_cases h0:i<j
  ·have y0:(i:Int)<(j:Int):=by omega
   obtain ⟨h,hh⟩:∃ h,h=(i+j) / 2:=⟨_,rfl⟩
   have y1:((i:Int)+(j:Int)) / 2=(h:Int):=by omega
   have y2:h<n:=by omega
   have y3:(h:Int)<(n:Int):=by omega
   have y4:(m:Int)<(n:Int):=by omega
   have y5:IntKind.i64.wrap (h:Int)=(h:Int):=IntWalk.i64_in _ (by omega)
   have y6:IntKind.i64.wrap (m:Int)=(m:Int):=IntWalk.i64_in _ (by omega)
   have y7:i≤h:=by omega
   have y8:h<j:=by omega
   have hl:=pown_len HO.out
   obtain ⟨g,hA0,hg,a0,a1,f0,f1⟩:=pown_at HO.out hl h y2
   subst hA0
   obtain ⟨g',hA,_,b0,b1,f3,f4⟩:=pown_at HO.out hl m hbn
   injection hA with hA
   injection hA with hA _
   subst hA
   have ex:X.getD m PRow.zero=x:=by
    have l1:(P++L).length=m:=by have:=HM.out;have:=HA.out;rw [List.length_append];omega
    rw [HE.out,← List.append_assoc,← l1,getD_mid]
   rw [ex] at b0 b1
   obtain ⟨⟨zw,zn⟩,hz⟩:∃ r,r=X.getD h PRow.zero:=⟨_,rfl⟩
   rw [← hz] at a0 a1
   have EZ:=hide hz
   obtain ⟨⟨xw,xn⟩,hx⟩:∃ r,r=x:=⟨_,rfl⟩
   rw [← hx] at b0 b1
   have EX:=hide hx
   simp only at a0 a1 b0 b1
   clear hl ex hz hx hh
   cases hb:plt ⟨xw,xn⟩ ⟨zw,zn⟩ with
   | true =>
    have HPB:=hide hb
    clear hb
    go_wp2_with fail
    go_still_tail 9,(by kernel_rfl)
    change wpList _ _ _ _ _ wr.drew
    have HD:Hid (Touch (fun _=>False) wr wr.drew):=hide (Touch.refl _ _).drew
    generalize wr.drew=wd at HD ⊢
    go_wp2_with (go_at_call 177;refine (cmp_any ⟨xw,xn⟩ ⟨zw,zn⟩ wd).mono ?_;rw [HPB.out];rintro e w2 ⟨⟨z,rfl,hz⟩,T2⟩;have HT2:=hide (HT.out.then (HD.out.then T2));have HO2:=hide (own_touch HO.out (HD.out.then T2) (fun _ _ f=>f));clear T2)
    go_roundw
    ·refine ⟨i,h,rfl,rfl,hmi,y7,by omega,HO2,hide ⟨HI.out.1,.inr ?_⟩,HT2⟩
     rw [← EZ.out,← EX.out]
     exact HPB.out
    ·show (h:Int).toNat-(i:Int).toNat<(j:Int).toNat-(i:Int).toNat
     omega
   | false =>
    have HPB:=hide hb
    clear hb
    go_wp2_with fail
    go_still_tail 9,(by kernel_rfl)
    change wpList _ _ _ _ _ wr.drew
    have HD:Hid (Touch (fun _=>False) wr wr.drew):=hide (Touch.refl _ _).drew
    generalize wr.drew=wd at HD ⊢
    go_wp2_with (go_at_call 177;refine (cmp_any ⟨xw,xn⟩ ⟨zw,zn⟩ wd).mono ?_;rw [HPB.out];rintro e w2 ⟨⟨z,rfl,hz⟩,T2⟩;have HT2:=hide (HT.out.then (HD.out.then T2));have HO2:=hide (own_touch HO.out (HD.out.then T2) (fun _ _ f=>f));clear T2)
    go_roundw
    ·refine ⟨h+1,j,by simp,rfl,by omega,by omega,hjb,HO2,hide ⟨.inr ?_,HI.out.2⟩,HT2⟩
     rw [Nat.add_sub_cancel,← EZ.out,← EX.out]
     exact HPB.out
    ·show (j:Int).toNat-((h:Int)+1).toNat<(j:Int).toNat-(i:Int).toNat
     omega
  ·have hij':j=i:=by omega
   subst hij'
   obtain ⟨t,ht⟩:∃ t,j=a+t:=⟨j-a,by omega⟩
   have htL:t≤L.length:=by have:=HM.out;omega
   have HTT:=hide ht
   have HTL:=hide htL
   clear ht htL h0 hij hmi
   go_wp2
   obtain ⟨wo,rfl⟩:∃ wo:World,wo=wr:=⟨_,rfl⟩
   go_loopw [17] (fun kv wr=>∃ k s:Nat,kv=.int .i64 k∧j≤k∧k≤m∧Hid (k=a+s)∧Hid (POwn wr A n c (P++(L.take s++(x :: (L.drop s++Q)))))∧Hid (Touch (fun g=>adBlock A=some g) w wr)) (fun kv _=>(intOf kv).toNat)
   case atStart =>
    refine ⟨m,L.length,rfl,hjb,Nat.le_refl _,HM,hide ?_,hide (HT.out.up _)⟩
    have:=HO.out
    rw [HE.out] at this
    simpa using this
   case round =>
    obtain ⟨k,s,rfl,hko,hkm,HK,HO2,HT2⟩:=hrel
    by_cases hk:j<k
    ·obtain ⟨Y,hY⟩:∃ Y,Y=P++(L.take s++(x :: (L.drop s++Q))):=⟨_,rfl⟩
     rw [← hY] at HO2
     have HYE:=hide hY
     have hl:=pown_len HO2.out
     obtain ⟨k2,hk2⟩:∃ k2,k=k2+1:=⟨k-1,by omega⟩
     obtain ⟨g,hA0,hg,a0,a1,f0,f1⟩:=pown_at HO2.out hl k (by omega)
     subst hA0
     obtain ⟨g',hA,_,b0,b1,f3,f4⟩:=pown_at HO2.out hl k2 (by omega)
     injection hA with hA
     injection hA with hA _
     subst hA
     obtain ⟨⟨xw,xn⟩,hx⟩:∃ r,r=Y.getD k PRow.zero:=⟨_,rfl⟩
     obtain ⟨⟨yw,yn⟩,hy⟩:∃ r,r=Y.getD k2 PRow.zero:=⟨_,rfl⟩
     rw [← hx] at a0 a1
     rw [← hy] at b0 b1
     simp only at a0 a1 b0 b1
     have EX:=hide hx
     have EY:=hide hy
     have HK2:=hide hk2
     have i0:(j:Int)<(k:Int):=by omega
     have i1:(k:Int)-1=(k2:Int):=by omega
     have i2:IntKind.i64.wrap (k:Int)=(k:Int):=IntWalk.i64_in _ (by omega)
     have i3:IntKind.i64.wrap (k2:Int)=(k2:Int):=IntWalk.i64_in _ (by omega)
     have i4:k<n:=by omega
     have i5:k2<n:=by omega
     have i6:(k:Int)<(n:Int):=by omega
     have i7:(k2:Int)<(n:Int):=by omega
     have i8:j≤k2:=by omega
     have i9:k2≤m:=by omega
     obtain ⟨v0,s0⟩:=cell?_setCell_some (p:=⟨g,k*2,none⟩) (x:=.string yw) b0
     obtain ⟨v1,s1⟩:=cell?_setCell_some (p:=⟨g,k*2,none⟩) (x:=.string yw) b1
     obtain ⟨v1,s1⟩:=cell?_setCell_some (p:=⟨g,k*2+1,none⟩) (x:=.int .i64 yn) s1
     clear hx hy hl hk2 hY
     go_wp2
     go_region
     all_goals go_wp2
     go_roundw
     ·have HS:=pown_set2 (pown_set2 HO2.out k ⟨yw,yn⟩) k2 ⟨xw,xn⟩
      have e:swpP Y k k2=(Y.set k ⟨yw,yn⟩).set k2 ⟨xw,xn⟩:=by unfold swpP;rw [← EX.out,← EY.out]
      rw [← e] at HS
      obtain ⟨s',rfl⟩:∃ s',s=s'+1:=⟨s-1,by have:=HK.out;have:=HTT.out;omega⟩
      have hs:s'<L.length:=by have:=HM.out;have:=HK.out;omega
      have e2:swpP Y k k2=P++(L.take s'++(x :: (L.drop s'++Q))):=by
       have r1:L.drop s'=L[s'] :: L.drop (s'+1):=List.drop_eq_getElem_cons hs
       have r2:L.take (s'+1)=L.take s'++[L[s']]:=List.take_succ_eq_append_getElem hs
       have l1:(P++L.take s').length=k2:=by have:=HK.out;have:=HK2.out;have:=HA.out;rw [List.length_append,List.length_take];omega
       have e3:Y=(P++L.take s')++(L[s'] :: x :: (L.drop (s'+1)++Q)):=by rw [HYE.out,r2];simp only [List.append_assoc,List.cons_append,List.nil_append]
       rw [e3,swpP_comm_parts (P++L.take s') (L.drop (s'+1)++Q) L[s'] x k k2 (by rw [l1,HK2.out]) l1.symm,r1]
       simp only [List.append_assoc,List.cons_append]
      rw [e2] at HS
      refine ⟨k2,s',rfl,i8,i9,hide (by have:=HK.out;have:=HK2.out;omega),hide (own_touch (S:=fun _=>False) HS (Touch.refl _ _).drew (fun _ _ f=>f)),hide ?_⟩
      refine Touch.drew ?_
      iterate 4 refine Touch.setCell ?_ (fun _=>(rfl:adBlock (some ⟨g,0,none⟩)=some g)) _
      exact HT2.out
     ·simp [intOf]
      have:=HK2.out
      omega
    ·have hk':k=j:=by omega
     subst hk'
     go_wp2
     have hst:s=t:=by have:=HK.out;have:=HTT.out;omega
     subst hst
     obtain ⟨i1,i2⟩:=HI.out
     have ht:=HTT.out
     have hA:=HA.out
     have hM:=HM.out
     have hTL:=HTL.out
     have eX:X=P++(L++(x :: Q)):=HE.out
     have hc:∀ p∈L.take s,ple p x:=by
      intro p hp
      obtain ⟨q,q1,q2,rfl⟩:=mem_take_at hp
      rcases i1 with e | e
      ·omega
      ·rw [eX,getD_seg P L (x :: Q) (k-1) (s-1) (by omega) (by omega)] at e
       exact ple_trans (srt_at HL.out (by omega) (by omega)) (show ple (L.getD (s-1) PRow.zero) x from e)
     have hd:∀ r∈L.drop s,plt x r=true:=by
      intro r hr
      obtain ⟨q,q1,q2,rfl⟩:=mem_drop_at hr
      rcases i2 with e | e
      ·omega
      ·rw [eX,getD_seg P L (x :: Q) k s (by omega) (by omega)] at e
       exact plt_ple e (srt_at HL.out q1 q2)
     refine bodyPost_ret (v:=.tuple #[]) (by simp [results,Tryz.results192,go_sem]) rfl ⟨rfl,⟨L.take s++(x :: L.drop s),?_,?_,?_⟩,HT2.out⟩
     ·have:=HO2.out
      simpa using this
     ·refine srt_app (srt_take HL.out s) (List.pairwise_cons.2 ⟨fun r hr=>ple_of_plt (hd r hr),srt_drop HL.out s⟩) ?_
      intro p hp r hr
      rcases List.mem_cons.1 hr with rfl | hr
      ·exact hc p hp
      ·exact ple_trans (hc p hp) (ple_of_plt (hd r hr))
     ·have k1:SameK (L.drop s++[x]) ([x]++L.drop s):=SameK.swap fun p hp r hr he=>by
       simp only [List.mem_singleton] at hr
       subst hr
       exact plt_ne (hd p hp) he.symm
      have k2:=(SameK.refl (L.take s)).app k1
      have e1:L.take s++(L.drop s++[x])=L++[x]:=by rw [← List.append_assoc,List.take_append_drop]
      rw [e1] at k2
      simpa using k2
def SmPost (w:World) (A:Option Addr) (n c:Nat) (P Y Q:List PRow) (e:Ending) (w':World):Prop :=
 e=.returned (.tuple #[])∧(∃ Z,POwn w' A n c (P++(Z++Q))∧SrtP Z∧SameK Y Z)∧Touch (fun g=>adBlock A=some g) w w'
def SmC (A:Option Addr) (n c fuel:Nat):Prop:=∀ (w:World) (P L R Q:List PRow) (a m b:Nat),POwn w A n c (P++(L++(R++Q)))→a=P.length→m=a+L.length→b=m+R.length→0<L.length→0<R.length→SrtP L→SrtP R→L.length+R.length≤fuel →
 Calls Tryz.prog 192 #[.slice A n c,.int .i64 a,.int .i64 m,.int .i64 b,cmpF] w (SmPost w A n c P (L++R) Q)
theorem sm_main (A:Option Addr) (n c fuel:Nat) (hn62:n≤5864062014700) (ih:SmC A n c fuel) (w:World) (P L R Q:List PRow) (a m b:Nat) (h:POwn w A n c (P++(L++(R++Q)))) (ha:a=P.length) (hm:m=a+L.length) (hb:b=m+R.length)
  (hL1:1<L.length) (hR1:1<R.length) (hL:SrtP L) (hR:SrtP R) (hf:L.length+R.length≤fuel+1) :
  Calls Tryz.prog 192 #[.slice A n c,.int .i64 a,.int .i64 m,.int .i64 b,cmpF] w (SmPost w A n c P (L++R) Q):=by
 have hl:=pown_len h
 simp only [List.length_append] at hl
 obtain ⟨X,hX⟩:∃ X,X=P++(L++(R++Q)):=⟨_,rfl⟩
 rw [← hX] at h
 have hn:=own_le h
 unfold maxLen at hn
 have HX:=hide h
 have HE:=hide hX
 have HA:=hide ha
 have HB:=hide hb
 have HL:=hide hL
 have HR:=hide hR
 have HM:=hide hm
 have HF:=hide hf
 have HIH:=hide ih
 have hbn:b≤n:=by omega
 have ham:a+1<m:=by omega
 have hmb:m+1<b:=by omega
 have x0:((m:Int)-(a:Int) == 1)=false:=by simp;omega
 have x1:((b:Int)-(m:Int) == 1)=false:=by simp;omega
 obtain ⟨mid,hmid⟩:∃ x,x=(a+b) / 2:=⟨_,rfl⟩
 obtain ⟨N,hN⟩:∃ x,x=mid+m:=⟨_,rfl⟩
 obtain ⟨p,hp⟩:∃ x,N=x+1:=⟨N-1,by omega⟩
 have x2:((a:Int)+(b:Int)) / 2=(mid:Int):=by omega
 have x3:(mid:Int)+(m:Int)=(N:Int):=by omega
 have x4:(N:Int)-1=(p:Int):=by omega
 have x5:mid≤n:=by omega
 have x6:N≤n+n:=by omega
 have x7:p≤n+n:=by omega
 obtain ⟨lo,hi,hlohi⟩:∃ lo hi:Nat,(mid<m∧lo+b=N∧hi=mid)∨(¬ mid<m∧lo=a∧hi=m):=by
  by_cases hmm:mid<m
  ·exact ⟨N-b,mid,.inl ⟨hmm,by omega,rfl⟩⟩
  ·exact ⟨a,m,.inr ⟨hmm,rfl,rfl⟩⟩
 have y1:a≤lo∧lo≤hi∧hi≤m∧hi≤n:=by omega
 have y2:∀ k,lo≤k→k<hi→a≤k∧k<m∧m≤p-k∧p-k<b∧k≤p:=by intro k h1 h2;omega
 have HLH:=hide hlohi
 have HY1:=hide y1
 have HY2:=hide y2
 have HMID:=hide (And.intro hmid (And.intro hN hp))
 clear h hX ha hb hl hL hR hm hf ih hmid hN hp hL1 hR1 hlohi y1 y2
 go_enter Tryz.func192,Tryz.ntmps192
 go_upto_if 140 with fail
 go_cut [20,21] from 138 to 146 (fun s r wx=>s=.int .i64 (lo:Int)∧r=.int .i64 (hi:Int)∧wx=w)
 case first =>
  rcases HLH.out with ⟨h1,h2,h3⟩ | ⟨h1,h2,h3⟩
  ·have z1:(N:Int)-(b:Int)=(lo:Int):=by omega
   have z2:(mid:Int)<(m:Int):=by omega
   have z3:lo≤n:=by omega
   have H3:=hide h3
   clear h2 h3
   go_wp2
   go_meet
   exact ⟨rfl,by rw [H3.out],rfl⟩
  ·have H23:=hide (And.intro h2 h3)
   have z2:¬ (mid:Int)<(m:Int):=by omega
   clear h2 h3
   go_wp2
   go_meet
   exact ⟨by rw [H23.out.1],by rw [H23.out.2],rfl⟩
 case rest =>
  obtain ⟨rfl,rfl,hcw⟩:=hcut
  obtain rfl:=hcw.symm
  clear hcw
  go_wp2
  go_loopw [20,21] (fun sv rv wr=>∃ s r:Nat,sv=.int .i64 s∧rv=.int .i64 r∧lo≤s∧s≤r∧r≤hi∧Hid (POwn wr A n c X)∧Hid ((s=lo∨plt (X.getD (p-(s-1)) PRow.zero) (X.getD (s-1) PRow.zero)=false)∧(r=hi∨plt (X.getD (p-r) PRow.zero) (X.getD r PRow.zero)=true))∧Hid (Touch (fun _=>False) w wr)) (fun sv rv _=>(intOf rv).toNat-(intOf sv).toNat)
  case atStart=>exact ⟨lo,hi,rfl,rfl,Nat.le_refl _,HY1.out.2.1,Nat.le_refl _,HX,hide ⟨.inl rfl,.inl rfl⟩,hide (Touch.refl _ _)⟩
  case round =>
   obtain ⟨s,r,rfl,rfl,hls,hsr,hrh,HO,HI,HT⟩:=hrel
   by_cases h0:s<r
   ·have y0:(s:Int)<(r:Int):=by omega
    obtain ⟨k,hk⟩:∃ k,k=(s+r) / 2:=⟨_,rfl⟩
    have hy2:=HY2.out k (by omega) (by omega)
    have hy1:=HY1.out
    obtain ⟨u,hu⟩:∃ u,p=u+k:=⟨p-k,by omega⟩
    have hpk:p-k=u:=by omega
    have z1:((s:Int)+(r:Int)) / 2=(k:Int):=by omega
    have z2:k<n:=by omega
    have z3:(k:Int)<(n:Int):=by omega
    have z4:u<n:=by omega
    have z5:(u:Int)<(n:Int):=by omega
    have z6:(p:Int)-(k:Int)=(u:Int):=by omega
    have z7:IntKind.i64.wrap (k:Int)=(k:Int):=IntWalk.i64_in _ (by omega)
    have z8:IntKind.i64.wrap (u:Int)=(u:Int):=IntWalk.i64_in _ (by omega)
    have z9:s≤k:=by omega
    have z10:k<r:=by omega
    have z11:s≤n:=by omega
    have z12:r≤n:=by omega
    have hl:=pown_len HO.out
    obtain ⟨g,hA0,hg,a0,a1,f0,f1⟩:=pown_at HO.out hl k z2
    subst hA0
    obtain ⟨g',hA,_,b0,b1,f3,f4⟩:=pown_at HO.out hl u z4
    injection hA with hA
    injection hA with hA _
    subst hA
    obtain ⟨⟨zw,zn⟩,hz⟩:∃ r,r=X.getD k PRow.zero:=⟨_,rfl⟩
    rw [← hz] at a0 a1
    obtain ⟨⟨xw,xn⟩,hx⟩:∃ r,r=X.getD u PRow.zero:=⟨_,rfl⟩
    rw [← hx] at b0 b1
    have EZ:=hide hz
    have EX:=hide hx
    have HPK:=hide hpk
    simp only at a0 a1 b0 b1
    clear hl hz hx hk hpk hu hy2 hy1
    cases hb:plt ⟨xw,xn⟩ ⟨zw,zn⟩ with
    | true =>
     have HPB:=hide hb
     clear hb
     go_wp2_with fail
     go_still_tail 11,(by kernel_rfl)
     change wpList _ _ _ _ _ wr.drew
     have HD:Hid (Touch (fun _=>False) wr wr.drew):=hide (Touch.refl _ _).drew
     generalize wr.drew=wd at HD ⊢
     go_wp2_with (go_at_call 177;refine (cmp_any ⟨xw,xn⟩ ⟨zw,zn⟩ wd).mono ?_;rw [HPB.out];rintro e w2 ⟨⟨z,rfl,hz⟩,T2⟩;have HT2:=hide (HT.out.then (HD.out.then T2));have HO2:=hide (own_touch HO.out (HD.out.then T2) (fun _ _ f=>f));clear T2)
     go_roundw
     ·refine ⟨s,k,rfl,rfl,hls,z9,by omega,HO2,hide ⟨HI.out.1,.inr ?_⟩,HT2⟩
      rw [HPK.out,← EZ.out,← EX.out]
      exact HPB.out
     ·show (k:Int).toNat-(s:Int).toNat<(r:Int).toNat-(s:Int).toNat
      omega
    | false =>
     have HPB:=hide hb
     clear hb
     go_wp2_with fail
     go_still_tail 11,(by kernel_rfl)
     change wpList _ _ _ _ _ wr.drew
     have HD:Hid (Touch (fun _=>False) wr wr.drew):=hide (Touch.refl _ _).drew
     generalize wr.drew=wd at HD ⊢
     go_wp2_with (go_at_call 177;refine (cmp_any ⟨xw,xn⟩ ⟨zw,zn⟩ wd).mono ?_;rw [HPB.out];rintro e w2 ⟨⟨z,rfl,hz⟩,T2⟩;have HT2:=hide (HT.out.then (HD.out.then T2));have HO2:=hide (own_touch HO.out (HD.out.then T2) (fun _ _ f=>f));clear T2)
     go_roundw
     ·refine ⟨k+1,r,by simp,rfl,by omega,by omega,hrh,HO2,hide ⟨.inr ?_,HI.out.2⟩,HT2⟩
      rw [Nat.add_sub_cancel,HPK.out,← EZ.out,← EX.out]
      exact HPB.out
     ·show (r:Int).toNat-((k:Int)+1).toNat<(r:Int).toNat-(s:Int).toNat
      omega
   ·have hsr':r=s:=by omega
    subst hsr'
    obtain ⟨e,he⟩:∃ e,N=e+r:=⟨N-r,by have:=HMID.out;have:=HY1.out;have:=HLH.out;omega⟩
    obtain ⟨i1,i2⟩:=HI.out
    have hmid:=HMID.out
    have hy1:=HY1.out
    have hlh:=HLH.out
    have hA:=HA.out
    have hM:=HM.out
    have hB:=HB.out
    have eb:a≤r∧r≤m∧m≤e∧e≤b∧r≤mid∧mid≤e:=by omega
    obtain ⟨L1,L2,eL,l1,l2⟩:=split_at (l:=L) (k:=r-a) (by omega)
    obtain ⟨R1,R2,eR,r1,r2⟩:=split_at (l:=R) (k:=e-m) (by omega)
    have hc:=cut_parts HL.out HR.out (r-a) (e-m) (by omega) (by omega) (by
     rcases i1 with q | q
     ·rcases hlh with ⟨h1,h2,h3⟩ | ⟨h1,h2,h3⟩
      ·exact .inr (.inl (by omega))
      ·exact .inl (by omega)
     ·by_cases q0:r=a
      ·exact .inl (by omega)
      ·by_cases q1:e=b
       ·exact .inr (.inl (by omega))
       ·refine .inr (.inr ?_)
        rw [HE.out,show P++(L++(R++Q))=(P++L)++(R++Q) by simp,getD_seg (P++L) R Q (p-(r-1)) (e-m) (by rw [List.length_append];omega) (by omega),show (P++L)++(R++Q)=P++(L++(R++Q)) by simp,getD_seg P L (R++Q) (r-1) (r-a-1) (by omega) (by omega)] at q
        exact q) (by
     rcases i2 with q | q
     ·rcases hlh with ⟨h1,h2,h3⟩ | ⟨h1,h2,h3⟩
      ·exact .inr (.inl (by omega))
      ·exact .inl (by omega)
     ·by_cases q0:r=m
      ·exact .inl (by omega)
      ·by_cases q1:e=m
       ·exact .inr (.inl (by omega))
       ·refine .inr (.inr ?_)
        rw [HE.out,show P++(L++(R++Q))=(P++L)++(R++Q) by simp,getD_seg (P++L) R Q (p-r) (e-m-1) (by rw [List.length_append];omega) (by omega),show (P++L)++(R++Q)=P++(L++(R++Q)) by simp,getD_seg P L (R++Q) r (r-a) (by omega) (by omega)] at q
        exact q)
    have t1:L.take (r-a)=L1:=by rw [eL,← l1,List.take_left]
    have t2:L.drop (r-a)=L2:=by rw [eL,← l1,List.drop_left]
    have t3:R.take (e-m)=R1:=by rw [eR,← r1,List.take_left]
    have t4:R.drop (e-m)=R2:=by rw [eR,← r1,List.drop_left]
    rw [t1,t2,t3,t4] at hc
    have HC:=hide hc
    have HLL:=hide eL
    have HRR:=hide eR
    have HLEN:=hide (And.intro l1 (And.intro l2 (And.intro r1 r2)))
    have HEB:=hide eb
    have u1:(N:Int)-(r:Int)=(e:Int):=by omega
    have u2:e≤n:=by omega
    have u3:r≤n:=by omega
    have u4:IntKind.i64.wrap (e:Int)=(e:Int):=IntWalk.i64_in _ (by omega)
    have HEN:=hide he
    have HM2:=hide hmid
    clear i1 i2 hmid hy1 hlh hA hM hB eL eR l1 l2 r1 r2 hc t1 t2 t3 t4 h0 eb he
    obtain ⟨b1,hb1⟩:∃ b1,b1=decide (r<m∧m<e):=⟨_,rfl⟩
    obtain ⟨b2,hb2⟩:∃ b2,b2=decide (a<r∧r<mid):=⟨_,rfl⟩
    obtain ⟨b3,hb3⟩:∃ b3,b3=decide (mid<e∧e<b):=⟨_,rfl⟩
    have HB1:=hide hb1
    have HB2:=hide hb2
    have HB3:=hide hb3
    clear hb1 hb2 hb3
    go_upto_region 39 with fail
    go_cut [24,185] from 174 to 185 (fun sv tv wx=>sv=.int .i64 (e:Int)∧tv=.bool b1∧wx=wr)
    case first =>
     by_cases q1:r<m
     ·have q3:(r:Int)<(m:Int):=by omega
      by_cases q2:m<e
      ·have q4:(m:Int)<(e:Int):=by omega
       go_wp2
       go_meet
       exact ⟨rfl,by rw [HB1.out];simp [q1,q2],rfl⟩
      ·have q4:¬ (m:Int)<(e:Int):=by omega
       go_wp2
       go_meet
       exact ⟨rfl,by rw [HB1.out];simp [q2],rfl⟩
     ·have q3:¬ (r:Int)<(m:Int):=by omega
      go_wp2
      go_meet
      exact ⟨rfl,by rw [HB1.out];simp [q1],rfl⟩
    case rest =>
     obtain ⟨rfl,rfl,hcw⟩:=hcut
     obtain rfl:=hcw.symm
     clear hcw
     go_upto_if 185 with fail
     go_cut [24] from 186 to 191 (fun sv wx=>sv=.int .i64 (e:Int)∧Hid (POwn wx A n c (P++(L1++(R1++(L2++(R2++Q))))))∧Hid (Touch (fun g=>adBlock A=some g) w wx))
     case first =>
      have hO:=HO.out
      rw [HE.out,HLL.out,HRR.out] at hO
      cases b1 with
      | true =>
       have hb:=of_decide_eq_true HB1.out.symm
       have hO2:POwn wr A n c ((P++L1)++(L2++(R1++(R2++Q)))):=by simpa using hO
       obtain ⟨l1,l2,r1,r2⟩:=HLEN.out
       have hm:=HM.out
       have ha:=HA.out
       have hbb:=HB.out
       have heb:=HEB.out
       have HRO:=hide (rot_any wr A n c (P++L1) L2 R1 (R2++Q) hO2 r m e (by rw [List.length_append];omega) (by omega) (by omega) (by omega) (by omega) cmpF)
       clear hO hO2 l1 l2 r1 r2 hm ha hbb heb hb
       go_wp2_with (go_at_call 194;refine HRO.out.mono ?_;rintro e w2 ⟨rfl,O2,T2⟩;have HO2:=hide O2;have HT2:=hide ((HT.out.up _).then T2);clear O2 T2)
       go_meet
       exact ⟨rfl,hide (by simpa using HO2.out),HT2⟩
      | false =>
       have hb:=of_decide_eq_false HB1.out.symm
       have hO2:POwn wr A n c (P++(L1++(R1++(L2++(R2++Q))))):=by
        obtain ⟨l1,l2,r1,r2⟩:=HLEN.out
        have hm:=HM.out
        have heb:=HEB.out
        by_cases q1:r<m
        ·have e1:R1=[]:=List.eq_nil_of_length_eq_zero (by omega)
         rw [e1] at hO ⊢
         simpa using hO
        ·have e1:L2=[]:=List.eq_nil_of_length_eq_zero (by omega)
         rw [e1] at hO ⊢
         simpa using hO
       have HO2:=hide hO2
       clear hO hO2 hb
       go_wp2
       go_meet
       exact ⟨rfl,HO2,hide (HT.out.up _)⟩
     case rest =>
      obtain ⟨rfl,HO1,HT1⟩:=hcut
      go_upto_region 41 with fail
      go_cut [24,199] from 192 to 199 (fun sv tv wx=>sv=.int .i64 (e:Int)∧tv=.bool b2∧wx=wc)
      case first =>
       by_cases q1:a<r
       ·have q3:(a:Int)<(r:Int):=by omega
        by_cases q2:r<mid
        ·have q4:(r:Int)<(mid:Int):=by omega
         go_wp2
         go_meet
         exact ⟨rfl,by rw [HB2.out];simp [q1,q2],rfl⟩
        ·have q4:¬ (r:Int)<(mid:Int):=by omega
         go_wp2
         go_meet
         exact ⟨rfl,by rw [HB2.out];simp [q2],rfl⟩
       ·have q3:¬ (a:Int)<(r:Int):=by omega
        go_wp2
        go_meet
        exact ⟨rfl,by rw [HB2.out];simp [q1],rfl⟩
      case rest =>
       obtain ⟨rfl,rfl,hcw⟩:=hcut
       obtain rfl:=hcw.symm
       clear hcw
       obtain ⟨w1,hw1⟩:∃ w1,w1=wc:=⟨_,rfl⟩
       subst hw1
       go_upto_if 199 with fail
       go_cut [24] from 200 to 205 (fun sv wx=>sv=.int .i64 (e:Int)∧Hid (∃ Z1,POwn wx A n c (P++(Z1++(L2++(R2++Q))))∧SrtP Z1∧SameK (L1++R1) Z1)∧Hid (Touch (fun g=>adBlock A=some g) w wx))
       case first =>
        have hsL:SrtP L1:=by have:=HL.out;rw [HLL.out] at this;exact (List.pairwise_append.1 this).1
        have hsR:SrtP R1:=by have:=HR.out;rw [HRR.out] at this;exact (List.pairwise_append.1 this).1
        obtain ⟨l1,l2,r1,r2⟩:=HLEN.out
        have hm:=HM.out
        have ha:=HA.out
        have hbb:=HB.out
        have heb:=HEB.out
        have hff:=HF.out
        have hmi:=HM2.out
        have hen:=HEN.out
        cases b2 with
        | true =>
         have hb:=of_decide_eq_true HB2.out.symm
         have HRO:=hide (HIH.out w1 P L1 R1 (L2++(R2++Q)) a r mid HO1.out ha (by omega) (by omega) (by omega) (by omega) hsL hsR (by omega))
         clear l1 l2 r1 r2 hm ha hbb heb hb hff hmi hen hsL hsR
         go_wp2_with (go_at_call 192;refine HRO.out.mono ?_;rintro e w2 ⟨rfl,⟨Z1,O2,s1,k1⟩,T2⟩;have HO2:=hide O2;have HK2:=hide (And.intro s1 k1);have HT2:=hide (HT1.out.then T2);clear O2 T2 s1 k1)
         go_meet
         exact ⟨rfl,hide ⟨Z1,HO2.out,HK2.out.1,HK2.out.2⟩,HT2⟩
        | false =>
         have hb:=of_decide_eq_false HB2.out.symm
         have hs:SrtP (L1++R1):=by
          by_cases q1:a<r
          ·have e1:R1=[]:=List.eq_nil_of_length_eq_zero (by omega)
           rw [e1];simpa using hsL
          ·have e1:L1=[]:=List.eq_nil_of_length_eq_zero (by omega)
           rw [e1];simpa using hsR
         have HZ:=hide (Exists.intro (p:=fun Z1=>POwn w1 A n c (P++(Z1++(L2++(R2++Q))))∧SrtP Z1∧SameK (L1++R1) Z1) (L1++R1) (And.intro (by simpa using HO1.out) (And.intro hs (SameK.refl _))))
         clear l1 l2 r1 r2 hm ha hbb heb hb hff hmi hen hsL hsR hs
         go_wp2
         go_meet
         exact ⟨rfl,HZ,HT1⟩
       case rest =>
        obtain ⟨rfl,HZ1,HT2⟩:=hcut
        obtain ⟨Z1,O2,s1,k1⟩:=HZ1.out
        have hl1:=pown_len O2
        have hl2:=pown_len HO1.out
        simp only [List.length_append] at hl1 hl2
        have hsL:SrtP L2:=by have:=HL.out;rw [HLL.out] at this;exact (List.pairwise_append.1 this).2.1
        have hsR:SrtP R2:=by have:=HR.out;rw [HRR.out] at this;exact (List.pairwise_append.1 this).2.1
        have hLs:=HL.out
        have hRs:=HR.out
        rw [HLL.out] at hLs
        rw [HRR.out] at hRs
        obtain ⟨l1,l2,r1,r2⟩:=HLEN.out
        have hm:=HM.out
        have ha:=HA.out
        have hbb:=HB.out
        have heb:=HEB.out
        have hff:=HF.out
        have hmi:=HM2.out
        have hen:=HEN.out
        have hO2':POwn wc A n c ((P++Z1)++(L2++(R2++Q))):=by simpa using O2
        have FIN:=hide (fun (Z2:List PRow) (s2:SrtP Z2) (k2:SameK (L2++R2) Z2)=>merge_parts (L1:=L1) (L2:=L2) (R1:=R1) (R2:=R2) (Z1:=Z1) (Z2:=Z2) hLs hRs HC.out.1 HC.out.2 s1 k1 s2 k2)
        have HO3:=hide O2
        by_cases q1:mid<e∧e<b
        ·obtain ⟨q1,q2⟩:=q1
         have q3:(mid:Int)<(e:Int):=by omega
         have q4:(e:Int)<(b:Int):=by omega
         have HRO:=hide (HIH.out wc (P++Z1) L2 R2 Q mid e b hO2' (by rw [List.length_append];omega) (by omega) (by omega) (by omega) (by omega) hsL hsR (by omega))
         clear l1 l2 r1 r2 hm ha hbb heb hff hmi hen hsL hsR hO2' hl1 hl2 hLs hRs O2 s1 k1
         go_wp2_with (go_at_call 192;refine HRO.out.mono ?_;rintro e w2 ⟨rfl,⟨Z2,O2,s2,k2⟩,T2⟩;have HO4:=hide O2;have HK2:=hide (And.intro s2 k2);have HT3:=hide (HT2.out.then T2);clear O2 T2 s2 k2)
         go_end0
         obtain ⟨f1,f2⟩:=FIN.out Z2 HK2.out.1 HK2.out.2
         rw [← HLL.out,← HRR.out] at f2
         exact ⟨rfl,⟨Z1++Z2,by simpa using HO4.out,f1,f2⟩,HT3.out⟩
        ·have hs:SrtP (L2++R2):=by
          by_cases q2:mid<e
          ·have e1:R2=[]:=List.eq_nil_of_length_eq_zero (by omega)
           rw [e1];simpa using hsL
          ·have e1:L2=[]:=List.eq_nil_of_length_eq_zero (by omega)
           rw [e1];simpa using hsR
         obtain ⟨f1,f2⟩:=FIN.out (L2++R2) hs (SameK.refl _)
         rw [← HLL.out,← HRR.out] at f2
         have HFF:=hide (And.intro f1 f2)
         have hq:(¬ (mid:Int)<(e:Int))∨((mid:Int)<(e:Int)∧¬ (e:Int)<(b:Int)):=by omega
         clear l1 l2 r1 r2 hm ha hbb heb hff hmi hen hsL hsR hO2' hl1 hl2 hLs hRs O2 s1 k1 hs f1 f2 q1
         rcases hq with q1 | ⟨q1,q2⟩
         all_goals
          go_wp2
          go_end0
          exact ⟨rfl,⟨Z1++(L2++R2),by simpa using HO3.out,HFF.out.1,HFF.out.2⟩,HT2.out⟩
theorem sm_any (A:Option Addr) (n c:Nat) (hn62:n≤5864062014700):∀ fuel,SmC A n c fuel:=by
 intro fuel
 induction fuel with
 | zero=>intro w P L R Q a m b _ _ _ _ h1 _ _ _ hf;omega
 | succ fuel ih =>
  intro w P L R Q a m b h ha hm hb hL0 hR0 hL hR hf
  by_cases h1:L.length=1
  ·obtain ⟨x,rfl⟩:=List.length_eq_one_iff.1 h1
   exact (sm_one w A n c P R Q x (by simpa using h) a m b ha (by simpa using hm) hb hR hn62).mono fun e w' hh=>by simpa [SmPost] using hh
  ·by_cases h2:R.length=1
   ·obtain ⟨x,rfl⟩:=List.length_eq_one_iff.1 h2
    exact (sm_last w A n c P L Q x (by simpa using h) a m b ha hm (by simpa using hb) h1 hL hn62).mono fun e w' hh=>by simpa [SmPost] using hh
   ·exact sm_main A n c fuel hn62 ih w P L R Q a m b h ha hm hb (by omega) (by omega) hL hR hf
def Bl (bs:Nat) (Bs:List (List PRow)):Prop:=∀ B∈Bs,B.length=bs∧SrtP B
theorem bl_len {bs:Nat} {Bs:List (List PRow)} (h:Bl bs Bs):Bs.flatten.length=Bs.length*bs:=by
 induction Bs with
 | nil=>simp
 | cons B Bs ih =>
  have h1:=(h B (by simp)).1
  have h2:=ih (fun C hC=>h C (by simp [hC]))
  simp only [List.flatten_cons,List.length_append,List.length_cons,h1,h2,Nat.succ_mul]
  omega
theorem bl_snoc {bs:Nat} {Bs:List (List PRow)} {Z:List PRow} (h:Bl bs Bs) (hZ:Z.length=bs) (hs:SrtP Z):Bl bs (Bs++[Z]):=by
 intro B hB
 rcases List.mem_append.1 hB with hB | hB
 ·exact h B hB
 ·simp at hB;subst hB;exact ⟨hZ,hs⟩
theorem flatten_snoc (Bs:List (List PRow)) (Z:List PRow):(Bs++[Z]).flatten=Bs.flatten++Z:=by simp
theorem bl_cases {bs:Nat} {Bs:List (List PRow)} (h:Bl bs Bs):(Bs=[]∧Bs.flatten.length=0)∨(∃ B,Bs=[B]∧Bs.flatten.length=bs∧B.length=bs∧SrtP B)∨∃ B1 B2 Bs',Bs=B1 :: B2 :: Bs'∧2*bs≤Bs.flatten.length:=by
 have hl:=bl_len h
 rcases Bs with _ | ⟨B1,_ | ⟨B2,Bs'⟩⟩
 ·exact .inl ⟨rfl,rfl⟩
 ·refine .inr (.inl ⟨B1,rfl,?_,h B1 (by simp)⟩)
  rw [hl];exact Nat.one_mul bs
 ·refine .inr (.inr ⟨B1,B2,Bs',rfl,?_⟩)
  rw [hl]
  exact Nat.mul_le_mul_right bs (by simp)
def SoPost (w:World) (A:Option Addr) (n c:Nat) (X:List PRow) (e:Ending) (w':World):Prop :=
 e=.returned (.tuple #[])∧(∃ Z,POwn w' A n c Z∧SrtP Z∧SameK X Z)∧Touch (fun g=>adBlock A=some g) w w'
theorem stable_any (w:World) (A:Option Addr) (n c:Nat) (X:List PRow) (h:POwn w A n c X) (hn62:n≤5864062014700) :
  Calls Tryz.prog 187 #[.slice A n c,.int .i64 n,cmpF] w (SoPost w A n c X):=by
 have HX:=hide h
 clear h
 go_enter Tryz.func187,Tryz.ntmps187
 go_wp2
 go_loopw [7,8] (fun av bv wr=>∃ a b:Nat,av=.int .i64 a∧bv=.int .i64 b∧b=a+20∧a≤n∧Hid (∃ Bs T,Bl 20 Bs∧Bs.flatten.length=a∧POwn wr A n c (Bs.flatten++T)∧SameK X (Bs.flatten++T))∧Hid (Touch (fun g=>adBlock A=some g) w wr)) (fun _ bv _=>n+21-(intOf bv).toNat)
 case atStart=>exact ⟨0,20,rfl,rfl,rfl,Nat.zero_le _,hide ⟨[],X,(fun B hB=>by cases hB),rfl,HX.out,SameK.refl _⟩,hide (Touch.refl _ _)⟩
 case round =>
  obtain ⟨a,b,rfl,rfl,hab,han,HE,HT⟩:=hrel
  by_cases h0:b≤n
  ·have y0:(b:Int)≤(n:Int):=by omega
   obtain ⟨Bs,T,hB,hl,O1,K1⟩:=HE.out
   have hlen:=pown_len O1
   rw [List.length_append] at hlen
   obtain ⟨B,T',rfl,t1,t2⟩:=split_at (l:=T) (k:=20) (by omega)
   obtain ⟨Z,z1,z2,z3⟩:=ins_whole Bs.flatten B T' a b hl.symm (by omega)
   have HZ:=hide (And.intro z1 (And.intro z2 z3))
   have HBB:=hide hB
   have HL:=hide (And.intro hl (And.intro t1 hab))
   have HK:=hide K1
   have hab':a≤b:=by omega
   have HIS:=hide (isort_any wr A n c _ O1 a b hab' h0 (by omega))
   clear hB hl O1 K1 hlen t1 t2 z1 z2 z3 HE
   obtain ⟨b2,hb2⟩:∃ b2,b2=b+20:=⟨_,rfl⟩
   have y1:(b:Int)+20=(b2:Int):=by omega
   have y2:IntKind.i64.wrap (b2:Int)=(b2:Int):=IntWalk.i64_in _ (by omega)
   have HB2:=hide hb2
   clear hb2 hab
   go_wp2_with (go_at_call 191;refine HIS.out.mono ?_;rintro e w2 ⟨rfl,O2,T2⟩;have HO2:=hide O2;have HT2:=hide (HT.out.then T2);clear O2 T2)
   go_roundw
   ·obtain ⟨hl,t1,hab⟩:=HL.out
    obtain ⟨z1,z2,z3⟩:=HZ.out
    have O3:=HO2.out
    rw [z1] at O3
    have lz:Z.length=20:=by
     have h1:=pown_len O3
     have h2:=congrArg List.length z1
     rw [insF_len] at h2
     simp only [List.length_append] at h1 h2
     omega
    refine ⟨b,b2,rfl,rfl,HB2.out,h0,hide ⟨Bs++[Z],T',bl_snoc HBB.out lz z2,by rw [flatten_snoc,List.length_append];omega,by rw [flatten_snoc];simpa using O3,?_⟩,HT2⟩
    rw [flatten_snoc]
    refine HK.out.trans ?_
    have:=(SameK.refl Bs.flatten).app (z3.app (SameK.refl T'))
    simpa using this
   ·simp [intOf]
    have:=HB2.out
    omega
  ·obtain ⟨Bs,T,hB,hl,O1,K1⟩:=HE.out
   have hlen:=pown_len O1
   rw [List.length_append] at hlen
   obtain ⟨Z,z1,z2,z3⟩:=ins_whole Bs.flatten T [] a n hl.symm (by omega)
   rw [List.append_nil,List.append_nil] at z1
   have HIS:=hide (isort_any wr A n c _ O1 a n han (Nat.le_refl _) (by omega))
   have HZ:=hide (And.intro z1 (And.intro z2 z3))
   have HBB:=hide hB
   have HK:=hide K1
   have HL:=hide (And.intro hl (And.intro hlen hab))
   have y0:¬ (b:Int)≤(n:Int):=by omega
   clear hB hl O1 K1 hlen z1 z2 z3 HE hab h0
   go_wp2_with (go_at_call 191;refine HIS.out.mono ?_;rintro e w2 ⟨rfl,O2,T2⟩;have HO2:=hide O2;have HT2:=hide (HT.out.then T2);clear O2 T2)
   have HS:Hid (∃ Bs T,Bl 20 Bs∧SrtP T∧T.length<20∧POwn w2 A n c (Bs.flatten++T)∧SameK X (Bs.flatten++T)):=hide (by
    obtain ⟨hl,hlen,hab⟩:=HL.out
    obtain ⟨z1,z2,z3⟩:=HZ.out
    have O3:=HO2.out
    rw [z1] at O3
    have h1:=pown_len O3
    have h2:=congrArg List.length z1
    rw [insF_len] at h2
    simp only [List.length_append] at h1 h2
    exact ⟨Bs,Z,HBB.out,z2,by omega,O3,HK.out.trans ((SameK.refl _).app z3)⟩)
   clear HIS HZ HBB HK HL HO2 HT
   obtain ⟨w0,hw0⟩:∃ w0,w0=w2:=⟨_,rfl⟩
   rw [← hw0] at HS HT2 ⊢
   clear hw0
   go_loopw [6] (fun sv wr=>∃ bs:Nat,sv=.int .i64 bs∧0<bs∧bs≤n+n+20∧Hid (∃ Bs T,Bl bs Bs∧SrtP T∧T.length<bs∧POwn wr A n c (Bs.flatten++T)∧SameK X (Bs.flatten++T))∧Hid (Touch (fun g=>adBlock A=some g) w wr)) (fun sv _=>n-(intOf sv).toNat)
   case atStart=>exact ⟨20,rfl,by omega,by omega,HS,HT2⟩
   case round =>
    obtain ⟨bs,rfl,hbs,hbs2,HE,HT3⟩:=hrel
    by_cases h1:bs<n
    ·have x0:(bs:Int)<(n:Int):=by omega
     obtain ⟨d,hd⟩:∃ d,d=2*bs:=⟨_,rfl⟩
     have x1:(2:Int)*(bs:Int)=(d:Int):=by omega
     have x2:(bs:Int)*2=(d:Int):=by omega
     have x3:IntKind.i64.wrap (d:Int)=(d:Int):=IntWalk.i64_in _ (by omega)
     have HD:=hide hd
     have hd2:d≤n+n:=by omega
     clear hd
     go_wp2
     obtain ⟨wo,rfl⟩:∃ wo:World,wo=wr:=⟨_,rfl⟩
     go_loopw [7,8] (fun av bv wr=>∃ a b:Nat,av=.int .i64 a∧bv=.int .i64 b∧b=a+d∧a≤n∧Hid (∃ Ds Bs T,Bl d Ds∧Ds.flatten.length=a∧Bl bs Bs∧SrtP T∧T.length<bs∧POwn wr A n c (Ds.flatten++(Bs.flatten++T))∧SameK X (Ds.flatten++(Bs.flatten++T)))∧Hid (Touch (fun g=>adBlock A=some g) w wr)) (fun av _ _=>n+1-(intOf av).toNat)
     case atStart =>
      obtain ⟨Bs,T,q1,q2,q3,q4,q5⟩:=HE.out
      exact ⟨0,d,rfl,rfl,by omega,Nat.zero_le _,hide ⟨[],Bs,T,(fun B hB=>by cases hB),rfl,q1,q2,q3,q4,q5⟩,HT3⟩
     case round =>
      obtain ⟨a,b,rfl,rfl,hab,han,HE2,HT4⟩:=hrel
      obtain ⟨Ds,Bs,T,q1,q2,q3,q4,q5,q6,q7⟩:=HE2.out
      have hlen:=pown_len q6
      have hbl:=bl_len q3
      simp only [List.length_append] at hlen
      have hdd:=HD.out
      obtain ⟨m,hm⟩:∃ m,m=a+bs:=⟨_,rfl⟩
      have w0:(a:Int)+(bs:Int)=(m:Int):=by omega
      have w1:IntKind.i64.wrap (m:Int)=(m:Int):=IntWalk.i64_in _ (by omega)
      by_cases h2:b≤n
      ·have y0:(b:Int)≤(n:Int):=by omega
       have hB2:∃ B1 B2 Bs',Bs=B1 :: B2 :: Bs':=by
        rcases bl_cases q3 with ⟨_,e⟩ | ⟨B,_,e,_⟩ | ⟨B1,B2,Bs',e,_⟩
        ·omega
        ·omega
        ·exact ⟨B1,B2,Bs',e⟩
       obtain ⟨B1,B2,Bs',rfl⟩:=hB2
       obtain ⟨c1,s1⟩:=q3 B1 (by simp)
       obtain ⟨c2,s2⟩:=q3 B2 (by simp)
       have q3':Bl bs Bs':=fun B hB=>q3 B (by simp [hB])
       have e1:Ds.flatten++((B1 :: B2 :: Bs').flatten++T)=Ds.flatten++(B1++(B2++(Bs'.flatten++T))):=by simp
       rw [e1] at q6 q7
       have HSM:=hide (sm_any A n c hn62 _ wr Ds.flatten B1 B2 (Bs'.flatten++T) a m b q6 q2.symm (by omega) (by omega) (by omega) (by omega) s1 s2 (Nat.le_refl _))
       have HK:=hide q7
       have HP:=hide (And.intro q1 (And.intro q2 (And.intro q3' (And.intro q4 q5))))
       have HC:=hide (And.intro c1 (And.intro c2 (And.intro hlen hab)))
       obtain ⟨b2,hb2⟩:∃ b2,b2=b+d:=⟨_,rfl⟩
       have y1:(b:Int)+(d:Int)=(b2:Int):=by omega
       have y2:IntKind.i64.wrap (b2:Int)=(b2:Int):=IntWalk.i64_in _ (by omega)
       have HB2:=hide hb2
       have hab3:a<b:=by omega
       clear q1 q2 q3 q4 q5 q6 q7 hlen hbl hdd hm e1 c1 c2 s1 s2 q3' HE2 hb2 hab
       go_wp2_with (go_at_call 192;refine HSM.out.mono ?_;rintro e w2 ⟨rfl,⟨Z,O2,s2,k2⟩,T2⟩;have HO2:=hide O2;have HK2:=hide (And.intro s2 k2);have HT5:=hide (HT4.out.then T2);clear O2 T2 s2 k2)
       go_roundw
       ·obtain ⟨q1,q2,q3',q4,q5⟩:=HP.out
        obtain ⟨c1,c2,hlen,hab⟩:=HC.out
        have hl2:=pown_len HO2.out
        have hdd:=HD.out
        simp only [List.length_append,List.flatten_cons] at hlen hl2
        have lz:Z.length=d:=by omega
        refine ⟨b,b2,rfl,rfl,HB2.out,h2,hide ⟨Ds++[Z],Bs',T,bl_snoc q1 lz HK2.out.1,by rw [flatten_snoc,List.length_append];omega,q3',q4,q5,by rw [flatten_snoc];simpa using HO2.out,?_⟩,HT5⟩
        rw [flatten_snoc]
        refine HK.out.trans ?_
        have:=(SameK.refl Ds.flatten).app (HK2.out.2.app (SameK.refl (Bs'.flatten++T)))
        simpa using this
       ·simp [intOf]
        omega
      ·have y0:¬ (b:Int)≤(n:Int):=by omega
       have hB2:(Bs=[]∧Bs.flatten.length=0)∨∃ B,Bs=[B]∧Bs.flatten.length=bs∧B.length=bs∧SrtP B:=by
        rcases bl_cases q3 with e | e | ⟨B1,B2,Bs',_,e⟩
        ·exact .inl e
        ·exact .inr e
        ·omega
       by_cases h3:m<n
       ·have y1:(m:Int)<(n:Int):=by omega
        have hB3:∃ B,Bs=[B]∧Bs.flatten.length=bs∧B.length=bs∧SrtP B:=by
         rcases hB2 with ⟨_,e⟩ | e
         ·omega
         ·exact e
        obtain ⟨B,rfl,c0,c1,s1⟩:=hB3
        have e1:Ds.flatten++([B].flatten++T)=Ds.flatten++(B++(T++[])):=by simp
        rw [e1] at q6 q7
        have HSM:=hide (sm_any A n c hn62 _ wr Ds.flatten B T [] a m n q6 q2.symm (by omega) (by omega) (by omega) (by omega) s1 q4 (Nat.le_refl _))
        have HK:=hide q7
        have HP:=hide (And.intro q1 (And.intro q2 hab))
        clear q1 q2 q3 q4 q5 q6 q7 hlen hbl hdd hm e1 c0 c1 s1 HE2 hab h3 hB2
        go_wp2_with (go_at_call 192;refine HSM.out.mono ?_;rintro e w2 ⟨rfl,⟨Z,O2,s2,k2⟩,T2⟩;have HO2:=hide O2;have HK2:=hide (And.intro s2 k2);have HT5:=hide (HT4.out.then T2);clear O2 T2 s2 k2)
        go_roundw
        ·obtain ⟨q1,q2,hab⟩:=HP.out
         have hl2:=pown_len HO2.out
         have hdd:=HD.out
         simp only [List.length_append,List.length_nil] at hl2
         refine ⟨d,rfl,by omega,by omega,hide ⟨Ds,Z,q1,HK2.out.1,by omega,by simpa using HO2.out,?_⟩,HT5⟩
         refine HK.out.trans ?_
         have:=(SameK.refl Ds.flatten).app (HK2.out.2.app (SameK.refl ([]:List PRow)))
         simpa using this
        ·have:=HD.out
         show n-(d:Int).toNat<n-(bs:Int).toNat
         omega
       ·have y1:¬ (m:Int)<(n:Int):=by omega
        have HS2:Hid (∃ Bs T,Bl d Bs∧SrtP T∧T.length<d∧POwn wr A n c (Bs.flatten++T)∧SameK X (Bs.flatten++T)):=hide (by
         rcases hB2 with ⟨rfl,_⟩ | ⟨B,rfl,c0,c1,s1⟩
         ·simp only [List.flatten_nil,List.nil_append] at q6 q7
          exact ⟨Ds,T,q1,q4,by omega,q6,q7⟩
         ·have e1:T=[]:=List.eq_nil_of_length_eq_zero (by omega)
          subst e1
          simp at q6 q7
          exact ⟨Ds,B,q1,s1,by omega,q6,q7⟩)
        clear q1 q2 q3 q4 q5 q6 q7 hlen hbl hdd hm HE2 hab h3 hB2
        go_wp2
        go_roundw
        ·have hdd:=HD.out
         exact ⟨d,rfl,by omega,by omega,HS2,HT4⟩
        ·have:=HD.out
         show n-(d:Int).toNat<n-(bs:Int).toNat
         omega
    ·have x0:¬ (bs:Int)<(n:Int):=by omega
     obtain ⟨Bs,T,q1,q2,q3,q4,q5⟩:=HE.out
     have hlen:=pown_len q4
     have hbl:=bl_len q1
     rw [List.length_append] at hlen
     have hfin:SrtP (Bs.flatten++T):=by
      rcases bl_cases q1 with ⟨rfl,_⟩ | ⟨B,rfl,c0,c1,s1⟩ | ⟨B1,B2,Bs',_,e⟩
      ·simpa using q2
      ·have e1:T=[]:=List.eq_nil_of_length_eq_zero (by omega)
       subst e1
       simpa using s1
      ·omega
     have HFI:=hide (And.intro q4 (And.intro hfin q5))
     clear q1 q2 q3 q4 q5 hlen hbl hfin HE
     go_wp2
     go_end0
     exact ⟨rfl,⟨_,HFI.out.1,HFI.out.2.1,HFI.out.2.2⟩,HT3.out⟩
theorem sortfunc_any (w:World) (A:Option Addr) (n c:Nat) (X:List PRow) (h:POwn w A n c X) (hn62:n≤5864062014700) :
  Calls Tryz.prog 176 #[.slice A n c,cmpF] w (SoPost w A n c X):=by
 have HX:=hide (stable_any w A n c X h hn62)
 clear h
 go_enter Tryz.func176,Tryz.ntmps176
 go_wp2_with (go_at_call 187;refine HX.out.mono ?_;rintro e w2 ⟨rfl,H2,T2⟩;have HZ:=hide H2;have HT:=hide T2;clear H2 T2)
 go_end0
 exact ⟨rfl,HZ.out,HT.out⟩
end Go.Proofs.YthockgmbooefpaaGreatDoor
