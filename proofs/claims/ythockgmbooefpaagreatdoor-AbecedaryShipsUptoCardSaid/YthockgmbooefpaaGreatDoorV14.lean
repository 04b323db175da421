/- What the law rests on, part 14. No condition but those that each theorem names. -/
import Derived.Test.YthockgmbooefpaaGreatDoorV13
import Derived.Deep.CutRange
set_option linter.unusedSectionVars false
set_option linter.unusedSimpArgs false
set_option linter.unusedVariables false
set_option maxRecDepth 100000
set_option maxHeartbeats 2000000
namespace Go.Proofs.YthockgmbooefpaaGreatDoor
open IntWalk renaming i64_in → qQa
open List renaming length_append → qZa, eq_nil_of_length_eq_zero → qXa, append_assoc → qQb, cons_append → qZb, nil_append → qXb, pairwise_append → qJb, drop_eq_getElem_cons → qZc, length_cons → qJc, length_take → qQd, mem_append → qZd, mem_singleton → qXd, take_succ_eq_append_getElem → qJd, length_eq_one_iff → qZf, set_append_right → qQg, take_append_drop → qZg
open Nat renaming le_refl → qJa, zero_le → qQc, add_sub_cancel → qQe
variable{Bs:List (List aD)}{bs:Nat}
open Go.RowKit
theorem lY(S W:List aD)(x:aD):(S++(x :: W)).getD S.length aD.zero=x:=by
 simp[List.getD]
theorem Kc(S W:List aD)(x y:aD):(S++(x :: W)).set S.length y=S++(y :: W):=by
 rw[qQg _ _ (qJa _),Nat.sub_self,List.set_cons_zero]
theorem Dv(S T W:List aD)(u v:aD)(i j:Nat)(hi:i=S.length)(hj:j=S.length+1+T.length):nU (S++(u :: (T++(v :: W)))) i j=S++(v :: (T++(u :: W))):=by
 subst hi
 have e1:S++(u :: (T++(v :: W)))=(S++(u :: T))++(v :: W):=by simp
 have l1:(S++(u :: T)).length=j:=by simp;omega
 have g2:(S++(u :: (T++(v :: W)))).getD j aD.zero=v:=by rw[e1,<-l1,lY]
 unfold nU
 rw[g2,lY,Kc]
 have e2:S++(v :: (T++(v :: W)))=(S++(v :: T))++(v :: W):=by simp
 have l2:(S++(v :: T)).length=j:=by simp;omega
 rw[e2,<-l2,Kc]
 simp
theorem Kd{l:List aD}{k:Nat}(h:l.length=k+1):∃ l' x,l=l'++[x]/\l'.length=k:=by
 have hne:l≠[]:=by intro e;rw[e] at h;simp at h
 refine⟨l.dropLast,l.getLast hne,(List.dropLast_concat_getLast hne).symm,?_⟩
 rw[List.length_dropLast];omega
theorem xY(k:Nat):∀ (P U M V Q:List aD) (a b:Nat),a=P.length->U.length=k->V.length=k->b=P.length+k+M.length ->
  Oq (P++(U++(M++(V++Q)))) a b k=P++(V++(M++(U++Q))):=by
 induction k with
 | zero =>
  intro P U M V Q a b ha hU hV hb
  have hU':=qXa hU
  have hV':=qXa hV
  subst hU' hV'
  rfl
 | succ k ih =>
  intro P U M V Q a b ha hU hV hb
  obtain⟨U',u,rfl,hU'⟩:=Kd hU
  obtain⟨V',v,rfl,hV'⟩:=Kd hV
  have:=ih P U' (u :: M) V' (v :: Q) a b ha hU' hV' (by rw[hb];simp;omega)
  have e:P++((U'++[u])++(M++((V'++[v])++Q)))=P++(U'++((u :: M)++(V'++(v :: Q)))):=by simp
  rw[e,Oq,this]
  have e2:P++(V'++((u :: M)++(U'++(v :: Q))))=(P++V')++(u :: ((M++U')++(v :: Q))):=by simp
  rw[e2,Dv (P++V') (M++U') Q u v (a+k) (b+k) (by simp;omega) (by simp;omega)]
  simp
def Zn(X:List aD)(a:Nat):Nat->List aD
 | 0=>X
 | d+1=>if jY (X.getD (a+d+1) aD.zero) (X.getD (a+d) aD.zero)=true then Zn (nU X (a+d+1) (a+d)) a d else X
def sW(X:List aD)(a:Nat):Nat->List aD
 | 0=>X
 | c+1=>Zn (sW X a c) a (c+1)
theorem pX(S W:List aD)(u v:aD)(i j:Nat)(hi:i=S.length+1)(hj:j=S.length):nU (S++(u :: v :: W)) i j=S++(v :: u :: W):=by
 subst hi hj
 unfold nU
 have g1:(S++(u :: v :: W)).getD (S.length+1) aD.zero=v:=by
  simp[List.getD]
 have s1:∀ y,(S++(u :: v :: W)).set (S.length+1) y=S++(u :: y :: W):=by
  intro y
  rw[qQg _ _ (Nat.le_succ _)]
  simp
 rw[g1,lY,s1,Kc]
theorem aFl(d:Nat):∀ (X:List aD) (a:Nat),(Zn X a d).length=X.length:=by
 induction d with
 | zero=>intro X a;rfl
 | succ d ih =>
  intro X a
  unfold Zn
  split
  ·rw[ih,aEp]
  ·rfl
theorem Cf(X:List aD)(a c:Nat):(sW X a c).length=X.length:=by
 induction c with
 | zero=>rfl
 | succ c ih=>rw[sW,aFl,ih]
theorem Vz(d:Nat):∀ (P Y Q:List aD) (x:aD) (a:Nat),a=P.length->Y.length=d->eG Y->∃ Z,Zn (P++(Y++(x :: Q))) a d=P++(Z++Q)/\eG Z/\bP (Y++[x]) Z:=by
 induction d with
 | zero =>
  intro P Y Q x a ha hY hs
  have:=qXa hY
  subst this
  exact⟨[x],by simp[Zn],by simp[eG],bP.refl _⟩
 | succ d ih =>
  intro P Y Q x a ha hY hs
  obtain⟨Y',y,rfl,hY'⟩:=Kd hY
  have e:P++((Y'++[y])++(x :: Q))=(P++Y')++(y :: x :: Q):=by simp
  have g0:(P++((Y'++[y])++(x :: Q))).getD (a+d) aD.zero=y:=by
   have l:(P++Y').length=a+d:=by simp;omega
   rw[e,<-l,lY]
  have g1:(P++((Y'++[y])++(x :: Q))).getD (a+d+1) aD.zero=x:=by
   have l:(P++Y'++[y]).length=a+d+1:=by simp;omega
   have e':(P++Y')++(y :: x :: Q)=(P++Y'++[y])++(x :: Q):=by simp
   rw[e,e',<-l,lY]
  have hs1:=List.pairwise_append.1 hs
  unfold Zn
  rw[g0,g1]
  by_cases hb:jY x y=true
  ·rw[if_pos hb,e,pX (P++Y') Q y x (a+d+1) (a+d) (by simp;omega) (by simp;omega)]
   obtain⟨Z,h1,h2,h3⟩:=ih P Y' (y :: Q) x a ha hY' hs1.1
   have e2:(P++Y')++(x :: y :: Q)=P++(Y'++(x :: (y :: Q))):=by simp
   refine⟨Z++[y],by rw[e2,h1];simp,vN h2 (by simp[eG]) ?_,?_⟩
   ·intro z hz w hw
    simp at hw
    subst hw
    rcases List.mem_append.1 (h3.symm.mem hz) with hz' | hz'
    ·exact hs1.2.2 z hz' _ (by simp)
    ·simp at hz'
     subst hz'
     exact jM hb
   ·have k1:bP ([y]++[x]) ([x]++[y]):=bP.swap (by
     intro p hp q hq heq
     simp at hp hq
     subst hp hq
     exact qZ hb heq.symm)
    have k2:=(bP.refl Y').app k1
    have k3:=h3.app (bP.refl [y])
    have e3:Y'++[y]++[x]=Y'++([y]++[x]):=by simp
    have e4:Y'++([x]++[y])=Y'++[x]++[y]:=by simp
    rw[e3]
    exact k2.trans (by rw[e4];exact k3)
  ·rw[if_neg hb]
   have hb':yR y x:=by simpa [yR] using hb
   refine⟨Y'++[y]++[x],by simp,vN hs (by simp[eG]) ?_,bP.refl _⟩
   intro z hz w hw
   simp at hw
   subst hw
   rcases List.mem_append.1 hz with hz | hz
   ·exact jU (hs1.2.2 z hz y (by simp)) hb'
   ·simp at hz
    subst hz
    exact hb'
theorem Wz(c:Nat):∀ (P Y Q:List aD) (a:Nat),a=P.length->c<Y.length->∃ Z,sW (P++(Y++Q)) a c=P++(Z++(Y.drop (c+1)++Q))/\eG Z/\bP (Y.take (c+1)) Z:=by
 induction c with
 | zero =>
  intro P Y Q a ha hc
  cases Y with
  | nil=>simp at hc
  | cons y Y=>exact⟨[y],by simp[sW],by simp[eG],by simpa using bP.refl _⟩
 | succ c ih =>
  intro P Y Q a ha hc
  obtain⟨Z,h1,h2,h3⟩:=ih P Y Q a ha (by omega)
  have hZ:Z.length=c+1:=by
   have l1:=congrArg List.length h1
   rw[Cf] at l1
   simp at l1
   omega
  have e:Y.drop (c+1)=Y[c+1] :: Y.drop (c+1+1):=qZc hc
  rw[e] at h1
  obtain⟨Z',k1,k2,k3⟩:=Vz (c+1) P Z (Y.drop (c+1+1)++Q) (Y[c+1]) a ha hZ h2
  refine⟨Z',?_,k2,?_⟩
  ·rw[sW,h1,qZb]
   exact k1
  ·have e2:Y.take (c+1+1)=Y.take (c+1)++[Y[c+1]]:=qJd hc
   rw[e2]
   exact (h3.app (bP.refl _)).trans k3
theorem Gv(P Y Q:List aD)(a b:Nat)(ha:a=P.length)(hb:b=a+Y.length):∃ Z,sW (P++(Y++Q)) a (b-a-1)=P++(Z++Q)/\eG Z/\bP Y Z:=by
 by_cases h0:Y.length=0
 ·have:=qXa h0
  subst this
  have:b-a-1=0:=by simp at hb;omega
  rw[this]
  exact⟨[],by simp[sW],List.Pairwise.nil,bP.refl _⟩
 ·obtain⟨Z,h1,h2,h3⟩:=Wz (b-a-1) P Y Q a ha (by omega)
  have e:b-a-1+1=Y.length:=by omega
  rw[e,List.drop_length,qXb] at h1
  rw[e,List.take_length] at h3
  exact⟨Z,h1,h2,h3⟩
theorem rE{l:List aD}{k:Nat}(h:k<=l.length):∃ a b,l=a++b/\a.length=k/\b.length=l.length-k :=
 ⟨l.take k,l.drop k,(qZg k l).symm,by rw[qQd];omega,by rw[List.length_drop]⟩
theorem aHm(w:World)(A:Option Addr)(n c:Nat)(P U V Q:List aD)(h:dO w A n c (P++(U++(V++Q))))(a m b:Nat)(ha:a=P.length)(hm:m=a+U.length)(hb:b=m+V.length)(hU:0<U.length)(hV:0<V.length)(F:Value) :
  Calls Tryz.prog 194 #[.slice A n c,.int .i64 a,.int .i64 m,.int .i64 b,F] w λe w'=>e=.returned (.tuple #[])/\dO w' A n c (P++(V++(U++Q)))/\aC (λg=>aJ A=some g) w w':=by
 have hn:=dR h
 unfold maxLen at hn
 have hl:=bN h
 simp only[qZa] at hl
 obtain⟨G,hG⟩:=eX (P++(V++(U++Q)))
 rw[<-hG]
 have HX:=aB h
 have HG:=aB hG
 have HA:=aB ha
 have HM:=aB hm
 have HB:=aB hb
 obtain⟨u,hu⟩:=eX U.length
 obtain⟨v,hv⟩:=eX V.length
 have HU:=aB hu
 have HV:=aB hv
 have x0:(m:Int)-(a:Int)=(u:Int):=by omega
 have x1:(b:Int)-(m:Int)=(v:Int):=by omega
 have x2:IntKind.i64.wrap (u:Int)=(u:Int):=qQa _ (by omega)
 have x3:IntKind.i64.wrap (v:Int)=(v:Int):=qQa _ (by omega)
 have hmn:b<=n:=by omega
 have hmb:m<=b:=by omega
 have hu0:0<u:=by omega
 have hv0:0<v:=by omega
 have hum:u<=m:=by omega
 have hvb:m+v=b:=by omega
 clear h hG ha hm hb hl hu hv hU hV
 go_in
 go_wp2
 go_loopw [10,11] (λiv jv wr=>∃ i j:Nat,iv=.int .i64 i/\jv=.int .i64 j/\0<i/\0<j/\i<=m/\m+j<=b/\Hid (∃ P' U' V' Q',P'.length+i=m/\U'.length=i/\V'.length=j/\dO wr A n c (P'++(U'++(V'++Q')))/\G=P'++(V'++(U'++Q')))/\Hid (aC (λg=>aJ A=some g) w wr)) (λiv jv _=>(intOf iv).toNat+(intOf jv).toNat)
 case atStart=>exact⟨u,v,rfl,rfl,hu0,hv0,hum,by omega,aB ⟨P,U,V,Q,by have:=HA.out;have:=HM.out;have:=HU.out;omega,HU.symm,HV.symm,HX,HG⟩,aB (aC.refl _ _)⟩
 case round =>
  obtain⟨i,j,rfl,rfl,hi0,hj0,him,hjb,HE,HT⟩:=hrel
  obtain⟨P',U',V',Q',e1,e2,e3,O1,e4⟩:=HE.out
  have hl:=bN O1
  simp only[qZa] at hl
  have HO:=aB O1
  have HG1:=aB e4
  clear O1 e4 HE
  obtain⟨d,hd⟩:=eX (m-i)
  have y0:(m:Int)-(i:Int)=(d:Int):=by omega
  have y1:IntKind.i64.wrap (d:Int)=(d:Int):=qQa _ (by omega)
  rcases Nat.lt_trichotomy i j with hij | hij | hij
  ·obtain⟨V1,V2,rfl,f1,f2⟩:=rE (l:=V') (k:=j-i) (by omega)
   obtain⟨z,hz⟩:=eX (m+j-i)
   have y2:(m:Int)+(j:Int)-(i:Int)=(z:Int):=by omega
   have y3:IntKind.i64.wrap (z:Int)=(z:Int):=qQa _ (by omega)
   have y4:IntKind.i64.wrap ((m:Int)+(j:Int))=(m:Int)+(j:Int):=qQa _ (by omega)
   obtain⟨r,hr⟩:=eX (j-i)
   have y5:(j:Int)-(i:Int)=(r:Int):=by omega
   have y6:IntKind.i64.wrap (r:Int)=(r:Int):=qQa _ (by omega)
   have y7:¬ i=j:=by omega
   have y8:¬ (j:Int)<(i:Int):=by omega
   have hsw:=xY i P' U' V1 V2 Q' d z (by omega) e2 (by rw[f2,e3];omega) (by omega)
   have HSW:=aB hsw
   have h1:d+i<=n:=by omega
   have h2:z+i<=n:=by omega
   have HH:=aB (And.intro e1 (And.intro e2 (And.intro e3 (And.intro f1 (And.intro f2 hr)))))
   clear hsw hl hd hz e1 e2 e3 f1 f2 hr
   go_wp2_with (go_at_call 195;refine (Kh wr A n c _ HO d z i h1 h2 _).mono ?_;rintro e w2 ⟨rfl,O2,T2⟩;have HO2:=aB O2;have HT2:=aB (HT.then T2);clear O2 T2)
   go_roundw
   ·obtain⟨e1,e2,e3,f1,f2,hr⟩:=HH.out
    have O3:=HO2.out
    rw[show P'++(U'++((V1++V2)++Q'))=P'++(U'++(V1++(V2++Q'))) by simp,HSW.out] at O3
    refine⟨i,r,rfl,rfl,hi0,by omega,him,by omega,aB ⟨P',V2,V1,U'++Q',e1,by rw[f2,e3];omega,by omega,O3,?_⟩,HT2⟩
    rw[HG1.out];simp
   ·simp[intOf]
    have:=HH.2.2.2.2.2
    omega
  ·subst hij
   have hsw:=xY i P' U' [] V' Q' d m (by omega) e2 e3 (by simp;omega)
   have HSW:=aB hsw
   have h1:d+i<=n:=by omega
   have h2:m+i<=n:=by omega
   clear hsw hl hd e1 e2 e3
   go_wp2_with (go_at_call 195;refine (Kh wr A n c _ HO d m i h1 h2 _).mono ?_;rintro e w2 ⟨rfl,O2,T2⟩;have HO2:=aB O2;have HT2:=aB (HT.then T2);clear O2 T2)
   go_end0
   have O3:=HO2.out
   rw[show P'++(U'++(V'++Q'))=P'++(U'++([]++(V'++Q'))) by simp,HSW.out] at O3
   refine⟨rfl,?_,HT2⟩
   rw[HG1.out]
   exact O3
  ·obtain⟨U1,U2,rfl,f1,f2⟩:=rE (l:=U') (k:=j) (by omega)
   obtain⟨r,hr⟩:=eX (i-j)
   have y5:(i:Int)-(j:Int)=(r:Int):=by omega
   have y6:IntKind.i64.wrap (r:Int)=(r:Int):=qQa _ (by omega)
   have y7:¬ i=j:=by omega
   have y8:(j:Int)<(i:Int):=by omega
   have hsw:=xY j P' U1 U2 V' Q' d m (by omega) f1 e3 (by omega)
   have HSW:=aB hsw
   have h1:d+j<=n:=by omega
   have h2:m+j<=n:=by omega
   have HH:=aB (And.intro e1 (And.intro e2 (And.intro e3 (And.intro f1 (And.intro f2 hr)))))
   clear hsw hl hd e1 e2 e3 f1 f2 hr
   go_wp2_with (go_at_call 195;refine (Kh wr A n c _ HO d m j h1 h2 _).mono ?_;rintro e w2 ⟨rfl,O2,T2⟩;have HO2:=aB O2;have HT2:=aB (HT.then T2);clear O2 T2)
   go_roundw
   ·obtain⟨e1,e2,e3,f1,f2,hr⟩:=HH.out
    have O3:=HO2.out
    rw[show P'++((U1++U2)++(V'++Q'))=P'++(U1++(U2++(V'++Q'))) by simp,HSW.out] at O3
    refine⟨r,j,rfl,rfl,by omega,hj0,by omega,hjb,aB ⟨P'++V',U2,U1,Q',by rw[qZa];omega,by rw[f2,e2];omega,f1,by simpa using O3,?_⟩,HT2⟩
    rw[HG1.out];simp
   ·simp[intOf]
    have:=HH.2.2.2.2.2
    omega
theorem Gw(w:World)(A:Option Addr)(n c:Nat)(X:List aD)(h:dO w A n c X)(a b:Nat)(hab:a<=b)(hb:b<=n)(hn62:n<=4611686018427387904) :
  Calls Tryz.prog 191 #[.slice A n c,.int .i64 a,.int .i64 b,Lp] w λe w'=>e=.returned (.tuple #[])/\dO w' A n c (sW X a (b-a-1))/\aC (λg=>aJ A=some g) w w':=by
 have HX:=aB h
 clear h
 go_in
 go_wp2
 go_loopw [8] (λiv wr=>∃ cn i:Nat,iv=.int .i64 i/\i=a+1+cn/\cn<=b-a-1/\Hid (dO wr A n c (sW X a cn))/\Hid (aC (λg=>aJ A=some g) w wr)) (λiv _=>b-(intOf iv).toNat)
 case atStart=>exact⟨0,a+1,rfl,rfl,qQc _,HX,aB (aC.refl _ _)⟩
 case round =>
  obtain⟨cn,i,rfl,hi,hcn,HO,HT⟩:=hrel
  have HI:=aB hi
  by_cases hib:i<b
  ·have i0:(i:Int)<(b:Int):=by omega
   obtain⟨T,hT⟩:=eX (sW X a (cn+1))
   have HTE:=aB hT
   obtain⟨Y0,hY0⟩:=eX (sW X a cn)
   rw[<-hY0] at HO
   have hbub:Zn Y0 a (i-a)=T:=by
    have e:i-a=cn+1:=by omega
    rw[e,hT,hY0,sW]
   have HBU:=aB hbub
   have hai:a<=i:=by omega
   clear hT hY0 hbub hi hcn
   go_wp2
   obtain⟨wo,rfl⟩:∃ wo:World,wo=wr:=⟨_,rfl⟩
   go_loopw [9] (λjv wr=>∃ j:Nat,jv=.int .i64 j/\a<=j/\j<=i/\Hid (∃ Y,dO wr A n c Y/\Zn Y a (j-a)=T)/\Hid (aC (λg=>aJ A=some g) w wr)) (λjv _=>(intOf jv).toNat)
   case atStart=>exact⟨i,rfl,hai,qJa _,aB ⟨Y0,HO,HBU⟩,HT⟩
   case round =>
    obtain⟨j,rfl,haj,hji,HE,HT2⟩:=hrel
    obtain⟨Y,OY,hYb⟩:=HE.out
    have HOY:=aB OY
    have HYB:=aB hYb
    have hl:=bN OY
    clear OY hYb HE
    by_cases h0:a<j
    ·obtain⟨d,hd⟩:∃ d,j=a+d+1:=⟨j-a-1,by omega⟩
     obtain⟨q,hq⟩:=eX (j-1)
     obtain⟨g,hA0,hg,a0,a1,f0,f1⟩:=dU HOY.out hl j (by omega)
     subst hA0
     obtain⟨g',hA,_,b0,b1,f3,f4⟩:=dU HOY.out hl q (by omega)
     injection hA with hA
     injection hA with hA _
     subst hA
     obtain⟨⟨xw,xn⟩,hx⟩:∃ r,r=Y.getD j aD.zero:=⟨_,rfl⟩
     obtain⟨⟨yw,yn⟩,hy⟩:∃ r,r=Y.getD q aD.zero:=⟨_,rfl⟩
     have hbu:Zn Y a (j-a)=if jY ⟨xw,xn⟩ ⟨yw,yn⟩=true then Zn (nU Y j q) a (q-a) else Y:=by
      have e1:j-a=d+1:=by omega
      have e2:q=a+d:=by omega
      have e3:q-a=d:=by omega
      rw[e1,e3,Zn,<-hd,<-e2,hx,hy]
     rw[<-hx] at a0 a1
     rw[<-hy] at b0 b1
     simp only at a0 a1 b0 b1
     have EX:=aB hx
     have EY:=aB hy
     have HBB:=aB hbu
     have y0:(j:Int)-1=(q:Int):=by omega
     have y1:IntKind.i64.wrap (q:Int)=(q:Int):=qQa _ (by omega)
     have y2:IntKind.i64.wrap (j:Int)=(j:Int):=qQa _ (by omega)
     have y3:j<n:=by omega
     have y4:q<n:=by omega
     have y5:(j:Int)<(n:Int):=by omega
     have y6:(q:Int)<(n:Int):=by omega
     have y7:decide (a<j)=true:=by simp[h0]
     have y8:(a:Int)<(j:Int):=by omega
     have y9:a<=q:=by omega
     have y10:q<=i:=by omega
     have HDQ:=aB (And.intro hd hq)
     have HLL:=aB hl
     clear hx hy hbu hd hq hl
     cases hb:jY ⟨xw,xn⟩ ⟨yw,yn⟩ with
     | true =>
      have HPB:=aB hb
      clear hb
      go_wp2_with fail
      go_still_tail 14,(by kernel_rfl)
      change wpList _ _ _ _ _ wr.drew
      have HD:Hid (aC (λ_=>False) wr wr.drew):=aB (aC.refl _ _).drew
      generalize wr.drew=wd at HD ⊢
      go_wp2_with (go_at_call 177;refine (mU ⟨xw,xn⟩ ⟨yw,yn⟩ wd).mono ?_;rw[HPB.out];rintro e w2 ⟨⟨z,rfl,hz⟩,T2⟩;have O2:=aF HOY (HD.then T2) (λ_ _ f=>f);obtain⟨g',hA,_,a0,a1,f0,f1⟩:=dU O2 HLL j y3;injection hA with hA;injection hA with hA _;subst hA;obtain⟨g',hA,_,b0,b1,f3,f4⟩:=dU O2 HLL q y4;injection hA with hA;injection hA with hA _;subst hA;rw[<-EX.out] at a0 a1;rw[<-EY.out] at b0 b1;simp only at a0 a1 b0 b1;obtain⟨v0,s0⟩:=cell?_setCell_some (p:=⟨g,j*2,none⟩) (x:=.string yw) b0;obtain⟨v1,s1⟩:=cell?_setCell_some (p:=⟨g,j*2,none⟩) (x:=.string yw) b1;obtain⟨v1,s1⟩:=cell?_setCell_some (p:=⟨g,j*2+1,none⟩) (x:=.int .i64 yn) s1;have HO2:=aB O2;have HT3:=aB (HT2.then ((HD.then T2).up _));clear O2 T2)
      go_region
      all_goals go_wp2
      go_roundw
      ·have HS:=iU (iU HO2 j ⟨yw,yn⟩) q ⟨xw,xn⟩
       have e:nU Y j q=(Y.set j ⟨yw,yn⟩).set q ⟨xw,xn⟩:=by unfold nU;rw[<-EX.out,<-EY.out]
       rw[<-e] at HS
       refine⟨q,rfl,y9,y10,aB ⟨nU Y j q,aF (S:=λ_=>False) HS (aC.refl _ _).drew (λ_ _ f=>f),?_⟩,aB ?_⟩
       ·rw[<-HYB.out,HBB.out,if_pos HPB.out]
       ·refine aC.drew ?_
        iterate 4 refine aC.setCell ?_ (λ_=>(rfl:aJ (some ⟨g,0,none⟩)=some g)) _
        exact HT3
      ·simp[intOf]
       have:=HDQ.out
       omega
     | false =>
      have HPB:=aB hb
      clear hb
      go_wp2_with fail
      go_still_tail 14,(by kernel_rfl)
      change wpList _ _ _ _ _ wr.drew
      have HD:Hid (aC (λ_=>False) wr wr.drew):=aB (aC.refl _ _).drew
      generalize wr.drew=wd at HD ⊢
      go_wp2_with (go_at_call 177;refine (mU ⟨xw,xn⟩ ⟨yw,yn⟩ wd).mono ?_;rw[HPB.out];rintro e w2 ⟨⟨z,rfl,hz⟩,T2⟩;have HO2:=aB (aF HOY (HD.then T2) (λ_ _ f=>f));have HT3:=aB (HT2.then ((HD.then T2).up _));clear T2)
      go_roundw
      ·have hi:=HI.out
       have e:Y=sW X a (cn+1):=by rw[<-HTE.out,<-HYB.out,HBB.out,if_neg (by rw[HPB.out];decide)]
       exact⟨cn+1,i+1,by simp,by omega,by omega,aB (by rw[<-e];exact HO2),HT3⟩
      ·show b-(intOf (.int .i64 ((i:Int)+1))).toNat<b-(intOf (.int .i64 (i:Int))).toNat
       simp[intOf]
       omega
    ·have hja:j=a:=by omega
     have hYT:Y=T:=by rw[<-HYB.out,hja,Nat.sub_self];rfl
     have HYT:=aB hYT
     have y7:decide (a<j)=false:=by simp;omega
     have y8:¬ (a:Int)<(j:Int):=by omega
     clear hja hYT h0 hl
     go_wp2_with fail
     go_quiet (fail)
     obtain⟨wd,hwd⟩:=eX (wr.drewN nq)
     have hdd:aC (λ_=>False) wr wd:=by rw[hwd];exact (aC.refl _ _).drewN _
     have HD:=aB hdd
     rw[<-hwd]
     clear hwd hdd
     go_wp2
     go_roundw
     ·have hi:=HI.out
      have e:Y=sW X a (cn+1):=by rw[HYT.out,HTE.out]
      exact⟨cn+1,i+1,by simp,by omega,by omega,aB (by rw[<-e];exact aF HOY HD (λ_ _ f=>f)),aB (HT2.then (HD.up _))⟩
     ·show b-(intOf (.int .i64 ((i:Int)+1))).toNat<b-(intOf (.int .i64 (i:Int))).toNat
      simp[intOf]
      omega
  ·have hc:cn=b-a-1:=by omega
   clear hi hcn
   go_wp2
   go_end0
   refine⟨rfl,?_,HT⟩
   rw[<-hc]
   exact HO
theorem kR(S R W:List aD)(i k:Nat)(hi:i=S.length+k)(hk:k<R.length):(S++(R++W)).getD i aD.zero=R.getD k aD.zero:=by
 subst hi
 rw[List.getD_eq_getElem?_getD,List.getElem?_append_right (Nat.le_add_right _ _),Nat.add_sub_cancel_left,List.getElem?_append_left hk]
 rfl
theorem aJp(w:World)(A:Option Addr)(n c:Nat)(P R Q:List aD)(x:aD)(h:dO w A n c (P++(x :: (R++Q))))(a m b:Nat)(ha:a=P.length)(hm:m=a+1)(hb:b=m+R.length)(hR:eG R)(hn62:n<=5864062014700) :
  Calls Tryz.prog 192 #[.slice A n c,.int .i64 a,.int .i64 m,.int .i64 b,Lp] w λe w'=>e=.returned (.tuple #[])/\(∃ Z,dO w' A n c (P++(Z++Q))/\eG Z/\bP (x :: R) Z)/\aC (λg=>aJ A=some g) w w':=by
 have hl:=bN h
 simp only[qZa,qJc] at hl
 obtain⟨X,hX⟩:=eX (P++(x :: (R++Q)))
 rw[<-hX] at h
 have hn:=dR h
 unfold maxLen at hn
 have HX:=aB h
 have HE:=aB hX
 have HA:=aB ha
 have HB:=aB hb
 have HR:=aB hR
 have hbn:b<=n:=by omega
 have hmb:m<=b:=by omega
 have hab:a<n:=by omega
 have x0:((m:Int)-(a:Int) == 1)=true:=by simp;omega
 have x1:(m:Int)-(a:Int)=1:=by omega
 have ham:m=a+1:=hm
 have HAM:=aB ham
 clear h hX ha hb hl hR hm ham
 go_in
 go_wp2
 go_loopw [10,11] (λiv jv wr=>∃ i j:Nat,iv=.int .i64 i/\jv=.int .i64 j/\m<=i/\i<=j/\j<=b/\Hid (dO wr A n c X)/\Hid ((i=m\/jY (X.getD (i-1) aD.zero) x=true)/\(j=b\/jY (X.getD j aD.zero) x=false))/\Hid (aC (λ_=>False) w wr)) (λiv jv _=>(intOf jv).toNat-(intOf iv).toNat)
 case atStart=>exact⟨m,b,rfl,rfl,qJa _,hmb,qJa _,HX,aB ⟨.inl rfl,.inl rfl⟩,aB (aC.refl _ _)⟩
 case round =>
  obtain⟨i,j,rfl,rfl,hmi,hij,hjb,HO,HI,HT⟩:=hrel
  by_cases h0:i<j
  ·have y0:(i:Int)<(j:Int):=by omega
   obtain⟨h,hh⟩:=eX ((i+j) / 2)
   have y1:((i:Int)+(j:Int)) / 2=(h:Int):=by omega
   have y2:h<n:=by omega
   have y3:(h:Int)<(n:Int):=by omega
   have y4:(a:Int)<(n:Int):=by omega
   have y5:IntKind.i64.wrap (h:Int)=(h:Int):=qQa _ (by omega)
   have y6:IntKind.i64.wrap (a:Int)=(a:Int):=qQa _ (by omega)
   have y7:i<=h:=by omega
   have y8:h<j:=by omega
   have hl:=bN HO
   obtain⟨g,hA0,hg,a0,a1,f0,f1⟩:=dU HO.out hl h y2
   subst hA0
   obtain⟨g',hA,_,b0,b1,f3,f4⟩:=dU HO.out hl a hab
   injection hA with hA
   injection hA with hA _
   subst hA
   have ex:X.getD a aD.zero=x:=by rw[HE.out,HA.out,lY]
   rw[ex] at b0 b1
   obtain⟨⟨zw,zn⟩,hz⟩:∃ r,r=X.getD h aD.zero:=⟨_,rfl⟩
   rw[<-hz] at a0 a1
   have EZ:=aB hz
   obtain⟨⟨xw,xn⟩,hx⟩:∃ r,r=x:=⟨_,rfl⟩
   rw[<-hx] at b0 b1
   have EX:=aB hx
   simp only at a0 a1 b0 b1
   clear hl ex hz hx hh
   cases hb:jY ⟨zw,zn⟩ ⟨xw,xn⟩ with
   | true =>
    have HPB:=aB hb
    clear hb
    go_wp2_with fail
    go_still_tail 9,(by kernel_rfl)
    change wpList _ _ _ _ _ wr.drew
    have HD:Hid (aC (λ_=>False) wr wr.drew):=aB (aC.refl _ _).drew
    generalize wr.drew=wd at HD ⊢
    go_wp2_with (go_at_call 177;refine (mU ⟨zw,zn⟩ ⟨xw,xn⟩ wd).mono ?_;rw[HPB.out];rintro e w2 ⟨⟨z,rfl,hz⟩,T2⟩;have HT2:=aB (HT.then (HD.then T2));have HO2:=aB (aF HO (HD.then T2) (λ_ _ f=>f));clear T2)
    go_roundw
    ·refine⟨h+1,j,by simp,rfl,by omega,by omega,hjb,HO2,aB ⟨.inr ?_,HI.2⟩,HT2⟩
     rw[qQe,<-EZ.out,<-EX.out]
     exact HPB
    ·show (j:Int).toNat-((h:Int)+1).toNat<(j:Int).toNat-(i:Int).toNat
     omega
   | false =>
    have HPB:=aB hb
    clear hb
    go_wp2_with fail
    go_still_tail 9,(by kernel_rfl)
    change wpList _ _ _ _ _ wr.drew
    have HD:Hid (aC (λ_=>False) wr wr.drew):=aB (aC.refl _ _).drew
    generalize wr.drew=wd at HD ⊢
    go_wp2_with (go_at_call 177;refine (mU ⟨zw,zn⟩ ⟨xw,xn⟩ wd).mono ?_;rw[HPB.out];rintro e w2 ⟨⟨z,rfl,hz⟩,T2⟩;have HT2:=aB (HT.then (HD.then T2));have HO2:=aB (aF HO (HD.then T2) (λ_ _ f=>f));clear T2)
    go_roundw
    ·refine⟨i,h,rfl,rfl,hmi,y7,by omega,HO2,aB ⟨HI.1,.inr ?_⟩,HT2⟩
     rw[<-EZ.out,<-EX.out]
     exact HPB
    ·show (h:Int).toNat-(i:Int).toNat<(j:Int).toNat-(i:Int).toNat
     omega
  ·have hij':j=i:=by omega
   subst hij'
   obtain⟨t,ht⟩:∃ t,j=m+t:=⟨j-m,by omega⟩
   obtain⟨o,ho⟩:=eX (a+t)
   have z0:(j:Int)-1=(o:Int):=by have:=HAM.out;omega
   have z1:IntKind.i64.wrap (o:Int)=(o:Int):=qQa _ (by omega)
   have z2:a<=o:=by omega
   have z3:o<n:=by have:=HAM.out;omega
   have htR:t<=R.length:=by have:=HB.out;omega
   have HTT:=aB ht
   have HOO:=aB ho
   have HTR:=aB htR
   have HI2:=HI
   clear ht ho htR h0 hij hmi
   go_wp2
   obtain⟨wo,rfl⟩:∃ wo:World,wo=wr:=⟨_,rfl⟩
   go_loopw [13] (λkv wr=>∃ k s:Nat,kv=.int .i64 k/\k<=o/\Hid (k=a+s)/\Hid (dO wr A n c (P++(R.take s++(x :: (R.drop s++Q)))))/\Hid (aC (λg=>aJ A=some g) w wr)) (λkv _=>o-(intOf kv).toNat)
   case atStart =>
    refine⟨a,0,rfl,z2,aB rfl,aB ?_,aB (HT.up _)⟩
    have:=HO.out
    rw[HE.out] at this
    simpa using this
   case round =>
    obtain⟨k,s,rfl,hko,HK,HO2,HT2⟩:=hrel
    by_cases hk:k<o
    ·obtain⟨Y,hY⟩:=eX (P++(R.take s++(x :: (R.drop s++Q))))
     rw[<-hY] at HO2
     have HYE:=aB hY
     have hl:=bN HO2
     obtain⟨k2,hk2⟩:=eX (k+1)
     obtain⟨g,hA0,hg,a0,a1,f0,f1⟩:=dU HO2.out hl k (by omega)
     subst hA0
     obtain⟨g',hA,_,b0,b1,f3,f4⟩:=dU HO2.out hl k2 (by omega)
     injection hA with hA
     injection hA with hA _
     subst hA
     obtain⟨⟨xw,xn⟩,hx⟩:∃ r,r=Y.getD k aD.zero:=⟨_,rfl⟩
     obtain⟨⟨yw,yn⟩,hy⟩:∃ r,r=Y.getD k2 aD.zero:=⟨_,rfl⟩
     rw[<-hx] at a0 a1
     rw[<-hy] at b0 b1
     simp only at a0 a1 b0 b1
     have EX:=aB hx
     have EY:=aB hy
     have HK2:=aB hk2
     have i0:(k:Int)<(o:Int):=by omega
     have i1:(k:Int)+1=(k2:Int):=by omega
     have i2:IntKind.i64.wrap (k:Int)=(k:Int):=qQa _ (by omega)
     have i3:IntKind.i64.wrap (k2:Int)=(k2:Int):=qQa _ (by omega)
     have i4:k<n:=by omega
     have i5:k2<n:=by omega
     have i6:(k:Int)<(n:Int):=by omega
     have i7:(k2:Int)<(n:Int):=by omega
     have i8:k2<=o:=by omega
     obtain⟨v0,s0⟩:=cell?_setCell_some (p:=⟨g,k*2,none⟩) (x:=.string yw) b0
     obtain⟨v1,s1⟩:=cell?_setCell_some (p:=⟨g,k*2,none⟩) (x:=.string yw) b1
     obtain⟨v1,s1⟩:=cell?_setCell_some (p:=⟨g,k*2+1,none⟩) (x:=.int .i64 yn) s1
     clear hx hy hl hk2 hY
     go_wp2
     go_region
     all_goals go_wp2
     go_roundw
     ·have HS:=iU (iU HO2 k ⟨yw,yn⟩) k2 ⟨xw,xn⟩
      have e:nU Y k k2=(Y.set k ⟨yw,yn⟩).set k2 ⟨xw,xn⟩:=by unfold nU;rw[<-EX.out,<-EY.out]
      rw[<-e] at HS
      have hs:s<R.length:=by have:=HTR.out;have:=HOO.out;have:=HK.out;omega
      have e2:nU Y k k2=P++(R.take (s+1)++(x :: (R.drop (s+1)++Q))):=by
       have r1:R.drop s=R[s] :: R.drop (s+1):=qZc hs
       have r2:R.take (s+1)=R.take s++[R[s]]:=qJd hs
       have l1:(P++R.take s).length=k:=by have:=HK.out;have:=HA.out;rw[qZa,qQd];omega
       have e3:Y=(P++R.take s)++(x :: ([]++(R[s] :: (R.drop (s+1)++Q)))):=by rw[HYE.out,r1];simp only[qQb,qZb,qXb]
       rw[e3,Dv (P++R.take s) [] (R.drop (s+1)++Q) x R[s] k k2 l1.symm (by rw[l1,HK2.out];rfl),r2]
       simp only[qQb,qZb,qXb]
      rw[e2] at HS
      refine⟨k2,s+1,rfl,i8,aB (by have:=HK.out;have:=HK2.out;omega),aB (aF (S:=λ_=>False) HS (aC.refl _ _).drew (λ_ _ f=>f)),aB ?_⟩
      refine aC.drew ?_
      iterate 4 refine aC.setCell ?_ (λ_=>(rfl:aJ (some ⟨g,0,none⟩)=some g)) _
      exact HT2
     ·simp[intOf]
      have:=HK2.out
      omega
    ·have hk':k=o:=by omega
     subst hk'
     go_wp2
     have hst:s=t:=by have:=HK.out;have:=HOO.out;omega
     subst hst
     obtain⟨i1,i2⟩:=HI.out
     have hm:=HAM.out
     have ht:=HTT.out
     have hA:=HA.out
     have hB:=HB.out
     have eX:X=(P++[x])++(R++Q):=by rw[HE.out];simp
     have hc:=Ga (L:=[x]) (R:=R) (by simp[eG]) HR 0 s (qQc _) HTR (.inl rfl) (by
      rcases i1 with e | e
      ·exact .inr (.inl (by omega))
      ·by_cases hs0:s=0
       ·exact .inr (.inl hs0)
       ·refine .inr (.inr ?_)
        rw[eX,kR (P++[x]) R Q (j-1) (s-1) (by simp;omega) (by have:=HTR.out;omega)] at e
        simpa using e)
     have hd:∀ y∈R.drop s,yR x y:=by
      intro y hy
      obtain⟨q,q1,q2,rfl⟩:=mZ hy
      rcases i2 with e | e
      ·omega
      ·rw[eX,kR (P++[x]) R Q j s (by simp;omega) (by omega)] at e
       exact jU (show yR x (R.getD s aD.zero) from e) (tQ HR.out q1 q2)
     simp only[List.drop_zero,qXd,forall_eq] at hc
     refine bodyPost_ret (v:=.tuple #[]) (by simp[results,Tryz.results192,go_sem]) rfl ⟨rfl,⟨R.take s++(x :: R.drop s),?_,?_,?_⟩,HT2⟩
     ·have:=HO2.out
      simpa using this
     ·refine vN (Oc HR s) (List.pairwise_cons.2 ⟨hd,Oa HR s⟩) ?_
      intro p hp r hr
      rcases List.mem_cons.1 hr with rfl | hr
      ·exact jM (hc.2 p hp)
      ·exact jU (jM (hc.2 p hp)) (hd r hr)
     ·have k1:bP ([x]++R.take s) (R.take s++[x]):=bP.swap λp hp r hr he=>by
       simp only[qXd] at hp
       subst hp
       exact qZ (hc.2 r hr) he.symm
      have k2:=k1.app (bP.refl (R.drop s))
      simpa using k2
theorem aHt(w:World)(A:Option Addr)(n c:Nat)(P L Q:List aD)(x:aD)(h:dO w A n c (P++(L++(x :: Q))))(a m b:Nat)(ha:a=P.length)(hm:m=a+L.length)(hb:b=m+1)(hL1:L.length≠1)(hL:eG L)(hn62:n<=5864062014700) :
  Calls Tryz.prog 192 #[.slice A n c,.int .i64 a,.int .i64 m,.int .i64 b,Lp] w λe w'=>e=.returned (.tuple #[])/\(∃ Z,dO w' A n c (P++(Z++Q))/\eG Z/\bP (L++[x]) Z)/\aC (λg=>aJ A=some g) w w':=by
 have hl:=bN h
 simp only[qZa,qJc] at hl
 obtain⟨X,hX⟩:=eX (P++(L++(x :: Q)))
 rw[<-hX] at h
 have hn:=dR h
 unfold maxLen at hn
 have HX:=aB h
 have HE:=aB hX
 have HA:=aB ha
 have HB:=aB hb
 have HL:=aB hL
 have HM:=aB hm
 have hbn:m<n:=by omega
 have ham:a<=m:=by omega
 have x0:((m:Int)-(a:Int) == 1)=false:=by simp;omega
 have x1:((b:Int)-(m:Int) == 1)=true:=by simp;omega
 have x2:(b:Int)-(m:Int)=1:=by omega
 have x3:b<=n:=by omega
 clear h hX ha hb hl hL hm hL1
 go_in
 go_wp2
 go_loopw [14,15] (λiv jv wr=>∃ i j:Nat,iv=.int .i64 i/\jv=.int .i64 j/\a<=i/\i<=j/\j<=m/\Hid (dO wr A n c X)/\Hid ((i=a\/jY x (X.getD (i-1) aD.zero)=false)/\(j=m\/jY x (X.getD j aD.zero)=true))/\Hid (aC (λ_=>False) w wr)) (λiv jv _=>(intOf jv).toNat-(intOf iv).toNat)
 case atStart=>exact⟨a,m,rfl,rfl,qJa _,ham,qJa _,HX,aB ⟨.inl rfl,.inl rfl⟩,aB (aC.refl _ _)⟩
 case round =>
  obtain⟨i,j,rfl,rfl,hmi,hij,hjb,HO,HI,HT⟩:=hrel
  by_cases h0:i<j
  ·have y0:(i:Int)<(j:Int):=by omega
   obtain⟨h,hh⟩:=eX ((i+j) / 2)
   have y1:((i:Int)+(j:Int)) / 2=(h:Int):=by omega
   have y2:h<n:=by omega
   have y3:(h:Int)<(n:Int):=by omega
   have y4:(m:Int)<(n:Int):=by omega
   have y5:IntKind.i64.wrap (h:Int)=(h:Int):=qQa _ (by omega)
   have y6:IntKind.i64.wrap (m:Int)=(m:Int):=qQa _ (by omega)
   have y7:i<=h:=by omega
   have y8:h<j:=by omega
   have hl:=bN HO
   obtain⟨g,hA0,hg,a0,a1,f0,f1⟩:=dU HO.out hl h y2
   subst hA0
   obtain⟨g',hA,_,b0,b1,f3,f4⟩:=dU HO.out hl m hbn
   injection hA with hA
   injection hA with hA _
   subst hA
   have ex:X.getD m aD.zero=x:=by
    have l1:(P++L).length=m:=by have:=HM.out;have:=HA.out;rw[qZa];omega
    rw[HE.out,<-qQb,<-l1,lY]
   rw[ex] at b0 b1
   obtain⟨⟨zw,zn⟩,hz⟩:∃ r,r=X.getD h aD.zero:=⟨_,rfl⟩
   rw[<-hz] at a0 a1
   have EZ:=aB hz
   obtain⟨⟨xw,xn⟩,hx⟩:∃ r,r=x:=⟨_,rfl⟩
   rw[<-hx] at b0 b1
   have EX:=aB hx
   simp only at a0 a1 b0 b1
   clear hl ex hz hx hh
   cases hb:jY ⟨xw,xn⟩ ⟨zw,zn⟩ with
   | true =>
    have HPB:=aB hb
    clear hb
    go_wp2_with fail
    go_still_tail 9,(by kernel_rfl)
    change wpList _ _ _ _ _ wr.drew
    have HD:Hid (aC (λ_=>False) wr wr.drew):=aB (aC.refl _ _).drew
    generalize wr.drew=wd at HD ⊢
    go_wp2_with (go_at_call 177;refine (mU ⟨xw,xn⟩ ⟨zw,zn⟩ wd).mono ?_;rw[HPB.out];rintro e w2 ⟨⟨z,rfl,hz⟩,T2⟩;have HT2:=aB (HT.then (HD.then T2));have HO2:=aB (aF HO (HD.then T2) (λ_ _ f=>f));clear T2)
    go_roundw
    ·refine⟨i,h,rfl,rfl,hmi,y7,by omega,HO2,aB ⟨HI.1,.inr ?_⟩,HT2⟩
     rw[<-EZ.out,<-EX.out]
     exact HPB
    ·show (h:Int).toNat-(i:Int).toNat<(j:Int).toNat-(i:Int).toNat
     omega
   | false =>
    have HPB:=aB hb
    clear hb
    go_wp2_with fail
    go_still_tail 9,(by kernel_rfl)
    change wpList _ _ _ _ _ wr.drew
    have HD:Hid (aC (λ_=>False) wr wr.drew):=aB (aC.refl _ _).drew
    generalize wr.drew=wd at HD ⊢
    go_wp2_with (go_at_call 177;refine (mU ⟨xw,xn⟩ ⟨zw,zn⟩ wd).mono ?_;rw[HPB.out];rintro e w2 ⟨⟨z,rfl,hz⟩,T2⟩;have HT2:=aB (HT.then (HD.then T2));have HO2:=aB (aF HO (HD.then T2) (λ_ _ f=>f));clear T2)
    go_roundw
    ·refine⟨h+1,j,by simp,rfl,by omega,by omega,hjb,HO2,aB ⟨.inr ?_,HI.2⟩,HT2⟩
     rw[qQe,<-EZ.out,<-EX.out]
     exact HPB
    ·show (j:Int).toNat-((h:Int)+1).toNat<(j:Int).toNat-(i:Int).toNat
     omega
  ·have hij':j=i:=by omega
   subst hij'
   obtain⟨t,ht⟩:∃ t,j=a+t:=⟨j-a,by omega⟩
   have htL:t<=L.length:=by have:=HM.out;omega
   have HTT:=aB ht
   have HTL:=aB htL
   clear ht htL h0 hij hmi
   go_wp2
   obtain⟨wo,rfl⟩:∃ wo:World,wo=wr:=⟨_,rfl⟩
   go_loopw [17] (λkv wr=>∃ k s:Nat,kv=.int .i64 k/\j<=k/\k<=m/\Hid (k=a+s)/\Hid (dO wr A n c (P++(L.take s++(x :: (L.drop s++Q)))))/\Hid (aC (λg=>aJ A=some g) w wr)) (λkv _=>(intOf kv).toNat)
   case atStart =>
    refine⟨m,L.length,rfl,hjb,qJa _,HM,aB ?_,aB (HT.up _)⟩
    have:=HO.out
    rw[HE.out] at this
    simpa using this
   case round =>
    obtain⟨k,s,rfl,hko,hkm,HK,HO2,HT2⟩:=hrel
    by_cases hk:j<k
    ·obtain⟨Y,hY⟩:=eX (P++(L.take s++(x :: (L.drop s++Q))))
     rw[<-hY] at HO2
     have HYE:=aB hY
     have hl:=bN HO2
     obtain⟨k2,hk2⟩:∃ k2,k=k2+1:=⟨k-1,by omega⟩
     obtain⟨g,hA0,hg,a0,a1,f0,f1⟩:=dU HO2.out hl k (by omega)
     subst hA0
     obtain⟨g',hA,_,b0,b1,f3,f4⟩:=dU HO2.out hl k2 (by omega)
     injection hA with hA
     injection hA with hA _
     subst hA
     obtain⟨⟨xw,xn⟩,hx⟩:∃ r,r=Y.getD k aD.zero:=⟨_,rfl⟩
     obtain⟨⟨yw,yn⟩,hy⟩:∃ r,r=Y.getD k2 aD.zero:=⟨_,rfl⟩
     rw[<-hx] at a0 a1
     rw[<-hy] at b0 b1
     simp only at a0 a1 b0 b1
     have EX:=aB hx
     have EY:=aB hy
     have HK2:=aB hk2
     have i0:(j:Int)<(k:Int):=by omega
     have i1:(k:Int)-1=(k2:Int):=by omega
     have i2:IntKind.i64.wrap (k:Int)=(k:Int):=qQa _ (by omega)
     have i3:IntKind.i64.wrap (k2:Int)=(k2:Int):=qQa _ (by omega)
     have i4:k<n:=by omega
     have i5:k2<n:=by omega
     have i6:(k:Int)<(n:Int):=by omega
     have i7:(k2:Int)<(n:Int):=by omega
     have i8:j<=k2:=by omega
     have i9:k2<=m:=by omega
     obtain⟨v0,s0⟩:=cell?_setCell_some (p:=⟨g,k*2,none⟩) (x:=.string yw) b0
     obtain⟨v1,s1⟩:=cell?_setCell_some (p:=⟨g,k*2,none⟩) (x:=.string yw) b1
     obtain⟨v1,s1⟩:=cell?_setCell_some (p:=⟨g,k*2+1,none⟩) (x:=.int .i64 yn) s1
     clear hx hy hl hk2 hY
     go_wp2
     go_region
     all_goals go_wp2
     go_roundw
     ·have HS:=iU (iU HO2 k ⟨yw,yn⟩) k2 ⟨xw,xn⟩
      have e:nU Y k k2=(Y.set k ⟨yw,yn⟩).set k2 ⟨xw,xn⟩:=by unfold nU;rw[<-EX.out,<-EY.out]
      rw[<-e] at HS
      obtain⟨s',rfl⟩:∃ s',s=s'+1:=⟨s-1,by have:=HK.out;have:=HTT.out;omega⟩
      have hs:s'<L.length:=by have:=HM.out;have:=HK.out;omega
      have e2:nU Y k k2=P++(L.take s'++(x :: (L.drop s'++Q))):=by
       have r1:L.drop s'=L[s'] :: L.drop (s'+1):=qZc hs
       have r2:L.take (s'+1)=L.take s'++[L[s']]:=qJd hs
       have l1:(P++L.take s').length=k2:=by have:=HK.out;have:=HK2.out;have:=HA.out;rw[qZa,qQd];omega
       have e3:Y=(P++L.take s')++(L[s'] :: x :: (L.drop (s'+1)++Q)):=by rw[HYE.out,r2];simp only[qQb,qZb,qXb]
       rw[e3,pX (P++L.take s') (L.drop (s'+1)++Q) L[s'] x k k2 (by rw[l1,HK2.out]) l1.symm,r1]
       simp only[qQb,qZb]
      rw[e2] at HS
      refine⟨k2,s',rfl,i8,i9,aB (by have:=HK.out;have:=HK2.out;omega),aB (aF (S:=λ_=>False) HS (aC.refl _ _).drew (λ_ _ f=>f)),aB ?_⟩
      refine aC.drew ?_
      iterate 4 refine aC.setCell ?_ (λ_=>(rfl:aJ (some ⟨g,0,none⟩)=some g)) _
      exact HT2
     ·simp[intOf]
      have:=HK2.out
      omega
    ·have hk':k=j:=by omega
     subst hk'
     go_wp2
     have hst:s=t:=by have:=HK.out;have:=HTT.out;omega
     subst hst
     obtain⟨i1,i2⟩:=HI.out
     have ht:=HTT.out
     have hA:=HA.out
     have hM:=HM.out
     have hTL:=HTL.out
     have eX:X=P++(L++(x :: Q)):=HE.out
     have hc:∀ p∈L.take s,yR p x:=by
      intro p hp
      obtain⟨q,q1,q2,rfl⟩:=qU hp
      rcases i1 with e | e
      ·omega
      ·rw[eX,kR P L (x :: Q) (k-1) (s-1) (by omega) (by omega)] at e
       exact jU (tQ HL.out (by omega) (by omega)) (show yR (L.getD (s-1) aD.zero) x from e)
     have hd:∀ r∈L.drop s,jY x r=true:=by
      intro r hr
      obtain⟨q,q1,q2,rfl⟩:=mZ hr
      rcases i2 with e | e
      ·omega
      ·rw[eX,kR P L (x :: Q) k s (by omega) (by omega)] at e
       exact zZ e (tQ HL.out q1 q2)
     refine bodyPost_ret (v:=.tuple #[]) (by simp[results,Tryz.results192,go_sem]) rfl ⟨rfl,⟨L.take s++(x :: L.drop s),?_,?_,?_⟩,HT2⟩
     ·have:=HO2.out
      simpa using this
     ·refine vN (Oc HL s) (List.pairwise_cons.2 ⟨λr hr=>jM (hd r hr),Oa HL s⟩) ?_
      intro p hp r hr
      rcases List.mem_cons.1 hr with rfl | hr
      ·exact hc p hp
      ·exact jU (hc p hp) (jM (hd r hr))
     ·have k1:bP (L.drop s++[x]) ([x]++L.drop s):=bP.swap λp hp r hr he=>by
       simp only[qXd] at hr
       subst hr
       exact qZ (hd p hp) he.symm
      have k2:=(bP.refl (L.take s)).app k1
      have e1:L.take s++(L.drop s++[x])=L++[x]:=by rw[<-qQb,qZg]
      rw[e1] at k2
      simpa using k2
def Iu(w:World)(A:Option Addr)(n c:Nat)(P Y Q:List aD)(e:Ending)(w':World):Prop :=
 e=.returned (.tuple #[])/\(∃ Z,dO w' A n c (P++(Z++Q))/\eG Z/\bP Y Z)/\aC (λg=>aJ A=some g) w w'
def SmC(A:Option Addr)(n c fuel:Nat):Prop:=∀ (w:World) (P L R Q:List aD) (a m b:Nat),dO w A n c (P++(L++(R++Q)))->a=P.length->m=a+L.length->b=m+R.length->0<L.length->0<R.length->eG L->eG R->L.length+R.length<=fuel ->
 Calls Tryz.prog 192 #[.slice A n c,.int .i64 a,.int .i64 m,.int .i64 b,Lp] w (Iu w A n c P (L++R) Q)
theorem aHu(A:Option Addr)(n c fuel:Nat)(hn62:n<=5864062014700)(ih:SmC A n c fuel)(w:World)(P L R Q:List aD)(a m b:Nat)(h:dO w A n c (P++(L++(R++Q))))(ha:a=P.length)(hm:m=a+L.length)(hb:b=m+R.length)
  (hL1:1<L.length)(hR1:1<R.length)(hL:eG L)(hR:eG R)(hf:L.length+R.length<=fuel+1) :
  Calls Tryz.prog 192 #[.slice A n c,.int .i64 a,.int .i64 m,.int .i64 b,Lp] w (Iu w A n c P (L++R) Q):=by
 have hl:=bN h
 simp only[qZa] at hl
 obtain⟨X,hX⟩:=eX (P++(L++(R++Q)))
 rw[<-hX] at h
 have hn:=dR h
 unfold maxLen at hn
 have HX:=aB h
 have HE:=aB hX
 have HA:=aB ha
 have HB:=aB hb
 have HL:=aB hL
 have HR:=aB hR
 have HM:=aB hm
 have HF:=aB hf
 have HIH:=aB ih
 have hbn:b<=n:=by omega
 have ham:a+1<m:=by omega
 have hmb:m+1<b:=by omega
 have x0:((m:Int)-(a:Int) == 1)=false:=by simp;omega
 have x1:((b:Int)-(m:Int) == 1)=false:=by simp;omega
 obtain⟨mid,hmid⟩:=eX ((a+b) / 2)
 obtain⟨N,hN⟩:=eX (mid+m)
 obtain⟨p,hp⟩:∃ x,N=x+1:=⟨N-1,by omega⟩
 have x2:((a:Int)+(b:Int)) / 2=(mid:Int):=by omega
 have x3:(mid:Int)+(m:Int)=(N:Int):=by omega
 have x4:(N:Int)-1=(p:Int):=by omega
 have x5:mid<=n:=by omega
 have x6:N<=n+n:=by omega
 have x7:p<=n+n:=by omega
 obtain⟨lo,hi,hlohi⟩:∃ lo hi:Nat,(mid<m/\lo+b=N/\hi=mid)\/(¬ mid<m/\lo=a/\hi=m):=by
  by_cases hmm:mid<m
  ·exact⟨N-b,mid,.inl ⟨hmm,by omega,rfl⟩⟩
  ·exact⟨a,m,.inr ⟨hmm,rfl,rfl⟩⟩
 have y1:a<=lo/\lo<=hi/\hi<=m/\hi<=n:=by omega
 have y2:∀ k,lo<=k->k<hi->a<=k/\k<m/\m<=p-k/\p-k<b/\k<=p:=by intro k h1 h2;omega
 have HLH:=aB hlohi
 have HY1:=aB y1
 have HY2:=aB y2
 have HMID:=aB (And.intro hmid (And.intro hN hp))
 clear h hX ha hb hl hL hR hm hf ih hmid hN hp hL1 hR1 hlohi y1 y2
 go_in
 go_upto_if 140 with fail
 go_cut [20,21] from 138 to 146 (λs r wx=>s=.int .i64 (lo:Int)/\r=.int .i64 (hi:Int)/\wx=w)
 case first =>
  rcases HLH.out with⟨h1,h2,h3⟩ | ⟨h1,h2,h3⟩
  ·have z1:(N:Int)-(b:Int)=(lo:Int):=by omega
   have z2:(mid:Int)<(m:Int):=by omega
   have z3:lo<=n:=by omega
   have H3:=aB h3
   clear h2 h3
   go_wp2
   go_meet
   exact⟨rfl,by rw[H3.out],rfl⟩
  ·have H23:=aB (And.intro h2 h3)
   have z2:¬ (mid:Int)<(m:Int):=by omega
   clear h2 h3
   go_wp2
   go_meet
   exact⟨by rw[H23.1],by rw[H23.2],rfl⟩
 case rest =>
  obtain⟨rfl,rfl,hcw⟩:=hcut
  obtain rfl:=hcw.symm
  clear hcw
  go_wp2
  go_loopw [20,21] (λsv rv wr=>∃ s r:Nat,sv=.int .i64 s/\rv=.int .i64 r/\lo<=s/\s<=r/\r<=hi/\Hid (dO wr A n c X)/\Hid ((s=lo\/jY (X.getD (p-(s-1)) aD.zero) (X.getD (s-1) aD.zero)=false)/\(r=hi\/jY (X.getD (p-r) aD.zero) (X.getD r aD.zero)=true))/\Hid (aC (λ_=>False) w wr)) (λsv rv _=>(intOf rv).toNat-(intOf sv).toNat)
  case atStart=>exact⟨lo,hi,rfl,rfl,qJa _,HY1.2.1,qJa _,HX,aB ⟨.inl rfl,.inl rfl⟩,aB (aC.refl _ _)⟩
  case round =>
   obtain⟨s,r,rfl,rfl,hls,hsr,hrh,HO,HI,HT⟩:=hrel
   by_cases h0:s<r
   ·have y0:(s:Int)<(r:Int):=by omega
    obtain⟨k,hk⟩:=eX ((s+r) / 2)
    have hy2:=HY2.out k (by omega) (by omega)
    have hy1:=HY1.out
    obtain⟨u,hu⟩:∃ u,p=u+k:=⟨p-k,by omega⟩
    have hpk:p-k=u:=by omega
    have z1:((s:Int)+(r:Int)) / 2=(k:Int):=by omega
    have z2:k<n:=by omega
    have z3:(k:Int)<(n:Int):=by omega
    have z4:u<n:=by omega
    have z5:(u:Int)<(n:Int):=by omega
    have z6:(p:Int)-(k:Int)=(u:Int):=by omega
    have z7:IntKind.i64.wrap (k:Int)=(k:Int):=qQa _ (by omega)
    have z8:IntKind.i64.wrap (u:Int)=(u:Int):=qQa _ (by omega)
    have z9:s<=k:=by omega
    have z10:k<r:=by omega
    have z11:s<=n:=by omega
    have z12:r<=n:=by omega
    have hl:=bN HO
    obtain⟨g,hA0,hg,a0,a1,f0,f1⟩:=dU HO.out hl k z2
    subst hA0
    obtain⟨g',hA,_,b0,b1,f3,f4⟩:=dU HO.out hl u z4
    injection hA with hA
    injection hA with hA _
    subst hA
    obtain⟨⟨zw,zn⟩,hz⟩:∃ r,r=X.getD k aD.zero:=⟨_,rfl⟩
    rw[<-hz] at a0 a1
    obtain⟨⟨xw,xn⟩,hx⟩:∃ r,r=X.getD u aD.zero:=⟨_,rfl⟩
    rw[<-hx] at b0 b1
    have EZ:=aB hz
    have EX:=aB hx
    have HPK:=aB hpk
    simp only at a0 a1 b0 b1
    clear hl hz hx hk hpk hu hy2 hy1
    cases hb:jY ⟨xw,xn⟩ ⟨zw,zn⟩ with
    | true =>
     have HPB:=aB hb
     clear hb
     go_wp2_with fail
     go_still_tail 11,(by kernel_rfl)
     change wpList _ _ _ _ _ wr.drew
     have HD:Hid (aC (λ_=>False) wr wr.drew):=aB (aC.refl _ _).drew
     generalize wr.drew=wd at HD ⊢
     go_wp2_with (go_at_call 177;refine (mU ⟨xw,xn⟩ ⟨zw,zn⟩ wd).mono ?_;rw[HPB.out];rintro e w2 ⟨⟨z,rfl,hz⟩,T2⟩;have HT2:=aB (HT.then (HD.then T2));have HO2:=aB (aF HO (HD.then T2) (λ_ _ f=>f));clear T2)
     go_roundw
     ·refine⟨s,k,rfl,rfl,hls,z9,by omega,HO2,aB ⟨HI.1,.inr ?_⟩,HT2⟩
      rw[HPK.out,<-EZ.out,<-EX.out]
      exact HPB
     ·show (k:Int).toNat-(s:Int).toNat<(r:Int).toNat-(s:Int).toNat
      omega
    | false =>
     have HPB:=aB hb
     clear hb
     go_wp2_with fail
     go_still_tail 11,(by kernel_rfl)
     change wpList _ _ _ _ _ wr.drew
     have HD:Hid (aC (λ_=>False) wr wr.drew):=aB (aC.refl _ _).drew
     generalize wr.drew=wd at HD ⊢
     go_wp2_with (go_at_call 177;refine (mU ⟨xw,xn⟩ ⟨zw,zn⟩ wd).mono ?_;rw[HPB.out];rintro e w2 ⟨⟨z,rfl,hz⟩,T2⟩;have HT2:=aB (HT.then (HD.then T2));have HO2:=aB (aF HO (HD.then T2) (λ_ _ f=>f));clear T2)
     go_roundw
     ·refine⟨k+1,r,by simp,rfl,by omega,by omega,hrh,HO2,aB ⟨.inr ?_,HI.2⟩,HT2⟩
      rw[qQe,HPK.out,<-EZ.out,<-EX.out]
      exact HPB
     ·show (r:Int).toNat-((k:Int)+1).toNat<(r:Int).toNat-(s:Int).toNat
      omega
   ·have hsr':r=s:=by omega
    subst hsr'
    obtain⟨e,he⟩:∃ e,N=e+r:=⟨N-r,by have:=HMID.out;have:=HY1.out;have:=HLH.out;omega⟩
    obtain⟨i1,i2⟩:=HI.out
    have hmid:=HMID.out
    have hy1:=HY1.out
    have hlh:=HLH.out
    have hA:=HA.out
    have hM:=HM.out
    have hB:=HB.out
    have eb:a<=r/\r<=m/\m<=e/\e<=b/\r<=mid/\mid<=e:=by omega
    obtain⟨L1,L2,eL,l1,l2⟩:=rE (l:=L) (k:=r-a) (by omega)
    obtain⟨R1,R2,eR,r1,r2⟩:=rE (l:=R) (k:=e-m) (by omega)
    have hc:=Ga HL HR (r-a) (e-m) (by omega) (by omega) (by
     rcases i1 with q | q
     ·rcases hlh with⟨h1,h2,h3⟩ | ⟨h1,h2,h3⟩
      ·exact .inr (.inl (by omega))
      ·exact .inl (by omega)
     ·by_cases q0:r=a
      ·exact .inl (by omega)
      ·by_cases q1:e=b
       ·exact .inr (.inl (by omega))
       ·refine .inr (.inr ?_)
        rw[HE.out,show P++(L++(R++Q))=(P++L)++(R++Q) by simp,kR (P++L) R Q (p-(r-1)) (e-m) (by rw[qZa];omega) (by omega),show (P++L)++(R++Q)=P++(L++(R++Q)) by simp,kR P L (R++Q) (r-1) (r-a-1) (by omega) (by omega)] at q
        exact q) (by
     rcases i2 with q | q
     ·rcases hlh with⟨h1,h2,h3⟩ | ⟨h1,h2,h3⟩
      ·exact .inr (.inl (by omega))
      ·exact .inl (by omega)
     ·by_cases q0:r=m
      ·exact .inl (by omega)
      ·by_cases q1:e=m
       ·exact .inr (.inl (by omega))
       ·refine .inr (.inr ?_)
        rw[HE.out,show P++(L++(R++Q))=(P++L)++(R++Q) by simp,kR (P++L) R Q (p-r) (e-m-1) (by rw[qZa];omega) (by omega),show (P++L)++(R++Q)=P++(L++(R++Q)) by simp,kR P L (R++Q) r (r-a) (by omega) (by omega)] at q
        exact q)
    have t1:L.take (r-a)=L1:=by rw[eL,<-l1,List.take_left]
    have t2:L.drop (r-a)=L2:=by rw[eL,<-l1,List.drop_left]
    have t3:R.take (e-m)=R1:=by rw[eR,<-r1,List.take_left]
    have t4:R.drop (e-m)=R2:=by rw[eR,<-r1,List.drop_left]
    rw[t1,t2,t3,t4] at hc
    have HC:=aB hc
    have HLL:=aB eL
    have HRR:=aB eR
    have HLEN:=aB (And.intro l1 (And.intro l2 (And.intro r1 r2)))
    have HEB:=aB eb
    have u1:(N:Int)-(r:Int)=(e:Int):=by omega
    have u2:e<=n:=by omega
    have u3:r<=n:=by omega
    have u4:IntKind.i64.wrap (e:Int)=(e:Int):=qQa _ (by omega)
    have HEN:=aB he
    have HM2:=aB hmid
    clear i1 i2 hmid hy1 hlh hA hM hB eL eR l1 l2 r1 r2 hc t1 t2 t3 t4 h0 eb he
    obtain⟨b1,hb1⟩:=eX (decide (r<m/\m<e))
    obtain⟨b2,hb2⟩:=eX (decide (a<r/\r<mid))
    obtain⟨b3,hb3⟩:=eX (decide (mid<e/\e<b))
    have HB1:=aB hb1
    have HB2:=aB hb2
    have HB3:=aB hb3
    clear hb1 hb2 hb3
    go_upto_region 39 with fail
    go_cut [24,185] from 174 to 185 (λsv tv wx=>sv=.int .i64 (e:Int)/\tv=.bool b1/\wx=wr)
    case first =>
     by_cases q1:r<m
     ·have q3:(r:Int)<(m:Int):=by omega
      by_cases q2:m<e
      ·have q4:(m:Int)<(e:Int):=by omega
       go_wp2
       go_meet
       exact⟨rfl,by rw[HB1.out];simp[q1,q2],rfl⟩
      ·have q4:¬ (m:Int)<(e:Int):=by omega
       go_wp2
       go_meet
       exact⟨rfl,by rw[HB1.out];simp[q2],rfl⟩
     ·have q3:¬ (r:Int)<(m:Int):=by omega
      go_wp2
      go_meet
      exact⟨rfl,by rw[HB1.out];simp[q1],rfl⟩
    case rest =>
     obtain⟨rfl,rfl,hcw⟩:=hcut
     obtain rfl:=hcw.symm
     clear hcw
     go_upto_if 185 with fail
     go_cut [24] from 186 to 191 (λsv wx=>sv=.int .i64 (e:Int)/\Hid (dO wx A n c (P++(L1++(R1++(L2++(R2++Q))))))/\Hid (aC (λg=>aJ A=some g) w wx))
     case first =>
      have hO:=HO.out
      rw[HE.out,HLL.out,HRR.out] at hO
      cases b1 with
      | true =>
       have hb:=of_decide_eq_true HB1.symm
       have hO2:dO wr A n c ((P++L1)++(L2++(R1++(R2++Q)))):=by simpa using hO
       obtain⟨l1,l2,r1,r2⟩:=HLEN.out
       have hm:=HM.out
       have ha:=HA.out
       have hbb:=HB.out
       have heb:=HEB.out
       have HRO:=aB (aHm wr A n c (P++L1) L2 R1 (R2++Q) hO2 r m e (by rw[qZa];omega) (by omega) (by omega) (by omega) (by omega) Lp)
       clear hO hO2 l1 l2 r1 r2 hm ha hbb heb hb
       go_wp2_with (go_at_call 194;refine HRO.mono ?_;rintro e w2 ⟨rfl,O2,T2⟩;have HO2:=aB O2;have HT2:=aB ((HT.up _).then T2);clear O2 T2)
       go_meet
       exact⟨rfl,aB (by simpa using HO2.out),HT2⟩
      | false =>
       have hb:=of_decide_eq_false HB1.symm
       have hO2:dO wr A n c (P++(L1++(R1++(L2++(R2++Q))))):=by
        obtain⟨l1,l2,r1,r2⟩:=HLEN.out
        have hm:=HM.out
        have heb:=HEB.out
        by_cases q1:r<m
        ·have e1:R1=[]:=qXa (by omega)
         rw[e1] at hO ⊢
         simpa using hO
        ·have e1:L2=[]:=qXa (by omega)
         rw[e1] at hO ⊢
         simpa using hO
       have HO2:=aB hO2
       clear hO hO2 hb
       go_wp2
       go_meet
       exact⟨rfl,HO2,aB (HT.up _)⟩
     case rest =>
      obtain⟨rfl,HO1,HT1⟩:=hcut
      go_upto_region 41 with fail
      go_cut [24,199] from 192 to 199 (λsv tv wx=>sv=.int .i64 (e:Int)/\tv=.bool b2/\wx=wc)
      case first =>
       by_cases q1:a<r
       ·have q3:(a:Int)<(r:Int):=by omega
        by_cases q2:r<mid
        ·have q4:(r:Int)<(mid:Int):=by omega
         go_wp2
         go_meet
         exact⟨rfl,by rw[HB2.out];simp[q1,q2],rfl⟩
        ·have q4:¬ (r:Int)<(mid:Int):=by omega
         go_wp2
         go_meet
         exact⟨rfl,by rw[HB2.out];simp[q2],rfl⟩
       ·have q3:¬ (a:Int)<(r:Int):=by omega
        go_wp2
        go_meet
        exact⟨rfl,by rw[HB2.out];simp[q1],rfl⟩
      case rest =>
       obtain⟨rfl,rfl,hcw⟩:=hcut
       obtain rfl:=hcw.symm
       clear hcw
       obtain⟨w1,hw1⟩:=eX wc
       subst hw1
       go_upto_if 199 with fail
       go_cut [24] from 200 to 205 (λsv wx=>sv=.int .i64 (e:Int)/\Hid (∃ Z1,dO wx A n c (P++(Z1++(L2++(R2++Q))))/\eG Z1/\bP (L1++R1) Z1)/\Hid (aC (λg=>aJ A=some g) w wx))
       case first =>
        have hsL:eG L1:=by have:=HL.out;rw[HLL.out] at this;exact (List.pairwise_append.1 this).1
        have hsR:eG R1:=by have:=HR.out;rw[HRR.out] at this;exact (List.pairwise_append.1 this).1
        obtain⟨l1,l2,r1,r2⟩:=HLEN.out
        have hm:=HM.out
        have ha:=HA.out
        have hbb:=HB.out
        have heb:=HEB.out
        have hff:=HF.out
        have hmi:=HM2.out
        have hen:=HEN.out
        cases b2 with
        | true =>
         have hb:=of_decide_eq_true HB2.symm
         have HRO:=aB (HIH w1 P L1 R1 (L2++(R2++Q)) a r mid HO1 ha (by omega) (by omega) (by omega) (by omega) hsL hsR (by omega))
         clear l1 l2 r1 r2 hm ha hbb heb hb hff hmi hen hsL hsR
         go_wp2_with (go_at_call 192;refine HRO.mono ?_;rintro e w2 ⟨rfl,⟨Z1,O2,s1,k1⟩,T2⟩;have HO2:=aB O2;have HK2:=aB (And.intro s1 k1);have HT2:=aB (HT1.then T2);clear O2 T2 s1 k1)
         go_meet
         exact⟨rfl,aB ⟨Z1,HO2,HK2.1,HK2.2⟩,HT2⟩
        | false =>
         have hb:=of_decide_eq_false HB2.symm
         have hs:eG (L1++R1):=by
          by_cases q1:a<r
          ·have e1:R1=[]:=qXa (by omega)
           rw[e1];simpa using hsL
          ·have e1:L1=[]:=qXa (by omega)
           rw[e1];simpa using hsR
         have HZ:=aB (Exists.intro (p:=λZ1=>dO w1 A n c (P++(Z1++(L2++(R2++Q))))/\eG Z1/\bP (L1++R1) Z1) (L1++R1) (And.intro (by simpa using HO1.out) (And.intro hs (bP.refl _))))
         clear l1 l2 r1 r2 hm ha hbb heb hb hff hmi hen hsL hsR hs
         go_wp2
         go_meet
         exact⟨rfl,HZ,HT1⟩
       case rest =>
        obtain⟨rfl,HZ1,HT2⟩:=hcut
        obtain⟨Z1,O2,s1,k1⟩:=HZ1.out
        have hl1:=bN O2
        have hl2:=bN HO1
        simp only[qZa] at hl1 hl2
        have hsL:eG L2:=by have:=HL.out;rw[HLL.out] at this;exact (List.pairwise_append.1 this).2.1
        have hsR:eG R2:=by have:=HR.out;rw[HRR.out] at this;exact (List.pairwise_append.1 this).2.1
        have hLs:=HL.out
        have hRs:=HR.out
        rw[HLL.out] at hLs
        rw[HRR.out] at hRs
        obtain⟨l1,l2,r1,r2⟩:=HLEN.out
        have hm:=HM.out
        have ha:=HA.out
        have hbb:=HB.out
        have heb:=HEB.out
        have hff:=HF.out
        have hmi:=HM2.out
        have hen:=HEN.out
        have hO2':dO wc A n c ((P++Z1)++(L2++(R2++Q))):=by simpa using O2
        have FIN:=aB (λ(Z2:List aD) (s2:eG Z2) (k2:bP (L2++R2) Z2)=>Mw (L1:=L1) (L2:=L2) (R1:=R1) (R2:=R2) (Z1:=Z1) (Z2:=Z2) hLs hRs HC.1 HC.2 s1 k1 s2 k2)
        have HO3:=aB O2
        by_cases q1:mid<e/\e<b
        ·obtain⟨q1,q2⟩:=q1
         have q3:(mid:Int)<(e:Int):=by omega
         have q4:(e:Int)<(b:Int):=by omega
         have HRO:=aB (HIH wc (P++Z1) L2 R2 Q mid e b hO2' (by rw[qZa];omega) (by omega) (by omega) (by omega) (by omega) hsL hsR (by omega))
         clear l1 l2 r1 r2 hm ha hbb heb hff hmi hen hsL hsR hO2' hl1 hl2 hLs hRs O2 s1 k1
         go_wp2_with (go_at_call 192;refine HRO.mono ?_;rintro e w2 ⟨rfl,⟨Z2,O2,s2,k2⟩,T2⟩;have HO4:=aB O2;have HK2:=aB (And.intro s2 k2);have HT3:=aB (HT2.then T2);clear O2 T2 s2 k2)
         go_end0
         obtain⟨f1,f2⟩:=FIN.out Z2 HK2.1 HK2.2
         rw[<-HLL.out,<-HRR.out] at f2
         exact⟨rfl,⟨Z1++Z2,by simpa using HO4.out,f1,f2⟩,HT3⟩
        ·have hs:eG (L2++R2):=by
          by_cases q2:mid<e
          ·have e1:R2=[]:=qXa (by omega)
           rw[e1];simpa using hsL
          ·have e1:L2=[]:=qXa (by omega)
           rw[e1];simpa using hsR
         obtain⟨f1,f2⟩:=FIN.out (L2++R2) hs (bP.refl _)
         rw[<-HLL.out,<-HRR.out] at f2
         have HFF:=aB (And.intro f1 f2)
         have hq:(¬ (mid:Int)<(e:Int))\/((mid:Int)<(e:Int)/\¬ (e:Int)<(b:Int)):=by omega
         clear l1 l2 r1 r2 hm ha hbb heb hff hmi hen hsL hsR hO2' hl1 hl2 hLs hRs O2 s1 k1 hs f1 f2 q1
         rcases hq with q1 | ⟨q1,q2⟩
         all_goals
          go_wp2
          go_end0
          exact⟨rfl,⟨Z1++(L2++R2),by simpa using HO3.out,HFF.1,HFF.2⟩,HT2⟩
theorem aEh(A:Option Addr)(n c:Nat)(hn62:n<=5864062014700):∀ fuel,SmC A n c fuel:=by
 intro fuel
 induction fuel with
 | zero=>intro w P L R Q a m b _ _ _ _ h1 _ _ _ hf;omega
 | succ fuel ih =>
  intro w P L R Q a m b h ha hm hb hL0 hR0 hL hR hf
  by_cases h1:L.length=1
  ·obtain⟨x,rfl⟩:=List.length_eq_one_iff.1 h1
   exact (aJp w A n c P R Q x (by simpa using h) a m b ha (by simpa using hm) hb hR hn62).mono λe w' hh=>by simpa [Iu] using hh
  ·by_cases h2:R.length=1
   ·obtain⟨x,rfl⟩:=List.length_eq_one_iff.1 h2
    exact (aHt w A n c P L Q x (by simpa using h) a m b ha hm (by simpa using hb) h1 hL hn62).mono λe w' hh=>by simpa [Iu] using hh
   ·exact aHu A n c fuel hn62 ih w P L R Q a m b h ha hm hb (by omega) (by omega) hL hR hf
def Bl(bs:Nat)(Bs:List (List aD)):Prop:=∀ B∈Bs,B.length=bs/\eG B
theorem Qb(h:Bl bs Bs):Bs.flatten.length=Bs.length*bs:=by
 induction Bs with
 | nil=>simp
 | cons B Bs ih =>
  have h1:=(h B (by simp)).1
  have h2:=ih (λC hC=>h C (by simp[hC]))
  simp only[List.flatten_cons,qZa,qJc,h1,h2,Nat.succ_mul]
  omega
theorem Tw{Z:List aD}(h:Bl bs Bs)(hZ:Z.length=bs)(hs:eG Z):Bl bs (Bs++[Z]):=by
 intro B hB
 rcases List.mem_append.1 hB with hB | hB
 ·exact h B hB
 ·simp at hB;subst hB;exact⟨hZ,hs⟩
theorem iQ(Bs:List (List aD))(Z:List aD):(Bs++[Z]).flatten=Bs.flatten++Z:=by simp
theorem Az(h:Bl bs Bs):(Bs=[]/\Bs.flatten.length=0)\/(∃ B,Bs=[B]/\Bs.flatten.length=bs/\B.length=bs/\eG B)\/∃ B1 B2 Bs',Bs=B1 :: B2 :: Bs'/\2*bs<=Bs.flatten.length:=by
 have hl:=Qb h
 rcases Bs with _ | ⟨B1,_ | ⟨B2,Bs'⟩⟩
 ·exact .inl ⟨rfl,rfl⟩
 ·refine .inr (.inl ⟨B1,rfl,?_,h B1 (by simp)⟩)
  rw[hl];exact Nat.one_mul bs
 ·refine .inr (.inr ⟨B1,B2,Bs',rfl,?_⟩)
  rw[hl]
  exact Nat.mul_le_mul_right bs (by simp)
def Zy(w:World)(A:Option Addr)(n c:Nat)(X:List aD)(e:Ending)(w':World):Prop :=
 e=.returned (.tuple #[])/\(∃ Z,dO w' A n c Z/\eG Z/\bP X Z)/\aC (λg=>aJ A=some g) w w'
theorem Sp(w:World)(A:Option Addr)(n c:Nat)(X:List aD)(h:dO w A n c X)(hn62:n<=5864062014700) :
  Calls Tryz.prog 187 #[.slice A n c,.int .i64 n,Lp] w (Zy w A n c X):=by
 have HX:=aB h
 clear h
 go_in
 go_wp2
 go_loopw [7,8] (λav bv wr=>∃ a b:Nat,av=.int .i64 a/\bv=.int .i64 b/\b=a+20/\a<=n/\Hid (∃ Bs T,Bl 20 Bs/\Bs.flatten.length=a/\dO wr A n c (Bs.flatten++T)/\bP X (Bs.flatten++T))/\Hid (aC (λg=>aJ A=some g) w wr)) (λ_ bv _=>n+21-(intOf bv).toNat)
 case atStart=>exact⟨0,20,rfl,rfl,rfl,qQc _,aB ⟨[],X,(λB hB=>by cases hB),rfl,HX,bP.refl _⟩,aB (aC.refl _ _)⟩
 case round =>
  obtain⟨a,b,rfl,rfl,hab,han,HE,HT⟩:=hrel
  by_cases h0:b<=n
  ·have y0:(b:Int)<=(n:Int):=by omega
   obtain⟨Bs,T,hB,hl,O1,K1⟩:=HE.out
   have hlen:=bN O1
   rw[qZa] at hlen
   obtain⟨B,T',rfl,t1,t2⟩:=rE (l:=T) (k:=20) (by omega)
   obtain⟨Z,z1,z2,z3⟩:=Gv Bs.flatten B T' a b hl.symm (by omega)
   have HZ:=aB (And.intro z1 (And.intro z2 z3))
   have HBB:=aB hB
   have HL:=aB (And.intro hl (And.intro t1 hab))
   have HK:=aB K1
   have hab':a<=b:=by omega
   have HIS:=aB (Gw wr A n c _ O1 a b hab' h0 (by omega))
   clear hB hl O1 K1 hlen t1 t2 z1 z2 z3 HE
   obtain⟨b2,hb2⟩:=eX (b+20)
   have y1:(b:Int)+20=(b2:Int):=by omega
   have y2:IntKind.i64.wrap (b2:Int)=(b2:Int):=qQa _ (by omega)
   have HB2:=aB hb2
   clear hb2 hab
   go_wp2_with (go_at_call 191;refine HIS.mono ?_;rintro e w2 ⟨rfl,O2,T2⟩;have HO2:=aB O2;have HT2:=aB (HT.then T2);clear O2 T2)
   go_roundw
   ·obtain⟨hl,t1,hab⟩:=HL.out
    obtain⟨z1,z2,z3⟩:=HZ.out
    have O3:=HO2.out
    rw[z1] at O3
    have lz:Z.length=20:=by
     have h1:=bN O3
     have h2:=congrArg List.length z1
     rw[Cf] at h2
     simp only[qZa] at h1 h2
     omega
    refine⟨b,b2,rfl,rfl,HB2,h0,aB ⟨Bs++[Z],T',Tw HBB lz z2,by rw[iQ,qZa];omega,by rw[iQ];simpa using O3,?_⟩,HT2⟩
    rw[iQ]
    refine HK.trans ?_
    have:=(bP.refl Bs.flatten).app (z3.app (bP.refl T'))
    simpa using this
   ·simp[intOf]
    have:=HB2.out
    omega
  ·obtain⟨Bs,T,hB,hl,O1,K1⟩:=HE.out
   have hlen:=bN O1
   rw[qZa] at hlen
   obtain⟨Z,z1,z2,z3⟩:=Gv Bs.flatten T [] a n hl.symm (by omega)
   rw[List.append_nil,List.append_nil] at z1
   have HIS:=aB (Gw wr A n c _ O1 a n han (qJa _) (by omega))
   have HZ:=aB (And.intro z1 (And.intro z2 z3))
   have HBB:=aB hB
   have HK:=aB K1
   have HL:=aB (And.intro hl (And.intro hlen hab))
   have y0:¬ (b:Int)<=(n:Int):=by omega
   clear hB hl O1 K1 hlen z1 z2 z3 HE hab h0
   go_wp2_with (go_at_call 191;refine HIS.mono ?_;rintro e w2 ⟨rfl,O2,T2⟩;have HO2:=aB O2;have HT2:=aB (HT.then T2);clear O2 T2)
   have HS:Hid (∃ Bs T,Bl 20 Bs/\eG T/\T.length<20/\dO w2 A n c (Bs.flatten++T)/\bP X (Bs.flatten++T)):=aB (by
    obtain⟨hl,hlen,hab⟩:=HL.out
    obtain⟨z1,z2,z3⟩:=HZ.out
    have O3:=HO2.out
    rw[z1] at O3
    have h1:=bN O3
    have h2:=congrArg List.length z1
    rw[Cf] at h2
    simp only[qZa] at h1 h2
    exact⟨Bs,Z,HBB,z2,by omega,O3,HK.trans ((bP.refl _).app z3)⟩)
   clear HIS HZ HBB HK HL HO2 HT
   obtain⟨w0,hw0⟩:=eX w2
   rw[<-hw0] at HS HT2 ⊢
   clear hw0
   go_loopw [6] (λsv wr=>∃ bs:Nat,sv=.int .i64 bs/\0<bs/\bs<=n+n+20/\Hid (∃ Bs T,Bl bs Bs/\eG T/\T.length<bs/\dO wr A n c (Bs.flatten++T)/\bP X (Bs.flatten++T))/\Hid (aC (λg=>aJ A=some g) w wr)) (λsv _=>n-(intOf sv).toNat)
   case atStart=>exact⟨20,rfl,by omega,by omega,HS,HT2⟩
   case round =>
    obtain⟨bs,rfl,hbs,hbs2,HE,HT3⟩:=hrel
    by_cases h1:bs<n
    ·have x0:(bs:Int)<(n:Int):=by omega
     obtain⟨d,hd⟩:=eX (2*bs)
     have x1:(2:Int)*(bs:Int)=(d:Int):=by omega
     have x2:(bs:Int)*2=(d:Int):=by omega
     have x3:IntKind.i64.wrap (d:Int)=(d:Int):=qQa _ (by omega)
     have HD:=aB hd
     have hd2:d<=n+n:=by omega
     clear hd
     go_wp2
     obtain⟨wo,rfl⟩:∃ wo:World,wo=wr:=⟨_,rfl⟩
     go_loopw [7,8] (λav bv wr=>∃ a b:Nat,av=.int .i64 a/\bv=.int .i64 b/\b=a+d/\a<=n/\Hid (∃ Ds Bs T,Bl d Ds/\Ds.flatten.length=a/\Bl bs Bs/\eG T/\T.length<bs/\dO wr A n c (Ds.flatten++(Bs.flatten++T))/\bP X (Ds.flatten++(Bs.flatten++T)))/\Hid (aC (λg=>aJ A=some g) w wr)) (λav _ _=>n+1-(intOf av).toNat)
     case atStart =>
      obtain⟨Bs,T,q1,q2,q3,q4,q5⟩:=HE.out
      exact⟨0,d,rfl,rfl,by omega,qQc _,aB ⟨[],Bs,T,(λB hB=>by cases hB),rfl,q1,q2,q3,q4,q5⟩,HT3⟩
     case round =>
      obtain⟨a,b,rfl,rfl,hab,han,HE2,HT4⟩:=hrel
      obtain⟨Ds,Bs,T,q1,q2,q3,q4,q5,q6,q7⟩:=HE2.out
      have hlen:=bN q6
      have hbl:=Qb q3
      simp only[qZa] at hlen
      have hdd:=HD.out
      obtain⟨m,hm⟩:=eX (a+bs)
      have w0:(a:Int)+(bs:Int)=(m:Int):=by omega
      have w1:IntKind.i64.wrap (m:Int)=(m:Int):=qQa _ (by omega)
      by_cases h2:b<=n
      ·have y0:(b:Int)<=(n:Int):=by omega
       have hB2:∃ B1 B2 Bs',Bs=B1 :: B2 :: Bs':=by
        rcases Az q3 with⟨_,e⟩ | ⟨B,_,e,_⟩ | ⟨B1,B2,Bs',e,_⟩
        ·omega
        ·omega
        ·exact⟨B1,B2,Bs',e⟩
       obtain⟨B1,B2,Bs',rfl⟩:=hB2
       obtain⟨c1,s1⟩:=q3 B1 (by simp)
       obtain⟨c2,s2⟩:=q3 B2 (by simp)
       have q3':Bl bs Bs':=λB hB=>q3 B (by simp[hB])
       have e1:Ds.flatten++((B1 :: B2 :: Bs').flatten++T)=Ds.flatten++(B1++(B2++(Bs'.flatten++T))):=by simp
       rw[e1] at q6 q7
       have HSM:=aB (aEh A n c hn62 _ wr Ds.flatten B1 B2 (Bs'.flatten++T) a m b q6 q2.symm (by omega) (by omega) (by omega) (by omega) s1 s2 (qJa _))
       have HK:=aB q7
       have HP:=aB (And.intro q1 (And.intro q2 (And.intro q3' (And.intro q4 q5))))
       have HC:=aB (And.intro c1 (And.intro c2 (And.intro hlen hab)))
       obtain⟨b2,hb2⟩:=eX (b+d)
       have y1:(b:Int)+(d:Int)=(b2:Int):=by omega
       have y2:IntKind.i64.wrap (b2:Int)=(b2:Int):=qQa _ (by omega)
       have HB2:=aB hb2
       have hab3:a<b:=by omega
       clear q1 q2 q3 q4 q5 q6 q7 hlen hbl hdd hm e1 c1 c2 s1 s2 q3' HE2 hb2 hab
       go_wp2_with (go_at_call 192;refine HSM.mono ?_;rintro e w2 ⟨rfl,⟨Z,O2,s2,k2⟩,T2⟩;have HO2:=aB O2;have HK2:=aB (And.intro s2 k2);have HT5:=aB (HT4.then T2);clear O2 T2 s2 k2)
       go_roundw
       ·obtain⟨q1,q2,q3',q4,q5⟩:=HP.out
        obtain⟨c1,c2,hlen,hab⟩:=HC.out
        have hl2:=bN HO2
        have hdd:=HD.out
        simp only[qZa,List.flatten_cons] at hlen hl2
        have lz:Z.length=d:=by omega
        refine⟨b,b2,rfl,rfl,HB2,h2,aB ⟨Ds++[Z],Bs',T,Tw q1 lz HK2.1,by rw[iQ,qZa];omega,q3',q4,q5,by rw[iQ];simpa using HO2.out,?_⟩,HT5⟩
        rw[iQ]
        refine HK.trans ?_
        have:=(bP.refl Ds.flatten).app (HK2.2.app (bP.refl (Bs'.flatten++T)))
        simpa using this
       ·simp[intOf]
        omega
      ·have y0:¬ (b:Int)<=(n:Int):=by omega
       have hB2:(Bs=[]/\Bs.flatten.length=0)\/∃ B,Bs=[B]/\Bs.flatten.length=bs/\B.length=bs/\eG B:=by
        rcases Az q3 with e | e | ⟨B1,B2,Bs',_,e⟩
        ·exact .inl e
        ·exact .inr e
        ·omega
       by_cases h3:m<n
       ·have y1:(m:Int)<(n:Int):=by omega
        have hB3:∃ B,Bs=[B]/\Bs.flatten.length=bs/\B.length=bs/\eG B:=by
         rcases hB2 with⟨_,e⟩ | e
         ·omega
         ·exact e
        obtain⟨B,rfl,c0,c1,s1⟩:=hB3
        have e1:Ds.flatten++([B].flatten++T)=Ds.flatten++(B++(T++[])):=by simp
        rw[e1] at q6 q7
        have HSM:=aB (aEh A n c hn62 _ wr Ds.flatten B T [] a m n q6 q2.symm (by omega) (by omega) (by omega) (by omega) s1 q4 (qJa _))
        have HK:=aB q7
        have HP:=aB (And.intro q1 (And.intro q2 hab))
        clear q1 q2 q3 q4 q5 q6 q7 hlen hbl hdd hm e1 c0 c1 s1 HE2 hab h3 hB2
        go_wp2_with (go_at_call 192;refine HSM.mono ?_;rintro e w2 ⟨rfl,⟨Z,O2,s2,k2⟩,T2⟩;have HO2:=aB O2;have HK2:=aB (And.intro s2 k2);have HT5:=aB (HT4.then T2);clear O2 T2 s2 k2)
        go_roundw
        ·obtain⟨q1,q2,hab⟩:=HP.out
         have hl2:=bN HO2
         have hdd:=HD.out
         simp only[qZa,List.length_nil] at hl2
         refine⟨d,rfl,by omega,by omega,aB ⟨Ds,Z,q1,HK2.1,by omega,by simpa using HO2.out,?_⟩,HT5⟩
         refine HK.trans ?_
         have:=(bP.refl Ds.flatten).app (HK2.2.app (bP.refl ([]:List aD)))
         simpa using this
        ·have:=HD.out
         show n-(d:Int).toNat<n-(bs:Int).toNat
         omega
       ·have y1:¬ (m:Int)<(n:Int):=by omega
        have HS2:Hid (∃ Bs T,Bl d Bs/\eG T/\T.length<d/\dO wr A n c (Bs.flatten++T)/\bP X (Bs.flatten++T)):=aB (by
         rcases hB2 with⟨rfl,_⟩ | ⟨B,rfl,c0,c1,s1⟩
         ·simp only[List.flatten_nil,qXb] at q6 q7
          exact⟨Ds,T,q1,q4,by omega,q6,q7⟩
         ·have e1:T=[]:=qXa (by omega)
          subst e1
          simp at q6 q7
          exact⟨Ds,B,q1,s1,by omega,q6,q7⟩)
        clear q1 q2 q3 q4 q5 q6 q7 hlen hbl hdd hm HE2 hab h3 hB2
        go_wp2
        go_roundw
        ·have hdd:=HD.out
         exact⟨d,rfl,by omega,by omega,HS2,HT4⟩
        ·have:=HD.out
         show n-(d:Int).toNat<n-(bs:Int).toNat
         omega
    ·have x0:¬ (bs:Int)<(n:Int):=by omega
     obtain⟨Bs,T,q1,q2,q3,q4,q5⟩:=HE.out
     have hlen:=bN q4
     have hbl:=Qb q1
     rw[qZa] at hlen
     have hfin:eG (Bs.flatten++T):=by
      rcases Az q1 with⟨rfl,_⟩ | ⟨B,rfl,c0,c1,s1⟩ | ⟨B1,B2,Bs',_,e⟩
      ·simpa using q2
      ·have e1:T=[]:=qXa (by omega)
       subst e1
       simpa using s1
      ·omega
     have HFI:=aB (And.intro q4 (And.intro hfin q5))
     clear q1 q2 q3 q4 q5 hlen hbl hfin HE
     go_wp2
     go_end0
     exact⟨rfl,⟨_,HFI.1,HFI.2.1,HFI.2.2⟩,HT3⟩
theorem Ke(w:World)(A:Option Addr)(n c:Nat)(X:List aD)(h:dO w A n c X)(hn62:n<=5864062014700) :
  Calls Tryz.prog 176 #[.slice A n c,Lp] w (Zy w A n c X):=by
 have HX:=aB (Sp w A n c X h hn62)
 clear h
 go_in
 go_wp2_with (go_at_call 187;refine HX.mono ?_;rintro e w2 ⟨rfl,H2,T2⟩;have HZ:=aB H2;have HT:=aB T2;clear H2 T2)
 go_end0
 exact⟨rfl,HZ,HT⟩
end Go.Proofs.YthockgmbooefpaaGreatDoor
