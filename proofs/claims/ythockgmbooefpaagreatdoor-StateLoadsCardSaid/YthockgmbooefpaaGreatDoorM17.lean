/- What the law rests on, part 17. No condition but those that each theorem names. -/
import Derived.Test.YthockgmbooefpaaGreatDoorM15
import Derived.Test.YthockgmbooefpaaGreatDoorM08
import Derived.Test.YthockgmbooefpaaGreatDoorM16
import Derived.Test.YthockgmbooefpaaGreatDoorM14
import Derived.Test.YthockgmbooefpaaGreatDoorM11
set_option linter.unusedSectionVars false
set_option linter.unusedSimpArgs false
set_option linter.unusedVariables false
set_option maxRecDepth 100000
set_option maxHeartbeats 8000000
namespace Go.Proofs.YthockgmbooefpaaGreatDoor
open IntWalk renaming i64_in → qQa, u64_in → qQb
open List renaming append_assoc → qXa, length_append → qJa, nil_append → qZb, length_drop → qJb, drop_drop → qQc, map_take → qXc, drop_of_length_le → qJd
open Nat renaming zero_le → qZa, zero_add → qXb, pow_le_pow_right → qZd
variable{base e e0 e3:Int}{b t xs:List UInt8}{Z:List ZV}{sts:List bP}{Zp:List iS}{N bn c g i k many n p p0 p3 sc:Nat}{A sA:Option Addr}{x y z:Value}{w w10 wr:World}
open Go.RowKit
def Zh(xs:List UInt8)(e:Ending):Prop :=
 (∃ (v k:Nat),pV xs=some (v,xs.drop k)/\0<k/\k<=xs.length/\v<18446744073709551616/\e=.returned (.tuple #[.int .u64 v,.int .i64 k,.int .i64 0])) \/
 (pV xs=none/\∃ k:Int,1<=k/\e=.returned (.tuple #[.int .u64 0,.int .i64 0,.int .i64 k]))
theorem Pz(h:aI w 1 A n (xs.map aP))(hl:xs.length=n)(i:Nat)(hi:i<n) :
  ∃ g off,A=some ⟨g,off,none⟩/\w.cell? ⟨g,off+i,none⟩=some (.int .u8 ((xs.getD i 0).toNat:Int)):=by
 obtain⟨g,off,hA,_,hc⟩:=h.2 (by omega)
 refine⟨g,off,hA,hc i _ ?_⟩
 simp[List.getD,aP,show i<xs.length by omega]
theorem Sc(h:i<=9):128 ^ i<=9223372036854775808:=by
 have:128 ^ i<=128 ^ 9:=qZd (by omega) h
 exact Nat.le_trans this (by decide)
def P9(i:Nat):Nat:=128 ^ i
theorem Ot(i:Nat):P9 (i+1)=P9 i*128:=Nat.pow_succ ..
theorem aGd(h:i<=9):P9 i<=9223372036854775808:=Sc h
theorem Wt(h:i<=8):P9 i<=72057594037927936:=by
 have:128 ^ i<=128 ^ 8:=qZd (by omega) h
 exact Nat.le_trans this (by decide)
theorem aDz{r:Nat}(hr:r<=127):r*P9 i<=127*P9 i:=Nat.mul_le_mul_right _ hr
theorem Rr(i acc:Nat)(c:UInt8)(t:List UInt8):sI i acc (c :: t)=if i=9/\1<c.toNat then none else if 128<=c.toNat then sI (i+1) (acc+(c.toNat-128)*P9 i) t else if c.toNat=0/\0<i then none else some (acc+c.toNat*P9 i,t):=rfl
theorem Qv(xs:List UInt8)(i:Nat)(hi:i<xs.length):xs.drop i=xs.getD i 0 :: xs.drop (i+1):=by
 rw[List.drop_eq_getElem_cons hi]
 simp[List.getD,hi]
theorem vI(w:World)(A:Option Addr)(n c:Nat)(xs:List UInt8)(hr:aI w 1 A n (xs.map aP))(hl:xs.length=n)(hn:n<=4398046511104) :
  Calls Tryz.prog 130 #[.slice A n c] w λe w'=>Zh xs e/\aC (λ_=>False) w w':=by
 have HR:=aB hr
 have HL:=aB hl
 have HN:=aB hn
 clear hr hl hn
 go_in
 go_wp2_with fail
 go_loopw [5,6,7] (λav pv iv wr=>∃ i acc P:Nat,av=.int .u64 acc/\pv=.int .u64 P/\iv=.int .i64 i/\i<=n/\Hid (pV xs=sI i acc (xs.drop i))/\Hid (P=P9 i/\acc<P9 i/\i<=9)/\Hid (aC (λ_=>False) w wr)) (λ_ _ iv _=>n-(intOf iv).toNat)
 case atStart=>exact⟨0,0,1,rfl,rfl,rfl,qZa _,aB rfl,aB ⟨rfl,by decide,by omega⟩,aB (aC.refl _ _)⟩
 case round =>
  obtain⟨i,acc,P,rfl,rfl,rfl,hin,HE,HP,HT⟩:=hrel
  by_cases hi2:i<n
  ·have y0:(i:Int)<(n:Int):=by omega
   have y1:(0:Int)<=(i:Int):=by omega
   have y2:IntKind.i64.wrap ((i:Int)+1)=(i:Int)+1:=qQa _ (by have:=HN.out;omega)
   obtain⟨g,o,hA,c0⟩:=Pz (HR.touch HT (λ_ _ f=>f)) HL i hi2
   subst hA
   have he:=HE.out
   rw[Qv xs i (by rw[HL.out];exact hi2),Rr] at he
   obtain⟨m,hm⟩:=eX ((xs.getD i 0).toNat)
   have hm256:m<256:=by rw[hm];exact UInt8.toNat_lt _
   rw[<-hm] at he c0
   obtain⟨hp1,hp2,hp3⟩:=HP.out
   have HI2:=aB hi2
   clear hm hi2 hin
   by_cases hA:i=9/\1<m
   ·rw[if_pos hA] at he
    have HEE:=aB he
    have g9:((i:Int) == 9)=true:=by simp;omega
    have g1:(1:Int)<(m:Int):=by omega
    clear he hA hp1 hp2 hp3
    go_wp2_with fail
    exact bodyPost_ret (v:=.tuple #[.int .u64 0,.int .i64 0,.int .i64 21]) (by simp[results,Tryz.results130,go_sem]) rfl ⟨.inr ⟨HEE,21,by omega,rfl⟩,HT⟩
   ·rw[if_neg hA] at he
    obtain⟨r,hr⟩:=eX (m % 128)
    have hr127:r<=127:=by omega
    have e3:Int.tmod (m:Int) 128=(r:Int):=by rw[Int.tmod_eq_emod_of_nonneg (by omega)];omega
    obtain⟨Q,hQ⟩:=eX (r*P)
    have hQP:Q<=127*P9 i:=by rw[hQ,hp1];exact aDz hr127
    have hQ9:i=9->Q<=P9 i:=by
     intro h9
     have:r<=1:=by omega
     rw[hQ,hp1]
     calc r*P9 i<=1*P9 i:=Nat.mul_le_mul_right _ this
      _=P9 i:=Nat.one_mul _
    have hSb:acc+Q<18446744073709551616:=by
     by_cases h9:i=9
     ·have h1:=hQ9 h9
      have h2:=aGd hp3
      omega
     ·have h2:=Wt (i:=i) (by omega)
      omega
    have hQb:Q<18446744073709551616:=by omega
    have z0:IntKind.u8.wrap (r:Int)=(r:Int):=IntWalk.u8_in _ (by omega)
    have z1:IntKind.u64.wrap (r:Int)=(r:Int):=qQb _ (by omega)
    have z2:IntKind.u64.wrap ((r:Int)*(P:Int))=(Q:Int):=by
     rw[show (r:Int)*(P:Int)=(Q:Int) by rw[hQ];push_cast;rfl]
     exact qQb _ (by omega)
    obtain⟨S,hS⟩:=eX (acc+Q)
    have z3:IntKind.u64.wrap ((acc:Int)+(Q:Int))=(S:Int):=by
     rw[show (acc:Int)+(Q:Int)=(S:Int) by rw[hS];push_cast;rfl]
     exact qQb _ (by omega)
    obtain⟨P2,hP2⟩:∃ P2:Nat,IntKind.u64.wrap ((P:Int)*128)=(P2:Int)/\(i<=8->P2=P9 (i+1)):=by
     by_cases h8:i<=8
     ·refine⟨P9 (i+1),?_,λ_=>rfl⟩
      have h2:=Wt h8
      rw[Ot,hp1]
      rw[show ((P9 i:Nat):Int)*128=((P9 i*128:Nat):Int) by push_cast;rfl]
      exact qQb _ (by omega)
     ·have hPe:(P:Int)*128=1180591620717411303424:=by
       rw[hp1,show i=9 by omega]
       decide
      exact⟨0,by rw[hPe];decide,λh=>absurd h h8⟩
    obtain⟨z4,hP28⟩:=hP2
    have HS:=aB hS
    have HQ:=aB (And.intro hQ hQP)
    have HRR:=aB hr
    have HPP:=aB (And.intro hp1 (And.intro hp2 hp3))
    have HP28:=aB hP28
    have HNA:=aB hA
    have HSB:=aB hSb
    clear hS hQ hQP hr hp1 hp2 hp3 hP28 hQ9 hSb hQb hr127
    have hgd:(((i:Int) == 9)=true/\¬ (1:Int)<(m:Int))\/((i:Int) == 9)=false:=by
     by_cases h9:i=9
     ·left
      exact⟨by simp;omega,by omega⟩
     ·right
      simp
      omega
    by_cases hB:128<=m
    ·rw[if_pos hB] at he
     have g128:¬ (m:Int)<128:=by omega
     have g9:((i:Int) == 9)=false:=by
      rcases hgd with⟨_,h⟩ | h
      ·omega
      ·exact h
     have hm128:m-128=r:=by have:=HRR.out;omega
     rw[hm128] at he
     have HEE:=aB he
     have h8:i<=8:=by
      have h1:=HPP.2.2
      have h2:¬ (i:Int)=9:=by simpa using g9
      omega
     have HI8:=aB h8
     clear he hB hA hgd hm128 h8
     go_wp2_with fail
     go_roundw
     ·refine⟨i+1,S,P2,rfl,rfl,by simp,by have:=HI2.out;omega,aB ?_,aB ⟨HP28 HI8,?_,by have:=HI8.out;omega⟩,HT⟩
      ·rw[HEE.out,HS.out,HQ.1,HPP.1]
      ·have h1:=HQ.2
       have h2:=HPP.2.1
       have h3:=HS.out
       rw[Ot]
       omega
     ·have:=HI2.out
      simp only[intOf]
      omega
    ·rw[if_neg hB] at he
     have g128:(m:Int)<128:=by omega
     have hrm:r=m:=by have:=HRR.out;omega
     by_cases hZ:m=0/\0<i
     ·rw[if_pos hZ] at he
      have HEE:=aB he
      have gz:((m:Int) == 0)=true:=by simp;omega
      have gi:(0:Int)<(i:Int):=by omega
      clear he hB hA hZ hrm
      rcases hgd with⟨g9,g1⟩ | g9
      all_goals
       go_wp2_with fail
       exact bodyPost_ret (v:=.tuple #[.int .u64 0,.int .i64 0,.int .i64 21]) (by simp[results,Tryz.results130,go_sem]) rfl ⟨.inr ⟨HEE,21,by omega,rfl⟩,HT⟩
     ·rw[if_neg hZ] at he
      have hfin:pV xs=some (S,xs.drop (i+1)):=by
       rw[he,HS.out,HQ.1,HPP.1,hrm]
      have HEE:=aB hfin
      have hgz:(((m:Int) == 0)=true/\¬ (0:Int)<(i:Int))\/((m:Int) == 0)=false:=by
       by_cases h0:m=0
       ·left
        exact⟨by simp;omega,by omega⟩
       ·right
        simp
        omega
      clear he hB hA hZ hrm hfin
      rcases hgd with⟨g9,g1⟩ | g9
      all_goals
       rcases hgz with⟨gz,gi⟩ | gz
       all_goals
        go_wp2_with fail
        exact bodyPost_ret (v:=.tuple #[.int .u64 S,.int .i64 ((i:Int)+1),.int .i64 0]) (by simp[results,Tryz.results130,go_sem]) rfl ⟨.inl ⟨S,i+1,HEE,by omega,by have:=HI2.out;have:=HL.out;omega,by have:=HSB.out;have:=HS.out;omega,by simp⟩,HT⟩
  ·have hie:i=n:=by omega
   have y0:¬ (i:Int)<(n:Int):=by omega
   have he:=HE.out
   rw[qJd (by rw[HL.out];omega)] at he
   have HEE:=aB (show pV xs=none by rw[he];rfl)
   clear he hie hi2 hin
   go_wp2_with fail
   exact bodyPost_ret (v:=.tuple #[.int .u64 0,.int .i64 0,.int .i64 20]) (by simp[results,Tryz.results130,go_sem]) rfl ⟨.inr ⟨HEE,20,by omega,rfl⟩,HT⟩
def oC(i:Nat):Nat->Int->List UInt8->Option (List (Int × Int × Int) × List UInt8)
 | 0,_,xs=>some ([],xs)
 | k+1,l,xs=>match bU 1114111 xs with
  | none=>none
  | some (d,t1)=>match bU 1048576 t1 with
   | none=>none
   | some (o,t2)=>match bU 98305 t2 with
    | none=>none
    | some (b,t3)=>if 1114111<l+(d:Int) then none else match oC i k (l+d) t3 with
     | none=>none
     | some (ars,t4)=>some ((l+d,(o:Int),(i:Int)-(b:Int)) :: ars,t4)
def stQ(N i:Nat)(xs:List UInt8):Option (iS × List UInt8):=match bU (2*N+1) xs with
 | none=>none
 | some (n,t1)=>match iU (decide (n % 2=1)) t1 with
  | none=>none
  | some (o,t2)=>match oC i (n / 2) 0 t2 with
   | none=>none
   | some (ars,t3)=>some (⟨decide (n % 2=1),(o:Int),ars⟩,t3)
def Ft(N:Nat):Nat->Nat->List UInt8->Option (List iS × List UInt8)
 | 0,_,xs=>some ([],xs)
 | k+1,i,xs=>match stQ N i xs with
  | none=>none
  | some (s,t1)=>match Ft N k (i+1) t1 with
   | none=>none
   | some (l,t2)=>some (s :: l,t2)
def jW(N:Nat)(xs:List UInt8):Option ((Nat × List iS) × List UInt8):=match bU 1048576 xs with
 | none=>none
 | some (base,t1)=>match bU 98305 t1 with
  | none=>none
  | some (n,t2)=>match Ft N n 0 t2 with
   | none=>none
   | some (l,t3)=>some ((base,l),t3)
theorem uT(i:Nat)(hi:i<=98305):∀ (l:List (Nat × Int × Nat)) (p:Nat) (t:List UInt8),(∀ a∈l,p<=a.1)->(l.map (·.1)).Pairwise (·<·)->(∀ a∈l,a.1<1114112/\0<=a.2.1/\a.2.1<=1048576/\a.2.2<i) ->
  oC i l.length p (eG i p l++t)=some (l.map fN,t)
 | [],p,t,_,_,_=>rfl
 | a :: l,p,t,hp,hs,hb=>by
  obtain⟨h1,h2,h3,h4⟩:=hb a List.mem_cons_self
  have h5:=hp a List.mem_cons_self
  rw[List.map_cons,List.pairwise_cons] at hs
  have ih:=uT i hi l a.1 t (λb hb'=>Nat.le_of_lt (hs.1 _ (List.mem_map_of_mem hb'))) hs.2 (λb hb'=>hb b (List.mem_cons_of_mem _ hb'))
  simp only[eG,xC,List.length_cons,oC,qXa]
  rw[cC (by omega) (by omega)]
  simp only
  rw[cC (by omega) (by omega)]
  simp only
  rw[cC (by omega) (by omega)]
  simp only
  have e:(p:Int)+((a.1-p:Nat):Int)=(a.1:Int):=by omega
  rw[e,if_neg (by omega),ih]
  simp only[List.map_cons,fN]
  rw[show ((a.2.1.toNat:Nat):Int)=a.2.1 by omega,show (i:Int)-((i-a.2.2:Nat):Int)=(a.2.2:Int) by omega]
theorem Sy(N i:Nat)(hi:i<=98305){s:bP}(hf:dQ i s)(hlen:s.arcs.length<=2097152)(t:List UInt8)(hN:(Mz i s++t).length<=N):stQ N i (Mz i s++t)=some (s.z,t):=by
 have ha:=uT i hi s.arcs 0 t (λ_ _=>qZa _) hf.lab (λa h=>by
  have h1:=(hf.run a h).1
  have h2:=hf.arc a h
  refine⟨?_,h2⟩
  unfold dS at h1
  simp at h1
  omega)
 have hl:=tC i s.arcs 0
 have ho0:=hf.out0
 have ho1:=hf.out1
 have hN2:s.arcs.length<=N:=by
  unfold Mz at hN
  simp only[qJa] at hN
  omega
 unfold stQ Mz mR
 by_cases hfin:s.fin=true
 ·rw[if_pos hfin]
  simp only[qXa]
  rw[cC (by omega) (by omega)]
  simp only[iU]
  rw[if_pos (by simp),cC (by omega) (by omega)]
  simp only
  rw[show (2*s.arcs.length+1) / 2=s.arcs.length by omega]
  have ha':oC i s.arcs.length 0 (eG i 0 s.arcs++t)=some (s.arcs.map fN,t):=ha
  rw[ha']
  simp only[bP.z,hfin]
  rw[show decide ((2*s.arcs.length+1) % 2=1)=true by simp,show ((s.out.toNat:Nat):Int)=s.out by omega]
 ·have hff:s.fin=false:=by simpa using hfin
  rw[if_neg hfin]
  simp only[qXa]
  rw[cC (by omega) (by omega)]
  simp only[iU]
  rw[if_neg (by simp)]
  simp only
  rw[show (2*s.arcs.length) / 2=s.arcs.length by omega]
  have ha':oC i s.arcs.length 0 (eG i 0 s.arcs++t)=some (s.arcs.map fN,t):=ha
  rw[ha']
  simp only[bP.z,hff]
  rw[show decide ((2*s.arcs.length) % 2=1)=false by simp,hf.fin0 hff]
  rfl
theorem Ah(N:Nat):∀ (l:List bP) (i:Nat) (t:List UInt8),i+l.length<=98305->(∀ j,j<l.length->dQ (i+j) (l.getD j aS))->(lF i l++t).length<=N->Ft N l.length i (lF i l++t)=some (l.map bP.z,t)
 | [],_,_,_,_,_=>rfl
 | s :: l,i,t,hi,hf,hN=>by
  have h0:=hf 0 (by simp)
  simp only[Nat.add_zero,List.getD_cons_zero] at h0
  have hl:(s :: l).length=l.length+1:=rfl
  rw[hl] at hi
  simp only[lF,qXa] at hN
  have ih:=Ah N l (i+1) t (by omega) (λj hj=>by
   have h:=hf (j+1) (by rw[hl];omega)
   rw[List.getD_cons_succ,show i+(j+1)=i+1+j by omega] at h
   exact h) (by rw[qJa] at hN;omega)
  simp only[lF,List.length_cons,Ft,qXa]
  rw[Sy N i (by omega) h0 (kL h0) _ hN]
  simp only
  rw[ih]
  rfl
theorem Hx{base:Nat}(hb:base<=1048576)(hn:sts.length<=98305)(hf:∀ i,i<sts.length->dQ i (sts.getD i aS))(N:Nat)(hN:(eU base sts).length<=N):jW N (eU base sts)=some ((base,sts.map bP.z),[]):=by
 have h:=Ah N sts 0 [] (by omega) (λj hj=>by rw[qXb];exact hf j hj) (by
  unfold eU at hN
  rw[qJa] at hN
  rw[List.append_nil]
  omega)
 rw[List.append_nil] at h
 unfold jW eU uJ
 simp only[qXa,Int.toNat_natCast]
 rw[cC hb (by omega)]
 simp only
 rw[cC hn (by omega)]
 simp only
 rw[h]
theorem Ea(most:Nat)(xs:List UInt8):bU most xs=match pV xs with
 | none=>none
 | some (n,t)=>if n<=most then some (n,t) else none:=rfl
def Tq(A:Option Addr)(n c:Nat)(p:Int)(e:Int):Value:=.agg #[.slice A n c,.int .i64 p,.int .i64 e]
def Ze(A:Option Addr)(n c:Nat)(xs:List UInt8)(p:Nat)(most:Nat)(e:Ending):Prop :=
 (∃ v k:Nat,bU most (xs.drop p)=some (v,xs.drop (p+k))/\p+k<=n/\v<=most/\e=.returned (.tuple #[Tq A n c ((p+k:Nat):Int) 0,.int .u64 v])) \/
 (bU most (xs.drop p)=none/\∃ k:Int,1<=k/\e=.returned (.tuple #[Tq A n c p k,.int .u64 0]))
theorem Qh(h:aI w 1 A n (xs.map aP))(hp:p<=n)(hc:n<=c) :
  aI w 1 (if c=p then A else A.map (·.add p)) (n-p) ((xs.drop p).map aP):=by
 have:=h.cut (cap:=c) hp hc
 simp only[Nat.mul_one] at this
 rw[<-List.map_drop] at this
 exact this
theorem sN(w:World)(A:Option Addr)(n c:Nat)(xs:List UInt8)(hr:aI w 1 A n (xs.map aP))(hl:xs.length=n)(hn:n<=4398046511104)(hnc:n<=c)(hA:A=none->n=0/\c=0)(p:Nat)(hp:p<=n)(most:Nat) :
  Calls Tryz.prog 72 #[Tq A n c p 0,.int .u64 most] w λe w'=>Ze A n c xs p most e/\aC (λ_=>False) w w':=by
 obtain⟨w1,hw1⟩:=eX ((w.alloc (.cells #[.slice A n c,.int .i64 p,.int .i64 0] 138)).alloc (.cells #[.slice none 0 0,.int .i64 0,.int .i64 0] 138))
 have hT1:aC (λ_=>False) w w1:=by rw[hw1];exact ((aC.refl _ _).alloc _).alloc _
 have hb1:aL w1 w.heap.size 138 #[.slice A n c,.int .i64 p,.int .i64 0]:=by rw[hw1];exact (aL.new _ _ _).alloc _
 have hb2:aL w1 (w.heap.size+1) 138 #[.slice none 0 0,.int .i64 0,.int .i64 0]:=by rw[hw1];exact fU _ _ _ _
 have y0:(0:Int)<=(p:Int):=by omega
 have y1:(p:Int)<=(n:Int):=by omega
 have y2:(n:Int)<=(c:Int):=by omega
 have y3:(p:Int)<=(c:Int):=by omega
 have hdl:(xs.drop p).length=n-p:=by rw[qJb,hl]
 have HT1:=aB hT1
 have HB1:=aB hb1
 have HB2:=aB hb2
 have HW1:=aB hw1
 have HDL:=aB hdl
 have HPN:=aB (And.intro hp hn)
 unfold Tq
 by_cases hpn:p<n
 ·obtain⟨ad,rfl⟩:∃ ad,A=some ad:=by
   cases A with
   | none=>have:=(hA rfl).1;omega
   | some ad=>exact⟨ad,rfl⟩
  have hcp:¬ c=p:=by omega
  have hcut:=Qh (hr.touch hT1 (λ_ _ f=>f)) hp hnc
  rw[if_neg hcp] at hcut
  have hcall:=vI w1 (some (ad.add p)) (n-p) (c-p) (xs.drop p) hcut hdl (by omega)
  have HC:=aB hcall
  clear hcall hcut hr hl hn hnc hA hT1 hb1 hb2 hw1 hdl hp
  go_in
  go_wp2_with fail
  rw[<-HW1.out]
  refine HC.mono ?_
  rintro e w2 ⟨⟨v,k,h1,hk0,hk1,hv,rfl⟩ | ⟨h1,k,hk,rfl⟩,T2⟩
  ·have hkn:p+k<=n:=by have:=HDL.out;have:=HPN.1;omega
   have z1:IntKind.i64.wrap ((p:Int)+(k:Int))=(p:Int)+(k:Int):=qQa _ (by have:=HPN.2;omega)
   obtain⟨r0,r1,r2⟩:=(HB1.touch T2 (λf=>f)).facts
   obtain⟨q0,q1,q2⟩:=(HB2.touch T2 (λf=>f)).facts
   have HT2:=aB (HT1.then T2)
   have HKN:=aB hkn
   have hu:=Ea most (xs.drop p)
   rw[h1] at hu
   simp only at hu
   by_cases hvm:v<=most
   ·rw[if_pos hvm,qQc] at hu
    have g0:¬ (most:Int)<(v:Int):=by omega
    have g1:decide ((most:Int)<(v:Int))=false:=by simp;omega
    have HU:=aB hu
    have HVM:=aB hvm
    clear hu hvm h1 hk0 hk1 hv T2 hkn HC
    go_wp2_with fail
    refine bodyPost_ret (v:=.tuple #[.agg #[.slice _ n c,.int .i64 ((p:Int)+(k:Int)),.int .i64 0],.int .u64 v]) (by simp[results,Tryz.results72,go_sem,q0,q1];try rfl) rfl ⟨.inl ⟨v,k,HU,HKN,HVM,by simp[Tq]⟩,?_⟩
    repeat' first | exact HT2 | exact aC.drew ?_ | exact aC.drewN ?_ _ | refine aC.setCell ?_ (λh=>by simp only at h;omega) _
   ·rw[if_neg hvm] at hu
    have g0:(most:Int)<(v:Int):=by omega
    have g1:decide ((most:Int)<(v:Int))=true:=by simp;omega
    have HU:=aB hu
    clear hu hvm h1 hk0 hk1 hv T2 hkn HC
    go_wp2_with fail
    refine bodyPost_ret (v:=.tuple #[.agg #[.slice _ n c,.int .i64 p,.int .i64 22],.int .u64 0]) (by simp[results,Tryz.results72,go_sem,q0,q1];try rfl) rfl ⟨.inr ⟨HU,22,by omega,rfl⟩,?_⟩
    repeat' first | exact HT2 | exact aC.drew ?_ | exact aC.drewN ?_ _ | refine aC.setCell ?_ (λh=>by simp only at h;omega) _
  ·have k0:(k != 0)=true:=by simp;omega
   have k1:(k == 0)=false:=by simp;omega
   obtain⟨r0,r1,r2⟩:=(HB1.touch T2 (λf=>f)).facts
   obtain⟨q0,q1,q2⟩:=(HB2.touch T2 (λf=>f)).facts
   have HT2:=aB (HT1.then T2)
   have hu:=Ea most (xs.drop p)
   rw[h1] at hu
   have HU:=aB (show bU most (xs.drop p)=none from hu)
   have HK:=aB hk
   clear hu h1 hk T2 HC
   go_wp2_with fail
   refine bodyPost_ret (v:=.tuple #[.agg #[.slice _ n c,.int .i64 p,.int .i64 k],.int .u64 0]) (by simp[results,Tryz.results72,go_sem,q0,q1];try rfl) rfl ⟨.inr ⟨HU,k,HK,rfl⟩,?_⟩
   repeat' first | exact HT2 | exact aC.drew ?_ | exact aC.drewN ?_ _ | refine aC.setCell ?_ (λh=>by simp only at h;omega) _
 ·have hdn:xs.drop p=[]:=qJd (by omega)
  have hnp:n-p=0:=by omega
  have hcall:∀ A' m' c',m'=0->Calls Tryz.prog 130 #[.slice A' m' c'] w1 λe w'=>(∃ k:Int,1<=k/\e=.returned (.tuple #[.int .u64 0,.int .i64 0,.int .i64 k]))/\aC (λ_=>False) w1 w':=λA' m' c' h0=>by
   subst h0
   refine (vI w1 A' 0 c' [] (aI.nil _ _ _) rfl (qZa _)).mono ?_
   rintro e w' ⟨⟨v,k,h1,_⟩ | ⟨_,h2⟩,T⟩
   ·cases h1
   ·exact⟨h2,T⟩
  have hu:bU most (xs.drop p)=none:=by rw[hdn];rfl
  have HU:=aB hu
  have HC:=aB hcall
  have HNP:=aB hnp
  cases A with
  | none =>
   obtain⟨h0,h1⟩:=hA rfl
   have hp0:p=0:=by omega
   subst h0
   subst h1
   subst hp0
   have hz:((0:Nat):Int)=0:=rfl
   rw[hz] at HB1 HW1 ⊢
   clear hcall hr hl hn hnc hA hT1 hb1 hb2 hw1 hdl hp hdn hpn hnp hu hz
   go_in
   go_wp2_with fail
   rw[<-HW1.out]
   replace HC:=aB (HC none 0 0 rfl)
   refine HC.mono ?_
   rintro e w2 ⟨⟨k,hk,rfl⟩,T2⟩
   have k0:(k != 0)=true:=by simp;omega
   have k1:(k == 0)=false:=by simp;omega
   obtain⟨r0,r1,r2⟩:=(HB1.touch T2 (λf=>f)).facts
   obtain⟨q0,q1,q2⟩:=(HB2.touch T2 (λf=>f)).facts
   have HT2:=aB (HT1.then T2)
   have HK:=aB hk
   clear hk T2 HC
   go_wp2_with fail
   refine bodyPost_ret (v:=.tuple #[.agg #[.slice _ 0 0,.int .i64 0,.int .i64 k],.int .u64 0]) (by simp[results,Tryz.results72,go_sem,q0,q1];try rfl) rfl ⟨.inr ⟨HU,k,HK,rfl⟩,?_⟩
   repeat' first | exact HT2 | exact aC.drew ?_ | exact aC.drewN ?_ _ | refine aC.setCell ?_ (λh=>by simp only at h;omega) _
  | some ad =>
   by_cases hcp:p=c
   ·subst hcp
    clear hcall hr hl hn hnc hA hT1 hb1 hb2 hw1 hdl hp hdn hpn hnp hu
    go_in
    go_wp2_with fail
    rw[<-HW1.out]
    replace HC:=aB (HC (some ad) (n-p) 0 HNP)
    refine HC.mono ?_
    rintro e w2 ⟨⟨k,hk,rfl⟩,T2⟩
    have k0:(k != 0)=true:=by simp;omega
    have k1:(k == 0)=false:=by simp;omega
    obtain⟨r0,r1,r2⟩:=(HB1.touch T2 (λf=>f)).facts
    obtain⟨q0,q1,q2⟩:=(HB2.touch T2 (λf=>f)).facts
    have HT2:=aB (HT1.then T2)
    have HK:=aB hk
    clear hk T2 HC
    go_wp2_with fail
    refine bodyPost_ret (v:=.tuple #[.agg #[.slice _ n p,.int .i64 p,.int .i64 k],.int .u64 0]) (by simp[results,Tryz.results72,go_sem,q0,q1];try rfl) rfl ⟨.inr ⟨HU,k,HK,rfl⟩,?_⟩
    repeat' first | exact HT2 | exact aC.drew ?_ | exact aC.drewN ?_ _ | refine aC.setCell ?_ (λh=>by simp only at h;omega) _
   ·have hcp2:¬ c=p:=λh=>hcp h.symm
    clear hcall hr hl hn hnc hA hT1 hb1 hb2 hw1 hdl hp hdn hpn hnp hu
    go_in
    go_wp2_with fail
    rw[<-HW1.out]
    replace HC:=aB (HC (some (ad.add p)) (n-p) (c-p) HNP)
    refine HC.mono ?_
    rintro e w2 ⟨⟨k,hk,rfl⟩,T2⟩
    have k0:(k != 0)=true:=by simp;omega
    have k1:(k == 0)=false:=by simp;omega
    obtain⟨r0,r1,r2⟩:=(HB1.touch T2 (λf=>f)).facts
    obtain⟨q0,q1,q2⟩:=(HB2.touch T2 (λf=>f)).facts
    have HT2:=aB (HT1.then T2)
    have HK:=aB hk
    clear hk T2 HC
    go_wp2_with fail
    refine bodyPost_ret (v:=.tuple #[.agg #[.slice _ n c,.int .i64 p,.int .i64 k],.int .u64 0]) (by simp[results,Tryz.results72,go_sem,q0,q1];try rfl) rfl ⟨.inr ⟨HU,k,HK,rfl⟩,?_⟩
    repeat' first | exact HT2 | exact aC.drew ?_ | exact aC.drewN ?_ _ | refine aC.setCell ?_ (λh=>by simp only at h;omega) _
theorem vG(w:World)(A:Option Addr)(n c:Nat)(p:Int)(k:Int)(hk:1<=k)(most:Nat) :
  Calls Tryz.prog 72 #[Tq A n c p k,.int .u64 most] w λe w'=>e=.returned (.tuple #[Tq A n c p k,.int .u64 0])/\aC (λ_=>False) w w':=by
 have k0:(k != 0)=true:=by simp;omega
 have k1:(k == 0)=false:=by simp;omega
 unfold Tq
 go_in
 go_wp2_with fail
 exact bodyPost_ret (v:=.tuple #[.agg #[.slice A n c,.int .i64 p,.int .i64 k],.int .u64 0]) (by simp[results,Tryz.results72,go_sem]) rfl ⟨rfl,((aC.refl _ _).alloc _).alloc _⟩
theorem zH(w:World)(A:Option Addr)(n c:Nat)(p:Nat)(k:Int) :
  Calls Tryz.prog 75 #[Tq A n c p k] w λe w'=>(∃ k':Int,e=.returned (.int .i64 k')/\(k'=0↔(k=0/\n<=p)))/\aC (λ_=>False) w w':=by
 unfold Tq
 by_cases hk:k=0
 ·subst hk
  by_cases hp:p<n
  ·have y0:(p:Int)<(n:Int):=by omega
   go_in
   go_wp2_with fail
   go_ret
   exact⟨⟨23,rfl,by omega⟩,(aC.refl _ _).alloc _⟩
  ·have y0:¬ (p:Int)<(n:Int):=by omega
   go_in
   go_wp2_with fail
   go_ret
   exact⟨⟨0,rfl,by omega⟩,(aC.refl _ _).alloc _⟩
 ·have k1:(k == 0)=false:=by simp;omega
  go_in
  go_wp2_with fail
  go_ret
  exact⟨⟨k,rfl,by omega⟩,(aC.refl _ _).alloc _⟩
section
variable[Inhabited eF]
def rP(N many bn:Nat)(Zp:List iS)(i:Nat)(t:List UInt8):Option ((Nat × List iS) × List UInt8):=match Ft N (many-i) i t with
 | none=>none
 | some (l,t')=>some ((bn,Zp++l),t')
def rN(N many bn:Nat)(Zp:List iS)(i:Nat)(fin:Bool)(out:Int)(acc:List (Int × Int × Int))(k:Nat)(last:Int)(t:List UInt8):Option ((Nat × List iS) × List UInt8):=match oC i k last t with
 | none=>none
 | some (ars,t3)=>rP N many bn (Zp++[⟨fin,out,acc++ars⟩]) (i+1) t3
theorem Qe(h:many<=i):rP N many bn Zp i t=some ((bn,Zp),t):=by
 unfold rP
 rw[show many-i=0 by omega]
 simp[Ft]
theorem xQ(h:i<many):rP N many bn Zp i t=match bU (2*N+1) t with
  | none=>none
  | some (v,t1)=>match iU (decide (v % 2=1)) t1 with
   | none=>none
   | some (o,t2)=>rN N many bn Zp i (decide (v % 2=1)) (o:Int) [] (v / 2) 0 t2:=by
 unfold rP rN
 obtain⟨k,hk⟩:∃ k,many-i=k+1:=⟨many-i-1,by omega⟩
 have hk2:many-(i+1)=k:=by omega
 rw[hk]
 simp only[Ft,stQ]
 cases bU (2*N+1) t with
 | none=>rfl
 | some x =>
  obtain⟨v,t1⟩:=x
  simp only
  cases iU (decide (v % 2=1)) t1 with
  | none=>rfl
  | some y =>
   obtain⟨o,t2⟩:=y
   simp only
   cases oC i (v / 2) 0 t2 with
   | none=>rfl
   | some z =>
    obtain⟨ars,t3⟩:=z
    simp only[rP,hk2]
    cases Ft N k (i+1) t3 with
    | none=>rfl
    | some u =>
     obtain⟨l,t4⟩:=u
     simp
theorem Qd{fin:Bool}{out:Int}{acc:List (Int × Int × Int)}{last:Int}:rN N many bn Zp i fin out acc 0 last t=rP N many bn (Zp++[⟨fin,out,acc⟩]) (i+1) t:=by
 simp[rN,oC]
theorem Ln{fin:Bool}{out:Int}{acc:List (Int × Int × Int)}{last:Int}:rN N many bn Zp i fin out acc (k+1) last t=match bU 1114111 t with
  | none=>none
  | some (d,t1)=>match bU 1048576 t1 with
   | none=>none
   | some (o,t2)=>match bU 98305 t2 with
    | none=>none
    | some (b,t3)=>if 1114111<last+(d:Int) then none else rN N many bn Zp i fin out (acc++[(last+d,(o:Int),(i:Int)-(b:Int))]) k (last+d) t3:=by
 unfold rN
 simp only[oC]
 cases bU 1114111 t with
 | none=>rfl
 | some x =>
  obtain⟨d,t1⟩:=x
  simp only
  cases bU 1048576 t1 with
  | none=>rfl
  | some y =>
   obtain⟨o,t2⟩:=y
   simp only
   cases bU 98305 t2 with
   | none=>rfl
   | some z =>
    obtain⟨b,t3⟩:=z
    simp only
    by_cases h:1114111<last+(d:Int)
    ·rw[if_pos h,if_pos h]
    ·rw[if_neg h,if_neg h]
     cases oC i k (last+d) t3 with
     | none=>rfl
     | some u =>
      obtain⟨ars,t4⟩:=u
      simp
def Ej(xs:List UInt8)(most p:Nat)(e:Int)(p':Nat)(e':Int)(v:Nat):Prop :=
 p'<=xs.length/\v<=most/\0<=e'/\((e=0/\e'=0/\bU most (xs.drop p)=some (v,xs.drop p'))\/(1<=e'/\(e=0->bU most (xs.drop p)=none)))
theorem Xe(w:World)(A:Option Addr)(n c:Nat)(xs:List UInt8)(hr:aI w 1 A n (xs.map aP))(hl:xs.length=n)(hn:n<=4398046511104)(hnc:n<=c)(hA:A=none->n=0/\c=0)(p:Nat)(hp:p<=n)(e:Int)(he:0<=e)(most:Nat) :
  Calls Tryz.prog 72 #[.agg #[.slice A n c,.int .i64 p,.int .i64 e],.int .u64 most] w λen w'=>∃ (p':Nat) (e':Int) (v:Nat),en=.returned (.tuple #[.agg #[.slice A n c,.int .i64 p',.int .i64 e'],.int .u64 v])/\Ej xs most p e p' e' v/\aC (λ_=>False) w w':=by
 by_cases h0:e=0
 ·subst h0
  refine (sN w A n c xs hr hl hn hnc hA p hp most).mono ?_
  rintro en w' ⟨⟨v,k,h1,h2,h3,rfl⟩ | ⟨h1,k,hk,rfl⟩,T⟩
  ·exact⟨p+k,0,v,rfl,⟨by omega,h3,Int.le_refl _,.inl ⟨rfl,rfl,h1⟩⟩,T⟩
  ·exact⟨p,k,0,rfl,⟨by omega,qZa _,by omega,.inr ⟨hk,λ_=>h1⟩⟩,T⟩
 ·refine (vG w A n c p e (by omega) most).mono ?_
  rintro en w' ⟨rfl,T⟩
  exact⟨p,e,0,rfl,⟨by omega,qZa _,he,.inr ⟨by omega,λh=>absurd h h0⟩⟩,T⟩
def Rt:TypeId := 138
structure QI(w wr:World)(A:Option Addr)(n c:Nat)(p:Nat)(e:Int)(base:Int)(sA:Option Addr)(i sc:Nat)(Z:List ZV):Prop where
 res:aL wr w.heap.size 89 #[.int .i64 0,.slice none 0 0]
 rd:aL wr (w.heap.size+1) 138 #[.slice A n c,.int .i64 p,.int .i64 e]
 mc:aL wr (w.heap.size+1+1) 89 #[.int .i64 base,.slice sA i sc]
 own:wr.ownsRow 0 170 3 (.slice sA i sc) i (fL Z)
 len:Z.length=i
 el:∀ z∈Z,z.Ok wr
 touch:aC (λ_=>False) w wr
 yo:∀ g,(Value.slice sA i sc).ownBlock=some g->w.heap.size<=g
theorem QI.quiet{wx:World}(h:QI w wr A n c p e base sA i sc Z)(T:aC (λ_=>False) wr wx):QI w wx A n c p e base sA i sc Z :=
 ⟨h.res.touch T (λf=>f),h.rd.touch T (λf=>f),h.mc.touch T (λf=>f),aD h.own T (λ_ _ f=>f),h.len,λz hz=>(h.el z hz).quiet T,h.touch.then T,h.yo⟩
def setR(w:World)(b:Nat)(A:Option Addr)(n c:Nat)(p e:Int):World:=((w.setCell ⟨b,0,none⟩ (.slice A n c)).setCell ⟨b,1,none⟩ (.int .i64 p)).setCell ⟨b,2,none⟩ (.int .i64 e)
theorem eZ(w:World)(b:Nat)(A:Option Addr)(n c:Nat)(p e:Int):aC (λg=>g=b) w (setR w b A n c p e):=by
 unfold setR
 exact (((aC.refl (λg=>g=b) w).setCell (λ_=>rfl) _).setCell (λ_=>rfl) _).setCell (λ_=>rfl) _
theorem gR{b:Nat}{t:TypeId}(h:aL w b t #[x,y,z])(A:Option Addr)(n c:Nat)(p e:Int):aL (setR w b A n c p e) b t #[.slice A n c,.int .i64 p,.int .i64 e]:=by
 have h1:=((h.set_ 0 (.slice A n c)).set_ 1 (.int .i64 p)).set_ 2 (.int .i64 e)
 simpa [setR] using h1
theorem QI.setR(h:QI w wr A n c p e base sA i sc Z)(hbs:bs<=w.heap.size)(p':Nat)(e':Int):QI w (setR wr (w.heap.size+1) A n c p' e') A n c p' e' base sA i sc Z:=by
 have T:=eZ wr (w.heap.size+1) A n c p' e'
 refine⟨h.res.touch T (by omega),gR h.rd _ _ _ _ _,h.mc.touch T (by omega),aD h.own T (λg hg e=>(aH h.own hg).ne (aF h.rd) (by decide) e),h.len,λz hz=>(h.el z hz).touch T (λg hg e=>hg.ne (aF h.rd) (by decide) (by omega) e),h.touch.trans T (λg hg e=>by omega),h.yo⟩
theorem QI.far{wr0:World}(h:QI w wr0 A n c p0 e0 base sA i sc Z)(hbs:bs<=w.heap.size)(T:aC (λg=>g=w.heap.size+1) wr0 wr)(hr:aL wr (w.heap.size+1) 138 #[.slice A n c,.int .i64 p,.int .i64 e]):QI w wr A n c p e base sA i sc Z :=
 ⟨h.res.touch T (by omega),hr,h.mc.touch T (by omega),aD h.own T (λg hg e=>(aH h.own hg).ne (aF h.rd) (by decide) e),h.len,λz hz=>(h.el z hz).touch T (λg hg e=>hg.ne (aF h.rd) (by decide) (by omega) e),h.touch.trans T (λg hg e=>by omega),h.yo⟩
theorem QI.setBase(h:QI w wr A n c p e base sA i sc Z)(hbs:bs<=w.heap.size)(b':Int):QI w (wr.setCell ⟨w.heap.size+1+1,0,none⟩ (.int .i64 b')) A n c p e b' sA i sc Z:=by
 have T:aC (λg=>g=w.heap.size+1+1) wr (wr.setCell ⟨w.heap.size+1+1,0,none⟩ (.int .i64 b')):=(aC.refl (λg=>g=w.heap.size+1+1) wr).setCell (λ_=>rfl) _
 refine⟨h.res.touch T (by omega),h.rd.touch T (by omega),?_,aD h.own T (λg hg e=>(aH h.own hg).ne (aF h.mc) (by decide) e),h.len,λz hz=>(h.el z hz).touch T (λg hg e=>hg.ne (aF h.mc) (by decide) (by omega) e),h.touch.trans T (λg hg e=>by omega),h.yo⟩
 have:=h.mc.set_ 0 (.int .i64 b')
 simpa using this
structure SQ(w wr0 wr:World)(A:Option Addr)(n c p:Nat)(e:Int)(S:Nat)(fin:Bool)(out:Int)(aA:Option Addr)(ai ac:Nat)(acc:List (Int × Int × Int)):Prop where
 t0:aC (λg=>g=w.heap.size+1) wr0 wr
 rd:aL wr (w.heap.size+1) 138 #[.slice A n c,.int .i64 p,.int .i64 e]
 st:aL wr S 170 #[.bool fin,.int .i64 out,.slice aA ai ac]
 arc:wr.ownsRow 0 173 3 (.slice aA ai ac) ai (fE acc)
 al:acc.length=ai
 ay:∀ g,(Value.slice aA ai ac).ownBlock=some g->wr0.heap.size<=g
 sy:wr0.heap.size<=S
section
variable{w wr0 wr wx:World}{A:Option Addr}{n c p:Nat}{e:Int}{S:Nat}{fin:Bool}{out:Int}{aA:Option Addr}{ai ac:Nat}{acc:List (Int × Int × Int)}
theorem SQ.quiet(h:SQ w wr0 wr A n c p e S fin out aA ai ac acc)(T:aC (λ_=>False) wr wx):SQ w wr0 wx A n c p e S fin out aA ai ac acc :=
 ⟨h.t0.then (T.up _),h.rd.touch T (λf=>f),h.st.touch T (λf=>f),aD h.arc T (λ_ _ f=>f),h.al,h.ay,h.sy⟩
theorem SQ.setR(h:SQ w wr0 wr A n c p e S fin out aA ai ac acc)(p':Nat)(e':Int):SQ w wr0 (setR wr (w.heap.size+1) A n c p' e') A n c p' e' S fin out aA ai ac acc:=by
 have T:=eZ wr (w.heap.size+1) A n c p' e'
 exact⟨h.t0.then T,gR h.rd _ _ _ _ _,h.st.touch T (λe=>(aF h.st).ne (aF h.rd) (by decide) e),aD h.arc T (λg hg e=>(aH h.arc hg).ne (aF h.rd) (by decide) e),h.al,h.ay,h.sy⟩
theorem SQ.setS(h:SQ w wr0 wr A n c p e S fin out aA ai ac acc){u:Value}{fin':Bool}{out':Int}(hk:(#[.bool fin,.int .i64 out,.slice aA ai ac]:Array Value).setIfInBounds k u=#[.bool fin',.int .i64 out',.slice aA ai ac]):SQ w wr0 (wr.setCell ⟨S,k,none⟩ u) A n c p e S fin' out' aA ai ac acc:=by
 have T:aC (λg=>g=S) wr (wr.setCell ⟨S,k,none⟩ u):=(aC.refl (λg=>g=S) wr).setCell (λ_=>rfl) _
 have hs:=h.sy
 refine⟨h.t0.trans T (λg hg e=>by omega),h.rd.touch T (λe=>(aF h.rd).ne (aF h.st) (by decide) e),?_,aD h.arc T (λg hg e=>(aH h.arc hg).ne (aF h.st) (by decide) e),h.al,h.ay,h.sy⟩
 have:=h.st.set_ k u
 rw[hk] at this
 exact this
theorem SQ.setP(h:SQ w wr0 wr A n c p e S fin out aA ai ac acc){P:Nat}(hP:aL wr P 138 #[x,y,z])(hw:wr0.heap.size<=P)(hne:P≠w.heap.size+1)(p':Nat)(e':Int):SQ w wr0 (Go.Proofs.YthockgmbooefpaaGreatDoor.setR wr P A n c p' e') A n c p e S fin out aA ai ac acc:=by
 have T:=eZ wr P A n c p' e'
 exact⟨h.t0.trans T (λg hg e=>by omega),h.rd.touch T (λe=>hne e.symm),h.st.touch T (λe=>(aF h.st).ne (aF hP) (by decide) e),aD h.arc T (λg hg e=>(aH h.arc hg).ne (aF hP) (by decide) e),h.al,h.ay,h.sy⟩
theorem Js(h:SQ w wr0 wr A n c p e S fin out aA ai ac acc)(hg:wr.grownBy w10 (Value.slice aA ai ac).ownBlock):(∀ k,w10.cell? ⟨S,k,none⟩=(#[.bool fin,.int .i64 out,.slice aA ai ac]:Array Value)[k]?)/\(∀ k,w10.frozen? ⟨S,k,none⟩=false)/\S<w10.heap.size :=
 (h.st.grown hg (λe=>(aH h.arc e.symm).ne (aF h.st) (by decide) rfl)).facts
theorem Io(hq:QI w wr A n c p0 e0 base sA i sc Z)(hbs:bs<=w.heap.size)(hg:wr.grownBy w10 (Value.slice sA i sc).ownBlock):(∀ k,w10.cell? ⟨w.heap.size+1+1,k,none⟩=(#[.int .i64 base,.slice sA i sc]:Array Value)[k]?)/\(∀ k,w10.frozen? ⟨w.heap.size+1+1,k,none⟩=false)/\w.heap.size+1+1<w10.heap.size :=
 (hq.mc.grown hg (λe=>(aH hq.own e.symm).ne (aF hq.mc) (by decide) rfl)).facts
theorem SQ.app(h:SQ w wr0 wr A n c p e S fin out aA ai ac acc){a':Option Addr}{cap:Nat}(l o b:Int)
  (ho:w10.ownsRow 0 173 3 (.slice a' (ai+1) cap) (ai+1) (fE acc++[.int .i32 l,.int .i64 o,.int .i64 b]))(hg:wr.grownBy w10 (Value.slice aA ai ac).ownBlock)(hf:bJ wr (.slice aA ai ac) (.slice a' (ai+1) cap)) :
  SQ w wr0 (w10.setCell ⟨S,2,none⟩ (.slice a' (ai+1) cap)) A n c p e S fin out a' (ai+1) cap (acc++[(l,o,b)]):=by
 have T10:aC (λg=>(Value.slice aA ai ac).ownBlock=some g) wr w10:=(aC.refl _ _).grown hg (λk hk _=>hk)
 have hno:∀ {t:TypeId} {g:Nat},bE wr g t->t ≠ 173 -> ¬ (Value.slice aA ai ac).ownBlock=some g:=λhg ht e=>hg.ne (aH h.arc e) ht rfl
 have hs10:=h.st.touch T10 (hno (aF h.st) (by decide))
 have hr10:=h.rd.touch T10 (hno (aF h.rd) (by decide))
 have T11:aC (λg=>g=S) w10 (w10.setCell ⟨S,2,none⟩ (.slice a' (ai+1) cap)):=(aC.refl (λg=>g=S) _).setCell (λ_=>rfl) _
 have hs:=h.sy
 have hsz:=h.t0.size
 refine⟨(h.t0.trans T10 (λg hg e=>absurd (h.ay g e) (by omega))).trans T11 (λg hg e=>by omega),hr10.touch T11 (λe=>(aF hr10).ne (aF hs10) (by decide) e),hs10.set_ 2 _,?_,by rw[qJa,h.al];rfl,?_,h.sy⟩
 ·have e:fE (acc++[(l,o,b)])=fE acc++[.int .i32 l,.int .i64 o,.int .i64 b]:=by simp[fE]
  rw[e]
  exact aD ho T11 (λg hg e=>(aH ho hg).ne (aF hs10) (by decide) e)
 ·intro g hg'
  rcases hf with e | ⟨g2,e,hle⟩
  ·rw[e] at hg'
   exact h.ay g hg'
  ·rw[e] at hg'
   injection hg' with hg'
   omega
theorem QI.push{sA':Option Addr}{sc':Nat}{wy:World}(hq:QI w wr0 A n c p0 e0 base sA i sc Z)(hbs:bs<=w.heap.size)(h:SQ w wr0 wr A n c p e S fin out aA ai ac acc)(Ty:aC (λ_=>False) wr wy)
  (ho:w10.ownsRow 0 170 3 (.slice sA' (i+1) sc') (i+1) (fL Z++[.bool fin,.int .i64 out,.slice aA ai ac]))(hg:wy.grownBy w10 (Value.slice sA i sc).ownBlock)(hf:bJ wy (.slice sA i sc) (.slice sA' (i+1) sc')) :
  QI w (w10.setCell ⟨w.heap.size+1+1,1,none⟩ (.slice sA' (i+1) sc')) A n c p e base sA' (i+1) sc' (Z++[⟨fin,out,aA,ai,ac,acc⟩]):=by
 have hy:=(hq.far hbs h.t0 h.rd).quiet Ty
 have hay:=aD h.arc Ty (λ_ _ f=>f)
 have T10:aC (λg=>(Value.slice sA i sc).ownBlock=some g) wy w10:=(aC.refl _ _).grown hg (λk hk _=>hk)
 have hno:∀ {t:TypeId} {g:Nat},OT wy g t->t ≠ 170 -> ¬ (Value.slice sA i sc).ownBlock=some g:=λhg ht e=>hg.ne (aH hy.own e) ht (by have:=hy.yo _ e;omega) rfl
 have hm10:=hy.mc.touch T10 (hno (.inr (aF hy.mc)) (by decide))
 have hr10:=hy.res.touch T10 (hno (.inr (aF hy.res)) (by decide))
 have hd10:=hy.rd.touch T10 (hno (.inr (aF hy.rd)) (by decide))
 have T11:aC (λg=>g=w.heap.size+1+1) w10 (w10.setCell ⟨w.heap.size+1+1,1,none⟩ (.slice sA' (i+1) sc')):=(aC.refl (λg=>g=w.heap.size+1+1) _).setCell (λ_=>rfl) _
 have hM:=aF hm10
 obtain⟨_,_,he,hle,hmx⟩:=aX h.arc
 injection he with _ _ he
 refine⟨hr10.touch T11 (by omega),hd10.touch T11 (by omega),hm10.set_ 1 _,?_,by rw[qJa,hy.len];rfl,?_,?_,?_⟩
 ·have e:fL (Z++[⟨fin,out,aA,ai,ac,acc⟩])=fL Z++[.bool fin,.int .i64 out,.slice aA ai ac]:=by simp[fL,ZV.cells]
  rw[e]
  exact aD ho T11 (λg hg e=>(aH ho hg).ne hM (by decide) e)
 ·intro z hz
  have hz10:z.Ok w10:=by
   rcases List.mem_append.1 hz with hz | hz
   ·exact (hy.el z hz).touch T10 (λg hg=>hno hg (by decide))
   ·rw[List.mem_singleton.1 hz]
    exact⟨h.al,(Ar.of_own hay).touch T10 (λg hg=>hno hg (by decide)),by simp only;omega,by simp only;omega⟩
  exact hz10.touch T11 (λg hg e=>hg.ne hM (by decide) (by omega) e)
 ·exact (hy.touch.trans T10 (λg hg e=>absurd (hy.yo g e) (by omega))).trans T11 (λg hg e=>by omega)
 ·intro g hg'
  rcases hf with e | ⟨g2,e,hle⟩
  ·rw[e] at hg'
   exact hy.yo g hg'
  ·rw[e] at hg'
   injection hg' with hg'
   have:=hy.touch.size
   omega
end
def JS(xs:List UInt8)(many bn:Nat)(Zp:List iS)(i p:Nat)(e:Int):Prop:=(e=0->jW xs.length xs=rP xs.length many bn Zp i (xs.drop p))/\(e≠0->jW xs.length xs=none)
def JA(xs:List UInt8)(many bn:Nat)(Zp:List iS)(i:Nat)(fin:Bool)(out:Int)(acc:List (Int × Int × Int))(k last p:Nat)(e:Int):Prop:=(e=0->jW xs.length xs=rN xs.length many bn Zp i fin out acc k last (xs.drop p))/\(e≠0->jW xs.length xs=none)
section
variable{xs:List UInt8}
theorem Vx{p1 p2 v1 v2:Nat}{e1 e2:Int}(h1:Ej xs 1048576 0 0 p1 e1 v1)(h2:Ej xs 98305 p1 e1 p2 e2 v2):JS xs v2 v1 [] 0 p2 e2:=by
 obtain⟨_,_,_,h1⟩:=h1
 obtain⟨_,_,_,h2⟩:=h2
 rw[List.drop_zero] at h1
 constructor
 ·intro he
  rcases h2 with⟨g1,_,g2⟩ | ⟨g1,_⟩
  ·rcases h1 with⟨_,_,k2⟩ | ⟨k1,_⟩
   ·unfold jW rP
    rw[k2]
    simp only
    rw[g2]
    simp only[Nat.sub_zero,qZb]
    all_goals (cases Ft xs.length v2 0 (xs.drop p2)<;>rfl)
   ·omega
  ·omega
 ·intro he
  unfold jW
  rcases h1 with⟨_,k1,k2⟩ | ⟨_,k2⟩
  ·rw[k2]
   simp only
   rcases h2 with⟨_,g1,_⟩ | ⟨_,g2⟩
   ·exact absurd g1 he
   ·rw[g2 k1]
  ·rw[k2 rfl]
variable{many bn:Nat}{Zp:List iS}{i:Nat}
theorem Vw{v3:Nat}(hi:i<many)(h:JS xs many bn Zp i p 0)(h3:Ej xs (2*xs.length+1) p 0 p3 e3 v3)(hv:v3 % 2≠1):JA xs many bn Zp i false 0 [] (v3 / 2) 0 p3 e3:=by
 obtain⟨_,_,_,h3⟩:=h3
 have h:=h.1 rfl
 rw[xQ hi] at h
 constructor
 ·intro he
  rcases h3 with⟨_,_,g2⟩ | ⟨g1,_⟩
  ·rw[g2] at h
   have hd:decide (v3 % 2=1)=false:=decide_eq_false hv
   simp only[hd,iU] at h
   rw[if_neg (by simp)] at h
   exact h
  ·omega
 ·intro he
  rcases h3 with⟨_,g1,_⟩ | ⟨_,g2⟩
  ·exact absurd g1 he
  ·rw[g2 rfl] at h
   exact h
theorem aDr{v3 p4 v4:Nat}{e4:Int}(hi:i<many)(h:JS xs many bn Zp i p 0)(h3:Ej xs (2*xs.length+1) p 0 p3 e3 v3)(hv:v3 % 2=1)(h4:Ej xs 1048576 p3 e3 p4 e4 v4):JA xs many bn Zp i true v4 [] (v3 / 2) 0 p4 e4:=by
 obtain⟨_,_,_,h3⟩:=h3
 obtain⟨_,_,_,h4⟩:=h4
 have h:=h.1 rfl
 rw[xQ hi] at h
 have hd:decide (v3 % 2=1)=true:=decide_eq_true hv
 constructor
 ·intro he
  rcases h4 with⟨k1,_,k2⟩ | ⟨k1,_⟩
  ·rcases h3 with⟨_,_,g2⟩ | ⟨g1,_⟩
   ·rw[g2] at h
    simp only[hd,iU] at h
    rw[if_pos (by simp),k2] at h
    exact h
   ·omega
  ·omega
 ·intro he
  rcases h3 with⟨_,g1,g2⟩ | ⟨_,g2⟩
  ·rw[g2] at h
   simp only[hd,iU] at h
   rcases h4 with⟨_,k1,_⟩ | ⟨_,k2⟩
   ·exact absurd k1 he
   ·rw[if_pos (by simp),k2 g1] at h
    exact h
  ·rw[g2 rfl] at h
   exact h
variable{fin:Bool}{out:Int}{acc:List (Int × Int × Int)}
theorem Oj{last p1 p2 d o b:Nat}{e1 e2:Int}(h:JA xs many bn Zp i fin out acc (k+1) last p 0)(h1:Ej xs 1114111 p 0 p1 e1 d)(h2:Ej xs 1048576 p1 e1 p2 e2 o)(h3:Ej xs 98305 p2 e2 p3 e3 b) :
  (1114111<last+d->jW xs.length xs=none)/\(last+d<=1114111->JA xs many bn Zp i fin out (acc++[(((last+d:Nat):Int),(o:Int),(i:Int)-(b:Int))]) k (last+d) p3 e3):=by
 obtain⟨_,_,_,h1⟩:=h1
 obtain⟨_,_,_,h2⟩:=h2
 obtain⟨_,_,_,h3⟩:=h3
 have h:=h.1 rfl
 rw[Ln] at h
 have hbad:e3≠0->jW xs.length xs=none:=by
  intro he
  rcases h1 with⟨_,a1,a2⟩ | ⟨_,a2⟩
  ·rw[a2] at h
   simp only at h
   rcases h2 with⟨_,b1,b2⟩ | ⟨_,b2⟩
   ·rw[b2] at h
    simp only at h
    rcases h3 with⟨_,c1,_⟩ | ⟨_,c2⟩
    ·exact absurd c1 he
    ·rw[c2 b1] at h
     exact h
   ·rw[b2 a1] at h
    exact h
  ·rw[a2 rfl] at h
   exact h
 have hgood:e3=0->jW xs.length xs=if 1114111<(last:Int)+(d:Int) then none else rN xs.length many bn Zp i fin out (acc++[((last:Int)+d,(o:Int),(i:Int)-(b:Int))]) k ((last:Int)+d) (xs.drop p3):=by
  intro he
  rcases h3 with⟨c1,_,c2⟩ | ⟨c1,_⟩
  ·rcases h2 with⟨b1,_,b2⟩ | ⟨b1,_⟩
   ·rcases h1 with⟨_,_,a2⟩ | ⟨a1,_⟩
    ·rw[a2] at h
     simp only at h
     rw[b2] at h
     simp only at h
     rw[c2] at h
     exact h
    ·omega
   ·omega
  ·omega
 constructor
 ·intro hl
  by_cases he:e3=0
  ·rw[hgood he,if_pos (by omega)]
  ·exact hbad he
 ·intro hl
  refine⟨λhe=>?_,hbad⟩
  rw[hgood he,if_neg (by omega)]
  push_cast
  rfl
theorem Vv{last:Nat}(h:JA xs many bn Zp i fin out acc k last p e)(hk:k=0\/e≠0):JS xs many bn (Zp++[⟨fin,out,acc⟩]) (i+1) p e:=by
 refine⟨λhe=>?_,h.2⟩
 rcases hk with rfl | hk
 ·rw[h.1 he,Qd]
 ·exact absurd he hk
theorem aDs(h:JS xs many bn Zp i p e)(hi:many<=i):e=0->jW xs.length xs=some ((bn,Zp),xs.drop p):=λhe=>by rw[h.1 he,Qe hi]
def wX(xs:List UInt8):Prop:=∃ (bn:Nat) (sts:List bP),bn<=1048576/\jZ sts (bn:Int)/\xs=eU bn sts
theorem Df(h:jZ sts base):sts.length<=98305:=by
 rcases h with⟨rfl,_⟩ | h
 ·simp
 ·exact h.few
theorem zI(h:jZ sts base):∀ i,i<sts.length->dQ i (sts.getD i aS):=by
 rcases h with⟨rfl,_⟩ | h
 ·intro i hi
  simp at hi
 ·exact h.form
theorem zC(h:wX xs):∃ (bn:Nat) (sts:List bP),jW xs.length xs=some ((bn,sts.map bP.z),[])/\bn<=1048576/\jZ sts (bn:Int)/\xs=eU bn sts:=by
 obtain⟨bn,sts,hb,hR,rfl⟩:=h
 exact⟨bn,sts,Hx hb (Df hR) (zI hR) _ (Nat.le_refl _),hb,hR,rfl⟩
theorem yV(h:jW xs.length xs=none):¬ wX xs:=λhp=>by
 obtain⟨bn,sts,h1,_⟩:=zC hp
 rw[h] at h1
 cases h1
theorem zD(h:jW xs.length xs=some ((bn,Zp),t))(hp:wX xs):t=[]/\qK Zp (bn:Int)/\∀ sts:List bP,Zp=sts.map bP.z->xs=eU bn sts:=by
 obtain⟨b2,sts,h1,_,hR,hx⟩:=zC hp
 rw[h] at h1
 simp only[Option.some.injEq,Prod.mk.injEq] at h1
 obtain⟨⟨rfl,rfl⟩,rfl⟩:=h1
 refine⟨rfl,⟨sts,rfl,hR⟩,λs2 h2=>?_⟩
 have e:=nK (f:=bP.z) (λ_ _ e=>bP.z_inj e) h2
 rw[<-e]
 exact hx
end
end
theorem Ut(w:World)(X Y:Obj)(t:TypeId)(cs:Array Value):aL (((w.alloc X).alloc Y).alloc (.cells cs t)) (w.heap.size+1+1) t cs:=by
 have:=aL.new ((w.alloc X).alloc Y) t cs
 simpa using this
theorem oR{t:TypeId}(a b c:Value)(h:aL w g t #[x,y,z]):aL (((w.setCell ⟨g,0,none⟩ a).setCell ⟨g,1,none⟩ b).setCell ⟨g,2,none⟩ c) g t #[a,b,c]:=by
 have h1:=((h.set_ 0 a).set_ 1 b).set_ 2 c
 simpa using h1
theorem Xy{t:TypeId}{u:Value}(a b c d:Value)(h:aL w g t #[x,y,z,u]):aL ((((w.setCell ⟨g,0,none⟩ a).setCell ⟨g,1,none⟩ b).setCell ⟨g,2,none⟩ c).setCell ⟨g,3,none⟩ d) g t #[a,b,c,d]:=by
 have h1:=(((h.set_ 0 a).set_ 1 b).set_ 2 c).set_ 3 d
 simpa using h1
theorem aHb{t:TypeId}{cs:Array Value}{a b c d:Value}(h:aL w g t cs)(hk:g≠k):aL ((((w.setCell ⟨k,0,none⟩ a).setCell ⟨k,1,none⟩ b).setCell ⟨k,2,none⟩ c).setCell ⟨k,3,none⟩ d) g t cs:=(aFv h hk).far hk d
theorem My{w8:World}(T:aC (λ_=>False) w w8)(hg:w.heap.size<=g)(hk:w.heap.size<=k)(a b c x y z u:Value):aC (λ_=>False) w (((((((w8.setCell ⟨g,0,none⟩ a).setCell ⟨g,1,none⟩ b).setCell ⟨g,2,none⟩ c).setCell ⟨k,0,none⟩ x).setCell ⟨k,1,none⟩ y).setCell ⟨k,2,none⟩ z).setCell ⟨k,3,none⟩ u):=by
 have hg':∀ i,(⟨g,i,none⟩:Addr).block<w.heap.size->False:=λi h=>by simp only at h;omega
 have hk':∀ i,(⟨k,i,none⟩:Addr).block<w.heap.size->False:=λi h=>by simp only at h;omega
 exact ((((((T.setCell (hg' 0) a).setCell (hg' 1) b).setCell (hg' 2) c).setCell (hk' 0) x).setCell (hk' 1) y).setCell (hk' 2) z).setCell (hk' 3) u
structure RB(w:World)(A:Option Addr)(n c:Nat)(xs:List UInt8):Prop where
 rd:aI w 1 A n (xs.map aP)
 len:xs.length=n
 few:n<=4398046511104
 le:n<=c
 nil:A=none->n=0/\c=0
theorem RB.quiet{w':World}(h:RB w A n c xs)(T:aC (λ_=>False) w w'):RB w' A n c xs :=
 ⟨h.rd.touch T (λ_ _ f=>f),h.len,h.few,h.le,h.nil⟩
def RQ(n:Nat)(xs:List UInt8)(p:Nat)(e:Int):Option (List UInt8)->Prop
 | some t=>p<=n/\e=0/\t=xs.drop p
 | none=>p<=n/\1<=e
theorem tW(w:World)(A:Option Addr)(n c:Nat)(xs:List UInt8)(h:RB w A n c xs)(p:Nat)(e:Int)(st:Option (List UInt8))(hq:RQ n xs p e st)(most:Nat){v:Nat}{s2:Option (List UInt8)}(hu:uX most st=(v,s2)) :
  Calls Tryz.prog 72 #[.agg #[.slice A n c,.int .i64 p,.int .i64 e],.int .u64 most] w λen w'=>∃ (p':Nat) (e':Int),en=.returned (.tuple #[.agg #[.slice A n c,.int .i64 p',.int .i64 e'],.int .u64 (v:Nat)])/\RQ n xs p' e' s2/\aC (λ_=>False) w w':=by
 cases st with
 | some t =>
  obtain⟨hp,rfl,rfl⟩:=hq
  refine (sN w A n c xs h.rd h.len h.few h.le h.nil p hp most).mono ?_
  rintro en w' ⟨⟨v',k,h1,h2,_,rfl⟩ | ⟨h1,k,hk,rfl⟩,T⟩
  ·rw[Am h1] at hu
   simp only[Prod.mk.injEq] at hu
   obtain⟨rfl,rfl⟩:=hu
   exact⟨p+k,0,rfl,⟨h2,rfl,rfl⟩,T⟩
  ·rw[Yo h1] at hu
   simp only[Prod.mk.injEq] at hu
   obtain⟨rfl,rfl⟩:=hu
   exact⟨p,k,rfl,⟨hp,hk⟩,T⟩
 | none =>
  obtain⟨hp,he⟩:=hq
  refine (vG w A n c p e he most).mono ?_
  rintro en w' ⟨rfl,T⟩
  simp only[uX,Prod.mk.injEq] at hu
  obtain⟨rfl,rfl⟩:=hu
  exact⟨p,e,rfl,⟨hp,he⟩,T⟩
theorem aEg(w:World)(A:Option Addr)(n c:Nat)(xs:List UInt8)(h:RB w A n c xs)(p:Nat)(e:Int)(st:Option (List UInt8))(hq:RQ n xs p e st){sn cn an hn:Nat}{s1 s2 s3 s4:Option (List UInt8)}(u1:uX 18446744073709551615 st=(sn,s1))(u2:uX 65535 s1=(cn,s2))(u3:uX 18446744073709551615 s2=(an,s3))(u4:uX 1048576 s3=(hn,s4)) :
  Calls Tryz.prog 73 #[.agg #[.slice A n c,.int .i64 p,.int .i64 e]] w λen w'=>∃ (p':Nat) (e':Int),en=.returned (.tuple #[.agg #[.slice A n c,.int .i64 p',.int .i64 e'],.agg #[.int .u64 sn,.int .i64 cn,.int .u64 an,.int .i64 hn]])/\RQ n xs p' e' s4/\aC (λ_=>False) w w':=by
 have hcn:cn<=65535:=by have:=@aHk 65535 s1;rw[u2] at this;exact this
 have hhn:hn<=1048576:=by have:=@aHk 1048576 s3;rw[u4] at this;exact this
 have z2:IntKind.i64.wrap (cn:Int)=(cn:Int):=qQa _ (by omega)
 have z3:IntKind.i64.wrap (hn:Int)=(hn:Int):=qQa _ (by omega)
 obtain⟨w0,hw0⟩:=eX (((w.alloc (.cells #[.slice A n c,.int .i64 p,.int .i64 e] 138)).alloc (.cells #[.slice none 0 0,.int .i64 0,.int .i64 0] 138)).alloc (.cells #[.int .u64 0,.int .i64 0,.int .u64 0,.int .i64 0] 136))
 have T0:aC (λ_=>False) w w0:=by rw[hw0];exact (((aC.refl _ _).alloc _).alloc _).alloc _
 have HBA:Hid (aL w0 w.heap.size 138 #[.slice A n c,.int .i64 p,.int .i64 e]):=aB (by rw[hw0];exact ((aL.new _ _ _).alloc _).alloc _)
 have HBB:Hid (aL w0 (w.heap.size+1) 138 #[.slice none 0 0,.int .i64 0,.int .i64 0]):=aB (by rw[hw0];exact (fU _ _ _ _).alloc _)
 have HBC:Hid (aL w0 (w.heap.size+1+1) 136 #[.int .u64 0,.int .i64 0,.int .u64 0,.int .i64 0]):=aB (by rw[hw0];exact Ut _ _ _ _ _)
 have HT0:=aB T0
 have HW0:=aB hw0
 have HRB:=aB h
 have HU1:=aB (tW w0 A n c xs (h.quiet T0) p e st hq _ u1)
 have HV2:=aB u2
 have HV3:=aB u3
 have HV4:=aB u4
 clear hcn hhn hw0 T0 h hq u1 u2 u3 u4
 obtain⟨r0,r1,r2⟩:=HBA.facts
 go_in
 go_wp2_with fail
 rw[<-HW0.out]
 refine HU1.mono ?_
 rintro en w1 ⟨p1,e1,rfl,hq1,T1⟩
 obtain⟨w2,hw2⟩:=eX (setR w1 w.heap.size A n c p1 e1)
 have T2:aC (λg=>g=w.heap.size) w1 w2:=by rw[hw2];exact eZ _ _ _ _ _ _ _
 have HA2:Hid (aL w2 w.heap.size 138 #[.slice A n c,.int .i64 p1,.int .i64 e1]):=aB (by rw[hw2];exact gR (HBA.touch T1 (λf=>f)) A n c p1 e1)
 have HB2:=aB ((HBB.touch T1 (λf=>f)).touch T2 (by omega))
 have HC2:=aB ((HBC.touch T1 (λf=>f)).touch T2 (by omega))
 have HT2:=aB ((HT0.then T1).trans T2 (λi hi e=>by omega))
 have HU2:=aB (tW w2 A n c xs (HRB.quiet ((HT0.then T1).trans T2 (λi hi e=>by omega))) p1 e1 _ hq1 _ HV2)
 obtain⟨a0,a1,a2⟩:=(HBA.touch T1 (λf=>f)).facts
 unfold setR at hw2
 have HW2:=aB hw2
 clear hq1 T1 T2 hw2 r0 r1 r2 HU1
 go_upto_region 2 with fail
 rw[<-HW2.out]
 clear a0 a1 a2
 obtain⟨r0,r1,r2⟩:=HA2.facts
 go_wp2_with fail
 refine HU2.mono ?_
 rintro en w3 ⟨p3,e3,rfl,hq3,T3⟩
 obtain⟨w4,hw4⟩:=eX (setR w3 w.heap.size A n c p3 e3)
 have T4:aC (λg=>g=w.heap.size) w3 w4:=by rw[hw4];exact eZ _ _ _ _ _ _ _
 have HA4:Hid (aL w4 w.heap.size 138 #[.slice A n c,.int .i64 p3,.int .i64 e3]):=aB (by rw[hw4];exact gR (HA2.touch T3 (λf=>f)) A n c p3 e3)
 have HB4:=aB ((HB2.touch T3 (λf=>f)).touch T4 (by omega))
 have HC4:=aB ((HC2.touch T3 (λf=>f)).touch T4 (by omega))
 have HT4:=aB ((HT2.then T3).trans T4 (λi hi e=>by omega))
 have HU3:=aB (tW w4 A n c xs (HRB.quiet ((HT2.then T3).trans T4 (λi hi e=>by omega))) p3 e3 _ hq3 _ HV3)
 obtain⟨a0,a1,a2⟩:=(HA2.touch T3 (λf=>f)).facts
 unfold setR at hw4
 have HW4:=aB hw4
 clear hq3 T3 T4 hw4 r0 r1 r2 HU2
 go_upto_region 3 with fail
 rw[<-HW4.out]
 clear a0 a1 a2
 obtain⟨r0,r1,r2⟩:=HA4.facts
 go_wp2_with fail
 refine HU3.mono ?_
 rintro en w5 ⟨p5,e5,rfl,hq5,T5⟩
 obtain⟨w6,hw6⟩:=eX (setR w5 w.heap.size A n c p5 e5)
 have T6:aC (λg=>g=w.heap.size) w5 w6:=by rw[hw6];exact eZ _ _ _ _ _ _ _
 have HA6:Hid (aL w6 w.heap.size 138 #[.slice A n c,.int .i64 p5,.int .i64 e5]):=aB (by rw[hw6];exact gR (HA4.touch T5 (λf=>f)) A n c p5 e5)
 have HB6:=aB ((HB4.touch T5 (λf=>f)).touch T6 (by omega))
 have HC6:=aB ((HC4.touch T5 (λf=>f)).touch T6 (by omega))
 have HT6:=aB ((HT4.then T5).trans T6 (λi hi e=>by omega))
 have HU4:=aB (tW w6 A n c xs (HRB.quiet ((HT4.then T5).trans T6 (λi hi e=>by omega))) p5 e5 _ hq5 _ HV4)
 obtain⟨a0,a1,a2⟩:=(HA4.touch T5 (λf=>f)).facts
 unfold setR at hw6
 have HW6:=aB hw6
 clear hq5 T5 T6 hw6 r0 r1 r2 HU3
 go_upto_region 4 with fail
 rw[<-HW6.out]
 clear a0 a1 a2
 obtain⟨r0,r1,r2⟩:=HA6.facts
 go_wp2_with fail
 refine HU4.mono ?_
 rintro en w7 ⟨p7,e7,rfl,hq7,T7⟩
 have HA7:=aB (HA6.touch T7 (λf=>f))
 have HB7:=aB (HB6.touch T7 (λf=>f))
 have HC7:=aB (HC6.touch T7 (λf=>f))
 have HT7:=aB (HT6.then T7)
 have HQ7:=aB hq7
 obtain⟨w8,hw8⟩:=eX (setR w7 w.heap.size A n c p7 e7)
 have T8:aC (λg=>g=w.heap.size) w7 w8:=by rw[hw8];exact eZ _ _ _ _ _ _ _
 have HA8:Hid (aL w8 w.heap.size 138 #[.slice A n c,.int .i64 p7,.int .i64 e7]):=aB (by rw[hw8];exact gR HA7 A n c p7 e7)
 have HB8:=aB (HB7.touch T8 (by omega))
 have HC8:=aB (HC7.touch T8 (by omega))
 have HT8:=aB (HT7.trans T8 (λi hi e=>by omega))
 obtain⟨a0,a1,a2⟩:=HA7.facts
 unfold setR at hw8
 have HW8:=aB hw8
 clear hq7 T7 T8 hw8 r0 r1 r2 HU4
 go_upto_region 5 with fail
 rw[<-HW8.out]
 clear a0 a1 a2
 obtain⟨r0,r1,r2⟩:=HA8.facts
 obtain⟨b0,b1,b2⟩:=HB8.facts
 obtain⟨c0,c1,c2⟩:=HC8.facts
 go_wp2_with fail
 refine bodyPost_ret (v:=.tuple #[.agg #[.slice A n c,.int .i64 p7,.int .i64 e7],.agg #[.int .u64 sn,.int .i64 cn,.int .u64 an,.int .i64 hn]]) (Ba rfl _ _ (w.heap.size+1) (w.heap.size+1+1) 138 136 _ _ _ _ rfl ?hsb Tryz.underlying138 rfl (by kernel_rfl) rfl ?hrb Tryz.underlying136 rfl (by kernel_rfl)) rfl ?_
 case hsb=>exact aHb (oR _ _ _ HB8) (by omega)
 case hrb=>exact Xy _ _ _ _ (aFv HC8 (by omega))
 exact⟨p7,e7,rfl,HQ7,My HT8 (by omega) (by omega) _ _ _ _ _ _ _⟩
theorem Ye{Z:List SV}(h:mN w A n Z):eC w A n Z:=by
 have ot:∀ {g:Nat} {t:TypeId},OT w g t->bE w g t:=λ{g t} h=>by
  rcases h with⟨_,h⟩ | h
  ·exact absurd h (Nat.not_lt_zero _)
  ·exact h
 exact⟨⟨h.rd.rd,λhn g hg=>ot (h.rd.ty hn g hg)⟩,h.len,λz hz=>⟨(h.el z hz).len,⟨(h.el z hz).rd.rd,λhn g hg=>ot ((h.el z hz).rd.ty hn g hg)⟩,(h.el z hz).le,(h.el z hz).mx⟩⟩
theorem Wv{L:List aE}(hD:cA L){base:Nat}(hb:base<=1048576)(hn:sts.length<=98305)(hR:jZ sts base)(h:mB L=eU base sts):(bB L).base=(base:Int)/\sts=(bB L).states:=by
 have hbm:=gE hD
 obtain⟨bn,hbn⟩:∃ bn:Nat,(bB L).base=(bn:Int):=⟨(bB L).base.toNat,by omega⟩
 have h1:=qQ (sts:=sts) hb hn (pI hR) []
 have h2:=qQ (sts:=(bB L).states) (base:=bn) (by omega) (sH hD) (pI (dD hD)) []
 unfold mB at h
 rw[hbn] at h
 rw[h] at h2
 rw[h1] at h2
 simp only[Option.some.injEq,Prod.mk.injEq,and_true] at h2
 rw[hbn,h2.1]
 exact⟨rfl,nK (λa b e=>bP.z_inj e) h2.2⟩
structure Tp(w wx:World)(p gm:Nat)(base:Int)(A4:Option Addr)(n4 c4:Nat)(Z:List SV)(A':Option Addr)(i c':Nat)(Rt:List aU):Prop where
 own:wx.ownsRow 0 110 4 (.slice A' i c') i (bQ Rt)
 fr:∀ g,(Value.slice A' i c').ownBlock=some g->w.heap.size<=g
 mb:aL wx gm 89 #[.int .i64 base,.slice A4 n4 c4]
 z:eC wx A4 n4 Z
 t:aC (λ_=>False) w wx
 py:w.heap.size<=p
section
variable{w wx wy:World}{p gm:Nat}{base:Int}{A4:Option Addr}{n4 c4:Nat}{Z:List SV}{A':Option Addr}{i c':Nat}{Rt:List aU}
theorem Tp.quiet(h:Tp w wx p gm base A4 n4 c4 Z A' i c' Rt)(T:aC (λ_=>False) wx wy):Tp w wy p gm base A4 n4 c4 Z A' i c' Rt :=
 ⟨aD h.own T (λ_ _ f=>f),h.fr,h.mb.touch T (λf=>f),h.z.quiet T,h.t.then T,h.py⟩
theorem Tp.rd(h:Tp w wx p gm base A4 n4 c4 Z A' i c' Rt)(hp:bE wx p 214)(T:aC (λg=>g=p) wx wy):Tp w wy p gm base A4 n4 c4 Z A' i c' Rt :=
 ⟨aD h.own T (λg hg e=>(aH h.own hg).ne hp (by decide) e),h.fr,h.mb.touch T (λe=>(aF h.mb).ne hp (by decide) e),h.z.far T (λg t hg ht e=>hg.ne hp (by rcases ht with rfl | rfl | rfl | rfl | rfl<;>decide) e),h.t.trans T (λg hg e=>by have:=h.py;omega),h.py⟩
theorem Tp.row(h:Tp w wx p gm base A4 n4 c4 Z A' i c' Rt){g1:Nat}(hg1:bE wx g1 110)(hy:w.heap.size<=g1)(hne:∀ g,(Value.slice A' i c').ownBlock=some g->¬ g=g1)(T:aC (λg=>g=g1) wx wy):Tp w wy p gm base A4 n4 c4 Z A' i c' Rt :=
 ⟨aD h.own T (λg hg e=>hne g hg e),h.fr,h.mb.touch T (λe=>(aF h.mb).ne hg1 (by decide) e),h.z.far T (λg t hg ht e=>hg.ne hg1 (by rcases ht with rfl | rfl | rfl | rfl | rfl<;>decide) e),h.t.trans T (λg hg e=>by omega),h.py⟩
end
theorem lJ.row{w':World}{bs:List UInt8}(h:lJ w p A n c bs e){g1:Nat}(hg1:bE w g1 110)(T:aC (λg=>g=g1) w w'):lJ w' p A n c bs e :=
 h.touch T (λe=>(aF h.blk).ne hg1 (by decide) e) (λg hg e=>hg.ne hg1 (by decide) e)
theorem aEf(w:World)(A:Option Addr)(n c:Nat)(bs:List UInt8)(hr:aI w 1 A n (bs.map aP))(hl:bs.length=n)(hn:n<=35184372088832) :
  Calls Tryz.prog 54 #[.slice A n c] w λe w'=>∃ (p:Nat) (A':Option Addr) (n' c':Nat),e=.returned (.pointer (some ⟨p,0,none⟩))/\vW w' p A' n' c' bs 0/\(∀ g,aQ A'=some g->bE w' g 5)/\w.heap.size<=p/\aC (λ_=>False) w w':=by
 have HC:=aB (qL w A n c bs hr hl hn)
 have HL:=aB hl
 clear hr hl
 go_in
 go_wp2_with fail
 refine HC.mono ?_
 rintro e w1 ⟨A',n',c',rfl,hn',hx⟩
 subst hn'
 have hob:∀ g,aQ A'=some g->(Value.slice A' n' c').ownBlock=some g:=λg hg=>by
  cases A' with
  | none=>cases hg
  | some a=>exact hg
 have hty:∀ g,aQ A'=some g->bE w1 g 5 := λg hg=>aH hx.own (hob g hg)
 have HTY:=aB hty
 have HX:=aB hx
 have HXT:=aB hx.touch
 clear hx hob hty
 go_wp2_with fail
 go_ret
 have ho:=cT HX.own
 refine⟨_,A',_,c',rfl,⟨aL.new _ _ _,(aI.of_own HX.own).touch ((aC.refl _ _).alloc _) (λ_ _ f=>f),λ_ g hg e=>?_,HL,by omega,by omega⟩,λg hg=>(HTY g hg).touch ((aC.refl (λ_=>False) _).alloc _) (λf=>f),HXT.size,HXT.alloc _⟩
 have:=(HTY g hg).lt
 omega
def ByR(bs m:List UInt8)(st:Option (List UInt8)):Prop:=(∃ t1,eE bs=some (m,t1)/\st=some t1)\/(eE bs=none/\st=none)
theorem Zu(w:World)(p:Nat)(A:Option Addr)(n c:Nat)(bs:List UInt8)(h:vW w p A n c bs 0)(hn:n<=35184372088832)(hty:∀ g,aQ A=some g->bE w g 5) :
  Calls Tryz.prog 56 #[.pointer (some ⟨p,0,none⟩),.int .i64 2097152] w λe w'=>∃ (m:List UInt8) (st:Option (List UInt8)) (AX:Option Addr) (cX:Nat),e=.returned (.slice AX m.length cX)/\aI w' 1 AX m.length (m.map aP)/\m.length<=2097152/\ByR bs m st/\RS w' p st/\aC (λg=>g=p) w w':=by
 have hp:=aF h.blk
 refine (Nz w p A n c bs h hn).mono ?_
 rintro e w' (⟨x,t,A',n',c',AX,cX,hbr,hxl,rfl,hox,_,hr,hsb,T⟩ | ⟨hbr,rfl,k,hk,hr,T⟩)
 ·exact⟨x,some t,AX,cX,rfl,aI.of_own hox,hxl,.inl ⟨t,hbr,rfl⟩,⟨A',n',c',hr.blk,⟨hr.rd,λ_ g hg=>(hty g (hsb g hg)).touch T (λe=>(hty g (hsb g hg)).ne hp (by decide) e)⟩,hr.len,hr.le,hr.mx⟩,T⟩
 ·exact⟨[],none,none,0,rfl,aI.nil _ _ _,qZa _,.inr ⟨hbr,rfl⟩,⟨A,n,c,bs,k,hk,hr.blk,⟨hr.rd,λ_ g hg=>(hty g hg).touch T (λe=>(hty g hg).ne hp (by decide) e)⟩,hr.len,hr.le,hr.mx⟩,T⟩
def MaR(m:List UInt8)(base:Int)(Z:List SV)(wr:Int):Prop:=(wr=0/\∃ L,cA L/\mB L=m/\(bB L).base=base/\Z.map SV.p=(bB L).states)\/(wr=80/\∀ L,cA L->mB L≠m)
theorem Yq(w:World)(hL:dN w)(A:Option Addr)(n c:Nat)(m:List UInt8)(hr:aI w 1 A n (m.map aP))(hl:m.length=n)(hn:n<=4398046511104) :
  Calls Tryz.prog 55 #[.slice A n c] w λe w'=>∃ (base:Int) (A4:Option Addr) (n4 c4:Nat) (Z:List SV) (wr:Int),e=.returned (.tuple #[.agg #[.int .i64 base,.slice A4 n4 c4],.int .i64 wr])/\eC w' A4 n4 Z/\MaR m base Z wr/\aC (λ_=>False) w w':=by
 refine (Nh w hL A n c m hr hl hn).mono ?_
 rintro e w' ⟨T,⟨base,sts,hb,hn,hR,hm,A4,n4,c4,Z,rfl,hst,hz,_⟩ | ⟨hno,rfl⟩⟩
 ·obtain⟨hD,hM⟩:=pJ hR
  refine⟨base,A4,n4,c4,Z,0,rfl,Ye hst,.inl ⟨rfl,_,hD,?_,by rw[hM],by rw[hz,hM]⟩,T⟩
  unfold mB
  rw[hM,hm]
 ·refine⟨0,none,0,0,[],80,rfl,⟨⟨aI.nil _ _ _,λh=>absurd h (by omega)⟩,rfl,λz hz=>by cases hz⟩,.inr ⟨rfl,λL hD e=>?_⟩,T⟩
  have hb:=gE hD
  obtain⟨bn,hbn⟩:∃ bn:Nat,(bB L).base=(bn:Int):=⟨(bB L).base.toNat,by omega⟩
  refine hno bn (bB L).states (by omega) (by rw[<-hbn];exact dD hD) ?_
  rw[<-e]
  unfold mB
  rw[hbn]
theorem Ev(h:mT b=none):∀ L R,¬ lH b L R:=λL R hi=>by rw[fG hi] at h;cases h
theorem sG(h:∀ x,cR b≠some (x,[])):mT b=none:=by
 unfold mT
 split
 ·rename_i x hu;exact absurd hu (h x)
 ·rfl
def rwX(st:Option (List UInt8)):List aU × Option (List UInt8):=cF (uX 4096 st).1 (uX 4096 st).2
theorem kF{m:List UInt8}{R:List aU}(h:mT b=some (m,R)){x:List UInt8}(hu:cR b=some (x,[])){m':List UInt8}{st:Option (List UInt8)}(hb:ByR x m' st):m'=m/\R=(rwX st).1/\(rwX st).2=some []/\R.all dR=true:=by
 unfold mT at h
 rw[hu] at h
 simp only at h
 rcases hb with⟨t1,hb,rfl⟩ | ⟨hb,rfl⟩
 ·rw[hb] at h
  simp only at h
  split at h
  ·rename_i hc
   simp only[Option.some.injEq,Prod.mk.injEq] at h
   obtain⟨rfl,rfl⟩:=h
   exact⟨rfl,rfl,hc.1,hc.2⟩
  ·cases h
 ·rw[hb] at h
  cases h
theorem yT{x m:List UInt8}{st:Option (List UInt8)}(hu:cR b=some (x,[]))(hb:ByR x m st)(h1:(rwX st).2=some [])(h2:(rwX st).1.all dR=true):mT b=some (m,(rwX st).1):=by
 unfold mT
 rw[hu]
 simp only
 rcases hb with⟨t1,hb,rfl⟩ | ⟨hb,rfl⟩
 ·rw[hb]
  simp only
  rw[if_pos ⟨h1,h2⟩]
  rfl
 ·obtain⟨_,e,_⟩:=zM _ h1
  obtain⟨_,e,_⟩:=pS e
  cases e
def aFe(b:List UInt8)(w:World)(e:Ending)(w':World):Prop:=aC (λ_=>False) w w' /\
 ((∃ L R s d tb v,lH b L R/\e=.returned (.tuple #[dC s,.int .i64 0])/\nY w' s d tb v L 0 R/\w.heap.size<=d/\w.heap.size<=tb/\∀ g,v.ownBlock=some g->w.heap.size<=g) \/
   ((∀ L R,¬ lH b L R)/\e=.returned (.tuple #[.pointer none,.int .i64 160])))
theorem Mi(bs:List UInt8):∀ u∈bs.map aP,u.oneCell'=true:=by
 intro u hu
 obtain⟨b,_,rfl⟩:=List.mem_map.1 hu
 rfl
theorem Jh{w8:World}(T:aC (λ_=>False) w w8)(hg:w.heap.size<=g)(a b c:Value):aC (λ_=>False) w (((w8.setCell ⟨g,0,none⟩ a).setCell ⟨g,1,none⟩ b).setCell ⟨g,2,none⟩ c):=by
 have hg':∀ i,(⟨g,i,none⟩:Addr).block<w.heap.size->False:=λi h=>by simp only at h;omega
 exact ((T.setCell (hg' 0) a).setCell (hg' 1) b).setCell (hg' 2) c
def aCg(w:World)(A:Option Addr)(n c:Nat)(xs:List UInt8)(en:Ending)(w':World):Prop :=
 ∃ (m:List UInt8) (st:Option (List UInt8)) (p':Nat) (e':Int) (AX:Option Addr) (cX:Nat),en=.returned (.tuple #[.agg #[.slice A n c,.int .i64 p',.int .i64 e'],.slice AX m.length cX])/\eB 5 1 w w' (.slice AX m.length cX) m.length (m.map aP)/\m.length<=2097152/\ByR xs m st/\RQ n xs p' e' st
theorem Hl{w2 wg:World}{v h g2:Nat}{AG:Option Addr}{cG:Nat}(hox:eB 5 1 w2 wg (.slice AG v cG) v ((t.take v).map aP))(T:aC (λ_=>False) w wg)(hs:w.heap.size<=w2.heap.size)(hg:w.heap.size+1<g2)(t2:bE wg g2 138)(t1:bE wg (w.heap.size+1) 138)(hl:(t.take v).length=v)(hv:v<=2097152)(hb:eE xs=some (t.take v,t.drop v))(hd:t.drop v=xs.drop h)(hn:h<=n){a b e d:Value} :
  aCg w A n c xs (.returned (.tuple #[.agg #[.slice A n c,.int .i64 h,.int .i64 0],.slice AG v cG])) ((((wg.setCell ⟨g2,1,none⟩ a).setCell ⟨w.heap.size+1,0,none⟩ b).setCell ⟨w.heap.size+1,1,none⟩ e).setCell ⟨w.heap.size+1,2,none⟩ d):=by
 have TF:aC (λg=>g=g2\/g=w.heap.size+1) wg ((((wg.setCell ⟨g2,1,none⟩ a).setCell ⟨w.heap.size+1,0,none⟩ b).setCell ⟨w.heap.size+1,1,none⟩ e).setCell ⟨w.heap.size+1,2,none⟩ d) :=
  ((((aC.refl (λg=>g=g2\/g=w.heap.size+1) wg).setCell (p:=⟨g2,1,none⟩) (λ_=>.inl rfl) _).setCell (p:=⟨w.heap.size+1,0,none⟩) (λ_=>.inr rfl) _).setCell (p:=⟨w.heap.size+1,1,none⟩) (λ_=>.inr rfl) _).setCell (p:=⟨w.heap.size+1,2,none⟩) (λ_=>.inr rfl) _
 have ho:=aD hox.own TF (λg hg e=>by
  rcases e with e | e
  ·exact (aH hox.own hg).ne t2 (by decide) e
  ·exact (aH hox.own hg).ne t1 (by decide) e)
 have TT:=T.trans TF (λg hg' e=>by omega)
 refine⟨t.take v,some (t.drop v),h,0,AG,cG,by rw[hl],?_,by rw[hl];exact hv,.inl ⟨t.drop v,hb,rfl⟩,⟨hn,rfl,hd⟩⟩
 rw[hl]
 exact⟨ho,TT,λg hg'=>Nat.le_trans hs (hox.fresh g hg')⟩
theorem Ow(w:World)(A:Option Addr)(n c:Nat)(xs:List UInt8)(h:RB w A n c xs) :
  Calls Tryz.prog 71 #[.agg #[.slice A n c,.int .i64 0,.int .i64 0],.int .i64 2097152] w λen w'=>aCg w A n c xs en w':=by
 obtain⟨i0,hi0,hz0,hz1,hz2⟩:=aO fW
 obtain⟨v,s1,hu⟩:∃ a s,uX 2097152 (some xs)=(a,s):=⟨_,_,rfl⟩
 have hvm:v<=2097152:=by have:=@aHk 2097152 (some xs);rw[hu] at this;exact this
 obtain⟨w0,hw0⟩:=eX ((w.alloc (.cells #[.slice A n c,.int .i64 0,.int .i64 0] 138)).alloc (.cells #[.slice none 0 0,.int .i64 0,.int .i64 0] 138))
 have T0:aC (λ_=>False) w w0:=by rw[hw0];exact ((aC.refl _ _).alloc _).alloc _
 have HBA:Hid (aL w0 w.heap.size 138 #[.slice A n c,.int .i64 0,.int .i64 0]):=aB (by rw[hw0];exact (aL.new _ _ _).alloc _)
 have HBB:Hid (aL w0 (w.heap.size+1) 138 #[.slice none 0 0,.int .i64 0,.int .i64 0]):=aB (by rw[hw0];exact fU _ _ _ _)
 have HT0:=aB T0
 have HW0:=aB hw0
 have HRB:=aB h
 have HU1:=aB (tW w0 A n c xs (h.quiet T0) 0 0 (some xs) ⟨qZa _,rfl,rfl⟩ 2097152 hu)
 have HV:=aB hvm
 have HUU:=aB hu
 clear hw0 T0 h hu hvm
 obtain⟨r0,r1,r2⟩:=HBA.facts
 go_in
 go_wp2_with fail
 rw[<-HW0.out]
 refine HU1.mono ?_
 rintro en w1 ⟨p1,e1,rfl,hq1,T1⟩
 have HQ1:=aB hq1
 have HT1:=aB T1
 clear hq1 T1 r0 r1 r2 HU1
 go_upto_region 2 with fail
 obtain⟨w2,hw2⟩:=eX (w1.alloc (.cells #[.slice A n c,.int .i64 p1,.int .i64 e1] 138))
 obtain⟨g2,hg2⟩:=eX w1.heap.size
 have T2:aC (λ_=>False) w w2:=by rw[hw2];exact ((HT0.then HT1).alloc _)
 have HC2:Hid (aL w2 g2 138 #[.slice A n c,.int .i64 p1,.int .i64 e1]):=aB (by rw[hw2,hg2];exact aL.new _ _ _)
 have HA2:Hid (aL w2 w.heap.size 138 #[.slice A n c,.int .i64 0,.int .i64 0]):=aB (by rw[hw2];exact ((HBA.touch HT1 (λf=>f)).alloc _))
 have HB2:Hid (aL w2 (w.heap.size+1) 138 #[.slice none 0 0,.int .i64 0,.int .i64 0]):=aB (by rw[hw2];exact ((HBB.touch HT1 (λf=>f)).alloc _))
 have HG2:Hid (w.heap.size+1<g2):=aB (by have:=(HBB.touch HT1 (λf=>f)).lt;omega)
 have HT2:=aB T2
 rw[<-hw2,<-hg2]
 obtain⟨c0,c1,c2⟩:=HC2.facts
 obtain⟨b0,b1,b2⟩:=HB2.facts
 clear T2 hw2 hg2
 rcases wV 2097152 (some xs) with⟨bs,v',t,hbs,hur,hue⟩ | hue
 ·simp only[Option.some.injEq] at hbs
  subst hbs
  have huu:=HUU.out
  rw[hue] at huu
  simp only[Prod.mk.injEq] at huu
  obtain⟨rfl,rfl⟩:=huu
  obtain⟨hp1,he1,ht⟩:=HQ1.out
  subst he1
  have htl:t.length=n-p1:=by rw[ht,qJb,HRB.len]
  have hn0:0<n:=by
   have h1:=congrArg List.length (bN hur).1
   have h2:=Kj v'
   rw[qJa,HRB.len] at h1
   omega
  have hfew:=HRB.few
  have hle:=HRB.le
  obtain⟨q,hq⟩:=eX (n-p1)
  have z0:IntKind.i64.wrap ((n:Int)-(p1:Int))=(q:Int):=by rw[show (n:Int)-(p1:Int)=(q:Int) by omega];exact qQa _ (by omega)
  have z1:IntKind.u64.wrap (q:Int)=(q:Int):=qQb _ (by omega)
  have HUR:=aB hur
  have HTL:=aB htl
  have HT:=aB ht
  have HQQ:=aB hq
  have HP1:=aB hp1
  by_cases hvq:v'<=q
  ·have y0:¬ (q:Int)<(v':Int):=by omega
   have HBR:Hid (eE xs=some (t.take v',t.drop v')):=aB (by
    unfold eE
    rw[hur]
    simp only
    rw[if_pos (by omega)])
   obtain⟨h,hh⟩:=eX (p1+v')
   have z2:IntKind.i64.wrap ((p1:Int)+(v':Int))=(h:Int):=by rw[show (p1:Int)+(v':Int)=(h:Int) by omega];exact qQa _ (by omega)
   have z3:IntKind.i64.wrap (v':Int)=(v':Int):=qQa _ (by omega)
   have y1:(0:Int)<=(p1:Int):=by omega
   have y2:(p1:Int)<=(h:Int):=by omega
   have y3:(h:Int)<=(c:Int):=by omega
   have y4:((h:Int)-(p1:Int)).toNat=v':=by omega
   have y5:h-p1=v':=by omega
   obtain⟨ga,oa,hA,_,_⟩:=HRB.rd.form hn0
   have hcut:=(HRB.rd.touch HT2 (λ_ _ f=>f)).cut hp1 hle
   have htk:=hcut.take (k:=v') (by omega)
   rw[Nat.mul_one,Nat.mul_one,<-List.map_drop,<-ht,<-qXc] at htk
   subst hA
   have HTK:=aB htk
   have HH:=aB hh
   have HVQ:=aB hvq
   clear hcut htk hue hur ht htl hn0 hp1 hq hh hvq hfew hle
   have HOE:Hid (eB 5 1 w2 (w2.alloc (.cells #[] 5)) (.slice (some ⟨w2.heap.size,0,none⟩) 0 0) 0 []):=aB ⟨vD _ _ _,(aC.refl _ _).alloc _,λg hg=>by simp[Value.ownBlock] at hg;omega⟩
   have HTL8:Hid ((t.take v').length=v'):=aB (by rw[List.length_take,HTL.out];have:=HVQ.out;have:=HQQ.out;omega)
   have HBB:Hid (0+v'<=maxLen/\(0+v')*1<=140737488355328):=aB (by have:=HV.out;unfold maxLen;omega)
   have HON:=aB (Mi (t.take v'))
   by_cases hcp:c=p1
   ·rw[if_pos hcp] at HTK
    have HCP:=aB hcp
    have y6:(c:Int)=(p1:Int):=by omega
    subst hcp
    go_upto_region 7 with fail
    go_wp2_with (at_builtin;refine aR _ rfl (.tmp 32) (.tmp 42) 50 rfl 5 i0 _ 1 1 Tryz.underlying50 hi0 hz0 hz1 hz2 rfl (by decide) (.slice (some ⟨w2.heap.size,0,none⟩) 0 0) 0 [] rfl HOE.own (some ⟨ga,oa,none⟩) v' 0 ((t.take v').map aP) rfl (HTK.touch ((aC.refl (λ_=>False) _).alloc _) (λ_ _ f=>f)) (λh=>by cases h) HON HBB.1 HBB.2 ?_)
    intro vg wg hown hgrow hfr _
    have hox:=HOE.app (m:=v') (ys:=(t.take v').map aP) (by rw[qXb,qZb,qXc];exact hown) hgrow hfr
    obtain⟨AG,cG,hvg,_,_⟩:=aX hown
    subst hvg
    simp only[qXb,qZb] at hox
    have HOX:=aB hox
    have HCg:=aB (HC2.touch hox.touch (λf=>f))
    have HBg:=aB (HB2.touch hox.touch (λf=>f))
    have HTg:=aB (HT2.then hox.touch)
    clear hown hgrow hfr hox b0 b1 b2 c0 c1 c2
    obtain⟨b0,b1,b2⟩:=HBg.facts
    obtain⟨c0,c1,c2⟩:=HCg.facts
    have ne1:¬ w.heap.size+1=g2:=by have:=HG2.out;omega
    have ne2:¬ g2=w.heap.size+1:=by have:=HG2.out;omega
    go_wp2_with fail
    refine bodyPost_ret (v:=.tuple #[.agg #[.slice (some ⟨ga,oa,none⟩) n c,.int .i64 h,.int .i64 0],.slice AG v' cG]) (dP rfl _ _ (w.heap.size+1) 138 _ _ _ rfl ?hsx Tryz.underlying138 rfl (by kernel_rfl) rfl) rfl ?hox
    case hsx=>exact oR _ _ _ (HBg.far (p:=⟨g2,1,none⟩) (by have:=HG2.out;simp;omega) _)
    case hox=>exact Hl HOX HTg HT2.size HG2 (aF HCg) (aF HBg) HTL8 HV HBR (by rw[HT.out,qQc,HH.out]) (by have:=HH.out;have:=HVQ.out;have:=HQQ.out;have:=HP1.out;omega)
   ·rw[if_neg hcp] at HTK
    simp only[Option.map_some,Addr.add_lit] at HTK
    have y6:¬ (c:Int)=(p1:Int):=by omega
    have y7:¬ c=p1:=hcp
    clear hcp
    go_upto_region 7 with fail
    go_wp2_with (at_builtin;refine aR _ rfl (.tmp 32) (.tmp 42) 50 rfl 5 i0 _ 1 1 Tryz.underlying50 hi0 hz0 hz1 hz2 rfl (by decide) (.slice (some ⟨w2.heap.size,0,none⟩) 0 0) 0 [] rfl HOE.own (some ⟨ga,oa+p1,none⟩) v' (c-p1) ((t.take v').map aP) rfl (HTK.touch ((aC.refl (λ_=>False) _).alloc _) (λ_ _ f=>f)) (λh=>by cases h) HON HBB.1 HBB.2 ?_)
    intro vg wg hown hgrow hfr _
    have hox:=HOE.app (m:=v') (ys:=(t.take v').map aP) (by rw[qXb,qZb,qXc];exact hown) hgrow hfr
    obtain⟨AG,cG,hvg,_,_⟩:=aX hown
    subst hvg
    simp only[qXb,qZb] at hox
    have HOX:=aB hox
    have HCg:=aB (HC2.touch hox.touch (λf=>f))
    have HBg:=aB (HB2.touch hox.touch (λf=>f))
    have HTg:=aB (HT2.then hox.touch)
    clear hown hgrow hfr hox b0 b1 b2 c0 c1 c2
    obtain⟨b0,b1,b2⟩:=HBg.facts
    obtain⟨c0,c1,c2⟩:=HCg.facts
    have ne1:¬ w.heap.size+1=g2:=by have:=HG2.out;omega
    have ne2:¬ g2=w.heap.size+1:=by have:=HG2.out;omega
    go_wp2_with fail
    refine bodyPost_ret (v:=.tuple #[.agg #[.slice (some ⟨ga,oa,none⟩) n c,.int .i64 h,.int .i64 0],.slice AG v' cG]) (dP rfl _ _ (w.heap.size+1) 138 _ _ _ rfl ?hsy Tryz.underlying138 rfl (by kernel_rfl) rfl) rfl ?hoy
    case hsy=>exact oR _ _ _ (HBg.far (p:=⟨g2,1,none⟩) (by have:=HG2.out;simp;omega) _)
    case hoy=>exact Hl HOX HTg HT2.size HG2 (aF HCg) (aF HBg) HTL8 HV HBR (by rw[HT.out,qQc,HH.out]) (by have:=HH.out;have:=HVQ.out;have:=HQQ.out;have:=HP1.out;omega)
  ·have y0:(q:Int)<(v':Int):=by omega
   have HBR:Hid (eE xs=none):=aB (by
    unfold eE
    rw[hur]
    simp only
    rw[if_neg (by omega)])
   obtain⟨a0,a1,a2⟩:=HA2.facts
   clear hue hur ht htl hn0 hp1 hq hvq hfew hle
   go_wp2_with fail
   refine bodyPost_ret (v:=.tuple #[.agg #[.slice A n c,.int .i64 0,.int .i64 20],.slice none 0 0]) (dP rfl _ _ (w.heap.size+1) 138 _ _ _ rfl ?hsb Tryz.underlying138 rfl (by kernel_rfl) rfl) rfl ?hob
   case hsb=>exact oR _ _ _ (HB2.far (p:=⟨w.heap.size,2,none⟩) (by simp) _)
   case hob =>
    have T:=Jh (HT2.setCell (p:=⟨w.heap.size,2,none⟩) (λh=>by simp only at h;omega) (.int .i64 20)) (Nat.le_succ w.heap.size) (.slice A n c) (.int .i64 0) (.int .i64 20)
    exact⟨[],none,0,20,none,0,rfl,⟨World.ownsRow_nil _ _ _ _,T,λg hg=>by simp[Value.ownBlock] at hg⟩,qZa _,.inr ⟨HBR,rfl⟩,⟨qZa _,by decide⟩⟩
 ·have huu:=HUU.out
  rw[hue] at huu
  simp only[Prod.mk.injEq] at huu
  obtain⟨rfl,rfl⟩:=huu
  obtain⟨hp1,he1⟩:=HQ1.out
  have y0:(e1 == 0)=false:=by simp;omega
  have y1:¬ e1=0:=by omega
  have HBR:Hid (eE xs=none):=aB (by
   unfold eE
   cases hur:bU 2097152 xs with
   | none=>rfl
   | some r =>
    rw[Am (v:=r.1) (t:=r.2) hur] at hue
    have h9:=congrArg Prod.snd hue
    cases h9)
  clear hue hp1 he1
  go_wp2_with fail
  refine bodyPost_ret (v:=.tuple #[.agg #[.slice A n c,.int .i64 p1,.int .i64 e1],.slice none 0 0]) (dP rfl _ _ (w.heap.size+1) 138 _ _ _ rfl ?hs Tryz.underlying138 rfl (by kernel_rfl) rfl) rfl ?ho
  case hs=>exact oR _ _ _ HB2
  case ho =>
   have T:=Jh HT2 (Nat.le_succ w.heap.size) (.slice A n c) (.int .i64 p1) (.int .i64 e1)
   exact⟨[],none,p1,e1,none,0,rfl,⟨World.ownsRow_nil _ _ _ _,T,λg hg=>by simp[Value.ownBlock] at hg⟩,qZa _,.inr ⟨HBR,rfl⟩,HQ1⟩
theorem Sn(w:World)(A:Option Addr)(n c:Nat)(bs:List UInt8)(hR:aI w 1 A n (bs.map aP))(hl:bs.length=n)(hn:n<=35184372088832) :
  Calls Tryz.prog 129 #[.slice A n c] w λe w'=>e=.returned (.int .u32 ((sumB bs:Nat):Int))/\aC (λ_=>False) w w':=by
 have HR:=aB hR
 have HL:=aB hl
 have HN:=aB hn
 clear hR hl hn
 go_in
 go_wp2_with fail
 go_loopw [3,4] (λsv iv wr=>∃ (i:Nat),sv=.int .u32 ((oH (bs.take i):Nat):Int)/\iv=.int .i64 i/\i<=n/\wr=w) (λ_ iv _=>n-(intOf iv).toNat)
 case atStart=>exact⟨0,rfl,rfl,qZa _,rfl⟩
 case round =>
  obtain⟨i,rfl,rfl,hin',rfl⟩:=hrel
  obtain⟨wo,hwo⟩:=eX wr
  subst hwo
  by_cases hin:i<n
  ·have y0:(i:Int)<(n:Int):=by omega
   have y1:(0:Int)<=(i:Int):=by omega
   have y2:IntKind.i64.wrap ((i:Int)+1)=(i:Int)+1:=qQa _ (by have:=HN.out;omega)
   obtain⟨gl,ol,hAl,hgl,l0⟩:=rL HR i hin HL
   subst hAl
   obtain⟨b,hb⟩:=eX (bs.getD i 0)
   have hsn:oH (bs.take (i+1))=iX 8 (oH (bs.take i) ^^^ b.toNat):=by rw[xN bs i (by rw[HL.out];exact hin),Cc,hb];rfl
   rw[<-hb] at l0
   obtain⟨s,hs⟩:=eX (oH (bs.take i))
   rw[<-hs] at hsn
   have hslt:s<4294967296:=by rw[hs];exact wG _
   obtain⟨v,hv⟩:∃ v:Nat,v=b.toNat:=⟨_,rfl⟩
   have hvlt:v<256:=by rw[hv];exact b.toNat_lt
   rw[<-hv] at l0 hsn
   have m0:IntKind.u32.wrap (v:Int)=(v:Int):=by rw[IntKind.wrap_u32];omega
   have m1:bits .xor .u32 (s:Int) (v:Int)=((s ^^^ v:Nat):Int):=u32_xor_nat s v hslt (by omega)
   obtain⟨x,hx⟩:=eX (s ^^^ v)
   have hxlt:x<4294967296:=by rw[hx];exact Nat.xor_lt_two_pow (n:=32) hslt (by omega)
   rw[<-hx] at m1 hsn
   have HSN:=aB hsn
   have HXL:=aB hxlt
   have HIN:=aB hin
   have HS:=aB hs
   rw[<-hs]
   clear hb hs hsn hv hx hxlt hin hin' hslt hvlt
   go_wp2_with fail
   go_loopw [3,5] (λsv kv wr=>∃ (k:Nat),sv=.int .u32 ((iX k x:Nat):Int)/\kv=.int .i64 k/\k<=8/\wr=wo) (λ_ kv _=>8-(intOf kv).toNat)
   case atStart=>exact⟨0,rfl,rfl,by omega,rfl⟩
   case round =>
    obtain⟨k,rfl,rfl,hk',hwr⟩:=hrel
    subst hwr
    by_cases hk:k<8
    ·have k0:(k:Int)<8:=by omega
     have k1:(0:Int)<=(k:Int):=by omega
     have k2:IntKind.i64.wrap ((k:Int)+1)=(k:Int)+1:=qQa _ (by omega)
     obtain⟨r,hr⟩:=eX (iX k x)
     have hrlt:r<4294967296:=by rw[hr];exact pB HXL k
     have hnx:iX (k+1) x=jR r:=by rw[hr];rfl
     rw[<-hr]
     have hq:(r:Int) / 2=((r / 2:Nat):Int):=by omega
     have q2:(r:Int) / 2 % 4294967296=(r:Int) / 2:=by omega
     have HNX:=aB hnx
     have HK:=aB hk
     rcases Nat.mod_two_eq_zero_or_one r with h2 | h2
     ·have p0:(r:Int) % 2=0:=by omega
      have HB:Hid (jR r=r / 2):=aB (by unfold jR;rw[if_neg (by omega)])
      clear hr hrlt hnx hk hk' h2 hq
      go_wp2_with fail
      go_roundw
      ·exact⟨k+1,by rw[HNX.out,HB.out];simp,by simp,by have:=HK.out;omega,trivial⟩
      ·have:=HK.out
       simp only[intOf]
       omega
     ·have p0:(r:Int) % 2=1:=by omega
      have HB:Hid (jR r=(r / 2) ^^^ 2197175160):=aB (by unfold jR;rw[if_pos h2])
      have m2:bits .xor .u32 ((r / 2:Nat):Int) 2197175160=(((r / 2) ^^^ 2197175160:Nat):Int):=u32_xor_nat (r / 2) 2197175160 (by omega) (by decide)
      rw[<-hq] at m2
      obtain⟨y,hy⟩:=eX ((r / 2) ^^^ 2197175160)
      rw[<-hy] at m2 HB
      clear hr hrlt hnx hk hk' h2 hy hq
      go_wp2_with fail
      go_roundw
      ·exact⟨k+1,by rw[HNX.out,HB.out],by simp,by have:=HK.out;omega,trivial⟩
      ·have:=HK.out
       simp only[intOf]
       omega
    ·have k0:¬ (k:Int)<8:=by omega
     have hk8:k=8:=by omega
     subst hk8
     clear hk hk' k0
     go_wp2_with fail
     go_roundw
     ·exact⟨i+1,by rw[HSN.out],by simp,by have:=HIN.out;omega,trivial⟩
     ·have:=HIN.out
      simp only[intOf]
      omega
  ·have y0:¬ (i:Int)<(n:Int):=by omega
   have hie:bs.take i=bs:=List.take_of_length_le (by rw[HL.out];omega)
   rw[hie]
   have hlt:=wG bs
   obtain⟨s,hs⟩:=eX (oH bs)
   have m3:IntKind.u32.wrap (4294967295-(s:Int))=4294967295-(s:Int):=by rw[IntKind.wrap_u32];omega
   have HTT:Hid (((sumB bs:Nat):Int)=4294967295-(s:Int)):=aB (by unfold sumB;omega)
   rw[<-hs]
   clear hs hie hlt hin hin'
   go_wp2_with fail
   go_ret
   exact⟨by rw[HTT.out];rfl,aC.refl _ _⟩
def Zc(t:List UInt8):Nat->Nat
 | 0=>0
 | j+1=>Zc t j*256+(t.getD (3-j) 0).toNat
theorem aEs(t:List UInt8)(j:Nat):Zc t j<256 ^ j:=by
 induction j with
 | zero=>simp[Zc]
 | succ j ih =>
  have h:=(t.getD (3-j) 0).toNat_lt
  rw[Nat.pow_succ]
  simp only[Zc]
  omega
theorem aCb(t:List UInt8):Zc t 4=Aq t 4:=by
 simp only[Zc,Aq]
 simp
 omega
theorem Sp(w:World)(A:Option Addr)(n c:Nat)(xs:List UInt8)(h:RB w A n c xs) :
  Calls Tryz.prog 70 #[.slice A n c] w λe w'=>Nv n xs w e w':=by
 have HRB:=aB h
 have HGB:=aB (Ow w A n c xs h)
 clear h
 go_in
 go_wp2_with fail
 refine HGB.mono ?_
 rintro en w1 ⟨m,st,p,e,AX,cX,rfl,hox,hml,hby,hq⟩
 have HOX:=aB hox
 have HML:=aB hml
 obtain⟨w2,hw2⟩:=eX (w1.alloc (.cells #[.slice A n c,.int .i64 p,.int .i64 e] 138))
 obtain⟨g2,hg2⟩:=eX w1.heap.size
 have T2:aC (λ_=>False) w1 w2:=by rw[hw2];exact (aC.refl _ _).alloc _
 have HC2:Hid (aL w2 g2 138 #[.slice A n c,.int .i64 p,.int .i64 e]):=aB (by rw[hw2,hg2];exact aL.new _ _ _)
 have HO2:=aB (hox.to T2)
 have HSM:=aB (Sn w2 AX m.length cX m (aI.of_own (hox.to T2).own) rfl (by omega))
 go_upto_region 2 with fail
 rw[<-hw2,<-hg2]
 obtain⟨c0,c1,c2⟩:=HC2.facts
 clear hox hml T2 hw2 hg2 HGB
 have hfew:=HRB.few
 rcases hby with⟨t,hbr,rfl⟩ | ⟨hbr,rfl⟩
 ·obtain⟨hp,he,ht⟩:=hq
  subst he
  have htl:t.length=n-p:=by rw[ht,qJb,HRB.len]
  have z0:IntKind.i64.wrap ((n:Int)-(p:Int))=(n:Int)-(p:Int):=qQa _ (by omega)
  by_cases h4:4<=t.length
  ·have y0:¬ (n:Int)-(p:Int)<4:=by omega
   have HBR:=aB hbr
   have HT:=aB ht
   have HTL:=aB htl
   have HPB:=aB (And.intro hp (And.intro h4 hfew))
   clear hbr ht htl hp h4 hfew
   go_wp2_with fail
   go_loopw [7,8] (λsv kv wr=>∃ (j:Nat) (kI:Int),sv=.int .u32 ((Zc t j:Nat):Int)/\kv=.int .i64 kI/\Hid (kI=3-(j:Int))/\j<=4/\wr=w2) (λ_ kv _=>(intOf kv+1).toNat)
   case atStart=>exact⟨0,3,by simp[Zc],rfl,aB (by simp),by omega,rfl⟩
   case round =>
    obtain⟨j,kI,rfl,rfl,hkI,hj4,hwr⟩:=hrel
    subst hwr
    by_cases hj:j<4
    ·obtain⟨q,hqq⟩:=eX (p+(3-j))
     have hk:=hkI.out
     have hpb:=HPB.out
     have htl:=HTL.out
     have y1:(0:Int)<=kI:=by omega
     have z1:IntKind.i64.wrap ((p:Int)+kI)=(q:Int):=by rw[show (p:Int)+kI=(q:Int) by omega];exact qQa _ (by omega)
     have z2:IntKind.i64.wrap (kI-1)=kI-1:=qQa _ (by omega)
     have hqn:q<n:=by omega
     have y2:(q:Int)<(n:Int):=by omega
     have y3:(0:Int)<=(q:Int):=by omega
     obtain⟨g',o',hA',_,l0⟩:=rL (HRB.rd.touch HO2.touch (λ_ _ f=>f)) q hqn HRB.len
     subst hA'
     have hxd:xs.getD q 0=t.getD (3-j) 0:=by rw[HT.out,hqq];simp[List.getD]
     rw[hxd] at l0
     obtain⟨d,hd⟩:=eX ((t.getD (3-j) 0).toNat)
     have hdl:d<256:=by rw[hd];exact (t.getD (3-j) 0).toNat_lt
     obtain⟨s,hs⟩:=eX (Zc t j)
     have hsl:s<16777216:=by
      have h1:=aEs t j
      have h2:256 ^ j<=256 ^ 3:=qZd (by decide) (by omega)
      rw[hs]
      exact Nat.lt_of_lt_of_le h1 h2
     have z3:IntKind.u32.wrap ((s:Int)*256)=((s*256:Nat):Int):=by rw[IntKind.wrap_u32];omega
     have z4:IntKind.u32.wrap (d:Int)=(d:Int):=by rw[IntKind.wrap_u32];omega
     obtain⟨s2,hs2⟩:=eX (s*256)
     obtain⟨s3,hs3⟩:=eX (s2+d)
     have z5:IntKind.u32.wrap ((s2:Int)+(d:Int))=(s3:Int):=by rw[IntKind.wrap_u32];omega
     rw[<-hs2] at z3
     have HS3:Hid (s3=Zc t (j+1)):=aB (by rw[hs3,hs2,hs,hd];rfl)
     rw[<-hs]
     rw[<-hd] at l0
     have HJ:=aB hj
     clear hk hpb htl hqn hxd hd hdl hs hsl hs2 hs3 hqq hj hj4
     go_wp2_with fail
     refine⟨⟨j+1,kI-1,by rw[HS3.out],rfl,aB (by have:=hkI.out;omega),HJ,trivial⟩,by simp only[intOf];have:=hkI.out;have:=HJ.out;omega⟩
    ·have hje:j=4:=by omega
     subst hje
     have y1:¬ (0:Int)<=kI:=by have:=hkI.out;omega
     rw[aCb]
     obtain⟨s,hs⟩:=eX (Aq t 4)
     obtain⟨s2,hs2⟩:=eX (sumB m)
     rw[<-hs]
     rw[<-hs2] at HSM
     have HS:=aB hs
     have HS2:=aB hs2
     clear hj hj4 hs hs2
     go_wp2_with fail
     refine HSM.mono ?_
     rintro e w3 ⟨rfl,T3⟩
     have HO3:=aB (HO2.to T3)
     have HC3:=aB (HC2.touch T3 (λf=>f))
     clear T3 HSM c0 c1 c2
     obtain⟨c0,c1,c2⟩:=HC3.facts
     by_cases hss:s=s2
     ·subst hss
      have z6:IntKind.i64.wrap ((p:Int)+4)=(p:Int)+4:=qQa _ (by have:=HPB.out;omega)
      have HUN:Hid (cR xs=some (m,t.drop 4)):=aB (by
       unfold cR
       rw[HBR.out]
       simp only
       rw[if_pos ⟨HPB.2.1,by rw[<-HS.out,<-HS2.out]⟩])
      have HDL:Hid ((t.drop 4).length=n-p-4):=aB (by rw[qJb,HTL.out])
      have HE:Hid ((p:Int)+4=(n:Int)-((t.drop 4).length:Nat)):=aB (by have:=HDL.out;have:=HPB.out;have:=HTL.out;omega)
      go_wp2_with fail
      go_region
      go_wp2_with fail
      go_ret3
      exact .inl ⟨m,t.drop 4,AX,cX,HUN,HML,by have:=HDL.out;omega,by rw[<-HE.out];rfl,HO3.to ((aC.refl _ _).drew)⟩
     ·have y5:((s:Int) == (s2:Int))=false:=by simp;omega
      have y6:¬ (s:Int)=(s2:Int):=by omega
      have HUN:Hid (cR xs=none):=aB (by
       unfold cR
       rw[HBR.out]
       simp only
       rw[if_neg (by rw[<-HS.out,<-HS2.out];exact λh=>hss h.2)])
      clear hss
      go_wp2_with fail
      go_ret3
      exact .inr ⟨HUN,24,by decide,rfl,HO3.touch⟩
  ·have y0:(n:Int)-(p:Int)<4:=by omega
   have HUN:Hid (cR xs=none):=aB (by
    unfold cR
    rw[hbr]
    simp only
    rw[if_neg (by omega)])
   clear hbr ht htl hp h4 hfew
   go_wp2_with fail
   go_ret3
   exact .inr ⟨HUN,20,by decide,rfl,HO2.touch⟩
 ·obtain⟨hp,he⟩:=hq
  have y0:(e == 0)=false:=by simp;omega
  have y1:¬ e=0:=by omega
  have HUN:Hid (cR xs=none):=aB (by
   unfold cR
   rw[hbr])
  have HE:=aB he
  clear hbr hp he hfew
  go_wp2_with fail
  go_region
  go_wp2_with fail
  go_ret3
  exact .inr ⟨HUN,e,HE,rfl,HO2.touch.drew⟩
end Go.Proofs.YthockgmbooefpaaGreatDoor
