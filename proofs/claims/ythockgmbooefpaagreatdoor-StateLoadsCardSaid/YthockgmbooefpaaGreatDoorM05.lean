/- What the law rests on, part 5. No condition but those that each theorem names. -/
import Derived.Test.YthockgmbooefpaaGreatDoorM04
set_option linter.unusedSectionVars false
set_option linter.unusedSimpArgs false
set_option linter.unusedVariables false
set_option maxRecDepth 100000
set_option maxHeartbeats 8000000
namespace Go.Proofs.YthockgmbooefpaaGreatDoor
open IntWalk renaming i64_in → qQa
open List renaming replicate → qZa, take_of_length_le → qXa, mem_of_getElem? → qJa, mem_singleton → qZb, eq_nil_of_length_eq_zero → qQc
open Nat renaming le_trans → qQb, lt_succ_iff_lt_or_eq → qXb
variable{es:Array MapEntry}{U:List S3}{B N Y b clock m:Nat}{kv:Nat->Value}{w:World}{z:bP}
open Go.RowKit
section
variable[Inhabited eF]
def jF(P:Prop)(e:Ending):Prop:=∃ v:Bool,e=.returned (.bool v)/\(v=true↔P)
end
theorem jF.mk{P:Prop}(v:Bool)(h:v=true↔P):jF P (.returned (.bool v)):=⟨v,rfl,h⟩
section
variable[Inhabited eF]
def jX(x:Int):Bool:=decide (0<=x) && dS x.toNat
end
theorem kG(r:Nat):jX (r:Int)=dS r:=by simp[jX]
theorem Jd(x:Int)(w:World):Calls Tryz.prog 147 #[.int .i32 x] w λe w'=>e=.returned (.bool (jX x))/\w'=w:=by
 by_cases h0:0<=x
 ·obtain⟨r,rfl⟩:∃ r:Nat,x=(r:Int):=⟨x.toNat,by omega⟩
  rw[kG]
  exact fY r w
 ·have e:jX x=false:=by simp[jX,h0]
  rw[e]
  go_in
  go_wp2_with fail
  go_ret
  exact⟨rfl,rfl⟩
theorem Yn(w:World)(g:Nat)(x:Int)(hR:aI w 1 (some ⟨g,0,none⟩) 1 [.int .i32 x])(hs:jX x=false) :
  Calls Tryz.prog 93 #[.slice (some ⟨g,0,none⟩) 1 1] w λe w'=>e=.returned (.tuple #[.string ByteArray.empty,.bool false])/\aC (λ_=>False) w w':=by
 obtain⟨b,off,hA,_,hc⟩:=hR.2 (by omega)
 have h0:=hc 0 _ rfl
 injection hA with hA
 injection hA with hA ho
 subst hA
 subst ho
 simp only[Nat.add_zero] at h0
 have HSC:=aB (Jd x)
 rw[hs] at HSC
 clear hc hR
 go_in
 go_wp2_with fail
 go_loop [4,9] (λbv iv=>bv=.slice none 0 0/\iv=.int .i64 0) (λ_ _=>0)
 case atStart=>exact⟨rfl,rfl⟩
 case round =>
  obtain⟨rfl,rfl⟩:=hrel
  go_wp2_with fail
  refine (HSC w).mono ?_
  rintro e w2 ⟨rfl,hw⟩
  subst hw
  go_wp2_with fail
  exact bodyPost_ret (v:=.tuple #[.string ByteArray.empty,.bool false]) (by simp[results,Tryz.results93,go_sem];try rfl) rfl ⟨rfl,aC.refl _ _⟩
theorem Nm(w:World)(hL:dN w) :
  Calls Tryz.prog 78 #[.string ByteArray.empty] w λe w'=>e=.returned (.bool false)/\aC (λ_=>False) w w':=by
 have h:=oX w ByteArray.empty (by decide) hL
 have e:cD ByteArray.empty.toList=false:=by decide +kernel
 rw[e] at h
 exact h
theorem Yv{r:Nat}(hs:dS r=true)(hf:iY r=false):cD (aM r)=false:=by
 have h:=vL hs
 unfold cD
 rw[h]
 simp[hf]
theorem Rc(x:Int):∃ (tx:ByteArray) (tv wv:Bool),(wv=true↔aFz x) /\
  (∀ (w:World) (g:Nat),dN w->aI w 1 (some ⟨g,0,none⟩) 1 [.int .i32 x]->Calls Tryz.prog 93 #[.slice (some ⟨g,0,none⟩) 1 1] w λe w'=>e=.returned (.tuple #[.string tx,.bool tv])/\aC (λ_=>False) w w') /\
  ∀ w:World,dN w->Calls Tryz.prog 78 #[.string tx] w λe w'=>e=.returned (.bool wv)/\aC (λ_=>False) w w':=by
 by_cases hs:jX x=true
 ·obtain⟨r,rfl⟩:∃ r:Nat,x=(r:Int):=⟨x.toNat,by simp[jX] at hs;omega⟩
  rw[kG] at hs
  refine⟨⟨(aM r).toArray⟩,true,iY r,?_,?_,?_⟩
  ·constructor
   ·intro h
    exact⟨r,rfl,hs,h⟩
   ·rintro⟨q,hq,_,h2⟩
    have e:r=q:=by omega
    rw[e]
    exact h2
  ·intro w g hL hR
   have h:=Ak w hL (some ⟨g,0,none⟩) 1 1 [r] hR rfl (by omega) (λq hq=>by simp only[qZb] at hq;rw[hq];exact hs)
   simpa using h
  ·intro w hL
   have hl:=iH r
   have h:=oX w ⟨(aM r).toArray⟩ (by show (aM r).toArray.size<=_;rw[List.size_toArray];omega) hL
   rw[kJ] at h
   have e:cD (aM r)=iY r:=by
    cases hf:iY r with
    | true=>exact Nn hs hf
    | false=>exact Yv hs hf
   rw[e] at h
   exact h
 ·have hs':jX x=false:=by simpa using hs
  refine⟨ByteArray.empty,false,false,?_,λw g _ hR=>Yn w g x hR hs',λw hL=>Nm w hL⟩
  constructor
  ·intro h
   cases h
  ·rintro⟨q,rfl,h1,_⟩
   rw[kG,h1] at hs'
   cases hs'
section
variable[Inhabited eF]
def okB(num:Nat)(out:Int)(arcs:List (Int × Int × Int))(i:Nat)(b:Bool):Prop:=b=true↔okJ num out arcs i
theorem Hm(w:World)(hL:dN w)(z:ZV)(hz:z.Ok w)(num:Nat) :
  Calls Tryz.prog 138 #[.agg #[.bool z.fin,.int .i64 z.out,.slice z.A z.n z.c],.int .i64 num] w λe w'=>jF (pY num z.p) e/\aC (λ_=>False) w w':=by
 have hiff:=Qt num z.p
 obtain⟨fin,out,aA,n,ac,arcs⟩:=z
 obtain⟨hlen,hrd,hle,hmx⟩:=hz
 simp only[ZV.p] at *
 obtain⟨FZ,hFZ⟩:∃ FZ:Prop,pY num ⟨fin,out,arcs⟩=FZ:=⟨_,rfl⟩
 rw[hFZ] at hiff ⊢
 clear hFZ
 have hnm:n<=maxLen:=qQb hle hmx
 have HL:=aB hL
 have HRD:=aB hrd
 have HLEN:=aB hlen
 rw[hlen] at hiff
 have HIFF:=aB hiff
 clear hL hrd hlen hle hmx hiff
 obtain⟨w2,hw2⟩:=eX (w.alloc (.cells #[.bool fin,.int .i64 out,.slice aA n ac] 170))
 have hT2:aC (λ_=>False) w w2:=by rw[hw2];exact (aC.refl _ _).alloc _
 have HT2:=aB hT2
 have HW2:=aB hw2
 clear hw2 hT2
 go_in
 have hcase:∃ l0:Int,l0=(if fin=true then out else 1048577)/\((fin=false/\(out == 0)=false/\¬ FZ)\/(fin=true/\l0=out)\/(fin=false/\(out == 0)=true/\l0=1048577)):=by
  refine⟨_,rfl,?_⟩
  cases fin with
  | true=>exact .inr (.inl ⟨rfl,by simp⟩)
  | false =>
   by_cases h:out=0
   ·exact .inr (.inr ⟨rfl,by simp[h],by simp⟩)
   ·refine .inl ⟨rfl,by simp[h],λhf=>h ((HIFF.1 hf).1 rfl)⟩
 obtain⟨l0,hl0,hcase⟩:=hcase
 have HL0:=aB hl0
 clear hl0
 rcases hcase with⟨rfl,y0,hno⟩ | hcase
 ·have HNO:=aB hno
  clear hno
  go_wp2_with fail
  rw[<-HW2.out]
  go_ret
  exact⟨.mk false ⟨(λh=>by cases h),λh=>absurd h HNO⟩,HT2⟩
 ·have hb0:(0<=out/\out<=1048576)↔okJ num out arcs 0:=(Wq num out arcs).symm
  have HB0:=aB hb0
  clear hb0
  have HF0:Hid (fin=false->out=0):=aB (by
   rcases hcase with⟨h,_⟩ | ⟨_,h,_⟩
   ·intro e
    rw[h] at e
    cases e
   ·intro _
    simpa using h)
  have ho:(0<=out/\out<=1048576)\/(0<=out/\¬ out<=1048576)\/¬ 0<=out:=by omega
  rcases hcase with⟨rfl,hl1⟩ | ⟨rfl,y0,hl1⟩<;>rcases ho with⟨o1,o2⟩ | ⟨o1,o2⟩ | o1
  all_goals first | (exfalso;have h0:out=0:=(by simpa using y0);omega) | skip
  all_goals
   have HL1:=aB hl1
   clear hl1
   go_wp2_with fail
   rw[<-HW2.out]
   try clear y0
   go_loopw [5,6,7,30] (λlv kv bv iv wr=>∃ (i:Nat) (lo:Int) (b:Bool) (lab:Int),lv=.int .i64 lo/\kv=.bool b/\bv=.int .i32 lab/\iv=.int .i64 i/\i<=n/\Hid (lo=Md l0 arcs i)/\Hid (lab=Ra arcs i)/\Hid (okB num out arcs i b)/\Hid (aC (λ_=>False) w2 wr)) (λ_ _ _ iv _=>n-(intOf iv).toNat)
   case atStart =>
    refine⟨0,_,_,32,rfl,rfl,rfl,rfl,Nat.zero_le _,aB HL1.symm,aB rfl,aB ?_,aB (aC.refl _ _)⟩
    unfold okB
    rw[<-HB0.out]
    first
    | (simp;done)
    | (simp;omega)
   case round =>
    obtain⟨i,lo,b,lab,rfl,rfl,rfl,rfl,hi,HLO,HLB,HB,HT⟩:=hrel
    try clear o1
    try clear o2
    by_cases hin:i<n
    ·have y1:(i:Int)<(n:Int):=by omega
     have y2:(0:Int)<=(i:Int):=by omega
     have z2:IntKind.i64.wrap ((i:Int)+1)=(i:Int)+1:=qQa _ (by unfold maxLen at hnm;omega)
     obtain⟨g,o,hA,hg,c1,c2,c3⟩:=iR (HRD.quiet (HT2.then HT)).rd HLEN i hin
     subst hA
     have hsu:=Ri l0 arcs i (by rw[HLEN.out];exact hin)
     rw[<-HLO.out] at hsu
     have hlb:Ra arcs (i+1)=(arcs.getD i (0,0,0)).1:=rfl
     obtain⟨⟨la,ao,tt⟩,hz⟩:∃ z,arcs.getD i (0,0,0)=z:=⟨_,rfl⟩
     have hok:=Wp (num:=num) (out:=out) (by rw[HLEN.out];exact hin) hz
     rw[hz] at c1 c2 c3 hsu hlb
     simp only at c1 c2 c3 hsu hlb
     obtain⟨tx,tv,wv,hwv,hTx,hWd⟩:=Rc la
     have hcs:∃ v:Bool,Hid (okB num out arcs (i+1) v)/\((v=false/\b=false)\/(v=false/\b=true/\¬ lab<la)\/(v=false/\b=true/\lab<la/\wv=false)\/(v=false/\b=true/\lab<la/\wv=true/\¬ 0<=tt) \/
       (v=false/\b=true/\lab<la/\wv=true/\0<=tt/\¬ tt<(num:Int))\/(v=false/\b=true/\lab<la/\wv=true/\0<=tt/\tt<(num:Int)/\¬ 0<=ao)\/(v=false/\b=true/\lab<la/\wv=true/\0<=tt/\tt<(num:Int)/\0<=ao/\¬ ao<=1048576) \/
       (v=true/\b=true/\lab<la/\wv=true/\0<=tt/\tt<(num:Int)/\0<=ao/\ao<=1048576)):=by
      have hbo:=HB.out
      unfold okB at hbo
      rw[<-hbo,<-HLB.out,<-hwv] at hok
      refine⟨decide (b=true/\lab<la/\wv=true/\0<=tt/\tt<(num:Int)/\0<=ao/\ao<=1048576),aB (by unfold okB;rw[hok,decide_eq_true_iff]),?_⟩
      cases b with
      | false=>exact .inl ⟨by simp,rfl⟩
      | true =>
       by_cases d1:lab<la
       ·cases wv with
        | false=>exact .inr (.inr (.inl ⟨by simp,rfl,d1,rfl⟩))
        | true =>
         by_cases d2:0<=tt
         ·by_cases d3:tt<(num:Int)
          ·by_cases d4:0<=ao
           ·by_cases d5:ao<=1048576
            ·exact .inr (.inr (.inr (.inr (.inr (.inr (.inr ⟨by simp[d1,d2,d3,d4,d5],rfl,d1,rfl,d2,d3,d4,d5⟩))))))
            ·exact .inr (.inr (.inr (.inr (.inr (.inr (.inl ⟨by simp[d5],rfl,d1,rfl,d2,d3,d4,d5⟩))))))
           ·exact .inr (.inr (.inr (.inr (.inr (.inl ⟨by simp[d4],rfl,d1,rfl,d2,d3,d4⟩)))))
          ·exact .inr (.inr (.inr (.inr (.inl ⟨by simp[d3],rfl,d1,rfl,d2,d3⟩))))
         ·exact .inr (.inr (.inr (.inl ⟨by simp[d2],rfl,d1,rfl,d2⟩)))
       ·exact .inr (.inl ⟨by simp[d1],rfl,d1⟩)
     obtain⟨v,HV,hcs⟩:=hcs
     have HSU:=aB hsu
     have HLB2:=aB hlb
     have HTX:=aB hTx
     have HWD:=aB hWd
     have HIN:=aB hin
     clear hsu hlb hz hok hwv hTx hWd hin hi HB
     obtain⟨w5,hw5⟩:=eX ((wr.alloc (.cells #[.int .i32 la,.int .i64 ao,.int .i64 tt] 173)).alloc (.cells #[.int .i32 la] 21))
     have hb5:aL w5 wr.heap.size 173 #[.int .i32 la,.int .i64 ao,.int .i64 tt]:=by rw[hw5];exact (aL.new _ _ _).alloc _
     have hr5:aI w5 1 (some ⟨wr.heap.size+1,0,none⟩) 1 [.int .i32 la]:=by
      have:=aI.new (size:=1) (wr.alloc (.cells #[.int .i32 la,.int .i64 ao,.int .i64 tt] 173)) 21 [.int .i32 la] 1 rfl
      rw[hw5]
      simpa using this
     have hT5:aC (λ_=>False) wr w5:=by rw[hw5];exact ((aC.refl _ _).alloc _).alloc _
     have HB5:=aB hb5
     have HR5:=aB hr5
     have HT5:=aB hT5
     have HW5:=aB hw5
     clear hb5 hr5 hT5 hw5
     rcases hcs with⟨rfl,rfl⟩ | ⟨rfl,rfl,d1⟩ | ⟨rfl,rfl,d1,rfl⟩ | ⟨rfl,rfl,d1,rfl,d2⟩ | ⟨rfl,rfl,d1,rfl,d2,d3⟩ | ⟨rfl,rfl,d1,rfl,d2,d3,d4⟩ | ⟨rfl,rfl,d1,rfl,d2,d3,d4,d5⟩ | ⟨rfl,rfl,d1,rfl,d2,d3,d4,d5⟩
     all_goals
      go_wp2_with (first
       | (go_at_call 93;rw[<-HW5.out];refine (HTX w5 _ (HL.touch (HT2.then (HT.then HT5))) HR5).mono ?_;rintro e w6 ⟨rfl,T6⟩;have HT6:=aB T6;have hb:=HB5.touch T6 (λf=>f);obtain⟨x0,x1,x2⟩:=hb.facts;have HB6:=aB hb;clear T6 hb)
       | (go_at_call 78;refine (HWD _ (HL.touch (HT2.then (HT.then (HT5.then HT6))))).mono ?_;rintro e w7 ⟨rfl,T7⟩;have HT7:=aB T7;have hb:=HB6.touch T7 (λf=>f);obtain⟨x3,x4,x5⟩:=hb.facts;have HB7:=aB hb;clear T7 hb))
      go_roundw
      ·refine⟨i+1,_,_,la,rfl,rfl,rfl,by simp,by have:=HIN.out;omega,aB ?_,aB HLB2.symm,?_,aB (HT.then (HT5.then ?_))⟩
       ·rw[HSU.out]
        split<;>omega
       ·first
        | exact HV
        | (rw[show decide (ao<=1048576)=false by simp;omega];exact HV)
       ·first
        | exact HT6.then HT7
        | exact HT6
      ·have:=HIN.out
       simp only[intOf];omega
    ·have hie:i=n:=by omega
     have y1:¬ (i:Int)<(n:Int):=by omega
     have hres:∃ q:Bool,q=(lo == 0)/\((b && q)=true↔FZ):=by
      refine⟨_,rfl,?_⟩
      have hbo:=HB.out
      unfold okB at hbo
      rw[HIFF.out,Bool.and_eq_true,hbo,hie]
      simp only[beq_iff_eq]
      rw[HLO.out,HL0.out,hie]
      constructor
      ·rintro⟨h1,h2⟩
       exact⟨HF0,h1,h2⟩
      ·rintro⟨_,h1,h2⟩
       exact⟨h1,h2⟩
     obtain⟨q,hq,hres⟩:=hres
     have HRES:=aB hres
     have hq':(lo == 0)=q:=hq.symm
     clear hq hres hie hi hin HB HLO
     cases b<;>cases q
     all_goals
      go_wp2_with fail
      go_ret
      exact⟨.mk _ HRES,HT2.then HT⟩
end
section
variable[Inhabited eF]
def wY(U:List S3)(z:bP):Prop:=∀ j,(0<=(cN U z j).1/\(cN U z j).1<=4096)/\(0<=(cN U z j).2.1/\(cN U z j).2.1<=24)/\(0<=(cN U z j).2.2/\(cN U z j).2.2<=1048576)
def Ui(U:List S3)(N:Nat)(z:bP):Prop:=∀ a∈z.arcs,a.2.2<N/\(0<=a.2.1/\a.2.1<=1048576)/\(0<=(U.getD a.2.2 z3).1/\(U.getD a.2.2 z3).1<=4096)/\(0<=(U.getD a.2.2 z3).2.1/\(U.getD a.2.2 z3).2.1<=24)/\(0<=(U.getD a.2.2 z3).2.2/\(U.getD a.2.2 z3).2.2<=1048576)
theorem Fu(hE:Ui U N z):∀ i j,i<=j->(cN U z i).1<=(cN U z j).1/\(cN U z i).2.1<=(cN U z j).2.1/\(cN U z i).2.2<=(cN U z j).2.2:=by
 intro i j hij
 induction j with
 | zero =>
  have e:i=0:=by omega
  subst e
  omega
 | succ j ih =>
  by_cases e:i=j+1
  ·subst e
   omega
  ·have h:=ih (by omega)
   by_cases hj:j<z.arcs.length
   ·have he:=hE _ (aZ z.arcs (0,0,0) j hj)
    rw[pQ U z j hj]
    simp only[dE]
    omega
   ·have e2:cN U z (j+1)=cN U z j:=by
     unfold cN
     rw[qXa (by omega),qXa (by omega)]
    rw[e2]
    exact h
theorem Kc(hE:Ui U N z)(ho:0<=z.out)(j:Nat):0<=(cN U z j).1/\0<=(cN U z j).2.1/\0<=(cN U z j).2.2:=by
 have h:=Fu hE 0 j (Nat.zero_le _)
 rw[uH] at h
 simp only at h
 have:(0:Int)<=if z.fin=true then 1 else 0:=by split<;>omega
 omega
theorem Yi{j:Nat}(h:z.arcs.length<=j):cN U z j=cN U z z.arcs.length:=by
 unfold cN
 rw[qXa h,List.take_length]
theorem Zi(hE:Ui U N z)(ho:0<=z.out)(h:(cN U z z.arcs.length).1<=4096/\(cN U z z.arcs.length).2.1<=24/\(cN U z z.arcs.length).2.2<=1048576):wY U z:=by
 intro j
 have h1:=Kc hE ho j
 have h2:(cN U z j).1<=(cN U z z.arcs.length).1/\(cN U z j).2.1<=(cN U z z.arcs.length).2.1/\(cN U z j).2.2<=(cN U z z.arcs.length).2.2:=by
  by_cases hj:j<=z.arcs.length
  ·exact Fu hE j _ hj
  ·rw[Yi (by omega)]
   omega
 omega
def nC(U:List S3)(z:bP)(e:Ending):Prop :=
 (wY U z/\e=.returned (.tuple #[.agg #[.int .i64 (cN U z z.arcs.length).1,.int .i64 (cN U z z.arcs.length).2.1,.int .i64 (cN U z z.arcs.length).2.2],.bool true])) \/
 (¬ wY U z/\∃ a b c:Int,e=.returned (.tuple #[.agg #[.int .i64 a,.int .i64 b,.int .i64 c],.bool false]))
theorem Dy{wr:World}{X:Nat}(hb:aL wr Y 243 #[.int .i64 0,.int .i64 0,.int .i64 0])(hne:Y≠X)(a b c d e f:Value)(o1 o2:Obj) :
  ((((((((wr.setCell ⟨X,0,none⟩ a).setCell ⟨X,1,none⟩ b).setCell ⟨X,2,none⟩ c).setCell ⟨Y,0,none⟩ d).setCell ⟨Y,1,none⟩ e).setCell ⟨Y,2,none⟩ f).alloc o1).alloc o2).cell? ⟨Y,0,none⟩=some d /\
  ((((((((wr.setCell ⟨X,0,none⟩ a).setCell ⟨X,1,none⟩ b).setCell ⟨X,2,none⟩ c).setCell ⟨Y,0,none⟩ d).setCell ⟨Y,1,none⟩ e).setCell ⟨Y,2,none⟩ f).alloc o1).alloc o2).cell? ⟨Y,1,none⟩=some e /\
  ((((((((wr.setCell ⟨X,0,none⟩ a).setCell ⟨X,1,none⟩ b).setCell ⟨X,2,none⟩ c).setCell ⟨Y,0,none⟩ d).setCell ⟨Y,1,none⟩ e).setCell ⟨Y,2,none⟩ f).alloc o1).alloc o2).cell? ⟨Y,2,none⟩=some f:=by
 have h:=(((((((hb.far (p:=⟨X,0,none⟩) hne a).far (p:=⟨X,1,none⟩) hne b).far (p:=⟨X,2,none⟩) hne c).set_ 0 d).set_ 1 e).set_ 2 f).alloc o1).alloc o2
 exact⟨h.cell 0,h.cell 1,h.cell 2⟩
theorem nT{wr:World}{X:Nat}(T:aC (λ_=>False) w wr)(hX:w.heap.size<=X)(hY:w.heap.size<=Y)(a b c d e f:Value)(o1 o2:Obj) :
  aC (λ_=>False) w ((((((((wr.setCell ⟨X,0,none⟩ a).setCell ⟨X,1,none⟩ b).setCell ⟨X,2,none⟩ c).setCell ⟨Y,0,none⟩ d).setCell ⟨Y,1,none⟩ e).setCell ⟨Y,2,none⟩ f).alloc o1).alloc o2):=by
 refine aC.alloc (aC.alloc ?_ _) _
 iterate 3 refine aC.setCell ?_ (λh=>by simp only at h;omega) _
 iterate 3 refine aC.setCell ?_ (λh=>by simp only at h;omega) _
 exact T
theorem Vo(w:World)(z:SV)(hz:z.Od w)(U:List S3)(uA:Option Addr)(N uc:Nat)(hU:fM w 243 3 uA N (gW U))(hUl:U.length=N)(_:N<=1000000)(ho:0<=z.out/\z.out<=1048576)(hE:Ui U N z.p) :
  Calls Tryz.prog 139 #[.agg #[.bool z.fin,.int .i64 z.out,.slice z.A z.n z.c],.slice uA N uc] w λe w'=>nC U z.p e/\aC (λ_=>False) w w':=by
 have hlow:=Kc hE ho.1
 have hge:=Fu hE
 have hsb:=Zi hE ho.1
 obtain⟨fin,out,aA,n,ac,arcs⟩:=z
 obtain⟨hlen,hrd,hle,hmx⟩:=hz
 simp only[SV.p] at *
 have hnm:n<=maxLen:=qQb hle hmx
 have HU:=aB hU
 have HUL:=aB hUl
 have HRD:=aB hrd
 have HLEN:=aB hlen
 have HE:=aB hE
 rw[hlen] at hsb
 have HLOW:=aB hlow
 have HGE:=aB hge
 have HSB:=aB hsb
 have HO:=aB ho
 clear hU hrd hlen hE hle hmx hUl hlow hge hsb ho
 go_in
 obtain⟨x0,hx0⟩:∃ x0:Int,x0=if fin=true then 1 else 0:=⟨_,rfl⟩
 have hcase:(fin=true/\x0=1)\/(fin=false/\x0=0):=by
  cases fin
  ·exact .inr ⟨rfl,by rw[hx0];rfl⟩
  ·exact .inl ⟨rfl,by rw[hx0];rfl⟩
 obtain⟨Z,hZ⟩:∃ Z:bP,(⟨fin,out,arcs⟩:bP)=Z:=⟨_,rfl⟩
 have HZ0:Hid (cN U Z 0=(x0,0,out)):=aB (by rw[uH,<-hZ,hx0])
 have HZA:Hid (Z.arcs=arcs):=aB (by rw[<-hZ])
 rw[hZ] at HE HLOW HGE HSB ⊢
 clear hx0 hZ
 rcases hcase with⟨rfl,hx⟩ | ⟨rfl,hx⟩
 ·subst hx
  go_wp2_with fail
  obtain⟨w3,hw3⟩:=eX (((w.alloc (.cells #[.bool true,.int .i64 out,.slice aA n ac] 170)).alloc (.cells #[.int .i64 0,.int .i64 0,.int .i64 0] 243)).alloc (.cells #[.int .i64 1,.int .i64 0,.int .i64 out] 243))
  obtain⟨X,hX⟩:=eX (w.heap.size+1+1)
  obtain⟨Y,hY⟩:=eX (w.heap.size+1)
  have hT3:aC (λ_=>False) w w3:=by
   rw[hw3]
   exact ((((aC.refl _ _).alloc _).alloc _).alloc _)
  have hbX:aL w3 X 243 #[.int .i64 1,.int .i64 0,.int .i64 out]:=by
   rw[hw3,hX]
   have h:=aL.new ((w.alloc (.cells #[.bool true,.int .i64 out,.slice aA n ac] 170)).alloc (.cells #[.int .i64 0,.int .i64 0,.int .i64 0] 243)) 243 #[.int .i64 1,.int .i64 0,.int .i64 out]
   simpa using h
  have hbY:aL w3 Y 243 #[.int .i64 0,.int .i64 0,.int .i64 0]:=by
   rw[hw3,hY]
   have h:=(aL.new (w.alloc (.cells #[.bool true,.int .i64 out,.slice aA n ac] 170)) 243 #[.int .i64 0,.int .i64 0,.int .i64 0]).alloc (.cells #[.int .i64 1,.int .i64 0,.int .i64 out] 243)
   simpa using h
  rw[<-hw3,<-hX]
  try rw[<-hY]
  have HT3:=aB hT3
  have HXL:=aB (show w.heap.size<=X by omega)
  have HXY:=aB (show Y≠X by omega)
  have HYL:=aB (show w.heap.size<=Y by omega)
  have HBX:=aB hbX
  have HBY:=aB hbY
  clear hw3 hT3 hbX hbY hX hY
  go_loopw [19] (λiv wr=>∃ (i:Nat) (x1 x2 x3:Int),iv=.int .i64 i/\i<=n/\x1<=4096/\Hid ((x1,x2,x3)=cN U Z i)/\x2<=25/\x3<=2097152/\Hid (aL wr X 243 #[.int .i64 x1,.int .i64 x2,.int .i64 x3])/\Hid (aC (λg=>g=X) w3 wr)) (λiv _=>n-(intOf iv).toNat)
  case atStart=>exact⟨0,1,0,out,rfl,by omega,by omega,aB (by rw[HZ0.out]),by omega,by have:=HO.out;omega,HBX,aB (aC.refl _ _)⟩
  case round =>
   obtain⟨i,x1,x2,x3,rfl,hi,b2,HP,b4,b6,HX,HT⟩:=hrel
   have hlo:=HLOW.out i
   rw[<-HP.out] at hlo
   simp only at hlo
   obtain⟨b1,b3,b5⟩:=hlo
   have hq:aC (λ_=>False) w wr:=HT3.trans HT (λg hg e=>by have:=HXL.out;omega)
   by_cases hin:i<n
   ·have y1:(i:Int)<(n:Int):=by omega
    have y2:(0:Int)<=(i:Int):=by omega
    have z2:IntKind.i64.wrap ((i:Int)+1)=(i:Int)+1:=qQa _ (by unfold maxLen at hnm;omega)
    obtain⟨g,o,hA,hg,c1,c2,c3⟩:=fT (HRD.quiet hq).rd HLEN i hin
    subst hA
    have hmem:=aZ arcs (0,0,0) i (by rw[HLEN.out];exact hin)
    have he:=HE.out _ (by rw[HZA.out];exact hmem)
    have hsu:=pQ U Z i (by rw[HZA.out,HLEN.out];exact hin)
    rw[<-HP.out,HZA.out] at hsu
    obtain⟨⟨la,ao,tt⟩,hz⟩:∃ z,arcs.getD i (0,0,0)=z:=⟨_,rfl⟩
    rw[hz] at c1 c2 c3 he hsu
    simp only[dE] at c1 c2 c3 he hsu
    obtain⟨g2,o2,hA2,hg2,d1,d2,d3⟩:=Fv (HU.quiet hq).rd HUL tt he.1
    subst hA2
    obtain⟨⟨u1,u2,u3⟩,hu⟩:∃ z,U.getD tt z3=z:=⟨_,rfl⟩
    rw[hu] at d1 d2 d3 he hsu
    simp only at d1 d2 d3 he hsu
    obtain⟨e0,⟨e1,e2⟩,⟨e3,e4⟩,⟨e5,e6⟩,⟨e7,e8⟩⟩:=he
    have HSU:=aB hsu
    have y3:(0:Int)<=(tt:Int):=by omega
    have y4:(tt:Int)<(N:Int):=by omega
    have k1:IntKind.i64.wrap (x1+u1)=x1+u1:=qQa _ (by omega)
    have k2:IntKind.i64.wrap (u2+1)=u2+1:=qQa _ (by omega)
    have k3:IntKind.i64.wrap (ao+u3)=ao+u3:=qQa _ (by omega)
    obtain⟨q1,q2,q3⟩:=HX.facts
    have hby:=HBY.touch HT HXY
    have HBY2:=aB hby
    obtain⟨r1,r2,r3⟩:=hby.facts
    have HQ:=aB hq
    clear hmem hsu hz hu e0 hq hby
    by_cases j0:(4096:Int)<x1+u1
    ·have hno:¬ wY U Z:=λh=>by
      have h1:=h (i+1)
      rw[HSU.out] at h1
      have:=h1.1.2
      simp only at this
      omega
     have HNO:=aB hno
     have HE9:=aB (Dy HBY2 HXY)
     have HT9:=aB (nT HQ HXL HYL)
     clear hno
     have hxy1:¬ X=Y:=λe=>HXY.out e.symm
     have hxy2:¬ Y=X:=HXY.out
     go_wp2_with fail
     ·exact bodyPost_ret (v:=.tuple #[.agg #[.int .i64 (x1+u1),.int .i64 (u2+1),.int .i64 (ao+u3)],.bool false]) (by simp[results,Tryz.results139,go_sem,HE9.out]) rfl ⟨.inr ⟨HNO,_,_,_,rfl⟩,HT9 _ _ _ _ _ _ _ _⟩
     ·exact bodyPost_ret (v:=.tuple #[.agg #[.int .i64 (x1+u1),.int .i64 (u2+1),.int .i64 x3],.bool false]) (by simp[results,Tryz.results139,go_sem,HE9.out]) rfl ⟨.inr ⟨HNO,_,_,_,rfl⟩,HT9 _ _ _ _ _ _ _ _⟩
     ·exact bodyPost_ret (v:=.tuple #[.agg #[.int .i64 (x1+u1),.int .i64 x2,.int .i64 (ao+u3)],.bool false]) (by simp[results,Tryz.results139,go_sem,HE9.out]) rfl ⟨.inr ⟨HNO,_,_,_,rfl⟩,HT9 _ _ _ _ _ _ _ _⟩
     ·exact bodyPost_ret (v:=.tuple #[.agg #[.int .i64 (x1+u1),.int .i64 x2,.int .i64 x3],.bool false]) (by simp[results,Tryz.results139,go_sem,HE9.out]) rfl ⟨.inr ⟨HNO,_,_,_,rfl⟩,HT9 _ _ _ _ _ _ _ _⟩
    ·clear r1 r2 r3
     go_wp2_with fail
     go_roundw
     ·refine⟨i+1,_,_,_,by simp,by omega,by omega,aB ?_,?_,?_,aB (((((HX.set_ 0 _).set_ 1 _).set_ 2 _).alloc _).alloc _),aB (((((HT.setCell (λ_=>rfl) _).setCell (λ_=>rfl) _).setCell (λ_=>rfl) _).alloc _).alloc _)⟩
      ·rw[HSU.out]
       simp only[Prod.mk.injEq,true_and]
       constructor
       ·split<;>omega
       ·split<;>omega
      ·split<;>omega
      ·split<;>omega
     ·simp only[intOf];omega
   ·have hie:i=n:=by omega
    have y1:¬ (i:Int)<(n:Int):=by omega
    obtain⟨q1,q2,q3⟩:=HX.facts
    have hby:=HBY.touch HT HXY
    obtain⟨r1,r2,r3⟩:=hby.facts
    have HBY2:=aB hby
    have HQ:=aB hq
    have hpn:cN U Z Z.arcs.length=(x1,x2,x3):=by rw[HP.out,HZA.out,HLEN.out,hie]
    have hpost:(x2<=24/\x3<=1048576/\nC U Z (.returned (.tuple #[.agg #[.int .i64 x1,.int .i64 x2,.int .i64 x3],.bool true])))\/(x2<=24/\decide (x3<=1048576)=false/\nC U Z (.returned (.tuple #[.agg #[.int .i64 x1,.int .i64 x2,.int .i64 x3],.bool false])))\/(decide (x2<=24)=false/\nC U Z (.returned (.tuple #[.agg #[.int .i64 x1,.int .i64 x2,.int .i64 x3],.bool false]))):=by
     have hs:=HSB.out
     rw[<-HLEN.out,<-HZA.out,hpn] at hs
     have hn:wY U Z->x2<=24/\x3<=1048576:=λh=>by
      have h1:=h Z.arcs.length
      rw[hpn] at h1
      exact⟨h1.2.1.2,h1.2.2.2⟩
     by_cases h1:x2<=24
     ·by_cases h2:x3<=1048576
      ·refine .inl ⟨h1,h2,.inl ⟨hs ⟨b2,h1,h2⟩,?_⟩⟩
       rw[hpn]
      ·exact .inr (.inl ⟨h1,by simp;omega,.inr ⟨λh=>h2 (hn h).2,_,_,_,rfl⟩⟩)
     ·exact .inr (.inr ⟨by simp;omega,.inr ⟨λh=>h1 (hn h).1,_,_,_,rfl⟩⟩)
    clear hby hq hpn hie hin hi b4 b6
    have hxy1:¬ X=Y:=λe=>HXY.out e.symm
    have hxy2:¬ Y=X:=HXY.out
    rcases hpost with⟨j1,j2,hpo⟩ | ⟨j1,j2,hpo⟩ | ⟨j1,hpo⟩
    all_goals
     have HPO:=aB hpo
     clear hpo
     go_wp2_with fail
     go_region
     all_goals go_wp2
     have hbF:aL (((wr.setCell ⟨Y,0,none⟩ (.int .i64 x1)).setCell ⟨Y,1,none⟩ (.int .i64 x2)).setCell ⟨Y,2,none⟩ (.int .i64 x3)).drew Y 243 #[.int .i64 x1,.int .i64 x2,.int .i64 x3]:=(((HBY2.set_ 0 _).set_ 1 _).set_ 2 _).drew
     have f0:=hbF.cell 0
     have f1:=hbF.cell 1
     have f2:=hbF.cell 2
     have hTF:aC (λ_=>False) w (((wr.setCell ⟨Y,0,none⟩ (.int .i64 x1)).setCell ⟨Y,1,none⟩ (.int .i64 x2)).setCell ⟨Y,2,none⟩ (.int .i64 x3)).drew:=by
      refine aC.drew ?_
      iterate 3 refine aC.setCell ?_ (λh=>by have:=HYL.out;simp only at h;omega) _
      exact HQ
     refine bodyPost_ret ?_ rfl ⟨HPO,hTF⟩
     simp[results,Tryz.results139,go_sem,f0,f1,f2]
     try first | done | omega
 ·subst hx
  go_wp2_with fail
  obtain⟨w3,hw3⟩:=eX (((w.alloc (.cells #[.bool false,.int .i64 out,.slice aA n ac] 170)).alloc (.cells #[.int .i64 0,.int .i64 0,.int .i64 0] 243)).alloc (.cells #[.int .i64 0,.int .i64 0,.int .i64 out] 243))
  obtain⟨X,hX⟩:=eX (w.heap.size+1+1)
  obtain⟨Y,hY⟩:=eX (w.heap.size+1)
  have hT3:aC (λ_=>False) w w3:=by
   rw[hw3]
   exact ((((aC.refl _ _).alloc _).alloc _).alloc _)
  have hbX:aL w3 X 243 #[.int .i64 0,.int .i64 0,.int .i64 out]:=by
   rw[hw3,hX]
   have h:=aL.new ((w.alloc (.cells #[.bool false,.int .i64 out,.slice aA n ac] 170)).alloc (.cells #[.int .i64 0,.int .i64 0,.int .i64 0] 243)) 243 #[.int .i64 0,.int .i64 0,.int .i64 out]
   simpa using h
  have hbY:aL w3 Y 243 #[.int .i64 0,.int .i64 0,.int .i64 0]:=by
   rw[hw3,hY]
   have h:=(aL.new (w.alloc (.cells #[.bool false,.int .i64 out,.slice aA n ac] 170)) 243 #[.int .i64 0,.int .i64 0,.int .i64 0]).alloc (.cells #[.int .i64 0,.int .i64 0,.int .i64 out] 243)
   simpa using h
  rw[<-hw3,<-hX]
  try rw[<-hY]
  have HT3:=aB hT3
  have HXL:=aB (show w.heap.size<=X by omega)
  have HXY:=aB (show Y≠X by omega)
  have HYL:=aB (show w.heap.size<=Y by omega)
  have HBX:=aB hbX
  have HBY:=aB hbY
  clear hw3 hT3 hbX hbY hX hY
  go_loopw [19] (λiv wr=>∃ (i:Nat) (x1 x2 x3:Int),iv=.int .i64 i/\i<=n/\x1<=4096/\Hid ((x1,x2,x3)=cN U Z i)/\x2<=25/\x3<=2097152/\Hid (aL wr X 243 #[.int .i64 x1,.int .i64 x2,.int .i64 x3])/\Hid (aC (λg=>g=X) w3 wr)) (λiv _=>n-(intOf iv).toNat)
  case atStart=>exact⟨0,0,0,out,rfl,by omega,by omega,aB (by rw[HZ0.out]),by omega,by have:=HO.out;omega,HBX,aB (aC.refl _ _)⟩
  case round =>
   obtain⟨i,x1,x2,x3,rfl,hi,b2,HP,b4,b6,HX,HT⟩:=hrel
   have hlo:=HLOW.out i
   rw[<-HP.out] at hlo
   simp only at hlo
   obtain⟨b1,b3,b5⟩:=hlo
   have hq:aC (λ_=>False) w wr:=HT3.trans HT (λg hg e=>by have:=HXL.out;omega)
   by_cases hin:i<n
   ·have y1:(i:Int)<(n:Int):=by omega
    have y2:(0:Int)<=(i:Int):=by omega
    have z2:IntKind.i64.wrap ((i:Int)+1)=(i:Int)+1:=qQa _ (by unfold maxLen at hnm;omega)
    obtain⟨g,o,hA,hg,c1,c2,c3⟩:=fT (HRD.quiet hq).rd HLEN i hin
    subst hA
    have hmem:=aZ arcs (0,0,0) i (by rw[HLEN.out];exact hin)
    have he:=HE.out _ (by rw[HZA.out];exact hmem)
    have hsu:=pQ U Z i (by rw[HZA.out,HLEN.out];exact hin)
    rw[<-HP.out,HZA.out] at hsu
    obtain⟨⟨la,ao,tt⟩,hz⟩:∃ z,arcs.getD i (0,0,0)=z:=⟨_,rfl⟩
    rw[hz] at c1 c2 c3 he hsu
    simp only[dE] at c1 c2 c3 he hsu
    obtain⟨g2,o2,hA2,hg2,d1,d2,d3⟩:=Fv (HU.quiet hq).rd HUL tt he.1
    subst hA2
    obtain⟨⟨u1,u2,u3⟩,hu⟩:∃ z,U.getD tt z3=z:=⟨_,rfl⟩
    rw[hu] at d1 d2 d3 he hsu
    simp only at d1 d2 d3 he hsu
    obtain⟨e0,⟨e1,e2⟩,⟨e3,e4⟩,⟨e5,e6⟩,⟨e7,e8⟩⟩:=he
    have HSU:=aB hsu
    have y3:(0:Int)<=(tt:Int):=by omega
    have y4:(tt:Int)<(N:Int):=by omega
    have k1:IntKind.i64.wrap (x1+u1)=x1+u1:=qQa _ (by omega)
    have k2:IntKind.i64.wrap (u2+1)=u2+1:=qQa _ (by omega)
    have k3:IntKind.i64.wrap (ao+u3)=ao+u3:=qQa _ (by omega)
    obtain⟨q1,q2,q3⟩:=HX.facts
    have hby:=HBY.touch HT HXY
    have HBY2:=aB hby
    obtain⟨r1,r2,r3⟩:=hby.facts
    have HQ:=aB hq
    clear hmem hsu hz hu e0 hq hby
    by_cases j0:(4096:Int)<x1+u1
    ·have hno:¬ wY U Z:=λh=>by
      have h1:=h (i+1)
      rw[HSU.out] at h1
      have:=h1.1.2
      simp only at this
      omega
     have HNO:=aB hno
     have HE9:=aB (Dy HBY2 HXY)
     have HT9:=aB (nT HQ HXL HYL)
     clear hno
     have hxy1:¬ X=Y:=λe=>HXY.out e.symm
     have hxy2:¬ Y=X:=HXY.out
     go_wp2_with fail
     ·exact bodyPost_ret (v:=.tuple #[.agg #[.int .i64 (x1+u1),.int .i64 (u2+1),.int .i64 (ao+u3)],.bool false]) (by simp[results,Tryz.results139,go_sem,HE9.out]) rfl ⟨.inr ⟨HNO,_,_,_,rfl⟩,HT9 _ _ _ _ _ _ _ _⟩
     ·exact bodyPost_ret (v:=.tuple #[.agg #[.int .i64 (x1+u1),.int .i64 (u2+1),.int .i64 x3],.bool false]) (by simp[results,Tryz.results139,go_sem,HE9.out]) rfl ⟨.inr ⟨HNO,_,_,_,rfl⟩,HT9 _ _ _ _ _ _ _ _⟩
     ·exact bodyPost_ret (v:=.tuple #[.agg #[.int .i64 (x1+u1),.int .i64 x2,.int .i64 (ao+u3)],.bool false]) (by simp[results,Tryz.results139,go_sem,HE9.out]) rfl ⟨.inr ⟨HNO,_,_,_,rfl⟩,HT9 _ _ _ _ _ _ _ _⟩
     ·exact bodyPost_ret (v:=.tuple #[.agg #[.int .i64 (x1+u1),.int .i64 x2,.int .i64 x3],.bool false]) (by simp[results,Tryz.results139,go_sem,HE9.out]) rfl ⟨.inr ⟨HNO,_,_,_,rfl⟩,HT9 _ _ _ _ _ _ _ _⟩
    ·clear r1 r2 r3
     go_wp2_with fail
     go_roundw
     ·refine⟨i+1,_,_,_,by simp,by omega,by omega,aB ?_,?_,?_,aB (((((HX.set_ 0 _).set_ 1 _).set_ 2 _).alloc _).alloc _),aB (((((HT.setCell (λ_=>rfl) _).setCell (λ_=>rfl) _).setCell (λ_=>rfl) _).alloc _).alloc _)⟩
      ·rw[HSU.out]
       simp only[Prod.mk.injEq,true_and]
       constructor
       ·split<;>omega
       ·split<;>omega
      ·split<;>omega
      ·split<;>omega
     ·simp only[intOf];omega
   ·have hie:i=n:=by omega
    have y1:¬ (i:Int)<(n:Int):=by omega
    obtain⟨q1,q2,q3⟩:=HX.facts
    have hby:=HBY.touch HT HXY
    obtain⟨r1,r2,r3⟩:=hby.facts
    have HBY2:=aB hby
    have HQ:=aB hq
    have hpn:cN U Z Z.arcs.length=(x1,x2,x3):=by rw[HP.out,HZA.out,HLEN.out,hie]
    have hpost:(x2<=24/\x3<=1048576/\nC U Z (.returned (.tuple #[.agg #[.int .i64 x1,.int .i64 x2,.int .i64 x3],.bool true])))\/(x2<=24/\decide (x3<=1048576)=false/\nC U Z (.returned (.tuple #[.agg #[.int .i64 x1,.int .i64 x2,.int .i64 x3],.bool false])))\/(decide (x2<=24)=false/\nC U Z (.returned (.tuple #[.agg #[.int .i64 x1,.int .i64 x2,.int .i64 x3],.bool false]))):=by
     have hs:=HSB.out
     rw[<-HLEN.out,<-HZA.out,hpn] at hs
     have hn:wY U Z->x2<=24/\x3<=1048576:=λh=>by
      have h1:=h Z.arcs.length
      rw[hpn] at h1
      exact⟨h1.2.1.2,h1.2.2.2⟩
     by_cases h1:x2<=24
     ·by_cases h2:x3<=1048576
      ·refine .inl ⟨h1,h2,.inl ⟨hs ⟨b2,h1,h2⟩,?_⟩⟩
       rw[hpn]
      ·exact .inr (.inl ⟨h1,by simp;omega,.inr ⟨λh=>h2 (hn h).2,_,_,_,rfl⟩⟩)
     ·exact .inr (.inr ⟨by simp;omega,.inr ⟨λh=>h1 (hn h).1,_,_,_,rfl⟩⟩)
    clear hby hq hpn hie hin hi b4 b6
    have hxy1:¬ X=Y:=λe=>HXY.out e.symm
    have hxy2:¬ Y=X:=HXY.out
    rcases hpost with⟨j1,j2,hpo⟩ | ⟨j1,j2,hpo⟩ | ⟨j1,hpo⟩
    all_goals
     have HPO:=aB hpo
     clear hpo
     go_wp2_with fail
     go_region
     all_goals go_wp2
     have hbF:aL (((wr.setCell ⟨Y,0,none⟩ (.int .i64 x1)).setCell ⟨Y,1,none⟩ (.int .i64 x2)).setCell ⟨Y,2,none⟩ (.int .i64 x3)).drew Y 243 #[.int .i64 x1,.int .i64 x2,.int .i64 x3]:=(((HBY2.set_ 0 _).set_ 1 _).set_ 2 _).drew
     have f0:=hbF.cell 0
     have f1:=hbF.cell 1
     have f2:=hbF.cell 2
     have hTF:aC (λ_=>False) w (((wr.setCell ⟨Y,0,none⟩ (.int .i64 x1)).setCell ⟨Y,1,none⟩ (.int .i64 x2)).setCell ⟨Y,2,none⟩ (.int .i64 x3)).drew:=by
      refine aC.drew ?_
      iterate 3 refine aC.setCell ?_ (λh=>by have:=HYL.out;simp only at h;omega) _
      exact HQ
     refine bodyPost_ret ?_ rfl ⟨HPO,hTF⟩
     simp[results,Tryz.results139,go_sem,f0,f1,f2]
     try first | done | omega
end
section
variable[Inhabited eF]
def Zb(p:Int × Int)(a:Nat × Int × Nat):Int × Int:=(wrap64 (p.1*31+(a.1:Int)+a.2.1),wrap64 (p.2*37+(a.2.2:Int)))
def Eu(s:bP):Value:=.agg #[.int .i64 s.out,.int .i64 s.arcs.length,.int .i64 (s.arcs.foldl Zb (0,0)).1,.int .i64 (s.arcs.foldl Zb (0,0)).2]
theorem aAm(l:List (Nat × Int × Nat)):∀ p:Int × Int,mJ p.1/\mJ p.2->mJ (l.foldl Zb p).1/\mJ (l.foldl Zb p).2:=by
 induction l with
 | nil=>intro p h;exact h
 | cons a l ih=>intro p _;exact ih _ ⟨Ao _,Ao _⟩
theorem pA{α:Type}{xa ya:List α}{i:Nat}{a b:α}{P Q:Prop}(h1:xa.take (i+1)=xa.take i++[a])(h2:ya.take (i+1)=ya.take i++[b])(h3:xa.take i=ya.take i)(hne:a≠b):false=true↔(P/\Q/\xa=ya):=by
 constructor
 ·intro h
  cases h
 ·rintro⟨_,_,rfl⟩
  rw[h1] at h2
  have:=List.append_cancel_left h2
  simp only[List.cons.injEq,and_true] at this
  exact absurd this hne
theorem Vm(w:World)(z:SV)(hz:z.Od w)(ho:0<=z.out/\z.out<=1048576) :
  Calls Tryz.prog 140 #[.agg #[.bool z.fin,.int .i64 z.out,.slice z.A z.n z.c]] w λe w'=>e=.returned (Eu z.p)/\aC (λ_=>False) w w':=by
 obtain⟨fin,out,aA,n,ac,arcs⟩:=z
 obtain⟨hlen,hrd,hle,hmx⟩:=hz
 simp only[SV.p,Eu] at *
 have hnm:n<=maxLen:=qQb hle hmx
 have HRD:=aB hrd
 have HLEN:=aB hlen
 clear hrd hlen hle hmx
 go_in
 go_wp2_with fail
 obtain⟨w3,hw3⟩:=eX (((w.alloc (.cells #[.bool fin,.int .i64 out,.slice aA n ac] 170)).alloc (.cells #[.int .i64 0,.int .i64 0,.int .i64 0,.int .i64 0] 246)).alloc (.cells #[.int .i64 out,.int .i64 n,.int .i64 0,.int .i64 0] 246))
 obtain⟨X,hX⟩:=eX (w.heap.size+1+1)
 obtain⟨Y,hY⟩:=eX (w.heap.size+1)
 have hT3:aC (λ_=>False) w w3:=by
  rw[hw3]
  exact (((aC.refl _ _).alloc _).alloc _).alloc _
 have hbX:aL w3 X 246 #[.int .i64 out,.int .i64 n,.int .i64 0,.int .i64 0]:=by
  rw[hw3,hX]
  have h:=aL.new ((w.alloc (.cells #[.bool fin,.int .i64 out,.slice aA n ac] 170)).alloc (.cells #[.int .i64 0,.int .i64 0,.int .i64 0,.int .i64 0] 246)) 246 #[.int .i64 out,.int .i64 n,.int .i64 0,.int .i64 0]
  simpa using h
 have hbY:aL w3 Y 246 #[.int .i64 0,.int .i64 0,.int .i64 0,.int .i64 0]:=by
  rw[hw3,hY]
  have h:=(aL.new (w.alloc (.cells #[.bool fin,.int .i64 out,.slice aA n ac] 170)) 246 #[.int .i64 0,.int .i64 0,.int .i64 0,.int .i64 0]).alloc (.cells #[.int .i64 out,.int .i64 n,.int .i64 0,.int .i64 0] 246)
  simpa using h
 rw[<-hw3,<-hX]
 try rw[<-hY]
 have HT3:=aB hT3
 have HXL:=aB (show w.heap.size<=X by omega)
 have HXY:=aB (show Y≠X by omega)
 have HYL:=aB (show w.heap.size<=Y by omega)
 have HBX:=aB hbX
 have HBY:=aB hbY
 clear hw3 hT3 hbX hbY hX hY
 go_loopw [15] (λiv wr=>∃ (i:Nat) (x3 x4:Int),iv=.int .i64 i/\i<=n/\Hid ((x3,x4)=(arcs.take i).foldl Zb (0,0))/\Hid (aL wr X 246 #[.int .i64 out,.int .i64 n,.int .i64 x3,.int .i64 x4])/\Hid (aC (λg=>g=X) w3 wr)) (λiv _=>n-(intOf iv).toNat)
 case atStart=>exact⟨0,0,0,rfl,by omega,aB rfl,HBX,aB (aC.refl _ _)⟩
 case round =>
  obtain⟨i,x3,x4,rfl,hi,HI,HX,HT⟩:=hrel
  have hq:aC (λ_=>False) w wr:=HT3.trans HT (λg hg e=>by have:=HXL.out;omega)
  by_cases hin:i<n
  ·have y1:(i:Int)<(n:Int):=by omega
   have y2:(0:Int)<=(i:Int):=by omega
   have z2:IntKind.i64.wrap ((i:Int)+1)=(i:Int)+1:=qQa _ (by unfold maxLen at hnm;omega)
   obtain⟨g,o,hA,hg,c1,c2,c3⟩:=fT (HRD.quiet hq).rd HLEN i hin
   subst hA
   obtain⟨⟨la,ao,tt⟩,hz⟩:∃ z,arcs.getD i (0,0,0)=z:=⟨_,rfl⟩
   have htk:=bI arcs (0,0,0) i (by rw[HLEN.out];exact hin)
   rw[hz] at c1 c2 c3 htk
   simp only at c1 c2 c3
   have HTK:=aB htk
   obtain⟨q1,q2,q3⟩:=HX.facts
   clear hz hq htk
   go_wp2_with fail
   go_roundw
   ·refine⟨i+1,_,_,by simp,by omega,aB ?_,aB (((HX.set_ 2 _).set_ 3 _).alloc _),aB (((HT.setCell (λ_=>rfl) _).setCell (λ_=>rfl) _).alloc _)⟩
    rw[HTK.out,List.foldl_append,<-HI.out]
    simp only[List.foldl_cons,List.foldl_nil,Zb,Prod.mk.injEq]
    constructor
    ·unfold wrap64;omega
    ·unfold wrap64;omega
   ·simp only[intOf];omega
  ·have hie:i=n:=by omega
   subst hie
   obtain⟨q1,q2,q3⟩:=HX.facts
   have hby:=HBY.touch HT HXY
   obtain⟨r1,r2,r3⟩:=hby.facts
   have HQ:=aB hq
   have hxy1:¬ X=Y:=λe=>HXY.out e.symm
   have hxy2:¬ Y=X:=HXY.out
   clear hq
   go_wp2_with fail
   have hbF:aL ((((wr.setCell ⟨Y,0,none⟩ (.int .i64 out)).setCell ⟨Y,1,none⟩ (.int .i64 i)).setCell ⟨Y,2,none⟩ (.int .i64 x3)).setCell ⟨Y,3,none⟩ (.int .i64 x4)) Y 246 #[.int .i64 out,.int .i64 i,.int .i64 x3,.int .i64 x4]:=(((hby.set_ 0 _).set_ 1 _).set_ 2 _).set_ 3 _
   have f0:=hbF.cell 0
   have f1:=hbF.cell 1
   have f2:=hbF.cell 2
   have f3:=hbF.cell 3
   have hTF:aC (λ_=>False) w ((((wr.setCell ⟨Y,0,none⟩ (.int .i64 out)).setCell ⟨Y,1,none⟩ (.int .i64 i)).setCell ⟨Y,2,none⟩ (.int .i64 x3)).setCell ⟨Y,3,none⟩ (.int .i64 x4)):=by
    iterate 4 refine aC.setCell ?_ (λh=>by have:=HYL.out;simp only at h;omega) _
    exact HQ
   have hfin:=HI.out
   rw[qXa (by rw[HLEN.out];exact Nat.le_refl _)] at hfin
   have e3:(arcs.foldl Zb (0,0)).1=x3:=by rw[<-hfin]
   have e4:(arcs.foldl Zb (0,0)).2=x4:=by rw[<-hfin]
   refine bodyPost_ret (v:=.agg #[.int .i64 out,.int .i64 i,.int .i64 x3,.int .i64 x4]) (by simp[results,Tryz.results140,go_sem,f0,f1,f2,f3]) rfl ⟨?_,hTF⟩
   rw[HLEN.out,e3,e4]
theorem Mb(w:World)(x y:SV)(hx:x.Od w)(hy:y.Od w) :
  Calls Tryz.prog 141 #[.agg #[.bool x.fin,.int .i64 x.out,.slice x.A x.n x.c],.agg #[.bool y.fin,.int .i64 y.out,.slice y.A y.n y.c]] w λe w'=>jF (x.p=y.p) e/\aC (λ_=>False) w w':=by
 obtain⟨xf,xo,xA,xn,xc,xa⟩:=x
 obtain⟨yf,yo,yA,yn,yc,ya⟩:=y
 obtain⟨xlen,xrd,xle,xmx⟩:=hx
 obtain⟨ylen,yrd,yle,ymx⟩:=hy
 simp only[SV.p,bP.mk.injEq] at *
 obtain⟨Q,hQ⟩:∃ Q:Prop,(xf=yf/\xo=yo/\xa=ya)=Q:=⟨_,rfl⟩
 rw[hQ]
 have HQ:=aB hQ
 clear hQ
 have hnm:xn<=maxLen:=qQb xle xmx
 have HX:=aB xrd
 have HXL:=aB xlen
 have HY:=aB yrd
 have HYL:=aB ylen
 clear xrd xlen yrd ylen xle xmx yle ymx
 by_cases e1:xf=yf
 ·subst e1
  by_cases e2:xo=yo
  ·subst e2
   by_cases e3:xn=yn
   ·subst e3
    go_in
    go_wp2_with fail
    obtain⟨w3,hw3⟩:=eX ((w.alloc (.cells #[.bool xf,.int .i64 xo,.slice xA xn xc] 170)).alloc (.cells #[.bool xf,.int .i64 xo,.slice yA xn yc] 170))
    obtain⟨X,hX⟩:=eX w.heap.size
    obtain⟨Y,hY⟩:=eX (w.heap.size+1)
    have hT3:aC (λ_=>False) w w3:=by
     rw[hw3]
     exact ((aC.refl _ _).alloc _).alloc _
    have hbX:aL w3 X 170 #[.bool xf,.int .i64 xo,.slice xA xn xc]:=by
     rw[hw3,hX]
     exact (aL.new _ _ _).alloc _
    have hbY:aL w3 Y 170 #[.bool xf,.int .i64 xo,.slice yA xn yc]:=by
     rw[hw3,hY]
     have h:=aL.new (w.alloc (.cells #[.bool xf,.int .i64 xo,.slice xA xn xc] 170)) 170 #[.bool xf,.int .i64 xo,.slice yA xn yc]
     simpa using h
    rw[<-hw3]
    try rw[<-hY]
    rw[<-hX]
    have HT3:=aB hT3
    have HBX:=aB hbX
    have HBY:=aB hbY
    clear hw3 hT3 hbX hbY hX hY
    go_loopw [30] (λiv wr=>∃ (i:Nat),iv=.int .i64 i/\i<=xn/\Hid (xa.take i=ya.take i)/\Hid (aC (λ_=>False) w3 wr)) (λiv _=>xn-(intOf iv).toNat)
    case atStart=>exact⟨0,rfl,by omega,aB rfl,aB (aC.refl _ _)⟩
    case round =>
     obtain⟨i,rfl,hi,HP,HT⟩:=hrel
     by_cases hin:i<xn
     ·have y1:(i:Int)<(xn:Int):=by omega
      have y2:(0:Int)<=(i:Int):=by omega
      have z2:IntKind.i64.wrap ((i:Int)+1)=(i:Int)+1:=qQa _ (by unfold maxLen at hnm;omega)
      obtain⟨g,o,hA,hg,c1,c2,c3⟩:=fT (HX.quiet (HT3.then HT)).rd HXL i hin
      obtain⟨g2,o2,hA2,hg2,d1,d2,d3⟩:=fT (HY.quiet (HT3.then HT)).rd HYL i hin
      subst hA
      subst hA2
      have hsx:=bI xa (0,0,0) i (by rw[HXL.out];exact hin)
      have hsy:=bI ya (0,0,0) i (by rw[HYL.out];exact hin)
      obtain⟨⟨la,ao,tt⟩,hz⟩:∃ z,xa.getD i (0,0,0)=z:=⟨_,rfl⟩
      obtain⟨⟨lb,bo,ub⟩,hz2⟩:∃ z,ya.getD i (0,0,0)=z:=⟨_,rfl⟩
      rw[hz] at c1 c2 c3 hsx
      rw[hz2] at d1 d2 d3 hsy
      simp only at c1 c2 c3 d1 d2 d3 hsx hsy
      have HSX:=aB hsx
      have HSY:=aB hsy
      obtain⟨q1,q2,q3⟩:=(HBX.touch HT (λf=>f)).facts
      obtain⟨r1,r2,r3⟩:=(HBY.touch HT (λf=>f)).facts
      clear hz hz2 hsx hsy
      by_cases p1:la=lb
      ·subst p1
       by_cases p2:ao=bo
       ·subst p2
        by_cases p3:tt=ub
        ·subst p3
         go_wp2_with fail
         go_quiet (fail)
         go_wp2_with fail
         go_roundw
         ·refine⟨i+1,by simp,by omega,aB ?_,aB (HT.drewN _)⟩
          rw[HSX.out,HSY.out,HP.out]
         ·simp only[intOf];omega
        ·have p4:((tt:Int) == (ub:Int))=false:=by simp;omega
         go_wp2_with fail
         go_quiet (fail)
         go_wp2_with fail
         go_ret
         refine⟨.mk false ?_,HT3.then (HT.drewN _)⟩
         rw[<-HQ.out]
         exact pA HSX HSY HP (λh=>by simp only[Prod.mk.injEq] at h;exact p3 h.2.2)
       ·have p4:(ao == bo)=false:=by simp;exact p2
        go_wp2_with fail
        go_quiet (fail)
        go_wp2_with fail
        go_ret
        refine⟨.mk false ?_,HT3.then (HT.drewN _)⟩
        rw[<-HQ.out]
        exact pA HSX HSY HP (λh=>by simp only[Prod.mk.injEq] at h;exact p2 h.2.1)
      ·have p4:((la:Int) == (lb:Int))=false:=by simp;omega
       go_wp2_with fail
       go_quiet (fail)
       go_wp2_with fail
       go_ret
       refine⟨.mk false ?_,HT3.then (HT.drewN _)⟩
       rw[<-HQ.out]
       exact pA HSX HSY HP (λh=>by simp only[Prod.mk.injEq] at h;exact p1 h.1)
     ·have hie:i=xn:=by omega
      have h:=HP.out
      rw[qXa (by rw[HXL.out];omega),qXa (by rw[HYL.out];omega)] at h
      have HE:=aB h
      have y1:¬ (i:Int)<(xn:Int):=by omega
      clear h hie hin hi
      go_wp2_with fail
      go_ret
      refine⟨.mk true ?_,HT3.then HT⟩
      rw[<-HQ.out]
      exact⟨λ_=>⟨trivial,trivial,HE⟩,λ_=>rfl⟩
   ·have e4:((xn:Int) == (yn:Int))=false:=by simp;omega
    have hno:¬ Q:=by
     rw[<-HQ.out]
     rintro⟨_,_,h⟩
     exact e3 (by rw[<-HXL.out,<-HYL.out,h])
    have HNO:=aB hno
    clear hno
    go_in
    cases xf
    ·go_wp2_with fail
     go_ret
     exact⟨.mk false ⟨(λh=>by cases h),λh=>absurd h HNO⟩,((aC.refl _ _).alloc _).alloc _⟩
    ·go_wp2_with fail
     go_ret
     exact⟨.mk false ⟨(λh=>by cases h),λh=>absurd h HNO⟩,((aC.refl _ _).alloc _).alloc _⟩
  ·have e4:(xo == yo)=false:=by simp;exact e2
   have hno:¬ Q:=by
    rw[<-HQ.out]
    rintro⟨_,h,_⟩
    exact e2 h
   have HNO:=aB hno
   clear hno
   go_in
   cases xf
   ·go_wp2_with fail
    go_ret
    exact⟨.mk false ⟨(λh=>by cases h),λh=>absurd h HNO⟩,((aC.refl _ _).alloc _).alloc _⟩
   ·go_wp2_with fail
    go_ret
    exact⟨.mk false ⟨(λh=>by cases h),λh=>absurd h HNO⟩,((aC.refl _ _).alloc _).alloc _⟩
 ·have hno:¬ Q:=by
   rw[<-HQ.out]
   rintro⟨h,_⟩
   exact e1 h
  have HNO:=aB hno
  clear hno
  go_in
  cases xf
  ·cases yf
   ·exact absurd rfl e1
   ·go_wp2_with fail
    go_ret
    exact⟨.mk false ⟨(λh=>by cases h),λh=>absurd h HNO⟩,((aC.refl _ _).alloc _).alloc _⟩
  ·cases yf
   ·go_wp2_with fail
    go_ret
    exact⟨.mk false ⟨(λh=>by cases h),λh=>absurd h HNO⟩,((aC.refl _ _).alloc _).alloc _⟩
   ·exact absurd rfl e1
end
section
open Go.RowKit Go.WideMaps Go.WideElems Go.ChangeShapes Go.WideShapes Go.MapKept Go.ChangeMaps
variable[Inhabited eF]
structure Gf(w:World)(B b m:Nat)(kv:Nat->Value)(es:Array MapEntry)(clock:Nat):Prop where
 g:Gd w B b m es clock
 has:∀ k,k<m->∃ (i:Nat) (x:MapEntry),es[i]? = some x/\x.key=kv k
 dist:∀ (i j:Nat) (x y:MapEntry),es[i]? = some x->es[j]? = some y->x.key=y.key->i=j
 full:∀ (i:Nat) (x:MapEntry),es[i]? = some x->∃ xs,mM w m x.val xs/\∀ k,k<m->kv k=x.key->k∈xs
theorem Xi{m':Nat}{v:Value}{xs ys:List Nat}(h:mM w m v xs)(k:mM w m' v ys):xs=ys:=by
 have inj:∀ {a b:List Nat},a.map oN=b.map oN->a=b:=λh=>nK (λx y e=>by simp only[oN,Value.int.injEq,true_and] at e;omega) h
 obtain⟨⟨h1,h2⟩,_⟩:=h
 obtain⟨⟨k1,k2⟩,_⟩:=k
 rcases h2 with⟨rfl,hn⟩ | ⟨g,cap,cur,rfl,_,hg,_,_,_,ht⟩
 ·rcases k2 with⟨_,kn⟩ | ⟨g,cap,cur,hv,_⟩
  ·rw[qQc hn,qQc kn]
  ·cases hv
 ·rcases k2 with⟨hv,_⟩ | ⟨g',cap',cur',hv,_,kg,_,_,_,kt⟩
  ·cases hv
  ·injection hv with e1 e2 e3
   injection e1 with e1
   injection e1 with e1
   subst e1
   rw[hg] at kg
   simp only[Option.some.injEq,Obj.cells.injEq] at kg
   obtain⟨rfl,_⟩:=kg
   rw[<-e2] at kt
   exact inj (ht.symm.trans kt)
theorem Gf.quiet{w':World}(h:Gf w B b m kv es clock)(T:aC (λ_=>False) w w'):Gf w' B b m kv es clock :=
 ⟨h.g.quiet T,h.has,h.dist,λi x hx=>by
  obtain⟨xs,hr,hf⟩:=h.full i x hx
  exact⟨xs,hr.touch T (λ_ _ f=>f),hf⟩⟩
theorem Gf.far{w':World}{S:Nat->Prop}(h:Gf w B b m kv es clock)(T:aC S w w')(hb:¬ S b)(hs:∀ g,bE w g 3 -> ¬ S g):Gf w' B b m kv es clock :=
 ⟨h.g.far T hb hs,h.has,h.dist,λi x hx=>by
  obtain⟨xs,hr,hf⟩:=h.full i x hx
  exact⟨xs,hr.touch T (λg hg=>hs g (aH hr.1 hg)),hf⟩⟩
theorem Gf.lookup(h:Gf w B b m kv es clock){key:Value}{l:Lit}(hk:keyOf Tryz.prog 246 key=some l) :
  ∃ v xs,(Instr.lookup 241 (.map (some b)) key false).run Tryz.prog w=.ok v w/\mM w m v xs/\∀ k,k<m->kv k=key->k∈xs:=by
 rcases fR.find w hk es.toList h.g.keys with⟨h1,h2⟩ | ⟨j,e0,h1,h2,h3⟩
 ·refine⟨.slice none 0 0,[],?_,mM.nil _ _,λk hm e=>?_⟩
  ·simp[Instr.lookup,run_underlying Tryz.underlying241,MapKept.run_getObj_map h.g.blk,fR.check w _ hk,h1,Result.andThen]
  ·obtain⟨i,x,hx,hxk⟩:=h.has k hm
   exact absurd (hxk.trans e) (h2 x (qJa (by simpa using hx)))
 ·obtain⟨xs,hr,hf⟩:=h.full j e0 (by simpa using h2)
  refine⟨e0.val,xs,?_,hr,λk hm e=>hf k hm (e.trans h3.symm)⟩
  simp[Instr.lookup,run_underlying Tryz.underlying241,MapKept.run_getObj_map h.g.blk,fR.check w _ hk,h1,Result.andThen]
theorem Gf.entry(h2:Gf w B b m kv es clock){key:Value}{l:Lit}(hk:keyOf Tryz.prog 246 key=some l) :
  ∃ (es1:Array MapEntry) (clock1 j:Nat) (e0:MapEntry),(Instr.mapEntry 241 (.map (some b)) key).run Tryz.prog w=.ok (.tuple #[e0.val,goInt e0.born]) (setBlock w b (.map es1 clock1))/\Gf (setBlock w b (.map es1 clock1)) B b m kv es1 clock1/\es1[j]? = some e0/\e0.key=key:=by
 have h:=h2.g
 have hT:=λo=>dF w b o
 have hlt:=nL h.blk
 have hne:∀ (i:Nat) (x:MapEntry),es[i]? = some x->∀ g,x.val.ownBlock=some g->¬ g=b:=by
  intro i x hx g hg
  obtain⟨xs,hr⟩:=h.vals i x hx
  exact lY (aH hr.1 hg) h.blk
 rcases fR.find w hk es.toList h.keys with⟨h1,f2⟩ | ⟨j,e0,h1,f2,h3⟩
 ·refine⟨es.push ⟨key,.slice none 0 0,clock⟩,clock+1,es.size,⟨key,.slice none 0 0,clock⟩,?_,⟨⟨eY hlt,stamped_push h.stamped f2,?_,?_,?_,?_⟩,?_,?_,?_⟩,by simp,rfl⟩
  ·simp[Instr.mapEntry,run_underlying Tryz.underlying241,MapKept.run_getObj_map h.blk,fR.check w false hk,h1,MapKept.run_setObj_map _ h.blk,Result.andThen,setBlock]
  ·intro x hx
   simp only[Array.toList_push,List.mem_append,qZb] at hx
   rcases hx with hx | rfl
   ·exact h.keys x hx
   ·exact⟨l,hk⟩
  ·intro i x hx
   rw[Array.getElem?_push] at hx
   split at hx
   ·injection hx with hx
    subst hx
    exact⟨[],mM.nil _ _⟩
   ·obtain⟨xs,hr⟩:=h.vals i x hx
    exact⟨xs,hr.touch (hT _) (hne i x hx)⟩
  ·intro i x hx g hg
   rw[Array.getElem?_push] at hx
   split at hx
   ·injection hx with hx
    subst hx
    cases hg
   ·exact h.young i x hx g hg
  ·intro i j x y hx hy hij g hg
   rw[Array.getElem?_push] at hx hy
   split at hx
   ·injection hx with hx
    subst hx
    cases hg
   ·split at hy
    ·injection hy with hy
     subst hy
     intro e
     cases e
    ·exact h.apart i j x y hx hy hij g hg
  ·intro k hm
   obtain⟨i,x,hx,hxk⟩:=h2.has k hm
   exact⟨i,x,by rw[Array.getElem?_push,if_neg (by have:=(Array.getElem?_eq_some_iff.1 hx).1;omega)];exact hx,hxk⟩
  ·intro i j x y hx hy hxy
   rw[Array.getElem?_push] at hx hy
   split at hx
   ·rename_i hi
    split at hy
    ·rename_i hj
     omega
    ·obtain rfl:=Option.some.inj hx
     exact False.elim <| f2 y (qJa (i:=j) (by simpa using hy)) hxy.symm
   ·split at hy
    ·obtain rfl:=Option.some.inj hy
     exact False.elim <| f2 x (qJa (i:=i) (by simpa using hx)) hxy
    ·exact h2.dist i j x y hx hy hxy
  ·intro i x hx
   rw[Array.getElem?_push] at hx
   split at hx
   ·injection hx with hx
    subst hx
    refine⟨[],mM.nil _ _,λk hm e=>?_⟩
    obtain⟨i',x',hx',hxk'⟩:=h2.has k hm
    exact absurd (hxk'.trans e) (f2 x' (qJa (i:=i') (by simpa using hx')))
   ·obtain⟨xs,hr,hf⟩:=h2.full i x hx
    exact⟨xs,hr.touch (hT _) (hne i x hx),hf⟩
 ·have hj:es[j]? = some e0:=by simpa using f2
  have hsame:es.modify j (λe=>{ e with key:=key })=es:=by
   apply Array.ext'
   rw[Array.toList_modify,modify_eq_set _ _ _ _ f2]
   have:({ e0 with key:=key }:MapEntry)=e0:=by rw[<-h3]
   rw[this]
   exact set_self _ _ _ f2
  refine⟨es,clock,j,e0,?_,⟨⟨eY hlt,h.stamped,h.keys,λi x hx=>?_,h.young,h.apart⟩,h2.has,h2.dist,λi x hx=>?_⟩,hj,h3⟩
  ·simp[Instr.mapEntry,run_underlying Tryz.underlying241,MapKept.run_getObj_map h.blk,fR.check w false hk,h1,hj,h3,fR.stays w hk,hsame,MapKept.run_setObj_map _ h.blk,Result.andThen,setBlock]
  ·obtain⟨xs,hr⟩:=h.vals i x hx
   exact⟨xs,hr.touch (hT _) (hne i x hx)⟩
  ·obtain⟨xs,hr,hf⟩:=h2.full i x hx
   exact⟨xs,hr.touch (hT _) (hne i x hx),hf⟩
theorem Gf.store{w6:World}{j:Nat}{e0:MapEntry}(h2:Gf w B b m kv es clock)(hkv:e0.key=kv m){ys:List Nat}(hys:mM w m e0.val ys)(hj:es[j]? = some e0){v1:Value}{xs:List Nat}(hg:w.grownBy w6 e0.val.ownBlock)(hf:bJ w e0.val v1)(hv:mM w6 (m+1) v1 xs)(hxs:xs=ys++[m])(hB:B<=w.heap.size) :
  ∃ es',(Instr.entryStore 241 (.map (some b)) (goInt e0.born) v1).run Tryz.prog w6=.ok () (setBlock w6 b (.map es' clock))/\Gf (setBlock w6 b (.map es' clock)) B b (m+1) kv es' clock:=by
 have h:=h2.g
 have hlt:=nL h.blk
 have hnb:∀ (i:Nat) (x:MapEntry),es[i]? = some x->∀ g,x.val.ownBlock=some g->¬ g=b:=by
  intro i x hx g hg
  obtain⟨xs,hr⟩:=h.vals i x hx
  exact lY (aH hr.1 hg) h.blk
 have hT6:aC (λx=>e0.val.ownBlock=some x) w w6:=(aC.refl _ _).grown hg (λk hk _=>hk)
 have hb6:w6.heap[b]? = some (.map es clock):=(hT6.block b hlt (λe=>hnb j e0 hj b e rfl)).trans h.blk
 have hT7:=λo=>dF w6 b o
 have hl:es.toList[j]? = some e0:=by simpa using hj
 have hidx:es.findIdx? (λe=>((e.born:Nat):Int) == ((e0.born:Nat):Int))=some j:=by
  rw[findIdx_arr]
  exact findIdx_born h.stamped.2.1 hl
 have hget:∀ i:Nat,(es.modify j (λe=>{ e with val:=v1 }))[i]? = if j=i then (es[i]?).map (λe=>{ e with val:=v1 }) else es[i]? := by
  intro i
  rw[Array.getElem?_modify]
 refine⟨es.modify j (λe=>{ e with val:=v1 }),?_,⟨⟨eY (nL hb6),stamped_modify h.stamped j _ (λ_ _=>rfl) (λ_ _ _=>rfl),?_,?_,?_,?_⟩,?_,?_,?_⟩⟩
 ·simp[Instr.entryStore,MapKept.run_getObj_map hb6,asInt,asIntOf,goInt,hidx,MapKept.run_setObj_map _ hb6,Result.andThen,setBlock]
 ·intro x hx
  rw[Array.toList_modify,modify_eq_set _ _ _ _ hl] at hx
  rcases List.mem_or_eq_of_mem_set hx with hx | rfl
  ·exact h.keys x hx
  ·exact h.keys e0 (qJa hl)
 ·intro i x hx
  rw[hget] at hx
  split at hx
  ·rename_i hji
   subst hji
   rw[hj] at hx
   simp only[Option.map_some,Option.some.injEq] at hx
   subst hx
   refine⟨xs,hv.touch (hT7 _) λg hg' e=>?_⟩
   exact lY (aH hv.1 hg') hb6 e
  ·rename_i hji
   obtain⟨ys,hr⟩:=(h.up (Nat.le_succ m)).vals i x hx
   refine⟨ys,(hr.touch hT6 λg hg' e=>?_).touch (hT7 _) (hnb i x hx)⟩
   exact h.apart j i e0 x hj hx hji g e hg'
 ·intro i x hx g hg'
  rw[hget] at hx
  split at hx
  ·rename_i hji
   subst hji
   rw[hj] at hx
   simp only[Option.map_some,Option.some.injEq] at hx
   subst hx
   rcases hf with hf | ⟨g2,e2,hf⟩
   ·simp only at hg'
    rw[hf] at hg'
    exact h.young j e0 hj g hg'
   ·simp only at hg'
    rw[e2] at hg'
    injection hg' with hg'
    omega
  ·exact h.young i x hx g hg'
 ·have hfar:∀ (i:Nat) (x:MapEntry),es[i]? = some x->j≠i->∀ g,v1.ownBlock=some g->x.val.ownBlock≠some g:=by
   intro i x hx hji g hg' e
   rcases hf with hf | ⟨g2,e2,hf⟩
   ·rw[hf] at hg'
    exact h.apart j i e0 x hj hx hji g hg' e
   ·rw[e2] at hg'
    injection hg' with hg'
    obtain⟨ys,hr⟩:=h.vals i x hx
    have:=(aH hr.1 e).lt
    omega
  intro i k x y hx hy hik g hg'
  rw[hget] at hx hy
  split at hx
  ·rename_i hji
   rw[if_neg (by omega)] at hy
   subst hji
   rw[hj] at hx
   simp only[Option.map_some,Option.some.injEq] at hx
   subst hx
   exact hfar k y hy hik g hg'
  ·split at hy
   ·rename_i hji hjk
    subst hjk
    rw[hj] at hy
    simp only[Option.map_some,Option.some.injEq] at hy
    subst hy
    intro e
    exact hfar i x hx hji g e hg'
   ·exact h.apart i k x y hx hy hik g hg'
 ·intro k hk
  rcases Nat.lt_succ_iff_lt_or_eq.1 hk with hk | rfl
  ·obtain⟨i,x,hx,hxk⟩:=h2.has k hk
   by_cases e:j=i
   ·exact⟨i,{ x with val:=v1 },by rw[hget,if_pos e,hx];rfl,hxk⟩
   ·exact⟨i,x,by rw[hget,if_neg e];exact hx,hxk⟩
  ·exact⟨j,{ e0 with val:=v1 },by rw[hget,if_pos rfl,hj];rfl,hkv⟩
 ·have hk:∀ (i:Nat) (x:MapEntry),(es.modify j (λe=>{ e with val:=v1 }))[i]? = some x->∃ x',es[i]? = some x'/\x'.key=x.key:=by
   intro i x hx
   rw[hget] at hx
   split at hx
   ·obtain⟨x',h1,h3⟩:=Option.map_eq_some_iff.1 hx
    exact⟨x',h1,by rw[<-h3]⟩
   ·exact⟨x,hx,rfl⟩
  intro i k x y hx hy hxy
  obtain⟨x',h1,h3⟩:=hk i x hx
  obtain⟨y',h4,h5⟩:=hk k y hy
  exact h2.dist i k x' y' h1 h4 (by rw[h3,h5,hxy])
 ·intro i x hx
  rw[hget] at hx
  split at hx
  ·rename_i hji
   subst hji
   rw[hj] at hx
   simp only[Option.map_some,Option.some.injEq] at hx
   subst hx
   obtain⟨zs,hr,hf⟩:=h2.full j e0 hj
   have e:=Xi hr hys
   subst e
   refine⟨xs,hv.touch (hT7 _) λg hg' e=>?_,?_⟩
   ·exact lY (aH hv.1 hg') hb6 e
   ·intro k hk e
    rw[hxs]
    rcases Nat.lt_succ_iff_lt_or_eq.1 hk with hk | rfl
    ·exact List.mem_append_left _ (hf k hk e)
    ·exact List.mem_append_right _ (List.mem_singleton.2 rfl)
  ·rename_i hji
   obtain⟨zs,hr,hf⟩:=h2.full i x hx
   have hr2:mM w (m+1) x.val zs:=⟨hr.1,by have:=hr.2.1;omega,λk hk=>by have:=hr.2.2 k hk;omega⟩
   refine⟨zs,(hr2.touch hT6 λg hg' e=>?_).touch (hT7 _) (hnb i x hx),?_⟩
   ·exact h.apart j i e0 x hj hx hji g e hg'
   ·intro k hk e
    rcases Nat.lt_succ_iff_lt_or_eq.1 hk with hk | rfl
    ·exact hf k hk e
    ·exact absurd (h2.dist j i e0 x hj hx (hkv.trans e)) hji
end
section
variable[Inhabited eF]
structure Gj(w:World)(g Y:Nat)(s':List Bool)(nx':Nat)(ok:Bool):Prop where
 yes:ok=true->aL w g 4 (nH s')/\aL w Y 3 #[.int .i64 nx']
theorem uO{sts:List bP}{f i:Nat}{s s':List Bool}{n n':Nat}(h:fC sts f i s n=(true,s',n')):n'=i+1:=by
 cases f with
 | zero=>simp[fC] at h
 | succ f =>
  simp only[fC] at h
  split at h
  ·simp only[Prod.mk.injEq,decide_eq_true_eq] at h
   omega
  ·simp at h
theorem Gj.no{g:Nat}{s':List Bool}{nx':Nat}:Gj w g Y s' nx' false:=⟨λh=>by cases h⟩
def aGz(Z:List SV)(base:Int)(A:Option Addr)(n c M S V Y g:Nat)(f:Nat):Prop :=
 ∀ (w:World) (i:Nat) (s s':List Bool) (nx nx':Nat) (ok:Bool),i<f->nx<=1000000->aL w M 89 #[.int .i64 base,.slice A n c]->mN w A n Z->aL w S 282 #[.slice (some ⟨g,0,none⟩) n n]->aL w g 4 (nH s) ->
  aL w V 276 #[.func (.func 173) #[] #[.pointer (some ⟨M,0,none⟩),.pointer (some ⟨S,0,none⟩),.pointer (some ⟨V,0,none⟩),.pointer (some ⟨Y,0,none⟩)]]->aL w Y 3 #[.int .i64 nx]->i<n->s.length=n ->
  fC (Z.map SV.p) f i s nx=(ok,s',nx') ->
  Calls Tryz.prog 173 #[.int .i64 i,.pointer (some ⟨M,0,none⟩),.pointer (some ⟨S,0,none⟩),.pointer (some ⟨V,0,none⟩),.pointer (some ⟨Y,0,none⟩)] w λe w'=>e=.returned (.bool ok)/\Gj w' g Y s' nx' ok/\aC (λx=>x=g\/x=Y) w w'
theorem yL(Z:List SV)(base:Int)(A:Option Addr)(n c M S V Y g:Nat)(hlt:∀ i,i<n->∀ a∈(Z.getD i cE).arcs,a.2.2<i)(hn:n<=1000000)(hbg:bs<=g)(hbY:bs<=Y):∀ f,aGz Z base A n c M S V Y g f
 | 0=>by
  intro w i s s' nx nx' ok h
  omega
 | f+1=>by
  intro w i s s' nx nx' ok hif hnx hM hst hS hg hV hY hi hsl hvis
  have ih:=yL Z base A n c M S V Y g hlt hn hbg hbY f
  obtain⟨b,o,hA,hb,c0,c1,c2⟩:=lE hst.rd.rd hst.len i hi
  have hzm:=aZ Z cE i (by rw[hst.len];exact hi)
  have hlz:=hlt i hi
  have hel:=hst.el _ hzm
  have hsg:((Z.map SV.p).getD i aS).arcs=(Z.getD i cE).arcs:=by
   simp[List.getD,hst.len,hi,SV.p]
  subst hA
  simp only[fC] at hvis
  rw[hsg] at hvis
  obtain⟨⟨fin,out,aA,q,ac,arcs⟩,hz⟩:∃ z,Z.getD i cE=z:=⟨_,rfl⟩
  rw[hz] at c0 c1 c2 hlz hel hvis
  simp only at c0 c1 c2 hlz hvis
  obtain⟨alen,ard,ale,amx⟩:=hel
  simp only at alen ard ale amx
  have hqm:q<=maxLen:=qQb ale amx
  obtain⟨m0,m1,m2⟩:=hM.facts
  have HM:=aB hM
  have HST:=aB hst
  have HS:=aB hS
  have HG:=aB hg
  have HV:=aB hV
  have HY:=aB hY
  have HSL:=aB hsl
  have HLZ:=aB hlz
  have HAL:=aB alen
  have HRD:=aB ard
  have HVIS:=aB hvis
  have HIH:=aB ih
  have HZM:Hid (∀ wr,aC (λx=>x=g\/x=Y) w wr->aL wr M 89 #[.int .i64 base,.slice (some ⟨b,o,none⟩) n c]/\mN wr (some ⟨b,o,none⟩) n Z/\aL wr S 282 #[.slice (some ⟨g,0,none⟩) n n]/\aL wr V 276 #[.func (.func 173) #[] #[.pointer (some ⟨M,0,none⟩),.pointer (some ⟨S,0,none⟩),.pointer (some ⟨V,0,none⟩),.pointer (some ⟨Y,0,none⟩)]]/\Ar wr 173 3 aA q (dI arcs)):=by
   intro wr T
   have hno:∀ t,t ≠ 4 -> t ≠ 3 -> ∀ x,OT w x t->¬ (x=g\/x=Y):=by
    intro t h1 h2 x hx hor
    rcases hor with e | e
    ·exact hx.ne (aF hg) h1 hbg e
    ·exact hx.ne (aF hY) h2 hbY e
   refine⟨hM.touch T (hno _ (by decide) (by decide) _ (.inr (aF hM))),⟨hst.rd.touch T (hno _ (by decide) (by decide)),hst.len,λz hz=>(hst.el z hz).touch T (hno _ (by decide) (by decide))⟩,hS.touch T (hno _ (by decide) (by decide) _ (.inr (aF hS))),hV.touch T (hno _ (by decide) (by decide) _ (.inr (aF hV))),ard.touch T (hno _ (by decide) (by decide))⟩
  clear hM hst hS hg hV hY hsl hlz alen ard hvis ih hzm hsg hz hlt ale amx
  go_in
  go_wp2_with fail
  go_loopw [16] (λiv wr=>∃ (j:Nat) (sj:List Bool) (nj:Nat),iv=.int .i64 j/\j<=q/\sj.length=n/\nj<=1000000/\Hid (dJ (fC (Z.map SV.p) f) arcs s nx=dJ (fC (Z.map SV.p) f) (arcs.drop j) sj nj)/\Hid (aL wr g 4 (nH sj))/\Hid (aL wr Y 3 #[.int .i64 nj])/\Hid (aC (λx=>x=g\/x=Y) w wr)) (λiv _=>q-(intOf iv).toNat)
  case atStart=>exact⟨0,s,nx,rfl,by omega,HSL,hnx,aB rfl,HG,HY,aB (aC.refl _ _)⟩
  case round =>
   obtain⟨j,sj,nj,rfl,hj,hsj,hnj,HE,HGj,HYj,HT⟩:=hrel
   obtain⟨hMr,hSTr,hSr,hVr,hAr⟩:=HZM.out wr HT
   obtain⟨p0,p1,p2⟩:=hSr.facts
   obtain⟨v0,v1,v2⟩:=hVr.facts
   by_cases hjq:j<q
   ·have y1:(j:Int)<(q:Int):=by omega
    have y2:(0:Int)<=(j:Int):=by omega
    have z2:IntKind.i64.wrap ((j:Int)+1)=(j:Int)+1:=qQa _ (by unfold maxLen at hqm;omega)
    obtain⟨ag,ao,hA,hag,d0,d1,d2⟩:=fT hAr.rd HAL j hjq
    subst hA
    have hto:=HLZ.out _ (aZ arcs (0,0,0) j (by rw[HAL.out];exact hjq))
    have hdr:arcs.drop j=arcs.getD j (0,0,0) :: arcs.drop (j+1):=by
     rw[List.drop_eq_getElem_cons (by rw[HAL.out];exact hjq)]
     simp[List.getD,HAL.out,hjq]
    have he:=HE.out
    rw[hdr] at he
    obtain⟨⟨la,ua,tt⟩,hz⟩:∃ z,arcs.getD j (0,0,0)=z:=⟨_,rfl⟩
    rw[hz] at d0 d1 d2 hto he
    simp only at d0 d1 d2 hto he
    simp only[dJ] at he
    have hcs:wr.cell? ⟨g,tt,none⟩=some (.bool (sj.getD tt false)):=by
     rw[HGj.cell]
     exact xI _ _ (by rw[hsj];omega)
    have hgl:=HGj.lt
    have y3:(0:Int)<=(tt:Int):=by omega
    have y4:(tt:Int)<(n:Int):=by omega
    clear hz hdr hMr hSTr hSr hVr hAr
    by_cases hseen:sj.getD tt false=true
    ·rw[if_pos hseen] at he
     rw[hseen] at hcs
     have HEE:=aB he
     clear he hseen
     go_wp2_with fail
     go_roundw
     ·exact⟨j+1,sj,nj,by simp,by omega,hsj,hnj,aB HEE,aB (HGj.alloc _),aB (HYj.alloc _),aB (HT.alloc _)⟩
     ·simp only[intOf];omega
    ·rw[if_neg hseen] at he
     have hsf:sj.getD tt false=false:=by simpa using hseen
     rw[hsf] at hcs
     obtain⟨⟨okv,s1,n1⟩,hvf⟩:∃ r,fC (Z.map SV.p) f tt sj nj=r:=⟨_,rfl⟩
     rw[hvf] at he
     have hs1:s1.length=n:=by
      have:=Kk (Z.map SV.p) f tt sj nj
      rw[hvf] at this
      simp only at this
      omega
     obtain⟨u,hu⟩:=eX (wr.alloc (.cells #[.int .i32 la,.int .i64 ua,.int .i64 tt] 173))
     have hTu:aC (λx=>x=g\/x=Y) w u:=by rw[hu];exact HT.alloc _
     have hTu2:aC (λ_=>False) wr u:=by rw[hu];exact (aC.refl _ _).alloc _
     obtain⟨k1,k2,k3,k4,_⟩:=HZM.out u hTu
     have hcall:=HIH.out u tt sj s1 nj n1 okv (by omega) hnj k1 k2 k3 (HGj.touch hTu2 (λf=>f)) k4 (HYj.touch hTu2 (λf=>f)) (by omega) hsj hvf
     have HU:=aB hu
     have HTU:=aB hTu
     have HCALL:=aB hcall
     cases okv with
     | false =>
      simp only at he
      have hv:=HVIS.out
      rw[he] at hv
      simp only[Prod.mk.injEq] at hv
      obtain⟨hv,_⟩:=hv
      subst hv
      clear he hseen hsf hu hTu hTu2 k1 k2 k3 k4 hcall hvf
      go_wp2_with ((go_at_call 173;rw[<-HU.out];refine (HCALL).mono ?_;rintro e v2 ⟨rfl,_,T2⟩;have HT2:=aB (HTU.then T2);clear T2))
      go_ret
      exact⟨rfl,Gj.no,HT2⟩
     | true =>
      simp only at he
      have HEE:=aB he
      have hn1:=uO hvf
      clear he hseen hsf hu hTu hTu2 k1 k2 k3 k4 hcall hvf
      go_wp2_with ((go_at_call 173;rw[<-HU.out];refine (HCALL).mono ?_;rintro e v2 ⟨rfl,hvo,T2⟩;have hgy:=hvo.yes rfl;have HG2:=aB hgy.1;have HY2:=aB hgy.2;have HT2:=aB (HTU.then T2);clear hvo hgy T2))
      go_roundw
      ·exact⟨j+1,s1,n1,by simp,by omega,hs1,by omega,HEE,HG2,HY2,HT2⟩
      ·simp only[intOf];omega
   ·have hjq2:j=q:=by omega
    subst hjq2
    have he:=HE.out
    rw[show arcs.drop j=[] from List.drop_eq_nil_of_le (by rw[HAL.out];exact Nat.le_refl _)] at he
    simp only[dJ] at he
    have hv:=HVIS.out
    rw[he] at hv
    simp only[Prod.mk.injEq] at hv
    obtain⟨h1,h2,h3⟩:=hv
    have hcs:wr.cell? ⟨g,i,none⟩=some (.bool (sj.getD i false)):=by
     rw[HGj.cell]
     exact xI _ _ (by rw[hsj];exact hi)
    have hgl:=HGj.lt
    have hgf:=HGj.frozen i
    obtain⟨r0,r1,r2⟩:=HYj.facts
    have z2:IntKind.i64.wrap ((i:Int)+1)=(i:Int)+1:=qQa _ (by omega)
    have hgY:¬ g=Y:=HGj.ne_ HYj (by decide)
    have hYg:¬ Y=g:=λe=>hgY e.symm
    have hYS:¬ Y=S:=HYj.ne_ hSr (by decide)
    have hgS:¬ g=S:=HGj.ne_ hSr (by decide)
    have y3:(0:Int)<=(i:Int):=by omega
    have y4:(i:Int)<(n:Int):=by omega
    have y5:(0:Int)<=(nj:Int):=by omega
    have H1:=aB h1
    have H2:=aB h2
    have H3:=aB h3
    have hfin:Gj (((wr.setCell ⟨g,i,none⟩ (.bool true)).setCell ⟨Y,0,none⟩ (.int .i64 ((nj:Int)+1)))) g Y s' nx' ok/\aC (λx=>x=g\/x=Y) w ((wr.setCell ⟨g,i,none⟩ (.bool true)).setCell ⟨Y,0,none⟩ (.int .i64 ((nj:Int)+1))):=by
     refine⟨⟨λ_=>⟨?_,?_⟩⟩,(HT.setCell (λ_=>.inl rfl) _).setCell (λ_=>.inr rfl) _⟩
     ·rw[<-H2.out,<-Le]
      exact (HGj.set_ _ _).far hgY _
     ·have:=((HYj.far hYg (p:=⟨g,i,none⟩) (.bool true)).set_ 0 (.int .i64 ((nj:Int)+1)))
      rw[<-H3.out]
      simpa using this
    have HFIN:=aB hfin
    have z3:IntKind.i64.wrap ((nj:Int)+1)=(nj:Int)+1:=qQa _ (by omega)
    have hok:(((nj:Int)+1) == ((i:Int)+1))=ok:=by
     rw[<-h1,Bool.eq_iff_iff]
     simp
     omega
    clear he h1 h2 h3 hMr hSTr hSr hVr hAr hfin
    go_wp2_with fail
    go_ret
    refine⟨?_,HFIN.1,HFIN.2⟩
    rw[<-H1.out]
    simp
theorem Aw(w:World)(base:Int)(A:Option Addr)(n c:Nat)(Z:List SV)(hst:mN w A n Z)(hlt:∀ i,i<n->∀ a∈(Z.getD i cE).arcs,a.2.2<i)(hn0:0<n)(hn:n<=1000000)(hbs:bs<=w.heap.size) :
  Calls Tryz.prog 142 #[.agg #[.int .i64 base,.slice A n c]] w λe w'=>jF (∃ s',fC (Z.map SV.p) n (n-1) (qZa n false) 0=(true,s',n)) e/\aC (λ_=>False) w w':=by
 obtain⟨⟨ok,s',nx'⟩,hvis⟩:∃ r,fC (Z.map SV.p) n (n-1) (qZa n false) 0=r:=⟨_,rfl⟩
 have hiff:ok=true↔∃ s',fC (Z.map SV.p) n (n-1) (qZa n false) 0=(true,s',n):=by
  rw[hvis]
  constructor
  ·rintro rfl
   have h1:=uO hvis
   exact⟨s',by rw[h1,show n-1+1=n by omega]⟩
  ·rintro⟨s2,h⟩
   simp only[Prod.mk.injEq] at h
   exact h.1
 obtain⟨Q,hQ⟩:∃ Q:Prop,(∃ s',fC (Z.map SV.p) n (n-1) (qZa n false) 0=(true,s',n))=Q:=⟨_,rfl⟩
 rw[hQ] at hiff ⊢
 have HIFF:=aB hiff
 clear hQ hiff
 obtain⟨i0,hi,hz0,hz1,hz2⟩:=aO Vt
 have HST:=aB hst
 have HV:=aB hvis
 have hmf:∀ (fn:Fn) (first cap:Array Value) (w:World),(Instr.makeFunc fn first cap).run Tryz.prog w=.ok (.func fn first cap) w:=λ_ _ _ _=>rfl
 have z1:IntKind.i64.wrap ((n:Int)-1)=(n:Int)-1:=qQa _ (by omega)
 clear hst hvis
 go_in
 go_wp2_with (refine wpList_make_full _ rfl (.tmp 8) (.tmp 8) 282 rfl 0 4 i0 _ 1 Tryz.underlying282 hi hz0 hz1 .i64 .i64 (n:Int) (n:Int) n rfl rfl rfl rfl ?b2 ?b3 (Nat.zero_le _) ?_)
 case b2=>rw[hz2];omega
 case b3=>unfold maxLen;omega
 intro w1 O1 G1
 have hmc:(madeCells #[Value.bool false] n).toList=(qZa n false).map .bool:=by
  unfold madeCells
  apply List.ext_getElem
  ·simp
  ·intro i h1 h2
   simp[Nat.mod_one]
 rw[hmc] at O1
 obtain⟨M,hM⟩:=eX w.heap.size
 obtain⟨Y,hY⟩:=eX (w.heap.size+1)
 obtain⟨g,hg⟩:=eX (w.heap.size+1+1)
 have hbM:aL w1 M 89 #[.int .i64 base,.slice A n c]:=by
  rw[hM]
  exact ((aL.new _ _ _).alloc _).grown G1 (by simp)
 have hbY:aL w1 Y 3 #[.int .i64 ((0:Nat):Int)]:=by
  rw[hY]
  exact (fU _ _ _ _).grown G1 (by simp)
 rw[<-hg] at O1
 have hbg:aL w1 g 4 (nH (qZa n false)):=Wr O1
 have hT1:aC (λ_=>False) w w1:=(((aC.refl _ _).alloc _).alloc _).grown G1 (λk h=>by cases h)
 rw[<-hg,<-hY,<-hM]
 have HBM:=aB hbM
 have HBY:=aB hbY
 have HBG:=aB hbg
 have HT1:=aB hT1
 have HM:=aB hM
 have HY:=aB hY
 have HG:=aB hg
 obtain⟨q1,q2,q3⟩:=hbM.facts
 obtain⟨r1,r2,r3⟩:=hbY.facts
 clear O1 G1 hmc hM hY hg hbM hbY hbg hT1
 obtain⟨u1,hu1⟩:=eX ((w1.alloc (.cells #[.slice (some ⟨g,0,none⟩) n n] 282)).alloc (.cells #[.func (.func 173) #[] #[.pointer (some ⟨M,0,none⟩),.pointer (some ⟨w1.heap.size,0,none⟩),.pointer (some ⟨w1.heap.size+1,0,none⟩),.pointer (some ⟨Y,0,none⟩)]] 276))
 have hTu:aC (λ_=>False) w1 u1:=by rw[hu1];exact ((aC.refl _ _).alloc _).alloc _
 have hbS:aL u1 w1.heap.size 282 #[.slice (some ⟨g,0,none⟩) n n]:=by rw[hu1];exact (aL.new _ _ _).alloc _
 have hbV:aL u1 (w1.heap.size+1) 276 #[.func (.func 173) #[] #[.pointer (some ⟨M,0,none⟩),.pointer (some ⟨w1.heap.size,0,none⟩),.pointer (some ⟨w1.heap.size+1,0,none⟩),.pointer (some ⟨Y,0,none⟩)]]:=by rw[hu1];exact fU _ _ _ _
 have hb1M:=HBM.touch hTu (λf=>f)
 have hb1Y:=HBY.touch hTu (λf=>f)
 have hb1g:=HBG.touch hTu (λf=>f)
 have hst1:=(HST.quiet HT1).quiet hTu
 have hcall:=yL Z base A n c M w1.heap.size (w1.heap.size+1) Y g hlt hn (by have:=HG.out;omega) (by have:=HY.out;omega) n u1 (n-1) (qZa n false) s' 0 nx' ok (by omega) (by omega) hb1M hst1 hbS hb1g hbV hb1Y (by omega) (by simp) HV
 rw[show (((n-1:Nat):Int))=(n:Int)-1 by omega] at hcall
 have hgY:¬ M=g:=hb1M.ne_ hb1g (by decide)
 have hgY2:¬ M=Y:=hb1M.ne_ hb1Y (by decide)
 have HU1:=aB hu1
 have HCALL:=aB hcall
 have HTT:=aB (HT1.then hTu)
 have HB1M:=aB hb1M
 have HN:=aB (λh=>h.elim hgY hgY2:¬ (M=g\/M=Y))
 clear hTu hbS hbV hu1 hb1M hb1Y hb1g hst1 hcall hgY hgY2
 cases ok with
 | false =>
  go_wp2_with ((go_at_call 173;rw[<-HU1.out];refine (HCALL).mono ?_;rintro e v2 ⟨rfl,_,T2⟩;have HT2:=aB T2;clear T2))
  go_ret
  refine⟨.mk false HIFF,HTT.trans HT2 λi hi e=>?_⟩
  have h1:=HG.out
  have h2:=HY.out
  omega
 | true =>
  have hnx:=uO HV
  have hnn:nx'=n:=by omega
  subst hnn
  clear hnx
  go_wp2_with ((go_at_call 173;rw[<-HU1.out];refine (HCALL).mono ?_;rintro e v2 ⟨rfl,hvo,T2⟩;have HT2:=aB T2;have hgy:=hvo.yes rfl;obtain⟨k1,k2,k3⟩:=hgy.2.facts;obtain⟨l1,l2,l3⟩:=(HB1M.touch T2 HN).facts;clear hgy hvo T2))
  go_ret
  refine⟨.mk true ⟨λ_=>HIFF.1 (by simp),λ_=>rfl⟩,HTT.trans HT2 λi hi e=>?_⟩
  have h1:=HG.out
  have h2:=HY.out
  omega
end
end Go.Proofs.YthockgmbooefpaaGreatDoor
