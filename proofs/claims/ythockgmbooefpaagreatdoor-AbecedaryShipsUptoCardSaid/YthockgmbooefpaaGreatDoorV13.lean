/- What the law rests on, part 13. No condition but those that each theorem names. -/
import Derived.Test.YthockgmbooefpaaGreatDoorV00
import Derived.Lib.Strings
import Derived.Lib.Slices
import Derived.Lib.Walk
import Derived.BigRegion
import Derived.Deep.CutRange
set_option linter.unusedSectionVars false
set_option linter.unusedSimpArgs false
set_option linter.unusedVariables false
set_option maxRecDepth 100000
set_option maxHeartbeats 2000000
namespace Go.Proofs.YthockgmbooefpaaGreatDoor
open IntWalk renaming i64_in → qQa
open List renaming length_append → qZa, eq_nil_of_length_eq_zero → qXa, pairwise_append → qQb, append_assoc → qZb, getD → qXb, cons_append → qJb, nil_append → qQc, mem_append → qXc, length_take → qJc, drop_eq_getElem_cons → qQd, length_cons → qXd, mem_singleton → qJd, take_succ_eq_append_getElem → qQe, length_eq_one_iff → qXf, set_append_right → qJg, take_append_drop → qZh
open Nat renaming le_refl → qJa, zero_le → qZc, add_sub_cancel → qZe
variable{Bs:List (List aE)}{A B X l:List aE}{bs c k n:Nat}{w:World}{a b x:aE}
open Go.RowKit
theorem Lr(a b:ByteArray)(w:World) :
  Calls Tryz.prog 153 #[.string a,.string b] w λe w'=>e=.returned (.int .i64 (Lib.compareBytes a.data.toList b.data.toList))/\w'=w:=by
 go_in
 go_wp2
 rw[run_callFunc_extern Tryz.func180 (by kernel_rfl) (by kernel_rfl) (by kernel_rfl) (e:=Extern.BytealgCompare.compare) (by kernel_rfl),Lib.run_compareString]
 simp only[Result.andThen]
 rw[Oper.upon_value]
 go_wp2
 go_ret
 exact⟨rfl,rfl⟩
theorem yH(a b:ByteArray)(w:World) :
  Calls Tryz.prog 106 #[.string a,.string b] w λe w'=>e=.returned (.int .i64 (Lib.compareBytes a.data.toList b.data.toList))/\w'=w:=by
 go_in
 go_wp2_with (go_at_call 153;refine (Lr _ _ _).mono ?_;rintro e w' ⟨rfl,rfl⟩)
 go_ret
 exact⟨rfl,rfl⟩
abbrev Lp:Value:=.func (.func 177) #[] #[]
theorem mU(a b:aD)(w:World) :
  Calls Tryz.prog 177 #[a.val,b.val] w λe w'=>(∃ z:Int,e=.returned (.int .i64 z)/\decide (z<0)=jY a b)/\aC (λ_=>False) w w':=by
 obtain⟨aw,an⟩:=a
 obtain⟨bw,bn⟩:=b
 rw[Af,Af]
 go_in
 go_wp2_with (go_at_call 106;refine (yH aw bw _).mono ?_;rintro e w' ⟨rfl,rfl⟩)
 go_ret
 refine⟨⟨_,rfl,?_⟩,((aC.refl _ _).alloc _).alloc _⟩
 rw[yI]
 show Op.bytesLess aw.data.toList bw.data.toList=Op.bytesLess aw.toList bw.toList
 rw[Go.ByteArray.toList_eq,Go.ByteArray.toList_eq]
def Oq(X:List aD)(a b:Nat):Nat->List aD
 | 0=>X
 | k+1=>nU (Oq X a b k) (a+k) (b+k)
theorem Kh(w:World)(A:Option Addr)(n c:Nat)(X:List aD)(h:dO w A n c X)(a b k:Nat)(ha:a+k<=n)(hb:b+k<=n)(F:Value) :
  Calls Tryz.prog 195 #[.slice A n c,.int .i64 a,.int .i64 b,.int .i64 k,F] w λe w'=>e=.returned (.tuple #[])/\dO w' A n c (Oq X a b k)/\aC (λg=>aJ A=some g) w w':=by
 have hn:=dR h
 unfold maxLen at hn
 have HX:=aB h
 have HL:=aB (bN h)
 clear h
 go_in
 go_wp2
 go_loopw [10] (λiv wr=>∃ i:Nat,i<=k/\iv=.int .i64 i/\Hid (dO wr A n c (Oq X a b i))/\Hid (aC (λg=>aJ A=some g) w wr)) (λiv _=>k-(intOf iv).toNat)
 case atStart=>exact⟨0,qZc _,rfl,HX,aB (aC.refl _ _)⟩
 case round =>
  obtain⟨i,hi,rfl,HO,HT⟩:=hrel
  by_cases hik:i<k
  ·obtain⟨Y,hY⟩:=eX (Oq X a b i)
   have HYE:=aB hY
   rw[<-hY] at HO
   have hl:=bN HO
   obtain⟨x,hx0⟩:=eX (a+i)
   obtain⟨y,hy0⟩:=eX (b+i)
   obtain⟨g,rfl,hg,a0,a1,f0,f1⟩:=dU HO.out hl x (by omega)
   obtain⟨g',hA,_,b0,b1,f3,f4⟩:=dU HO.out hl y (by omega)
   injection hA with hA
   injection hA with hA _
   subst hA
   obtain⟨⟨xw,xn⟩,hx⟩:∃ r,r=Y.getD x aD.zero:=⟨_,rfl⟩
   obtain⟨⟨yw,yn⟩,hy⟩:∃ r,r=Y.getD y aD.zero:=⟨_,rfl⟩
   rw[<-hx] at a0 a1
   rw[<-hy] at b0 b1
   simp only at a0 a1 b0 b1
   have EX:=aB hx
   have EY:=aB hy
   have EX0:=aB hx0
   have EY0:=aB hy0
   have i0:(i:Int)<(k:Int):=by omega
   have i1:x<n:=by omega
   have i2:y<n:=by omega
   have i3:(a:Int)+(i:Int)=(x:Int):=by omega
   have i4:(b:Int)+(i:Int)=(y:Int):=by omega
   have i5:(x:Int)<(n:Int):=by omega
   have i6:(y:Int)<(n:Int):=by omega
   have i7:IntKind.i64.wrap (x:Int)=(x:Int):=qQa _ (by omega)
   have i8:IntKind.i64.wrap (y:Int)=(y:Int):=qQa _ (by omega)
   obtain⟨v0,s0⟩:=cell?_setCell_some (p:=⟨g,x*2,none⟩) (x:=.string yw) b0
   obtain⟨v1,s1⟩:=cell?_setCell_some (p:=⟨g,x*2,none⟩) (x:=.string yw) b1
   obtain⟨v1,s1⟩:=cell?_setCell_some (p:=⟨g,x*2+1,none⟩) (x:=.int .i64 yn) s1
   clear hx hy hY hl hx0 hy0
   go_wp2
   go_region
   all_goals go_wp2
   go_roundw
   ·have HS:=iU (iU HO x ⟨yw,yn⟩) y ⟨xw,xn⟩
    have e:nU Y x y=(Y.set x ⟨yw,yn⟩).set y ⟨xw,xn⟩:=by unfold nU;rw[<-EX.out,<-EY.out]
    rw[<-e] at HS
    have e2:Oq X a b (i+1)=nU Y x y:=by rw[Oq,<-HYE.out,<-EX0.out,<-EY0.out]
    rw[<-e2] at HS
    refine⟨i+1,by omega,by simp,aB (aF (S:=λ_=>False) HS (aC.refl _ _).drew (λ_ _ f=>f)),aB ?_⟩
    refine aC.drew ?_
    iterate 4 refine aC.setCell ?_ (λ_=>(rfl:aJ (some ⟨g,0,none⟩)=some g)) _
    exact HT
   ·show k-(intOf (.int .i64 ((i:Int)+1))).toNat<k-(intOf (.int .i64 (i:Int))).toNat
    simp[intOf]
    omega
  ·have hk':i=k:=by omega
   subst hk'
   go_wp2
   go_end0
   exact⟨rfl,HO,HT⟩
theorem aGd:(Tryz.prog.info? 43).map (λi=>(i.zero,i.size,i.bytes))=some (some (.agg #[.string ByteArray.empty,.int .i64 0,.int .i64 0]),3,32):=by kernel_rfl
def aJf(r:aE):Value:=.agg #[.string r.word,.int .i64 r.weight,.int .i64 r.dist]
theorem Um(w:ByteArray)(n d:Int):aJf ⟨w,n,d⟩=.agg #[.string w,.int .i64 n,.int .i64 d]:=rfl
theorem My(r:aE):(aE.cells r).length=3:=rfl
theorem Xu(X:List aE):(aW X).length=X.length*3:=oC aE.cells 3 My X
theorem oJ(X:List aE)(k:Nat)(hk:k<X.length)(j:Nat)(hj:j<3):(aW X)[k*3+j]? = (X.getD k aE.zero).cells[j]? := by
 have e:X.getD k aE.zero=X[k]:=by simp[qXb,hk]
 rw[e]
 exact pB aE.cells 3 My X k j hk hj
abbrev fW(w:World)(A:Option Addr)(n c:Nat)(X:List aE):Prop:=w.ownsRow 0 43 3 (.slice A n c) n (aW X)
theorem fV{A:Option Addr}(h:fW w A n c X)(hn:n=X.length)(k:Nat)(hk:k<n) :
  ∃ g,A=some ⟨g,0,none⟩/\g<w.heap.size/\w.cell? ⟨g,k*3,none⟩=some (.string (X.getD k aE.zero).word)/\w.cell? ⟨g,k*3+1,none⟩=some (.int .i64 (X.getD k aE.zero).weight) /\
   w.cell? ⟨g,k*3+2,none⟩=some (.int .i64 (X.getD k aE.zero).dist)/\w.frozen? ⟨g,k*3,none⟩=false/\w.frozen? ⟨g,k*3+1,none⟩=false/\w.frozen? ⟨g,k*3+2,none⟩=false:=by
 subst hn
 obtain⟨g,cap,hv,_,_,hg,hc,hf⟩:=eZ h (by omega)
 injection hv with hA' _ _
 exact⟨g,hA',hg,hc (k*3) _ (oJ X k hk 0 (by omega)),hc (k*3+1) _ (oJ X k hk 1 (by omega)),hc (k*3+2) _ (oJ X k hk 2 (by omega)),hf _,hf _,hf _⟩
theorem cT{A:Option Addr}(h:fW w A n c X):n=X.length:=by
 have:=h.1
 rw[Xu] at this
 omega
theorem aKu(X:List aE)(k:Nat)(r:aE):(((aW X).set (k*3) (.string r.word)).set (k*3+1) (.int .i64 r.weight)).set (k*3+2) (.int .i64 r.dist)=aW (X.set k r):=by
 induction X generalizing k with
 | nil=>simp[aW]
 | cons x X ih =>
  cases k with
  | zero=>simp[aW,aE.cells]
  | succ k =>
   have:=ih k
   simp only[aW,List.flatMap_cons,List.set_cons_succ] at this ⊢
   rw[<-this]
   simp only[aE.cells,qJb,qQc,Nat.succ_mul]
   rw[show k*3+3=(k*3)+1+1+1 by omega,show k*3+1+1+1+1=(k*3+1)+1+1+1 by omega,show k*3+1+1+1+2=(k*3+2)+1+1+1 by omega]
   simp only[List.set_cons_succ]
theorem jT{g:Nat}(h:fW w (some ⟨g,0,none⟩) n c X)(k:Nat)(r:aE) :
  fW (((w.setCell ⟨g,k*3,none⟩ (.string r.word)).setCell ⟨g,k*3+1,none⟩ (.int .i64 r.weight)).setCell ⟨g,k*3+2,none⟩ (.int .i64 r.dist)) (some ⟨g,0,none⟩) n c (X.set k r):=by
 unfold fW
 rw[<-aKu]
 exact dS (dS (dS h _ _) _ _) _ _
def eE(a b:aE):Bool:=Op.bytesLess a.word.toList b.word.toList
def gH(a b:aE):Prop:=eE b a=false
theorem tD(a:aE):gH a a:=iL _
theorem gE(h:eE a b=true):gH a b:=by
 unfold gH
 cases hb:eE b a with
 | false=>rfl
 | true =>
  have:=kC _ _ _ h hb
  rw[iL] at this
  cases this
theorem Xj{c:aE}(h:gH a b)(k:eE b c=true):eE a c=true:=by
 by_cases e:a.word.toList=b.word.toList
 ·unfold eE at k ⊢
  rw[e]
  exact k
 ·rcases lS _ _ e with x | x
  ·exact kC _ _ _ x k
  ·have h':eE b a=false:=h
   unfold eE at h'
   rw[x] at h'
   cases h'
theorem wY{c:aE}(h:eE a b=true)(k:gH b c):eE a c=true:=by
 by_cases e:b.word.toList=c.word.toList
 ·unfold eE at h ⊢
  rw[<-e]
  exact h
 ·rcases lS _ _ e with x | x
  ·exact kC _ _ _ h x
  ·have k':eE c b=false:=k
   unfold eE at k'
   rw[x] at k'
   cases k'
theorem iE{c:aE}(h:gH a b)(k:gH b c):gH a c:=by
 unfold gH
 cases hb:eE c a with
 | false=>rfl
 | true =>
  have h1:=wY hb h
  rw[show eE c b=false from k] at h1
  cases h1
theorem uU(h:eE a b=true):a.word.toList≠b.word.toList:=by
 intro e
 unfold eE at h
 rw[e,iL] at h
 cases h
theorem Mr(h:a.word.toList≠b.word.toList):eE a b=true\/eE b a=true:=lS _ _ h
def bI(l:List aE):Prop:=l.Pairwise gH
def kH(k:List UInt8)(l:List aE):List aE:=l.filter (λp=>decide (p.word.toList=k))
def aU(A B:List aE):Prop:=∀ k,kH k A=kH k B
theorem oG(k:List UInt8)(A B:List aE):kH k (A++B)=kH k A++kH k B:=by simp[kH]
theorem aU.refl(A:List aE):aU A A:=λ_=>rfl
theorem aU.trans{C:List aE}(h:aU A B)(k:aU B C):aU A C:=λx=>(h x).trans (k x)
theorem aU.symm(h:aU A B):aU B A:=λx=>(h x).symm
theorem aU.app{C D:List aE}(h:aU A B)(k:aU C D):aU (A++C) (B++D):=λx=>by rw[oG,oG,h x,k x]
theorem aU.mem(h:aU A B)(hx:x∈A):x∈B:=by
 have h1:x∈kH x.word.toList A:=by simp[kH,hx]
 rw[h] at h1
 exact (List.mem_filter.1 h1).1
theorem aU.swap(h:∀ a∈A,∀ b∈B,a.word.toList≠b.word.toList):aU (A++B) (B++A):=by
 intro k
 rw[oG,oG]
 by_cases hA:kH k A=[]
 ·rw[hA];simp
 ·obtain⟨a,ha⟩:=List.exists_mem_of_ne_nil _ hA
  have ha':=List.mem_filter.1 ha
  have hB:kH k B=[]:=by
   unfold kH
   rw[List.filter_eq_nil_iff]
   intro b hb hk
   exact h a ha'.1 b hb ((of_decide_eq_true ha'.2).trans (of_decide_eq_true hk).symm)
  rw[hB];simp
theorem oH(hA:bI A)(hB:bI B)(h:∀ a∈A,∀ b∈B,gH a b):bI (A++B):=List.pairwise_append.2 ⟨hA,hB,h⟩
theorem Fa{L1 L2 R1 R2 Z1 Z2:List aE}(hL:bI (L1++L2))(hR:bI (R1++R2))(h1:∀ x∈L1,∀ y∈R2,gH x y)(h2:∀ x∈R1,∀ y∈L2,eE x y=true)
  (s1:bI Z1)(k1:aU (L1++R1) Z1)(s2:bI Z2)(k2:aU (L2++R2) Z2):bI (Z1++Z2)/\aU ((L1++L2)++(R1++R2)) (Z1++Z2):=by
 refine⟨oH s1 s2 λa ha b hb=>?_,?_⟩
 ·have ha':=List.mem_append.1 (k1.symm.mem ha)
  have hb':=List.mem_append.1 (k2.symm.mem hb)
  rcases ha' with ha' | ha'<;>rcases hb' with hb' | hb'
  ·exact (List.pairwise_append.1 hL).2.2 a ha' b hb'
  ·exact h1 a ha' b hb'
  ·exact gE (h2 a ha' b hb')
  ·exact (List.pairwise_append.1 hR).2.2 a ha' b hb'
 ·have e1:aU (L2++R1) (R1++L2):=aU.swap λa ha b hb e=>uU (h2 b hb a ha) e.symm
  have e2:(L1++L2)++(R1++R2)=L1++((L2++R1)++R2):=by simp
  have e3:aU (L1++((L2++R1)++R2)) ((L1++R1)++(L2++R2)):=by
   have:=(aU.refl L1).app (e1.app (aU.refl R2))
   refine this.trans ?_
   simp only[qZb]
   exact aU.refl _
  rw[e2]
  exact e3.trans (k1.app k2)
theorem Cp(h:bI l)(k:Nat):bI (l.take k):=h.sublist (List.take_sublist _ _)
theorem Co(h:bI l)(k:Nat):bI (l.drop k):=h.sublist (List.drop_sublist _ _)
theorem mE(h:bI l){i j:Nat}(hij:i<=j)(hj:j<l.length):gH (l.getD i aE.zero) (l.getD j aE.zero):=by
 have e1:l.getD i aE.zero=l[i]'(by omega):=by simp[qXb,show i<l.length by omega]
 have e2:l.getD j aE.zero=l[j]:=by simp[qXb,hj]
 by_cases h0:i=j
 ·subst h0;exact tD _
 ·rw[e1,e2]
  exact List.pairwise_iff_getElem.1 h i j (by omega) hj (by omega)
theorem nQ(h:x∈l.take k):∃ i,i<k/\i<l.length/\l.getD i aE.zero=x:=by
 obtain⟨i,hi,e⟩:=List.mem_iff_getElem.1 h
 rw[qJc] at hi
 refine⟨i,by omega,by omega,?_⟩
 rw[<-e]
 simp[qXb,show i<l.length by omega]
theorem kP(h:x∈l.drop k):∃ i,k<=i/\i<l.length/\l.getD i aE.zero=x:=by
 obtain⟨i,hi,e⟩:=List.mem_iff_getElem.1 h
 rw[List.length_drop] at hi
 refine⟨k+i,by omega,by omega,?_⟩
 rw[<-e]
 simp[qXb,show k+i<l.length by omega]
theorem yM{L R:List aE}(hL:bI L)(hR:bI R)(s e:Nat)(hs:s<=L.length)(he:e<=R.length)
  (hA:s=0\/e=R.length\/gH (L.getD (s-1) aE.zero) (R.getD e aE.zero))(hB:s=L.length\/e=0\/eE (R.getD (e-1) aE.zero) (L.getD s aE.zero)=true) :
  (∀ x∈L.take s,∀ y∈R.drop e,gH x y)/\(∀ x∈R.take e,∀ y∈L.drop s,eE x y=true):=by
 constructor
 ·intro x hx y hy
  obtain⟨i,i1,i2,rfl⟩:=nQ hx
  obtain⟨j,j1,j2,rfl⟩:=kP hy
  rcases hA with h | h | h
  ·omega
  ·omega
  ·exact iE (mE hL (by omega) (by omega)) (iE h (mE hR j1 j2))
 ·intro x hx y hy
  obtain⟨i,i1,i2,rfl⟩:=nQ hx
  obtain⟨j,j1,j2,rfl⟩:=kP hy
  rcases hB with h | h | h
  ·omega
  ·omega
  ·exact wY (Xj (mE hR (by omega) (by omega)) h) (mE hL j1 j2)
def fQ(X:List aE)(i j:Nat):List aE:=(X.set i (X.getD j aE.zero)).set j (X.getD i aE.zero)
theorem Rf(X:List aE)(i j:Nat):(fQ X i j).length=X.length:=by simp[fQ]
abbrev qR:Value:=.func (.func 105) #[] #[]
theorem jR(a b:aE)(w:World) :
  Calls Tryz.prog 105 #[(aJf a),(aJf b)] w λe w'=>(∃ z:Int,e=.returned (.int .i64 z)/\decide (z<0)=eE a b)/\aC (λ_=>False) w w':=by
 obtain⟨aw,an,ad⟩:=a
 obtain⟨bw,bn,bd⟩:=b
 rw[Um,Um]
 go_in
 go_wp2_with (go_at_call 106;refine (yH aw bw _).mono ?_;rintro e w' ⟨rfl,rfl⟩)
 go_ret
 refine⟨⟨_,rfl,?_⟩,((aC.refl _ _).alloc _).alloc _⟩
 rw[yI]
 show Op.bytesLess aw.data.toList bw.data.toList=Op.bytesLess aw.toList bw.toList
 rw[Go.ByteArray.toList_eq,Go.ByteArray.toList_eq]
def qS(X:List aE)(a b:Nat):Nat->List aE
 | 0=>X
 | k+1=>fQ (qS X a b k) (a+k) (b+k)
theorem xC(w:World)(A:Option Addr)(n c:Nat)(X:List aE)(h:fW w A n c X)(a b k:Nat)(ha:a+k<=n)(hb:b+k<=n)(F:Value) :
  Calls Tryz.prog 193 #[.slice A n c,.int .i64 a,.int .i64 b,.int .i64 k,F] w λe w'=>e=.returned (.tuple #[])/\fW w' A n c (qS X a b k)/\aC (λg=>aJ A=some g) w w':=by
 have hn:=dR h
 unfold maxLen at hn
 have HX:=aB h
 have HL:=aB (cT h)
 clear h
 go_in
 go_wp2
 go_loopw [10] (λiv wr=>∃ i:Nat,i<=k/\iv=.int .i64 i/\Hid (fW wr A n c (qS X a b i))/\Hid (aC (λg=>aJ A=some g) w wr)) (λiv _=>k-(intOf iv).toNat)
 case atStart=>exact⟨0,qZc _,rfl,HX,aB (aC.refl _ _)⟩
 case round =>
  obtain⟨i,hi,rfl,HO,HT⟩:=hrel
  by_cases hik:i<k
  ·obtain⟨Y,hY⟩:=eX (qS X a b i)
   have HYE:=aB hY
   rw[<-hY] at HO
   have hl:=cT HO
   obtain⟨x,hx0⟩:=eX (a+i)
   obtain⟨y,hy0⟩:=eX (b+i)
   obtain⟨g,rfl,hg,a0,a1,a2,f0,f1,f2⟩:=fV HO.out hl x (by omega)
   obtain⟨g',hA,_,b0,b1,b2,f3,f4,f5⟩:=fV HO.out hl y (by omega)
   injection hA with hA
   injection hA with hA _
   subst hA
   obtain⟨⟨xw,xn,xd⟩,hx⟩:∃ r,r=Y.getD x aE.zero:=⟨_,rfl⟩
   obtain⟨⟨yw,yn,yd⟩,hy⟩:∃ r,r=Y.getD y aE.zero:=⟨_,rfl⟩
   rw[<-hx] at a0 a1 a2
   rw[<-hy] at b0 b1 b2
   simp only at a0 a1 a2 b0 b1 b2
   have EX:=aB hx
   have EY:=aB hy
   have EX0:=aB hx0
   have EY0:=aB hy0
   have i0:(i:Int)<(k:Int):=by omega
   have i1:x<n:=by omega
   have i2:y<n:=by omega
   have i3:(a:Int)+(i:Int)=(x:Int):=by omega
   have i4:(b:Int)+(i:Int)=(y:Int):=by omega
   have i5:(x:Int)<(n:Int):=by omega
   have i6:(y:Int)<(n:Int):=by omega
   have i7:IntKind.i64.wrap (x:Int)=(x:Int):=qQa _ (by omega)
   have i8:IntKind.i64.wrap (y:Int)=(y:Int):=qQa _ (by omega)
   obtain⟨v0,s0⟩:=cell?_setCell_some (p:=⟨g,x*3,none⟩) (x:=.string yw) b0
   obtain⟨v1,s1⟩:=cell?_setCell_some (p:=⟨g,x*3,none⟩) (x:=.string yw) b1
   obtain⟨v1,s1⟩:=cell?_setCell_some (p:=⟨g,x*3+1,none⟩) (x:=.int .i64 yn) s1
   obtain⟨v2,s2⟩:=cell?_setCell_some (p:=⟨g,x*3,none⟩) (x:=.string yw) b2
   obtain⟨v2,s2⟩:=cell?_setCell_some (p:=⟨g,x*3+1,none⟩) (x:=.int .i64 yn) s2
   obtain⟨v2,s2⟩:=cell?_setCell_some (p:=⟨g,x*3+2,none⟩) (x:=.int .i64 yd) s2
   clear hx hy hY hl hx0 hy0
   go_wp2
   go_region
   all_goals go_wp2
   go_roundw
   ·have HS:=jT (jT HO x ⟨yw,yn,yd⟩) y ⟨xw,xn,xd⟩
    have e:fQ Y x y=(Y.set x ⟨yw,yn,yd⟩).set y ⟨xw,xn,xd⟩:=by unfold fQ;rw[<-EX.out,<-EY.out]
    rw[<-e] at HS
    have e2:qS X a b (i+1)=fQ Y x y:=by rw[qS,<-HYE.out,<-EX0.out,<-EY0.out]
    rw[<-e2] at HS
    refine⟨i+1,by omega,by simp,aB (aF (S:=λ_=>False) HS (aC.refl _ _).drew (λ_ _ f=>f)),aB ?_⟩
    refine aC.drew ?_
    iterate 6 refine aC.setCell ?_ (λ_=>(rfl:aJ (some ⟨g,0,none⟩)=some g)) _
    exact HT
   ·show k-(intOf (.int .i64 ((i:Int)+1))).toNat<k-(intOf (.int .i64 (i:Int))).toNat
    simp[intOf]
    omega
  ·have hk':i=k:=by omega
   subst hk'
   go_wp2
   go_end0
   exact⟨rfl,HO,HT⟩
theorem jJ(S W:List aE)(x:aE):(S++(x :: W)).getD S.length aE.zero=x:=by
 simp[qXb]
theorem wZ(S W:List aE)(x y:aE):(S++(x :: W)).set S.length y=S++(y :: W):=by
 rw[qJg _ _ (qJa _),Nat.sub_self,List.set_cons_zero]
theorem uV(S T W:List aE)(u v:aE)(i j:Nat)(hi:i=S.length)(hj:j=S.length+1+T.length):fQ (S++(u :: (T++(v :: W)))) i j=S++(v :: (T++(u :: W))):=by
 subst hi
 have e1:S++(u :: (T++(v :: W)))=(S++(u :: T))++(v :: W):=by simp
 have l1:(S++(u :: T)).length=j:=by simp;omega
 have g2:(S++(u :: (T++(v :: W)))).getD j aE.zero=v:=by rw[e1,<-l1,jJ]
 unfold fQ
 rw[g2,jJ,wZ]
 have e2:S++(v :: (T++(v :: W)))=(S++(v :: T))++(v :: W):=by simp
 have l2:(S++(v :: T)).length=j:=by simp;omega
 rw[e2,<-l2,wZ]
 simp
theorem xB(h:l.length=k+1):∃ l' x,l=l'++[x]/\l'.length=k:=by
 have hne:l≠[]:=by intro e;rw[e] at h;simp at h
 refine⟨l.dropLast,l.getLast hne,(List.dropLast_concat_getLast hne).symm,?_⟩
 rw[List.length_dropLast];omega
theorem qT(k:Nat):∀ (P U M V Q:List aE) (a b:Nat),a=P.length->U.length=k->V.length=k->b=P.length+k+M.length ->
  qS (P++(U++(M++(V++Q)))) a b k=P++(V++(M++(U++Q))):=by
 induction k with
 | zero =>
  intro P U M V Q a b ha hU hV hb
  have hU':=qXa hU
  have hV':=qXa hV
  subst hU' hV'
  rfl
 | succ k ih =>
  intro P U M V Q a b ha hU hV hb
  obtain⟨U',u,rfl,hU'⟩:=xB hU
  obtain⟨V',v,rfl,hV'⟩:=xB hV
  have:=ih P U' (u :: M) V' (v :: Q) a b ha hU' hV' (by rw[hb];simp;omega)
  have e:P++((U'++[u])++(M++((V'++[v])++Q)))=P++(U'++((u :: M)++(V'++(v :: Q)))):=by simp
  rw[e,qS,this]
  have e2:P++(V'++((u :: M)++(U'++(v :: Q))))=(P++V')++(u :: ((M++U')++(v :: Q))):=by simp
  rw[e2,uV (P++V') (M++U') Q u v (a+k) (b+k) (by simp;omega) (by simp;omega)]
  simp
def pS(X:List aE)(a:Nat):Nat->List aE
 | 0=>X
 | d+1=>if eE (X.getD (a+d+1) aE.zero) (X.getD (a+d) aE.zero)=true then pS (fQ X (a+d+1) (a+d)) a d else X
def jK(X:List aE)(a:Nat):Nat->List aE
 | 0=>X
 | c+1=>pS (jK X a c) a (c+1)
theorem mY(S W:List aE)(u v:aE)(i j:Nat)(hi:i=S.length+1)(hj:j=S.length):fQ (S++(u :: v :: W)) i j=S++(v :: u :: W):=by
 subst hi hj
 unfold fQ
 have g1:(S++(u :: v :: W)).getD (S.length+1) aE.zero=v:=by
  simp[qXb]
 have s1:∀ y,(S++(u :: v :: W)).set (S.length+1) y=S++(u :: y :: W):=by
  intro y
  rw[qJg _ _ (Nat.le_succ _)]
  simp
 rw[g1,jJ,s1,wZ]
theorem Xi(d:Nat):∀ (X:List aE) (a:Nat),(pS X a d).length=X.length:=by
 induction d with
 | zero=>intro X a;rfl
 | succ d ih =>
  intro X a
  unfold pS
  split
  ·rw[ih,Rf]
  ·rfl
theorem tC(X:List aE)(a c:Nat):(jK X a c).length=X.length:=by
 induction c with
 | zero=>rfl
 | succ c ih=>rw[jK,Xi,ih]
theorem Mp(d:Nat):∀ (P Y Q:List aE) (x:aE) (a:Nat),a=P.length->Y.length=d->bI Y->∃ Z,pS (P++(Y++(x :: Q))) a d=P++(Z++Q)/\bI Z/\aU (Y++[x]) Z:=by
 induction d with
 | zero =>
  intro P Y Q x a ha hY hs
  have:=qXa hY
  subst this
  exact⟨[x],by simp[pS],by simp[bI],aU.refl _⟩
 | succ d ih =>
  intro P Y Q x a ha hY hs
  obtain⟨Y',y,rfl,hY'⟩:=xB hY
  have e:P++((Y'++[y])++(x :: Q))=(P++Y')++(y :: x :: Q):=by simp
  have g0:(P++((Y'++[y])++(x :: Q))).getD (a+d) aE.zero=y:=by
   have l:(P++Y').length=a+d:=by simp;omega
   rw[e,<-l,jJ]
  have g1:(P++((Y'++[y])++(x :: Q))).getD (a+d+1) aE.zero=x:=by
   have l:(P++Y'++[y]).length=a+d+1:=by simp;omega
   have e':(P++Y')++(y :: x :: Q)=(P++Y'++[y])++(x :: Q):=by simp
   rw[e,e',<-l,jJ]
  have hs1:=List.pairwise_append.1 hs
  unfold pS
  rw[g0,g1]
  by_cases hb:eE x y=true
  ·rw[if_pos hb,e,mY (P++Y') Q y x (a+d+1) (a+d) (by simp;omega) (by simp;omega)]
   obtain⟨Z,h1,h2,h3⟩:=ih P Y' (y :: Q) x a ha hY' hs1.1
   have e2:(P++Y')++(x :: y :: Q)=P++(Y'++(x :: (y :: Q))):=by simp
   refine⟨Z++[y],by rw[e2,h1];simp,oH h2 (by simp[bI]) ?_,?_⟩
   ·intro z hz w hw
    simp at hw
    subst hw
    rcases List.mem_append.1 (h3.symm.mem hz) with hz' | hz'
    ·exact hs1.2.2 z hz' _ (by simp)
    ·simp at hz'
     subst hz'
     exact gE hb
   ·have k1:aU ([y]++[x]) ([x]++[y]):=aU.swap (by
     intro p hp q hq heq
     simp at hp hq
     subst hp hq
     exact uU hb heq.symm)
    have k2:=(aU.refl Y').app k1
    have k3:=h3.app (aU.refl [y])
    have e3:Y'++[y]++[x]=Y'++([y]++[x]):=by simp
    have e4:Y'++([x]++[y])=Y'++[x]++[y]:=by simp
    rw[e3]
    exact k2.trans (by rw[e4];exact k3)
  ·rw[if_neg hb]
   have hb':gH y x:=by simpa [gH] using hb
   refine⟨Y'++[y]++[x],by simp,oH hs (by simp[bI]) ?_,aU.refl _⟩
   intro z hz w hw
   simp at hw
   subst hw
   rcases List.mem_append.1 hz with hz | hz
   ·exact iE (hs1.2.2 z hz y (by simp)) hb'
   ·simp at hz
    subst hz
    exact hb'
theorem Mq(c:Nat):∀ (P Y Q:List aE) (a:Nat),a=P.length->c<Y.length->∃ Z,jK (P++(Y++Q)) a c=P++(Z++(Y.drop (c+1)++Q))/\bI Z/\aU (Y.take (c+1)) Z:=by
 induction c with
 | zero =>
  intro P Y Q a ha hc
  cases Y with
  | nil=>simp at hc
  | cons y Y=>exact⟨[y],by simp[jK],by simp[bI],by simpa using aU.refl _⟩
 | succ c ih =>
  intro P Y Q a ha hc
  obtain⟨Z,h1,h2,h3⟩:=ih P Y Q a ha (by omega)
  have hZ:Z.length=c+1:=by
   have l1:=congrArg List.length h1
   rw[tC] at l1
   simp at l1
   omega
  have e:Y.drop (c+1)=Y[c+1] :: Y.drop (c+1+1):=qQd hc
  rw[e] at h1
  obtain⟨Z',k1,k2,k3⟩:=Mp (c+1) P Z (Y.drop (c+1+1)++Q) (Y[c+1]) a ha hZ h2
  refine⟨Z',?_,k2,?_⟩
  ·rw[jK,h1,qJb]
   exact k1
  ·have e2:Y.take (c+1+1)=Y.take (c+1)++[Y[c+1]]:=qQe hc
   rw[e2]
   exact (h3.app (aU.refl _)).trans k3
theorem yN(P Y Q:List aE)(a b:Nat)(ha:a=P.length)(hb:b=a+Y.length):∃ Z,jK (P++(Y++Q)) a (b-a-1)=P++(Z++Q)/\bI Z/\aU Y Z:=by
 by_cases h0:Y.length=0
 ·have:=qXa h0
  subst this
  have:b-a-1=0:=by simp at hb;omega
  rw[this]
  exact⟨[],by simp[jK],List.Pairwise.nil,aU.refl _⟩
 ·obtain⟨Z,h1,h2,h3⟩:=Mq (b-a-1) P Y Q a ha (by omega)
  have e:b-a-1+1=Y.length:=by omega
  rw[e,List.drop_length,qQc] at h1
  rw[e,List.take_length] at h3
  exact⟨Z,h1,h2,h3⟩
theorem mD(h:k<=l.length):∃ a b,l=a++b/\a.length=k/\b.length=l.length-k :=
 ⟨l.take k,l.drop k,(qZh k l).symm,by rw[qJc];omega,by rw[List.length_drop]⟩
theorem Xk(w:World)(A:Option Addr)(n c:Nat)(P U V Q:List aE)(h:fW w A n c (P++(U++(V++Q))))(a m b:Nat)(ha:a=P.length)(hm:m=a+U.length)(hb:b=m+V.length)(hU:0<U.length)(hV:0<V.length)(F:Value) :
  Calls Tryz.prog 188 #[.slice A n c,.int .i64 a,.int .i64 m,.int .i64 b,F] w λe w'=>e=.returned (.tuple #[])/\fW w' A n c (P++(V++(U++Q)))/\aC (λg=>aJ A=some g) w w':=by
 have hn:=dR h
 unfold maxLen at hn
 have hl:=cT h
 simp only[qZa] at hl
 obtain⟨G,hG⟩:=eX (P++(V++(U++Q)))
 rw[<-hG]
 have HX:=aB h
 have HG:=aB hG
 have HA:=aB ha
 have HM:=aB hm
 have HB:=aB hb
 obtain⟨u,hu⟩:=eX U.length
 obtain⟨v,hv⟩:=eX V.length
 have HU:=aB hu
 have HV:=aB hv
 have x0:(m:Int)-(a:Int)=(u:Int):=by omega
 have x1:(b:Int)-(m:Int)=(v:Int):=by omega
 have x2:IntKind.i64.wrap (u:Int)=(u:Int):=qQa _ (by omega)
 have x3:IntKind.i64.wrap (v:Int)=(v:Int):=qQa _ (by omega)
 have hmn:b<=n:=by omega
 have hmb:m<=b:=by omega
 have hu0:0<u:=by omega
 have hv0:0<v:=by omega
 have hum:u<=m:=by omega
 have hvb:m+v=b:=by omega
 clear h hG ha hm hb hl hu hv hU hV
 go_in
 go_wp2
 go_loopw [10,11] (λiv jv wr=>∃ i j:Nat,iv=.int .i64 i/\jv=.int .i64 j/\0<i/\0<j/\i<=m/\m+j<=b/\Hid (∃ P' U' V' Q',P'.length+i=m/\U'.length=i/\V'.length=j/\fW wr A n c (P'++(U'++(V'++Q')))/\G=P'++(V'++(U'++Q')))/\Hid (aC (λg=>aJ A=some g) w wr)) (λiv jv _=>(intOf iv).toNat+(intOf jv).toNat)
 case atStart=>exact⟨u,v,rfl,rfl,hu0,hv0,hum,by omega,aB ⟨P,U,V,Q,by have:=HA.out;have:=HM.out;have:=HU.out;omega,HU.symm,HV.symm,HX,HG⟩,aB (aC.refl _ _)⟩
 case round =>
  obtain⟨i,j,rfl,rfl,hi0,hj0,him,hjb,HE,HT⟩:=hrel
  obtain⟨P',U',V',Q',e1,e2,e3,O1,e4⟩:=HE.out
  have hl:=cT O1
  simp only[qZa] at hl
  have HO:=aB O1
  have HG1:=aB e4
  clear O1 e4 HE
  obtain⟨d,hd⟩:=eX (m-i)
  have y0:(m:Int)-(i:Int)=(d:Int):=by omega
  have y1:IntKind.i64.wrap (d:Int)=(d:Int):=qQa _ (by omega)
  rcases Nat.lt_trichotomy i j with hij | hij | hij
  ·obtain⟨V1,V2,rfl,f1,f2⟩:=mD (l:=V') (k:=j-i) (by omega)
   obtain⟨z,hz⟩:=eX (m+j-i)
   have y2:(m:Int)+(j:Int)-(i:Int)=(z:Int):=by omega
   have y3:IntKind.i64.wrap (z:Int)=(z:Int):=qQa _ (by omega)
   have y4:IntKind.i64.wrap ((m:Int)+(j:Int))=(m:Int)+(j:Int):=qQa _ (by omega)
   obtain⟨r,hr⟩:=eX (j-i)
   have y5:(j:Int)-(i:Int)=(r:Int):=by omega
   have y6:IntKind.i64.wrap (r:Int)=(r:Int):=qQa _ (by omega)
   have y7:¬ i=j:=by omega
   have y8:¬ (j:Int)<(i:Int):=by omega
   have hsw:=qT i P' U' V1 V2 Q' d z (by omega) e2 (by rw[f2,e3];omega) (by omega)
   have HSW:=aB hsw
   have h1:d+i<=n:=by omega
   have h2:z+i<=n:=by omega
   have HH:=aB (And.intro e1 (And.intro e2 (And.intro e3 (And.intro f1 (And.intro f2 hr)))))
   clear hsw hl hd hz e1 e2 e3 f1 f2 hr
   go_wp2_with (go_at_call 193;refine (xC wr A n c _ HO d z i h1 h2 _).mono ?_;rintro e w2 ⟨rfl,O2,T2⟩;have HO2:=aB O2;have HT2:=aB (HT.then T2);clear O2 T2)
   go_roundw
   ·obtain⟨e1,e2,e3,f1,f2,hr⟩:=HH.out
    have O3:=HO2.out
    rw[show P'++(U'++((V1++V2)++Q'))=P'++(U'++(V1++(V2++Q'))) by simp,HSW.out] at O3
    refine⟨i,r,rfl,rfl,hi0,by omega,him,by omega,aB ⟨P',V2,V1,U'++Q',e1,by rw[f2,e3];omega,by omega,O3,?_⟩,HT2⟩
    rw[HG1.out];simp
   ·simp[intOf]
    have:=HH.2.2.2.2.2
    omega
  ·subst hij
   have hsw:=qT i P' U' [] V' Q' d m (by omega) e2 e3 (by simp;omega)
   have HSW:=aB hsw
   have h1:d+i<=n:=by omega
   have h2:m+i<=n:=by omega
   clear hsw hl hd e1 e2 e3
   go_wp2_with (go_at_call 193;refine (xC wr A n c _ HO d m i h1 h2 _).mono ?_;rintro e w2 ⟨rfl,O2,T2⟩;have HO2:=aB O2;have HT2:=aB (HT.then T2);clear O2 T2)
   go_end0
   have O3:=HO2.out
   rw[show P'++(U'++(V'++Q'))=P'++(U'++([]++(V'++Q'))) by simp,HSW.out] at O3
   refine⟨rfl,?_,HT2⟩
   rw[HG1.out]
   exact O3
  ·obtain⟨U1,U2,rfl,f1,f2⟩:=mD (l:=U') (k:=j) (by omega)
   obtain⟨r,hr⟩:=eX (i-j)
   have y5:(i:Int)-(j:Int)=(r:Int):=by omega
   have y6:IntKind.i64.wrap (r:Int)=(r:Int):=qQa _ (by omega)
   have y7:¬ i=j:=by omega
   have y8:(j:Int)<(i:Int):=by omega
   have hsw:=qT j P' U1 U2 V' Q' d m (by omega) f1 e3 (by omega)
   have HSW:=aB hsw
   have h1:d+j<=n:=by omega
   have h2:m+j<=n:=by omega
   have HH:=aB (And.intro e1 (And.intro e2 (And.intro e3 (And.intro f1 (And.intro f2 hr)))))
   clear hsw hl hd e1 e2 e3 f1 f2 hr
   go_wp2_with (go_at_call 193;refine (xC wr A n c _ HO d m j h1 h2 _).mono ?_;rintro e w2 ⟨rfl,O2,T2⟩;have HO2:=aB O2;have HT2:=aB (HT.then T2);clear O2 T2)
   go_roundw
   ·obtain⟨e1,e2,e3,f1,f2,hr⟩:=HH.out
    have O3:=HO2.out
    rw[show P'++((U1++U2)++(V'++Q'))=P'++(U1++(U2++(V'++Q'))) by simp,HSW.out] at O3
    refine⟨r,j,rfl,rfl,by omega,hj0,by omega,hjb,aB ⟨P'++V',U2,U1,Q',by rw[qZa];omega,by rw[f2,e2];omega,f1,by simpa using O3,?_⟩,HT2⟩
    rw[HG1.out];simp
   ·simp[intOf]
    have:=HH.2.2.2.2.2
    omega
theorem yO(w:World)(A:Option Addr)(n c:Nat)(X:List aE)(h:fW w A n c X)(a b:Nat)(hab:a<=b)(hb:b<=n)(hn62:n<=4611686018427387904) :
  Calls Tryz.prog 178 #[.slice A n c,.int .i64 a,.int .i64 b,qR] w λe w'=>e=.returned (.tuple #[])/\fW w' A n c (jK X a (b-a-1))/\aC (λg=>aJ A=some g) w w':=by
 have HX:=aB h
 clear h
 go_in
 go_wp2
 go_loopw [8] (λiv wr=>∃ cn i:Nat,iv=.int .i64 i/\i=a+1+cn/\cn<=b-a-1/\Hid (fW wr A n c (jK X a cn))/\Hid (aC (λg=>aJ A=some g) w wr)) (λiv _=>b-(intOf iv).toNat)
 case atStart=>exact⟨0,a+1,rfl,rfl,qZc _,HX,aB (aC.refl _ _)⟩
 case round =>
  obtain⟨cn,i,rfl,hi,hcn,HO,HT⟩:=hrel
  have HI:=aB hi
  by_cases hib:i<b
  ·have i0:(i:Int)<(b:Int):=by omega
   obtain⟨T,hT⟩:=eX (jK X a (cn+1))
   have HTE:=aB hT
   obtain⟨Y0,hY0⟩:=eX (jK X a cn)
   rw[<-hY0] at HO
   have hbub:pS Y0 a (i-a)=T:=by
    have e:i-a=cn+1:=by omega
    rw[e,hT,hY0,jK]
   have HBU:=aB hbub
   have hai:a<=i:=by omega
   clear hT hY0 hbub hi hcn
   go_wp2
   obtain⟨wo,rfl⟩:∃ wo:World,wo=wr:=⟨_,rfl⟩
   go_loopw [9] (λjv wr=>∃ j:Nat,jv=.int .i64 j/\a<=j/\j<=i/\Hid (∃ Y,fW wr A n c Y/\pS Y a (j-a)=T)/\Hid (aC (λg=>aJ A=some g) w wr)) (λjv _=>(intOf jv).toNat)
   case atStart=>exact⟨i,rfl,hai,qJa _,aB ⟨Y0,HO,HBU⟩,HT⟩
   case round =>
    obtain⟨j,rfl,haj,hji,HE,HT2⟩:=hrel
    obtain⟨Y,OY,hYb⟩:=HE.out
    have HOY:=aB OY
    have HYB:=aB hYb
    have hl:=cT OY
    clear OY hYb HE
    by_cases h0:a<j
    ·obtain⟨d,hd⟩:∃ d,j=a+d+1:=⟨j-a-1,by omega⟩
     obtain⟨q,hq⟩:=eX (j-1)
     obtain⟨g,hA0,hg,a0,a1,a2,f0,f1,f2⟩:=fV HOY.out hl j (by omega)
     subst hA0
     obtain⟨g',hA,_,b0,b1,b2,f3,f4,f5⟩:=fV HOY.out hl q (by omega)
     injection hA with hA
     injection hA with hA _
     subst hA
     obtain⟨⟨xw,xn,xd⟩,hx⟩:∃ r,r=Y.getD j aE.zero:=⟨_,rfl⟩
     obtain⟨⟨yw,yn,yd⟩,hy⟩:∃ r,r=Y.getD q aE.zero:=⟨_,rfl⟩
     have hbu:pS Y a (j-a)=if eE ⟨xw,xn,xd⟩ ⟨yw,yn,yd⟩=true then pS (fQ Y j q) a (q-a) else Y:=by
      have e1:j-a=d+1:=by omega
      have e2:q=a+d:=by omega
      have e3:q-a=d:=by omega
      rw[e1,e3,pS,<-hd,<-e2,hx,hy]
     rw[<-hx] at a0 a1 a2
     rw[<-hy] at b0 b1 b2
     simp only at a0 a1 a2 b0 b1 b2
     have EX:=aB hx
     have EY:=aB hy
     have HBB:=aB hbu
     have y0:(j:Int)-1=(q:Int):=by omega
     have y1:IntKind.i64.wrap (q:Int)=(q:Int):=qQa _ (by omega)
     have y2:IntKind.i64.wrap (j:Int)=(j:Int):=qQa _ (by omega)
     have y3:j<n:=by omega
     have y4:q<n:=by omega
     have y5:(j:Int)<(n:Int):=by omega
     have y6:(q:Int)<(n:Int):=by omega
     have y7:decide (a<j)=true:=by simp[h0]
     have y8:(a:Int)<(j:Int):=by omega
     have y9:a<=q:=by omega
     have y10:q<=i:=by omega
     have HDQ:=aB (And.intro hd hq)
     have HLL:=aB hl
     clear hx hy hbu hd hq hl
     cases hb:eE ⟨xw,xn,xd⟩ ⟨yw,yn,yd⟩ with
     | true =>
      have HPB:=aB hb
      clear hb
      go_wp2_with fail
      go_still_tail 14,(by kernel_rfl)
      change wpList _ _ _ _ _ wr.drew
      have HD:Hid (aC (λ_=>False) wr wr.drew):=aB (aC.refl _ _).drew
      generalize wr.drew=wd at HD ⊢
      go_wp2_with (go_at_call 105;refine (jR ⟨xw,xn,xd⟩ ⟨yw,yn,yd⟩ wd).mono ?_;rw[HPB.out];rintro e w2 ⟨⟨z,rfl,hz⟩,T2⟩;have O2:=aF HOY (HD.then T2) (λ_ _ f=>f);obtain⟨g',hA,_,a0,a1,a2,f0,f1,f2⟩:=fV O2 HLL j y3;injection hA with hA;injection hA with hA _;subst hA;obtain⟨g',hA,_,b0,b1,b2,f3,f4,f5⟩:=fV O2 HLL q y4;injection hA with hA;injection hA with hA _;subst hA;rw[<-EX.out] at a0 a1 a2;rw[<-EY.out] at b0 b1 b2;simp only at a0 a1 a2 b0 b1 b2;obtain⟨v0,s0⟩:=cell?_setCell_some (p:=⟨g,j*3,none⟩) (x:=.string yw) b0;obtain⟨v1,s1⟩:=cell?_setCell_some (p:=⟨g,j*3,none⟩) (x:=.string yw) b1;obtain⟨v1,s1⟩:=cell?_setCell_some (p:=⟨g,j*3+1,none⟩) (x:=.int .i64 yn) s1;obtain⟨v2,s2⟩:=cell?_setCell_some (p:=⟨g,j*3,none⟩) (x:=.string yw) b2;obtain⟨v2,s2⟩:=cell?_setCell_some (p:=⟨g,j*3+1,none⟩) (x:=.int .i64 yn) s2;obtain⟨v2,s2⟩:=cell?_setCell_some (p:=⟨g,j*3+2,none⟩) (x:=.int .i64 yd) s2;have HO2:=aB O2;have HT3:=aB (HT2.then ((HD.then T2).up _));clear O2 T2)
      go_region
      all_goals go_wp2
      go_roundw
      ·have HS:=jT (jT HO2 j ⟨yw,yn,yd⟩) q ⟨xw,xn,xd⟩
       have e:fQ Y j q=(Y.set j ⟨yw,yn,yd⟩).set q ⟨xw,xn,xd⟩:=by unfold fQ;rw[<-EX.out,<-EY.out]
       rw[<-e] at HS
       refine⟨q,rfl,y9,y10,aB ⟨fQ Y j q,aF (S:=λ_=>False) HS (aC.refl _ _).drew (λ_ _ f=>f),?_⟩,aB ?_⟩
       ·rw[<-HYB.out,HBB.out,if_pos HPB.out]
       ·refine aC.drew ?_
        iterate 6 refine aC.setCell ?_ (λ_=>(rfl:aJ (some ⟨g,0,none⟩)=some g)) _
        exact HT3
      ·simp[intOf]
       have:=HDQ.out
       omega
     | false =>
      have HPB:=aB hb
      clear hb
      go_wp2_with fail
      go_still_tail 14,(by kernel_rfl)
      change wpList _ _ _ _ _ wr.drew
      have HD:Hid (aC (λ_=>False) wr wr.drew):=aB (aC.refl _ _).drew
      generalize wr.drew=wd at HD ⊢
      go_wp2_with (go_at_call 105;refine (jR ⟨xw,xn,xd⟩ ⟨yw,yn,yd⟩ wd).mono ?_;rw[HPB.out];rintro e w2 ⟨⟨z,rfl,hz⟩,T2⟩;have HO2:=aB (aF HOY (HD.then T2) (λ_ _ f=>f));have HT3:=aB (HT2.then ((HD.then T2).up _));clear T2)
      go_roundw
      ·have hi:=HI.out
       have e:Y=jK X a (cn+1):=by rw[<-HTE.out,<-HYB.out,HBB.out,if_neg (by rw[HPB.out];decide)]
       exact⟨cn+1,i+1,by simp,by omega,by omega,aB (by rw[<-e];exact HO2),HT3⟩
      ·show b-(intOf (.int .i64 ((i:Int)+1))).toNat<b-(intOf (.int .i64 (i:Int))).toNat
       simp[intOf]
       omega
    ·have hja:j=a:=by omega
     have hYT:Y=T:=by rw[<-HYB.out,hja,Nat.sub_self];rfl
     have HYT:=aB hYT
     have y7:decide (a<j)=false:=by simp;omega
     have y8:¬ (a:Int)<(j:Int):=by omega
     clear hja hYT h0 hl
     go_wp2_with fail
     go_quiet (fail)
     obtain⟨wd,hwd⟩:=eX (wr.drewN nq)
     have hdd:aC (λ_=>False) wr wd:=by rw[hwd];exact (aC.refl _ _).drewN _
     have HD:=aB hdd
     rw[<-hwd]
     clear hwd hdd
     go_wp2
     go_roundw
     ·have hi:=HI.out
      have e:Y=jK X a (cn+1):=by rw[HYT.out,HTE.out]
      exact⟨cn+1,i+1,by simp,by omega,by omega,aB (by rw[<-e];exact aF HOY HD (λ_ _ f=>f)),aB (HT2.then (HD.up _))⟩
     ·show b-(intOf (.int .i64 ((i:Int)+1))).toNat<b-(intOf (.int .i64 (i:Int))).toNat
      simp[intOf]
      omega
  ·have hc:cn=b-a-1:=by omega
   clear hi hcn
   go_wp2
   go_end0
   refine⟨rfl,?_,HT⟩
   rw[<-hc]
   exact HO
theorem iD(S R W:List aE)(i k:Nat)(hi:i=S.length+k)(hk:k<R.length):(S++(R++W)).getD i aE.zero=R.getD k aE.zero:=by
 subst hi
 rw[List.getD_eq_getElem?_getD,List.getElem?_append_right (Nat.le_add_right _ _),Nat.add_sub_cancel_left,List.getElem?_append_left hk]
 rfl
theorem aCm(w:World)(A:Option Addr)(n c:Nat)(P R Q:List aE)(x:aE)(h:fW w A n c (P++(x :: (R++Q))))(a m b:Nat)(ha:a=P.length)(hm:m=a+1)(hb:b=m+R.length)(hR:bI R)(hn62:n<=5864062014700) :
  Calls Tryz.prog 179 #[.slice A n c,.int .i64 a,.int .i64 m,.int .i64 b,qR] w λe w'=>e=.returned (.tuple #[])/\(∃ Z,fW w' A n c (P++(Z++Q))/\bI Z/\aU (x :: R) Z)/\aC (λg=>aJ A=some g) w w':=by
 have hl:=cT h
 simp only[qZa,qXd] at hl
 obtain⟨X,hX⟩:=eX (P++(x :: (R++Q)))
 rw[<-hX] at h
 have hn:=dR h
 unfold maxLen at hn
 have HX:=aB h
 have HE:=aB hX
 have HA:=aB ha
 have HB:=aB hb
 have HR:=aB hR
 have hbn:b<=n:=by omega
 have hmb:m<=b:=by omega
 have hab:a<n:=by omega
 have x0:((m:Int)-(a:Int) == 1)=true:=by simp;omega
 have x1:(m:Int)-(a:Int)=1:=by omega
 have ham:m=a+1:=hm
 have HAM:=aB ham
 clear h hX ha hb hl hR hm ham
 go_in
 go_wp2
 go_loopw [10,11] (λiv jv wr=>∃ i j:Nat,iv=.int .i64 i/\jv=.int .i64 j/\m<=i/\i<=j/\j<=b/\Hid (fW wr A n c X)/\Hid ((i=m\/eE (X.getD (i-1) aE.zero) x=true)/\(j=b\/eE (X.getD j aE.zero) x=false))/\Hid (aC (λ_=>False) w wr)) (λiv jv _=>(intOf jv).toNat-(intOf iv).toNat)
 case atStart=>exact⟨m,b,rfl,rfl,qJa _,hmb,qJa _,HX,aB ⟨.inl rfl,.inl rfl⟩,aB (aC.refl _ _)⟩
 case round =>
  obtain⟨i,j,rfl,rfl,hmi,hij,hjb,HO,HI,HT⟩:=hrel
  by_cases h0:i<j
  ·have y0:(i:Int)<(j:Int):=by omega
   obtain⟨h,hh⟩:=eX ((i+j) / 2)
   have y1:((i:Int)+(j:Int)) / 2=(h:Int):=by omega
   have y2:h<n:=by omega
   have y3:(h:Int)<(n:Int):=by omega
   have y4:(a:Int)<(n:Int):=by omega
   have y5:IntKind.i64.wrap (h:Int)=(h:Int):=qQa _ (by omega)
   have y6:IntKind.i64.wrap (a:Int)=(a:Int):=qQa _ (by omega)
   have y7:i<=h:=by omega
   have y8:h<j:=by omega
   have hl:=cT HO
   obtain⟨g,hA0,hg,a0,a1,a2,f0,f1,f2⟩:=fV HO.out hl h y2
   subst hA0
   obtain⟨g',hA,_,b0,b1,b2,f3,f4,f5⟩:=fV HO.out hl a hab
   injection hA with hA
   injection hA with hA _
   subst hA
   have ex:X.getD a aE.zero=x:=by rw[HE.out,HA.out,jJ]
   rw[ex] at b0 b1 b2
   obtain⟨⟨zw,zn,zd⟩,hz⟩:∃ r,r=X.getD h aE.zero:=⟨_,rfl⟩
   rw[<-hz] at a0 a1 a2
   have EZ:=aB hz
   obtain⟨⟨xw,xn,xd⟩,hx⟩:∃ r,r=x:=⟨_,rfl⟩
   rw[<-hx] at b0 b1 b2
   have EX:=aB hx
   simp only at a0 a1 a2 b0 b1 b2
   clear hl ex hz hx hh
   cases hb:eE ⟨zw,zn,zd⟩ ⟨xw,xn,xd⟩ with
   | true =>
    have HPB:=aB hb
    clear hb
    go_wp2_with fail
    go_still_tail 9,(by kernel_rfl)
    change wpList _ _ _ _ _ wr.drew
    have HD:Hid (aC (λ_=>False) wr wr.drew):=aB (aC.refl _ _).drew
    generalize wr.drew=wd at HD ⊢
    go_wp2_with (go_at_call 105;refine (jR ⟨zw,zn,zd⟩ ⟨xw,xn,xd⟩ wd).mono ?_;rw[HPB.out];rintro e w2 ⟨⟨z,rfl,hz⟩,T2⟩;have HT2:=aB (HT.then (HD.then T2));have HO2:=aB (aF HO (HD.then T2) (λ_ _ f=>f));clear T2)
    go_roundw
    ·refine⟨h+1,j,by simp,rfl,by omega,by omega,hjb,HO2,aB ⟨.inr ?_,HI.2⟩,HT2⟩
     rw[qZe,<-EZ.out,<-EX.out]
     exact HPB
    ·show (j:Int).toNat-((h:Int)+1).toNat<(j:Int).toNat-(i:Int).toNat
     omega
   | false =>
    have HPB:=aB hb
    clear hb
    go_wp2_with fail
    go_still_tail 9,(by kernel_rfl)
    change wpList _ _ _ _ _ wr.drew
    have HD:Hid (aC (λ_=>False) wr wr.drew):=aB (aC.refl _ _).drew
    generalize wr.drew=wd at HD ⊢
    go_wp2_with (go_at_call 105;refine (jR ⟨zw,zn,zd⟩ ⟨xw,xn,xd⟩ wd).mono ?_;rw[HPB.out];rintro e w2 ⟨⟨z,rfl,hz⟩,T2⟩;have HT2:=aB (HT.then (HD.then T2));have HO2:=aB (aF HO (HD.then T2) (λ_ _ f=>f));clear T2)
    go_roundw
    ·refine⟨i,h,rfl,rfl,hmi,y7,by omega,HO2,aB ⟨HI.1,.inr ?_⟩,HT2⟩
     rw[<-EZ.out,<-EX.out]
     exact HPB
    ·show (h:Int).toNat-(i:Int).toNat<(j:Int).toNat-(i:Int).toNat
     omega
  ·have hij':j=i:=by omega
   subst hij'
   obtain⟨t,ht⟩:∃ t,j=m+t:=⟨j-m,by omega⟩
   obtain⟨o,ho⟩:=eX (a+t)
   have z0:(j:Int)-1=(o:Int):=by have:=HAM.out;omega
   have z1:IntKind.i64.wrap (o:Int)=(o:Int):=qQa _ (by omega)
   have z2:a<=o:=by omega
   have z3:o<n:=by have:=HAM.out;omega
   have htR:t<=R.length:=by have:=HB.out;omega
   have HTT:=aB ht
   have HOO:=aB ho
   have HTR:=aB htR
   have HI2:=HI
   clear ht ho htR h0 hij hmi
   go_wp2
   obtain⟨wo,rfl⟩:∃ wo:World,wo=wr:=⟨_,rfl⟩
   go_loopw [13] (λkv wr=>∃ k s:Nat,kv=.int .i64 k/\k<=o/\Hid (k=a+s)/\Hid (fW wr A n c (P++(R.take s++(x :: (R.drop s++Q)))))/\Hid (aC (λg=>aJ A=some g) w wr)) (λkv _=>o-(intOf kv).toNat)
   case atStart =>
    refine⟨a,0,rfl,z2,aB rfl,aB ?_,aB (HT.up _)⟩
    have:=HO.out
    rw[HE.out] at this
    simpa using this
   case round =>
    obtain⟨k,s,rfl,hko,HK,HO2,HT2⟩:=hrel
    by_cases hk:k<o
    ·obtain⟨Y,hY⟩:=eX (P++(R.take s++(x :: (R.drop s++Q))))
     rw[<-hY] at HO2
     have HYE:=aB hY
     have hl:=cT HO2
     obtain⟨k2,hk2⟩:=eX (k+1)
     obtain⟨g,hA0,hg,a0,a1,a2,f0,f1,f2⟩:=fV HO2.out hl k (by omega)
     subst hA0
     obtain⟨g',hA,_,b0,b1,b2,f3,f4,f5⟩:=fV HO2.out hl k2 (by omega)
     injection hA with hA
     injection hA with hA _
     subst hA
     obtain⟨⟨xw,xn,xd⟩,hx⟩:∃ r,r=Y.getD k aE.zero:=⟨_,rfl⟩
     obtain⟨⟨yw,yn,yd⟩,hy⟩:∃ r,r=Y.getD k2 aE.zero:=⟨_,rfl⟩
     rw[<-hx] at a0 a1 a2
     rw[<-hy] at b0 b1 b2
     simp only at a0 a1 a2 b0 b1 b2
     have EX:=aB hx
     have EY:=aB hy
     have HK2:=aB hk2
     have i0:(k:Int)<(o:Int):=by omega
     have i1:(k:Int)+1=(k2:Int):=by omega
     have i2:IntKind.i64.wrap (k:Int)=(k:Int):=qQa _ (by omega)
     have i3:IntKind.i64.wrap (k2:Int)=(k2:Int):=qQa _ (by omega)
     have i4:k<n:=by omega
     have i5:k2<n:=by omega
     have i6:(k:Int)<(n:Int):=by omega
     have i7:(k2:Int)<(n:Int):=by omega
     have i8:k2<=o:=by omega
     obtain⟨v0,s0⟩:=cell?_setCell_some (p:=⟨g,k*3,none⟩) (x:=.string yw) b0
     obtain⟨v1,s1⟩:=cell?_setCell_some (p:=⟨g,k*3,none⟩) (x:=.string yw) b1
     obtain⟨v1,s1⟩:=cell?_setCell_some (p:=⟨g,k*3+1,none⟩) (x:=.int .i64 yn) s1
     obtain⟨v2,s2⟩:=cell?_setCell_some (p:=⟨g,k*3,none⟩) (x:=.string yw) b2
     obtain⟨v2,s2⟩:=cell?_setCell_some (p:=⟨g,k*3+1,none⟩) (x:=.int .i64 yn) s2
     obtain⟨v2,s2⟩:=cell?_setCell_some (p:=⟨g,k*3+2,none⟩) (x:=.int .i64 yd) s2
     clear hx hy hl hk2 hY
     go_wp2
     go_region
     all_goals go_wp2
     go_roundw
     ·have HS:=jT (jT HO2 k ⟨yw,yn,yd⟩) k2 ⟨xw,xn,xd⟩
      have e:fQ Y k k2=(Y.set k ⟨yw,yn,yd⟩).set k2 ⟨xw,xn,xd⟩:=by unfold fQ;rw[<-EX.out,<-EY.out]
      rw[<-e] at HS
      have hs:s<R.length:=by have:=HTR.out;have:=HOO.out;have:=HK.out;omega
      have e2:fQ Y k k2=P++(R.take (s+1)++(x :: (R.drop (s+1)++Q))):=by
       have r1:R.drop s=R[s] :: R.drop (s+1):=qQd hs
       have r2:R.take (s+1)=R.take s++[R[s]]:=qQe hs
       have l1:(P++R.take s).length=k:=by have:=HK.out;have:=HA.out;rw[qZa,qJc];omega
       have e3:Y=(P++R.take s)++(x :: ([]++(R[s] :: (R.drop (s+1)++Q)))):=by rw[HYE.out,r1];simp only[qZb,qJb,qQc]
       rw[e3,uV (P++R.take s) [] (R.drop (s+1)++Q) x R[s] k k2 l1.symm (by rw[l1,HK2.out];rfl),r2]
       simp only[qZb,qJb,qQc]
      rw[e2] at HS
      refine⟨k2,s+1,rfl,i8,aB (by have:=HK.out;have:=HK2.out;omega),aB (aF (S:=λ_=>False) HS (aC.refl _ _).drew (λ_ _ f=>f)),aB ?_⟩
      refine aC.drew ?_
      iterate 6 refine aC.setCell ?_ (λ_=>(rfl:aJ (some ⟨g,0,none⟩)=some g)) _
      exact HT2
     ·simp[intOf]
      have:=HK2.out
      omega
    ·have hk':k=o:=by omega
     subst hk'
     go_wp2
     have hst:s=t:=by have:=HK.out;have:=HOO.out;omega
     subst hst
     obtain⟨i1,i2⟩:=HI.out
     have hm:=HAM.out
     have ht:=HTT.out
     have hA:=HA.out
     have hB:=HB.out
     have eX:X=(P++[x])++(R++Q):=by rw[HE.out];simp
     have hc:=yM (L:=[x]) (R:=R) (by simp[bI]) HR 0 s (qZc _) HTR (.inl rfl) (by
      rcases i1 with e | e
      ·exact .inr (.inl (by omega))
      ·by_cases hs0:s=0
       ·exact .inr (.inl hs0)
       ·refine .inr (.inr ?_)
        rw[eX,iD (P++[x]) R Q (j-1) (s-1) (by simp;omega) (by have:=HTR.out;omega)] at e
        simpa using e)
     have hd:∀ y∈R.drop s,gH x y:=by
      intro y hy
      obtain⟨q,q1,q2,rfl⟩:=kP hy
      rcases i2 with e | e
      ·omega
      ·rw[eX,iD (P++[x]) R Q j s (by simp;omega) (by omega)] at e
       exact iE (show gH x (R.getD s aE.zero) from e) (mE HR.out q1 q2)
     simp only[List.drop_zero,qJd,forall_eq] at hc
     refine bodyPost_ret (v:=.tuple #[]) (by simp[results,Tryz.results179,go_sem]) rfl ⟨rfl,⟨R.take s++(x :: R.drop s),?_,?_,?_⟩,HT2⟩
     ·have:=HO2.out
      simpa using this
     ·refine oH (Cp HR s) (List.pairwise_cons.2 ⟨hd,Co HR s⟩) ?_
      intro p hp r hr
      rcases List.mem_cons.1 hr with rfl | hr
      ·exact gE (hc.2 p hp)
      ·exact iE (gE (hc.2 p hp)) (hd r hr)
     ·have k1:aU ([x]++R.take s) (R.take s++[x]):=aU.swap λp hp r hr he=>by
       simp only[qJd] at hp
       subst hp
       exact uU (hc.2 r hr) he.symm
      have k2:=k1.app (aU.refl (R.drop s))
      simpa using k2
theorem Xl(w:World)(A:Option Addr)(n c:Nat)(P L Q:List aE)(x:aE)(h:fW w A n c (P++(L++(x :: Q))))(a m b:Nat)(ha:a=P.length)(hm:m=a+L.length)(hb:b=m+1)(hL1:L.length≠1)(hL:bI L)(hn62:n<=5864062014700) :
  Calls Tryz.prog 179 #[.slice A n c,.int .i64 a,.int .i64 m,.int .i64 b,qR] w λe w'=>e=.returned (.tuple #[])/\(∃ Z,fW w' A n c (P++(Z++Q))/\bI Z/\aU (L++[x]) Z)/\aC (λg=>aJ A=some g) w w':=by
 have hl:=cT h
 simp only[qZa,qXd] at hl
 obtain⟨X,hX⟩:=eX (P++(L++(x :: Q)))
 rw[<-hX] at h
 have hn:=dR h
 unfold maxLen at hn
 have HX:=aB h
 have HE:=aB hX
 have HA:=aB ha
 have HB:=aB hb
 have HL:=aB hL
 have HM:=aB hm
 have hbn:m<n:=by omega
 have ham:a<=m:=by omega
 have x0:((m:Int)-(a:Int) == 1)=false:=by simp;omega
 have x1:((b:Int)-(m:Int) == 1)=true:=by simp;omega
 have x2:(b:Int)-(m:Int)=1:=by omega
 have x3:b<=n:=by omega
 clear h hX ha hb hl hL hm hL1
 go_in
 go_wp2
 go_loopw [14,15] (λiv jv wr=>∃ i j:Nat,iv=.int .i64 i/\jv=.int .i64 j/\a<=i/\i<=j/\j<=m/\Hid (fW wr A n c X)/\Hid ((i=a\/eE x (X.getD (i-1) aE.zero)=false)/\(j=m\/eE x (X.getD j aE.zero)=true))/\Hid (aC (λ_=>False) w wr)) (λiv jv _=>(intOf jv).toNat-(intOf iv).toNat)
 case atStart=>exact⟨a,m,rfl,rfl,qJa _,ham,qJa _,HX,aB ⟨.inl rfl,.inl rfl⟩,aB (aC.refl _ _)⟩
 case round =>
  obtain⟨i,j,rfl,rfl,hmi,hij,hjb,HO,HI,HT⟩:=hrel
  by_cases h0:i<j
  ·have y0:(i:Int)<(j:Int):=by omega
   obtain⟨h,hh⟩:=eX ((i+j) / 2)
   have y1:((i:Int)+(j:Int)) / 2=(h:Int):=by omega
   have y2:h<n:=by omega
   have y3:(h:Int)<(n:Int):=by omega
   have y4:(m:Int)<(n:Int):=by omega
   have y5:IntKind.i64.wrap (h:Int)=(h:Int):=qQa _ (by omega)
   have y6:IntKind.i64.wrap (m:Int)=(m:Int):=qQa _ (by omega)
   have y7:i<=h:=by omega
   have y8:h<j:=by omega
   have hl:=cT HO
   obtain⟨g,hA0,hg,a0,a1,a2,f0,f1,f2⟩:=fV HO.out hl h y2
   subst hA0
   obtain⟨g',hA,_,b0,b1,b2,f3,f4,f5⟩:=fV HO.out hl m hbn
   injection hA with hA
   injection hA with hA _
   subst hA
   have ex:X.getD m aE.zero=x:=by
    have l1:(P++L).length=m:=by have:=HM.out;have:=HA.out;rw[qZa];omega
    rw[HE.out,<-qZb,<-l1,jJ]
   rw[ex] at b0 b1 b2
   obtain⟨⟨zw,zn,zd⟩,hz⟩:∃ r,r=X.getD h aE.zero:=⟨_,rfl⟩
   rw[<-hz] at a0 a1 a2
   have EZ:=aB hz
   obtain⟨⟨xw,xn,xd⟩,hx⟩:∃ r,r=x:=⟨_,rfl⟩
   rw[<-hx] at b0 b1 b2
   have EX:=aB hx
   simp only at a0 a1 a2 b0 b1 b2
   clear hl ex hz hx hh
   cases hb:eE ⟨xw,xn,xd⟩ ⟨zw,zn,zd⟩ with
   | true =>
    have HPB:=aB hb
    clear hb
    go_wp2_with fail
    go_still_tail 9,(by kernel_rfl)
    change wpList _ _ _ _ _ wr.drew
    have HD:Hid (aC (λ_=>False) wr wr.drew):=aB (aC.refl _ _).drew
    generalize wr.drew=wd at HD ⊢
    go_wp2_with (go_at_call 105;refine (jR ⟨xw,xn,xd⟩ ⟨zw,zn,zd⟩ wd).mono ?_;rw[HPB.out];rintro e w2 ⟨⟨z,rfl,hz⟩,T2⟩;have HT2:=aB (HT.then (HD.then T2));have HO2:=aB (aF HO (HD.then T2) (λ_ _ f=>f));clear T2)
    go_roundw
    ·refine⟨i,h,rfl,rfl,hmi,y7,by omega,HO2,aB ⟨HI.1,.inr ?_⟩,HT2⟩
     rw[<-EZ.out,<-EX.out]
     exact HPB
    ·show (h:Int).toNat-(i:Int).toNat<(j:Int).toNat-(i:Int).toNat
     omega
   | false =>
    have HPB:=aB hb
    clear hb
    go_wp2_with fail
    go_still_tail 9,(by kernel_rfl)
    change wpList _ _ _ _ _ wr.drew
    have HD:Hid (aC (λ_=>False) wr wr.drew):=aB (aC.refl _ _).drew
    generalize wr.drew=wd at HD ⊢
    go_wp2_with (go_at_call 105;refine (jR ⟨xw,xn,xd⟩ ⟨zw,zn,zd⟩ wd).mono ?_;rw[HPB.out];rintro e w2 ⟨⟨z,rfl,hz⟩,T2⟩;have HT2:=aB (HT.then (HD.then T2));have HO2:=aB (aF HO (HD.then T2) (λ_ _ f=>f));clear T2)
    go_roundw
    ·refine⟨h+1,j,by simp,rfl,by omega,by omega,hjb,HO2,aB ⟨.inr ?_,HI.2⟩,HT2⟩
     rw[qZe,<-EZ.out,<-EX.out]
     exact HPB
    ·show (j:Int).toNat-((h:Int)+1).toNat<(j:Int).toNat-(i:Int).toNat
     omega
  ·have hij':j=i:=by omega
   subst hij'
   obtain⟨t,ht⟩:∃ t,j=a+t:=⟨j-a,by omega⟩
   have htL:t<=L.length:=by have:=HM.out;omega
   have HTT:=aB ht
   have HTL:=aB htL
   clear ht htL h0 hij hmi
   go_wp2
   obtain⟨wo,rfl⟩:∃ wo:World,wo=wr:=⟨_,rfl⟩
   go_loopw [17] (λkv wr=>∃ k s:Nat,kv=.int .i64 k/\j<=k/\k<=m/\Hid (k=a+s)/\Hid (fW wr A n c (P++(L.take s++(x :: (L.drop s++Q)))))/\Hid (aC (λg=>aJ A=some g) w wr)) (λkv _=>(intOf kv).toNat)
   case atStart =>
    refine⟨m,L.length,rfl,hjb,qJa _,HM,aB ?_,aB (HT.up _)⟩
    have:=HO.out
    rw[HE.out] at this
    simpa using this
   case round =>
    obtain⟨k,s,rfl,hko,hkm,HK,HO2,HT2⟩:=hrel
    by_cases hk:j<k
    ·obtain⟨Y,hY⟩:=eX (P++(L.take s++(x :: (L.drop s++Q))))
     rw[<-hY] at HO2
     have HYE:=aB hY
     have hl:=cT HO2
     obtain⟨k2,hk2⟩:∃ k2,k=k2+1:=⟨k-1,by omega⟩
     obtain⟨g,hA0,hg,a0,a1,a2,f0,f1,f2⟩:=fV HO2.out hl k (by omega)
     subst hA0
     obtain⟨g',hA,_,b0,b1,b2,f3,f4,f5⟩:=fV HO2.out hl k2 (by omega)
     injection hA with hA
     injection hA with hA _
     subst hA
     obtain⟨⟨xw,xn,xd⟩,hx⟩:∃ r,r=Y.getD k aE.zero:=⟨_,rfl⟩
     obtain⟨⟨yw,yn,yd⟩,hy⟩:∃ r,r=Y.getD k2 aE.zero:=⟨_,rfl⟩
     rw[<-hx] at a0 a1 a2
     rw[<-hy] at b0 b1 b2
     simp only at a0 a1 a2 b0 b1 b2
     have EX:=aB hx
     have EY:=aB hy
     have HK2:=aB hk2
     have i0:(j:Int)<(k:Int):=by omega
     have i1:(k:Int)-1=(k2:Int):=by omega
     have i2:IntKind.i64.wrap (k:Int)=(k:Int):=qQa _ (by omega)
     have i3:IntKind.i64.wrap (k2:Int)=(k2:Int):=qQa _ (by omega)
     have i4:k<n:=by omega
     have i5:k2<n:=by omega
     have i6:(k:Int)<(n:Int):=by omega
     have i7:(k2:Int)<(n:Int):=by omega
     have i8:j<=k2:=by omega
     have i9:k2<=m:=by omega
     obtain⟨v0,s0⟩:=cell?_setCell_some (p:=⟨g,k*3,none⟩) (x:=.string yw) b0
     obtain⟨v1,s1⟩:=cell?_setCell_some (p:=⟨g,k*3,none⟩) (x:=.string yw) b1
     obtain⟨v1,s1⟩:=cell?_setCell_some (p:=⟨g,k*3+1,none⟩) (x:=.int .i64 yn) s1
     obtain⟨v2,s2⟩:=cell?_setCell_some (p:=⟨g,k*3,none⟩) (x:=.string yw) b2
     obtain⟨v2,s2⟩:=cell?_setCell_some (p:=⟨g,k*3+1,none⟩) (x:=.int .i64 yn) s2
     obtain⟨v2,s2⟩:=cell?_setCell_some (p:=⟨g,k*3+2,none⟩) (x:=.int .i64 yd) s2
     clear hx hy hl hk2 hY
     go_wp2
     go_region
     all_goals go_wp2
     go_roundw
     ·have HS:=jT (jT HO2 k ⟨yw,yn,yd⟩) k2 ⟨xw,xn,xd⟩
      have e:fQ Y k k2=(Y.set k ⟨yw,yn,yd⟩).set k2 ⟨xw,xn,xd⟩:=by unfold fQ;rw[<-EX.out,<-EY.out]
      rw[<-e] at HS
      obtain⟨s',rfl⟩:∃ s',s=s'+1:=⟨s-1,by have:=HK.out;have:=HTT.out;omega⟩
      have hs:s'<L.length:=by have:=HM.out;have:=HK.out;omega
      have e2:fQ Y k k2=P++(L.take s'++(x :: (L.drop s'++Q))):=by
       have r1:L.drop s'=L[s'] :: L.drop (s'+1):=qQd hs
       have r2:L.take (s'+1)=L.take s'++[L[s']]:=qQe hs
       have l1:(P++L.take s').length=k2:=by have:=HK.out;have:=HK2.out;have:=HA.out;rw[qZa,qJc];omega
       have e3:Y=(P++L.take s')++(L[s'] :: x :: (L.drop (s'+1)++Q)):=by rw[HYE.out,r2];simp only[qZb,qJb,qQc]
       rw[e3,mY (P++L.take s') (L.drop (s'+1)++Q) L[s'] x k k2 (by rw[l1,HK2.out]) l1.symm,r1]
       simp only[qZb,qJb]
      rw[e2] at HS
      refine⟨k2,s',rfl,i8,i9,aB (by have:=HK.out;have:=HK2.out;omega),aB (aF (S:=λ_=>False) HS (aC.refl _ _).drew (λ_ _ f=>f)),aB ?_⟩
      refine aC.drew ?_
      iterate 6 refine aC.setCell ?_ (λ_=>(rfl:aJ (some ⟨g,0,none⟩)=some g)) _
      exact HT2
     ·simp[intOf]
      have:=HK2.out
      omega
    ·have hk':k=j:=by omega
     subst hk'
     go_wp2
     have hst:s=t:=by have:=HK.out;have:=HTT.out;omega
     subst hst
     obtain⟨i1,i2⟩:=HI.out
     have ht:=HTT.out
     have hA:=HA.out
     have hM:=HM.out
     have hTL:=HTL.out
     have eX:X=P++(L++(x :: Q)):=HE.out
     have hc:∀ p∈L.take s,gH p x:=by
      intro p hp
      obtain⟨q,q1,q2,rfl⟩:=nQ hp
      rcases i1 with e | e
      ·omega
      ·rw[eX,iD P L (x :: Q) (k-1) (s-1) (by omega) (by omega)] at e
       exact iE (mE HL.out (by omega) (by omega)) (show gH (L.getD (s-1) aE.zero) x from e)
     have hd:∀ r∈L.drop s,eE x r=true:=by
      intro r hr
      obtain⟨q,q1,q2,rfl⟩:=kP hr
      rcases i2 with e | e
      ·omega
      ·rw[eX,iD P L (x :: Q) k s (by omega) (by omega)] at e
       exact wY e (mE HL.out q1 q2)
     refine bodyPost_ret (v:=.tuple #[]) (by simp[results,Tryz.results179,go_sem]) rfl ⟨rfl,⟨L.take s++(x :: L.drop s),?_,?_,?_⟩,HT2⟩
     ·have:=HO2.out
      simpa using this
     ·refine oH (Cp HL s) (List.pairwise_cons.2 ⟨λr hr=>gE (hd r hr),Co HL s⟩) ?_
      intro p hp r hr
      rcases List.mem_cons.1 hr with rfl | hr
      ·exact hc p hp
      ·exact iE (hc p hp) (gE (hd r hr))
     ·have k1:aU (L.drop s++[x]) ([x]++L.drop s):=aU.swap λp hp r hr he=>by
       simp only[qJd] at hr
       subst hr
       exact uU (hd p hp) he.symm
      have k2:=(aU.refl (L.take s)).app k1
      have e1:L.take s++(L.drop s++[x])=L++[x]:=by rw[<-qZb,qZh]
      rw[e1] at k2
      simpa using k2
def uT(w:World)(A:Option Addr)(n c:Nat)(P Y Q:List aE)(e:Ending)(w':World):Prop :=
 e=.returned (.tuple #[])/\(∃ Z,fW w' A n c (P++(Z++Q))/\bI Z/\aU Y Z)/\aC (λg=>aJ A=some g) w w'
def aIl(A:Option Addr)(n c fuel:Nat):Prop:=∀ (w:World) (P L R Q:List aE) (a m b:Nat),fW w A n c (P++(L++(R++Q)))->a=P.length->m=a+L.length->b=m+R.length->0<L.length->0<R.length->bI L->bI R->L.length+R.length<=fuel ->
 Calls Tryz.prog 179 #[.slice A n c,.int .i64 a,.int .i64 m,.int .i64 b,qR] w (uT w A n c P (L++R) Q)
theorem Xm(A:Option Addr)(n c fuel:Nat)(hn62:n<=5864062014700)(ih:aIl A n c fuel)(w:World)(P L R Q:List aE)(a m b:Nat)(h:fW w A n c (P++(L++(R++Q))))(ha:a=P.length)(hm:m=a+L.length)(hb:b=m+R.length)
  (hL1:1<L.length)(hR1:1<R.length)(hL:bI L)(hR:bI R)(hf:L.length+R.length<=fuel+1) :
  Calls Tryz.prog 179 #[.slice A n c,.int .i64 a,.int .i64 m,.int .i64 b,qR] w (uT w A n c P (L++R) Q):=by
 have hl:=cT h
 simp only[qZa] at hl
 obtain⟨X,hX⟩:=eX (P++(L++(R++Q)))
 rw[<-hX] at h
 have hn:=dR h
 unfold maxLen at hn
 have HX:=aB h
 have HE:=aB hX
 have HA:=aB ha
 have HB:=aB hb
 have HL:=aB hL
 have HR:=aB hR
 have HM:=aB hm
 have HF:=aB hf
 have HIH:=aB ih
 have hbn:b<=n:=by omega
 have ham:a+1<m:=by omega
 have hmb:m+1<b:=by omega
 have x0:((m:Int)-(a:Int) == 1)=false:=by simp;omega
 have x1:((b:Int)-(m:Int) == 1)=false:=by simp;omega
 obtain⟨mid,hmid⟩:=eX ((a+b) / 2)
 obtain⟨N,hN⟩:=eX (mid+m)
 obtain⟨p,hp⟩:∃ x,N=x+1:=⟨N-1,by omega⟩
 have x2:((a:Int)+(b:Int)) / 2=(mid:Int):=by omega
 have x3:(mid:Int)+(m:Int)=(N:Int):=by omega
 have x4:(N:Int)-1=(p:Int):=by omega
 have x5:mid<=n:=by omega
 have x6:N<=n+n:=by omega
 have x7:p<=n+n:=by omega
 obtain⟨lo,hi,hlohi⟩:∃ lo hi:Nat,(mid<m/\lo+b=N/\hi=mid)\/(¬ mid<m/\lo=a/\hi=m):=by
  by_cases hmm:mid<m
  ·exact⟨N-b,mid,.inl ⟨hmm,by omega,rfl⟩⟩
  ·exact⟨a,m,.inr ⟨hmm,rfl,rfl⟩⟩
 have y1:a<=lo/\lo<=hi/\hi<=m/\hi<=n:=by omega
 have y2:∀ k,lo<=k->k<hi->a<=k/\k<m/\m<=p-k/\p-k<b/\k<=p:=by intro k h1 h2;omega
 have HLH:=aB hlohi
 have HY1:=aB y1
 have HY2:=aB y2
 have HMID:=aB (And.intro hmid (And.intro hN hp))
 clear h hX ha hb hl hL hR hm hf ih hmid hN hp hL1 hR1 hlohi y1 y2
 go_in
 go_upto_if 140 with fail
 go_cut [20,21] from 138 to 146 (λs r wx=>s=.int .i64 (lo:Int)/\r=.int .i64 (hi:Int)/\wx=w)
 case first =>
  rcases HLH.out with⟨h1,h2,h3⟩ | ⟨h1,h2,h3⟩
  ·have z1:(N:Int)-(b:Int)=(lo:Int):=by omega
   have z2:(mid:Int)<(m:Int):=by omega
   have z3:lo<=n:=by omega
   have H3:=aB h3
   clear h2 h3
   go_wp2
   go_meet
   exact⟨rfl,by rw[H3.out],rfl⟩
  ·have H23:=aB (And.intro h2 h3)
   have z2:¬ (mid:Int)<(m:Int):=by omega
   clear h2 h3
   go_wp2
   go_meet
   exact⟨by rw[H23.1],by rw[H23.2],rfl⟩
 case rest =>
  obtain⟨rfl,rfl,hcw⟩:=hcut
  obtain rfl:=hcw.symm
  clear hcw
  go_wp2
  go_loopw [20,21] (λsv rv wr=>∃ s r:Nat,sv=.int .i64 s/\rv=.int .i64 r/\lo<=s/\s<=r/\r<=hi/\Hid (fW wr A n c X)/\Hid ((s=lo\/eE (X.getD (p-(s-1)) aE.zero) (X.getD (s-1) aE.zero)=false)/\(r=hi\/eE (X.getD (p-r) aE.zero) (X.getD r aE.zero)=true))/\Hid (aC (λ_=>False) w wr)) (λsv rv _=>(intOf rv).toNat-(intOf sv).toNat)
  case atStart=>exact⟨lo,hi,rfl,rfl,qJa _,HY1.2.1,qJa _,HX,aB ⟨.inl rfl,.inl rfl⟩,aB (aC.refl _ _)⟩
  case round =>
   obtain⟨s,r,rfl,rfl,hls,hsr,hrh,HO,HI,HT⟩:=hrel
   by_cases h0:s<r
   ·have y0:(s:Int)<(r:Int):=by omega
    obtain⟨k,hk⟩:=eX ((s+r) / 2)
    have hy2:=HY2.out k (by omega) (by omega)
    have hy1:=HY1.out
    obtain⟨u,hu⟩:∃ u,p=u+k:=⟨p-k,by omega⟩
    have hpk:p-k=u:=by omega
    have z1:((s:Int)+(r:Int)) / 2=(k:Int):=by omega
    have z2:k<n:=by omega
    have z3:(k:Int)<(n:Int):=by omega
    have z4:u<n:=by omega
    have z5:(u:Int)<(n:Int):=by omega
    have z6:(p:Int)-(k:Int)=(u:Int):=by omega
    have z7:IntKind.i64.wrap (k:Int)=(k:Int):=qQa _ (by omega)
    have z8:IntKind.i64.wrap (u:Int)=(u:Int):=qQa _ (by omega)
    have z9:s<=k:=by omega
    have z10:k<r:=by omega
    have z11:s<=n:=by omega
    have z12:r<=n:=by omega
    have hl:=cT HO
    obtain⟨g,hA0,hg,a0,a1,a2,f0,f1,f2⟩:=fV HO.out hl k z2
    subst hA0
    obtain⟨g',hA,_,b0,b1,b2,f3,f4,f5⟩:=fV HO.out hl u z4
    injection hA with hA
    injection hA with hA _
    subst hA
    obtain⟨⟨zw,zn,zd⟩,hz⟩:∃ r,r=X.getD k aE.zero:=⟨_,rfl⟩
    rw[<-hz] at a0 a1 a2
    obtain⟨⟨xw,xn,xd⟩,hx⟩:∃ r,r=X.getD u aE.zero:=⟨_,rfl⟩
    rw[<-hx] at b0 b1 b2
    have EZ:=aB hz
    have EX:=aB hx
    have HPK:=aB hpk
    simp only at a0 a1 a2 b0 b1 b2
    clear hl hz hx hk hpk hu hy2 hy1
    cases hb:eE ⟨xw,xn,xd⟩ ⟨zw,zn,zd⟩ with
    | true =>
     have HPB:=aB hb
     clear hb
     go_wp2_with fail
     go_still_tail 11,(by kernel_rfl)
     change wpList _ _ _ _ _ wr.drew
     have HD:Hid (aC (λ_=>False) wr wr.drew):=aB (aC.refl _ _).drew
     generalize wr.drew=wd at HD ⊢
     go_wp2_with (go_at_call 105;refine (jR ⟨xw,xn,xd⟩ ⟨zw,zn,zd⟩ wd).mono ?_;rw[HPB.out];rintro e w2 ⟨⟨z,rfl,hz⟩,T2⟩;have HT2:=aB (HT.then (HD.then T2));have HO2:=aB (aF HO (HD.then T2) (λ_ _ f=>f));clear T2)
     go_roundw
     ·refine⟨s,k,rfl,rfl,hls,z9,by omega,HO2,aB ⟨HI.1,.inr ?_⟩,HT2⟩
      rw[HPK.out,<-EZ.out,<-EX.out]
      exact HPB
     ·show (k:Int).toNat-(s:Int).toNat<(r:Int).toNat-(s:Int).toNat
      omega
    | false =>
     have HPB:=aB hb
     clear hb
     go_wp2_with fail
     go_still_tail 11,(by kernel_rfl)
     change wpList _ _ _ _ _ wr.drew
     have HD:Hid (aC (λ_=>False) wr wr.drew):=aB (aC.refl _ _).drew
     generalize wr.drew=wd at HD ⊢
     go_wp2_with (go_at_call 105;refine (jR ⟨xw,xn,xd⟩ ⟨zw,zn,zd⟩ wd).mono ?_;rw[HPB.out];rintro e w2 ⟨⟨z,rfl,hz⟩,T2⟩;have HT2:=aB (HT.then (HD.then T2));have HO2:=aB (aF HO (HD.then T2) (λ_ _ f=>f));clear T2)
     go_roundw
     ·refine⟨k+1,r,by simp,rfl,by omega,by omega,hrh,HO2,aB ⟨.inr ?_,HI.2⟩,HT2⟩
      rw[qZe,HPK.out,<-EZ.out,<-EX.out]
      exact HPB
     ·show (r:Int).toNat-((k:Int)+1).toNat<(r:Int).toNat-(s:Int).toNat
      omega
   ·have hsr':r=s:=by omega
    subst hsr'
    obtain⟨e,he⟩:∃ e,N=e+r:=⟨N-r,by have:=HMID.out;have:=HY1.out;have:=HLH.out;omega⟩
    obtain⟨i1,i2⟩:=HI.out
    have hmid:=HMID.out
    have hy1:=HY1.out
    have hlh:=HLH.out
    have hA:=HA.out
    have hM:=HM.out
    have hB:=HB.out
    have eb:a<=r/\r<=m/\m<=e/\e<=b/\r<=mid/\mid<=e:=by omega
    obtain⟨L1,L2,eL,l1,l2⟩:=mD (l:=L) (k:=r-a) (by omega)
    obtain⟨R1,R2,eR,r1,r2⟩:=mD (l:=R) (k:=e-m) (by omega)
    have hc:=yM HL HR (r-a) (e-m) (by omega) (by omega) (by
     rcases i1 with q | q
     ·rcases hlh with⟨h1,h2,h3⟩ | ⟨h1,h2,h3⟩
      ·exact .inr (.inl (by omega))
      ·exact .inl (by omega)
     ·by_cases q0:r=a
      ·exact .inl (by omega)
      ·by_cases q1:e=b
       ·exact .inr (.inl (by omega))
       ·refine .inr (.inr ?_)
        rw[HE.out,show P++(L++(R++Q))=(P++L)++(R++Q) by simp,iD (P++L) R Q (p-(r-1)) (e-m) (by rw[qZa];omega) (by omega),show (P++L)++(R++Q)=P++(L++(R++Q)) by simp,iD P L (R++Q) (r-1) (r-a-1) (by omega) (by omega)] at q
        exact q) (by
     rcases i2 with q | q
     ·rcases hlh with⟨h1,h2,h3⟩ | ⟨h1,h2,h3⟩
      ·exact .inr (.inl (by omega))
      ·exact .inl (by omega)
     ·by_cases q0:r=m
      ·exact .inl (by omega)
      ·by_cases q1:e=m
       ·exact .inr (.inl (by omega))
       ·refine .inr (.inr ?_)
        rw[HE.out,show P++(L++(R++Q))=(P++L)++(R++Q) by simp,iD (P++L) R Q (p-r) (e-m-1) (by rw[qZa];omega) (by omega),show (P++L)++(R++Q)=P++(L++(R++Q)) by simp,iD P L (R++Q) r (r-a) (by omega) (by omega)] at q
        exact q)
    have t1:L.take (r-a)=L1:=by rw[eL,<-l1,List.take_left]
    have t2:L.drop (r-a)=L2:=by rw[eL,<-l1,List.drop_left]
    have t3:R.take (e-m)=R1:=by rw[eR,<-r1,List.take_left]
    have t4:R.drop (e-m)=R2:=by rw[eR,<-r1,List.drop_left]
    rw[t1,t2,t3,t4] at hc
    have HC:=aB hc
    have HLL:=aB eL
    have HRR:=aB eR
    have HLEN:=aB (And.intro l1 (And.intro l2 (And.intro r1 r2)))
    have HEB:=aB eb
    have u1:(N:Int)-(r:Int)=(e:Int):=by omega
    have u2:e<=n:=by omega
    have u3:r<=n:=by omega
    have u4:IntKind.i64.wrap (e:Int)=(e:Int):=qQa _ (by omega)
    have HEN:=aB he
    have HM2:=aB hmid
    clear i1 i2 hmid hy1 hlh hA hM hB eL eR l1 l2 r1 r2 hc t1 t2 t3 t4 h0 eb he
    obtain⟨b1,hb1⟩:=eX (decide (r<m/\m<e))
    obtain⟨b2,hb2⟩:=eX (decide (a<r/\r<mid))
    obtain⟨b3,hb3⟩:=eX (decide (mid<e/\e<b))
    have HB1:=aB hb1
    have HB2:=aB hb2
    have HB3:=aB hb3
    clear hb1 hb2 hb3
    go_upto_region 39 with fail
    go_cut [24,185] from 174 to 185 (λsv tv wx=>sv=.int .i64 (e:Int)/\tv=.bool b1/\wx=wr)
    case first =>
     by_cases q1:r<m
     ·have q3:(r:Int)<(m:Int):=by omega
      by_cases q2:m<e
      ·have q4:(m:Int)<(e:Int):=by omega
       go_wp2
       go_meet
       exact⟨rfl,by rw[HB1.out];simp[q1,q2],rfl⟩
      ·have q4:¬ (m:Int)<(e:Int):=by omega
       go_wp2
       go_meet
       exact⟨rfl,by rw[HB1.out];simp[q2],rfl⟩
     ·have q3:¬ (r:Int)<(m:Int):=by omega
      go_wp2
      go_meet
      exact⟨rfl,by rw[HB1.out];simp[q1],rfl⟩
    case rest =>
     obtain⟨rfl,rfl,hcw⟩:=hcut
     obtain rfl:=hcw.symm
     clear hcw
     go_upto_if 185 with fail
     go_cut [24] from 186 to 191 (λsv wx=>sv=.int .i64 (e:Int)/\Hid (fW wx A n c (P++(L1++(R1++(L2++(R2++Q))))))/\Hid (aC (λg=>aJ A=some g) w wx))
     case first =>
      have hO:=HO.out
      rw[HE.out,HLL.out,HRR.out] at hO
      cases b1 with
      | true =>
       have hb:=of_decide_eq_true HB1.symm
       have hO2:fW wr A n c ((P++L1)++(L2++(R1++(R2++Q)))):=by simpa using hO
       obtain⟨l1,l2,r1,r2⟩:=HLEN.out
       have hm:=HM.out
       have ha:=HA.out
       have hbb:=HB.out
       have heb:=HEB.out
       have HRO:=aB (Xk wr A n c (P++L1) L2 R1 (R2++Q) hO2 r m e (by rw[qZa];omega) (by omega) (by omega) (by omega) (by omega) qR)
       clear hO hO2 l1 l2 r1 r2 hm ha hbb heb hb
       go_wp2_with (go_at_call 188;refine HRO.mono ?_;rintro e w2 ⟨rfl,O2,T2⟩;have HO2:=aB O2;have HT2:=aB ((HT.up _).then T2);clear O2 T2)
       go_meet
       exact⟨rfl,aB (by simpa using HO2.out),HT2⟩
      | false =>
       have hb:=of_decide_eq_false HB1.symm
       have hO2:fW wr A n c (P++(L1++(R1++(L2++(R2++Q))))):=by
        obtain⟨l1,l2,r1,r2⟩:=HLEN.out
        have hm:=HM.out
        have heb:=HEB.out
        by_cases q1:r<m
        ·have e1:R1=[]:=qXa (by omega)
         rw[e1] at hO ⊢
         simpa using hO
        ·have e1:L2=[]:=qXa (by omega)
         rw[e1] at hO ⊢
         simpa using hO
       have HO2:=aB hO2
       clear hO hO2 hb
       go_wp2
       go_meet
       exact⟨rfl,HO2,aB (HT.up _)⟩
     case rest =>
      obtain⟨rfl,HO1,HT1⟩:=hcut
      go_upto_region 41 with fail
      go_cut [24,199] from 192 to 199 (λsv tv wx=>sv=.int .i64 (e:Int)/\tv=.bool b2/\wx=wc)
      case first =>
       by_cases q1:a<r
       ·have q3:(a:Int)<(r:Int):=by omega
        by_cases q2:r<mid
        ·have q4:(r:Int)<(mid:Int):=by omega
         go_wp2
         go_meet
         exact⟨rfl,by rw[HB2.out];simp[q1,q2],rfl⟩
        ·have q4:¬ (r:Int)<(mid:Int):=by omega
         go_wp2
         go_meet
         exact⟨rfl,by rw[HB2.out];simp[q2],rfl⟩
       ·have q3:¬ (a:Int)<(r:Int):=by omega
        go_wp2
        go_meet
        exact⟨rfl,by rw[HB2.out];simp[q1],rfl⟩
      case rest =>
       obtain⟨rfl,rfl,hcw⟩:=hcut
       obtain rfl:=hcw.symm
       clear hcw
       obtain⟨w1,hw1⟩:=eX wc
       subst hw1
       go_upto_if 199 with fail
       go_cut [24] from 200 to 205 (λsv wx=>sv=.int .i64 (e:Int)/\Hid (∃ Z1,fW wx A n c (P++(Z1++(L2++(R2++Q))))/\bI Z1/\aU (L1++R1) Z1)/\Hid (aC (λg=>aJ A=some g) w wx))
       case first =>
        have hsL:bI L1:=by have:=HL.out;rw[HLL.out] at this;exact (List.pairwise_append.1 this).1
        have hsR:bI R1:=by have:=HR.out;rw[HRR.out] at this;exact (List.pairwise_append.1 this).1
        obtain⟨l1,l2,r1,r2⟩:=HLEN.out
        have hm:=HM.out
        have ha:=HA.out
        have hbb:=HB.out
        have heb:=HEB.out
        have hff:=HF.out
        have hmi:=HM2.out
        have hen:=HEN.out
        cases b2 with
        | true =>
         have hb:=of_decide_eq_true HB2.symm
         have HRO:=aB (HIH w1 P L1 R1 (L2++(R2++Q)) a r mid HO1 ha (by omega) (by omega) (by omega) (by omega) hsL hsR (by omega))
         clear l1 l2 r1 r2 hm ha hbb heb hb hff hmi hen hsL hsR
         go_wp2_with (go_at_call 179;refine HRO.mono ?_;rintro e w2 ⟨rfl,⟨Z1,O2,s1,k1⟩,T2⟩;have HO2:=aB O2;have HK2:=aB (And.intro s1 k1);have HT2:=aB (HT1.then T2);clear O2 T2 s1 k1)
         go_meet
         exact⟨rfl,aB ⟨Z1,HO2,HK2.1,HK2.2⟩,HT2⟩
        | false =>
         have hb:=of_decide_eq_false HB2.symm
         have hs:bI (L1++R1):=by
          by_cases q1:a<r
          ·have e1:R1=[]:=qXa (by omega)
           rw[e1];simpa using hsL
          ·have e1:L1=[]:=qXa (by omega)
           rw[e1];simpa using hsR
         have HZ:=aB (Exists.intro (p:=λZ1=>fW w1 A n c (P++(Z1++(L2++(R2++Q))))/\bI Z1/\aU (L1++R1) Z1) (L1++R1) (And.intro (by simpa using HO1.out) (And.intro hs (aU.refl _))))
         clear l1 l2 r1 r2 hm ha hbb heb hb hff hmi hen hsL hsR hs
         go_wp2
         go_meet
         exact⟨rfl,HZ,HT1⟩
       case rest =>
        obtain⟨rfl,HZ1,HT2⟩:=hcut
        obtain⟨Z1,O2,s1,k1⟩:=HZ1.out
        have hl1:=cT O2
        have hl2:=cT HO1
        simp only[qZa] at hl1 hl2
        have hsL:bI L2:=by have:=HL.out;rw[HLL.out] at this;exact (List.pairwise_append.1 this).2.1
        have hsR:bI R2:=by have:=HR.out;rw[HRR.out] at this;exact (List.pairwise_append.1 this).2.1
        have hLs:=HL.out
        have hRs:=HR.out
        rw[HLL.out] at hLs
        rw[HRR.out] at hRs
        obtain⟨l1,l2,r1,r2⟩:=HLEN.out
        have hm:=HM.out
        have ha:=HA.out
        have hbb:=HB.out
        have heb:=HEB.out
        have hff:=HF.out
        have hmi:=HM2.out
        have hen:=HEN.out
        have hO2':fW wc A n c ((P++Z1)++(L2++(R2++Q))):=by simpa using O2
        have FIN:=aB (λ(Z2:List aE) (s2:bI Z2) (k2:aU (L2++R2) Z2)=>Fa (L1:=L1) (L2:=L2) (R1:=R1) (R2:=R2) (Z1:=Z1) (Z2:=Z2) hLs hRs HC.1 HC.2 s1 k1 s2 k2)
        have HO3:=aB O2
        by_cases q1:mid<e/\e<b
        ·obtain⟨q1,q2⟩:=q1
         have q3:(mid:Int)<(e:Int):=by omega
         have q4:(e:Int)<(b:Int):=by omega
         have HRO:=aB (HIH wc (P++Z1) L2 R2 Q mid e b hO2' (by rw[qZa];omega) (by omega) (by omega) (by omega) (by omega) hsL hsR (by omega))
         clear l1 l2 r1 r2 hm ha hbb heb hff hmi hen hsL hsR hO2' hl1 hl2 hLs hRs O2 s1 k1
         go_wp2_with (go_at_call 179;refine HRO.mono ?_;rintro e w2 ⟨rfl,⟨Z2,O2,s2,k2⟩,T2⟩;have HO4:=aB O2;have HK2:=aB (And.intro s2 k2);have HT3:=aB (HT2.then T2);clear O2 T2 s2 k2)
         go_end0
         obtain⟨f1,f2⟩:=FIN.out Z2 HK2.1 HK2.2
         rw[<-HLL.out,<-HRR.out] at f2
         exact⟨rfl,⟨Z1++Z2,by simpa using HO4.out,f1,f2⟩,HT3⟩
        ·have hs:bI (L2++R2):=by
          by_cases q2:mid<e
          ·have e1:R2=[]:=qXa (by omega)
           rw[e1];simpa using hsL
          ·have e1:L2=[]:=qXa (by omega)
           rw[e1];simpa using hsR
         obtain⟨f1,f2⟩:=FIN.out (L2++R2) hs (aU.refl _)
         rw[<-HLL.out,<-HRR.out] at f2
         have HFF:=aB (And.intro f1 f2)
         have hq:(¬ (mid:Int)<(e:Int))\/((mid:Int)<(e:Int)/\¬ (e:Int)<(b:Int)):=by omega
         clear l1 l2 r1 r2 hm ha hbb heb hff hmi hen hsL hsR hO2' hl1 hl2 hLs hRs O2 s1 k1 hs f1 f2 q1
         rcases hq with q1 | ⟨q1,q2⟩
         all_goals
          go_wp2
          go_end0
          exact⟨rfl,⟨Z1++(L2++R2),by simpa using HO3.out,HFF.1,HFF.2⟩,HT2⟩
theorem Ms(A:Option Addr)(n c:Nat)(hn62:n<=5864062014700):∀ fuel,aIl A n c fuel:=by
 intro fuel
 induction fuel with
 | zero=>intro w P L R Q a m b _ _ _ _ h1 _ _ _ hf;omega
 | succ fuel ih =>
  intro w P L R Q a m b h ha hm hb hL0 hR0 hL hR hf
  by_cases h1:L.length=1
  ·obtain⟨x,rfl⟩:=List.length_eq_one_iff.1 h1
   exact (aCm w A n c P R Q x (by simpa using h) a m b ha (by simpa using hm) hb hR hn62).mono λe w' hh=>by simpa [uT] using hh
  ·by_cases h2:R.length=1
   ·obtain⟨x,rfl⟩:=List.length_eq_one_iff.1 h2
    exact (Xl w A n c P L Q x (by simpa using h) a m b ha hm (by simpa using hb) h1 hL hn62).mono λe w' hh=>by simpa [uT] using hh
   ·exact Xm A n c fuel hn62 ih w P L R Q a m b h ha hm hb (by omega) (by omega) hL hR hf
def Cl(bs:Nat)(Bs:List (List aE)):Prop:=∀ B∈Bs,B.length=bs/\bI B
theorem Cm(h:Cl bs Bs):Bs.flatten.length=Bs.length*bs:=by
 induction Bs with
 | nil=>simp
 | cons B Bs ih =>
  have h1:=(h B (by simp)).1
  have h2:=ih (λC hC=>h C (by simp[hC]))
  simp only[List.flatten_cons,qZa,qXd,h1,h2,Nat.succ_mul]
  omega
theorem He{Z:List aE}(h:Cl bs Bs)(hZ:Z.length=bs)(hs:bI Z):Cl bs (Bs++[Z]):=by
 intro B hB
 rcases List.mem_append.1 hB with hB | hB
 ·exact h B hB
 ·simp at hB;subst hB;exact⟨hZ,hs⟩
theorem fX(Bs:List (List aE))(Z:List aE):(Bs++[Z]).flatten=Bs.flatten++Z:=by simp
theorem tB(h:Cl bs Bs):(Bs=[]/\Bs.flatten.length=0)\/(∃ B,Bs=[B]/\Bs.flatten.length=bs/\B.length=bs/\bI B)\/∃ B1 B2 Bs',Bs=B1 :: B2 :: Bs'/\2*bs<=Bs.flatten.length:=by
 have hl:=Cm h
 rcases Bs with _ | ⟨B1,_ | ⟨B2,Bs'⟩⟩
 ·exact .inl ⟨rfl,rfl⟩
 ·refine .inr (.inl ⟨B1,rfl,?_,h B1 (by simp)⟩)
  rw[hl];exact Nat.one_mul bs
 ·refine .inr (.inr ⟨B1,B2,Bs',rfl,?_⟩)
  rw[hl]
  exact Nat.mul_le_mul_right bs (by simp)
def Mo(w:World)(A:Option Addr)(n c:Nat)(X:List aE)(e:Ending)(w':World):Prop :=
 e=.returned (.tuple #[])/\(∃ Z,fW w' A n c Z/\bI Z/\aU X Z)/\aC (λg=>aJ A=some g) w w'
theorem Jk(w:World)(A:Option Addr)(n c:Nat)(X:List aE)(h:fW w A n c X)(hn62:n<=5864062014700) :
  Calls Tryz.prog 152 #[.slice A n c,.int .i64 n,qR] w (Mo w A n c X):=by
 have HX:=aB h
 clear h
 go_in
 go_wp2
 go_loopw [7,8] (λav bv wr=>∃ a b:Nat,av=.int .i64 a/\bv=.int .i64 b/\b=a+20/\a<=n/\Hid (∃ Bs T,Cl 20 Bs/\Bs.flatten.length=a/\fW wr A n c (Bs.flatten++T)/\aU X (Bs.flatten++T))/\Hid (aC (λg=>aJ A=some g) w wr)) (λ_ bv _=>n+21-(intOf bv).toNat)
 case atStart=>exact⟨0,20,rfl,rfl,rfl,qZc _,aB ⟨[],X,(λB hB=>by cases hB),rfl,HX,aU.refl _⟩,aB (aC.refl _ _)⟩
 case round =>
  obtain⟨a,b,rfl,rfl,hab,han,HE,HT⟩:=hrel
  by_cases h0:b<=n
  ·have y0:(b:Int)<=(n:Int):=by omega
   obtain⟨Bs,T,hB,hl,O1,K1⟩:=HE.out
   have hlen:=cT O1
   rw[qZa] at hlen
   obtain⟨B,T',rfl,t1,t2⟩:=mD (l:=T) (k:=20) (by omega)
   obtain⟨Z,z1,z2,z3⟩:=yN Bs.flatten B T' a b hl.symm (by omega)
   have HZ:=aB (And.intro z1 (And.intro z2 z3))
   have HBB:=aB hB
   have HL:=aB (And.intro hl (And.intro t1 hab))
   have HK:=aB K1
   have hab':a<=b:=by omega
   have HIS:=aB (yO wr A n c _ O1 a b hab' h0 (by omega))
   clear hB hl O1 K1 hlen t1 t2 z1 z2 z3 HE
   obtain⟨b2,hb2⟩:=eX (b+20)
   have y1:(b:Int)+20=(b2:Int):=by omega
   have y2:IntKind.i64.wrap (b2:Int)=(b2:Int):=qQa _ (by omega)
   have HB2:=aB hb2
   clear hb2 hab
   go_wp2_with (go_at_call 178;refine HIS.mono ?_;rintro e w2 ⟨rfl,O2,T2⟩;have HO2:=aB O2;have HT2:=aB (HT.then T2);clear O2 T2)
   go_roundw
   ·obtain⟨hl,t1,hab⟩:=HL.out
    obtain⟨z1,z2,z3⟩:=HZ.out
    have O3:=HO2.out
    rw[z1] at O3
    have lz:Z.length=20:=by
     have h1:=cT O3
     have h2:=congrArg List.length z1
     rw[tC] at h2
     simp only[qZa] at h1 h2
     omega
    refine⟨b,b2,rfl,rfl,HB2,h0,aB ⟨Bs++[Z],T',He HBB lz z2,by rw[fX,qZa];omega,by rw[fX];simpa using O3,?_⟩,HT2⟩
    rw[fX]
    refine HK.trans ?_
    have:=(aU.refl Bs.flatten).app (z3.app (aU.refl T'))
    simpa using this
   ·simp[intOf]
    have:=HB2.out
    omega
  ·obtain⟨Bs,T,hB,hl,O1,K1⟩:=HE.out
   have hlen:=cT O1
   rw[qZa] at hlen
   obtain⟨Z,z1,z2,z3⟩:=yN Bs.flatten T [] a n hl.symm (by omega)
   rw[List.append_nil,List.append_nil] at z1
   have HIS:=aB (yO wr A n c _ O1 a n han (qJa _) (by omega))
   have HZ:=aB (And.intro z1 (And.intro z2 z3))
   have HBB:=aB hB
   have HK:=aB K1
   have HL:=aB (And.intro hl (And.intro hlen hab))
   have y0:¬ (b:Int)<=(n:Int):=by omega
   clear hB hl O1 K1 hlen z1 z2 z3 HE hab h0
   go_wp2_with (go_at_call 178;refine HIS.mono ?_;rintro e w2 ⟨rfl,O2,T2⟩;have HO2:=aB O2;have HT2:=aB (HT.then T2);clear O2 T2)
   have HS:Hid (∃ Bs T,Cl 20 Bs/\bI T/\T.length<20/\fW w2 A n c (Bs.flatten++T)/\aU X (Bs.flatten++T)):=aB (by
    obtain⟨hl,hlen,hab⟩:=HL.out
    obtain⟨z1,z2,z3⟩:=HZ.out
    have O3:=HO2.out
    rw[z1] at O3
    have h1:=cT O3
    have h2:=congrArg List.length z1
    rw[tC] at h2
    simp only[qZa] at h1 h2
    exact⟨Bs,Z,HBB,z2,by omega,O3,HK.trans ((aU.refl _).app z3)⟩)
   clear HIS HZ HBB HK HL HO2 HT
   obtain⟨w0,hw0⟩:=eX w2
   rw[<-hw0] at HS HT2 ⊢
   clear hw0
   go_loopw [6] (λsv wr=>∃ bs:Nat,sv=.int .i64 bs/\0<bs/\bs<=n+n+20/\Hid (∃ Bs T,Cl bs Bs/\bI T/\T.length<bs/\fW wr A n c (Bs.flatten++T)/\aU X (Bs.flatten++T))/\Hid (aC (λg=>aJ A=some g) w wr)) (λsv _=>n-(intOf sv).toNat)
   case atStart=>exact⟨20,rfl,by omega,by omega,HS,HT2⟩
   case round =>
    obtain⟨bs,rfl,hbs,hbs2,HE,HT3⟩:=hrel
    by_cases h1:bs<n
    ·have x0:(bs:Int)<(n:Int):=by omega
     obtain⟨d,hd⟩:=eX (2*bs)
     have x1:(2:Int)*(bs:Int)=(d:Int):=by omega
     have x2:(bs:Int)*2=(d:Int):=by omega
     have x3:IntKind.i64.wrap (d:Int)=(d:Int):=qQa _ (by omega)
     have HD:=aB hd
     have hd2:d<=n+n:=by omega
     clear hd
     go_wp2
     obtain⟨wo,rfl⟩:∃ wo:World,wo=wr:=⟨_,rfl⟩
     go_loopw [7,8] (λav bv wr=>∃ a b:Nat,av=.int .i64 a/\bv=.int .i64 b/\b=a+d/\a<=n/\Hid (∃ Ds Bs T,Cl d Ds/\Ds.flatten.length=a/\Cl bs Bs/\bI T/\T.length<bs/\fW wr A n c (Ds.flatten++(Bs.flatten++T))/\aU X (Ds.flatten++(Bs.flatten++T)))/\Hid (aC (λg=>aJ A=some g) w wr)) (λav _ _=>n+1-(intOf av).toNat)
     case atStart =>
      obtain⟨Bs,T,q1,q2,q3,q4,q5⟩:=HE.out
      exact⟨0,d,rfl,rfl,by omega,qZc _,aB ⟨[],Bs,T,(λB hB=>by cases hB),rfl,q1,q2,q3,q4,q5⟩,HT3⟩
     case round =>
      obtain⟨a,b,rfl,rfl,hab,han,HE2,HT4⟩:=hrel
      obtain⟨Ds,Bs,T,q1,q2,q3,q4,q5,q6,q7⟩:=HE2.out
      have hlen:=cT q6
      have hbl:=Cm q3
      simp only[qZa] at hlen
      have hdd:=HD.out
      obtain⟨m,hm⟩:=eX (a+bs)
      have w0:(a:Int)+(bs:Int)=(m:Int):=by omega
      have w1:IntKind.i64.wrap (m:Int)=(m:Int):=qQa _ (by omega)
      by_cases h2:b<=n
      ·have y0:(b:Int)<=(n:Int):=by omega
       have hB2:∃ B1 B2 Bs',Bs=B1 :: B2 :: Bs':=by
        rcases tB q3 with⟨_,e⟩ | ⟨B,_,e,_⟩ | ⟨B1,B2,Bs',e,_⟩
        ·omega
        ·omega
        ·exact⟨B1,B2,Bs',e⟩
       obtain⟨B1,B2,Bs',rfl⟩:=hB2
       obtain⟨c1,s1⟩:=q3 B1 (by simp)
       obtain⟨c2,s2⟩:=q3 B2 (by simp)
       have q3':Cl bs Bs':=λB hB=>q3 B (by simp[hB])
       have e1:Ds.flatten++((B1 :: B2 :: Bs').flatten++T)=Ds.flatten++(B1++(B2++(Bs'.flatten++T))):=by simp
       rw[e1] at q6 q7
       have HSM:=aB (Ms A n c hn62 _ wr Ds.flatten B1 B2 (Bs'.flatten++T) a m b q6 q2.symm (by omega) (by omega) (by omega) (by omega) s1 s2 (qJa _))
       have HK:=aB q7
       have HP:=aB (And.intro q1 (And.intro q2 (And.intro q3' (And.intro q4 q5))))
       have HC:=aB (And.intro c1 (And.intro c2 (And.intro hlen hab)))
       obtain⟨b2,hb2⟩:=eX (b+d)
       have y1:(b:Int)+(d:Int)=(b2:Int):=by omega
       have y2:IntKind.i64.wrap (b2:Int)=(b2:Int):=qQa _ (by omega)
       have HB2:=aB hb2
       have hab3:a<b:=by omega
       clear q1 q2 q3 q4 q5 q6 q7 hlen hbl hdd hm e1 c1 c2 s1 s2 q3' HE2 hb2 hab
       go_wp2_with (go_at_call 179;refine HSM.mono ?_;rintro e w2 ⟨rfl,⟨Z,O2,s2,k2⟩,T2⟩;have HO2:=aB O2;have HK2:=aB (And.intro s2 k2);have HT5:=aB (HT4.then T2);clear O2 T2 s2 k2)
       go_roundw
       ·obtain⟨q1,q2,q3',q4,q5⟩:=HP.out
        obtain⟨c1,c2,hlen,hab⟩:=HC.out
        have hl2:=cT HO2
        have hdd:=HD.out
        simp only[qZa,List.flatten_cons] at hlen hl2
        have lz:Z.length=d:=by omega
        refine⟨b,b2,rfl,rfl,HB2,h2,aB ⟨Ds++[Z],Bs',T,He q1 lz HK2.1,by rw[fX,qZa];omega,q3',q4,q5,by rw[fX];simpa using HO2.out,?_⟩,HT5⟩
        rw[fX]
        refine HK.trans ?_
        have:=(aU.refl Ds.flatten).app (HK2.2.app (aU.refl (Bs'.flatten++T)))
        simpa using this
       ·simp[intOf]
        omega
      ·have y0:¬ (b:Int)<=(n:Int):=by omega
       have hB2:(Bs=[]/\Bs.flatten.length=0)\/∃ B,Bs=[B]/\Bs.flatten.length=bs/\B.length=bs/\bI B:=by
        rcases tB q3 with e | e | ⟨B1,B2,Bs',_,e⟩
        ·exact .inl e
        ·exact .inr e
        ·omega
       by_cases h3:m<n
       ·have y1:(m:Int)<(n:Int):=by omega
        have hB3:∃ B,Bs=[B]/\Bs.flatten.length=bs/\B.length=bs/\bI B:=by
         rcases hB2 with⟨_,e⟩ | e
         ·omega
         ·exact e
        obtain⟨B,rfl,c0,c1,s1⟩:=hB3
        have e1:Ds.flatten++([B].flatten++T)=Ds.flatten++(B++(T++[])):=by simp
        rw[e1] at q6 q7
        have HSM:=aB (Ms A n c hn62 _ wr Ds.flatten B T [] a m n q6 q2.symm (by omega) (by omega) (by omega) (by omega) s1 q4 (qJa _))
        have HK:=aB q7
        have HP:=aB (And.intro q1 (And.intro q2 hab))
        clear q1 q2 q3 q4 q5 q6 q7 hlen hbl hdd hm e1 c0 c1 s1 HE2 hab h3 hB2
        go_wp2_with (go_at_call 179;refine HSM.mono ?_;rintro e w2 ⟨rfl,⟨Z,O2,s2,k2⟩,T2⟩;have HO2:=aB O2;have HK2:=aB (And.intro s2 k2);have HT5:=aB (HT4.then T2);clear O2 T2 s2 k2)
        go_roundw
        ·obtain⟨q1,q2,hab⟩:=HP.out
         have hl2:=cT HO2
         have hdd:=HD.out
         simp only[qZa,List.length_nil] at hl2
         refine⟨d,rfl,by omega,by omega,aB ⟨Ds,Z,q1,HK2.1,by omega,by simpa using HO2.out,?_⟩,HT5⟩
         refine HK.trans ?_
         have:=(aU.refl Ds.flatten).app (HK2.2.app (aU.refl ([]:List aE)))
         simpa using this
        ·have:=HD.out
         show n-(d:Int).toNat<n-(bs:Int).toNat
         omega
       ·have y1:¬ (m:Int)<(n:Int):=by omega
        have HS2:Hid (∃ Bs T,Cl d Bs/\bI T/\T.length<d/\fW wr A n c (Bs.flatten++T)/\aU X (Bs.flatten++T)):=aB (by
         rcases hB2 with⟨rfl,_⟩ | ⟨B,rfl,c0,c1,s1⟩
         ·simp only[List.flatten_nil,qQc] at q6 q7
          exact⟨Ds,T,q1,q4,by omega,q6,q7⟩
         ·have e1:T=[]:=qXa (by omega)
          subst e1
          simp at q6 q7
          exact⟨Ds,B,q1,s1,by omega,q6,q7⟩)
        clear q1 q2 q3 q4 q5 q6 q7 hlen hbl hdd hm HE2 hab h3 hB2
        go_wp2
        go_roundw
        ·have hdd:=HD.out
         exact⟨d,rfl,by omega,by omega,HS2,HT4⟩
        ·have:=HD.out
         show n-(d:Int).toNat<n-(bs:Int).toNat
         omega
    ·have x0:¬ (bs:Int)<(n:Int):=by omega
     obtain⟨Bs,T,q1,q2,q3,q4,q5⟩:=HE.out
     have hlen:=cT q4
     have hbl:=Cm q1
     rw[qZa] at hlen
     have hfin:bI (Bs.flatten++T):=by
      rcases tB q1 with⟨rfl,_⟩ | ⟨B,rfl,c0,c1,s1⟩ | ⟨B1,B2,Bs',_,e⟩
      ·simpa using q2
      ·have e1:T=[]:=qXa (by omega)
       subst e1
       simpa using s1
      ·omega
     have HFI:=aB (And.intro q4 (And.intro hfin q5))
     clear q1 q2 q3 q4 q5 hlen hbl hfin HE
     go_wp2
     go_end0
     exact⟨rfl,⟨_,HFI.1,HFI.2.1,HFI.2.2⟩,HT3⟩
theorem Cn(w:World)(A:Option Addr)(n c:Nat)(X:List aE)(h:fW w A n c X)(hn62:n<=5864062014700) :
  Calls Tryz.prog 104 #[.slice A n c,qR] w (Mo w A n c X):=by
 have HX:=aB (Jk w A n c X h hn62)
 clear h
 go_in
 go_wp2_with (go_at_call 152;refine HX.mono ?_;rintro e w2 ⟨rfl,H2,T2⟩;have HZ:=aB H2;have HT:=aB T2;clear H2 T2)
 go_end0
 exact⟨rfl,HZ,HT⟩
end Go.Proofs.YthockgmbooefpaaGreatDoor
