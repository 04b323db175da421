/- What the law rests on, part 19. No condition but those that each theorem names. -/
import Derived.Test.YthockgmbooefpaaGreatDoorV12
import Derived.Test.YthockgmbooefpaaGreatDoorV18
import Derived.Test.YthockgmbooefpaaGreatDoorV15
import Derived.Test.YthockgmbooefpaaGreatDoorV17
import Derived.Test.YthockgmbooefpaaGreatDoorRows
import Derived.Test.YthockgmbooefpaaGreatDoorCards
import Derived.Test.YthockgmbooefpaaGreatDoorTie
import Derived.Deep.DeepHandedRow
import Derived.ProofKit
import Derived.OpenShut
import Derived.SevenTiedAt
set_option linter.unusedSectionVars false
set_option linter.unusedSimpArgs false
set_option linter.unusedVariables false
set_option maxRecDepth 100000
set_option maxHeartbeats 8000000
namespace Go.Proofs.YthockgmbooefpaaGreatDoor
open IntWalk renaming i64_in → qQc
open List renaming getElem_cons_succ → qQa, getElem_cons_zero → qZa, getElem_toArray → qXa, setIfInBounds_toArray → qJa, set_cons_succ → qQb, set_cons_zero → qZb, length_append → qXb, map_drop → qJc, mem_map → qQd, map_take → qZd, length_cons → qXd, getD → qQe, map_append → qZe, range → qXe, getElem?_eq_getElem → qXg, take_append_drop → qXi
open Nat renaming le_trans → qJb, mul_one → qZc, reducePow → qXc, zero_le → qJd, mod_lt → qJe, reduceAdd → qQf, zero_add → qZf
variable{e:Int}{L:List aD}{R:List aT}{c n p:Nat}{A:Option Addr}{v:Value}{w w':World}
open Go.RowKit
structure Eq(w:World)(p:Nat)(A:Option Addr)(n c:Nat)(bs:List UInt8)(e:Int):Prop where
 blk:aL w p 214 #[.slice A n c,.int .i64 e]
 rd:aH w 1 A n (bs.map bG)
 ne:∀ g,aJ A=some g->¬ g=p
 len:bs.length=n
 le:n<=c
 mx:c<=maxLen
theorem Eq.touch{bs:List UInt8}{S:Nat->Prop}(h:Eq w p A n c bs e)(T:aC S w w')(h1:¬ S p)(h2:∀ g,aJ A=some g->¬ S g):Eq w' p A n c bs e :=
 ⟨h.blk.touch T h1,h.rd.touch T h2,h.ne,h.len,h.le,h.mx⟩
theorem Eq.quiet{bs:List UInt8}(h:Eq w p A n c bs e)(T:aC (λ_=>False) w w'):Eq w' p A n c bs e:=h.touch T (λf=>f) (λ_ _ f=>f)
theorem Eq.fail{bs:List UInt8}(h:Eq w p A n c bs e)(k:Int):Eq (w.setCell ⟨p,1,none⟩ (.int .i64 k)) p A n c bs k:=by
 have T:aC (λg=>g=p) w (w.setCell ⟨p,1,none⟩ (.int .i64 k)):=(aC.refl (λg=>g=p) w).setCell (λ_=>rfl) _
 exact⟨h.blk.set_ 1 _,h.rd.touch T (λg hg e=>h.ne g hg e),h.ne,h.len,h.le,h.mx⟩
theorem Eq.step{bs:List UInt8}(h:Eq w p A n c bs e){k:Nat}(hk:k<=n) :
  Eq (w.setCell ⟨p,0,none⟩ (.slice (if c=k then A else A.map (·.add k)) (n-k) (c-k))) p (if c=k then A else A.map (·.add k)) (n-k) (c-k) (bs.drop k) e:=by
 have T:aC (λg=>g=p) w (w.setCell ⟨p,0,none⟩ (.slice (if c=k then A else A.map (·.add k)) (n-k) (c-k))):=(aC.refl (λg=>g=p) w).setCell (λ_=>rfl) _
 have hr:=h.rd.touch T (λg hg e=>h.ne g hg e)
 refine⟨h.blk.set_ 0 _,?_,?_,by rw[List.length_drop,h.len],by have:=h.le;omega,by have:=h.mx;omega⟩
 ·have:=hr.cut hk h.le
  rw[qZc] at this
  rw[qJc]
  exact this
 ·intro g hg
  refine h.ne g ?_
  split at hg
  ·exact hg
  ·cases A with
   | none=>cases hg
   | some a =>
    simp only[aJ,Option.map_some,Option.some.injEq] at hg ⊢
    rw[<-hg]
    unfold Addr.add
    split<;>rfl
def Kq(A A':Option Addr):Prop:=∀ g,aJ A'=some g->aJ A=some g
theorem Eq.same{k:Nat}:Kq A (if c=k then A else A.map (·.add k)):=by
 intro g hg
 split at hg
 ·exact hg
 ·cases A with
  | none=>cases hg
  | some a =>
   simp only[aJ,Option.map_some,Option.some.injEq] at hg ⊢
   rw[<-hg]
   unfold Addr.add
   split<;>rfl
theorem aJt(w:World)(p:Nat)(A:Option Addr)(n c:Nat)(bs:List UInt8)(h:Eq w p A n c bs 0)(most v:Nat)(t:List UInt8)(hu:fC most bs=some (v,t)) :
  Calls Tryz.prog 57 #[.pointer (some ⟨p,0,none⟩),.int .u64 most] w λe w'=>∃ (A':Option Addr) (n' c':Nat),e=.returned (.int .u64 v)/\Eq w' p A' n' c' t 0/\Kq A A'/\aC (λg=>g=p) w w':=by
 have HR:=aB h
 have hnm:n<=maxLen:=qJb h.le h.mx
 have HN:=aB (Ct w A n c bs h.rd h.len hnm)
 obtain⟨f0,f1,f2⟩:=h.blk.facts
 have hle:=h.le
 have hmx:=h.mx
 unfold maxLen at hmx
 have HU:=aB hu
 clear h hnm hu
 go_in
 go_wp2_with fail
 refine HN.mono ?_
 rintro e w1 ⟨hnv,rfl⟩
 rcases hnv with⟨v',k,t',h1,h2,hk0,hk,rfl⟩ | ⟨h1,c',hc',rfl⟩
 ·rw[HR.len] at hk
  have hu:=HU.out
  unfold fC at hu
  rw[h1] at hu
  simp only at hu
  split at hu
  ·rename_i hm
   simp only[Option.some.injEq,Prod.mk.injEq] at hu
   obtain⟨e1,e2⟩:=hu
   subst e1 e2
   have y0:¬ (most:Int)<(v':Int):=by omega
   have hst:=HR.step hk
   rw[<-h2] at hst
   have HST:=aB hst
   obtain⟨g,o,hA,_,_⟩:=HR.rd.form (by omega)
   have HSB:Hid (Kq A (if c=k then A else A.map (·.add k))):=aB Eq.same
   subst hA
   clear h1 h2 hst hm
   by_cases hck:c=k
   ·rw[if_pos hck] at HST HSB
    subst hck
    have hnc:n=c:=by omega
    subst hnc
    simp only[Nat.sub_self] at HST
    go_wp2_with fail
    go_ret
    exact⟨_,_,_,rfl,HST,HSB,(aC.refl (λg=>g=p) w1).setCell (λ_=>rfl) _⟩
   ·rw[if_neg hck] at HST HSB
    simp only[Option.map_some,Addr.add_lit] at HST HSB
    have hck1:¬ (c:Int)=(k:Int):=by omega
    go_wp2_with fail
    go_ret
    exact⟨_,_,_,rfl,HST,HSB,(aC.refl (λg=>g=p) w1).setCell (λ_=>rfl) _⟩
  ·cases hu
 ·have hu:=HU.out
  unfold fC at hu
  rw[h1] at hu
  cases hu
theorem Tx(w:World)(p:Nat)(A:Option Addr)(n c:Nat)(bs:List UInt8)(h:Eq w p A n c bs 0)(hn:n<=35184372088832)(v:Nat)(t:List UInt8)(hu:fC 2097152 bs=some (v,t))(hv0:0<v)(hvt:v<=t.length) :
  Calls Tryz.prog 56 #[.pointer (some ⟨p,0,none⟩),.int .i64 2097152] w λe w'=>∃ (A':Option Addr) (n' c':Nat) (AX:Option Addr) (cX:Nat),e=.returned (.slice AX v cX)/\w'.ownsRow 0 5 1 (.slice AX v cX) v ((t.take v).map bG)/\(∀ g,(Value.slice AX v cX).ownBlock=some g->w.heap.size<=g) /\
   Eq w' p A' n' c' (t.drop v) 0/\Kq A A'/\aC (λg=>g=p) w w':=by
 have HR:=aB h
 have HU:=aB (aJt w p A n c bs h 2097152 v t hu)
 obtain⟨f0,f1,f2⟩:=h.blk.facts
 have hvs:v<=2097152:=(dW hu).2
 have HVT:=aB hvt
 clear h hu hvt
 go_in
 go_wp2_with fail
 refine HU.mono ?_
 rintro e w1 ⟨A1,n1,c1,rfl,h1,hsb,T1⟩
 have HR1:=aB h1
 have HSB:=aB hsb
 have HT1:=aB T1
 have hlen:=h1.len
 have hle:=h1.le
 have hmx:=h1.mx
 have hv1:v<=n1:=by rw[<-hlen];exact HVT
 unfold maxLen at hmx
 have z2:IntKind.u64.wrap (n1:Int)=(n1:Int):=IntWalk.u64_in _ (by omega)
 have y0:¬ (n1:Int)<(v:Int):=by omega
 have y1:(v:Int)<=(c1:Int):=by omega
 have y2:(0:Int)<=(v:Int):=by omega
 have hrd:=h1.rd.take (k:=v) hv1
 rw[qZc,<-qZd] at hrd
 have HCL:=aB (Bh w1 A1 v c1 (t.take v) hrd (by rw[List.length_take,hlen];omega) (by omega))
 have HLEN:=aB hlen
 have HLE:=aB (And.intro hle hv1)
 have hv0I:(0:Int)<(v:Int):=by omega
 have HV0:=aB hv0
 clear h1 hsb T1 HU hrd hlen hv1 f0 f1 f2
 obtain⟨f0,f1,f2⟩:=HR1.blk.facts
 obtain⟨g,o,hA,_,_⟩:=HR1.rd.form (by have:=HLE.out;have:=HV0.out;omega)
 subst hA
 go_wp2_with fail
 refine HCL.mono ?_
 rintro e w2 ⟨A2,n2,c2,rfl,hn2,h2⟩
 subst hn2
 have HO2:=aB h2
 have HR2:=aB (HR1.quiet h2.touch)
 have hst:=HR2.step (k:=n2) HLE.2
 have HST:=aB hst
 have HSB2:Hid (Kq A (if c1=n2 then some ⟨g,o,none⟩ else (some (⟨g,o,none⟩:Addr)).map (·.add n2))):=aB (λg' hg'=>HSB.out g' (Eq.same g' hg'))
 have HT2:=aB (HT1.then (h2.touch.up _))
 clear h2 hst HCL f0 f1 f2
 obtain⟨f0,f1,f2⟩:=HR2.blk.facts
 have own2:∀ u,(w2.setCell ⟨p,0,none⟩ u).ownsRow 0 5 1 (.slice A2 n2 c2) n2 ((t.take n2).map bG):=λu=>aF HO2.own ((aC.refl (λg=>g=p) w2).setCell (p:=⟨p,0,none⟩) (λ_=>rfl) u) (λg' hg' e=>(aM HO2.own hg').ne (aG HR2.blk) (by decide) e)
 have HOW:=aB own2
 have HFR:Hid (∀ g',(Value.slice A2 n2 c2).ownBlock=some g'->w.heap.size<=g'):=aB (λg' hg'=>qJb HT1.size (HO2.fresh g' hg'))
 clear own2
 by_cases hck:c1=n2
 ·rw[if_pos hck] at HST HSB2
  subst hck
  have hnc:n1=c1:=by have:=HLE.out;omega
  subst hnc
  simp only[Nat.sub_self] at HST
  go_wp2_with fail
  go_ret
  exact⟨_,_,_,_,_,rfl,HOW _,HFR,HST,HSB2,HT2.setCell (λ_=>rfl) _⟩
 ·rw[if_neg hck] at HST HSB2
  simp only[Option.map_some,Addr.add_lit] at HST HSB2
  have hck1:¬ (c1:Int)=(n2:Int):=by omega
  go_wp2_with fail
  go_ret
  exact⟨_,_,_,_,_,rfl,HOW _,HFR,HST,HSB2,HT2.setCell (λ_=>rfl) _⟩
theorem On(s:Nat):(zR s).length=4:=rfl
theorem aHc(r d i:Nat)(hi:i<=24)(hr:r<2 ^ i)(hd:d*2 ^ i<4294967296):bits .or .u32 (r:Int) ((d*2 ^ i:Nat):Int)=((r+d*2 ^ i:Nat):Int):=by
 have hr2:r<4294967296:=by
  rcases Nat.eq_zero_or_pos d with h | h
  ·subst h
   exact Nat.lt_of_lt_of_le hr (qJb (Nat.pow_le_pow_right (by decide) (show i<=32 by omega)) (by decide))
  ·have:=Nat.le_mul_of_pos_left (2 ^ i) h
   omega
 rw[u32_or_nat r (d*2 ^ i) hr2 hd,Nat.or_comm,nat_join i (d*2 ^ i) r (Nat.mul_mod_left _ _) hr,Nat.add_comm]
theorem aCs(s k:Nat):s % 256 ^ (k+1)=s % 256 ^ k+s / 256 ^ k % 256*256 ^ k:=by
 rw[Nat.pow_succ,Nat.mod_mul,Nat.mul_comm (256 ^ k)]
theorem aHx(s k:Nat)(hk:k<4):((zR s).getD k 0).toNat=s / 256 ^ k % 256:=by
 unfold zR
 have hm:∀ x:Nat,(UInt8.ofNat (x % 256)).toNat=x % 256:=λx=>by rw[UInt8.toNat_ofNat'];omega
 rcases k with _ | _ | _ | _ | k
 ·simp[hm]
 ·simp[hm]
 ·simp[hm]
 ·simp[hm]
 ·omega
theorem Sz(w:World)(A:Option Addr)(n c:Nat)(x:List UInt8)(hR:aH w 1 A n ((pW x).map bG))(hl:(pW x).length=n)(hnc:n<=c)(hcm:c<=maxLen)(h0:0<x.length)(h1:x.length<=2097152) :
  Calls Tryz.prog 53 #[.slice A n c] w λe w'=>∃ A' c',e=.returned (.tuple #[.slice A' x.length c',.int .i64 (n:Int),.int .i64 0])/\fS 5 1 w w' (.slice A' x.length c') x.length (x.map bG):=by
 obtain⟨s,hs⟩:=eX (sumB x)
 have hslt:s<4294967296:=by rw[hs];unfold sumB;omega
 have hsl:pW x=dJ x.length++(x++zR s):=by unfold pW;rw[hs,List.append_assoc]
 have hlen:n=(dJ x.length).length+(x.length+4):=by rw[<-hl,hsl,qXb,qXb,On]
 have hvl:=dH x.length
 obtain⟨wa,hwa⟩:=eX (w.alloc (.cells #[.slice A n c,.int .i64 0] 214))
 obtain⟨p,hp⟩:=eX w.heap.size
 have hTa:aC (λ_=>False) w wa:=by rw[hwa];exact (aC.refl _ _).alloc _
 have hblk:aL wa p 214 #[.slice A n c,.int .i64 0]:=by rw[hwa,hp];exact aL.new _ _ _
 have hne:∀ g,aJ A=some g->¬ g=p:=by
  intro g hg e
  obtain⟨b,off,hA,hb,_⟩:=hR.2 (by omega)
  rw[hA] at hg
  simp[aJ] at hg
  omega
 have hrg:Eq wa p A n c (pW x) 0:=⟨hblk,hR.touch hTa (λ_ _ f=>f),hne,hl,hnc,hcm⟩
 have hur:fC 2097152 (pW x)=some (x.length,x++zR s):=by rw[hsl];exact eB h1 (by omega) _
 have hby:=Tx wa p A n c (pW x) hrg (by omega) x.length (x++zR s) hur h0 (by rw[qXb];omega)
 have e1:(x++zR s).take x.length=x:=List.take_left' rfl
 have e2:(x++zR s).drop x.length=zR s:=List.drop_left' rfl
 rw[e1,e2] at hby
 have HBY:=aB hby
 have HTA:=aB hTa
 have HWA:=aB hwa
 have HP:=aB hp
 have HSL:=aB hslt
 have HS:=aB hs
 have HXL:=aB (And.intro h0 h1)
 have hnb:n<=2097166:=by omega
 have HNB:=aB hnb
 have hn4:4<=n:=by omega
 have HN4:=aB hn4
 have HPW:Hid (w.heap.size<=p):=aB (by omega)
 clear hsl hlen hvl hwa hp hTa hblk hne hrg hur hby e1 e2 hR hl hnc hcm h0 h1 hs hslt hnb hn4
 go_in
 go_upto_region 2 with fail
 rw[<-HWA.out,<-HP.out]
 go_wp2_with fail
 refine HBY.mono ?_
 rintro e w1 ⟨A1,n1,c1,AX,cX,rfl,hox,hfx,hr1,_,T1⟩
 have hn1:n1=4:=by rw[<-hr1.len];rfl
 subst hn1
 have HR1:=aB hr1
 have HT1:=aB (HTA.trans T1 (λi hi e=>by have:=HPW.out;omega))
 have HOX:Hid (fS 5 1 w w1 (.slice AX x.length cX) x.length (x.map bG)):=aB ⟨hox,HT1,λg hg=>qJb HTA.size (hfx g hg)⟩
 have HSM:=aB (Ls w1 AX x.length cX x (aH.of_own hox) rfl (by have:=HXL.out;omega))
 rw[<-HS.out] at HSM
 have hle:=hr1.le
 have k4:(4:Int)<=(c1:Int):=by omega
 obtain⟨f0,f1,f2⟩:=hr1.blk.facts
 obtain⟨g,o,hA,_,_⟩:=hr1.rd.form (by omega)
 subst hA
 clear hox hfx hr1 T1 HBY hle
 go_wp2_with fail
 go_loopw [7,32] (λsv kv wr=>∃ k:Nat,sv=.int .u32 ((s % 256 ^ k:Nat):Int)/\kv=.int .i64 k/\k<=4/\wr=w1) (λ_ kv _=>4-(intOf kv).toNat)
 case atStart=>exact⟨0,by simp[Nat.mod_one],rfl,by omega,rfl⟩
 case round =>
  obtain⟨k,rfl,rfl,hk',hwr⟩:=hrel
  subst hwr
  by_cases hk:k<4
  ·obtain⟨g',o',hA',_,l0⟩:=Ll HR1.rd k hk HR1.len
   injection hA' with hA'
   injection hA' with hA1 hA2
   subst hA1 hA2
   rw[aHx s k hk] at l0
   have hnx:=aCs s k
   have hor:=aHc (s % 256 ^ k) (s / 256 ^ k % 256) (8*k) (by omega) (by rw[Nat.pow_mul];exact qJe _ (Nat.pow_pos (by decide))) (by
    rw[Nat.pow_mul]
    have h1:s / 256 ^ k % 256<256:=qJe _ (by decide)
    rcases k with _ | _ | _ | _ | k
    ·simp at h1 ⊢;omega
    ·simp at h1 ⊢;omega
    ·simp at h1 ⊢;omega
    ·simp at h1 ⊢;omega
    ·omega)
   rw[show (2:Nat) ^ (8*k)=256 ^ k by rw[Nat.pow_mul]] at hor
   rw[<-hnx] at hor
   obtain⟨r,hr⟩:=eX (s % 256 ^ k)
   obtain⟨d,hd⟩:=eX (s / 256 ^ k % 256)
   obtain⟨r2,hr2⟩:=eX (s % 256 ^ (k+1))
   have hdl:d<256:=by rw[hd];exact qJe _ (by decide)
   rw[<-hr,<-hd,<-hr2] at hor
   rw[<-hd] at l0
   rw[<-hr]
   have HR2:=aB hr2
   have m0:IntKind.u32.wrap (d:Int)=(d:Int):=by rw[IntKind.wrap_u32];omega
   have HDL:=aB hdl
   clear hnx hr hd hr2 hdl
   have hkk:k=0\/k=1\/k=2\/k=3:=by omega
   clear hk hk'
   rcases hkk with rfl | rfl | rfl | rfl
   ·have hr2:=HR2.out
    simp only[qZf,qQf,qXc,qZc] at hor hr2
    rw[Nat.add_zero] at l0
    have HOR:=aB hor
    have HRR:=aB hr2
    clear hor hr2
    go_wp2_with fail
    refine⟨⟨1,?_,rfl,by omega,trivial⟩,by simp[intOf]⟩
    simp only[qXc]
    rw[HOR.out,HRR.out]
   ·have hr2:=HR2.out
    simp only[qZf,qQf,qXc,qZc] at hor hr2
    have e:(d:Int)*256 % 4294967296=((d*256:Nat):Int):=by have:=HDL.out;omega
    have HE:=aB e
    have HOR:=aB hor
    have HRR:=aB hr2
    clear hor hr2 e
    go_wp2_with fail
    refine⟨⟨2,?_,rfl,by omega,trivial⟩,by simp[intOf]⟩
    simp only[qXc]
    rw[HE.out,HOR.out,HRR.out]
   ·have hr2:=HR2.out
    simp only[qZf,qQf,qXc,qZc] at hor hr2
    have e:(d:Int)*65536 % 4294967296=((d*65536:Nat):Int):=by have:=HDL.out;omega
    have HE:=aB e
    have HOR:=aB hor
    have HRR:=aB hr2
    clear hor hr2 e
    go_wp2_with fail
    refine⟨⟨3,?_,rfl,by omega,trivial⟩,by simp[intOf]⟩
    simp only[qXc]
    rw[HE.out,HOR.out,HRR.out]
   ·have hr2:=HR2.out
    simp only[qZf,qQf,qXc,qZc] at hor hr2
    have e:(d:Int)*16777216 % 4294967296=((d*16777216:Nat):Int):=by have:=HDL.out;omega
    have HE:=aB e
    have HOR:=aB hor
    have HRR:=aB hr2
    clear hor hr2 e
    go_wp2_with fail
    refine⟨⟨4,?_,rfl,by omega,trivial⟩,by simp[intOf]⟩
    simp only[qXc]
    rw[HE.out,HOR.out,HRR.out]
  ·have k0:¬ (k:Int)<4:=by omega
   have hk4:k=4:=by omega
   subst hk4
   have e:s % 256 ^ 4=s:=Nat.mod_eq_of_lt (by have:=HSL.out;omega)
   rw[e]
   clear hk hk' e k0
   go_wp2_with fail
   refine HSM.mono ?_
   rintro e w2 ⟨rfl,T2⟩
   have HT2:=aB T2
   have hr2:=HR1.quiet T2
   have hn4:4<=n:=HN4.out
   have z1:IntKind.i64.wrap ((n:Int)-4)=(n:Int)-4:=qQc _ (by have:=HNB.out;omega)
   have z2:IntKind.i64.wrap (n:Int)=(n:Int):=qQc _ (by have:=HNB.out;omega)
   have z3:(n:Int)-4+4=(n:Int):=by omega
   obtain⟨f0,f1,f2⟩:=hr2.blk.facts
   clear T2 HSM hr2 hn4
   go_wp2_with fail
   go_region
   go_wp2_with fail
   go_ret3
   exact⟨AX,cX,rfl,HOX.to (HT2.then (aC.refl _ _).drew)⟩
def qJ:List cU->Nat
 | []=>0
 | s :: l=>s.arcs.length+qJ l
theorem aAg(a b:List cU):qJ (a++b)=qJ a+qJ b:=by
 induction a with
 | nil=>simp[qJ]
 | cons s a ih=>simp only[List.cons_append,qJ,ih];omega
theorem Fr(st:kG->Rs->kG × Nat)(R:Rs):∀ (cs:List Nat) (k:kG),(cY st R k cs).2.length=cs.length
 | [],k=>by simp[cY]
 | c :: cs,k=>by
  have:=Fr st R cs (st k (aI R c)).1
  simp only[cY,qXd,this]
def Zz(st:kG->Rs->kG × Nat):Prop:=∀ k l,bU l->qJ (st k l).1.states<=qJ k.states+gJ l
theorem Fs{st:kG->Rs->kG × Nat}(hst:Zz st){R:Rs}(hR:bU R):∀ (cs:List Nat) (k:kG),(∀ c∈cs,aI R c≠[])->qJ (cY st R k cs).1.states+cs.length<=qJ k.states+(cs.map λc=>Dz c R).sum
 | [],k,_=>by simp[cY]
 | c :: cs,k,hc=>by
  have h1:=hst k (aI R c) (eQ c hR)
  have h2:=Fs hst hR cs (st k (aI R c)).1 (λx hx=>hc x (List.mem_cons_of_mem _ hx))
  have h3:=tV R c
  have h4:0<(aI R c).length:=List.length_pos_iff.2 (hc c List.mem_cons_self)
  simp only[cY,List.map_cons,List.sum_cons,qXd]
  omega
theorem zC:∀ f,Zz (bJ f)
 | 0=>λk l _=>by simp only[bJ];omega
 | f+1=>λk l hs=>by
  simp only[bJ]
  cases hi:qP k.rests (aK l) with
  | some i=>simp only;omega
  | none =>
   have h1:=Fs (zC f) (fH hs) (aO (aK l)) k (λc hc=>bO.1 hc)
   have h2:=Ea (aK l) (aO (aK l)) ((dG (fH hs)).imp λh=>Nat.ne_of_lt h)
   have h3:=Fr (bJ f) (aK l) (aO (aK l)) k
   rw[Eb] at h2
   simp only[aAg,qJ,h3]
   omega
theorem Va(B:Nat):∀ l:Rs,(∀ r∈l,r.1.length<=B)->gJ l<=B*l.length
 | [],_=>by simp[gJ]
 | r :: l,h=>by
  have h1:=Va B l (λx hx=>h x (List.mem_cons_of_mem _ hx))
  have h2:=h r List.mem_cons_self
  simp only[gJ,qXd,Nat.mul_succ]
  omega
theorem Id:∀ (l:List cU) (i:Nat),(pZ i l).length<=20*l.length+30*qJ l
 | [],i=>by simp[pZ,qJ]
 | s :: l,i=>by
  have h1:=Id l (i+1)
  have h2:=Uu i s
  simp only[pZ,qXb,qXd,qJ]
  omega
theorem aCp(hD:aZ L):(aR L).states.length<=24*L.length+1/\qJ (aR L).states<=24*L.length:=by
 by_cases hne:L=[]
 ·subst hne
  have e:(aR []).states=[]:=by simp[aR]
  rw[e]
  simp[qJ]
 ·have ht:gJ (aV L)<=24*L.length:=by
   have h1:=Va 24 (aV L) (λr hr=>by
    unfold aV at hr
    obtain⟨p,hp,rfl⟩:=List.mem_map.1 hr
    exact (hD.word p hp).2.2.2)
   have h2:(aV L).length=L.length:=by unfold aV;rw[List.length_map]
   rw[h2] at h1
   exact h1
  have h3:=tR 25 ⟨[],[]⟩ (aV L) hD.sort
  have h4:=zC 25 ⟨[],[]⟩ (aV L) hD.sort
  have e:(aR L).states=(bJ 25 ⟨[],[]⟩ (aV L)).1.states:=by unfold aR;rw[if_neg hne]
  rw[e]
  simp only[List.length_nil,qJ] at h3 h4
  omega
theorem Be(hD:aZ L)(h1:L.length<=801)(h2:R.length<=801):(kZ L R).length<=2097152:=by
 have h3:=aCp hD
 have h4:=Id (aR L).states 0
 have h5:=rN R
 unfold kZ qO
 have h6:=dH (mB L).length
 have h7:=dH R.length
 have h8:(mB L).length<=20+(pZ 0 (aR L).states).length:=by
  unfold mB qX Ki
  have a1:=dH (aR L).base.toNat
  have a2:=dH (aR L).states.length
  simp only[qXb]
  omega
 simp only[qXb]
 omega
theorem Sh(T:List cS):∀ (L:List aD) (R:List aT),aZ L->(mJ T (L,R)).1.length<=L.length+T.length/\(mJ T (L,R)).2.length<=R.length+T.length:=by
 induction T with
 | nil=>intro L R _;simp[mJ]
 | cons c T ih =>
  intro L R hD
  have h1:=ih (tY c L R) (sQ c L R) (Bn hD c R)
  have h2:(tY c L R).length<=L.length+1:=by
   unfold tY
   split
   ·unfold doW
    split
    ·unfold rY
     split
     ·rw[Ae (dZ hD)]
      split<;>omega
     ·omega
    ·unfold tH
     split
     ·have:=uJ (dZ hD) c.word.toList
      omega
     ·omega
   ·omega
  have h3:(sQ c L R).length<=R.length+1:=by
   unfold sQ
   split
   ·split
    ·simp
    ·omega
   ·split
    ·simp
    ·omega
  have e:mJ (c :: T) (L,R)=mJ T (tY c L R,sQ c L R):=rfl
  rw[e]
  simp only[qXd]
  omega
theorem Ed(w:World)(p:Nat)(A:Option Addr)(n c:Nat)(x:Nat)(t:List UInt8)(h:pQ w p A n c (dJ x++t) 0)(most:Nat)(hx:x<=most)(hx64:x<18446744073709551616) :
  Calls Tryz.prog 57 #[.pointer (some ⟨p,0,none⟩),.int .u64 most] w λe w'=>∃ (A':Option Addr) (n' c':Nat),e=.returned (.int .u64 x)/\pQ w' p A' n' c' t 0/\aC (λg=>g=p) w w' :=
 (Vc w p A n c (dJ x++t) h most).mono (by
   rintro e w' (⟨v,t',A',n',c',hu,rfl,hr,T⟩ | ⟨hu,_⟩)
   ·rw[eB hx hx64] at hu
    simp only[Option.some.injEq,Prod.mk.injEq] at hu
    obtain⟨rfl,rfl⟩:=hu
    exact⟨A',n',c',rfl,hr,T⟩
   ·rw[eB hx hx64] at hu
    cases hu)
structure Zm(w wx:World)(p gm:Nat)(base:Int)(A4:Option Addr)(n4 c4:Nat)(Z:List SV)(A':Option Addr)(i c':Nat)(Rt:List aT):Prop where
 own:wx.ownsRow 0 110 4 (.slice A' i c') i (bD Rt)
 fr:∀ g,(Value.slice A' i c').ownBlock=some g->w.heap.size<=g
 mb:aL wx gm 89 #[.int .i64 base,.slice A4 n4 c4]
 z:eW wx A4 n4 Z
 t:aC (λ_=>False) w wx
 py:w.heap.size<=p
section
variable{w wx wy:World}{p gm:Nat}{base:Int}{A4:Option Addr}{n4 c4:Nat}{Z:List SV}{A':Option Addr}{i c':Nat}{Rt:List aT}
theorem Zm.quiet(h:Zm w wx p gm base A4 n4 c4 Z A' i c' Rt)(T:aC (λ_=>False) wx wy):Zm w wy p gm base A4 n4 c4 Z A' i c' Rt :=
 ⟨aF h.own T (λ_ _ f=>f),h.fr,h.mb.touch T (λf=>f),h.z.quiet T,h.t.then T,h.py⟩
theorem Zm.rd(h:Zm w wx p gm base A4 n4 c4 Z A' i c' Rt)(hp:bQ wx p 214)(T:aC (λg=>g=p) wx wy):Zm w wy p gm base A4 n4 c4 Z A' i c' Rt :=
 ⟨aF h.own T (λg hg e=>(aM h.own hg).ne hp (by decide) e),h.fr,h.mb.touch T (λe=>(aG h.mb).ne hp (by decide) e),h.z.far T (λg t hg ht e=>hg.ne hp (by rcases ht with rfl | rfl | rfl | rfl | rfl<;>decide) e),h.t.trans T (λg hg e=>by have:=h.py;omega),h.py⟩
theorem Zm.row(h:Zm w wx p gm base A4 n4 c4 Z A' i c' Rt){g1:Nat}(hg1:bQ wx g1 110)(hy:w.heap.size<=g1)(hne:∀ g,(Value.slice A' i c').ownBlock=some g->¬ g=g1)(T:aC (λg=>g=g1) wx wy):Zm w wy p gm base A4 n4 c4 Z A' i c' Rt :=
 ⟨aF h.own T (λg hg e=>hne g hg e),h.fr,h.mb.touch T (λe=>(aG h.mb).ne hg1 (by decide) e),h.z.far T (λg t hg ht e=>hg.ne hg1 (by rcases ht with rfl | rfl | rfl | rfl | rfl<;>decide) e),h.t.trans T (λg hg e=>by omega),h.py⟩
end
theorem pQ.row{bs:List UInt8}(h:pQ w p A n c bs e){g1:Nat}(hg1:bQ w g1 110)(T:aC (λg=>g=g1) w w'):pQ w' p A n c bs e :=
 h.touch T (λe=>(aG h.blk).ne hg1 (by decide) e) (λg hg e=>hg.ne hg1 (by decide) e)
def nG(R:List aT)(i:Nat):List UInt8:=(R.drop i).flatMap vH
theorem Sf{i:Nat}(hi:i<R.length){sn cn an hn:Nat}(hr:R.getD i aT.zero=⟨(sn:Int),(cn:Int),(an:Int),(hn:Int)⟩):nG R i=dJ sn++(dJ cn++(dJ an++(dJ hn++nG R (i+1)))):=by
 unfold nG
 rw[List.drop_eq_getElem_cons hi]
 have e2:R[i]=⟨(sn:Int),(cn:Int),(an:Int),(hn:Int)⟩:=by rw[<-hr];simp[qQe,hi]
 rw[e2]
 simp[vH,Uq]
theorem aCj(w:World)(hL:cV w)(hD:aZ L)(hIn:∀ r∈R,r.In)(hg:R.all fL=true)(hRn:R.length<=4096)(hb:(kZ L R).length<=2097152)(A:Option Addr)(n c:Nat)(hrd:aH w 1 A n ((Cd L R).map bG))(hl:(Cd L R).length=n)(hnc:n<=c)(hcm:c<=maxLen) :
  Calls Tryz.prog 19 #[.slice A n c] w λe w'=>∃ s d tb v,e=.returned (.tuple #[bB s,.int .i64 0])/\qG w' s d tb v L 0 R/\w.heap.size<=d/\w.heap.size<=tb/\(∀ g,v.ownBlock=some g->w.heap.size<=g)/\aC (λ_=>False) w w':=by
 obtain⟨i0,hi0,hz0,hz1,hz2⟩:=aQ Tryz.infoRow
 have him:Cd L R=pW (kZ L R):=by unfold Cd;rw[if_pos hb]
 rw[him] at hrd hl
 have hpos:0<(kZ L R).length:=by
  unfold kZ qO
  have:=Ee (mB L).length
  simp only[qXb]
  omega
 have HUS:=aB (Sz w A n c (kZ L R) hrd hl hnc hcm hpos hb)
 obtain⟨x,hx⟩:=eX (kZ L R)
 obtain⟨m,hm⟩:=eX (mB L)
 have hxs:x=dJ m.length++(m++(dJ R.length++nG R 0)):=by
  rw[hx,hm]
  unfold kZ qO nG
  simp
 have hmpos:0<m.length:=by
  rw[hm]
  unfold mB qX Ki
  have:=Ee (aR L).base.toNat
  simp only[qXb]
  omega
 have hml:m.length<=2097152:=by
  rw[<-hx,hxs] at hb
  simp only[qXb] at hb
  omega
 rw[<-hx] at HUS hb
 have HXS:=aB hxs
 have HM:=aB hm
 have HML:=aB (And.intro hmpos hml)
 have HBL:=aB hb
 have HL:=aB hL
 have HD:=aB hD
 have HIN:=aB hIn
 have HG:=aB hg
 have HRN:=aB hRn
 clear hx hm hxs hmpos hml hb hL hD hIn hg hRn him hpos hrd hl hnc hcm
 go_in
 go_wp2_with fail
 refine HUS.mono ?_
 rintro e w1 ⟨A1,c1,rfl,h1⟩
 have HT1:=aB h1.touch
 have HRE:=aB (Nl w1 A1 x.length c1 x (aH.of_own h1.own) rfl (by have:=HBL.out;omega))
 clear h1 HUS
 go_wp2_with fail
 refine HRE.mono ?_
 rintro e w2 ⟨p,A2,n2,c2,rfl,h2,hp2,T2⟩
 have hrg:Eq w2 p A2 n2 c2 x 0:=⟨h2.blk,h2.rd.rd,λg hg e=>by
  by_cases hn:0<n2
  ·exact (h2.rd.ty hn g hg).ne (aG h2.blk) (by decide) e
  ·have h3:=h2.len
   have h4:=HXS.out
   have h5:=HML.1
   rw[h4] at h3
   simp only[qXb] at h3
   omega,h2.len,h2.le,h2.mx⟩
 have hn2:n2<=2097152:=by rw[<-h2.len];exact HBL
 have hby:=Tx w2 p A2 n2 c2 x hrg (by omega) m.length (m++(dJ R.length++nG R 0)) (by rw[HXS.out];exact eB HML.2 (by have:=HML.2;omega) _) HML.1 (by rw[qXb];omega)
 have e1:(m++(dJ R.length++nG R 0)).take m.length=m:=List.take_left' rfl
 have e2:(m++(dJ R.length++nG R 0)).drop m.length=dJ R.length++nG R 0:=List.drop_left' rfl
 rw[e1,e2] at hby
 have HBY:=aB hby
 have HT2:=aB (HT1.then T2)
 have HPY:Hid (w.heap.size<=p):=aB (qJb HT1.size hp2)
 have HTY:Hid (∀ g,aJ A2=some g->bQ w2 g 5):=aB (h2.rd.ty (by
  have h3:=h2.len
  have h4:=HXS.out
  have h5:=HML.1
  rw[h4] at h3
  simp only[qXb] at h3
  omega))
 have HPT:=aB (aG h2.blk)
 clear h2 hp2 T2 hrg hn2 hby e1 e2 HRE
 go_wp2_with fail
 refine HBY.mono ?_
 rintro e w3 ⟨A3,n3,c3,AX,cX,rfl,hox,hfx,hr3,hsb,T3⟩
 have hrdr:pQ w3 p A3 n3 c3 (dJ R.length++nG R 0) 0:=⟨hr3.blk,⟨hr3.rd,λ_ g hg=>(HTY g (hsb g hg)).touch T3 (λe=>(HTY g (hsb g hg)).ne HPT (by decide) e)⟩,hr3.len,hr3.le,hr3.mx⟩
 have HR3:=aB hrdr
 have HT3:=aB (HT2.trans T3 (λi hi e=>by have:=HPY.out;omega))
 have hbm:=lG HD
 obtain⟨base,hbase⟩:∃ bn:Nat,(aR L).base=(bn:Int):=⟨(aR L).base.toNat,by omega⟩
 have HUN:=aB (Sy w3 (cV.touch HL (HT2.trans T3 (λi hi e=>by have:=HPY.out;omega))) base (aR L).states (by omega) (by rw[<-hbase];exact eP HD) AX m.length cX m (by rw[HM.out];unfold mB;rw[hbase]) (aH.of_own hox) rfl (by have:=HML.2;omega))
 have HEB:=aB hbase
 clear hox hfx hr3 hsb T3 hrdr HBY hbm hbase
 go_wp2_with fail
 refine HUN.mono ?_
 rintro e w4 ⟨T4,A4,n4,c4,Z,rfl,hst,hz4,hnc4⟩
 ·have HZ4:=aB hz4
  obtain⟨w5,hw5⟩:=eX (w4.alloc (.cells #[.int .i64 (base:Int),.slice A4 n4 c4] 89))
  obtain⟨gm,hgm⟩:=eX w4.heap.size
  have T5:aC (λ_=>False) w4 w5:=by rw[hw5];exact (aC.refl _ _).alloc _
  have HJ5:Hid (Zm w w5 p gm base A4 n4 c4 Z none 0 0 []):=aB ⟨World.ownsRow_nil _ _ _ _,λg hg=>by simp[Value.ownBlock] at hg,by rw[hw5,hgm];exact aL.new _ _ _,hst.quiet T5,HT3.then (T4.then T5),HPY⟩
  have HR5:=aB ((HR3.quiet T4).quiet T5)
  have HW5:=aB hw5
  have HGM:=aB hgm
  have HU5:=aB (Ed w5 p A3 n3 c3 R.length (nG R 0) HR5 4096 HRN (by have:=HRN.out;omega))
  clear T4 hst hnc4 hz4 hw5 hgm T5 HUN
  go_upto_region 6 with fail
  rw[<-HW5.out,<-HGM.out]
  go_wp2_with fail
  refine HU5.mono ?_
  rintro e w6 ⟨A6,n6,c6,rfl,h6,T6⟩
  have HR6:=aB h6
  have HJ6:=aB (HJ5.rd (aG HR5.blk) T6)
  clear h6 T6 HU5
  go_wp2_with fail
  go_loopw [10,42] (λrv iv wr=>∃ (i:Nat) (A':Option Addr) (c':Nat) (AR:Option Addr) (nR cR:Nat),rv=.slice A' i c'/\iv=.int .u64 i/\i<=R.length/\Hid (Zm w wr p gm base A4 n4 c4 Z A' i c' (R.take i))/\Hid (pQ wr p AR nR cR (nG R i) 0)) (λ_ iv _=>R.length-(intOf iv).toNat)
  case atStart=>exact⟨0,none,0,A6,n6,c6,rfl,rfl,qJd _,HJ6,HR6⟩
  case round =>
   obtain⟨i,A',c',AR,nR,cR,rfl,rfl,hi',HJ,HR⟩:=hrel
   obtain⟨wo,hwo⟩:=eX wr
   subst hwo
   by_cases hi:i<R.length
   ·have y0:(i:Int)<(R.length:Int):=by omega
    have y1:(0:Int)<=(i:Int):=by omega
    have y2:IntKind.u64.wrap ((i:Int)+1)=(i:Int)+1:=IntWalk.u64_in _ (by have:=HRN.out;omega)
    have hrm:R.getD i aT.zero∈R:=by
     have e2:R.getD i aT.zero=R[i]:=by simp[qQe,hi]
     rw[e2];exact List.getElem_mem _
    have hri:=HIN.out _ hrm
    obtain⟨⟨rs,rc,rr,rh⟩,hr⟩:∃ r,r=R.getD i aT.zero:=⟨_,rfl⟩
    rw[<-hr] at hri
    obtain⟨i1,i2,i3,i4,i5,i6,i7,i8⟩:=hri
    simp only at i1 i2 i3 i4 i5 i6 i7 i8
    obtain⟨sn,hsn⟩:∃ n:Nat,rs=(n:Int):=⟨rs.toNat,by omega⟩
    obtain⟨cn,hcn⟩:∃ n:Nat,rc=(n:Int):=⟨rc.toNat,by omega⟩
    obtain⟨an,han⟩:∃ n:Nat,rr=(n:Int):=⟨rr.toNat,by omega⟩
    obtain⟨hn,hhn⟩:∃ n:Nat,rh=(n:Int):=⟨rh.toNat,by omega⟩
    subst hsn hcn han hhn
    have z2:IntKind.i64.wrap (cn:Int)=(cn:Int):=qQc _ (by omega)
    have z3:IntKind.i64.wrap (hn:Int)=(hn:Int):=qQc _ (by omega)
    have hst:=Sf hi hr.symm
    have htk:R.take (i+1)=R.take i++[⟨(sn:Int),(cn:Int),(an:Int),(hn:Int)⟩]:=by
     rw[List.take_succ_eq_append_getElem hi]
     have e2:R[i]=⟨(sn:Int),(cn:Int),(an:Int),(hn:Int)⟩:=by rw[hr];simp[qQe,hi]
     rw[e2]
    have HB4:Hid (sn<18446744073709551616/\cn<=65535/\an<18446744073709551616/\hn<=1048576):=aB (by omega)
    have hRr:=HR.out
    rw[hst] at hRr
    have HU1:=aB (Ed wo p AR nR cR sn _ hRr 18446744073709551615 (by have:=HB4.out;omega) HB4.1)
    have HPT1:=aB (aG hRr.blk)
    have HTK:=aB htk
    have HI:=aB hi
    clear hrm hr i1 i2 i3 i4 i5 i6 i7 i8 hst htk hRr hi hi'
    go_wp2_with fail
    refine HU1.mono ?_
    rintro e w7 ⟨A7,n7,c7,rfl,h7,T7⟩
    obtain⟨w8,hw8⟩:=eX (w7.alloc (.cells #[.int .u64 (sn:Int),.int .i64 0,.int .u64 0,.int .i64 0] 110))
    obtain⟨gr,hgr⟩:=eX w7.heap.size
    have T8:aC (λ_=>False) w7 w8:=by rw[hw8];exact (aC.refl _ _).alloc _
    have HRW8:Hid (aL w8 gr 110 #[.int .u64 (sn:Int),.int .i64 0,.int .u64 0,.int .i64 0]):=aB (by rw[hw8,hgr];exact aL.new _ _ _)
    have HJ7:=aB (HJ.rd HPT1 T7)
    have HJ8:=aB (HJ7.quiet T8)
    have HR8:=aB (h7.quiet T8)
    have HGY:Hid (w.heap.size<=gr/\∀ g,(Value.slice A' i c').ownBlock=some g->¬ g=gr):=aB ⟨by rw[hgr];exact HJ7.t.size,λg hg e=>by have:=(aM HJ7.own hg).lt;omega⟩
    have HU2:=aB (Ed w8 p A7 n7 c7 cn _ HR8 65535 HB4.2.1 (by have:=HB4.out;omega))
    have HW8:=aB hw8
    have HGR:=aB hgr
    clear h7 T7 T8 hw8 hgr HU1
    go_upto_region 10 with fail
    rw[<-HW8.out,<-HGR.out]
    go_wp2_with fail
    refine HU2.mono ?_
    rintro e w9 ⟨A9,n9,c9,rfl,h9,T9⟩
    have HRW9:=aB (HRW8.touch T9 (λe=>(aG HRW8).ne (aG HR8.blk) (by decide) e))
    have HJ9:=aB (HJ8.rd (aG HR8.blk) T9)
    have HR9:=aB h9
    clear h9 T9 HU2
    obtain⟨f0,f1,f2⟩:=HRW9.facts
    go_upto_region 11 with fail
    obtain⟨wb,hwb⟩:=eX (w9.setCell ⟨gr,1,none⟩ (.int .i64 (cn:Int)))
    have Tb:aC (λg=>g=gr) w9 wb:=by rw[hwb];exact (aC.refl (λg=>g=gr) w9).setCell (p:=⟨gr,1,none⟩) (λ_=>rfl) _
    have HRWb:Hid (aL wb gr 110 #[.int .u64 (sn:Int),.int .i64 (cn:Int),.int .u64 0,.int .i64 0]):=aB (by rw[hwb];simpa using HRW9.set_ 1 (.int .i64 (cn:Int)))
    have HJb:=aB (HJ9.row (aG HRW9) HGY.1 HGY.2 Tb)
    have HRb:=aB (HR9.row (aG HRW9) Tb)
    have HU3:=aB (Ed wb p A9 n9 c9 an _ HRb 18446744073709551615 (by have:=HB4.out;omega) HB4.2.2.1)
    rw[<-hwb]
    clear hwb Tb f0 f1 f2
    go_wp2_with fail
    refine HU3.mono ?_
    rintro e wc ⟨AC,nC,cC,rfl,hc,Tc⟩
    have HRWc:=aB (HRWb.touch Tc (λe=>(aG HRWb).ne (aG HRb.blk) (by decide) e))
    have HJc:=aB (HJb.rd (aG HRb.blk) Tc)
    have HRc:=aB hc
    clear hc Tc HU3
    obtain⟨f0,f1,f2⟩:=HRWc.facts
    go_upto_region 12 with fail
    obtain⟨wd,hwd⟩:=eX (wc.setCell ⟨gr,2,none⟩ (.int .u64 (an:Int)))
    have Td:aC (λg=>g=gr) wc wd:=by rw[hwd];exact (aC.refl (λg=>g=gr) wc).setCell (p:=⟨gr,2,none⟩) (λ_=>rfl) _
    have HRWd:Hid (aL wd gr 110 #[.int .u64 (sn:Int),.int .i64 (cn:Int),.int .u64 (an:Int),.int .i64 0]):=aB (by rw[hwd];simpa using HRWc.set_ 2 (.int .u64 (an:Int)))
    have HJd:=aB (HJc.row (aG HRWc) HGY.1 HGY.2 Td)
    have HRd:=aB (HRc.row (aG HRWc) Td)
    have HU4:=aB (Ed wd p AC nC cC hn _ HRd 1048576 HB4.2.2.2 (by have:=HB4.out;omega))
    rw[<-hwd]
    clear hwd Td f0 f1 f2
    go_wp2_with fail
    refine HU4.mono ?_
    rintro e we ⟨AE,nE,cE,rfl,he,Te⟩
    have HRWe:=aB (HRWd.touch Te (λe=>(aG HRWd).ne (aG HRd.blk) (by decide) e))
    have HJe:=aB (HJd.rd (aG HRd.blk) Te)
    have HRe:=aB he
    clear he Te HU4
    obtain⟨f0,f1,f2⟩:=HRWe.facts
    go_upto_region 13 with fail
    obtain⟨wf,hwf⟩:=eX (we.setCell ⟨gr,3,none⟩ (.int .i64 (hn:Int)))
    have Tf:aC (λg=>g=gr) we wf:=by rw[hwf];exact (aC.refl (λg=>g=gr) we).setCell (p:=⟨gr,3,none⟩) (λ_=>rfl) _
    have HRWf:Hid (aL wf gr 110 #[.int .u64 (sn:Int),.int .i64 (cn:Int),.int .u64 (an:Int),.int .i64 (hn:Int)]):=aB (by rw[hwf];simpa using HRWe.set_ 3 (.int .i64 (hn:Int)))
    have HJf:=aB (HJe.row (aG HRWe) HGY.1 HGY.2 Tf)
    have HRf:=aB (HRe.row (aG HRWe) Tf)
    rw[<-hwf]
    clear hwf Tf f0 f1 f2
    obtain⟨f0,f1,f2⟩:=HRWf.facts
    go_wp2_with (at_builtin;refine aP _ rfl (.tmp 61) (.tmp 63) 106 rfl 110 i0 _ 4 32 Tryz.underlying106 hi0 hz0 hz1 hz2 rfl (by decide) (.slice A' i c') i _ rfl (aF HJf.own ((aC.refl _ _).alloc _) (λ_ _ f=>f)) (some ⟨_,0,none⟩) 1 1 (aT.cells ⟨(sn:Int),(cn:Int),(an:Int),(hn:Int)⟩) rfl ?s1a ?s1b ?s1c ?s1d ?s1e ?_)
    case s1a =>
     have h:=aH.new (size:=4) wf 110 [.int .u64 (sn:Int),.int .i64 (cn:Int),.int .u64 (an:Int),.int .i64 (hn:Int)] 1 rfl
     simpa [aT.cells] using h
    try (case s1b=>exact λh=>by cases h)
    case s1c=>exact List.all_eq_true.1 rfl
    case s1d=>have:=HI.out;have:=HRN.out;unfold maxLen;omega
    case s1e=>have:=HI.out;have:=HRN.out;omega
    intro vg wg hown hgrow hfr _
    obtain⟨AG,cG,hvg,_,_⟩:=aS hown
    subst hvg
    have Tg:aC (λg=>(Value.slice A' i c').ownBlock=some g) wf wg:=((aC.refl (λg=>(Value.slice A' i c').ownBlock=some g) wf).alloc _).grown hgrow (λk hk _=>hk)
    have HJg:Hid (Zm w wg p gm base A4 n4 c4 Z AG (i+1) cG (R.take (i+1))):=aB (by
     refine⟨by rw[HTK.out,nT];exact hown,λg hg=>?_,HJf.mb.touch Tg (bY HJf.own HJf.mb (by decide)),HJf.z.far Tg (λg t hg ht e=>hg.ne (aM HJf.own e) (by rcases ht with rfl | rfl | rfl | rfl | rfl<;>decide) rfl),HJf.t.trans Tg (λg hg e=>by have:=HJf.fr g e;omega),HJf.py⟩
     rcases hfr with e | ⟨g',e,hg'⟩
     ·exact HJf.fr g (by rw[<-e];exact hg)
     ·rw[hg] at e
      injection e with e
      have:=HJf.t.size
      simp at hg'
      omega)
    have HRg:=aB (HRf.touch Tg (bY HJf.own HRf.blk (by decide)) (λg hg e=>hg.ne (aM HJf.own e) (by decide) rfl))
    clear hown hgrow hfr Tg
    go_wp2_with fail
    go_roundw
    ·exact⟨i+1,AG,cG,AE,nE,cE,rfl,by simp,by have:=HI.out;omega,HJg,HRg⟩
    ·have:=HI.out
     simp only[intOf]
     omega
   ·have y0:¬ (i:Int)<(R.length:Int):=by omega
    have hie:i=R.length:=by omega
    subst hie
    have e1:R.take R.length=R:=List.take_length
    have e2:nG R R.length=[]:=by unfold nG;rw[List.drop_length];rfl
    rw[e1] at HJ
    rw[e2] at HR
    have HSL:=aB (aEd wo A' R.length c' R rfl (aH.of_own HJ.own) (kM HJ.own) HRN)
    clear hi hi' e1 e2
    go_wp2_with fail
    refine HSL.mono ?_
    rintro e w7 ⟨T7,hsl⟩
    rcases hsl with⟨hbad,_⟩ | ⟨_,tb,v,rfl,htb,hty,hvy⟩
    ·rw[HG.out] at hbad
     cases hbad
    ·have HTB:=aB htb
     have HYB:Hid (w.heap.size<=tb/\∀ g,v.ownBlock=some g->w.heap.size<=g):=aB ⟨qJb HJ.t.size hty,λg hg=>qJb HJ.t.size (hvy g hg)⟩
     have HJ7:=aB (HJ.quiet T7)
     have hen:=Ub w7 p AR nR cR [] 0 (HR.quiet T7)
     have hn0:nR=0:=by rw[<-HR.len];rfl
     have HEN:=aB hen
     have HN0:=aB hn0
     clear T7 htb hty hvy hen hn0 HSL
     go_wp2_with fail
     refine HEN.mono ?_
     rintro e w8 ⟨x8,rfl,hx8,rfl⟩
     have hx0:x8=0:=by
      unfold Zp at hx8
      exact hx8.2 ⟨rfl,HN0⟩
     subst hx0
     have HM7:=aB (HJ7.mb)
     have hdn:=Bm w8 (cV.touch HL HJ7.t) L HD A4 n4 c4 Z HJ7.z HZ4
     rw[HEB.out] at hdn
     have HDN:=aB hdn
     clear hx8 hdn HEN
     obtain⟨f0,f1,f2⟩:=HM7.facts
     go_wp2_with fail
     refine HDN.mono ?_
     rintro e w9 ⟨b,A9,c9,Z9,wA9,wc9,rfl,hdw,hni⟩
     have T9:=hni.touch
     have HDW:=aB hdw
     have HT9:=aB (HJ7.t.then T9)
     have HTB9:=aB (HTB.touch T9 (λf=>f) (λ_ _ f=>f))
     have HAA:=aB (Tv w9 b)
     clear hdw hni T9 HDN f0 f1 f2
     go_wp2_with fail
     refine HAA.mono ?_
     rintro e wa ⟨B,rfl,hB,Ta⟩
     have HCO:=aB (yG (cV.touch HL (HT9.then Ta)) (HDW.quiet Ta) HD B hB)
     have HTa:=aB (HT9.then Ta)
     have HTBa:=aB (HTB9.touch Ta (λf=>f) (λ_ _ f=>f))
     clear hB Ta HAA
     go_wp2_with fail
     refine HCO.mono ?_
     rintro e wb ⟨AP,cP,rfl,hP⟩
     have HTb:=aB (HTa.then hP.touch)
     have HTBb:=aB (HTBa.touch hP.touch (λf=>f) (λ_ _ f=>f))
     have hld:=Ge wb (cV.touch HL HTb) ⟨AP,L.length,cP,L⟩ (vF hP.own) (λr hr=>lT HD r hr) (by have:=HD.len;unfold maxLen;simp only;omega)
     simp only[SL.val] at hld
     have HLD:=aB hld
     clear hP hld HCO
     go_wp2_with fail
     refine HLD.mono ?_
     rintro e wd (⟨hr,_⟩ | ⟨_,d,rfl,hd,hdl,Td⟩)
     ·rw[Dd HD.out] at hr
      cases hr
     ·have HDD:=aB hd
      have HTd:=aB (HTb.then Td)
      have HTBd:=aB (HTBb.touch Td (λf=>f) (λ_ _ f=>f))
      have HDL:Hid (w.heap.size<=d):=aB (qJb HTb.size hdl)
      clear hd hdl Td HLD
      go_wp2_with fail
      go_ret2
      exact⟨wd.heap.size,d,tb,v,rfl,⟨aL.new _ _ _,HDD.quiet ((aC.refl _ _).alloc _),HTBd.alloc _,HRN⟩,HDL,HYB.1,HYB.2,HTd.alloc _⟩
theorem Aq.other{W:World}{s d tb:Nat}{q:Nat}{s' d' tb':Nat}{v':Value}{L':List aD}{q':Nat}{R':List aT}(h:Aq W w s d tb v L q R)(k:Aq W w s' d' tb' v' L' q' R')(hd:¬ d=d')(ht:¬ tb=tb')(hv:∀ g,v.ownBlock=some g->¬ v'.ownBlock=some g)
  (T:aC (Go.Proofs.YthockgmbooefpaaGreatDoor.stF d' tb' v') w w'):Aq W w' s d tb v L q R:=by
 have hk:=k.st
 have hh:=h.st
 refine⟨⟨hh.blk.touch T (λe=>?_),hh.dct.far T (λe=>?_) (λg t hg ht2 e=>?_),hh.tab.touch T (λe=>?_) (λg hg e=>?_),hh.few⟩,h.y,h.t.trans T (λg hg e=>by have:=k.stF g e;omega),h.lw⟩
 ·rcases e with e | e
  ·exact (aG hh.blk).ne hk.dct.ty (by decide) e
  ·exact oE hk.tab (aG hh.blk) (by decide) (by decide) e
 ·rcases e with e | e
  ·exact hd e
  ·exact oE hk.tab hh.dct.ty (by decide) (by decide) e
 ·rcases e with e | e
  ·exact hg.ne hk.dct.ty (by rcases ht2 with rfl | rfl | rfl | rfl | rfl<;>decide) e
  ·exact oE hk.tab hg (by rcases ht2 with rfl | rfl | rfl | rfl | rfl<;>decide) (by rcases ht2 with rfl | rfl | rfl | rfl | rfl<;>decide) e
 ·rcases e with e | e | e
  ·exact (aG hh.tab.1).ne hk.dct.ty (by decide) e
  ·exact ht e
  ·exact (aG hh.tab.1).ne (aM hk.tab.2 e) (by decide) rfl
 ·have hgt:=aM hh.tab.2 hg
  rcases e with e | e | e
  ·exact hgt.ne hk.dct.ty (by decide) e
  ·exact hgt.ne (aG hk.tab.1) (by decide) e
  ·exact hv g hg e
theorem vE{l:List UInt8}(h:w.ownsRow 0 5 1 (.slice A n c) n (l.map bG)):n<=c/\c<=maxLen:=by
 obtain⟨A',c',hv,h1,h2⟩:=aS h
 injection hv with e1 e2 e3
 subst e3
 exact⟨by omega,h2⟩
theorem aBs{c:cS}(h:kS c R=true):¬ c.seq=0:=by
 intro h0
 unfold kS at h
 simp only[Bool.and_eq_true,decide_eq_true_eq] at h
 have h2:=h.1.2
 unfold Ej Ln at h2
 rw[h0] at h2
 split at h2
 ·simp at h2
 ·simp at h2
theorem aAy(h:R.all fL=true)(c:cS):(sQ c L R).all fL=true:=by
 unfold sQ
 split
 ·split
  ·rw[List.all_append,h]
   simp[fL,aT.zero]
  ·exact h
 ·split
  ·rename_i hg
   have hs:=aBs hg
   rw[List.all_eq_true] at h ⊢
   intro r hr
   rcases List.mem_or_eq_of_mem_set hr with e | e
   ·exact h r e
   ·subst e
    simp[fL,hs]
  ·exact h
theorem Yt(h:R.all fL=true)(T:List cS)(L:List aD):(mJ T (L,R)).2.all fL=true:=by
 induction T generalizing L R with
 | nil=>exact h
 | cons c T ih=>exact ih (aAy h c) (tY c L R)
def Mc(x:Int):Value:=.int .i64 x
theorem aJc{I:List Int}(h:aH w 1 A n (I.map Mc))(hl:I.length=n)(i:Nat)(hi:i<n):∃ g o,A=some ⟨g,o,none⟩/\g<w.heap.size/\w.cell? ⟨g,o+i,none⟩=some (.int .i64 (I.getD i 0)):=by
 obtain⟨g,o,hA,hg,hc⟩:=h.2 (by omega)
 refine⟨g,o,hA,hg,hc i _ ?_⟩
 simp[qQe,Mc,show i<I.length by omega]
theorem Hr{size:Nat}{xs:List Value}(h:aH w size A n xs)(hn:0<n):∀ g,aJ A=some g->g<w.heap.size:=by
 intro g hg
 obtain⟨b,off,hA,hb,_⟩:=h.2 hn
 rw[hA] at hg
 simp[aJ] at hg
 omega
theorem pE(bs:List UInt8):∀ u∈bs.map bG,u.oneCell'=true:=by
 intro u hu
 obtain⟨b,_,rfl⟩:=List.mem_map.1 hu
 rfl
theorem Sm(W:World)(hL:cV W)(A:Option Addr)(n c:Nat)(T:List cS)(hT:T.length=n)(hR:aH W 5 A n (wE T))(hWf:∀ o∈T,o.Wf)(hIn:∀ o∈T,o.In)(hm:n<=maxLen)(B:Option Addr)(m bc:Nat)(I:List Int)(hI:I.length=m)(hRI:aH W 1 B m (I.map Mc))(hmm:m<=maxLen)(a:ByteArray)(ha:a.size<=9223372036854775807)(k y:Int) :
  Calls Tryz.prog 4 #[.slice A n c,.slice B m bc,.agg #[.string a,.int .i64 k,.int .i64 y]] W λe W'=>e=.returned (.bool true)/\aC (λ_=>False) W W':=by
 obtain⟨i0,hi0,hz0,hz1,hz2⟩:=aQ kD
 unfold maxLen at hm hmm
 obtain⟨wa,hwa⟩:=eX (W.alloc (.cells #[.string a,.int .i64 k,.int .i64 y] 24))
 obtain⟨qb,hqb⟩:=eX W.heap.size
 have hTa:aC (λ_=>False) W wa:=by rw[hwa];exact (aC.refl _ _).alloc _
 have HQB:Hid (aL wa qb 24 #[.string a,.int .i64 k,.int .i64 y]):=aB (by rw[hwa,hqb];exact aL.new _ _ _)
 have HTA:=aB hTa
 have HWA:=aB hwa
 have HQ0:=aB hqb
 have HN:=aB (aJq wa (cV.touch hL hTa))
 have HLW:=aB (cV.touch hL hTa)
 have HTL:=aB hT
 have HRD:=aB (hR.touch hTa (λ_ _ f=>f))
 have HRI:=aB (hRI.touch hTa (λ_ _ f=>f))
 have HIL:=aB hI
 have HWO:=aB hWf
 have HIO:=aB hIn
 have HHA:=aB ha
 have HHM:=aB (And.intro hm hmm)
 clear hL hT hR hWf hIn hI hRI hwa hqb hTa ha
 by_cases hbig:n<=400/\m<=2000
 ·have k1:¬ (400:Int)<(n:Int):=by omega
  have k2:¬ (2000:Int)<(m:Int):=by omega
  have HNI:=aB hbig
  clear hm hmm hbig
  go_in
  go_upto_region 1 with fail
  rw[<-HWA.out,<-HQ0.out]
  go_wp2_with fail
  refine HN.mono ?_
  rintro e w1 ⟨s,d,tb,rfl,hy⟩
  have HY:=aB hy
  clear hy HN
  go_wp2_with fail
  go_loopw [41] (λiv wr=>∃ (i:Nat) (q:Nat) (v:Value),iv=.int .i64 i/\i<=n/\Hid (Aq wa wr s d tb v (mJ (T.take i) ([],[])).1 q (mJ (T.take i) ([],[])).2)) (λiv _=>n-(intOf iv).toNat)
  case atStart=>exact⟨0,_,_,rfl,qJd _,HY⟩
  case round =>
   obtain⟨i,q,v,rfl,hin',HYr⟩:=hrel
   obtain⟨wo,hwo⟩:=eX wr
   subst hwo
   by_cases hin:i<n
   ·have y0:(i:Int)<(n:Int):=by omega
    have y1:(0:Int)<=(i:Int):=by omega
    have y2:IntKind.i64.wrap ((i:Int)+1)=(i:Int)+1:=qQc _ (by have:=HNI.out;omega)
    obtain⟨gl,ol,hAl,hgl,l0,l1,l2,l3,l4⟩:=aAr (HRD.touch HYr.t (λ_ _ f=>f)) HTL.symm i hin
    subst hAl
    have hwf:(T.getD i cS.zero).Wf:=HWO.out _ (aEs (by rw[HTL.out];exact hin))
    have hrun:=Hx T i (by rw[HTL.out];exact hin) ([],[])
    obtain⟨⟨kd,sid,sq,kw,kn⟩,ho⟩:∃ o,o=T.getD i cS.zero:=⟨_,rfl⟩
    rw[<-ho] at l0 l1 l2 l3 l4 hwf hrun
    simp only at l0 l1 l2 l3 l4
    obtain⟨⟨L,R⟩,hLR⟩:∃ y,y=mJ (T.take i) ([],[]):=⟨_,rfl⟩
    rw[<-hLR] at hrun HYr
    simp only[Oh] at hrun HYr
    have hdo:=λ(wx:World) (t:Aq wa wx s d tb v L q R)=>aKz wx t ⟨kd,sid,sq,kw,kn⟩ hwf
    obtain⟨Lj,hLj⟩:=eX (tY ⟨kd,sid,sq,kw,kn⟩ L R)
    obtain⟨Rj,hRj⟩:=eX (sQ ⟨kd,sid,sq,kw,kn⟩ L R)
    obtain⟨ans,hans⟩:=eX (kA (Ei ⟨kd,sid,sq,kw,kn⟩ L R))
    rw[<-hLj,<-hRj] at hrun
    rw[<-hLj,<-hRj,<-hans] at hdo
    simp only[cS.val] at hdo
    have HDO:=aB hdo
    have HIN:=aB hin
    have HRUN:=aB hrun
    clear hdo hLj hRj hans ho hwf hin hin' hLR hrun
    go_wp2_with fail
    refine (HDO _ (HYr.quiet ((aC.refl _ _).alloc _))).mono ?_
    rintro e w2 ⟨rfl,⟨v2,q2,hy2⟩,T2⟩
    have HY2:=aB hy2
    clear hy2 T2 HDO l0 l1 l2 l3 l4
    go_wp2_with fail
    go_roundw
    ·exact⟨i+1,q2,v2,by simp,by have:=HIN.out;omega,by rw[HRUN.out];exact HY2⟩
    ·have:=HIN.out
     simp only[intOf]
     omega
   ·have y0:¬ (i:Int)<(n:Int):=by omega
    have hie:T.take i=T:=List.take_of_length_le (by rw[HTL.out];omega)
    rw[hie] at HYr
    have hri:=aHo qM (R:=[]) (λr hr=>by cases hr) T HIO
    have hgd:=Yt (R:=[]) rfl T []
    have hsh:=Sh T [] [] qM
    have HDD:=aB (Hw qM [] T)
    simp only[List.length_nil,HTL.out] at hsh
    have HRA:=aB (λ(wx:World) (t:aC (λ_=>False) wa wx)=>aDh wx A n c T HTL (HRD.touch t (λ_ _ f=>f)) HWO HNI.1)
    obtain⟨⟨Lj,Rj⟩,hLR⟩:∃ y,y=mJ T ([],[]):=⟨_,rfl⟩
    rw[<-hLR] at HYr HRA HDD hri hgd hsh
    simp only at HYr HRA HDD hri hgd hsh
    have HIM:=aB (Ww wo HYr.l HYr.st hri)
    have HLO:=aB (λ(wx:World) (h:cV wx) (A:Option Addr) (n c:Nat) (hrd:aH wx 1 A n ((Cd Lj Rj).map bG)) (hl:(Cd Lj Rj).length=n) (hnc:n<=c) (hcm:c<=maxLen)=>aCj wx h HDD hri hgd (by have:=hsh.2;have:=HNI.out;omega) (Be HDD (by have:=hsh.1;have:=HNI.out;omega) (by have:=hsh.2;have:=HNI.out;omega)) A n c hrd hl hnc hcm)
    have HIB:Hid (0<(Cd Lj Rj).length/\(Cd Lj Rj).length<=4194304):=aB (by
     have hb:=Be HDD (R:=Rj) (by have:=hsh.1;have:=HNI.out;omega) (by have:=hsh.2;have:=HNI.out;omega)
     unfold Cd
     rw[if_pos hb]
     unfold pW
     have h1:=dH (kZ Lj Rj).length
     have h2:=On (sumB (kZ Lj Rj))
     simp only[qXb]
     omega)
    clear hin hin' hie hLR hri hgd hsh
    go_wp2_with fail
    refine HIM.mono ?_
    rintro e w2 ⟨AI,qI,cI,rfl,hoI⟩
    obtain⟨im,him⟩:=eX (Cd Lj Rj)
    rw[<-him] at hoI HLO HIB
    have hql:=qW hoI.own
    obtain⟨hle,hcm⟩:=vE hoI.own
    obtain⟨gI,oI,hAI,_,_⟩:=(aH.of_own hoI.own).form (by rw[<-hql];exact HIB.1)
    subst hAI
    have HOI:=aB hoI
    have HQL:=aB hql
    have HCP:=aB (And.intro hle hcm)
    clear hoI hql hle hcm him HIM
    go_wp2_with fail
    go_loopw [11,53] (λgv iv wr=>∃ (j:Nat) (AG:Option Addr) (cG:Nat) (i:Nat),gv=.slice AG j cG/\iv=.int .i64 i/\i<=m/\j<=qI/\Hid (fS 5 1 w2 wr (.slice AG j cG) j ((im.take j).map bG))) (λ_ iv _=>m-(intOf iv).toNat)
    case atStart=>exact⟨0,none,0,0,rfl,rfl,qJd _,qJd _,aB ⟨World.ownsRow_nil _ _ _ _,aC.refl _ _,λg hg=>by simp[Value.ownBlock] at hg⟩⟩
    case round =>
     obtain⟨j,AG,cG,i2,rfl,rfl,hi2',hj,HG⟩:=hrel
     obtain⟨wk,hwk⟩:=eX wr
     subst hwk
     by_cases hi2:i2<m
     ·have x0:(i2:Int)<(m:Int):=by omega
      have x1:(0:Int)<=(i2:Int):=by omega
      have x2:IntKind.i64.wrap ((i2:Int)+1)=(i2:Int)+1:=qQc _ (by have:=HNI.out;omega)
      obtain⟨gs,os,hBs,_,d0⟩:=aJc (HRI.touch (HYr.t.then (HOI.touch.then HG.touch)) (λ_ _ f=>f)) HIL i2 hi2
      subst hBs
      obtain⟨x,hx⟩:=eX (I.getD i2 0)
      rw[<-hx] at d0
      have hqb:=HIB.out
      rw[HQL.out] at hqb
      obtain⟨dI,hdI⟩:∃ dI:Int,dI=(qI:Int)-(j:Int):=⟨_,rfl⟩
      have z0:IntKind.i64.wrap ((qI:Int)-(j:Int))=dI:=by rw[hdI];exact qQc _ (by omega)
      obtain⟨xm,hxm⟩:∃ xm:Int,xm=max x 0:=⟨_,rfl⟩
      have m0:max x 0=xm:=hxm.symm
      have hcase:∃ kq h:Nat,h=j+kq/\j+kq<=qI/\((dI<xm/\256<dI/\IntKind.i64.wrap ((j:Int)+256)=(h:Int))\/(¬ dI<xm/\256<xm/\IntKind.i64.wrap ((j:Int)+256)=(h:Int))\/(dI<xm/\¬ 256<dI/\IntKind.i64.wrap ((j:Int)+dI)=(h:Int))\/(¬ dI<xm/\¬ 256<xm/\IntKind.i64.wrap ((j:Int)+xm)=(h:Int))):=by
       have h0:0<=xm:=by rw[hxm];omega
       by_cases c1:dI<xm
       ·by_cases c2:256<dI
        ·exact⟨256,j+256,rfl,by omega,.inl ⟨c1,c2,by rw[qQc _ (by omega)];rfl⟩⟩
        ·exact⟨dI.toNat,j+dI.toNat,rfl,by omega,.inr (.inr (.inl ⟨c1,c2,by rw[qQc _ (by omega)];omega⟩))⟩
       ·by_cases c2:256<xm
        ·exact⟨256,j+256,rfl,by omega,.inr (.inl ⟨c1,c2,by rw[qQc _ (by omega)];rfl⟩)⟩
        ·exact⟨xm.toNat,j+xm.toNat,rfl,by omega,.inr (.inr (.inr ⟨c1,c2,by rw[qQc _ (by omega)];omega⟩))⟩
      obtain⟨kq,h,hh,hjk,hcs⟩:=hcase
      have hcp:=HCP.out
      have y1:(0:Int)<=(j:Int):=by omega
      have y2:(j:Int)<=(h:Int):=by omega
      have y3:(h:Int)<=(cI:Int):=by omega
      have y5:h-j=kq:=by omega
      have hcut:=(aH.of_own HOI.own).cut (k:=j) hj hcp.1
      have htk:=hcut.take (k:=kq) (by omega)
      rw[qZc,qZc,<-qJc,<-qZd] at htk
      have HTK:=aB htk
      have HJK:=aB hjk
      have HIN:=aB hi2
      have HBB:Hid (j+kq<=maxLen/\(j+kq)*1<=140737488355328):=aB (by unfold maxLen;omega)
      clear hdI hxm hjk hcut htk hqb hx hi2 hi2' hcp hh
      rcases hcs with⟨c1,c2,z1⟩ | ⟨c1,c2,z1⟩ | ⟨c1,c2,z1⟩ | ⟨c1,c2,z1⟩
      all_goals
       by_cases hcj:cI=j
       ·rw[if_pos hcj] at HTK
        have y6:(cI:Int)=(j:Int):=by omega
        subst hcj
        go_upto_region 15 with fail
        go_wp2_with (at_builtin;refine aP _ rfl (.tmp 65) (.tmp 73) 50 rfl 5 i0 _ 1 1 Tryz.underlying50 hi0 hz0 hz1 hz2 rfl (by decide) (.slice AG cI cG) cI _ rfl HG.own (some ⟨gI,oI,none⟩) kq 0 (((im.drop cI).take kq).map bG) rfl (HTK.touch HG.touch (λ_ _ f=>f)) (λh=>by cases h) (pE _) HBB.1 HBB.2 ?_)
        intro vg wg hown hgrow hfr _
        have hox:=HG.app (m:=kq) (ys:=((im.drop cI).take kq).map bG) (by first | exact hown | simpa [qZd,qJc] using hown) hgrow hfr
        obtain⟨AG2,cG2,hvg,_,_⟩:=aS hown
        subst hvg
        have hj2:im.take (cI+kq)=im.take cI++(im.drop cI).take kq:=List.take_add
        have HO2:=aB hox
        have HJ2:=aB hj2
        clear hown hgrow hfr hox hj2
        go_wp2_with fail
        go_roundw
        ·exact⟨cI+kq,AG2,cG2,i2+1,rfl,by simp,by have:=HIN.out;omega,HJK,aB (by rw[HJ2.out,qZe];exact HO2)⟩
        ·have:=HIN.out
         simp only[intOf]
         omega
       ·rw[if_neg hcj] at HTK
        simp only[Option.map_some,Addr.add_lit] at HTK
        have y6:¬ (cI:Int)=(j:Int):=by omega
        have y7:¬ cI=j:=hcj
        clear hcj
        go_upto_region 15 with fail
        go_wp2_with (at_builtin;refine aP _ rfl (.tmp 65) (.tmp 73) 50 rfl 5 i0 _ 1 1 Tryz.underlying50 hi0 hz0 hz1 hz2 rfl (by decide) (.slice AG j cG) j _ rfl HG.own (some ⟨gI,oI+j,none⟩) kq (cI-j) (((im.drop j).take kq).map bG) rfl (HTK.touch HG.touch (λ_ _ f=>f)) (λh=>by cases h) (pE _) HBB.1 HBB.2 ?_)
        intro vg wg hown hgrow hfr _
        have hox:=HG.app (m:=kq) (ys:=((im.drop j).take kq).map bG) (by first | exact hown | simpa [qZd,qJc] using hown) hgrow hfr
        obtain⟨AG2,cG2,hvg,_,_⟩:=aS hown
        subst hvg
        have hj2:im.take (j+kq)=im.take j++(im.drop j).take kq:=List.take_add
        have HO2:=aB hox
        have HJ2:=aB hj2
        clear hown hgrow hfr hox hj2
        go_wp2_with fail
        go_roundw
        ·exact⟨j+kq,AG2,cG2,i2+1,rfl,by simp,by have:=HIN.out;omega,HJK,aB (by rw[HJ2.out,qZe];exact HO2)⟩
        ·have:=HIN.out
         simp only[intOf]
         omega
     ·have x0:¬ (i2:Int)<(m:Int):=by omega
      have hqb:=HIB.out
      rw[HQL.out] at hqb
      obtain⟨dd,hdd⟩:=eX (qI-j)
      have hcp:=HCP.out
      have y1:(0:Int)<=(j:Int):=by omega
      have y2:(j:Int)<=(qI:Int):=by omega
      have y3:(qI:Int)<=(cI:Int):=by omega
      have y5:qI-j=dd:=by omega
      have hcut:=(aH.of_own HOI.own).cut (k:=j) hj hcp.1
      rw[qZc,<-qJc,<-hdd] at hcut
      have HTK:=aB hcut
      have HBB:Hid (j+dd<=maxLen/\(j+dd)*1<=140737488355328):=aB (by unfold maxLen;omega)
      clear hdd hcut hqb hi2 hi2' hcp
      by_cases hcj:cI=j
      ·rw[if_pos hcj] at HTK
       have y6:(cI:Int)=(j:Int):=by omega
       subst hcj
       go_wp2_with (at_builtin;refine aP _ rfl (.tmp 76) (.tmp 80) 50 rfl 5 i0 _ 1 1 Tryz.underlying50 hi0 hz0 hz1 hz2 rfl (by decide) (.slice AG cI cG) cI _ rfl HG.own (some ⟨gI,oI,none⟩) dd 0 ((im.drop cI).map bG) rfl (HTK.touch HG.touch (λ_ _ f=>f)) (λh=>by cases h) (pE _) HBB.1 HBB.2 ?_)
       intro vg wg hown hgrow hfr _
       have hox:=HG.app (m:=dd) (ys:=(im.drop cI).map bG) (by first | exact hown | simpa [qZd,qJc] using hown) hgrow hfr
       obtain⟨AG2,cG2,hvg,_,_⟩:=aS hown
       subst hvg
       have him2:im.take cI++im.drop cI=im:=qXi _ _
       rw[<-qZe,him2] at hox
       obtain⟨qF,hqF⟩:=eX (cI+dd)
       rw[<-hqF] at hox
       try rw[<-hqF]
       have HO2:=aB hox
       clear hown hgrow hfr hox him2 hqF
       go_wp2_with fail
       refine (HLO wg (cV.touch HYr.l (HOI.touch.then HO2.touch)) AG2 qF cG2 (aH.of_own HO2.own) (qW HO2.own) (vE HO2.own).1 (vE HO2.own).2).mono ?_
       rintro e w5 ⟨s',d',tb',v',rfl,hs5,_,_,_,T5⟩
       have HT5:=aB ((HOI.touch.then HO2.touch).then T5)
       have HS5:=aB hs5
       have HQ5:=aB (HQB.touch (HYr.t.then HT5) (λf=>f))
       obtain⟨F,hF⟩:=eX (zQ Lj a.toList k y)
       obtain⟨E,hE⟩:=eX (Om a.toList k)
       have hs1:=vO w5 (cV.touch HYr.l HT5) (HYr.st.quiet HT5) a HHA k y
       have hs2:=λ(wx:World) (t:aC (λ_=>False) w5 wx)=>vO wx (cV.touch HYr.l (HT5.then t)) (HS5.quiet t) a HHA k y
       have hs3:=λ(wx:World) (s:SL) (hl:mR wx.heap.size wx s Lj)=>Ns wx wx.heap.size s hl HDD a HHA k y
       have hsl:F.length<=64:=by rw[hF];exact qJb (Ih _ _ _ _) (uY y)
       unfold jZ at hs1 hs2 hs3
       simp only[<-hF,<-hE] at hs1 hs2 hs3
       have HS1:=aB hs1
       have HS2:=aB hs2
       have HS3:=aB hs3
       have HFL:=aB hsl
       clear hs5 T5 HLO hs1 hs2 hs3 hF hE hsl
       obtain⟨q0,q1,q2⟩:=HQ5.facts
       go_wp2_with fail
       refine HS1.mono ?_
       rintro e w6 ⟨A6,c6,rfl,r6,T6,_⟩
       have HR6:=aB r6
       have HT6:=aB T6
       have HQ6:=aB (HQ5.touch T6 (λf=>f))
       clear r6 T6 HS1 q0 q1 q2
       obtain⟨q0,q1,q2⟩:=HQ6.facts
       go_wp2_with fail
       refine (HS2 _ HT6).mono ?_
       rintro e w7 ⟨A7,c7,rfl,r7,T7,_⟩
       have HR7:=aB r7
       have HT7:=aB (HT6.then T7)
       have HR67:=aB (HR6.touch T7 (λ_ _ f=>f))
       have HQ7:=aB (HQ6.touch T7 (λf=>f))
       have HA7:=aB (HRA w7 (HYr.t.then (HT5.then HT7)))
       clear r7 T7 HS2 q0 q1 q2
       go_wp2_with fail
       refine HA7.mono ?_
       rintro e w8 ⟨⟨jA,jn,jc,jL⟩,A8,n8,c8,rfl,hl8,_,T8⟩
       obtain⟨w9,hw9⟩:=eX (w8.alloc (.cells #[.slice jA jn jc,.slice A8 n8 c8] 56))
       obtain⟨g21,hg21⟩:=eX w8.heap.size
       have T9:aC (λ_=>False) w8 w9:=by rw[hw9];exact (aC.refl _ _).alloc _
       have HB9:Hid (aL w9 g21 56 #[.slice jA jn jc,.slice A8 n8 c8]):=aB (by rw[hw9,hg21];exact aL.new _ _ _)
       have HT9:=aB (HT7.then (T8.then T9))
       have hle:=hl8.eq
       simp only at hle
       subst hle
       have hjn:=hl8.ok.len
       simp only at hjn
       subst hjn
       have hok9:=(hl8.quiet T9).ok
       have HOK:=aB hok9
       have hl9:mR w9.heap.size w9 ⟨jA,jL.length,jc,jL⟩ jL:=⟨hok9,rfl,λhn g hg=>.inl (Hr hok9.reads hn g hg)⟩
       have HS9:=aB (HS3 w9 ⟨jA,jL.length,jc,jL⟩ hl9)
       have HQ9:=aB (HQ7.touch (T8.then T9) (λf=>f))
       have HR69:=aB (HR67.touch (T8.then T9) (λ_ _ f=>f))
       have HR79:=aB (HR7.touch (T8.then T9) (λ_ _ f=>f))
       have HW9:=aB hw9
       have HG9:=aB hg21
       simp only[SL.val] at HS9 ⊢
       clear hl8 T8 T9 hw9 hg21 hok9 hl9 HA7 HS3
       go_upto_region 24 with fail
       rw[<-HW9.out,<-HG9.out]
       obtain⟨q0,q1,q2⟩:=HQ9.facts
       obtain⟨b0,b1,b2⟩:=HB9.facts
       go_wp2_with fail
       refine HS9.mono ?_
       rintro e wc ⟨AC,cC,rfl,rc,Tc,_⟩
       have HTc:=aB (HT9.then Tc)
       have HRC:=aB rc
       have hml:F.length<=maxLen:=by have:=HFL.out;unfold maxLen;omega
       have HSA:=aB (λ(wx:World) (t:aC (λ_=>False) wc wx)=>vL wx A6 F.length c6 F rfl (HR69.touch (Tc.then t) (λ_ _ f=>f)) hml A7 c7 (HR79.touch (Tc.then t) (λ_ _ f=>f)))
       have HSB:=aB (λ(wx:World) (t:aC (λ_=>False) wc wx)=>vL wx A6 F.length c6 F rfl (HR69.touch (Tc.then t) (λ_ _ f=>f)) hml AC cC (HRC.touch t (λ_ _ f=>f)))
       have HWD:=aB (λ(wx:World) (t:aC (λ_=>False) wc wx)=>Ph wx (cV.touch HYr.l (HT5.then (HTc.then t))) (HS5.quiet (HTc.then t)))
       have hdl:=HDD.len
       have HSP:=aB (λ(wx:World) (t:aC (λ_=>False) wc wx) (A':Option Addr) (c':Nat) (hp:dO wx A' jL.length c' jL)=>Hp wx A' jL.length c' jL rfl (aH.of_own hp) (by unfold maxLen;omega) jA jc (HOK.reads.touch (Tc.then t) (λ_ _ f=>f)))
       have HSC:Hid (∀ wx,aC (λ_=>False) wc wx->wx.cell? ⟨g21,0,none⟩=some (.slice jA jL.length jc)):=aB (λwx t=>((HB9.touch (Tc.then t) (λf=>f)).cell 0).trans rfl)
       clear rc Tc HS9 q0 q1 q2 b0 b1 b2 hml hdl
       go_upto_region 25 with fail
       refine wp_region_held_drew (S:=λwx=>wx.cell? ⟨g21,0,none⟩=some (.slice jA jL.length jc)) (by kernel_rfl) (HSC _ (aC.refl _ _).drew) (λhHeld=>?_)
       refine dF 0 ?_ rfl (by kernel_rfl) (λ_ _ _ h=>h) ?_ hHeld (dF 1 ?_ rfl (by kernel_rfl) (λ_ _ _ h=>h) ?_ hHeld (dF 2 ?_ rfl (by kernel_rfl) (λ_ _ _ h=>h) ?_ hHeld (dF 3 ?_ rfl (by kernel_rfl) (λ_ _ _ h=>h) ?_ hHeld (dF 4 ?_ rfl (by kernel_rfl) (λ_ _ _ h=>h) ?_ hHeld (dF 5 ?_ rfl (by kernel_rfl) (λ_ _ _ h=>h) ?_ hHeld (dF 6 ?_ rfl (by kernel_rfl) (λ_ _ _ h=>h) ?_ hHeld (dF 7 ?_ rfl (by kernel_rfl) (λ_ _ _ h=>h) ?_ hHeld (dF 8 ?_ rfl (by kernel_rfl) (λ_ _ _ h=>h) ?_ hHeld (dF 9 ?_ rfl (by kernel_rfl) (λ_ _ _ h=>h) ?_ hHeld (dF 10 ?_ rfl (by kernel_rfl) (λ_ _ _ h=>h) ?_ hHeld ?_))))))))))
       iterate 11 (rotate_left;try simp only[qXa,qQa,qZa,Act.put,qJa,qZb,qQb];rintro wq s0;go_simp;with_reducible rfl)
       simp only[qXa,qQa,qZa,Act.put,qJa,qZb,qQb]
       refine wpAnyH_ready (rs:=[11]) (by kernel_rfl) (by simp) ?_
       refine AllReadyH.cons rfl (λK hK=>?_) AllReadyH.nil
       go_simp
       refine (HSA wc.drew (aC.refl _ _).drew).mono ?_
       rintro e wd ⟨rfl,Td⟩
       have HTd:=aB ((aC.refl (λ_=>False) wc).drew.then Td)
       clear Td
       go_simp
       refine hK.out _ _ (HSC _ HTd) (λhHeld=>?_)
       clear hK K
       try simp only[qXa,qQa,qZa,Act.put,qJa,qZb,qQb]
       refine dF 12 ?_ rfl (by kernel_rfl) (λ_ _ _ h=>h) ?_ hHeld (dF 13 ?_ rfl (by kernel_rfl) (λ_ _ _ h=>h) ?_ hHeld (dF 14 ?_ rfl (by kernel_rfl) (λ_ _ _ h=>h) ?_ hHeld (dF 15 ?_ rfl (by kernel_rfl) (λ_ _ _ h=>h) ?_ hHeld ?_)))
       iterate 4 (rotate_left;try simp only[qXa,qQa,qZa,Act.put,qJa,qZb,qQb];rintro wq s0;go_simp;with_reducible rfl)
       simp only[qXa,qQa,qZa,Act.put,qJa,qZb,qQb]
       refine wpAnyH_ready (rs:=[16]) (by kernel_rfl) (by simp) ?_
       refine AllReadyH.cons rfl (λK hK=>?_) AllReadyH.nil
       go_simp
       refine (HSB wd HTd).mono ?_
       rintro e we ⟨rfl,Te⟩
       have HTe:=aB (HTd.then Te)
       clear Te
       go_simp
       refine hK.out _ _ (HSC _ HTe) (λhHeld=>?_)
       clear hK K
       try simp only[qXa,qQa,qZa,Act.put,qJa,qZb,qQb]
       refine dF 17 ?_ rfl (by kernel_rfl) (λ_ _ _ h=>h) ?_ hHeld (dF 18 ?_ rfl (by kernel_rfl) (λ_ _ _ h=>h) ?_ hHeld (dF 19 ?_ rfl (by kernel_rfl) (λ_ _ _ h=>h) ?_ hHeld (dF 21 ?_ rfl (by kernel_rfl) (λ_ _ _ h=>h) ?_ hHeld (dF 22 ?_ rfl (by kernel_rfl) (λ_ _ _ h=>h) ?_ hHeld ?_))))
       iterate 5 (rotate_left;try simp only[qXa,qQa,qZa,Act.put,qJa,qZb,qQb];rintro wq s0;go_simp;with_reducible rfl)
       simp only[qXa,qQa,qZa,Act.put,qJa,qZb,qQb]
       refine wpAnyH_ready (rs:=[20]) (by kernel_rfl) (by simp) ?_
       refine AllReadyH.cons rfl (λK hK=>?_) AllReadyH.nil
       go_simp
       refine (HWD we HTe).mono ?_
       rintro e wf ⟨AW,cW,rfl,hpW,Tf⟩
       have HPW:=aB hpW
       have HTf:=aB (HTe.then Tf)
       clear hpW Tf
       go_simp
       refine hK.out _ _ (HSC _ HTf) (λhHeld=>?_)
       clear hK K
       try simp only[qXa,qQa,qZa,Act.put,qJa,qZb,qQb]
       refine wpAnyH_ready (rs:=[23]) (by kernel_rfl) (by simp) ?_
       refine AllReadyH.cons rfl (λK hK=>?_) AllReadyH.nil
       go_simp
       refine (HSP wf HTf AW cW HPW).mono ?_
       rintro e wg2 ⟨rfl,Tg⟩
       have HTg:=aB (HTf.then Tg)
       clear Tg
       go_simp
       refine hK.out _ _ (HSC _ HTg) (λhHeld=>?_)
       clear hK K
       try simp only[qXa,qQa,qZa,Act.put,qJa,qZb,qQb]
       refine dF 24 ?_ rfl (by kernel_rfl) (λ_ _ _ h=>h) ?_ hHeld (dF 25 ?_ rfl (by kernel_rfl) (λ_ _ _ h=>h) ?_ hHeld ?_)
       iterate 2 (rotate_left;try simp only[qXa,qQa,qZa,Act.put,qJa,qZb,qQb];rintro wq s0;go_simp;with_reducible rfl)
       simp only[qXa,qQa,qZa,Act.put,qJa,qZb,qQb]
       refine wpAnyH_done (by kernel_rfl) ?_ _
       go_wp2_with fail
       go_ret
       exact⟨rfl,HTA.then (HYr.t.then (HT5.then (HTc.then HTg)))⟩
      ·rw[if_neg hcj] at HTK
       simp only[Option.map_some,Addr.add_lit] at HTK
       have y6:¬ (cI:Int)=(j:Int):=by omega
       have y7:¬ cI=j:=hcj
       clear hcj
       go_wp2_with (at_builtin;refine aP _ rfl (.tmp 76) (.tmp 80) 50 rfl 5 i0 _ 1 1 Tryz.underlying50 hi0 hz0 hz1 hz2 rfl (by decide) (.slice AG j cG) j _ rfl HG.own (some ⟨gI,oI+j,none⟩) dd (cI-j) ((im.drop j).map bG) rfl (HTK.touch HG.touch (λ_ _ f=>f)) (λh=>by cases h) (pE _) HBB.1 HBB.2 ?_)
       intro vg wg hown hgrow hfr _
       have hox:=HG.app (m:=dd) (ys:=(im.drop j).map bG) (by first | exact hown | simpa [qZd,qJc] using hown) hgrow hfr
       obtain⟨AG2,cG2,hvg,_,_⟩:=aS hown
       subst hvg
       have him2:im.take j++im.drop j=im:=qXi _ _
       rw[<-qZe,him2] at hox
       obtain⟨qF,hqF⟩:=eX (j+dd)
       rw[<-hqF] at hox
       try rw[<-hqF]
       have HO2:=aB hox
       clear hown hgrow hfr hox him2 hqF
       go_wp2_with fail
       refine (HLO wg (cV.touch HYr.l (HOI.touch.then HO2.touch)) AG2 qF cG2 (aH.of_own HO2.own) (qW HO2.own) (vE HO2.own).1 (vE HO2.own).2).mono ?_
       rintro e w5 ⟨s',d',tb',v',rfl,hs5,_,_,_,T5⟩
       have HT5:=aB ((HOI.touch.then HO2.touch).then T5)
       have HS5:=aB hs5
       have HQ5:=aB (HQB.touch (HYr.t.then HT5) (λf=>f))
       obtain⟨F,hF⟩:=eX (zQ Lj a.toList k y)
       obtain⟨E,hE⟩:=eX (Om a.toList k)
       have hs1:=vO w5 (cV.touch HYr.l HT5) (HYr.st.quiet HT5) a HHA k y
       have hs2:=λ(wx:World) (t:aC (λ_=>False) w5 wx)=>vO wx (cV.touch HYr.l (HT5.then t)) (HS5.quiet t) a HHA k y
       have hs3:=λ(wx:World) (s:SL) (hl:mR wx.heap.size wx s Lj)=>Ns wx wx.heap.size s hl HDD a HHA k y
       have hsl:F.length<=64:=by rw[hF];exact qJb (Ih _ _ _ _) (uY y)
       unfold jZ at hs1 hs2 hs3
       simp only[<-hF,<-hE] at hs1 hs2 hs3
       have HS1:=aB hs1
       have HS2:=aB hs2
       have HS3:=aB hs3
       have HFL:=aB hsl
       clear hs5 T5 HLO hs1 hs2 hs3 hF hE hsl
       obtain⟨q0,q1,q2⟩:=HQ5.facts
       go_wp2_with fail
       refine HS1.mono ?_
       rintro e w6 ⟨A6,c6,rfl,r6,T6,_⟩
       have HR6:=aB r6
       have HT6:=aB T6
       have HQ6:=aB (HQ5.touch T6 (λf=>f))
       clear r6 T6 HS1 q0 q1 q2
       obtain⟨q0,q1,q2⟩:=HQ6.facts
       go_wp2_with fail
       refine (HS2 _ HT6).mono ?_
       rintro e w7 ⟨A7,c7,rfl,r7,T7,_⟩
       have HR7:=aB r7
       have HT7:=aB (HT6.then T7)
       have HR67:=aB (HR6.touch T7 (λ_ _ f=>f))
       have HQ7:=aB (HQ6.touch T7 (λf=>f))
       have HA7:=aB (HRA w7 (HYr.t.then (HT5.then HT7)))
       clear r7 T7 HS2 q0 q1 q2
       go_wp2_with fail
       refine HA7.mono ?_
       rintro e w8 ⟨⟨jA,jn,jc,jL⟩,A8,n8,c8,rfl,hl8,_,T8⟩
       obtain⟨w9,hw9⟩:=eX (w8.alloc (.cells #[.slice jA jn jc,.slice A8 n8 c8] 56))
       obtain⟨g21,hg21⟩:=eX w8.heap.size
       have T9:aC (λ_=>False) w8 w9:=by rw[hw9];exact (aC.refl _ _).alloc _
       have HB9:Hid (aL w9 g21 56 #[.slice jA jn jc,.slice A8 n8 c8]):=aB (by rw[hw9,hg21];exact aL.new _ _ _)
       have HT9:=aB (HT7.then (T8.then T9))
       have hle:=hl8.eq
       simp only at hle
       subst hle
       have hjn:=hl8.ok.len
       simp only at hjn
       subst hjn
       have hok9:=(hl8.quiet T9).ok
       have HOK:=aB hok9
       have hl9:mR w9.heap.size w9 ⟨jA,jL.length,jc,jL⟩ jL:=⟨hok9,rfl,λhn g hg=>.inl (Hr hok9.reads hn g hg)⟩
       have HS9:=aB (HS3 w9 ⟨jA,jL.length,jc,jL⟩ hl9)
       have HQ9:=aB (HQ7.touch (T8.then T9) (λf=>f))
       have HR69:=aB (HR67.touch (T8.then T9) (λ_ _ f=>f))
       have HR79:=aB (HR7.touch (T8.then T9) (λ_ _ f=>f))
       have HW9:=aB hw9
       have HG9:=aB hg21
       simp only[SL.val] at HS9 ⊢
       clear hl8 T8 T9 hw9 hg21 hok9 hl9 HA7 HS3
       go_upto_region 24 with fail
       rw[<-HW9.out,<-HG9.out]
       obtain⟨q0,q1,q2⟩:=HQ9.facts
       obtain⟨b0,b1,b2⟩:=HB9.facts
       go_wp2_with fail
       refine HS9.mono ?_
       rintro e wc ⟨AC,cC,rfl,rc,Tc,_⟩
       have HTc:=aB (HT9.then Tc)
       have HRC:=aB rc
       have hml:F.length<=maxLen:=by have:=HFL.out;unfold maxLen;omega
       have HSA:=aB (λ(wx:World) (t:aC (λ_=>False) wc wx)=>vL wx A6 F.length c6 F rfl (HR69.touch (Tc.then t) (λ_ _ f=>f)) hml A7 c7 (HR79.touch (Tc.then t) (λ_ _ f=>f)))
       have HSB:=aB (λ(wx:World) (t:aC (λ_=>False) wc wx)=>vL wx A6 F.length c6 F rfl (HR69.touch (Tc.then t) (λ_ _ f=>f)) hml AC cC (HRC.touch t (λ_ _ f=>f)))
       have HWD:=aB (λ(wx:World) (t:aC (λ_=>False) wc wx)=>Ph wx (cV.touch HYr.l (HT5.then (HTc.then t))) (HS5.quiet (HTc.then t)))
       have hdl:=HDD.len
       have HSP:=aB (λ(wx:World) (t:aC (λ_=>False) wc wx) (A':Option Addr) (c':Nat) (hp:dO wx A' jL.length c' jL)=>Hp wx A' jL.length c' jL rfl (aH.of_own hp) (by unfold maxLen;omega) jA jc (HOK.reads.touch (Tc.then t) (λ_ _ f=>f)))
       have HSC:Hid (∀ wx,aC (λ_=>False) wc wx->wx.cell? ⟨g21,0,none⟩=some (.slice jA jL.length jc)):=aB (λwx t=>((HB9.touch (Tc.then t) (λf=>f)).cell 0).trans rfl)
       clear rc Tc HS9 q0 q1 q2 b0 b1 b2 hml hdl
       go_upto_region 25 with fail
       refine wp_region_held_drew (S:=λwx=>wx.cell? ⟨g21,0,none⟩=some (.slice jA jL.length jc)) (by kernel_rfl) (HSC _ (aC.refl _ _).drew) (λhHeld=>?_)
       refine dF 0 ?_ rfl (by kernel_rfl) (λ_ _ _ h=>h) ?_ hHeld (dF 1 ?_ rfl (by kernel_rfl) (λ_ _ _ h=>h) ?_ hHeld (dF 2 ?_ rfl (by kernel_rfl) (λ_ _ _ h=>h) ?_ hHeld (dF 3 ?_ rfl (by kernel_rfl) (λ_ _ _ h=>h) ?_ hHeld (dF 4 ?_ rfl (by kernel_rfl) (λ_ _ _ h=>h) ?_ hHeld (dF 5 ?_ rfl (by kernel_rfl) (λ_ _ _ h=>h) ?_ hHeld (dF 6 ?_ rfl (by kernel_rfl) (λ_ _ _ h=>h) ?_ hHeld (dF 7 ?_ rfl (by kernel_rfl) (λ_ _ _ h=>h) ?_ hHeld (dF 8 ?_ rfl (by kernel_rfl) (λ_ _ _ h=>h) ?_ hHeld (dF 9 ?_ rfl (by kernel_rfl) (λ_ _ _ h=>h) ?_ hHeld (dF 10 ?_ rfl (by kernel_rfl) (λ_ _ _ h=>h) ?_ hHeld ?_))))))))))
       iterate 11 (rotate_left;try simp only[qXa,qQa,qZa,Act.put,qJa,qZb,qQb];rintro wq s0;go_simp;with_reducible rfl)
       simp only[qXa,qQa,qZa,Act.put,qJa,qZb,qQb]
       refine wpAnyH_ready (rs:=[11]) (by kernel_rfl) (by simp) ?_
       refine AllReadyH.cons rfl (λK hK=>?_) AllReadyH.nil
       go_simp
       refine (HSA wc.drew (aC.refl _ _).drew).mono ?_
       rintro e wd ⟨rfl,Td⟩
       have HTd:=aB ((aC.refl (λ_=>False) wc).drew.then Td)
       clear Td
       go_simp
       refine hK.out _ _ (HSC _ HTd) (λhHeld=>?_)
       clear hK K
       try simp only[qXa,qQa,qZa,Act.put,qJa,qZb,qQb]
       refine dF 12 ?_ rfl (by kernel_rfl) (λ_ _ _ h=>h) ?_ hHeld (dF 13 ?_ rfl (by kernel_rfl) (λ_ _ _ h=>h) ?_ hHeld (dF 14 ?_ rfl (by kernel_rfl) (λ_ _ _ h=>h) ?_ hHeld (dF 15 ?_ rfl (by kernel_rfl) (λ_ _ _ h=>h) ?_ hHeld ?_)))
       iterate 4 (rotate_left;try simp only[qXa,qQa,qZa,Act.put,qJa,qZb,qQb];rintro wq s0;go_simp;with_reducible rfl)
       simp only[qXa,qQa,qZa,Act.put,qJa,qZb,qQb]
       refine wpAnyH_ready (rs:=[16]) (by kernel_rfl) (by simp) ?_
       refine AllReadyH.cons rfl (λK hK=>?_) AllReadyH.nil
       go_simp
       refine (HSB wd HTd).mono ?_
       rintro e we ⟨rfl,Te⟩
       have HTe:=aB (HTd.then Te)
       clear Te
       go_simp
       refine hK.out _ _ (HSC _ HTe) (λhHeld=>?_)
       clear hK K
       try simp only[qXa,qQa,qZa,Act.put,qJa,qZb,qQb]
       refine dF 17 ?_ rfl (by kernel_rfl) (λ_ _ _ h=>h) ?_ hHeld (dF 18 ?_ rfl (by kernel_rfl) (λ_ _ _ h=>h) ?_ hHeld (dF 19 ?_ rfl (by kernel_rfl) (λ_ _ _ h=>h) ?_ hHeld (dF 21 ?_ rfl (by kernel_rfl) (λ_ _ _ h=>h) ?_ hHeld (dF 22 ?_ rfl (by kernel_rfl) (λ_ _ _ h=>h) ?_ hHeld ?_))))
       iterate 5 (rotate_left;try simp only[qXa,qQa,qZa,Act.put,qJa,qZb,qQb];rintro wq s0;go_simp;with_reducible rfl)
       simp only[qXa,qQa,qZa,Act.put,qJa,qZb,qQb]
       refine wpAnyH_ready (rs:=[20]) (by kernel_rfl) (by simp) ?_
       refine AllReadyH.cons rfl (λK hK=>?_) AllReadyH.nil
       go_simp
       refine (HWD we HTe).mono ?_
       rintro e wf ⟨AW,cW,rfl,hpW,Tf⟩
       have HPW:=aB hpW
       have HTf:=aB (HTe.then Tf)
       clear hpW Tf
       go_simp
       refine hK.out _ _ (HSC _ HTf) (λhHeld=>?_)
       clear hK K
       try simp only[qXa,qQa,qZa,Act.put,qJa,qZb,qQb]
       refine wpAnyH_ready (rs:=[23]) (by kernel_rfl) (by simp) ?_
       refine AllReadyH.cons rfl (λK hK=>?_) AllReadyH.nil
       go_simp
       refine (HSP wf HTf AW cW HPW).mono ?_
       rintro e wg2 ⟨rfl,Tg⟩
       have HTg:=aB (HTf.then Tg)
       clear Tg
       go_simp
       refine hK.out _ _ (HSC _ HTg) (λhHeld=>?_)
       clear hK K
       try simp only[qXa,qQa,qZa,Act.put,qJa,qZb,qQb]
       refine dF 24 ?_ rfl (by kernel_rfl) (λ_ _ _ h=>h) ?_ hHeld (dF 25 ?_ rfl (by kernel_rfl) (λ_ _ _ h=>h) ?_ hHeld ?_)
       iterate 2 (rotate_left;try simp only[qXa,qQa,qZa,Act.put,qJa,qZb,qQb];rintro wq s0;go_simp;with_reducible rfl)
       simp only[qXa,qQa,qZa,Act.put,qJa,qZb,qQb]
       refine wpAnyH_done (by kernel_rfl) ?_ _
       go_wp2_with fail
       go_ret
       exact⟨rfl,HTA.then (HYr.t.then (HT5.then (HTc.then HTg)))⟩
 ·have hk:(400:Int)<(n:Int)\/(¬ (400:Int)<(n:Int)/\(2000:Int)<(m:Int)):=by omega
  clear hm hmm hbig
  rcases hk with k1 | ⟨k1,k2⟩
  all_goals
   go_in
   go_upto_region 1 with fail
   rw[<-HWA.out,<-HQ0.out]
   go_wp2_with fail
   refine HN.mono ?_
   rintro e w1 ⟨s,d,tb,rfl,hy⟩
   have HY:=aB hy
   clear hy HN
   go_wp2_with fail
   go_ret
   exact⟨rfl,HTA.then HY.t⟩
section
open Go.RowKit Go.ChangeShapes Go.WideShapes Go.ChangeAt
section
variable{H:Type}{enc:TypeId × Value->H}{P:Program}{w:World}{base:Nat}{spare:Nat->Bool}{held:Bool}
theorem Qo{t:TypeId}{fs:Array Field}{fuel:Nat}{cs:List Value}{x:DataW H × List MemPlace}(hs:P.underlying t=some (.struct fs))(h:DataW.trod enc P w base spare held fuel t cs=some x)
  (i:Nat)(f:Field)(hf:fs[i]? = some f)(hk:P.underlying f.type=some .string)(hc:P.cellsOf f.type=1):∃ s:ByteArray,cs[f.offset]? = some (.string s)/\s.size<=Rows.uptoBulk x.1:=by
 obtain⟨xs,n,_,hx,_,hlen,hg⟩:=DataW.trod_struct hs h
 have hi:i<fs.size:=(Array.getElem?_eq_some_iff.1 hf).1
 have hy:=hg i f hf
 rw[qXg (by omega:i<xs.length),hc] at hy
 obtain⟨s,hn,hd,_⟩:=DataW.trod_string hk hy
 refine⟨s,nO hn,?_⟩
 have hm:(xs[i]'(by omega)).1∈xs.map (·.1):=List.mem_map.2 ⟨_,List.getElem_mem _,rfl⟩
 have h1:=Bf hm
 rw[hx]
 simp only[Rows.uptoBulk]
 rw[hd] at h1
 simp only[Rows.uptoBulk] at h1
 have e:s.data.toList.length=s.size:=Array.length_toList
 omega
theorem Rv{R:Type}[Inhabited R](cells:R->List Value)(bk:R->Nat)(size:Nat)(hcl:∀ r,(cells r).length=size)(h0:0<size){t e:TypeId}{fuel:Nat}{cs:List Value}{x:DataW H × List MemPlace}
  (ht:P.underlying t=some (.slice e))(hC:P.cellsOf e=size)(elem:∀ n cs (y:DataW H × List MemPlace),cs.length=size->DataW.trod enc P w base spare held n e cs=some y->∃ r,cs=cells r/\bk r<=Rows.uptoBulk y.1)
  (h:DataW.trod enc P w base spare held fuel t cs=some x) :
  ∃ A len cap,∃ l:List R,cs=[.slice A len cap]/\l.length=len/\len<=cap/\cap<=maxLen/\(A=none->len=0/\cap=0)/\aH w size A len (l.flatMap cells)/\(∀ r∈l,bk r<=Rows.uptoBulk x.1)/\len<=Rows.uptoBulk x.1:=by
 rcases Go.Deep.open_slice ht h with⟨hcs,hx⟩ | ⟨a,len,cap,m,n,D,Pl,hcs,hb,hl,hm,hmm,hx,hi⟩
 ·exact⟨none,0,0,[],hcs,rfl,Nat.le_refl _,by simp[maxLen],λ_=>⟨rfl,rfl⟩,aH.nil _ _ _,by simp,qJd _⟩
 ·have hlm:len<=m:=by rw[hmm];split<;>omega
  have hel:∀ i,i<len->∃ r:R,bk r<=Rows.uptoBulk (D i)/\∀ j,j<size->w.cell? (a.add (i*size+j))=(cells r)[j]? := by
   intro i hil
   obtain⟨cs',hc,hty⟩:=hi i (by omega)
   rw[hC] at hc
   obtain⟨_,hlen,hat⟩:=World.cells?_some hc
   obtain⟨r,hr,hw⟩:=elem _ cs' _ hlen hty
   refine⟨r,hw,λj hj=>?_⟩
   rw[<-Go.Deep.add_add,hat j hj,hr]
  obtain⟨f,hf⟩:=Go.Deep.choose_lt hel
  refine⟨some a,len,cap,(qXe len).map f,hcs,by simp,hl,hm,(λh=>by cases h),?_,?_,?_⟩
  ·refine⟨by rw[oC cells size hcl];simp,λhpos=>?_⟩
   have hc0:=(hf 0 hpos).2 0 h0
   have hsome:(cells (f 0))[0]? = some ((cells (f 0))[0]'(by rw[hcl];exact h0)):=qXg _
   rw[hsome] at hc0
   have hsp:=World.cell?_spot hc0
   obtain⟨b,off,spot⟩:=a
   have hspot:spot=none:=by simpa [Addr.add] using hsp
   subst hspot
   have hlt:b<w.heap.size:=World.block_lt_of_cell? w _ (by simpa [Addr.add] using hc0)
   refine⟨b,off,rfl,hlt,λj u hu=>?_⟩
   have hjl:j<len*size:=by
    have:=(List.getElem?_eq_some_iff.1 hu).1
    rw[oC cells size hcl] at this
    simpa using this
   have hq:j / size<len:=Nat.div_lt_of_lt_mul (by rw[Nat.mul_comm];exact hjl)
   have hr:j % size<size:=qJe _ h0
   have e:j / size*size+j % size=j:=Nat.div_add_mod' j size
   have h1:=pB cells size hcl ((qXe len).map f) (j / size) (j % size) (by simpa using hq) hr
   rw[e,hu] at h1
   have h2:=(hf (j / size) hq).2 (j % size) hr
   rw[e,Addr.add_lit] at h2
   rw[h2,h1]
   simp
  ·intro r hr
   simp only[qQd,List.mem_range] at hr
   obtain⟨i,hi',rfl⟩:=hr
   have hmem:D i∈(qXe len).map D:=List.mem_map.2 ⟨i,List.mem_range.2 hi',rfl⟩
   have h1:=Bf hmem
   have h2:=(hf i hi').1
   rw[hx]
   simp only[Rows.uptoBulk]
   omega
  ·have h1:=aAo ((qXe len).map D)
   rw[List.length_map,List.length_range] at h1
   rw[hx]
   simp only[Rows.uptoBulk]
   omega
end
theorem Ws(l:List Int):l.flatMap (λb:Int=>[Mc b])=l.map Mc:=by
 induction l with
 | nil=>rfl
 | cons a l ih=>rw[List.flatMap_cons,ih];rfl
section
variable{H:Type}{enc:TypeId × Value->H}{w:World}{base:Nat}{spare:Nat->Bool}{held:Bool}
theorem Xa(n:Nat)(cs:List Value)(y:DataW H × List MemPlace)(_:cs.length=1)(h:DataW.trod enc Tryz.prog w base spare held n 3 cs=some y):∃ b:Int,cs=[Mc b]/\True:=by
 obtain⟨x,hx,_,_⟩:=DataW.trod_int Tryz.underlying3 h
 exact⟨x,hx,trivial⟩
theorem Rr{r:Reach}{b0:Nat}{d:DataW H}{p:List MemPlace}(hv:Value.okWide Tryz.prog w r b0 49 v)(h:DataW.Trod enc Tryz.prog w base spare held 49 v d p) :
  ∃ (A:Option Addr) (n c:Nat) (I:List Int),v=.slice A n c/\I.length=n/\aH w 1 A n (I.map Mc)/\n<=maxLen:=by
 obtain⟨a0,len,cap,rfl⟩:=okWide_slice Tryz.underlying49 hv
 obtain⟨fuel,hf⟩:=h
 obtain⟨A,len',cap',l,hcs,hl,hlc,hm,hn,hr,hw⟩:=Yb (λb:Int=>[Mc b]) (λ_=>True) 1 (λ_=>rfl) (by decide) Tryz.underlying49 (by kernel_rfl) Xa hf
 simp[Value.cells] at hcs
 obtain⟨rfl,rfl,rfl⟩:=hcs
 exact⟨_,_,_,l,rfl,hl,by rw[<-Ws];exact hr,qJb hlc hm⟩
end
theorem Tryz.own:ownKnob Tryz.prog.godebug=none:=by kernel_rfl
theorem Tryz.laidOut:laidOutB Tryz.prog=true:=by kernel_rfl
theorem Yp{P:Program}{f:FuncId}{args:Array Value}{W:World}(h:Calls P f args W λe W'=>e=.returned (.bool true)/\aC (λ_=>False) W W'):Calls P f args W λe W'=>e=.returned (.bool true)/\Below W.heap.size W W' :=
 h.mono (by rintro e W' ⟨rfl,T⟩;exact⟨rfl,T.below (Nat.le_refl _) (λ_ _ f=>f)⟩)
end
theorem aLi{a b:Bool}(ha:a=true)(hb:b=true):(a && b)=true:=by rw[ha,hb];rfl
theorem aJa:Tryz.pinned.checked.prog.mainIs=some (true,"b77970bafad3625c7a6c41321677aa064966117ab5676fe04803710f66b42c4f".toList):=by kernel_rfl
theorem aFz:true=Tryz.pinned.checked.prog.looks []:=by kernel_rfl
section
open Go.RowKit Go.ChangeShapes Go.WideShapes Go.ChangeAt
section
variable{H:Type}{enc:TypeId × Value->H}{w:World}{base:Nat}{spare:Nat->Bool}{held:Bool}
instance:Inhabited cS:=⟨cS.zero⟩
theorem aKt{α:Type}{l:List α}(h:l.length=5):∃ a b c d e,l=[a,b,c,d,e]:=by
 match l,h with
 | [a,b,c,d,e],_=>exact⟨a,b,c,d,e,rfl⟩
theorem aAs(n:Nat)(cs:List Value)(y:DataW H × List MemPlace)(hl:cs.length=5)(h:DataW.trod enc Tryz.prog w base spare held n 29 cs=some y):∃ r:cS,cs=r.cells/\r.word.size<=Rows.uptoBulk y.1/\r.In:=by
 obtain⟨b,hb,_⟩:=lI (k:=.i64) Tryz.underlying29 h 0 _ rfl (by kernel_rfl) (by kernel_rfl)
 obtain⟨s1,hs1,i1⟩:=lI (k:=.u64) Tryz.underlying29 h 1 _ rfl (by kernel_rfl) (by kernel_rfl)
 obtain⟨s2,hs2,i2⟩:=lI (k:=.u64) Tryz.underlying29 h 2 _ rfl (by kernel_rfl) (by kernel_rfl)
 obtain⟨s,hs,ws⟩:=Qo Tryz.underlying29 h 3 _ rfl (by kernel_rfl) (by kernel_rfl)
 obtain⟨c,hc,_⟩:=lI (k:=.i64) Tryz.underlying29 h 4 _ rfl (by kernel_rfl) (by kernel_rfl)
 obtain⟨x0,x1,x2,x3,x4,rfl⟩:=aKt hl
 simp at hs hb hc hs1 hs2
 refine⟨⟨b,s1,s2,s,c⟩,by rw[hs,hb,hc,hs1,hs2];rfl,ws,?_⟩
 unfold cS.In
 simp only
 have j1:=i1
 have j2:=i2
 simp[Lit.wf] at j1 j2
 have m1:IntKind.u64.min=0:=by decide
 have m2:IntKind.u64.max=18446744073709551615:=by decide
 omega
abbrev aJz:={c:cS // c.In}
instance:Inhabited aJz:=⟨⟨cS.zero,by unfold cS.In cS.zero;simp⟩⟩
theorem Ya{r:Reach}{b0:Nat}{d:DataW H}{p:List MemPlace}(hv:Value.okWide Tryz.prog w r b0 22 v)(h:DataW.Trod enc Tryz.prog w base spare held 22 v d p) :
  ∃ A len cap,∃ l:List cS,v=.slice A len cap/\l.length=len/\aH w 5 A len (wE l)/\len<=maxLen/\(∀ o∈l,o.word.size<=Rows.uptoBulk d)/\∀ o∈l,o.In:=by
 obtain⟨a0,len,cap,rfl⟩:=okWide_slice Tryz.underlying22 hv
 obtain⟨fuel,hf⟩:=h
 obtain⟨A,len',cap',l,hcs,hl,hlc,hm,hn,hr,hw,_⟩:=Rv (R:=aJz) (λo=>o.1.cells) (λo=>o.1.word.size) 5 (λ_=>rfl) (by decide) Tryz.underlying22 (by kernel_rfl) (λn cs y h1 h2=>by obtain⟨r,e1,e2,e3⟩:=aAs n cs y h1 h2;exact⟨⟨r,e3⟩,e1,e2⟩) hf
 simp[Value.cells] at hcs
 obtain⟨rfl,rfl,rfl⟩:=hcs
 refine⟨_,_,_,l.map (·.1),rfl,by simpa using hl,?_,qJb hlc hm,?_,?_⟩
 ·unfold wE
  rw[List.flatMap_map]
  exact hr
 ·intro o ho
  obtain⟨x,hx,rfl⟩:=List.mem_map.1 ho
  exact hw x hx
 ·intro o ho
  obtain⟨x,hx,rfl⟩:=List.mem_map.1 ho
  exact x.2
end
end
end Go.Proofs.YthockgmbooefpaaGreatDoor
