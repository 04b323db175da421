/- What the law rests on, part 15. No condition but those that each theorem names. -/
import Derived.Test.YthockgmbooefpaaGreatDoorM14
import Derived.Test.YthockgmbooefpaaGreatDoorM05
import Derived.StillTailTactics
import Derived.Test.YthockgmbooefpaaGreatDoorM08
import Derived.Test.YthockgmbooefpaaGreatDoorM06
import Derived.Deep.RegionHeld3
import Derived.Test.YthockgmbooefpaaGreatDoorM11
import Derived.Laws.Cover3
set_option linter.unusedSectionVars false
set_option linter.unusedSimpArgs false
set_option linter.unusedVariables false
set_option maxRecDepth 100000
set_option maxHeartbeats 8000000
namespace Go.Proofs.YthockgmbooefpaaGreatDoor
open IntWalk renaming i64_in → qQa, u64_in → qQd, u8_in → qZf
open List renaming append_assoc → qZa, map_append → qXa, mem_singleton → qJa, take_of_length_le → qQb, length_map → qXb, mem_map_of_mem → qQc, getD → qZd, length_append → qXd, map_cons → qJd, mem_append → qQe, pairwise_append → qZe, take_length → qXe, length_take → qXf, map_map → qJf, map_nil → qQg, take_sublist → qZg, take_zero → qXg, take_succ_eq_append_getElem → qXi
open Nat renaming zero_le → qZb, zero_add → qJb, le_refl → qZc, le_trans → qXc, mul_one → qJc, reduceAdd → qJe, reducePow → qQf, lt_of_lt_of_le → qJg
variable{t x:List UInt8}{i most n num:Nat}{st:Option (List UInt8)}{A:Option Addr}{p:TypeId->Prop}{a b w w':World}
open Go.RowKit
def aFh(p most:Nat)(A:Option Addr)(n c:Nat)(bs:List UInt8)(w:World)(e:Ending)(w':World):Prop :=
 (∃ (v:Nat) (t:List UInt8) (A':Option Addr) (n' c':Nat),bU most bs=some (v,t)/\e=.returned (.int .u64 v)/\vW w' p A' n' c' t 0/\Uf A A'/\(∃ g o,A'=some ⟨g,o,none⟩)/\aC (λg=>g=p) w w') \/
 (bU most bs=none/\e=.returned (.int .u64 0)/\∃ k:Int,1<=k/\vW w' p A n c bs k/\aC (λg=>g=p) w w')
theorem aEp(w:World)(p:Nat)(A:Option Addr)(n c:Nat)(bs:List UInt8)(h:vW w p A n c bs 0)(most:Nat) :
  Calls Tryz.prog 57 #[.pointer (some ⟨p,0,none⟩),.int .u64 most] w λe w'=>aFh p most A n c bs w e w':=by
 have HR:=aB h
 have hnm:n<=maxLen:=qXc h.le h.mx
 have HN:=aB (zB w A n c bs h.rd h.len hnm)
 obtain⟨f0,f1,f2⟩:=h.blk.facts
 have hle:=h.le
 have hmx:=h.mx
 unfold maxLen at hmx
 clear h hnm
 go_in
 go_wp2_with fail
 refine HN.mono ?_
 rintro e w1 ⟨hnv,rfl⟩
 rcases hnv with⟨v,k,t,h1,h2,hk0,hk,rfl⟩ | ⟨h1,c',hc',rfl⟩
 ·rw[HR.len] at hk
  by_cases hm:v<=most
  ·have hu:bU most bs=some (v,t):=by
    unfold bU
    rw[h1]
    simp only
    rw[if_pos hm]
   have y0:¬ (most:Int)<(v:Int):=by omega
   have hst:=HR.step hk
   rw[<-h2] at hst
   have HST:=aB hst
   have HU:=aB hu
   have HSB:Hid (Uf A (if c=k then A else A.map (·.add k))):=aB vW.same
   obtain⟨g,o,hA,_,_⟩:=HR.rd.form (by omega)
   subst hA
   clear h1 h2 hst hu hm
   by_cases hck:c=k
   ·rw[if_pos hck] at HST HSB
    subst hck
    have hnc:n=c:=by omega
    subst hnc
    simp only[Nat.sub_self] at HST
    go_wp2_with fail
    go_ret
    exact .inl ⟨v,t,_,_,_,HU,rfl,HST,HSB,⟨_,_,rfl⟩,(aC.refl (λg=>g=p) w1).setCell (λ_=>rfl) _⟩
   ·rw[if_neg hck] at HST HSB
    simp only[Option.map_some,Addr.add_lit] at HST HSB
    have hck1:¬ (c:Int)=(k:Int):=by omega
    go_wp2_with fail
    go_ret
    exact .inl ⟨v,t,_,_,_,HU,rfl,HST,HSB,⟨_,_,rfl⟩,(aC.refl (λg=>g=p) w1).setCell (λ_=>rfl) _⟩
  ·have hu:bU most bs=none:=by
    unfold bU
    rw[h1]
    simp only
    rw[if_neg hm]
   have y0:(most:Int)<(v:Int):=by omega
   have HU:=aB hu
   clear h1 h2 hu hm
   go_wp2_with fail
   go_ret
   exact .inr ⟨HU,rfl,22,by decide,HR.fail 22,(aC.refl (λg=>g=p) w1).setCell (λ_=>rfl) _⟩
 ·have hu:bU most bs=none:=by
   unfold bU
   rw[h1]
  have HU:=aB hu
  have y0:(c' == 0)=false:=by simp;omega
  have y1:¬ c'=0:=by omega
  clear h1 hu
  go_wp2_with fail
  go_ret
  exact .inr ⟨HU,rfl,c',by omega,HR.fail c',(aC.refl (λg=>g=p) w1).setCell (λ_=>rfl) _⟩
def eE(bs:List UInt8):Option (List UInt8 × List UInt8):=match bU 2097152 bs with
 | some (v,t)=>if v<=t.length then some (t.take v,t.drop v) else none
 | none=>none
def aCx(p:Nat)(A:Option Addr)(n c:Nat)(bs:List UInt8)(w:World)(e:Ending)(w':World):Prop :=
 (∃ (x t:List UInt8) (A':Option Addr) (n' c':Nat) (AX:Option Addr) (cX:Nat),eE bs=some (x,t)/\x.length<=2097152/\e=.returned (.slice AX x.length cX)/\w'.ownsRow 0 5 1 (.slice AX x.length cX) x.length (x.map aP) /\
     (∀ g,(Value.slice AX x.length cX).ownBlock=some g->w.heap.size<=g)/\vW w' p A' n' c' t 0/\Uf A A'/\aC (λg=>g=p) w w') \/
 (eE bs=none/\e=.returned (.slice none 0 0)/\∃ k:Int,1<=k/\vW w' p A n c bs k/\aC (λg=>g=p) w w')
theorem Nz(w:World)(p:Nat)(A:Option Addr)(n c:Nat)(bs:List UInt8)(h:vW w p A n c bs 0)(hn:n<=35184372088832) :
  Calls Tryz.prog 56 #[.pointer (some ⟨p,0,none⟩),.int .i64 2097152] w λe w'=>aCx p A n c bs w e w':=by
 have HR:=aB h
 have HU:=aB (aEp w p A n c bs h 2097152)
 obtain⟨f0,f1,f2⟩:=h.blk.facts
 clear h
 go_in
 go_wp2_with fail
 refine HU.mono ?_
 rintro e w1 (⟨v,t,A1,n1,c1,hu,rfl,h1,hsb,⟨g,o,hA⟩,T1⟩ | ⟨hu,rfl,k,hk,h1,T1⟩)
 ·have hvs:v<=2097152:=(bN hu).2
  have HR1:=aB h1
  have HSB:=aB hsb
  have HT1:=aB T1
  have hlen:=h1.len
  have hle:=h1.le
  have hmx:=h1.mx
  unfold maxLen at hmx
  have z2:IntKind.u64.wrap (n1:Int)=(n1:Int):=qQd _ (by omega)
  clear f0 f1 f2
  obtain⟨f0,f1,f2⟩:=HR1.blk.facts
  by_cases hvt:v<=n1
  ·have y0:¬ (n1:Int)<(v:Int):=by omega
   have y1:(v:Int)<=(c1:Int):=by omega
   have y2:(0:Int)<=(v:Int):=by omega
   have hbr:eE bs=some (t.take v,t.drop v):=by
    unfold eE
    rw[hu]
    simp only
    rw[if_pos (by omega)]
   have hrd:=h1.rd.take (k:=v) hvt
   rw[qJc,<-List.map_take] at hrd
   have htl:(t.take v).length=v:=by rw[qXf,hlen];omega
   have HCL:=aB (qL w1 A1 v c1 (t.take v) hrd htl (by omega))
   have HBR:=aB hbr
   have HTL:=aB htl
   have HVS:=aB hvs
   have HLE:=aB (And.intro hle hvt)
   clear h1 hsb T1 HU hrd hlen hvt hbr htl hvs hu
   subst hA
   go_wp2_with fail
   refine HCL.mono ?_
   rintro e w2 ⟨A2,n2,c2,rfl,hn2,h2⟩
   subst hn2
   have HO2:=aB h2
   have HR2:=aB (HR1.quiet h2.touch)
   have hst:=HR2.step (k:=n2) HLE.2
   have HST:=aB hst
   have HSB2:Hid (Uf A (if c1=n2 then some ⟨g,o,none⟩ else (some (⟨g,o,none⟩:Addr)).map (·.add n2))):=aB (λg' hg'=>HSB.out g' (vW.same g' hg'))
   have HT2:=aB (HT1.then (h2.touch.up _))
   clear h2 hst HCL f0 f1 f2
   obtain⟨f0,f1,f2⟩:=HR2.blk.facts
   have own2:∀ u,(w2.setCell ⟨p,0,none⟩ u).ownsRow 0 5 1 (.slice A2 n2 c2) n2 ((t.take n2).map aP):=λu=>aD HO2.own ((aC.refl (λg=>g=p) w2).setCell (p:=⟨p,0,none⟩) (λ_=>rfl) u) (λg' hg' e=>(aH HO2.own hg').ne (aF HR2.blk) (by decide) e)
   have HOW:=aB own2
   have HFR:Hid (∀ g',(Value.slice A2 n2 c2).ownBlock=some g'->w.heap.size<=g'):=aB (λg' hg'=>qXc HT1.size (HO2.fresh g' hg'))
   clear own2
   by_cases hck:c1=n2
   ·rw[if_pos hck] at HST HSB2
    subst hck
    have hnc:n1=c1:=by have:=HLE.out;omega
    subst hnc
    simp only[Nat.sub_self] at HST
    go_wp2_with fail
    go_ret
    exact .inl ⟨t.take n1,t.drop n1,_,_,_,A2,c2,HBR,by rw[HTL.out];exact HVS,by rw[HTL.out];rfl,by rw[HTL.out];exact HOW _,by rw[HTL.out];exact HFR,HST,HSB2,HT2.setCell (λ_=>rfl) _⟩
   ·rw[if_neg hck] at HST HSB2
    simp only[Option.map_some,Addr.add_lit] at HST HSB2
    have hck1:¬ (c1:Int)=(n2:Int):=by omega
    go_wp2_with fail
    go_ret
    exact .inl ⟨t.take n2,t.drop n2,_,_,_,A2,c2,HBR,by rw[HTL.out];exact HVS,by rw[HTL.out];rfl,by rw[HTL.out];exact HOW _,by rw[HTL.out];exact HFR,HST,HSB2,HT2.setCell (λ_=>rfl) _⟩
  ·have y0:(n1:Int)<(v:Int):=by omega
   have hbr:eE bs=none:=by
    unfold eE
    rw[hu]
    simp only
    rw[if_neg (by omega)]
   have HBR:=aB hbr
   clear h1 hsb T1 HU hlen hvt hbr hu
   go_wp2_with fail
   go_ret
   have T2:aC (λg=>g=p) w1 ((w1.setCell ⟨p,0,none⟩ (.slice A n c)).setCell ⟨p,1,none⟩ (.int .i64 20)):=((aC.refl (λg=>g=p) w1).setCell (λ_=>rfl) _).setCell (λ_=>rfl) _
   exact .inr ⟨HBR,rfl,20,by decide,⟨(HR1.blk.set_ 0 _).set_ 1 _,iO HR.rd (HT1.then T2) (λhn g hg e=>HR.ne hn g hg e),HR.ne,HR.len,HR.le,HR.mx⟩,HT1.then T2⟩
 ·have hbr:eE bs=none:=by
   unfold eE
   rw[hu]
  have HBR:=aB hbr
  have HR1:=aB h1
  have HT1:=aB T1
  have y0:(k == 0)=false:=by simp;omega
  have y1:¬ k=0:=by omega
  clear f0 f1 f2
  obtain⟨f0,f1,f2⟩:=HR1.blk.facts
  clear h1 T1 hu hbr HU
  go_wp2_with fail
  go_ret
  exact .inr ⟨HBR,rfl,k,hk,HR1,HT1⟩
def Aq(t:List UInt8):Nat->Nat
 | 0=>0
 | k+1=>Aq t k+(t.getD k 0).toNat*256 ^ k
theorem aDv(t:List UInt8)(k:Nat):Aq t k<256 ^ k:=by
 induction k with
 | zero=>simp[Aq]
 | succ k ih =>
  have h:=(t.getD k 0).toNat_lt
  have h2:(t.getD k 0).toNat*256 ^ k<=255*256 ^ k:=Nat.mul_le_mul_right _ (by omega)
  rw[Nat.pow_succ]
  simp only[Aq]
  omega
theorem Wc(s k:Nat)(hk:k<=4):Aq (Kb s) k=s % 256 ^ k:=by
 induction k with
 | zero=>simp[Aq,Nat.mod_one]
 | succ k ih =>
  simp only[Aq]
  rw[Wm,ih (by omega),aCa s k (by omega)]
theorem Yh(h:t.length=4):Kb (Aq t 4)=t:=by
 match t,h with
 | [a,b,c,d],_ =>
  have ha:=a.toNat_lt
  have hb:=b.toNat_lt
  have hc:=c.toNat_lt
  have hd:=d.toNat_lt
  have e:Aq [a,b,c,d] 4=a.toNat+b.toNat*256+c.toNat*65536+d.toNat*16777216:=by
   simp[Aq]
  rw[e]
  unfold Kb
  have q (x:UInt8) (n:Nat) (h:n=x.toNat):UInt8.ofNat n=x:=by rw[h];exact UInt8.ofNat_toNat
  rw[q a _ (by omega),q b _ (by omega),q c _ (by omega),q d _ (by omega)]
def cR(bs:List UInt8):Option (List UInt8 × List UInt8):=match eE bs with
 | some (x,t)=>if 4<=t.length/\Aq t 4=sumB x then some (x,t.drop 4) else none
 | none=>none
theorem rM(h:x.length<=2097152)(t:List UInt8):eE (dA x.length++(x++t))=some (x,t):=by
 unfold eE
 rw[cC h (by omega)]
 simp only
 rw[if_pos (by rw[qXd];omega),List.take_left' rfl,List.drop_left' rfl]
theorem oF{bs:List UInt8}(h:eE bs=some (x,t)):bs=dA x.length++(x++t)/\x.length<=2097152:=by
 unfold eE at h
 split at h
 ·rename_i v t0 hu
  split at h
  ·rename_i hv
   simp only[Option.some.injEq,Prod.mk.injEq] at h
   obtain⟨rfl,rfl⟩:=h
   obtain⟨hb,hm⟩:=bN hu
   have hl:(t0.take v).length=v:=by rw[qXf];omega
   rw[hl,List.take_append_drop]
   exact⟨hb,hm⟩
  ·cases h
 ·cases h
theorem Fz{bs:List UInt8}(h:cR bs=some (x,[])):bs=vM x/\x.length<=2097152:=by
 unfold cR at h
 split at h
 ·rename_i x0 t hb
  split at h
  ·rename_i h4
   simp only[Option.some.injEq,Prod.mk.injEq] at h
   obtain⟨rfl,ht⟩:=h
   have hl:=congrArg List.length ht
   rw[List.length_drop,List.length_nil] at hl
   obtain⟨e,hm⟩:=oF hb
   have hs:=Yh (show t.length=4 by omega)
   rw[h4.2] at hs
   refine⟨?_,hm⟩
   unfold vM
   rw[e,hs,qZa]
  ·cases h
 ·cases h
theorem Bm(h:x.length<=2097152):cR (vM x)=some (x,[]):=by
 have hs:sumB x<4294967296:=by unfold sumB;omega
 unfold cR vM
 rw[qZa,rM h]
 simp only
 rw[if_pos ⟨qZc 4,by rw[Wc _ 4 (by omega)];exact Nat.mod_eq_of_lt hs⟩]
 rfl
theorem Lj{bs:List UInt8}(h:eE bs=some (x,t)):t.length<=bs.length:=by
 rw[(oF h).1,qXd,qXd]
 omega
def Nv(n:Nat)(bs:List UInt8)(w:World)(e:Ending)(w':World):Prop :=
 (∃ (x t:List UInt8) (A':Option Addr) (c':Nat),cR bs=some (x,t)/\x.length<=2097152/\t.length<=n/\e=.returned (.tuple #[.slice A' x.length c',.int .i64 ((n:Int)-t.length),.int .i64 0])/\eB 5 1 w w' (.slice A' x.length c') x.length (x.map aP)) \/
 (cR bs=none/\∃ k:Int,1<=k/\e=.returned (.tuple #[.slice none 0 0,.int .i64 0,.int .i64 k])/\aC (λ_=>False) w w')
theorem Yr(w:World)(A:Option Addr)(n c:Nat)(bs:List UInt8)(hR:aI w 1 A n (bs.map aP))(hl:bs.length=n)(hnc:n<=c)(hcm:c<=maxLen)(hn:n<=35184372088832) :
  Calls Tryz.prog 53 #[.slice A n c] w λe w'=>Nv n bs w e w':=by
 obtain⟨wa,hwa⟩:=eX (w.alloc (.cells #[.slice A n c,.int .i64 0] 214))
 obtain⟨p,hp⟩:=eX w.heap.size
 have hTa:aC (λ_=>False) w wa:=by rw[hwa];exact (aC.refl _ _).alloc _
 have hblk:aL wa p 214 #[.slice A n c,.int .i64 0]:=by rw[hwa,hp];exact aL.new _ _ _
 have hne:0<n->∀ g,aQ A=some g->¬ g=p:=λhn0 g hg e=>by
  obtain⟨b,off,hA,hb,_⟩:=hR.2 hn0
  rw[hA] at hg
  simp[aQ] at hg
  omega
 have hrg:vW wa p A n c bs 0:=⟨hblk,hR.touch hTa (λ_ _ f=>f),hne,hl,hnc,hcm⟩
 have HBY:=aB (Nz wa p A n c bs hrg hn)
 have HTA:=aB hTa
 have HWA:=aB hwa
 have HP:=aB hp
 have HNB:=aB hn
 have HPW:Hid (w.heap.size<=p):=aB (by omega)
 have HLN:=aB hl
 clear hwa hp hTa hblk hne hrg hR hl hnc hcm hn
 go_in
 go_upto_region 2 with fail
 rw[<-HWA.out,<-HP.out]
 go_wp2_with fail
 refine HBY.mono ?_
 rintro e w1 (⟨x,t,A1,n1,c1,AX,cX,hbr,hxl,rfl,hox,hfx,hr1,_,T1⟩ | ⟨hbr,rfl,k,hk,hr1,T1⟩)
 ·have HR1:=aB hr1
  have HT1:=aB (HTA.trans T1 (λi hi e=>by have:=HPW.out;omega))
  have HOX:Hid (eB 5 1 w w1 (.slice AX x.length cX) x.length (x.map aP)):=aB ⟨hox,HT1,λg hg=>qXc HTA.size (hfx g hg)⟩
  have HSM:=aB (Hb w1 AX x.length cX x (aI.of_own hox) rfl (by omega))
  have htn:n1<=n:=by have:=Lj hbr;have:=hr1.len;have:=HLN.out;omega
  have hle:=hr1.le
  have HBR:=aB hbr
  have HXL:=aB hxl
  have HTN:=aB htn
  obtain⟨f0,f1,f2⟩:=hr1.blk.facts
  by_cases h4:4<=n1
  ·have y4:¬ (n1:Int)<4:=by omega
   have k4:(4:Int)<=(c1:Int):=by omega
   have H4:=aB h4
   obtain⟨g,o,hA,_,_⟩:=hr1.rd.form (by omega)
   subst hA
   clear hox hfx hr1 T1 HBY hle hbr hxl htn h4
   go_wp2_with fail
   go_loopw [7,32] (λsv kv wr=>∃ k:Nat,sv=.int .u32 ((Aq t k:Nat):Int)/\kv=.int .i64 k/\k<=4/\wr=w1) (λ_ kv _=>4-(intOf kv).toNat)
   case atStart=>exact⟨0,by simp[Aq],rfl,by omega,rfl⟩
   case round =>
    obtain⟨k,rfl,rfl,hk',hwr⟩:=hrel
    subst hwr
    by_cases hk:k<4
    ·obtain⟨g',o',hA',_,l0⟩:=rL HR1.rd k (by have:=H4.out;omega) HR1.len
     injection hA' with hA'
     injection hA' with hA1 hA2
     subst hA1 hA2
     have hdl:=(t.getD k 0).toNat_lt
     have hnx:Aq t (k+1)=Aq t k+(t.getD k 0).toNat*256 ^ k:=rfl
     have hor:=aBc (Aq t k) (t.getD k 0).toNat (8*k) (by omega) (by rw[Nat.pow_mul];exact aDv t k) (by
      rw[Nat.pow_mul]
      rcases k with _ | _ | _ | _ | k
      ·simp at hdl ⊢;omega
      ·simp at hdl ⊢;omega
      ·simp at hdl ⊢;omega
      ·simp at hdl ⊢;omega
      ·omega)
     rw[show (2:Nat) ^ (8*k)=256 ^ k by rw[Nat.pow_mul]] at hor
     rw[<-hnx] at hor
     obtain⟨r,hr⟩:=eX (Aq t k)
     obtain⟨d,hd⟩:=eX ((t.getD k 0).toNat)
     obtain⟨r2,hr2⟩:=eX (Aq t (k+1))
     rw[<-hr,<-hd,<-hr2] at hor
     rw[<-hd] at l0 hdl
     rw[<-hr]
     have m0:IntKind.u32.wrap (d:Int)=(d:Int):=by rw[IntKind.wrap_u32];omega
     have HDL:=aB hdl
     clear hnx hr hd hdl
     have hkk:k=0\/k=1\/k=2\/k=3:=by omega
     clear hk hk'
     rcases hkk with rfl | rfl | rfl | rfl
     ·simp only[qJb,qJe,qQf,qJc] at hor
      rw[Nat.add_zero] at l0
      have HOR:=aB hor
      have HRR:=aB hr2
      clear hor hr2
      go_wp2_with fail
      refine⟨⟨1,?_,rfl,by omega,trivial⟩,by simp[intOf]⟩
      rw[HOR.out,HRR.out]
     ·simp only[qJb,qJe,qQf,qJc] at hor
      have e:(d:Int)*256 % 4294967296=((d*256:Nat):Int):=by have:=HDL.out;omega
      have HE:=aB e
      have HOR:=aB hor
      have HRR:=aB hr2
      clear hor hr2 e
      go_wp2_with fail
      refine⟨⟨2,?_,rfl,by omega,trivial⟩,by simp[intOf]⟩
      rw[HE.out,HOR.out,HRR.out]
     ·simp only[qJb,qJe,qQf,qJc] at hor
      have e:(d:Int)*65536 % 4294967296=((d*65536:Nat):Int):=by have:=HDL.out;omega
      have HE:=aB e
      have HOR:=aB hor
      have HRR:=aB hr2
      clear hor hr2 e
      go_wp2_with fail
      refine⟨⟨3,?_,rfl,by omega,trivial⟩,by simp[intOf]⟩
      rw[HE.out,HOR.out,HRR.out]
     ·simp only[qJb,qJe,qQf,qJc] at hor
      have e:(d:Int)*16777216 % 4294967296=((d*16777216:Nat):Int):=by have:=HDL.out;omega
      have HE:=aB e
      have HOR:=aB hor
      have HRR:=aB hr2
      clear hor hr2 e
      go_wp2_with fail
      refine⟨⟨4,?_,rfl,by omega,trivial⟩,by simp[intOf]⟩
      rw[HE.out,HOR.out,HRR.out]
    ·have k0:¬ (k:Int)<4:=by omega
     have hk4:k=4:=by omega
     subst hk4
     obtain⟨s,hs⟩:=eX (Aq t 4)
     obtain⟨s2,hs2⟩:=eX (sumB x)
     rw[<-hs]
     rw[<-hs2] at HSM
     have HS:=aB hs
     have HS2:=aB hs2
     clear hk hk' k0 hs hs2
     go_wp2_with fail
     refine HSM.mono ?_
     rintro e w2 ⟨rfl,T2⟩
     have HT2:=aB T2
     have hr2:=HR1.quiet T2
     obtain⟨f0,f1,f2⟩:=hr2.blk.facts
     clear T2 HSM hr2
     by_cases hss:s=s2
     ·subst hss
      have z1:IntKind.i64.wrap ((n:Int)-n1)=(n:Int)-n1:=qQa _ (by have:=HNB.out;have:=HTN.out;omega)
      have z2:IntKind.i64.wrap ((n:Int)-n1+4)=(n:Int)-n1+4:=qQa _ (by have:=HNB.out;have:=HTN.out;have:=H4.out;omega)
      have hun:cR bs=some (x,t.drop 4):=by
       unfold cR
       rw[HBR.out]
       simp only
       rw[if_pos ⟨by rw[HR1.len];exact H4.out,by rw[<-HS.out,<-HS2.out]⟩]
      have HUN:=aB hun
      have hdl:(t.drop 4).length=n1-4:=by rw[List.length_drop,HR1.len]
      have he:(n:Int)-n1+4=(n:Int)-((t.drop 4).length:Nat):=by rw[hdl];have:=H4.out;omega
      have HDL:=aB hdl
      have HE:=aB he
      clear hun hdl he
      go_wp2_with fail
      go_region
      go_wp2_with fail
      go_ret3
      exact .inl ⟨x,t.drop 4,AX,cX,HUN,HXL,by rw[HDL.out];have:=HTN.out;omega,by rw[HE.out];rfl,HOX.to (HT2.then (aC.refl _ _).drew)⟩
     ·have y5:((s:Int) == (s2:Int))=false:=by simp;omega
      have y6:¬ (s:Int)=(s2:Int):=by omega
      have hun:cR bs=none:=by
       unfold cR
       rw[HBR.out]
       simp only
       rw[if_neg (by rw[<-HS.out,<-HS2.out];exact λh=>hss h.2)]
      have HUN:=aB hun
      clear hun hss
      go_wp2_with fail
      go_ret3
      exact .inr ⟨HUN,24,by decide,rfl,HT1.then HT2⟩
  ·have y4:(n1:Int)<4:=by omega
   have hun:cR bs=none:=by
    unfold cR
    rw[hbr]
    simp only
    rw[if_neg (by rw[hr1.len];omega)]
   have HUN:=aB hun
   clear hox hfx hr1 T1 HBY hle hbr hxl htn h4 hun
   go_wp2_with fail
   go_region
   go_wp2_with fail
   go_ret3
   exact .inr ⟨HUN,20,by decide,rfl,(HT1.trans ((aC.refl (λg=>g=p) w1).setCell (λ_=>rfl) _) (λi hi e=>by have:=HPW.out;omega)).drew⟩
 ·have hun:cR bs=none:=by
   unfold cR
   rw[hbr]
  have HUN:=aB hun
  have HT1:=aB (HTA.trans T1 (λi hi e=>by have:=HPW.out;omega))
  have y0:(k == 0)=false:=by simp;omega
  have y1:¬ k=0:=by omega
  obtain⟨f0,f1,f2⟩:=hr1.blk.facts
  clear hr1 T1 hun hbr HBY
  go_wp2_with fail
  go_region
  go_wp2_with fail
  go_ret3
  exact .inr ⟨HUN,k,hk,rfl,HT1.drew⟩
def RS(w:World)(p:Nat):Option (List UInt8)->Prop
 | some bs=>∃ (A:Option Addr) (n c:Nat),lJ w p A n c bs 0
 | none=>∃ (A:Option Addr) (n c:Nat) (bs:List UInt8) (k:Int),1<=k/\lJ w p A n c bs k
theorem RS.ty{p:Nat}:∀ {st:Option (List UInt8)},RS w p st->bE w p 214
 | some _,⟨_,_,_,h⟩=>aF h.blk
 | none,⟨_,_,_,_,_,_,h⟩=>aF h.blk
theorem RS.touch{p:Nat}{S:Nat->Prop}(T:aC S w w')(h1:¬ S p)(h2:∀ g,bE w g 5 -> ¬ S g):∀ {st:Option (List UInt8)},RS w p st->RS w' p st
 | some _,⟨A,n,c,h⟩=>⟨A,n,c,h.touch T h1 h2⟩
 | none,⟨A,n,c,bs,k,hk,h⟩=>⟨A,n,c,bs,k,hk,h.touch T h1 h2⟩
theorem RS.quiet{p:Nat}(h:RS w p st)(T:aC (λ_=>False) w w'):RS w' p st:=RS.touch T (λf=>f) (λ_ _ f=>f) h
def uX(most:Nat):Option (List UInt8)->Nat × Option (List UInt8)
 | none=>(0,none)
 | some bs=>match bU most bs with
  | some (v,t)=>(v,some t)
  | none=>(0,none)
theorem Am{v:Nat}{bs:List UInt8}(h:bU most bs=some (v,t)):uX most (some bs)=(v,some t):=by
 simp only[uX]
 rw[h]
theorem Yo{bs:List UInt8}(h:bU most bs=none):uX most (some bs)=(0,none):=by
 simp only[uX]
 rw[h]
theorem wV(most:Nat)(st:Option (List UInt8)):(∃ bs v t,st=some bs/\bU most bs=some (v,t)/\uX most st=(v,some t))\/uX most st=(0,none):=by
 cases st with
 | none=>exact .inr rfl
 | some bs =>
  cases h:bU most bs with
  | none=>exact .inr (Yo h)
  | some r=>exact .inl ⟨bs,r.1,r.2,rfl,h,Am h⟩
theorem aHk{most:Nat}{st:Option (List UInt8)}:(uX most st).1<=most:=by
 rcases wV most st with⟨bs,v,t,_,h,e⟩ | e
 ·rw[e];exact (bN h).2
 ·rw[e];exact qZb _
theorem aHl{most:Nat}{st:Option (List UInt8)}:(uX most st).1<18446744073709551616:=by
 rcases wV most st with⟨bs,v,t,_,h,e⟩ | e
 ·rw[e]
  unfold bU at h
  split at h
  ·cases h
  ·rename_i n t' hn
   split at h
   ·simp only[Option.some.injEq,Prod.mk.injEq] at h
    rw[<-h.1]
    exact (Cv hn).2
   ·cases h
 ·rw[e];decide
theorem pS(h:(uX most st).2=some t):∃ bs,st=some bs/\bs=dA (uX most st).1++t:=by
 rcases wV most st with⟨bs,v,t',hs,hu,e⟩ | e
 ·rw[e] at h ⊢
  simp only[Option.some.injEq] at h
  rw[<-h]
  exact⟨bs,hs,(bN hu).1⟩
 ·rw[e] at h
  cases h
theorem oU{v:Nat}(h:v<=most)(hv:v<18446744073709551616)(t:List UInt8):uX most (some (dA v++t))=(v,some t):=Am (cC h hv t)
theorem aEq(w:World)(p:Nat)(st:Option (List UInt8))(h:RS w p st)(most:Nat) :
  Calls Tryz.prog 57 #[.pointer (some ⟨p,0,none⟩),.int .u64 most] w λe w'=>e=.returned (.int .u64 ((uX most st).1:Nat))/\RS w' p (uX most st).2/\aC (λg=>g=p) w w':=by
 cases st with
 | some bs =>
  obtain⟨A,n,c,h⟩:=h
  refine (Pg w p A n c bs h most).mono ?_
  rintro e w' (⟨v,t,A',n',c',hu,rfl,hr,T⟩ | ⟨hu,rfl,k,hk,hr,T⟩)
  ·rw[Am hu]
   exact⟨rfl,⟨A',n',c',hr⟩,T⟩
  ·rw[Yo hu]
   exact⟨rfl,⟨A,n,c,bs,k,hk,hr⟩,T⟩
 | none =>
  obtain⟨A,n,c,bs,k,hk,h⟩:=h
  refine (Pf w p A n c bs k h hk most).mono ?_
  rintro e w' ⟨rfl,rfl⟩
  exact⟨rfl,⟨A,n,c,bs,k,hk,h⟩,aC.refl _ _⟩
theorem aCr(w:World)(p:Nat)(st:Option (List UInt8))(h:RS w p st) :
  Calls Tryz.prog 59 #[.pointer (some ⟨p,0,none⟩)] w λe w'=>∃ x:Int,e=.returned (.int .i64 x)/\(x=0↔st=some [])/\w'=w:=by
 cases st with
 | some bs =>
  obtain⟨A,n,c,h⟩:=h
  refine (lO w p A n c bs 0 h).mono ?_
  rintro e w' ⟨x,rfl,hx,rfl⟩
  refine⟨x,rfl,?_,rfl⟩
  unfold Po at hx
  rw[hx,<-h.len]
  simp
 | none =>
  obtain⟨A,n,c,bs,k,hk,h⟩:=h
  refine (lO w p A n c bs k h).mono ?_
  rintro e w' ⟨x,rfl,hx,rfl⟩
  refine⟨x,rfl,?_,rfl⟩
  unfold Po at hx
  rw[hx]
  simp
  omega
def tX(st:Option (List UInt8)):aU × Option (List UInt8) :=
 let a:=uX 18446744073709551615 st
 let b:=uX 65535 a.2
 let c:=uX 18446744073709551615 b.2
 let d:=uX 1048576 c.2
 (⟨(a.1:Int),(b.1:Int),(c.1:Int),(d.1:Int)⟩,d.2)
def cF:Nat->Option (List UInt8)->List aU × Option (List UInt8)
 | 0,st=>([],st)
 | k+1,st=>((cF k st).1++[(tX (cF k st).2).1],(tX (cF k st).2).2)
theorem aBn(st:Option (List UInt8)):(tX st).1.In:=by
 unfold tX
 simp only
 have h1:=@aHl 18446744073709551615 st
 have h2:=@aHk 65535 (uX 18446744073709551615 st).2
 have h3:=@aHl 18446744073709551615 (uX 65535 (uX 18446744073709551615 st).2).2
 have h4:=@aHk 1048576 (uX 18446744073709551615 (uX 65535 (uX 18446744073709551615 st).2).2).2
 constructor<;>simp only<;>omega
theorem pL(k:Nat)(st:Option (List UInt8)):(cF k st).1.length=k:=by
 induction k with
 | zero=>rfl
 | succ k ih=>simp[cF,ih]
theorem Xj(k:Nat)(st:Option (List UInt8)):∀ r∈(cF k st).1,r.In:=by
 induction k with
 | zero=>intro r hr;cases hr
 | succ k ih =>
  intro r hr
  simp only[cF,qQe,qJa] at hr
  rcases hr with hr | rfl
  ·exact ih r hr
  ·exact aBn _
theorem Sl(h:(tX st).2=some t):∃ bs,st=some bs/\bs=mC (tX st).1++t:=by
 unfold tX at h ⊢
 simp only at h ⊢
 obtain⟨b4,e4,h4⟩:=pS h
 obtain⟨b3,e3,h3⟩:=pS e4
 obtain⟨b2,e2,h2⟩:=pS e3
 obtain⟨b1,e1,h1⟩:=pS e2
 refine⟨b1,e1,?_⟩
 rw[h1,h2,h3,h4]
 simp[mC,Iv]
theorem zM(k:Nat)(h:(cF k st).2=some t):∃ bs,st=some bs/\bs=(cF k st).1.flatMap mC++t:=by
 induction k generalizing t with
 | zero=>exact⟨t,h,rfl⟩
 | succ k ih =>
  simp only[cF] at h ⊢
  obtain⟨b1,e1,h1⟩:=Sl h
  obtain⟨bs,e,hb⟩:=ih e1
  refine⟨bs,e,?_⟩
  rw[hb,h1]
  simp
theorem Ms{r:aU}(hr:r.In)(t:List UInt8):tX (some (mC r++t))=(r,some t):=by
 obtain⟨rs,rc,rr,rh⟩:=r
 obtain⟨i1,i2,i3,i4,i5,i6,i7,i8⟩:=hr
 simp only at i1 i2 i3 i4 i5 i6 i7 i8
 have e:mC ⟨rs,rc,rr,rh⟩++t=dA rs.toNat++(dA rc.toNat++(dA rr.toNat++(dA rh.toNat++t))):=by simp[mC,Iv]
 unfold tX
 rw[e,oU (by omega) (by omega)]
 simp only
 rw[oU (by omega) (by omega)]
 simp only
 rw[oU (by omega) (by omega)]
 simp only
 rw[oU (by omega) (by omega)]
 simp only
 rw[show ((rs.toNat:Nat):Int)=rs by omega,show ((rc.toNat:Nat):Int)=rc by omega,show ((rr.toNat:Nat):Int)=rr by omega,show ((rh.toNat:Nat):Int)=rh by omega]
theorem vK(R:List aU)(hR:∀ r∈R,r.In)(t:List UInt8):∀ k,k<=R.length->cF k (some (R.flatMap mC++t))=(R.take k,some ((R.drop k).flatMap mC++t))
 | 0,_=>rfl
 | k+1,hk=>by
  simp only[cF]
  rw[vK R hR t k (by omega)]
  have hd:R.drop k=R[k] :: R.drop (k+1):=List.drop_eq_getElem_cons (by omega)
  simp only
  rw[hd,List.flatMap_cons,qZa,Ms (hR _ (List.getElem_mem _))]
  simp only
  rw[qXi (by omega)]
theorem Mt(j:Nat)(h:(cF i st).2=none):(cF (i+j) st).2=none:=by
 induction j with
 | zero=>exact h
 | succ j ih =>
  rw[<-Nat.add_assoc]
  simp only[cF]
  rw[ih]
  rfl
theorem Sm(j i:Nat)(st:Option (List UInt8)):(cF i st).1 <+: (cF (i+j) st).1:=by
 induction j with
 | zero=>exact List.prefix_refl _
 | succ j ih =>
  rw[<-Nat.add_assoc]
  simp only[cF]
  exact ih.trans (List.prefix_append _ _)
def mT(b:List UInt8):Option (List UInt8 × List aU):=match cR b with
 | some (x,[])=>match eE x with
  | some (m,t1)=>if (cF (uX 4096 (some t1)).1 (uX 4096 (some t1)).2).2=some []/\(cF (uX 4096 (some t1)).1 (uX 4096 (some t1)).2).1.all dR=true then some (m,(cF (uX 4096 (some t1)).1 (uX 4096 (some t1)).2).1) else none
  | none=>none
 | _=>none
structure lH(b:List UInt8)(L:List aE)(R:List aU):Prop where
 dict:cA L
 rin:∀ r∈R,r.In
 good:R.all dR=true
 few:R.length<=4096
 short:(oE L R).length<=2097152
 eq:b=Vr L R
theorem fG{b:List UInt8}{L:List aE}{R:List aU}(h:lH b L R):mT b=some (mB L,R):=by
 have hb:oE L R=dA (mB L).length++(mB L++(dA R.length++(R.flatMap mC++[]))):=by
  unfold oE qC
  simp
 have hm:(mB L).length<=2097152:=by
  have:=h.short
  rw[hb] at this
  simp only[qXd] at this
  omega
 have he:b=vM (oE L R):=by rw[h.eq];unfold Vr;rw[if_pos h.short]
 have hf:=h.few
 unfold mT
 rw[he,Bm h.short]
 simp only
 rw[hb,rM hm]
 simp only
 rw[oU hf (by omega)]
 simp only
 rw[vK R h.rin [] R.length (qZc _),qXe,List.drop_length]
 simp only[List.flatMap_nil,List.append_nil]
 rw[if_pos (by refine⟨?_,h.good⟩;simp)]
theorem tK{b m:List UInt8}{R:List aU}(h:mT b=some (m,R)){L:List aE}(hD:cA L)(hm:mB L=m):lH b L R:=by
 unfold mT at h
 split at h
 ·rename_i x hu
  obtain⟨hb,hx⟩:=Fz hu
  split at h
  ·rename_i m' t1 hy
   obtain⟨hb2,_⟩:=oF hy
   split at h
   ·rename_i hc
    simp only[Option.some.injEq,Prod.mk.injEq] at h
    obtain⟨rfl,rfl⟩:=h
    have hle:=@aHk 4096 (some t1)
    obtain⟨kk,s2,hk⟩:∃ a s,uX 4096 (some t1)=(a,s):=⟨_,_,rfl⟩
    rw[hk] at hc hle ⊢
    simp only at hc hle ⊢
    have hrl:=pL kk s2
    have hri:=Xj kk s2
    obtain⟨t2,e2,h2⟩:=zM _ hc.1
    have e3:(uX 4096 (some t1)).2=some t2:=by rw[hk];exact e2
    obtain⟨t3,e4,h3⟩:=pS e3
    rw[hk] at h3
    simp only[Option.some.injEq] at e4 h3
    obtain⟨R,hR⟩:=eX ((cF kk s2).1)
    rw[<-hR] at hrl hri h2 hc ⊢
    have hbd:x=oE L R:=by
     rw[hb2,e4,h3,h2]
     unfold oE qC
     rw[hm,hrl]
     simp
    refine⟨hD,hri,hc.2,by rw[hrl];exact hle,by rw[<-hbd];exact hx,?_⟩
    unfold Vr
    rw[<-hbd,if_pos hx,hb]
   ·cases h
  ·cases h
 ·cases h
section
variable[Inhabited eF]
theorem Mx(w:World)(x y:ZV)(hx:x.Ok w)(hy:y.Ok w) :
  Calls Tryz.prog 185 #[.agg #[.bool x.fin,.int .i64 x.out,.slice x.A x.n x.c],.agg #[.bool y.fin,.int .i64 y.out,.slice y.A y.n y.c]] w λe w'=>jF (x.p=y.p) e/\aC (λ_=>False) w w':=by
 obtain⟨xf,xo,xA,xn,xc,xa⟩:=x
 obtain⟨yf,yo,yA,yn,yc,ya⟩:=y
 obtain⟨xlen,xrd,xle,xmx⟩:=hx
 obtain⟨ylen,yrd,yle,ymx⟩:=hy
 simp only[ZV.p,iS.mk.injEq] at *
 obtain⟨Q,hQ⟩:∃ Q:Prop,(xf=yf/\xo=yo/\xa=ya)=Q:=⟨_,rfl⟩
 rw[hQ]
 have HQ:=aB hQ
 clear hQ
 have hnm:xn<=maxLen:=qXc xle xmx
 have HX:=aB xrd
 have HXL:=aB xlen
 have HY:=aB yrd
 have HYL:=aB ylen
 clear xrd xlen yrd ylen xle xmx yle ymx
 by_cases e1:xf=yf
 ·subst e1
  by_cases e2:xo=yo
  ·subst e2
   by_cases e3:xn=yn
   ·subst e3
    go_in
    go_wp2_with fail
    obtain⟨w3,hw3⟩:=eX ((w.alloc (.cells #[.bool xf,.int .i64 xo,.slice xA xn xc] 170)).alloc (.cells #[.bool xf,.int .i64 xo,.slice yA xn yc] 170))
    obtain⟨X,hX⟩:=eX w.heap.size
    obtain⟨Y,hY⟩:=eX (w.heap.size+1)
    have hT3:aC (λ_=>False) w w3:=by
     rw[hw3]
     exact ((aC.refl _ _).alloc _).alloc _
    have hbX:aL w3 X 170 #[.bool xf,.int .i64 xo,.slice xA xn xc]:=by
     rw[hw3,hX]
     exact (aL.new _ _ _).alloc _
    have hbY:aL w3 Y 170 #[.bool xf,.int .i64 xo,.slice yA xn yc]:=by
     rw[hw3,hY]
     have h:=aL.new (w.alloc (.cells #[.bool xf,.int .i64 xo,.slice xA xn xc] 170)) 170 #[.bool xf,.int .i64 xo,.slice yA xn yc]
     simpa using h
    rw[<-hw3]
    try rw[<-hY]
    rw[<-hX]
    have HT3:=aB hT3
    have HBX:=aB hbX
    have HBY:=aB hbY
    clear hw3 hT3 hbX hbY hX hY
    go_loopw [5] (λiv wr=>∃ (i:Nat),iv=.int .i64 i/\i<=xn/\Hid (xa.take i=ya.take i)/\Hid (aC (λ_=>False) w3 wr)) (λiv _=>xn-(intOf iv).toNat)
    case atStart=>exact⟨0,rfl,by omega,aB rfl,aB (aC.refl _ _)⟩
    case round =>
     obtain⟨i,rfl,hi,HP,HT⟩:=hrel
     obtain⟨q1,q2,q3⟩:=(HBX.touch HT (λf=>f)).facts
     obtain⟨r1,r2,r3⟩:=(HBY.touch HT (λf=>f)).facts
     by_cases hin:i<xn
     ·have y1:(i:Int)<(xn:Int):=by omega
      have y2:(0:Int)<=(i:Int):=by omega
      have z2:IntKind.i64.wrap ((i:Int)+1)=(i:Int)+1:=qQa _ (by unfold maxLen at hnm;omega)
      obtain⟨g,o,hA,hg,c1,c2,c3⟩:=iR (HX.quiet (HT3.then HT)).rd HXL i hin
      obtain⟨g2,o2,hA2,hg2,d1,d2,d3⟩:=iR (HY.quiet (HT3.then HT)).rd HYL i hin
      subst hA
      subst hA2
      have hsx:=bI xa (0,0,0) i (by rw[HXL.out];exact hin)
      have hsy:=bI ya (0,0,0) i (by rw[HYL.out];exact hin)
      obtain⟨⟨la,ao,tt⟩,hz⟩:∃ z,xa.getD i (0,0,0)=z:=⟨_,rfl⟩
      obtain⟨⟨lb,bo,ub⟩,hz2⟩:∃ z,ya.getD i (0,0,0)=z:=⟨_,rfl⟩
      rw[hz] at c1 c2 c3 hsx
      rw[hz2] at d1 d2 d3 hsy
      simp only at c1 c2 c3 d1 d2 d3 hsx hsy
      have HSX:=aB hsx
      have HSY:=aB hsy
      clear hz hz2 hsx hsy
      by_cases p1:la=lb
      ·subst p1
       by_cases p2:ao=bo
       ·subst p2
        by_cases p3:tt=ub
        ·subst p3
         go_wp2_with fail
         go_quiet (fail)
         go_wp2_with fail
         go_roundw
         ·refine⟨i+1,by simp,by omega,aB ?_,aB (HT.drewN _)⟩
          rw[HSX.out,HSY.out,HP.out]
         ·simp only[intOf];omega
        ·have p4:((tt:Int) == (ub:Int))=false:=by simp;omega
         go_wp2_with fail
         go_quiet (fail)
         go_wp2_with fail
         go_ret
         refine⟨.mk false ?_,HT3.then (HT.drewN _)⟩
         rw[<-HQ.out]
         exact pA HSX HSY HP (λh=>by simp only[Prod.mk.injEq] at h;exact p3 h.2.2)
       ·have p4:(ao == bo)=false:=by simp;exact p2
        go_wp2_with fail
        go_quiet (fail)
        go_wp2_with fail
        go_ret
        refine⟨.mk false ?_,HT3.then (HT.drewN _)⟩
        rw[<-HQ.out]
        exact pA HSX HSY HP (λh=>by simp only[Prod.mk.injEq] at h;exact p2 h.2.1)
      ·have p4:((la:Int) == (lb:Int))=false:=by simp;omega
       go_wp2_with fail
       go_quiet (fail)
       go_wp2_with fail
       go_ret
       refine⟨.mk false ?_,HT3.then (HT.drewN _)⟩
       rw[<-HQ.out]
       exact pA HSX HSY HP (λh=>by simp only[Prod.mk.injEq] at h;exact p1 h.1)
     ·have hie:i=xn:=by omega
      have h:=HP.out
      rw[qQb (by rw[HXL.out];omega),qQb (by rw[HYL.out];omega)] at h
      have HE:=aB h
      have y1:¬ (i:Int)<(xn:Int):=by omega
      clear h hie hin hi
      go_wp2_with fail
      go_ret
      refine⟨.mk true ?_,HT3.then HT⟩
      rw[<-HQ.out]
      exact⟨λ_=>⟨trivial,trivial,HE⟩,λ_=>rfl⟩
   ·have e4:((xn:Int) == (yn:Int))=false:=by simp;omega
    have hno:¬ Q:=by
     rw[<-HQ.out]
     rintro⟨_,_,h⟩
     exact e3 (by rw[<-HXL.out,<-HYL.out,h])
    have HNO:=aB hno
    clear hno
    go_in
    cases xf
    ·go_wp2_with fail
     go_ret
     exact⟨.mk false ⟨(λh=>by cases h),λh=>absurd h HNO⟩,((aC.refl _ _).alloc _).alloc _⟩
    ·go_wp2_with fail
     go_ret
     exact⟨.mk false ⟨(λh=>by cases h),λh=>absurd h HNO⟩,((aC.refl _ _).alloc _).alloc _⟩
  ·have e4:(xo == yo)=false:=by simp;exact e2
   have hno:¬ Q:=by
    rw[<-HQ.out]
    rintro⟨_,h,_⟩
    exact e2 h
   have HNO:=aB hno
   clear hno
   go_in
   cases xf
   ·go_wp2_with fail
    go_ret
    exact⟨.mk false ⟨(λh=>by cases h),λh=>absurd h HNO⟩,((aC.refl _ _).alloc _).alloc _⟩
   ·go_wp2_with fail
    go_ret
    exact⟨.mk false ⟨(λh=>by cases h),λh=>absurd h HNO⟩,((aC.refl _ _).alloc _).alloc _⟩
 ·have hno:¬ Q:=by
   rw[<-HQ.out]
   rintro⟨h,_⟩
   exact e1 h
  have HNO:=aB hno
  clear hno
  go_in
  cases xf
  ·cases yf
   ·exact absurd rfl e1
   ·go_wp2_with fail
    go_ret
    exact⟨.mk false ⟨(λh=>by cases h),λh=>absurd h HNO⟩,((aC.refl _ _).alloc _).alloc _⟩
  ·cases yf
   ·go_wp2_with fail
    go_ret
    exact⟨.mk false ⟨(λh=>by cases h),λh=>absurd h HNO⟩,((aC.refl _ _).alloc _).alloc _⟩
   ·exact absurd rfl e1
theorem Hk{α β:Type}(f:α->β)(l:List α)(i:Nat)(d:α)(e:β)(h:i<l.length):(l.map f).getD i e=f (l.getD i d):=by simp[qZd,h]
def Xp(X Y:List ZV)(i:Nat):Prop:=(X.take i).map ZV.p=(Y.take i).map ZV.p
theorem Mw(w:World)(b1 b2:Int)(A1:Option Addr)(n1 c1:Nat)(X:List ZV)(A2:Option Addr)(n2 c2:Nat)(Y:List ZV)(hX:iT w A1 n1 X)(hY:iT w A2 n2 Y)(hm1:n1<=maxLen) :
  Calls Tryz.prog 169 #[.agg #[.int .i64 b1,.slice A1 n1 c1],.agg #[.int .i64 b2,.slice A2 n2 c2]] w λe w'=>jF (b1=b2/\X.map ZV.p=Y.map ZV.p) e/\aC (λ_=>False) w w':=by
 obtain⟨Q,hQ⟩:∃ Q:Prop,(b1=b2/\X.map ZV.p=Y.map ZV.p)=Q:=⟨_,rfl⟩
 rw[hQ]
 have HQ:=aB hQ
 have HX:=aB hX
 have HY:=aB hY
 clear hQ hX hY
 unfold maxLen at hm1
 go_in
 by_cases e1:b1=b2
 rotate_left
 ·have hno:¬ Q:=by
   rw[<-HQ.out]
   exact λh=>e1 h.1
  have HNO:=aB hno
  have e4:(b1 == b2)=false:=by simp;exact e1
  clear hno
  go_wp2_with fail
  go_ret
  exact⟨.mk false ⟨(λh=>by cases h),λh=>absurd h HNO⟩,((aC.refl _ _).alloc _).alloc _⟩
 subst e1
 by_cases e2:n1=n2
 rotate_left
 ·have hno:¬ Q:=by
   rw[<-HQ.out]
   rintro⟨_,h⟩
   have:=congrArg List.length h
   rw[qXb,qXb,HX.len,HY.len] at this
   exact e2 this
  have HNO:=aB hno
  have e4:((n1:Int) == (n2:Int))=false:=by simp;omega
  clear hno
  go_wp2_with fail
  go_ret
  exact⟨.mk false ⟨(λh=>by cases h),λh=>absurd h HNO⟩,((aC.refl _ _).alloc _).alloc _⟩
 subst e2
 go_wp2_with fail
 obtain⟨w3,hw3⟩:=eX ((w.alloc (.cells #[.int .i64 b1,.slice A1 n1 c1] 89)).alloc (.cells #[.int .i64 b1,.slice A2 n1 c2] 89))
 obtain⟨P,hP⟩:=eX w.heap.size
 obtain⟨R,hR⟩:=eX (w.heap.size+1)
 have hT3:aC (λ_=>False) w w3:=by
  rw[hw3]
  exact ((aC.refl _ _).alloc _).alloc _
 have hbX:aL w3 P 89 #[.int .i64 b1,.slice A1 n1 c1]:=by
  rw[hw3,hP]
  exact (aL.new _ _ _).alloc _
 have hbY:aL w3 R 89 #[.int .i64 b1,.slice A2 n1 c2]:=by
  rw[hw3,hR]
  exact fU _ _ _ _
 rw[<-hw3]
 try rw[<-hR]
 rw[<-hP]
 have HT3:=aB hT3
 have HBX:=aB hbX
 have HBY:=aB hbY
 clear hw3 hT3 hbX hbY hP hR
 go_loopw [5] (λiv wr=>∃ i:Nat,iv=.int .i64 i/\i<=n1/\Hid (Xp X Y i)/\Hid (aC (λ_=>False) w3 wr)) (λiv _=>n1-(intOf iv).toNat)
 case atStart=>exact⟨0,rfl,by omega,aB rfl,aB (aC.refl _ _)⟩
 case round =>
  obtain⟨i,rfl,hi,HP,HT⟩:=hrel
  obtain⟨q1,q2,q3⟩:=(HBX.touch HT (λf=>f)).facts
  obtain⟨r1,r2,r3⟩:=(HBY.touch HT (λf=>f)).facts
  by_cases hin:i<n1
  ·have y1:(i:Int)<(n1:Int):=by omega
   have y2:(0:Int)<=(i:Int):=by omega
   have z2:IntKind.i64.wrap ((i:Int)+1)=(i:Int)+1:=qQa _ (by omega)
   have hxs:=HX.quiet (HT3.then HT)
   have hys:=HY.quiet (HT3.then HT)
   obtain⟨g,o,hA,_,c0,c1',c2'⟩:=iI hxs.rd.rd hxs.len i hin
   obtain⟨g2,o2,hA2,_,d0,d1,d2⟩:=iI hys.rd.rd hys.len i hin
   subst hA
   subst hA2
   have hxm:=aZ X bG i (by rw[hxs.len];exact hin)
   have hym:=aZ Y bG i (by rw[hys.len];exact hin)
   have hxo:=hxs.el _ hxm
   have hyo:=hys.el _ hym
   have tx:=bI X bG i (by rw[hxs.len];exact hin)
   have ty:=bI Y bG i (by rw[hys.len];exact hin)
   have hne:(X.getD i bG).p≠(Y.getD i bG).p->¬ Q:=by
    rw[<-HQ.out]
    rintro h ⟨_,he⟩
    apply h
    rw[<-Hk ZV.p X i bG (⟨false,0,[]⟩:iS) (by rw[hxs.len];exact hin),<-Hk ZV.p Y i bG (⟨false,0,[]⟩:iS) (by rw[hys.len];exact hin),he]
   obtain⟨x,hx⟩:∃ x,X.getD i bG=x:=⟨_,rfl⟩
   obtain⟨y,hy⟩:∃ y,Y.getD i bG=y:=⟨_,rfl⟩
   rw[hx] at c0 c1' c2' hxo tx hne
   rw[hy] at d0 d1 d2 hyo ty hne
   have HAL:=aB (λwx (T:aC (λ_=>False) wr wx)=>Mx wx x y (hxo.touch T (λ_ _ f=>f)) (hyo.touch T (λ_ _ f=>f)))
   have HTX:=aB tx
   have HTY:=aB ty
   have HNE:=aB hne
   have HIN:=aB hin
   clear hxs hys hxm hym hxo hyo tx ty hne hx hy hin hi
   go_wp2_with fail
   go_still_tail 10,(by kernel_rfl)
   change wpList _ _ _ _ _ wr.drew
   have HD:=aB (show aC (λ_=>False) wr wr.drew from (aC.refl _ _).drew)
   generalize wr.drew=wd at HD ⊢
   go_wp2_with fail
   refine (HAL wd HD).mono ?_
   rintro e w9 ⟨⟨av,rfl,hav⟩,T9⟩
   have HT9:=aB T9
   have HAV:=aB hav
   clear T9 hav
   cases av with
   | true =>
    have he:=HAV.1 rfl
    have HE:=aB he
    clear he
    go_wp2_with fail
    go_roundw
    ·refine⟨i+1,by simp,by have:=HIN.out;omega,aB ?_,aB (HT.then (HD.then HT9))⟩
     have h:=HP.out
     unfold Xp at h ⊢
     rw[HTX.out,HTY.out,qXa,qXa,h]
     simp only[qJd,qQg,HE.out]
    ·have:=HIN.out
     simp only[intOf];omega
   | false =>
    have hq:=HNE.out (λe=>by have:=HAV.2 e;cases this)
    have HNO:=aB hq
    clear hq
    go_wp2_with fail
    go_ret
    exact⟨.mk false ⟨(λh=>by cases h),λh=>absurd h HNO⟩,HT3.then (HT.then (HD.then HT9))⟩
  ·have hie:i=n1:=by omega
   have y1:¬ (i:Int)<(n1:Int):=by omega
   have hq:Q:=by
    rw[<-HQ.out]
    have h:=HP.out
    unfold Xp at h
    rw[qQb (by rw[HX.len];omega),qQb (by rw[HY.len];omega)] at h
    exact⟨by trivial,h⟩
   have HYES:=aB hq
   clear hie hin hi hq
   go_wp2_with fail
   go_ret
   exact⟨.mk true ⟨λ_=>HYES.out,λ_=>rfl⟩,HT3.then HT⟩
theorem aEt(X:List SV):(X.map SV.zv).map ZV.p=(X.map SV.p).map bP.z:=by
 rw[qJf,qJf]
 rfl
end
section
variable[Inhabited eF]
structure vV(p:TypeId->Prop)(w w':World):Prop where
 kp:gO p w w'
 old:∀ g:Nat,g<w.heap.size->g<bs->w'.heap[g]? = w.heap[g]?
theorem vV.refl(p:TypeId->Prop)(w:World):vV p w w:=⟨gO.refl p w,λ_ _ _=>rfl⟩
theorem vV.trans{c:World}(h:vV p a b)(k:vV p b c):vV p a c :=
 ⟨h.kp.trans k.kp,λg h1 h2=>(k.old g (qJg h1 h.kp.size) h2).trans (h.old g h1 h2)⟩
theorem vV.touch{S:Nat->Prop}(h:aC S w w')(hS:∀ g t,p t->bE w g t->¬ S g)(hO:∀ g,g<w.heap.size->g<bs->¬ S g):vV p w w' :=
 ⟨gO.touch h hS,λg h1 h2=>h.block g h1 (hO g h1 h2)⟩
theorem vV.of(h:aC (λ_=>False) w w'):vV p w w':=⟨gO.of h,λg h1 _=>h.block g h1 (λf=>f)⟩
theorem vV.size(h:vV p w w'):w.heap.size<=w'.heap.size:=h.kp.size
theorem aL.kpo{g:Nat}{t:TypeId}{cs:Array Value}(h:aL a g t cs)(k:vV p a b)(ht:p t):aL b g t cs:=h.kpp k.kp ht
theorem OT.kpo{g:Nat}{t:TypeId}(h:OT a g t)(k:vV p a b)(ht:p t):OT b g t/\b.heap[g]? = a.heap[g]? := by
 rcases h with⟨h1,h2⟩ | h
 ·exact⟨.inl ⟨qJg h1 k.size,h2⟩,k.old g h1 h2⟩
 ·exact⟨.inr (h.kpp k.kp ht),k.kp.ty g t h ht⟩
theorem Ar.kpo{t:TypeId}{size:Nat}{xs:List Value}(h:Ar a t size A n xs)(k:vV p a b)(ht:p t):Ar b t size A n xs:=by
 refine⟨⟨h.rd.1,λhn=>?_⟩,λhn g hg=>((h.ty hn g hg).kpo k ht).1⟩
 obtain⟨g,o,hA,hg,hc⟩:=h.rd.2 hn
 have e:=h.ty hn g (by rw[hA];rfl)
 exact⟨g,o,hA,qJg hg k.size,λj u hu=>(World.cell?_of_block (e.kpo k ht).2).trans (hc j u hu)⟩
end
theorem Ih(w:World)(b:UInt8):eB 5 1 w (w.alloc (.cells #[aP b] 5)) (.slice (some ⟨w.heap.size,0,none⟩) 1 1) 1 [aP b] :=
 ⟨⟨by simp,.inr ⟨w.heap.size,1,#[aP b],rfl,qZb _,heap_alloc_new _ _,qZc _,by decide,by simp,rfl⟩⟩,(aC.refl _ _).alloc _,λg h=>by
   simp[Value.ownBlock] at h
   omega⟩
theorem Ii{base:Nat}{e:TypeId}{size c:Nat}{xs:List Value}(h:w.ownsRow base e size (.slice A n c) n xs):A=none->n=0/\c=0:=by
 intro e
 subst e
 rcases h.2 with⟨e,e2⟩ | ⟨g',cap,cur,e,_⟩
 ·injection e with _ e3 e4
  exact⟨e3,e4⟩
 ·injection e with e
  cases e
def Ul(f:Nat):Prop:=∀ (w:World) (n:Nat),n<2*128 ^ f->n<18446744073709551616 ->
 Calls Tryz.prog 68 #[.int .u64 n] w λe w'=>∃ (A:Option Addr) (q c:Nat),e=.returned (.slice A q c)/\eB 5 1 w w' (.slice A q c) q ((jO f n).map aP)/\q<=f+1
theorem Nk{f:Nat}(h:n<128):jO f n=[UInt8.ofNat n]:=by
 cases f with
 | zero=>rfl
 | succ f=>unfold jO;rw[if_pos h]
theorem zQ(f:Nat)(hf:f<=9)(ih:∀ g,f=g+1->Ul g):Ul f:=by
 intro w n hn hb
 obtain⟨i0,hi0,hz0,hz1,hz2⟩:=aO fW
 by_cases h128:n<128
 ·have y0:(n:Int)<128:=by omega
  have hvf:=Nk (f:=f) h128
  have hbv:=gY (m:=n) (by omega)
  have z0:IntKind.u8.wrap (n:Int)=(n:Int):=qZf _ (by omega)
  have ho:=Ih w (UInt8.ofNat n)
  rw[hbv] at ho
  have HO:=aB ho
  have HV:=aB hvf
  have HB:=aB hbv
  clear ho hvf hbv h128 ih hn hb
  go_in
  go_wp2_with fail
  go_ret
  refine⟨_,1,1,rfl,?_,by omega⟩
  rw[HV.out,qJd,qQg,HB.out]
  exact HO
 ·have hf0:∃ g,f=g+1:=by
   cases f with
   | zero=>simp at hn;omega
   | succ g=>exact⟨g,rfl⟩
  obtain⟨g,rfl⟩:=hf0
  have y0:¬ (n:Int)<128:=by omega
  have hvf:jO (g+1) n=UInt8.ofNat (n % 128+128) :: jO g (n / 128):=by
   conv=>lhs;unfold jO
   rw[if_neg h128]
  have hcall:=ih g rfl
  obtain⟨m,hm⟩:=eX (n % 128)
  obtain⟨d,hd⟩:=eX (n / 128)
  have hm128:m<128:=by omega
  have hd2:d<2*128 ^ g:=by
   rw[Nat.pow_succ] at hn
   omega
  have e1:(n:Int) % 128=(m:Int):=by omega
  have e2:(n:Int) / 128=(d:Int):=by omega
  have e3:Int.tmod (n:Int) 128=(m:Int):=by rw[Int.tmod_eq_emod_of_nonneg (by omega)];exact e1
  have e4:Int.tdiv (n:Int) 128=(d:Int):=by rw[Int.tdiv_eq_ediv_of_nonneg (by omega)];exact e2
  have z0:IntKind.u8.wrap (m:Int)=(m:Int):=qZf _ (by omega)
  have z1:IntKind.u8.wrap ((m:Int)+128)=(m:Int)+128:=qZf _ (by omega)
  have z2:IntKind.u64.wrap (m:Int)=(m:Int):=qQd _ (by omega)
  have z3:IntKind.u64.wrap (d:Int)=(d:Int):=qQd _ (by omega)
  have hbv:aP (UInt8.ofNat (m+128))=.int .u8 ((m:Int)+128):=by
   rw[gY (by omega)]
   simp
  have ho:=Ih w (UInt8.ofNat (m+128))
  rw[hbv] at ho
  rw[<-hm,<-hd] at hvf
  have HO:=aB ho
  have HV:=aB hvf
  have HB:=aB hbv
  have HC:=aB (λwx=>hcall wx d hd2 (by omega))
  have HF:=aB hf
  obtain⟨w1,hw1⟩:=eX (w.alloc (.cells #[.int .u8 ((m:Int)+128)] 5))
  rw[<-hw1] at HO
  have HW1:=aB hw1
  clear ho hvf hbv h128 ih hn hb hcall hm hd hd2 hm128 e1 e2 hf hw1
  go_in
  go_wp2_with (first
   | (go_at_call 68;rw[<-HW1.out];refine (HC w1).mono ?_;rintro e w2 ⟨A2,q2,c2,rfl,ho2,hq2⟩;have HO2:=aB ho2;have HQ2:=aB hq2;have HX:=aB (HO.to ho2.touch);have HR:=aB (aI.of_own ho2.own);have HN2:=aB (Ii ho2.own);have HB2:Hid (1+q2<=maxLen/\(1+q2)*1<=140737488355328):=aB (by have:=HF.out;unfold maxLen;omega);clear ho2 hq2)
   | (at_builtin;refine aR _ rfl (.tmp 14) (.tmp 17) 50 rfl 5 i0 _ 1 1 Tryz.underlying50 hi0 hz0 hz1 hz2 rfl (by decide) (.slice (some ⟨w.heap.size,0,none⟩) 1 1) 1 _ rfl HX.own A2 q2 c2 ((jO g d).map aP) rfl HR HN2 (lZ _) HB2.1 HB2.2 ?_;intro v1 w5 O5 G5 F5 _;obtain⟨A5,c5,hv,_,_⟩:=aX O5;subst hv;have HON5:=aB (HX.app O5 G5 F5);clear O5 G5 F5))
  go_ret
  refine⟨A5,1+q2,c5,rfl,?_,by have:=HQ2.out;omega⟩
  have h:=HON5.out
  rw[HV.out,qJd,HB.out]
  exact h
theorem Dn:∀ f,f<=9->Ul f
 | 0,h=>zQ 0 h (λg e=>by cases e)
 | f+1,h=>zQ (f+1) h (λg e=>by
   have:g=f:=by omega
   rw[this]
   exact Dn f (by omega))
theorem Xk(w0 w:World)(A:Option Addr)(q c:Nat)(xs:List Value)(h:eB 5 1 w0 w (.slice A q c) q xs)(n:Nat)(hn:n<9223372036854775808)(hq:q<=35184372088832) :
  Calls Tryz.prog 125 #[.slice A q c,.int .i64 n] w λe w'=>∃ (A':Option Addr) (q' c':Nat),e=.returned (.slice A' q' c')/\eB 5 1 w0 w' (.slice A' q' c') q' (xs++(dA n).map aP)/\q'<=q+10/\aC (λg=>(Value.slice A q c).ownBlock=some g) w w':=by
 obtain⟨i0,hi0,hz0,hz1,hz2⟩:=aO fW
 have z0:IntKind.u64.wrap (n:Int)=(n:Int):=qQd _ (by omega)
 have HC:=aB (λwx=>Dn 9 (qZc _) wx n (by omega) (by omega))
 have HX:=aB h
 have HQ:=aB hq
 clear h hn hq
 go_in
 go_wp2_with fail
 refine (HC w).mono ?_
 rintro e w2 ⟨A2,q2,c2,rfl,ho2,hq2⟩
 have HO2:=aB ho2
 have HQ2:=aB hq2
 have HX2:=aB (HX.to ho2.touch)
 have HR:=aB (aI.of_own ho2.own)
 have HN2:=aB (Ii ho2.own)
 have HB2:Hid (q+q2<=maxLen/\(q+q2)*1<=140737488355328):=aB (by have:=HQ.out;unfold maxLen;omega)
 clear ho2 hq2
 go_wp2_with (at_builtin;refine aR _ rfl (.tmp 9) (.tmp 10) 50 rfl 5 i0 _ 1 1 Tryz.underlying50 hi0 hz0 hz1 hz2 rfl (by decide) (.slice A q c) q _ rfl HX2.own A2 q2 c2 ((jO 9 n).map aP) rfl HR HN2 (lZ _) HB2.1 HB2.2 ?_;intro v1 w5 O5 G5 F5 _;obtain⟨A5,c5,hv,_,_⟩:=aX O5;subst hv;have HON5:=aB (HX2.app O5 G5 F5);have HT5:=aB ((HO2.touch.up (λg=>(Value.slice A q c).ownBlock=some g)).grown G5 (λk hk _=>hk));clear O5 G5 F5)
 go_ret
 exact⟨A5,q+q2,c5,rfl,HON5,by have:=HQ2.out;omega,HT5⟩
section
variable[Inhabited eF]
theorem iP{w0 wx:World}(hbw:bs<=w0.heap.size){q c:Nat}{xs:List UInt8}(h:eB 5 1 w0 wx (.slice A q c) q (xs.map aP)){z:Int}(hz:z=(n:Int)/\n<9223372036854775808)(hq:q<=35184372088832) :
  Calls Tryz.prog 125 #[.slice A q c,.int .i64 z] wx λe w'=>∃ (A':Option Addr) (q' c':Nat),e=.returned (.slice A' q' c')/\Hid (eB 5 1 w0 w' (.slice A' q' c') q' ((xs++dA n).map aP))/\Hid (q'<=q+10)/\Hid (vV mU wx w'):=by
 obtain⟨rfl,hn⟩:=hz
 refine (Xk w0 wx A q c _ h n hn hq).mono ?_
 rintro e w' ⟨A',q',c',rfl,h2,hq2,T⟩
 exact⟨A',q',c',rfl,aB (by rw[qXa];exact h2),aB hq2,aB (vV.touch T (λg t ht hg e=>(aH h.own e).ne hg (λe=>ht e.symm) rfl) (λg h1 h2 e=>by have:=h.fresh g e;omega))⟩
theorem Tw:mU 170 := by unfold mU;decide
theorem nbA:mU 173 := by unfold mU;decide
theorem nbM:mU 89 := by unfold mU;decide
theorem Mo(w:World)(bn:Nat)(A:Option Addr)(n c:Nat)(Z:List SV)(hst:mN w A n Z)(hbn:bn<=1048576)(hn:n<=98305)(hf:∀ i,i<n->dQ i (Z.getD i cE).p)(hbs:bs<=w.heap.size) :
  Calls Tryz.prog 65 #[.agg #[.int .i64 bn,.slice A n c]] w λe w'=>∃ (A':Option Addr) (q c':Nat),e=.returned (.slice A' q c')/\eB 5 1 w w' (.slice A' q c') q ((eU bn (Z.map SV.p)).map aP):=by
 obtain⟨w1,hw1⟩:=eX (w.alloc (.cells #[.int .i64 bn,.slice A n c] 89))
 have hT1:aC (λ_=>False) w w1:=by rw[hw1];exact (aC.refl _ _).alloc _
 have hb1:aL w1 w.heap.size 89 #[.int .i64 bn,.slice A n c]:=by rw[hw1];exact aL.new _ _ _
 have hc0:=iP (w0:=w1) (wx:=w1) (by have:=hT1.size;omega) (A:=none) (q:=0) (c:=0) (xs:=[]) (eB.nil _ _ _) (z:=(bn:Int)) (n:=bn) ⟨rfl,by omega⟩ (qZb _)
 have hst1:=hst.quiet hT1
 have HT1:=aB hT1
 have HB1:=aB hb1
 have HW1:=aB hw1
 have HST:=aB hst1
 have HBN:=aB hbn
 have HN:=aB hn
 have HF:=aB hf
 have HBW:=aB (show bs<=w1.heap.size by have:=hT1.size;omega)
 have HC0:=aB hc0
 clear hT1 hb1 hw1 hst hst1 hbn hn hf hbs hc0
 go_in
 go_wp2_with fail
 rw[<-HW1.out]
 refine HC0.mono ?_
 rintro e w2 ⟨A2,q2,c2,rfl,HX2,HQ2,HK2⟩
 clear HC0
 have hc1:=iP HBW HX2 (z:=(n:Int)) (n:=n) ⟨rfl,by have:=HN.out;omega⟩ (by have:=HQ2.out;omega)
 have HC1:=aB hc1
 obtain⟨m0,m1,m2⟩:=(HB1.kpo HK2 nbM).facts
 clear hc1
 go_wp2_with fail
 refine HC1.mono ?_
 rintro e w3 ⟨A3,q3,c3,rfl,HX3,HQ3,HK3⟩
 clear HC1 m0 m1 m2
 have HK13:=aB (HK2.trans HK3)
 have HX3':Hid (eB 5 1 w1 w3 (.slice A3 q3 c3) q3 ((uJ bn n).map aP)):=aB (by
  have h:=HX3.out
  simpa [uJ] using h)
 have HQ3':Hid (q3<=40):=aB (by have h1:=HQ2.out;have h2:=HQ3.out;omega)
 go_wp2_with fail
 go_loopw [3,4] (λbv iv wr=>∃ (A4:Option Addr) (q c4 i:Nat),bv=.slice A4 q c4/\iv=.int .i64 i/\i<=n/\Hid (eB 5 1 w1 wr (.slice A4 q c4) q ((uJ bn n++lF 0 ((Z.map SV.p).take i)).map aP))/\Hid (q<=40+i*62914600)/\Hid (vV mU w1 wr)) (λ_ iv _=>n-(intOf iv).toNat)
 case atStart=>exact⟨A3,q3,c3,0,rfl,rfl,qZb _,aB (by rw[qXg];simpa [lF] using HX3'.out),aB (by have:=HQ3'.out;omega),HK13⟩
 case round =>
  obtain⟨A4,q,c4,i,rfl,rfl,hi,HX,HQ,HK⟩:=hrel
  obtain⟨m0,m1,m2⟩:=(HB1.kpo HK nbM).facts
  by_cases hin:i<n
  ·have hrs:=HST.rd.kpo HK Tw
   have hzl:Z.length=n:=HST.len
   obtain⟨g,o,hA,_,d0,d1,d2⟩:=lE hrs.rd hzl i hin
   subst hA
   have hzm:=aZ Z cE i (by rw[hzl];exact hin)
   have hfm:=HF.out i hin
   have hzo:=HST.el _ hzm
   have htk:(Z.map SV.p).take (i+1)=(Z.map SV.p).take i++[(Z.getD i cE).p]:=by
    rw[qXi (by rw[qXb,hzl];exact hin)]
    simp[qZd,show i<Z.length by rw[hzl];exact hin]
   obtain⟨z,hz⟩:∃ z,Z.getD i cE=z:=⟨_,rfl⟩
   rw[hz] at d0 d1 d2 hzm hfm hzo htk
   obtain⟨fin,out,zA,zn,zc,arcs⟩:=z
   simp only at d0 d1 d2
   have hzal:=hzo.len
   simp only at hzal
   obtain⟨on,hon⟩:∃ on:Nat,out=(on:Int):=⟨out.toNat,by have:=hfm.out0;simp only[SV.p] at this;omega⟩
   subst hon
   have honb:on<=1048576:=by have:=hfm.out1;simp only[SV.p] at this;omega
   have hfew:=kL hfm
   simp only[SV.p] at hfew
   have hznb:zn<=2097152:=by omega
   have htl:((Z.map SV.p).take i).length=i:=by rw[qXf,qXb,hzl];omega
   obtain⟨w4,hw4⟩:=eX (wr.alloc (.cells #[.bool fin,.int .i64 on,.slice zA zn zc] 170))
   have hT4:aC (λ_=>False) wr w4:=by rw[hw4];exact (aC.refl _ _).alloc _
   have hbS:aL w4 wr.heap.size 170 #[.bool fin,.int .i64 on,.slice zA zn zc]:=by rw[hw4];exact aL.new _ _ _
   have y0:(i:Int)<(n:Int):=by omega
   have y1:(0:Int)<=(i:Int):=by omega
   have y2:IntKind.i64.wrap ((i:Int)+1)=(i:Int)+1:=qQa _ (by have:=HN.out;omega)
   have y3:IntKind.i64.wrap (2*(zn:Int))=2*(zn:Int):=qQa _ (by omega)
   have y4:IntKind.i64.wrap (2*(zn:Int)+1)=2*(zn:Int)+1:=qQa _ (by omega)
   obtain⟨xs,hxs⟩:=eX (uJ bn n++lF 0 ((Z.map SV.p).take i))
   have hx4:=HX.to hT4
   rw[<-hxs] at hx4
   have hq4:q<=35184372088832-1000:=by have h1:=HQ.out;have h2:=HN.out;omega
   have HX4:=aB hx4
   have HQ4:=aB hq4
   have HBS:=aB hbS
   have HW4:=aB hw4
   have HT4:=aB hT4
   have HFM:=aB hfm
   have HTK:=aB htk
   have HZAL:=aB hzal
   have HZO:=aB hzo
   have HXS:=aB hxs
   have HTL:=aB htl
   have HIN:=aB hin
   have HZN:=aB hznb
   have HON:=aB honb
   obtain⟨s0,s1,s2⟩:=hbS.facts
   clear hxs hx4 hbS hw4 hT4 hfm htk hzal hzm hq4 htl hin hfew hrs hzl hz hzo honb hznb hi
   cases fin with
   | true =>
    have HC5:=aB (iP HBW HX4 (z:=2*(zn:Int)+1) (n:=2*zn+1) ⟨by omega,by have:=HZN.out;omega⟩ (by have:=HQ4.out;omega))
    go_wp2_with fail
    rw[<-HW4.out]
    refine HC5.mono ?_
    rintro e w5 ⟨A5,q5,c5,rfl,HX5,HQ5,HK5⟩
    clear HC5 s0 s1 s2
    obtain⟨s0,s1,s2⟩:=(HBS.kpo HK5 Tw).facts
    have HC6:=aB (iP HBW HX5 (z:=(on:Int)) (n:=on) ⟨rfl,by have:=HON.out;omega⟩ (by have:=HQ4.out;have:=HQ5.out;omega))
    go_wp2_with fail
    refine HC6.mono ?_
    rintro e w6 ⟨A6,q6,c6,rfl,HX6,HQ6,HK6⟩
    clear HC6 s0 s1 s2
    have HK7:=aB (HK5.trans HK6)
    obtain⟨xs2,hxs2⟩:=eX (xs++mR ⟨true,(on:Int),arcs⟩)
    have HX7:Hid (eB 5 1 w1 w6 (.slice A6 q6 c6) q6 (xs2.map aP)):=aB (by
     have h:=HX6.out
     rw[hxs2]
     simpa [mR,HZAL.out,qZa] using h)
    have HXS2:=aB hxs2
    have HQ7:Hid (q6<=q+20):=aB (by have h1:=HQ5.out;have h2:=HQ6.out;omega)
    clear hxs2 HX5 HX6 HQ5 HQ6 HK5 HK6
    obtain⟨s0,s1,s2⟩:=(HBS.kpo HK7 Tw).facts
    go_wp2_with fail
    obtain⟨wo,hwo⟩:=eX wr
    subst hwo
    go_loopw [3,6,7] (λbv lv jv wx=>∃ (A8:Option Addr) (q8 c8 j lab:Nat),bv=.slice A8 q8 c8/\lv=.int .i64 (lab:Int)/\jv=.int .i64 j/\j<=zn/\Hid (lab=kP 0 (arcs.take j))/\Hid (eB 5 1 w1 wx (.slice A8 q8 c8) q8 ((xs2++eG i 0 (arcs.take j)).map aP))/\Hid (q8<=q+20+j*30)/\Hid (vV mU w4 wx)) (λ_ _ jv _=>zn-(intOf jv).toNat)
    case atStart=>exact⟨A6,q6,c6,0,0,rfl,rfl,rfl,qZb _,aB rfl,aB (by rw[qXg];simpa [eG] using HX7.out),aB (by have:=HQ7.out;omega),HK7⟩
    case round =>
     clear s0 s1 s2 m0 m1 m2
     obtain⟨A8,q8,c8,j,lab,rfl,rfl,rfl,hj,HLA,HX8,HQ8,HK8⟩:=hrel
     obtain⟨s0,s1,s2⟩:=(HBS.kpo HK8 Tw).facts
     by_cases hjn:j<zn
     ·have HRA:=aB ((((HZO.rd.kpo HK nbA).quiet HT4)).kpo HK8 nbA)
      obtain⟨g2,o2,hA2,_,e0,e1,e2⟩:=fT HRA.rd HZAL j hjn
      simp only at hA2 e0 e1 e2
      subst hA2
      have hcell:∀ wy,vV mU wr wy->wy.cell? ⟨g2,o2+j*3,none⟩=some (.int .i32 ((arcs.getD j (0,0,0)).1:Int))/\wy.cell? ⟨g2,o2+j*3+1,none⟩=some (.int .i64 (arcs.getD j (0,0,0)).2.1)/\wy.cell? ⟨g2,o2+j*3+2,none⟩=some (.int .i64 ((arcs.getD j (0,0,0)).2.2:Int)):=λwy K=>by
       obtain⟨gb,ob,hB,_,b0,b1,b2⟩:=fT (HRA.kpo K nbA).rd HZAL j hjn
       injection hB with hB
       injection hB with e1 e2
       subst e1
       subst e2
       exact⟨b0,b1,b2⟩
      have ham:=aZ arcs (0,0,0) j (by rw[HZAL.out];exact hjn)
      have htj:arcs.take (j+1)=arcs.take j++[arcs.getD j (0,0,0)]:=bI arcs (0,0,0) j (by rw[HZAL.out];exact hjn)
      have hlt:∀ x∈arcs.take j,x.1<(arcs.getD j (0,0,0)).1:=by
       intro x hx
       have h1:=HFM.lab
       simp only[SV.p] at h1
       have h2:=h1.sublist ((qZg (j+1) arcs).map _)
       rw[htj,qXa,qZe] at h2
       exact h2.2.2 _ (qQc hx) _ (List.mem_singleton.2 rfl)
      have har:=HFM.arc _ ham
      have hrn:=(HFM.run _ ham).1
      obtain⟨⟨la,ua,tt⟩,hz⟩:∃ z,arcs.getD j (0,0,0)=z:=⟨_,rfl⟩
      rw[hz] at e0 e1 e2 htj hlt har hrn hcell
      simp only at e0 e1 e2 hlt har hrn hcell
      have hlab:lab<=la:=by
       rw[HLA.out]
       unfold kP
       cases hg:(arcs.take j).getLast? with
       | none=>simp
       | some x=>exact Nat.le_of_lt (hlt x (List.mem_of_getLast? hg))
      have hla:la<1114112:=cU hrn
      obtain⟨un,hun⟩:∃ un:Nat,ua=(un:Int):=⟨ua.toNat,by omega⟩
      subst hun
      have y5:(j:Int)<(zn:Int):=by omega
      have y6:(0:Int)<=(j:Int):=by omega
      have y7:IntKind.i64.wrap ((j:Int)+1)=(j:Int)+1:=qQa _ (by have:=HZN.out;omega)
      have y8:IntKind.i64.wrap (la:Int)=(la:Int):=qQa _ (by omega)
      have y9:IntKind.i64.wrap ((la:Int)-(lab:Int))=(la:Int)-(lab:Int):=qQa _ (by omega)
      have y10:IntKind.i64.wrap ((i:Int)-(tt:Int))=(i:Int)-(tt:Int):=qQa _ (by have:=HN.out;have:=HIN.out;omega)
      obtain⟨ys,hys⟩:=eX (xs2++eG i 0 (arcs.take j))
      have hx5:eB 5 1 w1 wr (.slice A8 q8 c8) q8 (ys.map aP):=by rw[hys];exact HX8
      have hq8:q8<=35184372088832-100:=by
       have h1:=HQ.out
       have h2:=HN.out
       have h3:=HQ8.out
       have h4:=HZN.out
       have h5:=HIN.out
       omega
      have HQ88:=aB hq8
      have HP1:=aB (iP HBW hx5 (z:=(la:Int)-(lab:Int)) (n:=la-lab) ⟨by omega,by omega⟩ (by omega))
      have HN2:=aB (show un<9223372036854775808 by omega)
      have HN3:=aB (show (i:Int)-(tt:Int)=((i-tt:Nat):Int)/\i-tt<9223372036854775808 by have:=HN.out;have:=HIN.out;omega)
      have HYS:=aB hys
      have HTJ:=aB htj
      have HJN:=aB hjn
      have HCELL:=aB hcell
      clear hcell ham hlt har hrn hz hlab hla hys hx5 hq8 htj hjn hj
      go_wp2_with fail
      refine HP1.mono ?_
      rintro e wa ⟨Aa,qa,ca,rfl,HXA,HQA,HKA⟩
      clear s0 s1 s2 e0 e1 e2 HP1
      obtain⟨s0,s1,s2⟩:=(HBS.kpo (HK8.trans HKA) Tw).facts
      obtain⟨e0,e1,e2⟩:=HCELL.out wa HKA
      have HP2:=aB (iP HBW HXA (z:=(un:Int)) (n:=un) ⟨rfl,HN2⟩ (by have:=HQA.out;have:=HQ88.out;omega))
      go_wp2_with fail
      refine HP2.mono ?_
      rintro e wb ⟨Ab,qb,cb,rfl,HXB,HQB,HKB⟩
      clear s0 s1 s2 e0 e1 e2 HP2
      have HKAB:=aB (HKA.trans HKB)
      obtain⟨s0,s1,s2⟩:=(HBS.kpo (HK8.trans HKAB) Tw).facts
      obtain⟨e0,e1,e2⟩:=HCELL.out wb HKAB
      have HP3:=aB (iP HBW HXB (z:=(i:Int)-(tt:Int)) (n:=i-tt) HN3 (by have:=HQA.out;have:=HQB.out;have:=HQ88.out;omega))
      go_wp2_with fail
      refine HP3.mono ?_
      rintro e wz ⟨Ac,qc,cc,rfl,HXC,HQC,HKC⟩
      clear s0 s1 s2 e0 e1 e2 HP3
      have HKABC:=aB (HKAB.trans HKC)
      obtain⟨s0,s1,s2⟩:=(HBS.kpo (HK8.trans HKABC) Tw).facts
      obtain⟨e0,e1,e2⟩:=HCELL.out wz HKABC
      go_wp2_with fail
      go_roundw
      case rel =>
       refine⟨Ac,qc,cc,j+1,la,rfl,rfl,by simp,by have:=HJN.out;omega,aB (by rw[HTJ.out];simp[kP]),aB ?_,aB (by have:=HQ8.out;have:=HQA.out;have:=HQB.out;have:=HQC.out;omega),aB (HK8.trans HKABC)⟩
       have h:=HXC.out
       rw[HYS.out] at h
       rw[HTJ.out,nE,<-HLA.out]
       simp only[xC,Int.toNat_natCast]
       simpa only[qZa] using h
      case measure =>
       have:=HJN.out
       simp only[intOf]
       omega
     ·have hje:j=zn:=by omega
      have hat:arcs.take j=arcs:=qQb (by rw[HZAL.out];omega)
      rw[hat] at HX8
      have y5:¬ (j:Int)<(zn:Int):=by omega
      have HJE:=aB hje
      clear hje hat hjn hj
      go_wp2_with fail
      go_roundw
      case rel =>
       refine⟨A8,q8,c8,i+1,rfl,by simp,by have:=HIN.out;omega,aB ?_,aB ?_,aB (HK.trans ((vV.of HT4).trans HK8))⟩
       ·have h:=HX8.out
        rw[HXS2.out,HXS.out] at h
        rw[HTK.out,pO,HTL.out,qJb]
        simp only[Mz,SV.p]
        simpa only[qZa] using h
       ·have h1:=HQ8.out
        have h2:=HQ.out
        have h3:=HZN.out
        have h4:=HJE.out
        omega
      case measure =>
       have:=HIN.out
       simp only[intOf]
       omega
   | false =>
    have HC5:=aB (iP HBW HX4 (z:=2*(zn:Int)) (n:=2*zn) ⟨by omega,by have:=HZN.out;omega⟩ (by have:=HQ4.out;omega))
    go_wp2_with fail
    rw[<-HW4.out]
    refine HC5.mono ?_
    rintro e w6 ⟨A6,q6,c6,rfl,HX5,HQ5,HK7⟩
    clear HC5 s0 s1 s2
    obtain⟨xs2,hxs2⟩:=eX (xs++mR ⟨false,(on:Int),arcs⟩)
    have HX7:Hid (eB 5 1 w1 w6 (.slice A6 q6 c6) q6 (xs2.map aP)):=aB (by
     have h:=HX5.out
     rw[hxs2]
     simpa [mR,HZAL.out,qZa] using h)
    have HXS2:=aB hxs2
    have HQ7:Hid (q6<=q+20):=aB (by have h1:=HQ5.out;omega)
    clear hxs2 HX5 HQ5
    obtain⟨s0,s1,s2⟩:=(HBS.kpo HK7 Tw).facts
    go_wp2_with fail
    obtain⟨wo,hwo⟩:=eX wr
    subst hwo
    go_loopw [3,6,7] (λbv lv jv wx=>∃ (A8:Option Addr) (q8 c8 j lab:Nat),bv=.slice A8 q8 c8/\lv=.int .i64 (lab:Int)/\jv=.int .i64 j/\j<=zn/\Hid (lab=kP 0 (arcs.take j))/\Hid (eB 5 1 w1 wx (.slice A8 q8 c8) q8 ((xs2++eG i 0 (arcs.take j)).map aP))/\Hid (q8<=q+20+j*30)/\Hid (vV mU w4 wx)) (λ_ _ jv _=>zn-(intOf jv).toNat)
    case atStart=>exact⟨A6,q6,c6,0,0,rfl,rfl,rfl,qZb _,aB rfl,aB (by rw[qXg];simpa [eG] using HX7.out),aB (by have:=HQ7.out;omega),HK7⟩
    case round =>
     clear s0 s1 s2 m0 m1 m2
     obtain⟨A8,q8,c8,j,lab,rfl,rfl,rfl,hj,HLA,HX8,HQ8,HK8⟩:=hrel
     obtain⟨s0,s1,s2⟩:=(HBS.kpo HK8 Tw).facts
     by_cases hjn:j<zn
     ·have HRA:=aB ((((HZO.rd.kpo HK nbA).quiet HT4)).kpo HK8 nbA)
      obtain⟨g2,o2,hA2,_,e0,e1,e2⟩:=fT HRA.rd HZAL j hjn
      simp only at hA2 e0 e1 e2
      subst hA2
      have hcell:∀ wy,vV mU wr wy->wy.cell? ⟨g2,o2+j*3,none⟩=some (.int .i32 ((arcs.getD j (0,0,0)).1:Int))/\wy.cell? ⟨g2,o2+j*3+1,none⟩=some (.int .i64 (arcs.getD j (0,0,0)).2.1)/\wy.cell? ⟨g2,o2+j*3+2,none⟩=some (.int .i64 ((arcs.getD j (0,0,0)).2.2:Int)):=λwy K=>by
       obtain⟨gb,ob,hB,_,b0,b1,b2⟩:=fT (HRA.kpo K nbA).rd HZAL j hjn
       injection hB with hB
       injection hB with e1 e2
       subst e1
       subst e2
       exact⟨b0,b1,b2⟩
      have ham:=aZ arcs (0,0,0) j (by rw[HZAL.out];exact hjn)
      have htj:arcs.take (j+1)=arcs.take j++[arcs.getD j (0,0,0)]:=bI arcs (0,0,0) j (by rw[HZAL.out];exact hjn)
      have hlt:∀ x∈arcs.take j,x.1<(arcs.getD j (0,0,0)).1:=by
       intro x hx
       have h1:=HFM.lab
       simp only[SV.p] at h1
       have h2:=h1.sublist ((qZg (j+1) arcs).map _)
       rw[htj,qXa,qZe] at h2
       exact h2.2.2 _ (qQc hx) _ (List.mem_singleton.2 rfl)
      have har:=HFM.arc _ ham
      have hrn:=(HFM.run _ ham).1
      obtain⟨⟨la,ua,tt⟩,hz⟩:∃ z,arcs.getD j (0,0,0)=z:=⟨_,rfl⟩
      rw[hz] at e0 e1 e2 htj hlt har hrn hcell
      simp only at e0 e1 e2 hlt har hrn hcell
      have hlab:lab<=la:=by
       rw[HLA.out]
       unfold kP
       cases hg:(arcs.take j).getLast? with
       | none=>simp
       | some x=>exact Nat.le_of_lt (hlt x (List.mem_of_getLast? hg))
      have hla:la<1114112:=cU hrn
      obtain⟨un,hun⟩:∃ un:Nat,ua=(un:Int):=⟨ua.toNat,by omega⟩
      subst hun
      have y5:(j:Int)<(zn:Int):=by omega
      have y6:(0:Int)<=(j:Int):=by omega
      have y7:IntKind.i64.wrap ((j:Int)+1)=(j:Int)+1:=qQa _ (by have:=HZN.out;omega)
      have y8:IntKind.i64.wrap (la:Int)=(la:Int):=qQa _ (by omega)
      have y9:IntKind.i64.wrap ((la:Int)-(lab:Int))=(la:Int)-(lab:Int):=qQa _ (by omega)
      have y10:IntKind.i64.wrap ((i:Int)-(tt:Int))=(i:Int)-(tt:Int):=qQa _ (by have:=HN.out;have:=HIN.out;omega)
      obtain⟨ys,hys⟩:=eX (xs2++eG i 0 (arcs.take j))
      have hx5:eB 5 1 w1 wr (.slice A8 q8 c8) q8 (ys.map aP):=by rw[hys];exact HX8
      have hq8:q8<=35184372088832-100:=by
       have h1:=HQ.out
       have h2:=HN.out
       have h3:=HQ8.out
       have h4:=HZN.out
       have h5:=HIN.out
       omega
      have HQ88:=aB hq8
      have HP1:=aB (iP HBW hx5 (z:=(la:Int)-(lab:Int)) (n:=la-lab) ⟨by omega,by omega⟩ (by omega))
      have HN2:=aB (show un<9223372036854775808 by omega)
      have HN3:=aB (show (i:Int)-(tt:Int)=((i-tt:Nat):Int)/\i-tt<9223372036854775808 by have:=HN.out;have:=HIN.out;omega)
      have HYS:=aB hys
      have HTJ:=aB htj
      have HJN:=aB hjn
      have HCELL:=aB hcell
      clear hcell ham hlt har hrn hz hlab hla hys hx5 hq8 htj hjn hj
      go_wp2_with fail
      refine HP1.mono ?_
      rintro e wa ⟨Aa,qa,ca,rfl,HXA,HQA,HKA⟩
      clear s0 s1 s2 e0 e1 e2 HP1
      obtain⟨s0,s1,s2⟩:=(HBS.kpo (HK8.trans HKA) Tw).facts
      obtain⟨e0,e1,e2⟩:=HCELL.out wa HKA
      have HP2:=aB (iP HBW HXA (z:=(un:Int)) (n:=un) ⟨rfl,HN2⟩ (by have:=HQA.out;have:=HQ88.out;omega))
      go_wp2_with fail
      refine HP2.mono ?_
      rintro e wb ⟨Ab,qb,cb,rfl,HXB,HQB,HKB⟩
      clear s0 s1 s2 e0 e1 e2 HP2
      have HKAB:=aB (HKA.trans HKB)
      obtain⟨s0,s1,s2⟩:=(HBS.kpo (HK8.trans HKAB) Tw).facts
      obtain⟨e0,e1,e2⟩:=HCELL.out wb HKAB
      have HP3:=aB (iP HBW HXB (z:=(i:Int)-(tt:Int)) (n:=i-tt) HN3 (by have:=HQA.out;have:=HQB.out;have:=HQ88.out;omega))
      go_wp2_with fail
      refine HP3.mono ?_
      rintro e wz ⟨Ac,qc,cc,rfl,HXC,HQC,HKC⟩
      clear s0 s1 s2 e0 e1 e2 HP3
      have HKABC:=aB (HKAB.trans HKC)
      obtain⟨s0,s1,s2⟩:=(HBS.kpo (HK8.trans HKABC) Tw).facts
      obtain⟨e0,e1,e2⟩:=HCELL.out wz HKABC
      go_wp2_with fail
      go_roundw
      case rel =>
       refine⟨Ac,qc,cc,j+1,la,rfl,rfl,by simp,by have:=HJN.out;omega,aB (by rw[HTJ.out];simp[kP]),aB ?_,aB (by have:=HQ8.out;have:=HQA.out;have:=HQB.out;have:=HQC.out;omega),aB (HK8.trans HKABC)⟩
       have h:=HXC.out
       rw[HYS.out] at h
       rw[HTJ.out,nE,<-HLA.out]
       simp only[xC,Int.toNat_natCast]
       simpa only[qZa] using h
      case measure =>
       have:=HJN.out
       simp only[intOf]
       omega
     ·have hje:j=zn:=by omega
      have hat:arcs.take j=arcs:=qQb (by rw[HZAL.out];omega)
      rw[hat] at HX8
      have y5:¬ (j:Int)<(zn:Int):=by omega
      have HJE:=aB hje
      clear hje hat hjn hj
      go_wp2_with fail
      go_roundw
      case rel =>
       refine⟨A8,q8,c8,i+1,rfl,by simp,by have:=HIN.out;omega,aB ?_,aB ?_,aB (HK.trans ((vV.of HT4).trans HK8))⟩
       ·have h:=HX8.out
        rw[HXS2.out,HXS.out] at h
        rw[HTK.out,pO,HTL.out,qJb]
        simp only[Mz,SV.p]
        simpa only[qZa] using h
       ·have h1:=HQ8.out
        have h2:=HQ.out
        have h3:=HZN.out
        have h4:=HJE.out
        omega
      case measure =>
       have:=HIN.out
       simp only[intOf]
       omega
  ·have hie:i=n:=by omega
   have hat:(Z.map SV.p).take i=Z.map SV.p:=qQb (by rw[qXb,HST.len];omega)
   rw[hat] at HX
   have y0:¬ (i:Int)<(n:Int):=by omega
   have HZL:Hid ((Z.map SV.p).length=n):=aB (by rw[qXb];exact HST.len)
   clear hie hat hin hi
   go_wp2_with fail
   go_ret
   refine⟨A4,q,c4,rfl,?_⟩
   unfold eU
   rw[HZL.out]
   exact HX.from HT1
end
section
variable[Inhabited eF]
theorem Bo{P:Program}{ops:Array Oper}{C:World->Prop}{Q:Act->Prop}{o:Oper}{l:List Oper}{a:Act}:wpQuiet P ops C Q (o :: l) a=(if Region.wanted o (yielded ops a.tmps) then o.quiet P a C (wpQuiet P ops C Q l) else wpQuiet P ops C Q l (a.put o.dst undef)):=rfl
def De(num:Nat)(a:Int × Int × Int):Prop:=0<=a.2.2/\a.2.2<(num:Int)/\0<=a.2.1/\a.2.1<=1048576
def Mq(num:Nat)(arcs:List (Int × Int × Int))(i:Nat):Prop:=(∀ a∈arcs.take i,De num a)/\((arcs.take i).map (·.1)).Pairwise (·<·)
def uS(num:Nat)(z:iS):Prop:=(0<=z.out/\z.out<=1048576)/\(z.fin=false->z.arcs≠[])/\Mq num z.arcs z.arcs.length
theorem Xd(num:Nat)(arcs:List (Int × Int × Int)):Mq num arcs 0:=⟨by simp,by simp⟩
theorem Xc{arcs:List (Int × Int × Int)}(hi:i<arcs.length)(h:Mq num arcs i):Mq num arcs (i+1)↔De num (arcs.getD i (0,0,0))/\(0<i->(arcs.getD (i-1) (0,0,0)).1<(arcs.getD i (0,0,0)).1):=by
 have htk:=bI arcs (0,0,0) i hi
 unfold Mq
 rw[htk,qXa,qZe]
 constructor
 ·rintro⟨h1,_,_,h3⟩
  refine⟨h1 _ (by simp),λh0=>?_⟩
  obtain⟨j,rfl⟩:∃ j,i=j+1:=⟨i-1,by omega⟩
  have hm:arcs.getD j (0,0,0)∈arcs.take (j+1):=by
   rw[bI arcs (0,0,0) j (by omega)]
   simp
  exact h3 _ (qQc hm) _ (by simp)
 ·rintro⟨h1,h2⟩
  refine⟨?_,h.2,by simp,?_⟩
  ·intro a ha
   rcases List.mem_append.1 ha with ha | ha
   ·exact h.1 a ha
   ·rw[List.mem_singleton.1 ha]
    exact h1
  ·intro x hx y hy
   simp only[qJd,qQg,qJa] at hy
   subst hy
   obtain⟨a,ha,rfl⟩:=List.mem_map.1 hx
   cases i with
   | zero=>simp at ha
   | succ j =>
    have h3:=h2 (by omega)
    simp only[Nat.add_sub_cancel] at h3
    have htj:=bI arcs (0,0,0) j (by omega)
    rw[htj] at ha
    rcases List.mem_append.1 ha with ha | ha
    ·have h4:=h.2
     rw[htj,qXa,qZe] at h4
     have:=h4.2.2 a.1 (qQc ha) _ (qQc (List.mem_singleton.2 rfl))
     omega
    ·rw[List.mem_singleton.1 ha]
     exact h3
theorem aBi{arcs:List (Int × Int × Int)}(h:Mq num arcs arcs.length):Mq num arcs i:=by
 obtain⟨h1,h2⟩:=h
 rw[qXe] at h1 h2
 exact⟨λa ha=>h1 a (List.mem_of_mem_take ha),h2.sublist ((qZg i arcs).map _)⟩
theorem Hi{z:iS}(h:pY num z):uS num z:=by
 obtain⟨s,rfl,hs⟩:=h
 refine⟨⟨hs.out0,hs.out1⟩,?_,?_,?_⟩
 ·intro hf e
  have hl:=hs.low
  unfold Wg at hl
  have e2:s.arcs=[]:=by simpa [bP.z] using e
  have hf2:s.fin=false:=hf
  rw[e2,hf2] at hl
  simp at hl
 ·intro a ha
  rw[qXe] at ha
  obtain⟨b,hb,rfl⟩:=List.mem_map.1 ha
  have:=hs.arc b hb
  unfold De
  simp only[fN]
  omega
 ·rw[qXe]
  simp only[bP.z,qJf]
  have h:=hs.lab
  rw[List.pairwise_map] at h ⊢
  refine h.imp λ{a b} hab=>?_
  simp only[Function.comp,fN]
  omega
theorem Ir(w:World)(z:ZV)(hz:z.Ok w)(num:Nat) :
  Calls Tryz.prog 132 #[.agg #[.bool z.fin,.int .i64 z.out,.slice z.A z.n z.c],.int .i64 num] w λe w'=>jF (uS num z.p) e/\aC (λ_=>False) w w':=by
 obtain⟨fin,out,aA,n,ac,arcs⟩:=z
 obtain⟨hlen,hrd,hle,hmx⟩:=hz
 simp only[ZV.p] at *
 obtain⟨Q,hQ⟩:∃ Q:Prop,uS num ⟨fin,out,arcs⟩=Q:=⟨_,rfl⟩
 have hiff:Q↔(0<=out/\out<=1048576)/\(fin=false->arcs≠[])/\Mq num arcs n:=by rw[<-hQ,<-hlen];rfl
 rw[hQ]
 clear hQ
 have hnm:n<=maxLen:=qXc hle hmx
 unfold maxLen at hnm
 have HRD:=aB hrd
 have HLEN:=aB hlen
 have HIFF:=aB hiff
 clear hrd hlen hle hmx hiff
 obtain⟨w2,hw2⟩:=eX (w.alloc (.cells #[.bool fin,.int .i64 out,.slice aA n ac] 170))
 have hT2:aC (λ_=>False) w w2:=by rw[hw2];exact (aC.refl _ _).alloc _
 have hbS:aL w2 w.heap.size 170 #[.bool fin,.int .i64 out,.slice aA n ac]:=by rw[hw2];exact aL.new _ _ _
 obtain⟨S,hS⟩:=eX w.heap.size
 rw[<-hS] at hbS
 have HT2:=aB hT2
 have HW2:=aB hw2
 have HBS:=aB hbS
 have HSS:=aB hS
 clear hw2 hT2 hbS hS
 go_in
 have hcase:(out<0/\¬ Q)\/(¬ out<0/\1048576<out/\¬ Q)\/(¬ out<0/\¬ 1048576<out/\fin=false/\n=0/\¬ Q)\/(¬ out<0/\¬ 1048576<out/\fin=false/\((n:Int) == 0)=false/\(Q↔Mq num arcs n))\/(¬ out<0/\¬ 1048576<out/\fin=true/\(Q↔Mq num arcs n)):=by
  by_cases o1:out<0
  ·exact .inl ⟨o1,λh=>by have:=(HIFF.1 h).1.1;omega⟩
  ·by_cases o2:1048576<out
   ·exact .inr (.inl ⟨o1,o2,λh=>by have:=(HIFF.1 h).1.2;omega⟩)
   ·cases fin with
    | true=>exact .inr (.inr (.inr (.inr ⟨o1,o2,rfl,⟨λh=>(HIFF.1 h).2.2,λh=>HIFF.2 ⟨by omega,(λe=>by cases e),h⟩⟩⟩)))
    | false =>
     by_cases hn:n=0
     ·have ha:arcs=[]:=List.eq_nil_of_length_eq_zero (by rw[HLEN.out];exact hn)
      exact .inr (.inr (.inl ⟨o1,o2,rfl,hn,λh=>(HIFF.1 h).2.1 rfl ha⟩))
     ·refine .inr (.inr (.inr (.inl ⟨o1,o2,rfl,by simp;omega,⟨λh=>(HIFF.1 h).2.2,λh=>HIFF.2 ⟨by omega,λ_ e=>?_,h⟩⟩⟩)))
      have:=HLEN.out
      rw[e] at this
      simp at this
      omega
 rcases hcase with⟨o1,hq⟩ | ⟨o1,o2,hq⟩ | ⟨o1,o2,rfl,rfl,hq⟩ | hcase
 ·have HQN:=aB hq
  clear hq
  go_wp2_with fail
  rw[<-HW2.out]
  go_ret
  exact⟨.mk false ⟨(λh=>by cases h),λh=>absurd h HQN⟩,HT2⟩
 ·have HQN:=aB hq
  clear hq
  go_wp2_with fail
  rw[<-HW2.out]
  go_ret
  exact⟨.mk false ⟨(λh=>by cases h),λh=>absurd h HQN⟩,HT2⟩
 ·have HQN:=aB hq
  clear hq
  go_wp2_with fail
  rw[<-HW2.out]
  go_ret
  exact⟨.mk false ⟨(λh=>by cases h),λh=>absurd h HQN⟩,HT2⟩
 ·have HIFF2:Hid (Q↔Mq num arcs n):=aB (by rcases hcase with⟨_,_,_,_,h⟩ | ⟨_,_,_,h⟩<;>exact h)
  have hc2:¬ out<0/\¬ 1048576<out/\(fin=true\/(fin=false/\((n:Int) == 0)=false)):=by
   rcases hcase with⟨h1,h2,h3,h4,_⟩ | ⟨h1,h2,h3,_⟩
   ·exact⟨h1,h2,.inr ⟨h3,h4⟩⟩
   ·exact⟨h1,h2,.inl h3⟩
  clear hcase
  obtain⟨o1,o2,hc2⟩:=hc2
  rcases hc2 with rfl | ⟨rfl,hn0⟩
  all_goals
   go_wp2_with fail
   rw[<-HW2.out]
   try rw[<-HSS.out]
   go_loopw [5] (λiv wr=>∃ i:Nat,iv=.int .i64 i/\i<=n/\Hid (Mq num arcs i)/\Hid (aC (λ_=>False) w2 wr)) (λiv _=>n-(intOf iv).toNat)
   case atStart=>exact⟨0,rfl,qZb _,aB (Xd _ _),aB (aC.refl _ _)⟩
   case round =>
    obtain⟨i,rfl,hi,HJ,HT⟩:=hrel
    try clear hn0
    clear o1 o2
    obtain⟨q1,q2,q3⟩:=(HBS.touch HT (λf=>f)).facts
    by_cases hin:i<n
    ·have y1:(i:Int)<(n:Int):=by omega
     have y2:(0:Int)<=(i:Int):=by omega
     have z2:IntKind.i64.wrap ((i:Int)+1)=(i:Int)+1:=qQa _ (by omega)
     obtain⟨g,o,hA,hg,c1,c2,c3⟩:=iR (HRD.quiet (HT2.then HT)).rd HLEN i hin
     have hprev:0<i->wr.cell? ⟨g,o+(i-1)*3,none⟩=some (.int .i32 (arcs.getD (i-1) (0,0,0)).1):=λh0=>by
      obtain⟨g2,o2,hA2,_,d1,_,_⟩:=iR (HRD.quiet (HT2.then HT)).rd HLEN (i-1) (by omega)
      rw[hA] at hA2
      injection hA2 with hA2
      injection hA2 with e1 e2
      subst e1
      subst e2
      exact d1
     subst hA
     have hs:=Xc (num:=num) (by rw[HLEN.out];exact hin) HJ
     have hpre:Q->Mq num arcs (i+1):=λh=>aBi (by rw[HLEN.out];exact HIFF2.1 h)
     obtain⟨⟨la,ao,tt⟩,hz⟩:∃ z,arcs.getD i (0,0,0)=z:=⟨_,rfl⟩
     obtain⟨lp,hlp⟩:∃ z,(arcs.getD (i-1) (0,0,0)).1=z:=⟨_,rfl⟩
     rw[hz,hlp] at hs
     rw[hlp] at hprev
     rw[hz] at c1 c2 c3
     simp only[De] at c1 c2 c3 hs
     have hcs:(((tt<0)\/(¬ tt<0/\(num:Int)<=tt)\/(¬ tt<0/\¬ (num:Int)<=tt/\ao<0)\/(¬ tt<0/\¬ (num:Int)<=tt/\¬ ao<0/\1048576<ao))/\¬ Q)\/(¬ tt<0/\¬ (num:Int)<=tt/\¬ ao<0/\¬ 1048576<ao /\
       ((i=0/\Mq num arcs (i+1))\/(0<i/\lp<la/\Mq num arcs (i+1))\/(0<i/\la<=lp/\¬ Q))):=by
      by_cases h1:tt<0
      ·exact .inl ⟨.inl h1,λh=>by have:=(hs.1 (hpre h)).1;omega⟩
      ·by_cases h2:(num:Int)<=tt
       ·exact .inl ⟨.inr (.inl ⟨h1,h2⟩),λh=>by have:=(hs.1 (hpre h)).1;omega⟩
       ·by_cases h3:ao<0
        ·exact .inl ⟨.inr (.inr (.inl ⟨h1,h2,h3⟩)),λh=>by have:=(hs.1 (hpre h)).1;omega⟩
        ·by_cases h4:1048576<ao
         ·exact .inl ⟨.inr (.inr (.inr ⟨h1,h2,h3,h4⟩)),λh=>by have:=(hs.1 (hpre h)).1;omega⟩
         ·refine .inr ⟨h1,h2,h3,h4,?_⟩
          by_cases h5:i=0
          ·exact .inl ⟨h5,hs.2 ⟨by omega,λh=>by omega⟩⟩
          ·by_cases h6:lp<la
           ·exact .inr (.inl ⟨by omega,h6,hs.2 ⟨by omega,λ_=>h6⟩⟩)
           ·exact .inr (.inr ⟨by omega,by omega,λh=>by have:=(hs.1 (hpre h)).2 (by omega);omega⟩)
     have HIN:=aB hin
     have HPV:=aB hprev
     clear hs hpre hz hlp hin hi hprev
     rcases hcs with⟨hb,hq⟩ | ⟨h1,h2,h3,h4,hg⟩
     ·have HQN:=aB hq
      clear hq
      rcases hb with h1 | ⟨h1,h2⟩ | ⟨h1,h2,h3⟩ | ⟨h1,h2,h3,h4⟩
      all_goals
       go_wp2_with fail
       go_ret
       exact⟨.mk false ⟨(λh=>by cases h),λh=>absurd h HQN⟩,HT2.then (HT.alloc _)⟩
     ·rcases hg with⟨h0,hj⟩ | ⟨h0,h5,hj⟩ | ⟨h0,h5,hq⟩
      ·have HJ2:=aB hj
       have v1:decide (0<i)=false:=by simp;omega
       have v2:decide ((0:Int)<(i:Int))=false:=by simp;omega
       clear hj h0
       go_wp2_with fail
       refine wp_region_quiet_lit (by kernel_rfl) (by kernel_rfl) ?_
       iterate 3 quiet_step (fail)
       iterate 10
        rw[Bo]
        go_simp
       quiet_step (fail)
       refine wpQuiet_nil ?_
       intro nq
       go_wp2_with fail
       go_roundw
       ·exact⟨i+1,by simp,by have:=HIN.out;omega,HJ2,aB ((HT.alloc _).drewN _)⟩
       ·have:=HIN.out
        simp only[intOf]
        omega
      ·have HJ2:=aB hj
       have v1:=HPV.out h0
       have v2:decide (0<i)=true:=by simp;omega
       have v8:decide ((0:Int)<(i:Int))=true:=by simp;omega
       have v3:IntKind.i64.wrap ((i:Int)-1)=(i:Int)-1:=qQa _ (by omega)
       have v4:(0:Int)<=(i:Int)-1:=by omega
       have v9:(1:Int)<=(i:Int):=by omega
       have v5:(i:Int)-1<(n:Int):=by omega
       have v6:((i:Int)-1).toNat=i-1:=by omega
       have v7:¬ la<=lp:=by omega
       clear hj h0
       go_wp2_with fail
       refine wp_region_quiet_lit (by kernel_rfl) (by kernel_rfl) ?_
       iterate 14 quiet_step (fail)
       refine wpQuiet_nil ?_
       rintro _ ⟨nq,rfl⟩
       go_wp2_with fail
       go_roundw
       ·exact⟨i+1,by simp,by have:=HIN.out;omega,HJ2,aB ((HT.alloc _).drewN _)⟩
       ·have:=HIN.out
        simp only[intOf]
        omega
      ·have HQN:=aB hq
       have v1:=HPV.out h0
       have v2:decide (0<i)=true:=by simp;omega
       have v8:decide ((0:Int)<(i:Int))=true:=by simp;omega
       have v3:IntKind.i64.wrap ((i:Int)-1)=(i:Int)-1:=qQa _ (by omega)
       have v4:(0:Int)<=(i:Int)-1:=by omega
       have v9:(1:Int)<=(i:Int):=by omega
       have v5:(i:Int)-1<(n:Int):=by omega
       have v6:((i:Int)-1).toNat=i-1:=by omega
       clear hq h0
       go_wp2_with fail
       refine wp_region_quiet_lit (by kernel_rfl) (by kernel_rfl) ?_
       iterate 14 quiet_step (fail)
       refine wpQuiet_nil ?_
       rintro _ ⟨nq,rfl⟩
       go_wp2_with fail
       go_ret
       exact⟨.mk false ⟨(λh=>by cases h),λh=>absurd h HQN⟩,HT2.then ((HT.alloc _).drewN _)⟩
    ·have hie:i=n:=by omega
     have y1:¬ (i:Int)<(n:Int):=by omega
     have hq:Q:=HIFF2.2 (by rw[<-hie];exact HJ)
     have HQY:=aB hq
     clear hie hin hi hq
     go_wp2_with fail
     go_ret
     exact⟨.mk true ⟨λ_=>HQY.out,λ_=>rfl⟩,HT2.then HT⟩
end
def Kr(x:Int):Prop:=-2147483648<=x/\x<2147483648
def iV(x:Int):Value:=.int .i32 x
def oM(r:Nat):Int:=(r:Int)
def sY(O:List Int)(e:Ending):Prop :=
 (∃ R:List Nat,O=R.map oM/\(∀ r∈R,dS r=true)/\e=.returned (.tuple #[.string ⟨(R.flatMap aM).toArray⟩,.bool true])) \/
 ((¬ ∃ R:List Nat,O=R.map oM/\∀ r∈R,dS r=true)/\e=.returned (.tuple #[.string ByteArray.empty,.bool false]))
theorem aEh(x:Int)(w:World):Calls Tryz.prog 170 #[.int .i64 x] w λe w'=>e=.returned (.bool (jX x))/\w'=w:=by
 by_cases h0:0<=x
 ·obtain⟨r,rfl⟩:∃ r:Nat,x=(r:Int):=⟨x.toNat,by omega⟩
  rw[kG]
  exact Iz r w
 ·have e:jX x=false:=by simp[jX,h0]
  rw[e]
  go_in
  go_wp2_with fail
  go_ret
  exact⟨rfl,rfl⟩
theorem aHc{q:Nat}{O:List Int}(h:aI w 1 A q (O.map iV))(hl:O.length=q)(j:Nat)(hj:j<q) :
  ∃ g off,A=some ⟨g,off,none⟩/\w.cell? ⟨g,off+j,none⟩=some (.int .i32 (O.getD j 0)):=by
 obtain⟨g,off,hA,_,hc⟩:=h.2 (by omega)
 refine⟨g,off,hA,hc j _ ?_⟩
 simp[qZd,iV,show j<O.length by omega]
theorem Ym{O:List Int}(hi:i<O.length)(h:jX (O.getD i 0)=false):¬ ∃ R:List Nat,O=R.map oM/\∀ r∈R,dS r=true:=by
 rintro⟨R,rfl,hR⟩
 rw[qXb] at hi
 have e:(R.map oM).getD i 0=((R.getD i 0:Nat):Int):=by simp[qZd,hi,oM]
 rw[e,kG,hR _ (aZ R 0 i hi)] at h
 cases h
theorem aDf(a b:List UInt8):(⟨a.toArray⟩:ByteArray)++⟨b.toArray⟩=⟨(a++b).toArray⟩:=by
 apply ByteArray.ext
 simp
theorem So(w:World)(A:Option Addr)(n c:Nat)(O:List Int)(hR:aI w 1 A n (O.map iV))(hO:O.length=n)(hn:n<=1073741824)(hi:∀ x∈O,Kr x) :
  Calls Tryz.prog 134 #[.slice A n c] w λe w'=>sY O e/\aC (λ_=>False) w w':=by
 have HR:=aB hR
 have HO:=aB hO
 have HI:=aB hi
 clear hR hO hi
 go_in
 go_wp2_with fail
 go_loopw [4,5] (λsv iv wr=>∃ (i:Nat) (s:ByteArray),iv=.int .i64 i/\sv=.string s/\i<=n/\Hid (∃ R:List Nat,O.take i=R.map oM/\(∀ r∈R,dS r=true)/\s=⟨(R.flatMap aM).toArray⟩/\s.size<=4*i)/\Hid (aC (λ_=>False) w wr)) (λ_ iv _=>n-(intOf iv).toNat)
 case atStart=>exact⟨0,ByteArray.empty,rfl,rfl,qZb _,aB ⟨[],by simp,by simp,rfl,qZc _⟩,aB (aC.refl _ _)⟩
 case round =>
  obtain⟨i,s,rfl,rfl,hin,HS,HT⟩:=hrel
  by_cases hin2:i<n
  ·have y0:(i:Int)<(n:Int):=by omega
   have y1:(0:Int)<=(i:Int):=by omega
   have y2:IntKind.i64.wrap ((i:Int)+1)=(i:Int)+1:=qQa _ (by omega)
   obtain⟨g,o,hA,c0⟩:=aHc (HR.touch HT (λ_ _ f=>f)) HO i hin2
   subst hA
   have hx:=HI.out _ (aZ O 0 i (by rw[HO.out];exact hin2))
   have htk:=bI O 0 i (by rw[HO.out];exact hin2)
   have hno:=Ym (O:=O) (i:=i) (by rw[HO.out];exact hin2)
   obtain⟨x,hxx⟩:∃ x,O.getD i 0=x:=⟨_,rfl⟩
   rw[hxx] at hx htk c0 hno
   have x0:IntKind.i64.wrap x=x:=qQa _ (by unfold Kr at hx;omega)
   have HTK:=aB htk
   have HNO:=aB hno
   have HIN:=aB hin2
   have HRU:=aB (aEh x)
   clear hx htk hno hxx hin2 hin
   by_cases hsc:jX x=true
   ·rw[hsc] at HRU
    obtain⟨r,hr⟩:∃ r:Nat,x=(r:Int):=⟨x.toNat,by simp[jX] at hsc;omega⟩
    subst hr
    rw[kG] at hsc
    have HSC:=aB hsc
    have HW:=aB (λwx=>Ei wx r (by have:=cU hsc;omega))
    clear hsc HNO
    go_wp2_with fail
    refine (HRU wr).mono ?_
    rintro e w2 ⟨rfl,hw2⟩
    subst hw2
    go_wp2_with fail
    refine (HW w2).mono ?_
    rintro e w3 ⟨rfl,T3⟩
    have HT3:=aB T3
    clear T3
    have hsz:¬ 9223372036854775807<s.size+(aM r).length:=by
     obtain⟨R,_,_,_,h4⟩:=HS.out
     have:=iH r
     have:=HIN.out
     omega
    go_wp2_with fail
    go_roundw
    ·refine⟨i+1,_,by simp,rfl,by have:=HIN.out;omega,aB ?_,aB (HT.then HT3)⟩
     obtain⟨R,h1,h2,h3,h4⟩:=HS.out
     refine⟨R++[r],?_,?_,?_,?_⟩
     ·rw[HTK.out,h1,qXa]
      rfl
     ·intro q hq
      rcases List.mem_append.1 hq with hq | hq
      ·exact h2 q hq
      ·rw[List.mem_singleton.1 hq]
       exact HSC
     ·rw[h3,aDf,List.flatMap_append]
      simp
     ·have:=iH r
      rw[ByteArray.size_append]
      have e:(⟨(aM r).toArray⟩:ByteArray).size=(aM r).length:=List.size_toArray
      omega
    ·have:=HIN.out
     simp only[intOf]
     omega
   ·have hsf:jX x=false:=by simpa using hsc
    rw[hsf] at HRU
    have HNO2:=aB (HNO hsf)
    clear hsc hsf HNO
    go_wp2_with fail
    refine (HRU wr).mono ?_
    rintro e w2 ⟨rfl,hw2⟩
    subst hw2
    go_wp2_with fail
    exact bodyPost_ret (v:=.tuple #[.string ByteArray.empty,.bool false]) (by simp[results,Tryz.results134,go_sem];try rfl) rfl ⟨.inr ⟨HNO2,rfl⟩,HT⟩
  ·have hie:i=n:=by omega
   have y0:¬ (i:Int)<(n:Int):=by omega
   have hfin:sY O (.returned (.tuple #[.string s,.bool true])):=by
    obtain⟨R,h1,h2,h3,_⟩:=HS.out
    rw[qQb (by rw[HO.out];omega)] at h1
    exact .inl ⟨R,h1,h2,by rw[h3]⟩
   have HFIN:=aB hfin
   clear hfin hie hin2 hin
   go_wp2_with fail
   exact bodyPost_ret (v:=.tuple #[.string s,.bool true]) (by simp[results,Tryz.results134,go_sem]) rfl ⟨HFIN,HT⟩
end Go.Proofs.YthockgmbooefpaaGreatDoor
