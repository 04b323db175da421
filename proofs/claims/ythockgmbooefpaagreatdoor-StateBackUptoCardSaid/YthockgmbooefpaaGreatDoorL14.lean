/- What the law rests on, part 14. No condition but those that each theorem names. -/
import Derived.Test.YthockgmbooefpaaGreatDoorL08
import Derived.Test.YthockgmbooefpaaGreatDoorL13
import Derived.Deep.RegionHeld3
set_option linter.unusedSectionVars false
set_option linter.unusedSimpArgs false
set_option linter.unusedVariables false
set_option maxRecDepth 100000
set_option maxHeartbeats 8000000
namespace Go.Proofs.YthockgmbooefpaaGreatDoor
open Go.RowKit
def arcB (i prev:Nat) (a:Nat × Int × Nat):List UInt8:=varN (a.1-prev)++varN a.2.1.toNat++varN (i-a.2.2)
def arcsB (i:Nat):Nat→List (Nat × Int × Nat)→List UInt8
 | _,[]=>[]
 | p,a :: l=>arcB i p a++arcsB i a.1 l
def headB (s:StP):List UInt8:=if s.fin=true then varN (2*s.arcs.length+1)++varN s.out.toNat else varN (2*s.arcs.length)
def stB (i:Nat) (s:StP):List UInt8:=headB s++arcsB i 0 s.arcs
def stsB:Nat→List StP→List UInt8
 | _,[]=>[]
 | i,s :: l=>stB i s++stsB (i+1) l
def topB (base:Int) (n:Nat):List UInt8:=varN base.toNat++varN n
def packB (base:Int) (sts:List StP):List UInt8:=topB base sts.length++stsB 0 sts
def lastL (p:Nat) (l:List (Nat × Int × Nat)):Nat:=(l.getLast?.map (·.1)).getD p
theorem arcsB_snoc (i:Nat) (a:Nat × Int × Nat):∀ (l:List (Nat × Int × Nat)) (p:Nat),arcsB i p (l++[a])=arcsB i p l++arcB i (lastL p l) a
 | [],p=>by simp [arcsB,lastL]
 | [b],p=>by simp [arcsB,lastL]
 | b :: d :: l,p=>by
  have h:=arcsB_snoc i a (d :: l) b.1
  have e:lastL p (b :: d :: l)=lastL b.1 (d :: l):=by
   obtain ⟨x,hx⟩:∃ x,(d :: l).getLast? = some x:=⟨_,List.getLast?_eq_some_getLast (by simp)⟩
   unfold lastL
   rw [List.getLast?_cons_cons,hx]
   rfl
  simp only [List.cons_append,arcsB] at h ⊢
  rw [h,e,List.append_assoc,List.append_assoc,List.append_assoc]
theorem stsB_snoc (s:StP):∀ (l:List StP) (k:Nat),stsB k (l++[s])=stsB k l++stB (k+l.length) s
 | [],k=>by simp [stsB]
 | t :: l,k=>by
  have h:=stsB_snoc s l (k+1)
  simp only [List.cons_append,stsB]
  rw [h,List.append_assoc,List.length_cons,show k+1+l.length=k+(l.length+1) by omega]
def nbT (t:TypeId):Prop:=t ≠ 5
theorem put_k {w0 wx:World} {A:Option Addr} {q c:Nat} {xs:List UInt8} (h:Hid (ONx 5 1 w0 wx (.slice A q c) q (xs.map byteV))) {z:Int} {n:Nat} (hz:Hid (z=(n:Int)∧n<9223372036854775808)) (hq:q≤35184372088832) :
  Calls Tryz.prog 111 #[.slice A q c,.int .i64 z] wx fun e w'=>∃ (A':Option Addr) (q' c':Nat),e=.returned (.slice A' q' c')∧Hid (ONx 5 1 w0 w' (.slice A' q' c') q' ((xs++varN n).map byteV))∧q'≤q+10∧KpP nbT wx w':=by
 obtain ⟨rfl,hn⟩:=hz.out
 refine (pput_any w0 wx A q c _ h.out n hn hq).mono ?_
 rintro e w' ⟨A',q',c',rfl,h2,hq2,T⟩
 exact ⟨A',q',c',rfl,hide (by rw [List.map_append];exact h2),hq2,KpP.touch T (fun g t ht hg e=>(own_ty h.out.own e).ne hg (fun e=>ht e.symm) rfl)⟩
theorem keep2 {wd w':World} {M:Nat} {t:TypeId} {a b:Value} (ht:nbT t) (h:Blk wd M t #[a,b]) (k:KpP nbT wd w'):w'.cell? ⟨M,0,none⟩=some a∧w'.cell? ⟨M,1,none⟩=some b∧KpP nbT wd w' :=
 ⟨(h.kpp k ht).cell 0,(h.kpp k ht).cell 1,k⟩
theorem keep3 {wd w':World} {M:Nat} {t:TypeId} {a b c:Value} (ht:nbT t) (h:Blk wd M t #[a,b,c]) (k:KpP nbT wd w'):w'.cell? ⟨M,0,none⟩=some a∧w'.cell? ⟨M,1,none⟩=some b∧w'.cell? ⟨M,2,none⟩=some c∧KpP nbT wd w' :=
 ⟨(h.kpp k ht).cell 0,(h.kpp k ht).cell 1,(h.kpp k ht).cell 2,k⟩
theorem le_tiny {q:Nat} (h:q≤0+10):q≤35184372088832:=by omega
theorem and_last3' {a b c:Prop} (h:a∧b∧c):c:=h.2.2
theorem and_last4' {a b c d:Prop} (h:a∧b∧c∧d):d:=h.2.2.2
theorem pack_any (w:World) (hL:Lst w) (bn:Nat) (A:Option Addr) (n c:Nat) (Z:List SV) (hst:StsOk w A n Z) (hR:RgtP (Z.map SV.p) (bn:Int)) (hbn:bn≤1048576) (hn:n≤98305) (hf:∀ i,i<n→FormP i (Z.getD i svZero).p) :
  Calls Tryz.prog 47 #[.agg #[.int .i64 bn,.slice A n c]] w fun e w'=>∃ (A':Option Addr) (q c':Nat),e=.returned (.tuple #[.slice A' q c',.int .i64 0])∧ONx 5 1 w w' (.slice A' q c') q ((packB bn (Z.map SV.p)).map byteV):=by
 obtain ⟨w1,hw1⟩:∃ y,y=w.alloc (.cells #[.int .i64 bn,.slice A n c] 89):=⟨_,rfl⟩
 have hT1:Touch (fun _=>False) w w1:=by rw [hw1];exact (Touch.refl _ _).alloc _
 have hbM:Blk w1 w.heap.size 89 #[.int .i64 bn,.slice A n c]:=by rw [hw1];exact Blk.new _ _ _
 have hri:=right_all w1 (Lst.touch hL hT1) bn A n c Z (hst.quiet hT1) hR
 have HRI:=hide hri
 have HW1:=hide hw1
 have HT1:=hide hT1
 have HBM:=hide hbM
 have HST:=hide hst
 have HF:=hide hf
 have HBN:=hide hbn
 have HN:=hide hn
 obtain ⟨m0,m1,m2⟩:=hbM.facts
 rw [hw1] at m0 m1 m2
 clear hst hR hf hw1 hT1 hbM hri hL hbn hn
 go_enter Tryz.func47,Tryz.ntmps47
 go_wp2_with fail
 rw [← HW1.out]
 refine HRI.out.mono ?_
 rintro e w2 ⟨rfl,T2⟩
 have hbM2:=HBM.out.touch T2 (fun f=>f)
 clear m0 m1 m2
 obtain ⟨m0,m1,m2⟩:=hbM2.facts
 have HX0:Hid (ONx 5 1 w w2.drew (.slice none 0 0) 0 (([]:List UInt8).map byteV)):=hide ((ONx.nil _ _ _).to ((HT1.out.then T2).drew))
 have HBM2:=hide hbM2
 have HT2:=hide (HT1.out.then T2)
 have HZ1:Hid ((bn:Int)=(bn:Int)∧bn<9223372036854775808):=hide ⟨rfl,by have:=HBN.out;omega⟩
 have HZ2:Hid ((n:Int)=(n:Int)∧n<9223372036854775808):=hide ⟨rfl,by have:=HN.out;omega⟩
 have HNBM:Hid (nbT 89):=hide (by unfold nbT;decide)
 have HP1:=hide (put_k HX0 HZ1 (Nat.zero_le _))
 have HP2:Hid (∀ (A5:Option Addr) (q5 c5:Nat) (wx:World),Hid (ONx 5 1 w wx (.slice A5 q5 c5) q5 (([]++varN bn).map byteV))→q5≤0+10→Calls Tryz.prog 111 #[.slice A5 q5 c5,.int .i64 n] wx fun e w'=>∃ (A':Option Addr) (q' c':Nat),e=.returned (.slice A' q' c')∧Hid (ONx 5 1 w w' (.slice A' q' c') q' ((([]++varN bn)++varN n).map byteV))∧q'≤q5+10∧KpP nbT wx w'):=hide (fun A5 q5 c5 wx h hq=>put_k h HZ2 (le_tiny hq))
 clear T2 hbM2 HRI
 go_wp2_with fail
 go_region_held3 (fun w'=>w'.cell? ⟨w.heap.size,0,none⟩=some (.int .i64 bn)∧w'.cell? ⟨w.heap.size,1,none⟩=some (.slice A n c)∧KpP nbT w2 w')
  (first
    | exact keep2 HNBM.out HBM2.out (KpP.refl _ _)
    | exact keep2 HNBM.out HBM2.out (KpP.of (Touch.refl _ _).drew)
    | (refine keep2 HNBM.out HBM2.out (KpP.trans ?_ (by assumption));first | assumption | exact and_last3' (by assumption) | exact KpP.of (Touch.refl _ _).drew | exact KpP.refl _ _))
  (first
    | (go_at_call 111;refine (HP2.out _ _ _ _ HX5 hq5).mono ?_;rintro e wy ⟨A6,q6,c6,rfl,HX6,hq6,k6⟩)
    | (go_at_call 111;refine HP1.out.mono ?_;rintro e wx ⟨A5,q5,c5,rfl,HX5,hq5,k5⟩))
 have hk2y:KpP nbT w2 wy:=and_last3' (by assumption)
 have hxy:ONx 5 1 w wy (.slice A6 q6 c6) q6 ((topB bn n).map byteV):=by
  have h:=HX6.out
  simpa [topB] using h
 have hq6b:q6≤40:=by omega
 have HK2:=hide hk2y
 have HXY:=hide hxy
 have HQ6:=hide hq6b
 clear m0 m1 m2
 obtain ⟨m0,m1,m2⟩:=(HBM2.out.kpp hk2y HNBM.out).facts
 clear hk2y hxy hq6b hq5 hq6 k5 k6 HX5 HX6 HP1 HP2 HZ1 HZ2 HX0
 have hcl:∀ (wr:World),KpP nbT w2 wr→(RdT wr 170 3 A n (sCells Z))∧∀ z∈Z,RdT wr 173 3 z.A z.n (aCells z.arcs):=fun wr hk =>
  ⟨(HST.out.quiet HT2.out).rd.kpp hk (by unfold nbT;decide),fun z hz=>((HST.out.quiet HT2.out).el z hz).rd.kpp hk (by unfold nbT;decide)⟩
 have HCL:=hide hcl
 clear hcl
 go_wp2_with fail
 go_loopw [4,24] (fun bv iv wr=>∃ (A3:Option Addr) (q c3 i:Nat),bv=.slice A3 q c3∧iv=.int .i64 i∧i≤n∧Hid (ONx 5 1 w wr (.slice A3 q c3) q ((topB bn n++stsB 0 ((Z.map SV.p).take i)).map byteV))∧Hid (q≤40+i*62914600)∧Hid (KpP nbT w2 wr)) (fun _ iv _=>n-(intOf iv).toNat)
 case atStart=>exact ⟨A6,q6,c6,0,rfl,rfl,Nat.zero_le _,hide (by rw [List.take_zero];simpa [stsB] using HXY.out),hide (by have:=HQ6.out;omega),HK2⟩
 case round =>
  clear m0 m1 m2
  obtain ⟨A3,q,c3,i,rfl,rfl,hi,HX,HQ,HK⟩:=hrel
  by_cases hin:i<n
  ·obtain ⟨hrs,hra⟩:=HCL.out wr HK.out
   have hzl:Z.length=n:=HST.out.len
   obtain ⟨g,o,hA,hg,d0,d1,d2⟩:=state_at hrs.rd hzl i hin
   subst hA
   have hzm:=getD_mem Z svZero i (by rw [hzl];exact hin)
   have hfm:=HF.out i hin
   have hzo:=HST.out.el _ hzm
   have htk:(Z.map SV.p).take (i+1)=(Z.map SV.p).take i++[(Z.getD i svZero).p]:=by
    rw [List.take_succ_eq_append_getElem (by rw [List.length_map,hzl];exact hin)]
    simp [List.getD,show i<Z.length by rw [hzl];exact hin]
   obtain ⟨z,hz⟩:∃ z,Z.getD i svZero=z:=⟨_,rfl⟩
   rw [hz] at d0 d1 d2 hzm hfm hzo htk
   obtain ⟨fin,out,zA,zn,zc,arcs⟩:=z
   simp only at d0 d1 d2
   have hzal:=hzo.len
   have hzle:=hzo.le
   simp only at hzal hzle
   obtain ⟨on,hon⟩:∃ on:Nat,out=(on:Int):=⟨out.toNat,by have:=hfm.out0;simp only [SV.p] at this;omega⟩
   subst hon
   have honb:on≤1048576:=by have:=hfm.out1;simp only [SV.p] at this;omega
   have hfew:=form_few hfm
   simp only [SV.p] at hfew
   have hznI:(zn:Int)≤2097152:=by omega
   have htl:((Z.map SV.p).take i).length=i:=by rw [List.length_take,List.length_map,hzl];omega
   obtain ⟨w3,hw3⟩:∃ y,y=wr.alloc (.cells #[.bool fin,.int .i64 on,.slice zA zn zc] 170):=⟨_,rfl⟩
   have hT3:Touch (fun _=>False) wr w3:=by rw [hw3];exact (Touch.refl _ _).alloc _
   have hbS:Blk w3 wr.heap.size 170 #[.bool fin,.int .i64 on,.slice zA zn zc]:=by rw [hw3];exact Blk.new _ _ _
   have y0:(i:Int)<(n:Int):=by omega
   have y1:(0:Int)≤(i:Int):=by omega
   have y2:IntKind.i64.wrap ((i:Int)+1)=(i:Int)+1:=IntWalk.i64_in _ (by have:=HN.out;omega)
   have y3:IntKind.i64.wrap (2*(zn:Int))=2*(zn:Int):=IntWalk.i64_in _ (by omega)
   have y4:IntKind.i64.wrap (2*(zn:Int)+1)=2*(zn:Int)+1:=IntWalk.i64_in _ (by omega)
   obtain ⟨s0,s1,s2⟩:=hbS.facts
   have hxw3:=HX.out.to hT3
   have hq45:q≤35184372088832-1000:=by have h1:=HQ.out;have h2:=HN.out;omega
   obtain ⟨xs,hxs⟩:∃ xs,xs=topB bn n++stsB 0 ((Z.map SV.p).take i):=⟨_,rfl⟩
   rw [← hxs] at hxw3
   have hx3d:Hid (ONx 5 1 w w3.drew (.slice A3 q c3) q (xs.map byteV)):=hide (hxw3.to (Touch.refl _ _).drew)
   have HX3:=hide hxw3
   have HNBS:Hid (nbT 170):=hide (by unfold nbT;decide)
   have HNBA:Hid (nbT 173):=hide (by unfold nbT;decide)
   have HBS:=hide hbS
   have HW3:=hide hw3
   have HT3:=hide hT3
   have HFM:=hide hfm
   have HTK:=hide htk
   have HZAL:=hide hzal
   have HZM:=hide hzm
   have HXS:=hide hxs
   have HQ45:=hide hq45
   have HTL:=hide htl
   have HIN:=hide hin
   have HZN:=hide hfew
   have hzn1:Hid (2*(zn:Int)+1=((2*zn+1:Nat):Int)∧2*zn+1<9223372036854775808):=hide ⟨by omega,by omega⟩
   have hzn2:Hid (2*(zn:Int)=((2*zn:Nat):Int)∧2*zn<9223372036854775808):=hide ⟨by omega,by omega⟩
   have hzn3:Hid ((on:Int)=(on:Int)∧on<9223372036854775808):=hide ⟨rfl,by omega⟩
   have HP1:=hide (put_k hx3d hzn1 (by omega))
   have HP2:=hide (put_k (hide hxw3) hzn2 (by omega))
   have HP3:Hid (∀ (A5:Option Addr) (q5 c5:Nat) (wx:World),Hid (ONx 5 1 w wx (.slice A5 q5 c5) q5 ((xs++varN (2*zn+1)).map byteV))→q5≤q+10→Calls Tryz.prog 111 #[.slice A5 q5 c5,.int .i64 on] wx fun e w'=>∃ (A':Option Addr) (q' c':Nat),e=.returned (.slice A' q' c')∧Hid (ONx 5 1 w w' (.slice A' q' c') q' (((xs++varN (2*zn+1))++varN on).map byteV))∧q'≤q5+10∧KpP nbT wx w'):=hide (fun A5 q5 c5 wx h hq=>put_k h hzn3 (by have:=HQ45.out;omega))
   clear hxs hx3d hxw3 hbS hw3 hT3 hfm htk hzal hzm hq45 htl hin hfew hzn1 hzn2 hzn3 hrs hra hzl hg hz hzo hzle honb
   have d0':=d0
   go_upto_if 34 with fail
   rw [← HW3.out]
   clear d0 d1 d2 d0'
   go_cut [4] from 35 to 44 (fun bv wx=>∃ (A7:Option Addr) (q7 c7:Nat),bv=.slice A7 q7 c7∧Hid (ONx 5 1 w wx (.slice A7 q7 c7) q7 ((xs++headB ⟨fin,(on:Int),arcs⟩).map byteV))∧q7≤q+20∧Hid (KpP nbT w3 wx))
   case first =>
    cases fin with
    | true =>
     go_wp2_with fail
     go_region_held3 (fun w'=>w'.cell? ⟨wr.heap.size,0,none⟩=some (.bool true)∧w'.cell? ⟨wr.heap.size,1,none⟩=some (.int .i64 on)∧w'.cell? ⟨wr.heap.size,2,none⟩=some (.slice zA zn zc)∧KpP nbT w3 w')
      (first
     | exact keep3 HNBS.out HBS.out (KpP.refl _ _)
     | exact keep3 HNBS.out HBS.out (KpP.of (Touch.refl _ _).drew)
     | (refine keep3 HNBS.out HBS.out (KpP.trans ?_ (by assumption));first | assumption | exact and_last4' (by assumption) | exact KpP.of (Touch.refl _ _).drew | exact KpP.refl _ _))
      (first
        | (go_at_call 111;refine (HP3.out _ _ _ _ HX5 hq5).mono ?_;rintro e wy ⟨A6,q6,c6,rfl,HX6,hq6,k6⟩)
        | (go_at_call 111;refine HP1.out.mono ?_;rintro e wx ⟨A5,q5,c5,rfl,HX5,hq5,k5⟩))
     have hk:KpP nbT w3 wy:=and_last4' (by assumption)
     have HK7:=hide hk
     clear hk
     go_wp2_with fail
     go_meet
     exact ⟨A6,q6,c6,rfl,hide (by
      have h:=HX6.out
      have hz:=HZAL.out
      simp only [headB,if_true]
      rw [hz,Int.toNat_natCast,← List.append_assoc]
      exact h),by omega,HK7⟩
    | false =>
     go_wp2_with fail
     refine HP2.out.mono ?_
     rintro e wx ⟨A5,q5,c5,rfl,HX5,hq5,k5⟩
     have HK7:=hide k5
     clear k5
     go_wp2_with fail
     go_meet
     exact ⟨A5,q5,c5,rfl,hide (by
      have h:=HX5.out
      have hz:=HZAL.out
      simp only [headB]
      rw [hz]
      simpa using h),by omega,HK7⟩
   case rest =>
    obtain ⟨A7,q7,c7,rfl,HX7,hq7,HK7⟩:=hcut
    obtain ⟨s0,s1,s2⟩:=(HBS.out.kpp HK7.out HNBS.out).facts
    obtain ⟨xs2,hxs2⟩:∃ ys,ys=xs++headB ⟨fin,(on:Int),arcs⟩:=⟨_,rfl⟩
    rw [← hxs2] at HX7
    have HXS2:=hide hxs2
    clear hxs2 HP1 HP2 HP3
    go_wp2_with fail
    obtain ⟨wo,hwo⟩:∃ y,y=wr:=⟨_,rfl⟩
    subst hwo
    go_loopw [4,8,48] (fun bv lv jv wx=>∃ (A8:Option Addr) (q8 c8 j lab:Nat),bv=.slice A8 q8 c8∧lv=.int .i32 (lab:Int)∧jv=.int .i64 j∧j≤zn∧Hid (lab=lastL 0 (arcs.take j))∧Hid (ONx 5 1 w wx (.slice A8 q8 c8) q8 ((xs2++arcsB i 0 (arcs.take j)).map byteV))∧Hid (q8≤q+20+j*30)∧Hid (KpP nbT w3 wx)) (fun _ _ jv _=>zn-(intOf jv).toNat)
    case atStart=>exact ⟨A7,q7,c7,0,0,rfl,rfl,rfl,Nat.zero_le _,hide rfl,hide (by rw [List.take_zero];simpa [arcsB] using HX7.out),hide (by omega),HK7⟩
    case round =>
     clear s0 s1 s2
     obtain ⟨A8,q8,c8,j,lab,rfl,rfl,rfl,hj,HLA,HX8,HQ8,HK8⟩:=hrel
     by_cases hjn:j<zn
     ·have hra:=(((HCL.out wo HK.out).2 _ HZM.out).quiet HT3.out).kpp HK8.out HNBA.out
      obtain ⟨g2,o2,hA2,_,e0,e1,e2⟩:=arc_at hra.rd HZAL.out j hjn
      simp only at hA2 e0 e1 e2
      subst hA2
      have ham:=getD_mem arcs (0,0,0) j (by rw [HZAL.out];exact hjn)
      have htj:arcs.take (j+1)=arcs.take j++[arcs.getD j (0,0,0)]:=take_snoc arcs (0,0,0) j (by rw [HZAL.out];exact hjn)
      have hlt:∀ x∈arcs.take j,x.1<(arcs.getD j (0,0,0)).1:=by
       intro x hx
       have h1:=HFM.out.lab
       simp only [SV.p] at h1
       have h2:=h1.sublist ((List.take_sublist (j+1) arcs).map _)
       rw [htj,List.map_append,List.pairwise_append] at h2
       exact h2.2.2 _ (List.mem_map_of_mem hx) _ (List.mem_singleton.2 rfl)
      have har:=HFM.out.arc _ ham
      have hrn:=(HFM.out.run _ ham).1
      obtain ⟨⟨la,ua,tt⟩,hz⟩:∃ z,arcs.getD j (0,0,0)=z:=⟨_,rfl⟩
      rw [hz] at e0 e1 e2 htj hlt har hrn
      simp only at e0 e1 e2 hlt har hrn
      have hlab:lab≤la:=by
       rw [HLA.out]
       unfold lastL
       cases hg:(arcs.take j).getLast? with
       | none=>simp
       | some x=>exact Nat.le_of_lt (hlt x (List.mem_of_getLast? hg))
      have hla:la<1114112:=scal_lt hrn
      obtain ⟨un,hun⟩:∃ un:Nat,ua=(un:Int):=⟨ua.toNat,by omega⟩
      subst hun
      obtain ⟨w5,hw5⟩:∃ y,y=wr.alloc (.cells #[.int .i32 la,.int .i64 un,.int .i64 tt] 173):=⟨_,rfl⟩
      have hT5:Touch (fun _=>False) wr w5:=by rw [hw5];exact (Touch.refl _ _).alloc _
      have hbA:Blk w5 wr.heap.size 173 #[.int .i32 la,.int .i64 un,.int .i64 tt]:=by rw [hw5];exact Blk.new _ _ _
      obtain ⟨p0,p1,p2⟩:=hbA.facts
      have y5:(j:Int)<(zn:Int):=by omega
      have y6:(0:Int)≤(j:Int):=by omega
      have y7:IntKind.i64.wrap ((j:Int)+1)=(j:Int)+1:=IntWalk.i64_in _ (by have:=HZN.out;omega)
      have y8:IntKind.i32.wrap ((la:Int)-(lab:Int))=(la:Int)-(lab:Int):=IntWalk.i32_in _ (by omega)
      have y9:IntKind.i64.wrap ((la:Int)-(lab:Int))=(la:Int)-(lab:Int):=IntWalk.i64_in _ (by omega)
      have y10:IntKind.i64.wrap ((i:Int)-(tt:Int))=(i:Int)-(tt:Int):=IntWalk.i64_in _ (by have:=HN.out;have:=HIN.out;omega)
      obtain ⟨ys,hys⟩:∃ ys,ys=xs2++arcsB i 0 (arcs.take j):=⟨_,rfl⟩
      have hx5:Hid (ONx 5 1 w w5.drew (.slice A8 q8 c8) q8 (ys.map byteV)):=hide (by rw [hys];exact (HX8.out.to hT5).to (Touch.refl _ _).drew)
      have hn1:Hid ((la:Int)-(lab:Int)=((la-lab:Nat):Int)∧la-lab<9223372036854775808):=hide ⟨by omega,by omega⟩
      have hn2:Hid ((un:Int)=(un:Int)∧un<9223372036854775808):=hide ⟨rfl,by omega⟩
      have hn3:Hid ((i:Int)-(tt:Int)=((i-tt:Nat):Int)∧i-tt<9223372036854775808):=hide ⟨by omega,by have:=HN.out;have:=HIN.out;omega⟩
      have hq8:q8≤35184372088832-100:=by
       have h1:=HQ.out
       have h2:=HN.out
       have h3:=HQ8.out
       have h4:=HZN.out
       have h5:=HIN.out
       omega
      have HQ88:=hide hq8
      have HP1:=hide (put_k hx5 hn1 (by omega))
      have HP2:Hid (∀ (A5:Option Addr) (q5 c5:Nat) (wx:World),Hid (ONx 5 1 w wx (.slice A5 q5 c5) q5 ((ys++varN (la-lab)).map byteV))→q5≤q8+10→Calls Tryz.prog 111 #[.slice A5 q5 c5,.int .i64 un] wx fun e w'=>∃ (A':Option Addr) (q' c':Nat),e=.returned (.slice A' q' c')∧Hid (ONx 5 1 w w' (.slice A' q' c') q' (((ys++varN (la-lab))++varN un).map byteV))∧q'≤q5+10∧KpP nbT wx w'):=hide (fun A5 q5 c5 wx h hq=>put_k h hn2 (by have:=HQ88.out;omega))
      have HP3:Hid (∀ (A5:Option Addr) (q5 c5 q4:Nat) (wx:World),Hid (ONx 5 1 w wx (.slice A5 q5 c5) q5 (((ys++varN (la-lab))++varN un).map byteV))→q4≤q8+10→q5≤q4+10→Calls Tryz.prog 111 #[.slice A5 q5 c5,.int .i64 ((i:Int)-(tt:Int))] wx fun e w'=>∃ (A':Option Addr) (q' c':Nat),e=.returned (.slice A' q' c')∧Hid (ONx 5 1 w w' (.slice A' q' c') q' ((((ys++varN (la-lab))++varN un)++varN (i-tt)).map byteV))∧q'≤q5+10∧KpP nbT wx w'):=hide (fun A5 q5 c5 q4 wx h hq4 hq=>put_k h hn3 (by have:=HQ88.out;omega))
      have HBA:=hide hbA
      have HW5:=hide hw5
      have HT5:=hide hT5
      have HYS:=hide hys
      have HTJ:=hide htj
      have HJN:=hide hjn
      clear hra ham hlt har hrn hz hlab hla hw5 hT5 hbA hys hx5 hn1 hn2 hn3 hq8 htj hjn hj
      go_upto_region 15 with fail
      rw [← HW5.out]
      go_region_held3 (fun w'=>w'.cell? ⟨wr.heap.size,0,none⟩=some (.int .i32 la)∧w'.cell? ⟨wr.heap.size,1,none⟩=some (.int .i64 un)∧w'.cell? ⟨wr.heap.size,2,none⟩=some (.int .i64 tt)∧KpP nbT w5 w')
       (first
       | exact keep3 HNBA.out HBA.out (KpP.refl _ _)
       | exact keep3 HNBA.out HBA.out (KpP.of (Touch.refl _ _).drew)
       | (refine keep3 HNBA.out HBA.out (KpP.trans ?_ (by assumption));first | assumption | exact and_last4' (by assumption) | exact KpP.of (Touch.refl _ _).drew | exact KpP.refl _ _))
       (first
         | (go_at_call 111;refine (HP3.out _ _ _ _ _ HXB hqa hqb).mono ?_;rintro e wz ⟨Ac,qc,cc,rfl,HXC,hqc,kc⟩)
         | (go_at_call 111;refine (HP2.out _ _ _ _ HXA hqa).mono ?_;rintro e wy ⟨Ab,qb,cb,rfl,HXB,hqb,kb⟩)
         | (go_at_call 111;refine HP1.out.mono ?_;rintro e wx ⟨Aa,qa,ca,rfl,HXA,hqa,ka⟩))
      have hk:KpP nbT w5 wz:=and_last4' (by assumption)
      have HKZ:=hide hk
      obtain ⟨t0,t1,t2⟩:=(HBA.out.kpp hk HNBA.out).facts
      clear hk
      go_wp2_with fail
      go_roundw
      case rel =>
       refine ⟨Ac,qc,cc,j+1,la,rfl,rfl,by simp,by have:=HJN.out;omega,hide (by rw [HTJ.out];simp [lastL]),hide ?_,hide (by have:=HQ8.out;omega),hide (HK8.out.trans ((KpP.of HT5.out).trans HKZ.out))⟩
       have h:=HXC.out
       rw [HYS.out] at h
       rw [HTJ.out,arcsB_snoc,← HLA.out]
       simp only [arcB,Int.toNat_natCast]
       simpa only [List.append_assoc] using h
      case measure =>
       have:=HJN.out
       simp only [intOf]
       omega
     ·have hje:j=zn:=by omega
      have hat:arcs.take j=arcs:=List.take_of_length_le (by rw [HZAL.out];omega)
      rw [hat] at HX8
      have y5:¬ (j:Int)<(zn:Int):=by omega
      have HJE:=hide hje
      clear hje hat hjn hj
      go_wp2_with fail
      go_roundw
      case rel =>
       refine ⟨A8,q8,c8,i+1,rfl,by simp,by have:=HIN.out;omega,hide ?_,hide ?_,hide (HK.out.trans ((KpP.of HT3.out).trans HK8.out))⟩
       ·have h:=HX8.out
        rw [HXS2.out,HXS.out] at h
        rw [HTK.out,stsB_snoc,HTL.out,Nat.zero_add]
        simp only [stB,SV.p]
        simpa only [List.append_assoc] using h
       ·have h1:=HQ8.out
        have h2:=HQ.out
        have h3:=HZN.out
        have h4:=HJE.out
        omega
      case measure =>
       have:=HIN.out
       simp only [intOf]
       omega
  ·have hie:i=n:=by omega
   have hat:(Z.map SV.p).take i=Z.map SV.p:=List.take_of_length_le (by rw [List.length_map,HST.out.len];omega)
   rw [hat] at HX
   have y0:¬ (i:Int)<(n:Int):=by omega
   have HZL:Hid ((Z.map SV.p).length=n):=hide (by rw [List.length_map];exact HST.out.len)
   clear hie hat hin hi
   go_wp2_with fail
   refine bodyPost_ret (v:=.tuple #[.slice A3 q c3,.int .i64 0]) (by simp [results,Tryz.results47,go_sem]) rfl ⟨A3,q,c3,rfl,?_⟩
   unfold packB
   rw [HZL.out]
   exact HX.out
end Go.Proofs.YthockgmbooefpaaGreatDoor
