/- What the law rests on, part 17. No condition but those that each theorem names. -/
import Derived.Test.YthockgmbooefpaaGreatDoorL16
import Derived.Test.YthockgmbooefpaaGreatDoorL05
set_option linter.unusedSectionVars false
set_option linter.unusedSimpArgs false
set_option linter.unusedVariables false
set_option maxRecDepth 100000
set_option maxHeartbeats 8000000
namespace Go.Proofs.YthockgmbooefpaaGreatDoor
open Go.RowKit
section
variable [Inhabited BaseT]
def BoolIff (P:Prop) (e:Ending):Prop:=∃ v:Bool,e=.returned (.bool v)∧(v=true↔P)
end
theorem BoolIff.mk {P:Prop} (v:Bool) (h:v=true↔P):BoolIff P (.returned (.bool v)):=⟨v,rfl,h⟩
section
variable [Inhabited BaseT]
def scalZ (x:Int):Bool:=decide (0≤x) && scal x.toNat
end
theorem scalZ_nat (r:Nat):scalZ (r:Int)=scal r:=by simp [scalZ]
theorem scalarZ_any (x:Int) (w:World):Calls Tryz.prog 147 #[.int .i32 x] w fun e w'=>e=.returned (.bool (scalZ x))∧w'=w:=by
 by_cases h0:0≤x
 ·obtain ⟨r,rfl⟩:∃ r:Nat,x=(r:Int):=⟨x.toNat,by omega⟩
  rw [scalZ_nat]
  exact scalar_any r w
 ·have e:scalZ x=false:=by simp [scalZ,h0]
  rw [e]
  go_enter Tryz.func147,Tryz.ntmps147
  go_wp2_with fail
  go_ret
  exact ⟨rfl,rfl⟩
theorem text_bad (w:World) (g:Nat) (x:Int) (hR:Reads w 1 (some ⟨g,0,none⟩) 1 [.int .i32 x]) (hs:scalZ x=false) :
  Calls Tryz.prog 93 #[.slice (some ⟨g,0,none⟩) 1 1] w fun e w'=>e=.returned (.tuple #[.string ByteArray.empty,.bool false])∧Touch (fun _=>False) w w':=by
 obtain ⟨b,off,hA,_,hc⟩:=hR.2 (by omega)
 have h0:=hc 0 _ rfl
 injection hA with hA
 injection hA with hA ho
 subst hA
 subst ho
 simp only [Nat.add_zero] at h0
 have HSC:=hide (scalarZ_any x)
 rw [hs] at HSC
 clear hc hR
 go_enter Tryz.func93,Tryz.ntmps93
 go_wp2_with fail
 go_loop [4,9] (fun bv iv=>bv=.slice none 0 0∧iv=.int .i64 0) (fun _ _=>0)
 case atStart=>exact ⟨rfl,rfl⟩
 case round =>
  obtain ⟨rfl,rfl⟩:=hrel
  go_wp2_with fail
  refine (HSC.out w).mono ?_
  rintro e w2 ⟨rfl,hw⟩
  subst hw
  go_wp2_with fail
  exact bodyPost_ret (v:=.tuple #[.string ByteArray.empty,.bool false]) (by simp [results,Tryz.results93,go_sem];try rfl) rfl ⟨rfl,Touch.refl _ _⟩
theorem word_empty (w:World) (hL:Lst w) :
  Calls Tryz.prog 78 #[.string ByteArray.empty] w fun e w'=>e=.returned (.bool false)∧Touch (fun _=>False) w w':=by
 have h:=word_any w ByteArray.empty (by decide) hL
 have e:wordU ByteArray.empty.toList=false:=by decide +kernel
 rw [e] at h
 exact h
theorem word_bad {r:Nat} (hs:scal r=true) (hf:fitU r=false):wordU (writeU r)=false:=by
 have h:=runes_write hs
 unfold wordU
 rw [h]
 simp [hf]
theorem label_any (x:Int):∃ (tx:ByteArray) (tv wv:Bool),(wv=true↔letZ x) ∧
  (∀ (w:World) (g:Nat),Lst w→Reads w 1 (some ⟨g,0,none⟩) 1 [.int .i32 x]→Calls Tryz.prog 93 #[.slice (some ⟨g,0,none⟩) 1 1] w fun e w'=>e=.returned (.tuple #[.string tx,.bool tv])∧Touch (fun _=>False) w w') ∧
  ∀ w:World,Lst w→Calls Tryz.prog 78 #[.string tx] w fun e w'=>e=.returned (.bool wv)∧Touch (fun _=>False) w w':=by
 by_cases hs:scalZ x=true
 ·obtain ⟨r,rfl⟩:∃ r:Nat,x=(r:Int):=⟨x.toNat,by simp [scalZ] at hs;omega⟩
  rw [scalZ_nat] at hs
  refine ⟨⟨(writeU r).toArray⟩,true,fitU r,?_,?_,?_⟩
  ·constructor
   ·intro h
    exact ⟨r,rfl,hs,h⟩
   ·rintro ⟨q,hq,_,h2⟩
    have e:r=q:=by omega
    rw [e]
    exact h2
  ·intro w g hL hR
   have h:=text_any w hL (some ⟨g,0,none⟩) 1 1 [r] hR rfl (by omega) (fun q hq=>by simp only [List.mem_singleton] at hq;rw [hq];exact hs)
   simpa using h
  ·intro w hL
   have hl:=write_len r
   have h:=word_any w ⟨(writeU r).toArray⟩ (by show (writeU r).toArray.size≤_;rw [List.size_toArray];omega) hL
   rw [toList_mk] at h
   have e:wordU (writeU r)=fitU r:=by
    cases hf:fitU r with
    | true=>exact word_write hs hf
    | false=>exact word_bad hs hf
   rw [e] at h
   exact h
 ·have hs':scalZ x=false:=by simpa using hs
  refine ⟨ByteArray.empty,false,false,?_,fun w g _ hR=>text_bad w g x hR hs',fun w hL=>word_empty w hL⟩
  constructor
  ·intro h
   cases h
  ·rintro ⟨q,rfl,h1,_⟩
   rw [scalZ_nat,h1] at hs'
   cases hs'
section
variable [Inhabited BaseT]
def okB (num:Nat) (out:Int) (arcs:List (Int × Int × Int)) (i:Nat) (b:Bool):Prop:=b=true↔okJ num out arcs i
theorem gformed_any (w:World) (hL:Lst w) (z:ZV) (hz:z.Ok w) (num:Nat) :
  Calls Tryz.prog 138 #[.agg #[.bool z.fin,.int .i64 z.out,.slice z.A z.n z.c],.int .i64 num] w fun e w'=>BoolIff (FormZ num z.p) e∧Touch (fun _=>False) w w':=by
 have hiff:=formZ_iff num z.p
 obtain ⟨fin,out,aA,n,ac,arcs⟩:=z
 obtain ⟨hlen,hrd,hle,hmx⟩:=hz
 simp only [ZV.p] at *
 obtain ⟨FZ,hFZ⟩:∃ FZ:Prop,FormZ num ⟨fin,out,arcs⟩=FZ:=⟨_,rfl⟩
 rw [hFZ] at hiff ⊢
 clear hFZ
 have hnm:n≤maxLen:=Nat.le_trans hle hmx
 have HL:=hide hL
 have HRD:=hide hrd
 have HLEN:=hide hlen
 rw [hlen] at hiff
 have HIFF:=hide hiff
 clear hL hrd hlen hle hmx hiff
 obtain ⟨w2,hw2⟩:∃ x,x=w.alloc (.cells #[.bool fin,.int .i64 out,.slice aA n ac] 170):=⟨_,rfl⟩
 have hT2:Touch (fun _=>False) w w2:=by rw [hw2];exact (Touch.refl _ _).alloc _
 have HT2:=hide hT2
 have HW2:=hide hw2
 clear hw2 hT2
 go_enter Tryz.func138,Tryz.ntmps138
 have hcase:∃ l0:Int,l0=(if fin=true then out else 1048577)∧((fin=false∧(out == 0)=false∧¬ FZ)∨(fin=true∧l0=out)∨(fin=false∧(out == 0)=true∧l0=1048577)):=by
  refine ⟨_,rfl,?_⟩
  cases fin with
  | true=>exact .inr (.inl ⟨rfl,by simp⟩)
  | false =>
   by_cases h:out=0
   ·exact .inr (.inr ⟨rfl,by simp [h],by simp⟩)
   ·refine .inl ⟨rfl,by simp [h],fun hf=>h ((HIFF.out.1 hf).1 rfl)⟩
 obtain ⟨l0,hl0,hcase⟩:=hcase
 have HL0:=hide hl0
 clear hl0
 rcases hcase with ⟨rfl,y0,hno⟩ | hcase
 ·have HNO:=hide hno
  clear hno
  go_wp2_with fail
  rw [← HW2.out]
  go_ret
  exact ⟨.mk false ⟨(fun h=>by cases h),fun h=>absurd h HNO.out⟩,HT2.out⟩
 ·have hb0:(0≤out∧out≤1048576)↔okJ num out arcs 0:=(okJ_zero num out arcs).symm
  have HB0:=hide hb0
  clear hb0
  have HF0:Hid (fin=false→out=0):=hide (by
   rcases hcase with ⟨h,_⟩ | ⟨_,h,_⟩
   ·intro e
    rw [h] at e
    cases e
   ·intro _
    simpa using h)
  have ho:(0≤out∧out≤1048576)∨(0≤out∧¬ out≤1048576)∨¬ 0≤out:=by omega
  rcases hcase with ⟨rfl,hl1⟩ | ⟨rfl,y0,hl1⟩<;>rcases ho with ⟨o1,o2⟩ | ⟨o1,o2⟩ | o1
  all_goals first | (exfalso;have h0:out=0:=(by simpa using y0);omega) | skip
  all_goals
   have HL1:=hide hl1
   clear hl1
   go_wp2_with fail
   rw [← HW2.out]
   try clear y0
   go_loopw [5,6,7,30] (fun lv kv bv iv wr=>∃ (i:Nat) (lo:Int) (b:Bool) (lab:Int),lv=.int .i64 lo∧kv=.bool b∧bv=.int .i32 lab∧iv=.int .i64 i∧i≤n∧Hid (lo=lowZ l0 arcs i)∧Hid (lab=labZ arcs i)∧Hid (okB num out arcs i b)∧Hid (Touch (fun _=>False) w2 wr)) (fun _ _ _ iv _=>n-(intOf iv).toNat)
   case atStart =>
    refine ⟨0,_,_,32,rfl,rfl,rfl,rfl,Nat.zero_le _,hide HL1.out.symm,hide rfl,hide ?_,hide (Touch.refl _ _)⟩
    unfold okB
    rw [← HB0.out]
    first
    | (simp;done)
    | (simp;omega)
   case round =>
    obtain ⟨i,lo,b,lab,rfl,rfl,rfl,rfl,hi,HLO,HLB,HB,HT⟩:=hrel
    try clear o1
    try clear o2
    by_cases hin:i<n
    ·have y1:(i:Int)<(n:Int):=by omega
     have y2:(0:Int)≤(i:Int):=by omega
     have z2:IntKind.i64.wrap ((i:Int)+1)=(i:Int)+1:=IntWalk.i64_in _ (by unfold maxLen at hnm;omega)
     obtain ⟨g,o,hA,hg,c1,c2,c3⟩:=zarc_at (HRD.out.quiet (HT2.out.then HT.out)).rd HLEN.out i hin
     subst hA
     have hsu:=lowZ_succ l0 arcs i (by rw [HLEN.out];exact hin)
     rw [← HLO.out] at hsu
     have hlb:labZ arcs (i+1)=(arcs.getD i (0,0,0)).1:=rfl
     obtain ⟨⟨la,ao,tt⟩,hz⟩:∃ z,arcs.getD i (0,0,0)=z:=⟨_,rfl⟩
     have hok:=okJ_succ (num:=num) (out:=out) (by rw [HLEN.out];exact hin) hz
     rw [hz] at c1 c2 c3 hsu hlb
     simp only at c1 c2 c3 hsu hlb
     obtain ⟨tx,tv,wv,hwv,hTx,hWd⟩:=label_any la
     have hcs:∃ v:Bool,Hid (okB num out arcs (i+1) v)∧((v=false∧b=false)∨(v=false∧b=true∧¬ lab<la)∨(v=false∧b=true∧lab<la∧wv=false)∨(v=false∧b=true∧lab<la∧wv=true∧¬ 0≤tt) ∨
       (v=false∧b=true∧lab<la∧wv=true∧0≤tt∧¬ tt<(num:Int))∨(v=false∧b=true∧lab<la∧wv=true∧0≤tt∧tt<(num:Int)∧¬ 0≤ao)∨(v=false∧b=true∧lab<la∧wv=true∧0≤tt∧tt<(num:Int)∧0≤ao∧¬ ao≤1048576) ∨
       (v=true∧b=true∧lab<la∧wv=true∧0≤tt∧tt<(num:Int)∧0≤ao∧ao≤1048576)):=by
      have hbo:=HB.out
      unfold okB at hbo
      rw [← hbo,← HLB.out,← hwv] at hok
      refine ⟨decide (b=true∧lab<la∧wv=true∧0≤tt∧tt<(num:Int)∧0≤ao∧ao≤1048576),hide (by unfold okB;rw [hok,decide_eq_true_iff]),?_⟩
      cases b with
      | false=>exact .inl ⟨by simp,rfl⟩
      | true =>
       by_cases d1:lab<la
       ·cases wv with
        | false=>exact .inr (.inr (.inl ⟨by simp,rfl,d1,rfl⟩))
        | true =>
         by_cases d2:0≤tt
         ·by_cases d3:tt<(num:Int)
          ·by_cases d4:0≤ao
           ·by_cases d5:ao≤1048576
            ·exact .inr (.inr (.inr (.inr (.inr (.inr (.inr ⟨by simp [d1,d2,d3,d4,d5],rfl,d1,rfl,d2,d3,d4,d5⟩))))))
            ·exact .inr (.inr (.inr (.inr (.inr (.inr (.inl ⟨by simp [d5],rfl,d1,rfl,d2,d3,d4,d5⟩))))))
           ·exact .inr (.inr (.inr (.inr (.inr (.inl ⟨by simp [d4],rfl,d1,rfl,d2,d3,d4⟩)))))
          ·exact .inr (.inr (.inr (.inr (.inl ⟨by simp [d3],rfl,d1,rfl,d2,d3⟩))))
         ·exact .inr (.inr (.inr (.inl ⟨by simp [d2],rfl,d1,rfl,d2⟩)))
       ·exact .inr (.inl ⟨by simp [d1],rfl,d1⟩)
     obtain ⟨v,HV,hcs⟩:=hcs
     have HSU:=hide hsu
     have HLB2:=hide hlb
     have HTX:=hide hTx
     have HWD:=hide hWd
     have HIN:=hide hin
     clear hsu hlb hz hok hwv hTx hWd hin hi HB
     obtain ⟨w5,hw5⟩:∃ x,x=(wr.alloc (.cells #[.int .i32 la,.int .i64 ao,.int .i64 tt] 173)).alloc (.cells #[.int .i32 la] 21):=⟨_,rfl⟩
     have hb5:Blk w5 wr.heap.size 173 #[.int .i32 la,.int .i64 ao,.int .i64 tt]:=by rw [hw5];exact (Blk.new _ _ _).alloc _
     have hr5:Reads w5 1 (some ⟨wr.heap.size+1,0,none⟩) 1 [.int .i32 la]:=by
      have:=Reads.new (size:=1) (wr.alloc (.cells #[.int .i32 la,.int .i64 ao,.int .i64 tt] 173)) 21 [.int .i32 la] 1 rfl
      rw [hw5]
      simpa using this
     have hT5:Touch (fun _=>False) wr w5:=by rw [hw5];exact ((Touch.refl _ _).alloc _).alloc _
     have HB5:=hide hb5
     have HR5:=hide hr5
     have HT5:=hide hT5
     have HW5:=hide hw5
     clear hb5 hr5 hT5 hw5
     rcases hcs with ⟨rfl,rfl⟩ | ⟨rfl,rfl,d1⟩ | ⟨rfl,rfl,d1,rfl⟩ | ⟨rfl,rfl,d1,rfl,d2⟩ | ⟨rfl,rfl,d1,rfl,d2,d3⟩ | ⟨rfl,rfl,d1,rfl,d2,d3,d4⟩ | ⟨rfl,rfl,d1,rfl,d2,d3,d4,d5⟩ | ⟨rfl,rfl,d1,rfl,d2,d3,d4,d5⟩
     all_goals
      go_wp2_with (first
       | (go_at_call 93;rw [← HW5.out];refine (HTX.out w5 _ (HL.out.touch (HT2.out.then (HT.out.then HT5.out))) HR5.out).mono ?_;rintro e w6 ⟨rfl,T6⟩;have HT6:=hide T6;have hb:=HB5.out.touch T6 (fun f=>f);obtain ⟨x0,x1,x2⟩:=hb.facts;have HB6:=hide hb;clear T6 hb)
       | (go_at_call 78;refine (HWD.out _ (HL.out.touch (HT2.out.then (HT.out.then (HT5.out.then HT6.out))))).mono ?_;rintro e w7 ⟨rfl,T7⟩;have HT7:=hide T7;have hb:=HB6.out.touch T7 (fun f=>f);obtain ⟨x3,x4,x5⟩:=hb.facts;have HB7:=hide hb;clear T7 hb))
      go_roundw
      ·refine ⟨i+1,_,_,la,rfl,rfl,rfl,by simp,by have:=HIN.out;omega,hide ?_,hide HLB2.out.symm,?_,hide (HT.out.then (HT5.out.then ?_))⟩
       ·rw [HSU.out]
        split<;>omega
       ·first
        | exact HV
        | (rw [show decide (ao≤1048576)=false by simp;omega];exact HV)
       ·first
        | exact HT6.out.then HT7.out
        | exact HT6.out
      ·have:=HIN.out
       simp only [intOf];omega
    ·have hie:i=n:=by omega
     have y1:¬ (i:Int)<(n:Int):=by omega
     have hres:∃ q:Bool,q=(lo == 0)∧((b && q)=true↔FZ):=by
      refine ⟨_,rfl,?_⟩
      have hbo:=HB.out
      unfold okB at hbo
      rw [HIFF.out,Bool.and_eq_true,hbo,hie]
      simp only [beq_iff_eq]
      rw [HLO.out,HL0.out,hie]
      constructor
      ·rintro ⟨h1,h2⟩
       exact ⟨HF0.out,h1,h2⟩
      ·rintro ⟨_,h1,h2⟩
       exact ⟨h1,h2⟩
     obtain ⟨q,hq,hres⟩:=hres
     have HRES:=hide hres
     have hq':(lo == 0)=q:=hq.symm
     clear hq hres hie hi hin HB HLO
     cases b<;>cases q
     all_goals
      go_wp2_with fail
      go_ret
      exact ⟨.mk _ HRES.out,HT2.out.then HT.out⟩
end
end Go.Proofs.YthockgmbooefpaaGreatDoor
namespace Go.Proofs.YthockgmbooefpaaGreatDoor
open Go.RowKit
variable [Inhabited BaseT]
def SumB (U:List S3) (z:StP):Prop:=∀ j,(0≤(sumP U z j).1∧(sumP U z j).1≤4096)∧(0≤(sumP U z j).2.1∧(sumP U z j).2.1≤24)∧(0≤(sumP U z j).2.2∧(sumP U z j).2.2≤1048576)
def SumE (U:List S3) (N:Nat) (z:StP):Prop:=∀ a∈z.arcs,a.2.2<N∧(0≤a.2.1∧a.2.1≤1048576)∧(0≤(U.getD a.2.2 z3).1∧(U.getD a.2.2 z3).1≤4096)∧(0≤(U.getD a.2.2 z3).2.1∧(U.getD a.2.2 z3).2.1≤24)∧(0≤(U.getD a.2.2 z3).2.2∧(U.getD a.2.2 z3).2.2≤1048576)
theorem sumP_ge {U:List S3} {N:Nat} {z:StP} (hE:SumE U N z):∀ i j,i≤j→(sumP U z i).1≤(sumP U z j).1∧(sumP U z i).2.1≤(sumP U z j).2.1∧(sumP U z i).2.2≤(sumP U z j).2.2:=by
 intro i j hij
 induction j with
 | zero =>
  have e:i=0:=by omega
  subst e
  omega
 | succ j ih =>
  by_cases e:i=j+1
  ·subst e
   omega
  ·have h:=ih (by omega)
   by_cases hj:j<z.arcs.length
   ·have he:=hE _ (getD_mem z.arcs (0,0,0) j hj)
    rw [sumP_succ U z j hj]
    simp only [sumStep]
    omega
   ·have e2:sumP U z (j+1)=sumP U z j:=by
     unfold sumP
     rw [List.take_of_length_le (by omega),List.take_of_length_le (by omega)]
    rw [e2]
    exact h
theorem sumP_low {U:List S3} {N:Nat} {z:StP} (hE:SumE U N z) (ho:0≤z.out) (j:Nat):0≤(sumP U z j).1∧0≤(sumP U z j).2.1∧0≤(sumP U z j).2.2:=by
 have h:=sumP_ge hE 0 j (Nat.zero_le _)
 rw [sumP_zero] at h
 simp only at h
 have:(0:Int)≤if z.fin=true then 1 else 0:=by split<;>omega
 omega
theorem sumP_top {U:List S3} {z:StP} {j:Nat} (h:z.arcs.length≤j):sumP U z j=sumP U z z.arcs.length:=by
 unfold sumP
 rw [List.take_of_length_le h,List.take_length]
theorem SumB_of {U:List S3} {N:Nat} {z:StP} (hE:SumE U N z) (ho:0≤z.out) (h:(sumP U z z.arcs.length).1≤4096∧(sumP U z z.arcs.length).2.1≤24∧(sumP U z z.arcs.length).2.2≤1048576):SumB U z:=by
 intro j
 have h1:=sumP_low hE ho j
 have h2:(sumP U z j).1≤(sumP U z z.arcs.length).1∧(sumP U z j).2.1≤(sumP U z z.arcs.length).2.1∧(sumP U z j).2.2≤(sumP U z z.arcs.length).2.2:=by
  by_cases hj:j≤z.arcs.length
  ·exact sumP_ge hE j _ hj
  ·rw [sumP_top (by omega)]
   omega
 omega
def SumPost (U:List S3) (z:StP) (e:Ending):Prop :=
 (SumB U z∧e=.returned (.tuple #[.agg #[.int .i64 (sumP U z z.arcs.length).1,.int .i64 (sumP U z z.arcs.length).2.1,.int .i64 (sumP U z z.arcs.length).2.2],.bool true])) ∨
 (¬ SumB U z∧∃ a b c:Int,e=.returned (.tuple #[.agg #[.int .i64 a,.int .i64 b,.int .i64 c],.bool false]))
theorem sum_early {wr:World} {X Y:Nat} (hb:Blk wr Y 243 #[.int .i64 0,.int .i64 0,.int .i64 0]) (hne:Y≠X) (a b c d e f:Value) (o1 o2:Obj) :
  ((((((((wr.setCell ⟨X,0,none⟩ a).setCell ⟨X,1,none⟩ b).setCell ⟨X,2,none⟩ c).setCell ⟨Y,0,none⟩ d).setCell ⟨Y,1,none⟩ e).setCell ⟨Y,2,none⟩ f).alloc o1).alloc o2).cell? ⟨Y,0,none⟩=some d ∧
  ((((((((wr.setCell ⟨X,0,none⟩ a).setCell ⟨X,1,none⟩ b).setCell ⟨X,2,none⟩ c).setCell ⟨Y,0,none⟩ d).setCell ⟨Y,1,none⟩ e).setCell ⟨Y,2,none⟩ f).alloc o1).alloc o2).cell? ⟨Y,1,none⟩=some e ∧
  ((((((((wr.setCell ⟨X,0,none⟩ a).setCell ⟨X,1,none⟩ b).setCell ⟨X,2,none⟩ c).setCell ⟨Y,0,none⟩ d).setCell ⟨Y,1,none⟩ e).setCell ⟨Y,2,none⟩ f).alloc o1).alloc o2).cell? ⟨Y,2,none⟩=some f:=by
 have h:=(((((((hb.far (p:=⟨X,0,none⟩) hne a).far (p:=⟨X,1,none⟩) hne b).far (p:=⟨X,2,none⟩) hne c).set_ 0 d).set_ 1 e).set_ 2 f).alloc o1).alloc o2
 exact ⟨h.cell 0,h.cell 1,h.cell 2⟩
theorem sum_early_touch {w wr:World} {X Y:Nat} (T:Touch (fun _=>False) w wr) (hX:w.heap.size≤X) (hY:w.heap.size≤Y) (a b c d e f:Value) (o1 o2:Obj) :
  Touch (fun _=>False) w ((((((((wr.setCell ⟨X,0,none⟩ a).setCell ⟨X,1,none⟩ b).setCell ⟨X,2,none⟩ c).setCell ⟨Y,0,none⟩ d).setCell ⟨Y,1,none⟩ e).setCell ⟨Y,2,none⟩ f).alloc o1).alloc o2):=by
 refine Touch.alloc (Touch.alloc ?_ _) _
 iterate 3 refine Touch.setCell ?_ (fun h=>by simp only at h;omega) _
 iterate 3 refine Touch.setCell ?_ (fun h=>by simp only at h;omega) _
 exact T
theorem gsum_any (w:World) (z:SV) (hz:z.Od w) (U:List S3) (uA:Option Addr) (N uc:Nat) (hU:RdT w 243 3 uA N (uCells U)) (hUl:U.length=N) (_:N≤1000000) (ho:0≤z.out∧z.out≤1048576) (hE:SumE U N z.p) :
  Calls Tryz.prog 139 #[.agg #[.bool z.fin,.int .i64 z.out,.slice z.A z.n z.c],.slice uA N uc] w fun e w'=>SumPost U z.p e∧Touch (fun _=>False) w w':=by
 have hlow:=sumP_low hE ho.1
 have hge:=sumP_ge hE
 have hsb:=SumB_of hE ho.1
 obtain ⟨fin,out,aA,n,ac,arcs⟩:=z
 obtain ⟨hlen,hrd,hle,hmx⟩:=hz
 simp only [SV.p] at *
 have hnm:n≤maxLen:=Nat.le_trans hle hmx
 have HU:=hide hU
 have HUL:=hide hUl
 have HRD:=hide hrd
 have HLEN:=hide hlen
 have HE:=hide hE
 rw [hlen] at hsb
 have HLOW:=hide hlow
 have HGE:=hide hge
 have HSB:=hide hsb
 have HO:=hide ho
 clear hU hrd hlen hE hle hmx hUl hlow hge hsb ho
 go_enter Tryz.func139,Tryz.ntmps139
 obtain ⟨x0,hx0⟩:∃ x0:Int,x0=if fin=true then 1 else 0:=⟨_,rfl⟩
 have hcase:(fin=true∧x0=1)∨(fin=false∧x0=0):=by
  cases fin
  ·exact .inr ⟨rfl,by rw [hx0];rfl⟩
  ·exact .inl ⟨rfl,by rw [hx0];rfl⟩
 obtain ⟨Z,hZ⟩:∃ Z:StP,(⟨fin,out,arcs⟩:StP)=Z:=⟨_,rfl⟩
 have HZ0:Hid (sumP U Z 0=(x0,0,out)):=hide (by rw [sumP_zero,← hZ,hx0])
 have HZA:Hid (Z.arcs=arcs):=hide (by rw [← hZ])
 rw [hZ] at HE HLOW HGE HSB ⊢
 clear hx0 hZ
 rcases hcase with ⟨rfl,hx⟩ | ⟨rfl,hx⟩
 ·subst hx
  go_wp2_with fail
  obtain ⟨w3,hw3⟩:∃ x,x=((w.alloc (.cells #[.bool true,.int .i64 out,.slice aA n ac] 170)).alloc (.cells #[.int .i64 0,.int .i64 0,.int .i64 0] 243)).alloc (.cells #[.int .i64 1,.int .i64 0,.int .i64 out] 243):=⟨_,rfl⟩
  obtain ⟨X,hX⟩:∃ X,X=w.heap.size+1+1:=⟨_,rfl⟩
  obtain ⟨Y,hY⟩:∃ Y,Y=w.heap.size+1:=⟨_,rfl⟩
  have hT3:Touch (fun _=>False) w w3:=by
   rw [hw3]
   exact ((((Touch.refl _ _).alloc _).alloc _).alloc _)
  have hbX:Blk w3 X 243 #[.int .i64 1,.int .i64 0,.int .i64 out]:=by
   rw [hw3,hX]
   have h:=Blk.new ((w.alloc (.cells #[.bool true,.int .i64 out,.slice aA n ac] 170)).alloc (.cells #[.int .i64 0,.int .i64 0,.int .i64 0] 243)) 243 #[.int .i64 1,.int .i64 0,.int .i64 out]
   simpa using h
  have hbY:Blk w3 Y 243 #[.int .i64 0,.int .i64 0,.int .i64 0]:=by
   rw [hw3,hY]
   have h:=(Blk.new (w.alloc (.cells #[.bool true,.int .i64 out,.slice aA n ac] 170)) 243 #[.int .i64 0,.int .i64 0,.int .i64 0]).alloc (.cells #[.int .i64 1,.int .i64 0,.int .i64 out] 243)
   simpa using h
  rw [← hw3,← hX]
  try rw [← hY]
  have HT3:=hide hT3
  have HXL:=hide (show w.heap.size≤X by omega)
  have HXY:=hide (show Y≠X by omega)
  have HYL:=hide (show w.heap.size≤Y by omega)
  have HBX:=hide hbX
  have HBY:=hide hbY
  clear hw3 hT3 hbX hbY hX hY
  go_loopw [19] (fun iv wr=>∃ (i:Nat) (x1 x2 x3:Int),iv=.int .i64 i∧i≤n∧x1≤4096∧Hid ((x1,x2,x3)=sumP U Z i)∧x2≤25∧x3≤2097152∧Hid (Blk wr X 243 #[.int .i64 x1,.int .i64 x2,.int .i64 x3])∧Hid (Touch (fun g=>g=X) w3 wr)) (fun iv _=>n-(intOf iv).toNat)
  case atStart=>exact ⟨0,1,0,out,rfl,by omega,by omega,hide (by rw [HZ0.out]),by omega,by have:=HO.out;omega,HBX,hide (Touch.refl _ _)⟩
  case round =>
   obtain ⟨i,x1,x2,x3,rfl,hi,b2,HP,b4,b6,HX,HT⟩:=hrel
   have hlo:=HLOW.out i
   rw [← HP.out] at hlo
   simp only at hlo
   obtain ⟨b1,b3,b5⟩:=hlo
   have hq:Touch (fun _=>False) w wr:=HT3.out.trans HT.out (fun g hg e=>by have:=HXL.out;omega)
   by_cases hin:i<n
   ·have y1:(i:Int)<(n:Int):=by omega
    have y2:(0:Int)≤(i:Int):=by omega
    have z2:IntKind.i64.wrap ((i:Int)+1)=(i:Int)+1:=IntWalk.i64_in _ (by unfold maxLen at hnm;omega)
    obtain ⟨g,o,hA,hg,c1,c2,c3⟩:=arc_at (HRD.out.quiet hq).rd HLEN.out i hin
    subst hA
    have hmem:=getD_mem arcs (0,0,0) i (by rw [HLEN.out];exact hin)
    have he:=HE.out _ (by rw [HZA.out];exact hmem)
    have hsu:=sumP_succ U Z i (by rw [HZA.out,HLEN.out];exact hin)
    rw [← HP.out,HZA.out] at hsu
    obtain ⟨⟨la,ao,tt⟩,hz⟩:∃ z,arcs.getD i (0,0,0)=z:=⟨_,rfl⟩
    rw [hz] at c1 c2 c3 he hsu
    simp only [sumStep] at c1 c2 c3 he hsu
    obtain ⟨g2,o2,hA2,hg2,d1,d2,d3⟩:=sum_at (HU.out.quiet hq).rd HUL.out tt he.1
    subst hA2
    obtain ⟨⟨u1,u2,u3⟩,hu⟩:∃ z,U.getD tt z3=z:=⟨_,rfl⟩
    rw [hu] at d1 d2 d3 he hsu
    simp only at d1 d2 d3 he hsu
    obtain ⟨e0,⟨e1,e2⟩,⟨e3,e4⟩,⟨e5,e6⟩,⟨e7,e8⟩⟩:=he
    have HSU:=hide hsu
    have y3:(0:Int)≤(tt:Int):=by omega
    have y4:(tt:Int)<(N:Int):=by omega
    have k1:IntKind.i64.wrap (x1+u1)=x1+u1:=IntWalk.i64_in _ (by omega)
    have k2:IntKind.i64.wrap (u2+1)=u2+1:=IntWalk.i64_in _ (by omega)
    have k3:IntKind.i64.wrap (ao+u3)=ao+u3:=IntWalk.i64_in _ (by omega)
    obtain ⟨q1,q2,q3⟩:=HX.out.facts
    have hby:=HBY.out.touch HT.out HXY.out
    have HBY2:=hide hby
    obtain ⟨r1,r2,r3⟩:=hby.facts
    have HQ:=hide hq
    clear hmem hsu hz hu e0 hq hby
    by_cases j0:(4096:Int)<x1+u1
    ·have hno:¬ SumB U Z:=fun h=>by
      have h1:=h (i+1)
      rw [HSU.out] at h1
      have:=h1.1.2
      simp only at this
      omega
     have HNO:=hide hno
     have HE9:=hide (sum_early HBY2.out HXY.out)
     have HT9:=hide (sum_early_touch HQ.out HXL.out HYL.out)
     clear hno
     have hxy1:¬ X=Y:=fun e=>HXY.out e.symm
     have hxy2:¬ Y=X:=HXY.out
     go_wp2_with fail
     ·exact bodyPost_ret (v:=.tuple #[.agg #[.int .i64 (x1+u1),.int .i64 (u2+1),.int .i64 (ao+u3)],.bool false]) (by simp [results,Tryz.results139,go_sem,HE9.out]) rfl ⟨.inr ⟨HNO.out,_,_,_,rfl⟩,HT9.out _ _ _ _ _ _ _ _⟩
     ·exact bodyPost_ret (v:=.tuple #[.agg #[.int .i64 (x1+u1),.int .i64 (u2+1),.int .i64 x3],.bool false]) (by simp [results,Tryz.results139,go_sem,HE9.out]) rfl ⟨.inr ⟨HNO.out,_,_,_,rfl⟩,HT9.out _ _ _ _ _ _ _ _⟩
     ·exact bodyPost_ret (v:=.tuple #[.agg #[.int .i64 (x1+u1),.int .i64 x2,.int .i64 (ao+u3)],.bool false]) (by simp [results,Tryz.results139,go_sem,HE9.out]) rfl ⟨.inr ⟨HNO.out,_,_,_,rfl⟩,HT9.out _ _ _ _ _ _ _ _⟩
     ·exact bodyPost_ret (v:=.tuple #[.agg #[.int .i64 (x1+u1),.int .i64 x2,.int .i64 x3],.bool false]) (by simp [results,Tryz.results139,go_sem,HE9.out]) rfl ⟨.inr ⟨HNO.out,_,_,_,rfl⟩,HT9.out _ _ _ _ _ _ _ _⟩
    ·clear r1 r2 r3
     go_wp2_with fail
     go_roundw
     ·refine ⟨i+1,_,_,_,by simp,by omega,by omega,hide ?_,?_,?_,hide (((((HX.out.set_ 0 _).set_ 1 _).set_ 2 _).alloc _).alloc _),hide (((((HT.out.setCell (fun _=>rfl) _).setCell (fun _=>rfl) _).setCell (fun _=>rfl) _).alloc _).alloc _)⟩
      ·rw [HSU.out]
       simp only [Prod.mk.injEq,true_and]
       constructor
       ·split<;>omega
       ·split<;>omega
      ·split<;>omega
      ·split<;>omega
     ·simp only [intOf];omega
   ·have hie:i=n:=by omega
    have y1:¬ (i:Int)<(n:Int):=by omega
    obtain ⟨q1,q2,q3⟩:=HX.out.facts
    have hby:=HBY.out.touch HT.out HXY.out
    obtain ⟨r1,r2,r3⟩:=hby.facts
    have HBY2:=hide hby
    have HQ:=hide hq
    have hpn:sumP U Z Z.arcs.length=(x1,x2,x3):=by rw [HP.out,HZA.out,HLEN.out,hie]
    have hpost:(x2≤24∧x3≤1048576∧SumPost U Z (.returned (.tuple #[.agg #[.int .i64 x1,.int .i64 x2,.int .i64 x3],.bool true])))∨(x2≤24∧decide (x3≤1048576)=false∧SumPost U Z (.returned (.tuple #[.agg #[.int .i64 x1,.int .i64 x2,.int .i64 x3],.bool false])))∨(decide (x2≤24)=false∧SumPost U Z (.returned (.tuple #[.agg #[.int .i64 x1,.int .i64 x2,.int .i64 x3],.bool false]))):=by
     have hs:=HSB.out
     rw [← HLEN.out,← HZA.out,hpn] at hs
     have hn:SumB U Z→x2≤24∧x3≤1048576:=fun h=>by
      have h1:=h Z.arcs.length
      rw [hpn] at h1
      exact ⟨h1.2.1.2,h1.2.2.2⟩
     by_cases h1:x2≤24
     ·by_cases h2:x3≤1048576
      ·refine .inl ⟨h1,h2,.inl ⟨hs ⟨b2,h1,h2⟩,?_⟩⟩
       rw [hpn]
      ·exact .inr (.inl ⟨h1,by simp;omega,.inr ⟨fun h=>h2 (hn h).2,_,_,_,rfl⟩⟩)
     ·exact .inr (.inr ⟨by simp;omega,.inr ⟨fun h=>h1 (hn h).1,_,_,_,rfl⟩⟩)
    clear hby hq hpn hie hin hi b4 b6
    have hxy1:¬ X=Y:=fun e=>HXY.out e.symm
    have hxy2:¬ Y=X:=HXY.out
    rcases hpost with ⟨j1,j2,hpo⟩ | ⟨j1,j2,hpo⟩ | ⟨j1,hpo⟩
    all_goals
     have HPO:=hide hpo
     clear hpo
     go_wp2_with fail
     go_region
     all_goals go_wp2
     have hbF:Blk (((wr.setCell ⟨Y,0,none⟩ (.int .i64 x1)).setCell ⟨Y,1,none⟩ (.int .i64 x2)).setCell ⟨Y,2,none⟩ (.int .i64 x3)).drew Y 243 #[.int .i64 x1,.int .i64 x2,.int .i64 x3]:=(((HBY2.out.set_ 0 _).set_ 1 _).set_ 2 _).drew
     have f0:=hbF.cell 0
     have f1:=hbF.cell 1
     have f2:=hbF.cell 2
     have hTF:Touch (fun _=>False) w (((wr.setCell ⟨Y,0,none⟩ (.int .i64 x1)).setCell ⟨Y,1,none⟩ (.int .i64 x2)).setCell ⟨Y,2,none⟩ (.int .i64 x3)).drew:=by
      refine Touch.drew ?_
      iterate 3 refine Touch.setCell ?_ (fun h=>by have:=HYL.out;simp only at h;omega) _
      exact HQ.out
     refine bodyPost_ret ?_ rfl ⟨HPO.out,hTF⟩
     simp [results,Tryz.results139,go_sem,f0,f1,f2]
     try first | done | omega
 ·subst hx
  go_wp2_with fail
  obtain ⟨w3,hw3⟩:∃ x,x=((w.alloc (.cells #[.bool false,.int .i64 out,.slice aA n ac] 170)).alloc (.cells #[.int .i64 0,.int .i64 0,.int .i64 0] 243)).alloc (.cells #[.int .i64 0,.int .i64 0,.int .i64 out] 243):=⟨_,rfl⟩
  obtain ⟨X,hX⟩:∃ X,X=w.heap.size+1+1:=⟨_,rfl⟩
  obtain ⟨Y,hY⟩:∃ Y,Y=w.heap.size+1:=⟨_,rfl⟩
  have hT3:Touch (fun _=>False) w w3:=by
   rw [hw3]
   exact ((((Touch.refl _ _).alloc _).alloc _).alloc _)
  have hbX:Blk w3 X 243 #[.int .i64 0,.int .i64 0,.int .i64 out]:=by
   rw [hw3,hX]
   have h:=Blk.new ((w.alloc (.cells #[.bool false,.int .i64 out,.slice aA n ac] 170)).alloc (.cells #[.int .i64 0,.int .i64 0,.int .i64 0] 243)) 243 #[.int .i64 0,.int .i64 0,.int .i64 out]
   simpa using h
  have hbY:Blk w3 Y 243 #[.int .i64 0,.int .i64 0,.int .i64 0]:=by
   rw [hw3,hY]
   have h:=(Blk.new (w.alloc (.cells #[.bool false,.int .i64 out,.slice aA n ac] 170)) 243 #[.int .i64 0,.int .i64 0,.int .i64 0]).alloc (.cells #[.int .i64 0,.int .i64 0,.int .i64 out] 243)
   simpa using h
  rw [← hw3,← hX]
  try rw [← hY]
  have HT3:=hide hT3
  have HXL:=hide (show w.heap.size≤X by omega)
  have HXY:=hide (show Y≠X by omega)
  have HYL:=hide (show w.heap.size≤Y by omega)
  have HBX:=hide hbX
  have HBY:=hide hbY
  clear hw3 hT3 hbX hbY hX hY
  go_loopw [19] (fun iv wr=>∃ (i:Nat) (x1 x2 x3:Int),iv=.int .i64 i∧i≤n∧x1≤4096∧Hid ((x1,x2,x3)=sumP U Z i)∧x2≤25∧x3≤2097152∧Hid (Blk wr X 243 #[.int .i64 x1,.int .i64 x2,.int .i64 x3])∧Hid (Touch (fun g=>g=X) w3 wr)) (fun iv _=>n-(intOf iv).toNat)
  case atStart=>exact ⟨0,0,0,out,rfl,by omega,by omega,hide (by rw [HZ0.out]),by omega,by have:=HO.out;omega,HBX,hide (Touch.refl _ _)⟩
  case round =>
   obtain ⟨i,x1,x2,x3,rfl,hi,b2,HP,b4,b6,HX,HT⟩:=hrel
   have hlo:=HLOW.out i
   rw [← HP.out] at hlo
   simp only at hlo
   obtain ⟨b1,b3,b5⟩:=hlo
   have hq:Touch (fun _=>False) w wr:=HT3.out.trans HT.out (fun g hg e=>by have:=HXL.out;omega)
   by_cases hin:i<n
   ·have y1:(i:Int)<(n:Int):=by omega
    have y2:(0:Int)≤(i:Int):=by omega
    have z2:IntKind.i64.wrap ((i:Int)+1)=(i:Int)+1:=IntWalk.i64_in _ (by unfold maxLen at hnm;omega)
    obtain ⟨g,o,hA,hg,c1,c2,c3⟩:=arc_at (HRD.out.quiet hq).rd HLEN.out i hin
    subst hA
    have hmem:=getD_mem arcs (0,0,0) i (by rw [HLEN.out];exact hin)
    have he:=HE.out _ (by rw [HZA.out];exact hmem)
    have hsu:=sumP_succ U Z i (by rw [HZA.out,HLEN.out];exact hin)
    rw [← HP.out,HZA.out] at hsu
    obtain ⟨⟨la,ao,tt⟩,hz⟩:∃ z,arcs.getD i (0,0,0)=z:=⟨_,rfl⟩
    rw [hz] at c1 c2 c3 he hsu
    simp only [sumStep] at c1 c2 c3 he hsu
    obtain ⟨g2,o2,hA2,hg2,d1,d2,d3⟩:=sum_at (HU.out.quiet hq).rd HUL.out tt he.1
    subst hA2
    obtain ⟨⟨u1,u2,u3⟩,hu⟩:∃ z,U.getD tt z3=z:=⟨_,rfl⟩
    rw [hu] at d1 d2 d3 he hsu
    simp only at d1 d2 d3 he hsu
    obtain ⟨e0,⟨e1,e2⟩,⟨e3,e4⟩,⟨e5,e6⟩,⟨e7,e8⟩⟩:=he
    have HSU:=hide hsu
    have y3:(0:Int)≤(tt:Int):=by omega
    have y4:(tt:Int)<(N:Int):=by omega
    have k1:IntKind.i64.wrap (x1+u1)=x1+u1:=IntWalk.i64_in _ (by omega)
    have k2:IntKind.i64.wrap (u2+1)=u2+1:=IntWalk.i64_in _ (by omega)
    have k3:IntKind.i64.wrap (ao+u3)=ao+u3:=IntWalk.i64_in _ (by omega)
    obtain ⟨q1,q2,q3⟩:=HX.out.facts
    have hby:=HBY.out.touch HT.out HXY.out
    have HBY2:=hide hby
    obtain ⟨r1,r2,r3⟩:=hby.facts
    have HQ:=hide hq
    clear hmem hsu hz hu e0 hq hby
    by_cases j0:(4096:Int)<x1+u1
    ·have hno:¬ SumB U Z:=fun h=>by
      have h1:=h (i+1)
      rw [HSU.out] at h1
      have:=h1.1.2
      simp only at this
      omega
     have HNO:=hide hno
     have HE9:=hide (sum_early HBY2.out HXY.out)
     have HT9:=hide (sum_early_touch HQ.out HXL.out HYL.out)
     clear hno
     have hxy1:¬ X=Y:=fun e=>HXY.out e.symm
     have hxy2:¬ Y=X:=HXY.out
     go_wp2_with fail
     ·exact bodyPost_ret (v:=.tuple #[.agg #[.int .i64 (x1+u1),.int .i64 (u2+1),.int .i64 (ao+u3)],.bool false]) (by simp [results,Tryz.results139,go_sem,HE9.out]) rfl ⟨.inr ⟨HNO.out,_,_,_,rfl⟩,HT9.out _ _ _ _ _ _ _ _⟩
     ·exact bodyPost_ret (v:=.tuple #[.agg #[.int .i64 (x1+u1),.int .i64 (u2+1),.int .i64 x3],.bool false]) (by simp [results,Tryz.results139,go_sem,HE9.out]) rfl ⟨.inr ⟨HNO.out,_,_,_,rfl⟩,HT9.out _ _ _ _ _ _ _ _⟩
     ·exact bodyPost_ret (v:=.tuple #[.agg #[.int .i64 (x1+u1),.int .i64 x2,.int .i64 (ao+u3)],.bool false]) (by simp [results,Tryz.results139,go_sem,HE9.out]) rfl ⟨.inr ⟨HNO.out,_,_,_,rfl⟩,HT9.out _ _ _ _ _ _ _ _⟩
     ·exact bodyPost_ret (v:=.tuple #[.agg #[.int .i64 (x1+u1),.int .i64 x2,.int .i64 x3],.bool false]) (by simp [results,Tryz.results139,go_sem,HE9.out]) rfl ⟨.inr ⟨HNO.out,_,_,_,rfl⟩,HT9.out _ _ _ _ _ _ _ _⟩
    ·clear r1 r2 r3
     go_wp2_with fail
     go_roundw
     ·refine ⟨i+1,_,_,_,by simp,by omega,by omega,hide ?_,?_,?_,hide (((((HX.out.set_ 0 _).set_ 1 _).set_ 2 _).alloc _).alloc _),hide (((((HT.out.setCell (fun _=>rfl) _).setCell (fun _=>rfl) _).setCell (fun _=>rfl) _).alloc _).alloc _)⟩
      ·rw [HSU.out]
       simp only [Prod.mk.injEq,true_and]
       constructor
       ·split<;>omega
       ·split<;>omega
      ·split<;>omega
      ·split<;>omega
     ·simp only [intOf];omega
   ·have hie:i=n:=by omega
    have y1:¬ (i:Int)<(n:Int):=by omega
    obtain ⟨q1,q2,q3⟩:=HX.out.facts
    have hby:=HBY.out.touch HT.out HXY.out
    obtain ⟨r1,r2,r3⟩:=hby.facts
    have HBY2:=hide hby
    have HQ:=hide hq
    have hpn:sumP U Z Z.arcs.length=(x1,x2,x3):=by rw [HP.out,HZA.out,HLEN.out,hie]
    have hpost:(x2≤24∧x3≤1048576∧SumPost U Z (.returned (.tuple #[.agg #[.int .i64 x1,.int .i64 x2,.int .i64 x3],.bool true])))∨(x2≤24∧decide (x3≤1048576)=false∧SumPost U Z (.returned (.tuple #[.agg #[.int .i64 x1,.int .i64 x2,.int .i64 x3],.bool false])))∨(decide (x2≤24)=false∧SumPost U Z (.returned (.tuple #[.agg #[.int .i64 x1,.int .i64 x2,.int .i64 x3],.bool false]))):=by
     have hs:=HSB.out
     rw [← HLEN.out,← HZA.out,hpn] at hs
     have hn:SumB U Z→x2≤24∧x3≤1048576:=fun h=>by
      have h1:=h Z.arcs.length
      rw [hpn] at h1
      exact ⟨h1.2.1.2,h1.2.2.2⟩
     by_cases h1:x2≤24
     ·by_cases h2:x3≤1048576
      ·refine .inl ⟨h1,h2,.inl ⟨hs ⟨b2,h1,h2⟩,?_⟩⟩
       rw [hpn]
      ·exact .inr (.inl ⟨h1,by simp;omega,.inr ⟨fun h=>h2 (hn h).2,_,_,_,rfl⟩⟩)
     ·exact .inr (.inr ⟨by simp;omega,.inr ⟨fun h=>h1 (hn h).1,_,_,_,rfl⟩⟩)
    clear hby hq hpn hie hin hi b4 b6
    have hxy1:¬ X=Y:=fun e=>HXY.out e.symm
    have hxy2:¬ Y=X:=HXY.out
    rcases hpost with ⟨j1,j2,hpo⟩ | ⟨j1,j2,hpo⟩ | ⟨j1,hpo⟩
    all_goals
     have HPO:=hide hpo
     clear hpo
     go_wp2_with fail
     go_region
     all_goals go_wp2
     have hbF:Blk (((wr.setCell ⟨Y,0,none⟩ (.int .i64 x1)).setCell ⟨Y,1,none⟩ (.int .i64 x2)).setCell ⟨Y,2,none⟩ (.int .i64 x3)).drew Y 243 #[.int .i64 x1,.int .i64 x2,.int .i64 x3]:=(((HBY2.out.set_ 0 _).set_ 1 _).set_ 2 _).drew
     have f0:=hbF.cell 0
     have f1:=hbF.cell 1
     have f2:=hbF.cell 2
     have hTF:Touch (fun _=>False) w (((wr.setCell ⟨Y,0,none⟩ (.int .i64 x1)).setCell ⟨Y,1,none⟩ (.int .i64 x2)).setCell ⟨Y,2,none⟩ (.int .i64 x3)).drew:=by
      refine Touch.drew ?_
      iterate 3 refine Touch.setCell ?_ (fun h=>by have:=HYL.out;simp only at h;omega) _
      exact HQ.out
     refine bodyPost_ret ?_ rfl ⟨HPO.out,hTF⟩
     simp [results,Tryz.results139,go_sem,f0,f1,f2]
     try first | done | omega
end Go.Proofs.YthockgmbooefpaaGreatDoor
