/- What the law rests on, part 12. No condition but those that each theorem names. -/
import Derived.Test.YthockgmbooefpaaGreatDoorJ11
import Derived.RegionTactic
import Derived.ChangeAlike
set_option linter.unusedSectionVars false
set_option linter.unusedSimpArgs false
set_option linter.unusedVariables false
namespace Go.Proofs.YthockgmbooefpaaGreatDoor
open Go.RowKit
def lowJ (l0:Int) (arcs:List (Nat × Int × Nat)) (j:Nat):Int:=(arcs.take j).foldl (fun m a=>min m a.2.1) l0
theorem lowJ_succ (l0:Int) (arcs:List (Nat × Int × Nat)) (j:Nat) (hj:j<arcs.length):lowJ l0 arcs (j+1)=min (lowJ l0 arcs j) (arcs.getD j (0,0,0)).2.1:=by
 unfold lowJ
 rw [List.take_succ_eq_append_getElem hj,List.foldl_append]
 simp [List.getD,hj]
theorem lab_next (arcs:List (Nat × Int × Nat)) (h:(arcs.map (·.1)).Pairwise (·<·)) (j:Nat) (hj:j+1<arcs.length):(arcs.getD j (0,0,0)).1<(arcs.getD (j+1) (0,0,0)).1:=by
 have:=List.pairwise_iff_getElem.1 h j (j+1) (by simp;omega) (by simp;omega) (by omega)
 simpa [List.getD,hj,show j<arcs.length by omega] using this
theorem toList_mk (l:List UInt8):(⟨l.toArray⟩:ByteArray).toList=l:=by rw [Go.ByteArray.toList_eq]
theorem word_rune (w:World) (hL:Lst w) (r:Nat) (hs:scal r=true) (hf:fitU r=true) :
  Calls Tryz.prog 78 #[.string ⟨(writeU r).toArray⟩] w fun e w'=>e=.returned (.bool true)∧Touch (fun _=>False) w w':=by
 have hl:=write_len r
 have h:=word_any w ⟨(writeU r).toArray⟩ (by show (writeU r).toArray.size≤_;rw [List.size_toArray];omega) hL
 rw [toList_mk,word_write hs hf] at h
 exact h
set_option maxRecDepth 100000 in
set_option maxHeartbeats 4000000 in
theorem formed_any (w:World) (hL:Lst w) (z:SV) (hz:z.Ok w) (num:Nat) (_:num≤1000000) (hF:FormP num z.p) :
  Calls Tryz.prog 138 #[.agg #[.bool z.fin,.int .i64 z.out,.slice z.A z.n z.c],.int .i64 num] w fun e w'=>e=.returned (.bool true)∧Touch (fun _=>False) w w':=by
 obtain ⟨fin,out,aA,n,ac,arcs⟩:=z
 obtain ⟨hlen,hrd,hle,hmx⟩:=hz
 obtain ⟨f1,f2,f3,f4,f5,f6,f7⟩:=hF
 simp only [SV.p] at *
 have hnm:n≤maxLen:=Nat.le_trans hle hmx
 have HL:=hide hL
 have HRD:=hide hrd
 have HLEN:=hide hlen
 have HF3:=hide f3
 have HF4:=hide f4
 have HF5:=hide f5
 have HF6:=hide f6
 have HF7:=hide f7
 clear hL hrd hlen f3 f4 f5 f6 f7 hle hmx
 obtain ⟨w2,hw2⟩:∃ x,x=w.alloc (.cells #[.bool fin,.int .i64 out,.slice aA n ac] 170):=⟨_,rfl⟩
 have hT2:Touch (fun _=>False) w w2:=by rw [hw2];exact (Touch.refl _ _).alloc _
 have HT2:=hide hT2
 have HW2:=hide hw2
 clear hw2 hT2
 go_enter Tryz.func138,Tryz.ntmps138
 cases fin with
 | true =>
  go_wp2_with fail
  rw [← HW2.out]
  go_loopw [5,6,7,30] (fun lv kv bv iv wr=>∃ (i:Nat) (lo:Int) (lab:Nat),lv=.int .i64 lo∧kv=.bool true∧bv=.int .i32 lab∧iv=.int .i64 i∧i≤n∧Hid (lo=lowJ out arcs i)∧Hid (i<n→lab<(arcs.getD i (0,0,0)).1)∧Hid (Touch (fun _=>False) w2 wr)) (fun _ _ _ iv _=>n-(intOf iv).toNat)
  case atStart =>
   refine ⟨0,out,32,rfl,rfl,rfl,rfl,by omega,hide rfl,hide fun hn=>?_,hide (Touch.refl _ _)⟩
   have:=(HF5.out _ (getD_mem arcs (0,0,0) 0 (by rw [HLEN.out];exact hn))).2
   unfold fitU at this
   simp only [Bool.and_eq_true,decide_eq_true_eq] at this
   exact this.1
  case round =>
   obtain ⟨i,lo,lab,rfl,rfl,rfl,rfl,hi,HLO,HLB,HT⟩:=hrel
   by_cases hin:i<n
   ·have y1:(i:Int)<(n:Int):=by omega
    have y2:(0:Int)≤(i:Int):=by omega
    have z2:IntKind.i64.wrap ((i:Int)+1)=(i:Int)+1:=IntWalk.i64_in _ (by unfold maxLen at hnm;omega)
    obtain ⟨g,o,hA,hg,c1,c2,c3⟩:=arc_at (HRD.out.quiet (HT2.out.then HT.out)).rd HLEN.out i hin
    subst hA
    have hmem:=getD_mem arcs (0,0,0) i (by rw [HLEN.out];exact hin)
    have h5:=HF5.out _ hmem
    have h6:=HF6.out _ hmem
    have hlb:=HLB.out hin
    have hsu:=lowJ_succ out arcs i (by rw [HLEN.out];exact hin)
    rw [← HLO.out] at hsu
    have hnx:i+1<n→(arcs.getD i (0,0,0)).1<(arcs.getD (i+1) (0,0,0)).1:=fun h=>lab_next arcs HF4.out i (by rw [HLEN.out];exact h)
    obtain ⟨⟨la,ao,tt⟩,hz⟩:∃ z,arcs.getD i (0,0,0)=z:=⟨_,rfl⟩
    rw [hz] at c1 c2 c3 h5 h6 hlb hsu hnx
    simp only at c1 c2 c3 h5 h6 hlb hsu hnx
    have HSU:=hide hsu
    have HNX:=hide hnx
    have hlab:(lab:Int)<(la:Int):=by omega
    have h60:(0:Int)≤ao:=h6.1
    have h61:ao≤1048576:=h6.2.1
    have h62:(0:Int)≤(tt:Int):=by omega
    have h63:(tt:Int)<(num:Int):=by omega
    have H5:=hide h5
    have hww:wordU (writeU la)=true:=word_write h5.1 h5.2
    have HWW:=hide hww
    have HSC:=hide (fun (u:World) (hu:Lst u) (h:Reads u 1 (some ⟨wr.heap.size+1,0,none⟩) 1 [.int .i32 (la:Int)])=>text_any u hu (some ⟨wr.heap.size+1,0,none⟩) 1 1 [la] h rfl (by omega) (fun r hr=>by simp only [List.mem_singleton] at hr;rw [hr];exact h5.1))
    clear hmem h5 h6 hlb hsu hnx hz hww
    obtain ⟨w5,hw5⟩:∃ x,x=(wr.alloc (.cells #[.int .i32 (la:Int),.int .i64 ao,.int .i64 (tt:Int)] 173)).alloc (.cells #[.int .i32 (la:Int)] 21):=⟨_,rfl⟩
    have hb5:Blk w5 wr.heap.size 173 #[.int .i32 (la:Int),.int .i64 ao,.int .i64 (tt:Int)]:=by rw [hw5];exact (Blk.new _ _ _).alloc _
    have hr5:Reads w5 1 (some ⟨wr.heap.size+1,0,none⟩) 1 [.int .i32 (la:Int)]:=by
     have:=Reads.new (size:=1) (wr.alloc (.cells #[.int .i32 (la:Int),.int .i64 ao,.int .i64 (tt:Int)] 173)) 21 [.int .i32 (la:Int)] 1 rfl
     rw [hw5]
     simpa using this
    have hT5:Touch (fun _=>False) wr w5:=by rw [hw5];exact ((Touch.refl _ _).alloc _).alloc _
    have HB5:=hide hb5
    have HR5:=hide hr5
    have HT5:=hide hT5
    have HW5:=hide hw5
    clear hb5 hr5 hT5 hw5
    go_wp2_with (first
     | (go_at_call 93;rw [← HW5.out];refine (HSC.out w5 (HL.out.touch (HT2.out.then (HT.out.then HT5.out))) HR5.out).mono ?_;rintro e w6 ⟨rfl,T6⟩;have HT6:=hide T6;have hb:=HB5.out.touch T6 (fun f=>f);obtain ⟨x0,x1,x2⟩:=hb.facts;have HB6:=hide hb;clear T6 hb)
     | (go_at_call 78;refine (word_rune _ (HL.out.touch (HT2.out.then (HT.out.then (HT5.out.then HT6.out)))) la H5.out.1 H5.out.2).mono ?_;rintro e w7 ⟨rfl,T7⟩;have HT7:=hide T7;have hb:=HB6.out.touch T7 (fun f=>f);obtain ⟨x3,x4,x5⟩:=hb.facts;have HB7:=hide hb;clear T7 hb))
    go_roundw
    ·refine ⟨i+1,_,la,rfl,rfl,rfl,by simp,by omega,hide ?_,hide HNX.out,hide (HT.out.then (HT5.out.then (HT6.out.then HT7.out)))⟩
     rw [HSU.out]
     try (split<;>omega)
    ·simp only [intOf];omega
   ·have hie:i=n:=by omega
    subst hie
    have hlow:lo=0:=by
     rw [HLO.out,← HF7.out]
     unfold lowJ lowP
     rw [List.take_of_length_le (by rw [HLEN.out];exact Nat.le_refl _)]
     try rfl
    subst hlow
    go_wp2_with fail
    go_ret
    exact ⟨rfl,HT2.out.then HT.out⟩
 | false =>
  have h0:out=0:=HF3.out rfl
  subst h0
  go_wp2_with fail
  rw [← HW2.out]
  go_loopw [5,6,7,30] (fun lv kv bv iv wr=>∃ (i:Nat) (lo:Int) (lab:Nat),lv=.int .i64 lo∧kv=.bool true∧bv=.int .i32 lab∧iv=.int .i64 i∧i≤n∧Hid (lo=lowJ 1048577 arcs i)∧Hid (i<n→lab<(arcs.getD i (0,0,0)).1)∧Hid (Touch (fun _=>False) w2 wr)) (fun _ _ _ iv _=>n-(intOf iv).toNat)
  case atStart =>
   refine ⟨0,1048577,32,rfl,rfl,rfl,rfl,by omega,hide rfl,hide fun hn=>?_,hide (Touch.refl _ _)⟩
   have:=(HF5.out _ (getD_mem arcs (0,0,0) 0 (by rw [HLEN.out];exact hn))).2
   unfold fitU at this
   simp only [Bool.and_eq_true,decide_eq_true_eq] at this
   exact this.1
  case round =>
   obtain ⟨i,lo,lab,rfl,rfl,rfl,rfl,hi,HLO,HLB,HT⟩:=hrel
   by_cases hin:i<n
   ·have y1:(i:Int)<(n:Int):=by omega
    have y2:(0:Int)≤(i:Int):=by omega
    have z2:IntKind.i64.wrap ((i:Int)+1)=(i:Int)+1:=IntWalk.i64_in _ (by unfold maxLen at hnm;omega)
    obtain ⟨g,o,hA,hg,c1,c2,c3⟩:=arc_at (HRD.out.quiet (HT2.out.then HT.out)).rd HLEN.out i hin
    subst hA
    have hmem:=getD_mem arcs (0,0,0) i (by rw [HLEN.out];exact hin)
    have h5:=HF5.out _ hmem
    have h6:=HF6.out _ hmem
    have hlb:=HLB.out hin
    have hsu:=lowJ_succ 1048577 arcs i (by rw [HLEN.out];exact hin)
    rw [← HLO.out] at hsu
    have hnx:i+1<n→(arcs.getD i (0,0,0)).1<(arcs.getD (i+1) (0,0,0)).1:=fun h=>lab_next arcs HF4.out i (by rw [HLEN.out];exact h)
    obtain ⟨⟨la,ao,tt⟩,hz⟩:∃ z,arcs.getD i (0,0,0)=z:=⟨_,rfl⟩
    rw [hz] at c1 c2 c3 h5 h6 hlb hsu hnx
    simp only at c1 c2 c3 h5 h6 hlb hsu hnx
    have HSU:=hide hsu
    have HNX:=hide hnx
    have hlab:(lab:Int)<(la:Int):=by omega
    have h60:(0:Int)≤ao:=h6.1
    have h61:ao≤1048576:=h6.2.1
    have h62:(0:Int)≤(tt:Int):=by omega
    have h63:(tt:Int)<(num:Int):=by omega
    have H5:=hide h5
    have hww:wordU (writeU la)=true:=word_write h5.1 h5.2
    have HWW:=hide hww
    have HSC:=hide (fun (u:World) (hu:Lst u) (h:Reads u 1 (some ⟨wr.heap.size+1,0,none⟩) 1 [.int .i32 (la:Int)])=>text_any u hu (some ⟨wr.heap.size+1,0,none⟩) 1 1 [la] h rfl (by omega) (fun r hr=>by simp only [List.mem_singleton] at hr;rw [hr];exact h5.1))
    clear hmem h5 h6 hlb hsu hnx hz hww
    obtain ⟨w5,hw5⟩:∃ x,x=(wr.alloc (.cells #[.int .i32 (la:Int),.int .i64 ao,.int .i64 (tt:Int)] 173)).alloc (.cells #[.int .i32 (la:Int)] 21):=⟨_,rfl⟩
    have hb5:Blk w5 wr.heap.size 173 #[.int .i32 (la:Int),.int .i64 ao,.int .i64 (tt:Int)]:=by rw [hw5];exact (Blk.new _ _ _).alloc _
    have hr5:Reads w5 1 (some ⟨wr.heap.size+1,0,none⟩) 1 [.int .i32 (la:Int)]:=by
     have:=Reads.new (size:=1) (wr.alloc (.cells #[.int .i32 (la:Int),.int .i64 ao,.int .i64 (tt:Int)] 173)) 21 [.int .i32 (la:Int)] 1 rfl
     rw [hw5]
     simpa using this
    have hT5:Touch (fun _=>False) wr w5:=by rw [hw5];exact ((Touch.refl _ _).alloc _).alloc _
    have HB5:=hide hb5
    have HR5:=hide hr5
    have HT5:=hide hT5
    have HW5:=hide hw5
    clear hb5 hr5 hT5 hw5
    go_wp2_with (first
     | (go_at_call 93;rw [← HW5.out];refine (HSC.out w5 (HL.out.touch (HT2.out.then (HT.out.then HT5.out))) HR5.out).mono ?_;rintro e w6 ⟨rfl,T6⟩;have HT6:=hide T6;have hb:=HB5.out.touch T6 (fun f=>f);obtain ⟨x0,x1,x2⟩:=hb.facts;have HB6:=hide hb;clear T6 hb)
     | (go_at_call 78;refine (word_rune _ (HL.out.touch (HT2.out.then (HT.out.then (HT5.out.then HT6.out)))) la H5.out.1 H5.out.2).mono ?_;rintro e w7 ⟨rfl,T7⟩;have HT7:=hide T7;have hb:=HB6.out.touch T7 (fun f=>f);obtain ⟨x3,x4,x5⟩:=hb.facts;have HB7:=hide hb;clear T7 hb))
    go_roundw
    ·refine ⟨i+1,_,la,rfl,rfl,rfl,by simp,by omega,hide ?_,hide HNX.out,hide (HT.out.then (HT5.out.then (HT6.out.then HT7.out)))⟩
     rw [HSU.out]
     try (split<;>omega)
    ·simp only [intOf];omega
   ·have hie:i=n:=by omega
    subst hie
    have hlow:lo=0:=by
     rw [HLO.out,← HF7.out]
     unfold lowJ lowP
     rw [List.take_of_length_le (by rw [HLEN.out];exact Nat.le_refl _)]
     try rfl
    subst hlow
    go_wp2_with fail
    go_ret
    exact ⟨rfl,HT2.out.then HT.out⟩
end Go.Proofs.YthockgmbooefpaaGreatDoor
namespace Go.Proofs.YthockgmbooefpaaGreatDoor
open Go.RowKit
def uCells (U:List S3):List Value:=U.flatMap fun u=>[.int .i64 u.1,.int .i64 u.2.1,.int .i64 u.2.2]
theorem uCells_at (X:List S3) (k:Nat) (hk:k<X.length) (j:Nat) (hj:j<3):(uCells X)[k*3+j]? = some ([.int .i64 (X.getD k z3).1,.int .i64 (X.getD k z3).2.1,.int .i64 (X.getD k z3).2.2].getD j undef):=by
 induction X generalizing k with
 | nil=>simp at hk
 | cons x X ih =>
  have e:uCells (x :: X)=[.int .i64 x.1,.int .i64 x.2.1,.int .i64 x.2.2]++uCells X:=rfl
  cases k with
  | zero =>
   rw [e,Nat.zero_mul,Nat.zero_add]
   obtain rfl | rfl | rfl:j=0∨j=1∨j=2:=by omega
   ·rfl
   ·rfl
   ·rfl
  | succ k =>
   rw [e,List.getElem?_append_right (by simp;omega)]
   have:(k+1)*3+j-[Value.int .i64 x.1,Value.int .i64 x.2.1,Value.int .i64 x.2.2].length=k*3+j:=by simp;omega
   rw [this,ih k (by simp at hk;omega)]
   simp [List.getD]
theorem sum_at {w:World} {A:Option Addr} {n:Nat} {X:List S3} (h:Reads w 3 A n (uCells X)) (hn:X.length=n) (k:Nat) (hk:k<n) :
  ∃ g off,A=some ⟨g,off,none⟩∧g<w.heap.size∧w.cell? ⟨g,off+k*3,none⟩=some (.int .i64 (X.getD k z3).1)∧w.cell? ⟨g,off+k*3+1,none⟩=some (.int .i64 (X.getD k z3).2.1)∧w.cell? ⟨g,off+k*3+2,none⟩=some (.int .i64 (X.getD k z3).2.2):=by
 obtain ⟨b,off,hA,hb,hc⟩:=h.2 (by omega)
 refine ⟨b,off,hA,hb,?_,?_,?_⟩
 ·exact hc (k*3) _ (uCells_at X k (by omega) 0 (by omega))
 ·rw [Nat.add_assoc];exact hc (k*3+1) _ (uCells_at X k (by omega) 1 (by omega))
 ·rw [Nat.add_assoc];exact hc (k*3+2) _ (uCells_at X k (by omega) 2 (by omega))
set_option maxRecDepth 100000 in
set_option maxHeartbeats 4000000 in
theorem sum_any (w:World) (z:SV) (hz:z.Ok w) (U:List S3) (uA:Option Addr) (N uc:Nat) (hU:RdT w 243 3 uA N (uCells U)) (hUl:U.length=N) (_:N≤1000000)
  (hB:∀ j,(0≤(sumP U z.p j).1∧(sumP U z.p j).1≤4096)∧(0≤(sumP U z.p j).2.1∧(sumP U z.p j).2.1≤24)∧(0≤(sumP U z.p j).2.2∧(sumP U z.p j).2.2≤1048576))
  (hE:∀ a∈z.arcs,a.2.2<N∧(0≤a.2.1∧a.2.1≤1048576)∧(0≤(U.getD a.2.2 z3).1∧(U.getD a.2.2 z3).1≤4096)∧(0≤(U.getD a.2.2 z3).2.1∧(U.getD a.2.2 z3).2.1≤24)∧(0≤(U.getD a.2.2 z3).2.2∧(U.getD a.2.2 z3).2.2≤1048576)) :
  Calls Tryz.prog 139 #[.agg #[.bool z.fin,.int .i64 z.out,.slice z.A z.n z.c],.slice uA N uc] w fun e w'=>e=.returned (.tuple #[.agg #[.int .i64 (sumP U z.p z.n).1,.int .i64 (sumP U z.p z.n).2.1,.int .i64 (sumP U z.p z.n).2.2],.bool true])∧Touch (fun _=>False) w w':=by
 obtain ⟨fin,out,aA,n,ac,arcs⟩:=z
 obtain ⟨hlen,hrd,hle,hmx⟩:=hz
 simp only [SV.p] at *
 have hnm:n≤maxLen:=Nat.le_trans hle hmx
 have HU:=hide hU
 have HUL:=hide hUl
 have HRD:=hide hrd
 have HLEN:=hide hlen
 have HB:=hide hB
 have HE:=hide hE
 clear hU hrd hlen hB hE hle hmx hUl
 cases fin with
 | true =>
  go_enter Tryz.func139,Tryz.ntmps139
  go_wp2_with fail
  obtain ⟨w3,hw3⟩:∃ x,x=((w.alloc (.cells #[.bool true,.int .i64 out,.slice aA n ac] 170)).alloc (.cells #[.int .i64 0,.int .i64 0,.int .i64 0] 243)).alloc (.cells #[.int .i64 1,.int .i64 0,.int .i64 out] 243):=⟨_,rfl⟩
  obtain ⟨X,hX⟩:∃ X,X=w.heap.size+1+1:=⟨_,rfl⟩
  obtain ⟨Y,hY⟩:∃ Y,Y=w.heap.size+1:=⟨_,rfl⟩
  have hT3:Touch (fun _=>False) w w3:=by
   rw [hw3]
   exact ((((Touch.refl _ _).alloc _).alloc _).alloc _)
  have hbX:Blk w3 X 243 #[.int .i64 1,.int .i64 0,.int .i64 out]:=by
   rw [hw3,hX]
   have h:=Blk.new ((w.alloc (.cells #[.bool true,.int .i64 out,.slice aA n ac] 170)).alloc (.cells #[.int .i64 0,.int .i64 0,.int .i64 0] 243)) 243 #[.int .i64 1,.int .i64 0,.int .i64 out]
   simpa using h
  have hbY:Blk w3 Y 243 #[.int .i64 0,.int .i64 0,.int .i64 0]:=by
   rw [hw3,hY]
   have h:=(Blk.new (w.alloc (.cells #[.bool true,.int .i64 out,.slice aA n ac] 170)) 243 #[.int .i64 0,.int .i64 0,.int .i64 0]).alloc (.cells #[.int .i64 1,.int .i64 0,.int .i64 out] 243)
   simpa using h
  rw [← hw3,← hX]
  try rw [← hY]
  have HT3:=hide hT3
  have HXL:=hide (show w.heap.size≤X by omega)
  have HXY:=hide (show Y≠X by omega)
  have HYL:=hide (show w.heap.size≤Y by omega)
  have HBX:=hide hbX
  have HBY:=hide hbY
  clear hw3 hT3 hbX hbY hX hY
  go_loopw [19] (fun iv wr=>∃ (i:Nat) (x1 x2 x3:Int),iv=.int .i64 i∧i≤n∧Hid ((x1,x2,x3)=sumP U ⟨true,out,arcs⟩ i)∧Hid (Blk wr X 243 #[.int .i64 x1,.int .i64 x2,.int .i64 x3])∧Hid (Touch (fun g=>g=X) w3 wr)) (fun iv _=>n-(intOf iv).toNat)
  case atStart=>exact ⟨0,1,0,out,rfl,by omega,hide (by rw [sumP_zero];rfl),HBX,hide (Touch.refl _ _)⟩
  case round =>
   obtain ⟨i,x1,x2,x3,rfl,hi,HP,HX,HT⟩:=hrel
   have hbi:=HB.out i
   rw [← HP.out] at hbi
   simp only at hbi
   obtain ⟨⟨b1,b2⟩,⟨b3,b4⟩,⟨b5,b6⟩⟩:=hbi
   have hq:Touch (fun _=>False) w wr:=HT3.out.trans HT.out (fun g hg e=>by have:=HXL.out;omega)
   by_cases hin:i<n
   ·have y1:(i:Int)<(n:Int):=by omega
    have y2:(0:Int)≤(i:Int):=by omega
    have z2:IntKind.i64.wrap ((i:Int)+1)=(i:Int)+1:=IntWalk.i64_in _ (by unfold maxLen at hnm;omega)
    obtain ⟨g,o,hA,hg,c1,c2,c3⟩:=arc_at (HRD.out.quiet hq).rd HLEN.out i hin
    subst hA
    have hmem:=getD_mem arcs (0,0,0) i (by rw [HLEN.out];exact hin)
    have he:=HE.out _ hmem
    have hsu:=sumP_succ U ⟨true,out,arcs⟩ i (by rw [HLEN.out];exact hin)
    rw [← HP.out] at hsu
    simp only at hsu
    obtain ⟨⟨la,ao,tt⟩,hz⟩:∃ z,arcs.getD i (0,0,0)=z:=⟨_,rfl⟩
    rw [hz] at c1 c2 c3 he hsu
    simp only [sumStep] at c1 c2 c3 he hsu
    obtain ⟨g2,o2,hA2,hg2,d1,d2,d3⟩:=sum_at (HU.out.quiet hq).rd HUL.out tt he.1
    subst hA2
    obtain ⟨⟨u1,u2,u3⟩,hu⟩:∃ z,U.getD tt z3=z:=⟨_,rfl⟩
    rw [hu] at d1 d2 d3 he hsu
    simp only at d1 d2 d3 he hsu
    obtain ⟨e0,⟨e1,e2⟩,⟨e3,e4⟩,⟨e5,e6⟩,⟨e7,e8⟩⟩:=he
    have hbn:=HB.out (i+1)
    rw [hsu] at hbn
    have j0:¬ (4096:Int)<x1+u1:=by have:=hbn.1.2;simp only at this;omega
    have HSU:=hide hsu
    have y3:(0:Int)≤(tt:Int):=by omega
    have y4:(tt:Int)<(N:Int):=by omega
    have k1:IntKind.i64.wrap (x1+u1)=x1+u1:=IntWalk.i64_in _ (by omega)
    have k2:IntKind.i64.wrap (u2+1)=u2+1:=IntWalk.i64_in _ (by omega)
    have k3:IntKind.i64.wrap (ao+u3)=ao+u3:=IntWalk.i64_in _ (by omega)
    obtain ⟨q1,q2,q3⟩:=HX.out.facts
    clear hmem hsu hz hu hbn e0 hq
    go_wp2_with fail
    go_roundw
    ·refine ⟨i+1,_,_,_,by simp,by omega,hide ?_,hide (((((HX.out.set_ 0 _).set_ 1 _).set_ 2 _).alloc _).alloc _),hide (((((HT.out.setCell (fun _=>rfl) _).setCell (fun _=>rfl) _).setCell (fun _=>rfl) _).alloc _).alloc _)⟩
     rw [HSU.out]
     try (simp only [Prod.mk.injEq,true_and];constructor<;>split<;>omega)
    ·simp only [intOf];omega
   ·have hie:i=n:=by omega
    subst hie
    obtain ⟨q1,q2,q3⟩:=HX.out.facts
    have hby:=HBY.out.touch HT.out HXY.out
    obtain ⟨r1,r2,r3⟩:=hby.facts
    have j1:x2≤24:=b4
    have j2:x3≤1048576:=b6
    have HQ:=hide hq
    clear hq
    go_wp2_with fail
    have hxy1:¬ X=Y:=fun e=>HXY.out e.symm
    have hxy2:¬ Y=X:=HXY.out
    go_region
    all_goals go_wp2
    have hbF:Blk (((wr.setCell ⟨Y,0,none⟩ (.int .i64 x1)).setCell ⟨Y,1,none⟩ (.int .i64 x2)).setCell ⟨Y,2,none⟩ (.int .i64 x3)).drew Y 243 #[.int .i64 x1,.int .i64 x2,.int .i64 x3]:=(((hby.set_ 0 _).set_ 1 _).set_ 2 _).drew
    have f0:=hbF.cell 0
    have f1:=hbF.cell 1
    have f2:=hbF.cell 2
    have hTF:Touch (fun _=>False) w (((wr.setCell ⟨Y,0,none⟩ (.int .i64 x1)).setCell ⟨Y,1,none⟩ (.int .i64 x2)).setCell ⟨Y,2,none⟩ (.int .i64 x3)).drew:=by
     refine Touch.drew ?_
     iterate 3 refine Touch.setCell ?_ (fun h=>by have:=HYL.out;simp only at h;omega) _
     exact HQ.out
    refine bodyPost_ret (v:=.tuple #[.agg #[.int .i64 x1,.int .i64 x2,.int .i64 x3],.bool true]) (by simp [results,Tryz.results139,go_sem,f0,f1,f2]) rfl ⟨?_,hTF⟩
    rw [← HP.out]
 | false =>
  go_enter Tryz.func139,Tryz.ntmps139
  go_wp2_with fail
  obtain ⟨w3,hw3⟩:∃ x,x=((w.alloc (.cells #[.bool false,.int .i64 out,.slice aA n ac] 170)).alloc (.cells #[.int .i64 0,.int .i64 0,.int .i64 0] 243)).alloc (.cells #[.int .i64 0,.int .i64 0,.int .i64 out] 243):=⟨_,rfl⟩
  obtain ⟨X,hX⟩:∃ X,X=w.heap.size+1+1:=⟨_,rfl⟩
  obtain ⟨Y,hY⟩:∃ Y,Y=w.heap.size+1:=⟨_,rfl⟩
  have hT3:Touch (fun _=>False) w w3:=by
   rw [hw3]
   exact ((((Touch.refl _ _).alloc _).alloc _).alloc _)
  have hbX:Blk w3 X 243 #[.int .i64 0,.int .i64 0,.int .i64 out]:=by
   rw [hw3,hX]
   have h:=Blk.new ((w.alloc (.cells #[.bool false,.int .i64 out,.slice aA n ac] 170)).alloc (.cells #[.int .i64 0,.int .i64 0,.int .i64 0] 243)) 243 #[.int .i64 0,.int .i64 0,.int .i64 out]
   simpa using h
  have hbY:Blk w3 Y 243 #[.int .i64 0,.int .i64 0,.int .i64 0]:=by
   rw [hw3,hY]
   have h:=(Blk.new (w.alloc (.cells #[.bool false,.int .i64 out,.slice aA n ac] 170)) 243 #[.int .i64 0,.int .i64 0,.int .i64 0]).alloc (.cells #[.int .i64 0,.int .i64 0,.int .i64 out] 243)
   simpa using h
  rw [← hw3,← hX]
  try rw [← hY]
  have HT3:=hide hT3
  have HXL:=hide (show w.heap.size≤X by omega)
  have HXY:=hide (show Y≠X by omega)
  have HYL:=hide (show w.heap.size≤Y by omega)
  have HBX:=hide hbX
  have HBY:=hide hbY
  clear hw3 hT3 hbX hbY hX hY
  go_loopw [19] (fun iv wr=>∃ (i:Nat) (x1 x2 x3:Int),iv=.int .i64 i∧i≤n∧Hid ((x1,x2,x3)=sumP U ⟨false,out,arcs⟩ i)∧Hid (Blk wr X 243 #[.int .i64 x1,.int .i64 x2,.int .i64 x3])∧Hid (Touch (fun g=>g=X) w3 wr)) (fun iv _=>n-(intOf iv).toNat)
  case atStart=>exact ⟨0,0,0,out,rfl,by omega,hide (by rw [sumP_zero];rfl),HBX,hide (Touch.refl _ _)⟩
  case round =>
   obtain ⟨i,x1,x2,x3,rfl,hi,HP,HX,HT⟩:=hrel
   have hbi:=HB.out i
   rw [← HP.out] at hbi
   simp only at hbi
   obtain ⟨⟨b1,b2⟩,⟨b3,b4⟩,⟨b5,b6⟩⟩:=hbi
   have hq:Touch (fun _=>False) w wr:=HT3.out.trans HT.out (fun g hg e=>by have:=HXL.out;omega)
   by_cases hin:i<n
   ·have y1:(i:Int)<(n:Int):=by omega
    have y2:(0:Int)≤(i:Int):=by omega
    have z2:IntKind.i64.wrap ((i:Int)+1)=(i:Int)+1:=IntWalk.i64_in _ (by unfold maxLen at hnm;omega)
    obtain ⟨g,o,hA,hg,c1,c2,c3⟩:=arc_at (HRD.out.quiet hq).rd HLEN.out i hin
    subst hA
    have hmem:=getD_mem arcs (0,0,0) i (by rw [HLEN.out];exact hin)
    have he:=HE.out _ hmem
    have hsu:=sumP_succ U ⟨false,out,arcs⟩ i (by rw [HLEN.out];exact hin)
    rw [← HP.out] at hsu
    simp only at hsu
    obtain ⟨⟨la,ao,tt⟩,hz⟩:∃ z,arcs.getD i (0,0,0)=z:=⟨_,rfl⟩
    rw [hz] at c1 c2 c3 he hsu
    simp only [sumStep] at c1 c2 c3 he hsu
    obtain ⟨g2,o2,hA2,hg2,d1,d2,d3⟩:=sum_at (HU.out.quiet hq).rd HUL.out tt he.1
    subst hA2
    obtain ⟨⟨u1,u2,u3⟩,hu⟩:∃ z,U.getD tt z3=z:=⟨_,rfl⟩
    rw [hu] at d1 d2 d3 he hsu
    simp only at d1 d2 d3 he hsu
    obtain ⟨e0,⟨e1,e2⟩,⟨e3,e4⟩,⟨e5,e6⟩,⟨e7,e8⟩⟩:=he
    have hbn:=HB.out (i+1)
    rw [hsu] at hbn
    have j0:¬ (4096:Int)<x1+u1:=by have:=hbn.1.2;simp only at this;omega
    have HSU:=hide hsu
    have y3:(0:Int)≤(tt:Int):=by omega
    have y4:(tt:Int)<(N:Int):=by omega
    have k1:IntKind.i64.wrap (x1+u1)=x1+u1:=IntWalk.i64_in _ (by omega)
    have k2:IntKind.i64.wrap (u2+1)=u2+1:=IntWalk.i64_in _ (by omega)
    have k3:IntKind.i64.wrap (ao+u3)=ao+u3:=IntWalk.i64_in _ (by omega)
    obtain ⟨q1,q2,q3⟩:=HX.out.facts
    clear hmem hsu hz hu hbn e0 hq
    go_wp2_with fail
    go_roundw
    ·refine ⟨i+1,_,_,_,by simp,by omega,hide ?_,hide (((((HX.out.set_ 0 _).set_ 1 _).set_ 2 _).alloc _).alloc _),hide (((((HT.out.setCell (fun _=>rfl) _).setCell (fun _=>rfl) _).setCell (fun _=>rfl) _).alloc _).alloc _)⟩
     rw [HSU.out]
     try (simp only [Prod.mk.injEq,true_and];constructor<;>split<;>omega)
    ·simp only [intOf];omega
   ·have hie:i=n:=by omega
    subst hie
    obtain ⟨q1,q2,q3⟩:=HX.out.facts
    have hby:=HBY.out.touch HT.out HXY.out
    obtain ⟨r1,r2,r3⟩:=hby.facts
    have j1:x2≤24:=b4
    have j2:x3≤1048576:=b6
    have HQ:=hide hq
    clear hq
    go_wp2_with fail
    have hxy1:¬ X=Y:=fun e=>HXY.out e.symm
    have hxy2:¬ Y=X:=HXY.out
    go_region
    all_goals go_wp2
    have hbF:Blk (((wr.setCell ⟨Y,0,none⟩ (.int .i64 x1)).setCell ⟨Y,1,none⟩ (.int .i64 x2)).setCell ⟨Y,2,none⟩ (.int .i64 x3)).drew Y 243 #[.int .i64 x1,.int .i64 x2,.int .i64 x3]:=(((hby.set_ 0 _).set_ 1 _).set_ 2 _).drew
    have f0:=hbF.cell 0
    have f1:=hbF.cell 1
    have f2:=hbF.cell 2
    have hTF:Touch (fun _=>False) w (((wr.setCell ⟨Y,0,none⟩ (.int .i64 x1)).setCell ⟨Y,1,none⟩ (.int .i64 x2)).setCell ⟨Y,2,none⟩ (.int .i64 x3)).drew:=by
     refine Touch.drew ?_
     iterate 3 refine Touch.setCell ?_ (fun h=>by have:=HYL.out;simp only at h;omega) _
     exact HQ.out
    refine bodyPost_ret (v:=.tuple #[.agg #[.int .i64 x1,.int .i64 x2,.int .i64 x3],.bool true]) (by simp [results,Tryz.results139,go_sem,f0,f1,f2]) rfl ⟨?_,hTF⟩
    rw [← HP.out]
end Go.Proofs.YthockgmbooefpaaGreatDoor
