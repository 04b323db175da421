/- What the law rests on, part 12. No condition but those that each theorem names. -/
import Derived.Test.YthockgmbooefpaaDoorD11
set_option linter.unusedSectionVars false
set_option linter.unusedSimpArgs false
set_option linter.unusedVariables false
namespace Go.Proofs.YthockgmbooefpaaDoor
open Go.RowKit
structure WkOk (w:World) (p:Addr) (base:Int) (A:Option Addr) (n c:Nat) (Z:List SV) (wv:Value):Prop where
 blk:∃ b,p=⟨b,0,none⟩∧Blk w b 124 #[.int .i64 base,.slice A n c,wv]
 sts:StsOk w A n Z
theorem WkOk.quiet {w w':World} {p:Addr} {base:Int} {A:Option Addr} {n c:Nat} {Z:List SV} {wv:Value} (h:WkOk w p base A n c Z wv) (T:Touch (fun _=>False) w w'):WkOk w' p base A n c Z wv:=by
 obtain ⟨b,e,hb⟩:=h.blk
 exact ⟨⟨b,e,hb.touch T (fun f=>f)⟩,h.sts.quiet T⟩
theorem root_any (w:World) (b:Nat) (base:Int) (A:Option Addr) (n c:Nat) (wv:Value) (hb:Blk w b 124 #[.int .i64 base,.slice A n c,wv]) (hn:n≤1000000) :
  Calls Tryd.prog 59 #[.pointer (some ⟨b,0,none⟩)] w fun e w'=>e=.returned (.int .i64 ((n:Int)-1))∧w'=w:=by
 obtain ⟨x0,x1,x2⟩:=hb.facts
 have z1:IntKind.i64.wrap ((n:Int)-1)=(n:Int)-1:=IntWalk.i64_in _ (by omega)
 go_enter Tryd.func59,Tryd.ntmps59
 go_wp2
 go_ret
 exact ⟨rfl,rfl⟩
theorem sCells_at (X:List SV) (z0:SV) (k:Nat) (hk:k<X.length) (j:Nat) (hj:j<3):(sCells X)[k*3+j]? = some ((X.getD k z0).cells.getD j undef):=by
 induction X generalizing k with
 | nil=>simp at hk
 | cons x X ih =>
  have e:sCells (x :: X)=x.cells++sCells X:=rfl
  cases k with
  | zero =>
   rw [e,Nat.zero_mul,Nat.zero_add]
   obtain rfl | rfl | rfl:j=0∨j=1∨j=2:=by omega
   ·rfl
   ·rfl
   ·rfl
  | succ k =>
   rw [e,List.getElem?_append_right (by simp [SV.cells];omega)]
   have:(k+1)*3+j-x.cells.length=k*3+j:=by simp [SV.cells];omega
   rw [this,ih k (by simp at hk;omega)]
   simp [List.getD]
theorem aCells_at (X:List (Nat × Int × Nat)) (k:Nat) (hk:k<X.length) (j:Nat) (hj:j<3):(aCells X)[k*3+j]? = some ([.int .i32 ((X.getD k (0,0,0)).1:Int),.int .i64 (X.getD k (0,0,0)).2.1,.int .i64 ((X.getD k (0,0,0)).2.2:Int)].getD j undef):=by
 induction X generalizing k with
 | nil=>simp at hk
 | cons x X ih =>
  have e:aCells (x :: X)=[.int .i32 (x.1:Int),.int .i64 x.2.1,.int .i64 (x.2.2:Int)]++aCells X:=rfl
  cases k with
  | zero =>
   rw [e,Nat.zero_mul,Nat.zero_add]
   obtain rfl | rfl | rfl:j=0∨j=1∨j=2:=by omega
   ·rfl
   ·rfl
   ·rfl
  | succ k =>
   rw [e,List.getElem?_append_right (by simp;omega)]
   have:(k+1)*3+j-[Value.int .i32 (x.1:Int),.int .i64 x.2.1,.int .i64 (x.2.2:Int)].length=k*3+j:=by simp;omega
   rw [this,ih k (by simp at hk;omega)]
   simp [List.getD]
def svZero:SV:=⟨false,0,none,0,0,[]⟩
theorem state_at {w:World} {A:Option Addr} {n:Nat} {X:List SV} (h:Reads w 3 A n (sCells X)) (hn:X.length=n) (k:Nat) (hk:k<n) :
  ∃ g off,A=some ⟨g,off,none⟩∧g<w.heap.size∧w.cell? ⟨g,off+k*3,none⟩=some (.bool (X.getD k svZero).fin)∧w.cell? ⟨g,off+k*3+1,none⟩=some (.int .i64 (X.getD k svZero).out)∧w.cell? ⟨g,off+k*3+2,none⟩=some (.slice (X.getD k svZero).A (X.getD k svZero).n (X.getD k svZero).c):=by
 obtain ⟨b,off,hA,hb,hc⟩:=h.2 (by omega)
 refine ⟨b,off,hA,hb,?_,?_,?_⟩
 ·exact hc (k*3) _ (sCells_at X svZero k (by omega) 0 (by omega))
 ·rw [Nat.add_assoc];exact hc (k*3+1) _ (sCells_at X svZero k (by omega) 1 (by omega))
 ·rw [Nat.add_assoc];exact hc (k*3+2) _ (sCells_at X svZero k (by omega) 2 (by omega))
theorem arc_at {w:World} {A:Option Addr} {n:Nat} {X:List (Nat × Int × Nat)} (h:Reads w 3 A n (aCells X)) (hn:X.length=n) (k:Nat) (hk:k<n) :
  ∃ g off,A=some ⟨g,off,none⟩∧g<w.heap.size∧w.cell? ⟨g,off+k*3,none⟩=some (.int .i32 ((X.getD k (0,0,0)).1:Int))∧w.cell? ⟨g,off+k*3+1,none⟩=some (.int .i64 (X.getD k (0,0,0)).2.1)∧w.cell? ⟨g,off+k*3+2,none⟩=some (.int .i64 ((X.getD k (0,0,0)).2.2:Int)):=by
 obtain ⟨b,off,hA,hb,hc⟩:=h.2 (by omega)
 refine ⟨b,off,hA,hb,?_,?_,?_⟩
 ·exact hc (k*3) _ (aCells_at X k (by omega) 0 (by omega))
 ·rw [Nat.add_assoc];exact hc (k*3+1) _ (aCells_at X k (by omega) 1 (by omega))
 ·rw [Nat.add_assoc];exact hc (k*3+2) _ (aCells_at X k (by omega) 2 (by omega))
theorem stepA_snoc (l:List (Nat × Int × Nat)) (a:Nat × Int × Nat) (r:Nat) (p:Int × Int):stepA (l++[a]) r p=if a.1=r then ((a.2.2:Int),(stepA l r p).2+a.2.1) else stepA l r p:=by
 unfold stepA
 rw [List.foldl_append]
 rfl
structure Small (n:Nat) (Z:List SV):Prop where
 lab:∀ z∈Z,(z.arcs.map (·.1)).Nodup
 arc:∀ z∈Z,∀ a∈z.arcs,0≤a.2.1∧a.2.1≤1048576∧a.2.2<n
 out:∀ z∈Z,0≤z.out∧z.out≤1048576
theorem stepA_small {l:List (Nat × Int × Nat)} {n r:Nat} (hn:(l.map (·.1)).Nodup) (hb:∀ a∈l,0≤a.2.1∧a.2.1≤1048576∧a.2.2<n) (sum:Int):sum≤(stepA l r (-1,sum)).2∧(stepA l r (-1,sum)).2≤sum+1048576∧-1≤(stepA l r (-1,sum)).1∧(stepA l r (-1,sum)).1<n:=by
 by_cases h:r∈l.map (·.1)
 ·obtain ⟨a,ha,hr⟩:=List.mem_map.1 h
  rw [stepA_some hn ha hr]
  have:=hb a ha
  simp only
  omega
 ·rw [stepA_none h]
  simp only
  omega
end Go.Proofs.YthockgmbooefpaaDoor
namespace Go.Proofs.YthockgmbooefpaaDoor
open Go.RowKit
def lowJ (l0:Int) (arcs:List (Nat × Int × Nat)) (j:Nat):Int:=(arcs.take j).foldl (fun m a=>min m a.2.1) l0
theorem lowJ_succ (l0:Int) (arcs:List (Nat × Int × Nat)) (j:Nat) (hj:j<arcs.length):lowJ l0 arcs (j+1)=min (lowJ l0 arcs j) (arcs.getD j (0,0,0)).2.1:=by
 unfold lowJ
 rw [List.take_succ_eq_append_getElem hj,List.foldl_append]
 simp [List.getD,hj]
theorem lab_next (arcs:List (Nat × Int × Nat)) (h:(arcs.map (·.1)).Pairwise (·<·)) (j:Nat) (hj:j+1<arcs.length):(arcs.getD j (0,0,0)).1<(arcs.getD (j+1) (0,0,0)).1:=by
 have:=List.pairwise_iff_getElem.1 h j (j+1) (by simp;omega) (by simp;omega) (by omega)
 simpa [List.getD,hj,show j<arcs.length by omega] using this
theorem toList_mk (l:List UInt8):(⟨l.toArray⟩:ByteArray).toList=l:=by rw [Go.ByteArray.toList_eq]
theorem word_rune (w:World) (hL:Lst w) (r:Nat) (hs:scal r=true) (hf:fitU r=true) :
  Calls Tryd.prog 42 #[.string ⟨(writeU r).toArray⟩] w fun e w'=>e=.returned (.bool true)∧Touch (fun _=>False) w w':=by
 have hl:=write_len r
 have h:=word_any w ⟨(writeU r).toArray⟩ (by show (writeU r).toArray.size≤_;rw [List.size_toArray];omega) hL
 rw [toList_mk,word_write hs hf] at h
 exact h
set_option maxRecDepth 100000 in
set_option maxHeartbeats 4000000 in
theorem formed_any (w:World) (hL:Lst w) (z:SV) (hz:z.Ok w) (num:Nat) (_:num≤1000000) (hF:FormP num z.p) :
  Calls Tryd.prog 68 #[.agg #[.bool z.fin,.int .i64 z.out,.slice z.A z.n z.c],.int .i64 num] w fun e w'=>e=.returned (.bool true)∧Touch (fun _=>False) w w':=by
 obtain ⟨fin,out,aA,n,ac,arcs⟩:=z
 obtain ⟨hlen,hrd,hle,hmx⟩:=hz
 obtain ⟨f1,f2,f3,f4,f5,f6,f7⟩:=hF
 simp only [SV.p] at *
 have hnm:n≤maxLen:=Nat.le_trans hle hmx
 have HL:=hide hL
 have HRD:=hide hrd
 have HLEN:=hide hlen
 have HF3:=hide f3
 have HF4:=hide f4
 have HF5:=hide f5
 have HF6:=hide f6
 have HF7:=hide f7
 clear hL hrd hlen f3 f4 f5 f6 f7 hle hmx
 obtain ⟨w2,hw2⟩:∃ x,x=w.alloc (.cells #[.bool fin,.int .i64 out,.slice aA n ac] 108):=⟨_,rfl⟩
 have hT2:Touch (fun _=>False) w w2:=by rw [hw2];exact (Touch.refl _ _).alloc _
 have HT2:=hide hT2
 have HW2:=hide hw2
 clear hw2 hT2
 go_enter Tryd.func68,Tryd.ntmps68
 cases fin with
 | true =>
  go_wp2_with fail
  rw [← HW2.out]
  go_loopw [5,6,7,30] (fun lv kv bv iv wr=>∃ (i:Nat) (lo:Int) (lab:Nat),lv=.int .i64 lo∧kv=.bool true∧bv=.int .i32 lab∧iv=.int .i64 i∧i≤n∧Hid (lo=lowJ out arcs i)∧Hid (i<n→lab<(arcs.getD i (0,0,0)).1)∧Hid (Touch (fun _=>False) w2 wr)) (fun _ _ _ iv _=>n-(intOf iv).toNat)
  case atStart =>
   refine ⟨0,out,32,rfl,rfl,rfl,rfl,by omega,hide rfl,hide fun hn=>?_,hide (Touch.refl _ _)⟩
   have:=(HF5.out _ (getD_mem arcs (0,0,0) 0 (by rw [HLEN.out];exact hn))).2
   unfold fitU at this
   simp only [Bool.and_eq_true,decide_eq_true_eq] at this
   exact this.1
  case round =>
   obtain ⟨i,lo,lab,rfl,rfl,rfl,rfl,hi,HLO,HLB,HT⟩:=hrel
   by_cases hin:i<n
   ·have y1:(i:Int)<(n:Int):=by omega
    have y2:(0:Int)≤(i:Int):=by omega
    have z2:IntKind.i64.wrap ((i:Int)+1)=(i:Int)+1:=IntWalk.i64_in _ (by unfold maxLen at hnm;omega)
    obtain ⟨g,o,hA,hg,c1,c2,c3⟩:=arc_at (HRD.out.quiet (HT2.out.then HT.out)).rd HLEN.out i hin
    subst hA
    have hmem:=getD_mem arcs (0,0,0) i (by rw [HLEN.out];exact hin)
    have h5:=HF5.out _ hmem
    have h6:=HF6.out _ hmem
    have hlb:=HLB.out hin
    have hsu:=lowJ_succ out arcs i (by rw [HLEN.out];exact hin)
    rw [← HLO.out] at hsu
    have hnx:i+1<n→(arcs.getD i (0,0,0)).1<(arcs.getD (i+1) (0,0,0)).1:=fun h=>lab_next arcs HF4.out i (by rw [HLEN.out];exact h)
    obtain ⟨⟨la,ao,tt⟩,hz⟩:∃ z,arcs.getD i (0,0,0)=z:=⟨_,rfl⟩
    rw [hz] at c1 c2 c3 h5 h6 hlb hsu hnx
    simp only at c1 c2 c3 h5 h6 hlb hsu hnx
    have HSU:=hide hsu
    have HNX:=hide hnx
    have hlab:(lab:Int)<(la:Int):=by omega
    have h60:(0:Int)≤ao:=h6.1
    have h61:ao≤1048576:=h6.2.1
    have h62:(0:Int)≤(tt:Int):=by omega
    have h63:(tt:Int)<(num:Int):=by omega
    have H5:=hide h5
    have hww:wordU (writeU la)=true:=word_write h5.1 h5.2
    have HWW:=hide hww
    have HSC:=hide (fun (u:World) (hu:Lst u) (h:Reads u 1 (some ⟨wr.heap.size+1,0,none⟩) 1 [.int .i32 (la:Int)])=>text_any u hu (some ⟨wr.heap.size+1,0,none⟩) 1 1 [la] h rfl (by omega) (fun r hr=>by simp only [List.mem_singleton] at hr;rw [hr];exact h5.1))
    clear hmem h5 h6 hlb hsu hnx hz hww
    obtain ⟨w5,hw5⟩:∃ x,x=(wr.alloc (.cells #[.int .i32 (la:Int),.int .i64 ao,.int .i64 (tt:Int)] 110)).alloc (.cells #[.int .i32 (la:Int)] 21):=⟨_,rfl⟩
    have hb5:Blk w5 wr.heap.size 110 #[.int .i32 (la:Int),.int .i64 ao,.int .i64 (tt:Int)]:=by rw [hw5];exact (Blk.new _ _ _).alloc _
    have hr5:Reads w5 1 (some ⟨wr.heap.size+1,0,none⟩) 1 [.int .i32 (la:Int)]:=by
     have:=Reads.new (size:=1) (wr.alloc (.cells #[.int .i32 (la:Int),.int .i64 ao,.int .i64 (tt:Int)] 110)) 21 [.int .i32 (la:Int)] 1 rfl
     rw [hw5]
     simpa using this
    have hT5:Touch (fun _=>False) wr w5:=by rw [hw5];exact ((Touch.refl _ _).alloc _).alloc _
    have HB5:=hide hb5
    have HR5:=hide hr5
    have HT5:=hide hT5
    have HW5:=hide hw5
    clear hb5 hr5 hT5 hw5
    go_wp2_with (first
     | (go_at_call 82;rw [← HW5.out];refine (HSC.out w5 (HL.out.touch (HT2.out.then (HT.out.then HT5.out))) HR5.out).mono ?_;rintro e w6 ⟨rfl,T6⟩;have HT6:=hide T6;have hb:=HB5.out.touch T6 (fun f=>f);obtain ⟨x0,x1,x2⟩:=hb.facts;have HB6:=hide hb;clear T6 hb)
     | (go_at_call 42;refine (word_rune _ (HL.out.touch (HT2.out.then (HT.out.then (HT5.out.then HT6.out)))) la H5.out.1 H5.out.2).mono ?_;rintro e w7 ⟨rfl,T7⟩;have HT7:=hide T7;have hb:=HB6.out.touch T7 (fun f=>f);obtain ⟨x3,x4,x5⟩:=hb.facts;have HB7:=hide hb;clear T7 hb))
    go_roundw
    ·refine ⟨i+1,_,la,rfl,rfl,rfl,by simp,by omega,hide ?_,hide HNX.out,hide (HT.out.then (HT5.out.then (HT6.out.then HT7.out)))⟩
     rw [HSU.out]
     try (split<;>omega)
    ·simp only [intOf];omega
   ·have hie:i=n:=by omega
    subst hie
    have hlow:lo=0:=by
     rw [HLO.out,← HF7.out]
     unfold lowJ lowP
     rw [List.take_of_length_le (by rw [HLEN.out];exact Nat.le_refl _)]
     try rfl
    subst hlow
    go_wp2_with fail
    go_ret
    exact ⟨rfl,HT2.out.then HT.out⟩
 | false =>
  have h0:out=0:=HF3.out rfl
  subst h0
  go_wp2_with fail
  rw [← HW2.out]
  go_loopw [5,6,7,30] (fun lv kv bv iv wr=>∃ (i:Nat) (lo:Int) (lab:Nat),lv=.int .i64 lo∧kv=.bool true∧bv=.int .i32 lab∧iv=.int .i64 i∧i≤n∧Hid (lo=lowJ 1048577 arcs i)∧Hid (i<n→lab<(arcs.getD i (0,0,0)).1)∧Hid (Touch (fun _=>False) w2 wr)) (fun _ _ _ iv _=>n-(intOf iv).toNat)
  case atStart =>
   refine ⟨0,1048577,32,rfl,rfl,rfl,rfl,by omega,hide rfl,hide fun hn=>?_,hide (Touch.refl _ _)⟩
   have:=(HF5.out _ (getD_mem arcs (0,0,0) 0 (by rw [HLEN.out];exact hn))).2
   unfold fitU at this
   simp only [Bool.and_eq_true,decide_eq_true_eq] at this
   exact this.1
  case round =>
   obtain ⟨i,lo,lab,rfl,rfl,rfl,rfl,hi,HLO,HLB,HT⟩:=hrel
   by_cases hin:i<n
   ·have y1:(i:Int)<(n:Int):=by omega
    have y2:(0:Int)≤(i:Int):=by omega
    have z2:IntKind.i64.wrap ((i:Int)+1)=(i:Int)+1:=IntWalk.i64_in _ (by unfold maxLen at hnm;omega)
    obtain ⟨g,o,hA,hg,c1,c2,c3⟩:=arc_at (HRD.out.quiet (HT2.out.then HT.out)).rd HLEN.out i hin
    subst hA
    have hmem:=getD_mem arcs (0,0,0) i (by rw [HLEN.out];exact hin)
    have h5:=HF5.out _ hmem
    have h6:=HF6.out _ hmem
    have hlb:=HLB.out hin
    have hsu:=lowJ_succ 1048577 arcs i (by rw [HLEN.out];exact hin)
    rw [← HLO.out] at hsu
    have hnx:i+1<n→(arcs.getD i (0,0,0)).1<(arcs.getD (i+1) (0,0,0)).1:=fun h=>lab_next arcs HF4.out i (by rw [HLEN.out];exact h)
    obtain ⟨⟨la,ao,tt⟩,hz⟩:∃ z,arcs.getD i (0,0,0)=z:=⟨_,rfl⟩
    rw [hz] at c1 c2 c3 h5 h6 hlb hsu hnx
    simp only at c1 c2 c3 h5 h6 hlb hsu hnx
    have HSU:=hide hsu
    have HNX:=hide hnx
    have hlab:(lab:Int)<(la:Int):=by omega
    have h60:(0:Int)≤ao:=h6.1
    have h61:ao≤1048576:=h6.2.1
    have h62:(0:Int)≤(tt:Int):=by omega
    have h63:(tt:Int)<(num:Int):=by omega
    have H5:=hide h5
    have hww:wordU (writeU la)=true:=word_write h5.1 h5.2
    have HWW:=hide hww
    have HSC:=hide (fun (u:World) (hu:Lst u) (h:Reads u 1 (some ⟨wr.heap.size+1,0,none⟩) 1 [.int .i32 (la:Int)])=>text_any u hu (some ⟨wr.heap.size+1,0,none⟩) 1 1 [la] h rfl (by omega) (fun r hr=>by simp only [List.mem_singleton] at hr;rw [hr];exact h5.1))
    clear hmem h5 h6 hlb hsu hnx hz hww
    obtain ⟨w5,hw5⟩:∃ x,x=(wr.alloc (.cells #[.int .i32 (la:Int),.int .i64 ao,.int .i64 (tt:Int)] 110)).alloc (.cells #[.int .i32 (la:Int)] 21):=⟨_,rfl⟩
    have hb5:Blk w5 wr.heap.size 110 #[.int .i32 (la:Int),.int .i64 ao,.int .i64 (tt:Int)]:=by rw [hw5];exact (Blk.new _ _ _).alloc _
    have hr5:Reads w5 1 (some ⟨wr.heap.size+1,0,none⟩) 1 [.int .i32 (la:Int)]:=by
     have:=Reads.new (size:=1) (wr.alloc (.cells #[.int .i32 (la:Int),.int .i64 ao,.int .i64 (tt:Int)] 110)) 21 [.int .i32 (la:Int)] 1 rfl
     rw [hw5]
     simpa using this
    have hT5:Touch (fun _=>False) wr w5:=by rw [hw5];exact ((Touch.refl _ _).alloc _).alloc _
    have HB5:=hide hb5
    have HR5:=hide hr5
    have HT5:=hide hT5
    have HW5:=hide hw5
    clear hb5 hr5 hT5 hw5
    go_wp2_with (first
     | (go_at_call 82;rw [← HW5.out];refine (HSC.out w5 (HL.out.touch (HT2.out.then (HT.out.then HT5.out))) HR5.out).mono ?_;rintro e w6 ⟨rfl,T6⟩;have HT6:=hide T6;have hb:=HB5.out.touch T6 (fun f=>f);obtain ⟨x0,x1,x2⟩:=hb.facts;have HB6:=hide hb;clear T6 hb)
     | (go_at_call 42;refine (word_rune _ (HL.out.touch (HT2.out.then (HT.out.then (HT5.out.then HT6.out)))) la H5.out.1 H5.out.2).mono ?_;rintro e w7 ⟨rfl,T7⟩;have HT7:=hide T7;have hb:=HB6.out.touch T7 (fun f=>f);obtain ⟨x3,x4,x5⟩:=hb.facts;have HB7:=hide hb;clear T7 hb))
    go_roundw
    ·refine ⟨i+1,_,la,rfl,rfl,rfl,by simp,by omega,hide ?_,hide HNX.out,hide (HT.out.then (HT5.out.then (HT6.out.then HT7.out)))⟩
     rw [HSU.out]
     try (split<;>omega)
    ·simp only [intOf];omega
   ·have hie:i=n:=by omega
    subst hie
    have hlow:lo=0:=by
     rw [HLO.out,← HF7.out]
     unfold lowJ lowP
     rw [List.take_of_length_le (by rw [HLEN.out];exact Nat.le_refl _)]
     try rfl
    subst hlow
    go_wp2_with fail
    go_ret
    exact ⟨rfl,HT2.out.then HT.out⟩
end Go.Proofs.YthockgmbooefpaaDoor
