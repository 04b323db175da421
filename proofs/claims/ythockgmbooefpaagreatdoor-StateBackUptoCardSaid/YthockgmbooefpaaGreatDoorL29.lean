/- What the law rests on, part 29. No condition but those that each theorem names. -/
import Derived.Test.YthockgmbooefpaaGreatDoorL23
import Derived.Test.YthockgmbooefpaaGreatDoorL04
import Derived.Laws.CopyRow
import Derived.Test.YthockgmbooefpaaGreatDoorL26
import Derived.Test.YthockgmbooefpaaGreatDoorL28
import Derived.Test.YthockgmbooefpaaGreatDoorL13
set_option linter.unusedSectionVars false
set_option linter.unusedSimpArgs false
set_option linter.unusedVariables false
set_option maxRecDepth 100000
set_option maxHeartbeats 2000000
namespace Go.Proofs.YthockgmbooefpaaGreatDoor
open Go.RowKit
theorem clear_own (w:World) (g n c:Nat) (X:List PRow) (h:POwn w (some ⟨g,0,none⟩) n c X) (i c':Nat) (hi:i<n) (ty:TypeId) :
  ∃ w',(Builtin.clear_ #[37] ty #[.slice (some ⟨g,i*2,none⟩) (n-i) c']).run Tryz.prog w=.ok (.tuple #[]) w'∧POwn w' (some ⟨g,0,none⟩) i c (X.take i)∧Touch (fun k=>k=g) w w':=by
 obtain ⟨i0,hi0,hz0,hz1,_⟩:=info_parts infoPair
 rcases h.2 with ⟨e,_⟩ | ⟨g',cap,cur,e,_,hgg,hnc,hcm,hcs,ht⟩
 ·cases e
 injection e with e1 e2 e3
 injection e1 with e1
 injection e1 with e1
 subst e1 e3
 obtain ⟨Zs,hZ⟩:∃ Zs,Zs=(Builtin.zeroCells (Value.agg #[.string ByteArray.empty,.int .i64 0]).cells (n-i)).toList:=⟨_,rfl⟩
 have hzl:Zs.length=(n-i)*2:=by rw [hZ,Array.length_toList];simp [Builtin.zeroCells,Value.cells]
 have hz1c:∀ v∈Zs,v.oneCell'=true:=by
  intro v hv
  rw [hZ] at hv
  simp only [Builtin.zeroCells,Array.toList_map,List.mem_map] at hv
  obtain ⟨j,_,rfl⟩:=hv
  have:j % (Value.agg #[Value.string ByteArray.empty,Value.int IntKind.i64 0]).cells.size=0∨j % (Value.agg #[Value.string ByteArray.empty,Value.int IntKind.i64 0]).cells.size=1:=by
   simp only [Value.cells,List.size_toArray,List.length_cons,List.length_nil]
   omega
  rcases this with e | e<;>(rw [e];rfl)
 have hst:=run_storeCells_at (P:=Tryz.prog) g (i*2) 125 Zs 0 cur w hgg (by rw [hzl,hcs];omega) hz1c
 simp only [Nat.add_zero] at hst
 obtain ⟨cs,hcsd⟩:∃ cs,cs=(cur.toList.take (i*2)++Zs++cur.toList.drop (i*2+Zs.length)).toArray:=⟨_,rfl⟩
 rw [← hcsd] at hst
 refine ⟨w.setRow g cs,?_,⟨?_,.inr ⟨g,c,cs,rfl,Nat.zero_le _,setRow_heap w g cur cs _ _ hgg,by omega,hcm,?_,?_⟩⟩,⟨rfl,rfl,rfl,by simp,fun k _ hk=>setRow_other w g k cs hk⟩⟩
 ·obtain ⟨m,hm⟩:∃ m,n-i=m+1:=⟨n-i-1,by omega⟩
  have hv:∀ w,(zeroValue 125).run Tryz.prog w=.ok (Value.agg #[.string ByteArray.empty,.int .i64 0]) w:=fun w=>by simp [zeroValue,typeInfo,hi0,hz0]
  rw [hm] at hZ ⊢
  simp [Builtin.clear_,run_underlying Tryz.underlying37,hv,← hZ,hst]
 ·rw [pCells_len,List.length_take,← pown_len h];omega
 ·rw [hcsd];simp [hzl,hcs];omega
 ·rw [hcsd]
  simp only [List.append_assoc]
  rw [List.take_append_of_le_length (by rw [List.length_take,Array.length_toList];omega),List.take_take,Nat.min_self,← pCells_take,← ht,List.take_take]
  congr 1
  omega
abbrev delF:Value:=.func (.func 145) #[] #[]
theorem zero_any (a:PRow) (w:World) :
  Calls Tryz.prog 145 #[a.val] w fun e w'=>e=.returned (.bool (a.weight == 0))∧Touch (fun _=>False) w w':=by
 obtain ⟨aw,an⟩:=a
 rw [pval_eq]
 go_enter Tryz.func145,Tryz.ntmps145
 go_wp2
 go_ret
 exact ⟨rfl,(Touch.refl _ _).alloc _⟩
theorem index_any (w:World) (A:Option Addr) (n c:Nat) (X:List PRow) (h:POwn w A n c X) :
  Calls Tryz.prog 174 #[.slice A n c,delF] w fun e w'=>((e=.returned (.int .i64 (-1))∧X.filter keepP=X)∨∃ i,i<n∧e=.returned (.int .i64 (i:Nat))∧(X.take i).filter keepP=X.take i∧((X.getD i PRow.zero).weight == 0)=true)∧Touch (fun _=>False) w w':=by
 have hn:=own_le h
 unfold maxLen at hn
 have HO:=hide h
 have HL:=hide (pown_len h)
 clear h
 go_enter Tryz.func174,Tryz.ntmps174
 go_wp2
 go_loopw [8] (fun iv wr=>∃ i:Nat,iv=.int .i64 i∧i≤n∧Hid ((X.take i).filter keepP=X.take i)∧Hid (Touch (fun _=>False) w wr)) (fun iv _=>n-(intOf iv).toNat)
 case atStart=>exact ⟨0,rfl,Nat.zero_le _,hide (by simp),hide (Touch.refl _ _)⟩
 case round =>
  obtain ⟨i,rfl,hin,HF,HT⟩:=hrel
  by_cases h0:i<n
  ·have y0:(i:Int)<(n:Int):=by omega
   obtain ⟨g,rfl,hg,a0,a1,_,_⟩:=pown_at (own_touch HO.out HT.out (fun _ _ f=>f)) HL.out i h0
   have hlt:i<X.length:=by rw [← HL.out];exact h0
   have htk:X.take (i+1)=X.take i++[X.getD i PRow.zero]:=by
    have e2:X.getD i PRow.zero=X[i]:=by simp [List.getD,hlt]
    rw [List.take_succ_eq_append_getElem hlt,e2]
   obtain ⟨⟨xw,xn⟩,hx⟩:∃ r,r=X.getD i PRow.zero:=⟨_,rfl⟩
   rw [← hx] at a0 a1 htk
   simp only at a0 a1
   have HX:=hide hx
   have HTK:=hide htk
   clear hx htk hlt
   by_cases hz:xn=0
   ·have q1:(xn == 0)=true:=by simp [hz]
    have HQ:=hide q1
    clear hz q1
    go_wp2_with (go_at_call 145;refine (zero_any ⟨xw,xn⟩ wr).mono ?_;rw [show ((⟨xw,xn⟩:PRow).weight == 0)=true from HQ.out];rintro e w2 ⟨rfl,T2⟩;have HT2:=hide (HT.out.then T2);clear T2)
    go_ret
    exact ⟨.inr ⟨i,h0,rfl,HF.out,by rw [← HX.out];exact HQ.out⟩,HT2.out⟩
   ·have q1:(xn == 0)=false:=by simp [hz]
    have HQ:=hide q1
    clear hz q1
    go_wp2_with (go_at_call 145;refine (zero_any ⟨xw,xn⟩ wr).mono ?_;rw [show ((⟨xw,xn⟩:PRow).weight == 0)=false from HQ.out];rintro e w2 ⟨rfl,T2⟩;have HT2:=hide (HT.out.then T2);clear T2)
    go_roundw
    ·refine ⟨i+1,by simp,by omega,hide ?_,HT2⟩
     rw [HTK.out,List.filter_append,HF.out]
     have e:keepP ⟨xw,xn⟩=true:=by unfold keepP;rw [show ((⟨xw,xn⟩:PRow).weight == 0)=false from HQ.out];rfl
     simp [e]
    ·show n-(intOf (.int .i64 ((i:Int)+1))).toNat<n-(intOf (.int .i64 (i:Int))).toNat
     simp [intOf]
     omega
  ·have hX:X.take i=X:=List.take_of_length_le (by rw [← HL.out];omega)
   have HXX:=hide hX
   clear hX
   go_wp2
   go_ret
   have hf:=HF.out
   rw [HXX.out] at hf
   exact ⟨.inl ⟨rfl,hf⟩,HT.out⟩
theorem delete_any (w:World) (A:Option Addr) (n c:Nat) (X:List PRow) (h:POwn w A n c X) :
  Calls Tryz.prog 143 #[.slice A n c,delF] w fun e w'=>∃ m,m≤n∧e=.returned (.slice A m c)∧POwn w' A m c (X.filter keepP)∧Touch (fun g=>adBlock A=some g) w w':=by
 have hn:=own_le h
 have hnc:n≤c∧c≤maxLen:=by
  obtain ⟨A',c',e,h1,h2⟩:=own_len h
  injection e with _ _ e3
  subst e3
  exact ⟨by omega,h2⟩
 obtain ⟨hnc,hcm⟩:=hnc
 unfold maxLen at hn hcm
 have HO:=hide h
 have HL:=hide (pown_len h)
 have HIX:=hide (index_any w A n c X h)
 clear h
 go_enter Tryz.func143,Tryz.ntmps143
 go_wp2_with fail
 refine HIX.out.mono ?_
 rintro e w1 ⟨⟨rfl,hf⟩ | ⟨i,hi,rfl,hf,hz⟩,T1⟩
 ·have HF:=hide hf
  have HO1:=hide (own_touch HO.out T1 (fun _ _ f=>f))
  have HT:=hide T1
  clear hf T1
  go_wp2
  go_ret
  exact ⟨n,Nat.le_refl _,rfl,by rw [HF.out];exact HO1.out,HT.out.up _⟩
 ·have HF:=hide hf
  have HZ:=hide hz
  have HO1:=hide (own_touch HO.out T1 (fun _ _ f=>f))
  have HT:=hide T1
  have x0:((i:Int) == -1)=false:=by simp
  have x1:¬ ((i:Int) = -1):=by omega
  have x2:(i:Int)<(n:Int):=by omega
  clear hf hz T1
  obtain ⟨wo,hwo⟩:∃ wo,wo=w1:=⟨_,rfl⟩
  rw [← hwo] at HO1 HT ⊢
  clear hwo
  go_wp2
  go_loopw [5,6] (fun iv jv wr=>∃ i j:Nat,iv=.int .i64 i∧jv=.int .i64 j∧i<j∧j≤n∧Hid (∃ Y,POwn wr A n c Y∧Y.take i=(X.take j).filter keepP∧Y.drop j=X.drop j)∧Hid (Touch (fun g=>adBlock A=some g) w wr)) (fun _ jv _=>n-(intOf jv).toNat)
  case atStart =>
   refine ⟨i,i+1,rfl,by simp,by omega,by omega,hide ⟨X,HO1.out,?_,rfl⟩,hide (HT.out.up _)⟩
   have hlt:i<X.length:=by rw [← HL.out];exact hi
   have e2:X.getD i PRow.zero=X[i]:=by simp [List.getD,hlt]
   have hz:=HZ.out
   rw [e2] at hz
   rw [List.take_succ_eq_append_getElem hlt,List.filter_append,HF.out]
   have e:keepP X[i]=false:=by unfold keepP;rw [hz];rfl
   simp [e]
  case round =>
   obtain ⟨i2,j,rfl,rfl,hij,hjn,HE,HT2⟩:=hrel
   by_cases h0:j<n
   ·have y0:(j:Int)<(n:Int):=by omega
    obtain ⟨Y,O2,e1,e2⟩:=HE.out
    have hyl:=pown_len O2
    obtain ⟨g,hA,hg,a0,a1,_,_⟩:=pown_at O2 hyl j h0
    subst hA
    obtain ⟨g',hA',_,b0,b1,f0,f1⟩:=pown_at O2 hyl i2 (by omega)
    injection hA' with hA'
    injection hA' with hA' _
    subst hA'
    have hltX:j<X.length:=by rw [← HL.out];exact h0
    have hltY:j<Y.length:=by omega
    have hxy:Y.getD j PRow.zero=X.getD j PRow.zero:=by
     have:=congrArg (fun l=>l.getD 0 PRow.zero) e2
     simpa [List.getD] using this
    have hdr:Y.drop (j+1)=X.drop (j+1):=by
     have:=congrArg (List.drop 1) e2
     simpa using this
    have htk:X.take (j+1)=X.take j++[X.getD j PRow.zero]:=by
     have e3:X.getD j PRow.zero=X[j]:=by simp [List.getD,hltX]
     rw [List.take_succ_eq_append_getElem hltX,e3]
    rw [hxy] at a0 a1
    obtain ⟨⟨xw,xn⟩,hx⟩:∃ r,r=X.getD j PRow.zero:=⟨_,rfl⟩
    rw [← hx] at a0 a1 htk
    obtain ⟨⟨zw,zn⟩,hz⟩:∃ r,r=Y.getD i2 PRow.zero:=⟨_,rfl⟩
    rw [← hz] at b0 b1
    simp only at a0 a1 b0 b1
    have HO2:=hide O2
    have HEE:=hide (And.intro e1 (And.intro hdr (And.intro htk hyl)))
    obtain ⟨p,hp⟩:∃ p,p=wr.heap.size:=⟨_,rfl⟩
    obtain ⟨wa,hwa⟩:∃ wa,wa=wr.alloc (.cells #[.string xw,.int .i64 xn] 125):=⟨_,rfl⟩
    have ta:Touch (fun _=>False) wr wa:=by rw [hwa];exact (Touch.refl _ _).alloc _
    have ba:Blk wa p 125 #[.string xw,.int .i64 xn]:=by rw [hwa,hp];exact Blk.new _ _ _
    have HTA:=hide ta
    have HBA:=hide ba
    have HWA:=hide hwa
    have HPP:=hide hp
    have x3:i2<n:=by omega
    have x4:(i2:Int)<(n:Int):=by omega
    clear O2 e1 e2 hxy hdr htk hx hz HE hltX hltY ta ba hwa hp hyl
    by_cases hq:xn=0
    ·have q1:(xn == 0)=true:=by simp [hq]
     have HQ:=hide q1
     clear hq q1
     go_wp2_with fail
     rw [← HWA.out]
     refine (zero_any ⟨xw,xn⟩ wa).mono ?_
     rw [show ((⟨xw,xn⟩:PRow).weight == 0)=true from HQ.out]
     rintro e w2 ⟨rfl,T2⟩
     have HTC:=hide (HTA.out.then T2)
     clear T2
     go_wp2_with fail
     go_roundw
     ·obtain ⟨e1,hdr,htk,hyl⟩:=HEE.out
      refine ⟨i2,j+1,rfl,by simp,by omega,by omega,hide ⟨Y,own_touch HO2.out HTC.out (fun _ _ f=>f),?_,hdr⟩,hide (HT2.out.then (HTC.out.up _))⟩
      rw [htk,List.filter_append,e1]
      have e:keepP ⟨xw,xn⟩=false:=by unfold keepP;rw [show ((⟨xw,xn⟩:PRow).weight == 0)=true from HQ.out];rfl
      simp [e]
     ·show n-(intOf (.int .i64 ((j:Int)+1))).toNat<n-(intOf (.int .i64 (j:Int))).toNat
      simp [intOf]
      omega
    ·have q1:(xn == 0)=false:=by simp [hq]
     have HQ:=hide q1
     clear hq q1
     go_wp2_with fail
     rw [← HWA.out,← HPP.out]
     refine (zero_any ⟨xw,xn⟩ wa).mono ?_
     rw [show ((⟨xw,xn⟩:PRow).weight == 0)=false from HQ.out]
     rintro e w2 ⟨rfl,T2⟩
     have HTC:=hide (HTA.out.then T2)
     have hb2:=HBA.out.touch T2 (fun f=>f)
     obtain ⟨c0,c1⟩:w2.cell? ⟨p,0,none⟩=some (.string xw)∧w2.cell? ⟨p,1,none⟩=some (.int .i64 xn):=⟨hb2.cell 0,hb2.cell 1⟩
     have O3:=own_touch HO2.out HTC.out (fun _ _ f=>f)
     obtain ⟨g',hA',hg2,d0,d1,k0,k1⟩:=pown_at O3 (pown_len O3) i2 x3
     injection hA' with hA'
     injection hA' with hA' _
     subst hA'
     have HO3:=hide O3
     clear T2 hb2 O3 a0 a1 b0 b1 f0 f1
     go_wp2_with fail
     go_roundw
     ·obtain ⟨e1,hdr,htk,hyl⟩:=HEE.out
      have HS:=pown_set2 HO3.out i2 ⟨xw,xn⟩
      refine ⟨i2+1,j+1,by simp,by simp,by omega,by omega,hide ⟨Y.set i2 ⟨xw,xn⟩,HS,?_,?_⟩,hide ?_⟩
      ·rw [htk,List.filter_append,← e1]
       have e:keepP ⟨xw,xn⟩=true:=by unfold keepP;rw [show ((⟨xw,xn⟩:PRow).weight == 0)=false from HQ.out];rfl
       have hl2:i2<(Y.set i2 ⟨xw,xn⟩).length:=by rw [List.length_set];omega
       rw [List.take_succ_eq_append_getElem hl2]
       simp [e,List.take_set_of_le]
      ·rw [List.drop_set_of_lt (by omega)]
       exact hdr
      ·iterate 2 refine Touch.setCell ?_ (fun _=>(rfl:adBlock (some ⟨g,0,none⟩)=some g)) _
       exact HT2.out.then (HTC.out.up _)
     ·show n-(intOf (.int .i64 ((j:Int)+1))).toNat<n-(intOf (.int .i64 (j:Int))).toNat
      simp [intOf]
      omega
   ·have hjn':j=n:=by omega
    obtain ⟨Y,O2,e1,e2⟩:=HE.out
    obtain ⟨g,hA,hg,_,_,_,_⟩:=pown_at O2 (pown_len O2) i2 (by omega)
    subst hA
    have hfil:Y.take i2=X.filter keepP:=by
     rw [e1,List.take_of_length_le (by rw [← HL.out];omega)]
    obtain ⟨w3,r3,O3,T3⟩:=clear_own wr g n c Y O2 i2 (c-i2) (by omega) 0
    have HFI:=hide hfil
    have HO3:=hide O3
    have HT3:=hide (HT2.out.then (T3.mono (fun i hi e=>by rw [e];rfl)))
    have x3:i2<n:=by omega
    have x4:(i2:Int)≤(n:Int):=by omega
    have x5:¬ c=i2:=by omega
    have x6:i2≤c:=by omega
    have x7:(i2:Int)≤(c:Int):=by omega
    have HR3:=hide r3
    clear O2 e1 e2 hfil O3 T3 HE r3
    go_wp2_with fail
    rw [HR3.out]
    simp only [Result.andThen]
    rw [Oper.upon_value]
    go_wp2
    go_ret
    refine ⟨i2,by omega,rfl,?_,HT3.out⟩
    rw [← HFI.out]
    exact HO3.out
theorem pmerge_any (w:World) (s t:SL) (hs:s.Ok w) (ht:t.Ok w) (hsum:s.n+t.n≤5864062014700) :
  Calls Tryz.prog 87 #[s.val,t.val] w fun e w'=>∃ A n c Y,e=.returned (.slice A n c)∧POwn w' A n c (Y.filter keepP)∧Nrm (s.L++t.L) Y∧Touch (fun _=>False) w w'∧n≤s.n+t.n∧(A=none→n=0∧c=0)∧∀ g,adBlock A=some g→w.heap.size≤g:=by
 obtain ⟨wa,hwa⟩:∃ wa,wa=w.alloc (.cells [s.val,t.val].toArray 37):=⟨_,rfl⟩
 obtain ⟨g,hg⟩:∃ g,g=w.heap.size:=⟨_,rfl⟩
 have ta:Touch (fun _=>False) w wa:=by rw [hwa];exact (Touch.refl _ _).alloc _
 have hr:Reads wa 1 (some ⟨g,0,none⟩) 2 ([s,t].map SL.val):=by rw [hwa,hg];exact Reads.new w _ _ _ rfl
 have HOR:=hide (ordered_any wa (some ⟨g,0,none⟩) 2 2 [s,t] rfl hr (fun x hx=>by simp at hx;rcases hx with rfl | rfl;exact hs.touch ta;exact ht.touch ta) (by simp [sumN];exact hsum) (by decide))
 have HTA:=hide ta
 have HWA:=hide hwa
 have HG:=hide hg
 clear hs ht ta hr hwa hg
 obtain ⟨sA,sn,sc,sL⟩:=s
 obtain ⟨tA,tn,tc,tL⟩:=t
 simp only [SL.val] at HWA ⊢
 simp only at hsum
 go_enter Tryz.func87,Tryz.ntmps87
 go_wp2_with fail
 have e1:w.alloc (.cells #[.slice sA sn sc,.slice tA tn tc] 37)=wa:=HWA.out.symm
 rw [e1,← HG.out]
 clear e1
 refine HOR.out.mono ?_
 rintro e w1 ⟨A,n,c,Y,rfl,O1,N1,T1,h1,h2,h3⟩
 have HDE:=hide (delete_any w1 A n c Y O1)
 have HN:=hide N1
 have HT:=hide T1
 have H1:=hide (And.intro h1 (And.intro h2 h3))
 clear O1 N1 T1 h1 h2 h3
 go_wp2_with fail
 refine HDE.out.mono ?_
 rintro e w2 ⟨m,hm,rfl,O2,T2⟩
 have HO:=hide O2
 have HM:=hide hm
 have HT2:=hide (HTA.out.then (HT.out.trans T2 (fun i hi hp=>by
  have:=H1.out.2.2 i hp
  omega)))
 clear O2 T2 hm HDE
 go_wp2
 go_ret
 obtain ⟨h1,h2,h3⟩:=H1.out
 have hN:=HN.out
 simp only [List.flatMap_cons,List.flatMap_nil,List.append_nil] at hN
 simp [sumN] at h1
 have hm:=HM.out
 refine ⟨A,m,c,Y,rfl,HO.out,hN,HT2.out,by omega,fun e=>?_,fun g hg=>?_⟩
 ·have:=h2 e
  omega
 ·have:=h3 g hg
  have:=HTA.out.size
  omega
theorem psame_yes (w:World) (A:Option Addr) (n c:Nat) (X:List PRow) (hX:X.length=n) (hA:Reads w 2 A n (pCells X)) (hn:n≤maxLen) (B:Option Addr) (d:Nat) (hB:Reads w 2 B n (pCells X)) :
  Calls Tryz.prog 22 #[.slice A n c,.slice B n d] w fun e w'=>e=.returned (.bool true)∧Touch (fun _=>False) w w':=by
 unfold maxLen at hn
 have HA:=hide hA
 have HB:=hide hB
 have HX:=hide hX
 clear hA hB hX
 go_enter Tryz.func22,Tryz.ntmps22
 go_wp2
 go_loopw [5] (fun i wr=>∃ k:Nat,k≤n∧i=.int .i64 k∧Hid (Touch (fun _=>False) w wr)) (fun i _=>n-(intOf i).toNat)
 case atStart=>exact ⟨0,Nat.zero_le _,rfl,hide (Touch.refl _ _)⟩
 case round =>
  obtain ⟨k,hk,rfl,HT⟩:=hrel
  by_cases hkn:k<n
  ·obtain ⟨g,o,hg,_,a0,a1⟩:=preads_at (HA.out.touch HT.out (fun _ _ f=>f)) HX.out.symm k hkn
   obtain ⟨g',o',hg',_,b0,b1⟩:=preads_at (HB.out.touch HT.out (fun _ _ f=>f)) HX.out.symm k hkn
   subst hg hg'
   obtain ⟨⟨xw,xn⟩,hx⟩:∃ x,x=X.getD k PRow.zero:=⟨_,rfl⟩
   rw [← hx] at a0 a1 b0 b1
   simp only at a0 a1 b0 b1
   have k0:(k:Int)<(n:Int):=by omega
   clear hx
   go_wp2
   go_quiet (fail)
   go_wp2
   go_roundw
   ·exact ⟨k+1,by omega,by simp,hide (HT.out.drewN _)⟩
   ·show n-(intOf (.int .i64 ((k:Int)+1))).toNat<n-(intOf (.int .i64 (k:Int))).toNat
    simp [intOf]
    omega
  ·go_wp2
   go_ret
   exact ⟨rfl,HT.out⟩
end Go.Proofs.YthockgmbooefpaaGreatDoor
namespace Go.Proofs.YthockgmbooefpaaGreatDoor
open Go.RowKit Go.Shelf
def dctT (t:TypeId):Prop:=t = 167 ∨ t = 170 ∨ t = 173 ∨ t = 3 ∨ t = 125
structure DctX (w:World) (d:Nat) (m:Int) (L:List PRow) (wb:Nat) (B:List PRow) (n:Nat) (A:Option Addr) (c:Nat) (Z:List SV) (wA:Option Addr) (wc:Nat) (oA:Option Addr) (on oc:Nat) (O:List PRow):Prop where
 blk:Blk w d 96 #[ptrV wb,.slice oA on oc,.int .i64 m]
 wk:DWk w wb B n A c Z wA wc
 ov:RdT w 125 2 oA on (pCells O)
 len:O.length=on
 few:on≤33
 nil:oA=none→on=0∧oc=0
 lay:LayP B O L
 pos:0<d
def DctM (w:World) (d:Nat) (L:List PRow) (q:Nat):Prop:=q≤32∧∃ wb B n A c Z wA wc oA oc O,DctX w d (L.length:Int) L wb B n A c Z wA wc oA q oc O
theorem StsOk.far {w w':World} {A:Option Addr} {n:Nat} {Z:List SV} {S:Nat→Prop} (h:StsOk w A n Z) (T:Touch S w w') (hS:∀ g t,TyAt w g t→dctT t→¬ S g):StsOk w' A n Z :=
 ⟨h.rd.touch T (fun g hg=>hS g _ hg (.inr (.inl rfl))),h.len,fun z hz=>(h.el z hz).touch T (fun g hg=>hS g _ hg (.inr (.inr (.inl rfl))))⟩
theorem DWk.far {w w':World} {b:Nat} {L:List PRow} {n:Nat} {A:Option Addr} {c:Nat} {Z:List SV} {wA:Option Addr} {wc:Nat} {S:Nat→Prop} (h:DWk w b L n A c Z wA wc) (T:Touch S w w') (hS:∀ g t,TyAt w g t→dctT t→¬ S g):DWk w' b L n A c Z wA wc :=
 ⟨⟨h.wk.blk.touch T (hS _ _ (blk_ty h.wk.blk) (.inl rfl)),h.wk.sts.far T hS,h.wk.wds.touch T (fun g hg=>hS g _ hg (.inr (.inr (.inr (.inl rfl))))),h.wk.len⟩,h.st,h.few⟩
section
variable {w w':World} {d:Nat} {m:Int} {L:List PRow} {wb:Nat} {B:List PRow} {n:Nat} {A:Option Addr} {c:Nat} {Z:List SV} {wA:Option Addr} {wc:Nat} {oA:Option Addr} {on oc:Nat} {O:List PRow} {q:Nat} {S:Nat→Prop}
theorem DctX.far (h:DctX w d m L wb B n A c Z wA wc oA on oc O) (T:Touch S w w') (hd:¬ S d) (hS:∀ g t,TyAt w g t→dctT t→¬ S g):DctX w' d m L wb B n A c Z wA wc oA on oc O :=
 ⟨h.blk.touch T hd,h.wk.far T hS,h.ov.touch T (fun g hg=>hS g _ hg (.inr (.inr (.inr (.inr rfl))))),h.len,h.few,h.nil,h.lay,h.pos⟩
theorem DctX.quiet (h:DctX w d m L wb B n A c Z wA wc oA on oc O) (T:Touch (fun _=>False) w w'):DctX w' d m L wb B n A c Z wA wc oA on oc O:=h.far T (fun f=>f) (fun _ _ _ _ f=>f)
theorem DctM.quiet (h:DctM w d L q) (T:Touch (fun _=>False) w w'):DctM w' d L q:=by
 obtain ⟨h1,wb,B,n,A,c,Z,wA,wc,oA,oc,O,hx⟩:=h
 exact ⟨h1,wb,B,n,A,c,Z,wA,wc,oA,oc,O,hx.quiet T⟩
theorem DctM.far (h:DctM w d L q) (T:Touch S w w') (hd:¬ S d) (hS:∀ g t,TyAt w g t→dctT t→¬ S g):DctM w' d L q:=by
 obtain ⟨h1,wb,B,n,A,c,Z,wA,wc,oA,oc,O,hx⟩:=h
 exact ⟨h1,wb,B,n,A,c,Z,wA,wc,oA,oc,O,hx.far T hd hS⟩
theorem DctM.dict (h:DctM w d L q):DictP L:=by
 obtain ⟨h1,wb,B,n,A,c,Z,wA,wc,oA,oc,O,hx⟩:=h
 exact hx.lay.dL
theorem DctM.ty (h:DctM w d L q):TyAt w d 96 := by
 obtain ⟨h1,wb,B,n,A,c,Z,wA,wc,oA,oc,O,hx⟩:=h
 exact blk_ty hx.blk
theorem DctM.pos (h:DctM w d L q):0<d:=by
 obtain ⟨h1,wb,B,n,A,c,Z,wA,wc,oA,oc,O,hx⟩:=h
 exact hx.pos
end
theorem dict_ne {w:World} {d g:Nat} {t:TypeId} (h:TyAt w d 96) (hg:TyAt w g t) (ht:dctT t):¬ g=d:=by
 intro e
 subst e
 refine h.ne hg ?_ rfl
 rcases ht with rfl | rfl | rfl | rfl | rfl<;>decide
theorem DctM.other {w w':World} {d e:Nat} {L:List PRow} {q:Nat} (h:DctM w d L q) (T:Touch (fun g=>g=e) w w') (he:TyAt w e 96) (hne:d≠e):DctM w' d L q :=
 h.far T hne (fun g t hg ht=>dict_ne he hg ht)
theorem Lst.far {w w':World} {S:Nat→Prop} (h:Lst w) (T:Touch S w w') (hS:¬ S 0):Lst w':=by
 obtain ⟨h0,h1,h2,h3⟩:=h
 exact ⟨Nat.lt_of_lt_of_le h0 T.size,(T.cell (a:=⟨0,2,none⟩) h0 hS).trans h1,(T.cell (a:=⟨0,3,none⟩) h0 hS).trans h2,(T.cell (a:=⟨0,4,none⟩) h0 hS).trans h3⟩
theorem dweigh_x (w:World) (hL:Lst w) {d:Nat} {m:Int} {L:List PRow} {wb:Nat} {B:List PRow} {n:Nat} {A:Option Addr} {c:Nat} {Z:List SV} {wA:Option Addr} {wc:Nat} {oA:Option Addr} {on oc:Nat} {O:List PRow} (hx:DctX w d m L wb B n A c Z wA wc oA on oc O) (k:ByteArray) (hk:k.size≤1099511627776) :
  Calls Tryz.prog 15 #[ptrV d,.string k] w fun e w'=>e=.returned (.tuple #[.int .i64 (findP k.toList L).1,.bool (findP k.toList L).2])∧Touch (fun _=>False) w w':=by
 have hf:=hx.lay.find k.toList
 have HPF:=hide (pfind_any w oA on oc O hx.len hx.ov.rd (by unfold maxLen;have:=hx.few;omega) k)
 have HDF:=hide (fun (wx:World) (T:Touch (fun _=>False) w wx)=>dfind_any (hx.wk.quiet T) hx.lay.dB (Lst.touch hL T) k hk)
 have HB:=hide hx.blk
 obtain ⟨x0,x1,x2⟩:=hx.blk.facts
 obtain ⟨⟨x,t⟩,hxo⟩:∃ r,r=findP k.toList O:=⟨_,rfl⟩
 obtain ⟨⟨y,u⟩,hyb⟩:∃ r,r=findP k.toList B:=⟨_,rfl⟩
 rw [← hxo,← hyb] at hf
 rw [← hxo] at HPF
 simp only [← hyb] at HDF
 simp only at HPF HDF hf
 clear hx hL hk hxo hyb
 cases t with
 | true =>
  rw [if_pos rfl] at hf
  rw [hf]
  clear hf HDF
  go_enter Tryz.func15,Tryz.ntmps15
  go_wp2_with fail
  refine HPF.out.mono ?_
  rintro e w1 ⟨rfl,T1⟩
  have HT1:=hide T1
  clear T1 HPF x0 x1 x2
  go_wp2_with fail
  go_ret2
  exact ⟨by simp,HT1.out⟩
 | false =>
  rw [if_neg (by decide)] at hf
  rw [hf]
  clear hf
  go_enter Tryz.func15,Tryz.ntmps15
  go_wp2_with fail
  refine HPF.out.mono ?_
  rintro e w1 ⟨rfl,T1⟩
  have HT1:=hide T1
  have HD1:=hide (HDF.out _ T1)
  clear x0 x1 x2
  obtain ⟨x0,x1,x2⟩:=(HB.out.touch T1 (fun f=>f)).facts
  clear T1 HPF HDF
  go_wp2_with fail
  refine HD1.out.mono ?_
  rintro e w2 ⟨rfl,T2⟩
  have HT2:=hide (HT1.out.then T2)
  clear T2
  go_wp2_with fail
  go_ret2
  exact ⟨rfl,HT2.out⟩
theorem dweigh_any (w:World) (hL:Lst w) {d:Nat} {L:List PRow} {q:Nat} (h:DctM w d L q) (k:ByteArray) (hk:k.size≤1099511627776) :
  Calls Tryz.prog 15 #[ptrV d,.string k] w fun e w'=>e=.returned (.tuple #[.int .i64 (findP k.toList L).1,.bool (findP k.toList L).2])∧Touch (fun _=>False) w w':=by
 obtain ⟨h1,wb,B,n,A,c,Z,wA,wc,oA,oc,O,hx⟩:=h
 exact dweigh_x w hL hx k hk
end Go.Proofs.YthockgmbooefpaaGreatDoor
