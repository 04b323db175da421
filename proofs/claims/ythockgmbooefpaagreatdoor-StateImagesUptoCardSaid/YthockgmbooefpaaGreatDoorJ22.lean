/- What the law rests on, part 22. No condition but those that each theorem names. -/
import Derived.Test.YthockgmbooefpaaGreatDoorJ03
import Derived.Test.YthockgmbooefpaaGreatDoorJ11
import Derived.Laws.CopyRow
import Derived.Test.YthockgmbooefpaaGreatDoorJ04
import Derived.Test.YthockgmbooefpaaGreatDoorJ06
set_option linter.unusedSectionVars false
set_option linter.unusedSimpArgs false
set_option linter.unusedVariables false
namespace Go.Proofs.YthockgmbooefpaaGreatDoor
open Go.RowKit
set_option maxRecDepth 100000 in
theorem clear_own (w:World) (g n c:Nat) (X:List PRow) (h:POwn w (some ⟨g,0,none⟩) n c X) (i c':Nat) (hi:i<n) (ty:TypeId) :
  ∃ w',(Builtin.clear_ #[37] ty #[.slice (some ⟨g,i*2,none⟩) (n-i) c']).run Tryz.prog w=.ok (.tuple #[]) w'∧POwn w' (some ⟨g,0,none⟩) i c (X.take i)∧Touch (fun k=>k=g) w w':=by
 obtain ⟨i0,hi0,hz0,hz1,_⟩:=info_parts infoPair
 rcases h.2 with ⟨e,_⟩ | ⟨g',cap,cur,e,_,hgg,hnc,hcm,hcs,ht⟩
 ·cases e
 injection e with e1 e2 e3
 injection e1 with e1
 injection e1 with e1
 subst e1 e3
 obtain ⟨Zs,hZ⟩:∃ Zs,Zs=(Builtin.zeroCells (Value.agg #[.string ByteArray.empty,.int .i64 0]).cells (n-i)).toList:=⟨_,rfl⟩
 have hzl:Zs.length=(n-i)*2:=by rw [hZ,Array.length_toList];simp [Builtin.zeroCells,Value.cells]
 have hz1c:∀ v∈Zs,v.oneCell'=true:=by
  intro v hv
  rw [hZ] at hv
  simp only [Builtin.zeroCells,Array.toList_map,List.mem_map] at hv
  obtain ⟨j,_,rfl⟩:=hv
  have:j % (Value.agg #[Value.string ByteArray.empty,Value.int IntKind.i64 0]).cells.size=0∨j % (Value.agg #[Value.string ByteArray.empty,Value.int IntKind.i64 0]).cells.size=1:=by
   simp only [Value.cells,List.size_toArray,List.length_cons,List.length_nil]
   omega
  rcases this with e | e<;>(rw [e];rfl)
 have hst:=run_storeCells_at (P:=Tryz.prog) g (i*2) 125 Zs 0 cur w hgg (by rw [hzl,hcs];omega) hz1c
 simp only [Nat.add_zero] at hst
 obtain ⟨cs,hcsd⟩:∃ cs,cs=(cur.toList.take (i*2)++Zs++cur.toList.drop (i*2+Zs.length)).toArray:=⟨_,rfl⟩
 rw [← hcsd] at hst
 refine ⟨w.setRow g cs,?_,⟨?_,.inr ⟨g,c,cs,rfl,Nat.zero_le _,setRow_heap w g cur cs _ _ hgg,by omega,hcm,?_,?_⟩⟩,⟨rfl,rfl,rfl,by simp,fun k _ hk=>setRow_other w g k cs hk⟩⟩
 ·obtain ⟨m,hm⟩:∃ m,n-i=m+1:=⟨n-i-1,by omega⟩
  have hv:∀ w,(zeroValue 125).run Tryz.prog w=.ok (Value.agg #[.string ByteArray.empty,.int .i64 0]) w:=fun w=>by simp [zeroValue,typeInfo,hi0,hz0]
  rw [hm] at hZ ⊢
  simp [Builtin.clear_,run_underlying Tryz.underlying37,hv,← hZ,hst]
 ·rw [pCells_len,List.length_take,← pown_len h];omega
 ·rw [hcsd];simp [hzl,hcs];omega
 ·rw [hcsd]
  simp only [List.append_assoc]
  rw [List.take_append_of_le_length (by rw [List.length_take,Array.length_toList];omega),List.take_take,Nat.min_self,← pCells_take,← ht,List.take_take]
  congr 1
  omega
abbrev delF:Value:=.func (.func 145) #[] #[]
set_option maxRecDepth 100000 in
theorem zero_any (a:PRow) (w:World) :
  Calls Tryz.prog 145 #[a.val] w fun e w'=>e=.returned (.bool (a.weight == 0))∧Touch (fun _=>False) w w':=by
 obtain ⟨aw,an⟩:=a
 rw [pval_eq]
 go_enter Tryz.func145,Tryz.ntmps145
 go_wp2
 go_ret
 exact ⟨rfl,(Touch.refl _ _).alloc _⟩
set_option maxRecDepth 100000 in
set_option maxHeartbeats 1000000 in
theorem index_any (w:World) (A:Option Addr) (n c:Nat) (X:List PRow) (h:POwn w A n c X) :
  Calls Tryz.prog 174 #[.slice A n c,delF] w fun e w'=>((e=.returned (.int .i64 (-1))∧X.filter keepP=X)∨∃ i,i<n∧e=.returned (.int .i64 (i:Nat))∧(X.take i).filter keepP=X.take i∧((X.getD i PRow.zero).weight == 0)=true)∧Touch (fun _=>False) w w':=by
 have hn:=own_le h
 unfold maxLen at hn
 have HO:=hide h
 have HL:=hide (pown_len h)
 clear h
 go_enter Tryz.func174,Tryz.ntmps174
 go_wp2
 go_loopw [8] (fun iv wr=>∃ i:Nat,iv=.int .i64 i∧i≤n∧Hid ((X.take i).filter keepP=X.take i)∧Hid (Touch (fun _=>False) w wr)) (fun iv _=>n-(intOf iv).toNat)
 case atStart=>exact ⟨0,rfl,Nat.zero_le _,hide (by simp),hide (Touch.refl _ _)⟩
 case round =>
  obtain ⟨i,rfl,hin,HF,HT⟩:=hrel
  by_cases h0:i<n
  ·have y0:(i:Int)<(n:Int):=by omega
   obtain ⟨g,rfl,hg,a0,a1,_,_⟩:=pown_at (own_touch HO.out HT.out (fun _ _ f=>f)) HL.out i h0
   have hlt:i<X.length:=by rw [← HL.out];exact h0
   have htk:X.take (i+1)=X.take i++[X.getD i PRow.zero]:=by
    have e2:X.getD i PRow.zero=X[i]:=by simp [List.getD,hlt]
    rw [List.take_succ_eq_append_getElem hlt,e2]
   obtain ⟨⟨xw,xn⟩,hx⟩:∃ r,r=X.getD i PRow.zero:=⟨_,rfl⟩
   rw [← hx] at a0 a1 htk
   simp only at a0 a1
   have HX:=hide hx
   have HTK:=hide htk
   clear hx htk hlt
   by_cases hz:xn=0
   ·have q1:(xn == 0)=true:=by simp [hz]
    have HQ:=hide q1
    clear hz q1
    go_wp2_with (go_at_call 145;refine (zero_any ⟨xw,xn⟩ wr).mono ?_;rw [show ((⟨xw,xn⟩:PRow).weight == 0)=true from HQ.out];rintro e w2 ⟨rfl,T2⟩;have HT2:=hide (HT.out.then T2);clear T2)
    go_ret
    exact ⟨.inr ⟨i,h0,rfl,HF.out,by rw [← HX.out];exact HQ.out⟩,HT2.out⟩
   ·have q1:(xn == 0)=false:=by simp [hz]
    have HQ:=hide q1
    clear hz q1
    go_wp2_with (go_at_call 145;refine (zero_any ⟨xw,xn⟩ wr).mono ?_;rw [show ((⟨xw,xn⟩:PRow).weight == 0)=false from HQ.out];rintro e w2 ⟨rfl,T2⟩;have HT2:=hide (HT.out.then T2);clear T2)
    go_roundw
    ·refine ⟨i+1,by simp,by omega,hide ?_,HT2⟩
     rw [HTK.out,List.filter_append,HF.out]
     have e:keepP ⟨xw,xn⟩=true:=by unfold keepP;rw [show ((⟨xw,xn⟩:PRow).weight == 0)=false from HQ.out];rfl
     simp [e]
    ·show n-(intOf (.int .i64 ((i:Int)+1))).toNat<n-(intOf (.int .i64 (i:Int))).toNat
     simp [intOf]
     omega
  ·have hX:X.take i=X:=List.take_of_length_le (by rw [← HL.out];omega)
   have HXX:=hide hX
   clear hX
   go_wp2
   go_ret
   have hf:=HF.out
   rw [HXX.out] at hf
   exact ⟨.inl ⟨rfl,hf⟩,HT.out⟩
end Go.Proofs.YthockgmbooefpaaGreatDoor
namespace Go.Proofs.YthockgmbooefpaaGreatDoor
open Go.RowKit
set_option maxRecDepth 100000 in
set_option maxHeartbeats 2000000 in
theorem delete_any (w:World) (A:Option Addr) (n c:Nat) (X:List PRow) (h:POwn w A n c X) :
  Calls Tryz.prog 143 #[.slice A n c,delF] w fun e w'=>∃ m,m≤n∧e=.returned (.slice A m c)∧POwn w' A m c (X.filter keepP)∧Touch (fun g=>adBlock A=some g) w w':=by
 have hn:=own_le h
 have hnc:n≤c∧c≤maxLen:=by
  obtain ⟨A',c',e,h1,h2⟩:=own_len h
  injection e with _ _ e3
  subst e3
  exact ⟨by omega,h2⟩
 obtain ⟨hnc,hcm⟩:=hnc
 unfold maxLen at hn hcm
 have HO:=hide h
 have HL:=hide (pown_len h)
 have HIX:=hide (index_any w A n c X h)
 clear h
 go_enter Tryz.func143,Tryz.ntmps143
 go_wp2_with fail
 refine HIX.out.mono ?_
 rintro e w1 ⟨⟨rfl,hf⟩ | ⟨i,hi,rfl,hf,hz⟩,T1⟩
 ·have HF:=hide hf
  have HO1:=hide (own_touch HO.out T1 (fun _ _ f=>f))
  have HT:=hide T1
  clear hf T1
  go_wp2
  go_ret
  exact ⟨n,Nat.le_refl _,rfl,by rw [HF.out];exact HO1.out,HT.out.up _⟩
 ·have HF:=hide hf
  have HZ:=hide hz
  have HO1:=hide (own_touch HO.out T1 (fun _ _ f=>f))
  have HT:=hide T1
  have x0:((i:Int) == -1)=false:=by simp
  have x1:¬ ((i:Int) = -1):=by omega
  have x2:(i:Int)<(n:Int):=by omega
  clear hf hz T1
  obtain ⟨wo,hwo⟩:∃ wo,wo=w1:=⟨_,rfl⟩
  rw [← hwo] at HO1 HT ⊢
  clear hwo
  go_wp2
  go_loopw [5,6] (fun iv jv wr=>∃ i j:Nat,iv=.int .i64 i∧jv=.int .i64 j∧i<j∧j≤n∧Hid (∃ Y,POwn wr A n c Y∧Y.take i=(X.take j).filter keepP∧Y.drop j=X.drop j)∧Hid (Touch (fun g=>adBlock A=some g) w wr)) (fun _ jv _=>n-(intOf jv).toNat)
  case atStart =>
   refine ⟨i,i+1,rfl,by simp,by omega,by omega,hide ⟨X,HO1.out,?_,rfl⟩,hide (HT.out.up _)⟩
   have hlt:i<X.length:=by rw [← HL.out];exact hi
   have e2:X.getD i PRow.zero=X[i]:=by simp [List.getD,hlt]
   have hz:=HZ.out
   rw [e2] at hz
   rw [List.take_succ_eq_append_getElem hlt,List.filter_append,HF.out]
   have e:keepP X[i]=false:=by unfold keepP;rw [hz];rfl
   simp [e]
  case round =>
   obtain ⟨i2,j,rfl,rfl,hij,hjn,HE,HT2⟩:=hrel
   by_cases h0:j<n
   ·have y0:(j:Int)<(n:Int):=by omega
    obtain ⟨Y,O2,e1,e2⟩:=HE.out
    have hyl:=pown_len O2
    obtain ⟨g,hA,hg,a0,a1,_,_⟩:=pown_at O2 hyl j h0
    subst hA
    obtain ⟨g',hA',_,b0,b1,f0,f1⟩:=pown_at O2 hyl i2 (by omega)
    injection hA' with hA'
    injection hA' with hA' _
    subst hA'
    have hltX:j<X.length:=by rw [← HL.out];exact h0
    have hltY:j<Y.length:=by omega
    have hxy:Y.getD j PRow.zero=X.getD j PRow.zero:=by
     have:=congrArg (fun l=>l.getD 0 PRow.zero) e2
     simpa [List.getD] using this
    have hdr:Y.drop (j+1)=X.drop (j+1):=by
     have:=congrArg (List.drop 1) e2
     simpa using this
    have htk:X.take (j+1)=X.take j++[X.getD j PRow.zero]:=by
     have e3:X.getD j PRow.zero=X[j]:=by simp [List.getD,hltX]
     rw [List.take_succ_eq_append_getElem hltX,e3]
    rw [hxy] at a0 a1
    obtain ⟨⟨xw,xn⟩,hx⟩:∃ r,r=X.getD j PRow.zero:=⟨_,rfl⟩
    rw [← hx] at a0 a1 htk
    obtain ⟨⟨zw,zn⟩,hz⟩:∃ r,r=Y.getD i2 PRow.zero:=⟨_,rfl⟩
    rw [← hz] at b0 b1
    simp only at a0 a1 b0 b1
    have HO2:=hide O2
    have HEE:=hide (And.intro e1 (And.intro hdr (And.intro htk hyl)))
    obtain ⟨p,hp⟩:∃ p,p=wr.heap.size:=⟨_,rfl⟩
    obtain ⟨wa,hwa⟩:∃ wa,wa=wr.alloc (.cells #[.string xw,.int .i64 xn] 125):=⟨_,rfl⟩
    have ta:Touch (fun _=>False) wr wa:=by rw [hwa];exact (Touch.refl _ _).alloc _
    have ba:Blk wa p 125 #[.string xw,.int .i64 xn]:=by rw [hwa,hp];exact Blk.new _ _ _
    have HTA:=hide ta
    have HBA:=hide ba
    have HWA:=hide hwa
    have HPP:=hide hp
    have x3:i2<n:=by omega
    have x4:(i2:Int)<(n:Int):=by omega
    clear O2 e1 e2 hxy hdr htk hx hz HE hltX hltY ta ba hwa hp hyl
    by_cases hq:xn=0
    ·have q1:(xn == 0)=true:=by simp [hq]
     have HQ:=hide q1
     clear hq q1
     go_wp2_with fail
     rw [← HWA.out]
     refine (zero_any ⟨xw,xn⟩ wa).mono ?_
     rw [show ((⟨xw,xn⟩:PRow).weight == 0)=true from HQ.out]
     rintro e w2 ⟨rfl,T2⟩
     have HTC:=hide (HTA.out.then T2)
     clear T2
     go_wp2_with fail
     go_roundw
     ·obtain ⟨e1,hdr,htk,hyl⟩:=HEE.out
      refine ⟨i2,j+1,rfl,by simp,by omega,by omega,hide ⟨Y,own_touch HO2.out HTC.out (fun _ _ f=>f),?_,hdr⟩,hide (HT2.out.then (HTC.out.up _))⟩
      rw [htk,List.filter_append,e1]
      have e:keepP ⟨xw,xn⟩=false:=by unfold keepP;rw [show ((⟨xw,xn⟩:PRow).weight == 0)=true from HQ.out];rfl
      simp [e]
     ·show n-(intOf (.int .i64 ((j:Int)+1))).toNat<n-(intOf (.int .i64 (j:Int))).toNat
      simp [intOf]
      omega
    ·have q1:(xn == 0)=false:=by simp [hq]
     have HQ:=hide q1
     clear hq q1
     go_wp2_with fail
     rw [← HWA.out,← HPP.out]
     refine (zero_any ⟨xw,xn⟩ wa).mono ?_
     rw [show ((⟨xw,xn⟩:PRow).weight == 0)=false from HQ.out]
     rintro e w2 ⟨rfl,T2⟩
     have HTC:=hide (HTA.out.then T2)
     have hb2:=HBA.out.touch T2 (fun f=>f)
     obtain ⟨c0,c1⟩:w2.cell? ⟨p,0,none⟩=some (.string xw)∧w2.cell? ⟨p,1,none⟩=some (.int .i64 xn):=⟨hb2.cell 0,hb2.cell 1⟩
     have O3:=own_touch HO2.out HTC.out (fun _ _ f=>f)
     obtain ⟨g',hA',hg2,d0,d1,k0,k1⟩:=pown_at O3 (pown_len O3) i2 x3
     injection hA' with hA'
     injection hA' with hA' _
     subst hA'
     have HO3:=hide O3
     clear T2 hb2 O3 a0 a1 b0 b1 f0 f1
     go_wp2_with fail
     go_roundw
     ·obtain ⟨e1,hdr,htk,hyl⟩:=HEE.out
      have HS:=pown_set2 HO3.out i2 ⟨xw,xn⟩
      refine ⟨i2+1,j+1,by simp,by simp,by omega,by omega,hide ⟨Y.set i2 ⟨xw,xn⟩,HS,?_,?_⟩,hide ?_⟩
      ·rw [htk,List.filter_append,← e1]
       have e:keepP ⟨xw,xn⟩=true:=by unfold keepP;rw [show ((⟨xw,xn⟩:PRow).weight == 0)=false from HQ.out];rfl
       have hl2:i2<(Y.set i2 ⟨xw,xn⟩).length:=by rw [List.length_set];omega
       rw [List.take_succ_eq_append_getElem hl2]
       simp [e,List.take_set_of_le]
      ·rw [List.drop_set_of_lt (by omega)]
       exact hdr
      ·iterate 2 refine Touch.setCell ?_ (fun _=>(rfl:adBlock (some ⟨g,0,none⟩)=some g)) _
       exact HT2.out.then (HTC.out.up _)
     ·show n-(intOf (.int .i64 ((j:Int)+1))).toNat<n-(intOf (.int .i64 (j:Int))).toNat
      simp [intOf]
      omega
   ·have hjn':j=n:=by omega
    obtain ⟨Y,O2,e1,e2⟩:=HE.out
    obtain ⟨g,hA,hg,_,_,_,_⟩:=pown_at O2 (pown_len O2) i2 (by omega)
    subst hA
    have hfil:Y.take i2=X.filter keepP:=by
     rw [e1,List.take_of_length_le (by rw [← HL.out];omega)]
    obtain ⟨w3,r3,O3,T3⟩:=clear_own wr g n c Y O2 i2 (c-i2) (by omega) 0
    have HFI:=hide hfil
    have HO3:=hide O3
    have HT3:=hide (HT2.out.then (T3.mono (fun i hi e=>by rw [e];rfl)))
    have x3:i2<n:=by omega
    have x4:(i2:Int)≤(n:Int):=by omega
    have x5:¬ c=i2:=by omega
    have x6:i2≤c:=by omega
    have x7:(i2:Int)≤(c:Int):=by omega
    have HR3:=hide r3
    clear O2 e1 e2 hfil O3 T3 HE r3
    go_wp2_with fail
    rw [HR3.out]
    simp only [Result.andThen]
    rw [Oper.upon_value]
    go_wp2
    go_ret
    refine ⟨i2,by omega,rfl,?_,HT3.out⟩
    rw [← HFI.out]
    exact HO3.out
end Go.Proofs.YthockgmbooefpaaGreatDoor
namespace Go.Proofs.YthockgmbooefpaaGreatDoor
open Go.RowKit
set_option maxRecDepth 100000 in
set_option maxHeartbeats 1000000 in
theorem pmerge_any (w:World) (s t:SL) (hs:s.Ok w) (ht:t.Ok w) (hsum:s.n+t.n≤5864062014700) :
  Calls Tryz.prog 87 #[s.val,t.val] w fun e w'=>∃ A n c Y,e=.returned (.slice A n c)∧POwn w' A n c (Y.filter keepP)∧Nrm (s.L++t.L) Y∧Touch (fun _=>False) w w'∧n≤s.n+t.n∧(A=none→n=0∧c=0)∧∀ g,adBlock A=some g→w.heap.size≤g:=by
 obtain ⟨wa,hwa⟩:∃ wa,wa=w.alloc (.cells [s.val,t.val].toArray 37):=⟨_,rfl⟩
 obtain ⟨g,hg⟩:∃ g,g=w.heap.size:=⟨_,rfl⟩
 have ta:Touch (fun _=>False) w wa:=by rw [hwa];exact (Touch.refl _ _).alloc _
 have hr:Reads wa 1 (some ⟨g,0,none⟩) 2 ([s,t].map SL.val):=by rw [hwa,hg];exact Reads.new w _ _ _ rfl
 have HOR:=hide (ordered_any wa (some ⟨g,0,none⟩) 2 2 [s,t] rfl hr (fun x hx=>by simp at hx;rcases hx with rfl | rfl;exact hs.touch ta;exact ht.touch ta) (by simp [sumN];exact hsum) (by decide))
 have HTA:=hide ta
 have HWA:=hide hwa
 have HG:=hide hg
 clear hs ht ta hr hwa hg
 obtain ⟨sA,sn,sc,sL⟩:=s
 obtain ⟨tA,tn,tc,tL⟩:=t
 simp only [SL.val] at HWA ⊢
 simp only at hsum
 go_enter Tryz.func87,Tryz.ntmps87
 go_wp2_with fail
 have e1:w.alloc (.cells #[.slice sA sn sc,.slice tA tn tc] 37)=wa:=HWA.out.symm
 rw [e1,← HG.out]
 clear e1
 refine HOR.out.mono ?_
 rintro e w1 ⟨A,n,c,Y,rfl,O1,N1,T1,h1,h2,h3⟩
 have HDE:=hide (delete_any w1 A n c Y O1)
 have HN:=hide N1
 have HT:=hide T1
 have H1:=hide (And.intro h1 (And.intro h2 h3))
 clear O1 N1 T1 h1 h2 h3
 go_wp2_with fail
 refine HDE.out.mono ?_
 rintro e w2 ⟨m,hm,rfl,O2,T2⟩
 have HO:=hide O2
 have HM:=hide hm
 have HT2:=hide (HTA.out.then (HT.out.trans T2 (fun i hi hp=>by
  have:=H1.out.2.2 i hp
  omega)))
 clear O2 T2 hm HDE
 go_wp2
 go_ret
 obtain ⟨h1,h2,h3⟩:=H1.out
 have hN:=HN.out
 simp only [List.flatMap_cons,List.flatMap_nil,List.append_nil] at hN
 simp [sumN] at h1
 have hm:=HM.out
 refine ⟨A,m,c,Y,rfl,HO.out,hN,HT2.out,by omega,fun e=>?_,fun g hg=>?_⟩
 ·have:=h2 e
  omega
 ·have:=h3 g hg
  have:=HTA.out.size
  omega
set_option maxRecDepth 100000 in
set_option maxHeartbeats 1000000 in
theorem psame_yes (w:World) (A:Option Addr) (n c:Nat) (X:List PRow) (hX:X.length=n) (hA:Reads w 2 A n (pCells X)) (hn:n≤maxLen) (B:Option Addr) (d:Nat) (hB:Reads w 2 B n (pCells X)) :
  Calls Tryz.prog 22 #[.slice A n c,.slice B n d] w fun e w'=>e=.returned (.bool true)∧Touch (fun _=>False) w w':=by
 unfold maxLen at hn
 have HA:=hide hA
 have HB:=hide hB
 have HX:=hide hX
 clear hA hB hX
 go_enter Tryz.func22,Tryz.ntmps22
 go_wp2
 go_loopw [5] (fun i wr=>∃ k:Nat,k≤n∧i=.int .i64 k∧Hid (Touch (fun _=>False) w wr)) (fun i _=>n-(intOf i).toNat)
 case atStart=>exact ⟨0,Nat.zero_le _,rfl,hide (Touch.refl _ _)⟩
 case round =>
  obtain ⟨k,hk,rfl,HT⟩:=hrel
  by_cases hkn:k<n
  ·obtain ⟨g,o,hg,_,a0,a1⟩:=preads_at (HA.out.touch HT.out (fun _ _ f=>f)) HX.out.symm k hkn
   obtain ⟨g',o',hg',_,b0,b1⟩:=preads_at (HB.out.touch HT.out (fun _ _ f=>f)) HX.out.symm k hkn
   subst hg hg'
   obtain ⟨⟨xw,xn⟩,hx⟩:∃ x,x=X.getD k PRow.zero:=⟨_,rfl⟩
   rw [← hx] at a0 a1 b0 b1
   simp only at a0 a1 b0 b1
   have k0:(k:Int)<(n:Int):=by omega
   clear hx
   go_wp2
   go_quiet (fail)
   go_wp2
   go_roundw
   ·exact ⟨k+1,by omega,by simp,hide (HT.out.drewN _)⟩
   ·show n-(intOf (.int .i64 ((k:Int)+1))).toNat<n-(intOf (.int .i64 (k:Int))).toNat
    simp [intOf]
    omega
  ·go_wp2
   go_ret
   exact ⟨rfl,HT.out⟩
end Go.Proofs.YthockgmbooefpaaGreatDoor
namespace Go.Proofs.YthockgmbooefpaaGreatDoor
def errAt (L:List PRow) (i:Nat):Int:=if wordU (L.getD i PRow.zero).word.toList=false then 71 else if (decide (1≤(L.getD i PRow.zero).weight) && decide ((L.getD i PRow.zero).weight≤1048576))=false then 72 else 73
theorem errAt_eq (L:List PRow) (i:Nat):errAt L i=if wordU (L.getD i PRow.zero).word.toList=false then 71 else if (decide (1≤(L.getD i PRow.zero).weight) && decide ((L.getD i PRow.zero).weight≤1048576))=false then 72 else 73:=rfl
def errU (L:List PRow):Int:=if L.length≤4096 then (match (List.range L.length).find? (fun i=>!fitP L i) with | some i=>errAt L i | none=>0) else 70
theorem errU_long {L:List PRow} (h:¬ L.length≤4096):errU L=70:=by unfold errU;rw [if_neg h]
theorem errU_at {L:List PRow} {i:Nat} (h4:L.length≤4096) (hi:i<L.length) (hF:∀ k,k<i→fitP L k=true) (hno:fitP L i=false):errU L=errAt L i:=by
 have h:(List.range L.length).find? (fun i=>!fitP L i)=some i:=by
  rw [List.find?_range_eq_some]
  exact ⟨by rw [hno];rfl,List.mem_range.2 hi,fun j hj=>by rw [hF j hj];rfl⟩
 unfold errU
 rw [if_pos h4,h]
theorem err71 {x:Int} {v:Bool} {t:Bool} (hx:x=if v=false then 71 else if t=false then 72 else 73) (h:v=false):x=71:=by rw [hx,if_pos h]
theorem err72 {x:Int} {v:Bool} {t:Bool} (hx:x=if v=false then 71 else if t=false then 72 else 73) (h:v=true) (h2:t=false):x=72:=by rw [hx,if_neg (by rw [h];decide),if_pos h2]
theorem err73 {x:Int} {v:Bool} {t:Bool} (hx:x=if v=false then 71 else if t=false then 72 else 73) (h:v=true) (h2:t=true):x=73:=by rw [hx,if_neg (by rw [h];decide),if_neg (by rw [h2];decide)]
end Go.Proofs.YthockgmbooefpaaGreatDoor
namespace Go.Proofs.YthockgmbooefpaaGreatDoor
deriving instance DecidableEq for StP
def addS (K:List StP) (s:StP):List StP × Nat:=match K.findIdx? (fun x=>decide (x=s)) with
 | some i=>(K,i)
 | none=>(K++[s],K.length)
def fstArcs (st:List StP→Rs→List StP × Nat) (low:Int) (R:Rs):List StP→List Nat→List StP × List (Nat × Int × Nat)
 | K,[]=>(K,[])
 | K,c :: cs=>((fstArcs st low R (st K (underR R c)).1 cs).1,(c,leastR (underR R c)-low,(st K (underR R c)).2) :: (fstArcs st low R (st K (underR R c)).1 cs).2)
def fstOut (R:Rs):Int:=if finR R=true then outR R-leastR R else 0
def fstF:Nat→List StP→Rs→List StP × Nat
 | 0,K,_=>(K,0)
 | f+1,K,R=>addS (fstArcs (fstF f) (leastR R) R K (firstsR R)).1 ⟨finR R,fstOut R,(fstArcs (fstF f) (leastR R) R K (firstsR R)).2⟩
theorem fstArcs_snoc (st:List StP→Rs→List StP × Nat) (low:Int) (R:Rs) (c:Nat):∀ (cs:List Nat) (K:List StP),fstArcs st low R K (cs++[c])=((st (fstArcs st low R K cs).1 (underR R c)).1,(fstArcs st low R K cs).2++[(c,leastR (underR R c)-low,(st (fstArcs st low R K cs).1 (underR R c)).2)])
 | [],K=>rfl
 | d :: cs,K=>by
  simp only [List.cons_append,fstArcs]
  rw [fstArcs_snoc st low R c cs]
theorem addS_some {K:List StP} {s:StP} {i:Nat} (h:K[i]? = some s) (hu:∀ j,K[j]? = some s→j=i):addS K s=(K,i):=by
 unfold addS
 cases hf:K.findIdx? (fun x=>decide (x=s)) with
 | some j =>
  obtain ⟨hj,h1,_⟩:=List.findIdx?_eq_some_iff_getElem.1 hf
  rw [hu j (List.getElem?_eq_some_iff.2 ⟨hj,of_decide_eq_true h1⟩)]
 | none =>
  rw [List.findIdx?_eq_none_iff] at hf
  have:=hf s (List.mem_of_getElem? h)
  simp at this
theorem addS_none {K:List StP} {s:StP} (h:s ∉ K):addS K s=(K++[s],K.length):=by
 unfold addS
 cases hf:K.findIdx? (fun x=>decide (x=s)) with
 | none=>rfl
 | some j =>
  obtain ⟨hj,h1,_⟩:=List.findIdx?_eq_some_iff_getElem.1 hf
  have e:K[j]=s:=of_decide_eq_true h1
  exact absurd (e ▸ List.getElem_mem hj) h
theorem stateF_level {f:Nat} {k:KnP} {l m:Rs} (h:levelR l=levelR m):stateF f k l=stateF f k m:=by
 cases f with
 | zero=>rfl
 | succ f=>simp only [stateF,h]
theorem firsts_level (l:Rs) (hs:SortR l):firstsR (levelR l)=firstsR l:=by
 have h1:=firsts_sorted (sort_level hs)
 have h2:=firsts_sorted hs
 refine sorted_ext (lt:=(·<·)) (fun a=>Nat.lt_irrefl a) (fun a b h=>Nat.not_lt_of_lt h) h1 h2 fun c=>?_
 rw [mem_firsts,mem_firsts,level_shift,under_shift]
 unfold shiftR
 simp
theorem fin_level (l:Rs):finR (levelR l)=finR l:=by
 rw [Bool.eq_iff_iff,finR_iff,finR_iff]
 constructor
 ·rintro ⟨n,h⟩
  exact ⟨_,mem_level.1 h⟩
 ·rintro ⟨n,h⟩
  exact ⟨n-leastR l,mem_level.2 (by rw [Int.sub_add_cancel];exact h)⟩
theorem out_level (l:Rs) (hs:SortR l):outR (levelR l)=fstOut l:=by
 unfold fstOut
 by_cases h:finR l=true
 ·rw [if_pos h]
  obtain ⟨n,hn⟩:=finR_iff.1 h
  rw [outR_mem hs hn]
  exact outR_mem (sort_level hs) (mem_level.2 (by rw [Int.sub_add_cancel];exact hn))
 ·rw [if_neg h]
  exact outR_none (sort_level hs) (by rw [fin_level];simpa using h)
theorem under_level (l:Rs) (c:Nat):levelR (underR (levelR l) c)=levelR (underR l c):=by
 rw [level_shift l,under_shift,level_of_shift]
theorem leastu_level (l:Rs) {c:Nat} (h:underR l c≠[]):leastR (underR (levelR l) c)=leastR (underR l c)-leastR l:=by
 rw [level_shift l,under_shift,least_shift _ h]
def FstIs (f:Nat):Prop:=∀ (k:KnP) (R:Rs),Good k→SortR R→R≠[]→depR R<f→fstF f k.states R=((stateF f k R).1.states,(stateF f k R).2)
theorem arcs_new {f:Nat} (ih:FstIs f) {R:Rs} (hs:SortR R) (hd:depR R≤f):∀ (cs:List Nat) (k:KnP),Good k→(∀ c∈cs,underR R c≠[]) →
  fstArcs (fstF f) (leastR R) R k.states cs=((arcsF (stateF f) (levelR R) k cs).1.states,(arcsF (stateF f) (levelR R) k cs).2)
 | [],k,_,_=>rfl
 | c :: cs,k,hk,hc=>by
  have hc1:=hc c (List.mem_cons_self)
  have hdu:=depR_under hc1
  have h1:=ih k (underR R c) hk (sort_under c hs) hc1 (by omega)
  have h2:=stateF_ok f k (underR R c) hk (sort_under c hs) hc1 (by omega)
  have h3:=arcs_new ih hs hd cs (stateF f k (underR R c)).1 h2.1 (fun d hd=>hc d (List.mem_cons_of_mem _ hd))
  have h4:stateF f k (underR (levelR R) c)=stateF f k (underR R c):=stateF_level (under_level R c)
  simp only [fstArcs,arcsF,h1,h3,h4,leastu_level R hc1]
theorem arcs_old {f:Nat} (ih:FstIs f) {R:Rs} (hs:SortR R) (hd:depR R≤f) {k:KnP} (hk:Good k) {i:Nat} {s:StP} (hi:k.rests[i]? = some (levelR R)) (hc:Corr k.rests i (levelR R) s):∀ (xs:List (Nat × Int × Nat)),(∀ a∈xs,a∈s.arcs) →
  fstArcs (fstF f) (leastR R) R k.states (xs.map (·.1))=(k.states,xs)
 | [],_=>rfl
 | a :: xs,ha=>by
  have h0:=ha a (List.mem_cons_self)
  have hm:a.1∈firstsR (levelR R):=by rw [← hc.labels];exact List.mem_map_of_mem h0
  have hc1:underR R a.1≠[]:=by rw [firsts_level R hs] at hm;exact mem_firsts.1 hm
  have hdu:=depR_under hc1
  obtain ⟨g1,g2,g3⟩:=hc.arc a h0
  rw [under_level] at g3
  rw [leastu_level R hc1] at g1
  have h1:=ih k (underR R a.1) hk (sort_under a.1 hs) hc1 (by omega)
  have h2:stateF f k (underR R a.1)=(k,a.2.2):=by
   cases f with
   | zero=>omega
   | succ f =>
    have hx:idxR k.rests (levelR (underR R a.1))=some a.2.2:=by
     cases hx:idxR k.rests (levelR (underR R a.1)) with
     | none=>exact absurd (List.mem_of_getElem? g3) (idxR_none hx)
     | some j =>
      have hj:=idxR_some hx
      obtain ⟨l1,e1⟩:=List.getElem?_eq_some_iff.1 hj
      obtain ⟨l2,e2⟩:=List.getElem?_eq_some_iff.1 g3
      rw [(List.getElem_inj hk.nodup).1 (e1.trans e2.symm)]
    simp only [stateF,hx]
  rw [h2] at h1
  have h3:=arcs_old ih hs hd hk hi hc xs (fun d hd=>ha d (List.mem_cons_of_mem _ hd))
  simp only [List.map_cons,fstArcs,h1,h3,← g1]
theorem fst_is:∀ f,FstIs f
 | 0=>fun _ _ _ _ _ h=>absurd h (Nat.not_lt_zero _)
 | f+1=>fun k R hk hs hne hd=>by
  have hlf:=firsts_level R hs
  simp only [fstF,stateF]
  cases hi:idxR k.rests (levelR R) with
  | some i =>
   have hR:=idxR_some hi
   obtain ⟨s,hsi⟩:∃ s,k.states[i]? = some s:=by
    have:=(List.getElem?_eq_some_iff.1 hR).1
    rw [hk.len] at this
    exact ⟨_,List.getElem?_eq_getElem this⟩
   have hc:=hk.corr i _ _ hR hsi
   have ha:=arcs_old (fst_is f) hs (by omega) hk hR hc s.arcs (fun _ h=>h)
   rw [hc.labels,hlf] at ha
   rw [ha]
   have he:(⟨finR R,fstOut R,s.arcs⟩:StP)=s:=by
    obtain ⟨sf,so,sa⟩:=s
    have h1:=hc.fin
    have h2:=hc.out
    simp only at h1 h2
    rw [fin_level] at h1
    rw [out_level R hs] at h2
    rw [h1,h2]
   simp only
   rw [he]
   exact addS_some hsi (fun j hj=>hk.unalike hj hsi)
  | none =>
   have hsl:=sort_level hs
   have ha:=arcs_new (fst_is f) hs (by omega) (firstsR R) k hk (fun c hc=>mem_firsts.1 hc)
   rw [ha]
   obtain ⟨h1,h2,h3,h4⟩:=arcs_ok (stateF_ok f) hsl (by rw [depR_level];omega) (firstsR (levelR R)) k hk (fun c hc=>mem_firsts.1 hc)
   rw [hlf] at h1 h2 h3 h4 ⊢
   have hnew:=new_ok (idxR_none hi) hsl (level_ne hne) (least_level hne) h1 h2 (by rw [hlf];exact h3) h4
   simp only
   rw [← fin_level R,← out_level R hs]
   refine addS_none fun hm=>?_
   obtain ⟨j,hj,e⟩:=List.getElem_of_mem hm
   have e1:((arcsF (stateF f) (levelR R) k (firstsR R)).1.states++[(⟨finR (levelR R),outR (levelR R),(arcsF (stateF f) (levelR R) k (firstsR R)).2⟩:StP)])[j]? = some ⟨finR (levelR R),outR (levelR R),(arcsF (stateF f) (levelR R) k (firstsR R)).2⟩:=by
    rw [List.getElem?_append_left hj,List.getElem?_eq_getElem hj,e]
   have e2:((arcsF (stateF f) (levelR R) k (firstsR R)).1.states++[(⟨finR (levelR R),outR (levelR R),(arcsF (stateF f) (levelR R) k (firstsR R)).2⟩:StP)])[(arcsF (stateF f) (levelR R) k (firstsR R)).1.states.length]? = some ⟨finR (levelR R),outR (levelR R),(arcsF (stateF f) (levelR R) k (firstsR R)).2⟩:=by
    rw [List.getElem?_append_right (Nat.le_refl _),Nat.sub_self]
    rfl
   have:=hnew.unalike e1 e2
   omega
end Go.Proofs.YthockgmbooefpaaGreatDoor
