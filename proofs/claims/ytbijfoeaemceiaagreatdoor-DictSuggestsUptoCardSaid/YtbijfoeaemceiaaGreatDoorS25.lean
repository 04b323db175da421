/- What the law rests on, part 25. No condition but those that each theorem names. -/
import Derived.Test.YtbijfoeaemceiaaGreatDoorS24
import Derived.StillTailTactics
import Derived.BigQuiet
import Derived.Deep.QuietTactic
set_option linter.unusedSectionVars false
set_option linter.unusedSimpArgs false
set_option linter.unusedVariables false
namespace Go.Proofs.YtbijfoeaemceiaaGreatDoor
open Go.RowKit
set_option maxRecDepth 100000 in
set_option maxHeartbeats 4000000 in
theorem rall_no (w:World) (lv:Value) (a:ByteArray) (k:Int) (ha:a.size≤9223372036854775807) (hr:levR a.toList k=false) :
  Calls Tryz.prog 66 #[lv,.string a,.int .i64 k] w fun e w'=>e=.returned (.tuple #[.slice none 0 0,.int .i64 110])∧Touch (fun _=>False) w w':=by
 have HN:=hide (rlev_any w a k ha)
 rw [hr] at HN
 clear hr ha
 go_enter Tryz.func66,Tryz.ntmps66
 go_wp2_with fail
 refine HN.out.mono ?_
 rintro e w1 ⟨rfl,T1⟩
 have HT1:=hide T1
 clear T1 HN
 go_wp2_with fail
 go_ret2
 exact ⟨rfl,HT1.out⟩
theorem fz_snoc (L:List PRow) (X:List Nat) (o i:Nat) (hi:i<L.length):fzAllP (L.take (i+1)) X o=fzAllP (L.take i) X o++(if rowW X (wordR (L.getD i PRow.zero))<o then [⟨(L.getD i PRow.zero).word,(L.getD i PRow.zero).weight,(rowW X (wordR (L.getD i PRow.zero)):Int)⟩] else []):=by
 unfold fzAllP
 have e:L.getD i PRow.zero=L[i]:=by simp [List.getD,hi]
 rw [List.take_succ_eq_append_getElem hi,List.filterMap_append,← e]
 congr 1
 split<;>simp_all
theorem dist_dict {L:List PRow} (hD:DictP L) {p:PRow} (hp:p∈L) {a:List UInt8} {X:List Nat} (hX:runesU a=some X) (hl:X.length≤24):distU p.word.toList a=some (rowW X (wordR p)):=by
 obtain ⟨w1,_,_,w4⟩:=hD.word p hp
 unfold distU
 rw [w1,hX]
 simp only
 rw [if_pos (by omega)]
 rfl
theorem rowW_le (X text:List Nat):rowW X text≤X.length+text.length:=by
 unfold rowW
 refine rowK_le X text.length text rfl _ (memD _ _ ?_)
 rw [rowK_len]
 omega
set_option maxRecDepth 100000 in
set_option maxHeartbeats 4000000 in
theorem rall_yes (w:World) {L:List PRow} (hD:DictP L) (A:Option Addr) (n c:Nat) (hR:Reads w 2 A n (pCells L)) (hn:L.length=n) (a:ByteArray) (k:Nat) (ha:a.size≤1099511627776) (X:List Nat) (hX:runesU a.toList=some X) (hr:levR a.toList k=true) :
  Calls Tryz.prog 66 #[.slice A n c,.string a,.int .i64 (k:Int)] w (FzRes w (fzAllP L X (k+1))):=by
 have HN:=hide (rlev_any w a k (by omega))
 rw [hr] at HN
 have hXl:X.length≤24:=by
  unfold levR at hr
  simp only [Bool.and_eq_true] at hr
  obtain ⟨x,h1,_,_,h4⟩:=word_runes hr.1
  rw [hX] at h1
  injection h1 with h1
  rw [h1];exact h4
 have hk3:(k:Int)≤3:=by
  unfold levR at hr
  simp only [Bool.and_eq_true,decide_eq_true_eq] at hr
  exact hr.2.2
 have hn4:(n:Int)≤4096:=by have:=hD.len;omega
 have HD:=hide hD
 have HR:=hide hR
 have HNN:=hide hn
 have HA:=hide ha
 have HX:=hide (And.intro hX hXl)
 obtain ⟨iM,hiM,hm0,hm1,hm2⟩:=info_parts infoMatch12
 clear hr hD hR hn ha hX hXl
 go_enter Tryz.func66,Tryz.ntmps66
 go_wp2_with fail
 refine HN.out.mono ?_
 rintro e w1 ⟨rfl,T1⟩
 have HT1:=hide T1
 clear T1 HN
 go_wp2_with fail
 go_loopw [8,9] (fun ov iv wr=>∃ (i:Nat) (Ao:Option Addr) (co fl:Nat),iv=.int .i64 i∧i≤n∧ov=.slice Ao fl co∧Hid (fl=(fzAllP (L.take i) X (k+1)).length∧ONx 98 3 w wr ov fl (mCells (fzAllP (L.take i) X (k+1))))) (fun _ iv _=>n-(intOf iv).toNat)
 case atStart=>exact ⟨0,none,0,0,rfl,by omega,rfl,hide ⟨by simp [fzAllP],(ONx.nil _ _ _).from HT1.out⟩⟩
 case round =>
  obtain ⟨i,Ao,co,fl,rfl,hi,rfl,HO⟩:=hrel
  by_cases hin:i<n
  ·have y1:(i:Int)<(n:Int):=by omega
   have y2:(0:Int)≤(i:Int):=by omega
   have y3:IntKind.i64.wrap ((i:Int)+1)=(i:Int)+1:=IntWalk.i64_in _ (by omega)
   have hil:i<L.length:=by rw [HNN.out];exact hin
   obtain ⟨g,off,hA,hgw,c0,c1⟩:=preads_at HR.out HNN.out.symm i hin
   have hgl:g<wr.heap.size:=Nat.lt_of_lt_of_le hgw HO.out.2.touch.size
   rw [← HO.out.2.touch.cell (a:=⟨g,off+i*2,none⟩) hgw (fun f=>f)] at c0
   rw [← HO.out.2.touch.cell (a:=⟨g,off+i*2+1,none⟩) hgw (fun f=>f)] at c1
   have HGW:=hide hgw
   subst hA
   have hpm:=getD_mem L PRow.zero i hil
   have hsn:=fz_snoc L X (k+1) i hil
   obtain ⟨p,hp⟩:∃ p,p=L.getD i PRow.zero:=⟨_,rfl⟩
   rw [← hp] at c0 c1 hpm hsn
   have hdd:=dist_dict HD.out hpm HX.out.1 HX.out.2
   have hrd:=rdist_any wr p.word a (dict_sizes HD.out p hpm) HA.out
   rw [hdd] at hrd
   simp only [distE] at hrd
   have hdle:=rowW_le X (wordR p)
   have hw4:=(HD.out.word p hpm).2.2.2
   have hxl:=HX.out.2
   obtain ⟨d,hd⟩:∃ d,d=rowW X (wordR p):=⟨_,rfl⟩
   rw [← hd] at hrd hsn hdle
   have y4:(d:Int)≤48:=by omega
   obtain ⟨pw,pn⟩:=p
   simp only at c0 c1 hrd hsn
   have HRD:=hide hrd
   have HSN:=hide hsn
   have HIL:=hide hil
   have HOL:=hide (show fl≤4096 by
    have h1:=HO.out.1
    have h2:(fzAllP (L.take i) X (k+1)).length≤(L.take i).length:=List.length_filterMap_le _ _
    rw [List.length_take] at h2
    omega)
   clear hgw hp hpm hdd hrd hd hsn hdle hw4 hxl hil hi hin
   go_wp2_with fail
   refine HRD.out.mono ?_
   rintro e w3 ⟨rfl,T3⟩
   have hO3:=HO.out.2.to T3
   have HO3:=hide hO3
   obtain ⟨e0,e1⟩:w3.cell? ⟨g,off+i*2,none⟩=some (.string pw)∧w3.cell? ⟨g,off+i*2+1,none⟩=some (.int .i64 pn):=⟨(T3.cell (a:=⟨g,off+i*2,none⟩) hgl (fun f=>f)).trans c0,(T3.cell (a:=⟨g,off+i*2+1,none⟩) hgl (fun f=>f)).trans c1⟩
   have l3:g<w3.heap.size:=Nat.lt_of_lt_of_le hgl T3.size
   clear T3 hO3 c0 c1 hgl HRD
   by_cases hdk:d≤k
   ·have y5:(d:Int)≤(k:Int):=by omega
    have HDK:=hide hdk
    clear hdk
    go_wp2_with fail
    have hgn:¬ (Value.slice Ao fl co).ownBlock=some g:=fun e=>by have h1:=HO3.out.fresh g e;have h2:=HGW.out;omega
    have hks:∀ wx,Touch (fun y=>(Value.slice Ao fl co).ownBlock=some y) w3 wx→wx.cell? ⟨g,off+i*2,none⟩=some (.string pw)∧wx.cell? ⟨g,off+i*2+1,none⟩=some (.int .i64 pn)∧Touch (fun y=>(Value.slice Ao fl co).ownBlock=some y) w3 wx:=fun wx T =>
     ⟨(T.cell (a:=⟨g,off+i*2,none⟩) l3 hgn).trans e0,(T.cell (a:=⟨g,off+i*2+1,none⟩) l3 hgn).trans e1,T⟩
    have HKS:=hide hks
    obtain ⟨wd,hwd⟩:∃ y,y=(w3.alloc (.cells #[.string pw,.int .i64 pn,.int .i64 (d:Int)] 98)).drew:=⟨_,rfl⟩
    have hTd:Touch (fun _=>False) w3 wd:=by rw [hwd];exact ((Touch.refl _ _).alloc _).drew
    have hrd:Reads wd 3 (some ⟨w3.heap.size,0,none⟩) 1 [.string pw,.int .i64 pn,.int .i64 (d:Int)]:=by rw [hwd];exact (Reads.new w3 _ _ 1 rfl).drew
    obtain ⟨v6,w6,hr6,O6,G6,F6,_⟩:=run_app (P:=Tryz.prog) wd 45 45 98 iM _ 3 32 Tryz.underlying45 hiM hm0 hm1 hm2 rfl (by decide) (.slice Ao fl co) fl _ (HO3.out.to hTd).own (some ⟨w3.heap.size,0,none⟩) 1 1 [.string pw,.int .i64 pn,.int .i64 (d:Int)] hrd (fun h=>by cases h) (List.all_eq_true.1 rfl) (by have:=HOL.out;unfold maxLen;omega) (by have:=HOL.out;omega)
    obtain ⟨A6,c6,hv,_,_⟩:=own_len O6
    subst hv
    have HO6:=hide ((HO3.out.to hTd).app O6 G6 F6)
    have HT6:=hide ((hTd.up (fun y=>(Value.slice Ao fl co).ownBlock=some y)).grown (row:=(Value.slice Ao fl co).ownBlock) G6 (fun y hg hlt=>hg))
    have HR6:=hide hr6
    rw [hwd] at HR6
    clear hgn hks hTd hrd O6 G6 F6 hr6 hwd
    refine wp_region_held_drew (S:=fun wx=>wx.cell? ⟨g,off+i*2,none⟩=some (.string pw)∧wx.cell? ⟨g,off+i*2+1,none⟩=some (.int .i64 pn)∧Touch (fun y=>(Value.slice Ao fl co).ownBlock=some y) w3 wx) (by kernel_rfl) (HKS.out _ (Touch.refl _ _).drew) (fun hHeld=>?_)
    refine wpAnyH_take (i:=0) (v:=?v0) rfl (by kernel_rfl) (by kernel_rfl) (by kernel_rfl) (fun _ _ _ h=>h) (Or.inl ⟨by kernel_rfl,?h0⟩) hHeld ?_
    case h0=>rintro wq ⟨s0,s1,s2⟩;go_simp;with_reducible rfl
    simp only [List.getElem_toArray,List.getElem_cons_succ,List.getElem_cons_zero,Act.put,List.setIfInBounds_toArray,List.set_cons_zero,List.set_cons_succ]
    refine wpAnyH_take (i:=1) (v:=?v1) rfl (by kernel_rfl) (by kernel_rfl) (by kernel_rfl) (fun _ _ _ h=>h) (Or.inl ⟨by kernel_rfl,?h1⟩) hHeld ?_
    case h1=>rintro wq ⟨s0,s1,s2⟩;go_simp;with_reducible rfl
    simp only [List.getElem_toArray,List.getElem_cons_succ,List.getElem_cons_zero,Act.put,List.setIfInBounds_toArray,List.set_cons_zero,List.set_cons_succ]
    refine wpAnyH_take (i:=2) (v:=?v2) rfl (by kernel_rfl) (by kernel_rfl) (by kernel_rfl) (fun _ _ _ h=>h) (Or.inl ⟨by kernel_rfl,?h2⟩) hHeld ?_
    case h2=>rintro wq ⟨s0,s1,s2⟩;go_simp;with_reducible rfl
    simp only [List.getElem_toArray,List.getElem_cons_succ,List.getElem_cons_zero,Act.put,List.setIfInBounds_toArray,List.set_cons_zero,List.set_cons_succ]
    refine wpAnyH_take (i:=3) (v:=?v3) rfl (by kernel_rfl) (by kernel_rfl) (by kernel_rfl) (fun _ _ _ h=>h) (Or.inl ⟨by kernel_rfl,?h3⟩) hHeld ?_
    case h3=>rintro wq ⟨s0,s1,s2⟩;go_simp;with_reducible rfl
    simp only [List.getElem_toArray,List.getElem_cons_succ,List.getElem_cons_zero,Act.put,List.setIfInBounds_toArray,List.set_cons_zero,List.set_cons_succ]
    refine wpAnyH_take (i:=4) (v:=?v4) rfl (by kernel_rfl) (by kernel_rfl) (by kernel_rfl) (fun _ _ _ h=>h) (Or.inl ⟨by kernel_rfl,?h4⟩) hHeld ?_
    case h4=>rintro wq ⟨s0,s1,s2⟩;go_simp;with_reducible rfl
    simp only [List.getElem_toArray,List.getElem_cons_succ,List.getElem_cons_zero,Act.put,List.setIfInBounds_toArray,List.set_cons_zero,List.set_cons_succ]
    refine wpAnyH_take (i:=5) (v:=?v5) rfl (by kernel_rfl) (by kernel_rfl) (by kernel_rfl) (fun _ _ _ h=>h) (Or.inl ⟨by kernel_rfl,?h5⟩) hHeld ?_
    case h5=>rintro wq ⟨s0,s1,s2⟩;go_simp;with_reducible rfl
    simp only [List.getElem_toArray,List.getElem_cons_succ,List.getElem_cons_zero,Act.put,List.setIfInBounds_toArray,List.set_cons_zero,List.set_cons_succ]
    refine wpAnyH_take (i:=6) (v:=?v6) rfl (by kernel_rfl) (by kernel_rfl) (by kernel_rfl) (fun _ _ _ h=>h) (Or.inl ⟨by kernel_rfl,?h6⟩) hHeld ?_
    case h6=>rintro wq ⟨s0,s1,s2⟩;go_simp;with_reducible rfl
    simp only [List.getElem_toArray,List.getElem_cons_succ,List.getElem_cons_zero,Act.put,List.setIfInBounds_toArray,List.set_cons_zero,List.set_cons_succ]
    refine wpAnyH_take (i:=7) (v:=?v7) rfl (by kernel_rfl) (by kernel_rfl) (by kernel_rfl) (fun _ _ _ h=>h) (Or.inl ⟨by kernel_rfl,?h7⟩) hHeld ?_
    case h7=>rintro wq ⟨s0,s1,s2⟩;go_simp;with_reducible rfl
    simp only [List.getElem_toArray,List.getElem_cons_succ,List.getElem_cons_zero,Act.put,List.setIfInBounds_toArray,List.set_cons_zero,List.set_cons_succ]
    refine wpAnyH_take (i:=8) (v:=?v8) rfl (by kernel_rfl) (by kernel_rfl) (by kernel_rfl) (fun _ _ _ h=>h) (Or.inl ⟨by kernel_rfl,?h8⟩) hHeld ?_
    case h8=>rintro wq ⟨s0,s1,s2⟩;go_simp;with_reducible rfl
    simp only [List.getElem_toArray,List.getElem_cons_succ,List.getElem_cons_zero,Act.put,List.setIfInBounds_toArray,List.set_cons_zero,List.set_cons_succ]
    refine wpAnyH_take (i:=9) (v:=?v9) rfl (by kernel_rfl) (by kernel_rfl) (by kernel_rfl) (fun _ _ _ h=>h) (Or.inl ⟨by kernel_rfl,?h9⟩) hHeld ?_
    case h9=>rintro wq ⟨s0,s1,s2⟩;go_simp;with_reducible rfl
    simp only [List.getElem_toArray,List.getElem_cons_succ,List.getElem_cons_zero,Act.put,List.setIfInBounds_toArray,List.set_cons_zero,List.set_cons_succ]
    refine wpAnyH_take (i:=10) (v:=?v10) rfl (by kernel_rfl) (by kernel_rfl) (by kernel_rfl) (fun _ _ _ h=>h) (Or.inl ⟨by kernel_rfl,?h10⟩) hHeld ?_
    case h10=>rintro wq ⟨s0,s1,s2⟩;go_simp;with_reducible rfl
    simp only [List.getElem_toArray,List.getElem_cons_succ,List.getElem_cons_zero,Act.put,List.setIfInBounds_toArray,List.set_cons_zero,List.set_cons_succ]
    refine wpAnyH_take (i:=11) (v:=?v11) rfl (by kernel_rfl) (by kernel_rfl) (by kernel_rfl) (fun _ _ _ h=>h) (Or.inl ⟨by kernel_rfl,?h11⟩) hHeld ?_
    case h11=>rintro wq ⟨s0,s1,s2⟩;go_simp;with_reducible rfl
    simp only [List.getElem_toArray,List.getElem_cons_succ,List.getElem_cons_zero,Act.put,List.setIfInBounds_toArray,List.set_cons_zero,List.set_cons_succ]
    refine wpAnyH_take (i:=12) (v:=?v12) rfl (by kernel_rfl) (by kernel_rfl) (by kernel_rfl) (fun _ _ _ h=>h) (Or.inl ⟨by kernel_rfl,?h12⟩) hHeld ?_
    case h12=>rintro wq ⟨s0,s1,s2⟩;go_simp;with_reducible rfl
    simp only [List.getElem_toArray,List.getElem_cons_succ,List.getElem_cons_zero,Act.put,List.setIfInBounds_toArray,List.set_cons_zero,List.set_cons_succ]
    refine wpAnyH_ready (rs:=[13]) (by kernel_rfl) (by simp) ?_
    refine AllReadyH.cons rfl (fun K hK=>?_) AllReadyH.nil
    go_simp
    refine hK.out _ _ (HKS.out _ ((Touch.refl _ _).drew.alloc _)) (fun hHeld=>?_)
    clear hK K
    try simp only [List.getElem_toArray,List.getElem_cons_succ,List.getElem_cons_zero,Act.put,List.setIfInBounds_toArray,List.set_cons_zero,List.set_cons_succ]
    refine wpAnyH_ready (rs:=[14]) (by kernel_rfl) (by simp) ?_
    refine AllReadyH.cons rfl (fun K hK=>?_) AllReadyH.nil
    rw [if_pos (by rfl)]
    refine wp_app_run (.tmp 38) (.tmp 51) 45 rfl (.slice Ao fl co) (.slice (some ⟨w3.heap.size,0,none⟩) 1 1) _ w6 rfl rfl HR6.out ?_
    refine hK.out _ _ (HKS.out _ HT6.out) (fun hHeld=>?_)
    clear hK K
    try simp only [List.getElem_toArray,List.getElem_cons_succ,List.getElem_cons_zero,Act.put,List.setIfInBounds_toArray,List.set_cons_zero,List.set_cons_succ]
    refine wpAnyH_take (i:=15) (v:=?v15) rfl (by kernel_rfl) (by kernel_rfl) (by kernel_rfl) (fun _ _ _ h=>h) (Or.inl ⟨by kernel_rfl,?h15⟩) hHeld ?_
    case h15=>rintro wq ⟨s0,s1,s2⟩;go_simp;with_reducible rfl
    simp only [List.getElem_toArray,List.getElem_cons_succ,List.getElem_cons_zero,Act.put,List.setIfInBounds_toArray,List.set_cons_zero,List.set_cons_succ]
    refine wpAnyH_done (by kernel_rfl) ?_ _
    go_wp2_with fail
    go_roundw
    ·have hs:=HSN.out
     rw [if_pos (by have:=HDK.out;omega)] at hs
     refine ⟨i+1,A6,c6,fl+1,by simp,by have:=HIL.out;have:=HNN.out;omega,rfl,hide ⟨?_,?_⟩⟩
     ·rw [hs,List.length_append,← HO.out.1];rfl
     ·rw [hs]
      have e2:mCells (fzAllP (L.take i) X (k+1)++[⟨pw,pn,(d:Int)⟩])=mCells (fzAllP (L.take i) X (k+1))++[.string pw,.int .i64 pn,.int .i64 (d:Int)]:=by simp [mCells,MRow.cells]
      rw [e2]
      exact HO6.out
    ·have h1:=HIL.out
     have h2:=HNN.out
     simp only [intOf]
     omega
   ·have y5:¬ (d:Int)≤(k:Int):=by omega
    have HDK:=hide hdk
    clear hdk
    go_wp2_with fail
    go_roundw
    ·have hs:=HSN.out
     rw [if_neg (by have:=HDK.out;omega),List.append_nil] at hs
     refine ⟨i+1,Ao,co,fl,by simp,by have:=HIL.out;have:=HNN.out;omega,rfl,hide ⟨?_,?_⟩⟩
     ·rw [hs,← HO.out.1]
     ·rw [hs]
      exact HO3.out
    ·have h1:=HIL.out
     have h2:=HNN.out
     simp only [intOf]
     omega
  ·have hie:i=n:=by omega
   subst hie
   have y1:¬ (i:Int)<(i:Int):=by omega
   have ht:L.take i=L:=List.take_of_length_le (by rw [HNN.out];exact Nat.le_refl _)
   rw [ht] at HO
   obtain ⟨hfl,ho⟩:=HO.out
   subst hfl
   have HO':=hide ho
   clear ht ho hi hin HO
   go_wp2_with fail
   go_ret2
   exact ⟨Ao,co,rfl,HO'.out⟩
end Go.Proofs.YtbijfoeaemceiaaGreatDoor
namespace Go.Proofs.YtbijfoeaemceiaaGreatDoor
open Go.RowKit
theorem cells_len (r:MRow):(MRow.cells r).length=3:=rfl
theorem mCells_at (X:List MRow) (k:Nat) (hk:k<X.length) (j:Nat) (hj:j<3):(mCells X)[k*3+j]? = (X.getD k MRow.zero).cells[j]? := by
 have e:X.getD k MRow.zero=X[k]:=by simp [List.getD,hk]
 rw [e]
 exact flat_at MRow.cells 3 cells_len X k j hk hj
theorem reads_at {w:World} {A:Option Addr} {n:Nat} {X:List MRow} (h:Reads w 3 A n (mCells X)) (hn:n=X.length) (k:Nat) (hk:k<n) :
  ∃ g off,A=some ⟨g,off,none⟩∧g<w.heap.size∧w.cell? ⟨g,off+k*3,none⟩=some (.string (X.getD k MRow.zero).word)∧w.cell? ⟨g,off+k*3+1,none⟩=some (.int .i64 (X.getD k MRow.zero).weight) ∧
   w.cell? ⟨g,off+k*3+2,none⟩=some (.int .i64 (X.getD k MRow.zero).dist):=by
 subst hn
 obtain ⟨b,off,hA,hb,hc⟩:=h.2 (by omega)
 refine ⟨b,off,hA,hb,?_,?_,?_⟩
 ·exact hc (k*3) _ (mCells_at X k hk 0 (by omega))
 ·rw [Nat.add_assoc];exact hc (k*3+1) _ (mCells_at X k hk 1 (by omega))
 ·rw [Nat.add_assoc];exact hc (k*3+2) _ (mCells_at X k hk 2 (by omega))
set_option maxRecDepth 100000 in
set_option maxHeartbeats 1000000 in
theorem same_yes (w:World) (A:Option Addr) (n c:Nat) (X:List MRow) (hX:X.length=n) (hA:Reads w 3 A n (mCells X)) (hn:n≤maxLen) (B:Option Addr) (d:Nat) (hB:Reads w 3 B n (mCells X)) :
  Calls Tryz.prog 28 #[.slice A n c,.slice B n d] w fun e w'=>e=.returned (.bool true)∧Touch (fun _=>False) w w':=by
 unfold maxLen at hn
 have HA:=hide hA
 have HB:=hide hB
 have HX:=hide hX
 clear hA hB hX
 go_enter Tryz.func28,Tryz.ntmps28
 go_wp2
 go_loopw [5] (fun i wr=>∃ k:Nat,k≤n∧i=.int .i64 k∧Hid (Touch (fun _=>False) w wr)) (fun i _=>n-(intOf i).toNat)
 case atStart=>exact ⟨0,Nat.zero_le _,rfl,hide (Touch.refl _ _)⟩
 case round =>
  obtain ⟨k,hk,rfl,HT⟩:=hrel
  by_cases hkn:k<n
  ·obtain ⟨g,o,hg,_,a0,a1,a2⟩:=reads_at (HA.out.touch HT.out (fun _ _ f=>f)) HX.out.symm k hkn
   obtain ⟨g',o',hg',_,b0,b1,b2⟩:=reads_at (HB.out.touch HT.out (fun _ _ f=>f)) HX.out.symm k hkn
   subst hg hg'
   obtain ⟨⟨xw,xn,xd⟩,hx⟩:∃ x,x=X.getD k MRow.zero:=⟨_,rfl⟩
   rw [← hx] at a0 a1 a2 b0 b1 b2
   simp only at a0 a1 a2 b0 b1 b2
   have k0:(k:Int)<(n:Int):=by omega
   clear hx
   go_wp2
   go_quiet (fail)
   go_wp2
   go_roundw
   ·exact ⟨k+1,by omega,by simp,hide (HT.out.drewN _)⟩
   ·show n-(intOf (.int .i64 ((k:Int)+1))).toNat<n-(intOf (.int .i64 (k:Int))).toNat
    simp [intOf]
    omega
  ·go_wp2
   go_ret
   exact ⟨rfl,HT.out⟩
end Go.Proofs.YtbijfoeaemceiaaGreatDoor
namespace Go.Proofs.YtbijfoeaemceiaaGreatDoor
open Go.RowKit
theorem lev_parts {a:List UInt8} {k:Int} (h:levR a k=true):∃ X n,runesU a=some X∧X.length≤24∧a.length≤96∧k=((n:Nat):Int)∧n≤3:=by
 unfold levR at h
 simp only [Bool.and_eq_true,decide_eq_true_eq] at h
 obtain ⟨x,h1,_,_,h4⟩:=word_runes h.1
 refine ⟨x,k.toNat,h1,h4,?_,by omega,by omega⟩
 have:=h.1
 unfold wordU at this
 simp only [Bool.and_eq_true,decide_eq_true_eq] at this
 exact this.1
theorem size_toList (a:ByteArray):a.toList.length=a.size:=by
 rw [Go.ByteArray.toList_eq,Array.length_toList]
 rfl
theorem fz_len (L:List PRow) (X:List Nat) (o:Nat):(fzAllP L X o).length≤L.length:=List.length_filterMap_le _ _
end Go.Proofs.YtbijfoeaemceiaaGreatDoor
