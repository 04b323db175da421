/- What the law rests on, part 21. No condition but those that each theorem names. -/
import Derived.Test.YthockgmbooefpaaGreatDoorT20
import Derived.Test.YthockgmbooefpaaGreatDoorT10
import Derived.Deep.LoopGhost
import Derived.StillTailTactics
import Derived.BigQuiet
import Derived.Deep.QuietTactic
set_option linter.unusedSectionVars false
set_option linter.unusedSimpArgs false
set_option linter.unusedVariables false
set_option maxRecDepth 100000
set_option maxHeartbeats 4000000
namespace Go.Proofs.YthockgmbooefpaaGreatDoor
open Go.RowKit Go.Shelf
def FzRes (w:World) (F:List MRow) (e:Ending) (w':World):Prop:=∃ A c,e=.returned (.tuple #[.slice A F.length c,.int .i64 0])∧ONx 43 3 w w' (.slice A F.length c) F.length (mCells F)
theorem fzall_no (w:World) (hL:Lst w) (pw:Option Addr) (a:ByteArray) (k:Int) (ha:a.size≤9223372036854775807) (hr:levR a.toList k=false) :
  Calls Tryz.prog 41 #[.pointer pw,.string a,.int .i64 k] w fun e w'=>e=.returned (.tuple #[.slice none 0 0,.int .i64 110])∧Touch (fun _=>False) w w':=by
 have HN:=hide (fun wx (T:Touch (fun _=>False) w wx)=>lnew_no wx (Lst.touch hL T) a k ha hr)
 clear hL hr
 go_enter Tryz.func41,Tryz.ntmps41
 go_wp2_with fail
 refine (HN.out _ ((Touch.refl _ _).alloc _)).mono ?_
 rintro e w1 ⟨rfl,T1⟩
 have HT1:=hide (((Touch.refl (fun _=>False) w).alloc _).then T1)
 clear T1
 go_wp2_with fail
 go_ret2
 exact ⟨rfl,HT1.out.alloc _⟩
theorem visit_none (x:FzX) (base:Int) {n:Nat} {wA:Option Addr} {wc:Nat} {Z:List SV} {dA:Option Addr} {dc:Nat} {Wd:List Int} {wbase:Int} (hW:WkM x.w0 x.wb wbase wA n wc Z dA dc Wd) (W:World) (F:List MRow) (I:List FzIt) (hG:FzG x W F I) (i:Int) (hi:i<0) (row:List Nat) :
  Calls Tryz.prog 89 #[.int .i64 i,.slice none 0 0,.int .i64 base,.agg (rowV row),ptrV x.bW,ptrV x.bL,ptrV x.bF,ptrV x.bT,ptrV x.bV] W
   fun e W'=>e=.returned (.tuple #[])∧FzG x W' F I:=by
 obtain ⟨FA,fc,TA,tc,vs,hR0⟩:=hG
 obtain ⟨wb,hwb⟩:∃ y,y=((W.alloc (.cells #[.slice none 0 0] 154)).alloc (.cells #[.int .i64 base] 3)).alloc (.cells (rowV row) 181):=⟨_,rfl⟩
 have hTb:Touch (fun _=>False) W wb:=by rw [hwb];exact (((Touch.refl _ _).alloc _).alloc _).alloc _
 have hRb:=hR0.quiet hTb
 obtain ⟨p0,p1,p2⟩:=hRb.st.bw.facts
 have HWB:=hide hwb
 have HRB:=hide hRb
 have HST:=hide (wstate_none wb x.wb wbase wA n wc Z dA dc Wd (hW.quiet hRb.old) i (.inl hi))
 clear hwb hTb hRb hR0 hW
 refine (callsIn_wide (n:=3)).1 (callsIn_of_wp_marks Tryz.func89 rfl trivial ?_ rfl)
 simp only [Tryz.ntmps89,List.size_toArray,List.length_cons,List.length_nil,Nat.reduceAdd,Nat.reduceSub,Array.replicate_succ,Array.replicate_zero,List.push_toArray,List.append_toArray,List.nil_append,List.cons_append]
 refine wpIn_wide.2 ?_
 go_upto_region 1 with fail
 rw [← HWB.out]
 go_wp2_with fail
 refine HST.out.mono ?_
 rintro e w1 ⟨rfl,T1⟩
 have HT1:=hide T1
 clear T1
 go_wp2_with fail
 exact ⟨.tuple #[],results_none rfl _ _ _,rfl,⟨_,_,_,_,_,HRB.out.quiet (HT1.out.alloc _)⟩⟩
theorem RdT.kp {W W':World} {t:TypeId} {size:Nat} {A:Option Addr} {n:Nat} {xs:List Value} (h:RdT W t size A n xs) (k:Kp W W') (ht:tMut t=false):RdT W' t size A n xs:=by
 obtain ⟨S,T,hS⟩:=k
 exact h.fz T hS ht
theorem KidR.kp {x:FzX} {W W':World} {v:Value} {t p:FzIt} {a:Nat × Int × Nat} {bA bH bS bR:Nat} {A:Option Addr} {q c:Nat} (h:KidR x W v t p a bA bH bS bR A q c) (k:Kp W W'):KidR x W' v t p a bA bH bS bR A q c :=
 ⟨h.v,h.ba.kp k (by decide),h.bh.kp k (by decide),h.rd.kp k (by decide),h.len,h.le,h.mx,h.few,h.bs.kp k (by decide),h.br.kp k (by decide),h.row,h.t⟩
theorem kp_todo {x:FzX} {W:World} {cs:Array Value} (h:Blk W x.bT 178 cs) (v:Value):Kp W (W.setCell ⟨x.bT,0,none⟩ v) :=
 ⟨fun g=>g=x.bT,Touch.setCell (Touch.refl (fun g=>g=x.bT) W) (p:=⟨x.bT,0,none⟩) (fun _=>rfl) _,fun g t hg ht e=>hg.ne (blk_ty h) (by rintro rfl;cases ht) e⟩
theorem snoc_cases {α:Type} (l:List α):l=[]∨∃ r b,l=r++[b]:=by
 rcases List.eq_nil_or_concat l with h | ⟨r,b,h⟩
 ·exact .inl h
 ·exact .inr ⟨r,b,by rw [h,List.concat_eq_append]⟩
def FzW (x:FzX) (L:List PRow) (tot:List FzHit) (g:Nat) (W:World):Prop:=∃ hs I,FzG x W (hs.map hitM) I∧FzJ L x.X x.ln x.o tot hs I∧nzL (mach L).states I≤g
theorem fzall_yes (w:World) (hL:Lst w) {L:List PRow} (hD:DictP L) {wb n:Nat} {wA:Option Addr} {wc:Nat} {Z:List SV} {dA:Option Addr} {dc:Nat} (hW:DWk w wb L n wA wc Z dA dc) (a:ByteArray) (k:Nat) (ha:a.size≤1099511627776) (X:List Nat) (hX:runesU a.toList=some X) (hr:levR a.toList k=true) :
  Calls Tryz.prog 41 #[ptrV wb,.string a,.int .i64 (k:Int)] w (FzRes w (fzAllP L X (k+1))):=by
 obtain ⟨wa,hwa⟩:∃ y,y=w.alloc (.cells #[ptrV wb] 92):=⟨_,rfl⟩
 have hTa:Touch (fun _=>False) w wa:=by rw [hwa];exact (Touch.refl _ _).alloc _
 have hba:Blk wa w.heap.size 92 #[ptrV wb]:=by rw [hwa];exact Blk.new _ _ _
 obtain ⟨bW,hbW⟩:∃ y,y=w.heap.size:=⟨_,rfl⟩
 rw [← hbW] at hba
 have HN:=hide (lnew_yes wa (Lst.touch hL hTa) a k ha X hX hr)
 have HWA:=hide hwa
 have HTA:=hide hTa
 have HBA:=hide hba
 have HBW:=hide hbW
 have HL:=hide hL
 have HD:=hide hD
 have HW:=hide hW
 have hn:=hW.n_len
 have HNN:=hide hn
 have hfew:(n:Int)≤1000000:=by have:=hW.few;omega
 clear hwa hTa hba hbW hL hD hW hr hX ha hn
 go_enter Tryz.func41,Tryz.ntmps41
 go_upto_region 1 with fail
 rw [← HWA.out,← HBW.out]
 go_wp2_with fail
 refine HN.out.mono ?_
 rintro e w1 ⟨lb,lA,ln,lc,rfl,hlev,T1,hlb⟩
 have HLV:=hide hlev
 have HT1:=hide T1
 clear hlev T1 hlb
 go_upto_region 8 with fail
 obtain ⟨w8,hw8⟩:∃ y,y=(((w1.alloc (.cells #[ptrV lb] 175)).alloc (.cells #[.slice none 0 0] 39)).alloc (.cells #[.slice none 0 0] 178)).alloc (.cells #[.func (.func 89) #[] #[ptrV bW,ptrV w1.heap.size,ptrV (w1.heap.size+1),ptrV (w1.heap.size+1+1),ptrV (w1.heap.size+1+1+1)]] 179):=⟨_,rfl⟩
 rw [← hw8]
 have hT8:Touch (fun _=>False) w1 w8:=by rw [hw8];exact ((((Touch.refl _ _).alloc _).alloc _).alloc _).alloc _
 have hbL:Blk w8 w1.heap.size 175 #[ptrV lb]:=by rw [hw8];exact (((Blk.new _ _ _).alloc _).alloc _).alloc _
 have hbF:Blk w8 (w1.heap.size+1) 39 #[.slice none 0 0]:=by rw [hw8];exact ((blk_new1 _ _ _ _).alloc _).alloc _
 have hbT:Blk w8 (w1.heap.size+1+1) 178 #[.slice none 0 0]:=by rw [hw8];exact (blk_new2 _ _ _ _ _).alloc _
 have hbV:Blk w8 (w1.heap.size+1+1+1) 179 #[.func (.func 89) #[] #[ptrV bW,ptrV w1.heap.size,ptrV (w1.heap.size+1),ptrV (w1.heap.size+1+1),ptrV (w1.heap.size+1+1+1)]]:=by rw [hw8];exact blk_new3 _ _ _ _ _ _
 obtain ⟨bL,eL⟩:∃ y,y=w1.heap.size:=⟨_,rfl⟩
 obtain ⟨bF,eF⟩:∃ y,y=w1.heap.size+1:=⟨_,rfl⟩
 obtain ⟨bT,eT⟩:∃ y,y=w1.heap.size+1+1:=⟨_,rfl⟩
 obtain ⟨bV,eV⟩:∃ y,y=w1.heap.size+1+1+1:=⟨_,rfl⟩
 rw [← eV,← eT,← eF,← eL]
 rw [← eV,← eT,← eF,← eL] at hbV
 rw [← eL] at hbL
 rw [← eF] at hbF
 rw [← eT] at hbT
 have hold:Touch (fun _=>False) w w8:=(HTA.out.then HT1.out).then hT8
 have hw1s:w.heap.size≤w1.heap.size:=(HTA.out.then HT1.out).size
 obtain ⟨x,hx⟩:∃ x:FzX,x=⟨w,bW,bL,bF,bT,bV,wb,lb,lA,ln,lc,X,k+1,w8⟩:=⟨_,rfl⟩
 have hG0:FzG x w8 [] []:=by
  subst hx
  exact ⟨none,0,none,0,[],⟨⟨HBA.out.touch (HT1.out.then hT8) (fun f=>f),hbL,hbV,HLV.out.quiet hT8⟩,hold,by simp only;omega,by simp only;omega,hbF,World.ownsRow_nil _ _ _ _,fun g h=>by simp [Value.ownBlock] at h,hbT,World.ownsRow_nil _ _ _ _,fun g h=>by simp [Value.ownBlock] at h,fun i v t h=>by simp at h,Kp.refl _⟩⟩
 have hks:∀ wx,Kp w8 wx→wx.cell? ⟨bV,0,none⟩=some (Value.func (.func 89) #[] #[ptrV bW,ptrV bL,ptrV bF,ptrV bT,ptrV bV])∧wx.cell? ⟨bW,0,none⟩=some (ptrV wb)∧wx.cell? ⟨bL,0,none⟩=some (ptrV lb)∧Kp w8 wx:=fun wx T =>
  ⟨(hbV.kp T (by decide)).cell0,((HBA.out.touch (HT1.out.then hT8) (fun f=>f)).kp T (by decide)).cell0,(hbL.kp T (by decide)).cell0,T⟩
 have hwk8:=HW.out.quiet hold
 have hlv8:=HLV.out.quiet hT8
 have hfirst:∃ tot,tot.map hitM=fzAllP L X (k+1)∧∀ wx,FzG x wx [] []→Calls Tryz.prog 89 #[.int .i64 ((n:Int)-1),.slice none 0 0,.int .i64 (mach L).base,.agg (rowV (cutR' (k+1) (List.range (ln+1)))),ptrV bW,ptrV bL,ptrV bF,ptrV bT,ptrV bV] wx fun e W'=>e=.returned (.tuple #[])∧FzW x L tot 102400 W':=by
  have hXl:X.length=ln:=HLV.out.len
  by_cases hne:L=[]
  ·have hn0:n=0:=by
    rw [← HNN.out,hne]
    rfl
   refine ⟨[],by rw [hne];rfl,fun wx hg=>?_⟩
   subst hx
   have h:=visit_none _ (mach L).base HW.out.wk wx [] [] hg ((n:Int)-1) (by omega) (cutR' (k+1) (List.range (ln+1)))
   refine h.mono ?_
   rintro e w' ⟨rfl,hg'⟩
   exact ⟨rfl,[],[],hg',⟨rfl,fun t ht=>by cases ht⟩,by simp [nzL]⟩
  ·have hpos:0<n:=by rw [← HNN.out];exact (right_made HD.out hne).pos
   have hgd:=root_gd HD.out hne ln
   have hb:=hgd.bnd HD.out
   rw [HNN.out] at hb
   have ft:=fz_total HD.out hne X (k+1)
   rw [hXl] at ft
   refine ⟨_,ft,fun wx hg=>?_⟩
   have hj0:FzJ L X ln (k+1) (fzI (mach L).states X (k+1) ⟨(mach L).states.length-1,[],(mach L).base,List.range (ln+1)⟩) [] ([]++[⟨(mach L).states.length-1,[],(mach L).base,List.range (ln+1)⟩]):=by
    refine ⟨by simp,fun t ht=>?_⟩
    simp only [List.nil_append,List.mem_singleton] at ht
    subst ht
    exact hgd
   obtain ⟨s1,s2,s3⟩:=hj0.step HD.out hXl
   subst hx
   have h:=visit_fz _ HL.out HD.out HW.out wx [] [] hg (by simp) (by simp) ⟨(mach L).states.length-1,[],(mach L).base,List.range (ln+1)⟩ none 0 ⟨by rw [← HNN.out];exact hgd.i,by simp,by simp,by simp,hgd.s0,hb.s1,⟨Reads.nil _ _ _,fun h=>absurd h (by simp)⟩,by simp,by unfold maxLen;omega⟩
   have e1:(((mach L).states.length-1:Nat):Int)=(n:Int)-1:=by rw [HNN.out];omega
   simp only [e1,List.length_nil] at h
   refine h.mono ?_
   rintro e w' ⟨rfl,hg'⟩
   refine ⟨rfl,_,_,?_,s1,?_⟩
   ·simpa [List.map_append] using hg'
   ·have h1:=nz_root HD.out hne
    have h2:nzL (mach L).states ([]++[⟨(mach L).states.length-1,[],(mach L).base,List.range (ln+1)⟩])=nz (mach L).states ((mach L).states.length-1):=by simp [nzL]
    rw [h2] at s3
    omega
 obtain ⟨tot,htot,hfirst⟩:=hfirst
 have hsta2:=fun wx h=>start_any wx lb lA ln lc X (k+1) h
 obtain ⟨R0,hR0⟩:∃ y,y=cutR' (k+1) (List.range (ln+1)):=⟨_,rfl⟩
 rw [← hR0] at hfirst
 simp only [← hR0] at hsta2
 have HSTA:=hide hsta2
 have HG0:=hide hG0
 have HKS:=hide hks
 have HWK8:=hide hwk8
 have HLV8:=hide hlv8
 have HTOT:=hide htot
 have HFST:=hide hfirst
 have HX:=hide hx
 clear hw8 hT8 hbL hbF hbT hbV eL eF eT eV hold hw1s hx hG0 hks hwk8 hlv8 htot hfirst hsta2 hR0
 refine wp_region_held_drew (S:=fun wx=>wx.cell? ⟨bV,0,none⟩=some (Value.func (.func 89) #[] #[ptrV bW,ptrV bL,ptrV bF,ptrV bT,ptrV bV])∧wx.cell? ⟨bW,0,none⟩=some (ptrV wb)∧wx.cell? ⟨bL,0,none⟩=some (ptrV lb)∧Kp w8 wx) (by kernel_rfl) (HKS.out _ (Kp.quiet (Touch.refl _ _).drew)) (fun hHeld=>?_)
 refine wpAnyH_take (i:=0) (v:=?v0) rfl (by kernel_rfl) (by kernel_rfl) (by kernel_rfl) (fun _ _ _ h=>h) (Or.inl ⟨by kernel_rfl,?h0⟩) hHeld ?_
 case h0=>rintro wq ⟨s0,s1,s2,s3⟩;go_simp;with_reducible rfl
 simp only [List.getElem_toArray,List.getElem_cons_succ,List.getElem_cons_zero,Act.put,List.setIfInBounds_toArray,List.set_cons_zero,List.set_cons_succ]
 refine wpAnyH_take (i:=1) (v:=?v1) rfl (by kernel_rfl) (by kernel_rfl) (by kernel_rfl) (fun _ _ _ h=>h) (Or.inl ⟨by kernel_rfl,?h1⟩) hHeld ?_
 case h1=>rintro wq ⟨s0,s1,s2,s3⟩;go_simp;with_reducible rfl
 simp only [List.getElem_toArray,List.getElem_cons_succ,List.getElem_cons_zero,Act.put,List.setIfInBounds_toArray,List.set_cons_zero,List.set_cons_succ]
 refine wpAnyH_take (i:=3) (v:=?v3) rfl (by kernel_rfl) (by kernel_rfl) (by kernel_rfl) (fun _ _ _ h=>h) (Or.inl ⟨by kernel_rfl,?h3⟩) hHeld ?_
 case h3=>rintro wq ⟨s0,s1,s2,s3⟩;go_simp;with_reducible rfl
 simp only [List.getElem_toArray,List.getElem_cons_succ,List.getElem_cons_zero,Act.put,List.setIfInBounds_toArray,List.set_cons_zero,List.set_cons_succ]
 refine wpAnyH_take (i:=5) (v:=?v5) rfl (by kernel_rfl) (by kernel_rfl) (by kernel_rfl) (fun _ _ _ h=>h) (Or.inl ⟨by kernel_rfl,?h5⟩) hHeld ?_
 case h5=>rintro wq ⟨s0,s1,s2,s3⟩;go_simp;with_reducible rfl
 simp only [List.getElem_toArray,List.getElem_cons_succ,List.getElem_cons_zero,Act.put,List.setIfInBounds_toArray,List.set_cons_zero,List.set_cons_succ]
 refine wpAnyH_ready (rs:=[2]) (by kernel_rfl) (by simp) ?_
 refine AllReadyH.cons rfl (fun K hK=>?_) AllReadyH.nil
 go_simp
 refine (root_any _ wb (mach L).base wA n wc _ (HWK8.out.quiet (Touch.refl _ _).drew).wk.blk (by omega)).mono ?_
 rintro e w' ⟨rfl,rfl⟩
 go_simp
 refine hK.out _ _ (HKS.out _ (Kp.quiet (Touch.refl _ _).drew)) (fun hHeld=>?_)
 clear hK K
 try simp only [List.getElem_toArray,List.getElem_cons_succ,List.getElem_cons_zero,Act.put,List.setIfInBounds_toArray,List.set_cons_zero,List.set_cons_succ]
 refine wpAnyH_ready (rs:=[4]) (by kernel_rfl) (by simp) ?_
 refine AllReadyH.cons rfl (fun K hK=>?_) AllReadyH.nil
 go_simp
 refine (base_any _ wb (mach L).base _ _ (HWK8.out.quiet (Touch.refl _ _).drew).wk.blk).mono ?_
 rintro e w' ⟨rfl,rfl⟩
 go_simp
 refine hK.out _ _ (HKS.out _ (Kp.quiet (Touch.refl _ _).drew)) (fun hHeld=>?_)
 clear hK K
 try simp only [List.getElem_toArray,List.getElem_cons_succ,List.getElem_cons_zero,Act.put,List.setIfInBounds_toArray,List.set_cons_zero,List.set_cons_succ]
 refine wpAnyH_ready (rs:=[6]) (by kernel_rfl) (by simp) ?_
 refine AllReadyH.cons rfl (fun K hK=>?_) AllReadyH.nil
 go_simp
 refine (HSTA.out _ (HLV8.out.quiet (Touch.refl _ _).drew)).mono ?_
 rintro e w9 ⟨rfl,T9⟩
 have HT9:=hide ((Touch.refl (fun _=>False) w8).drew.then T9)
 clear T9
 go_simp
 refine hK.out _ _ (HKS.out _ (Kp.quiet HT9.out)) (fun hHeld=>?_)
 clear hK K
 try simp only [List.getElem_toArray,List.getElem_cons_succ,List.getElem_cons_zero,Act.put,List.setIfInBounds_toArray,List.set_cons_zero,List.set_cons_succ]
 refine wpAnyH_ready (rs:=[7]) (by kernel_rfl) (by simp) ?_
 refine AllReadyH.cons rfl (fun K hK=>?_) AllReadyH.nil
 go_simp
 refine (HFST.out w9 (HG0.out.quiet HT9.out)).mono ?_
 rintro e w10 ⟨rfl,hj⟩
 have HJ:=hide hj
 have HK10:Hid (Kp w8 w10):=hide (by
  obtain ⟨hs,I,hg,_⟩:=hj
  have h:=hg.re.2
  rw [HX.out] at h
  exact h)
 clear hj
 go_simp
 refine hK.out _ _ (HKS.out _ HK10.out) (fun hHeld=>?_)
 clear hK K
 try simp only [List.getElem_toArray,List.getElem_cons_succ,List.getElem_cons_zero,Act.put,List.setIfInBounds_toArray,List.set_cons_zero,List.set_cons_succ]
 refine wpAnyH_done (by kernel_rfl) ?_ _
 go_wp2_with fail
 go_loopg [13] 102400 (fun g _ wr=>Hid (FzW x L tot g wr)∧g≤102400)
 case atStart=>exact ⟨HJ,Nat.le_refl _⟩
 case round =>
  obtain ⟨HJr,hgk⟩:=hrel
  obtain ⟨hs,I,hg,hfj,hnz⟩:=HJr.out
  obtain ⟨FA,fc,TA,tc,vs,hR⟩:=hg
  have hbFx:x.bF=bF:=by rw [HX.out]
  have hbTx:x.bT=bT:=by rw [HX.out]
  have hfb:=hR.fb
  have htb:=hR.tb
  rw [hbFx] at hfb
  rw [hbTx] at htb
  obtain ⟨t0,t1,t2⟩:=htb.facts
  rcases snoc_cases I with hI | ⟨I',t,hI⟩
  ·subst hI
   have hht:hs=tot:=by have:=hfj.all;simpa using this
   have hF:hs.map hitM=fzAllP L X (k+1):=by rw [hht];exact HTOT.out
   obtain ⟨f0,f1,f2⟩:=hfb.facts
   have hres:ONx 43 3 w wr (.slice FA (fzAllP L X (k+1)).length fc) (fzAllP L X (k+1)).length (mCells (fzAllP L X (k+1))):=by
    rw [← hF]
    have ho:=hR.old
    have hy:=hR.fy
    rw [HX.out] at ho hy
    exact ⟨hR.fo,ho,hy⟩
   rw [hF] at f0
   have HRES:=hide hres
   simp only [List.length_nil] at t0
   clear hht hF hres hfj hnz hR hfb htb hbFx hbTx hgk
   go_wp2_with fail
   go_ret2
   exact ⟨FA,fc,rfl,HRES.out⟩
  ·subst hI
   obtain ⟨m,hm⟩:∃ m,m=I'.length:=⟨_,rfl⟩
   have hlen:(I'++[t]).length=m+1:=by simp [hm]
   have hvl:vs.length=m+1:=by have:=hR.tw.1;rw [hlen] at this;simpa using this
   rcases snoc_cases vs with hv | ⟨vs',v,hv⟩
   ·rw [hv] at hvl
    simp at hvl
   ·subst hv
    have hvm:vs'.length=m:=by simpa using hvl
    obtain ⟨p,a,bA,bH,bS,bR,A,q,c,hK⟩:=hR.kids m v t (by rw [← hvm];exact List.getElem?_concat_length) (by rw [hm];exact List.getElem?_concat_length)
    have hXl:x.X.length=x.ln:=by rw [HX.out];exact HLV8.out.len
    obtain ⟨s1,s2,s3⟩:=hfj.step HD.out hXl
    have hbn:=s2.bnd HD.out
    rw [HNN.out] at hbn
    obtain ⟨gr,cap,hA,hle,hcm,hgl,hcell,_⟩:=own_form hR.tw (by rw [hlen];omega)
    injection hA with hA1 hA2 hA3
    subst hA1
    subst hA3
    rw [hlen] at hle
    have hcv:=hcell m v (by rw [← hvm];exact List.getElem?_concat_length)
    have hpop:=hR.pop (by rw [hvm,hm])
    have hkp:=kp_todo hR.tb (.slice (some ⟨gr,0,none⟩) I'.length tc)
    have hK2:=hK.kp hkp
    have hFl:(hs.map hitM).length≤1048576:=by
     have h1:=congrArg List.length hfj.all
     have h2:=congrArg List.length HTOT.out
     have h3:(fzAllP L X (k+1)).length≤L.length:=List.length_filterMap_le _ _
     have h4:=HD.out.len
     rw [List.length_append] at h1
     rw [List.length_map] at h2 ⊢
     omega
    have hIl:I'.length≤1048576:=by
     have h1:=nzL_len HD.out (I:=I') (fun u hu=>(hfj.gd u (List.mem_append_left _ hu)).i)
     have h2:=nzL_app (mach L).states I' [t]
     omega
    rw [hbTx,← hm] at hpop hkp hK2
    have hwk:DWk x.w0 x.wb L n wA wc Z dA dc:=by rw [HX.out];exact HW.out
    have hLx:Lst x.w0:=by rw [HX.out];exact HL.out
    have hnx:=next_fz x hLx HD.out hwk _ _ I' ⟨_,_,_,_,_,hpop⟩ hFl hIl t p a bA bH bS bR A q c v hK2 hbn
    have hv:=hK.v
    have hxV:x.bV=bV:=by rw [HX.out]
    have hxL:x.bL=bL:=by rw [HX.out]
    rw [hxV,hxL] at hnx hv
    subst hv
    obtain ⟨r,hr⟩:∃ r:Nat,r=m+1:=⟨_,rfl⟩
    rw [hlen,← hr] at t0
    rw [← hr] at hle
    have y0:(0:Int)<(r:Int):=by omega
    have y1:(0:Int)≤(m:Int):=by omega
    have y2:(m:Int)<(r:Int):=by omega
    have y3:(m:Int)≤(tc:Int):=by omega
    have y4:IntKind.i64.wrap ((r:Int)-1)=(m:Int):=by rw [IntWalk.i64_in _ (by unfold maxLen at hcm;omega)];omega
    have HNX:=hide hnx
    have HS1:=hide s1
    have HS3:=hide s3
    have HZ:=hide (And.intro hnz hgk)
    have HFJ:=hide hfj
    clear hm hlen hvl hvm hK s1 s2 s3 hbn hle hcell hpop hkp hK2 hFl hIl hwk hLx hnx hxV hxL hr hXl hfj hnz hgk hR hfb htb hbFx hbTx
    go_wp2_with fail
    refine HNX.out.mono ?_
    rintro e w3 ⟨rfl,hg3⟩
    have HG3:=hide hg3
    clear hg3 HNX
    go_wp2_with fail
    go_roundg (nzL (mach L).states (I'++(fzKids (mach L).states x.X x.o t).reverse))
    case measure =>
     have h1:=HS3.out
     have h2:=HZ.out.1
     omega
    case rel =>
     refine ⟨hide ⟨hs++fzHit (mach L).states x.o t,_,?_,HS1.out,Nat.le_refl _⟩,?_⟩
     ·rw [List.map_append]
      exact HG3.out
     ·have h1:=HS3.out
      have h2:=HZ.out
      omega
end Go.Proofs.YthockgmbooefpaaGreatDoor
namespace Go.Proofs.YthockgmbooefpaaGreatDoor
open Go.RowKit
theorem rall_no (w:World) (lv:Value) (a:ByteArray) (k:Int) (ha:a.size≤9223372036854775807) (hr:levR a.toList k=false) :
  Calls Tryz.prog 63 #[lv,.string a,.int .i64 k] w fun e w'=>e=.returned (.tuple #[.slice none 0 0,.int .i64 110])∧Touch (fun _=>False) w w':=by
 have HN:=hide (rlev_any w a k ha)
 rw [hr] at HN
 clear hr ha
 go_enter Tryz.func63,Tryz.ntmps63
 go_wp2_with fail
 refine HN.out.mono ?_
 rintro e w1 ⟨rfl,T1⟩
 have HT1:=hide T1
 clear T1 HN
 go_wp2_with fail
 go_ret2
 exact ⟨rfl,HT1.out⟩
theorem fz_snoc (L:List PRow) (X:List Nat) (o i:Nat) (hi:i<L.length):fzAllP (L.take (i+1)) X o=fzAllP (L.take i) X o++(if rowW X (wordR (L.getD i PRow.zero))<o then [⟨(L.getD i PRow.zero).word,(L.getD i PRow.zero).weight,(rowW X (wordR (L.getD i PRow.zero)):Int)⟩] else []):=by
 unfold fzAllP
 have e:L.getD i PRow.zero=L[i]:=by simp [List.getD,hi]
 rw [List.take_succ_eq_append_getElem hi,List.filterMap_append,← e]
 congr 1
 split<;>simp_all
theorem dist_dict {L:List PRow} (hD:DictP L) {p:PRow} (hp:p∈L) {a:List UInt8} {X:List Nat} (hX:runesU a=some X) (hl:X.length≤24):distU p.word.toList a=some (rowW X (wordR p)):=by
 obtain ⟨w1,_,_,w4⟩:=hD.word p hp
 unfold distU
 rw [w1,hX]
 simp only
 rw [if_pos (by omega)]
 rfl
theorem rowW_le (X text:List Nat):rowW X text≤X.length+text.length:=by
 unfold rowW
 refine rowK_le X text.length text rfl _ (memD _ _ ?_)
 rw [rowK_len]
 omega
theorem rall_yes (w:World) {L:List PRow} (hD:DictP L) (A:Option Addr) (n c:Nat) (hR:Reads w 2 A n (pCells L)) (hn:L.length=n) (a:ByteArray) (k:Nat) (ha:a.size≤1099511627776) (X:List Nat) (hX:runesU a.toList=some X) (hr:levR a.toList k=true) :
  Calls Tryz.prog 63 #[.slice A n c,.string a,.int .i64 (k:Int)] w (FzRes w (fzAllP L X (k+1))):=by
 have HN:=hide (rlev_any w a k (by omega))
 rw [hr] at HN
 have hXl:X.length≤24:=by
  unfold levR at hr
  simp only [Bool.and_eq_true] at hr
  obtain ⟨x,h1,_,_,h4⟩:=word_runes hr.1
  rw [hX] at h1
  injection h1 with h1
  rw [h1];exact h4
 have hk3:(k:Int)≤3:=by
  unfold levR at hr
  simp only [Bool.and_eq_true,decide_eq_true_eq] at hr
  exact hr.2.2
 have hn4:(n:Int)≤4096:=by have:=hD.len;omega
 have HD:=hide hD
 have HR:=hide hR
 have HNN:=hide hn
 have HA:=hide ha
 have HX:=hide (And.intro hX hXl)
 obtain ⟨iM,hiM,hm0,hm1,hm2⟩:=info_parts infoMatch12
 clear hr hD hR hn ha hX hXl
 go_enter Tryz.func63,Tryz.ntmps63
 go_wp2_with fail
 refine HN.out.mono ?_
 rintro e w1 ⟨rfl,T1⟩
 have HT1:=hide T1
 clear T1 HN
 go_wp2_with fail
 go_loopw [8,9] (fun ov iv wr=>∃ (i:Nat) (Ao:Option Addr) (co fl:Nat),iv=.int .i64 i∧i≤n∧ov=.slice Ao fl co∧Hid (fl=(fzAllP (L.take i) X (k+1)).length∧ONx 43 3 w wr ov fl (mCells (fzAllP (L.take i) X (k+1))))) (fun _ iv _=>n-(intOf iv).toNat)
 case atStart=>exact ⟨0,none,0,0,rfl,by omega,rfl,hide ⟨by simp [fzAllP],(ONx.nil _ _ _).from HT1.out⟩⟩
 case round =>
  obtain ⟨i,Ao,co,fl,rfl,hi,rfl,HO⟩:=hrel
  by_cases hin:i<n
  ·have y1:(i:Int)<(n:Int):=by omega
   have y2:(0:Int)≤(i:Int):=by omega
   have y3:IntKind.i64.wrap ((i:Int)+1)=(i:Int)+1:=IntWalk.i64_in _ (by omega)
   have hil:i<L.length:=by rw [HNN.out];exact hin
   obtain ⟨g,off,hA,hgw,c0,c1⟩:=preads_at HR.out HNN.out.symm i hin
   have hgl:g<wr.heap.size:=Nat.lt_of_lt_of_le hgw HO.out.2.touch.size
   rw [← HO.out.2.touch.cell (a:=⟨g,off+i*2,none⟩) hgw (fun f=>f)] at c0
   rw [← HO.out.2.touch.cell (a:=⟨g,off+i*2+1,none⟩) hgw (fun f=>f)] at c1
   have HGW:=hide hgw
   subst hA
   have hpm:=getD_mem L PRow.zero i hil
   have hsn:=fz_snoc L X (k+1) i hil
   obtain ⟨p,hp⟩:∃ p,p=L.getD i PRow.zero:=⟨_,rfl⟩
   rw [← hp] at c0 c1 hpm hsn
   have hdd:=dist_dict HD.out hpm HX.out.1 HX.out.2
   have hrd:=rdist_any wr p.word a (dict_sizes HD.out p hpm) HA.out
   rw [hdd] at hrd
   simp only [distE] at hrd
   have hdle:=rowW_le X (wordR p)
   have hw4:=(HD.out.word p hpm).2.2.2
   have hxl:=HX.out.2
   obtain ⟨d,hd⟩:∃ d,d=rowW X (wordR p):=⟨_,rfl⟩
   rw [← hd] at hrd hsn hdle
   have y4:(d:Int)≤48:=by omega
   obtain ⟨pw,pn⟩:=p
   simp only at c0 c1 hrd hsn
   have HRD:=hide hrd
   have HSN:=hide hsn
   have HIL:=hide hil
   have HOL:=hide (show fl≤4096 by
    have h1:=HO.out.1
    have h2:(fzAllP (L.take i) X (k+1)).length≤(L.take i).length:=List.length_filterMap_le _ _
    rw [List.length_take] at h2
    omega)
   clear hgw hp hpm hdd hrd hd hsn hdle hw4 hxl hil hi hin
   go_wp2_with fail
   refine HRD.out.mono ?_
   rintro e w3 ⟨rfl,T3⟩
   have hO3:=HO.out.2.to T3
   have HO3:=hide hO3
   obtain ⟨e0,e1⟩:w3.cell? ⟨g,off+i*2,none⟩=some (.string pw)∧w3.cell? ⟨g,off+i*2+1,none⟩=some (.int .i64 pn):=⟨(T3.cell (a:=⟨g,off+i*2,none⟩) hgl (fun f=>f)).trans c0,(T3.cell (a:=⟨g,off+i*2+1,none⟩) hgl (fun f=>f)).trans c1⟩
   have l3:g<w3.heap.size:=Nat.lt_of_lt_of_le hgl T3.size
   clear T3 hO3 c0 c1 hgl HRD
   by_cases hdk:d≤k
   ·have y5:(d:Int)≤(k:Int):=by omega
    have HDK:=hide hdk
    clear hdk
    go_wp2_with fail
    have hgn:¬ (Value.slice Ao fl co).ownBlock=some g:=fun e=>by have h1:=HO3.out.fresh g e;have h2:=HGW.out;omega
    have hks:∀ wx,Touch (fun y=>(Value.slice Ao fl co).ownBlock=some y) w3 wx→wx.cell? ⟨g,off+i*2,none⟩=some (.string pw)∧wx.cell? ⟨g,off+i*2+1,none⟩=some (.int .i64 pn)∧Touch (fun y=>(Value.slice Ao fl co).ownBlock=some y) w3 wx:=fun wx T =>
     ⟨(T.cell (a:=⟨g,off+i*2,none⟩) l3 hgn).trans e0,(T.cell (a:=⟨g,off+i*2+1,none⟩) l3 hgn).trans e1,T⟩
    have HKS:=hide hks
    obtain ⟨wd,hwd⟩:∃ y,y=(w3.alloc (.cells #[.string pw,.int .i64 pn,.int .i64 (d:Int)] 43)).drew:=⟨_,rfl⟩
    have hTd:Touch (fun _=>False) w3 wd:=by rw [hwd];exact ((Touch.refl _ _).alloc _).drew
    have hrd:Reads wd 3 (some ⟨w3.heap.size,0,none⟩) 1 [.string pw,.int .i64 pn,.int .i64 (d:Int)]:=by rw [hwd];exact (Reads.new w3 _ _ 1 rfl).drew
    obtain ⟨v6,w6,hr6,O6,G6,F6,_⟩:=run_app (P:=Tryz.prog) wd 39 39 43 iM _ 3 32 Tryz.underlying39 hiM hm0 hm1 hm2 rfl (by decide) (.slice Ao fl co) fl _ (HO3.out.to hTd).own (some ⟨w3.heap.size,0,none⟩) 1 1 [.string pw,.int .i64 pn,.int .i64 (d:Int)] hrd (fun h=>by cases h) (List.all_eq_true.1 rfl) (by have:=HOL.out;unfold maxLen;omega) (by have:=HOL.out;omega)
    obtain ⟨A6,c6,hv,_,_⟩:=own_len O6
    subst hv
    have HO6:=hide ((HO3.out.to hTd).app O6 G6 F6)
    have HT6:=hide ((hTd.up (fun y=>(Value.slice Ao fl co).ownBlock=some y)).grown (row:=(Value.slice Ao fl co).ownBlock) G6 (fun y hg hlt=>hg))
    have HR6:=hide hr6
    rw [hwd] at HR6
    clear hgn hks hTd hrd O6 G6 F6 hr6 hwd
    refine wp_region_held_drew (S:=fun wx=>wx.cell? ⟨g,off+i*2,none⟩=some (.string pw)∧wx.cell? ⟨g,off+i*2+1,none⟩=some (.int .i64 pn)∧Touch (fun y=>(Value.slice Ao fl co).ownBlock=some y) w3 wx) (by kernel_rfl) (HKS.out _ (Touch.refl _ _).drew) (fun hHeld=>?_)
    refine wpAnyH_take (i:=0) (v:=?v0) rfl (by kernel_rfl) (by kernel_rfl) (by kernel_rfl) (fun _ _ _ h=>h) (Or.inl ⟨by kernel_rfl,?h0⟩) hHeld ?_
    case h0=>rintro wq ⟨s0,s1,s2⟩;go_simp;with_reducible rfl
    simp only [List.getElem_toArray,List.getElem_cons_succ,List.getElem_cons_zero,Act.put,List.setIfInBounds_toArray,List.set_cons_zero,List.set_cons_succ]
    refine wpAnyH_take (i:=1) (v:=?v1) rfl (by kernel_rfl) (by kernel_rfl) (by kernel_rfl) (fun _ _ _ h=>h) (Or.inl ⟨by kernel_rfl,?h1⟩) hHeld ?_
    case h1=>rintro wq ⟨s0,s1,s2⟩;go_simp;with_reducible rfl
    simp only [List.getElem_toArray,List.getElem_cons_succ,List.getElem_cons_zero,Act.put,List.setIfInBounds_toArray,List.set_cons_zero,List.set_cons_succ]
    refine wpAnyH_take (i:=2) (v:=?v2) rfl (by kernel_rfl) (by kernel_rfl) (by kernel_rfl) (fun _ _ _ h=>h) (Or.inl ⟨by kernel_rfl,?h2⟩) hHeld ?_
    case h2=>rintro wq ⟨s0,s1,s2⟩;go_simp;with_reducible rfl
    simp only [List.getElem_toArray,List.getElem_cons_succ,List.getElem_cons_zero,Act.put,List.setIfInBounds_toArray,List.set_cons_zero,List.set_cons_succ]
    refine wpAnyH_take (i:=3) (v:=?v3) rfl (by kernel_rfl) (by kernel_rfl) (by kernel_rfl) (fun _ _ _ h=>h) (Or.inl ⟨by kernel_rfl,?h3⟩) hHeld ?_
    case h3=>rintro wq ⟨s0,s1,s2⟩;go_simp;with_reducible rfl
    simp only [List.getElem_toArray,List.getElem_cons_succ,List.getElem_cons_zero,Act.put,List.setIfInBounds_toArray,List.set_cons_zero,List.set_cons_succ]
    refine wpAnyH_take (i:=4) (v:=?v4) rfl (by kernel_rfl) (by kernel_rfl) (by kernel_rfl) (fun _ _ _ h=>h) (Or.inl ⟨by kernel_rfl,?h4⟩) hHeld ?_
    case h4=>rintro wq ⟨s0,s1,s2⟩;go_simp;with_reducible rfl
    simp only [List.getElem_toArray,List.getElem_cons_succ,List.getElem_cons_zero,Act.put,List.setIfInBounds_toArray,List.set_cons_zero,List.set_cons_succ]
    refine wpAnyH_take (i:=5) (v:=?v5) rfl (by kernel_rfl) (by kernel_rfl) (by kernel_rfl) (fun _ _ _ h=>h) (Or.inl ⟨by kernel_rfl,?h5⟩) hHeld ?_
    case h5=>rintro wq ⟨s0,s1,s2⟩;go_simp;with_reducible rfl
    simp only [List.getElem_toArray,List.getElem_cons_succ,List.getElem_cons_zero,Act.put,List.setIfInBounds_toArray,List.set_cons_zero,List.set_cons_succ]
    refine wpAnyH_take (i:=6) (v:=?v6) rfl (by kernel_rfl) (by kernel_rfl) (by kernel_rfl) (fun _ _ _ h=>h) (Or.inl ⟨by kernel_rfl,?h6⟩) hHeld ?_
    case h6=>rintro wq ⟨s0,s1,s2⟩;go_simp;with_reducible rfl
    simp only [List.getElem_toArray,List.getElem_cons_succ,List.getElem_cons_zero,Act.put,List.setIfInBounds_toArray,List.set_cons_zero,List.set_cons_succ]
    refine wpAnyH_take (i:=7) (v:=?v7) rfl (by kernel_rfl) (by kernel_rfl) (by kernel_rfl) (fun _ _ _ h=>h) (Or.inl ⟨by kernel_rfl,?h7⟩) hHeld ?_
    case h7=>rintro wq ⟨s0,s1,s2⟩;go_simp;with_reducible rfl
    simp only [List.getElem_toArray,List.getElem_cons_succ,List.getElem_cons_zero,Act.put,List.setIfInBounds_toArray,List.set_cons_zero,List.set_cons_succ]
    refine wpAnyH_take (i:=8) (v:=?v8) rfl (by kernel_rfl) (by kernel_rfl) (by kernel_rfl) (fun _ _ _ h=>h) (Or.inl ⟨by kernel_rfl,?h8⟩) hHeld ?_
    case h8=>rintro wq ⟨s0,s1,s2⟩;go_simp;with_reducible rfl
    simp only [List.getElem_toArray,List.getElem_cons_succ,List.getElem_cons_zero,Act.put,List.setIfInBounds_toArray,List.set_cons_zero,List.set_cons_succ]
    refine wpAnyH_take (i:=9) (v:=?v9) rfl (by kernel_rfl) (by kernel_rfl) (by kernel_rfl) (fun _ _ _ h=>h) (Or.inl ⟨by kernel_rfl,?h9⟩) hHeld ?_
    case h9=>rintro wq ⟨s0,s1,s2⟩;go_simp;with_reducible rfl
    simp only [List.getElem_toArray,List.getElem_cons_succ,List.getElem_cons_zero,Act.put,List.setIfInBounds_toArray,List.set_cons_zero,List.set_cons_succ]
    refine wpAnyH_take (i:=10) (v:=?v10) rfl (by kernel_rfl) (by kernel_rfl) (by kernel_rfl) (fun _ _ _ h=>h) (Or.inl ⟨by kernel_rfl,?h10⟩) hHeld ?_
    case h10=>rintro wq ⟨s0,s1,s2⟩;go_simp;with_reducible rfl
    simp only [List.getElem_toArray,List.getElem_cons_succ,List.getElem_cons_zero,Act.put,List.setIfInBounds_toArray,List.set_cons_zero,List.set_cons_succ]
    refine wpAnyH_take (i:=11) (v:=?v11) rfl (by kernel_rfl) (by kernel_rfl) (by kernel_rfl) (fun _ _ _ h=>h) (Or.inl ⟨by kernel_rfl,?h11⟩) hHeld ?_
    case h11=>rintro wq ⟨s0,s1,s2⟩;go_simp;with_reducible rfl
    simp only [List.getElem_toArray,List.getElem_cons_succ,List.getElem_cons_zero,Act.put,List.setIfInBounds_toArray,List.set_cons_zero,List.set_cons_succ]
    refine wpAnyH_take (i:=12) (v:=?v12) rfl (by kernel_rfl) (by kernel_rfl) (by kernel_rfl) (fun _ _ _ h=>h) (Or.inl ⟨by kernel_rfl,?h12⟩) hHeld ?_
    case h12=>rintro wq ⟨s0,s1,s2⟩;go_simp;with_reducible rfl
    simp only [List.getElem_toArray,List.getElem_cons_succ,List.getElem_cons_zero,Act.put,List.setIfInBounds_toArray,List.set_cons_zero,List.set_cons_succ]
    refine wpAnyH_ready (rs:=[13]) (by kernel_rfl) (by simp) ?_
    refine AllReadyH.cons rfl (fun K hK=>?_) AllReadyH.nil
    go_simp
    refine hK.out _ _ (HKS.out _ ((Touch.refl _ _).drew.alloc _)) (fun hHeld=>?_)
    clear hK K
    try simp only [List.getElem_toArray,List.getElem_cons_succ,List.getElem_cons_zero,Act.put,List.setIfInBounds_toArray,List.set_cons_zero,List.set_cons_succ]
    refine wpAnyH_ready (rs:=[14]) (by kernel_rfl) (by simp) ?_
    refine AllReadyH.cons rfl (fun K hK=>?_) AllReadyH.nil
    rw [if_pos (by rfl)]
    refine wp_app_run (.tmp 38) (.tmp 51) 39 rfl (.slice Ao fl co) (.slice (some ⟨w3.heap.size,0,none⟩) 1 1) _ w6 rfl rfl HR6.out ?_
    refine hK.out _ _ (HKS.out _ HT6.out) (fun hHeld=>?_)
    clear hK K
    try simp only [List.getElem_toArray,List.getElem_cons_succ,List.getElem_cons_zero,Act.put,List.setIfInBounds_toArray,List.set_cons_zero,List.set_cons_succ]
    refine wpAnyH_take (i:=15) (v:=?v15) rfl (by kernel_rfl) (by kernel_rfl) (by kernel_rfl) (fun _ _ _ h=>h) (Or.inl ⟨by kernel_rfl,?h15⟩) hHeld ?_
    case h15=>rintro wq ⟨s0,s1,s2⟩;go_simp;with_reducible rfl
    simp only [List.getElem_toArray,List.getElem_cons_succ,List.getElem_cons_zero,Act.put,List.setIfInBounds_toArray,List.set_cons_zero,List.set_cons_succ]
    refine wpAnyH_done (by kernel_rfl) ?_ _
    go_wp2_with fail
    go_roundw
    ·have hs:=HSN.out
     rw [if_pos (by have:=HDK.out;omega)] at hs
     refine ⟨i+1,A6,c6,fl+1,by simp,by have:=HIL.out;have:=HNN.out;omega,rfl,hide ⟨?_,?_⟩⟩
     ·rw [hs,List.length_append,← HO.out.1];rfl
     ·rw [hs]
      have e2:mCells (fzAllP (L.take i) X (k+1)++[⟨pw,pn,(d:Int)⟩])=mCells (fzAllP (L.take i) X (k+1))++[.string pw,.int .i64 pn,.int .i64 (d:Int)]:=by simp [mCells,MRow.cells]
      rw [e2]
      exact HO6.out
    ·have h1:=HIL.out
     have h2:=HNN.out
     simp only [intOf]
     omega
   ·have y5:¬ (d:Int)≤(k:Int):=by omega
    have HDK:=hide hdk
    clear hdk
    go_wp2_with fail
    go_roundw
    ·have hs:=HSN.out
     rw [if_neg (by have:=HDK.out;omega),List.append_nil] at hs
     refine ⟨i+1,Ao,co,fl,by simp,by have:=HIL.out;have:=HNN.out;omega,rfl,hide ⟨?_,?_⟩⟩
     ·rw [hs,← HO.out.1]
     ·rw [hs]
      exact HO3.out
    ·have h1:=HIL.out
     have h2:=HNN.out
     simp only [intOf]
     omega
  ·have hie:i=n:=by omega
   subst hie
   have y1:¬ (i:Int)<(i:Int):=by omega
   have ht:L.take i=L:=List.take_of_length_le (by rw [HNN.out];exact Nat.le_refl _)
   rw [ht] at HO
   obtain ⟨hfl,ho⟩:=HO.out
   subst hfl
   have HO':=hide ho
   clear ht ho hi hin HO
   go_wp2_with fail
   go_ret2
   exact ⟨Ao,co,rfl,HO'.out⟩
end Go.Proofs.YthockgmbooefpaaGreatDoor
namespace Go.Proofs.YthockgmbooefpaaGreatDoor
open Go.RowKit
theorem cells_len (r:MRow):(MRow.cells r).length=3:=rfl
theorem mCells_at (X:List MRow) (k:Nat) (hk:k<X.length) (j:Nat) (hj:j<3):(mCells X)[k*3+j]? = (X.getD k MRow.zero).cells[j]? := by
 have e:X.getD k MRow.zero=X[k]:=by simp [List.getD,hk]
 rw [e]
 exact flat_at MRow.cells 3 cells_len X k j hk hj
theorem reads_at {w:World} {A:Option Addr} {n:Nat} {X:List MRow} (h:Reads w 3 A n (mCells X)) (hn:n=X.length) (k:Nat) (hk:k<n) :
  ∃ g off,A=some ⟨g,off,none⟩∧g<w.heap.size∧w.cell? ⟨g,off+k*3,none⟩=some (.string (X.getD k MRow.zero).word)∧w.cell? ⟨g,off+k*3+1,none⟩=some (.int .i64 (X.getD k MRow.zero).weight) ∧
   w.cell? ⟨g,off+k*3+2,none⟩=some (.int .i64 (X.getD k MRow.zero).dist):=by
 subst hn
 obtain ⟨b,off,hA,hb,hc⟩:=h.2 (by omega)
 refine ⟨b,off,hA,hb,?_,?_,?_⟩
 ·exact hc (k*3) _ (mCells_at X k hk 0 (by omega))
 ·rw [Nat.add_assoc];exact hc (k*3+1) _ (mCells_at X k hk 1 (by omega))
 ·rw [Nat.add_assoc];exact hc (k*3+2) _ (mCells_at X k hk 2 (by omega))
theorem same_yes (w:World) (A:Option Addr) (n c:Nat) (X:List MRow) (hX:X.length=n) (hA:Reads w 3 A n (mCells X)) (hn:n≤maxLen) (B:Option Addr) (d:Nat) (hB:Reads w 3 B n (mCells X)) :
  Calls Tryz.prog 17 #[.slice A n c,.slice B n d] w fun e w'=>e=.returned (.bool true)∧Touch (fun _=>False) w w':=by
 unfold maxLen at hn
 have HA:=hide hA
 have HB:=hide hB
 have HX:=hide hX
 clear hA hB hX
 go_enter Tryz.func17,Tryz.ntmps17
 go_wp2
 go_loopw [5] (fun i wr=>∃ k:Nat,k≤n∧i=.int .i64 k∧Hid (Touch (fun _=>False) w wr)) (fun i _=>n-(intOf i).toNat)
 case atStart=>exact ⟨0,Nat.zero_le _,rfl,hide (Touch.refl _ _)⟩
 case round =>
  obtain ⟨k,hk,rfl,HT⟩:=hrel
  by_cases hkn:k<n
  ·obtain ⟨g,o,hg,_,a0,a1,a2⟩:=reads_at (HA.out.touch HT.out (fun _ _ f=>f)) HX.out.symm k hkn
   obtain ⟨g',o',hg',_,b0,b1,b2⟩:=reads_at (HB.out.touch HT.out (fun _ _ f=>f)) HX.out.symm k hkn
   subst hg hg'
   obtain ⟨⟨xw,xn,xd⟩,hx⟩:∃ x,x=X.getD k MRow.zero:=⟨_,rfl⟩
   rw [← hx] at a0 a1 a2 b0 b1 b2
   simp only at a0 a1 a2 b0 b1 b2
   have k0:(k:Int)<(n:Int):=by omega
   clear hx
   go_wp2
   go_quiet (fail)
   go_wp2
   go_roundw
   ·exact ⟨k+1,by omega,by simp,hide (HT.out.drewN _)⟩
   ·show n-(intOf (.int .i64 ((k:Int)+1))).toNat<n-(intOf (.int .i64 (k:Int))).toNat
    simp [intOf]
    omega
  ·go_wp2
   go_ret
   exact ⟨rfl,HT.out⟩
end Go.Proofs.YthockgmbooefpaaGreatDoor
namespace Go.Proofs.YthockgmbooefpaaGreatDoor
open Go.RowKit
theorem lev_parts {a:List UInt8} {k:Int} (h:levR a k=true):∃ X n,runesU a=some X∧X.length≤24∧a.length≤96∧k=((n:Nat):Int)∧n≤3:=by
 unfold levR at h
 simp only [Bool.and_eq_true,decide_eq_true_eq] at h
 obtain ⟨x,h1,_,_,h4⟩:=word_runes h.1
 refine ⟨x,k.toNat,h1,h4,?_,by omega,by omega⟩
 have:=h.1
 unfold wordU at this
 simp only [Bool.and_eq_true,decide_eq_true_eq] at this
 exact this.1
theorem size_toList (a:ByteArray):a.toList.length=a.size:=by
 rw [Go.ByteArray.toList_eq,Array.length_toList]
 rfl
theorem fz_len (L:List PRow) (X:List Nat) (o:Nat):(fzAllP L X o).length≤L.length:=List.length_filterMap_le _ _
end Go.Proofs.YthockgmbooefpaaGreatDoor
