/- What the law rests on, part 38. No condition but those that each theorem names. -/
import Derived.Test.YtbijfoeaemceiaaGreatDoorS37
import Derived.Laws.CopyRow
import Derived.Laws.MakeOwn
import Derived.Lib.SlBuf
import Derived.StillTailTactics
set_option linter.unusedSectionVars false
set_option linter.unusedSimpArgs false
set_option linter.unusedVariables false
namespace Go.Proofs.YtbijfoeaemceiaaGreatDoor
open Go.RowKit Go.Shelf
theorem run_copy_rowS {P:Program} (w:World) (dT sT ty elem:TypeId) (g o dLen dCap:Nat) (a:Addr) (sLen sCap size:Nat) (cur:Array Value) (t:TypeId) (cs:List Value)
  (hu:P.underlying dT=some (.slice elem)) (i:TypeInfo) (hi0:P.info? elem=some i) (hi:i.size=size)
  (hg:w.heap[g]? = some (.cells cur t (0,0))) (hn:cs.length=Nat.min sLen dLen*size)
  (hsrc:∀ j v,cs[j]? = some v→w.cell? (a.add j)=some v) (hfit:o+cs.length≤cur.size) (h1:∀ v∈cs,v.oneCell'=true) :
  (Builtin.copy_ #[dT,sT] ty #[.slice (some ⟨g,o,none⟩) dLen dCap,.slice (some a) sLen sCap]).run P w =
    .ok (goInt (Nat.min sLen dLen)) (w.setRow g (cur.toList.take o++cs++cur.toList.drop (o+cs.length)).toArray):=by
 have hl:=run_loadCells_list (P:=P) w a cs hsrc
 have hst:=run_storeCells_at P g o t cs 0 cur w hg (by simpa using hfit) h1
 simp [Builtin.copy_,run_underlying hu,Builtin.lenOf,Builtin.firstCells,sizeOf,typeInfo,hi0,hi,← hn,hl,hst]
theorem run_copy_noneS {P:Program} (w:World) (dT sT ty elem:TypeId) (g o dCap:Nat) (sCap:Nat)
  (hu:P.underlying dT=some (.slice elem)) (i:TypeInfo) (hi0:P.info? elem=some i) :
  (Builtin.copy_ #[dT,sT] ty #[.slice (some ⟨g,o,none⟩) 0 dCap,.slice none 0 sCap]).run P w=.ok (goInt 0) w:=by
 simp [Builtin.copy_,run_underlying hu,Builtin.lenOf,Builtin.firstCells,sizeOf,typeInfo,hi0,storeCells]
theorem one_pairs (L:List PRow):∀ u∈pCells L,u.oneCell'=true:=by
 intro u hu
 obtain ⟨r,_,h⟩:=List.mem_flatMap.1 hu
 simp only [PRow.cells,List.mem_cons,List.not_mem_nil,or_false] at h
 rcases h with rfl | rfl<;>rfl
theorem made_size (z:Array Value) (n:Nat):(madeCells z n).size=n:=by simp [madeCells]
theorem copied (w2:World) (g n:Nat) (oA:Option Addr) (oc:Nat) (O:List PRow) (CS:Array Value) (hCS:CS.size=(n+1)*2) (hg:w2.heap[g]? = some (.cells CS 62 (0,0))) (hO:O.length=n) (hr:Reads w2 2 oA n (pCells O)) (hn:n≤33) :
  ∃ w3,(∀ ty,(Builtin.copy_ #[22,22] ty #[.slice (some ⟨g,0,none⟩) n (n+1),.slice oA n oc]).run Tryz.prog w2=.ok (goInt (n:Int)) w3)∧POwn w3 (some ⟨g,0,none⟩) n (n+1) O∧Touch (fun k=>k=g) w2 w3:=by
 obtain ⟨i0,hi,hz0,hz1,hz2⟩:=info_parts infoPair
 have hlen:=pCells_len O
 rw [hO] at hlen
 have hrow:∀ w3 cs,w3.heap[g]? = some (.cells cs 62 (0,0))→cs.size=(n+1)*2→cs.toList.take (n*2)=pCells O→POwn w3 (some ⟨g,0,none⟩) n (n+1) O:=fun w3 cs h1 h2 h3 =>
  ⟨hlen,.inr ⟨g,n+1,cs,rfl,Nat.zero_le _,h1,by omega,by unfold maxLen;omega,h2,h3⟩⟩
 cases oA with
 | none =>
  have h0:n=0:=by
   refine Classical.byContradiction fun h=>?_
   obtain ⟨b,off,e,_⟩:=hr.2 (by omega)
   cases e
  subst h0
  have hO0:O=[]:=List.eq_nil_of_length_eq_zero hO
  subst hO0
  exact ⟨w2,fun ty=>run_copy_noneS w2 _ _ ty _ g 0 1 oc Tryz.underlying22 i0 hi,hrow w2 CS hg hCS rfl,Touch.refl _ _⟩
 | some a =>
  have hsrc:∀ j v,(pCells O)[j]? = some v→w2.cell? (a.add j)=some v:=by
   intro j v hj
   rcases Nat.eq_zero_or_pos n with h0 | h0
   ·have:O=[]:=List.eq_nil_of_length_eq_zero (by omega)
    subst this
    simp [pCells] at hj
   ·obtain ⟨b,off,e,_,hc⟩:=hr.2 h0
    cases e
    have hadd:(⟨b,off,none⟩:Addr).add j=⟨b,off+j,none⟩:=by unfold Addr.add;split<;>simp_all
    rw [hadd]
    exact hc j v hj
  refine ⟨_,fun ty=>?_,hrow (w2.setRow g (CS.toList.take 0++pCells O++CS.toList.drop (0+(pCells O).length)).toArray) _ (setRow_heap w2 g CS _ _ _ hg) ?_ ?_,⟨rfl,rfl,rfl,by simp [World.setRow],fun k _ hk=>setRow_other w2 g k _ hk⟩⟩
  ·have h:=run_copy_rowS (P:=Tryz.prog) w2 22 22 ty 62 g 0 n (n+1) a n oc 2 CS _ (pCells O) Tryz.underlying22 i0 hi hz1 hg (by rw [hlen];simp) hsrc (by rw [hlen,hCS];omega) (one_pairs O)
   rw [h]
   simp
  ·simp only [List.take_zero,List.nil_append,Nat.zero_add,List.size_toArray,List.length_append,List.length_drop,Array.length_toList,hlen,hCS]
   omega
  ·simp only [List.take_zero,List.nil_append,Nat.zero_add]
   rw [List.take_append_of_le_length (by rw [hlen];exact Nat.le_refl _),List.take_of_length_le (by rw [hlen];exact Nat.le_refl _)]
set_option maxRecDepth 100000 in
set_option maxHeartbeats 4000000 in
theorem change_x (w:World) (hL:Lst w) {d:Nat} {m:Int} {L:List PRow} {wb:Nat} {B:List PRow} {n:Nat} {A:Option Addr} {c:Nat} {Z:List SV} {wA:Option Addr} {wc:Nat} {oA:Option Addr} {on oc:Nat} {O:List PRow} (hx:DctX w d m L wb B n A c Z wA wc oA on oc O) (hq:on≤32)
  (p:PRow) (L2:List PRow) (hl:∀ Y,Nrm (O++[p]) Y→LayP B Y L2) (hm:m=(L2.length:Int)) :
  Calls Tryz.prog 75 #[ptrV d,p.val] w fun e w'=>e=.returned (.tuple #[])∧(∃ q,DctM w' d L2 q)∧Touch (fun g=>g=d) w w':=by
 obtain ⟨pw,pn⟩:=p
 obtain ⟨i0,hi0,hz0,hz1,hz2⟩:=info_parts infoPair
 obtain ⟨wa,hwa⟩:∃ y,y=w.alloc (.cells #[.string pw,.int .i64 pn] 62):=⟨_,rfl⟩
 obtain ⟨bb,hbb⟩:∃ y,y=w.heap.size:=⟨_,rfl⟩
 have hTa:Touch (fun _=>False) w wa:=by rw [hwa];exact (Touch.refl _ _).alloc _
 have hbB:Blk wa bb 62 #[.string pw,.int .i64 pn]:=by rw [hwa,hbb];exact Blk.new _ _ _
 obtain ⟨CS,hCS⟩:∃ y,y=madeCells #[.string ByteArray.empty,.int .i64 0] ((on+1)*2):=⟨_,rfl⟩
 have hsz:CS.size=(on+1)*2:=by rw [hCS];exact made_size _ _
 have hmk:∀ W:World,(Instr.makeSlice 22 (.int .i64 (on:Int)) (.int .i64 ((on:Int)+1))).run Tryz.prog W=.ok (.slice (some ⟨W.heap.size,0,none⟩) on (on+1)) (W.alloc (.cells CS 62)):=by
  intro W
  have h:=run_makeSlice (P:=Tryz.prog) W 22 62 i0 _ Tryz.underlying22 hi0 hz0 .i64 .i64 (on:Int) ((on:Int)+1) (by omega) (by omega) (by rw [hz1];omega) (by rw [hz2];omega) (by omega)
  rw [h]
  simp only [Int.toNat_natCast,Int.toNat_natCast_add_one,hz1,hCS,Value.cells]
 have z1:IntKind.i64.wrap ((on:Int)+1)=(on:Int)+1:=IntWalk.i64_in _ (by omega)
 obtain ⟨x0,x1,x2⟩:=(hx.blk.touch hTa (fun f=>f)).facts
 have HX:=hide hx
 have HL:=hide hL
 have HQ:=hide hq
 have HLY:=hide hl
 have HM:=hide hm
 have HTA:=hide hTa
 have HBB:=hide hbB
 have HWA:=hide hwa
 have HB0:=hide hbb
 have HSZ:=hide hsz
 clear hx hL hl hm hTa hbB hwa hbb hsz hCS hq
 unfold PRow.val
 go_enter Tryz.func75,Tryz.ntmps75
 go_upto_region 1 with fail
 rw [← HWA.out,← HB0.out]
 go_still_tail 11,(by kernel_rfl)
 change wpList _ _ _ _ _ wa.drew
 have HDR:Hid (Touch (fun _=>False) w wa.drew):=hide (HTA.out.then (Touch.refl _ _).drew)
 have HBD:Hid (Blk wa.drew bb 62 #[.string pw,.int .i64 pn]):=hide HBB.out.drew
 generalize wa.drew=wd at HDR HBD ⊢
 obtain ⟨wM,hwM⟩:∃ y,y=wd.alloc (.cells CS 62):=⟨_,rfl⟩
 obtain ⟨gM,hgM⟩:∃ y,y=wd.heap.size:=⟨_,rfl⟩
 have HWM:=hide hwM
 have HGM:=hide hgM
 have hTM:Touch (fun _=>False) w wM:=by rw [hwM];exact HDR.out.alloc _
 have hgCS:wM.heap[gM]? = some (.cells CS 62 (0,0)):=by rw [hwM,hgM];exact Blk.new wd 62 CS
 obtain ⟨wC,hcp,hoC,hTC⟩:=copied wM gM on oA oc O CS HSZ.out hgCS HX.out.len (HX.out.ov.rd.touch hTM (fun _ _ f=>f)) (by have:=HQ.out;omega)
 have hgy:w.heap.size≤gM:=by rw [hgM];exact HDR.out.size
 have hTwC:Touch (fun _=>False) w wC:=hTM.trans hTC (fun g hg e=>by omega)
 have HTM:=hide hTM
 have HBC:Hid (Blk wC bb 62 #[.string pw,.int .i64 pn]):=hide (by
  have h1:Blk wM bb 62 #[.string pw,.int .i64 pn]:=by rw [hwM];exact HBD.out.alloc _
  exact h1.touch hTC (fun e=>by have:=HBD.out.lt;omega))
 have HCP:=hide hcp
 have HOC:=hide hoC
 have HTWC:=hide hTwC
 have HGY:=hide hgy
 clear hwM hgM hTM hgCS hcp hoC hTC hTwC hgy x0 x1 x2
 obtain ⟨x0,x1,x2⟩:=(HX.out.blk.touch HTM.out (fun f=>f)).facts
 go_upto_region 2 with fail
 rw [← HWM.out,← HGM.out]
 have hcp:=HCP.out
 obtain ⟨y0,y1,y2⟩:=(HX.out.blk.touch HTWC.out (fun f=>f)).facts
 go_upto_region 3 with fail
 clear hcp x0 x1 x2
 obtain ⟨wB,hwB⟩:∃ y,y=wC.alloc (.cells #[.string pw,.int .i64 pn] 62):=⟨_,rfl⟩
 have hTB:Touch (fun _=>False) wC wB:=by rw [hwB];exact (Touch.refl _ _).alloc _
 have hrd:Reads wB 2 (some ⟨wC.heap.size,0,none⟩) 1 [.string pw,.int .i64 pn]:=by
  rw [hwB]
  have h:=Reads.new (size:=2) wC 62 [.string pw,.int .i64 pn] 1 rfl
  simpa using h
 have hone:∀ u∈[Value.string pw,.int .i64 pn],u.oneCell'=true:=by
  intro u hu
  simp only [List.mem_cons,List.not_mem_nil,or_false] at hu
  rcases hu with rfl | rfl<;>rfl
 obtain ⟨b0,b1,b2⟩:=HBC.out.facts
 have HWB:=hide hwB
 have HTB:=hide (HTWC.out.then hTB)
 have HOB:=hide (World.ownsRow.alloc HOC.out (.cells #[.string pw,.int .i64 pn] 62))
 rw [← hwB] at HOB
 have HRD:=hide hrd
 have HONE:=hide hone
 have HBBd:Hid (on+1≤maxLen∧(on+1)*24≤140737488355328):=hide (by unfold maxLen;have:=HQ.out;omega)
 have hpc:pCells (O++[(⟨pw,pn⟩:PRow)])=pCells O++[.string pw,.int .i64 pn]:=by simp [pCells,PRow.cells]
 have HPC:=hide hpc
 have hgyo:∀ g,(Value.slice (some ⟨gM,0,none⟩) on (on+1)).ownBlock=some g→w.heap.size≤g:=fun g hg=>by
  simp [Value.ownBlock] at hg
  have:=HGY.out
  omega
 have HGYO:=hide hgyo
 clear hwB hTB hrd hone hpc hgyo
 go_wp2_with (at_builtin;rw [← HWB.out];refine wpList_app _ rfl (.tmp 24) (.tmp 26) 22 rfl 62 i0 _ 2 24 Tryz.underlying22 hi0 hz0 hz1 hz2 rfl (by decide) (.slice (some ⟨gM,0,none⟩) on (on+1)) on _ rfl HOB.out (some ⟨wC.heap.size,0,none⟩) 1 1 [.string pw,.int .i64 pn] rfl HRD.out (fun h=>by cases h) HONE.out HBBd.out.1 HBBd.out.2 ?_;intro v6 w6 O6 G6 F6 _;obtain ⟨A6,c6,hv,_,_⟩:=own_len O6;subst hv;have HO6:=hide O6;have HT6:=hide (HTB.out.grown G6 (fun k hk hlt=>by have:=HGYO.out k hk;omega));clear O6 G6 F6 b0 b1 b2 y0 y1 y2)
 have hO6:=HO6.out
 rw [← HPC.out] at hO6
 have HNR:=hide (pnorm_any w6 ⟨A6,on+1,c6,O++[⟨pw,pn⟩]⟩ (own_okD hO6) (by have:=HQ.out;simp only;omega))
 simp only [SL.val] at HNR
 clear hO6
 refine HNR.out.mono ?_
 rintro e w7 ⟨A7,n7,c7,Y,rfl,O7,N7,T7,h7,hnil7,_⟩
 have HT7:=hide (HT6.out.then T7)
 have HN7:=hide N7
 have HO7:=hide O7
 have HK7:=hide (And.intro h7 hnil7)
 have hb7:=HX.out.blk.touch HT7.out (fun f=>f)
 obtain ⟨x0,x1,x2⟩:=hb7.facts
 have HB7:=hide hb7
 have HLN7:=hide (pown_len O7)
 clear T7 h7 hnil7 HNR hb7 O7 N7
 go_upto_region 4 with fail
 have hb8:Blk (w7.setCell ⟨d,1,none⟩ (.slice A7 n7 c7)) d 108 #[ptrV wb,.slice A7 n7 c7,.int .i64 m]:=by
  have:=HB7.out.set_ 1 (.slice A7 n7 c7)
  simpa using this
 have hT8:Touch (fun g=>g=d) w7 (w7.setCell ⟨d,1,none⟩ (.slice A7 n7 c7)):=(Touch.refl (fun g=>g=d) w7).setCell (p:=⟨d,1,none⟩) (fun _=>rfl) _
 obtain ⟨w8,hw8⟩:∃ y,y=w7.setCell ⟨d,1,none⟩ (.slice A7 n7 c7):=⟨_,rfl⟩
 rw [← hw8] at hb8 hT8 ⊢
 have hTw8:Touch (fun g=>g=d) w w8:=(HT7.out.up _).then hT8
 have hdx:DctX w8 d m L2 wb B n A c Z wA wc A7 n7 c7 Y :=
  ⟨hb8,(HX.out.wk.quiet HT7.out).far hT8 (fun g t hg ht=>dict_ne (blk_ty HB7.out) hg ht),(RdT.of_own HO7.out).touch hT8 (fun g hg=>dict_ne (blk_ty HB7.out) hg (.inr (.inr (.inr (.inr rfl))))),HLN7.out.symm,by have h1:n7≤on+1:=HK7.out.1;have h2:=HQ.out;omega,HK7.out.2,HLY.out Y HN7.out,HX.out.pos⟩
 have hL8:Lst w8:=HL.out.far hTw8 (fun e=>by have:=HX.out.pos;omega)
 clear x0 x1 x2
 obtain ⟨x0,x1,x2⟩:=hb8.facts
 by_cases h32:n7≤32
 ·have k1:¬ (32:Int)<(n7:Int):=by omega
  have HDX:=hide hdx
  have HTW8:=hide hTw8
  have H32:=hide h32
  clear hdx hTw8 hL8 hb8 hT8 hw8 h32
  go_wp2_with fail
  go_end0
  refine ⟨rfl,⟨n7,H32.out,wb,B,n,A,c,Z,wA,wc,A7,c7,Y,?_⟩,HTW8.out⟩
  have h:=HDX.out
  rw [HM.out] at h
  exact h
 ·have k1:(32:Int)<(n7:Int):=by omega
  have HCM:=hide (compact_x w8 hL8 hdx HM.out)
  have HTW8:=hide hTw8
  clear hdx hTw8 hL8 hb8 hT8 hw8 h32
  go_wp2_with fail
  refine HCM.out.mono ?_
  rintro e w9 ⟨rfl,hd9,T9⟩
  have HD9:=hide hd9
  have HT9:=hide (HTW8.out.then T9)
  clear hd9 T9 HCM
  go_wp2_with fail
  go_end0
  exact ⟨rfl,⟨0,HD9.out⟩,HT9.out⟩
end Go.Proofs.YtbijfoeaemceiaaGreatDoor
namespace Go.Proofs.YtbijfoeaemceiaaGreatDoor
open Go.RowKit Go.Shelf
theorem set_err {L:List PRow} {k:ByteArray} {n e:Int} (h:setE L k.toList n=e) (he:¬ e=0):setH L k n=0∧setL L k n=L:=by
 unfold setH setL
 rw [h,if_neg he,if_neg he]
 exact ⟨rfl,rfl⟩
theorem rem_err {L:List PRow} {k:ByteArray} {e:Int} (h:remE L k.toList=e) (he:¬ e=0):remH L k=0∧remL L k=L:=by
 unfold remH remL
 rw [h,if_neg he,if_neg he]
 exact ⟨rfl,rfl⟩
set_option maxRecDepth 100000 in
set_option maxHeartbeats 4000000 in
theorem dset_any (w:World) (hL:Lst w) {d:Nat} {L:List PRow} {q:Nat} (h:DctM w d L q) (k:ByteArray) (hk:k.size≤1099511627776) (n:Int) :
  Calls Tryz.prog 33 #[ptrV d,.string k,.int .i64 n] w fun e w'=>e=.returned (.tuple #[.int .i64 (setH L k n),.int .i64 (setE L k.toList n)])∧(∃ q',DctM w' d (setL L k n) q')∧Touch (fun g=>g=d) w w':=by
 have hdl:=h.dict.len
 have hstr:=dict_strict h.dict
 have HWG:=hide (dweigh_any w hL h k hk)
 have HWD:=hide (fun (wx:World) (T:Touch (fun _=>False) w wx)=>word_any wx k (by omega) (Lst.touch hL T))
 have HD:=hide h
 have HL:=hide hL
 obtain ⟨⟨x,t⟩,hxt⟩:∃ r,r=findP k.toList L:=⟨_,rfl⟩
 rw [← hxt] at HWG
 simp only at HWG
 have HXT:=hide hxt
 have hdlI:(L.length:Int)≤4096:=by omega
 obtain ⟨v,hv⟩:∃ v,v=wordU k.toList:=⟨_,rfl⟩
 simp only [← hv] at HWD
 have HV:=hide hv
 clear h hL hk hxt hv
 cases v with
 | false =>
  have hE:setE L k.toList n=140:=by unfold setE;rw [if_pos HV.out.symm]
  obtain ⟨hH,hLl⟩:=set_err hE (by decide)
  rw [hE,hH,hLl]
  clear hE hH hLl
  go_enter Tryz.func33,Tryz.ntmps33
  go_wp2_with fail
  refine HWG.out.mono ?_
  rintro e w1 ⟨rfl,T1⟩
  have HT1:=hide T1
  clear T1
  go_wp2_with fail
  refine (HWD.out w1 HT1.out).mono ?_
  rintro e w2 ⟨rfl,T2⟩
  have HT2:=hide (HT1.out.then T2)
  clear T2
  go_wp2_with fail
  go_ret2
  exact ⟨rfl,⟨q,HD.out.quiet HT2.out⟩,HT2.out.up _⟩
 | true =>
  have hvn:¬ wordU k.toList=false:=by rw [← HV.out];decide
  by_cases hn1:n<1
  ·have hE:setE L k.toList n=141:=by unfold setE;rw [if_neg hvn,if_pos (.inl hn1)]
   obtain ⟨hH,hLl⟩:=set_err hE (by decide)
   rw [hE,hH,hLl]
   clear hE hH hLl hvn
   go_enter Tryz.func33,Tryz.ntmps33
   go_wp2_with fail
   refine HWG.out.mono ?_
   rintro e w1 ⟨rfl,T1⟩
   have HT1:=hide T1
   clear T1
   go_wp2_with fail
   refine (HWD.out w1 HT1.out).mono ?_
   rintro e w2 ⟨rfl,T2⟩
   have HT2:=hide (HT1.out.then T2)
   clear T2
   go_wp2_with fail
   go_ret2
   exact ⟨rfl,⟨q,HD.out.quiet HT2.out⟩,HT2.out.up _⟩
  ·by_cases hn2:1048576<n
   ·have hE:setE L k.toList n=141:=by unfold setE;rw [if_neg hvn,if_pos (.inr hn2)]
    obtain ⟨hH,hLl⟩:=set_err hE (by decide)
    rw [hE,hH,hLl]
    clear hE hH hLl hvn
    go_enter Tryz.func33,Tryz.ntmps33
    go_wp2_with fail
    refine HWG.out.mono ?_
    rintro e w1 ⟨rfl,T1⟩
    have HT1:=hide T1
    clear T1
    go_wp2_with fail
    refine (HWD.out w1 HT1.out).mono ?_
    rintro e w2 ⟨rfl,T2⟩
    have HT2:=hide (HT1.out.then T2)
    clear T2
    go_wp2_with fail
    go_ret2
    exact ⟨rfl,⟨q,HD.out.quiet HT2.out⟩,HT2.out.up _⟩
   ·have hno:¬ (n<1∨1048576<n):=by omega
    obtain ⟨hq32,wb,B,nB,A,c,Z,wA,wc,oA,oc,O,hx⟩:=HD.out
    have HX:=hide hx
    have HQ:=hide hq32
    have HNN:=hide (show 1≤n∧n≤1048576 by omega)
    cases t with
    | true =>
     have hfd:(findP k.toList L).2=true:=by rw [← HXT.out]
     have hE:setE L k.toList n=0:=by unfold setE;rw [if_neg hvn,if_neg hno,if_neg (fun h=>by rw [hfd] at h;cases h.1)]
     have hH:setH L k n=x:=by unfold setH;rw [hE,if_pos rfl,← HXT.out]
     have hLl:setL L k n=putF ⟨k,n⟩ false L:=by unfold setL;rw [hE,if_pos rfl]
     rw [hE,hH,hLl]
     have hpl:(putF ⟨k,n⟩ false L).length=L.length:=by rw [put_len hstr,if_pos hfd]
     have HLY:Hid (∀ Y,Nrm (O++[⟨k,n⟩]) Y→LayP B Y (putF ⟨k,n⟩ false L)):=hide (fun Y hY=>hx.lay.put hY HV.out.symm HNN.out.1 HNN.out.2 (.inl hfd))
     have HPL:=hide hpl
     clear hE hH hLl hvn hx hno hq32 hfd hpl hstr
     go_enter Tryz.func33,Tryz.ntmps33
     go_wp2_with fail
     refine HWG.out.mono ?_
     rintro e w1 ⟨rfl,T1⟩
     have HT1:=hide T1
     clear T1
     go_wp2_with fail
     refine (HWD.out w1 HT1.out).mono ?_
     rintro e w2 ⟨rfl,T2⟩
     have HT2:=hide (HT1.out.then T2)
     have HCH:=hide (change_x w2 (Lst.touch HL.out HT2.out) (HX.out.quiet HT2.out) HQ.out ⟨k,n⟩ _ HLY.out (by rw [HPL.out]))
     simp only [PRow.val] at HCH
     clear T2
     go_wp2_with fail
     refine HCH.out.mono ?_
     rintro e w3 ⟨rfl,hd3,T3⟩
     have HD3:=hide hd3
     have HT3:=hide ((HT2.out.up _).then T3)
     clear hd3 T3 HCH
     go_wp2_with fail
     go_ret2
     exact ⟨rfl,HD3.out,HT3.out⟩
    | false =>
     have hfd:(findP k.toList L).2=false:=by rw [← HXT.out]
     have hx0:x=0:=by
      have h1:=find_zero hfd
      rw [← HXT.out] at h1
      exact congrArg Prod.fst h1
     subst hx0
     by_cases hful:L.length=4096
     ·have hE:setE L k.toList n=142:=by unfold setE;rw [if_neg hvn,if_neg hno,if_pos ⟨hfd,by omega⟩]
      obtain ⟨hH,hLl⟩:=set_err hE (by decide)
      rw [hE,hH,hLl]
      have hfi:(L.length:Int)=4096:=by omega
      clear hE hH hLl hvn hx hno hq32 hfd hstr hdl hdlI
      go_enter Tryz.func33,Tryz.ntmps33
      go_wp2_with fail
      refine HWG.out.mono ?_
      rintro e w1 ⟨rfl,T1⟩
      have HT1:=hide T1
      clear T1
      go_wp2_with fail
      refine (HWD.out w1 HT1.out).mono ?_
      rintro e w2 ⟨rfl,T2⟩
      have HT2:=hide (HT1.out.then T2)
      have hxb:=(HX.out.blk.touch HT2.out (fun f=>f))
      rw [hfi] at hxb
      obtain ⟨x0,x1,x2⟩:=hxb.facts
      clear T2 hxb hfi
      go_wp2_with fail
      go_ret2
      exact ⟨rfl,⟨q,HD.out.quiet HT2.out⟩,HT2.out.up _⟩
     ·have hlt:L.length<4096:=by omega
      have hE:setE L k.toList n=0:=by unfold setE;rw [if_neg hvn,if_neg hno,if_neg (fun h=>by omega)]
      have hH:setH L k n=0:=by unfold setH;rw [hE,if_pos rfl,← HXT.out]
      have hLl:setL L k n=putF ⟨k,n⟩ false L:=by unfold setL;rw [hE,if_pos rfl]
      rw [hE,hH,hLl]
      have hpl:(putF ⟨k,n⟩ false L).length=L.length+1:=by rw [put_len hstr,if_neg (by rw [hfd];decide)]
      have HLY:Hid (∀ Y,Nrm (O++[⟨k,n⟩]) Y→LayP B Y (putF ⟨k,n⟩ false L)):=hide (fun Y hY=>hx.lay.put hY HV.out.symm HNN.out.1 HNN.out.2 (.inr hlt))
      have HPL:=hide hpl
      have b1:((L.length:Int) == 4096)=false:=by simp;omega
      have b2:¬ (L.length:Int)=4096:=by omega
      have z1:IntKind.i64.wrap ((L.length:Int)+1)=(L.length:Int)+1:=IntWalk.i64_in _ (by omega)
      clear hE hH hLl hvn hx hno hq32 hfd hpl hstr hful hlt
      go_enter Tryz.func33,Tryz.ntmps33
      go_wp2_with fail
      refine HWG.out.mono ?_
      rintro e w1 ⟨rfl,T1⟩
      have HT1:=hide T1
      clear T1
      go_wp2_with fail
      refine (HWD.out w1 HT1.out).mono ?_
      rintro e w2 ⟨rfl,T2⟩
      have HT2:=hide (HT1.out.then T2)
      have hx2:=HX.out.quiet HT2.out
      obtain ⟨x0,x1,x2⟩:=hx2.blk.facts
      obtain ⟨w3,hw3⟩:∃ y,y=w2.setCell ⟨d,2,none⟩ (.int .i64 ((L.length:Int)+1)):=⟨_,rfl⟩
      have hT3:Touch (fun g=>g=d) w2 w3:=by rw [hw3];exact (Touch.refl (fun g=>g=d) w2).setCell (p:=⟨d,2,none⟩) (fun _=>rfl) _
      have hb3:Blk w3 d 108 #[ptrV wb,.slice oA q oc,.int .i64 ((L.length:Int)+1)]:=by
       rw [hw3]
       have:=hx2.blk.set_ 2 (.int .i64 ((L.length:Int)+1))
       simpa using this
      have hx3:DctX w3 d ((L.length:Int)+1) L wb B nB A c Z wA wc oA q oc O :=
       ⟨hb3,hx2.wk.far hT3 (fun g t hg ht=>dict_ne (blk_ty hx2.blk) hg ht),hx2.ov.touch hT3 (fun g hg=>dict_ne (blk_ty hx2.blk) hg (.inr (.inr (.inr (.inr rfl))))),hx2.len,hx2.few,hx2.nil,hx2.lay,hx2.pos⟩
      have HCH:=hide (change_x w3 ((Lst.touch HL.out HT2.out).far hT3 (fun e=>by have:=hx2.pos;omega)) hx3 HQ.out ⟨k,n⟩ _ HLY.out (by rw [HPL.out];omega))
      simp only [PRow.val] at HCH
      have HT3:=hide ((HT2.out.up _).then hT3)
      have HW3:=hide hw3
      clear T2 hx2 hw3 hT3 hb3 hx3
      go_upto_region 10 with fail
      rw [← HW3.out]
      go_wp2_with fail
      refine HCH.out.mono ?_
      rintro e w4 ⟨rfl,hd4,T4⟩
      have HD4:=hide hd4
      have HT4:=hide (HT3.out.then T4)
      clear hd4 T4 HCH
      go_wp2_with fail
      go_ret2
      exact ⟨rfl,HD4.out,HT4.out⟩
set_option maxRecDepth 100000 in
set_option maxHeartbeats 4000000 in
theorem dremove_any (w:World) (hL:Lst w) {d:Nat} {L:List PRow} {q:Nat} (h:DctM w d L q) (k:ByteArray) (hk:k.size≤1099511627776) :
  Calls Tryz.prog 34 #[ptrV d,.string k] w fun e w'=>e=.returned (.tuple #[.int .i64 (remH L k),.int .i64 (remE L k.toList)])∧(∃ q',DctM w' d (remL L k) q')∧Touch (fun g=>g=d) w w':=by
 have hdl:=h.dict.len
 have hstr:=dict_strict h.dict
 have HWG:=hide (dweigh_any w hL h k hk)
 have HWD:=hide (fun (wx:World) (T:Touch (fun _=>False) w wx)=>word_any wx k (by omega) (Lst.touch hL T))
 have HD:=hide h
 have HL:=hide hL
 obtain ⟨⟨x,t⟩,hxt⟩:∃ r,r=findP k.toList L:=⟨_,rfl⟩
 rw [← hxt] at HWG
 simp only at HWG
 have HXT:=hide hxt
 obtain ⟨v,hv⟩:∃ v,v=wordU k.toList:=⟨_,rfl⟩
 simp only [← hv] at HWD
 have HV:=hide hv
 clear h hL hk hxt hv
 cases v with
 | false =>
  have hE:remE L k.toList=140:=by unfold remE;rw [if_pos HV.out.symm]
  obtain ⟨hH,hLl⟩:=rem_err hE (by decide)
  rw [hE,hH,hLl]
  clear hE hH hLl
  go_enter Tryz.func34,Tryz.ntmps34
  go_wp2_with fail
  refine HWG.out.mono ?_
  rintro e w1 ⟨rfl,T1⟩
  have HT1:=hide T1
  clear T1
  go_wp2_with fail
  refine (HWD.out w1 HT1.out).mono ?_
  rintro e w2 ⟨rfl,T2⟩
  have HT2:=hide (HT1.out.then T2)
  clear T2
  go_wp2_with fail
  go_ret2
  exact ⟨rfl,⟨q,HD.out.quiet HT2.out⟩,HT2.out.up _⟩
 | true =>
  have hvn:¬ wordU k.toList=false:=by rw [← HV.out];decide
  cases t with
  | false =>
   have hfd:(findP k.toList L).2=false:=by rw [← HXT.out]
   have hE:remE L k.toList=143:=by unfold remE;rw [if_neg hvn,if_pos hfd]
   obtain ⟨hH,hLl⟩:=rem_err hE (by decide)
   rw [hE,hH,hLl]
   clear hE hH hLl hvn hfd
   go_enter Tryz.func34,Tryz.ntmps34
   go_wp2_with fail
   refine HWG.out.mono ?_
   rintro e w1 ⟨rfl,T1⟩
   have HT1:=hide T1
   clear T1
   go_wp2_with fail
   refine (HWD.out w1 HT1.out).mono ?_
   rintro e w2 ⟨rfl,T2⟩
   have HT2:=hide (HT1.out.then T2)
   clear T2
   go_wp2_with fail
   go_ret2
   exact ⟨rfl,⟨q,HD.out.quiet HT2.out⟩,HT2.out.up _⟩
  | true =>
   have hfd:(findP k.toList L).2=true:=by rw [← HXT.out]
   have hE:remE L k.toList=0:=by unfold remE;rw [if_neg hvn,if_neg (by rw [hfd];decide)]
   have hH:remH L k=x:=by unfold remH;rw [hE,if_pos rfl,← HXT.out]
   have hLl:remL L k=dropP k.toList L:=by unfold remL;rw [hE,if_pos rfl]
   rw [hE,hH,hLl]
   obtain ⟨hq32,wb,B,nB,A,c,Z,wA,wc,oA,oc,O,hx⟩:=HD.out
   have HX:=hide hx
   have HQ:=hide hq32
   have hpl:(dropP k.toList L).length+1=L.length:=by have:=drop_len hstr k.toList;rw [hfd,if_pos rfl] at this;exact this
   have HLY:Hid (∀ Y,Nrm (O++[⟨k,0⟩]) Y→LayP B Y (dropP k.toList L)):=hide (fun Y hY=>hx.lay.drop hY HV.out.symm)
   have HPL:=hide hpl
   have z1:IntKind.i64.wrap ((L.length:Int)-1)=(L.length:Int)-1:=IntWalk.i64_in _ (by omega)
   clear hE hH hLl hvn hx hq32 hfd hpl hstr
   go_enter Tryz.func34,Tryz.ntmps34
   go_wp2_with fail
   refine HWG.out.mono ?_
   rintro e w1 ⟨rfl,T1⟩
   have HT1:=hide T1
   clear T1
   go_wp2_with fail
   refine (HWD.out w1 HT1.out).mono ?_
   rintro e w2 ⟨rfl,T2⟩
   have HT2:=hide (HT1.out.then T2)
   have hx2:=HX.out.quiet HT2.out
   obtain ⟨x0,x1,x2⟩:=hx2.blk.facts
   obtain ⟨w3,hw3⟩:∃ y,y=w2.setCell ⟨d,2,none⟩ (.int .i64 ((L.length:Int)-1)):=⟨_,rfl⟩
   have hT3:Touch (fun g=>g=d) w2 w3:=by rw [hw3];exact (Touch.refl (fun g=>g=d) w2).setCell (p:=⟨d,2,none⟩) (fun _=>rfl) _
   have hb3:Blk w3 d 108 #[ptrV wb,.slice oA q oc,.int .i64 ((L.length:Int)-1)]:=by
    rw [hw3]
    have:=hx2.blk.set_ 2 (.int .i64 ((L.length:Int)-1))
    simpa using this
   have hx3:DctX w3 d ((L.length:Int)-1) L wb B nB A c Z wA wc oA q oc O :=
    ⟨hb3,hx2.wk.far hT3 (fun g t hg ht=>dict_ne (blk_ty hx2.blk) hg ht),hx2.ov.touch hT3 (fun g hg=>dict_ne (blk_ty hx2.blk) hg (.inr (.inr (.inr (.inr rfl))))),hx2.len,hx2.few,hx2.nil,hx2.lay,hx2.pos⟩
   have HCH:=hide (change_x w3 ((Lst.touch HL.out HT2.out).far hT3 (fun e=>by have:=hx2.pos;omega)) hx3 HQ.out ⟨k,0⟩ _ HLY.out (by have:=HPL.out;omega))
   simp only [PRow.val] at HCH
   have HT3:=hide ((HT2.out.up _).then hT3)
   have HW3:=hide hw3
   clear T2 hx2 hw3 hT3 hb3 hx3
   go_upto_region 7 with fail
   rw [← HW3.out]
   go_wp2_with fail
   refine HCH.out.mono ?_
   rintro e w4 ⟨rfl,hd4,T4⟩
   have HD4:=hide hd4
   have HT4:=hide (HT3.out.then T4)
   clear hd4 T4 HCH
   go_wp2_with fail
   go_ret2
   exact ⟨rfl,HD4.out,HT4.out⟩
end Go.Proofs.YtbijfoeaemceiaaGreatDoor
