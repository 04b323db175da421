/- What the law rests on, part 39. No condition but those that each theorem names. -/
import Derived.Test.YthockgmbooefpaaDoorD38
import Derived.Laws.CopyRow
import Derived.Laws.MakeOwn
import Derived.Lib.SlBuf
import Derived.StillTailTactics
set_option linter.unusedSectionVars false
set_option linter.unusedSimpArgs false
set_option linter.unusedVariables false
namespace Go.Proofs.YthockgmbooefpaaDoor
open Go.RowKit Go.Shelf
theorem run_copy_rowS {P:Program} (w:World) (dT sT ty elem:TypeId) (g o dLen dCap:Nat) (a:Addr) (sLen sCap size:Nat) (cur:Array Value) (t:TypeId) (cs:List Value)
  (hu:P.underlying dT=some (.slice elem)) (i:TypeInfo) (hi0:P.info? elem=some i) (hi:i.size=size)
  (hg:w.heap[g]? = some (.cells cur t (0,0))) (hn:cs.length=Nat.min sLen dLen*size)
  (hsrc:∀ j v,cs[j]? = some v→w.cell? (a.add j)=some v) (hfit:o+cs.length≤cur.size) (h1:∀ v∈cs,v.oneCell'=true) :
  (Builtin.copy_ #[dT,sT] ty #[.slice (some ⟨g,o,none⟩) dLen dCap,.slice (some a) sLen sCap]).run P w =
    .ok (goInt (Nat.min sLen dLen)) (w.setRow g (cur.toList.take o++cs++cur.toList.drop (o+cs.length)).toArray):=by
 have hl:=run_loadCells_list (P:=P) w a cs hsrc
 have hst:=run_storeCells_at P g o t cs 0 cur w hg (by simpa using hfit) h1
 simp [Builtin.copy_,run_underlying hu,Builtin.lenOf,Builtin.firstCells,sizeOf,typeInfo,hi0,hi,← hn,hl,hst]
theorem run_copy_noneS {P:Program} (w:World) (dT sT ty elem:TypeId) (g o dCap:Nat) (sCap:Nat)
  (hu:P.underlying dT=some (.slice elem)) (i:TypeInfo) (hi0:P.info? elem=some i) :
  (Builtin.copy_ #[dT,sT] ty #[.slice (some ⟨g,o,none⟩) 0 dCap,.slice none 0 sCap]).run P w=.ok (goInt 0) w:=by
 simp [Builtin.copy_,run_underlying hu,Builtin.lenOf,Builtin.firstCells,sizeOf,typeInfo,hi0,storeCells]
theorem one_pairs (L:List PRow):∀ u∈pCells L,u.oneCell'=true:=by
 intro u hu
 obtain ⟨r,_,h⟩:=List.mem_flatMap.1 hu
 simp only [PRow.cells,List.mem_cons,List.not_mem_nil,or_false] at h
 rcases h with rfl | rfl<;>rfl
theorem made_size (z:Array Value) (n:Nat):(madeCells z n).size=n:=by simp [madeCells]
theorem copied (w2:World) (g n:Nat) (oA:Option Addr) (oc:Nat) (O:List PRow) (CS:Array Value) (hCS:CS.size=(n+1)*2) (hg:w2.heap[g]? = some (.cells CS 56 (0,0))) (hO:O.length=n) (hr:Reads w2 2 oA n (pCells O)) (hn:n≤33) :
  ∃ w3,(∀ ty,(Builtin.copy_ #[30,30] ty #[.slice (some ⟨g,0,none⟩) n (n+1),.slice oA n oc]).run Tryd.prog w2=.ok (goInt (n:Int)) w3)∧POwn w3 (some ⟨g,0,none⟩) n (n+1) O∧Touch (fun k=>k=g) w2 w3:=by
 obtain ⟨i0,hi,hz0,hz1,hz2⟩:=info_parts infoPair
 have hlen:=pCells_len O
 rw [hO] at hlen
 have hrow:∀ w3 cs,w3.heap[g]? = some (.cells cs 56 (0,0))→cs.size=(n+1)*2→cs.toList.take (n*2)=pCells O→POwn w3 (some ⟨g,0,none⟩) n (n+1) O:=fun w3 cs h1 h2 h3 =>
  ⟨hlen,.inr ⟨g,n+1,cs,rfl,Nat.zero_le _,h1,by omega,by unfold maxLen;omega,h2,h3⟩⟩
 cases oA with
 | none =>
  have h0:n=0:=by
   refine Classical.byContradiction fun h=>?_
   obtain ⟨b,off,e,_⟩:=hr.2 (by omega)
   cases e
  subst h0
  have hO0:O=[]:=List.eq_nil_of_length_eq_zero hO
  subst hO0
  exact ⟨w2,fun ty=>run_copy_noneS w2 _ _ ty _ g 0 1 oc Tryd.underlying30 i0 hi,hrow w2 CS hg hCS rfl,Touch.refl _ _⟩
 | some a =>
  have hsrc:∀ j v,(pCells O)[j]? = some v→w2.cell? (a.add j)=some v:=by
   intro j v hj
   rcases Nat.eq_zero_or_pos n with h0 | h0
   ·have:O=[]:=List.eq_nil_of_length_eq_zero (by omega)
    subst this
    simp [pCells] at hj
   ·obtain ⟨b,off,e,_,hc⟩:=hr.2 h0
    cases e
    have hadd:(⟨b,off,none⟩:Addr).add j=⟨b,off+j,none⟩:=by unfold Addr.add;split<;>simp_all
    rw [hadd]
    exact hc j v hj
  refine ⟨_,fun ty=>?_,hrow (w2.setRow g (CS.toList.take 0++pCells O++CS.toList.drop (0+(pCells O).length)).toArray) _ (setRow_heap w2 g CS _ _ _ hg) ?_ ?_,⟨rfl,rfl,rfl,by simp [World.setRow],fun k _ hk=>setRow_other w2 g k _ hk⟩⟩
  ·have h:=run_copy_rowS (P:=Tryd.prog) w2 30 30 ty 56 g 0 n (n+1) a n oc 2 CS _ (pCells O) Tryd.underlying30 i0 hi hz1 hg (by rw [hlen];simp) hsrc (by rw [hlen,hCS];omega) (one_pairs O)
   rw [h]
   simp
  ·simp only [List.take_zero,List.nil_append,Nat.zero_add,List.size_toArray,List.length_append,List.length_drop,Array.length_toList,hlen,hCS]
   omega
  ·simp only [List.take_zero,List.nil_append,Nat.zero_add]
   rw [List.take_append_of_le_length (by rw [hlen];exact Nat.le_refl _),List.take_of_length_le (by rw [hlen];exact Nat.le_refl _)]
set_option maxRecDepth 100000 in
set_option maxHeartbeats 4000000 in
theorem change_x (w:World) (hL:Lst w) {d:Nat} {m:Int} {L:List PRow} {wb:Nat} {B:List PRow} {n:Nat} {A:Option Addr} {c:Nat} {Z:List SV} {wA:Option Addr} {wc:Nat} {oA:Option Addr} {on oc:Nat} {O:List PRow} (hx:DctX w d m L wb B n A c Z wA wc oA on oc O) (hq:on≤32)
  (p:PRow) (L2:List PRow) (hl:∀ Y,Nrm (O++[p]) Y→LayP B Y L2) (hm:m=(L2.length:Int)) :
  Calls Tryd.prog 43 #[ptrV d,p.val] w fun e w'=>e=.returned (.tuple #[])∧(∃ q,DctM w' d L2 q)∧Touch (fun g=>g=d) w w':=by
 obtain ⟨pw,pn⟩:=p
 obtain ⟨i0,hi0,hz0,hz1,hz2⟩:=info_parts infoPair
 obtain ⟨wa,hwa⟩:∃ y,y=w.alloc (.cells #[.string pw,.int .i64 pn] 56):=⟨_,rfl⟩
 obtain ⟨bb,hbb⟩:∃ y,y=w.heap.size:=⟨_,rfl⟩
 have hTa:Touch (fun _=>False) w wa:=by rw [hwa];exact (Touch.refl _ _).alloc _
 have hbB:Blk wa bb 56 #[.string pw,.int .i64 pn]:=by rw [hwa,hbb];exact Blk.new _ _ _
 obtain ⟨CS,hCS⟩:∃ y,y=madeCells #[.string ByteArray.empty,.int .i64 0] ((on+1)*2):=⟨_,rfl⟩
 have hsz:CS.size=(on+1)*2:=by rw [hCS];exact made_size _ _
 have hmk:∀ W:World,(Instr.makeSlice 30 (.int .i64 (on:Int)) (.int .i64 ((on:Int)+1))).run Tryd.prog W=.ok (.slice (some ⟨W.heap.size,0,none⟩) on (on+1)) (W.alloc (.cells CS 56)):=by
  intro W
  have h:=run_makeSlice (P:=Tryd.prog) W 30 56 i0 _ Tryd.underlying30 hi0 hz0 .i64 .i64 (on:Int) ((on:Int)+1) (by omega) (by omega) (by rw [hz1];omega) (by rw [hz2];omega) (by omega)
  rw [h]
  simp only [Int.toNat_natCast,Int.toNat_natCast_add_one,hz1,hCS,Value.cells]
 have z1:IntKind.i64.wrap ((on:Int)+1)=(on:Int)+1:=IntWalk.i64_in _ (by omega)
 obtain ⟨x0,x1,x2⟩:=(hx.blk.touch hTa (fun f=>f)).facts
 have HX:=hide hx
 have HL:=hide hL
 have HQ:=hide hq
 have HLY:=hide hl
 have HM:=hide hm
 have HTA:=hide hTa
 have HBB:=hide hbB
 have HWA:=hide hwa
 have HB0:=hide hbb
 have HSZ:=hide hsz
 clear hx hL hl hm hTa hbB hwa hbb hsz hCS hq
 unfold PRow.val
 go_enter Tryd.func43,Tryd.ntmps43
 go_upto_region 1 with fail
 rw [← HWA.out,← HB0.out]
 go_still_tail 11,(by kernel_rfl)
 change wpList _ _ _ _ _ wa.drew
 have HDR:Hid (Touch (fun _=>False) w wa.drew):=hide (HTA.out.then (Touch.refl _ _).drew)
 have HBD:Hid (Blk wa.drew bb 56 #[.string pw,.int .i64 pn]):=hide HBB.out.drew
 generalize wa.drew=wd at HDR HBD ⊢
 obtain ⟨wM,hwM⟩:∃ y,y=wd.alloc (.cells CS 56):=⟨_,rfl⟩
 obtain ⟨gM,hgM⟩:∃ y,y=wd.heap.size:=⟨_,rfl⟩
 have HWM:=hide hwM
 have HGM:=hide hgM
 have hTM:Touch (fun _=>False) w wM:=by rw [hwM];exact HDR.out.alloc _
 have hgCS:wM.heap[gM]? = some (.cells CS 56 (0,0)):=by rw [hwM,hgM];exact Blk.new wd 56 CS
 obtain ⟨wC,hcp,hoC,hTC⟩:=copied wM gM on oA oc O CS HSZ.out hgCS HX.out.len (HX.out.ov.rd.touch hTM (fun _ _ f=>f)) (by have:=HQ.out;omega)
 have hgy:w.heap.size≤gM:=by rw [hgM];exact HDR.out.size
 have hTwC:Touch (fun _=>False) w wC:=hTM.trans hTC (fun g hg e=>by omega)
 have HTM:=hide hTM
 have HBC:Hid (Blk wC bb 56 #[.string pw,.int .i64 pn]):=hide (by
  have h1:Blk wM bb 56 #[.string pw,.int .i64 pn]:=by rw [hwM];exact HBD.out.alloc _
  exact h1.touch hTC (fun e=>by have:=HBD.out.lt;omega))
 have HCP:=hide hcp
 have HOC:=hide hoC
 have HTWC:=hide hTwC
 have HGY:=hide hgy
 clear hwM hgM hTM hgCS hcp hoC hTC hTwC hgy x0 x1 x2
 obtain ⟨x0,x1,x2⟩:=(HX.out.blk.touch HTM.out (fun f=>f)).facts
 go_upto_region 2 with fail
 rw [← HWM.out,← HGM.out]
 have hcp:=HCP.out
 obtain ⟨y0,y1,y2⟩:=(HX.out.blk.touch HTWC.out (fun f=>f)).facts
 go_upto_region 3 with fail
 clear hcp x0 x1 x2
 obtain ⟨wB,hwB⟩:∃ y,y=wC.alloc (.cells #[.string pw,.int .i64 pn] 56):=⟨_,rfl⟩
 have hTB:Touch (fun _=>False) wC wB:=by rw [hwB];exact (Touch.refl _ _).alloc _
 have hrd:Reads wB 2 (some ⟨wC.heap.size,0,none⟩) 1 [.string pw,.int .i64 pn]:=by
  rw [hwB]
  have h:=Reads.new (size:=2) wC 56 [.string pw,.int .i64 pn] 1 rfl
  simpa using h
 have hone:∀ u∈[Value.string pw,.int .i64 pn],u.oneCell'=true:=by
  intro u hu
  simp only [List.mem_cons,List.not_mem_nil,or_false] at hu
  rcases hu with rfl | rfl<;>rfl
 obtain ⟨b0,b1,b2⟩:=HBC.out.facts
 have HWB:=hide hwB
 have HTB:=hide (HTWC.out.then hTB)
 have HOB:=hide (World.ownsRow.alloc HOC.out (.cells #[.string pw,.int .i64 pn] 56))
 rw [← hwB] at HOB
 have HRD:=hide hrd
 have HONE:=hide hone
 have HBBd:Hid (on+1≤maxLen∧(on+1)*24≤140737488355328):=hide (by unfold maxLen;have:=HQ.out;omega)
 have hpc:pCells (O++[(⟨pw,pn⟩:PRow)])=pCells O++[.string pw,.int .i64 pn]:=by simp [pCells,PRow.cells]
 have HPC:=hide hpc
 have hgyo:∀ g,(Value.slice (some ⟨gM,0,none⟩) on (on+1)).ownBlock=some g→w.heap.size≤g:=fun g hg=>by
  simp [Value.ownBlock] at hg
  have:=HGY.out
  omega
 have HGYO:=hide hgyo
 clear hwB hTB hrd hone hpc hgyo
 go_wp2_with (at_builtin;rw [← HWB.out];refine wpList_app _ rfl (.tmp 24) (.tmp 26) 30 rfl 56 i0 _ 2 24 Tryd.underlying30 hi0 hz0 hz1 hz2 rfl (by decide) (.slice (some ⟨gM,0,none⟩) on (on+1)) on _ rfl HOB.out (some ⟨wC.heap.size,0,none⟩) 1 1 [.string pw,.int .i64 pn] rfl HRD.out (fun h=>by cases h) HONE.out HBBd.out.1 HBBd.out.2 ?_;intro v6 w6 O6 G6 F6 _;obtain ⟨A6,c6,hv,_,_⟩:=own_len O6;subst hv;have HO6:=hide O6;have HT6:=hide (HTB.out.grown G6 (fun k hk hlt=>by have:=HGYO.out k hk;omega));clear O6 G6 F6 b0 b1 b2 y0 y1 y2)
 have hO6:=HO6.out
 rw [← HPC.out] at hO6
 have HNR:=hide (pnorm_any w6 ⟨A6,on+1,c6,O++[⟨pw,pn⟩]⟩ (own_okD hO6) (by have:=HQ.out;simp only;omega))
 simp only [SL.val] at HNR
 clear hO6
 refine HNR.out.mono ?_
 rintro e w7 ⟨A7,n7,c7,Y,rfl,O7,N7,T7,h7,hnil7,_⟩
 have HT7:=hide (HT6.out.then T7)
 have HN7:=hide N7
 have HO7:=hide O7
 have HK7:=hide (And.intro h7 hnil7)
 have hb7:=HX.out.blk.touch HT7.out (fun f=>f)
 obtain ⟨x0,x1,x2⟩:=hb7.facts
 have HB7:=hide hb7
 have HLN7:=hide (pown_len O7)
 clear T7 h7 hnil7 HNR hb7 O7 N7
 go_upto_region 4 with fail
 have hb8:Blk (w7.setCell ⟨d,1,none⟩ (.slice A7 n7 c7)) d 93 #[ptrV wb,.slice A7 n7 c7,.int .i64 m]:=by
  have:=HB7.out.set_ 1 (.slice A7 n7 c7)
  simpa using this
 have hT8:Touch (fun g=>g=d) w7 (w7.setCell ⟨d,1,none⟩ (.slice A7 n7 c7)):=(Touch.refl (fun g=>g=d) w7).setCell (p:=⟨d,1,none⟩) (fun _=>rfl) _
 obtain ⟨w8,hw8⟩:∃ y,y=w7.setCell ⟨d,1,none⟩ (.slice A7 n7 c7):=⟨_,rfl⟩
 rw [← hw8] at hb8 hT8 ⊢
 have hTw8:Touch (fun g=>g=d) w w8:=(HT7.out.up _).then hT8
 have hdx:DctX w8 d m L2 wb B n A c Z wA wc A7 n7 c7 Y :=
  ⟨hb8,(HX.out.wk.quiet HT7.out).far hT8 (fun g t hg ht=>dict_ne (blk_ty HB7.out) hg ht),(RdT.of_own HO7.out).touch hT8 (fun g hg=>dict_ne (blk_ty HB7.out) hg (.inr (.inr (.inr (.inr rfl))))),HLN7.out.symm,by have h1:n7≤on+1:=HK7.out.1;have h2:=HQ.out;omega,HK7.out.2,HLY.out Y HN7.out,HX.out.pos⟩
 have hL8:Lst w8:=HL.out.far hTw8 (fun e=>by have:=HX.out.pos;omega)
 clear x0 x1 x2
 obtain ⟨x0,x1,x2⟩:=hb8.facts
 by_cases h32:n7≤32
 ·have k1:¬ (32:Int)<(n7:Int):=by omega
  have HDX:=hide hdx
  have HTW8:=hide hTw8
  have H32:=hide h32
  clear hdx hTw8 hL8 hb8 hT8 hw8 h32
  go_wp2_with fail
  go_end0
  refine ⟨rfl,⟨n7,H32.out,wb,B,n,A,c,Z,wA,wc,A7,c7,Y,?_⟩,HTW8.out⟩
  have h:=HDX.out
  rw [HM.out] at h
  exact h
 ·have k1:(32:Int)<(n7:Int):=by omega
  have HCM:=hide (compact_x w8 hL8 hdx HM.out)
  have HTW8:=hide hTw8
  clear hdx hTw8 hL8 hb8 hT8 hw8 h32
  go_wp2_with fail
  refine HCM.out.mono ?_
  rintro e w9 ⟨rfl,hd9,T9⟩
  have HD9:=hide hd9
  have HT9:=hide (HTW8.out.then T9)
  clear hd9 T9 HCM
  go_wp2_with fail
  go_end0
  exact ⟨rfl,⟨0,HD9.out⟩,HT9.out⟩
end Go.Proofs.YthockgmbooefpaaDoor
