/- What the law rests on, part 19. No condition but those that each theorem names. -/
import Derived.Test.YthockgmbooefpaaGreatDoorT18
import Derived.Laws.EntriesVeiled
import Derived.Deep.CutRange
import Derived.Deep.DeepCutAuto
set_option linter.unusedSectionVars false
set_option linter.unusedSimpArgs false
set_option linter.unusedVariables false
set_option maxRecDepth 100000
set_option maxHeartbeats 4000000
namespace Go.Proofs.YthockgmbooefpaaGreatDoor
open Go.RowKit Go.Shelf
attribute [local go_sem] Oper.semAt_some
theorem wpList_row_loadG {ops:Array Oper} {rest:List Oper} {op:Oper} {a:Act} {w:World} {Q:Exit→Act→World→Prop} (hw:Region.wanted op (yielded ops a.tmps)=true) (x:Operand) (ho:op.op=.load 181 x)
  (b:Nat) (hx:a.eval x=.pointer (some ⟨b,0,none⟩)) (s:List Nat) (hb:Blk w b 181 (rowV s)) (h:wpList Tryz.prog ops Q rest (a.put op.dst (.agg (rowV s))) w):wpList Tryz.prog ops Q (op :: rest) a w:=by
 refine BigFrame.wpList_want hw fun K hK=>wp_load_mid (P:=Tryz.prog) 181 x ho b 0 hx (rowV s).toList _ hb.range Tryz.underlying181 rfl (by rw [A_info_row];simp [rowV_size]) (hK _ _ ?_)
 simpa using h
theorem svs_few {L:List PRow} (hD:DictP L) {Z:List SV} (hs:Z.map SV.p=(mach L).states) {w:World} {A:Option Addr} {n:Nat} (h:StsOk w A n Z):∀ z∈Z,z.n≤2097152:=by
 intro z hz
 obtain ⟨i,hi,rfl⟩:=List.mem_iff_getElem.1 hz
 have hl:=(h.el _ hz).len
 rcases right_mach hD with ⟨e,_⟩ | hR
 ·rw [e] at hs
  have:Z=[]:=by simpa using hs
  rw [this] at hi
  simp at hi
 ·have hil:i<(mach L).states.length:=by rw [← hs,List.length_map];exact hi
  have hf:=form_few (hR.form i hil)
  rw [← hs] at hf
  simp [List.getD,hi,SV.p] at hf
  omega
theorem infoMatch12:(Tryz.prog.info? 43).map (fun i=>(i.zero,i.size,i.bytes))=some (some (.agg #[.string ByteArray.empty,.int .i64 0,.int .i64 0]),3,32):=by kernel_rfl
theorem infoFn12:(Tryz.prog.info? 1).map (fun i=>(i.zero,i.size,i.bytes))=some (some .nilFunc,1,8):=by kernel_rfl
def hitM (h:FzHit):MRow:=⟨⟨(h.1.flatMap writeU).toArray⟩,h.2.1,(h.2.2:Int)⟩
def AxF (x:FzX) (bH bS bR Bx:Nat) (a:Act):Prop :=
 ∃ u0 u1 u2 u3 u4 u6 u9 u13 u14 u15 u16 u17 u18 u19 u21 u22 u23 u24 u25 u26 u27 u28 u29 u30 u31 u32 u33 u34 u35 u36 u37 u38 u39 u40 u41 u42 u43 u44 u45 u46 u47 u48 u49 u50 u51 u52 u53 u54 u55 u56 u57 u58 u59 u60 u61 u62 u63 u64 u65 u66 u67 u68 u69:Value,a={ tmps:=#[u0,u1,u2,u3,u4,ptrV x.bL,u6,ptrV x.bT,ptrV x.bV,u9,ptrV bH,ptrV bS,ptrV bR,u13,u14,u15,u16,u17,u18,u19,ptrV Bx,u21,u22,u23,u24,u25,u26,u27,u28,u29,u30,u31,u32,u33,u34,u35,u36,u37,u38,u39,u40,u41,u42,u43,u44,u45,u46,u47,u48,u49,u50,u51,u52,u53,u54,u55,u56,u57,u58,u59,u60,u61,u62,u63,u64,u65,u66,u67,u68,u69],defers:=[] }
def kidT (x:FzX) (t:FzIt) (a:ArcP):FzIt:=⟨a.2.2,t.head++[a.1],t.sum+a.2.1,stepD x.X t.row a.1⟩
structure FzIt.Rdy (t:FzIt) (x:FzX) (W:World) (A:Option Addr) (c n:Nat):Prop where
 i:t.i<n
 row:t.row.length=x.ln+1
 scal:∀ r∈t.head,scal r=true
 few:t.head.length≤24
 s0:0≤t.sum
 s1:t.sum≤1099511627776
 rd:RdT W 21 1 A t.head.length (t.head.map runeV)
 le:t.head.length≤c
 mx:c≤maxLen
theorem visit_fz (x:FzX) (hL:Lst x.w0) {L:List PRow} (hD:DictP L) {n:Nat} {wA:Option Addr} {wc:Nat} {Z:List SV} {dA:Option Addr} {dc:Nat} (hW:DWk x.w0 x.wb L n wA wc Z dA dc) (W:World) (F:List MRow) (I:List FzIt) (hG:FzG x W F I) (hFl:F.length≤1048576) (hIl:I.length≤1048576) (t:FzIt) (A:Option Addr) (c:Nat) (hR:t.Rdy x W A c n) :
  Calls Tryz.prog 89 #[.int .i64 (t.i:Int),.slice A t.head.length c,.int .i64 t.sum,.agg (rowV (cutR' x.o t.row)),ptrV x.bW,ptrV x.bL,ptrV x.bF,ptrV x.bT,ptrV x.bV] W
   fun e W'=>e=.returned (.tuple #[])∧FzG x W' (F++(fzHit (mach L).states x.o t).map hitM) (I++(fzKids (mach L).states x.X x.o t).reverse):=by
 obtain ⟨FA,fc,TA,tc,vs,hR0⟩:=hG
 have hrow:=hR.row
 obtain ⟨wb,hwb⟩:∃ y,y=((W.alloc (.cells #[.slice A t.head.length c] 154)).alloc (.cells #[.int .i64 t.sum] 3)).alloc (.cells (rowV (cutR' x.o t.row)) 181):=⟨_,rfl⟩
 have hTb:Touch (fun _=>False) W wb:=by rw [hwb];exact (((Touch.refl _ _).alloc _).alloc _).alloc _
 have hbh:Blk wb W.heap.size 154 #[.slice A t.head.length c]:=by rw [hwb];exact ((Blk.new _ _ _).alloc _).alloc _
 have hbs:Blk wb (W.heap.size+1) 3 #[.int .i64 t.sum]:=by rw [hwb];exact (blk_new1 _ _ _ _).alloc _
 have hbr:Blk wb (W.heap.size+1+1) 181 (rowV (cutR' x.o t.row)):=by rw [hwb];exact blk_new2 _ _ _ _ _
 obtain ⟨bH,eH⟩:∃ y,y=W.heap.size:=⟨_,rfl⟩
 obtain ⟨bS,eS⟩:∃ y,y=W.heap.size+1:=⟨_,rfl⟩
 obtain ⟨bR,eR⟩:∃ y,y=W.heap.size+1+1:=⟨_,rfl⟩
 rw [← eH] at hbh
 rw [← eS] at hbs
 rw [← eR] at hbr
 have hRb:=hR0.quiet hTb
 obtain ⟨p0,p1,p2⟩:=hRb.st.bw.facts
 have HWB:=hide hwb
 have HTB:=hide hTb
 have HBH:=hide hbh
 have HBS:=hide hbs
 have HBR:=hide hbr
 have HEE:=hide (And.intro eH (And.intro eS eR))
 have HRB:=hide hRb
 have HR:=hide hR
 have HL:=hide hL
 have HD:=hide hD
 have hD':=hD
 have HWK:=hide hW
 have HFL:=hide hFl
 have HIL:=hide hIl
 have HRR:=hide (hR.rd.quiet hTb)
 clear hwb hTb hbh hbs hbr eH eS eR hRb hR0 hR hL hD hW hFl hIl hrow
 refine (callsIn_wide (n:=3)).1 (callsIn_of_wp_marks Tryz.func89 rfl trivial ?_ rfl)
 simp only [Tryz.ntmps89,List.size_toArray,List.length_cons,List.length_nil,Nat.reduceAdd,Nat.reduceSub,Array.replicate_succ,Array.replicate_zero,List.push_toArray,List.append_toArray,List.nil_append,List.cons_append]
 refine wpIn_wide.2 ?_
 go_upto_region 1 with fail
 rw [← HWB.out,← HEE.out.2.2,← HEE.out.2.1,← HEE.out.1]
 have hwk:=HWK.out.quiet HRB.out.old
 have hin:=HR.out.i
 have hzm:=getD_mem Z svZero t.i (by rw [hwk.wk.sts.len];exact hin)
 have hzp:(mach L).states.getD t.i noSt=(Z.getD t.i svZero).p:=by
  rw [← hwk.st]
  simp [List.getD,hwk.wk.sts.len,hin]
 have hsm:=small_right (right_mach hD') hwk.st
 have hel:=hwk.wk.sts.el _ hzm
 have hz1:=hsm.arc _ hzm
 have hz2:=hsm.out _ hzm
 obtain ⟨z,hz⟩:∃ z,Z.getD t.i svZero=z:=⟨_,rfl⟩
 rw [hz] at hzp hel hz1 hz2
 have hzq:z.n≤2097152:=by rw [← hz];exact svs_few hD' hwk.st hwk.wk.sts _ hzm
 have HST:=hide (wstate_some wb x.wb (mach L).base wA n wc Z dA dc _ hwk.wk t.i hin z hz hzq)
 go_wp2_with fail
 refine HST.out.mono ?_
 rintro e w1 ⟨A2,c2,rfl,hcl⟩
 have HCL:=hide hcl
 clear hcl
 go_upto_region 2 with fail
 obtain ⟨w2,hw2⟩:∃ y,y=w1.alloc (.cells #[.bool z.fin,.int .i64 z.out,.slice A2 z.n c2] 170):=⟨_,rfl⟩
 obtain ⟨bX,eX⟩:∃ y,y=w1.heap.size:=⟨_,rfl⟩
 rw [← hw2,← eX]
 have hT2:Touch (fun _=>False) wb w2:=by rw [hw2];exact HCL.out.touch.alloc _
 have hV2:VisB t x.o z bH bS bR bX A c A2 c2 w2:=⟨HBH.out.touch hT2 (fun f=>f),HBS.out.touch hT2 (fun f=>f),HBR.out.touch hT2 (fun f=>f),by rw [hw2,eX];exact Blk.new _ _ _,(RdT.of_own HCL.out.own).quiet (by rw [hw2];exact (Touch.refl _ _).alloc _),HRR.out.quiet hT2⟩
 have HV2:=hide hV2
 have HZL:=hide hel.len
 have HZC:=hide (And.intro hel.le hel.mx)
 have HZP:=hide hzp
 have HZ1:=hide hz1
 have HZ2:=hide hz2
 have HZQ:=hide hzq
 have HB2:=hide (HRB.out.quiet hT2)
 have hlv:=(HRB.out.quiet hT2).st.lev
 have HAL:=hide (alive_lev w2 x.lb x.lA x.ln x.lc x.X x.o hlv t.row HR.out.row)
 have q1:=(HB2.out.st.bl).facts
 clear hw2 eX hT2 hV2 hlv hel hzp hz1 hz2 hzq hsm hwk hzm hin p0 p1 p2 HST HBH HBS HBR HRR HRB
 obtain ⟨p0,p1,p2⟩:=q1
 cases hdead:t.row.all fun y=>decide (x.o≤y) with
 | true =>
  rw [hdead] at HAL
  have HDEAD:=hide hdead
  clear hdead
  go_wp2_with (first | (refine wpList_row_loadG (by kernel_rfl) (.tmp 12) rfl bR rfl _ HV2.out.br ?_))
  refine HAL.out.mono ?_
  rintro e w3 ⟨rfl,T3⟩
  have HT3:=hide T3
  clear T3
  go_wp2_with fail
  refine ⟨.tuple #[],results_none rfl _ _ _,rfl,?_⟩
  have hdd:fzDead x.o t=true:=HDEAD.out
  have e1:fzHit (mach L).states x.o t=[]:=by unfold fzHit;rw [if_pos hdd]
  have e2:fzKids (mach L).states x.X x.o t=[]:=by unfold fzKids;rw [if_pos hdd]
  rw [e1,e2]
  simp only [List.map_nil,List.append_nil,List.reverse_nil]
  exact ⟨_,_,_,_,_,HB2.out.quiet HT3.out⟩
 | false =>
  rw [hdead] at HAL
  have HDEAD:=hide hdead
  clear hdead
  go_wp2_with (first | (refine wpList_row_loadG (by kernel_rfl) (.tmp 12) rfl bR rfl _ HV2.out.br ?_))
  refine HAL.out.mono ?_
  rintro e w3 ⟨rfl,T3⟩
  have hb3:=HB2.out.quiet T3
  have HB3:=hide hb3
  have HV3:=hide (HV2.out.quiet T3)
  have HDI:=hide (dist_lev w3 x.lb x.lA x.ln x.lc x.X x.o hb3.st.lev t.row HR.out.row)
  clear p0 p1 p2
  obtain ⟨p0,p1,p2⟩:=hb3.st.bl.facts
  clear T3 hb3 HAL
  go_wp2_with (first | (refine wpList_row_load rfl (.tmp 12) rfl bR rfl _ HV3.out.br ?_))
  refine HDI.out.mono ?_
  rintro e w4 ⟨rfl,T4⟩
  have HB4:=hide (HB3.out.quiet T4)
  have HV4:=hide (HV3.out.quiet T4)
  clear T4 p0 p1 p2 HDI
  obtain ⟨d,hd⟩:∃ d,d=t.row.getD x.ln 0:=⟨_,rfl⟩
  rw [← hd]
  have HDD:=hide hd
  clear hd
  obtain ⟨nr,hnr⟩:∃ nr,nr=decide (d<x.o):=⟨_,rfl⟩
  obtain ⟨dd,hdd⟩:∃ y:Int,y=if d<x.o then (d:Int) else 0:=⟨_,rfl⟩
  rw [← hnr,← hdd]
  have HNR:=hide (And.intro hnr hdd)
  clear hnr hdd
  obtain ⟨x0,x1,x2⟩:=HV4.out.bx.facts
  have c0:w4.cell? ⟨bX,0,none⟩=some (.bool z.fin):=x0 0
  clear x0 x1
  obtain ⟨zf,hzf⟩:∃ f,f=z.fin:=⟨_,rfl⟩
  rw [← hzf] at c0 ⊢
  have HZF:=hide hzf
  clear hzf
  go_upto_region 4 with fail
  go_cut [45] from 41 to 45 (fun s wx=>s=.bool (zf && nr)∧wx=w4)
  case first =>
   clear HZF
   cases zf
   ·go_wp2
    go_meet
    case rel=>exact ⟨rfl,rfl⟩
   ·clear HNR
    cases nr
    ·go_wp2
     go_meet
     case rel=>exact ⟨rfl,rfl⟩
    ·go_wp2
     go_meet
     case rel=>exact ⟨rfl,rfl⟩
  case rest =>
   obtain ⟨rfl,hcw⟩:=hcut
   obtain rfl:=hcw.symm
   clear hcw
   have hld:t.row.getLastD 0=d:=by
    rw [HDD.out,List.getLastD_eq_getLast?,List.getLast?_eq_getElem?,HR.out.row]
    rfl
   have hfe:((mach L).states.getD t.i noSt).fin=zf:=by rw [HZP.out,HZF.out];rfl
   have hoe:((mach L).states.getD t.i noSt).out=z.out:=by rw [HZP.out];rfl
   have hnd:¬ fzDead x.o t=true:=by
    have:=HDEAD.out
    unfold fzDead
    rw [this]
    simp
   have hhit:fzHit (mach L).states x.o t=if (zf && nr)=true then [(t.head,t.sum+z.out,d)] else []:=by
    unfold fzHit
    rw [if_neg hnd,hfe,hoe,hld]
    have h1:=HNR.out.1
    cases zf with
    | false=>simp
    | true=>simp [h1]
   have HHIT:=hide hhit
   clear hld hfe hoe hnd hhit c0
   obtain ⟨bb,hbb⟩:∃ y,y=(zf && nr):=⟨_,rfl⟩
   rw [← hbb] at HHIT ⊢
   have HBE:=hide hbb
   clear hbb
   go_upto_if 45 with fail
   go_cut [17,18] from 46 to 60 (fun _ _ wx=>Hid (FzG x wx (F++(fzHit (mach L).states x.o t).map hitM) I∧VisB t x.o z bH bS bR bX A c A2 c2 wx))
   case first =>
    cases bb with
    | false =>
     clear HBE
     go_wp2_with fail
     go_meet
     case rel =>
      have h:=HHIT.out
      rw [h]
      exact hide ⟨by simp only [Bool.false_eq_true,if_false,List.map_nil,List.append_nil];exact ⟨_,_,_,_,_,HB4.out⟩,HV4.out⟩
    | true =>
     have hh:=HHIT.out
     rw [if_pos rfl] at hh
     have hdd:dd=(d:Int):=by
      have h1:=HNR.out.1
      have h2:=HNR.out.2
      have h3:nr=true:=(Bool.and_eq_true_iff.1 HBE.out.symm).2
      rw [h3] at h1
      rw [h2,if_pos (of_decide_eq_true h1.symm)]
     have HH:=hide hh
     have HTX:=hide (text_any w4 (Lst.touch HL.out (HB4.out.old)) A t.head.length c t.head HV4.out.rh.rd rfl (by have:=HR.out.few;omega) HR.out.scal)
     obtain ⟨h0,h1,h2⟩:=HV4.out.bh.facts
     clear hh HNR HBE
     subst hdd
     go_wp2_with fail
     refine HTX.out.mono ?_
     rintro e w5 ⟨rfl,T5⟩
     have HT5:=hide T5
     have hb5:=HB4.out.quiet T5
     have HB5:=hide hb5
     have HV5:=hide (HV4.out.quiet T5)
     obtain ⟨s0,s1,s2⟩:=HV5.out.bs.facts
     obtain ⟨x0,x1,x2⟩:=HV5.out.bx.facts
     obtain ⟨f0,f1,f2⟩:=hb5.fb.facts
     obtain ⟨iM,hiM,hm0,hm1,hm2⟩:=info_parts infoMatch12
     have z1:=HZ2.out.1
     have z2:=HZ2.out.2
     have z3:=HR.out.s0
     have z4:=HR.out.s1
     have HB5a:=hide (hb5.quiet ((Touch.refl _ _).alloc (.cells #[.string ⟨(t.head.flatMap writeU).toArray⟩,.int .i64 (t.sum+z.out),.int .i64 (d:Int)] 43)))
     have HV5a:=hide (HV5.out.quiet ((Touch.refl _ _).alloc (.cells #[.string ⟨(t.head.flatMap writeU).toArray⟩,.int .i64 (t.sum+z.out),.int .i64 (d:Int)] 43)))
     have HBB:Hid (F.length+1≤maxLen∧(F.length+1)*32≤140737488355328):=hide (by have:=HFL.out;unfold maxLen;omega)
     clear T5 hb5 HTX h0 h1 h2
     go_wp2_with (at_builtin;refine wpList_app _ rfl (.tmp 51) (.tmp 59) 39 rfl 43 iM _ 3 32 Tryz.underlying39 hiM hm0 hm1 hm2 rfl (by decide) (.slice FA F.length fc) F.length _ rfl HB5a.out.fo (some ⟨w5.heap.size,0,none⟩) 1 1 [.string ⟨(t.head.flatMap writeU).toArray⟩,.int .i64 (t.sum+z.out),.int .i64 (d:Int)] rfl (Reads.new _ _ _ 1 rfl) (fun h=>by cases h) (List.all_eq_true.1 rfl) HBB.out.1 HBB.out.2 ?_;intro v6 w6 O6 G6 F6 _;obtain ⟨A6,c6,hv,_,_⟩:=own_len O6;subst hv;have hb6:=HB5a.out.fb.grown G6 (fun e=>(own_ty HB5a.out.fo e.symm).ne (blk_ty HB5a.out.fb) (by decide) rfl);have HE6:=hide (And.intro O6 (And.intro G6 F6));clear O6 G6 F6 f0 f1 f2;obtain ⟨f0,f1,f2⟩:=hb6.facts;clear hb6)
     go_meet
     case rel =>
      obtain ⟨O6,G6,F6⟩:=HE6.out
      rw [HH.out]
      refine hide ⟨⟨_,_,_,_,_,HB5a.out.found (hitM (t.head,t.sum+z.out,d)) O6 G6 F6⟩,?_⟩
      obtain ⟨S,T,hS⟩:=HB5a.out.foundT (v':=.slice A6 (F.length+1) c6) G6
      exact HV5a.out.fz T hS
   case rest =>
    have HC:=hcut
    clear hcut
    obtain ⟨hg5,hV5⟩:=HC.out
    have HV5:=hide hV5
    have HG5:=hide hg5
    obtain ⟨x0,x1,x2⟩:=hV5.bx.facts
    obtain ⟨wa,hwa⟩:∃ y,y=wc.alloc (.cells #[.slice A2 z.n c2] 168):=⟨_,rfl⟩
    obtain ⟨Bs,hBs⟩:∃ y,y=wc.heap.size:=⟨_,rfl⟩
    have hTa:Touch (fun _=>False) wc wa:=by rw [hwa];exact (Touch.refl _ _).alloc _
    have hbs:Blk wa Bs 168 #[.slice A2 z.n c2]:=by rw [hwa,hBs];exact Blk.new _ _ _
    have HGA:=hide (hg5.quiet hTa)
    have HVA:=hide (hV5.quiet hTa)
    have HBSS:=hide hbs
    have HWA:=hide hwa
    have HBE:=hide hBs
    clear hg5 hV5 HC hwa hBs hTa hbs
    go_wp2_with (go_at_call 94;refine (backwardA_any _ _ _ _).mono ?_;rintro e w' ⟨rfl,rfl⟩)
    rw [← HWA.out,← HBE.out]
    have hba:=HBSS.out
    have hva:=HVA.out
    have hszq:Bs<wa.heap.size:=hba.lt
    have hF1:∃ F1,F1=F++(fzHit (mach L).states x.o t).map hitM:=⟨_,rfl⟩
    obtain ⟨F1,hF1⟩:=hF1
    rw [← hF1] at HGA HG5
    have HF1:=hide hF1
    clear hF1
    have hSl:∀ l,wa.heap.size≤l→l≠Bs∧¬ (0<z.n∧adBlock A2=some l):=fun l hl=>by
     refine ⟨by omega,fun ⟨hn,hg⟩=>?_⟩
     have:=(hva.ra.ty hn l hg).lt
     omega
    refine (wpIn_wide (n:=3)).1 ?_
    refine wpIn_rangeFunc_ownH rfl (by omega) (gf := 149) (lb:=#[.pointer (some ⟨Bs,0,none⟩)]) rfl trivial (enters_of Tryz.func149 (by kernel_rfl) rfl)
     (backA_stops Fence.wide (3-1) trivial rfl (by omega) Bs (fun g=>g≠Bs∧¬ (0<z.n∧adBlock A2=some g)) wa A2 z.n c2 z.arcs HZL.out hva.ra.rd (Nat.le_trans HZC.out.1 HZC.out.2) (fun h=>h.1 rfl) (fun hn g hg h=>h.2 ⟨hn,hg⟩) hszq hba.cell0)
     (fun h k=>Touch.then h k)
     (fun W1 l o o' hl ho hn _=>⟨rfl,rfl,rfl,by simp [World.putObj],fun k hk hs=>World.putObj_heap_other (fun e=>hs (e ▸ hSl l hl))⟩)
     (Below.refl _ _) (fun _=>rfl)
     (fun pre W1=>FzG x W1 F1 (I++pre.map fun y=>kidT x t y.2)∧VisB t x.o z bH bS bR bX A c A2 c2 W1∧Blk W1 Bs 168 #[.slice A2 z.n c2]) (fun _ _ _=>False)
     (fun s X Y row hs hg hr=>⟨hs.1.grown hg (fun r e=>⟨Nat.le_trans HGA.out.size (hr r e).1,(hr r e).2⟩),hs.2.1.grown hg (fun r e=>(hr r e).2),hs.2.2.nc hg (fun r e=>(hr r e).2)⟩)
     (fun _ _ _ _ _ h _ _=>h)
     ⟨by simpa using HGA.out,hva,hba⟩
     (fun y a' W1=>∃ Bx,Blk W1 Bx 173 #[.int .i32 (y.2.1:Int),.int .i64 y.2.2.1,.int .i64 (y.2.2.2:Int)]∧AxF x bH bS bR Bx a')
     (fun y a' _ X Y row hs hg hr=>by
       obtain ⟨Bx,h1,h2⟩:=hs
       exact ⟨Bx,h1.nc hg (fun r e=>(hr r e).2),h2⟩)
     ?assign ?body ?done ?stop
    case stop=>exact fun _ _ _ _ _ _ h _=>h.elim
    case assign =>
     rintro l pre ⟨i,la,ao,ta⟩ W1 K ⟨hG1,hV1,hbsq⟩ hK
     simp only [backAE]
     gi_wp2
     refine hK _ _ ((KeepsOthers.alloc _ _).from _) ((Touch.refl _ _).alloc _) ⟨hG1.quiet ((Touch.refl _ _).alloc _),hV1.quiet ((Touch.refl _ _).alloc _),hbsq.alloc _⟩ ⟨W1.heap.size,Blk.new _ _ _,?_⟩
     exact ⟨_,_,_,_,_,_,_,_,_,_,_,_,_,_,_,_,_,_,_,_,_,_,_,_,_,_,_,_,_,_,_,_,_,_,_,_,_,_,_,_,_,_,_,_,_,_,_,_,_,_,_,_,_,_,_,_,_,_,_,_,_,_,_,rfl⟩
    case body =>
     rintro l pre ⟨i,la,ao,ta⟩ a' W1 hl ⟨r,hr⟩ ⟨hG1,hV1,hbsq⟩ ⟨Bx,hbx,hax⟩ hlt
     obtain ⟨u0,u1,u2,u3,u4,u6,u9,u13,u14,u15,u16,u17,u18,u19,u21,u22,u23,u24,u25,u26,u27,u28,u29,u30,u31,u32,u33,u34,u35,u36,u37,u38,u39,u40,u41,u42,u43,u44,u45,u46,u47,u48,u49,u50,u51,u52,u53,u54,u55,u56,u57,u58,u59,u60,u61,u62,u63,u64,u65,u66,u67,u68,u69,rfl⟩:=hax
     simp only at hbx
     obtain ⟨FA5,fc5,TA5,tc5,vs5,hR5⟩:=hG1
     obtain ⟨T0,hT0⟩:∃ y,y=I++pre.map fun y=>kidT x t y.2:=⟨_,rfl⟩
     rw [← hT0] at hR5
     have hTl:T0.length≤4194304:=by
      rw [hT0]
      have h1:=HIL.out
      have h2:=HZQ.out
      simp only [List.length_append,List.length_map]
      omega
     have hvl:=hR5.tw.1
     obtain ⟨cv,hcv⟩:∃ y,y=Value.func (.func 95) #[] #[ptrV x.bV,ptrV Bx,ptrV bH,ptrV bS,ptrV x.bL,ptrV bR]:=⟨_,rfl⟩
     have hkid:KidM x W1 cv (kidT x t (la,ao,ta)):=⟨t,(la,ao,ta),Bx,bH,bS,bR,A,t.head.length,c,⟨hcv,hbx,hV1.bh,hV1.rh,rfl,HR.out.le,HR.out.mx,HR.out.few,hV1.bs,hV1.br,HR.out.row,rfl⟩⟩
     obtain ⟨iT,hiT,hm0,hm1,hm2⟩:=info_parts infoFn12
     obtain ⟨f0,f1,f2⟩:=hR5.tb.facts
     have hTq:Touch (fun _=>False) W1 (W1.alloc (.cells #[cv] 1)):=(Touch.refl _ _).alloc _
     have HR5:=hide (hR5.quiet hTq)
     have HV5':=hide (hV1.quiet hTq)
     have HKD:=hide (hkid.fz hTq (fun _ _ _ _ f=>f))
     have HVL:=hide hvl
     have HT0:=hide hT0
     have HRL:=hide hr
     have HBB:Hid (T0.length+1≤maxLen∧(T0.length+1)*8≤140737488355328):=hide (by unfold maxLen;omega)
     have HON:Hid (∀ u∈[cv],u.oneCell'=true):=hide (by intro u hu;simp only [List.mem_singleton] at hu;subst hu;rw [hcv];rfl)
     have HCV:=hide hcv
     have HBQ:=hide hbsq
     clear hR5 hV1 hT0 hTl hvl hkid hbx hlt hr hTq hcv hbsq
     gi_wp2_with (gi_at_builtin;rw [← HCV.out];refine wpListIn_app _ rfl (.tmp 66) (.tmp 68) 178 rfl 1 iT _ 1 8 Tryz.underlying178 hiT hm0 hm1 hm2 rfl (by decide) (.slice TA5 T0.length tc5) T0.length _ rfl HR5.out.tw (some ⟨W1.heap.size,0,none⟩) 1 1 [cv] rfl (Reads.new _ _ _ 1 rfl) (fun h=>by cases h) HON.out HBB.out.1 HBB.out.2 ?_;intro v6 w6 O6 G6 F6 _;obtain ⟨A6,c6,hv,_,_⟩:=own_len O6;subst hv;have hb6:=HR5.out.tb.grown G6 (fun e=>(own_ty HR5.out.tw e.symm).ne (blk_ty HR5.out.tb) (by decide) rfl);have HE6:=hide (And.intro O6 (And.intro G6 F6));clear O6 G6 F6 f0 f1 f2;obtain ⟨f0,f1,f2⟩:=hb6.facts;clear hb6)
     obtain ⟨O6,G6,F6⟩:=HE6.out
     have hvl:vs5.length=T0.length:=by simpa using HVL.out
     have hap:T0++[kidT x t (la,ao,ta)]=I++(pre++[(i,la,ao,ta)]).map fun y=>kidT x t y.2:=by rw [HT0.out];simp
     have hrow:∀ g,(Value.slice TA5 T0.length tc5).ownBlock=some g→TyAt W1 g 1 ∨ W1.heap.size≤g:=fun g hg=>by
      by_cases hl:g<W1.heap.size
      ·obtain ⟨cs,fr,hc⟩:=own_ty HR5.out.tw hg
       exact .inl ⟨cs,fr,(Below.heap_alloc W1 _ g hl).symm.trans hc⟩
      ·exact .inr (by omega)
     have hS:∀ g,g<W1.heap.size→(g=x.bT∨(Value.slice TA5 T0.length tc5).ownBlock=some g)→g≠Bs∧¬ (0<z.n∧adBlock A2=some g):=fun g hl e=>by
      have hra:=HV5'.out.ra
      rcases e with e | e
      ·exact ⟨fun e2=>HR5.out.tb.ne_ (HBQ.out.alloc _) (by decide) (e.symm.trans e2),fun ⟨hn,hg⟩=>(blk_ty HR5.out.tb).ne (hra.ty hn g hg) (by decide) e.symm⟩
      ·exact ⟨fun e2=>(own_ty HR5.out.tw e).ne (blk_ty (HBQ.out.alloc _)) (by decide) e2,fun ⟨hn,hg⟩=>(own_ty HR5.out.tw e).ne (hra.ty hn g hg) (by decide) rfl⟩
     refine ⟨?_,?_,?_,?_,?_⟩
     ·refine (((KeepsOthers.alloc W1 _).trans (KeepsOthers.of_grownBy G6 fun j o hj ho=>?_)).trans (KeepsOthers.setCell _ _ _)).from _
      obtain ⟨cs,_,hc⟩:=own_ty HR5.out.tw hj
      rw [hc] at ho
      injection ho with ho
      subst ho
      rfl
     ·have hT1:Touch (fun g=>g=x.bT∨(Value.slice TA5 T0.length tc5).ownBlock=some g) W1 (w6.setCell ⟨x.bT,0,none⟩ (.slice A6 (T0.length+1) c6)) :=
       Touch.setCell ((((Touch.refl _ W1).alloc _).grown G6 (fun k e _=>.inr e))) (p:=⟨x.bT,0,none⟩) (fun _=>.inl rfl) _
      exact hT1.mono hS
     ·have:=HR5.out.todo cv _ HKD.out hvl O6 G6 F6
      rw [hap] at this
      exact ⟨_,_,_,_,_,this⟩
     ·obtain ⟨S,T,hS2⟩:=HR5.out.todoT (v':=.slice A6 (T0.length+1) c6) G6
      exact HV5'.out.fz T hS2
     ·obtain ⟨S,T,hS2⟩:=HR5.out.todoT (v':=.slice A6 (T0.length+1) c6) G6
      exact (HBQ.out.alloc _).fz T hS2 (by decide)
    case done =>
     rintro D ys W1 hDD rfl ⟨hG1,hV1,_⟩ hK
     gi_wp2
     refine ⟨by simp,.inl ⟨_,_,rfl,run_takeDeferred hK,?_⟩⟩
     refine ⟨.tuple #[],results_none rfl _ _ _,rfl,?_⟩
     have h1:=hG1.grown (grownBy_putObj' W1 D (.deferred none)) (fun r e=>by cases e;exact ⟨Nat.le_trans HGA.out.size hDD,_,hK,rfl⟩)
     have h2:(uptoA (backAF z.arcs) z.n).map (fun y=>kidT x t y.2)=(fzKids (mach L).states x.X x.o t).reverse:=by
      have h3:=uptoA_rev z.arcs
      rw [HZL.out] at h3
      rw [show (fun y:Int × ArcP=>kidT x t y.2)=(kidT x t) ∘ (·.2) from rfl,← List.map_map,h3,List.map_reverse]
      unfold fzKids
      rw [if_neg (by have:=HDEAD.out;unfold fzDead;rw [this];simp),HZP.out]
      rfl
     rw [h2,HF1.out] at h1
     exact h1
end Go.Proofs.YthockgmbooefpaaGreatDoor
