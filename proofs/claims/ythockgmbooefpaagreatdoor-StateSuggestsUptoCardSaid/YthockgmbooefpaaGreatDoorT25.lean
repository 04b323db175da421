/- What the law rests on, part 25. No condition but those that each theorem names. -/
import Derived.Test.YthockgmbooefpaaGreatDoorT24
import Derived.Test.YthockgmbooefpaaGreatDoorT18
import Derived.Test.YthockgmbooefpaaGreatDoorT11
import Derived.BigQuiet
import Derived.Deep.QuietTactic
import Derived.Test.YthockgmbooefpaaGreatDoorT17
import Derived.Test.YthockgmbooefpaaGreatDoorT00
import Derived.Test.YthockgmbooefpaaGreatDoorT04
import Derived.Laws.CopyRow
import Derived.Test.YthockgmbooefpaaGreatDoorT05
set_option linter.unusedSectionVars false
set_option linter.unusedSimpArgs false
set_option linter.unusedVariables false
set_option maxRecDepth 100000
set_option maxHeartbeats 4000000
namespace Go.Proofs.YthockgmbooefpaaGreatDoor
open Go.RowKit Go.Shelf
attribute [local go_sem] Oper.semAt_some
structure CollS (w0 w:World) (sb:Nat) (A:Option Addr) (c:Nat) (T:List PRow):Prop where
 l:Blk w sb 37 #[.slice A T.length c]
 own:w.ownsRow 0 125 2 (.slice A T.length c) T.length (pCells T)
 young:∀ g,(Value.slice A T.length c).ownBlock=some g→w0.heap.size≤g
 sb0:w0.heap.size≤sb
 touch:Touch (fun _=>False) w0 w
theorem CollS.quiet {w0 w w':World} {sb:Nat} {A:Option Addr} {c:Nat} {T:List PRow} (h:CollS w0 w sb A c T) (t:Touch (fun _=>False) w w'):CollS w0 w' sb A c T :=
 ⟨h.l.touch t (fun f=>f),own_touch h.own t (fun _ _ f=>f),h.young,h.sb0,h.touch.then t⟩
theorem CollS.row {w0 w w':World} {sb:Nat} {A:Option Addr} {c:Nat} {T:List PRow} {row:Option Nat} (h:CollS w0 w sb A c T) (hg:w.grownBy w' row) (hr:∀ r,row=some r→w0.heap.size≤r∧∃ o:Obj,w.heap[r]? = some o∧o.isCells=false):CollS w0 w' sb A c T:=by
 have hr2:∀ r,row=some r→∃ o:Obj,w.heap[r]? = some o∧o.isCells=false:=fun r e=>(hr r e).2
 have hT:Touch (fun k=>row=some k) w w':=(Touch.refl _ _).grown hg (fun k e _=>e)
 exact ⟨h.l.grown hg (blk_rowA hr2 (blk_ty h.l)),own_touch h.own hT (fun g e1 e2=>blk_rowA hr2 (own_ty h.own e1) e2.symm),h.young,h.sb0,h.touch.grown hg (fun k e hk=>by have:=(hr k e).1;omega)⟩
theorem appendseq_any {w0:World} (hL:Lst w0) {b:Nat} {L:List PRow} {n:Nat} {A:Option Addr} {c:Nat} {Z:List SV} {wA:Option Addr} {wc:Nat} (h:DWk w0 b L n A c Z wA wc) (hD:DictP L) (B:Nat) (hB:Blk w0 B 92 #[.pointer (some ⟨b,0,none⟩)]) :
  Calls Tryz.prog 118 #[.slice none 0 0,.func (.func 119) #[] #[.pointer (some ⟨B,0,none⟩)]] w0 fun e w'=>∃ A' c',e=.returned (.slice A' L.length c')∧ONx 125 2 w0 w' (.slice A' L.length c') L.length (pCells L):=by
 have hmf:∀ (fn:Fn) (first cap:Array Value) (w:World),(Instr.makeFunc fn first cap).run Tryz.prog w=.ok (.func fn first cap) w:=fun _ _ _ _=>rfl
 obtain ⟨w2,hw2⟩:∃ x,x=w0.alloc (.cells #[.slice none 0 0] 37):=⟨_,rfl⟩
 obtain ⟨sb,hsb⟩:∃ x,x=w0.heap.size:=⟨_,rfl⟩
 have hT2:Touch (fun _=>False) w0 w2:=by rw [hw2];exact (Touch.refl _ _).alloc _
 have hbl:Blk w2 sb 37 #[.slice none 0 0]:=by rw [hw2,hsb];exact Blk.new _ _ _
 have hC:CollS w0 w2 sb none 0 []:=⟨hbl,World.ownsRow_nil _ _ _ _,fun g hg=>(by cases hg),by omega,hT2⟩
 have hst:=all_stops (Lst.touch hL hT2) (h.quiet hT2) hD B (hB.touch hT2 (fun f=>f)) w0.heap.size hL.1
 have hpos:w0.heap.size≤w2.heap.size:=hT2.size
 have hlen:=hD.len
 have HC:=hide hC
 have HW2:=hide hw2
 have HSB:=hide hsb
 obtain ⟨i1,hi1,hy0,hy1,hy2⟩:=info_parts infoPair
 clear hbl hC hsb hw2 hT2 hL h hD hB
 refine (callsIn_wide (n:=9)).1 ?_
 refine callsIn_of_wp_marks Tryz.func118 rfl trivial ?_ rfl
 simp only [Tryz.ntmps118,List.size_toArray,List.length_cons,List.length_nil,Nat.reduceAdd,Nat.reduceSub,Array.replicate_succ,Array.replicate_zero,List.push_toArray,List.append_toArray,List.nil_append,List.cons_append]
 gi_wp2
 rw [← HW2.out,← HSB.out]
 refine wpIn_rangeFunc_ownH rfl (by decide) (gf := 119) (lb:=#[.pointer (some ⟨B,0,none⟩)]) rfl trivial (enters_of Tryz.func119 (by kernel_rfl) rfl)
  hst (fun h k=>KpT.trans h k) (kpT_b hpos) (Below.refl _ _) (fun _=>rfl)
  (fun pre W=>∃ A c,CollS w0 W sb A c pre)
  (fun _ _ _=>False)
  (fun pre X Y row hs hg hr=>by
    obtain ⟨A,c,h1⟩:=hs
    exact ⟨A,c,h1.row hg (fun r e=>⟨Nat.le_trans hpos (hr r e).1,(hr r e).2⟩)⟩)
  (fun _ _ _ _ _ hs _ _=>hs)
  ⟨none,0,HC.out⟩
  (fun x a' W=>∃ Bx,Blk W Bx 125 #[.string x.word,.int .i64 x.weight]∧a'={ tmps:=#[.slice none 0 0,.func (.func 119) #[] #[.pointer (some ⟨B,0,none⟩)],.pointer (some ⟨sb,0,none⟩),undef,.slice none 0 0,.pointer (some ⟨Bx,0,none⟩),.func (.func 119) #[] #[.pointer (some ⟨B,0,none⟩)],.agg #[.string x.word,.int .i64 x.weight],undef,undef,undef,undef,undef],defers:=[] })
  (fun x a' _ X Y row hs hg hr=>by
    obtain ⟨Bx,e1,e2⟩:=hs
    exact ⟨Bx,e1.grown hg (blk_rowA (fun r e=>(hr r e).2) (blk_ty e1)),e2⟩)
  ?assign ?body ?done ?stop
 case assign =>
  rintro l pre ⟨xw,xn⟩ W K ⟨A2,c2,h1⟩ hK
  simp only [pEnc]
  gi_wp2
  exact hK _ _ ((KeepsOthers.alloc _ _).from _) (KpT.of ((Touch.refl _ _).alloc _)) ⟨A2,c2,h1.quiet ((Touch.refl _ _).alloc _)⟩ ⟨W.heap.size,Blk.new _ _ _,rfl⟩
 case body =>
  rintro l pre ⟨xw,xn⟩ a' W _ _ ⟨A2,c2,h1⟩ ⟨Bx,hbx,rfl⟩ hlt
  obtain ⟨p0,p1,p2⟩:=hbx.facts
  obtain ⟨l0,l1,l2⟩:=h1.l.facts
  obtain ⟨q,hq⟩:∃ q,pre.length=q:=⟨_,rfl⟩
  have HQ:=hide hq
  obtain ⟨wa,hwa⟩:∃ y,y=W.alloc (.cells #[.string xw,.int .i64 xn] 125):=⟨_,rfl⟩
  have hTa:Touch (fun _=>False) W wa:=by rw [hwa];exact (Touch.refl _ _).alloc _
  have hca:=h1.quiet hTa
  have hown:=hca.own
  rw [hq] at hown
  have hrd:Reads wa 2 (some ⟨W.heap.size,0,none⟩) 1 [.string xw,.int .i64 xn]:=by
   rw [hwa]
   have h:=Reads.new (size:=2) W 125 [.string xw,.int .i64 xn] 1 rfl
   simpa using h
  have hone:∀ u∈[Value.string xw,.int .i64 xn],u.oneCell'=true:=by
   intro u hu
   simp only [List.mem_cons,List.not_mem_nil,or_false] at hu
   rcases hu with rfl | rfl<;>rfl
  have hqs:q+1≤4096:=by omega
  rw [hq] at l0
  have HWA:=hide hwa
  have HCA:=hide hca
  have HOW:=hide hown
  have HRD:=hide hrd
  have HONE:=hide hone
  have HBB:Hid (q+1≤maxLen∧(q+1)*24≤140737488355328):=hide (by unfold maxLen;omega)
  have HLV:Hid (some sb≠(Value.slice A2 q c2).ownBlock):=hide (fun e=>(own_ty hown e.symm).ne (blk_ty hca.l) (by decide) rfl)
  have HTA:=hide hTa
  clear h1 hbx hwa hTa hca hown hrd hone hqs hq hlt hst hlen
  gi_wp2_with (gi_at_builtin;rw [← HWA.out];refine wpListIn_app _ rfl (.tmp 8) (.tmp 10) 37 rfl 125 i1 _ 2 24 Tryz.underlying37 hi1 hy0 hy1 hy2 rfl (by decide) (.slice A2 q c2) q _ rfl HOW.out (some ⟨W.heap.size,0,none⟩) 1 1 [.string xw,.int .i64 xn] rfl HRD.out (fun h=>by cases h) HONE.out HBB.out.1 HBB.out.2 ?_;intro v6 w6 O6 G6 F6 _;obtain ⟨A6,c6,hv,_,_⟩:=own_len O6;subst hv;have hb6:=HCA.out.l.grown G6 HLV.out;have HE6:=hide (And.intro O6 (And.intro G6 F6));have HB6:=hide hb6;clear O6 G6 F6 l0 l1 l2;obtain ⟨l0,l1,l2⟩:=hb6.facts;clear hb6)
  obtain ⟨O6,G6,F6⟩:=HE6.out
  have hpc:pCells (pre++[(⟨xw,xn⟩:PRow)])=pCells pre++[.string xw,.int .i64 xn]:=by simp [pCells,PRow.cells]
  have hl1:(pre++[(⟨xw,xn⟩:PRow)]).length=q+1:=by rw [List.length_append,HQ.out];rfl
  have hTg:Touch (fun g=>g=sb∨(Value.slice A2 q c2).ownBlock=some g) wa (w6.setCell ⟨sb,0,none⟩ (.slice A6 (q+1) c6)):=(((Touch.refl _ _).grown G6 (fun k hk _=>.inr hk))).setCell (p:=⟨sb,0,none⟩) (fun _=>.inl rfl) _
  have hS:∀ g,(g=sb∨(Value.slice A2 q c2).ownBlock=some g)→w0.heap.size≤g∧(TyAt wa g 125 ∨ TyAt wa g 37):=by
   rintro g (rfl | e)
   ·exact ⟨HCA.out.sb0,.inr (blk_ty HCA.out.l)⟩
   ·have hy:=HCA.out.young g
    rw [HQ.out] at hy
    exact ⟨hy e,.inl (own_ty HOW.out e)⟩
  refine ⟨(keeps_touch HTA.out (fun g f=>f.elim)).trans (keeps_touch hTg (fun g e=>(hS g e).2.elim (fun h=>⟨_,h⟩) (fun h=>⟨_,h⟩))),(KpT.of HTA.out).trans (KpT.touch hTg hS),A6,c6,⟨?_,?_,?_,HCA.out.sb0,?_⟩⟩
  ·rw [hl1]
   have:=HB6.out.set_ 0 (.slice A6 (q+1) c6)
   simpa using this
  ·rw [hl1,hpc]
   exact own_setCell_far O6 (fun e=>(own_ty O6 e).ne (blk_ty HB6.out) (by decide) rfl) _
  ·rw [hl1]
   intro g hg
   rcases F6 with e | ⟨g2,e,hle⟩
   ·rw [e] at hg
    have h1:=HCA.out.young g
    rw [HQ.out] at h1
    exact h1 hg
   ·rw [e] at hg
    injection hg with hg
    have:=HCA.out.touch.size
    omega
  ·refine HCA.out.touch.trans hTg fun g hg e=>?_
   rcases e with e | e
   ·have:=HCA.out.sb0;omega
   ·have h1:=HCA.out.young g
    rw [HQ.out] at h1
    have:=h1 e
    omega
 case done =>
  rintro D ys W hD rfl ⟨A2,c2,h1⟩ hK
  obtain ⟨l0,l1,l2⟩:=h1.l.facts
  have H1:=hide h1
  clear h1
  gi_wp2
  refine ⟨by simp,.inl ⟨_,_,rfl,run_takeDeferred hK,?_⟩⟩
  have h2:=H1.out.row (grownBy_putObj' W D (.deferred none)) (fun r e=>by cases e;exact ⟨Nat.le_trans hpos hD,_,hK,rfl⟩)
  exact ⟨.slice A2 _ c2,by simp [results,Tryz.f118,go_sem],A2,c2,rfl,h2.own,h2.touch,h2.young⟩
 case stop =>
  rintro D c pre W _ _ hf
  exact hf.elim
theorem collect_any {w0:World} (hL:Lst w0) {b:Nat} {L:List PRow} {n:Nat} {A:Option Addr} {c:Nat} {Z:List SV} {wA:Option Addr} {wc:Nat} (h:DWk w0 b L n A c Z wA wc) (hD:DictP L) (B:Nat) (hB:Blk w0 B 92 #[.pointer (some ⟨b,0,none⟩)]) :
  Calls Tryz.prog 60 #[.func (.func 119) #[] #[.pointer (some ⟨B,0,none⟩)]] w0 fun e w'=>∃ A' c',e=.returned (.slice A' L.length c')∧ONx 125 2 w0 w' (.slice A' L.length c') L.length (pCells L):=by
 have HA:=hide (appendseq_any hL h hD B hB)
 clear hL h hD hB
 go_enter Tryz.func60,Tryz.ntmps60
 go_wp2_with fail
 refine HA.out.mono ?_
 rintro e w1 ⟨A1,c1,rfl,ho⟩
 have HO:=hide ho
 clear ho HA
 go_wp2_with fail
 go_ret
 exact ⟨A1,c1,rfl,HO.out⟩
end Go.Proofs.YthockgmbooefpaaGreatDoor
namespace Go.Proofs.YthockgmbooefpaaGreatDoor
open Go.RowKit
def findW (sts:List StP) (root:Int) (base:Int) (s:List UInt8):Int × Bool:=match runesU s with
 | none=>(0,false)
 | some x=>endF sts (followF sts x root base)
theorem wfind_any (w:World) (b:Nat) (base:Int) (A:Option Addr) (n c:Nat) (Z:List SV) (wv:Value) (hblk:Blk w b 167 #[.int .i64 base,.slice A n c,wv]) (hst:StsOk w A n Z) (hL:Lst w) (s:ByteArray) (hs:s.size≤1099511627776) (hn:n≤1000000) (hb0:0≤base) (hb1:base≤1048576) (hsm:Small n Z) :
  Calls Tryz.prog 45 #[.pointer (some ⟨b,0,none⟩),.string s] w fun e w'=>e=.returned (.tuple #[.int .i64 (findW (Z.map SV.p) ((n:Int)-1) base s.toList).1,.bool (findW (Z.map SV.p) ((n:Int)-1) base s.toList).2])∧Touch (fun _=>False) w w':=by
 have HBK:=hide hblk
 have HST:=hide hst
 have HSM:=hide hsm
 have HRN:=hide (runes_any w s hs hL)
 clear hblk hst hsm hL
 obtain ⟨R,hR⟩:∃ R,findW (Z.map SV.p) ((n:Int)-1) base s.toList=R:=⟨_,rfl⟩
 rw [hR]
 have HR:=hide hR
 clear hR
 go_enter Tryz.func45,Tryz.ntmps45
 go_wp2_with fail
 refine HRN.out.mono ?_
 rintro e w1 ⟨lA,lq,lc,O,ok,rfl,N1,hl,hq,hru⟩
 have HN:=hide N1
 have HOL:=hide hl
 have HRU:=hide hru
 have hb:=HBK.out.touch N1.touch (fun f=>f)
 obtain ⟨x0,x1,x2⟩:=hb.facts
 have HB1:=hide hb
 clear N1 hl hru HRN hb
 go_wp2_with fail
 go_quiet ((go_at_call 98;exact Calls.quiet_of_same (root_any _ b base A n c wv HB1.out hn)))
 obtain ⟨w2,hw2⟩:∃ x,x=w1.drewN nq:=⟨_,rfl⟩
 have hT2:Touch (fun _=>False) w1 w2:=by rw [hw2];exact (Touch.refl _ _).drewN _
 rw [← hw2]
 have HT2:=hide (HN.out.touch.then hT2)
 have HB2:=hide (HB1.out.touch hT2 (fun f=>f))
 have HF2:=hide ((RdT.of_own HN.out.own).quiet hT2)
 have HS2:=hide (HST.out.quiet (HN.out.touch.then hT2))
 clear hw2 hT2
 go_wp2_with fail
 go_loopw [8,9,28] (fun av sv iv wr=>∃ (i:Nat) (a u:Int),av=.int .i64 a∧sv=.int .i64 u∧iv=.int .i64 i∧i≤lq∧-1≤a∧a<n∧Hid (0≤u∧u≤1048576+1048576*(i:Int))∧Hid (followF (Z.map SV.p) O ((n:Int)-1) base=followF (Z.map SV.p) (O.drop i) a u)∧Hid (Touch (fun _=>False) w2 wr)) (fun _ _ iv _=>lq-(intOf iv).toNat)
 case atStart=>exact ⟨0,(n:Int)-1,base,rfl,rfl,rfl,by omega,by omega,by omega,hide ⟨hb0,by omega⟩,hide rfl,hide (Touch.refl _ _)⟩
 case round =>
  obtain ⟨i,a,u,rfl,rfl,rfl,hi,ha1,ha2,HU,HE,HT⟩:=hrel
  by_cases hin:i<lq
  ·have y1:(i:Int)<(lq:Int):=by omega
   have y2:(0:Int)≤(i:Int):=by omega
   obtain ⟨g,o,hlA,c0⟩:=rune_at (HF2.out.quiet HT.out).rd HOL.out i hin
   subst hlA
   have hdr:O.drop i=O.getD i 0 :: O.drop (i+1):=by
    rw [List.drop_eq_getElem_cons (by rw [HOL.out];exact hin)]
    simp [List.getD,HOL.out,hin]
   obtain ⟨r,hr⟩:∃ r,O.getD i 0=r:=⟨_,rfl⟩
   rw [hr] at c0 hdr
   have HDR:=hide hdr
   clear hr hdr
   by_cases hneg:a<0
   ·have hres:R=(0,false):=by
     rw [← HR.out]
     unfold findW
     rw [HRU.out]
     cases ok with
     | false=>rfl
     | true=>simp only [if_true];rw [HE.out];exact follow_neg _ _ hneg
    subst hres
    go_wp2_with fail
    exact bodyPost_ret (v:=.tuple #[.int .i64 0,.bool false]) (by simp [results,Tryz.results45,go_sem]) rfl ⟨rfl,HT2.out.then HT.out⟩
   ·obtain ⟨k,rfl⟩:∃ k:Nat,a=(k:Int):=⟨a.toNat,by omega⟩
    have hk:k<n:=by omega
    have n0:¬ (k:Int)<0:=by omega
    have n1:(0:Int)≤(k:Int):=by omega
    have hb:=HB2.out.touch HT.out (fun f=>f)
    obtain ⟨x3,x4,x5⟩:=hb.facts
    have hsr:=HS2.out.quiet HT.out
    obtain ⟨g2,o2,hA2,hg2,s0,s1,s2⟩:=state_at hsr.rd.rd hsr.len k hk
    have hA3:A=some ⟨g2,o2,none⟩:=hA2
    subst hA3
    have hzm:=getD_mem Z svZero k (by rw [hsr.len];exact hk)
    have hzo:=hsr.el _ hzm
    have hlab:=HSM.out.lab _ hzm
    have harc:=HSM.out.arc _ hzm
    have hgp:((Z.map SV.p).getD ((k:Nat):Int).toNat noSt).arcs=(Z.getD k svZero).arcs:=by simp [List.getD,show k<Z.length by rw [hsr.len];exact hk,SV.p]
    obtain ⟨⟨fin,out,aA,an,ac,arcs⟩,hz⟩:∃ z,Z.getD k svZero=z:=⟨_,rfl⟩
    rw [hz] at s0 s1 s2 hzo hlab harc hgp
    simp only at s0 s1 s2 hlab harc hgp
    have hstep:followF (Z.map SV.p) (O.drop i) k u=followF (Z.map SV.p) (O.drop (i+1)) (stepA arcs r (-1,u)).1 (stepA arcs r (-1,u)).2:=by
     rw [HDR.out]
     simp only [followF]
     rw [if_neg n0,hgp]
    have HSTP:=hide hstep
    have HAR:=hide (And.intro hzo.rd hzo.len)
    have han:an≤maxLen:=Nat.le_trans hzo.le hzo.mx
    have HLAB:=hide hlab
    have HARC:=hide harc
    have hu:=HU.out
    clear hstep hgp hz hzo hlab harc hzm hsr hb
    go_wp2_with fail
    obtain ⟨w4,hw4⟩:∃ x,x=wr.alloc (.cells #[.bool fin,.int .i64 out,.slice aA an ac] 170):=⟨_,rfl⟩
    have hT4:Touch (fun _=>False) wr w4:=by rw [hw4];exact (Touch.refl _ _).alloc _
    rw [← hw4]
    have HT4:=hide hT4
    have HA4:=hide (And.intro (HAR.out.1.quiet hT4) HAR.out.2)
    clear hw4 hT4 s0 s1 s2 c0 x0 x1 x3 x4 HAR
    go_loopw [8,9,44] (fun av sv jv ws=>∃ (j:Nat) (a' u':Int),av=.int .i64 a'∧sv=.int .i64 u'∧jv=.int .i64 j∧j≤an∧Hid ((a',u')=stepA (arcs.take j) r (-1,u))∧Hid (Touch (fun _=>False) w4 ws)) (fun _ _ jv _=>an-(intOf jv).toNat)
    case atStart=>exact ⟨0,-1,u,rfl,rfl,rfl,by omega,hide rfl,hide (Touch.refl _ _)⟩
    case round =>
     obtain ⟨j,a',u',rfl,rfl,rfl,hj,HP,HT5⟩:=hrel
     have hsm:=stepA_small (l:=arcs.take j) (n:=n) (r:=r) ((((List.take_sublist j arcs).map (·.1)).nodup HLAB.out)) (fun a ha=>HARC.out a (List.mem_of_mem_take ha)) u
     rw [← HP.out] at hsm
     simp only at hsm
     by_cases hjn:j<an
     ·have y3:(j:Int)<(an:Int):=by omega
      have y4:(0:Int)≤(j:Int):=by omega
      obtain ⟨g3,o3,hA3,hg3,c1,c2,c3⟩:=arc_at (HA4.out.1.quiet HT5.out).rd HA4.out.2 j hjn
      subst hA3
      have hab:=HARC.out _ (getD_mem arcs (0,0,0) j (by rw [HA4.out.2];exact hjn))
      have hsn:=stepA_snoc (arcs.take j) (arcs.getD j (0,0,0)) r (-1,u)
      rw [← take_snoc arcs (0,0,0) j (by rw [HA4.out.2];exact hjn),← HP.out] at hsn
      obtain ⟨⟨la,ao,tt⟩,hz⟩:∃ z,arcs.getD j (0,0,0)=z:=⟨_,rfl⟩
      rw [hz] at c1 c2 c3 hab hsn
      simp only at c1 c2 c3 hab hsn
      have HSN:=hide hsn
      have z1:IntKind.i64.wrap (u'+ao)=u'+ao:=IntWalk.i64_in _ (by omega)
      have z2:IntKind.i64.wrap ((j:Int)+1)=(j:Int)+1:=IntWalk.i64_in _ (by unfold maxLen at han;omega)
      clear hsn hz hab hsm
      by_cases hla:la=r
      ·subst hla
       go_wp2_with fail
       go_roundw
       ·exact ⟨j+1,(tt:Int),u'+ao,rfl,rfl,by simp,by omega,hide (by rw [HSN.out,if_pos rfl]),hide ((HT5.out).alloc _)⟩
       ·simp only [intOf];omega
      ·have hla2:(la:Int)≠(r:Int):=by omega
       go_wp2_with fail
       go_roundw
       ·exact ⟨j+1,a',u',rfl,rfl,by simp,by omega,hide (by rw [HSN.out,if_neg hla]),hide ((HT5.out).alloc _)⟩
       ·simp only [intOf];omega
     ·have hje:j=an:=by omega
      subst hje
      have hfull:stepA arcs r (-1,u)=(a',u'):=by
       rw [HP.out,List.take_of_length_le (by rw [HA4.out.2];exact Nat.le_refl _)]
      have hst:=HSTP.out
      rw [hfull] at hst
      have HST2:=hide (HE.out.trans hst)
      clear hfull hst
      have z3:IntKind.i64.wrap ((i:Int)+1)=(i:Int)+1:=IntWalk.i64_in _ (by omega)
      go_wp2_with fail
      go_roundw
      ·exact ⟨i+1,a',u',rfl,rfl,by simp,by omega,by omega,by omega,hide (by omega),hide HST2.out,hide (HT.out.then (HT4.out.then HT5.out))⟩
      ·simp only [intOf];omega
  ·have hie:i=lq:=by omega
   subst hie
   have hE:=HE.out
   rw [List.drop_of_length_le (by rw [HOL.out];exact Nat.le_refl _)] at hE
   have hR:=HR.out
   unfold findW at hR
   rw [HRU.out] at hR
   cases ok with
   | false =>
    have hres:R=(0,false):=by rw [← hR];rfl
    subst hres
    go_wp2_with fail
    exact bodyPost_ret (v:=.tuple #[.int .i64 0,.bool false]) (by simp [results,Tryz.results45,go_sem]) rfl ⟨rfl,HT2.out.then HT.out⟩
   | true =>
    simp only [if_true] at hR
    rw [hE] at hR
    simp only [followF,endF] at hR
    by_cases hneg:a<0
    ·have hres:R=(0,false):=by rw [← hR,if_pos hneg]
     subst hres
     clear hR hE
     go_wp2_with fail
     exact bodyPost_ret (v:=.tuple #[.int .i64 0,.bool false]) (by simp [results,Tryz.results45,go_sem]) rfl ⟨rfl,HT2.out.then HT.out⟩
    ·obtain ⟨k,rfl⟩:∃ k:Nat,a=(k:Int):=⟨a.toNat,by omega⟩
     have hk:k<n:=by omega
     have n0:¬ (k:Int)<0:=by omega
     have n1:(0:Int)≤(k:Int):=by omega
     have hb:=HB2.out.touch HT.out (fun f=>f)
     obtain ⟨x3,x4,x5⟩:=hb.facts
     have hsr:=HS2.out.quiet HT.out
     obtain ⟨g2,o2,hA2,hg2,s0,s1,s2⟩:=state_at hsr.rd.rd hsr.len k hk
     have hA3:A=some ⟨g2,o2,none⟩:=hA2
     subst hA3
     have hzm:=getD_mem Z svZero k (by rw [hsr.len];exact hk)
     have hzout:=HSM.out.out _ hzm
     have hgp:(Z.map SV.p).getD ((k:Nat):Int).toNat noSt=(Z.getD k svZero).p:=by simp [List.getD,show k<Z.length by rw [hsr.len];exact hk]
     rw [if_neg n0,hgp] at hR
     obtain ⟨⟨fin,out,aA,an,ac,arcs⟩,hz⟩:∃ z,Z.getD k svZero=z:=⟨_,rfl⟩
     rw [hz] at s0 s1 s2 hzout hR
     simp only [SV.p] at s0 s1 s2 hzout hR
     have hu:=HU.out
     have z1:IntKind.i64.wrap (u+out)=u+out:=IntWalk.i64_in _ (by omega)
     clear hgp hz hzm hsr hb x0 x1
     cases fin with
     | false =>
      have hres:R=(0,false):=by rw [← hR];rfl
      subst hres
      clear hR hE
      go_wp2_with fail
      exact bodyPost_ret (v:=.tuple #[.int .i64 0,.bool false]) (by simp [results,Tryz.results45,go_sem]) rfl ⟨rfl,HT2.out.then HT.out⟩
     | true =>
      have hres:R=(u+out,true):=by rw [← hR];rfl
      subst hres
      clear hR hE
      go_wp2_with fail
      exact bodyPost_ret (v:=.tuple #[.int .i64 (u+out),.bool true]) (by simp [results,Tryz.results45,go_sem]) rfl ⟨rfl,HT2.out.then HT.out⟩
section
variable {w:World} {b:Nat} {L:List PRow} {n:Nat} {A:Option Addr} {c:Nat} {Z:List SV} {wA:Option Addr} {wc:Nat}
theorem findW_mach (hD:DictP L) (bs:List UInt8):findW (mach L).states (((mach L).states.length:Int)-1) (mach L).base bs=findP bs L:=by
 unfold findW
 by_cases he:L=[]
 ·subst he
  cases hr:runesU bs with
  | none=>rfl
  | some x =>
   cases x with
   | nil=>rfl
   | cons r x=>rfl
 ·cases hr:runesU bs with
  | none =>
   have hno:∀ p∈L,p.word.toList≠bs:=fun p hp e=>by
    have h1:=(hD.word p hp).1
    rw [e,hr] at h1
    cases h1
   rw [key_none hno]
  | some x =>
   have hpos:0<(mach L).states.length:=by rw [mach_ne he];exact (made hD he).pos
   rw [← mach_find hD he bs x hr]
   simp only
   rw [show (((mach L).states.length-1:Nat):Int)=((mach L).states.length:Int)-1 by omega]
theorem dfind_any (h:DWk w b L n A c Z wA wc) (hD:DictP L) (hL:Lst w) (s:ByteArray) (hs:s.size≤1099511627776) :
  Calls Tryz.prog 45 #[.pointer (some ⟨b,0,none⟩),.string s] w fun e w'=>e=.returned (.tuple #[.int .i64 (findP s.toList L).1,.bool (findP s.toList L).2])∧Touch (fun _=>False) w w':=by
 have hn:=h.n_len
 have hsm:=small_right (right_mach hD) h.st
 rw [hn] at hsm
 have:=wfind_any w b (mach L).base A n c Z _ h.wk.blk h.wk.sts hL s hs h.few (base_mach hD).1 (base_mach hD).2 hsm
 rw [h.st] at this
 have e:=findW_mach hD s.toList
 rw [hn] at e
 rw [e] at this
 exact this
end
theorem clear_own (w:World) (g n c:Nat) (X:List PRow) (h:POwn w (some ⟨g,0,none⟩) n c X) (i c':Nat) (hi:i<n) (ty:TypeId) :
  ∃ w',(Builtin.clear_ #[37] ty #[.slice (some ⟨g,i*2,none⟩) (n-i) c']).run Tryz.prog w=.ok (.tuple #[]) w'∧POwn w' (some ⟨g,0,none⟩) i c (X.take i)∧Touch (fun k=>k=g) w w':=by
 obtain ⟨i0,hi0,hz0,hz1,_⟩:=info_parts infoPair
 rcases h.2 with ⟨e,_⟩ | ⟨g',cap,cur,e,_,hgg,hnc,hcm,hcs,ht⟩
 ·cases e
 injection e with e1 e2 e3
 injection e1 with e1
 injection e1 with e1
 subst e1 e3
 obtain ⟨Zs,hZ⟩:∃ Zs,Zs=(Builtin.zeroCells (Value.agg #[.string ByteArray.empty,.int .i64 0]).cells (n-i)).toList:=⟨_,rfl⟩
 have hzl:Zs.length=(n-i)*2:=by rw [hZ,Array.length_toList];simp [Builtin.zeroCells,Value.cells]
 have hz1c:∀ v∈Zs,v.oneCell'=true:=by
  intro v hv
  rw [hZ] at hv
  simp only [Builtin.zeroCells,Array.toList_map,List.mem_map] at hv
  obtain ⟨j,_,rfl⟩:=hv
  have:j % (Value.agg #[Value.string ByteArray.empty,Value.int IntKind.i64 0]).cells.size=0∨j % (Value.agg #[Value.string ByteArray.empty,Value.int IntKind.i64 0]).cells.size=1:=by
   simp only [Value.cells,List.size_toArray,List.length_cons,List.length_nil]
   omega
  rcases this with e | e<;>(rw [e];rfl)
 have hst:=run_storeCells_at (P:=Tryz.prog) g (i*2) 125 Zs 0 cur w hgg (by rw [hzl,hcs];omega) hz1c
 simp only [Nat.add_zero] at hst
 obtain ⟨cs,hcsd⟩:∃ cs,cs=(cur.toList.take (i*2)++Zs++cur.toList.drop (i*2+Zs.length)).toArray:=⟨_,rfl⟩
 rw [← hcsd] at hst
 refine ⟨w.setRow g cs,?_,⟨?_,.inr ⟨g,c,cs,rfl,Nat.zero_le _,setRow_heap w g cur cs _ _ hgg,by omega,hcm,?_,?_⟩⟩,⟨rfl,rfl,rfl,by simp,fun k _ hk=>setRow_other w g k cs hk⟩⟩
 ·obtain ⟨m,hm⟩:∃ m,n-i=m+1:=⟨n-i-1,by omega⟩
  have hv:∀ w,(zeroValue 125).run Tryz.prog w=.ok (Value.agg #[.string ByteArray.empty,.int .i64 0]) w:=fun w=>by simp [zeroValue,typeInfo,hi0,hz0]
  rw [hm] at hZ ⊢
  simp [Builtin.clear_,run_underlying Tryz.underlying37,hv,← hZ,hst]
 ·rw [pCells_len,List.length_take,← pown_len h];omega
 ·rw [hcsd];simp [hzl,hcs];omega
 ·rw [hcsd]
  simp only [List.append_assoc]
  rw [List.take_append_of_le_length (by rw [List.length_take,Array.length_toList];omega),List.take_take,Nat.min_self,← pCells_take,← ht,List.take_take]
  congr 1
  omega
abbrev delF:Value:=.func (.func 145) #[] #[]
theorem zero_any (a:PRow) (w:World) :
  Calls Tryz.prog 145 #[a.val] w fun e w'=>e=.returned (.bool (a.weight == 0))∧Touch (fun _=>False) w w':=by
 obtain ⟨aw,an⟩:=a
 rw [pval_eq]
 go_enter Tryz.func145,Tryz.ntmps145
 go_wp2
 go_ret
 exact ⟨rfl,(Touch.refl _ _).alloc _⟩
theorem index_any (w:World) (A:Option Addr) (n c:Nat) (X:List PRow) (h:POwn w A n c X) :
  Calls Tryz.prog 174 #[.slice A n c,delF] w fun e w'=>((e=.returned (.int .i64 (-1))∧X.filter keepP=X)∨∃ i,i<n∧e=.returned (.int .i64 (i:Nat))∧(X.take i).filter keepP=X.take i∧((X.getD i PRow.zero).weight == 0)=true)∧Touch (fun _=>False) w w':=by
 have hn:=own_le h
 unfold maxLen at hn
 have HO:=hide h
 have HL:=hide (pown_len h)
 clear h
 go_enter Tryz.func174,Tryz.ntmps174
 go_wp2
 go_loopw [8] (fun iv wr=>∃ i:Nat,iv=.int .i64 i∧i≤n∧Hid ((X.take i).filter keepP=X.take i)∧Hid (Touch (fun _=>False) w wr)) (fun iv _=>n-(intOf iv).toNat)
 case atStart=>exact ⟨0,rfl,Nat.zero_le _,hide (by simp),hide (Touch.refl _ _)⟩
 case round =>
  obtain ⟨i,rfl,hin,HF,HT⟩:=hrel
  by_cases h0:i<n
  ·have y0:(i:Int)<(n:Int):=by omega
   obtain ⟨g,rfl,hg,a0,a1,_,_⟩:=pown_at (own_touch HO.out HT.out (fun _ _ f=>f)) HL.out i h0
   have hlt:i<X.length:=by rw [← HL.out];exact h0
   have htk:X.take (i+1)=X.take i++[X.getD i PRow.zero]:=by
    have e2:X.getD i PRow.zero=X[i]:=by simp [List.getD,hlt]
    rw [List.take_succ_eq_append_getElem hlt,e2]
   obtain ⟨⟨xw,xn⟩,hx⟩:∃ r,r=X.getD i PRow.zero:=⟨_,rfl⟩
   rw [← hx] at a0 a1 htk
   simp only at a0 a1
   have HX:=hide hx
   have HTK:=hide htk
   clear hx htk hlt
   by_cases hz:xn=0
   ·have q1:(xn == 0)=true:=by simp [hz]
    have HQ:=hide q1
    clear hz q1
    go_wp2_with (go_at_call 145;refine (zero_any ⟨xw,xn⟩ wr).mono ?_;rw [show ((⟨xw,xn⟩:PRow).weight == 0)=true from HQ.out];rintro e w2 ⟨rfl,T2⟩;have HT2:=hide (HT.out.then T2);clear T2)
    go_ret
    exact ⟨.inr ⟨i,h0,rfl,HF.out,by rw [← HX.out];exact HQ.out⟩,HT2.out⟩
   ·have q1:(xn == 0)=false:=by simp [hz]
    have HQ:=hide q1
    clear hz q1
    go_wp2_with (go_at_call 145;refine (zero_any ⟨xw,xn⟩ wr).mono ?_;rw [show ((⟨xw,xn⟩:PRow).weight == 0)=false from HQ.out];rintro e w2 ⟨rfl,T2⟩;have HT2:=hide (HT.out.then T2);clear T2)
    go_roundw
    ·refine ⟨i+1,by simp,by omega,hide ?_,HT2⟩
     rw [HTK.out,List.filter_append,HF.out]
     have e:keepP ⟨xw,xn⟩=true:=by unfold keepP;rw [show ((⟨xw,xn⟩:PRow).weight == 0)=false from HQ.out];rfl
     simp [e]
    ·show n-(intOf (.int .i64 ((i:Int)+1))).toNat<n-(intOf (.int .i64 (i:Int))).toNat
     simp [intOf]
     omega
  ·have hX:X.take i=X:=List.take_of_length_le (by rw [← HL.out];omega)
   have HXX:=hide hX
   clear hX
   go_wp2
   go_ret
   have hf:=HF.out
   rw [HXX.out] at hf
   exact ⟨.inl ⟨rfl,hf⟩,HT.out⟩
theorem delete_any (w:World) (A:Option Addr) (n c:Nat) (X:List PRow) (h:POwn w A n c X) :
  Calls Tryz.prog 143 #[.slice A n c,delF] w fun e w'=>∃ m,m≤n∧e=.returned (.slice A m c)∧POwn w' A m c (X.filter keepP)∧Touch (fun g=>adBlock A=some g) w w':=by
 have hn:=own_le h
 have hnc:n≤c∧c≤maxLen:=by
  obtain ⟨A',c',e,h1,h2⟩:=own_len h
  injection e with _ _ e3
  subst e3
  exact ⟨by omega,h2⟩
 obtain ⟨hnc,hcm⟩:=hnc
 unfold maxLen at hn hcm
 have HO:=hide h
 have HL:=hide (pown_len h)
 have HIX:=hide (index_any w A n c X h)
 clear h
 go_enter Tryz.func143,Tryz.ntmps143
 go_wp2_with fail
 refine HIX.out.mono ?_
 rintro e w1 ⟨⟨rfl,hf⟩ | ⟨i,hi,rfl,hf,hz⟩,T1⟩
 ·have HF:=hide hf
  have HO1:=hide (own_touch HO.out T1 (fun _ _ f=>f))
  have HT:=hide T1
  clear hf T1
  go_wp2
  go_ret
  exact ⟨n,Nat.le_refl _,rfl,by rw [HF.out];exact HO1.out,HT.out.up _⟩
 ·have HF:=hide hf
  have HZ:=hide hz
  have HO1:=hide (own_touch HO.out T1 (fun _ _ f=>f))
  have HT:=hide T1
  have x0:((i:Int) == -1)=false:=by simp
  have x1:¬ ((i:Int) = -1):=by omega
  have x2:(i:Int)<(n:Int):=by omega
  clear hf hz T1
  obtain ⟨wo,hwo⟩:∃ wo,wo=w1:=⟨_,rfl⟩
  rw [← hwo] at HO1 HT ⊢
  clear hwo
  go_wp2
  go_loopw [5,6] (fun iv jv wr=>∃ i j:Nat,iv=.int .i64 i∧jv=.int .i64 j∧i<j∧j≤n∧Hid (∃ Y,POwn wr A n c Y∧Y.take i=(X.take j).filter keepP∧Y.drop j=X.drop j)∧Hid (Touch (fun g=>adBlock A=some g) w wr)) (fun _ jv _=>n-(intOf jv).toNat)
  case atStart =>
   refine ⟨i,i+1,rfl,by simp,by omega,by omega,hide ⟨X,HO1.out,?_,rfl⟩,hide (HT.out.up _)⟩
   have hlt:i<X.length:=by rw [← HL.out];exact hi
   have e2:X.getD i PRow.zero=X[i]:=by simp [List.getD,hlt]
   have hz:=HZ.out
   rw [e2] at hz
   rw [List.take_succ_eq_append_getElem hlt,List.filter_append,HF.out]
   have e:keepP X[i]=false:=by unfold keepP;rw [hz];rfl
   simp [e]
  case round =>
   obtain ⟨i2,j,rfl,rfl,hij,hjn,HE,HT2⟩:=hrel
   by_cases h0:j<n
   ·have y0:(j:Int)<(n:Int):=by omega
    obtain ⟨Y,O2,e1,e2⟩:=HE.out
    have hyl:=pown_len O2
    obtain ⟨g,hA,hg,a0,a1,_,_⟩:=pown_at O2 hyl j h0
    subst hA
    obtain ⟨g',hA',_,b0,b1,f0,f1⟩:=pown_at O2 hyl i2 (by omega)
    injection hA' with hA'
    injection hA' with hA' _
    subst hA'
    have hltX:j<X.length:=by rw [← HL.out];exact h0
    have hltY:j<Y.length:=by omega
    have hxy:Y.getD j PRow.zero=X.getD j PRow.zero:=by
     have:=congrArg (fun l=>l.getD 0 PRow.zero) e2
     simpa [List.getD] using this
    have hdr:Y.drop (j+1)=X.drop (j+1):=by
     have:=congrArg (List.drop 1) e2
     simpa using this
    have htk:X.take (j+1)=X.take j++[X.getD j PRow.zero]:=by
     have e3:X.getD j PRow.zero=X[j]:=by simp [List.getD,hltX]
     rw [List.take_succ_eq_append_getElem hltX,e3]
    rw [hxy] at a0 a1
    obtain ⟨⟨xw,xn⟩,hx⟩:∃ r,r=X.getD j PRow.zero:=⟨_,rfl⟩
    rw [← hx] at a0 a1 htk
    obtain ⟨⟨zw,zn⟩,hz⟩:∃ r,r=Y.getD i2 PRow.zero:=⟨_,rfl⟩
    rw [← hz] at b0 b1
    simp only at a0 a1 b0 b1
    have HO2:=hide O2
    have HEE:=hide (And.intro e1 (And.intro hdr (And.intro htk hyl)))
    obtain ⟨p,hp⟩:∃ p,p=wr.heap.size:=⟨_,rfl⟩
    obtain ⟨wa,hwa⟩:∃ wa,wa=wr.alloc (.cells #[.string xw,.int .i64 xn] 125):=⟨_,rfl⟩
    have ta:Touch (fun _=>False) wr wa:=by rw [hwa];exact (Touch.refl _ _).alloc _
    have ba:Blk wa p 125 #[.string xw,.int .i64 xn]:=by rw [hwa,hp];exact Blk.new _ _ _
    have HTA:=hide ta
    have HBA:=hide ba
    have HWA:=hide hwa
    have HPP:=hide hp
    have x3:i2<n:=by omega
    have x4:(i2:Int)<(n:Int):=by omega
    clear O2 e1 e2 hxy hdr htk hx hz HE hltX hltY ta ba hwa hp hyl
    by_cases hq:xn=0
    ·have q1:(xn == 0)=true:=by simp [hq]
     have HQ:=hide q1
     clear hq q1
     go_wp2_with fail
     rw [← HWA.out]
     refine (zero_any ⟨xw,xn⟩ wa).mono ?_
     rw [show ((⟨xw,xn⟩:PRow).weight == 0)=true from HQ.out]
     rintro e w2 ⟨rfl,T2⟩
     have HTC:=hide (HTA.out.then T2)
     clear T2
     go_wp2_with fail
     go_roundw
     ·obtain ⟨e1,hdr,htk,hyl⟩:=HEE.out
      refine ⟨i2,j+1,rfl,by simp,by omega,by omega,hide ⟨Y,own_touch HO2.out HTC.out (fun _ _ f=>f),?_,hdr⟩,hide (HT2.out.then (HTC.out.up _))⟩
      rw [htk,List.filter_append,e1]
      have e:keepP ⟨xw,xn⟩=false:=by unfold keepP;rw [show ((⟨xw,xn⟩:PRow).weight == 0)=true from HQ.out];rfl
      simp [e]
     ·show n-(intOf (.int .i64 ((j:Int)+1))).toNat<n-(intOf (.int .i64 (j:Int))).toNat
      simp [intOf]
      omega
    ·have q1:(xn == 0)=false:=by simp [hq]
     have HQ:=hide q1
     clear hq q1
     go_wp2_with fail
     rw [← HWA.out,← HPP.out]
     refine (zero_any ⟨xw,xn⟩ wa).mono ?_
     rw [show ((⟨xw,xn⟩:PRow).weight == 0)=false from HQ.out]
     rintro e w2 ⟨rfl,T2⟩
     have HTC:=hide (HTA.out.then T2)
     have hb2:=HBA.out.touch T2 (fun f=>f)
     obtain ⟨c0,c1⟩:w2.cell? ⟨p,0,none⟩=some (.string xw)∧w2.cell? ⟨p,1,none⟩=some (.int .i64 xn):=⟨hb2.cell 0,hb2.cell 1⟩
     have O3:=own_touch HO2.out HTC.out (fun _ _ f=>f)
     obtain ⟨g',hA',hg2,d0,d1,k0,k1⟩:=pown_at O3 (pown_len O3) i2 x3
     injection hA' with hA'
     injection hA' with hA' _
     subst hA'
     have HO3:=hide O3
     clear T2 hb2 O3 a0 a1 b0 b1 f0 f1
     go_wp2_with fail
     go_roundw
     ·obtain ⟨e1,hdr,htk,hyl⟩:=HEE.out
      have HS:=pown_set2 HO3.out i2 ⟨xw,xn⟩
      refine ⟨i2+1,j+1,by simp,by simp,by omega,by omega,hide ⟨Y.set i2 ⟨xw,xn⟩,HS,?_,?_⟩,hide ?_⟩
      ·rw [htk,List.filter_append,← e1]
       have e:keepP ⟨xw,xn⟩=true:=by unfold keepP;rw [show ((⟨xw,xn⟩:PRow).weight == 0)=false from HQ.out];rfl
       have hl2:i2<(Y.set i2 ⟨xw,xn⟩).length:=by rw [List.length_set];omega
       rw [List.take_succ_eq_append_getElem hl2]
       simp [e,List.take_set_of_le]
      ·rw [List.drop_set_of_lt (by omega)]
       exact hdr
      ·iterate 2 refine Touch.setCell ?_ (fun _=>(rfl:adBlock (some ⟨g,0,none⟩)=some g)) _
       exact HT2.out.then (HTC.out.up _)
     ·show n-(intOf (.int .i64 ((j:Int)+1))).toNat<n-(intOf (.int .i64 (j:Int))).toNat
      simp [intOf]
      omega
   ·have hjn':j=n:=by omega
    obtain ⟨Y,O2,e1,e2⟩:=HE.out
    obtain ⟨g,hA,hg,_,_,_,_⟩:=pown_at O2 (pown_len O2) i2 (by omega)
    subst hA
    have hfil:Y.take i2=X.filter keepP:=by
     rw [e1,List.take_of_length_le (by rw [← HL.out];omega)]
    obtain ⟨w3,r3,O3,T3⟩:=clear_own wr g n c Y O2 i2 (c-i2) (by omega) 0
    have HFI:=hide hfil
    have HO3:=hide O3
    have HT3:=hide (HT2.out.then (T3.mono (fun i hi e=>by rw [e];rfl)))
    have x3:i2<n:=by omega
    have x4:(i2:Int)≤(n:Int):=by omega
    have x5:¬ c=i2:=by omega
    have x6:i2≤c:=by omega
    have x7:(i2:Int)≤(c:Int):=by omega
    have HR3:=hide r3
    clear O2 e1 e2 hfil O3 T3 HE r3
    go_wp2_with fail
    rw [HR3.out]
    simp only [Result.andThen]
    rw [Oper.upon_value]
    go_wp2
    go_ret
    refine ⟨i2,by omega,rfl,?_,HT3.out⟩
    rw [← HFI.out]
    exact HO3.out
theorem pmerge_any (w:World) (s t:SL) (hs:s.Ok w) (ht:t.Ok w) (hsum:s.n+t.n≤5864062014700) :
  Calls Tryz.prog 87 #[s.val,t.val] w fun e w'=>∃ A n c Y,e=.returned (.slice A n c)∧POwn w' A n c (Y.filter keepP)∧Nrm (s.L++t.L) Y∧Touch (fun _=>False) w w'∧n≤s.n+t.n∧(A=none→n=0∧c=0)∧∀ g,adBlock A=some g→w.heap.size≤g:=by
 obtain ⟨wa,hwa⟩:∃ wa,wa=w.alloc (.cells [s.val,t.val].toArray 37):=⟨_,rfl⟩
 obtain ⟨g,hg⟩:∃ g,g=w.heap.size:=⟨_,rfl⟩
 have ta:Touch (fun _=>False) w wa:=by rw [hwa];exact (Touch.refl _ _).alloc _
 have hr:Reads wa 1 (some ⟨g,0,none⟩) 2 ([s,t].map SL.val):=by rw [hwa,hg];exact Reads.new w _ _ _ rfl
 have HOR:=hide (ordered_any wa (some ⟨g,0,none⟩) 2 2 [s,t] rfl hr (fun x hx=>by simp at hx;rcases hx with rfl | rfl;exact hs.touch ta;exact ht.touch ta) (by simp [sumN];exact hsum) (by decide))
 have HTA:=hide ta
 have HWA:=hide hwa
 have HG:=hide hg
 clear hs ht ta hr hwa hg
 obtain ⟨sA,sn,sc,sL⟩:=s
 obtain ⟨tA,tn,tc,tL⟩:=t
 simp only [SL.val] at HWA ⊢
 simp only at hsum
 go_enter Tryz.func87,Tryz.ntmps87
 go_wp2_with fail
 have e1:w.alloc (.cells #[.slice sA sn sc,.slice tA tn tc] 37)=wa:=HWA.out.symm
 rw [e1,← HG.out]
 clear e1
 refine HOR.out.mono ?_
 rintro e w1 ⟨A,n,c,Y,rfl,O1,N1,T1,h1,h2,h3⟩
 have HDE:=hide (delete_any w1 A n c Y O1)
 have HN:=hide N1
 have HT:=hide T1
 have H1:=hide (And.intro h1 (And.intro h2 h3))
 clear O1 N1 T1 h1 h2 h3
 go_wp2_with fail
 refine HDE.out.mono ?_
 rintro e w2 ⟨m,hm,rfl,O2,T2⟩
 have HO:=hide O2
 have HM:=hide hm
 have HT2:=hide (HTA.out.then (HT.out.trans T2 (fun i hi hp=>by
  have:=H1.out.2.2 i hp
  omega)))
 clear O2 T2 hm HDE
 go_wp2
 go_ret
 obtain ⟨h1,h2,h3⟩:=H1.out
 have hN:=HN.out
 simp only [List.flatMap_cons,List.flatMap_nil,List.append_nil] at hN
 simp [sumN] at h1
 have hm:=HM.out
 refine ⟨A,m,c,Y,rfl,HO.out,hN,HT2.out,by omega,fun e=>?_,fun g hg=>?_⟩
 ·have:=h2 e
  omega
 ·have:=h3 g hg
  have:=HTA.out.size
  omega
end Go.Proofs.YthockgmbooefpaaGreatDoor
namespace Go.Proofs.YthockgmbooefpaaGreatDoor
def errAt (L:List PRow) (i:Nat):Int:=if wordU (L.getD i PRow.zero).word.toList=false then 71 else if (decide (1≤(L.getD i PRow.zero).weight) && decide ((L.getD i PRow.zero).weight≤1048576))=false then 72 else 73
theorem errAt_eq (L:List PRow) (i:Nat):errAt L i=if wordU (L.getD i PRow.zero).word.toList=false then 71 else if (decide (1≤(L.getD i PRow.zero).weight) && decide ((L.getD i PRow.zero).weight≤1048576))=false then 72 else 73:=rfl
def errU (L:List PRow):Int:=if L.length≤4096 then (match (List.range L.length).find? (fun i=>!fitP L i) with | some i=>errAt L i | none=>0) else 70
theorem errU_long {L:List PRow} (h:¬ L.length≤4096):errU L=70:=by unfold errU;rw [if_neg h]
theorem errU_at {L:List PRow} {i:Nat} (h4:L.length≤4096) (hi:i<L.length) (hF:∀ k,k<i→fitP L k=true) (hno:fitP L i=false):errU L=errAt L i:=by
 have h:(List.range L.length).find? (fun i=>!fitP L i)=some i:=by
  rw [List.find?_range_eq_some]
  exact ⟨by rw [hno];rfl,List.mem_range.2 hi,fun j hj=>by rw [hF j hj];rfl⟩
 unfold errU
 rw [if_pos h4,h]
theorem err71 {x:Int} {v:Bool} {t:Bool} (hx:x=if v=false then 71 else if t=false then 72 else 73) (h:v=false):x=71:=by rw [hx,if_pos h]
theorem err72 {x:Int} {v:Bool} {t:Bool} (hx:x=if v=false then 71 else if t=false then 72 else 73) (h:v=true) (h2:t=false):x=72:=by rw [hx,if_neg (by rw [h];decide),if_pos h2]
theorem err73 {x:Int} {v:Bool} {t:Bool} (hx:x=if v=false then 71 else if t=false then 72 else 73) (h:v=true) (h2:t=true):x=73:=by rw [hx,if_neg (by rw [h];decide),if_neg (by rw [h2];decide)]
end Go.Proofs.YthockgmbooefpaaGreatDoor
