/- What the law rests on, part 28. No condition but those that each theorem names. -/
import Derived.Test.YthockgmbooefpaaGreatDoorL27
import Derived.Test.YthockgmbooefpaaGreatDoorL25
import Derived.Test.YthockgmbooefpaaGreatDoorL04
import Derived.BigQuiet
import Derived.Deep.QuietTactic
import Derived.Test.YthockgmbooefpaaGreatDoorL00
set_option linter.unusedSectionVars false
set_option linter.unusedSimpArgs false
set_option linter.unusedVariables false
set_option maxRecDepth 100000
set_option maxHeartbeats 4000000
namespace Go.Proofs.YthockgmbooefpaaGreatDoor
open Go.RowKit Go.Shelf
attribute [local go_sem] Oper.semAt_some
structure CollS (w0 w:World) (sb:Nat) (A:Option Addr) (c:Nat) (T:List PRow):Prop where
 l:Blk w sb 37 #[.slice A T.length c]
 own:w.ownsRow 0 125 2 (.slice A T.length c) T.length (pCells T)
 young:∀ g,(Value.slice A T.length c).ownBlock=some g→w0.heap.size≤g
 sb0:w0.heap.size≤sb
 touch:Touch (fun _=>False) w0 w
theorem CollS.quiet {w0 w w':World} {sb:Nat} {A:Option Addr} {c:Nat} {T:List PRow} (h:CollS w0 w sb A c T) (t:Touch (fun _=>False) w w'):CollS w0 w' sb A c T :=
 ⟨h.l.touch t (fun f=>f),own_touch h.own t (fun _ _ f=>f),h.young,h.sb0,h.touch.then t⟩
theorem CollS.row {w0 w w':World} {sb:Nat} {A:Option Addr} {c:Nat} {T:List PRow} {row:Option Nat} (h:CollS w0 w sb A c T) (hg:w.grownBy w' row) (hr:∀ r,row=some r→w0.heap.size≤r∧∃ o:Obj,w.heap[r]? = some o∧o.isCells=false):CollS w0 w' sb A c T:=by
 have hr2:∀ r,row=some r→∃ o:Obj,w.heap[r]? = some o∧o.isCells=false:=fun r e=>(hr r e).2
 have hT:Touch (fun k=>row=some k) w w':=(Touch.refl _ _).grown hg (fun k e _=>e)
 exact ⟨h.l.grown hg (blk_rowA hr2 (blk_ty h.l)),own_touch h.own hT (fun g e1 e2=>blk_rowA hr2 (own_ty h.own e1) e2.symm),h.young,h.sb0,h.touch.grown hg (fun k e hk=>by have:=(hr k e).1;omega)⟩
theorem appendseq_any {w0:World} (hL:Lst w0) {b:Nat} {L:List PRow} {n:Nat} {A:Option Addr} {c:Nat} {Z:List SV} {wA:Option Addr} {wc:Nat} (h:DWk w0 b L n A c Z wA wc) (hD:DictP L) (B:Nat) (hB:Blk w0 B 92 #[.pointer (some ⟨b,0,none⟩)]) :
  Calls Tryz.prog 118 #[.slice none 0 0,.func (.func 119) #[] #[.pointer (some ⟨B,0,none⟩)]] w0 fun e w'=>∃ A' c',e=.returned (.slice A' L.length c')∧ONx 125 2 w0 w' (.slice A' L.length c') L.length (pCells L):=by
 have hmf:∀ (fn:Fn) (first cap:Array Value) (w:World),(Instr.makeFunc fn first cap).run Tryz.prog w=.ok (.func fn first cap) w:=fun _ _ _ _=>rfl
 obtain ⟨w2,hw2⟩:∃ x,x=w0.alloc (.cells #[.slice none 0 0] 37):=⟨_,rfl⟩
 obtain ⟨sb,hsb⟩:∃ x,x=w0.heap.size:=⟨_,rfl⟩
 have hT2:Touch (fun _=>False) w0 w2:=by rw [hw2];exact (Touch.refl _ _).alloc _
 have hbl:Blk w2 sb 37 #[.slice none 0 0]:=by rw [hw2,hsb];exact Blk.new _ _ _
 have hC:CollS w0 w2 sb none 0 []:=⟨hbl,World.ownsRow_nil _ _ _ _,fun g hg=>(by cases hg),by omega,hT2⟩
 have hst:=all_stops (Lst.touch hL hT2) (h.quiet hT2) hD B (hB.touch hT2 (fun f=>f)) w0.heap.size hL.1
 have hpos:w0.heap.size≤w2.heap.size:=hT2.size
 have hlen:=hD.len
 have HC:=hide hC
 have HW2:=hide hw2
 have HSB:=hide hsb
 obtain ⟨i1,hi1,hy0,hy1,hy2⟩:=info_parts infoPair
 clear hbl hC hsb hw2 hT2 hL h hD hB
 refine (callsIn_wide (n:=9)).1 ?_
 refine callsIn_of_wp_marks Tryz.func118 rfl trivial ?_ rfl
 simp only [Tryz.ntmps118,List.size_toArray,List.length_cons,List.length_nil,Nat.reduceAdd,Nat.reduceSub,Array.replicate_succ,Array.replicate_zero,List.push_toArray,List.append_toArray,List.nil_append,List.cons_append]
 gi_wp2
 rw [← HW2.out,← HSB.out]
 refine wpIn_rangeFunc_ownH rfl (by decide) (gf := 119) (lb:=#[.pointer (some ⟨B,0,none⟩)]) rfl trivial (enters_of Tryz.func119 (by kernel_rfl) rfl)
  hst (fun h k=>KpT.trans h k) (kpT_b hpos) (Below.refl _ _) (fun _=>rfl)
  (fun pre W=>∃ A c,CollS w0 W sb A c pre)
  (fun _ _ _=>False)
  (fun pre X Y row hs hg hr=>by
    obtain ⟨A,c,h1⟩:=hs
    exact ⟨A,c,h1.row hg (fun r e=>⟨Nat.le_trans hpos (hr r e).1,(hr r e).2⟩)⟩)
  (fun _ _ _ _ _ hs _ _=>hs)
  ⟨none,0,HC.out⟩
  (fun x a' W=>∃ Bx,Blk W Bx 125 #[.string x.word,.int .i64 x.weight]∧a'={ tmps:=#[.slice none 0 0,.func (.func 119) #[] #[.pointer (some ⟨B,0,none⟩)],.pointer (some ⟨sb,0,none⟩),undef,.slice none 0 0,.pointer (some ⟨Bx,0,none⟩),.func (.func 119) #[] #[.pointer (some ⟨B,0,none⟩)],.agg #[.string x.word,.int .i64 x.weight],undef,undef,undef,undef,undef],defers:=[] })
  (fun x a' _ X Y row hs hg hr=>by
    obtain ⟨Bx,e1,e2⟩:=hs
    exact ⟨Bx,e1.grown hg (blk_rowA (fun r e=>(hr r e).2) (blk_ty e1)),e2⟩)
  ?assign ?body ?done ?stop
 case assign =>
  rintro l pre ⟨xw,xn⟩ W K ⟨A2,c2,h1⟩ hK
  simp only [pEnc]
  gi_wp2
  exact hK _ _ ((KeepsOthers.alloc _ _).from _) (KpT.of ((Touch.refl _ _).alloc _)) ⟨A2,c2,h1.quiet ((Touch.refl _ _).alloc _)⟩ ⟨W.heap.size,Blk.new _ _ _,rfl⟩
 case body =>
  rintro l pre ⟨xw,xn⟩ a' W _ _ ⟨A2,c2,h1⟩ ⟨Bx,hbx,rfl⟩ hlt
  obtain ⟨p0,p1,p2⟩:=hbx.facts
  obtain ⟨l0,l1,l2⟩:=h1.l.facts
  obtain ⟨q,hq⟩:∃ q,pre.length=q:=⟨_,rfl⟩
  have HQ:=hide hq
  obtain ⟨wa,hwa⟩:∃ y,y=W.alloc (.cells #[.string xw,.int .i64 xn] 125):=⟨_,rfl⟩
  have hTa:Touch (fun _=>False) W wa:=by rw [hwa];exact (Touch.refl _ _).alloc _
  have hca:=h1.quiet hTa
  have hown:=hca.own
  rw [hq] at hown
  have hrd:Reads wa 2 (some ⟨W.heap.size,0,none⟩) 1 [.string xw,.int .i64 xn]:=by
   rw [hwa]
   have h:=Reads.new (size:=2) W 125 [.string xw,.int .i64 xn] 1 rfl
   simpa using h
  have hone:∀ u∈[Value.string xw,.int .i64 xn],u.oneCell'=true:=by
   intro u hu
   simp only [List.mem_cons,List.not_mem_nil,or_false] at hu
   rcases hu with rfl | rfl<;>rfl
  have hqs:q+1≤4096:=by omega
  rw [hq] at l0
  have HWA:=hide hwa
  have HCA:=hide hca
  have HOW:=hide hown
  have HRD:=hide hrd
  have HONE:=hide hone
  have HBB:Hid (q+1≤maxLen∧(q+1)*24≤140737488355328):=hide (by unfold maxLen;omega)
  have HLV:Hid (some sb≠(Value.slice A2 q c2).ownBlock):=hide (fun e=>(own_ty hown e.symm).ne (blk_ty hca.l) (by decide) rfl)
  have HTA:=hide hTa
  clear h1 hbx hwa hTa hca hown hrd hone hqs hq hlt hst hlen
  gi_wp2_with (gi_at_builtin;rw [← HWA.out];refine wpListIn_app _ rfl (.tmp 8) (.tmp 10) 37 rfl 125 i1 _ 2 24 Tryz.underlying37 hi1 hy0 hy1 hy2 rfl (by decide) (.slice A2 q c2) q _ rfl HOW.out (some ⟨W.heap.size,0,none⟩) 1 1 [.string xw,.int .i64 xn] rfl HRD.out (fun h=>by cases h) HONE.out HBB.out.1 HBB.out.2 ?_;intro v6 w6 O6 G6 F6 _;obtain ⟨A6,c6,hv,_,_⟩:=own_len O6;subst hv;have hb6:=HCA.out.l.grown G6 HLV.out;have HE6:=hide (And.intro O6 (And.intro G6 F6));have HB6:=hide hb6;clear O6 G6 F6 l0 l1 l2;obtain ⟨l0,l1,l2⟩:=hb6.facts;clear hb6)
  obtain ⟨O6,G6,F6⟩:=HE6.out
  have hpc:pCells (pre++[(⟨xw,xn⟩:PRow)])=pCells pre++[.string xw,.int .i64 xn]:=by simp [pCells,PRow.cells]
  have hl1:(pre++[(⟨xw,xn⟩:PRow)]).length=q+1:=by rw [List.length_append,HQ.out];rfl
  have hTg:Touch (fun g=>g=sb∨(Value.slice A2 q c2).ownBlock=some g) wa (w6.setCell ⟨sb,0,none⟩ (.slice A6 (q+1) c6)):=(((Touch.refl _ _).grown G6 (fun k hk _=>.inr hk))).setCell (p:=⟨sb,0,none⟩) (fun _=>.inl rfl) _
  have hS:∀ g,(g=sb∨(Value.slice A2 q c2).ownBlock=some g)→w0.heap.size≤g∧(TyAt wa g 125 ∨ TyAt wa g 37):=by
   rintro g (rfl | e)
   ·exact ⟨HCA.out.sb0,.inr (blk_ty HCA.out.l)⟩
   ·have hy:=HCA.out.young g
    rw [HQ.out] at hy
    exact ⟨hy e,.inl (own_ty HOW.out e)⟩
  refine ⟨(keeps_touch HTA.out (fun g f=>f.elim)).trans (keeps_touch hTg (fun g e=>(hS g e).2.elim (fun h=>⟨_,h⟩) (fun h=>⟨_,h⟩))),(KpT.of HTA.out).trans (KpT.touch hTg hS),A6,c6,⟨?_,?_,?_,HCA.out.sb0,?_⟩⟩
  ·rw [hl1]
   have:=HB6.out.set_ 0 (.slice A6 (q+1) c6)
   simpa using this
  ·rw [hl1,hpc]
   exact own_setCell_far O6 (fun e=>(own_ty O6 e).ne (blk_ty HB6.out) (by decide) rfl) _
  ·rw [hl1]
   intro g hg
   rcases F6 with e | ⟨g2,e,hle⟩
   ·rw [e] at hg
    have h1:=HCA.out.young g
    rw [HQ.out] at h1
    exact h1 hg
   ·rw [e] at hg
    injection hg with hg
    have:=HCA.out.touch.size
    omega
  ·refine HCA.out.touch.trans hTg fun g hg e=>?_
   rcases e with e | e
   ·have:=HCA.out.sb0;omega
   ·have h1:=HCA.out.young g
    rw [HQ.out] at h1
    have:=h1 e
    omega
 case done =>
  rintro D ys W hD rfl ⟨A2,c2,h1⟩ hK
  obtain ⟨l0,l1,l2⟩:=h1.l.facts
  have H1:=hide h1
  clear h1
  gi_wp2
  refine ⟨by simp,.inl ⟨_,_,rfl,run_takeDeferred hK,?_⟩⟩
  have h2:=H1.out.row (grownBy_putObj' W D (.deferred none)) (fun r e=>by cases e;exact ⟨Nat.le_trans hpos hD,_,hK,rfl⟩)
  exact ⟨.slice A2 _ c2,by simp [results,Tryz.f118,go_sem],A2,c2,rfl,h2.own,h2.touch,h2.young⟩
 case stop =>
  rintro D c pre W _ _ hf
  exact hf.elim
theorem collect_any {w0:World} (hL:Lst w0) {b:Nat} {L:List PRow} {n:Nat} {A:Option Addr} {c:Nat} {Z:List SV} {wA:Option Addr} {wc:Nat} (h:DWk w0 b L n A c Z wA wc) (hD:DictP L) (B:Nat) (hB:Blk w0 B 92 #[.pointer (some ⟨b,0,none⟩)]) :
  Calls Tryz.prog 60 #[.func (.func 119) #[] #[.pointer (some ⟨B,0,none⟩)]] w0 fun e w'=>∃ A' c',e=.returned (.slice A' L.length c')∧ONx 125 2 w0 w' (.slice A' L.length c') L.length (pCells L):=by
 have HA:=hide (appendseq_any hL h hD B hB)
 clear hL h hD hB
 go_enter Tryz.func60,Tryz.ntmps60
 go_wp2_with fail
 refine HA.out.mono ?_
 rintro e w1 ⟨A1,c1,rfl,ho⟩
 have HO:=hide ho
 clear ho HA
 go_wp2_with fail
 go_ret
 exact ⟨A1,c1,rfl,HO.out⟩
end Go.Proofs.YthockgmbooefpaaGreatDoor
namespace Go.Proofs.YthockgmbooefpaaGreatDoor
open Go.RowKit
def findW (sts:List StP) (root:Int) (base:Int) (s:List UInt8):Int × Bool:=match runesU s with
 | none=>(0,false)
 | some x=>endF sts (followF sts x root base)
theorem wfind_any (w:World) (b:Nat) (base:Int) (A:Option Addr) (n c:Nat) (Z:List SV) (wv:Value) (hblk:Blk w b 167 #[.int .i64 base,.slice A n c,wv]) (hst:StsOk w A n Z) (hL:Lst w) (s:ByteArray) (hs:s.size≤1099511627776) (hn:n≤1000000) (hb0:0≤base) (hb1:base≤1048576) (hsm:Small n Z) :
  Calls Tryz.prog 45 #[.pointer (some ⟨b,0,none⟩),.string s] w fun e w'=>e=.returned (.tuple #[.int .i64 (findW (Z.map SV.p) ((n:Int)-1) base s.toList).1,.bool (findW (Z.map SV.p) ((n:Int)-1) base s.toList).2])∧Touch (fun _=>False) w w':=by
 have HBK:=hide hblk
 have HST:=hide hst
 have HSM:=hide hsm
 have HRN:=hide (runes_any w s hs hL)
 clear hblk hst hsm hL
 obtain ⟨R,hR⟩:∃ R,findW (Z.map SV.p) ((n:Int)-1) base s.toList=R:=⟨_,rfl⟩
 rw [hR]
 have HR:=hide hR
 clear hR
 go_enter Tryz.func45,Tryz.ntmps45
 go_wp2_with fail
 refine HRN.out.mono ?_
 rintro e w1 ⟨lA,lq,lc,O,ok,rfl,N1,hl,hq,hru⟩
 have HN:=hide N1
 have HOL:=hide hl
 have HRU:=hide hru
 have hb:=HBK.out.touch N1.touch (fun f=>f)
 obtain ⟨x0,x1,x2⟩:=hb.facts
 have HB1:=hide hb
 clear N1 hl hru HRN hb
 go_wp2_with fail
 go_quiet ((go_at_call 98;exact Calls.quiet_of_same (root_any _ b base A n c wv HB1.out hn)))
 obtain ⟨w2,hw2⟩:∃ x,x=w1.drewN nq:=⟨_,rfl⟩
 have hT2:Touch (fun _=>False) w1 w2:=by rw [hw2];exact (Touch.refl _ _).drewN _
 rw [← hw2]
 have HT2:=hide (HN.out.touch.then hT2)
 have HB2:=hide (HB1.out.touch hT2 (fun f=>f))
 have HF2:=hide ((RdT.of_own HN.out.own).quiet hT2)
 have HS2:=hide (HST.out.quiet (HN.out.touch.then hT2))
 clear hw2 hT2
 go_wp2_with fail
 go_loopw [8,9,28] (fun av sv iv wr=>∃ (i:Nat) (a u:Int),av=.int .i64 a∧sv=.int .i64 u∧iv=.int .i64 i∧i≤lq∧-1≤a∧a<n∧Hid (0≤u∧u≤1048576+1048576*(i:Int))∧Hid (followF (Z.map SV.p) O ((n:Int)-1) base=followF (Z.map SV.p) (O.drop i) a u)∧Hid (Touch (fun _=>False) w2 wr)) (fun _ _ iv _=>lq-(intOf iv).toNat)
 case atStart=>exact ⟨0,(n:Int)-1,base,rfl,rfl,rfl,by omega,by omega,by omega,hide ⟨hb0,by omega⟩,hide rfl,hide (Touch.refl _ _)⟩
 case round =>
  obtain ⟨i,a,u,rfl,rfl,rfl,hi,ha1,ha2,HU,HE,HT⟩:=hrel
  by_cases hin:i<lq
  ·have y1:(i:Int)<(lq:Int):=by omega
   have y2:(0:Int)≤(i:Int):=by omega
   obtain ⟨g,o,hlA,c0⟩:=rune_at (HF2.out.quiet HT.out).rd HOL.out i hin
   subst hlA
   have hdr:O.drop i=O.getD i 0 :: O.drop (i+1):=by
    rw [List.drop_eq_getElem_cons (by rw [HOL.out];exact hin)]
    simp [List.getD,HOL.out,hin]
   obtain ⟨r,hr⟩:∃ r,O.getD i 0=r:=⟨_,rfl⟩
   rw [hr] at c0 hdr
   have HDR:=hide hdr
   clear hr hdr
   by_cases hneg:a<0
   ·have hres:R=(0,false):=by
     rw [← HR.out]
     unfold findW
     rw [HRU.out]
     cases ok with
     | false=>rfl
     | true=>simp only [if_true];rw [HE.out];exact follow_neg _ _ hneg
    subst hres
    go_wp2_with fail
    exact bodyPost_ret (v:=.tuple #[.int .i64 0,.bool false]) (by simp [results,Tryz.results45,go_sem]) rfl ⟨rfl,HT2.out.then HT.out⟩
   ·obtain ⟨k,rfl⟩:∃ k:Nat,a=(k:Int):=⟨a.toNat,by omega⟩
    have hk:k<n:=by omega
    have n0:¬ (k:Int)<0:=by omega
    have n1:(0:Int)≤(k:Int):=by omega
    have hb:=HB2.out.touch HT.out (fun f=>f)
    obtain ⟨x3,x4,x5⟩:=hb.facts
    have hsr:=HS2.out.quiet HT.out
    obtain ⟨g2,o2,hA2,hg2,s0,s1,s2⟩:=state_at hsr.rd.rd hsr.len k hk
    have hA3:A=some ⟨g2,o2,none⟩:=hA2
    subst hA3
    have hzm:=getD_mem Z svZero k (by rw [hsr.len];exact hk)
    have hzo:=hsr.el _ hzm
    have hlab:=HSM.out.lab _ hzm
    have harc:=HSM.out.arc _ hzm
    have hgp:((Z.map SV.p).getD ((k:Nat):Int).toNat noSt).arcs=(Z.getD k svZero).arcs:=by simp [List.getD,show k<Z.length by rw [hsr.len];exact hk,SV.p]
    obtain ⟨⟨fin,out,aA,an,ac,arcs⟩,hz⟩:∃ z,Z.getD k svZero=z:=⟨_,rfl⟩
    rw [hz] at s0 s1 s2 hzo hlab harc hgp
    simp only at s0 s1 s2 hlab harc hgp
    have hstep:followF (Z.map SV.p) (O.drop i) k u=followF (Z.map SV.p) (O.drop (i+1)) (stepA arcs r (-1,u)).1 (stepA arcs r (-1,u)).2:=by
     rw [HDR.out]
     simp only [followF]
     rw [if_neg n0,hgp]
    have HSTP:=hide hstep
    have HAR:=hide (And.intro hzo.rd hzo.len)
    have han:an≤maxLen:=Nat.le_trans hzo.le hzo.mx
    have HLAB:=hide hlab
    have HARC:=hide harc
    have hu:=HU.out
    clear hstep hgp hz hzo hlab harc hzm hsr hb
    go_wp2_with fail
    obtain ⟨w4,hw4⟩:∃ x,x=wr.alloc (.cells #[.bool fin,.int .i64 out,.slice aA an ac] 170):=⟨_,rfl⟩
    have hT4:Touch (fun _=>False) wr w4:=by rw [hw4];exact (Touch.refl _ _).alloc _
    rw [← hw4]
    have HT4:=hide hT4
    have HA4:=hide (And.intro (HAR.out.1.quiet hT4) HAR.out.2)
    clear hw4 hT4 s0 s1 s2 c0 x0 x1 x3 x4 HAR
    go_loopw [8,9,44] (fun av sv jv ws=>∃ (j:Nat) (a' u':Int),av=.int .i64 a'∧sv=.int .i64 u'∧jv=.int .i64 j∧j≤an∧Hid ((a',u')=stepA (arcs.take j) r (-1,u))∧Hid (Touch (fun _=>False) w4 ws)) (fun _ _ jv _=>an-(intOf jv).toNat)
    case atStart=>exact ⟨0,-1,u,rfl,rfl,rfl,by omega,hide rfl,hide (Touch.refl _ _)⟩
    case round =>
     obtain ⟨j,a',u',rfl,rfl,rfl,hj,HP,HT5⟩:=hrel
     have hsm:=stepA_small (l:=arcs.take j) (n:=n) (r:=r) ((((List.take_sublist j arcs).map (·.1)).nodup HLAB.out)) (fun a ha=>HARC.out a (List.mem_of_mem_take ha)) u
     rw [← HP.out] at hsm
     simp only at hsm
     by_cases hjn:j<an
     ·have y3:(j:Int)<(an:Int):=by omega
      have y4:(0:Int)≤(j:Int):=by omega
      obtain ⟨g3,o3,hA3,hg3,c1,c2,c3⟩:=arc_at (HA4.out.1.quiet HT5.out).rd HA4.out.2 j hjn
      subst hA3
      have hab:=HARC.out _ (getD_mem arcs (0,0,0) j (by rw [HA4.out.2];exact hjn))
      have hsn:=stepA_snoc (arcs.take j) (arcs.getD j (0,0,0)) r (-1,u)
      rw [← take_snoc arcs (0,0,0) j (by rw [HA4.out.2];exact hjn),← HP.out] at hsn
      obtain ⟨⟨la,ao,tt⟩,hz⟩:∃ z,arcs.getD j (0,0,0)=z:=⟨_,rfl⟩
      rw [hz] at c1 c2 c3 hab hsn
      simp only at c1 c2 c3 hab hsn
      have HSN:=hide hsn
      have z1:IntKind.i64.wrap (u'+ao)=u'+ao:=IntWalk.i64_in _ (by omega)
      have z2:IntKind.i64.wrap ((j:Int)+1)=(j:Int)+1:=IntWalk.i64_in _ (by unfold maxLen at han;omega)
      clear hsn hz hab hsm
      by_cases hla:la=r
      ·subst hla
       go_wp2_with fail
       go_roundw
       ·exact ⟨j+1,(tt:Int),u'+ao,rfl,rfl,by simp,by omega,hide (by rw [HSN.out,if_pos rfl]),hide ((HT5.out).alloc _)⟩
       ·simp only [intOf];omega
      ·have hla2:(la:Int)≠(r:Int):=by omega
       go_wp2_with fail
       go_roundw
       ·exact ⟨j+1,a',u',rfl,rfl,by simp,by omega,hide (by rw [HSN.out,if_neg hla]),hide ((HT5.out).alloc _)⟩
       ·simp only [intOf];omega
     ·have hje:j=an:=by omega
      subst hje
      have hfull:stepA arcs r (-1,u)=(a',u'):=by
       rw [HP.out,List.take_of_length_le (by rw [HA4.out.2];exact Nat.le_refl _)]
      have hst:=HSTP.out
      rw [hfull] at hst
      have HST2:=hide (HE.out.trans hst)
      clear hfull hst
      have z3:IntKind.i64.wrap ((i:Int)+1)=(i:Int)+1:=IntWalk.i64_in _ (by omega)
      go_wp2_with fail
      go_roundw
      ·exact ⟨i+1,a',u',rfl,rfl,by simp,by omega,by omega,by omega,hide (by omega),hide HST2.out,hide (HT.out.then (HT4.out.then HT5.out))⟩
      ·simp only [intOf];omega
  ·have hie:i=lq:=by omega
   subst hie
   have hE:=HE.out
   rw [List.drop_of_length_le (by rw [HOL.out];exact Nat.le_refl _)] at hE
   have hR:=HR.out
   unfold findW at hR
   rw [HRU.out] at hR
   cases ok with
   | false =>
    have hres:R=(0,false):=by rw [← hR];rfl
    subst hres
    go_wp2_with fail
    exact bodyPost_ret (v:=.tuple #[.int .i64 0,.bool false]) (by simp [results,Tryz.results45,go_sem]) rfl ⟨rfl,HT2.out.then HT.out⟩
   | true =>
    simp only [if_true] at hR
    rw [hE] at hR
    simp only [followF,endF] at hR
    by_cases hneg:a<0
    ·have hres:R=(0,false):=by rw [← hR,if_pos hneg]
     subst hres
     clear hR hE
     go_wp2_with fail
     exact bodyPost_ret (v:=.tuple #[.int .i64 0,.bool false]) (by simp [results,Tryz.results45,go_sem]) rfl ⟨rfl,HT2.out.then HT.out⟩
    ·obtain ⟨k,rfl⟩:∃ k:Nat,a=(k:Int):=⟨a.toNat,by omega⟩
     have hk:k<n:=by omega
     have n0:¬ (k:Int)<0:=by omega
     have n1:(0:Int)≤(k:Int):=by omega
     have hb:=HB2.out.touch HT.out (fun f=>f)
     obtain ⟨x3,x4,x5⟩:=hb.facts
     have hsr:=HS2.out.quiet HT.out
     obtain ⟨g2,o2,hA2,hg2,s0,s1,s2⟩:=state_at hsr.rd.rd hsr.len k hk
     have hA3:A=some ⟨g2,o2,none⟩:=hA2
     subst hA3
     have hzm:=getD_mem Z svZero k (by rw [hsr.len];exact hk)
     have hzout:=HSM.out.out _ hzm
     have hgp:(Z.map SV.p).getD ((k:Nat):Int).toNat noSt=(Z.getD k svZero).p:=by simp [List.getD,show k<Z.length by rw [hsr.len];exact hk]
     rw [if_neg n0,hgp] at hR
     obtain ⟨⟨fin,out,aA,an,ac,arcs⟩,hz⟩:∃ z,Z.getD k svZero=z:=⟨_,rfl⟩
     rw [hz] at s0 s1 s2 hzout hR
     simp only [SV.p] at s0 s1 s2 hzout hR
     have hu:=HU.out
     have z1:IntKind.i64.wrap (u+out)=u+out:=IntWalk.i64_in _ (by omega)
     clear hgp hz hzm hsr hb x0 x1
     cases fin with
     | false =>
      have hres:R=(0,false):=by rw [← hR];rfl
      subst hres
      clear hR hE
      go_wp2_with fail
      exact bodyPost_ret (v:=.tuple #[.int .i64 0,.bool false]) (by simp [results,Tryz.results45,go_sem]) rfl ⟨rfl,HT2.out.then HT.out⟩
     | true =>
      have hres:R=(u+out,true):=by rw [← hR];rfl
      subst hres
      clear hR hE
      go_wp2_with fail
      exact bodyPost_ret (v:=.tuple #[.int .i64 (u+out),.bool true]) (by simp [results,Tryz.results45,go_sem]) rfl ⟨rfl,HT2.out.then HT.out⟩
section
variable {w:World} {b:Nat} {L:List PRow} {n:Nat} {A:Option Addr} {c:Nat} {Z:List SV} {wA:Option Addr} {wc:Nat}
theorem findW_mach (hD:DictP L) (bs:List UInt8):findW (mach L).states (((mach L).states.length:Int)-1) (mach L).base bs=findP bs L:=by
 unfold findW
 by_cases he:L=[]
 ·subst he
  cases hr:runesU bs with
  | none=>rfl
  | some x =>
   cases x with
   | nil=>rfl
   | cons r x=>rfl
 ·cases hr:runesU bs with
  | none =>
   have hno:∀ p∈L,p.word.toList≠bs:=fun p hp e=>by
    have h1:=(hD.word p hp).1
    rw [e,hr] at h1
    cases h1
   rw [key_none hno]
  | some x =>
   have hpos:0<(mach L).states.length:=by rw [mach_ne he];exact (made hD he).pos
   rw [← mach_find hD he bs x hr]
   simp only
   rw [show (((mach L).states.length-1:Nat):Int)=((mach L).states.length:Int)-1 by omega]
theorem dfind_any (h:DWk w b L n A c Z wA wc) (hD:DictP L) (hL:Lst w) (s:ByteArray) (hs:s.size≤1099511627776) :
  Calls Tryz.prog 45 #[.pointer (some ⟨b,0,none⟩),.string s] w fun e w'=>e=.returned (.tuple #[.int .i64 (findP s.toList L).1,.bool (findP s.toList L).2])∧Touch (fun _=>False) w w':=by
 have hn:=h.n_len
 have hsm:=small_right (right_mach hD) h.st
 rw [hn] at hsm
 have:=wfind_any w b (mach L).base A n c Z _ h.wk.blk h.wk.sts hL s hs h.few (base_mach hD).1 (base_mach hD).2 hsm
 rw [h.st] at this
 have e:=findW_mach hD s.toList
 rw [hn] at e
 rw [e] at this
 exact this
end
end Go.Proofs.YthockgmbooefpaaGreatDoor
