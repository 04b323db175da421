/- What the law rests on, part 27. No condition but those that each theorem names. -/
import Derived.Test.YthockgmbooefpaaDoorD26
import Derived.Test.YthockgmbooefpaaDoorD24
set_option linter.unusedSectionVars false
set_option linter.unusedSimpArgs false
set_option linter.unusedVariables false
namespace Go.Proofs.YthockgmbooefpaaDoor
open Go.RowKit Go.Shelf
attribute [local go_sem] Oper.semAt_some
structure CollS (w0 w:World) (sb:Nat) (A:Option Addr) (c:Nat) (T:List PRow):Prop where
 l:Blk w sb 30 #[.slice A T.length c]
 own:w.ownsRow 0 56 2 (.slice A T.length c) T.length (pCells T)
 young:∀ g,(Value.slice A T.length c).ownBlock=some g→w0.heap.size≤g
 sb0:w0.heap.size≤sb
 touch:Touch (fun _=>False) w0 w
theorem CollS.quiet {w0 w w':World} {sb:Nat} {A:Option Addr} {c:Nat} {T:List PRow} (h:CollS w0 w sb A c T) (t:Touch (fun _=>False) w w'):CollS w0 w' sb A c T :=
 ⟨h.l.touch t (fun f=>f),own_touch h.own t (fun _ _ f=>f),h.young,h.sb0,h.touch.then t⟩
theorem CollS.row {w0 w w':World} {sb:Nat} {A:Option Addr} {c:Nat} {T:List PRow} {row:Option Nat} (h:CollS w0 w sb A c T) (hg:w.grownBy w' row) (hr:∀ r,row=some r→w0.heap.size≤r∧∃ o:Obj,w.heap[r]? = some o∧o.isCells=false):CollS w0 w' sb A c T:=by
 have hr2:∀ r,row=some r→∃ o:Obj,w.heap[r]? = some o∧o.isCells=false:=fun r e=>(hr r e).2
 have hT:Touch (fun k=>row=some k) w w':=(Touch.refl _ _).grown hg (fun k e _=>e)
 exact ⟨h.l.grown hg (blk_rowA hr2 (blk_ty h.l)),own_touch h.own hT (fun g e1 e2=>blk_rowA hr2 (own_ty h.own e1) e2.symm),h.young,h.sb0,h.touch.grown hg (fun k e hk=>by have:=(hr k e).1;omega)⟩
set_option maxRecDepth 100000 in
set_option maxHeartbeats 4000000 in
theorem appendseq_any {w0:World} (hL:Lst w0) {b:Nat} {L:List PRow} {n:Nat} {A:Option Addr} {c:Nat} {Z:List SV} {wA:Option Addr} {wc:Nat} (h:DWk w0 b L n A c Z wA wc) (hD:DictP L) (B:Nat) (hB:Blk w0 B 91 #[.pointer (some ⟨b,0,none⟩)]) :
  Calls Tryd.prog 56 #[.slice none 0 0,.func (.func 57) #[] #[.pointer (some ⟨B,0,none⟩)]] w0 fun e w'=>∃ A' c',e=.returned (.slice A' L.length c')∧ONx 56 2 w0 w' (.slice A' L.length c') L.length (pCells L):=by
 have hmf:∀ (fn:Fn) (first cap:Array Value) (w:World),(Instr.makeFunc fn first cap).run Tryd.prog w=.ok (.func fn first cap) w:=fun _ _ _ _=>rfl
 obtain ⟨w2,hw2⟩:∃ x,x=w0.alloc (.cells #[.slice none 0 0] 30):=⟨_,rfl⟩
 obtain ⟨sb,hsb⟩:∃ x,x=w0.heap.size:=⟨_,rfl⟩
 have hT2:Touch (fun _=>False) w0 w2:=by rw [hw2];exact (Touch.refl _ _).alloc _
 have hbl:Blk w2 sb 30 #[.slice none 0 0]:=by rw [hw2,hsb];exact Blk.new _ _ _
 have hC:CollS w0 w2 sb none 0 []:=⟨hbl,World.ownsRow_nil _ _ _ _,fun g hg=>(by cases hg),by omega,hT2⟩
 have hst:=all_stops (Lst.touch hL hT2) (h.quiet hT2) hD B (hB.touch hT2 (fun f=>f)) w0.heap.size hL.1
 have hpos:w0.heap.size≤w2.heap.size:=hT2.size
 have hlen:=hD.len
 have HC:=hide hC
 have HW2:=hide hw2
 have HSB:=hide hsb
 obtain ⟨i1,hi1,hy0,hy1,hy2⟩:=info_parts infoPair
 clear hbl hC hsb hw2 hT2 hL h hD hB
 refine (callsIn_wide (n:=9)).1 ?_
 refine callsIn_of_wp_marks Tryd.func56 rfl trivial ?_ rfl
 simp only [Tryd.ntmps56,List.size_toArray,List.length_cons,List.length_nil,Nat.reduceAdd,Nat.reduceSub,Array.replicate_succ,Array.replicate_zero,List.push_toArray,List.append_toArray,List.nil_append,List.cons_append]
 gi_wp2
 rw [← HW2.out,← HSB.out]
 refine wpIn_rangeFunc_ownH rfl (by decide) (gf := 57) (lb:=#[.pointer (some ⟨B,0,none⟩)]) rfl trivial (enters_of Tryd.func57 (by kernel_rfl) rfl)
  hst (fun h k=>KpT.trans h k) (kpT_b hpos) (Below.refl _ _) (fun _=>rfl)
  (fun pre W=>∃ A c,CollS w0 W sb A c pre)
  (fun _ _ _=>False)
  (fun pre X Y row hs hg hr=>by
    obtain ⟨A,c,h1⟩:=hs
    exact ⟨A,c,h1.row hg (fun r e=>⟨Nat.le_trans hpos (hr r e).1,(hr r e).2⟩)⟩)
  (fun _ _ _ _ _ hs _ _=>hs)
  ⟨none,0,HC.out⟩
  (fun x a' W=>∃ Bx,Blk W Bx 56 #[.string x.word,.int .i64 x.weight]∧a'={ tmps:=#[.slice none 0 0,.func (.func 57) #[] #[.pointer (some ⟨B,0,none⟩)],.pointer (some ⟨sb,0,none⟩),undef,.slice none 0 0,.pointer (some ⟨Bx,0,none⟩),.func (.func 57) #[] #[.pointer (some ⟨B,0,none⟩)],.agg #[.string x.word,.int .i64 x.weight],undef,undef,undef,undef,undef],defers:=[] })
  (fun x a' _ X Y row hs hg hr=>by
    obtain ⟨Bx,e1,e2⟩:=hs
    exact ⟨Bx,e1.grown hg (blk_rowA (fun r e=>(hr r e).2) (blk_ty e1)),e2⟩)
  ?assign ?body ?done ?stop
 case assign =>
  rintro l pre ⟨xw,xn⟩ W K ⟨A2,c2,h1⟩ hK
  simp only [pEnc]
  gi_wp2
  exact hK _ _ ((KeepsOthers.alloc _ _).from _) (KpT.of ((Touch.refl _ _).alloc _)) ⟨A2,c2,h1.quiet ((Touch.refl _ _).alloc _)⟩ ⟨W.heap.size,Blk.new _ _ _,rfl⟩
 case body =>
  rintro l pre ⟨xw,xn⟩ a' W _ _ ⟨A2,c2,h1⟩ ⟨Bx,hbx,rfl⟩ hlt
  obtain ⟨p0,p1,p2⟩:=hbx.facts
  obtain ⟨l0,l1,l2⟩:=h1.l.facts
  obtain ⟨q,hq⟩:∃ q,pre.length=q:=⟨_,rfl⟩
  have HQ:=hide hq
  obtain ⟨wa,hwa⟩:∃ y,y=W.alloc (.cells #[.string xw,.int .i64 xn] 56):=⟨_,rfl⟩
  have hTa:Touch (fun _=>False) W wa:=by rw [hwa];exact (Touch.refl _ _).alloc _
  have hca:=h1.quiet hTa
  have hown:=hca.own
  rw [hq] at hown
  have hrd:Reads wa 2 (some ⟨W.heap.size,0,none⟩) 1 [.string xw,.int .i64 xn]:=by
   rw [hwa]
   have h:=Reads.new (size:=2) W 56 [.string xw,.int .i64 xn] 1 rfl
   simpa using h
  have hone:∀ u∈[Value.string xw,.int .i64 xn],u.oneCell'=true:=by
   intro u hu
   simp only [List.mem_cons,List.not_mem_nil,or_false] at hu
   rcases hu with rfl | rfl<;>rfl
  have hqs:q+1≤4096:=by omega
  rw [hq] at l0
  have HWA:=hide hwa
  have HCA:=hide hca
  have HOW:=hide hown
  have HRD:=hide hrd
  have HONE:=hide hone
  have HBB:Hid (q+1≤maxLen∧(q+1)*24≤140737488355328):=hide (by unfold maxLen;omega)
  have HLV:Hid (some sb≠(Value.slice A2 q c2).ownBlock):=hide (fun e=>(own_ty hown e.symm).ne (blk_ty hca.l) (by decide) rfl)
  have HTA:=hide hTa
  clear h1 hbx hwa hTa hca hown hrd hone hqs hq hlt hst hlen
  gi_wp2_with (gi_at_builtin;rw [← HWA.out];refine wpListIn_app _ rfl (.tmp 8) (.tmp 10) 30 rfl 56 i1 _ 2 24 Tryd.underlying30 hi1 hy0 hy1 hy2 rfl (by decide) (.slice A2 q c2) q _ rfl HOW.out (some ⟨W.heap.size,0,none⟩) 1 1 [.string xw,.int .i64 xn] rfl HRD.out (fun h=>by cases h) HONE.out HBB.out.1 HBB.out.2 ?_;intro v6 w6 O6 G6 F6 _;obtain ⟨A6,c6,hv,_,_⟩:=own_len O6;subst hv;have hb6:=HCA.out.l.grown G6 HLV.out;have HE6:=hide (And.intro O6 (And.intro G6 F6));have HB6:=hide hb6;clear O6 G6 F6 l0 l1 l2;obtain ⟨l0,l1,l2⟩:=hb6.facts;clear hb6)
  obtain ⟨O6,G6,F6⟩:=HE6.out
  have hpc:pCells (pre++[(⟨xw,xn⟩:PRow)])=pCells pre++[.string xw,.int .i64 xn]:=by simp [pCells,PRow.cells]
  have hl1:(pre++[(⟨xw,xn⟩:PRow)]).length=q+1:=by rw [List.length_append,HQ.out];rfl
  have hTg:Touch (fun g=>g=sb∨(Value.slice A2 q c2).ownBlock=some g) wa (w6.setCell ⟨sb,0,none⟩ (.slice A6 (q+1) c6)):=(((Touch.refl _ _).grown G6 (fun k hk _=>.inr hk))).setCell (p:=⟨sb,0,none⟩) (fun _=>.inl rfl) _
  have hS:∀ g,(g=sb∨(Value.slice A2 q c2).ownBlock=some g)→w0.heap.size≤g∧(TyAt wa g 56 ∨ TyAt wa g 30):=by
   rintro g (rfl | e)
   ·exact ⟨HCA.out.sb0,.inr (blk_ty HCA.out.l)⟩
   ·have hy:=HCA.out.young g
    rw [HQ.out] at hy
    exact ⟨hy e,.inl (own_ty HOW.out e)⟩
  refine ⟨(keeps_touch HTA.out (fun g f=>f.elim)).trans (keeps_touch hTg (fun g e=>(hS g e).2.elim (fun h=>⟨_,h⟩) (fun h=>⟨_,h⟩))),(KpT.of HTA.out).trans (KpT.touch hTg hS),A6,c6,⟨?_,?_,?_,HCA.out.sb0,?_⟩⟩
  ·rw [hl1]
   have:=HB6.out.set_ 0 (.slice A6 (q+1) c6)
   simpa using this
  ·rw [hl1,hpc]
   exact own_setCell_far O6 (fun e=>(own_ty O6 e).ne (blk_ty HB6.out) (by decide) rfl) _
  ·rw [hl1]
   intro g hg
   rcases F6 with e | ⟨g2,e,hle⟩
   ·rw [e] at hg
    have h1:=HCA.out.young g
    rw [HQ.out] at h1
    exact h1 hg
   ·rw [e] at hg
    injection hg with hg
    have:=HCA.out.touch.size
    omega
  ·refine HCA.out.touch.trans hTg fun g hg e=>?_
   rcases e with e | e
   ·have:=HCA.out.sb0;omega
   ·have h1:=HCA.out.young g
    rw [HQ.out] at h1
    have:=h1 e
    omega
 case done =>
  rintro D ys W hD rfl ⟨A2,c2,h1⟩ hK
  obtain ⟨l0,l1,l2⟩:=h1.l.facts
  have H1:=hide h1
  clear h1
  gi_wp2
  refine ⟨by simp,.inl ⟨_,_,rfl,run_takeDeferred hK,?_⟩⟩
  have h2:=H1.out.row (grownBy_putObj' W D (.deferred none)) (fun r e=>by cases e;exact ⟨Nat.le_trans hpos hD,_,hK,rfl⟩)
  exact ⟨.slice A2 _ c2,by simp [results,Tryd.f56,go_sem],A2,c2,rfl,h2.own,h2.touch,h2.young⟩
 case stop =>
  rintro D c pre W _ _ hf
  exact hf.elim
set_option maxRecDepth 100000 in
theorem collect_any {w0:World} (hL:Lst w0) {b:Nat} {L:List PRow} {n:Nat} {A:Option Addr} {c:Nat} {Z:List SV} {wA:Option Addr} {wc:Nat} (h:DWk w0 b L n A c Z wA wc) (hD:DictP L) (B:Nat) (hB:Blk w0 B 91 #[.pointer (some ⟨b,0,none⟩)]) :
  Calls Tryd.prog 39 #[.func (.func 57) #[] #[.pointer (some ⟨B,0,none⟩)]] w0 fun e w'=>∃ A' c',e=.returned (.slice A' L.length c')∧ONx 56 2 w0 w' (.slice A' L.length c') L.length (pCells L):=by
 have HA:=hide (appendseq_any hL h hD B hB)
 clear hL h hD hB
 go_enter Tryd.func39,Tryd.ntmps39
 go_wp2_with fail
 refine HA.out.mono ?_
 rintro e w1 ⟨A1,c1,rfl,ho⟩
 have HO:=hide ho
 clear ho HA
 go_wp2_with fail
 go_ret
 exact ⟨A1,c1,rfl,HO.out⟩
end Go.Proofs.YthockgmbooefpaaDoor
