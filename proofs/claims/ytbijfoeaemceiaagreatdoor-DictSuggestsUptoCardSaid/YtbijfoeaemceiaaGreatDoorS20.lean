/- What the law rests on, part 20. No condition but those that each theorem names. -/
import Derived.Test.YtbijfoeaemceiaaGreatDoorS19
import Derived.BigQuiet
import Derived.Deep.QuietTactic
import Derived.Test.YtbijfoeaemceiaaGreatDoorS12
import Derived.Test.YtbijfoeaemceiaaGreatDoorS00
set_option linter.unusedSectionVars false
set_option linter.unusedSimpArgs false
set_option linter.unusedVariables false
namespace Go.Proofs.YtbijfoeaemceiaaGreatDoor
open Go.RowKit
structure WkM (w:World) (b:Nat) (base:Int) (A:Option Addr) (n c:Nat) (Z:List SV) (wA:Option Addr) (wc:Nat) (W:List Int):Prop where
 blk:Blk w b 195 #[.int .i64 base,.slice A n c,.slice wA n wc]
 sts:StsOk w A n Z
 wds:RdT w 3 1 wA n (W.map intV)
 len:W.length=n
theorem WkM.quiet {w w':World} {b:Nat} {base:Int} {A:Option Addr} {n c:Nat} {Z:List SV} {wA:Option Addr} {wc:Nat} {W:List Int} (h:WkM w b base A n c Z wA wc W) (T:Touch (fun _=>False) w w'):WkM w' b base A n c Z wA wc W :=
 ⟨h.blk.touch T (fun f=>f),h.sts.quiet T,h.wds.quiet T,h.len⟩
theorem NewI.wk {w wr:World} {b:Nat} {base:Int} {A:Option Addr} {n c:Nat} {Z:List SV} {wA:Option Addr} {wc:Nat} {W:List Int} (h:NewI w wr b base A n c Z wA n wc W) (hl:Z.length=n) (hW:W.length=n):WkM wr b base A n c Z wA wc W :=
 ⟨h.blk,⟨RdT.of_own h.own,hl,h.el⟩,RdT.of_own h.wds,hW⟩
def lenOf (n:Nat) (W:List Int):Int:=if n=0 then 0 else W.getD (n-1) 0
theorem base_any (w:World) (b:Nat) (base:Int) (sv wv:Value) (hb:Blk w b 195 #[.int .i64 base,sv,wv]) :
  Calls Tryz.prog 128 #[.pointer (some ⟨b,0,none⟩)] w fun e w'=>e=.returned (.int .i64 base)∧w'=w:=by
 obtain ⟨x0,x1,x2⟩:=hb.facts
 go_enter Tryz.func128,Tryz.ntmps128
 go_wp2
 go_ret
 exact ⟨rfl,rfl⟩
end Go.Proofs.YtbijfoeaemceiaaGreatDoor
namespace Go.Proofs.YtbijfoeaemceiaaGreatDoor
open Go.RowKit
structure DWk (w:World) (b:Nat) (L:List PRow) (n:Nat) (A:Option Addr) (c:Nat) (Z:List SV) (wA:Option Addr) (wc:Nat):Prop where
 wk:WkM w b (mach L).base A n c Z wA wc (wdsF (mach L).states n)
 st:Z.map SV.p=(mach L).states
 few:n≤1000000
theorem DWk.quiet {w w':World} {b:Nat} {L:List PRow} {n:Nat} {A:Option Addr} {c:Nat} {Z:List SV} {wA:Option Addr} {wc:Nat} (h:DWk w b L n A c Z wA wc) (T:Touch (fun _=>False) w w'):DWk w' b L n A c Z wA wc:=⟨h.wk.quiet T,h.st,h.few⟩
theorem mach_ne {L:List PRow} (h:L≠[]):mach L=⟨leastR (restsL L),(stateF 25 ⟨[],[]⟩ (restsL L)).1.states⟩:=by unfold mach;rw [if_neg h]
section
variable {w:World} {b:Nat} {L:List PRow} {n:Nat} {A:Option Addr} {c:Nat} {Z:List SV} {wA:Option Addr} {wc:Nat}
theorem DWk.n_len (h:DWk w b L n A c Z wA wc):(mach L).states.length=n:=by rw [← h.st,List.length_map];exact h.wk.sts.len
theorem small_right {sts:List StP} {base:Int} (h:RgtP sts base) (hs:Z.map SV.p=sts):Small sts.length Z:=by
 have key:∀ z∈Z,∃ i,i<sts.length∧FormP i z.p:=by
  intro z hz
  rcases h with ⟨h,_⟩ | h
  ·rw [h] at hs
   have:Z=[]:=by simpa using hs
   rw [this] at hz
   cases hz
  ·obtain ⟨i,hi,rfl⟩:=List.mem_iff_getElem.1 hz
   have hl:i<sts.length:=by rw [← hs,List.length_map];exact hi
   refine ⟨i,hl,?_⟩
   have:=h.form i hl
   rw [← hs] at this
   simpa [List.getD,hi] using this
 refine ⟨fun z hz=>?_,fun z hz a ha=>?_,fun z hz=>?_⟩
 ·obtain ⟨i,hi,hf⟩:=key z hz
  exact hf.lab.imp fun h=>Nat.ne_of_lt h
 ·obtain ⟨i,hi,hf⟩:=key z hz
  have:=hf.arc a ha
  exact ⟨this.1,this.2.1,by omega⟩
 ·obtain ⟨i,hi,hf⟩:=key z hz
  exact ⟨hf.out0,hf.out1⟩
theorem base_mach (hD:DictP L):0≤(mach L).base∧(mach L).base≤1048576:=by
 rcases right_mach hD with ⟨_,h⟩ | h
 ·rw [h];omega
 ·have h1:=h.base1
  have h2:=h.base2
  omega
end
end Go.Proofs.YtbijfoeaemceiaaGreatDoor
namespace Go.Proofs.YtbijfoeaemceiaaGreatDoor
open Go.RowKit
theorem dnew_any (w:World) (hL:Lst w) (L:List PRow) (hD:DictP L) (A:Option Addr) (n c:Nat) (Z:List SV) (hst:StsOk w A n Z) (hs:Z.map SV.p=(mach L).states) :
  Calls Tryz.prog 56 #[.agg #[.int .i64 (mach L).base,.slice A n c]] w fun e w'=>∃ b A' c' Z' wA wc,e=.returned (.tuple #[.pointer (some ⟨b,0,none⟩),.bool true])∧DWk w' b L n A' c' Z' wA wc∧NewI w w' b (mach L).base A' n c' Z' wA n wc (wdsF (mach L).states n):=by
 have hn:(mach L).states.length=n:=by rw [← hs,List.length_map];exact hst.len
 have hfew:n≤1000000:=by
  rcases right_mach hD with ⟨h,_⟩ | h
  ·rw [h] at hn;simp at hn;omega
  ·have:=h.few;omega
 have hc:=new_any w hL (mach L).base A n c Z hst (by rw [hs];exact right_mach hD) hfew
 refine hc.mono ?_
 rintro e w' ⟨b,A',c',Z',wA,wc,rfl,hI,hZ⟩
 rw [hs] at hI hZ
 have hl:Z'.length=n:=by rw [← List.length_map (f:=SV.p),hZ,hn]
 exact ⟨b,A',c',Z',wA,wc,rfl,⟨hI.wk hl (wdsF_len (by omega)),hZ,hfew⟩,hI⟩
theorem writeU_size (r:Nat):(writeU r).length≤4:=by
 unfold writeU
 repeat' split
 all_goals simp
theorem flat_size:∀ x:List Nat,(x.flatMap writeU).length≤4*x.length
 | []=>by simp
 | r :: x=>by
  have h1:=writeU_size r
  have h2:=flat_size x
  simp only [List.flatMap_cons,List.length_append,List.length_cons]
  omega
theorem dict_sizes {L:List PRow} (hD:DictP L):∀ r∈L,r.word.size≤1099511627776:=by
 intro r hr
 obtain ⟨h1,_,_,h4⟩:=hD.word r hr
 have h:=(runesU_write _ _ _ (Nat.le_refl _) h1).1
 have h2:=flat_size (wordR r)
 rw [← h,ByteArray.toList_eq] at h2
 have e:r.word.size=r.word.data.toList.length:=by rw [Array.length_toList];rfl
 omega
end Go.Proofs.YtbijfoeaemceiaaGreatDoor
namespace Go.Proofs.YtbijfoeaemceiaaGreatDoor
open Go.RowKit
set_option maxRecDepth 100000 in
set_option maxHeartbeats 4000000 in
theorem wstate_none (w:World) (b:Nat) (base:Int) (A:Option Addr) (n c:Nat) (Z:List SV) (wA:Option Addr) (wc:Nat) (W:List Int) (hM:WkM w b base A n c Z wA wc W) (i:Int) (hi:i<0∨(n:Int)≤i) :
  Calls Tryz.prog 120 #[.pointer (some ⟨b,0,none⟩),.int .i64 i] w fun e w'=>e=.returned (.tuple #[.agg #[.bool false,.int .i64 0,.slice none 0 0],.bool false])∧Touch (fun _=>False) w w':=by
 obtain ⟨x0,x1,x2⟩:=hM.blk.facts
 have hcase:i<0∨(¬ i<0∧(n:Int)≤i):=by omega
 clear hM hi
 have hb:Blk (w.alloc (.cells #[.bool false,.int .i64 0,.slice none 0 0] 118)) w.heap.size 118 #[.bool false,.int .i64 0,.slice none 0 0]:=Blk.new _ _ _
 have HB:=hide hb
 clear hb
 rcases hcase with h0 | ⟨h0,h1⟩
 all_goals
  go_enter Tryz.func120,Tryz.ntmps120
  go_wp2_with fail
  have f0:=HB.out.cell 0
  have f1:=HB.out.cell 1
  have f2:=HB.out.cell 2
  simp at f0 f1 f2
  exact bodyPost_ret (v:=.tuple #[.agg #[.bool false,.int .i64 0,.slice none 0 0],.bool false]) (by simp [results,Tryz.results120,go_sem]) rfl ⟨rfl,(Touch.refl _ _).alloc _⟩
set_option maxRecDepth 100000 in
set_option maxHeartbeats 4000000 in
theorem wstate_some (w:World) (b:Nat) (base:Int) (A:Option Addr) (n c:Nat) (Z:List SV) (wA:Option Addr) (wc:Nat) (W:List Int) (hM:WkM w b base A n c Z wA wc W) (i:Nat) (hi:i<n) (z:SV) (hz:Z.getD i svZero=z) (hq:z.n≤2097152) :
  Calls Tryz.prog 120 #[.pointer (some ⟨b,0,none⟩),.int .i64 i] w fun e w'=>∃ A2 c2,e=.returned (.tuple #[.agg #[.bool z.fin,.int .i64 z.out,.slice A2 z.n c2],.bool true])∧Cln w w' A2 z.n c2 z.arcs:=by
 obtain ⟨x0,x1,x2⟩:=hM.blk.facts
 obtain ⟨g,o,hA,hgl,d0,d1,d2⟩:=state_at hM.sts.rd.rd hM.sts.len i hi
 subst hA
 have hzo:=hM.sts.el _ (getD_mem Z svZero i (by rw [hM.sts.len];exact hi))
 rw [hz] at d0 d1 d2 hzo
 obtain ⟨fin,out,zA,q,zc,arcs⟩:=z
 simp only at d0 d1 d2 hq ⊢
 have y0:¬ (i:Int)<0:=by omega
 have y1:(i:Int)<(n:Int):=by omega
 have y2:(0:Int)≤(i:Int):=by omega
 obtain ⟨R,hR⟩:∃ R,R=w.heap.size:=⟨_,rfl⟩
 obtain ⟨s,hs⟩:∃ s,s=w.heap.size+1:=⟨_,rfl⟩
 obtain ⟨wa,hwa⟩:∃ x,x=(w.alloc (.cells #[.bool false,.int .i64 0,.slice none 0 0] 118)).alloc (.cells #[.bool fin,.int .i64 out,.slice zA q zc] 118):=⟨_,rfl⟩
 have hTa:Touch (fun _=>False) w wa:=by rw [hwa];exact ((Touch.refl _ _).alloc _).alloc _
 have hbR:Blk wa R 118 #[.bool false,.int .i64 0,.slice none 0 0]:=by rw [hwa,hR];exact (Blk.new _ _ _).alloc _
 have hbs:Blk wa s 118 #[.bool fin,.int .i64 out,.slice zA q zc]:=by rw [hwa,hs];exact blk_new1 _ _ _ _
 have hcc:=clone_any wa zA q zc arcs hzo.len (hzo.rd.quiet hTa) hq
 have HWA:=hide hwa
 have HR:=hide hR
 have HSD:=hide hs
 have HTA:=hide hTa
 have HBR:=hide hbR
 have HBS:=hide hbs
 have HCC:=hide hcc
 clear hM hzo hz hq hwa hR hs hTa hbR hbs hcc
 go_enter Tryz.func120,Tryz.ntmps120
 go_wp2_with fail
 rw [← HWA.out,← HSD.out,← HR.out]
 refine HCC.out.mono ?_
 rintro e w3 ⟨A2,c2,rfl,hcl⟩
 have hbs3:=HBS.out.touch hcl.touch (fun f=>f)
 have hbR3:=HBR.out.touch hcl.touch (fun f=>f)
 obtain ⟨t0,t1,t2⟩:=hbs3.facts
 obtain ⟨r0,r1,r2⟩:=hbR3.facts
 have hRs:¬ R=s:=by have h1:=HR.out;have h2:=HSD.out;omega
 have hsR:¬ s=R:=fun e=>hRs e.symm
 have HCL:=hide hcl
 have HBR3:=hide hbR3
 have HBS3:=hide hbs3
 have HRS:=hide hRs
 clear hcl hbs3 hbR3 HCC
 go_wp2_with fail
 have hb4:=((((HBR3.out.far (p:=⟨s,2,none⟩) HRS.out (.slice A2 q c2)).set_ 0 (.bool fin)).set_ 1 (.int .i64 out)).set_ 2 (.slice A2 q c2))
 have f0:=hb4.cell 0
 have f1:=hb4.cell 1
 have f2:=hb4.cell 2
 simp at f0 f1 f2
 have hT4:Touch (fun y=>y=R∨y=s) w3 ((((w3.setCell ⟨s,2,none⟩ (.slice A2 q c2)).setCell ⟨R,0,none⟩ (.bool fin)).setCell ⟨R,1,none⟩ (.int .i64 out)).setCell ⟨R,2,none⟩ (.slice A2 q c2)):=by
  refine Touch.setCell (Touch.setCell (Touch.setCell (Touch.setCell (Touch.refl _ _) ?_ _) ?_ _) ?_ _) ?_ _
  ·exact fun _=>.inr rfl
  ·exact fun _=>.inl rfl
  ·exact fun _=>.inl rfl
  ·exact fun _=>.inl rfl
 refine bodyPost_ret (v:=.tuple #[.agg #[.bool fin,.int .i64 out,.slice A2 q c2],.bool true]) (by simp [results,Tryz.results120,go_sem,f0,f1,f2]) rfl ⟨A2,c2,rfl,?_,?_,?_⟩
 ·refine own_touch HCL.out.own hT4 ?_
  rintro y hy (e | e)
  ·exact (own_ty HCL.out.own hy).ne (blk_ty HBR3.out) (by decide) e
  ·exact (own_ty HCL.out.own hy).ne (blk_ty HBS3.out) (by decide) e
 ·intro y hy
  have h1:=HCL.out.young y hy
  have h2:=HTA.out.size
  omega
 ·refine (HTA.out.then HCL.out.touch).trans hT4 fun y hy e=>?_
  have h1:=HR.out
  have h2:=HSD.out
  omega
end Go.Proofs.YtbijfoeaemceiaaGreatDoor
