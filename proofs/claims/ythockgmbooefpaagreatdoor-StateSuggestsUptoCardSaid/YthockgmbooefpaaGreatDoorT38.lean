/- What the law rests on, part 38. No condition but those that each theorem names. -/
import Derived.Test.YthockgmbooefpaaGreatDoorT37
import Derived.Deep.RegionHeld3
set_option linter.unusedSectionVars false
set_option linter.unusedSimpArgs false
set_option linter.unusedVariables false
set_option maxRecDepth 100000
set_option maxHeartbeats 12000000
namespace Go.Proofs.YthockgmbooefpaaGreatDoor
open Go.RowKit
theorem wp_app_runU {P:Program} {o:Oper} {a:Act} {w:World} {K:Act→World→Prop} {Q:Exit→Act→World→Prop} (s x:Operand) (t:TypeId) (hop:o.op=Op.call { callee:=Callee.builtin Builtin.append,args:=#[s,x],argTypes:=#[t,t] })
  (v1 v2 v:Value) (w':World) (hs:a.eval s=v1) (hx:a.eval x=v2) (hrun:(Builtin.append_ #[t,t] o.type #[v1,v2]).run P w=.ok v w') (h:K (a.put o.dst v) w'):o.wp P a w K Q:=by
 unfold Oper.wp
 simp [execOp,hop,resolve,invoke,builtin,hs,hx,hrun,Result.andThen]
 exact h
theorem rdo_open (w:World) (B0:Nat) {tA:Option Addr} {tn tc:Nat} {tL L:List PRow} (hs:RfL B0 w ⟨tA,tn,tc,tL⟩ L) (hD:DictP L) {A:Option Addr} {n c:Nat} {R:List SRow} (hr:RwL w A n c R) (sid sq nn:Int) (kw:ByteArray) (hk:kw.size≤1099511627776) (hf:n<4096) :
  Calls Tryz.prog 62 #[.agg #[.slice tA tn tc,.slice A n c],.agg #[.int .i64 1,.int .u64 sid,.int .u64 sq,.string kw,.int .i64 nn]] w fun e w'=>∃ A' n' c',e=.returned (.tuple #[.agg #[.slice tA tn tc,.slice A' n' c'],ansV ⟨0,0,(n:Int)+1,0⟩])∧RwL w' A' n' c' (R++[SRow.zero])∧Touch (fun _=>False) w w':=by
 obtain ⟨wa,hwa⟩:∃ z,z=(((w.alloc (.cells #[.slice tA tn tc,.slice A n c] 56)).alloc (.cells #[.int .i64 1,.int .u64 sid,.int .u64 sq,.string kw,.int .i64 nn] 29)).alloc (.cells #[.slice none 0 0,.slice none 0 0] 56)).alloc (.cells #[.int .i64 0,.int .u64 0,.int .i64 0] 32):=⟨_,rfl⟩
 obtain ⟨ba,hba⟩:∃ z,z=w.heap.size:=⟨_,rfl⟩
 obtain ⟨bb,hbb⟩:∃ z,z=w.heap.size+1:=⟨_,rfl⟩
 obtain ⟨bs,hbs⟩:∃ z,z=w.heap.size+1+1:=⟨_,rfl⟩
 obtain ⟨ra,hra⟩:∃ z,z=w.heap.size+1+1+1:=⟨_,rfl⟩
 have hTa:Touch (fun _=>False) w wa:=by rw [hwa];exact ((((Touch.refl _ _).alloc _).alloc _).alloc _).alloc _
 have haB:Blk wa ba 56 #[.slice tA tn tc,.slice A n c]:=by rw [hwa,hba];exact (((Blk.new _ _ _).alloc _).alloc _).alloc _
 have hbB:Blk wa bb 29 #[.int .i64 1,.int .u64 sid,.int .u64 sq,.string kw,.int .i64 nn]:=by
  have h1:=(((Blk.new (w.alloc (.cells #[.slice tA tn tc,.slice A n c] 56)) 29 #[.int .i64 1,.int .u64 sid,.int .u64 sq,.string kw,.int .i64 nn]).alloc (.cells #[.slice none 0 0,.slice none 0 0] 56)).alloc (.cells #[.int .i64 0,.int .u64 0,.int .i64 0] 32))
  rw [hwa,hbb];simpa using h1
 have hsB:Blk wa bs 56 #[.slice none 0 0,.slice none 0 0]:=by
  have h1:=(Blk.new ((w.alloc (.cells #[.slice tA tn tc,.slice A n c] 56)).alloc (.cells #[.int .i64 1,.int .u64 sid,.int .u64 sq,.string kw,.int .i64 nn] 29)) 56 #[.slice none 0 0,.slice none 0 0]).alloc (.cells #[.int .i64 0,.int .u64 0,.int .i64 0] 32)
  rw [hwa,hbs];simpa using h1
 have hrB:Blk wa ra 32 #[.int .i64 0,.int .u64 0,.int .i64 0]:=by
  have h1:=Blk.new (((w.alloc (.cells #[.slice tA tn tc,.slice A n c] 56)).alloc (.cells #[.int .i64 1,.int .u64 sid,.int .u64 sq,.string kw,.int .i64 nn] 29)).alloc (.cells #[.slice none 0 0,.slice none 0 0] 56)) 32 #[.int .i64 0,.int .u64 0,.int .i64 0]
  rw [hwa,hra];simpa using h1
 have HLO:Hid (w.heap.size≤ba∧w.heap.size≤bb∧w.heap.size≤bs∧w.heap.size≤ra∧ba≠bs∧bb≠bs∧bs≠ra):=hide (by omega)
 have HTA:=hide hTa
 have HAB:=hide haB
 have HBB:=hide hbB
 have HSB:=hide hsB
 have HRB:=hide hrB
 have HWA:=hide hwa
 have H0:=hide hba
 have H1:=hide hbb
 have H2:=hide hbs
 have H3:=hide hra
 have HS:=hide (hs.quiet hTa)
 have HR:=hide (hr.quiet hTa)
 have HD:=hide hD
 have HN0:=hide hr.len
 have hn:=hr.few
 have hx1:¬ bs=ra:=by omega
 have hx2:¬ ra=bs:=by omega
 obtain ⟨a0,a1,a2⟩:=haB.facts
 obtain ⟨b0,b1,b2⟩:=hbB.facts
 obtain ⟨s0,s1,s2⟩:=hsB.facts
 obtain ⟨r0,r1,r2⟩:=hrB.facts
 clear hwa hba hbb hbs hra hTa haB hbB hsB hrB hs hr hD
 go_enter Tryz.func62,Tryz.ntmps62
 go_upto_region 1 with fail
 rw [← HWA.out,← H3.out,← H2.out,← H1.out,← H0.out]
 have hnf:(n:Int)<4096:=by omega
 have HNIL:=hide (own_nilOk HR.out.own)
 have HRD:=hide (Reads.of_own HR.out.own)
 obtain ⟨i0,hi,hz0,hz1,hz2⟩:=info_parts Tryz.infoRRow
 go_upto_region 4 with fail
 go_wp2_with (at_builtin;refine wpList_app _ rfl (.tmp 22) (.tmp 24) 54 rfl 136 i0 (.agg #[.int .u64 0,.int .i64 0,.int .u64 0,.int .i64 0]) 4 32 Tryz.underlying54 hi hz0 hz1 hz2 rfl (by decide) _ 0 [] rfl (World.ownsRow_made _ #[] 0 (Nat.zero_le _) (by decide) rfl) A n c (rowCells R) rfl (HRD.out.alloc _) ?c2 (srow_one R) ?c4 ?c5 ?_)
 case c2=>exact HNIL.out
 case c4=>unfold maxLen;omega
 case c5=>omega
 intro v1 w1 hown hgrow hfr _
 have T1:Touch (fun _=>False) wa w1:=((Touch.refl _ _).alloc _).grown hgrow (fun k hk hlt=>by simp [Value.ownBlock] at hk;omega)
 have ho1:w1.ownsRow 0 136 4 v1 n (rowCells R):=by simpa using hown
 have hfr1:∀ g,v1.ownBlock=some g→wa.heap.size≤g:=fun g hg=>by
  rcases hfr with h | ⟨g',h,hg'⟩
  ·rw [h] at hg;simp [Value.ownBlock] at hg;omega
  ·rw [h] at hg;simp at hg hg';omega
 obtain ⟨A1,c1,hv,_⟩:=own_len ho1
 subst hv
 have HO1:=hide ho1
 have HT1:=hide T1
 have HF1:=hide hfr1
 have HA1:=hide (HAB.out.touch T1 (fun f=>f))
 have HB1:=hide (HBB.out.touch T1 (fun f=>f))
 have HS1:=hide (HSB.out.touch T1 (fun f=>f))
 have HR1:=hide (HRB.out.touch T1 (fun f=>f))
 have HBD:Hid (n+1≤maxLen∧(n+1)*32≤140737488355328):=hide (by unfold maxLen;omega)
 clear hown hgrow hfr T1 ho1 hfr1 a0 a1 a2 b0 b1 b2 s0 s1 s2 r0 r1 r2
 obtain ⟨a0,a1,a2⟩:=HA1.out.facts
 obtain ⟨s0,s1,s2⟩:=HS1.out.facts
 obtain ⟨r0,r1,r2⟩:=HR1.out.facts
 have hx3:¬ ba=bs:=HLO.out.2.2.2.2.1
 have hx4:¬ bs=ba:=fun e=>hx3 e.symm
 have hx5:¬ ba=ra:=by have h0:=H0.out;have h3:=H3.out;omega
 have hx6:¬ ra=ba:=fun e=>hx5 e.symm
 go_upto_region 5 with fail
 have HKS:Hid (∀ wx,Touch (fun k=>(Value.slice A1 n c1).ownBlock=some k∨k=bs∨k=ra) w1 wx→wx.cell? ⟨ba,0,none⟩=some (.slice tA tn tc)∧wx.cell? ⟨ba,1,none⟩=some (.slice A n c)∧Touch (fun k=>(Value.slice A1 n c1).ownBlock=some k∨k=bs∨k=ra) w1 wx):=hide (fun wx T=>by
  have hb:=HA1.out.touch T (fun e=>by
   rcases e with e | e | e
   ·exact own_blk_ne HO1.out HA1.out (by decide) e
   ·exact hx3 e
   ·exact hx5 e)
  exact ⟨(hb.cell 0).trans rfl,(hb.cell 1).trans rfl,T⟩)
 have HOR:Hid (¬ (Value.slice A1 n c1).ownBlock=some ra):=hide (own_blk_ne HO1.out HR1.out (by decide))
 have HW1:Hid (wa.heap.size≤w1.heap.size):=hide HT1.out.size
 have u1:IntKind.i64.wrap ((n:Int)+1)=(n:Int)+1:=IntWalk.i64_in _ (by omega)
 have u2:IntKind.u64.wrap ((n:Int)+1)=(n:Int)+1:=IntWalk.u64_in _ (by omega)
 refine wp_region_held_drew (S:=fun wx=>wx.cell? ⟨ba,0,none⟩=some (.slice tA tn tc)∧wx.cell? ⟨ba,1,none⟩=some (.slice A n c)∧Touch (fun k=>(Value.slice A1 n c1).ownBlock=some k∨k=bs∨k=ra) w1 wx) (by kernel_rfl) (HKS.out _ (Touch.refl _ _).drew) (fun hHeld=>?_)
 refine wpAnyH_take (i:=0) (v:=?v0) rfl (by kernel_rfl) (by kernel_rfl) (by kernel_rfl) (fun _ _ _ h=>h) (Or.inl ⟨by kernel_rfl,?h0⟩) hHeld ?_
 case h0=>rintro wq ⟨s0,s1,s2⟩;go_simp;with_reducible rfl
 simp only [List.getElem_toArray,List.getElem_cons_succ,List.getElem_cons_zero,Act.put,List.setIfInBounds_toArray,List.set_cons_zero,List.set_cons_succ]
 refine wpAnyH_take (i:=1) (v:=?v1) rfl (by kernel_rfl) (by kernel_rfl) (by kernel_rfl) (fun _ _ _ h=>h) (Or.inl ⟨by kernel_rfl,?h1⟩) hHeld ?_
 case h1=>rintro wq ⟨s0,s1,s2⟩;go_simp;with_reducible rfl
 simp only [List.getElem_toArray,List.getElem_cons_succ,List.getElem_cons_zero,Act.put,List.setIfInBounds_toArray,List.set_cons_zero,List.set_cons_succ]
 refine wpAnyH_take (i:=2) (v:=?v2) rfl (by kernel_rfl) (by kernel_rfl) (by kernel_rfl) (fun _ _ _ h=>h) (Or.inl ⟨by kernel_rfl,?h2⟩) hHeld ?_
 case h2=>rintro wq ⟨s0,s1,s2⟩;go_simp;with_reducible rfl
 simp only [List.getElem_toArray,List.getElem_cons_succ,List.getElem_cons_zero,Act.put,List.setIfInBounds_toArray,List.set_cons_zero,List.set_cons_succ]
 refine wpAnyH_take (i:=3) (v:=?v3) rfl (by kernel_rfl) (by kernel_rfl) (by kernel_rfl) (fun _ _ _ h=>h) (Or.inl ⟨by kernel_rfl,?h3⟩) hHeld ?_
 case h3=>rintro wq ⟨s0,s1,s2⟩;go_simp;with_reducible rfl
 simp only [List.getElem_toArray,List.getElem_cons_succ,List.getElem_cons_zero,Act.put,List.setIfInBounds_toArray,List.set_cons_zero,List.set_cons_succ]
 refine wpAnyH_take (i:=7) (v:=?v7) rfl (by kernel_rfl) (by kernel_rfl) (by kernel_rfl) (fun _ _ _ h=>h) (Or.inl ⟨by kernel_rfl,?h7⟩) hHeld ?_
 case h7=>rintro wq ⟨s0,s1,s2⟩;go_simp;with_reducible rfl
 simp only [List.getElem_toArray,List.getElem_cons_succ,List.getElem_cons_zero,Act.put,List.setIfInBounds_toArray,List.set_cons_zero,List.set_cons_succ]
 refine wpAnyH_take (i:=8) (v:=?v8) rfl (by kernel_rfl) (by kernel_rfl) (by kernel_rfl) (fun _ _ _ h=>h) (Or.inl ⟨by kernel_rfl,?h8⟩) hHeld ?_
 case h8=>rintro wq ⟨s0,s1,s2⟩;go_simp;with_reducible rfl
 simp only [List.getElem_toArray,List.getElem_cons_succ,List.getElem_cons_zero,Act.put,List.setIfInBounds_toArray,List.set_cons_zero,List.set_cons_succ]
 refine wpAnyH_take (i:=9) (v:=?v9) rfl (by kernel_rfl) (by kernel_rfl) (by kernel_rfl) (fun _ _ _ h=>h) (Or.inl ⟨by kernel_rfl,?h9⟩) hHeld ?_
 case h9=>rintro wq ⟨s0,s1,s2⟩;go_simp;with_reducible rfl
 simp only [List.getElem_toArray,List.getElem_cons_succ,List.getElem_cons_zero,Act.put,List.setIfInBounds_toArray,List.set_cons_zero,List.set_cons_succ]
 refine wpAnyH_take (i:=10) (v:=?v10) rfl (by kernel_rfl) (by kernel_rfl) (by kernel_rfl) (fun _ _ _ h=>h) (Or.inl ⟨by kernel_rfl,?h10⟩) hHeld ?_
 case h10=>rintro wq ⟨s0,s1,s2⟩;go_simp;with_reducible rfl
 simp only [List.getElem_toArray,List.getElem_cons_succ,List.getElem_cons_zero,Act.put,List.setIfInBounds_toArray,List.set_cons_zero,List.set_cons_succ]
 refine wpAnyH_take (i:=11) (v:=?v11) rfl (by kernel_rfl) (by kernel_rfl) (by kernel_rfl) (fun _ _ _ h=>h) (Or.inl ⟨by kernel_rfl,?h11⟩) hHeld ?_
 case h11=>rintro wq ⟨s0,s1,s2⟩;go_simp;with_reducible rfl
 simp only [List.getElem_toArray,List.getElem_cons_succ,List.getElem_cons_zero,Act.put,List.setIfInBounds_toArray,List.set_cons_zero,List.set_cons_succ]
 refine wpAnyH_take (i:=12) (v:=?v12) rfl (by kernel_rfl) (by kernel_rfl) (by kernel_rfl) (fun _ _ _ h=>h) (Or.inl ⟨by kernel_rfl,?h12⟩) hHeld ?_
 case h12=>rintro wq ⟨s0,s1,s2⟩;go_simp;with_reducible rfl
 simp only [List.getElem_toArray,List.getElem_cons_succ,List.getElem_cons_zero,Act.put,List.setIfInBounds_toArray,List.set_cons_zero,List.set_cons_succ]
 refine wpAnyH_ready (rs:=[4]) (by kernel_rfl) (by simp) ?_
 refine AllReadyH.cons rfl (fun K hK=>?_) AllReadyH.nil
 go_simp
 go_simp
 refine hK.out _ _ (HKS.out _ ((Touch.refl _ _).drew.alloc _)) (fun hHeld=>?_)
 clear hK K
 try simp only [List.getElem_toArray,List.getElem_cons_succ,List.getElem_cons_zero,Act.put,List.setIfInBounds_toArray,List.set_cons_zero,List.set_cons_succ]
 have hTq:Touch (fun _=>False) w1 (w1.drew.alloc (.cells #[.int .u64 0,.int .i64 0,.int .u64 0,.int .i64 0] 136)):=(Touch.refl _ _).drew.alloc _
 obtain ⟨v2,w2,hr2,hO2,hG2,hF2,_⟩:=run_app (P:=Tryz.prog) (w1.drew.alloc (.cells #[.int .u64 0,.int .i64 0,.int .u64 0,.int .i64 0] 136)) 54 54 136 i0 _ 4 32 Tryz.underlying54 hi hz0 hz1 hz2 rfl (by decide) (.slice A1 n c1) n (rowCells R) (own_touch HO1.out hTq (fun _ _ f=>f)) (some ⟨w1.heap.size,0,none⟩) 1 1 [.int .u64 0,.int .i64 0,.int .u64 0,.int .i64 0] (Reads.new w1.drew 136 [.int .u64 0,.int .i64 0,.int .u64 0,.int .i64 0] 1 rfl) (fun h=>by cases h) (List.all_eq_true.1 rfl) HBD.out.1 HBD.out.2
 obtain ⟨A2,c2,hv2,_,_⟩:=own_len hO2
 subst hv2
 have hT2:Touch (fun k=>(Value.slice A1 n c1).ownBlock=some k) w1 w2:=(hTq.up _).grown hG2 (fun k hk _=>hk)
 have HR2:=hide hr2
 have HO2:=hide hO2
 have HT2:Hid (Touch (fun k=>(Value.slice A1 n c1).ownBlock=some k∨k=bs∨k=ra) w1 w2):=hide (hT2.mono (fun _ _ e=>.inl e))
 have HTF:Hid (Touch (fun _=>False) wa w2):=hide (HT1.out.trans hT2 (fun i hi e=>absurd hi (by have:=HF1.out i e;omega)))
 have HS2:=hide (HS1.out.touch hT2 (own_blk_ne HO1.out HS1.out (by decide)))
 have HRR2:=hide (HR1.out.touch hT2 HOR.out)
 clear hr2 hO2 hG2 hF2 hT2 hTq s0 s1 s2 r0 r1 r2
 obtain ⟨s0,s1,s2⟩:=HS2.out.facts
 obtain ⟨r0,r1,r2⟩:=HRR2.out.facts
 refine wpAnyH_ready (rs:=[5]) (by kernel_rfl) (by simp) ?_
 refine AllReadyH.cons rfl (fun K hK=>?_) AllReadyH.nil
 refine wp_app_runU (.tmp 28) (.tmp 30) 54 rfl (.slice A1 n c1) (.slice (some ⟨w1.heap.size,0,none⟩) 1 1) _ w2 (by first | (simp [Act.eval];done) | (go_simp;done) | (trace_state;fail)) (by first | (simp [Act.eval];done) | (go_simp;done) | (trace_state;fail)) HR2.out ?_
 refine hK.out _ _ (HKS.out _ HT2.out) (fun hHeld=>?_)
 clear hK K
 try simp only [List.getElem_toArray,List.getElem_cons_succ,List.getElem_cons_zero,Act.put,List.setIfInBounds_toArray,List.set_cons_zero,List.set_cons_succ]
 refine wpAnyH_take (i:=6) (v:=?v6) rfl (by kernel_rfl) (by kernel_rfl) (by kernel_rfl) (fun _ _ _ h=>h) (Or.inl ⟨by kernel_rfl,?h6⟩) hHeld ?_
 case h6=>rintro wq ⟨s0,s1,s2⟩;go_simp;with_reducible rfl
 simp only [List.getElem_toArray,List.getElem_cons_succ,List.getElem_cons_zero,Act.put,List.setIfInBounds_toArray,List.set_cons_zero,List.set_cons_succ]
 refine wpAnyH_ready (rs:=[13]) (by kernel_rfl) (by simp) ?_
 refine AllReadyH.cons rfl (fun K hK=>?_) AllReadyH.nil
 go_simp
 go_simp
 refine hK.out _ _ (HKS.out _ ((HT2.out.setCell (p:=⟨bs,_,none⟩) (fun _=>.inr (.inl rfl)) _).setCell (p:=⟨bs,_,none⟩) (fun _=>.inr (.inl rfl)) _)) (fun hHeld=>?_)
 clear hK K
 try simp only [List.getElem_toArray,List.getElem_cons_succ,List.getElem_cons_zero,Act.put,List.setIfInBounds_toArray,List.set_cons_zero,List.set_cons_succ]
 refine wpAnyH_ready (rs:=[14]) (by kernel_rfl) (by simp) ?_
 refine AllReadyH.cons rfl (fun K hK=>?_) AllReadyH.nil
 go_simp
 go_simp
 refine hK.out _ _ (HKS.out _ (((((HT2.out.setCell (p:=⟨bs,_,none⟩) (fun _=>.inr (.inl rfl)) _).setCell (p:=⟨bs,_,none⟩) (fun _=>.inr (.inl rfl)) _).setCell (p:=⟨ra,_,none⟩) (fun _=>.inr (.inr rfl)) _).setCell (p:=⟨ra,_,none⟩) (fun _=>.inr (.inr rfl)) _).setCell (p:=⟨ra,_,none⟩) (fun _=>.inr (.inr rfl)) _)) (fun hHeld=>?_)
 clear hK K
 try simp only [List.getElem_toArray,List.getElem_cons_succ,List.getElem_cons_zero,Act.put,List.setIfInBounds_toArray,List.set_cons_zero,List.set_cons_succ]
 refine wpAnyH_done (by kernel_rfl) ?_ _
 go_wp2_with fail
 try simp only [Exit.inBlock,Exit.then]
 refine bodyPost_ret (v:=.tuple #[.agg #[.slice tA tn tc,.slice A2 (n+1) c2],ansV ⟨0,0,(n:Int)+1,0⟩]) (results_cells rfl _ _ bs ra 56 32 _ _ _ _ rfl ?hsb Tryz.underlying56 rfl (by kernel_rfl) rfl ?hrb Tryz.underlying32 rfl (by kernel_rfl)) rfl ?_
 case hsb=>first | exact (far3 (two_cells _ _ _ _ HS2.out) HLO.out.2.2.2.2.2.2) | exact (far3 (two_cells _ _ _ _ HS2.out) HLO.out.2.2.2.2.2.2).drew
 case hrb=>first | exact (ans_cells _ _ _ _ _ _ (far2 HRR2.out HLO.out.2.2.2.2.2.2.symm)) | exact (ans_cells _ _ _ _ _ _ (far2 HRR2.out HLO.out.2.2.2.2.2.2.symm)).drew
 have TF:Touch (fun g=>g=bs∨g=ra) w2 (((((w2.setCell ⟨bs,0,none⟩ (.slice tA tn tc)).setCell ⟨bs,1,none⟩ (.slice A2 (n+1) c2)).setCell ⟨ra,0,none⟩ (.int .i64 0)).setCell ⟨ra,1,none⟩ (.int .u64 ((n:Int)+1))).setCell ⟨ra,2,none⟩ (.int .i64 0)):=(((((Touch.refl (fun g=>g=bs∨g=ra) w2).setCell (p:=⟨bs,_,none⟩) (fun _=>.inl rfl) _).setCell (p:=⟨bs,_,none⟩) (fun _=>.inl rfl) _).setCell (p:=⟨ra,_,none⟩) (fun _=>.inr rfl) _).setCell (p:=⟨ra,_,none⟩) (fun _=>.inr rfl) _).setCell (p:=⟨ra,_,none⟩) (fun _=>.inr rfl) _
 have hl9:=HLO.out
 have hO3:w2.ownsRow 0 136 4 (.slice A2 (n+1) c2) (n+1) (rowCells (R++[SRow.zero])):=by rw [rowCells_snoc];exact HO2.out
 refine ⟨A2,n+1,c2,rfl,⟨own_touch hO3 TF (fun g hg e=>?_),by rw [List.length_append,HN0.out];rfl,by omega⟩,(HTA.out.then HTF.out).trans TF (fun i hi e=>?_)⟩
 ·rcases e with rfl | rfl
  ·exact own_blk_ne hO3 HS2.out (by decide) hg
  ·exact own_blk_ne hO3 HRR2.out (by decide) hg
 ·rcases e with rfl | rfl<;>omega
end Go.Proofs.YthockgmbooefpaaGreatDoor
namespace Go.Proofs.YthockgmbooefpaaGreatDoor
open Go.RowKit
theorem rdo_new3 (w:World) (B0:Nat) {tA:Option Addr} {tn tc:Nat} {tL L:List PRow} (hs:RfL B0 w ⟨tA,tn,tc,tL⟩ L) (hD:DictP L) {A:Option Addr} {n c:Nat} {R:List SRow} (hr:RwL w A n c R) (sid sq nn:Int) (kw:ByteArray) (hk:kw.size≤1099511627776) (hB0:B0≤w.heap.size) (k:Nat) (hsk:sid=(k:Int)+1) (hkn:k<n) (rs rc rr rh:Int) (hrow:R.getD k SRow.zero=⟨rs,rc,rr,rh⟩) (h1:¬ sq=0) (h2:¬ sq<rs) (h3:¬ sq=rs) :
  Calls Tryz.prog 62 #[.agg #[.slice tA tn tc,.slice A n c],.agg #[.int .i64 3,.int .u64 sid,.int .u64 sq,.string kw,.int .i64 nn]] w fun e w'=>∃ (s':SL) (A':Option Addr) (n' c':Nat),e=.returned (.tuple #[.agg #[s'.val,.slice A' n' c'],ansV ⟨0,(remE L kw.toList),0,(remH L kw)⟩])∧RfL B0 w' s' (remL L kw)∧RwL w' A' n' c' (R.set k ⟨sq,(remE L kw.toList),0,(remH L kw)⟩)∧Touch (fun _=>False) w w':=by
 have HSK:=hide hsk
 have HROW:=hide hrow
 clear hsk hrow
 have HB0':=hide hB0
 clear hB0
 have HRM:=hide (fun (wx:World) (hr:RfL B0 wx ⟨tA,tn,tc,tL⟩ L)=>rremove_any wx B0 ⟨tA,tn,tc,tL⟩ hr hD kw hk)
 simp only [SL.val] at HRM
 obtain ⟨hh,hhh⟩:∃ x,x=remH L kw:=⟨_,rfl⟩
 obtain ⟨ee,hee⟩:∃ x,x=remE L kw.toList:=⟨_,rfl⟩
 obtain ⟨L2,hL2⟩:∃ x,x=remL L kw:=⟨_,rfl⟩
 simp only [← hhh,← hee,← hL2] at HRM
 rw [← hhh,← hee,← hL2]
 clear hhh hee hL2
 obtain ⟨wa,hwa⟩:∃ z,z=(((w.alloc (.cells #[.slice tA tn tc,.slice A n c] 56)).alloc (.cells #[.int .i64 3,.int .u64 sid,.int .u64 sq,.string kw,.int .i64 nn] 29)).alloc (.cells #[.slice none 0 0,.slice none 0 0] 56)).alloc (.cells #[.int .i64 0,.int .u64 0,.int .i64 0] 32):=⟨_,rfl⟩
 obtain ⟨ba,hba⟩:∃ z,z=w.heap.size:=⟨_,rfl⟩
 obtain ⟨bb,hbb⟩:∃ z,z=w.heap.size+1:=⟨_,rfl⟩
 obtain ⟨bs,hbs⟩:∃ z,z=w.heap.size+1+1:=⟨_,rfl⟩
 obtain ⟨ra,hra⟩:∃ z,z=w.heap.size+1+1+1:=⟨_,rfl⟩
 have hTa:Touch (fun _=>False) w wa:=by rw [hwa];exact ((((Touch.refl _ _).alloc _).alloc _).alloc _).alloc _
 have haB:Blk wa ba 56 #[.slice tA tn tc,.slice A n c]:=by rw [hwa,hba];exact (((Blk.new _ _ _).alloc _).alloc _).alloc _
 have hbB:Blk wa bb 29 #[.int .i64 3,.int .u64 sid,.int .u64 sq,.string kw,.int .i64 nn]:=by
  have h1:=(((Blk.new (w.alloc (.cells #[.slice tA tn tc,.slice A n c] 56)) 29 #[.int .i64 3,.int .u64 sid,.int .u64 sq,.string kw,.int .i64 nn]).alloc (.cells #[.slice none 0 0,.slice none 0 0] 56)).alloc (.cells #[.int .i64 0,.int .u64 0,.int .i64 0] 32))
  rw [hwa,hbb];simpa using h1
 have hsB:Blk wa bs 56 #[.slice none 0 0,.slice none 0 0]:=by
  have h1:=(Blk.new ((w.alloc (.cells #[.slice tA tn tc,.slice A n c] 56)).alloc (.cells #[.int .i64 3,.int .u64 sid,.int .u64 sq,.string kw,.int .i64 nn] 29)) 56 #[.slice none 0 0,.slice none 0 0]).alloc (.cells #[.int .i64 0,.int .u64 0,.int .i64 0] 32)
  rw [hwa,hbs];simpa using h1
 have hrB:Blk wa ra 32 #[.int .i64 0,.int .u64 0,.int .i64 0]:=by
  have h1:=Blk.new (((w.alloc (.cells #[.slice tA tn tc,.slice A n c] 56)).alloc (.cells #[.int .i64 3,.int .u64 sid,.int .u64 sq,.string kw,.int .i64 nn] 29)).alloc (.cells #[.slice none 0 0,.slice none 0 0] 56)) 32 #[.int .i64 0,.int .u64 0,.int .i64 0]
  rw [hwa,hra];simpa using h1
 have HLO:Hid (w.heap.size≤ba∧w.heap.size≤bb∧w.heap.size≤bs∧w.heap.size≤ra∧ba≠bs∧bb≠bs∧bs≠ra):=hide (by omega)
 have HTA:=hide hTa
 have HAB:=hide haB
 have HBB:=hide hbB
 have HSB:=hide hsB
 have HRB:=hide hrB
 have HWA:=hide hwa
 have H0:=hide hba
 have H1:=hide hbb
 have H2:=hide hbs
 have H3:=hide hra
 have HS:=hide (hs.quiet hTa)
 have HR:=hide (hr.quiet hTa)
 have HD:=hide hD
 have HN0:=hide hr.len
 have hn:=hr.few
 have hx1:¬ bs=ra:=by omega
 have hx2:¬ ra=bs:=by omega
 obtain ⟨a0,a1,a2⟩:=haB.facts
 obtain ⟨b0,b1,b2⟩:=hbB.facts
 obtain ⟨s0,s1,s2⟩:=hsB.facts
 obtain ⟨r0,r1,r2⟩:=hrB.facts
 clear hwa hba hbb hbs hra hTa haB hbB hsB hrB hs hr hD
 go_enter Tryz.func62,Tryz.ntmps62
 go_upto_region 1 with fail
 rw [← HWA.out,← H3.out,← H2.out,← H1.out,← H0.out]
 have hsk:=HSK.out
 subst hsk
 clear HSK
 obtain ⟨gR,rfl,hgR,hnc,c0,c1,c2,c3⟩:=rw_at HR.out k hkn
 rw [HROW.out] at c0 c1 c2 c3
 simp only at c0 c1 c2 c3
 have HNIL:=hide (own_nilOk HR.out.own)
 have HRD:=hide (Reads.of_own HR.out.own)
 have HKN:=hide hkn
 have HNC:=hide hnc
 clear hgR hnc
 obtain ⟨i0,hi,hz0,hz1,hz2⟩:=info_parts Tryz.infoRRow
 go_upto_region 15 with fail
 obtain ⟨wb,hwb⟩:∃ y,y=wa.alloc (.cells #[.int .u64 rs,.int .i64 rc,.int .u64 rr,.int .i64 rh] 136):=⟨_,rfl⟩
 have HWB:=hide hwb
 have hTb:Touch (fun _=>False) wa wb:=by rw [hwb];exact (Touch.refl _ _).alloc _
 rw [← hwb]
 have HTB:=hide hTb
 have HAB':=hide (HAB.out.touch hTb (fun f=>f))
 have HBB':=hide (HBB.out.touch hTb (fun f=>f))
 clear hwb hTb a0 a1 a2 b0 b1 b2 s0 s1 s2 r0 r1 r2 c0 c1 c2 c3
 obtain ⟨a0,a1,a2⟩:=HAB'.out.facts
 obtain ⟨b0,b1,b2⟩:=HBB'.out.facts
 go_wp2_with fail
 refine (HRM.out _ (HS.out.quiet HTB.out)).mono ?_
 rintro e w1 ⟨⟨mA,mn,mc,mL⟩,rfl,hm1,T1⟩
 have HM1:=hide hm1
 have HT1:=hide (HTB.out.then T1)
 have HA1:=hide (HAB'.out.touch T1 (fun f=>f))
 have HB1:=hide (HBB'.out.touch T1 (fun f=>f))
 clear hm1 T1 a0 a1 a2 b0 b1 b2 HRM
 obtain ⟨a0,a1,a2⟩:=HA1.out.facts
 obtain ⟨b0,b1,b2⟩:=HB1.out.facts
 simp only [SL.val]
 go_upto_region 19 with fail
 obtain ⟨wc,hwc⟩:∃ y,y=w1.alloc (.cells #[.int .i64 ee,.int .u64 0,.int .i64 hh] 32):=⟨_,rfl⟩
 obtain ⟨ga,hga⟩:∃ y,y=w1.heap.size:=⟨_,rfl⟩
 have hTc:Touch (fun _=>False) wa wc:=by rw [hwc];exact HT1.out.alloc _
 have HGA:Hid (Blk wc ga 32 #[.int .i64 ee,.int .u64 0,.int .i64 hh]):=hide (by rw [hwc,hga];exact Blk.new _ _ _)
 have HGL:Hid (wa.heap.size≤ga):=hide (by rw [hga];exact HT1.out.size)
 have HMC:Hid (RfL B0 wc ⟨mA,mn,mc,mL⟩ L2):=hide (by rw [hwc];exact HM1.out.quiet ((Touch.refl _ _).alloc _))
 have HAC:Hid (Blk wc ba 56 #[.slice tA tn tc,.slice (some ⟨gR,0,none⟩) n c]):=hide (by rw [hwc];exact HA1.out.alloc _)
 have HBC:Hid (Blk wc bb 29 #[.int .i64 3,.int .u64 ((k:Int)+1),.int .u64 sq,.string kw,.int .i64 nn]):=hide (by rw [hwc];exact HB1.out.alloc _)
 have HTC:=hide hTc
 rw [← hwc,← hga]
 clear hwc hga hTc a0 a1 a2 b0 b1 b2 HM1 HT1 HA1 HB1
 obtain ⟨a0,a1,a2⟩:=HAC.out.facts
 go_wp2_with (at_builtin;refine wpList_app _ rfl (.tmp 116) (.tmp 118) 54 rfl 136 i0 (.agg #[.int .u64 0,.int .i64 0,.int .u64 0,.int .i64 0]) 4 32 Tryz.underlying54 hi hz0 hz1 hz2 rfl (by decide) _ 0 [] rfl (World.ownsRow_made _ #[] 0 (Nat.zero_le _) (by decide) rfl) (some ⟨gR,0,none⟩) n c (rowCells R) rfl ((HRD.out.touch HTC.out (fun _ _ f=>f)).alloc _) ?c2 (srow_one R) ?c4 ?c5 ?_)
 case c2=>exact HNIL.out
 case c4=>unfold maxLen;omega
 case c5=>omega
 intro v1 w2 hown hgrow hfr _
 have T2:Touch (fun _=>False) wc w2:=((Touch.refl _ _).alloc _).grown hgrow (fun k hk hlt=>by simp [Value.ownBlock] at hk;omega)
 have ho2:w2.ownsRow 0 136 4 v1 n (rowCells R):=by simpa using hown
 obtain ⟨gN,cN,hv,hle,hmx,hgN,hcN,hfN⟩:=own_form ho2 (by have:=HKN.out;omega)
 subst hv
 have hgy:wc.heap.size≤gN:=by
  rcases hfr with h | ⟨g',h,hg'⟩
  ·simp [Value.ownBlock] at h;omega
  ·simp [Value.ownBlock] at h hg';omega
 have f0:=hfN (k*4)
 have f1:=hfN (k*4+1)
 have f2:=hfN (k*4+2)
 have f3:=hfN (k*4+3)
 have hkn4:k*4+3<(rowCells R).length:=by rw [rowCells_len,HN0.out];have:=HKN.out;omega
 have e0:=hcN (k*4) _ (List.getElem?_eq_getElem (by omega))
 have e1:=hcN (k*4+1) _ (List.getElem?_eq_getElem (by omega))
 have e2:=hcN (k*4+2) _ (List.getElem?_eq_getElem (by omega))
 have e3:=hcN (k*4+3) _ (List.getElem?_eq_getElem (by omega))
 have HO2:=hide ho2
 have HGY:=hide hgy
 have HT2:=hide T2
 have HCN:Hid (n≤cN):=hide (by omega)
 have hkI:(k:Int)<(n:Int):=by have:=HKN.out;omega
 have HB2:=hide (HBC.out.touch T2 (fun f=>f))
 have HG2:=hide (HGA.out.touch T2 (fun f=>f))
 clear hown hgrow hfr T2 ho2 hle hmx hgN hcN hfN hgy a0 a1 a2
 obtain ⟨b0,b1,b2⟩:=HB2.out.facts
 obtain ⟨g0,g1,g2⟩:=HG2.out.facts
 go_upto_region 21 with fail
 obtain ⟨w3,hw3⟩:∃ y,y=(((w2.setCell ⟨gN,k*4,none⟩ (.int .u64 sq)).setCell ⟨gN,k*4+1,none⟩ (.int .i64 ee)).setCell ⟨gN,k*4+2,none⟩ (.int .u64 0)).setCell ⟨gN,k*4+3,none⟩ (.int .i64 hh):=⟨_,rfl⟩
 have T3:Touch (fun g=>g=gN) w2 w3:=by rw [hw3];exact ((((Touch.refl (fun g=>g=gN) w2).setCell (p:=⟨gN,_,none⟩) (fun _=>rfl) _).setCell (p:=⟨gN,_,none⟩) (fun _=>rfl) _).setCell (p:=⟨gN,_,none⟩) (fun _=>rfl) _).setCell (p:=⟨gN,_,none⟩) (fun _=>rfl) _
 have hO3:w3.ownsRow 0 136 4 (.slice (some ⟨gN,0,none⟩) n cN) n (rowCells (R.set k ⟨sq,ee,0,hh⟩)):=by
  rw [hw3,← rowCells_set R k (by rw [HN0.out];exact HKN.out) ⟨sq,ee,0,hh⟩]
  exact own_set (own_set (own_set (own_set HO2.out _ _) _ _) _ _) _ _
 have hgty:TyAt w2 gN 136 := own_ty HO2.out rfl
 have HS2:=hide ((HSB.out.touch HTC.out (fun f=>f)).touch HT2.out (fun f=>f))
 have HR2:=hide ((HRB.out.touch HTC.out (fun f=>f)).touch HT2.out (fun f=>f))
 have HS3:=hide (HS2.out.touch T3 (fun e=>(blk_ty HS2.out).ne hgty (by decide) e))
 have HR3:=hide (HR2.out.touch T3 (fun e=>(blk_ty HR2.out).ne hgty (by decide) e))
 have HG3:=hide (HG2.out.touch T3 (fun e=>(blk_ty HG2.out).ne hgty (by decide) e))
 have hsz1:w.heap.size≤wc.heap.size:=Nat.le_trans HTA.out.size HTC.out.size
 have HGW:Hid (w.heap.size≤gN∧B0≤gN):=hide (by have:=HGY.out;have:=HB0'.out;omega)
 have HM3:Hid (RfL B0 w3 ⟨mA,mn,mc,mL⟩ L2):=hide ((HMC.out.quiet HT2.out).touch T3 (fun g hg e=>by have:=HGW.out;omega) (fun g hg e=>hg.ne hgty (by decide) e))
 have HT3:Hid (Touch (fun _=>False) w w3):=hide ((HTA.out.then (HTC.out.then HT2.out)).trans T3 (fun i hi e=>by have:=HGW.out;omega))
 have HO3:=hide hO3
 rw [← hw3]
 clear hw3 T3 hO3 hgty hsz1 b0 b1 b2 g0 g1 g2 f0 f1 f2 f3 e0 e1 e2 e3
 obtain ⟨g0,g1,g2⟩:=HG3.out.facts
 obtain ⟨s0,s1,s2⟩:=HS3.out.facts
 obtain ⟨r0,r1,r2⟩:=HR3.out.facts
 have hbr:¬ bs=ra:=HLO.out.2.2.2.2.2.2
 have hrb:¬ ra=bs:=fun e=>hbr e.symm
 have hga:¬ ga=bs:=fun e=>(blk_ty HG3.out).ne (blk_ty HS3.out) (by decide) e
 have hga2:¬ ga=ra:=fun e=>by have h1:=HGL.out;have h2:=HRB.out.lt;omega
 go_region
 go_wp2_with fail
 try simp only [Exit.inBlock,Exit.then]
 refine bodyPost_ret (v:=.tuple #[.agg #[.slice mA mn mc,.slice (some ⟨gN,0,none⟩) n cN],ansV ⟨0,ee,0,hh⟩]) (results_cells rfl _ _ bs ra 56 32 _ _ _ _ rfl ?hsb Tryz.underlying56 rfl (by kernel_rfl) rfl ?hrb Tryz.underlying32 rfl (by kernel_rfl)) rfl ?_
 case hsb=>exact (far3 (two_cells _ _ _ _ HS3.out) hbr).drew
 case hrb=>exact (ans_cells _ _ _ _ _ _ (far2 HR3.out hrb)).drew
 have TF:Touch (fun g=>g=bs∨g=ra) w3 (((((w3.setCell ⟨bs,0,none⟩ (.slice mA mn mc)).setCell ⟨bs,1,none⟩ (.slice (some ⟨gN,0,none⟩) n cN)).setCell ⟨ra,0,none⟩ (.int .i64 ee)).setCell ⟨ra,1,none⟩ (.int .u64 0)).setCell ⟨ra,2,none⟩ (.int .i64 hh)).drew:=((((((Touch.refl (fun g=>g=bs∨g=ra) w3).setCell (p:=⟨bs,_,none⟩) (fun _=>.inl rfl) _).setCell (p:=⟨bs,_,none⟩) (fun _=>.inl rfl) _).setCell (p:=⟨ra,_,none⟩) (fun _=>.inr rfl) _).setCell (p:=⟨ra,_,none⟩) (fun _=>.inr rfl) _).setCell (p:=⟨ra,_,none⟩) (fun _=>.inr rfl) _).drew
 have hl9:=HLO.out
 have hb9:=HB0'.out
 refine ⟨⟨mA,mn,mc,mL⟩,_,_,_,rfl,HM3.out.touch TF (fun g hg e=>?_) (fun g hg e=>?_),⟨own_touch HO3.out TF (fun g hg e=>?_),by rw [List.length_set];exact HN0.out,HR.out.few⟩,HT3.out.trans TF (fun i hi e=>?_)⟩
 ·rcases e with rfl | rfl<;>omega
 ·rcases e with rfl | rfl
  ·exact hg.ne (blk_ty HS3.out) (by decide) rfl
  ·exact hg.ne (blk_ty HR3.out) (by decide) rfl
 ·rcases e with rfl | rfl
  ·exact own_blk_ne HO3.out HS3.out (by decide) hg
  ·exact own_blk_ne HO3.out HR3.out (by decide) hg
 ·rcases e with rfl | rfl<;>omega
theorem rdo_new2 (w:World) (B0:Nat) {tA:Option Addr} {tn tc:Nat} {tL L:List PRow} (hs:RfL B0 w ⟨tA,tn,tc,tL⟩ L) (hD:DictP L) {A:Option Addr} {n c:Nat} {R:List SRow} (hr:RwL w A n c R) (sid sq nn:Int) (kw:ByteArray) (hk:kw.size≤1099511627776) (hB0:B0≤w.heap.size) (k:Nat) (hsk:sid=(k:Int)+1) (hkn:k<n) (rs rc rr rh:Int) (hrow:R.getD k SRow.zero=⟨rs,rc,rr,rh⟩) (h1:¬ sq=0) (h2:¬ sq<rs) (h3:¬ sq=rs) :
  Calls Tryz.prog 62 #[.agg #[.slice tA tn tc,.slice A n c],.agg #[.int .i64 2,.int .u64 sid,.int .u64 sq,.string kw,.int .i64 nn]] w fun e w'=>∃ (s':SL) (A':Option Addr) (n' c':Nat),e=.returned (.tuple #[.agg #[s'.val,.slice A' n' c'],ansV ⟨0,(setE L kw.toList nn),0,(setH L kw nn)⟩])∧RfL B0 w' s' (setL L kw nn)∧RwL w' A' n' c' (R.set k ⟨sq,(setE L kw.toList nn),0,(setH L kw nn)⟩)∧Touch (fun _=>False) w w':=by
 have HSK:=hide hsk
 have HROW:=hide hrow
 clear hsk hrow
 have HB0':=hide hB0
 clear hB0
 have HRM:=hide (fun (wx:World) (hr:RfL B0 wx ⟨tA,tn,tc,tL⟩ L)=>rremove_any wx B0 ⟨tA,tn,tc,tL⟩ hr hD kw hk)
 have HST:=hide (fun (wx:World) (hr:RfL B0 wx ⟨tA,tn,tc,tL⟩ L)=>rset_any wx B0 ⟨tA,tn,tc,tL⟩ hr hD kw hk nn)
 simp only [SL.val] at HRM
 simp only [SL.val] at HST
 obtain ⟨hh,hhh⟩:∃ x,x=setH L kw nn:=⟨_,rfl⟩
 obtain ⟨ee,hee⟩:∃ x,x=setE L kw.toList nn:=⟨_,rfl⟩
 obtain ⟨L2,hL2⟩:∃ x,x=setL L kw nn:=⟨_,rfl⟩
 simp only [← hhh,← hee,← hL2] at HST
 rw [← hhh,← hee,← hL2]
 clear hhh hee hL2
 obtain ⟨wa,hwa⟩:∃ z,z=(((w.alloc (.cells #[.slice tA tn tc,.slice A n c] 56)).alloc (.cells #[.int .i64 2,.int .u64 sid,.int .u64 sq,.string kw,.int .i64 nn] 29)).alloc (.cells #[.slice none 0 0,.slice none 0 0] 56)).alloc (.cells #[.int .i64 0,.int .u64 0,.int .i64 0] 32):=⟨_,rfl⟩
 obtain ⟨ba,hba⟩:∃ z,z=w.heap.size:=⟨_,rfl⟩
 obtain ⟨bb,hbb⟩:∃ z,z=w.heap.size+1:=⟨_,rfl⟩
 obtain ⟨bs,hbs⟩:∃ z,z=w.heap.size+1+1:=⟨_,rfl⟩
 obtain ⟨ra,hra⟩:∃ z,z=w.heap.size+1+1+1:=⟨_,rfl⟩
 have hTa:Touch (fun _=>False) w wa:=by rw [hwa];exact ((((Touch.refl _ _).alloc _).alloc _).alloc _).alloc _
 have haB:Blk wa ba 56 #[.slice tA tn tc,.slice A n c]:=by rw [hwa,hba];exact (((Blk.new _ _ _).alloc _).alloc _).alloc _
 have hbB:Blk wa bb 29 #[.int .i64 2,.int .u64 sid,.int .u64 sq,.string kw,.int .i64 nn]:=by
  have h1:=(((Blk.new (w.alloc (.cells #[.slice tA tn tc,.slice A n c] 56)) 29 #[.int .i64 2,.int .u64 sid,.int .u64 sq,.string kw,.int .i64 nn]).alloc (.cells #[.slice none 0 0,.slice none 0 0] 56)).alloc (.cells #[.int .i64 0,.int .u64 0,.int .i64 0] 32))
  rw [hwa,hbb];simpa using h1
 have hsB:Blk wa bs 56 #[.slice none 0 0,.slice none 0 0]:=by
  have h1:=(Blk.new ((w.alloc (.cells #[.slice tA tn tc,.slice A n c] 56)).alloc (.cells #[.int .i64 2,.int .u64 sid,.int .u64 sq,.string kw,.int .i64 nn] 29)) 56 #[.slice none 0 0,.slice none 0 0]).alloc (.cells #[.int .i64 0,.int .u64 0,.int .i64 0] 32)
  rw [hwa,hbs];simpa using h1
 have hrB:Blk wa ra 32 #[.int .i64 0,.int .u64 0,.int .i64 0]:=by
  have h1:=Blk.new (((w.alloc (.cells #[.slice tA tn tc,.slice A n c] 56)).alloc (.cells #[.int .i64 2,.int .u64 sid,.int .u64 sq,.string kw,.int .i64 nn] 29)).alloc (.cells #[.slice none 0 0,.slice none 0 0] 56)) 32 #[.int .i64 0,.int .u64 0,.int .i64 0]
  rw [hwa,hra];simpa using h1
 have HLO:Hid (w.heap.size≤ba∧w.heap.size≤bb∧w.heap.size≤bs∧w.heap.size≤ra∧ba≠bs∧bb≠bs∧bs≠ra):=hide (by omega)
 have HTA:=hide hTa
 have HAB:=hide haB
 have HBB:=hide hbB
 have HSB:=hide hsB
 have HRB:=hide hrB
 have HWA:=hide hwa
 have H0:=hide hba
 have H1:=hide hbb
 have H2:=hide hbs
 have H3:=hide hra
 have HS:=hide (hs.quiet hTa)
 have HR:=hide (hr.quiet hTa)
 have HD:=hide hD
 have HN0:=hide hr.len
 have hn:=hr.few
 have hx1:¬ bs=ra:=by omega
 have hx2:¬ ra=bs:=by omega
 obtain ⟨a0,a1,a2⟩:=haB.facts
 obtain ⟨b0,b1,b2⟩:=hbB.facts
 obtain ⟨s0,s1,s2⟩:=hsB.facts
 obtain ⟨r0,r1,r2⟩:=hrB.facts
 clear hwa hba hbb hbs hra hTa haB hbB hsB hrB hs hr hD
 go_enter Tryz.func62,Tryz.ntmps62
 go_upto_region 1 with fail
 rw [← HWA.out,← H3.out,← H2.out,← H1.out,← H0.out]
 have hsk:=HSK.out
 subst hsk
 clear HSK
 obtain ⟨gR,rfl,hgR,hnc,c0,c1,c2,c3⟩:=rw_at HR.out k hkn
 rw [HROW.out] at c0 c1 c2 c3
 simp only at c0 c1 c2 c3
 have HNIL:=hide (own_nilOk HR.out.own)
 have HRD:=hide (Reads.of_own HR.out.own)
 have HKN:=hide hkn
 have HNC:=hide hnc
 clear hgR hnc
 obtain ⟨i0,hi,hz0,hz1,hz2⟩:=info_parts Tryz.infoRRow
 go_upto_region 15 with fail
 obtain ⟨wb,hwb⟩:∃ y,y=wa.alloc (.cells #[.int .u64 rs,.int .i64 rc,.int .u64 rr,.int .i64 rh] 136):=⟨_,rfl⟩
 have HWB:=hide hwb
 have hTb:Touch (fun _=>False) wa wb:=by rw [hwb];exact (Touch.refl _ _).alloc _
 rw [← hwb]
 have HTB:=hide hTb
 have HAB':=hide (HAB.out.touch hTb (fun f=>f))
 have HBB':=hide (HBB.out.touch hTb (fun f=>f))
 clear hwb hTb a0 a1 a2 b0 b1 b2 s0 s1 s2 r0 r1 r2 c0 c1 c2 c3
 obtain ⟨a0,a1,a2⟩:=HAB'.out.facts
 obtain ⟨b0,b1,b2⟩:=HBB'.out.facts
 go_wp2_with fail
 refine (HRM.out _ (HS.out.quiet HTB.out)).mono ?_
 rintro e w1 ⟨⟨mA,mn,mc,mL⟩,rfl,hm1,T1⟩
 have HM1:=hide hm1
 have HT1:=hide (HTB.out.then T1)
 have HA1:=hide (HAB'.out.touch T1 (fun f=>f))
 have HB1:=hide (HBB'.out.touch T1 (fun f=>f))
 clear hm1 T1 a0 a1 a2 b0 b1 b2 HRM
 obtain ⟨a0,a1,a2⟩:=HA1.out.facts
 obtain ⟨b0,b1,b2⟩:=HB1.out.facts
 simp only [SL.val]
 clear HM1
 go_wp2_with fail
 refine (HST.out _ (HS.out.quiet HT1.out)).mono ?_
 rintro e wq ⟨⟨nA,nn',nc,nL⟩,rfl,hm1,T1⟩
 have HM1:=hide hm1
 have HT1':=hide (HT1.out.then T1)
 have HA1':=hide (HA1.out.touch T1 (fun f=>f))
 have HB1':=hide (HB1.out.touch T1 (fun f=>f))
 clear hm1 T1 HT1 HA1 HB1 a0 a1 a2 b0 b1 b2 HST
 have HT1:=HT1'
 have HA1:=HA1'
 have HB1:=HB1'
 clear HT1' HA1' HB1'
 obtain ⟨a0,a1,a2⟩:=HA1.out.facts
 obtain ⟨b0,b1,b2⟩:=HB1.out.facts
 simp only [SL.val]
 go_upto_region 19 with fail
 obtain ⟨wc,hwc⟩:∃ y,y=wq.alloc (.cells #[.int .i64 ee,.int .u64 0,.int .i64 hh] 32):=⟨_,rfl⟩
 obtain ⟨ga,hga⟩:∃ y,y=wq.heap.size:=⟨_,rfl⟩
 have hTc:Touch (fun _=>False) wa wc:=by rw [hwc];exact HT1.out.alloc _
 have HGA:Hid (Blk wc ga 32 #[.int .i64 ee,.int .u64 0,.int .i64 hh]):=hide (by rw [hwc,hga];exact Blk.new _ _ _)
 have HGL:Hid (wa.heap.size≤ga):=hide (by rw [hga];exact HT1.out.size)
 have HMC:Hid (RfL B0 wc ⟨nA,nn',nc,nL⟩ L2):=hide (by rw [hwc];exact HM1.out.quiet ((Touch.refl _ _).alloc _))
 have HAC:Hid (Blk wc ba 56 #[.slice tA tn tc,.slice (some ⟨gR,0,none⟩) n c]):=hide (by rw [hwc];exact HA1.out.alloc _)
 have HBC:Hid (Blk wc bb 29 #[.int .i64 2,.int .u64 ((k:Int)+1),.int .u64 sq,.string kw,.int .i64 nn]):=hide (by rw [hwc];exact HB1.out.alloc _)
 have HTC:=hide hTc
 rw [← hwc,← hga]
 clear hwc hga hTc a0 a1 a2 b0 b1 b2 HM1 HT1 HA1 HB1
 obtain ⟨a0,a1,a2⟩:=HAC.out.facts
 go_wp2_with (at_builtin;refine wpList_app _ rfl (.tmp 116) (.tmp 118) 54 rfl 136 i0 (.agg #[.int .u64 0,.int .i64 0,.int .u64 0,.int .i64 0]) 4 32 Tryz.underlying54 hi hz0 hz1 hz2 rfl (by decide) _ 0 [] rfl (World.ownsRow_made _ #[] 0 (Nat.zero_le _) (by decide) rfl) (some ⟨gR,0,none⟩) n c (rowCells R) rfl ((HRD.out.touch HTC.out (fun _ _ f=>f)).alloc _) ?c2 (srow_one R) ?c4 ?c5 ?_)
 case c2=>exact HNIL.out
 case c4=>unfold maxLen;omega
 case c5=>omega
 intro v1 w2 hown hgrow hfr _
 have T2:Touch (fun _=>False) wc w2:=((Touch.refl _ _).alloc _).grown hgrow (fun k hk hlt=>by simp [Value.ownBlock] at hk;omega)
 have ho2:w2.ownsRow 0 136 4 v1 n (rowCells R):=by simpa using hown
 obtain ⟨gN,cN,hv,hle,hmx,hgN,hcN,hfN⟩:=own_form ho2 (by have:=HKN.out;omega)
 subst hv
 have hgy:wc.heap.size≤gN:=by
  rcases hfr with h | ⟨g',h,hg'⟩
  ·simp [Value.ownBlock] at h;omega
  ·simp [Value.ownBlock] at h hg';omega
 have f0:=hfN (k*4)
 have f1:=hfN (k*4+1)
 have f2:=hfN (k*4+2)
 have f3:=hfN (k*4+3)
 have hkn4:k*4+3<(rowCells R).length:=by rw [rowCells_len,HN0.out];have:=HKN.out;omega
 have e0:=hcN (k*4) _ (List.getElem?_eq_getElem (by omega))
 have e1:=hcN (k*4+1) _ (List.getElem?_eq_getElem (by omega))
 have e2:=hcN (k*4+2) _ (List.getElem?_eq_getElem (by omega))
 have e3:=hcN (k*4+3) _ (List.getElem?_eq_getElem (by omega))
 have HO2:=hide ho2
 have HGY:=hide hgy
 have HT2:=hide T2
 have HCN:Hid (n≤cN):=hide (by omega)
 have hkI:(k:Int)<(n:Int):=by have:=HKN.out;omega
 have HB2:=hide (HBC.out.touch T2 (fun f=>f))
 have HG2:=hide (HGA.out.touch T2 (fun f=>f))
 clear hown hgrow hfr T2 ho2 hle hmx hgN hcN hfN hgy a0 a1 a2
 obtain ⟨b0,b1,b2⟩:=HB2.out.facts
 obtain ⟨g0,g1,g2⟩:=HG2.out.facts
 go_upto_region 21 with fail
 obtain ⟨w3,hw3⟩:∃ y,y=(((w2.setCell ⟨gN,k*4,none⟩ (.int .u64 sq)).setCell ⟨gN,k*4+1,none⟩ (.int .i64 ee)).setCell ⟨gN,k*4+2,none⟩ (.int .u64 0)).setCell ⟨gN,k*4+3,none⟩ (.int .i64 hh):=⟨_,rfl⟩
 have T3:Touch (fun g=>g=gN) w2 w3:=by rw [hw3];exact ((((Touch.refl (fun g=>g=gN) w2).setCell (p:=⟨gN,_,none⟩) (fun _=>rfl) _).setCell (p:=⟨gN,_,none⟩) (fun _=>rfl) _).setCell (p:=⟨gN,_,none⟩) (fun _=>rfl) _).setCell (p:=⟨gN,_,none⟩) (fun _=>rfl) _
 have hO3:w3.ownsRow 0 136 4 (.slice (some ⟨gN,0,none⟩) n cN) n (rowCells (R.set k ⟨sq,ee,0,hh⟩)):=by
  rw [hw3,← rowCells_set R k (by rw [HN0.out];exact HKN.out) ⟨sq,ee,0,hh⟩]
  exact own_set (own_set (own_set (own_set HO2.out _ _) _ _) _ _) _ _
 have hgty:TyAt w2 gN 136 := own_ty HO2.out rfl
 have HS2:=hide ((HSB.out.touch HTC.out (fun f=>f)).touch HT2.out (fun f=>f))
 have HR2:=hide ((HRB.out.touch HTC.out (fun f=>f)).touch HT2.out (fun f=>f))
 have HS3:=hide (HS2.out.touch T3 (fun e=>(blk_ty HS2.out).ne hgty (by decide) e))
 have HR3:=hide (HR2.out.touch T3 (fun e=>(blk_ty HR2.out).ne hgty (by decide) e))
 have HG3:=hide (HG2.out.touch T3 (fun e=>(blk_ty HG2.out).ne hgty (by decide) e))
 have hsz1:w.heap.size≤wc.heap.size:=Nat.le_trans HTA.out.size HTC.out.size
 have HGW:Hid (w.heap.size≤gN∧B0≤gN):=hide (by have:=HGY.out;have:=HB0'.out;omega)
 have HM3:Hid (RfL B0 w3 ⟨nA,nn',nc,nL⟩ L2):=hide ((HMC.out.quiet HT2.out).touch T3 (fun g hg e=>by have:=HGW.out;omega) (fun g hg e=>hg.ne hgty (by decide) e))
 have HT3:Hid (Touch (fun _=>False) w w3):=hide ((HTA.out.then (HTC.out.then HT2.out)).trans T3 (fun i hi e=>by have:=HGW.out;omega))
 have HO3:=hide hO3
 rw [← hw3]
 clear hw3 T3 hO3 hgty hsz1 b0 b1 b2 g0 g1 g2 f0 f1 f2 f3 e0 e1 e2 e3
 obtain ⟨g0,g1,g2⟩:=HG3.out.facts
 obtain ⟨s0,s1,s2⟩:=HS3.out.facts
 obtain ⟨r0,r1,r2⟩:=HR3.out.facts
 have hbr:¬ bs=ra:=HLO.out.2.2.2.2.2.2
 have hrb:¬ ra=bs:=fun e=>hbr e.symm
 have hga:¬ ga=bs:=fun e=>(blk_ty HG3.out).ne (blk_ty HS3.out) (by decide) e
 have hga2:¬ ga=ra:=fun e=>by have h1:=HGL.out;have h2:=HRB.out.lt;omega
 go_region
 go_wp2_with fail
 try simp only [Exit.inBlock,Exit.then]
 refine bodyPost_ret (v:=.tuple #[.agg #[.slice nA nn' nc,.slice (some ⟨gN,0,none⟩) n cN],ansV ⟨0,ee,0,hh⟩]) (results_cells rfl _ _ bs ra 56 32 _ _ _ _ rfl ?hsb Tryz.underlying56 rfl (by kernel_rfl) rfl ?hrb Tryz.underlying32 rfl (by kernel_rfl)) rfl ?_
 case hsb=>exact (far3 (two_cells _ _ _ _ HS3.out) hbr).drew
 case hrb=>exact (ans_cells _ _ _ _ _ _ (far2 HR3.out hrb)).drew
 have TF:Touch (fun g=>g=bs∨g=ra) w3 (((((w3.setCell ⟨bs,0,none⟩ (.slice nA nn' nc)).setCell ⟨bs,1,none⟩ (.slice (some ⟨gN,0,none⟩) n cN)).setCell ⟨ra,0,none⟩ (.int .i64 ee)).setCell ⟨ra,1,none⟩ (.int .u64 0)).setCell ⟨ra,2,none⟩ (.int .i64 hh)).drew:=((((((Touch.refl (fun g=>g=bs∨g=ra) w3).setCell (p:=⟨bs,_,none⟩) (fun _=>.inl rfl) _).setCell (p:=⟨bs,_,none⟩) (fun _=>.inl rfl) _).setCell (p:=⟨ra,_,none⟩) (fun _=>.inr rfl) _).setCell (p:=⟨ra,_,none⟩) (fun _=>.inr rfl) _).setCell (p:=⟨ra,_,none⟩) (fun _=>.inr rfl) _).drew
 have hl9:=HLO.out
 have hb9:=HB0'.out
 refine ⟨⟨nA,nn',nc,nL⟩,_,_,_,rfl,HM3.out.touch TF (fun g hg e=>?_) (fun g hg e=>?_),⟨own_touch HO3.out TF (fun g hg e=>?_),by rw [List.length_set];exact HN0.out,HR.out.few⟩,HT3.out.trans TF (fun i hi e=>?_)⟩
 ·rcases e with rfl | rfl<;>omega
 ·rcases e with rfl | rfl
  ·exact hg.ne (blk_ty HS3.out) (by decide) rfl
  ·exact hg.ne (blk_ty HR3.out) (by decide) rfl
 ·rcases e with rfl | rfl
  ·exact own_blk_ne HO3.out HS3.out (by decide) hg
  ·exact own_blk_ne HO3.out HR3.out (by decide) hg
 ·rcases e with rfl | rfl<;>omega
end Go.Proofs.YthockgmbooefpaaGreatDoor
