/- What the law rests on, part 18. No condition but those that each theorem names. -/
import Derived.Test.YthockgmbooefpaaGreatDoorV17
import Derived.Deep.RegionHeld3
import Derived.Laws.BitsAllLaws
import Derived.Test.YthockgmbooefpaaGreatDoorV05
import Derived.Test.YthockgmbooefpaaGreatDoorV07
import Derived.Laws.IdiomStrings
import Derived.Deep.RegionLaw
set_option linter.unusedSectionVars false
set_option linter.unusedSimpArgs false
set_option linter.unusedVariables false
set_option maxRecDepth 100000
set_option maxHeartbeats 12000000
namespace Go.Proofs.YthockgmbooefpaaGreatDoor
open Int renaming toNat → qXa, fdiv_eq_ediv_of_nonneg → qQd
open IntWalk renaming i64_in → qJc, u64_in → qZd
open List renaming length_append → qQa, getD → qZa, getElem?_eq_getElem → qJa, getElem_cons_succ → qZb, getElem_cons_zero → qXb, getElem_toArray → qJb, setIfInBounds_toArray → qQc, set_cons_succ → qZc, set_cons_zero → qXc, length_cons → qXd, map_append → qJd, take_of_length_le → qQe, flatMap_cons → qZe, length_map → qXe, length_take → qJe, take_succ_eq_append_getElem → qQf
open Nat renaming zero_le → qQb, xor_lt_two_pow → qXf
variable{L tL:List aD}{c d n q s tb tc tn:Nat}{A tA:Option Addr}{v:Value}{w w':World}
open Go.RowKit
theorem Pi{P:Program}{o:Oper}{a:Act}{K:Act->World->Prop}{Q:Exit->Act->World->Prop}(s x:Operand)(t:TypeId)(hop:o.op=Op.call { callee:=Callee.builtin Builtin.append,args:=#[s,x],argTypes:=#[t,t] })
  (v1 v2 v:Value)(w':World)(hs:a.eval s=v1)(hx:a.eval x=v2)(hrun:(Builtin.append_ #[t,t] o.type #[v1,v2]).run P w=.ok v w')(h:K (a.put o.dst v) w'):o.wp P a w K Q:=by
 unfold Oper.wp
 simp[execOp,hop,resolve,invoke,builtin,hs,hx,hrun,Result.andThen]
 exact h
theorem aDl(w:World)(B0:Nat)(hs:mR B0 w ⟨tA,tn,tc,tL⟩ L)(hD:aZ L){R:List aT}(hr:zI w A n c R)(sid sq nn:Int)(kw:ByteArray)(hk:kw.size<=1099511627776)(hf:n<4096) :
  Calls Tryz.prog 62 #[.agg #[.slice tA tn tc,.slice A n c],.agg #[.int .i64 1,.int .u64 sid,.int .u64 sq,.string kw,.int .i64 nn]] w λe w'=>∃ A' n' c',e=.returned (.tuple #[.agg #[.slice tA tn tc,.slice A' n' c'],kA ⟨0,0,(n:Int)+1,0⟩])/\zI w' A' n' c' (R++[aT.zero])/\aC (λ_=>False) w w':=by
 obtain⟨wa,hwa⟩:=eX ((((w.alloc (.cells #[.slice tA tn tc,.slice A n c] 56)).alloc (.cells #[.int .i64 1,.int .u64 sid,.int .u64 sq,.string kw,.int .i64 nn] 29)).alloc (.cells #[.slice none 0 0,.slice none 0 0] 56)).alloc (.cells #[.int .i64 0,.int .u64 0,.int .i64 0] 32))
 obtain⟨ba,hba⟩:=eX w.heap.size
 obtain⟨bb,hbb⟩:=eX (w.heap.size+1)
 obtain⟨bs,hbs⟩:=eX (w.heap.size+1+1)
 obtain⟨ra,hra⟩:=eX (w.heap.size+1+1+1)
 have hTa:aC (λ_=>False) w wa:=by rw[hwa];exact ((((aC.refl _ _).alloc _).alloc _).alloc _).alloc _
 have haB:aL wa ba 56 #[.slice tA tn tc,.slice A n c]:=by rw[hwa,hba];exact (((aL.new _ _ _).alloc _).alloc _).alloc _
 have hbB:aL wa bb 29 #[.int .i64 1,.int .u64 sid,.int .u64 sq,.string kw,.int .i64 nn]:=by
  have h1:=(((aL.new (w.alloc (.cells #[.slice tA tn tc,.slice A n c] 56)) 29 #[.int .i64 1,.int .u64 sid,.int .u64 sq,.string kw,.int .i64 nn]).alloc (.cells #[.slice none 0 0,.slice none 0 0] 56)).alloc (.cells #[.int .i64 0,.int .u64 0,.int .i64 0] 32))
  rw[hwa,hbb];simpa using h1
 have hsB:aL wa bs 56 #[.slice none 0 0,.slice none 0 0]:=by
  have h1:=(aL.new ((w.alloc (.cells #[.slice tA tn tc,.slice A n c] 56)).alloc (.cells #[.int .i64 1,.int .u64 sid,.int .u64 sq,.string kw,.int .i64 nn] 29)) 56 #[.slice none 0 0,.slice none 0 0]).alloc (.cells #[.int .i64 0,.int .u64 0,.int .i64 0] 32)
  rw[hwa,hbs];simpa using h1
 have hrB:aL wa ra 32 #[.int .i64 0,.int .u64 0,.int .i64 0]:=by
  have h1:=aL.new (((w.alloc (.cells #[.slice tA tn tc,.slice A n c] 56)).alloc (.cells #[.int .i64 1,.int .u64 sid,.int .u64 sq,.string kw,.int .i64 nn] 29)).alloc (.cells #[.slice none 0 0,.slice none 0 0] 56)) 32 #[.int .i64 0,.int .u64 0,.int .i64 0]
  rw[hwa,hra];simpa using h1
 have HLO:Hid (w.heap.size<=ba/\w.heap.size<=bb/\w.heap.size<=bs/\w.heap.size<=ra/\ba≠bs/\bb≠bs/\bs≠ra):=aB (by omega)
 have HTA:=aB hTa
 have HAB:=aB haB
 have HBB:=aB hbB
 have HSB:=aB hsB
 have HRB:=aB hrB
 have HWA:=aB hwa
 have H0:=aB hba
 have H1:=aB hbb
 have H2:=aB hbs
 have H3:=aB hra
 have HS:=aB (hs.quiet hTa)
 have HR:=aB (hr.quiet hTa)
 have HD:=aB hD
 have HN0:=aB hr.len
 have hn:=hr.few
 have hx1:¬ bs=ra:=by omega
 have hx2:¬ ra=bs:=by omega
 obtain⟨a0,a1,a2⟩:=haB.facts
 obtain⟨b0,b1,b2⟩:=hbB.facts
 obtain⟨s0,s1,s2⟩:=hsB.facts
 obtain⟨r0,r1,r2⟩:=hrB.facts
 clear hwa hba hbb hbs hra hTa haB hbB hsB hrB hs hr hD
 go_in
 go_upto_region 1 with fail
 rw[<-HWA.out,<-H3.out,<-H2.out,<-H1.out,<-H0.out]
 have hnf:(n:Int)<4096:=by omega
 have HNIL:=aB (kM HR.own)
 have HRD:=aB (aH.of_own HR.own)
 obtain⟨i0,hi,hz0,hz1,hz2⟩:=aQ Tryz.infoRRow
 go_upto_region 4 with fail
 go_wp2_with (at_builtin;refine aP _ rfl (.tmp 22) (.tmp 24) 54 rfl 136 i0 (.agg #[.int .u64 0,.int .i64 0,.int .u64 0,.int .i64 0]) 4 32 Tryz.underlying54 hi hz0 hz1 hz2 rfl (by decide) _ 0 [] rfl (World.ownsRow_made _ #[] 0 (qQb _) (by decide) rfl) A n c (bD R) rfl (HRD.alloc _) ?c2 (vM R) ?c4 ?c5 ?_)
 case c2=>exact HNIL
 case c4=>unfold maxLen;omega
 case c5=>omega
 intro v1 w1 hown hgrow hfr _
 have T1:aC (λ_=>False) wa w1:=((aC.refl _ _).alloc _).grown hgrow (λk hk hlt=>by simp[Value.ownBlock] at hk;omega)
 have ho1:w1.ownsRow 0 136 4 v1 n (bD R):=by simpa using hown
 have hfr1:∀ g,v1.ownBlock=some g->wa.heap.size<=g:=λg hg=>by
  rcases hfr with h | ⟨g',h,hg'⟩
  ·rw[h] at hg;simp[Value.ownBlock] at hg;omega
  ·rw[h] at hg;simp at hg hg';omega
 obtain⟨A1,c1,hv,_⟩:=aS ho1
 subst hv
 have HO1:=aB ho1
 have HT1:=aB T1
 have HF1:=aB hfr1
 have HA1:=aB (HAB.touch T1 (λf=>f))
 have HB1:=aB (HBB.touch T1 (λf=>f))
 have HS1:=aB (HSB.touch T1 (λf=>f))
 have HR1:=aB (HRB.touch T1 (λf=>f))
 have HBD:Hid (n+1<=maxLen/\(n+1)*32<=140737488355328):=aB (by unfold maxLen;omega)
 clear hown hgrow hfr T1 ho1 hfr1 a0 a1 a2 b0 b1 b2 s0 s1 s2 r0 r1 r2
 obtain⟨a0,a1,a2⟩:=HA1.facts
 obtain⟨s0,s1,s2⟩:=HS1.facts
 obtain⟨r0,r1,r2⟩:=HR1.facts
 have hx3:¬ ba=bs:=HLO.2.2.2.2.1
 have hx4:¬ bs=ba:=λe=>hx3 e.symm
 have hx5:¬ ba=ra:=by have h0:=H0.out;have h3:=H3.out;omega
 have hx6:¬ ra=ba:=λe=>hx5 e.symm
 go_upto_region 5 with fail
 have HKS:Hid (∀ wx,aC (λk=>(Value.slice A1 n c1).ownBlock=some k\/k=bs\/k=ra) w1 wx->wx.cell? ⟨ba,0,none⟩=some (.slice tA tn tc)/\wx.cell? ⟨ba,1,none⟩=some (.slice A n c)/\aC (λk=>(Value.slice A1 n c1).ownBlock=some k\/k=bs\/k=ra) w1 wx):=aB (λwx T=>by
  have hb:=HA1.touch T (λe=>by
   rcases e with e | e | e
   ·exact bY HO1 HA1 (by decide) e
   ·exact hx3 e
   ·exact hx5 e)
  exact⟨(hb.cell 0).trans rfl,(hb.cell 1).trans rfl,T⟩)
 have HOR:Hid (¬ (Value.slice A1 n c1).ownBlock=some ra):=aB (bY HO1 HR1 (by decide))
 have HW1:Hid (wa.heap.size<=w1.heap.size):=aB HT1.size
 have u1:IntKind.i64.wrap ((n:Int)+1)=(n:Int)+1:=qJc _ (by omega)
 have u2:IntKind.u64.wrap ((n:Int)+1)=(n:Int)+1:=qZd _ (by omega)
 refine wp_region_held_drew (S:=λwx=>wx.cell? ⟨ba,0,none⟩=some (.slice tA tn tc)/\wx.cell? ⟨ba,1,none⟩=some (.slice A n c)/\aC (λk=>(Value.slice A1 n c1).ownBlock=some k\/k=bs\/k=ra) w1 wx) (by kernel_rfl) (HKS _ (aC.refl _ _).drew) (λhHeld=>?_)
 refine dF 0 ?_ rfl (by kernel_rfl) (λ_ _ _ h=>h) ?_ hHeld (dF 1 ?_ rfl (by kernel_rfl) (λ_ _ _ h=>h) ?_ hHeld (dF 2 ?_ rfl (by kernel_rfl) (λ_ _ _ h=>h) ?_ hHeld (dF 3 ?_ rfl (by kernel_rfl) (λ_ _ _ h=>h) ?_ hHeld (dF 7 ?_ rfl (by kernel_rfl) (λ_ _ _ h=>h) ?_ hHeld (dF 8 ?_ rfl (by kernel_rfl) (λ_ _ _ h=>h) ?_ hHeld (dF 9 ?_ rfl (by kernel_rfl) (λ_ _ _ h=>h) ?_ hHeld (dF 10 ?_ rfl (by kernel_rfl) (λ_ _ _ h=>h) ?_ hHeld (dF 11 ?_ rfl (by kernel_rfl) (λ_ _ _ h=>h) ?_ hHeld (dF 12 ?_ rfl (by kernel_rfl) (λ_ _ _ h=>h) ?_ hHeld ?_)))))))))
 iterate 10 (rotate_left;try simp only[qJb,qZb,qXb,Act.put,qQc,qXc,qZc];rintro wq ⟨s0,s1,s2⟩;go_simp;with_reducible rfl)
 simp only[qJb,qZb,qXb,Act.put,qQc,qXc,qZc]
 refine wpAnyH_ready (rs:=[4]) (by kernel_rfl) (by simp) ?_
 refine AllReadyH.cons rfl (λK hK=>?_) AllReadyH.nil
 go_simp
 go_simp
 refine hK.out _ _ (HKS _ ((aC.refl _ _).drew.alloc _)) (λhHeld=>?_)
 clear hK K
 try simp only[qJb,qZb,qXb,Act.put,qQc,qXc,qZc]
 have hTq:aC (λ_=>False) w1 (w1.drew.alloc (.cells #[.int .u64 0,.int .i64 0,.int .u64 0,.int .i64 0] 136)):=(aC.refl _ _).drew.alloc _
 obtain⟨v2,w2,hr2,hO2,hG2,hF2,_⟩:=Js (P:=Tryz.prog) (w1.drew.alloc (.cells #[.int .u64 0,.int .i64 0,.int .u64 0,.int .i64 0] 136)) 54 54 136 i0 _ 4 32 Tryz.underlying54 hi hz0 hz1 hz2 rfl (by decide) (.slice A1 n c1) n (bD R) (aF HO1 hTq (λ_ _ f=>f)) (some ⟨w1.heap.size,0,none⟩) 1 1 [.int .u64 0,.int .i64 0,.int .u64 0,.int .i64 0] (aH.new w1.drew 136 [.int .u64 0,.int .i64 0,.int .u64 0,.int .i64 0] 1 rfl) (λh=>by cases h) (List.all_eq_true.1 rfl) HBD.1 HBD.2
 obtain⟨A2,c2,hv2,_,_⟩:=aS hO2
 subst hv2
 have hT2:aC (λk=>(Value.slice A1 n c1).ownBlock=some k) w1 w2:=(hTq.up _).grown hG2 (λk hk _=>hk)
 have HR2:=aB hr2
 have HO2:=aB hO2
 have HT2:Hid (aC (λk=>(Value.slice A1 n c1).ownBlock=some k\/k=bs\/k=ra) w1 w2):=aB (hT2.mono (λ_ _ e=>.inl e))
 have HTF:Hid (aC (λ_=>False) wa w2):=aB (HT1.trans hT2 (λi hi e=>absurd hi (by have:=HF1.out i e;omega)))
 have HS2:=aB (HS1.touch hT2 (bY HO1 HS1 (by decide)))
 have HRR2:=aB (HR1.touch hT2 HOR)
 clear hr2 hO2 hG2 hF2 hT2 hTq s0 s1 s2 r0 r1 r2
 obtain⟨s0,s1,s2⟩:=HS2.facts
 obtain⟨r0,r1,r2⟩:=HRR2.facts
 refine wpAnyH_ready (rs:=[5]) (by kernel_rfl) (by simp) ?_
 refine AllReadyH.cons rfl (λK hK=>?_) AllReadyH.nil
 refine Pi (.tmp 28) (.tmp 30) 54 rfl (.slice A1 n c1) (.slice (some ⟨w1.heap.size,0,none⟩) 1 1) _ w2 (by first | (simp[Act.eval];done) | (go_simp;done) | (trace_state;fail)) (by first | (simp[Act.eval];done) | (go_simp;done) | (trace_state;fail)) HR2 ?_
 refine hK.out _ _ (HKS _ HT2) (λhHeld=>?_)
 clear hK K
 try simp only[qJb,qZb,qXb,Act.put,qQc,qXc,qZc]
 refine dF 6 ?_ rfl (by kernel_rfl) (λ_ _ _ h=>h) ?_ hHeld ?_
 rotate_left;rintro wq ⟨s0,s1,s2⟩;go_simp;with_reducible rfl
 simp only[qJb,qZb,qXb,Act.put,qQc,qXc,qZc]
 refine wpAnyH_ready (rs:=[13]) (by kernel_rfl) (by simp) ?_
 refine AllReadyH.cons rfl (λK hK=>?_) AllReadyH.nil
 go_simp
 go_simp
 refine hK.out _ _ (HKS _ ((HT2.setCell (p:=⟨bs,_,none⟩) (λ_=>.inr (.inl rfl)) _).setCell (p:=⟨bs,_,none⟩) (λ_=>.inr (.inl rfl)) _)) (λhHeld=>?_)
 clear hK K
 try simp only[qJb,qZb,qXb,Act.put,qQc,qXc,qZc]
 refine wpAnyH_ready (rs:=[14]) (by kernel_rfl) (by simp) ?_
 refine AllReadyH.cons rfl (λK hK=>?_) AllReadyH.nil
 go_simp
 go_simp
 refine hK.out _ _ (HKS _ (((((HT2.setCell (p:=⟨bs,_,none⟩) (λ_=>.inr (.inl rfl)) _).setCell (p:=⟨bs,_,none⟩) (λ_=>.inr (.inl rfl)) _).setCell (p:=⟨ra,_,none⟩) (λ_=>.inr (.inr rfl)) _).setCell (p:=⟨ra,_,none⟩) (λ_=>.inr (.inr rfl)) _).setCell (p:=⟨ra,_,none⟩) (λ_=>.inr (.inr rfl)) _)) (λhHeld=>?_)
 clear hK K
 try simp only[qJb,qZb,qXb,Act.put,qQc,qXc,qZc]
 refine wpAnyH_done (by kernel_rfl) ?_ _
 go_wp2_with fail
 try simp only[Exit.inBlock,Exit.then]
 refine bodyPost_ret (v:=.tuple #[.agg #[.slice tA tn tc,.slice A2 (n+1) c2],kA ⟨0,0,(n:Int)+1,0⟩]) (gS rfl _ _ bs ra 56 32 _ _ _ _ rfl ?hsb Tryz.underlying56 rfl (by kernel_rfl) rfl ?hrb Tryz.underlying32 rfl (by kernel_rfl)) rfl ?_
 case hsb=>first | exact (Qn (iW _ _ _ _ HS2) HLO.2.2.2.2.2.2) | exact (Qn (iW _ _ _ _ HS2) HLO.2.2.2.2.2.2).drew
 case hrb=>first | exact (eI _ _ _ _ _ _ (Qm HRR2 HLO.2.2.2.2.2.2.symm)) | exact (eI _ _ _ _ _ _ (Qm HRR2 HLO.2.2.2.2.2.2.symm)).drew
 have TF:aC (λg=>g=bs\/g=ra) w2 (((((w2.setCell ⟨bs,0,none⟩ (.slice tA tn tc)).setCell ⟨bs,1,none⟩ (.slice A2 (n+1) c2)).setCell ⟨ra,0,none⟩ (.int .i64 0)).setCell ⟨ra,1,none⟩ (.int .u64 ((n:Int)+1))).setCell ⟨ra,2,none⟩ (.int .i64 0)):=(((((aC.refl (λg=>g=bs\/g=ra) w2).setCell (p:=⟨bs,_,none⟩) (λ_=>.inl rfl) _).setCell (p:=⟨bs,_,none⟩) (λ_=>.inl rfl) _).setCell (p:=⟨ra,_,none⟩) (λ_=>.inr rfl) _).setCell (p:=⟨ra,_,none⟩) (λ_=>.inr rfl) _).setCell (p:=⟨ra,_,none⟩) (λ_=>.inr rfl) _
 have hl9:=HLO.out
 have hO3:w2.ownsRow 0 136 4 (.slice A2 (n+1) c2) (n+1) (bD (R++[aT.zero])):=by rw[nT];exact HO2
 refine⟨A2,n+1,c2,rfl,⟨aF hO3 TF (λg hg e=>?_),by rw[qQa,HN0.out];rfl,by omega⟩,(HTA.then HTF).trans TF (λi hi e=>?_)⟩
 ·rcases e with rfl | rfl
  ·exact bY hO3 HS2 (by decide) hg
  ·exact bY hO3 HRR2 (by decide) hg
 ·rcases e with rfl | rfl<;>omega
theorem aDk(w:World)(B0:Nat)(hs:mR B0 w ⟨tA,tn,tc,tL⟩ L)(hD:aZ L){R:List aT}(hr:zI w A n c R)(sid sq nn:Int)(kw:ByteArray)(hk:kw.size<=1099511627776)(hB0:B0<=w.heap.size)(k:Nat)(hsk:sid=(k:Int)+1)(hkn:k<n)(rs rc rr rh:Int)(hrow:R.getD k aT.zero=⟨rs,rc,rr,rh⟩)(h1:¬ sq=0)(h2:¬ sq<rs)(h3:¬ sq=rs) :
  Calls Tryz.prog 62 #[.agg #[.slice tA tn tc,.slice A n c],.agg #[.int .i64 3,.int .u64 sid,.int .u64 sq,.string kw,.int .i64 nn]] w λe w'=>∃ (s':SL) (A':Option Addr) (n' c':Nat),e=.returned (.tuple #[.agg #[s'.val,.slice A' n' c'],kA ⟨0,(lD L kw.toList),0,(tG L kw)⟩])/\mR B0 w' s' (tH L kw)/\zI w' A' n' c' (R.set k ⟨sq,(lD L kw.toList),0,(tG L kw)⟩)/\aC (λ_=>False) w w':=by
 have HSK:=aB hsk
 have HROW:=aB hrow
 clear hsk hrow
 have HB0':=aB hB0
 clear hB0
 have HRM:=aB (λ(wx:World) (hr:mR B0 wx ⟨tA,tn,tc,tL⟩ L)=>yV wx B0 ⟨tA,tn,tc,tL⟩ hr hD kw hk)
 simp only[SL.val] at HRM
 obtain⟨hh,hhh⟩:=eX (tG L kw)
 obtain⟨ee,hee⟩:=eX (lD L kw.toList)
 obtain⟨L2,hL2⟩:=eX (tH L kw)
 simp only[<-hhh,<-hee,<-hL2] at HRM
 rw[<-hhh,<-hee,<-hL2]
 clear hhh hee hL2
 obtain⟨wa,hwa⟩:=eX ((((w.alloc (.cells #[.slice tA tn tc,.slice A n c] 56)).alloc (.cells #[.int .i64 3,.int .u64 sid,.int .u64 sq,.string kw,.int .i64 nn] 29)).alloc (.cells #[.slice none 0 0,.slice none 0 0] 56)).alloc (.cells #[.int .i64 0,.int .u64 0,.int .i64 0] 32))
 obtain⟨ba,hba⟩:=eX w.heap.size
 obtain⟨bb,hbb⟩:=eX (w.heap.size+1)
 obtain⟨bs,hbs⟩:=eX (w.heap.size+1+1)
 obtain⟨ra,hra⟩:=eX (w.heap.size+1+1+1)
 have hTa:aC (λ_=>False) w wa:=by rw[hwa];exact ((((aC.refl _ _).alloc _).alloc _).alloc _).alloc _
 have haB:aL wa ba 56 #[.slice tA tn tc,.slice A n c]:=by rw[hwa,hba];exact (((aL.new _ _ _).alloc _).alloc _).alloc _
 have hbB:aL wa bb 29 #[.int .i64 3,.int .u64 sid,.int .u64 sq,.string kw,.int .i64 nn]:=by
  have h1:=(((aL.new (w.alloc (.cells #[.slice tA tn tc,.slice A n c] 56)) 29 #[.int .i64 3,.int .u64 sid,.int .u64 sq,.string kw,.int .i64 nn]).alloc (.cells #[.slice none 0 0,.slice none 0 0] 56)).alloc (.cells #[.int .i64 0,.int .u64 0,.int .i64 0] 32))
  rw[hwa,hbb];simpa using h1
 have hsB:aL wa bs 56 #[.slice none 0 0,.slice none 0 0]:=by
  have h1:=(aL.new ((w.alloc (.cells #[.slice tA tn tc,.slice A n c] 56)).alloc (.cells #[.int .i64 3,.int .u64 sid,.int .u64 sq,.string kw,.int .i64 nn] 29)) 56 #[.slice none 0 0,.slice none 0 0]).alloc (.cells #[.int .i64 0,.int .u64 0,.int .i64 0] 32)
  rw[hwa,hbs];simpa using h1
 have hrB:aL wa ra 32 #[.int .i64 0,.int .u64 0,.int .i64 0]:=by
  have h1:=aL.new (((w.alloc (.cells #[.slice tA tn tc,.slice A n c] 56)).alloc (.cells #[.int .i64 3,.int .u64 sid,.int .u64 sq,.string kw,.int .i64 nn] 29)).alloc (.cells #[.slice none 0 0,.slice none 0 0] 56)) 32 #[.int .i64 0,.int .u64 0,.int .i64 0]
  rw[hwa,hra];simpa using h1
 have HLO:Hid (w.heap.size<=ba/\w.heap.size<=bb/\w.heap.size<=bs/\w.heap.size<=ra/\ba≠bs/\bb≠bs/\bs≠ra):=aB (by omega)
 have HTA:=aB hTa
 have HAB:=aB haB
 have HBB:=aB hbB
 have HSB:=aB hsB
 have HRB:=aB hrB
 have HWA:=aB hwa
 have H0:=aB hba
 have H1:=aB hbb
 have H2:=aB hbs
 have H3:=aB hra
 have HS:=aB (hs.quiet hTa)
 have HR:=aB (hr.quiet hTa)
 have HD:=aB hD
 have HN0:=aB hr.len
 have hn:=hr.few
 have hx1:¬ bs=ra:=by omega
 have hx2:¬ ra=bs:=by omega
 obtain⟨a0,a1,a2⟩:=haB.facts
 obtain⟨b0,b1,b2⟩:=hbB.facts
 obtain⟨s0,s1,s2⟩:=hsB.facts
 obtain⟨r0,r1,r2⟩:=hrB.facts
 clear hwa hba hbb hbs hra hTa haB hbB hsB hrB hs hr hD
 go_in
 go_upto_region 1 with fail
 rw[<-HWA.out,<-H3.out,<-H2.out,<-H1.out,<-H0.out]
 have hsk:=HSK.out
 subst hsk
 clear HSK
 obtain⟨gR,rfl,hgR,hnc,c0,c1,c2,c3⟩:=Us HR.out k hkn
 rw[HROW.out] at c0 c1 c2 c3
 simp only at c0 c1 c2 c3
 have HNIL:=aB (kM HR.own)
 have HRD:=aB (aH.of_own HR.own)
 have HKN:=aB hkn
 have HNC:=aB hnc
 clear hgR hnc
 obtain⟨i0,hi,hz0,hz1,hz2⟩:=aQ Tryz.infoRRow
 go_upto_region 15 with fail
 obtain⟨wb,hwb⟩:=eX (wa.alloc (.cells #[.int .u64 rs,.int .i64 rc,.int .u64 rr,.int .i64 rh] 136))
 have HWB:=aB hwb
 have hTb:aC (λ_=>False) wa wb:=by rw[hwb];exact (aC.refl _ _).alloc _
 rw[<-hwb]
 have HTB:=aB hTb
 have HAB':=aB (HAB.touch hTb (λf=>f))
 have HBB':=aB (HBB.touch hTb (λf=>f))
 clear hwb hTb a0 a1 a2 b0 b1 b2 s0 s1 s2 r0 r1 r2 c0 c1 c2 c3
 obtain⟨a0,a1,a2⟩:=HAB'.facts
 obtain⟨b0,b1,b2⟩:=HBB'.facts
 go_wp2_with fail
 refine (HRM _ (HS.quiet HTB)).mono ?_
 rintro e w1 ⟨⟨mA,mn,mc,mL⟩,rfl,hm1,T1⟩
 have HM1:=aB hm1
 have HT1:=aB (HTB.then T1)
 have HA1:=aB (HAB'.touch T1 (λf=>f))
 have HB1:=aB (HBB'.touch T1 (λf=>f))
 clear hm1 T1 a0 a1 a2 b0 b1 b2 HRM
 obtain⟨a0,a1,a2⟩:=HA1.facts
 obtain⟨b0,b1,b2⟩:=HB1.facts
 simp only[SL.val]
 go_upto_region 19 with fail
 obtain⟨wc,hwc⟩:=eX (w1.alloc (.cells #[.int .i64 ee,.int .u64 0,.int .i64 hh] 32))
 obtain⟨ga,hga⟩:=eX w1.heap.size
 have hTc:aC (λ_=>False) wa wc:=by rw[hwc];exact HT1.alloc _
 have HGA:Hid (aL wc ga 32 #[.int .i64 ee,.int .u64 0,.int .i64 hh]):=aB (by rw[hwc,hga];exact aL.new _ _ _)
 have HGL:Hid (wa.heap.size<=ga):=aB (by rw[hga];exact HT1.size)
 have HMC:Hid (mR B0 wc ⟨mA,mn,mc,mL⟩ L2):=aB (by rw[hwc];exact HM1.quiet ((aC.refl _ _).alloc _))
 have HAC:Hid (aL wc ba 56 #[.slice tA tn tc,.slice (some ⟨gR,0,none⟩) n c]):=aB (by rw[hwc];exact HA1.alloc _)
 have HBC:Hid (aL wc bb 29 #[.int .i64 3,.int .u64 ((k:Int)+1),.int .u64 sq,.string kw,.int .i64 nn]):=aB (by rw[hwc];exact HB1.alloc _)
 have HTC:=aB hTc
 rw[<-hwc,<-hga]
 clear hwc hga hTc a0 a1 a2 b0 b1 b2 HM1 HT1 HA1 HB1
 obtain⟨a0,a1,a2⟩:=HAC.facts
 go_wp2_with (at_builtin;refine aP _ rfl (.tmp 116) (.tmp 118) 54 rfl 136 i0 (.agg #[.int .u64 0,.int .i64 0,.int .u64 0,.int .i64 0]) 4 32 Tryz.underlying54 hi hz0 hz1 hz2 rfl (by decide) _ 0 [] rfl (World.ownsRow_made _ #[] 0 (qQb _) (by decide) rfl) (some ⟨gR,0,none⟩) n c (bD R) rfl ((HRD.touch HTC (λ_ _ f=>f)).alloc _) ?c2 (vM R) ?c4 ?c5 ?_)
 case c2=>exact HNIL
 case c4=>unfold maxLen;omega
 case c5=>omega
 intro v1 w2 hown hgrow hfr _
 have T2:aC (λ_=>False) wc w2:=((aC.refl _ _).alloc _).grown hgrow (λk hk hlt=>by simp[Value.ownBlock] at hk;omega)
 have ho2:w2.ownsRow 0 136 4 v1 n (bD R):=by simpa using hown
 obtain⟨gN,cN,hv,hle,hmx,hgN,hcN,hfN⟩:=eZ ho2 (by have:=HKN.out;omega)
 subst hv
 have hgy:wc.heap.size<=gN:=by
  rcases hfr with h | ⟨g',h,hg'⟩
  ·simp[Value.ownBlock] at h;omega
  ·simp[Value.ownBlock] at h hg';omega
 have f0:=hfN (k*4)
 have f1:=hfN (k*4+1)
 have f2:=hfN (k*4+2)
 have f3:=hfN (k*4+3)
 have hkn4:k*4+3<(bD R).length:=by rw[vI,HN0.out];have:=HKN.out;omega
 have e0:=hcN (k*4) _ (qJa (by omega))
 have e1:=hcN (k*4+1) _ (qJa (by omega))
 have e2:=hcN (k*4+2) _ (qJa (by omega))
 have e3:=hcN (k*4+3) _ (qJa (by omega))
 have HO2:=aB ho2
 have HGY:=aB hgy
 have HT2:=aB T2
 have HCN:Hid (n<=cN):=aB (by omega)
 have hkI:(k:Int)<(n:Int):=by have:=HKN.out;omega
 have HB2:=aB (HBC.touch T2 (λf=>f))
 have HG2:=aB (HGA.touch T2 (λf=>f))
 clear hown hgrow hfr T2 ho2 hle hmx hgN hcN hfN hgy a0 a1 a2
 obtain⟨b0,b1,b2⟩:=HB2.facts
 obtain⟨g0,g1,g2⟩:=HG2.facts
 go_upto_region 21 with fail
 obtain⟨w3,hw3⟩:=eX ((((w2.setCell ⟨gN,k*4,none⟩ (.int .u64 sq)).setCell ⟨gN,k*4+1,none⟩ (.int .i64 ee)).setCell ⟨gN,k*4+2,none⟩ (.int .u64 0)).setCell ⟨gN,k*4+3,none⟩ (.int .i64 hh))
 have T3:aC (λg=>g=gN) w2 w3:=by rw[hw3];exact ((((aC.refl (λg=>g=gN) w2).setCell (p:=⟨gN,_,none⟩) (λ_=>rfl) _).setCell (p:=⟨gN,_,none⟩) (λ_=>rfl) _).setCell (p:=⟨gN,_,none⟩) (λ_=>rfl) _).setCell (p:=⟨gN,_,none⟩) (λ_=>rfl) _
 have hO3:w3.ownsRow 0 136 4 (.slice (some ⟨gN,0,none⟩) n cN) n (bD (R.set k ⟨sq,ee,0,hh⟩)):=by
  rw[hw3,<-pH R k (by rw[HN0.out];exact HKN.out) ⟨sq,ee,0,hh⟩]
  exact dS (dS (dS (dS HO2 _ _) _ _) _ _) _ _
 have hgty:bQ w2 gN 136 := aM HO2 rfl
 have HS2:=aB ((HSB.touch HTC (λf=>f)).touch HT2 (λf=>f))
 have HR2:=aB ((HRB.touch HTC (λf=>f)).touch HT2 (λf=>f))
 have HS3:=aB (HS2.touch T3 (λe=>(aG HS2).ne hgty (by decide) e))
 have HR3:=aB (HR2.touch T3 (λe=>(aG HR2).ne hgty (by decide) e))
 have HG3:=aB (HG2.touch T3 (λe=>(aG HG2).ne hgty (by decide) e))
 have hsz1:w.heap.size<=wc.heap.size:=Nat.le_trans HTA.size HTC.size
 have HGW:Hid (w.heap.size<=gN/\B0<=gN):=aB (by have:=HGY.out;have:=HB0'.out;omega)
 have HM3:Hid (mR B0 w3 ⟨mA,mn,mc,mL⟩ L2):=aB ((HMC.quiet HT2).touch T3 (λg hg e=>by have:=HGW.out;omega) (λg hg e=>hg.ne hgty (by decide) e))
 have HT3:Hid (aC (λ_=>False) w w3):=aB ((HTA.then (HTC.then HT2)).trans T3 (λi hi e=>by have:=HGW.out;omega))
 have HO3:=aB hO3
 rw[<-hw3]
 clear hw3 T3 hO3 hgty hsz1 b0 b1 b2 g0 g1 g2 f0 f1 f2 f3 e0 e1 e2 e3
 obtain⟨g0,g1,g2⟩:=HG3.facts
 obtain⟨s0,s1,s2⟩:=HS3.facts
 obtain⟨r0,r1,r2⟩:=HR3.facts
 have hbr:¬ bs=ra:=HLO.2.2.2.2.2.2
 have hrb:¬ ra=bs:=λe=>hbr e.symm
 have hga:¬ ga=bs:=λe=>(aG HG3).ne (aG HS3) (by decide) e
 have hga2:¬ ga=ra:=λe=>by have h1:=HGL.out;have h2:=HRB.lt;omega
 go_region
 go_wp2_with fail
 try simp only[Exit.inBlock,Exit.then]
 refine bodyPost_ret (v:=.tuple #[.agg #[.slice mA mn mc,.slice (some ⟨gN,0,none⟩) n cN],kA ⟨0,ee,0,hh⟩]) (gS rfl _ _ bs ra 56 32 _ _ _ _ rfl ?hsb Tryz.underlying56 rfl (by kernel_rfl) rfl ?hrb Tryz.underlying32 rfl (by kernel_rfl)) rfl ?_
 case hsb=>exact (Qn (iW _ _ _ _ HS3) hbr).drew
 case hrb=>exact (eI _ _ _ _ _ _ (Qm HR3 hrb)).drew
 have TF:aC (λg=>g=bs\/g=ra) w3 (((((w3.setCell ⟨bs,0,none⟩ (.slice mA mn mc)).setCell ⟨bs,1,none⟩ (.slice (some ⟨gN,0,none⟩) n cN)).setCell ⟨ra,0,none⟩ (.int .i64 ee)).setCell ⟨ra,1,none⟩ (.int .u64 0)).setCell ⟨ra,2,none⟩ (.int .i64 hh)).drew:=((((((aC.refl (λg=>g=bs\/g=ra) w3).setCell (p:=⟨bs,_,none⟩) (λ_=>.inl rfl) _).setCell (p:=⟨bs,_,none⟩) (λ_=>.inl rfl) _).setCell (p:=⟨ra,_,none⟩) (λ_=>.inr rfl) _).setCell (p:=⟨ra,_,none⟩) (λ_=>.inr rfl) _).setCell (p:=⟨ra,_,none⟩) (λ_=>.inr rfl) _).drew
 have hl9:=HLO.out
 have hb9:=HB0'.out
 refine⟨⟨mA,mn,mc,mL⟩,_,_,_,rfl,HM3.touch TF (λg hg e=>?_) (λg hg e=>?_),⟨aF HO3 TF (λg hg e=>?_),by rw[List.length_set];exact HN0,HR.few⟩,HT3.trans TF (λi hi e=>?_)⟩
 ·rcases e with rfl | rfl<;>omega
 ·rcases e with rfl | rfl
  ·exact hg.ne (aG HS3) (by decide) rfl
  ·exact hg.ne (aG HR3) (by decide) rfl
 ·rcases e with rfl | rfl
  ·exact bY HO3 HS3 (by decide) hg
  ·exact bY HO3 HR3 (by decide) hg
 ·rcases e with rfl | rfl<;>omega
theorem aDj(w:World)(B0:Nat)(hs:mR B0 w ⟨tA,tn,tc,tL⟩ L)(hD:aZ L){R:List aT}(hr:zI w A n c R)(sid sq nn:Int)(kw:ByteArray)(hk:kw.size<=1099511627776)(hB0:B0<=w.heap.size)(k:Nat)(hsk:sid=(k:Int)+1)(hkn:k<n)(rs rc rr rh:Int)(hrow:R.getD k aT.zero=⟨rs,rc,rr,rh⟩)(h1:¬ sq=0)(h2:¬ sq<rs)(h3:¬ sq=rs) :
  Calls Tryz.prog 62 #[.agg #[.slice tA tn tc,.slice A n c],.agg #[.int .i64 2,.int .u64 sid,.int .u64 sq,.string kw,.int .i64 nn]] w λe w'=>∃ (s':SL) (A':Option Addr) (n' c':Nat),e=.returned (.tuple #[.agg #[s'.val,.slice A' n' c'],kA ⟨0,(iV L kw.toList nn),0,(tP L kw nn)⟩])/\mR B0 w' s' (rY L kw nn)/\zI w' A' n' c' (R.set k ⟨sq,(iV L kw.toList nn),0,(tP L kw nn)⟩)/\aC (λ_=>False) w w':=by
 have HSK:=aB hsk
 have HROW:=aB hrow
 clear hsk hrow
 have HB0':=aB hB0
 clear hB0
 have HRM:=aB (λ(wx:World) (hr:mR B0 wx ⟨tA,tn,tc,tL⟩ L)=>yV wx B0 ⟨tA,tn,tc,tL⟩ hr hD kw hk)
 have HST:=aB (λ(wx:World) (hr:mR B0 wx ⟨tA,tn,tc,tL⟩ L)=>aDs wx B0 ⟨tA,tn,tc,tL⟩ hr hD kw hk nn)
 simp only[SL.val] at HRM
 simp only[SL.val] at HST
 obtain⟨hh,hhh⟩:=eX (tP L kw nn)
 obtain⟨ee,hee⟩:=eX (iV L kw.toList nn)
 obtain⟨L2,hL2⟩:=eX (rY L kw nn)
 simp only[<-hhh,<-hee,<-hL2] at HST
 rw[<-hhh,<-hee,<-hL2]
 clear hhh hee hL2
 obtain⟨wa,hwa⟩:=eX ((((w.alloc (.cells #[.slice tA tn tc,.slice A n c] 56)).alloc (.cells #[.int .i64 2,.int .u64 sid,.int .u64 sq,.string kw,.int .i64 nn] 29)).alloc (.cells #[.slice none 0 0,.slice none 0 0] 56)).alloc (.cells #[.int .i64 0,.int .u64 0,.int .i64 0] 32))
 obtain⟨ba,hba⟩:=eX w.heap.size
 obtain⟨bb,hbb⟩:=eX (w.heap.size+1)
 obtain⟨bs,hbs⟩:=eX (w.heap.size+1+1)
 obtain⟨ra,hra⟩:=eX (w.heap.size+1+1+1)
 have hTa:aC (λ_=>False) w wa:=by rw[hwa];exact ((((aC.refl _ _).alloc _).alloc _).alloc _).alloc _
 have haB:aL wa ba 56 #[.slice tA tn tc,.slice A n c]:=by rw[hwa,hba];exact (((aL.new _ _ _).alloc _).alloc _).alloc _
 have hbB:aL wa bb 29 #[.int .i64 2,.int .u64 sid,.int .u64 sq,.string kw,.int .i64 nn]:=by
  have h1:=(((aL.new (w.alloc (.cells #[.slice tA tn tc,.slice A n c] 56)) 29 #[.int .i64 2,.int .u64 sid,.int .u64 sq,.string kw,.int .i64 nn]).alloc (.cells #[.slice none 0 0,.slice none 0 0] 56)).alloc (.cells #[.int .i64 0,.int .u64 0,.int .i64 0] 32))
  rw[hwa,hbb];simpa using h1
 have hsB:aL wa bs 56 #[.slice none 0 0,.slice none 0 0]:=by
  have h1:=(aL.new ((w.alloc (.cells #[.slice tA tn tc,.slice A n c] 56)).alloc (.cells #[.int .i64 2,.int .u64 sid,.int .u64 sq,.string kw,.int .i64 nn] 29)) 56 #[.slice none 0 0,.slice none 0 0]).alloc (.cells #[.int .i64 0,.int .u64 0,.int .i64 0] 32)
  rw[hwa,hbs];simpa using h1
 have hrB:aL wa ra 32 #[.int .i64 0,.int .u64 0,.int .i64 0]:=by
  have h1:=aL.new (((w.alloc (.cells #[.slice tA tn tc,.slice A n c] 56)).alloc (.cells #[.int .i64 2,.int .u64 sid,.int .u64 sq,.string kw,.int .i64 nn] 29)).alloc (.cells #[.slice none 0 0,.slice none 0 0] 56)) 32 #[.int .i64 0,.int .u64 0,.int .i64 0]
  rw[hwa,hra];simpa using h1
 have HLO:Hid (w.heap.size<=ba/\w.heap.size<=bb/\w.heap.size<=bs/\w.heap.size<=ra/\ba≠bs/\bb≠bs/\bs≠ra):=aB (by omega)
 have HTA:=aB hTa
 have HAB:=aB haB
 have HBB:=aB hbB
 have HSB:=aB hsB
 have HRB:=aB hrB
 have HWA:=aB hwa
 have H0:=aB hba
 have H1:=aB hbb
 have H2:=aB hbs
 have H3:=aB hra
 have HS:=aB (hs.quiet hTa)
 have HR:=aB (hr.quiet hTa)
 have HD:=aB hD
 have HN0:=aB hr.len
 have hn:=hr.few
 have hx1:¬ bs=ra:=by omega
 have hx2:¬ ra=bs:=by omega
 obtain⟨a0,a1,a2⟩:=haB.facts
 obtain⟨b0,b1,b2⟩:=hbB.facts
 obtain⟨s0,s1,s2⟩:=hsB.facts
 obtain⟨r0,r1,r2⟩:=hrB.facts
 clear hwa hba hbb hbs hra hTa haB hbB hsB hrB hs hr hD
 go_in
 go_upto_region 1 with fail
 rw[<-HWA.out,<-H3.out,<-H2.out,<-H1.out,<-H0.out]
 have hsk:=HSK.out
 subst hsk
 clear HSK
 obtain⟨gR,rfl,hgR,hnc,c0,c1,c2,c3⟩:=Us HR.out k hkn
 rw[HROW.out] at c0 c1 c2 c3
 simp only at c0 c1 c2 c3
 have HNIL:=aB (kM HR.own)
 have HRD:=aB (aH.of_own HR.own)
 have HKN:=aB hkn
 have HNC:=aB hnc
 clear hgR hnc
 obtain⟨i0,hi,hz0,hz1,hz2⟩:=aQ Tryz.infoRRow
 go_upto_region 15 with fail
 obtain⟨wb,hwb⟩:=eX (wa.alloc (.cells #[.int .u64 rs,.int .i64 rc,.int .u64 rr,.int .i64 rh] 136))
 have HWB:=aB hwb
 have hTb:aC (λ_=>False) wa wb:=by rw[hwb];exact (aC.refl _ _).alloc _
 rw[<-hwb]
 have HTB:=aB hTb
 have HAB':=aB (HAB.touch hTb (λf=>f))
 have HBB':=aB (HBB.touch hTb (λf=>f))
 clear hwb hTb a0 a1 a2 b0 b1 b2 s0 s1 s2 r0 r1 r2 c0 c1 c2 c3
 obtain⟨a0,a1,a2⟩:=HAB'.facts
 obtain⟨b0,b1,b2⟩:=HBB'.facts
 go_wp2_with fail
 refine (HRM _ (HS.quiet HTB)).mono ?_
 rintro e w1 ⟨⟨mA,mn,mc,mL⟩,rfl,hm1,T1⟩
 have HM1:=aB hm1
 have HT1:=aB (HTB.then T1)
 have HA1:=aB (HAB'.touch T1 (λf=>f))
 have HB1:=aB (HBB'.touch T1 (λf=>f))
 clear hm1 T1 a0 a1 a2 b0 b1 b2 HRM
 obtain⟨a0,a1,a2⟩:=HA1.facts
 obtain⟨b0,b1,b2⟩:=HB1.facts
 simp only[SL.val]
 clear HM1
 go_wp2_with fail
 refine (HST _ (HS.quiet HT1)).mono ?_
 rintro e wq ⟨⟨nA,nn',nc,nL⟩,rfl,hm1,T1⟩
 have HM1:=aB hm1
 have HT1':=aB (HT1.then T1)
 have HA1':=aB (HA1.touch T1 (λf=>f))
 have HB1':=aB (HB1.touch T1 (λf=>f))
 clear hm1 T1 HT1 HA1 HB1 a0 a1 a2 b0 b1 b2 HST
 have HT1:=HT1'
 have HA1:=HA1'
 have HB1:=HB1'
 clear HT1' HA1' HB1'
 obtain⟨a0,a1,a2⟩:=HA1.facts
 obtain⟨b0,b1,b2⟩:=HB1.facts
 simp only[SL.val]
 go_upto_region 19 with fail
 obtain⟨wc,hwc⟩:=eX (wq.alloc (.cells #[.int .i64 ee,.int .u64 0,.int .i64 hh] 32))
 obtain⟨ga,hga⟩:=eX wq.heap.size
 have hTc:aC (λ_=>False) wa wc:=by rw[hwc];exact HT1.alloc _
 have HGA:Hid (aL wc ga 32 #[.int .i64 ee,.int .u64 0,.int .i64 hh]):=aB (by rw[hwc,hga];exact aL.new _ _ _)
 have HGL:Hid (wa.heap.size<=ga):=aB (by rw[hga];exact HT1.size)
 have HMC:Hid (mR B0 wc ⟨nA,nn',nc,nL⟩ L2):=aB (by rw[hwc];exact HM1.quiet ((aC.refl _ _).alloc _))
 have HAC:Hid (aL wc ba 56 #[.slice tA tn tc,.slice (some ⟨gR,0,none⟩) n c]):=aB (by rw[hwc];exact HA1.alloc _)
 have HBC:Hid (aL wc bb 29 #[.int .i64 2,.int .u64 ((k:Int)+1),.int .u64 sq,.string kw,.int .i64 nn]):=aB (by rw[hwc];exact HB1.alloc _)
 have HTC:=aB hTc
 rw[<-hwc,<-hga]
 clear hwc hga hTc a0 a1 a2 b0 b1 b2 HM1 HT1 HA1 HB1
 obtain⟨a0,a1,a2⟩:=HAC.facts
 go_wp2_with (at_builtin;refine aP _ rfl (.tmp 116) (.tmp 118) 54 rfl 136 i0 (.agg #[.int .u64 0,.int .i64 0,.int .u64 0,.int .i64 0]) 4 32 Tryz.underlying54 hi hz0 hz1 hz2 rfl (by decide) _ 0 [] rfl (World.ownsRow_made _ #[] 0 (qQb _) (by decide) rfl) (some ⟨gR,0,none⟩) n c (bD R) rfl ((HRD.touch HTC (λ_ _ f=>f)).alloc _) ?c2 (vM R) ?c4 ?c5 ?_)
 case c2=>exact HNIL
 case c4=>unfold maxLen;omega
 case c5=>omega
 intro v1 w2 hown hgrow hfr _
 have T2:aC (λ_=>False) wc w2:=((aC.refl _ _).alloc _).grown hgrow (λk hk hlt=>by simp[Value.ownBlock] at hk;omega)
 have ho2:w2.ownsRow 0 136 4 v1 n (bD R):=by simpa using hown
 obtain⟨gN,cN,hv,hle,hmx,hgN,hcN,hfN⟩:=eZ ho2 (by have:=HKN.out;omega)
 subst hv
 have hgy:wc.heap.size<=gN:=by
  rcases hfr with h | ⟨g',h,hg'⟩
  ·simp[Value.ownBlock] at h;omega
  ·simp[Value.ownBlock] at h hg';omega
 have f0:=hfN (k*4)
 have f1:=hfN (k*4+1)
 have f2:=hfN (k*4+2)
 have f3:=hfN (k*4+3)
 have hkn4:k*4+3<(bD R).length:=by rw[vI,HN0.out];have:=HKN.out;omega
 have e0:=hcN (k*4) _ (qJa (by omega))
 have e1:=hcN (k*4+1) _ (qJa (by omega))
 have e2:=hcN (k*4+2) _ (qJa (by omega))
 have e3:=hcN (k*4+3) _ (qJa (by omega))
 have HO2:=aB ho2
 have HGY:=aB hgy
 have HT2:=aB T2
 have HCN:Hid (n<=cN):=aB (by omega)
 have hkI:(k:Int)<(n:Int):=by have:=HKN.out;omega
 have HB2:=aB (HBC.touch T2 (λf=>f))
 have HG2:=aB (HGA.touch T2 (λf=>f))
 clear hown hgrow hfr T2 ho2 hle hmx hgN hcN hfN hgy a0 a1 a2
 obtain⟨b0,b1,b2⟩:=HB2.facts
 obtain⟨g0,g1,g2⟩:=HG2.facts
 go_upto_region 21 with fail
 obtain⟨w3,hw3⟩:=eX ((((w2.setCell ⟨gN,k*4,none⟩ (.int .u64 sq)).setCell ⟨gN,k*4+1,none⟩ (.int .i64 ee)).setCell ⟨gN,k*4+2,none⟩ (.int .u64 0)).setCell ⟨gN,k*4+3,none⟩ (.int .i64 hh))
 have T3:aC (λg=>g=gN) w2 w3:=by rw[hw3];exact ((((aC.refl (λg=>g=gN) w2).setCell (p:=⟨gN,_,none⟩) (λ_=>rfl) _).setCell (p:=⟨gN,_,none⟩) (λ_=>rfl) _).setCell (p:=⟨gN,_,none⟩) (λ_=>rfl) _).setCell (p:=⟨gN,_,none⟩) (λ_=>rfl) _
 have hO3:w3.ownsRow 0 136 4 (.slice (some ⟨gN,0,none⟩) n cN) n (bD (R.set k ⟨sq,ee,0,hh⟩)):=by
  rw[hw3,<-pH R k (by rw[HN0.out];exact HKN.out) ⟨sq,ee,0,hh⟩]
  exact dS (dS (dS (dS HO2 _ _) _ _) _ _) _ _
 have hgty:bQ w2 gN 136 := aM HO2 rfl
 have HS2:=aB ((HSB.touch HTC (λf=>f)).touch HT2 (λf=>f))
 have HR2:=aB ((HRB.touch HTC (λf=>f)).touch HT2 (λf=>f))
 have HS3:=aB (HS2.touch T3 (λe=>(aG HS2).ne hgty (by decide) e))
 have HR3:=aB (HR2.touch T3 (λe=>(aG HR2).ne hgty (by decide) e))
 have HG3:=aB (HG2.touch T3 (λe=>(aG HG2).ne hgty (by decide) e))
 have hsz1:w.heap.size<=wc.heap.size:=Nat.le_trans HTA.size HTC.size
 have HGW:Hid (w.heap.size<=gN/\B0<=gN):=aB (by have:=HGY.out;have:=HB0'.out;omega)
 have HM3:Hid (mR B0 w3 ⟨nA,nn',nc,nL⟩ L2):=aB ((HMC.quiet HT2).touch T3 (λg hg e=>by have:=HGW.out;omega) (λg hg e=>hg.ne hgty (by decide) e))
 have HT3:Hid (aC (λ_=>False) w w3):=aB ((HTA.then (HTC.then HT2)).trans T3 (λi hi e=>by have:=HGW.out;omega))
 have HO3:=aB hO3
 rw[<-hw3]
 clear hw3 T3 hO3 hgty hsz1 b0 b1 b2 g0 g1 g2 f0 f1 f2 f3 e0 e1 e2 e3
 obtain⟨g0,g1,g2⟩:=HG3.facts
 obtain⟨s0,s1,s2⟩:=HS3.facts
 obtain⟨r0,r1,r2⟩:=HR3.facts
 have hbr:¬ bs=ra:=HLO.2.2.2.2.2.2
 have hrb:¬ ra=bs:=λe=>hbr e.symm
 have hga:¬ ga=bs:=λe=>(aG HG3).ne (aG HS3) (by decide) e
 have hga2:¬ ga=ra:=λe=>by have h1:=HGL.out;have h2:=HRB.lt;omega
 go_region
 go_wp2_with fail
 try simp only[Exit.inBlock,Exit.then]
 refine bodyPost_ret (v:=.tuple #[.agg #[.slice nA nn' nc,.slice (some ⟨gN,0,none⟩) n cN],kA ⟨0,ee,0,hh⟩]) (gS rfl _ _ bs ra 56 32 _ _ _ _ rfl ?hsb Tryz.underlying56 rfl (by kernel_rfl) rfl ?hrb Tryz.underlying32 rfl (by kernel_rfl)) rfl ?_
 case hsb=>exact (Qn (iW _ _ _ _ HS3) hbr).drew
 case hrb=>exact (eI _ _ _ _ _ _ (Qm HR3 hrb)).drew
 have TF:aC (λg=>g=bs\/g=ra) w3 (((((w3.setCell ⟨bs,0,none⟩ (.slice nA nn' nc)).setCell ⟨bs,1,none⟩ (.slice (some ⟨gN,0,none⟩) n cN)).setCell ⟨ra,0,none⟩ (.int .i64 ee)).setCell ⟨ra,1,none⟩ (.int .u64 0)).setCell ⟨ra,2,none⟩ (.int .i64 hh)).drew:=((((((aC.refl (λg=>g=bs\/g=ra) w3).setCell (p:=⟨bs,_,none⟩) (λ_=>.inl rfl) _).setCell (p:=⟨bs,_,none⟩) (λ_=>.inl rfl) _).setCell (p:=⟨ra,_,none⟩) (λ_=>.inr rfl) _).setCell (p:=⟨ra,_,none⟩) (λ_=>.inr rfl) _).setCell (p:=⟨ra,_,none⟩) (λ_=>.inr rfl) _).drew
 have hl9:=HLO.out
 have hb9:=HB0'.out
 refine⟨⟨nA,nn',nc,nL⟩,_,_,_,rfl,HM3.touch TF (λg hg e=>?_) (λg hg e=>?_),⟨aF HO3 TF (λg hg e=>?_),by rw[List.length_set];exact HN0,HR.few⟩,HT3.trans TF (λi hi e=>?_)⟩
 ·rcases e with rfl | rfl<;>omega
 ·rcases e with rfl | rfl
  ·exact hg.ne (aG HS3) (by decide) rfl
  ·exact hg.ne (aG HR3) (by decide) rfl
 ·rcases e with rfl | rfl
  ·exact bY HO3 HS3 (by decide) hg
  ·exact bY HO3 HR3 (by decide) hg
 ·rcases e with rfl | rfl<;>omega
theorem aHj(w:World)(B0:Nat){sl:SL}(hs:mR B0 w sl L)(hD:aZ L){R:List aT}(hr:zI w A n c R)(hB0:B0<=w.heap.size)(cm:cS)(hk:cm.Wf) :
  Calls Tryz.prog 62 #[.agg #[sl.val,.slice A n c],cm.val] w λe w'=>∃ (s':SL) (A':Option Addr) (n' c':Nat),e=.returned (.tuple #[.agg #[s'.val,.slice A' n' c'],kA (Ei cm L R)])/\mR B0 w' s' (tY cm L R)/\zI w' A' n' c' (sQ cm L R)/\aC (λ_=>False) w w':=by
 obtain⟨kd,sid,sq,kw,nn⟩:=cm
 obtain⟨tA,tn,tc,tL⟩:=sl
 unfold cS.Wf at hk
 have hn:=hr.few
 have hl:=hr.len
 have stay:∀ {e:Ending} {w':World} {a:aT},Ei ⟨kd,sid,sq,kw,nn⟩ L R=a->tY ⟨kd,sid,sq,kw,nn⟩ L R=L->sQ ⟨kd,sid,sq,kw,nn⟩ L R=R->e=.returned (.tuple #[.agg #[.slice tA tn tc,.slice A n c],kA a])/\aC (λ_=>False) w w' ->
   ∃ (s':SL) (A':Option Addr) (n' c':Nat),e=.returned (.tuple #[.agg #[s'.val,.slice A' n' c'],kA (Ei ⟨kd,sid,sq,kw,nn⟩ L R)])/\mR B0 w' s' (tY ⟨kd,sid,sq,kw,nn⟩ L R)/\zI w' A' n' c' (sQ ⟨kd,sid,sq,kw,nn⟩ L R)/\aC (λ_=>False) w w':=by
  rintro e w' a h1 h2 h3 ⟨rfl,T⟩
  rw[h1,h2,h3]
  exact⟨⟨tA,tn,tc,tL⟩,A,n,c,rfl,hs.quiet T,hr.quiet T,T⟩
 by_cases h1:kd=1
 ·subst h1
  by_cases hf:n<4096
  ·refine (aDl w B0 hs hD hr sid sq nn kw hk hf).mono ?_
   rintro e w' ⟨A',n',c',rfl,hr',T⟩
   have e1:Ei ⟨1,sid,sq,kw,nn⟩ L R=⟨0,0,(n:Int)+1,0⟩:=by simp[Ei,hl,hf]
   have e2:tY ⟨1,sid,sq,kw,nn⟩ L R=L:=by simp[tY,kS]
   have e3:sQ ⟨1,sid,sq,kw,nn⟩ L R=R++[aT.zero]:=by simp[sQ,hl,hf]
   rw[e1,e2,e3]
   exact⟨⟨tA,tn,tc,tL⟩,A',n',c',rfl,hs.quiet T,hr',T⟩
  ·exact (Ag w B0 hs hD hr sid sq nn kw hk 1 152 (.inr (.inl ⟨rfl,by omega,rfl⟩))).mono (λe w'=>stay (by simp[Ei,hl,hf]) (by simp[tY,kS]) (by simp[sQ,hl,hf]))
 ·by_cases h2:kd=2\/kd=3
  ·have err:∀ {k:Int},¬ k=0->Ej ⟨kd,sid,sq,kw,nn⟩ R=⟨0,0,0,false,k⟩->_:=λ{k} hk0 hc=>aAz (c:=⟨kd,sid,sq,kw,nn⟩) (L:=L) (R:=R) h2 hc hk0
   by_cases h3:sid<1
   ·have hc:Ej ⟨kd,sid,sq,kw,nn⟩ R=⟨0,0,0,false,150⟩:=by
     have ht:iG R sid=false:=by unfold iG;simp;omega
     unfold Ej Ln
     simp only[ht]
     rfl
    obtain⟨e1,e2,e3⟩:=err (by decide) hc
    exact (Ag w B0 hs hD hr sid sq nn kw hk kd 150 (by rcases h2 with rfl | rfl;exact .inr (.inr (.inl ⟨rfl,h3,rfl⟩));exact .inr (.inr (.inr (.inl ⟨rfl,h3,rfl⟩))))).mono (λe w'=>stay e1 e2 e3)
   ·by_cases h4:(n:Int)<sid
    ·have hc:Ej ⟨kd,sid,sq,kw,nn⟩ R=⟨0,0,0,false,150⟩:=by
      have ht:iG R sid=false:=by unfold iG;simp;omega
      unfold Ej Ln
      simp only[ht]
      rfl
     obtain⟨e1,e2,e3⟩:=err (by decide) hc
     exact (Ag w B0 hs hD hr sid sq nn kw hk kd 150 (by rcases h2 with rfl | rfl;exact .inr (.inr (.inr (.inr (.inl ⟨rfl,by omega,h4,rfl⟩))));exact .inr (.inr (.inr (.inr (.inr ⟨rfl,by omega,h4,rfl⟩)))))).mono (λe w'=>stay e1 e2 e3)
    ·obtain⟨k,hk1⟩:∃ k:Nat,sid=(k:Int)+1:=⟨(sid-1).toNat,by omega⟩
     have hkn:k<n:=by omega
     have hkR:k<R.length:=by omega
     obtain⟨⟨rs,rc,rr,rh⟩,hrow⟩:∃ r,r=R.getD k aT.zero:=⟨_,rfl⟩
     have ht:iG R sid=true:=by rw[hk1];exact Oz R k hkR
     have hra:Df R sid=⟨rs,rc,rr,rh⟩:=by rw[hk1,tI R k hkR,hrow];simp[qZa,hkR]
     have hdc:Ej ⟨kd,sid,sq,kw,nn⟩ R=Ln true ⟨rs,rc,rr,rh⟩ sq:=by unfold Ej;simp only[ht,hra]
     by_cases h5:sq=0
     ·obtain⟨e1,e2,e3⟩:=err (k:=151) (by decide) (by rw[hdc];simp[Ln,h5])
      exact (Uo w B0 hs hD hr sid sq nn kw hk kd h2 k hk1 hkn rs rc rr rh hrow.symm (.inl h5)).mono (λe w'=>stay e1 e2 e3)
     ·by_cases h6:sq<rs
      ·obtain⟨e1,e2,e3⟩:=err (k:=151) (by decide) (by rw[hdc];simp[Ln,h6])
       exact (Uo w B0 hs hD hr sid sq nn kw hk kd h2 k hk1 hkn rs rc rr rh hrow.symm (.inr ⟨h5,h6⟩)).mono (λe w'=>stay e1 e2 e3)
      ·by_cases h7:sq=rs
       ·subst h7
        have hK:Ej ⟨kd,sid,sq,kw,nn⟩ R=⟨rc,rr,rh,true,0⟩:=by rw[hdc];simp[Ln,h5]
        obtain⟨e1,e2,e3⟩:=Lw (c:=⟨kd,sid,sq,kw,nn⟩) (L:=L) (R:=R) h2 hK rfl rfl
        exact (Yo w B0 hs hD hr sid sq nn kw hk kd h2 k hk1 hkn rc rr rh hrow.symm h5).mono (λe w'=>stay e1 e2 e3)
       ·have hK:Ej ⟨kd,sid,sq,kw,nn⟩ R=⟨0,0,0,false,0⟩:=by rw[hdc];simp[Ln,h5,h6,h7]
        obtain⟨e1,e2,e3⟩:=aBa (c:=⟨kd,sid,sq,kw,nn⟩) (L:=L) (R:=R) h2 hK rfl rfl
        have hkk:(sid-1).toNat=k:=by omega
        rw[e1,e2,e3]
        simp only[hkk]
        rcases h2 with rfl | rfl
        ·exact aDj w B0 hs hD hr sid sq nn kw hk hB0 k hk1 hkn rs rc rr rh hrow.symm h5 h6 h7
        ·exact aDk w B0 hs hD hr sid sq nn kw hk hB0 k hk1 hkn rs rc rr rh hrow.symm h5 h6 h7
  ·have hg:kS ⟨kd,sid,sq,kw,nn⟩ R=false:=by simp[kS,h2]
   exact (Ag w B0 hs hD hr sid sq nn kw hk kd 161 (.inl (by have h3:¬ kd=2:=(by omega);have h4:¬ kd=3:=(by omega);refine⟨?_,?_,?_,?_,?_,rfl⟩<;>simp<;>omega))).mono (λe w'=>stay (by simp[Ei,h1,h2]) (by simp[tY,hg]) (by simp[sQ,h1,hg]))
theorem aEs{D:List cS}{k:Nat}(h:k<D.length):D.getD k cS.zero∈D:=by
 have e2:D.getD k cS.zero=D[k]:=by simp[qZa,h]
 rw[e2];exact List.getElem_mem _
theorem Hx(T:List cS)(i:Nat)(h:i<T.length)(S:List aD × List aT):mJ (T.take (i+1)) S=Oh (mJ (T.take i) S) (T.getD i cS.zero):=by
 rw[Qg T i h,Yu]
theorem mR.stF{W:World}{L':List aD}{R:List aT}{sl:SL}(h:Aq W w s d tb v L' q R)(hl:mR W.heap.size w sl L)(T:aC (Go.Proofs.YthockgmbooefpaaGreatDoor.stF d tb v) w w'):mR W.heap.size w' sl L :=
 hl.touch T (λg hg e=>by have:=h.stF g e;omega) (λg ht e=>by
  rcases e with rfl | e
  ·exact ht.ne h.st.dct.ty (by decide) rfl
  ·exact oE h.st.tab ht (by decide) (by decide) e)
theorem zI.stF{R R':List aT}(h:qG w s d tb v L q R)(hr:zI w A n c R')(T:aC (Go.Proofs.YthockgmbooefpaaGreatDoor.stF d tb v) w w'):zI w' A n c R' :=
 hr.touch T (λg ht e=>by
  rcases e with rfl | e
  ·exact ht.ne h.dct.ty (by decide) rfl
  ·exact oE h.tab ht (by decide) (by decide) e)
theorem Aq.off{W:World}{R:List aT}{S:Nat->Prop}(h:Aq W w s d tb v L q R)(T:aC S w w')(hS:∀ g,S g->W.heap.size<=g/\∃ t,bQ w g t/\aCz t):Aq W w' s d tb v L q R :=
 ⟨h.st.off T (λg hg=>(hS g hg).2),h.y,h.t.trans T (λg hg e=>by have:=(hS g e).1;omega),h.lw⟩
theorem aHp(w:World):zI w none 0 0 []:=⟨World.ownsRow_nil _ _ _ _,rfl,by omega⟩
theorem aHk(B0:Nat)(w:World):mR B0 w ⟨none,0,0,[]⟩ []:=⟨⟨rfl,aH.nil _ _ _,λ_=>⟨rfl,rfl⟩⟩,rfl,λh=>absurd h (by simp)⟩
theorem aHn{R:List aT}{t:TypeId}(h:w.ownsRow 0 t 4 (.slice A R.length c) R.length (bD R))(k:Nat)(hk':k<R.length) :
  ∃ g,A=some ⟨g,0,none⟩/\g<w.heap.size/\w.cell? ⟨g,k*4,none⟩=some (.int .u64 (R.getD k aT.zero).seq)/\w.cell? ⟨g,k*4+1,none⟩=some (.int .i64 (R.getD k aT.zero).code) /\
   w.cell? ⟨g,k*4+2,none⟩=some (.int .u64 (R.getD k aT.zero).sess)/\w.cell? ⟨g,k*4+3,none⟩=some (.int .i64 (R.getD k aT.zero).had):=by
 obtain⟨g,cap,hv,hle,_,hg,hc,_⟩:=eZ h (by omega)
 injection hv with hA' _ hcc
 have e:R.getD k aT.zero=R[k]:=by simp[qZa,hk']
 rw[e]
 refine⟨g,hA',hg,?_,?_,?_,?_⟩
 ·exact hc _ _ (by have:=cQ R k hk' 0 (by omega);rw[show k*4=4*k+0 by omega,this];rfl)
 ·exact hc _ _ (by have:=cQ R k hk' 1 (by omega);rw[show k*4+1=4*k+1 by omega,this];rfl)
 ·exact hc _ _ (by have:=cQ R k hk' 2 (by omega);rw[show k*4+2=4*k+2 by omega,this];rfl)
 ·exact hc _ _ (by have:=cQ R k hk' 3 (by omega);rw[show k*4+3=4*k+3 by omega,this];rfl)
theorem vO(w:World)(hL:cV w){R:List aT}(h:qG w s d tb v L q R)(a:ByteArray)(ha:a.size<=9223372036854775807)(k y:Int) :
  Calls Tryz.prog 13 #[bB s,.agg #[.string a,.int .i64 k,.int .i64 y]] w (jZ w L a.toList k y):=by
 obtain⟨wa,hwa⟩:=eX (w.alloc (.cells #[.string a,.int .i64 k,.int .i64 y] 24))
 obtain⟨qb,hqb⟩:=eX w.heap.size
 have hTa:aC (λ_=>False) w wa:=by rw[hwa];exact (aC.refl _ _).alloc _
 have HQB:Hid (aL wa qb 24 #[.string a,.int .i64 k,.int .i64 y]):=aB (by rw[hwa,hqb];exact aL.new _ _ _)
 have HH:=aB (h.quiet hTa)
 have hc:=λ(wx:World) (T:aC (λ_=>False) wa wx)=>aBd wx (cV.touch hL (hTa.then T)) (HH.quiet T).dct a ha k y
 obtain⟨F,hF⟩:=eX (zQ L a.toList k y)
 obtain⟨E,hE⟩:=eX (Om a.toList k)
 unfold jZ at hc
 simp only[<-hF,<-hE] at hc
 have HC:=aB hc
 have HF:=aB hF
 have HE:=aB hE
 have HTA:=aB hTa
 have HWA:=aB hwa
 have HQ0:=aB hqb
 have HKS:Hid (∀ wx,aC (λ_=>False) wa wx->wx.cell? ⟨s,0,none⟩=some (bB d)/\wx.cell? ⟨qb,0,none⟩=some (.string a)/\wx.cell? ⟨qb,1,none⟩=some (.int .i64 k)/\wx.cell? ⟨qb,2,none⟩=some (.int .i64 y)/\aC (λ_=>False) wa wx):=aB (λwx T=>⟨((HH.blk.touch T (λf=>f)).cell 0).trans rfl,((HQB.touch T (λf=>f)).cell 0).trans rfl,((HQB.touch T (λf=>f)).cell 1).trans rfl,((HQB.touch T (λf=>f)).cell 2).trans rfl,T⟩)
 clear hL h hwa hqb hTa hc hF hE
 go_in
 go_upto_region 1 with fail
 rw[<-HWA.out,<-HQ0.out]
 go_region_held3 (λw'=>w'.cell? ⟨s,0,none⟩=some (bB d)/\w'.cell? ⟨qb,0,none⟩=some (.string a)/\w'.cell? ⟨qb,1,none⟩=some (.int .i64 k)/\w'.cell? ⟨qb,2,none⟩=some (.int .i64 y)/\aC (λ_=>False) wa w')
  (first
    | exact HKS _ (aC.refl _ _).drew
    | exact HKS _ HT1
    | (trace_state;fail))
  (first
    | (go_simp;refine (HC _ (aC.refl _ _).drew).mono ?_;rintro e w1 ⟨A1,c1,rfl,r1,T1,f1⟩;have HR1:=aB r1;have HF1:Hid (∀ g,aJ A1=some g->wa.heap.size<=g):=aB (by simpa using f1);have HT1:=aB ((aC.refl (λ_=>False) wa).drew.then T1);clear r1 T1 f1;go_simp))
 go_wp2_with fail
 go_ret2
 unfold jZ
 rw[<-HF.out,<-HE.out]
 exact⟨A1,c1,rfl,HR1,HTA.then HT1,λg hg=>Nat.le_trans HTA.size (HF1 g hg)⟩
theorem Pz(F:List aE)(k:Nat):(gU F k).length<=k:=by unfold gU;rw[qJe];omega
theorem Ih(L:List aD)(a:List UInt8)(k y:Int):(zQ L a k y).length<=mF y:=by
 unfold zQ
 split
 ·exact Pz _ _
 ·exact qQb _
def sP(s:Nat):Nat:=if s % 2=1 then (s / 2) ^^^ 2197175160 else s / 2
def oZ:Nat->Nat->Nat
 | 0,s=>s
 | n+1,s=>sP (oZ n s)
def zV(s c:Nat):Nat:=oZ 8 (s ^^^ c)
def zK(bs:List UInt8):Nat:=bs.foldl (λs c=>zV s c.toNat) 4294967295
def sumB(bs:List UInt8):Nat:=4294967295-zK bs
theorem We(h:s<4294967296):sP s<4294967296:=by
 unfold sP
 split
 ·exact qXf (n:=32) (by omega) (by decide)
 ·omega
theorem wI(h:s<4294967296):∀ n,oZ n s<4294967296
 | 0=>h
 | n+1=>We (wI h n)
theorem Qf(h:s<4294967296)(hc:c<256):zV s c<4294967296 :=
 wI (qXf (n:=32) h (by omega)) 8
theorem Ty(bs:List UInt8):zK bs<4294967296:=by
 unfold zK
 have key:∀ (l:List UInt8) (s:Nat),s<4294967296->l.foldl (λs c=>zV s c.toNat) s<4294967296:=by
  intro l
  induction l with
  | nil=>exact λs h=>h
  | cons b l ih=>exact λs h=>ih _ (Qf h b.toNat_lt)
 exact key bs _ (by decide)
theorem Wg(bs:List UInt8)(b:UInt8):zK (bs++[b])=zV (zK bs) b.toNat:=by simp[zK]
theorem aAv(h:s<4294967296) :
  bits .xor .u32 ((s:Int).fdiv (2 ^ min (qXa 1) IntKind.u32.bits)) (bits .and .u32 2197175160 (IntKind.u32.wrap (-(bits .and .u32 (s:Int) 1))))=((sP s:Nat):Int):=by
 have e1:min (qXa 1) IntKind.u32.bits=1:=by decide
 have e2:bits .and .u32 (s:Int) 1=((s % 2:Nat):Int):=by
  have:=u32_and_nat s 1 h (by decide)
  rw[Nat.and_one_is_mod] at this
  exact this
 have e3:(s:Int).fdiv (2 ^ 1)=((s / 2:Nat):Int):=by
  rw[qQd _ (by decide)]
  omega
 rw[e1,e2,e3]
 unfold sP
 rcases Nat.mod_two_eq_zero_or_one s with h2 | h2
 ·rw[h2,if_neg (by decide)]
  have e4:bits .and .u32 2197175160 (IntKind.u32.wrap (-((0:Nat):Int)))=((0:Nat):Int):=by decide
  rw[e4,u32_xor_nat _ _ (by omega) (by decide),Nat.xor_zero]
 ·rw[h2,if_pos rfl]
  have e4:bits .and .u32 2197175160 (IntKind.u32.wrap (-((1:Nat):Int)))=((2197175160:Nat):Int):=by decide
  rw[e4,u32_xor_nat _ _ (by omega) (by decide)]
theorem Wh(h:s<4294967296) :
  bits .xor .u32 ((s:Int) / 2) (bits .and .u32 2197175160 (-bits .and .u32 (s:Int) 1 % 4294967296))=((sP s:Nat):Int):=by
 rw[<-aAv h,IntKind.wrap_u32]
 have e1:min (qXa 1) IntKind.u32.bits=1:=by decide
 rw[e1,qQd _ (by decide)]
 rfl
theorem aIc(h:s<4294967296):4294967295 ^^^ s=4294967295-s:=by
 have h1:=congrArg BitVec.toNat (BitVec.allOnes_xor (x:=BitVec.ofNat 32 s))
 rw[BitVec.toNat_xor,BitVec.toNat_not,BitVec.toNat_allOnes,BitVec.toNat_ofNat,Nat.mod_eq_of_lt h] at h1
 exact h1
theorem aAu(h:s<4294967296):bits .xor .u32 IntKind.u32.max (s:Int)=((4294967295-s:Nat):Int):=by
 have e:IntKind.u32.max=((4294967295:Nat):Int):=by decide
 rw[e,u32_xor_nat _ _ (by decide) h,aIc h]
theorem Ll{bs:List UInt8}(h:aH w 1 A n (bs.map bG))(k:Nat)(hk:k<n)(hn:bs.length=n) :
  ∃ g off,A=some ⟨g,off,none⟩/\g<w.heap.size/\w.cell? ⟨g,off+k,none⟩=some (.int .u8 ((bs.getD k 0).toNat:Int)):=by
 obtain⟨b,off,hA,hb,hc⟩:=h.2 (by omega)
 have hk':k<bs.length:=by omega
 have e:bs.getD k 0=bs[k]:=by simp[qZa,hk']
 rw[e]
 exact⟨b,off,hA,hb,hc k _ (by simp[hk',bG])⟩
theorem Qc(bs:List UInt8)(i:Nat)(h:i<bs.length):bs.take (i+1)=bs.take i++[bs.getD i 0]:=by
 rw[qQf h]
 have e:bs.getD i 0=bs[i]:=by simp[qZa,h]
 rw[e]
theorem Ls(w:World)(A:Option Addr)(n c:Nat)(bs:List UInt8)(hR:aH w 1 A n (bs.map bG))(hl:bs.length=n)(hn:n<=35184372088832) :
  Calls Tryz.prog 113 #[.slice A n c] w λe w'=>e=.returned (.int .u32 ((sumB bs:Nat):Int))/\aC (λ_=>False) w w':=by
 have HR:=aB hR
 have HL:=aB hl
 have HN:=aB hn
 clear hR hl hn
 go_in
 go_wp2_with fail
 go_loopw [3,8] (λsv iv wr=>∃ (i:Nat),sv=.int .u32 ((zK (bs.take i):Nat):Int)/\iv=.int .i64 i/\i<=n/\wr=w) (λ_ iv _=>n-(intOf iv).toNat)
 case atStart=>exact⟨0,rfl,rfl,qQb _,rfl⟩
 case round =>
  obtain⟨i,rfl,rfl,hin',rfl⟩:=hrel
  obtain⟨wo,hwo⟩:=eX wr
  subst hwo
  by_cases hin:i<n
  ·have y0:(i:Int)<(n:Int):=by omega
   have y1:(0:Int)<=(i:Int):=by omega
   have y2:IntKind.i64.wrap ((i:Int)+1)=(i:Int)+1:=qJc _ (by have:=HN.out;omega)
   obtain⟨gl,ol,hAl,hgl,l0⟩:=Ll HR i hin HL
   subst hAl
   obtain⟨b,hb⟩:=eX (bs.getD i 0)
   have hsn:zK (bs.take (i+1))=oZ 8 (zK (bs.take i) ^^^ b.toNat):=by rw[Qc bs i (by rw[HL.out];exact hin),Wg,hb];rfl
   rw[<-hb] at l0
   obtain⟨s,hs⟩:=eX (zK (bs.take i))
   rw[<-hs] at hsn
   have hslt:s<4294967296:=by rw[hs];exact Ty _
   obtain⟨v,hv⟩:∃ v:Nat,v=b.toNat:=⟨_,rfl⟩
   have hvlt:v<256:=by rw[hv];exact b.toNat_lt
   rw[<-hv] at l0 hsn
   have m0:IntKind.u32.wrap (v:Int)=(v:Int):=by rw[IntKind.wrap_u32];omega
   have m1:bits .xor .u32 (s:Int) (v:Int)=((s ^^^ v:Nat):Int):=u32_xor_nat s v hslt (by omega)
   obtain⟨x,hx⟩:=eX (s ^^^ v)
   have hxlt:x<4294967296:=by rw[hx];exact qXf (n:=32) hslt (by omega)
   rw[<-hx] at m1 hsn
   have HSN:=aB hsn
   have HXL:=aB hxlt
   have HIN:=aB hin
   have HS:=aB hs
   rw[<-hs]
   clear hb hs hsn hv hx hxlt hin hin' hslt hvlt
   go_wp2_with fail
   go_loopw [3,16] (λsv kv wr=>∃ (k:Nat),sv=.int .u32 ((oZ k x:Nat):Int)/\kv=.int .i64 k/\k<=8/\wr=wo) (λ_ kv _=>8-(intOf kv).toNat)
   case atStart=>exact⟨0,rfl,rfl,by omega,rfl⟩
   case round =>
    obtain⟨k,rfl,rfl,hk',hwr⟩:=hrel
    subst hwr
    by_cases hk:k<8
    ·have k0:(k:Int)<8:=by omega
     have k1:(0:Int)<=(k:Int):=by omega
     have k2:IntKind.i64.wrap ((k:Int)+1)=(k:Int)+1:=qJc _ (by omega)
     have m2:=Wh (wI HXL k)
     have e3:sP (oZ k x)=oZ (k+1) x:=rfl
     rw[e3] at m2
     obtain⟨r,hr⟩:=eX (oZ k x)
     obtain⟨r2,hr2⟩:=eX (oZ (k+1) x)
     rw[<-hr,<-hr2] at m2
     rw[<-hr]
     have HR2:=aB hr2
     have HK:=aB hk
     clear hr hr2 hk hk'
     go_wp2_with fail
     go_roundw
     ·exact⟨k+1,by rw[<-HR2.out],by simp,by have:=HK.out;omega,trivial⟩
     ·have:=HK.out
      simp only[intOf]
      omega
    ·have k0:¬ (k:Int)<8:=by omega
     have hk8:k=8:=by omega
     subst hk8
     clear hk hk' k0
     go_wp2_with fail
     go_roundw
     ·exact⟨i+1,by rw[HSN.out],by simp,by have:=HIN.out;omega,trivial⟩
     ·have:=HIN.out
      simp only[intOf]
      omega
  ·have y0:¬ (i:Int)<(n:Int):=by omega
   have hie:bs.take i=bs:=qQe (by rw[HL.out];omega)
   rw[hie]
   have m3:=aAu (Ty bs)
   have hsu:(4294967295-zK bs:Nat)=sumB bs:=rfl
   rw[hsu] at m3
   obtain⟨s,hs⟩:=eX (zK bs)
   obtain⟨t,ht⟩:=eX (sumB bs)
   rw[<-hs,<-ht] at m3
   rw[<-hs]
   have HTT:=aB ht
   clear hs ht hie hsu hin hin'
   go_wp2_with fail
   go_ret
   exact⟨by rw[<-HTT.out];rfl,aC.refl _ _⟩
theorem vG(w:World)(A:Option Addr)(n c:Nat)(bs:List UInt8)(hR:aH w 1 A n (bs.map bG))(hA:A=none->n=0/\c=0)(hl:bs.length=n)(hn:n<=17592186044416) :
  Calls Tryz.prog 49 #[.slice none 0 0,.slice A n c] w λe w'=>∃ (A':Option Addr) (q' c':Nat),e=.returned (.slice A' q' c')/\fS 5 1 w w' (.slice A' q' c') q' ((dJ n++bs).map bG)/\q'<=n+10:=by
 obtain⟨i0,hi0,hz0,hz1,hz2⟩:=aQ kD
 have HP:=aB (nD w w none 0 0 [] (fS.nil _ _ _) n (by omega) (by omega))
 have HR:=aB hR
 have HN:=aB hn
 have HA:=aB hA
 have z1:IntKind.u64.wrap (n:Int)=(n:Int):=qZd _ (by omega)
 clear hR hn hA hl
 go_in
 go_wp2_with fail
 refine HP.mono ?_
 rintro e w1 ⟨A1,q1,c1,rfl,h1,hq1,T1⟩
 have hT1:aC (λ_=>False) w w1:=T1.mono (λi hi e=>by simp[Value.ownBlock] at e)
 have HO:=aB h1
 have HQ:=aB hq1
 have HRD:=aB (HR.touch hT1 (λ_ _ f=>f))
 have hone:∀ u∈bs.map bG,u.oneCell'=true:=by
  intro u hu
  obtain⟨b,_,rfl⟩:=List.mem_map.1 hu
  rfl
 have HONE:=aB hone
 have HBB:Hid (q1+n<=maxLen/\(q1+n)*1<=140737488355328):=aB (by have:=HN.out;unfold maxLen;omega)
 clear h1 hq1 T1 hT1 HP hone
 go_wp2_with (at_builtin;refine aP _ rfl (.tmp 9) (.tmp 10) 50 rfl 5 i0 _ 1 1 Tryz.underlying50 hi0 hz0 hz1 hz2 rfl (by decide) (.slice A1 q1 c1) q1 _ rfl HO.own A n c (bs.map bG) rfl HRD HA HONE HBB.1 HBB.2 ?_;intro v2 w2 O2 G2 F2 _;obtain⟨A2,c2,hv,_,_⟩:=aS O2;subst hv;have HO2:=aB (HO.app O2 G2 F2);clear O2 G2 F2)
 go_ret
 refine⟨A2,q1+n,c2,rfl,?_,by have:=HQ.out;omega⟩
 have h:=HO2.out
 rw[qJd]
 simpa using h
def zR(s:Nat):List UInt8:=[UInt8.ofNat (s % 256),UInt8.ofNat (s / 256 % 256),UInt8.ofNat (s / 65536 % 256),UInt8.ofNat (s / 16777216 % 256)]
def pW(bs:List UInt8):List UInt8:=dJ bs.length++bs++zR (sumB bs)
theorem aEb(w:World)(A:Option Addr)(n c:Nat)(bs:List UInt8)(hR:aH w 1 A n (bs.map bG))(hA:A=none->n=0/\c=0)(hl:bs.length=n)(hn:n<=17592186044416) :
  Calls Tryz.prog 52 #[.slice A n c] w λe w'=>∃ (A':Option Addr) (q' c':Nat) (k:Int),e=.returned (.tuple #[.slice A' q' c',.int .i64 k])/\fS 5 1 w w' (.slice A' q' c') q' ((if n<=2097152 then pW bs else []).map bG)/\k=(if n<=2097152 then 0 else 22):=by
 obtain⟨i0,hi0,hz0,hz1,hz2⟩:=aQ kD
 by_cases hb:n<=2097152
 ·have k0:¬ (2097152:Int)<(n:Int):=by omega
  simp only[hb,if_true]
  have HS:=aB (Ls w A n c bs hR hl (by omega))
  have HP:=aB (λ(wx:World) (T:aC (λ_=>False) w wx)=>vG wx A n c bs (hR.touch T (λ_ _ f=>f)) hA hl hn)
  have HB:=aB hb
  have HL:=aB hl
  obtain⟨s,hs⟩:=eX (sumB bs)
  have hslt:s<4294967296:=by rw[hs];unfold sumB;omega
  rw[<-hs] at HS
  have m1:(s:Int).fdiv (2 ^ min (qXa 8) IntKind.u32.bits)=((s / 256:Nat):Int):=by
   have h:min (qXa 8) IntKind.u32.bits=8:=by decide
   rw[h,qQd _ (by decide)]
   omega
  have m2:(s:Int).fdiv (2 ^ min (qXa 16) IntKind.u32.bits)=((s / 65536:Nat):Int):=by
   have h:min (qXa 16) IntKind.u32.bits=16:=by decide
   rw[h,qQd _ (by decide)]
   omega
  have m3:(s:Int).fdiv (2 ^ min (qXa 24) IntKind.u32.bits)=((s / 16777216:Nat):Int):=by
   have h:min (qXa 24) IntKind.u32.bits=24:=by decide
   rw[h,qQd _ (by decide)]
   omega
  have HSS:=aB hs
  have HSL:=aB hslt
  clear hb hl hR hA hn hs hslt
  go_in
  go_wp2_with fail
  refine HS.mono ?_
  rintro e w1 ⟨rfl,T1⟩
  have HT1:=aB T1
  have HP1:=aB (HP w1 T1)
  clear T1 HS HP
  go_wp2_with fail
  refine HP1.mono ?_
  rintro e w2 ⟨A2,q2,c2,rfl,h2,hq2⟩
  have HO:=aB h2
  have HQ:=aB hq2
  clear h2 hq2 HP1
  obtain⟨wa,hwa⟩:=eX (w2.alloc (.cells #[.int .u8 ((s:Int) % 256),.int .u8 ((s:Int) / 256 % 256),.int .u8 ((s:Int) / 65536 % 256),.int .u8 ((s:Int) / 16777216 % 256)] 5))
  have hTa:aC (λ_=>False) w2 wa:=by rw[hwa];exact (aC.refl _ _).alloc _
  have hrd:aH wa 1 (some ⟨w2.heap.size,0,none⟩) 4 [.int .u8 ((s:Int) % 256),.int .u8 ((s:Int) / 256 % 256),.int .u8 ((s:Int) / 65536 % 256),.int .u8 ((s:Int) / 16777216 % 256)]:=by
   rw[hwa]
   have h:=aH.new (size:=1) w2 5 [.int .u8 ((s:Int) % 256),.int .u8 ((s:Int) / 256 % 256),.int .u8 ((s:Int) / 65536 % 256),.int .u8 ((s:Int) / 16777216 % 256)] 4 rfl
   simpa using h
  have hone:∀ u∈([.int .u8 ((s:Int) % 256),.int .u8 ((s:Int) / 256 % 256),.int .u8 ((s:Int) / 65536 % 256),.int .u8 ((s:Int) / 16777216 % 256)]:List Value),u.oneCell'=true:=by
   intro u hu
   simp only[List.mem_cons,List.not_mem_nil,or_false] at hu
   rcases hu with rfl | rfl | rfl | rfl<;>rfl
  have HXA:=aB (HO.to hTa)
  have HWA:=aB hwa
  have HRD:=aB hrd
  have HONE:=aB hone
  have HBB:Hid (q2+4<=maxLen/\(q2+4)*1<=140737488355328):=aB (by have:=HQ.out;have:=HB.out;unfold maxLen;omega)
  clear hwa hTa hrd hone
  go_wp2_with (at_builtin;rw[<-HWA.out];refine aP _ rfl (.tmp 11) (.tmp 23) 50 rfl 5 i0 _ 1 1 Tryz.underlying50 hi0 hz0 hz1 hz2 rfl (by decide) (.slice A2 q2 c2) q2 _ rfl HXA.own (some ⟨w2.heap.size,0,none⟩) 4 4 [.int .u8 ((s:Int) % 256),.int .u8 ((s:Int) / 256 % 256),.int .u8 ((s:Int) / 65536 % 256),.int .u8 ((s:Int) / 16777216 % 256)] rfl HRD (λh=>by cases h) HONE HBB.1 HBB.2 ?_;intro v3 w3 O3 G3 F3 _;obtain⟨A3,c3,hv,_,_⟩:=aS O3;subst hv;have HO3:=aB (HXA.app O3 G3 F3);clear O3 G3 F3)
  go_ret2
  refine⟨A3,q2+4,c3,0,rfl,?_,rfl⟩
  have h:=HO3.out
  have e4:(zR s).map bG=[.int .u8 ((s:Int) % 256),.int .u8 ((s:Int) / 256 % 256),.int .u8 ((s:Int) / 65536 % 256),.int .u8 ((s:Int) / 16777216 % 256)]:=by
   unfold zR
   simp only[List.map_cons,List.map_nil]
   rw[lH (by omega),lH (by omega),lH (by omega),lH (by omega)]
   simp only[Int.natCast_emod,Int.natCast_ediv]
   rfl
  unfold pW
  rw[<-HSS.out,HL.out,qJd,e4]
  exact h.from HT1
 ·have k0:(2097152:Int)<(n:Int):=by omega
  simp only[hb,if_false]
  clear hR hA hl hn hb
  go_in
  go_wp2_with fail
  go_ret2
  exact⟨none,0,0,22,rfl,fS.nil _ _ _,rfl⟩
theorem Mt(hD:aZ L):(aR L).states.length<=98305:=by
 rcases eP hD with⟨h,_⟩ | h
 ·rw[h];exact qQb _
 ·exact h.few
theorem Wm(w:World)(hL:cV w)(L:List aD)(hD:aZ L)(A:Option Addr)(n c:Nat)(Z:List SV)(hst:eW w A n Z)(hz:Z.map SV.p=(aR L).states) :
  Calls Tryz.prog 47 #[.agg #[.int .i64 (aR L).base,.slice A n c]] w λe w'=>∃ (A':Option Addr) (q c':Nat),e=.returned (.tuple #[.slice A' q c',.int .i64 0])/\fS 5 1 w w' (.slice A' q c') q ((qX (aR L).base (aR L).states).map bG):=by
 have hb:=lG hD
 obtain⟨bn,hbn⟩:∃ bn:Nat,(aR L).base=(bn:Int):=⟨(aR L).base.toNat,by omega⟩
 have hn:n=(aR L).states.length:=by rw[<-hz,qXe];exact hst.len.symm
 have hr:=eP hD
 rw[<-hz] at hr ⊢
 rw[hbn] at hr ⊢
 refine aDc w hL bn A n c Z hst hr (by omega) (by rw[hn];exact Mt hD) (λi hi=>?_)
 rcases hr with⟨h,_⟩ | h
 ·have:Z=[]:=by simpa using h
  rw[this] at hst
  have:=hst.len
  simp at this
  omega
 ·have hf:=h.form i (by rw[qXe,hst.len];exact hi)
  have e:(Z.map SV.p).getD i aY=(Z.getD i cH).p:=by simp[qZa,show i<Z.length by rw[hst.len];exact hi]
  rw[e] at hf
  exact hf
structure aT.In(r:aT):Prop where
 s0:0<=r.seq
 s1:r.seq<18446744073709551616
 c0:0<=r.code
 c1:r.code<=65535
 i0:0<=r.sess
 i1:r.sess<18446744073709551616
 h0:0<=r.had
 h1:r.had<=1048576
def Uq(r:aT):List Nat:=[r.seq.toNat,r.code.toNat,r.sess.toNat,r.had.toNat]
def vH(r:aT):List UInt8:=(Uq r).flatMap dJ
def mB(L:List aD):List UInt8:=qX (aR L).base (aR L).states
def qO(L:List aD)(n:Nat):List UInt8:=dJ (mB L).length++mB L++dJ n
def kZ(L:List aD)(R:List aT):List UInt8:=qO L R.length++R.flatMap vH
def Cd(L:List aD)(R:List aT):List UInt8:=if (kZ L R).length<=2097152 then pW (kZ L R) else []
theorem dH(n:Nat):(dJ n).length<=10:=Pd 9 n
theorem aAf(i p:Nat)(a:Nat × Int × Nat):(Pv i p a).length<=30:=by
 unfold Pv
 have h1:=dH (a.1-p)
 have h2:=dH a.2.1.toNat
 have h3:=dH (i-a.2.2)
 simp only[qQa]
 omega
theorem Au(i:Nat):∀ (l:List (Nat × Int × Nat)) (p:Nat),(kB i p l).length<=30*l.length
 | [],p=>by simp[kB]
 | a :: l,p=>by
  have h1:=Au i l a.1
  have h2:=aAf i p a
  simp only[kB,qQa,qXd]
  omega
theorem Uu(i:Nat)(s:cU):(stB i s).length<=20+30*s.arcs.length:=by
 unfold stB Ca
 have h1:=Au i s.arcs 0
 have h2:=dH (2*s.arcs.length+1)
 have h3:=dH s.out.toNat
 have h4:=dH (2*s.arcs.length)
 split<;>simp only[qQa]<;>omega
theorem Oi:∀ (l:List cU) (i:Nat),(∀ s∈l,s.arcs.length<=2097152)->(pZ i l).length<=62914580*l.length
 | [],i,_=>by simp[pZ]
 | s :: l,i,h=>by
  have h1:=Oi l (i+1) (λx hx=>h x (List.mem_cons_of_mem _ hx))
  have h2:=Uu i s
  have h3:=h s List.mem_cons_self
  simp only[pZ,qQa,qXd]
  omega
theorem aJe(hD:aZ L):(mB L).length<=8796093022208:=by
 unfold mB qX Ki
 have h1:=dH (aR L).base.toNat
 have h2:=dH (aR L).states.length
 have hn:=Mt hD
 have h3:=Oi (aR L).states 0 (λs hs=>by
  rcases eP hD with⟨h,_⟩ | h
  ·rw[h] at hs;cases hs
  ·obtain⟨i,hi,he⟩:=List.getElem_of_mem hs
   have hf:=h.form i hi
   have e:(aR L).states.getD i aY=s:=by rw[<-he];simp[qZa,hi]
   rw[e] at hf
   exact oD hf)
 simp only[qQa]
 omega
theorem aDp(r:aT):(vH r).length<=40:=by
 unfold vH Uq
 have h1:=dH r.seq.toNat
 have h2:=dH r.code.toNat
 have h3:=dH r.sess.toNat
 have h4:=dH r.had.toNat
 simp only[qZe,List.flatMap_nil,qQa,List.length_nil]
 omega
theorem rN:∀ (R:List aT),(R.flatMap vH).length<=40*R.length
 | []=>by simp
 | r :: R=>by
  have h1:=rN R
  have h2:=aDp r
  simp only[qZe,qQa,qXd]
  omega
theorem qW{bs:List UInt8}(h:w.ownsRow 0 5 1 (.slice A n c) n (bs.map bG)):bs.length=n:=by
 have hr:=aH.of_own h
 have:=hr.1
 rw[qXe] at this
 omega
theorem Ww(w:World)(hL:cV w){R:List aT}(h:qG w s d tb v L q R)(hIn:∀ r∈R,r.In) :
  Calls Tryz.prog 18 #[bB s] w λe w'=>∃ (A':Option Addr) (q' c':Nat),e=.returned (.slice A' q' c')/\fS 5 1 w w' (.slice A' q' c') q' ((Cd L R).map bG):=by
 have hD:=h.dct.dict
 have HML:=aB (aJe hD)
 have HRF:=aB h.few
 have HH:=aB h
 have HMA:=aB (Mv w hL h.dct)
 have HPK:=aB (λ(wx:World) (T:aC (λ_=>False) w wx) (A:Option Addr) (n c:Nat) (Z:List SV) (hst:eW wx A n Z) (hz:Z.map SV.p=(aR L).states)=>Wm wx (cV.touch hL T) L hD A n c Z hst hz)
 have HRW:=aB (λ(wx:World) (T:aC (λ_=>False) w wx)=>aEf wx tb v R (h.quiet T).tab h.few)
 have HIN:=aB hIn
 obtain⟨m,hm⟩:=eX (mB L)
 have hm2:qX (aR L).base (aR L).states=m:=hm.symm
 simp only[hm2] at HPK
 rw[<-hm] at HML
 obtain⟨ba,hba⟩:=eX ((aR L).base)
 rw[<-hba] at HMA HPK
 have HM:=aB hm
 obtain⟨s0,s1,s2⟩:=h.blk.facts
 clear hL h hIn hD hm hm2 hba
 go_in
 go_wp2_with fail
 refine HMA.mono ?_
 rintro e w1 ⟨A1,n1,c1,Z1,rfl,hst1,hz1,_,T1⟩
 have HT1:=aB T1
 have HP1:=aB (HPK w1 T1 A1 n1 c1 Z1 hst1 hz1)
 clear hst1 hz1 T1 HMA HPK
 go_wp2_with fail
 refine HP1.mono ?_
 rintro e w2 ⟨A2,q2,c2,rfl,h2⟩
 have HO2:=aB h2
 have HQ2:=aB (qW h2.own)
 have HT2:=aB (HT1.then h2.touch)
 have HP2:=aB (vG w2 A2 q2 c2 m (aH.of_own h2.own) (kM h2.own) (qW h2.own) (by have:=qW h2.own;have:=HML.out;omega))
 clear h2 HP1
 go_wp2_with fail
 refine HP2.mono ?_
 rintro e w3 ⟨A3,q3,c3,rfl,h3,hq3⟩
 have HO3:=aB h3
 have HQ3:=aB hq3
 have HT3:=aB (HT2.then h3.touch)
 have HR3:=aB (HRW w3 HT3)
 have HB3:=aB (HH.blk.touch HT3 (λf=>f))
 clear h3 hq3 HP2 s0 s1 s2
 obtain⟨s0,s1,s2⟩:=HB3.facts
 go_wp2_with fail
 refine HR3.mono ?_
 rintro e w4 ⟨v4,rfl,ho4,T4,hfr4⟩
 obtain⟨A4,c4,hv4,_,_⟩:=aS ho4
 subst hv4
 have HO4:=aB ho4
 have HT4:=aB (HT3.then T4)
 have HX4:Hid (fS 5 1 w w4 (.slice A3 q3 c3) q3 ((dJ m.length++m).map bG)):=aB (by
  have h:=HO3.to T4
  rw[<-HQ2.out] at h
  exact h.from HT2)
 have HX4b:=aB (nD w w4 A3 q3 c3 _ HX4 R.length (by have:=HRF.out;omega) (by have:=HQ3.out;have:=HQ2.out;have:=HML.out;omega))
 have z1:IntKind.u64.wrap (R.length:Int)=(R.length:Int):=qZd _ (by have:=HRF.out;omega)
 clear ho4 T4 hfr4 HR3 s0 s1 s2
 go_wp2_with fail
 refine HX4b.mono ?_
 rintro e w5 ⟨A5,q5,c5,rfl,h5,hq5,T5⟩
 have HO5:Hid (w5.ownsRow 0 110 4 (.slice A4 R.length c4) R.length (bD R)):=aB (aF HO4 T5 (λg hg e=>(aM HO4 hg).ne (aM HX4.own e) (by decide) rfl))
 have HX5:Hid (fS 5 1 w w5 (.slice A5 q5 c5) q5 ((qO L R.length).map bG)):=aB (by
  have h:=h5
  rw[<-qJd] at h
  unfold qO
  rw[<-HM.out]
  exact h)
 have HHL:Hid ((qO L R.length).length<=8796093022228):=aB (by
  unfold qO
  have h1:=dH (mB L).length
  have h2:=dH R.length
  have h3:=HML.out
  rw[HM.out] at h3
  simp only[qQa]
  omega)
 clear h5 hq5 T5 HX4b
 go_wp2_with fail
 go_loopw [5,36] (λbv iv wr=>∃ (i:Nat) (A':Option Addr) (q' c':Nat),bv=.slice A' q' c'/\iv=.int .i64 i/\i<=R.length/\Hid (fS 5 1 w wr (.slice A' q' c') q' ((qO L R.length++(R.take i).flatMap vH).map bG))/\Hid (wr.ownsRow 0 110 4 (.slice A4 R.length c4) R.length (bD R))) (λ_ iv _=>R.length-(intOf iv).toNat)
 case atStart=>exact⟨0,A5,q5,c5,rfl,rfl,qQb _,aB (by simpa using HX5.out),HO5⟩
 case round =>
  obtain⟨i,A6,q6,c6,rfl,rfl,hi',HX,HO⟩:=hrel
  obtain⟨wo,hwo⟩:=eX wr
  subst hwo
  by_cases hi:i<R.length
  ·have y0:(i:Int)<(R.length:Int):=by omega
   have y1:(0:Int)<=(i:Int):=by omega
   have y2:IntKind.i64.wrap ((i:Int)+1)=(i:Int)+1:=qJc _ (by have:=HRF.out;omega)
   obtain⟨g1,hA1,hg1,d0,d1,d2,d3⟩:=aHn HO.out i hi
   subst hA1
   have hrm:R.getD i aT.zero∈R:=by
    have e2:R.getD i aT.zero=R[i]:=by simp[qZa,hi]
    rw[e2];exact List.getElem_mem _
   have hri:=HIN.out _ hrm
   have htk:(R.take (i+1)).flatMap vH=(R.take i).flatMap vH++vH (R.getD i aT.zero):=by
    rw[qQf hi,List.flatMap_append]
    have e2:R.getD i aT.zero=R[i]:=by simp[qZa,hi]
    rw[e2]
    simp
   obtain⟨⟨rs,rc,rr,rh⟩,hr⟩:∃ r,r=R.getD i aT.zero:=⟨_,rfl⟩
   rw[<-hr] at d0 d1 d2 d3 hri htk
   obtain⟨i1,i2,i3,i4,i5,i6,i7,i8⟩:=hri
   simp only at d0 d1 d2 d3 i1 i2 i3 i4 i5 i6 i7 i8
   obtain⟨sn,hsn⟩:∃ n:Nat,rs=(n:Int):=⟨rs.toNat,by omega⟩
   obtain⟨cn,hcn⟩:∃ n:Nat,rc=(n:Int):=⟨rc.toNat,by omega⟩
   obtain⟨an,han⟩:∃ n:Nat,rr=(n:Int):=⟨rr.toNat,by omega⟩
   obtain⟨hn,hhn⟩:∃ n:Nat,rh=(n:Int):=⟨rh.toNat,by omega⟩
   subst hsn hcn han hhn
   have z2:IntKind.u64.wrap (cn:Int)=(cn:Int):=qZd _ (by omega)
   have z3:IntKind.u64.wrap (hn:Int)=(hn:Int):=qZd _ (by omega)
   have hrb:vH ⟨(sn:Int),(cn:Int),(an:Int),(hn:Int)⟩=[sn,cn,an,hn].flatMap dJ:=by unfold vH Uq;simp
   obtain⟨ns,hns⟩:=eX ([sn,cn,an,hn])
   rw[hrb,<-hns] at htk
   have hnl:ns.length=4:=by rw[hns];rfl
   have hnb:∀ k,k<4->ns.getD k 0<18446744073709551616:=by
    intro k hk
    rw[hns]
    rcases k with _ | _ | _ | _ | k
    ·simp;omega
    ·simp;omega
    ·simp;omega
    ·simp;omega
    ·omega
   obtain⟨wa,hwa⟩:=eX ((wo.alloc (.cells #[.int .u64 (sn:Int),.int .i64 (cn:Int),.int .u64 (an:Int),.int .i64 (hn:Int)] 110)).alloc (.cells #[.int .u64 (sn:Int),.int .u64 (cn:Int),.int .u64 (an:Int),.int .u64 (hn:Int)] 27))
   obtain⟨gu,hgu⟩:=eX (wo.heap.size+1)
   have hTa:aC (λ_=>False) wo wa:=by rw[hwa];exact ((aC.refl _ _).alloc _).alloc _
   have HUB:Hid (aL wa gu 27 #[.int .u64 (sn:Int),.int .u64 (cn:Int),.int .u64 (an:Int),.int .u64 (hn:Int)]):=aB (by
    have h1:=aL.new (wo.alloc (.cells #[.int .u64 (sn:Int),.int .i64 (cn:Int),.int .u64 (an:Int),.int .i64 (hn:Int)] 110)) 27 #[.int .u64 (sn:Int),.int .u64 (cn:Int),.int .u64 (an:Int),.int .u64 (hn:Int)]
    rw[hwa,hgu]
    simpa using h1)
   have HXA:=aB (HX.to hTa)
   have HOA:=aB (aF HO hTa (λ_ _ f=>f))
   have HWA:=aB hwa
   have HGU:=aB hgu
   have HTK:=aB htk
   have HNS:=aB hns
   have HNL:=aB hnl
   have HNB:=aB hnb
   have HI:=aB hi
   clear hr hrm i1 i2 i3 i4 i5 i6 i7 i8 hrb hns hnl hnb hwa hgu hTa htk hi hi' hg1
   go_upto_region 9 with fail
   rw[<-HWA.out,<-HGU.out]
   clear d0 d1 d2 d3
   go_loopw [5,55] (λbv iv wr=>∃ (k:Nat) (A':Option Addr) (q' c':Nat),bv=.slice A' q' c'/\iv=.int .i64 k/\k<=4/\Hid (fS 5 1 w wr (.slice A' q' c') q' ((qO L R.length++(R.take i).flatMap vH++(ns.take k).flatMap dJ).map bG))/\Hid (wr.ownsRow 0 110 4 (.slice (some ⟨g1,0,none⟩) R.length c4) R.length (bD R))/\Hid (aL wr gu 27 #[.int .u64 (sn:Int),.int .u64 (cn:Int),.int .u64 (an:Int),.int .u64 (hn:Int)])) (λ_ iv _=>4-(intOf iv).toNat)
   case atStart=>exact⟨0,A6,q6,c6,rfl,rfl,by omega,aB (by simpa using HXA.out),HOA,HUB⟩
   case round =>
    obtain⟨k,A7,q7,c7,rfl,rfl,hk',HX7,HO7,HU7⟩:=hrel
    obtain⟨wk,hwk⟩:=eX wr
    subst hwk
    by_cases hk:k<4
    ·have k0:(k:Int)<4:=by omega
     have k1:(0:Int)<=(k:Int):=by omega
     have k2:IntKind.i64.wrap ((k:Int)+1)=(k:Int)+1:=qJc _ (by omega)
     have hcell:wk.cell? ⟨gu,k,none⟩=some (.int .u64 ((ns.getD k 0:Nat):Int)):=by
      rw[HU7.cell k,HNS.out]
      rcases k with _ | _ | _ | _ | k
      ·rfl
      ·rfl
      ·rfl
      ·rfl
      ·omega
     have hnk:=HNB.out k hk
     have htk:(ns.take (k+1)).flatMap dJ=(ns.take k).flatMap dJ++dJ (ns.getD k 0):=by
      have hk2:k<ns.length:=by rw[HNL.out];exact hk
      rw[qQf hk2,List.flatMap_append]
      have e2:ns.getD k 0=ns[k]:=by simp[qZa,hk2]
      rw[e2]
      simp
     obtain⟨x,hx⟩:=eX (ns.getD k 0)
     rw[<-hx] at hcell hnk htk
     have hql:q7<=8796093193229:=by
      have h1:=qW HX7.own
      rw[<-h1]
      have h2:=rN (R.take i)
      have h3:=HHL.out
      have h4:=HRF.out
      have h5:(R.take i).length<=R.length:=by rw[qJe];omega
      have h6:((ns.take k).flatMap dJ).length<=40:=by
       have h7:∀ l:List Nat,(l.flatMap dJ).length<=10*l.length:=by
        intro l
        induction l with
        | nil=>simp
        | cons a l ih=>have:=dH a;simp only[qZe,qQa,qXd];omega
       have h8:=h7 (ns.take k)
       have h9:(ns.take k).length<=4:=by rw[qJe,HNL.out];omega
       omega
      simp only[qQa]
      omega
     have HPU:=aB (nD w wk A7 q7 c7 _ HX7 x hnk (by omega))
     have HKK:=aB hk
     have HTK2:=aB htk
     have hgu2:gu<wk.heap.size:=HU7.lt
     clear hx hnk htk hql hk hk'
     go_wp2_with fail
     refine HPU.mono ?_
     rintro e w8 ⟨A8,q8,c8,rfl,h8,hq8,T8⟩
     have HX8:Hid (fS 5 1 w w8 (.slice A8 q8 c8) q8 ((qO L R.length++(R.take i).flatMap vH++(ns.take (k+1)).flatMap dJ).map bG)):=aB (by
      rw[HTK2.out,<-List.append_assoc,qJd]
      exact h8)
     have HO8:=aB (aF HO7 T8 (λg hg e=>(aM HO7 hg).ne (aM HX7.own e) (by decide) rfl))
     have HU8:=aB (HU7.touch T8 (λe=>(aG HU7).ne (aM HX7.own e) (by decide) rfl))
     clear h8 hq8 T8 HPU hcell hgu2
     go_wp2_with fail
     go_roundw
     ·exact⟨k+1,A8,q8,c8,rfl,by simp,by have:=HKK.out;omega,HX8,HO8,HU8⟩
     ·have:=HKK.out
      simp only[intOf]
      omega
    ·have k0:¬ (k:Int)<4:=by omega
     have hke:ns.take k=ns:=qQe (by rw[HNL.out];omega)
     rw[hke] at HX7
     clear hk hk' hke
     go_wp2_with fail
     go_roundw
     ·exact⟨i+1,A7,q7,c7,rfl,by simp,by have:=HI.out;omega,aB (by rw[HTK.out,<-List.append_assoc];exact HX7),HO7⟩
     ·have:=HI.out
      simp only[intOf]
      omega
  ·have y0:¬ (i:Int)<(R.length:Int):=by omega
   have hie:R.take i=R:=qQe (by omega)
   have hx:=HX.out
   rw[hie] at hx
   have hbl:(kZ L R).length=q6:=qW hx.own
   have hbd:q6<=8796093186068:=by
    rw[<-hbl]
    unfold kZ
    have h1:=rN R
    have h2:=HRF.out
    have h3:=HHL.out
    simp only[qQa]
    omega
   have hse:=aEb wo A6 q6 c6 (kZ L R) (aH.of_own hx.own) (kM hx.own) hbl (by omega)
   rw[<-hbl] at hse
   have HSE:=aB hse
   have HTX:=aB hx.touch
   have HBL:=aB hbl
   rw[<-hbl]
   clear hie hx hbl hbd hse hi hi'
   go_wp2_with fail
   refine HSE.mono ?_
   rintro e w9 ⟨A9,q9,c9,k9,rfl,h9,hk9⟩
   have HO9:=aB (h9.from HTX)
   clear h9 hk9 HSE
   go_wp2_with fail
   go_ret
   exact⟨A9,q9,c9,rfl,HO9⟩
theorem aBi(hD:aZ L)(w:List UInt8):0<=(bC w L).1/\(bC w L).1<=1048576:=by
 cases hf:(bC w L).2 with
 | true =>
  obtain⟨p,hp,_,he⟩:=Wp hf
  have:=hD.weight p hp
  rw[he]
  omega
 | false =>
  rw[Gi hf]
  simp
theorem aKl(hD:aZ L)(c:cS):0<=doE c L/\doE c L<=65535/\0<=doH c L/\doH c L<=1048576:=by
 have hf:=aBi hD c.word.toList
 unfold doE doH tP tG iV lD
 split
 ·refine⟨?_,?_,?_,?_⟩<;>(repeat' split)<;>first | omega | exact hf.1 | exact hf.2
 ·refine⟨?_,?_,?_,?_⟩<;>(repeat' split)<;>first | omega | exact hf.1 | exact hf.2
theorem aIx(hD:aZ L){R:List aT}(h:∀ r∈R,r.In){c:cS}(hc:c.In):∀ r∈sQ c L R,r.In:=by
 intro r hr
 unfold sQ at hr
 split at hr
 ·split at hr
  ·rcases List.mem_append.1 hr with hr | hr
   ·exact h r hr
   ·have e:r=aT.zero:=by simpa using hr
    subst e
    exact⟨by decide,by decide,by decide,by decide,by decide,by decide,by decide,by decide⟩
  ·exact h r hr
 ·split at hr
  ·rcases List.mem_or_eq_of_mem_set hr with hr | rfl
   ·exact h r hr
   ·obtain⟨e0,e1,h0,h1⟩:=aKl hD c
    obtain⟨_,_,s0,s1⟩:=hc
    exact⟨s0,s1,e0,e1,Int.le_refl _,by simp only;omega,h0,h1⟩
  ·exact h r hr
theorem aHo(hD:aZ L){R:List aT}(h:∀ r∈R,r.In)(T:List cS)(hT:∀ c∈T,c.In):∀ r∈(mJ T (L,R)).2,r.In:=by
 induction T generalizing L R with
 | nil=>exact h
 | cons c T ih=>exact ih (Bn hD c R) (aIx hD h (hT c List.mem_cons_self)) (λx hx=>hT x (List.mem_cons_of_mem _ hx))
theorem qM:aZ ([]:List aD):=Jc (by simp) (λp hp=>by cases hp) List.Pairwise.nil
theorem No{P:Program}{fn:Func}{p:Tmp}{ty:TypeId}(h:fn.results=#[.cell p ty])(tmps:Array Value)(w:World)(g:Nat)(t:TypeId)(cs:Array Value)(d:TypeDesc)
  (hp:tmps.getD p undef=.pointer (some ⟨g,0,none⟩))(hg:aL w g t cs)(hu:P.underlying ty=some d)(hd:(match d with | .struct _ | .array _ _=>true | _=>false)=true)(hi:(P.info? ty).map (·.size)=some cs.size) :
  (results fn tmps).run P w=.ok (.agg cs) w:=by
 have hp1:tmps[p]?.getD undef=.pointer (some ⟨g,0,none⟩):=by simpa using hp
 simp[results,h,hp1,asAddr,Sem.run_bind,run_loadVar_row w g t ty cs (0,0) d hg hu hd hi,Result.andThen]
theorem aDh(w:World)(tA:Option Addr)(tn tc:Nat)(T:List cS)(hT:T.length=tn)(hR:aH w 5 tA tn (wE T))(hWf:∀ o∈T,o.Wf)(hm:tn<=400) :
  Calls Tryz.prog 20 #[.agg #[.slice none 0 0,.slice none 0 0],.slice tA tn tc] w λe w'=>∃ (sl':SL) (A':Option Addr) (n' c':Nat),e=.returned (.agg #[sl'.val,.slice A' n' c'])/\mR w.heap.size w' sl' (mJ T ([],[])).1/\zI w' A' n' c' (mJ T ([],[])).2/\aC (λ_=>False) w w':=by
 have HTL:=aB hT
 have HRD:=aB hR
 have HWO:=aB hWf
 obtain⟨wa,hwa⟩:=eX ((w.alloc (.cells #[.slice none 0 0,.slice none 0 0] 56)).alloc (.cells #[.slice none 0 0,.slice none 0 0] 56))
 obtain⟨rb,hrb⟩:=eX w.heap.size
 obtain⟨rs,hrs⟩:=eX (w.heap.size+1)
 have hTa:aC (λ_=>False) w wa:=by rw[hwa];exact ((aC.refl _ _).alloc _).alloc _
 have hbB:aL wa rb 56 #[.slice none 0 0,.slice none 0 0]:=by rw[hwa,hrb];exact (aL.new _ _ _).alloc _
 have hsB:aL wa rs 56 #[.slice none 0 0,.slice none 0 0]:=by
  have h1:=aL.new (w.alloc (.cells #[.slice none 0 0,.slice none 0 0] 56)) 56 #[.slice none 0 0,.slice none 0 0]
  rw[hwa,hrs]
  simpa using h1
 have HBR:Hid (w.heap.size<=rb/\w.heap.size<=rs/\¬ rb=rs):=aB (by omega)
 have HTA:=aB hTa
 have HBB:=aB hbB
 have HSB:=aB hsB
 have HWA:=aB hwa
 have HRB:=aB hrb
 have HRS:=aB hrs
 have HM:=aB hm
 clear hT hR hWf hwa hrb hrs hTa hbB hsB hm
 go_in
 go_upto_region 1 with fail
 rw[<-HWA.out,<-HRS.out,<-HRB.out]
 go_wp2_with fail
 go_loopw [5] (λiv wr=>∃ (i:Nat) (sA':Option Addr) (sn' sc':Nat) (sL':List aD) (A':Option Addr) (n' c':Nat),iv=.int .i64 i/\i<=tn/\Hid (mR w.heap.size wr ⟨sA',sn',sc',sL'⟩ (mJ (T.take i) ([],[])).1)/\Hid (zI wr A' n' c' (mJ (T.take i) ([],[])).2)/\Hid (aZ (mJ (T.take i) ([],[])).1) /\
   Hid (aL wr rb 56 #[.slice sA' sn' sc',.slice A' n' c'])/\Hid (aL wr rs 56 #[.slice none 0 0,.slice none 0 0])/\Hid (aC (λ_=>False) w wr)) (λiv _=>tn-(intOf iv).toNat)
 case atStart=>exact⟨0,none,0,0,[],none,0,0,rfl,qQb _,aB (aHk _ _),aB (aHp _),aB qM,HBB,HSB,HTA⟩
 case round =>
  obtain⟨i,sA',sn',sc',sL',A',n',c',rfl,hin',HLr,HRr,HDr,HBr,HSr,HTr⟩:=hrel
  obtain⟨wo,hwo⟩:=eX wr
  subst hwo
  by_cases hin:i<tn
  ·have y0:(i:Int)<(tn:Int):=by omega
   have y1:(0:Int)<=(i:Int):=by omega
   have y2:IntKind.i64.wrap ((i:Int)+1)=(i:Int)+1:=qJc _ (by have:=HM.out;omega)
   obtain⟨gl,ol,hAl,hgl,l0,l1,l2,l3,l4⟩:=aAr (HRD.touch HTr (λ_ _ f=>f)) HTL.symm i hin
   subst hAl
   have hwf:(T.getD i cS.zero).Wf:=HWO.out _ (aEs (by rw[HTL.out];exact hin))
   have hrun:=Hx T i (by rw[HTL.out];exact hin) ([],[])
   have hdn:=Hw qM [] (T.take (i+1))
   obtain⟨⟨kd,sid,sq,kw,kn⟩,ho⟩:∃ o,o=T.getD i cS.zero:=⟨_,rfl⟩
   rw[<-ho] at l0 l1 l2 l3 l4 hwf hrun
   simp only at l0 l1 l2 l3 l4
   obtain⟨⟨Li,Ri⟩,hLR⟩:∃ y,y=mJ (T.take i) ([],[]):=⟨_,rfl⟩
   rw[<-hLR] at hrun HLr HRr HDr
   simp only[Oh] at hrun HLr HRr HDr
   have HKS:Hid (∀ wx,aC (λ_=>False) wo wx->wx.cell? ⟨rb,0,none⟩=some (.slice sA' sn' sc')/\wx.cell? ⟨rb,1,none⟩=some (.slice A' n' c')/\wx.cell? ⟨gl,ol+i*5,none⟩=some (.int .i64 kd)/\wx.cell? ⟨gl,ol+i*5+1,none⟩=some (.int .u64 sid)/\wx.cell? ⟨gl,ol+i*5+2,none⟩=some (.int .u64 sq)/\wx.cell? ⟨gl,ol+i*5+3,none⟩=some (.string kw)/\wx.cell? ⟨gl,ol+i*5+4,none⟩=some (.int .i64 kn)/\aC (λ_=>False) wo wx):=aB (λwx T=>⟨((HBr.touch T (λf=>f)).cell 0).trans rfl,((HBr.touch T (λf=>f)).cell 1).trans rfl,(T.cell hgl (λf=>f)).trans l0,(T.cell hgl (λf=>f)).trans l1,(T.cell hgl (λf=>f)).trans l2,(T.cell hgl (λf=>f)).trans l3,(T.cell hgl (λf=>f)).trans l4,T⟩)
   have hcall:=λ(wx:World) (t:aC (λ_=>False) wo wx)=>aHj wx w.heap.size (HLr.quiet t) HDr (HRr.quiet t) (by have h1:=HTr.size;have h2:=t.size;omega) ⟨kd,sid,sq,kw,kn⟩ hwf
   obtain⟨Lj,hLj⟩:=eX (tY ⟨kd,sid,sq,kw,kn⟩ Li Ri)
   obtain⟨Rj,hRj⟩:=eX (sQ ⟨kd,sid,sq,kw,kn⟩ Li Ri)
   obtain⟨⟨a0,a1,a2,a3⟩,haj⟩:∃ y,y=Ei ⟨kd,sid,sq,kw,kn⟩ Li Ri:=⟨_,rfl⟩
   rw[<-hLj,<-hRj] at hrun hcall
   rw[<-haj] at hcall
   simp only[kA,SL.val,cS.val] at hcall
   rw[hrun] at hdn
   have HC:=aB hcall
   have HRUN:=aB hrun
   have HDN:=aB hdn
   have HIN:=aB hin
   obtain⟨r0,r1,r2⟩:=HBr.facts
   clear ho hwf hrun hLR hLj hRj haj hcall hin hin' hdn
   go_upto_region 4 with fail
   go_region_law (first
    | (go_simp;go_at_call 62;refine (HC _ (by first | exact aC.refl _ _ | exact (aC.refl _ _).drew)).mono ?_;rintro e w1 ⟨⟨jA,jn,jc,jL⟩,A1,n1,c1,rfl,hl1,hr1,T1⟩;have HL1:=aB hl1;have HR1:=aB hr1;have HT1:=aB ((aC.refl (λ_=>False) wo).drew.then T1);have HB1:=aB (HBr.touch HT1 (λf=>f));clear hl1 hr1 T1 r0 r1 r2;obtain⟨r0,r1,r2⟩:=HB1.facts))
   all_goals go_wp2_with fail
   all_goals go_roundw
   all_goals first
    | (have:=HIN.out;simp only[intOf];omega)
    | (have T2:aC (λg=>g=rb) w1 ((w1.setCell ⟨rb,0,none⟩ (.slice jA jn jc)).setCell ⟨rb,1,none⟩ (.slice A1 n1 c1)):=((aC.refl (λg=>g=rb) w1).setCell (p:=⟨rb,_,none⟩) (λ_=>rfl) _).setCell (p:=⟨rb,_,none⟩) (λ_=>rfl) _
       have hb:=aG HB1
       have hs:=HSr.touch HT1 (λf=>f)
       refine⟨i+1,jA,jn,jc,jL,A1,n1,c1,by simp,by have:=HIN.out;omega,aB ?_,aB ?_,aB ?_,aB (iW _ _ _ _ HB1),aB (hs.touch T2 (λe=>HBR.2.2 e.symm)),aB ((HTr.then HT1).trans T2 (λg hg e=>by have:=HBR.out;omega))⟩
       ·rw[HRUN.out];exact HL1.touch T2 (λg hg e=>by have:=HBR.out;omega) (λg hg e=>hg.ne hb (by decide) e)
       ·rw[HRUN.out];exact HR1.touch T2 (λg hg e=>hg.ne hb (by decide) e)
       ·rw[HRUN.out];exact HDN)
  ·have y0:¬ (i:Int)<(tn:Int):=by omega
   have hie:T.take i=T:=qQe (by rw[HTL.out];omega)
   rw[hie] at HLr HRr
   obtain⟨b0,b1,b2⟩:=HBr.facts
   obtain⟨s0,s1,s2⟩:=HSr.facts
   clear hin hin' hie
   go_wp2_with fail
   refine bodyPost_ret (v:=.agg #[.slice sA' sn' sc',.slice A' n' c']) (No rfl _ _ rs 56 _ _ rfl (iW _ _ _ _ HSr) Tryz.underlying56 rfl (by kernel_rfl)) rfl ?_
   have T3:aC (λg=>g=rs) wo ((wo.setCell ⟨rs,0,none⟩ (.slice sA' sn' sc')).setCell ⟨rs,1,none⟩ (.slice A' n' c')):=((aC.refl (λg=>g=rs) wo).setCell (p:=⟨rs,_,none⟩) (λ_=>rfl) _).setCell (p:=⟨rs,_,none⟩) (λ_=>rfl) _
   exact⟨⟨sA',sn',sc',sL'⟩,A',n',c',rfl,HLr.touch T3 (λg hg e=>by have:=HBR.out;omega) (λg hg e=>hg.ne (aG HSr) (by decide) e),HRr.touch T3 (λg hg e=>hg.ne (aG HSr) (by decide) e),HTr.trans T3 (λg hg e=>by have:=HBR.out;omega)⟩
end Go.Proofs.YthockgmbooefpaaGreatDoor
