/- What the law rests on, part 10. No condition but those that each theorem names. -/
import Derived.Test.YthockgmbooefpaaGreatDoorL09
import Derived.Test.YthockgmbooefpaaGreatDoorL08
set_option linter.unusedSectionVars false
set_option linter.unusedSimpArgs false
set_option linter.unusedVariables false
set_option maxRecDepth 100000
set_option maxHeartbeats 4000000
namespace Go.Proofs.YthockgmbooefpaaGreatDoor
open Go.RowKit Go.Shelf Go.MapKept Go.ChangeMaps
attribute [local go_sem] Oper.semAt_some
theorem keeps_t {S:Nat→Prop} {B:Nat} {w w':World} (h:Touch S w w') (hS:∀ g,S g→g<B∨∃ t,TyAt w g t):KeepsFrom B w w' :=
 ⟨h.size,fun k o hk0 hk ho=>(h.block k (Array.getElem?_eq_some_iff.1 hk).1 (fun s=>by
  rcases hS k s with h1 | ⟨t,cs,_,e⟩
  ·omega
  ·rw [e] at hk
   cases hk
   cases ho)).trans hk⟩
theorem blk_row {w:World} {row:Option Nat} (hr:∀ r,row=some r→∃ o:Obj,w.heap[r]? = some o∧o.isCells=false) {g:Nat} {t:TypeId} (h:TyAt w g t):some g≠row:=by
 intro e
 obtain ⟨cs,_,h⟩:=h
 obtain ⟨o,ho,hc⟩:=hr g e.symm
 rw [h] at ho
 cases ho
 cases hc
structure Bld (w:World) (B:Nat) (sA:Option Addr) (sn sc:Nat) (Z:List SV) (m1 m2:Nat) (Lk:List Value) (Bk:List Nat):Prop where
 blk:Blk w B 163 #[.slice sA sn sc,.map (some m1),.map (some m2)]
 own:w.ownsRow 0 170 3 (.slice sA sn sc) sn (sCells Z)
 len:Z.length=sn
 el:∀ z∈Z,z.Ok w
 lk:Itn w m1 281 Lk
 bk:Itn w m2 3 (Bk.map natV)
 ne:m1≠m2
 tab:TabP Lk (Z.map SV.p) Bk
theorem Bld.quiet {w w':World} {B:Nat} {sA:Option Addr} {sn sc:Nat} {Z:List SV} {m1 m2:Nat} {Lk:List Value} {Bk:List Nat} (h:Bld w B sA sn sc Z m1 m2 Lk Bk) (T:Touch (fun _=>False) w w'):Bld w' B sA sn sc Z m1 m2 Lk Bk :=
 ⟨h.blk.touch T (fun f=>f),own_touch h.own T (fun _ _ f=>f),h.len,fun z hz=>(h.el z hz).touch T (fun _ _ f=>f),h.lk.quiet T,h.bk.quiet T,h.ne,h.tab⟩
theorem nodup_of_map {α β:Type} (f:α→β) {l:List α} (h:(l.map f).Nodup):l.Nodup:=by
 unfold List.Nodup at h ⊢
 rw [List.pairwise_map] at h
 exact h.imp (fun hne e=>hne (by rw [e]))
structure ArcB (a:Nat × Int × Nat):Prop where
 lab:a.1<1114112
 out:0≤a.2.1∧a.2.1≤1048576
 tgt:a.2.2≤1000000
theorem arcs_back (L:List (Nat × Int × Nat)):((List.range L.length).map fun j=>(arcBack L j).2).reverse=L:=by
 apply List.ext_getElem
 ·simp
 ·intro i h1 h2
  simp only [List.length_reverse,List.length_map,List.length_range] at h1
  rw [List.getElem_reverse]
  simp only [List.length_map,List.length_range,List.getElem_map,List.getElem_range,arcBack]
  rw [show L.length-1-(L.length-1-i)=i by omega]
  simp [List.getD,h1]
theorem arcBack_b {L:List (Nat × Int × Nat)} (h:∀ a∈L,ArcB a) (j:Nat):ArcB (arcBack L j).2:=by
 unfold arcBack
 by_cases hL:L.length-1-j<L.length
 ·exact h _ (getD_mem L (0,0,0) _ hL)
 ·simp only [List.getD,List.getElem?_eq_none (Nat.le_of_not_lt hL),Option.getD_none]
  exact ⟨by decide,by decide,by decide⟩
theorem Bld.row {w w':World} {B:Nat} {sA:Option Addr} {sn sc:Nat} {Z:List SV} {m1 m2:Nat} {Lk:List Value} {Bk:List Nat} {row:Option Nat} (h:Bld w B sA sn sc Z m1 m2 Lk Bk) (hg:w.grownBy w' row) (hr:∀ r,row=some r→∃ o:Obj,w.heap[r]? = some o∧o.isCells=false) (h1:row≠some m1) (h2:row≠some m2):Bld w' B sA sn sc Z m1 m2 Lk Bk:=by
 have hT:Touch (fun k=>row=some k) w w':=(Touch.refl _ _).grown hg (fun k e _=>e)
 exact ⟨h.blk.grown hg (blk_row hr (blk_ty h.blk)),own_touch h.own hT (fun g e1 e2=>blk_row hr (own_ty h.own e1) e2.symm),h.len,fun z hz=>(h.el z hz).touch hT (fun g hg e=>blk_row hr hg e.symm),h.lk.far hT h1,h.bk.far hT h2,h.ne,h.tab⟩
theorem fadd_any (w:World) (B:Nat) (sA:Option Addr) (sn sc:Nat) (Z:List SV) (m1 m2:Nat) (Lk:List Value) (Bk:List Nat) (hB:Bld w B sA sn sc Z m1 m2 Lk Bk) (s:SV) (hs:s.Ok w) (hb:∀ a∈s.arcs,ArcB a) (ho:0≤s.out∧s.out≤1048576) (hLn:Lk.length+s.n≤900000) (hsn:sn≤900000) :
  Calls Tryz.prog 137 #[.pointer (some ⟨B,0,none⟩),.agg #[.bool s.fin,.int .i64 s.out,.slice s.A s.n s.c]] w fun e w'=>∃ (i:Nat) (sA':Option Addr) (sn' sc':Nat) (Z':List SV) (Lk':List Value) (Bk':List Nat),e=.returned (.int .i64 i)∧Bld w' B sA' sn' sc' Z' m1 m2 Lk' Bk'∧(Z'.map SV.p,i)=addS (Z.map SV.p) s.p∧(∀ z∈Z',z∈Z∨z=s)∧Lk'.length≤Lk.length+s.n+1∧Fresh w (.slice sA sn sc) (.slice sA' sn' sc')∧Touch (fun g=>g=B∨g=m1∨g=m2∨(Value.slice sA sn sc).ownBlock=some g) w w':=by
 obtain ⟨i1,hi1,hz0,hz1,hz2⟩:=info_parts infoSt
 obtain ⟨fin,out,A,n,c,arcs⟩:=s
 simp only at ho hb hLn ⊢
 have hal:=hs.len
 have hard:=hs.rd
 simp only at hal hard
 have HB:=hide hB
 have HS:=hide hs
 have HAL:=hide hal
 have HARD:=hide hard
 have HAB:=hide hb
 have HLN:=hide hLn
 have HSN:=hide hsn
 have HO:=hide ho
 obtain ⟨w1,hw1⟩:∃ y,y=(w.alloc (.cells #[.pointer (some ⟨B,0,none⟩)] 159)).alloc (.cells #[.bool fin,.int .i64 out,.slice A n c] 170):=⟨_,rfl⟩
 have hT1:Touch (fun _=>False) w w1:=by rw [hw1];exact ((Touch.refl _ _).alloc _).alloc _
 have hbB:Blk w1 w.heap.size 159 #[.pointer (some ⟨B,0,none⟩)]:=by rw [hw1];exact (Blk.new _ _ _).alloc _
 have hbS:Blk w1 (w.heap.size+1) 170 #[.bool fin,.int .i64 out,.slice A n c]:=by rw [hw1];exact blk_new1 _ _ _ _
 have hB1:=hB.quiet hT1
 have hkn:=known_any w1 B _ _ m1 Lk hB1.blk hB1.lk (by omega) fin out 0 0 (-1) 0 (by unfold I64;omega) (by unfold I64;omega) (by unfold I64;omega) (by unfold I64;omega) (by unfold I64;omega) (endKey fin out) rfl
 unfold endKey at hkn
 have HT1:=hide hT1
 have HBB:=hide hbB
 have HBS:=hide hbS
 have HKN:=hide hkn
 have HW1:=hide hw1
 clear hB hs hal hard hb ho hLn hsn hw1 hT1 hbB hbS hB1 hkn
 refine (callsIn_wide (n:=10)).1 ?_
 refine callsIn_of_wp_marks Tryz.func137 rfl trivial ?_ rfl
 simp only [Tryz.ntmps137,List.size_toArray,List.length_cons,List.length_nil,Nat.reduceAdd,Nat.reduceSub,Array.replicate_succ,Array.replicate_zero,List.push_toArray,List.append_toArray,List.nil_append,List.cons_append]
 refine wpIn_wide.2 ?_
 go_wp2_with fail
 rw [← HW1.out]
 refine HKN.out.mono ?_
 rintro e w2 ⟨M0,k0,rfl,hk,hM,hI2,T2⟩
 obtain ⟨w3,hw3⟩:∃ y,y=w2.alloc (.cells #[.int .i64 k0] 3):=⟨_,rfl⟩
 have hT23:Touch (fun _=>False) w2 w3:=by rw [hw3];exact (Touch.refl _ _).alloc _
 have hw12:w1.heap.size≤w2.heap.size:=T2.size
 have T3:Touch (fun g=>g=m1) w1 w3:=T2.then (hT23.up _)
 have hkB:Blk w3 w2.heap.size 3 #[.int .i64 k0]:=by rw [hw3];exact Blk.new _ _ _
 have hbB3:=HBB.out.touch T3 (HB.out.lk.quiet HT1.out |>.ne (blk_ty HBB.out))
 have hbS3:=HBS.out.touch T3 (HB.out.lk.quiet HT1.out |>.ne (blk_ty HBS.out))
 have hb3b:=hbB3
 have hb3s:=hbS3
 rw [hw3] at hb3b hb3s
 obtain ⟨b0,b1,b2⟩:=hb3b.facts
 obtain ⟨s0,s1,s2⟩:=hb3s.facts
 have HW3:=hide hw3
 have HT3:=hide T3
 have HI3:=hide (hI2.quiet hT23)
 have HK:=hide hk
 have HM:=hide hM
 have HBB3:=hide hbB3
 have HBS3:=hide hbS3
 have HKBL:=hide hkB
 clear hk hM hI2 T2 hw3 hT23 T3 hkB hbB3 hbS3 hb3b hb3s
 go_wp2_with fail
 refine (backwarda_any _ A n c).mono ?_
 rintro e w4 ⟨Bs,rfl,hBs,T4⟩
 go_wp2_with fail
 refine (wpIn_wide (n:=10)).1 ?_
 have hT4:Touch (fun g=>g=m1) w1 w4:=by rw [← HW3.out] at T4;exact HT3.out.then (T4.up _)
 have hT34:Touch (fun _=>False) w3 w4:=by rw [HW3.out];exact T4
 have hI4:=HI3.out.quiet hT34
 have hBB4:=HBB3.out.touch hT34 (fun f=>f)
 have hBS4:=HBS3.out.touch hT34 (fun f=>f)
 have hKB4:=HKBL.out.touch hT34 (fun f=>f)
 have hAD4:RdT w4 173 3 A n (aCells arcs):=(HARD.out.quiet HT1.out).touch hT4 (fun g hg e=>(HB.out.lk.quiet HT1.out).ne hg e)
 have hm14:m1<w4.heap.size:=Nat.lt_of_lt_of_le (HB.out.lk.quiet HT1.out).lt hT4.size
 have hst:=backa_stops Bs w4 A n c arcs HAL.out hAD4 (by have:=HLN.out;unfold maxLen;omega) hBs
 have hw14:w1.heap.size≤w4.heap.size:=hT4.size
 have HT4:=hide hT4
 have HI4:=hide hI4
 have HBB4:=hide hBB4
 have HBS4:=hide hBS4
 have HKB4:=hide hKB4
 clear T4 hT4 hT34 hI4 hBB4 hBS4 hKB4 hAD4 b0 b1 b2 s0 s1 s2 HI3 HBB3 HBS3 HKBL
 refine wpIn_rangeFunc_ownH rfl (by decide) (gf := 149) (lb:=#[.pointer (some ⟨Bs,0,none⟩)]) rfl trivial (enters_of Tryz.func149 (by kernel_rfl) rfl)
  hst (fun h k=>KpP.trans h k) kpP_b (Below.refl _ _) (fun _=>rfl)
  (fun pre W=>∃ (M:List Value) (k:Nat),chainR (Lk++M) fin out (pre.map fun j=>(arcBack arcs j).2).reverse k∧M.length≤pre.length+1∧Itn W m1 281 (Lk++M)∧Blk W w2.heap.size 3 #[.int .i64 k]∧Blk W w.heap.size 159 #[.pointer (some ⟨B,0,none⟩)]∧Blk W (w.heap.size+1) 170 #[.bool fin,.int .i64 out,.slice A n c]∧Touch (fun g=>g=m1) w W)
  (fun _ _ _=>False)
  (fun pre X Y row hs hg hr=>by
    obtain ⟨M,k,h1,h2,h3,h4,h5,h6,h7⟩:=hs
    have hr2:∀ r,row=some r→∃ o:Obj,X.heap[r]? = some o∧o.isCells=false:=fun r e=>(hr r e).2
    have hT:Touch (fun k=>row=some k) X Y:=(Touch.refl _ _).grown hg (fun k e _=>e)
    refine ⟨M,k,h1,h2,h3.far hT (fun e=>by have:=(hr m1 e).1;omega),h4.grown hg (blk_row hr2 (blk_ty h4)),h5.grown hg (blk_row hr2 (blk_ty h5)),h6.grown hg (blk_row hr2 (blk_ty h6)),h7.grown hg (fun k e hk=>?_)⟩
    have h8:=(hr k e).1
    have h9:=HT1.out.size
    omega)
  (fun _ _ _ _ _ hs _ _=>hs)
  ?start
  (fun x a' W=>∃ Bx,Blk W Bx 173 #[.int .i32 ((arcBack arcs x).2.1:Int),.int .i64 (arcBack arcs x).2.2.1,.int .i64 ((arcBack arcs x).2.2.2:Int)]∧a'={ tmps:=#[.pointer (some ⟨B,0,none⟩),.agg #[.bool fin,.int .i64 out,.slice A n c],.pointer (some ⟨w.heap.size,0,none⟩),.pointer (some ⟨w.heap.size+1,0,none⟩),.int .i64 0,.pointer (some ⟨w2.heap.size,0,none⟩),undef,.pointer (some ⟨Bx,0,none⟩),undef,undef,.pointer (some ⟨B,0,none⟩),.pointer (some ⟨w.heap.size+1,0,none⟩),.bool fin,.pointer (some ⟨w.heap.size+1,1,none⟩),.int .i64 out,.agg #[.bool fin,.int .i64 out,.int .i64 0,.int .i64 0,.int .i64 (-1),.int .i64 0],.int .i64 k0,.pointer (some ⟨w.heap.size+1,2,none⟩),.slice A n c,.func (.func 149) #[] #[.pointer (some ⟨Bs,0,none⟩)],.int .i64 (arcBack arcs x).1,.agg #[.int .i32 ((arcBack arcs x).2.1:Int),.int .i64 (arcBack arcs x).2.2.1,.int .i64 ((arcBack arcs x).2.2.2:Int)],undef,undef,undef,undef,undef,undef,undef,undef,undef,undef,undef,undef,undef,undef,undef,undef,undef,undef,undef,undef,undef,undef,undef,undef,undef,undef,undef,undef,undef,undef,undef,undef,undef,undef,undef,undef,undef,undef,undef,undef,undef,undef,undef,undef,undef],defers:=[] })
  (fun x a' _ X Y row hs hg hr=>by
    obtain ⟨Bx,e1,e2⟩:=hs
    exact ⟨Bx,e1.grown hg (blk_row (fun r e=>(hr r e).2) (blk_ty e1)),e2⟩)
  ?assign ?body ?done ?stop
 case start =>
  refine ⟨M0,k0,HK.out,by have:=HM.out;simpa using this,HI4.out,HKB4.out,HBB4.out,HBS4.out,?_⟩
  exact (HT1.out.up _).then HT4.out
 case assign =>
  rintro l pre x W K ⟨M,k,h1,h2,h3,h4,h5,h6,h7⟩ hK
  simp only [arcEnc]
  gi_wp2
  have hT:=(Touch.refl (fun _=>False) W).alloc (.cells #[.int .i32 ((arcBack arcs x).2.1:Int),.int .i64 (arcBack arcs x).2.2.1,.int .i64 ((arcBack arcs x).2.2.2:Int)] 173)
  exact hK _ _ ((KeepsOthers.alloc _ _).from _) (KpP.of hT) ⟨M,k,h1,h2,h3.quiet hT,h4.alloc _,h5.alloc _,h6.alloc _,h7.then (hT.up _)⟩ ⟨W.heap.size,Blk.new _ _ _,rfl⟩
 case body =>
  rintro l pre x a' W _ _ ⟨M,k,h1,h2,h3,h4,h5,h6,h7⟩ ⟨Bx,hbx,rfl⟩ hlt
  have hab:=arcBack_b HAB.out x
  obtain ⟨⟨la,ua,tt⟩,hz⟩:∃ z,(arcBack arcs x).2=z:=⟨_,rfl⟩
  rw [hz] at hbx hab
  obtain ⟨q1,q2,q3⟩:=hab
  simp only at hbx q1 q2 q3
  have hkl:=chain_lt _ h1
  have hkb:k≤900001:=by
   rw [List.length_append] at hkl
   have:=HLN.out
   omega
  have hkI:(k:Int)≤900001:=by omega
  have hbW:Blk W B 163 #[.slice sA sn sc,.map (some m1),.map (some m2)]:=HB.out.blk.touch h7 (HB.out.lk.ne (blk_ty HB.out.blk))
  have z1:IntKind.i64.wrap (la:Int)=(la:Int):=IntWalk.i64_in _ (by omega)
  have z2:IntKind.i64.wrap ((k:Int)+1)=(k:Int)+1:=IntWalk.i64_in _ (by omega)
  have hkn:=known_any W B _ _ m1 (Lk++M) hbW h3 (by rw [List.length_append];have:=HLN.out;omega) false 0 (la:Int) ua (tt:Int) ((k:Int)+1) (by unfold I64;omega) (by unfold I64;omega) (by unfold I64;omega) (by unfold I64;omega) (by unfold I64;omega) (arcKey (la,ua,tt) k) rfl
  unfold arcKey at hkn
  obtain ⟨p0,p1,p2⟩:=hbx.facts
  obtain ⟨y0,y1,y2⟩:=h4.facts
  obtain ⟨b0,b1,b2⟩:=h5.facts
  have HKN:=hide (CallsIn.inRound l ((callsIn_wide (n:=7)).2 hkn))
  have H1:=hide h1
  have H2:=hide h2
  have H3:=hide h3
  have H4:=hide h4
  have H5:=hide h5
  have H6:=hide h6
  have H7:=hide h7
  have HZ:=hide hz
  clear h1 h2 h3 h4 h5 h6 h7 hz hkl hkb hbW hbx hkn
  rw [HZ.out]
  gi_wp2
  refine ⟨trivial,HKN.out.mono ?_⟩
  rintro e W2 ⟨M2,k2,rfl,hk2,hM2,hI2,T2⟩
  have h42:=H4.out.touch T2 (H3.out.ne (blk_ty H4.out))
  have h52:=H5.out.touch T2 (H3.out.ne (blk_ty H5.out))
  have h62:=H6.out.touch T2 (H3.out.ne (blk_ty H6.out))
  obtain ⟨r0,r1,r2⟩:=h42.facts
  have HK2:=hide hk2
  have HM2:=hide hM2
  have HI2:=hide hI2
  have HT2:=hide T2
  have H42:=hide h42
  have H52:=hide h52
  have H62:=hide h62
  clear hk2 hM2 hI2 T2 h42 h52 h62 HKN y0 y1 y2
  gi_wp2
  have hne:∀ g,TyAt W g 173 ∨ TyAt W g 168 → ¬ (g=m1∨g=w2.heap.size):=by
   rintro g (hg | hg) (e | e)
   ·exact H3.out.ne hg e
   ·exact hg.ne (blk_ty H4.out) (by decide) e
   ·exact H3.out.ne hg e
   ·exact hg.ne (blk_ty H4.out) (by decide) e
  have hTT:Touch (fun g=>g=m1∨g=w2.heap.size) W (W2.setCell ⟨w2.heap.size,0,none⟩ (.int .i64 k2)):=(HT2.out.mono (fun _ _ e=>.inl e)).setCell (p:=⟨w2.heap.size,0,none⟩) (fun _=>.inr rfl) _
  have hTs:Touch (fun g=>g=w2.heap.size) W2 (W2.setCell ⟨w2.heap.size,0,none⟩ (.int .i64 k2)):=(Touch.refl (fun g=>g=w2.heap.size) W2).setCell (p:=⟨w2.heap.size,0,none⟩) (fun _=>rfl) _
  refine ⟨keeps_t hTT ?_,KpP.touch hTT ?_,M++M2,k2,?_,?_,?_,?_,?_,?_,?_⟩
  ·rintro g (rfl | rfl)
   ·exact .inl hm14
   ·exact .inr ⟨_,blk_ty H4.out⟩
  ·rintro g t (rfl | rfl) hg
   ·exact hne g (.inl hg)
   ·exact hne g (.inr hg)
  ·rw [List.map_append,List.reverse_append]
   simp only [List.map_cons,List.map_nil,List.reverse_singleton,List.singleton_append,HZ.out]
   refine ⟨k,?_,?_⟩
   ·rw [← List.append_assoc]
    exact chain_ext _ H1.out
   ·rw [← List.append_assoc]
    exact HK2.out
  ·have:=H2.out
   have:=HM2.out
   simp only [List.length_append,List.length_singleton]
   omega
  ·rw [← List.append_assoc]
   exact HI2.out.far hTs (fun e=>HI2.out.ne (blk_ty H42.out) e.symm)
  ·have:=H42.out.set_ 0 (.int .i64 k2)
   simpa using this
  ·exact H52.out.far (fun e=>(blk_ty H52.out).ne (blk_ty H42.out) (by decide) e) _
  ·exact H62.out.far (fun e=>(blk_ty H62.out).ne (blk_ty H42.out) (by decide) e) _
  ·refine H7.out.trans hTT fun g hg e=>?_
   rcases e with e | e
   ·exact e
   ·have:=HT1.out.size
    omega
 case done =>
  rintro D ys W hD rfl ⟨M,k,h1,h2,h3,h4,h5,h6,h7⟩ hK
  rw [← HAL.out,arcs_back] at h1
  rw [List.length_range] at h2
  have hkl:=chain_lt _ h1
  have hkb:k≤900001:=by
   rw [List.length_append] at hkl
   have:=HLN.out
   omega
  have hbW:Blk W B 163 #[.slice sA sn sc,.map (some m1),.map (some m2)]:=HB.out.blk.touch h7 (HB.out.lk.ne (blk_ty HB.out.blk))
  have hm2:Itn W m2 3 (Bk.map natV):=HB.out.bk.far h7 (fun e=>HB.out.ne e.symm)
  have hbk:Bk.Nodup:=nodup_of_map natV HB.out.bk.nodup
  have htab:TabP (Lk++M) (Z.map SV.p) Bk:=HB.out.tab.ext
  have hbl:Bk.length=sn:=by rw [HB.out.tab.len,List.length_map,HB.out.len]
  have hkey:keyOf Tryz.prog 3 (.int .i64 (k:Int))=some (.int .i64 (k:Int)):=Maps.keyOf_int_mk Tryz.underlying3 (lit_wf (by unfold I64;omega))
  have hmu:Tryz.prog.underlying 161 = some (.map 3 3):=Tryz.underlying161
  obtain ⟨y0,y1,y2⟩:=h4.facts
  obtain ⟨b0,b1,b2⟩:=h5.facts
  obtain ⟨d0,d1,d2⟩:=hbW.facts
  have hbld:∀ W',Touch (fun _=>False) W W'→Bld W' B sA sn sc Z m1 m2 (Lk++M) Bk:=fun W' T =>
   ⟨hbW.touch T (fun f=>f),own_touch (own_touch HB.out.own h7 (fun g hg e=>HB.out.lk.ne (own_ty HB.out.own hg) e)) T (fun _ _ f=>f),HB.out.len,fun z hz=>((HB.out.el z hz).touch h7 (fun g hg e=>HB.out.lk.ne hg e)).touch T (fun _ _ f=>f),h3.quiet T,hm2.quiet T,HB.out.ne,htab⟩
  have HBLD:=hide hbld
  have H2:=hide h2
  have H7:=hide h7
  have HK:=hide hK
  by_cases hno:k∈Bk
  ·obtain ⟨i,hi,hil⟩:=List.getElem_of_mem hno
   have hi2:Bk[i]? = some k:=by rw [List.getElem?_eq_getElem hi,hil]
   have hi3:(Bk.map natV)[i]? = some (.int .i64 (k:Int)):=by rw [List.getElem?_map,hi2];rfl
   have hlk:∀ n,(Instr.lookup 161 (.map (some m2)) (.int .i64 (k:Int)) true).run Tryz.prog (W.drewN n)=.ok (.tuple #[.int .i64 i,.bool true]) (W.drewN n):=fun n=>(hm2.quiet ((Touch.refl _ _).drewN n)).yes num_keyed hmu hkey hi3
   have hadd:=htab.old h3.nodup hbk (s:=⟨fin,out,arcs⟩) h1 hi2
   have HADD:=hide hadd
   clear h1 h2 h3 h4 h5 h6 h7 hkl hkb hbW hm2 hbk htab hbl hkey hmu hbld hno hi hil hi2 hi3 hadd hK hst HKN
   go_wp2_with fail
   go_quiet (fail)
   go_wp2_with fail
   refine ⟨by simp,.inl ⟨_,_,rfl,run_takeDeferred (show (W.drewN nq).heap[D]? = _ from HK.out),?_⟩⟩
   have hT:=(Touch.refl (fun _=>False) W).drewN nq
   have hg:=grownBy_putObj' (W.drewN nq) D (.deferred none)
   have hlt2:m2<w4.heap.size:=by
    have h1:=HB.out.bk.lt
    have h2:=HT1.out.size
    omega
   refine ⟨.int .i64 i,by simp [results,Tryz.f137,go_sem],i,sA,sn,sc,Z,Lk++M,Bk,rfl,(HBLD.out _ hT).row hg (fun r e=>by cases e;exact ⟨_,HK.out,rfl⟩) (fun e=>by cases e;omega) (fun e=>by cases e;omega),HADD.out.symm,fun z hz=>.inl hz,by rw [List.length_append];have:=H2.out;omega,.inl rfl,?_⟩
   refine ((H7.out.mono (fun g _ e=>.inr (.inl e))).then (hT.up _)).grown hg (fun g e hlt=>?_)
   cases e
   have:=HT1.out.size
   omega
  ·have hlk:∀ n,(Instr.lookup 161 (.map (some m2)) (.int .i64 (k:Int)) true).run Tryz.prog (W.drewN n)=.ok (.tuple #[.int .i64 0,.bool false]) (W.drewN n):=fun n=>(hm2.quiet ((Touch.refl _ _).drewN n)).no num_keyed hmu hkey (fun hm=>by
    obtain ⟨x,hx,e⟩:=List.mem_map.1 hm
    unfold natV at e
    injection e with _ e
    exact hno (by rw [show k=x by omega];exact hx))
   have hadd:=htab.new h3.nodup (s:=⟨fin,out,arcs⟩) h1 hno
   have HADD:=hide hadd
   have HNO:=hide hno
   have HKEY:=hide hkey
   have HMU:=hide hmu
   have HBL:=hide hbl
   have hS6:=h6
   have H6:=hide h6
   have H4:=hide h4
   have H5:=hide h5
   clear h1 h2 h3 h4 h5 h6 h7 hkl hkb hbW hm2 hbk htab hbl hkey hmu hbld hno hadd hK hst HKN hS6
   go_wp2_with fail
   go_quiet (fail)
   obtain ⟨W5,hW5⟩:∃ y,y=W.drewN nq:=⟨_,rfl⟩
   rw [← hW5]
   have hT5:Touch (fun _=>False) W W5:=by rw [hW5];exact (Touch.refl _ _).drewN _
   have hB5:=HBLD.out W5 hT5
   have hS5:=H6.out.touch hT5 (fun f=>f)
   have hK5:=H4.out.touch hT5 (fun f=>f)
   have hBB5:=H5.out.touch hT5 (fun f=>f)
   clear y0 y1 y2 b0 b1 b2 d0 d1 d2 hlk hW5
   obtain ⟨y0,y1,y2⟩:=hK5.facts
   obtain ⟨b0,b1,b2⟩:=hBB5.facts
   obtain ⟨d0,d1,d2⟩:=hB5.blk.facts
   obtain ⟨s0,s1,s2⟩:=hS5.facts
   have HT5:=hide hT5
   have HB5:=hide hB5
   have HS5:=hide hS5
   have HK5:=hide hK5
   have HBB5:=hide hBB5
   have hsnI:(sn:Int)≤900000:=by have:=HSN.out;omega
   clear hT5 hB5 hS5 hK5 hBB5
   have hib1:sn+1≤maxLen:=by unfold maxLen;omega
   have hib2:(sn+1)*40≤140737488355328:=by omega
   have HIB:=hide (And.intro hib1 hib2)
   have hnB:some B≠(Value.slice sA sn sc).ownBlock:=fun e=>(own_ty HB5.out.own e.symm).ne (blk_ty HB5.out.blk) (by decide) rfl
   have HNB:=hide hnB
   have hnX:some w.heap.size≠(Value.slice sA sn sc).ownBlock:=fun e=>(own_ty HB5.out.own e.symm).ne (blk_ty HBB5.out) (by decide) rfl
   have HNX:=hide hnX
   clear hib1 hib2 hnB hnX
   go_wp2_with fail
   refine wp_mono (Q:=Exit.then (fun a w'=>∃ (g4 cap4:Nat) (w9:World) (v56:Value),w'=w9.setCell ⟨B,0,none⟩ (.slice (some ⟨g4,0,none⟩) (sn+1) cap4)∧w9.ownsRow 0 170 3 (.slice (some ⟨g4,0,none⟩) (sn+1) cap4) (sn+1) (sCells Z++[.bool fin,.int .i64 out,.slice A n c])∧((W5.alloc (.cells #[.bool fin,.int .i64 out,.slice A n c] 170)).drew.grownBy w9 (Value.slice sA sn sc).ownBlock)∧Fresh W5 (.slice sA sn sc) (.slice (some ⟨g4,0,none⟩) (sn+1) cap4)∧a={ tmps:=#[.pointer (some ⟨B,0,none⟩),.agg #[.bool fin,.int .i64 out,.slice A n c],.pointer (some ⟨w.heap.size,0,none⟩),.pointer (some ⟨w.heap.size+1,0,none⟩),.int .i64 0,.pointer (some ⟨w2.heap.size,0,none⟩),undef,undef,.int .i64 sn,.bool false,.pointer (some ⟨B,0,none⟩),.pointer (some ⟨w.heap.size+1,0,none⟩),.bool fin,.pointer (some ⟨w.heap.size+1,1,none⟩),.int .i64 out,.agg #[.bool fin,.int .i64 out,.int .i64 0,.int .i64 0,.int .i64 (-1),.int .i64 0],.int .i64 k0,.pointer (some ⟨w.heap.size+1,2,none⟩),.slice A n c,.func (.func 149) #[] #[.pointer (some ⟨Bs,0,none⟩)],undef,undef,undef,undef,undef,undef,undef,undef,undef,undef,undef,undef,undef,undef,.tuple #[.int .i64 0,.bool false],.pointer (some ⟨B,0,none⟩),.pointer (some ⟨B,0,none⟩),.pointer (some ⟨B,2,none⟩),.map (some m2),.int .i64 k,.tuple #[.int .i64 0,.bool false],.int .i64 0,.bool false,.bool false,.bool true,.pointer (some ⟨B,0,none⟩),.pointer (some ⟨B,0,none⟩),.pointer (some ⟨B,0,none⟩),.slice sA sn sc,.int .i64 sn,.pointer (some ⟨B,0,none⟩),.pointer (some ⟨B,0,none⟩),.pointer (some ⟨B,0,none⟩),.pointer (some ⟨B,0,none⟩),.slice sA sn sc,.agg #[.bool fin,.int .i64 out,.slice A n c],v56,.slice (some ⟨g4,0,none⟩) (sn+1) cap4,.pointer (some ⟨B,0,none⟩),.pointer (some ⟨B,0,none⟩),undef,undef,undef,undef,undef,undef,undef],defers:=[{ target:=.collected D,args:=#[] }] }) (fun _ _ _=>False)) ?region ?after
   case region =>
    go_region_law (refine step_append_lies _ rfl (.tmp 54) (.tmp 56) 87 rfl 0 170 i1 _ 3 40 Tryz.underlying87 hi1 hz0 hz1 hz2 (by decide) (by decide) (.slice sA sn sc) sn _ (by simp [Act.eval]) (own_touch HB5.out.own ((Touch.refl _ _).alloc _).drew (fun _ _ f=>f)) ⟨W5.heap.size,0,none⟩ 1 1 [.bool fin,.int .i64 out,.slice A n c] (by simp [Act.eval]) rfl ?news ?one (by decide) HIB.out.1 HIB.out.2 (Nat.zero_le _) _ rfl ?_;(case news=>exact World.news_of_block (Blk.new W5 _ _));(case one=>exact List.all_eq_true.1 rfl);intro g4 cap4 w9 hown hgrow hlies _;have hbC:=((HB5.out.blk.alloc (.cells #[.bool fin,.int .i64 out,.slice A n c] 170)).drew).grown hgrow HNB.out;obtain ⟨q1,q2,q3⟩:=hbC.facts;have hbD:=((HBB5.out.alloc (.cells #[.bool fin,.int .i64 out,.slice A n c] 170)).drew).grown hgrow HNX.out;obtain ⟨r1,r2,r3⟩:=hbD.facts;have HBD:=hide hbD;have HBC:=hide hbC;have HOWN:=hide hown;have HGR:=hide hgrow;have HLI:=hide hlies;clear hbC hbD hown hgrow hlies)
    all_goals
     exact ⟨g4,cap4,w9,_,rfl,HOWN.out,HGR.out,(by
      rcases HLI.out with e | e
      ·exact .inl e.symm
      ·exact .inr ⟨g4,rfl,by rw [e];simp⟩),rfl⟩
   intro e a w10 hq
   cases e<;>first | exact hq.elim | skip
   obtain ⟨g4,cap4,w9,v56,rfl,hown,hgr,hfr,rfl⟩:=hq
   have hT59:Touch (fun g=>(Value.slice sA sn sc).ownBlock=some g) W5 w9:=(((Touch.refl _ W5).alloc _).drew).grown hgr (fun k e _=>e)
   have hT510:Touch (fun g=>g=B∨(Value.slice sA sn sc).ownBlock=some g) W5 (w9.setCell ⟨B,0,none⟩ (.slice (some ⟨g4,0,none⟩) (sn+1) cap4)):=(hT59.mono (fun _ _ e=>.inr e)).setCell (p:=⟨B,0,none⟩) (fun _=>.inl rfl) _
   have hb9:=HB5.out.blk.touch hT59 (fun e=>HNB.out e.symm)
   have hb10:Blk (w9.setCell ⟨B,0,none⟩ (.slice (some ⟨g4,0,none⟩) (sn+1) cap4)) B 163 #[.slice (some ⟨g4,0,none⟩) (sn+1) cap4,.map (some m1),.map (some m2)]:=by
    have:=hb9.set_ 0 (.slice (some ⟨g4,0,none⟩) (sn+1) cap4)
    simpa using this
   have hnot:∀ {g:Nat} {t:TypeId},TyAt W5 g t→t ≠ 163 → t ≠ 170 → ¬ (g=B∨(Value.slice sA sn sc).ownBlock=some g):=by
    rintro g t hg h1 h2 (e | e)
    ·exact hg.ne (blk_ty HB5.out.blk) h1 e
    ·exact (own_ty HB5.out.own e).ne hg (fun e=>h2 e.symm) rfl
   have hbb10:=HBB5.out.touch hT510 (hnot (blk_ty HBB5.out) (by decide) (by decide))
   have hk10:=HK5.out.touch hT510 (hnot (blk_ty HK5.out) (by decide) (by decide))
   have hi1:=HB5.out.lk.far hT510 (by
    rintro (e | e)
    ·exact HB5.out.lk.ne (blk_ty HB5.out.blk) e.symm
    ·exact HB5.out.lk.ne (own_ty HB5.out.own e) rfl)
   have hi2:=HB5.out.bk.far hT510 (by
    rintro (e | e)
    ·exact HB5.out.bk.ne (blk_ty HB5.out.blk) e.symm
    ·exact HB5.out.bk.ne (own_ty HB5.out.own e) rfl)
   have hown10:=own_setCell_far hown (a:=⟨B,0,none⟩) (fun e=>by
    rcases hfr with e2 | ⟨g,e2,hle⟩
    ·exact HNB.out (e.symm.trans e2)
    ·rw [e2] at e
     have h1:=HB5.out.blk.lt
     injection e with e
     simp only at e
     omega) (.slice (some ⟨g4,0,none⟩) (sn+1) cap4)
   obtain ⟨W10,hW10⟩:∃ y,y=w9.setCell ⟨B,0,none⟩ (.slice (some ⟨g4,0,none⟩) (sn+1) cap4):=⟨_,rfl⟩
   rw [← hW10] at hT510 hb10 hbb10 hk10 hi1 hi2 hown10 ⊢
   obtain ⟨o,hup,hi3⟩:=(hi2.quiet (Touch.refl _ _).drew).put num_keyed HMU.out HKEY.out (fun hm=>by
    obtain ⟨x,hx,e⟩:=List.mem_map.1 hm
    unfold natV at e
    injection e with _ e
    exact HNO.out (by rw [show k=x by omega];exact hx))
   rw [List.length_map,HBL.out] at hup
   clear y0 y1 y2 b0 b1 b2 d0 d1 d2 s0 s1 s2
   obtain ⟨y0,y1,y2⟩:=hk10.facts
   obtain ⟨b0,b1,b2⟩:=hbb10.facts
   obtain ⟨d0,d1,d2⟩:=hb10.facts
   have HHT:=hide hT510
   have HHB:=hide hb10
   have HHO:=hide hown10
   have HH1:=hide hi1
   have HH3:=hide hi3
   have HHF:=hide hfr
   have HHN:Hid (∀ {g:Nat} {t:TypeId},TyAt W5 g t→t ≠ 163 → t ≠ 170 → ¬ (g=B∨(Value.slice sA sn sc).ownBlock=some g)):=hide hnot
   clear hT59 hT510 hb9 hb10 hnot hbb10 hk10 hi1 hi2 hown10 hW10 hfr hgr hi3 hown
   go_wp2_with fail
   refine wp_mono (Q:=Exit.then (fun a w'=>w'=setBlock W10.drew m2 o∧a={ tmps:=#[.pointer (some ⟨B,0,none⟩),.agg #[.bool fin,.int .i64 out,.slice A n c],.pointer (some ⟨w.heap.size,0,none⟩),.pointer (some ⟨w.heap.size+1,0,none⟩),.int .i64 0,.pointer (some ⟨w2.heap.size,0,none⟩),undef,undef,.int .i64 sn,.bool false,.pointer (some ⟨B,0,none⟩),.pointer (some ⟨w.heap.size+1,0,none⟩),.bool fin,.pointer (some ⟨w.heap.size+1,1,none⟩),.int .i64 out,.agg #[.bool fin,.int .i64 out,.int .i64 0,.int .i64 0,.int .i64 (-1),.int .i64 0],.int .i64 k0,.pointer (some ⟨w.heap.size+1,2,none⟩),.slice A n c,.func (.func 149) #[] #[.pointer (some ⟨Bs,0,none⟩)],undef,undef,undef,undef,undef,undef,undef,undef,undef,undef,undef,undef,undef,undef,.tuple #[.int .i64 0,.bool false],.pointer (some ⟨B,0,none⟩),.pointer (some ⟨B,0,none⟩),.pointer (some ⟨B,2,none⟩),.map (some m2),.int .i64 k,.tuple #[.int .i64 0,.bool false],.int .i64 0,.bool false,.bool false,.bool true,.pointer (some ⟨B,0,none⟩),.pointer (some ⟨B,0,none⟩),.pointer (some ⟨B,0,none⟩),.slice sA sn sc,.int .i64 sn,.pointer (some ⟨B,0,none⟩),.pointer (some ⟨B,0,none⟩),.pointer (some ⟨B,0,none⟩),.pointer (some ⟨B,0,none⟩),.slice sA sn sc,.agg #[.bool fin,.int .i64 out,.slice A n c],v56,.slice (some ⟨g4,0,none⟩) (sn+1) cap4,.pointer (some ⟨B,0,none⟩),.pointer (some ⟨B,0,none⟩),.pointer (some ⟨B,0,none⟩),.pointer (some ⟨B,0,none⟩),.pointer (some ⟨B,2,none⟩),.map (some m2),.int .i64 k,.int .i64 sn,undef],defers:=[{ target:=.collected D,args:=#[] }] }) (fun _ _ _=>False)) ?region2 ?after2
   case region2 =>
    go_region
    all_goals
     exact ⟨rfl,rfl⟩
   intro e a w11 hq
   cases e<;>first | exact hq.elim | skip
   obtain ⟨rfl,rfl⟩:=hq
   clear y0 y1 y2 b0 b1 b2 d0 d1 d2 hup
   go_wp2_with fail
   have hTw:Touch (fun g=>g=m1) w W5:=H7.out.then (HT5.out.up _)
   have hT3:Touch (fun g=>g=m2) W10 (setBlock W10.drew m2 o):=((Touch.refl _ _).drew).then (touch_setBlock _ _ _)
   have hT5e:Touch (fun g=>(g=B∨(Value.slice sA sn sc).ownBlock=some g)∨g=m2) W5 (setBlock W10.drew m2 o):=(HHT.out.mono (fun _ _ e=>.inl e)).then (hT3.mono (fun _ _ e=>.inr e))
   have hBlt:=HB.out.blk.lt
   have hm2lt:=HB.out.bk.lt
   have h1s:=HT1.out.size
   have hD5:W5.heap[D]? = some (.deferred (some [])):=(HT5.out.block D (Array.getElem?_eq_some_iff.1 HK.out).1 (fun f=>f)).trans HK.out
   have hDe:(setBlock W10.drew m2 o).heap[D]? = some (.deferred (some [])):=(hT5e.block D (Array.getElem?_eq_some_iff.1 hD5).1 (by
    rintro ((e | e) | e)
    ·omega
    ·obtain ⟨cs,_,e2⟩:=own_ty HB5.out.own e
     rw [hD5] at e2
     cases e2
    ·omega)).trans hD5
   have hnA:∀ g,TyAt W5 g 173 → ¬ ((g=B∨(Value.slice sA sn sc).ownBlock=some g)∨g=m2):=by
    rintro g hg (e | e)
    ·exact HHN.out hg (by decide) (by decide) e
    ·exact HB5.out.bk.ne hg e
   have hbld:Bld (setBlock W10.drew m2 o) B (some ⟨g4,0,none⟩) (sn+1) cap4 (Z++[⟨fin,out,A,n,c,arcs⟩]) m1 m2 (Lk++M) (Bk++[k]):=by
    refine ⟨HHB.out.touch hT3 (fun e=>?_),?_,by rw [List.length_append,HB.out.len];rfl,?_,HH1.out.far hT3 HB.out.ne,?_,HB.out.ne,?_⟩
    ·exact HB.out.bk.ne (blk_ty HB.out.blk) e
    ·rw [sCells_app]
     refine own_touch HHO.out hT3 (fun g hg e=>?_)
     have h1:=HHT.out.size
     rcases HHF.out with e2 | ⟨g',e2,hle⟩
     ·exact HB5.out.bk.ne (own_ty HB5.out.own (e2.symm.trans hg)) e
     ·rw [e2] at hg
      injection hg with hg
      have:=HB5.out.bk.lt
      omega
    ·intro z hz
     rcases List.mem_append.1 hz with hz | hz
     ·exact (HB5.out.el z hz).touch hT5e hnA
     ·rw [List.mem_singleton.1 hz]
      exact (HS.out.touch hTw (fun g hg e=>HB.out.lk.ne hg e)).touch hT5e hnA
    ·rw [List.map_append]
     exact HH3.out
    ·rw [List.map_append]
     exact HADD.out.2
   refine ⟨by simp,.inl ⟨_,_,rfl,run_takeDeferred hDe,?_⟩⟩
   have hg:=grownBy_putObj' (setBlock W10.drew m2 o) D (.deferred none)
   refine ⟨.int .i64 sn,by simp [results,Tryz.f137,go_sem],sn,some ⟨g4,0,none⟩,sn+1,cap4,Z++[⟨fin,out,A,n,c,arcs⟩],Lk++M,Bk++[k],rfl,hbld.row hg (fun r e=>by cases e;exact ⟨_,hDe,rfl⟩) (fun e=>by cases e;omega) (fun e=>by cases e;omega),?_,fun z hz=>(List.mem_append.1 hz).elim .inl (fun h=>.inr (List.mem_singleton.1 h)),by rw [List.length_append];have:=H2.out;omega,?_,?_⟩
   ·show _=addS (Z.map SV.p) ⟨fin,out,arcs⟩
    rw [HADD.out.1,List.map_append,List.length_map,HB.out.len]
    rfl
   ·rcases HHF.out with e2 | ⟨g',e2,hle⟩
    ·exact .inl e2
    ·exact .inr ⟨g',e2,Nat.le_trans hTw.size hle⟩
   ·refine ((hTw.mono (T:=fun g=>g=B∨g=m1∨g=m2∨(Value.slice sA sn sc).ownBlock=some g) (fun g _ e=>.inr (.inl e))).then (hT5e.mono (fun g _ e=>?_))).grown hg (fun g e hlt=>?_)
    ·rcases e with (e | e) | e
     ·exact .inl e
     ·exact .inr (.inr (.inr e))
     ·exact .inr (.inr (.inl e))
    ·cases e
     omega
 case stop =>
  rintro D c pre W _ _ hf
  exact hf.elim
end Go.Proofs.YthockgmbooefpaaGreatDoor
namespace Go.Proofs.YthockgmbooefpaaGreatDoor
def behR (R:Rs) (c:Nat):Rs:=(underR R c).map fun r=>(c :: r.1,r.2)
theorem behR_len (R:Rs) (c:Nat):(behR R c).length=(underR R c).length:=by simp [behR]
theorem mem_beh {R:Rs} {c:Nat} {x:List Nat} {n:Int}:(x,n)∈behR R c↔∃ t,x=c :: t∧(t,n)∈underR R c:=by
 unfold behR
 rw [List.mem_map]
 constructor
 ·rintro ⟨⟨t,m⟩,hr,e⟩
  simp only [Prod.mk.injEq] at e
  obtain ⟨rfl,rfl⟩:=e
  exact ⟨t,rfl,hr⟩
 ·rintro ⟨t,rfl,h⟩
  exact ⟨(t,n),h,rfl⟩
theorem beh_sorted {R:Rs} (h:SortR R) (c:Nat):SortR (behR R c):=by
 unfold behR SortR
 rw [List.pairwise_map]
 have:=sort_under c h
 unfold SortR at this
 refine this.imp fun {a b} hab=>?_
 unfold ltR at hab ⊢
 simp only
 rw [lexN_cons]
 exact hab
theorem split_sorted {R:Rs} (h:SortR R):R=(if finR R=true then [([],outR R)] else [])++(firstsR R).flatMap (behR R):=by
 refine sort_ext h ?_ ?_
 ·unfold SortR
  rw [List.pairwise_append]
  refine ⟨?_,?_,?_⟩
  ·split
   ·exact List.pairwise_singleton _ _
   ·exact List.Pairwise.nil
  ·rw [List.pairwise_flatMap]
   refine ⟨fun c _=>beh_sorted h c,(firsts_sorted h).imp fun {a b} hab x hx y hy=>?_⟩
   obtain ⟨x,n⟩:=x
   obtain ⟨y,m⟩:=y
   obtain ⟨t,rfl,_⟩:=mem_beh.1 hx
   obtain ⟨t',rfl,_⟩:=mem_beh.1 hy
   unfold ltR
   simp only [lexN]
   rw [if_neg (by omega)]
   simpa using hab
  ·intro x hx y hy
   split at hx
   ·rw [List.mem_singleton] at hx
    subst hx
    obtain ⟨c,_,hc⟩:=List.mem_flatMap.1 hy
    obtain ⟨y,m⟩:=y
    obtain ⟨t,rfl,_⟩:=mem_beh.1 hc
    rfl
   ·cases hx
 ·rintro ⟨x,n⟩
  rw [List.mem_append,List.mem_flatMap]
  constructor
  ·intro hx
   cases x with
   | nil =>
    left
    rw [if_pos (finR_iff.2 ⟨n,hx⟩),outR_mem h hx]
    exact List.mem_singleton.2 rfl
   | cons c t =>
    right
    have h1:=mem_under.2 hx
    exact ⟨c,mem_firsts.2 (List.ne_nil_of_mem h1),mem_beh.2 ⟨t,rfl,h1⟩⟩
  ·rintro (hx | ⟨c,_,hc⟩)
   ·split at hx
    ·rename_i hf
     rw [List.mem_singleton] at hx
     simp only [Prod.mk.injEq] at hx
     obtain ⟨rfl,rfl⟩:=hx
     obtain ⟨m,hm⟩:=finR_iff.1 hf
     rw [outR_mem h hm]
     exact hm
    ·cases hx
   ·obtain ⟨t,rfl,h1⟩:=mem_beh.1 hc
    exact mem_under.1 h1
section
variable {k:KnP} (hk:Good k) {s:Nat} {z:StP} (hz:k.states[s]? = some z)
include hk hz
end
end Go.Proofs.YthockgmbooefpaaGreatDoor
