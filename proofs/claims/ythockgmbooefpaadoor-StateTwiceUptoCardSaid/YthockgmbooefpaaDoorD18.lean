/- What the law rests on, part 18. No condition but those that each theorem names. -/
import Derived.Test.YthockgmbooefpaaDoorD17
set_option linter.unusedSectionVars false
set_option linter.unusedSimpArgs false
set_option linter.unusedVariables false
namespace Go.Proofs.YthockgmbooefpaaDoor
open Go.RowKit
theorem own_nought (w:World) (e:TypeId) (size:Nat):(w.alloc (.cells #[] e)).ownsRow 0 e size (.slice (some ⟨w.heap.size,0,none⟩) 0 0) 0 [] :=
 ⟨by simp,.inr ⟨w.heap.size,0,#[],rfl,Nat.zero_le _,heap_alloc_new _ _,Nat.le_refl _,Nat.zero_le _,by simp,by simp⟩⟩
theorem run_eql_arcs (w:World) (a:Option Addr) (l c:Nat):(binOp .eql 106 (.slice a l c) (.slice none 0 0)).run Tryd.prog w=.ok (.bool a.isNone) w:=by
 simp only [binOp]
 simp [run_equal_slice_nil (P:=Tryd.prog) w 106 110 a l c Tryd.underlying106]
structure Cln (w w':World) (A:Option Addr) (n c:Nat) (arcs:List (Nat × Int × Nat)):Prop where
 own:w'.ownsRow 0 110 3 (.slice A n c) n (aCells arcs)
 young:∀ g,adBlock A=some g→w.heap.size≤g
 touch:Touch (fun _=>False) w w'
set_option maxRecDepth 100000 in
set_option maxHeartbeats 1000000 in
theorem clone_rd (w:World) (A:Option Addr) (n c:Nat) (arcs:List (Nat × Int × Nat)) (hl:arcs.length=n) (hr:Reads w 3 A n (aCells arcs)) (hn:n≤2097152) :
  Calls Tryd.prog 76 #[.slice A n c] w fun e w'=>∃ A' c',e=.returned (.slice A' n c')∧Cln w w' A' n c' arcs:=by
 cases A with
 | none =>
  have h0:n=0:=by
   rcases Nat.eq_zero_or_pos n with h | h
   ·exact h
   ·obtain ⟨b,o,hA,_⟩:=hr.2 h
    cases hA
  subst h0
  have:arcs=[]:=List.length_eq_zero_iff.1 hl
  subst this
  have hmn:=fun wx=>run_eql_arcs wx none 0 c
  clear hl hr hn
  go_enter Tryd.func76,Tryd.ntmps76
  go_wp2_with fail
  go_ret
  exact ⟨none,0,rfl,World.ownsRow_nil _ _ _ _,fun g h=>(by cases h),Touch.refl _ _⟩
 | some a =>
  obtain ⟨i1,hi1,hy0,hy1,hy2⟩:=info_parts infoArc
  have HR:=hide hr
  have hcl:∀ u∈aCells arcs,u.oneCell'=true:=by
   intro u hu
   obtain ⟨x,_,hx⟩:=List.mem_flatMap.1 hu
   simp only [List.mem_cons,List.not_mem_nil,or_false] at hx
   rcases hx with rfl | rfl | rfl<;>rfl
  have HC:=hide hcl
  have hO:=own_nought w 110 3
  have HO:=hide hO
  have hT:Touch (fun _=>False) w (w.alloc (.cells #[] 110)):=(Touch.refl _ _).alloc _
  have HT:=hide hT
  have hb1:0+n≤maxLen:=by unfold maxLen;omega
  have hb2:(0+n)*24≤140737488355328:=by omega
  have HB:=hide (And.intro hb1 hb2)
  have HRD:=hide (hr.touch hT (fun _ _ f=>f))
  have hmn:=fun wx=>run_eql_arcs wx (some a) n c
  clear hr hcl hO hT hb1 hb2 hn hl
  go_enter Tryd.func76,Tryd.ntmps76
  go_wp2_with (at_builtin;refine wpList_app _ rfl (.tmp 5) (.tmp 6) 106 rfl 110 i1 _ 3 24 Tryd.underlying106 hi1 hy0 hy1 hy2 rfl (by decide) (.slice (some ⟨w.heap.size,0,none⟩) 0 0) 0 _ rfl HO.out (some a) n c (aCells arcs) rfl HRD.out (fun h=>by cases h) HC.out HB.out.1 HB.out.2 ?_;intro v1 w10 O10 G10 F10 _;rw [Nat.zero_add,List.nil_append] at O10;obtain ⟨A2,c2,hv,_,_⟩:=own_len O10;subst hv;have HO10:=hide O10;have HG:=hide G10;have HF:=hide F10;clear O10 G10 F10)
  go_ret
  refine ⟨A2,c2,rfl,HO10.out,fun g hg=>?_,HT.out.trans ((Touch.refl (fun y=>y=w.heap.size) _).grown HG.out (fun k hk _=>by injection hk with hk;exact hk.symm)) (fun i hi e=>by omega)⟩
  have hg2:(Value.slice A2 n c2).ownBlock=some g:=by
   cases A2 with
   | none=>cases hg
   | some a2=>exact hg
  rcases HF.out with h | ⟨g2,h,hle⟩
  ·rw [hg2] at h
   injection h with h
   have h2:g=w.heap.size:=h
   omega
  ·rw [hg2] at h
   injection h with h
   have:=HT.out.size
   omega
theorem clone_any (w:World) (A:Option Addr) (n c:Nat) (arcs:List (Nat × Int × Nat)) (hl:arcs.length=n) (hr:RdT w 110 3 A n (aCells arcs)) (hn:n≤2097152) :
  Calls Tryd.prog 76 #[.slice A n c] w fun e w'=>∃ A' c',e=.returned (.slice A' n c')∧Cln w w' A' n c' arcs:=clone_rd w A n c arcs hl hr.rd hn
end Go.Proofs.YthockgmbooefpaaDoor
namespace Go.Proofs.YthockgmbooefpaaDoor
open Go.RowKit
def intV (x:Int):Value:=.int .i64 x
structure NewI (w wr:World) (b:Nat) (base:Int) (A:Option Addr) (i c:Nat) (Z:List SV) (wA:Option Addr) (k wc:Nat) (W:List Int):Prop where
 blk:Blk wr b 124 #[.int .i64 base,.slice A i c,.slice wA k wc]
 own:wr.ownsRow 0 108 3 (.slice A i c) i (sCells Z)
 wds:wr.ownsRow 0 3 1 (.slice wA k wc) k (W.map intV)
 el:∀ z∈Z,z.Ok wr
 yA:∀ g,(Value.slice A i c).ownBlock=some g→w.heap.size≤g
 yW:∀ g,(Value.slice wA k wc).ownBlock=some g→w.heap.size≤g
 yZ:∀ z∈Z,∀ g,adBlock z.A=some g→w.heap.size≤g
 yb:w.heap.size≤b
 touch:Touch (fun _=>False) w wr
theorem NewI.quiet {w wr v:World} {b:Nat} {base:Int} {A:Option Addr} {i c:Nat} {Z:List SV} {wA:Option Addr} {k wc:Nat} {W:List Int} (h:NewI w wr b base A i c Z wA k wc W) (T:Touch (fun _=>False) wr v):NewI w v b base A i c Z wA k wc W :=
 ⟨h.blk.touch T (fun f=>f),own_touch h.own T (fun _ _ f=>f),own_touch h.wds T (fun _ _ f=>f),fun z hz=>(h.el z hz).touch T (fun _ _ f=>f),h.yA,h.yW,h.yZ,h.yb,h.touch.then T⟩
theorem NewI.state {w v v4:World} {b:Nat} {base:Int} {A A4:Option Addr} {i c c4:Nat} {Z:List SV} {wA:Option Addr} {k wc:Nat} {W:List Int} {z:SV} (h:NewI w v b base A i c Z wA k wc W) (hz:z.Ok v) (hy:∀ g,adBlock z.A=some g→w.heap.size≤g)
  (hown:v4.ownsRow 0 108 3 (.slice A4 (i+1) c4) (i+1) (sCells Z++z.cells)) (hg:v.grownBy v4 (Value.slice A i c).ownBlock) (hf:Fresh v (.slice A i c) (.slice A4 (i+1) c4)) :
  NewI w (v4.setCell ⟨b,1,none⟩ (.slice A4 (i+1) c4)) b base A4 (i+1) c4 (Z++[z]) wA k wc W:=by
 have T:Touch (fun x=>(Value.slice A i c).ownBlock=some x) v v4:=(Touch.refl _ _).grown hg (fun k hk _=>hk)
 have hbv:=h.blk.grown hg (fun e=>(own_ty h.own e.symm).ne (blk_ty h.blk) (by decide) rfl)
 have T2:Touch (fun x=>(Value.slice A i c).ownBlock=some x∨x=b) v (v4.setCell ⟨b,1,none⟩ (.slice A4 (i+1) c4)):=(T.mono (fun _ _ e=>.inl e)).setCell (p:=⟨b,1,none⟩) (fun _=>.inr rfl) _
 have hn:∀ t,t ≠ 108 → t ≠ 124 → ∀ g,TyAt v g t→¬ ((Value.slice A i c).ownBlock=some g∨g=b):=by
  rintro t h1 h2 g hg (e | e)
  ·exact hg.ne (own_ty h.own e) h1 rfl
  ·exact hg.ne (blk_ty h.blk) h2 e
 refine ⟨?_,?_,own_touch h.wds T2 (fun g e=>hn _ (by decide) (by decide) g (own_ty h.wds e)),?_,?_,h.yW,?_,h.yb,?_⟩
 ·have:=hbv.set_ 1 (.slice A4 (i+1) c4)
  simpa using this
 ·have:sCells (Z++[z])=sCells Z++z.cells:=by simp [sCells]
  rw [this]
  exact own_setCell_far hown (fun e=>(own_ty hown e).ne (blk_ty hbv) (by decide) rfl) _
 ·intro y hy2
  rcases List.mem_append.1 hy2 with hy2 | hy2
  ·exact (h.el y hy2).touch T2 (fun g e=>hn _ (by decide) (by decide) g e)
  ·rw [List.mem_singleton] at hy2
   subst hy2
   exact hz.touch T2 (fun g e=>hn _ (by decide) (by decide) g e)
 ·intro g hg2
  rcases hf with e | ⟨g2,e,hle⟩
  ·rw [e] at hg2;exact h.yA g hg2
  ·rw [e] at hg2
   injection hg2 with hg2
   have:=h.touch.size
   omega
 ·intro y hy2
  rcases List.mem_append.1 hy2 with hy2 | hy2
  ·exact h.yZ y hy2
  ·rw [List.mem_singleton] at hy2
   subst hy2
   exact hy
 ·refine h.touch.trans T2 fun g hg e=>?_
  rcases e with e | e
  ·have:=h.yA g e;omega
  ·have:=h.yb;omega
theorem NewI.word {w v v4:World} {b:Nat} {base:Int} {A wA4:Option Addr} {i c wc4:Nat} {Z:List SV} {wA:Option Addr} {k wc:Nat} {W:List Int} {x:Int} (h:NewI w v b base A i c Z wA k wc W)
  (hown:v4.ownsRow 0 3 1 (.slice wA4 (k+1) wc4) (k+1) (W.map intV++[intV x])) (hg:v.grownBy v4 (Value.slice wA k wc).ownBlock) (hf:Fresh v (.slice wA k wc) (.slice wA4 (k+1) wc4)) :
  NewI w (v4.setCell ⟨b,2,none⟩ (.slice wA4 (k+1) wc4)) b base A i c Z wA4 (k+1) wc4 (W++[x]):=by
 have T:Touch (fun x=>(Value.slice wA k wc).ownBlock=some x) v v4:=(Touch.refl _ _).grown hg (fun k hk _=>hk)
 have hbv:=h.blk.grown hg (fun e=>(own_ty h.wds e.symm).ne (blk_ty h.blk) (by decide) rfl)
 have T2:Touch (fun x=>(Value.slice wA k wc).ownBlock=some x∨x=b) v (v4.setCell ⟨b,2,none⟩ (.slice wA4 (k+1) wc4)):=(T.mono (fun _ _ e=>.inl e)).setCell (p:=⟨b,2,none⟩) (fun _=>.inr rfl) _
 have hn:∀ t,t ≠ 3 → t ≠ 124 → ∀ g,TyAt v g t→¬ ((Value.slice wA k wc).ownBlock=some g∨g=b):=by
  rintro t h1 h2 g hg (e | e)
  ·exact hg.ne (own_ty h.wds e) h1 rfl
  ·exact hg.ne (blk_ty h.blk) h2 e
 refine ⟨?_,own_touch h.own T2 (fun g e=>hn _ (by decide) (by decide) g (own_ty h.own e)),?_,?_,h.yA,?_,h.yZ,h.yb,?_⟩
 ·have:=hbv.set_ 2 (.slice wA4 (k+1) wc4)
  simpa using this
 ·have:(W++[x]).map intV=W.map intV++[intV x]:=by simp
  rw [this]
  exact own_setCell_far hown (fun e=>(own_ty hown e).ne (blk_ty hbv) (by decide) rfl) _
 ·intro y hy2
  exact (h.el y hy2).touch T2 (fun g e=>hn _ (by decide) (by decide) g e)
 ·intro g hg2
  rcases hf with e | ⟨g2,e,hle⟩
  ·rw [e] at hg2;exact h.yW g hg2
  ·rw [e] at hg2
   injection hg2 with hg2
   have:=h.touch.size
   omega
 ·refine h.touch.trans T2 fun g hg e=>?_
  rcases e with e | e
  ·have:=h.yW g e;omega
  ·have:=h.yb;omega
theorem incr_len {N:Nat}:∀ (l:List Nat) (a:Nat),l.Pairwise (·<·)→(∀ x∈l,a≤x∧x<N)→a≤N→l.length+a≤N
 | [],a,_,_,h=>by simpa using h
 | x :: l,a,hp,hb,_=>by
  rw [List.pairwise_cons] at hp
  have h1:=hb x List.mem_cons_self
  have:=incr_len l (x+1) hp.2 (fun y hy=>⟨hp.1 y hy,(hb y (List.mem_cons_of_mem _ hy)).2⟩) (by omega)
  simp only [List.length_cons]
  omega
theorem form_few {i:Nat} {z:StP} (h:FormP i z):z.arcs.length≤2097152:=by
 have h1:=incr_len (N:=1114112) (z.arcs.map (·.1)) 0 h.lab (fun x hx=>by
  obtain ⟨a,ha,rfl⟩:=List.mem_map.1 hx
  have:=(h.run a ha).1
  unfold scal at this
  simp at this
  omega) (by omega)
 rw [List.length_map] at h1
 omega
def wdsF (sts:List StP) (i:Nat):List Int:=((uF sts sts.length i).take i).map (·.1)
theorem wdsF_len {sts:List StP} {i:Nat} (h:i≤sts.length):(wdsF sts i).length=i:=by simp [wdsF,uF_len,h]
theorem wdsF_succ {sts:List StP} {i:Nat} (h:i<sts.length):wdsF sts (i+1)=wdsF sts i++[(sumP (uF sts sts.length i) (sts.getD i noSt) (sts.getD i noSt).arcs.length).1]:=by
 unfold wdsF
 simp only [uF]
 rw [List.take_succ_eq_append_getElem (by rw [List.length_set,uF_len];exact h),List.map_append,List.take_set_of_le (Nat.le_refl _)]
 simp
theorem wdsF_get {sts:List StP} {i j:Nat} (h:i≤sts.length) (hj:j<i):(wdsF sts i)[j]? = some ((uF sts sts.length i).getD j z3).1:=by
 unfold wdsF
 rw [List.getElem?_map,List.getElem?_take_of_lt hj,getD_get? (d:=z3) (by rw [uF_len];omega)]
 rfl
end Go.Proofs.YthockgmbooefpaaDoor
