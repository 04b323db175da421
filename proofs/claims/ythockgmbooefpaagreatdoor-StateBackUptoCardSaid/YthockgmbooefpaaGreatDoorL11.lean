/- What the law rests on, part 11. No condition but those that each theorem names. -/
import Derived.Test.YthockgmbooefpaaGreatDoorL10
set_option linter.unusedSectionVars false
set_option linter.unusedSimpArgs false
set_option linter.unusedVariables false
namespace Go.Proofs.YthockgmbooefpaaGreatDoor
open Go.RowKit
theorem infoFRest:(Tryz.prog.info? 158).map (fun i=>(i.zero,i.size,i.bytes))=some (some (.agg #[.slice none 0 0,.int .i64 0]),2,32):=by kernel_rfl
def FL.tl (s:FL):FL:=⟨if s.c=1 then s.A else s.A.map (·.add 2),s.n-1,s.c-1,s.V.tail⟩
theorem FL.Ok.tl {s:FL} {w:World} (h:s.Ok w) (hn:0<s.n):s.tl.Ok w:=by
 obtain ⟨A,n,c,V⟩:=s
 have hl:=h.len
 have hle:=h.le
 simp only at hn hl hle
 cases V with
 | nil=>simp at hl;omega
 | cons x V =>
  simp only [List.length_cons] at hl
  refine ⟨by simp only [FL.tl,List.tail_cons];omega,⟨?_,?_⟩,?_,by simp only [FL.tl];omega⟩
  ·have:=h.rd.rd.cut (k:=1) (cap:=c) hn hle
   simp only [FL.tl,List.tail_cons]
   simpa [rCells,RV.cells] using this
  ·intro hn2 g hg
   refine h.rd.ty hn g ?_
   simp only [FL.tl] at hg
   split at hg
   ·exact hg
   ·cases hA:A with
    | none=>rw [hA] at hg;cases hg
    | some a =>
     rw [hA] at hg
     simp only [Option.map_some,adBlock,Option.some.injEq] at hg ⊢
     rw [← hg]
     unfold Addr.add
     split<;>rfl
  ·intro r hr
   exact h.el r (List.mem_cons_of_mem _ hr)
def tupR (R:Rs) (cs:List Nat):Nat:=(cs.map fun c=>totR (underR R c)+1).sum
theorem tupR_snoc (R:Rs) (cs:List Nat) (c:Nat):tupR R (cs++[c])=tupR R cs+(totR (underR R c)+1):=by simp [tupR]
theorem tupR_le {R:Rs} (h:SortR R):∀ j,tupR R ((firstsR R).take j)≤totR R:=by
 intro j
 have hn:((firstsR R).take j).Nodup:=((firsts_sorted h).imp (fun h=>Nat.ne_of_lt h)).sublist (List.take_sublist _ _)
 refine Nat.le_trans ?_ (totC_sum R _ hn)
 have hm:∀ c∈(firstsR R).take j,underR R c≠[]:=fun c hc=>mem_firsts.1 (List.mem_of_mem_take hc)
 unfold tupR
 generalize (firstsR R).take j=cs at hm
 clear hn
 induction cs with
 | nil=>exact Nat.le_refl _
 | cons c cs ih =>
  simp only [List.map_cons,List.sum_cons]
  have h1:=totC_under R c
  have h2:=List.length_pos_iff.2 (hm c List.mem_cons_self)
  have h3:=ih (fun d hd=>hm d (List.mem_cons_of_mem _ hd))
  omega
theorem firsts_few (R:Rs) (_:SortR R) (j:Nat):((firstsR R).take j).length≤tupR R ((firstsR R).take j):=by
 unfold tupR
 generalize (firstsR R).take j=cs
 induction cs with
 | nil=>exact Nat.le_refl _
 | cons c cs ih=>simp only [List.map_cons,List.sum_cons,List.length_cons];omega
theorem addS_lt (K:List StP) (s:StP):(addS K s).2<(addS K s).1.length∧(addS K s).1.length≤K.length+1:=by
 unfold addS
 cases hf:K.findIdx? (fun x=>decide (x=s)) with
 | some i =>
  obtain ⟨hi,_,_⟩:=List.findIdx?_eq_some_iff_getElem.1 hf
  exact ⟨hi,Nat.le_succ _⟩
 | none=>simp
def SB (B m1 m2:Nat) (v:Value) (g:Nat):Prop:=g=B∨g=m1∨g=m2∨v.ownBlock=some g
theorem Bld.noS {w:World} {B:Nat} {sA:Option Addr} {sn sc:Nat} {Z:List SV} {m1 m2:Nat} {Lk:List Value} {Bk:List Nat} (h:Bld w B sA sn sc Z m1 m2 Lk Bk) {t:TypeId} (h1:t ≠ 163) (h2:t ≠ 170):∀ g,TyAt w g t→¬ SB B m1 m2 (.slice sA sn sc) g:=by
 rintro g hg (e | e | e | e)
 ·exact hg.ne (blk_ty h.blk) h1 e
 ·exact h.lk.ne hg e
 ·exact h.bk.ne hg e
 ·exact (own_ty h.own e).ne hg (fun e=>h2 e.symm) rfl
def FstC (f:Nat):Prop:=∀ (w:World) (B:Nat) (sA:Option Addr) (sn sc:Nat) (Z:List SV) (m1 m2:Nat) (Lk:List Value) (Bk:List Nat) (l:FL),Bld w B sA sn sc Z m1 m2 Lk Bk→l.Ok w→l.Bd→(∀ r∈l.p,∀ c∈r.1,c<1114112)→SortR l.p→0<l.n→l.n≤4096→depR l.p<f→Lk.length+2*totR l.p≤800000→sn+totR l.p≤800000 →
 Calls Tryz.prog 83 #[.pointer (some ⟨B,0,none⟩),l.val] w fun e w'=>∃ (i:Nat) (sA':Option Addr) (sn' sc':Nat) (Z':List SV) (Lk':List Value) (Bk':List Nat),e=.returned (.int .i64 i)∧Bld w' B sA' sn' sc' Z' m1 m2 Lk' Bk'∧(Z'.map SV.p,i)=fstF f (Z.map SV.p) l.p∧Lk'.length≤Lk.length+2*totR l.p+1∧sn'≤sn+totR l.p+1∧i<sn'∧Fresh w (.slice sA sn sc) (.slice sA' sn' sc')∧(∀ z∈Z',z∈Z∨(0<z.n→∀ g,adBlock z.A=some g→w.heap.size≤g))∧Touch (SB B m1 m2 (.slice sA sn sc)) w w'
structure L3M (w wr:World) (B C m1 m2:Nat) (v0:Value) (Z0:List SV) (sA:Option Addr) (sn sc:Nat) (Z:List SV) (Lk:List Value) (Bk:List Nat) (fin:Bool) (out:Int) (aA:Option Addr) (ai ac:Nat) (arcs:List (Nat × Int × Nat)):Prop where
 bld:Bld wr B sA sn sc Z m1 m2 Lk Bk
 b2:Blk wr C 170 #[.bool fin,.int .i64 out,.slice aA ai ac]
 own:wr.ownsRow 0 173 3 (.slice aA ai ac) ai (aCells arcs)
 al:arcs.length=ai
 ab:∀ a∈arcs,ArcB a
 af:∀ g,(Value.slice aA ai ac).ownBlock=some g→w.heap.size≤g
 touch:Touch (SB B m1 m2 v0) w wr
 fr:Fresh w v0 (.slice sA sn sc)
 nb:(Value.slice sA sn sc).ownBlock≠some C
 zs:∀ z∈Z,z∈Z0∨(0<z.n→∀ g,adBlock z.A=some g→w.heap.size≤g)
 za:∀ z∈Z,0<z.n→∀ g,adBlock z.A=some g→(Value.slice aA ai ac).ownBlock≠some g
 cw:w.heap.size≤C
structure L3P (R:Rs) (f:Nat) (K0:List StP) (ln0 sn0:Nat) (K:List StP) (ln sn:Nat) (arcs:List (Nat × Int × Nat)) (j:Nat):Prop where
 pl:(K,arcs)=fstArcs (fstF f) (leastR R) R K0 ((firstsR R).take j)
 lb:ln+j≤ln0+2*tupR R ((firstsR R).take j)
 sb:sn≤sn0+tupR R ((firstsR R).take j)
 le:j≤(firstsR R).length
section
variable {w wr:World} {B C m1 m2:Nat} {v0:Value} {Z0:List SV} {sA:Option Addr} {sn sc:Nat} {Z:List SV} {Lk:List Value} {Bk:List Nat} {fin:Bool} {out:Int} {aA:Option Addr} {ai ac:Nat} {arcs:List (Nat × Int × Nat)}
theorem L3M.quiet (h:L3M w wr B C m1 m2 v0 Z0 sA sn sc Z Lk Bk fin out aA ai ac arcs) {u:World} (T:Touch (fun _=>False) wr u):L3M w u B C m1 m2 v0 Z0 sA sn sc Z Lk Bk fin out aA ai ac arcs :=
 ⟨h.bld.quiet T,h.b2.touch T (fun f=>f),own_touch h.own T (fun _ _ f=>f),h.al,h.ab,h.af,h.touch.then (T.up _),h.fr,h.nb,h.zs,h.za,h.cw⟩
theorem L3M.call (h:L3M w wr B C m1 m2 v0 Z0 sA sn sc Z Lk Bk fin out aA ai ac arcs) {u:World} {sA':Option Addr} {sn' sc':Nat} {Z':List SV} {Lk':List Value} {Bk':List Nat} (hb:Bld u B sA' sn' sc' Z' m1 m2 Lk' Bk') (T:Touch (SB B m1 m2 (.slice sA sn sc)) wr u) (hf:Fresh wr (.slice sA sn sc) (.slice sA' sn' sc'))
  (hz:∀ z∈Z',z∈Z∨(0<z.n→∀ g,adBlock z.A=some g→wr.heap.size≤g)):L3M w u B C m1 m2 v0 Z0 sA' sn' sc' Z' Lk' Bk' fin out aA ai ac arcs:=by
 have hs:w.heap.size≤wr.heap.size:=h.touch.size
 have hlt:=h.b2.lt
 have hC:¬ SB B m1 m2 (.slice sA sn sc) C:=by
  rintro (e | e | e | e)
  ·exact (blk_ty h.b2).ne (blk_ty h.bld.blk) (by decide) e
  ·exact h.bld.lk.ne (blk_ty h.b2) e
  ·exact h.bld.bk.ne (blk_ty h.b2) e
  ·exact h.nb e
 refine ⟨hb,h.b2.touch T hC,own_touch h.own T (fun g hg=>h.bld.noS (t := 173) (by decide) (by decide) g (own_ty h.own hg)),h.al,h.ab,h.af,h.touch.trans T ?_,h.fr.up hf hs,?_,?_,?_,h.cw⟩
 ·rintro g hg (e | e | e | e)
  ·exact .inl e
  ·exact .inr (.inl e)
  ·exact .inr (.inr (.inl e))
  ·rcases h.fr with e2 | ⟨g',e2,hg'⟩
   ·exact .inr (.inr (.inr (e2.symm.trans e)))
   ·rw [e2] at e
    injection e with e
    omega
 ·rcases hf with e2 | ⟨g',e2,hg'⟩
  ·rw [e2];exact h.nb
  ·rw [e2]
   intro e
   injection e with e
   omega
 ·intro z hzz
  rcases hz z hzz with h1 | h1
  ·exact h.zs z h1
  ·exact .inr fun hn g hg=>Nat.le_trans hs (h1 hn g hg)
 ·intro z hzz hn g hg e
  rcases hz z hzz with h1 | h1
  ·exact h.za z h1 hn g hg e
  ·have:=(own_ty h.own e).lt
   have:=h1 hn g hg
   omega
theorem L3M.arc (h:L3M w wr B C m1 m2 v0 Z0 sA sn sc Z Lk Bk fin out aA ai ac arcs) {v4:World} {g' cap:Nat} {a:Nat × Int × Nat} (ha:ArcB a)
  (hown:v4.ownsRow 0 173 3 (.slice (some ⟨g',0,none⟩) (ai+1) cap) (ai+1) (aCells arcs++[.int .i32 (a.1:Int),.int .i64 a.2.1,.int .i64 (a.2.2:Int)])) (hg:wr.grownBy v4 (Value.slice aA ai ac).ownBlock) (hf:Fresh wr (.slice aA ai ac) (.slice (some ⟨g',0,none⟩) (ai+1) cap)) :
  L3M w (v4.setCell ⟨C,2,none⟩ (.slice (some ⟨g',0,none⟩) (ai+1) cap)) B C m1 m2 v0 Z0 sA sn sc Z Lk Bk fin out (some ⟨g',0,none⟩) (ai+1) cap (arcs++[a]):=by
 have hs:w.heap.size≤wr.heap.size:=h.touch.size
 have hlt:=h.b2.lt
 have Tg:Touch (fun g=>(Value.slice aA ai ac).ownBlock=some g∨g=C) wr v4:=((Touch.refl (fun g=>(Value.slice aA ai ac).ownBlock=some g) wr).grown hg (fun k e _=>e)).mono (fun _ _ e=>.inl e)
 have T5:Touch (fun g=>(Value.slice aA ai ac).ownBlock=some g∨g=C) wr (v4.setCell ⟨C,2,none⟩ (.slice (some ⟨g',0,none⟩) (ai+1) cap)):=Tg.setCell (p:=⟨C,2,none⟩) (fun _=>.inr rfl) _
 have hnT:∀ {g:Nat} {t:TypeId},TyAt wr g t→t ≠ 173 → t ≠ 170 → ¬ ((Value.slice aA ai ac).ownBlock=some g∨g=C):=by
  rintro g t hg h1 h2 (e | e)
  ·exact (own_ty h.own e).ne hg (fun e=>h1 e.symm) rfl
  ·exact hg.ne (blk_ty h.b2) h2 e
 have hb2:Blk v4 C 170 #[.bool fin,.int .i64 out,.slice aA ai ac]:=h.b2.grown hg (fun e=>(own_ty h.own e.symm).ne (blk_ty h.b2) (by decide) rfl)
 have hgw:w.heap.size≤g':=by
  rcases hf with e | ⟨g2,e,h2⟩
  ·exact h.af g' (by rw [← e];rfl)
  ·have e:g'=g2:=Option.some.inj e
   omega
 have hgC:g'≠C:=by
  rcases hf with e | ⟨g2,e,h2⟩
  ·have e:(Value.slice aA ai ac).ownBlock=some g':=by rw [← e];rfl
   exact (own_ty h.own e).ne (blk_ty h.b2) (by decide)
  ·have e:g'=g2:=Option.some.inj e
   omega
 have hZ:∀ z∈Z,0<z.n→∀ g,adBlock z.A=some g→¬ ((Value.slice aA ai ac).ownBlock=some g∨g=C):=by
  rintro z hz hn g hg (e | e)
  ·exact h.za z hz hn g hg e
  ·exact ((h.bld.el z hz).rd.ty hn g hg).ne (blk_ty h.b2) (by decide) e
 have hbld:=h.bld
 refine ⟨⟨hbld.blk.touch T5 (hnT (blk_ty hbld.blk) (by decide) (by decide)),?_,hbld.len,fun z hz=>⟨(hbld.el z hz).len,(hbld.el z hz).rd.touch' T5 (hZ z hz),(hbld.el z hz).le,(hbld.el z hz).mx⟩,hbld.lk.far T5 ?_,hbld.bk.far T5 ?_,hbld.ne,hbld.tab⟩,?_,?_,by rw [List.length_append,h.al];rfl,?_,?_,?_,h.fr,h.nb,h.zs,?_,h.cw⟩
 ·refine own_touch hbld.own T5 (fun g hg=>?_)
  rintro (e | e)
  ·exact (own_ty h.own e).ne (own_ty hbld.own hg) (by decide) rfl
  ·exact h.nb (by rw [← e];exact hg)
 ·rintro (e | e)
  ·exact hbld.lk.ne (own_ty h.own e) rfl
  ·exact hbld.lk.ne (blk_ty h.b2) e.symm
 ·rintro (e | e)
  ·exact hbld.bk.ne (own_ty h.own e) rfl
  ·exact hbld.bk.ne (blk_ty h.b2) e.symm
 ·have:=hb2.set_ 2 (.slice (some ⟨g',0,none⟩) (ai+1) cap)
  simpa using this
 ·rw [aCells_app]
  refine own_setCell_far hown (a:=⟨C,2,none⟩) (fun e=>?_) _
  have e:some g'=some C:=e
  exact hgC (Option.some.inj e)
 ·intro x hx
  rcases List.mem_append.1 hx with hx | hx
  ·exact h.ab x hx
  ·rw [List.mem_singleton.1 hx];exact ha
 ·intro g hg
  have e:some g'=some g:=hg
  rw [← Option.some.inj e]
  exact hgw
 ·refine h.touch.trans T5 ?_
  rintro g hg (e | e)
  ·have:=h.af g e
   omega
  ·have:=h.cw
   omega
 ·intro z hz hn g hg e
  have e:some g'=some g:=e
  have e:=Option.some.inj e
  subst e
  rcases hf with e2 | ⟨g2,e2,h2⟩
  ·exact h.za z hz hn g' hg (by rw [← e2];rfl)
  ·have e3:g'=g2:=Option.some.inj e2
   have:=((hbld.el z hz).rd.ty hn g' hg).lt
   omega
end
structure KC (w:World) (B C m1 m2:Nat) (v0:Value) (Z0:List SV) (fin:Bool) (out:Int) (aA:Option Addr) (ai ac:Nat) (arcs:List (Nat × Int × Nat)) (U M:FL) (sA:Option Addr) (sn sc:Nat) (Z:List SV) (Lk:List Value) (Bk:List Nat) (wx:World):Prop where
 l3:L3M w wx B C m1 m2 v0 Z0 sA sn sc Z Lk Bk fin out aA ai ac arcs
 u:U.Ok wx
 m:M.Ok wx
section
variable {w wx:World} {B C m1 m2:Nat} {v0:Value} {Z0:List SV} {sA:Option Addr} {sn sc:Nat} {Z:List SV} {Lk:List Value} {Bk:List Nat} {fin:Bool} {out:Int} {aA:Option Addr} {ai ac:Nat} {arcs:List (Nat × Int × Nat)} {U M:FL}
theorem KC.quiet (h:KC w B C m1 m2 v0 Z0 fin out aA ai ac arcs U M sA sn sc Z Lk Bk wx) {u:World} (T:Touch (fun _=>False) wx u):KC w B C m1 m2 v0 Z0 fin out aA ai ac arcs U M sA sn sc Z Lk Bk u :=
 ⟨h.l3.quiet T,h.u.quiet T,h.m.quiet T⟩
theorem KC.least (h:KC w B C m1 m2 v0 Z0 fin out aA ai ac arcs U M sA sn sc Z Lk Bk wx) (hn:0<U.n) (hm:U.n≤4096) :
  Calls Tryz.prog 84 #[U.val] wx fun e w'=>e=.returned (.int .i64 (leastR U.p))∧Hid (KC w B C m1 m2 v0 Z0 fin out aA ai ac arcs U M sA sn sc Z Lk Bk w') :=
 (fleast_any wx U h.u hn (Nat.le_trans hm (by unfold maxLen;omega))).mono fun _ _ ⟨e,T⟩=>⟨e,hide (h.quiet T)⟩
theorem KC.state {f:Nat} (ih:FstC f) (h:KC w B C m1 m2 v0 Z0 fin out aA ai ac arcs U M sA sn sc Z Lk Bk wx) (hbd:U.Bd) (hlb:∀ r∈U.p,∀ c∈r.1,c<1114112) (hs:SortR U.p) (hn:0<U.n) (hm:U.n≤4096) (hd:depR U.p<f) (h1:Lk.length+2*totR U.p≤800000) (h2:sn+totR U.p≤800000) :
  Calls Tryz.prog 83 #[.pointer (some ⟨B,0,none⟩),U.val] wx fun e w'=>∃ (i:Nat) (sA':Option Addr) (sn' sc':Nat) (Z':List SV) (Lk':List Value) (Bk':List Nat),e=.returned (.int .i64 i)∧Hid (KC w B C m1 m2 v0 Z0 fin out aA ai ac arcs U M sA' sn' sc' Z' Lk' Bk' w')∧Hid ((Z'.map SV.p,i)=fstF f (Z.map SV.p) U.p∧Lk'.length≤Lk.length+2*totR U.p+1∧sn'≤sn+totR U.p+1∧i<sn'):=by
 refine (ih wx B sA sn sc Z m1 m2 Lk Bk U h.l3.bld h.u hbd hlb hs hn hm hd h1 h2).mono ?_
 rintro e w' ⟨i,sA',sn',sc',Z',Lk',Bk',rfl,hb,hp,hlk,hsn,hi,hf,hz,T⟩
 have n1:∀ g,TyAt wx g 21 → ¬ SB B m1 m2 (.slice sA sn sc) g:=h.l3.bld.noS (by decide) (by decide)
 have n2:∀ g,TyAt wx g 158 → ¬ SB B m1 m2 (.slice sA sn sc) g:=h.l3.bld.noS (by decide) (by decide)
 exact ⟨i,sA',sn',sc',Z',Lk',Bk',rfl,hide ⟨h.l3.call hb T hf hz,h.u.touch T n1 n2,h.m.touch T n1 n2⟩,hide ⟨hp,hlk,hsn,hi⟩⟩
theorem KC.own (h:KC w B C m1 m2 v0 Z0 fin out aA ai ac arcs U M sA sn sc Z Lk Bk wx):wx.ownsRow 0 173 3 (.slice aA ai ac) ai (aCells arcs):=h.l3.own
theorem KC.arc (h:KC w B C m1 m2 v0 Z0 fin out aA ai ac arcs U M sA sn sc Z Lk Bk wx) (o:Obj) {v4:World} {g' cap:Nat} {a:Nat × Int × Nat} (ha:ArcB a)
  (hown:v4.ownsRow 0 173 3 (.slice (some ⟨g',0,none⟩) (ai+1) cap) (ai+1) (aCells arcs++[.int .i32 (a.1:Int),.int .i64 a.2.1,.int .i64 (a.2.2:Int)])) (hg:(wx.alloc o).grownBy v4 (Value.slice aA ai ac).ownBlock) (hl:(Value.slice aA ai ac).ownBlock=some g'∨g'=(wx.alloc o).heap.size) :
  L3M w (v4.setCell ⟨C,2,none⟩ (.slice (some ⟨g',0,none⟩) (ai+1) cap)) B C m1 m2 v0 Z0 sA sn sc Z Lk Bk fin out (some ⟨g',0,none⟩) (ai+1) cap (arcs++[a])∧M.Ok (v4.setCell ⟨C,2,none⟩ (.slice (some ⟨g',0,none⟩) (ai+1) cap))∧Blk v4 C 170 #[.bool fin,.int .i64 out,.slice aA ai ac]:=by
 have hq:=h.l3.quiet ((Touch.refl (fun _=>False) wx).alloc o)
 have T5:Touch (fun g=>(Value.slice aA ai ac).ownBlock=some g∨g=C) (wx.alloc o) (v4.setCell ⟨C,2,none⟩ (.slice (some ⟨g',0,none⟩) (ai+1) cap)):=(((Touch.refl (fun g=>(Value.slice aA ai ac).ownBlock=some g) (wx.alloc o)).grown hg (fun k e _=>e)).mono (fun _ _ e=>.inl e)).setCell (p:=⟨C,2,none⟩) (fun _=>.inr rfl) _
 have hf:Fresh (wx.alloc o) (.slice aA ai ac) (.slice (some ⟨g',0,none⟩) (ai+1) cap):=by
  rcases hl with e | e
  ·exact .inl e.symm
  ·exact .inr ⟨g',rfl,by rw [e];exact Nat.le_refl _⟩
 have hn:∀ t,t ≠ 173 → t ≠ 170 → ∀ g,TyAt (wx.alloc o) g t→¬ ((Value.slice aA ai ac).ownBlock=some g∨g=C):=by
  rintro t h1 h2 g hgt (e | e)
  ·exact (own_ty hq.own e).ne hgt (fun e=>h1 e.symm) rfl
  ·exact hgt.ne (blk_ty hq.b2) h2 e
 exact ⟨hq.arc ha hown hg hf,(h.m.quiet ((Touch.refl _ _).alloc o)).touch T5 (hn _ (by decide) (by decide)) (hn _ (by decide) (by decide)),hq.b2.grown hg (fun e=>(own_ty hq.own e.symm).ne (blk_ty hq.b2) (by decide) rfl)⟩
theorem L3P.step {R:Rs} {f:Nat} {K0:List StP} {ln0 sn0:Nat} {K K':List StP} {ln ln' sn sn':Nat} {arcs:List (Nat × Int × Nat)} {j i c:Nat} (h:L3P R f K0 ln0 sn0 K ln sn arcs j) (hc:(firstsR R)[j]? = some c) (hp:(K',i)=fstF f K (underR R c)) (hl:ln'≤ln+2*totR (underR R c)+1) (hs:sn'≤sn+totR (underR R c)+1) :
  L3P R f K0 ln0 sn0 K' ln' sn' (arcs++[(c,leastR (underR R c)-leastR R,i)]) (j+1):=by
 obtain ⟨hj,e⟩:=List.getElem?_eq_some_iff.1 hc
 have ht:(firstsR R).take (j+1)=(firstsR R).take j++[c]:=by rw [List.take_succ_eq_append_getElem hj,e]
 refine ⟨?_,?_,?_,hj⟩
 ·rw [ht,fstArcs_snoc,← h.pl]
  simp only
  rw [← hp]
 ·rw [ht,tupR_snoc]
  have:=h.lb
  omega
 ·rw [ht,tupR_snoc]
  have:=h.sb
  omega
end
end Go.Proofs.YthockgmbooefpaaGreatDoor
