/- What the law rests on, part 6. No condition but those that each theorem names. -/
import Derived.Test.YthockgmbooefpaaGreatDoorL05
import Derived.Laws.EntriesVeiled
import Derived.WideKeyArr
import Derived.WideKeyEntry
set_option linter.unusedSectionVars false
set_option linter.unusedSimpArgs false
set_option linter.unusedVariables false
set_option maxRecDepth 100000
set_option maxHeartbeats 4000000
namespace Go.Proofs.YthockgmbooefpaaGreatDoor
open Go.RowKit
def bCells (s:List Bool):Array Value:=(s.map Value.bool).toArray
theorem bCells_get (s:List Bool) (i:Nat) (h:i<s.length):(bCells s)[i]? = some (.bool (s.getD i false)):=by
 simp [bCells,List.getD,h]
theorem bCells_set (s:List Bool) (i:Nat) (b:Bool):(bCells s).setIfInBounds i (.bool b)=bCells (s.set i b):=by
 simp [bCells,List.map_set]
theorem visArcs_len {v:Nat→List Bool→Nat→Bool × List Bool × Nat} (hv:∀ i s n,(v i s n).2.1.length=s.length):∀ l s n,(visArcs v l s n).2.1.length=s.length
 | [],_,_=>rfl
 | a :: l,s,n=>by
  simp only [visArcs]
  split
  ·exact visArcs_len hv l s n
  ·have h:=hv a.2.2 s n
   split
   ·rename_i s' n' e
    rw [e] at h
    rw [visArcs_len hv l s' n']
    exact h
   ·rename_i s' n' e
    rw [e] at h
    exact h
theorem visF_len (sts:List StP):∀ f i s n,(visF sts f i s n).2.1.length=s.length
 | 0,_,_,_=>rfl
 | f+1,i,s,n=>by
  simp only [visF]
  have h:=visArcs_len (visF_len sts f) (sts.getD i noSt).arcs s n
  split
  ·rename_i s' n' e
   rw [e] at h
   simp only [List.length_set]
   exact h
  ·rename_i s' n' e
   rw [e] at h
   exact h
def VisC (Z:List SV) (base:Int) (A:Option Addr) (n c M S V Y g:Nat) (f:Nat):Prop :=
 ∀ (w:World) (i:Nat) (s s':List Bool) (nx nx':Nat),Blk w M 89 #[.int .i64 base,.slice A n c]→StsOk w A n Z→Blk w S 282 #[.slice (some ⟨g,0,none⟩) n n]→Blk w g 4 (bCells s) →
  Blk w V 276 #[.func (.func 173) #[] #[.pointer (some ⟨M,0,none⟩),.pointer (some ⟨S,0,none⟩),.pointer (some ⟨V,0,none⟩),.pointer (some ⟨Y,0,none⟩)]]→Blk w Y 3 #[.int .i64 nx]→i<n→s.length=n →
  visF (Z.map SV.p) f i s nx=(true,s',nx') →
  Calls Tryz.prog 173 #[.int .i64 i,.pointer (some ⟨M,0,none⟩),.pointer (some ⟨S,0,none⟩),.pointer (some ⟨V,0,none⟩),.pointer (some ⟨Y,0,none⟩)] w fun e w'=>e=.returned (.bool true)∧Blk w' g 4 (bCells s')∧Blk w' Y 3 #[.int .i64 nx']∧Touch (fun x=>x=g∨x=Y) w w'
theorem visit_any (Z:List SV) (base:Int) (A:Option Addr) (n c M S V Y g:Nat) (hlt:∀ z∈Z,∀ a∈z.arcs,a.2.2<n) (hn:n≤1000000):∀ f,VisC Z base A n c M S V Y g f
 | 0=>by
  intro w i s s' nx nx' _ _ _ _ _ _ _ _ h
  simp [visF] at h
 | f+1=>by
  intro w i s s' nx nx' hM hst hS hg hV hY hi hsl hvis
  have ih:=visit_any Z base A n c M S V Y g hlt hn f
  obtain ⟨b,o,hA,hb,c0,c1,c2⟩:=state_at hst.rd.rd hst.len i hi
  have hzm:=getD_mem Z svZero i (by rw [hst.len];exact hi)
  have hlz:=hlt _ hzm
  have hel:=hst.el _ hzm
  have hsg:((Z.map SV.p).getD i noSt).arcs=(Z.getD i svZero).arcs:=by
   simp [List.getD,hst.len,hi,SV.p]
  subst hA
  simp only [visF] at hvis
  rw [hsg] at hvis
  obtain ⟨⟨fin,out,aA,q,ac,arcs⟩,hz⟩:∃ z,Z.getD i svZero=z:=⟨_,rfl⟩
  rw [hz] at c0 c1 c2 hlz hel hvis
  simp only at c0 c1 c2 hlz hvis
  obtain ⟨alen,ard,ale,amx⟩:=hel
  simp only at alen ard ale amx
  have hqm:q≤maxLen:=Nat.le_trans ale amx
  obtain ⟨m0,m1,m2⟩:=hM.facts
  have HM:=hide hM
  have HST:=hide hst
  have HS:=hide hS
  have HG:=hide hg
  have HV:=hide hV
  have HY:=hide hY
  have HSL:=hide hsl
  have HLZ:=hide hlz
  have HAL:=hide alen
  have HRD:=hide ard
  have HVIS:=hide hvis
  have HIH:=hide ih
  have HZM:Hid (∀ wr,Touch (fun x=>x=g∨x=Y) w wr→Blk wr M 89 #[.int .i64 base,.slice (some ⟨b,o,none⟩) n c]∧StsOk wr (some ⟨b,o,none⟩) n Z∧Blk wr S 282 #[.slice (some ⟨g,0,none⟩) n n]∧Blk wr V 276 #[.func (.func 173) #[] #[.pointer (some ⟨M,0,none⟩),.pointer (some ⟨S,0,none⟩),.pointer (some ⟨V,0,none⟩),.pointer (some ⟨Y,0,none⟩)]]∧RdT wr 173 3 aA q (aCells arcs)):=by
   intro wr T
   have hno:∀ t,t ≠ 4 → t ≠ 3 → ∀ x,TyAt w x t→¬ (x=g∨x=Y):=by
    intro t h1 h2 x hx hor
    rcases hor with e | e
    ·exact hx.ne (blk_ty hg) h1 e
    ·exact hx.ne (blk_ty hY) h2 e
   refine ⟨hM.touch T (hno _ (by decide) (by decide) _ (blk_ty hM)),⟨hst.rd.touch T (hno _ (by decide) (by decide)),hst.len,fun z hz=>(hst.el z hz).touch T (hno _ (by decide) (by decide))⟩,hS.touch T (hno _ (by decide) (by decide) _ (blk_ty hS)),hV.touch T (hno _ (by decide) (by decide) _ (blk_ty hV)),ard.touch T (hno _ (by decide) (by decide))⟩
  clear hM hst hS hg hV hY hsl hlz alen ard hvis ih hzm hsg hz hlt ale amx
  go_enter Tryz.func173,Tryz.ntmps173
  go_wp2_with fail
  go_loopw [16] (fun iv wr=>∃ (j:Nat) (sj:List Bool) (nj:Nat),iv=.int .i64 j∧j≤q∧sj.length=n∧Hid (visArcs (visF (Z.map SV.p) f) arcs s nx=visArcs (visF (Z.map SV.p) f) (arcs.drop j) sj nj)∧Hid (Blk wr g 4 (bCells sj))∧Hid (Blk wr Y 3 #[.int .i64 nj])∧Hid (Touch (fun x=>x=g∨x=Y) w wr)) (fun iv _=>q-(intOf iv).toNat)
  case atStart=>exact ⟨0,s,nx,rfl,by omega,HSL.out,hide rfl,HG,HY,hide (Touch.refl _ _)⟩
  case round =>
   obtain ⟨j,sj,nj,rfl,hj,hsj,HE,HGj,HYj,HT⟩:=hrel
   obtain ⟨hMr,hSTr,hSr,hVr,hAr⟩:=HZM.out wr HT.out
   obtain ⟨p0,p1,p2⟩:=hSr.facts
   obtain ⟨v0,v1,v2⟩:=hVr.facts
   by_cases hjq:j<q
   ·have y1:(j:Int)<(q:Int):=by omega
    have y2:(0:Int)≤(j:Int):=by omega
    have z2:IntKind.i64.wrap ((j:Int)+1)=(j:Int)+1:=IntWalk.i64_in _ (by unfold maxLen at hqm;omega)
    obtain ⟨ag,ao,hA,hag,d0,d1,d2⟩:=arc_at hAr.rd HAL.out j hjq
    subst hA
    have hto:=HLZ.out _ (getD_mem arcs (0,0,0) j (by rw [HAL.out];exact hjq))
    have hdr:arcs.drop j=arcs.getD j (0,0,0) :: arcs.drop (j+1):=by
     rw [List.drop_eq_getElem_cons (by rw [HAL.out];exact hjq)]
     simp [List.getD,HAL.out,hjq]
    have he:=HE.out
    rw [hdr] at he
    obtain ⟨⟨la,ua,tt⟩,hz⟩:∃ z,arcs.getD j (0,0,0)=z:=⟨_,rfl⟩
    rw [hz] at d0 d1 d2 hto he
    simp only at d0 d1 d2 hto he
    simp only [visArcs] at he
    have hcs:wr.cell? ⟨g,tt,none⟩=some (.bool (sj.getD tt false)):=by
     rw [HGj.out.cell]
     exact bCells_get _ _ (by rw [hsj];exact hto)
    have hgl:=HGj.out.lt
    have y3:(0:Int)≤(tt:Int):=by omega
    have y4:(tt:Int)<(n:Int):=by omega
    clear hz hdr hMr hSTr hSr hVr hAr
    by_cases hseen:sj.getD tt false=true
    ·rw [if_pos hseen] at he
     rw [hseen] at hcs
     have HEE:=hide he
     clear he hseen
     go_wp2_with fail
     go_roundw
     ·exact ⟨j+1,sj,nj,by simp,by omega,hsj,hide HEE.out,hide (HGj.out.alloc _),hide (HYj.out.alloc _),hide (HT.out.alloc _)⟩
     ·simp only [intOf];omega
    ·rw [if_neg hseen] at he
     have hsf:sj.getD tt false=false:=by simpa using hseen
     rw [hsf] at hcs
     obtain ⟨⟨okv,s1,n1⟩,hvf⟩:∃ r,visF (Z.map SV.p) f tt sj nj=r:=⟨_,rfl⟩
     rw [hvf] at he
     cases okv with
     | false =>
      simp only at he
      have hv:=HVIS.out
      rw [he] at hv
      simp at hv
     | true =>
      simp only at he
      have HEE:=hide he
      have hs1:s1.length=n:=by
       have:=visF_len (Z.map SV.p) f tt sj nj
       rw [hvf] at this
       simp only at this
       omega
      obtain ⟨u,hu⟩:∃ u,u=wr.alloc (.cells #[.int .i32 la,.int .i64 ua,.int .i64 tt] 173):=⟨_,rfl⟩
      have hTu:Touch (fun x=>x=g∨x=Y) w u:=by rw [hu];exact HT.out.alloc _
      have hTu2:Touch (fun _=>False) wr u:=by rw [hu];exact (Touch.refl _ _).alloc _
      obtain ⟨k1,k2,k3,k4,_⟩:=HZM.out u hTu
      have hcall:=HIH.out u tt sj s1 nj n1 k1 k2 k3 (HGj.out.touch hTu2 (fun f=>f)) k4 (HYj.out.touch hTu2 (fun f=>f)) hto hsj hvf
      have HU:=hide hu
      have HTU:=hide hTu
      have HCALL:=hide hcall
      clear he hseen hsf hu hTu hTu2 k1 k2 k3 k4 hcall hvf
      go_wp2_with ((go_at_call 173;rw [← HU.out];refine (HCALL.out).mono ?_;rintro e v2 ⟨rfl,hg2,hy2,T2⟩;have HG2:=hide hg2;have HY2:=hide hy2;have HT2:=hide (HTU.out.then T2);clear hg2 hy2 T2))
      go_roundw
      ·exact ⟨j+1,s1,n1,by simp,by omega,hs1,HEE,HG2,HY2,HT2⟩
      ·simp only [intOf];omega
   ·have hjq2:j=q:=by omega
    subst hjq2
    have he:=HE.out
    rw [show arcs.drop j=[] from List.drop_eq_nil_of_le (by rw [HAL.out];exact Nat.le_refl _)] at he
    simp only [visArcs] at he
    have hv:=HVIS.out
    rw [he] at hv
    simp only [Prod.mk.injEq,decide_eq_true_eq] at hv
    obtain ⟨h1,h2,h3⟩:=hv
    have hnj:nj=i:=by omega
    subst hnj
    have hcs:wr.cell? ⟨g,nj,none⟩=some (.bool (sj.getD nj false)):=by
     rw [HGj.out.cell]
     exact bCells_get _ _ (by rw [hsj];exact hi)
    have hgl:=HGj.out.lt
    have hgf:=HGj.out.frozen nj
    obtain ⟨r0,r1,r2⟩:=HYj.out.facts
    have z2:IntKind.i64.wrap ((nj:Int)+1)=(nj:Int)+1:=IntWalk.i64_in _ (by omega)
    have hgY:¬ g=Y:=HGj.out.ne_ HYj.out (by decide)
    have hYg:¬ Y=g:=fun e=>hgY e.symm
    have hYS:¬ Y=S:=HYj.out.ne_ hSr (by decide)
    have hgS:¬ g=S:=HGj.out.ne_ hSr (by decide)
    have y3:(0:Int)≤(nj:Int):=by omega
    have y4:(nj:Int)<(n:Int):=by omega
    have H2:=hide h2
    have H3:=hide h3
    clear he h1 h2 h3 hMr hSTr hSr hVr hAr
    go_wp2_with fail
    go_ret
    refine ⟨by simp,?_,?_,?_⟩
    ·rw [← H2.out,← bCells_set]
     exact (HGj.out.set_ _ _).far hgY _
    ·have:=((HYj.out.far hYg (p:=⟨g,nj,none⟩) (.bool true)).set_ 0 (.int .i64 ((nj:Int)+1)))
     rw [← H3.out]
     simpa using this
    ·exact (HT.out.setCell (fun _=>.inl rfl) _).setCell (fun _=>.inr rfl) _
theorem infoBool:(Tryz.prog.info? 4).map (fun i=>(i.zero,i.size,i.bytes))=some (some (.bool false),1,1):=by kernel_rfl
theorem own_full {w:World} {base:Nat} {e:TypeId} {size g n:Nat} {xs:List Value} (h:w.ownsRow base e size (.slice (some ⟨g,0,none⟩) n n) n xs):Blk w g e xs.toArray:=by
 obtain ⟨hl,h | ⟨g',cap,cur,hv,_,hg,_,_,hsz,htk⟩⟩:=h
 ·simp at h
 ·injection hv with h1 h2 h3
  simp only [Option.some.injEq,Addr.mk.injEq] at h1
  obtain ⟨rfl,_⟩:=h1
  subst h3
  have:cur.toList=xs:=by rw [← htk,List.take_of_length_le (by simp [hsz])]
  rw [← this]
  exact hg
theorem numbered_any (w:World) (base:Int) (A:Option Addr) (n c:Nat) (Z:List SV) (hst:StsOk w A n Z) (hlt:∀ z∈Z,∀ a∈z.arcs,a.2.2<n) (hn0:0<n) (hn:n≤1000000) (F:Nat) (s':List Bool) (hvis:visF (Z.map SV.p) F (n-1) (List.replicate n false) 0=(true,s',n)) :
  Calls Tryz.prog 142 #[.agg #[.int .i64 base,.slice A n c]] w fun e w'=>e=.returned (.bool true)∧Touch (fun _=>False) w w':=by
 obtain ⟨i0,hi,hz0,hz1,hz2⟩:=info_parts infoBool
 have HST:=hide hst
 have HV:=hide hvis
 have hmf:∀ (fn:Fn) (first cap:Array Value) (w:World),(Instr.makeFunc fn first cap).run Tryz.prog w=.ok (.func fn first cap) w:=fun _ _ _ _=>rfl
 have z1:IntKind.i64.wrap ((n:Int)-1)=(n:Int)-1:=IntWalk.i64_in _ (by omega)
 clear hst hvis
 go_enter Tryz.func142,Tryz.ntmps142
 go_wp2_with (refine wpList_make_full _ rfl (.tmp 8) (.tmp 8) 282 rfl 0 4 i0 _ 1 Tryz.underlying282 hi hz0 hz1 .i64 .i64 (n:Int) (n:Int) n rfl rfl rfl rfl ?b2 ?b3 (Nat.zero_le _) ?_)
 case b2=>rw [hz2];omega
 case b3=>unfold maxLen;omega
 intro w1 O1 G1
 have hmc:(madeCells #[Value.bool false] n).toList=(List.replicate n false).map .bool:=by
  unfold madeCells
  apply List.ext_getElem
  ·simp
  ·intro i h1 h2
   simp [Nat.mod_one]
 rw [hmc] at O1
 obtain ⟨M,hM⟩:∃ M,M=w.heap.size:=⟨_,rfl⟩
 obtain ⟨Y,hY⟩:∃ Y,Y=w.heap.size+1:=⟨_,rfl⟩
 obtain ⟨g,hg⟩:∃ g,g=w.heap.size+1+1:=⟨_,rfl⟩
 have hbM:Blk w1 M 89 #[.int .i64 base,.slice A n c]:=by
  rw [hM]
  exact ((Blk.new _ _ _).alloc _).grown G1 (by simp)
 have hbY:Blk w1 Y 3 #[.int .i64 ((0:Nat):Int)]:=by
  rw [hY]
  exact (blk_new1 _ _ _ _).grown G1 (by simp)
 rw [← hg] at O1
 have hbg:Blk w1 g 4 (bCells (List.replicate n false)):=own_full O1
 have hT1:Touch (fun _=>False) w w1:=(((Touch.refl _ _).alloc _).alloc _).grown G1 (fun k h=>by cases h)
 rw [← hg,← hY,← hM]
 have HBM:=hide hbM
 have HBY:=hide hbY
 have HBG:=hide hbg
 have HT1:=hide hT1
 have HM:=hide hM
 have HY:=hide hY
 have HG:=hide hg
 obtain ⟨q1,q2,q3⟩:=hbM.facts
 obtain ⟨r1,r2,r3⟩:=hbY.facts
 clear O1 G1 hmc hM hY hg hbM hbY hbg hT1
 obtain ⟨u1,hu1⟩:∃ x,x=(w1.alloc (.cells #[.slice (some ⟨g,0,none⟩) n n] 282)).alloc (.cells #[.func (.func 173) #[] #[.pointer (some ⟨M,0,none⟩),.pointer (some ⟨w1.heap.size,0,none⟩),.pointer (some ⟨w1.heap.size+1,0,none⟩),.pointer (some ⟨Y,0,none⟩)]] 276):=⟨_,rfl⟩
 have hTu:Touch (fun _=>False) w1 u1:=by rw [hu1];exact ((Touch.refl _ _).alloc _).alloc _
 have hbS:Blk u1 w1.heap.size 282 #[.slice (some ⟨g,0,none⟩) n n]:=by rw [hu1];exact (Blk.new _ _ _).alloc _
 have hbV:Blk u1 (w1.heap.size+1) 276 #[.func (.func 173) #[] #[.pointer (some ⟨M,0,none⟩),.pointer (some ⟨w1.heap.size,0,none⟩),.pointer (some ⟨w1.heap.size+1,0,none⟩),.pointer (some ⟨Y,0,none⟩)]]:=by rw [hu1];exact blk_new1 _ _ _ _
 have hb1M:=HBM.out.touch hTu (fun f=>f)
 have hb1Y:=HBY.out.touch hTu (fun f=>f)
 have hb1g:=HBG.out.touch hTu (fun f=>f)
 have hst1:=(HST.out.quiet HT1.out).quiet hTu
 have hcall:=visit_any Z base A n c M w1.heap.size (w1.heap.size+1) Y g hlt hn F u1 (n-1) (List.replicate n false) s' 0 n hb1M hst1 hbS hb1g hbV hb1Y (by omega) (by simp) HV.out
 rw [show (((n-1:Nat):Int))=(n:Int)-1 by omega] at hcall
 have hgY:¬ M=g:=hb1M.ne_ hb1g (by decide)
 have hgY2:¬ M=Y:=hb1M.ne_ hb1Y (by decide)
 have HU1:=hide hu1
 have HCALL:=hide hcall
 have HTT:=hide (HT1.out.then hTu)
 have HB1M:=hide hb1M
 have HN:=hide (fun h=>h.elim hgY hgY2:¬ (M=g∨M=Y))
 clear hTu hbS hbV hu1 hb1M hb1Y hb1g hst1 hcall hgY hgY2
 go_wp2_with ((go_at_call 173;rw [← HU1.out];refine (HCALL.out).mono ?_;rintro e v2 ⟨rfl,hg2,hy2,T2⟩;have HT2:=hide T2;obtain ⟨k1,k2,k3⟩:=hy2.facts;obtain ⟨l1,l2,l3⟩:=(HB1M.out.touch T2 HN.out).facts;clear hg2 hy2 T2))
 go_ret
 refine ⟨rfl,HTT.out.trans HT2.out fun i hi e=>?_⟩
 have h1:=HG.out
 have h2:=HY.out
 omega
end Go.Proofs.YthockgmbooefpaaGreatDoor
namespace Go.Proofs.YthockgmbooefpaaGreatDoor
open Go.RowKit Go.WideMaps Go.WideElems Go.ChangeShapes Go.WideShapes Go.MapKept Go.ChangeMaps
theorem grp_arr:ArrKey Tryz.prog 246 3 4:=⟨Tryz.underlying246,by kernel_rfl,by kernel_rfl,by kernel_rfl⟩
theorem grp_law:KeyLaw Tryz.prog 246 := grp_arr.law
theorem grp_kt:Tryz.prog.keyType 246 = true:=by kernel_rfl
theorem cells_int:Tryz.prog.cellsOf 3 = 1:=by kernel_rfl
theorem lit_wf {x:Int} (h:I64 x):(Lit.int .i64 x).wf=true:=by
 have h1:IntKind.i64.min = -9223372036854775808:=by decide
 have h2:IntKind.i64.max=9223372036854775807:=by decide
 unfold I64 at h
 simp only [Lit.wf,h1,h2,Bool.and_eq_true,decide_eq_true_eq]
 exact h
theorem grp_key {a b c d:Int} (ha:I64 a) (hb:I64 b) (hc:I64 c) (hd:I64 d):∃ l,keyOf Tryz.prog 246 (.agg #[.int .i64 a,.int .i64 b,.int .i64 c,.int .i64 d])=some l:=by
 have hs:∃ m,Tryz.prog.types.size=m+1:=⟨Tryz.prog.types.size-1,by kernel_rfl⟩
 obtain ⟨m,hm⟩:=hs
 refine ⟨.string (keyBytes [.int .i64 a,.int .i64 b,.int .i64 c,.int .i64 d]),?_⟩
 unfold keyOf
 simp only [grp_arr.hu,grp_kt,Value.formed,grp_arr.size,Bool.true_and]
 rw [hm]
 unfold Program.keyLits
 simp only [grp_arr.hu,grp_arr.size,Value.cells]
 have e1:∀ x,I64 x→Tryz.prog.keyLits (m+1) 3 [.int .i64 x]=some [.int .i64 x]:=by
  intro x hx
  unfold Program.keyLits
  simp [Tryz.underlying3,lit_wf hx]
 simp [List.range,List.range.loop,cells_int,e1 _ ha,e1 _ hb,e1 _ hc,e1 _ hd]
def natV (k:Nat):Value:=.int .i64 k
def RowV (w:World) (m:Nat) (v:Value) (xs:List Nat):Prop:=w.ownsRow 0 3 1 v xs.length (xs.map natV)∧xs.length≤m∧∀ k∈xs,k<m
structure Grp (w:World) (B b m:Nat) (es:Array MapEntry) (clock:Nat):Prop where
 blk:w.heap[b]? = some (.map es clock)
 stamped:Stamped es clock
 keys:∀ x∈es.toList,∃ l,keyOf Tryz.prog 246 x.key=some l
 vals:∀ (i:Nat) (x:MapEntry),es[i]? = some x→∃ xs,RowV w m x.val xs
 young:∀ (i:Nat) (x:MapEntry),es[i]? = some x→∀ g,x.val.ownBlock=some g→B≤g
 apart:∀ (i j:Nat) (x y:MapEntry),es[i]? = some x→es[j]? = some y→i≠j→∀ g,x.val.ownBlock=some g→y.val.ownBlock≠some g
theorem RowV.nil (w:World) (m:Nat):RowV w m (.slice none 0 0) []:=⟨World.ownsRow_nil _ _ _ _,Nat.zero_le _,fun k hk=>(by cases hk)⟩
theorem map_ne {w:World} {g b:Nat} {t:TypeId} {es:Array MapEntry} {clock:Nat} (h:TyAt w g t) (hb:w.heap[b]? = some (.map es clock)):g≠b:=by
 obtain ⟨cs,fr,hg⟩:=h
 intro e
 rw [e,hb] at hg
 cases hg
theorem touch_setBlock (w:World) (b:Nat) (o:Obj):Touch (fun x=>x=b) w (setBlock w b o) :=
 ⟨rfl,rfl,rfl,by simp [setBlock],fun k _ hk=>by
  have:b≠k:=fun e=>hk e.symm
  simp [setBlock,this]⟩
theorem heap_setBlock {w:World} {b:Nat} {o:Obj} (h:b<w.heap.size):(setBlock w b o).heap[b]? = some o:=by
 simp [setBlock,h]
theorem map_lt {w:World} {b:Nat} {o:Obj} (h:w.heap[b]? = some o):b<w.heap.size:=by
 rcases Nat.lt_or_ge b w.heap.size with h1 | h1
 ·exact h1
 ·rw [Array.getElem?_eq_none h1] at h;cases h
theorem RowV.touch {w w':World} {m:Nat} {v:Value} {xs:List Nat} {S:Nat→Prop} (h:RowV w m v xs) (T:Touch S w w') (hs:∀ g,v.ownBlock=some g→¬ S g):RowV w' m v xs:=⟨own_touch h.1 T hs,h.2⟩
theorem Grp.quiet {w w':World} {B b m clock:Nat} {es:Array MapEntry} (h:Grp w B b m es clock) (T:Touch (fun _=>False) w w'):Grp w' B b m es clock :=
 ⟨(T.block b (map_lt h.blk) (fun f=>f)).trans h.blk,h.stamped,h.keys,fun i x hx=>by
   obtain ⟨xs,hr⟩:=h.vals i x hx
   exact ⟨xs,hr.touch T (fun _ _ f=>f)⟩,h.young,h.apart⟩
theorem Grp.far {w w':World} {B b m clock:Nat} {es:Array MapEntry} {S:Nat→Prop} (h:Grp w B b m es clock) (T:Touch S w w') (hb:¬ S b) (hs:∀ g,TyAt w g 3 → ¬ S g):Grp w' B b m es clock :=
 ⟨(T.block b (map_lt h.blk) hb).trans h.blk,h.stamped,h.keys,fun i x hx=>by
   obtain ⟨xs,hr⟩:=h.vals i x hx
   exact ⟨xs,hr.touch T (fun g hg=>hs g (own_ty hr.1 hg))⟩,h.young,h.apart⟩
theorem Grp.up {w:World} {B b m m' clock:Nat} {es:Array MapEntry} (h:Grp w B b m es clock) (hm:m≤m'):Grp w B b m' es clock :=
 ⟨h.blk,h.stamped,h.keys,fun i x hx=>by
  obtain ⟨xs,h1,h2,h3⟩:=h.vals i x hx
  exact ⟨xs,h1,by omega,fun k hk=>by have:=h3 k hk;omega⟩,h.young,h.apart⟩
theorem Grp.lookup {w:World} {B b m clock:Nat} {es:Array MapEntry} (h:Grp w B b m es clock) {key:Value} {l:Lit} (hk:keyOf Tryz.prog 246 key=some l) :
  ∃ v xs,(Instr.lookup 241 (.map (some b)) key false).run Tryz.prog w=.ok v w∧RowV w m v xs:=by
 rcases grp_law.find w hk es.toList h.keys with ⟨h1,h2⟩ | ⟨j,e0,h1,h2,h3⟩
 ·refine ⟨.slice none 0 0,[],?_,RowV.nil _ _⟩
  simp [Instr.lookup,run_underlying Tryz.underlying241,MapKept.run_getObj_map h.blk,grp_law.check w _ hk,h1,Result.andThen]
 ·obtain ⟨xs,hr⟩:=h.vals j e0 (by simpa using h2)
  refine ⟨e0.val,xs,?_,hr⟩
  simp [Instr.lookup,run_underlying Tryz.underlying241,MapKept.run_getObj_map h.blk,grp_law.check w _ hk,h1,Result.andThen]
theorem Grp.entry {w:World} {B b m clock:Nat} {es:Array MapEntry} (h:Grp w B b m es clock) {key:Value} {l:Lit} (hk:keyOf Tryz.prog 246 key=some l) :
  ∃ (es1:Array MapEntry) (clock1 j:Nat) (e0:MapEntry),(Instr.mapEntry 241 (.map (some b)) key).run Tryz.prog w=.ok (.tuple #[e0.val,goInt e0.born]) (setBlock w b (.map es1 clock1))∧Grp (setBlock w b (.map es1 clock1)) B b m es1 clock1∧es1[j]? = some e0:=by
 have hT:=fun o=>touch_setBlock w b o
 have hlt:=map_lt h.blk
 have hne:∀ (i:Nat) (x:MapEntry),es[i]? = some x→∀ g,x.val.ownBlock=some g→¬ g=b:=by
  intro i x hx g hg
  obtain ⟨xs,hr⟩:=h.vals i x hx
  exact map_ne (own_ty hr.1 hg) h.blk
 rcases grp_law.find w hk es.toList h.keys with ⟨h1,h2⟩ | ⟨j,e0,h1,h2,h3⟩
 ·refine ⟨es.push ⟨key,.slice none 0 0,clock⟩,clock+1,es.size,⟨key,.slice none 0 0,clock⟩,?_,⟨heap_setBlock hlt,stamped_push h.stamped h2,?_,?_,?_,?_⟩,by simp⟩
  ·simp [Instr.mapEntry,run_underlying Tryz.underlying241,MapKept.run_getObj_map h.blk,grp_law.check w false hk,h1,MapKept.run_setObj_map _ h.blk,Result.andThen,setBlock]
  ·intro x hx
   simp only [Array.toList_push,List.mem_append,List.mem_singleton] at hx
   rcases hx with hx | rfl
   ·exact h.keys x hx
   ·exact ⟨l,hk⟩
  ·intro i x hx
   rw [Array.getElem?_push] at hx
   split at hx
   ·injection hx with hx
    subst hx
    exact ⟨[],RowV.nil _ _⟩
   ·obtain ⟨xs,hr⟩:=h.vals i x hx
    exact ⟨xs,hr.touch (hT _) (hne i x hx)⟩
  ·intro i x hx g hg
   rw [Array.getElem?_push] at hx
   split at hx
   ·injection hx with hx
    subst hx
    cases hg
   ·exact h.young i x hx g hg
  ·intro i j x y hx hy hij g hg
   rw [Array.getElem?_push] at hx hy
   split at hx
   ·injection hx with hx
    subst hx
    cases hg
   ·split at hy
    ·injection hy with hy
     subst hy
     intro e
     cases e
    ·exact h.apart i j x y hx hy hij g hg
 ·have hj:es[j]? = some e0:=by simpa using h2
  have hsame:es.modify j (fun e=>{ e with key:=key })=es:=by
   apply Array.ext'
   rw [Array.toList_modify,modify_eq_set _ _ _ _ h2]
   have:({ e0 with key:=key }:MapEntry)=e0:=by rw [← h3]
   rw [this]
   exact set_self _ _ _ h2
  refine ⟨es,clock,j,e0,?_,⟨heap_setBlock hlt,h.stamped,h.keys,fun i x hx=>?_,h.young,h.apart⟩,hj⟩
  ·simp [Instr.mapEntry,run_underlying Tryz.underlying241,MapKept.run_getObj_map h.blk,grp_law.check w false hk,h1,hj,h3,grp_law.stays w hk,hsame,MapKept.run_setObj_map _ h.blk,Result.andThen,setBlock]
  ·obtain ⟨xs,hr⟩:=h.vals i x hx
   exact ⟨xs,hr.touch (hT _) (hne i x hx)⟩
theorem Grp.store {w w6:World} {B b m clock j:Nat} {es:Array MapEntry} {e0:MapEntry} (h:Grp w B b m es clock) (hj:es[j]? = some e0) {v1:Value} {xs:List Nat} (hg:w.grownBy w6 e0.val.ownBlock) (hf:Fresh w e0.val v1) (hv:RowV w6 (m+1) v1 xs) (hB:B≤w.heap.size) :
  ∃ es',(Instr.entryStore 241 (.map (some b)) (goInt e0.born) v1).run Tryz.prog w6=.ok () (setBlock w6 b (.map es' clock))∧Grp (setBlock w6 b (.map es' clock)) B b (m+1) es' clock:=by
 have hlt:=map_lt h.blk
 have hnb:∀ (i:Nat) (x:MapEntry),es[i]? = some x→∀ g,x.val.ownBlock=some g→¬ g=b:=by
  intro i x hx g hg
  obtain ⟨xs,hr⟩:=h.vals i x hx
  exact map_ne (own_ty hr.1 hg) h.blk
 have hT6:Touch (fun x=>e0.val.ownBlock=some x) w w6:=(Touch.refl _ _).grown hg (fun k hk _=>hk)
 have hb6:w6.heap[b]? = some (.map es clock):=(hT6.block b hlt (fun e=>hnb j e0 hj b e rfl)).trans h.blk
 have hT7:=fun o=>touch_setBlock w6 b o
 have hl:es.toList[j]? = some e0:=by simpa using hj
 have hidx:es.findIdx? (fun e=>((e.born:Nat):Int) == ((e0.born:Nat):Int))=some j:=by
  rw [findIdx_arr]
  exact findIdx_born h.stamped.2.1 hl
 have hget:∀ i:Nat,(es.modify j (fun e=>{ e with val:=v1 }))[i]? = if j=i then (es[i]?).map (fun e=>{ e with val:=v1 }) else es[i]? := by
  intro i
  rw [Array.getElem?_modify]
 refine ⟨es.modify j (fun e=>{ e with val:=v1 }),?_,⟨heap_setBlock (map_lt hb6),stamped_modify h.stamped j _ (fun _ _=>rfl) (fun _ _ _=>rfl),?_,?_,?_,?_⟩⟩
 ·simp [Instr.entryStore,MapKept.run_getObj_map hb6,asInt,asIntOf,goInt,hidx,MapKept.run_setObj_map _ hb6,Result.andThen,setBlock]
 ·intro x hx
  rw [Array.toList_modify,modify_eq_set _ _ _ _ hl] at hx
  rcases List.mem_or_eq_of_mem_set hx with hx | rfl
  ·exact h.keys x hx
  ·exact h.keys e0 (List.mem_of_getElem? hl)
 ·intro i x hx
  rw [hget] at hx
  split at hx
  ·rename_i hji
   subst hji
   rw [hj] at hx
   simp only [Option.map_some,Option.some.injEq] at hx
   subst hx
   refine ⟨xs,hv.touch (hT7 _) fun g hg' e=>?_⟩
   exact map_ne (own_ty hv.1 hg') hb6 e
  ·rename_i hji
   obtain ⟨ys,hr⟩:=(h.up (Nat.le_succ m)).vals i x hx
   refine ⟨ys,(hr.touch hT6 fun g hg' e=>?_).touch (hT7 _) (hnb i x hx)⟩
   exact h.apart j i e0 x hj hx hji g e hg'
 ·intro i x hx g hg'
  rw [hget] at hx
  split at hx
  ·rename_i hji
   subst hji
   rw [hj] at hx
   simp only [Option.map_some,Option.some.injEq] at hx
   subst hx
   rcases hf with hf | ⟨g2,e2,hf⟩
   ·simp only at hg'
    rw [hf] at hg'
    exact h.young j e0 hj g hg'
   ·simp only at hg'
    rw [e2] at hg'
    injection hg' with hg'
    omega
  ·exact h.young i x hx g hg'
 ·have hfar:∀ (i:Nat) (x:MapEntry),es[i]? = some x→j≠i→∀ g,v1.ownBlock=some g→x.val.ownBlock≠some g:=by
   intro i x hx hji g hg' e
   rcases hf with hf | ⟨g2,e2,hf⟩
   ·rw [hf] at hg'
    exact h.apart j i e0 x hj hx hji g hg' e
   ·rw [e2] at hg'
    injection hg' with hg'
    obtain ⟨ys,hr⟩:=h.vals i x hx
    have:=(own_ty hr.1 e).lt
    omega
  intro i k x y hx hy hik g hg'
  rw [hget] at hx hy
  split at hx
  ·rename_i hji
   rw [if_neg (by omega)] at hy
   subst hji
   rw [hj] at hx
   simp only [Option.map_some,Option.some.injEq] at hx
   subst hx
   exact hfar k y hy hik g hg'
  ·split at hy
   ·rename_i hji hjk
    subst hjk
    rw [hj] at hy
    simp only [Option.map_some,Option.some.injEq] at hy
    subst hy
    intro e
    exact hfar i x hx hji g e hg'
   ·exact h.apart i k x y hx hy hik g hg'
end Go.Proofs.YthockgmbooefpaaGreatDoor
namespace Go.Proofs.YthockgmbooefpaaGreatDoor
def uF (sts:List StP) (n:Nat):Nat→List S3
 | 0=>List.replicate n z3
 | i+1=>(uF sts n i).set i (sumP (uF sts n i) (sts.getD i noSt) (sts.getD i noSt).arcs.length)
theorem uF_len (sts:List StP) (n:Nat):∀ i,(uF sts n i).length=n
 | 0=>by simp [uF]
 | i+1=>by simp [uF,uF_len sts n i]
structure RightP (sts:List StP) (base:Int):Prop where
 pos:0<sts.length
 few:sts.length≤98305
 base1:1≤base
 base2:base≤1048576
 root:(sts.getD (sts.length-1) noSt).fin=false
 form:∀ i,i<sts.length→FormP i (sts.getD i noSt)
 sumB:∀ i,i<sts.length→∀ j,(0≤(sumP (uF sts sts.length i) (sts.getD i noSt) j).1∧(sumP (uF sts sts.length i) (sts.getD i noSt) j).1≤4096)∧(0≤(sumP (uF sts sts.length i) (sts.getD i noSt) j).2.1∧(sumP (uF sts sts.length i) (sts.getD i noSt) j).2.1≤24)∧(0≤(sumP (uF sts sts.length i) (sts.getD i noSt) j).2.2∧(sumP (uF sts sts.length i) (sts.getD i noSt) j).2.2≤1048576)
 sumE:∀ i,i<sts.length→∀ a∈(sts.getD i noSt).arcs,(0≤((uF sts sts.length i).getD a.2.2 z3).1∧((uF sts sts.length i).getD a.2.2 z3).1≤4096)∧(0≤((uF sts sts.length i).getD a.2.2 z3).2.1∧((uF sts sts.length i).getD a.2.2 z3).2.1≤24)∧(0≤((uF sts sts.length i).getD a.2.2 z3).2.2∧((uF sts sts.length i).getD a.2.2 z3).2.2≤1048576)
 top:base+((uF sts sts.length sts.length).getD (sts.length-1) z3).2.2≤1048576
 unalike:∀ i j,i<sts.length→j<sts.length→sts.getD i noSt=sts.getD j noSt→i=j
 vis:∃ F s',visF sts F (sts.length-1) (List.replicate sts.length false) 0=(true,s',sts.length)
theorem Her.deep {R:Rs} (h:Her R):depR R≤24:=by
 have:depR R<25:=depR_lt (by omega) fun r hr=>by have:=h.dep r hr;omega
 omega
theorem getD_get? {α:Type} {l:List α} {d:α} {i:Nat} (h:i<l.length):l[i]? = some (l.getD i d):=by
 simp [List.getD,h]
theorem sums_uF {k:KnP} (hk:Good k) (hh:∀ X∈k.rests,Her X):∀ i,i≤k.states.length→SumsTo k (uF k.states k.states.length i) i
 | 0,_=>fun j hj=>absurd hj (Nat.not_lt_zero _)
 | i+1,hi=>fun j hj R hR=>by
  have ih:=sums_uF hk hh i (by omega)
  simp only [uF]
  by_cases e:j=i
  ·subst e
   have hz:k.states[j]? = some (k.states.getD j noSt):=getD_get? (by omega)
   have hc:=hk.corr j R _ hR hz
   have hhR:=hh R (List.mem_of_getElem? hR)
   have hd:=hhR.deep
   have h:=(sum_corr ih hc hhR hd (k.states.getD j noSt).arcs.length).2.2.2.1 (Nat.le_refl _)
   rw [List.getD_eq_getElem?_getD,List.getElem?_set_self (by rw [uF_len];omega)]
   exact h
  ·rw [List.getD_eq_getElem?_getD,List.getElem?_set_ne (by omega),← List.getD_eq_getElem?_getD]
   exact ih j (by omega) R hR
theorem her_rest {R:Rs} (h:Her R):∀ r∈R,r.2≤1048576:=fun r hr=>(h.wt r hr).2
theorem right_made {L:List PRow} (hD:DictP L) (hne:L≠[]):RightP (mach L).states (mach L).base:=by
 have hm:mach L=⟨leastR (restsL L),(stateF 25 ⟨[],[]⟩ (restsL L)).1.states⟩:=by unfold mach;rw [if_neg hne]
 rw [hm]
 have M:=made hD hne
 have hher:=stateF_her 25 ⟨[],[]⟩ (restsL L) (fun X hX=>(by cases hX)) (her_dict hD)
 have htot:=tot_dict hD
 have hne2:=rests_ne hne
 obtain ⟨k,hk⟩:∃ k,k=(stateF 25 ⟨[],[]⟩ (restsL L)).1:=⟨_,rfl⟩
 rw [← hk] at M hher ⊢
 simp only
 have hwt:∀ r∈restsL L,1≤r.2∧r.2≤1048576:=by
  intro r hr
  obtain ⟨p,hp,rfl⟩:=List.mem_map.1 hr
  exact hD.weight p hp
 obtain ⟨r0,hr0,e0⟩:=leastR_mem hne2
 have hb:=hwt r0 hr0
 have hst:∀ i,i<k.states.length→k.states[i]? = some (k.states.getD i noSt):=fun i hi=>getD_get? hi
 have hre:∀ i,i<k.states.length→∃ R,k.rests[i]? = some R∧Corr k.rests i R (k.states.getD i noSt)∧Her R:=by
  intro i hi
  have hl:i<k.rests.length:=by rw [M.good.len];exact hi
  refine ⟨k.rests[i],List.getElem?_eq_getElem hl,M.good.corr i _ _ (List.getElem?_eq_getElem hl) (hst i hi),hher _ (List.getElem_mem hl)⟩
 have hsums:=sums_uF M.good hher
 have hlast:k.states.length-1<k.states.length:=by have:=M.pos;omega
 refine ⟨M.pos,by have:=M.few;omega,by omega,by omega,?_,?_,?_,?_,?_,?_,⟨25,_,M.vis 25 (Nat.le_refl _)⟩⟩
 ·obtain ⟨R,hR,hc,_⟩:=hre _ hlast
  rw [M.root] at hR
  injection hR with hR
  subst hR
  rw [hc.fin]
  cases hf:finR (levelR (restsL L)) with
  | false=>rfl
  | true =>
   exfalso
   obtain ⟨n,hn⟩:=finR_iff.1 hf
   have h1:=mem_level.1 hn
   obtain ⟨p,hp,e⟩:=List.mem_map.1 h1
   simp only [Prod.mk.injEq] at e
   have:=(hD.word p hp).2.2.1
   rw [e.1] at this
   simp at this
 ·intro i hi
  obtain ⟨R,hR,hc,hh⟩:=hre i hi
  exact form_corr hc hh
 ·intro i hi j
  obtain ⟨R,hR,hc,hh⟩:=hre i hi
  obtain ⟨h1,h2,h3,_,_⟩:=sum_corr (hsums i (by omega)) hc hh hh.deep j
  refine ⟨h1,⟨h2.1,?_⟩,h3.1,h3.2 _ (her_rest hh)⟩
  have:=hh.deep
  omega
 ·intro i hi a ha
  obtain ⟨R,hR,hc,hh⟩:=hre i hi
  obtain ⟨h1,h2,h3,h4,h5,h6⟩:=(sum_corr (hsums i (by omega)) hc hh hh.deep 0).2.2.2.2 a ha
  exact ⟨⟨h1,h2⟩,⟨h3,h4⟩,h5,h6⟩
 ·have h:=hsums k.states.length (Nat.le_refl _) (k.states.length-1) hlast _ M.root
  have h2:=h.wt1 (1048576-leastR (restsL L)) fun r hr=>by
   have h3:=hwt _ (mem_level.1 (show (r.1,r.2)∈levelR (restsL L) from hr))
   simp only at h3
   omega
  omega
 ·intro i j hi hj e
  have h1:=hst i hi
  have h2:=hst j hj
  rw [← e] at h2
  exact M.good.unalike h1 h2
end Go.Proofs.YthockgmbooefpaaGreatDoor
