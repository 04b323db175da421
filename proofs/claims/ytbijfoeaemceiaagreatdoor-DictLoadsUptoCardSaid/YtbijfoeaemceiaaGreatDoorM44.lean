/- What the law rests on, part 44. No condition but those that each theorem names. -/
import Derived.Test.YtbijfoeaemceiaaGreatDoorM27
import Derived.Test.YtbijfoeaemceiaaGreatDoorM43
import Derived.Test.YtbijfoeaemceiaaGreatDoorM21
import Derived.Test.YtbijfoeaemceiaaGreatDoorM31
import Derived.Test.YtbijfoeaemceiaaGreatDoorM14
set_option linter.unusedSectionVars false
set_option linter.unusedSimpArgs false
set_option linter.unusedVariables false
namespace Go.Proofs.YtbijfoeaemceiaaGreatDoor
open Go.RowKit Go.ChangeShapes Go.WideShapes Go.ChangeAt
section
variable {H:Type} {enc:TypeId × Value→H} {P:Program} {w:World} {base:Nat} {spare:Nat→Bool} {held:Bool}
theorem field_bulk {t:TypeId} {fs:Array Field} {fuel:Nat} {cs:List Value} {x:DataW H × List MemPlace} (hs:P.underlying t=some (.struct fs)) (h:DataW.trod enc P w base spare held fuel t cs=some x)
  (i:Nat) (f:Field) (hf:fs[i]? = some f) (hk:P.underlying f.type=some .string) (hc:P.cellsOf f.type=1):∃ s:ByteArray,cs[f.offset]? = some (.string s)∧s.size≤Rows.uptoBulk x.1:=by
 obtain ⟨xs,n,_,hx,_,hlen,hg⟩:=DataW.trod_struct hs h
 have hi:i<fs.size:=(Array.getElem?_eq_some_iff.1 hf).1
 have hy:=hg i f hf
 rw [List.getElem?_eq_getElem (by omega:i<xs.length),hc] at hy
 obtain ⟨s,hn,hd,_⟩:=DataW.trod_string hk hy
 refine ⟨s,drop_take_one hn,?_⟩
 have hm:(xs[i]'(by omega)).1∈xs.map (·.1):=List.mem_map.2 ⟨_,List.getElem_mem _,rfl⟩
 have h1:=bulk_mem hm
 rw [hx]
 simp only [Rows.uptoBulk]
 rw [hd] at h1
 simp only [Rows.uptoBulk] at h1
 have e:s.data.toList.length=s.size:=Array.length_toList
 omega
theorem open_rowsB {R:Type} [Inhabited R] (cells:R→List Value) (bk:R→Nat) (size:Nat) (hcl:∀ r,(cells r).length=size) (h0:0<size) {t e:TypeId} {fuel:Nat} {cs:List Value} {x:DataW H × List MemPlace}
  (ht:P.underlying t=some (.slice e)) (hC:P.cellsOf e=size) (elem:∀ n cs (y:DataW H × List MemPlace),cs.length=size→DataW.trod enc P w base spare held n e cs=some y→∃ r,cs=cells r∧bk r≤Rows.uptoBulk y.1)
  (h:DataW.trod enc P w base spare held fuel t cs=some x) :
  ∃ A len cap,∃ l:List R,cs=[.slice A len cap]∧l.length=len∧len≤cap∧cap≤maxLen∧(A=none→len=0∧cap=0)∧Reads w size A len (l.flatMap cells)∧(∀ r∈l,bk r≤Rows.uptoBulk x.1)∧len≤Rows.uptoBulk x.1:=by
 rcases Go.Deep.open_slice ht h with ⟨hcs,hx⟩ | ⟨a,len,cap,m,n,D,Pl,hcs,hb,hl,hm,hmm,hx,hi⟩
 ·exact ⟨none,0,0,[],hcs,rfl,Nat.le_refl _,by simp [maxLen],fun _=>⟨rfl,rfl⟩,Reads.nil _ _ _,by simp,Nat.zero_le _⟩
 ·have hlm:len≤m:=by rw [hmm];split<;>omega
  have hel:∀ i,i<len→∃ r:R,bk r≤Rows.uptoBulk (D i)∧∀ j,j<size→w.cell? (a.add (i*size+j))=(cells r)[j]? := by
   intro i hil
   obtain ⟨cs',hc,hty⟩:=hi i (by omega)
   rw [hC] at hc
   obtain ⟨_,hlen,hat⟩:=World.cells?_some hc
   obtain ⟨r,hr,hw⟩:=elem _ cs' _ hlen hty
   refine ⟨r,hw,fun j hj=>?_⟩
   rw [← Go.Deep.add_add,hat j hj,hr]
  obtain ⟨f,hf⟩:=Go.Deep.choose_lt hel
  refine ⟨some a,len,cap,(List.range len).map f,hcs,by simp,hl,hm,(fun h=>by cases h),?_,?_,?_⟩
  ·refine ⟨by rw [flat_len cells size hcl];simp,fun hpos=>?_⟩
   have hc0:=(hf 0 hpos).2 0 h0
   have hsome:(cells (f 0))[0]? = some ((cells (f 0))[0]'(by rw [hcl];exact h0)):=List.getElem?_eq_getElem _
   rw [hsome] at hc0
   have hsp:=World.cell?_spot hc0
   obtain ⟨b,off,spot⟩:=a
   have hspot:spot=none:=by simpa [Addr.add] using hsp
   subst hspot
   have hlt:b<w.heap.size:=World.block_lt_of_cell? w _ (by simpa [Addr.add] using hc0)
   refine ⟨b,off,rfl,hlt,fun j u hu=>?_⟩
   have hjl:j<len*size:=by
    have:=(List.getElem?_eq_some_iff.1 hu).1
    rw [flat_len cells size hcl] at this
    simpa using this
   have hq:j / size<len:=Nat.div_lt_of_lt_mul (by rw [Nat.mul_comm];exact hjl)
   have hr:j % size<size:=Nat.mod_lt _ h0
   have e:j / size*size+j % size=j:=Nat.div_add_mod' j size
   have h1:=flat_at cells size hcl ((List.range len).map f) (j / size) (j % size) (by simpa using hq) hr
   rw [e,hu] at h1
   have h2:=(hf (j / size) hq).2 (j % size) hr
   rw [e,Addr.add_lit] at h2
   rw [h2,h1]
   simp
  ·intro r hr
   simp only [List.mem_map,List.mem_range] at hr
   obtain ⟨i,hi',rfl⟩:=hr
   have hmem:D i∈(List.range len).map D:=List.mem_map.2 ⟨i,List.mem_range.2 hi',rfl⟩
   have h1:=bulk_mem hmem
   have h2:=(hf i hi').1
   rw [hx]
   simp only [Rows.uptoBulk]
   omega
  ·have h1:=bulk_len ((List.range len).map D)
   rw [List.length_map,List.length_range] at h1
   rw [hx]
   simp only [Rows.uptoBulk]
   omega
end
end Go.Proofs.YtbijfoeaemceiaaGreatDoor
namespace Go.Proofs.YtbijfoeaemceiaaGreatDoor
open Go.RowKit Go.ChangeShapes Go.WideShapes Go.ChangeAt
section
variable {H:Type} {enc:TypeId × Value→H} {w:World} {base:Nat} {spare:Nat→Bool} {held:Bool}
instance:Inhabited OpD:=⟨OpD.zero⟩
theorem op_elem (n:Nat) (cs:List Value) (y:DataW H × List MemPlace) (hl:cs.length=3) (h:DataW.trod enc Tryz.prog w base spare held n 56 cs=some y):∃ r:OpD,cs=r.cells∧r.word.size≤Rows.uptoBulk y.1:=by
 obtain ⟨b,hb,_⟩:=field_int (k:=.i64) Tryz.underlying56 h 0 _ rfl (by kernel_rfl) (by kernel_rfl)
 obtain ⟨s,hs,ws⟩:=field_bulk Tryz.underlying56 h 1 _ rfl (by kernel_rfl) (by kernel_rfl)
 obtain ⟨c,hc,_⟩:=field_int (k:=.i64) Tryz.underlying56 h 2 _ rfl (by kernel_rfl) (by kernel_rfl)
 obtain ⟨x0,x1,x2,rfl⟩:=list3 hl
 simp at hs hb hc
 exact ⟨⟨b,s,c⟩,by rw [hs,hb,hc];rfl,ws⟩
set_option maxRecDepth 100000 in
theorem open_script {r:Reach} {b0:Nat} {v:Value} {d:DataW H} {p:List MemPlace} (hv:Value.okWide Tryz.prog w r b0 36 v) (h:DataW.Trod enc Tryz.prog w base spare held 36 v d p) :
  ∃ A len cap,∃ l:List OpD,v=.slice A len cap∧l.length=len∧Reads w 3 A len (oCells l)∧len≤maxLen∧∀ o∈l,o.word.size≤Rows.uptoBulk d:=by
 obtain ⟨a0,len,cap,rfl⟩:=okWide_slice Tryz.underlying36 hv
 obtain ⟨fuel,hf⟩:=h
 obtain ⟨A,len',cap',l,hcs,hl,hlc,hm,hn,hr,hw,_⟩:=open_rowsB OpD.cells (fun o=>o.word.size) 3 (fun _=>rfl) (by decide) Tryz.underlying36 (by kernel_rfl) op_elem hf
 simp [Value.cells] at hcs
 obtain ⟨rfl,rfl,rfl⟩:=hcs
 exact ⟨_,_,_,l,rfl,hl,hr,Nat.le_trans hlc hm,hw⟩
end
end Go.Proofs.YtbijfoeaemceiaaGreatDoor
namespace Go.Proofs.YtbijfoeaemceiaaGreatDoor
open Go.RowKit
def RBuildPost (L:List PRow) (w:World) (e:Ending) (w':World):Prop:=Touch (fun _=>False) w w' ∧
 ((rightU L=false∧∃ k:Int,(70≤k∧k=errU L)∧e=.returned (.tuple #[.agg #[.int .i64 0,.slice none 0 0],.int .i64 k])) ∨
   (rightU L=true∧∃ (A:Option Addr) (n c:Nat) (Z:List SV),e=.returned (.tuple #[.agg #[.int .i64 (mach L).base,.slice A n c],.int .i64 0])∧StsOk w' A n Z∧Z.map SV.p=(mach L).states∧n≤c))
theorem set2_touch {w wr:World} {R:Nat} (hR:w.heap.size≤R) (T:Touch (fun _=>False) w wr) (a b:Value):Touch (fun _=>False) w ((wr.setCell ⟨R,0,none⟩ a).setCell ⟨R,1,none⟩ b):=by
 iterate 2 refine Touch.setCell ?_ (fun h=>by simp only at h;omega) _
 exact T
theorem wpQuiet_consB {P:Program} {ops:Array Oper} {C:World→Prop} {Q:Act→Prop} {o:Oper} {l:List Oper} {a:Act}:wpQuiet P ops C Q (o :: l) a=(if Region.wanted o (yielded ops a.tmps) then o.quiet P a C (wpQuiet P ops C Q l) else wpQuiet P ops C Q l (a.put o.dst undef)):=rfl
set_option maxRecDepth 100000 in
set_option maxHeartbeats 8000000 in
theorem rbuild_any (w:World) (s:SL) (hs:s.Ok w) (hWz:∀ r∈s.L,r.word.size≤1099511627776) (hm:s.n≤maxLen) :
  Calls Tryz.prog 20 #[s.val] w fun e w'=>RBuildPost s.L w e w':=by
 have hWf:∀ r∈s.L,r.Wf:=fun r hr=>by have:=hWz r hr;unfold PRow.Wf;omega
 obtain ⟨w0,hw0⟩:∃ x,x=w.alloc (.cells #[.int .i64 0,.slice none 0 0] 30):=⟨_,rfl⟩
 have hT0:Touch (fun _=>False) w w0:=by rw [hw0];exact (Touch.refl _ _).alloc _
 have hbR:Blk w0 w.heap.size 30 #[.int .i64 0,.slice none 0 0]:=by rw [hw0];exact Blk.new _ _ _
 have HMK:Hid (∀ wx,Touch (fun _=>False) w wx→DictP s.L→Calls Tryz.prog 31 #[s.val] wx fun e w'=>∃ A n c Z,e=.returned (.agg #[.int .i64 (mach s.L).base,.slice A n c])∧StsOk w' A n Z∧Z.map SV.p=(mach s.L).states∧n≤c∧c≤maxLen∧Touch (fun _=>False) wx w'):=hide (fun wx T hD=>make_any wx s (hs.touch T) hD hWz)
 obtain ⟨R,hR⟩:∃ R,R=w.heap.size:=⟨_,rfl⟩
 rw [← hR] at hbR
 have HRR:=hide (show w.heap.size≤R by omega)
 have HRE:=hide hR
 have HW0:=hide hw0
 have HT0:=hide hT0
 have HBR:=hide hbR
 have hs0:=hs.touch hT0
 clear hw0 hbR hR
 obtain ⟨A,n,c,L⟩:=s
 have HR:=hide hs0.reads
 have HLN:=hide hs.len
 have HWF:=hide hWf
 clear hs hWf hs0 hT0 hWz
 simp only [SL.val] at HMK ⊢
 simp only at HR HLN HWF hm
 unfold maxLen at hm
 by_cases hbig:n≤4096
 ·have i0:¬ (4096:Int)<(n:Int):=by omega
  have HBIG:=hide hbig
  clear hbig
  go_enter Tryz.func20,Tryz.ntmps20
  go_wp2_with fail
  rw [← HW0.out]
  try rw [← HRE.out]
  go_loopw [4] (fun iv wr=>∃ i:Nat,iv=.int .i64 i∧i≤n∧Hid (∀ j,j<i→fitP L j=true)∧Hid (Touch (fun _=>False) w0 wr)) (fun iv _=>n-(intOf iv).toNat)
  case atStart=>exact ⟨0,rfl,Nat.zero_le _,hide (fun j hj=>by omega),hide (Touch.refl _ _)⟩
  case round =>
   obtain ⟨i,rfl,hin',HA,HT⟩:=hrel
   by_cases hin:i<n
   ·have y0:(i:Int)<(n:Int):=by omega
    have y1:(0:Int)≤(i:Int):=by omega
    have hpr:=preads_at HR.out HLN.out.symm i hin
    obtain ⟨g,o,hA,hg,a0,a1⟩:=hpr
    subst hA
    have hfit:=fitP_eq L i
    have her:=errAt_eq L i
    have hwf:=HWF.out _ (pgetD_mem L i (by rw [HLN.out];exact hin))
    obtain ⟨⟨xw,xn⟩,hx⟩:∃ x,x=L.getD i PRow.zero:=⟨_,rfl⟩
    rw [← hx] at a0 a1 hfit hwf her
    simp only at a0 a1 hfit her
    simp only [PRow.Wf] at hwf
    have hno:=fun h=>rightU_no (L:=L) (i:=i) (by rw [HLN.out];exact hin) h
    have HEA:=hide (fun h=>errU_at (L:=L) (i:=i) (by rw [HLN.out];exact HBIG.out) (by rw [HLN.out];exact hin) HA.out h)
    have HER:=hide her
    clear her
    have HA0:=hide (And.intro a0 (And.intro a1 hg))
    have HFIT:=hide hfit
    have HNO:=hide hno
    have HWFX:=hide hwf
    have b0:=(HT.out.cell (a:=⟨g,o+i*2,none⟩) hg (fun f=>f)).trans a0
    clear a0 a1 hg hx hfit hno hwf
    cases hwv:wordU xw.toList with
    | false =>
     have HWV:=hide hwv
     clear hwv
     go_wp2_with fail
     refine (rword_is xw false HWV.out HWFX.out wr).mono ?_
     rintro e w2 ⟨rfl,T2⟩
     have HT2:=hide (HT.out.then T2)
     clear T2
     have hTe:=HT2.out
     have hbE:=HBR.out.touch hTe (fun f=>f)
     obtain ⟨r0,r1,r2⟩:=hbE.facts
     go_wp2_with fail
     have hbF:=(hbE.set_ 0 (.int .i64 0)).set_ 1 (.slice none 0 0)
     have g0:=hbF.cell 0
     have g1:=hbF.cell 1
     exact bodyPost_ret (v:=.tuple #[.agg #[.int .i64 0,.slice none 0 0],.int .i64 71]) (by simp [results,Tryz.results20,go_sem,g0,g1]) rfl ⟨set2_touch HRR.out (HT0.out.then hTe) _ _,.inl ⟨HNO.out (by rw [HFIT.out,HWV.out];simp),71,⟨by decide,((HEA.out (by rw [HFIT.out,HWV.out];simp)).trans (err71 HER.out HWV.out)).symm⟩,rfl⟩⟩
    | true =>
     have HWV:=hide hwv
     clear hwv
     go_wp2_with fail
     refine (rword_is xw true HWV.out HWFX.out wr).mono ?_
     rintro e w2 ⟨rfl,T2⟩
     have HT2:=hide (HT.out.then T2)
     clear T2
     have b1:=(HT2.out.cell (a:=⟨g,o+i*2+1,none⟩) HA0.out.2.2 (fun f=>f)).trans HA0.out.2.1
     by_cases h1:xn<1
     ·have HH:=hide h1
      have hTe:=HT2.out
      have hbE:=HBR.out.touch hTe (fun f=>f)
      obtain ⟨r0,r1,r2⟩:=hbE.facts
      go_wp2_with fail
      have hbF:=(hbE.set_ 0 (.int .i64 0)).set_ 1 (.slice none 0 0)
      have g0:=hbF.cell 0
      have g1:=hbF.cell 1
      exact bodyPost_ret (v:=.tuple #[.agg #[.int .i64 0,.slice none 0 0],.int .i64 72]) (by simp [results,Tryz.results20,go_sem,g0,g1]) rfl ⟨set2_touch HRR.out (HT0.out.then hTe) _ _,.inl ⟨HNO.out (by rw [HFIT.out];simp [show ¬ 1≤xn from fun e=>by have:=HH.out;omega]),72,⟨by decide,((HEA.out (by rw [HFIT.out];simp [show ¬ 1≤xn from fun e=>by have:=HH.out;omega])).trans (err72 HER.out HWV.out (by have:=HH.out;rw [Bool.and_eq_false_iff,decide_eq_false_iff_not,decide_eq_false_iff_not];omega))).symm⟩,rfl⟩⟩
     ·by_cases h2:1048576<xn
      ·have HH:=hide h2
       have hTe:=HT2.out
       have hbE:=HBR.out.touch hTe (fun f=>f)
       obtain ⟨r0,r1,r2⟩:=hbE.facts
       go_wp2_with fail
       have hbF:=(hbE.set_ 0 (.int .i64 0)).set_ 1 (.slice none 0 0)
       have g0:=hbF.cell 0
       have g1:=hbF.cell 1
       exact bodyPost_ret (v:=.tuple #[.agg #[.int .i64 0,.slice none 0 0],.int .i64 72]) (by simp [results,Tryz.results20,go_sem,g0,g1]) rfl ⟨set2_touch HRR.out (HT0.out.then hTe) _ _,.inl ⟨HNO.out (by rw [HFIT.out];simp [show ¬ xn≤1048576 from fun e=>by have:=HH.out;omega]),72,⟨by decide,((HEA.out (by rw [HFIT.out];simp [show ¬ xn≤1048576 from fun e=>by have:=HH.out;omega])).trans (err72 HER.out HWV.out (by have:=HH.out;rw [Bool.and_eq_false_iff,decide_eq_false_iff_not,decide_eq_false_iff_not];omega))).symm⟩,rfl⟩⟩
      ·have HH1:=hide h1
       have HH2:=hide h2
       cases i with
       | zero =>
        go_wp2_with fail
        refine wp_region_quiet_lit (by kernel_rfl) (by kernel_rfl) ?_
        quiet_step (fail)
        quiet_step (fail)
        quiet_step (fail)
        rw [wpQuiet_consB]
        go_simp
        rw [wpQuiet_consB]
        go_simp
        rw [wpQuiet_consB]
        go_simp
        rw [wpQuiet_consB]
        go_simp
        rw [wpQuiet_consB]
        go_simp
        rw [wpQuiet_consB]
        go_simp
        rw [wpQuiet_consB]
        go_simp
        rw [wpQuiet_consB]
        go_simp
        rw [wpQuiet_consB]
        go_simp
        rw [wpQuiet_consB]
        go_simp
        rw [wpQuiet_consB]
        go_simp
        rw [wpQuiet_consB]
        go_simp
        rw [wpQuiet_consB]
        go_simp
        quiet_step (fail)
        refine wpQuiet_nil ?_
        intro nq
        go_wp2_with fail
        go_roundw
        ·exact ⟨1,rfl,by omega,hide (fun j hj=>by
          obtain rfl:j=0:=by omega
          rw [HFIT.out,HWV.out]
          have h1:=HH1.out
          have h2:=HH2.out
          simp [show 1≤xn by omega,show xn≤1048576 by omega]),hide (HT2.out.drewN _)⟩
        ·simp [intOf]
         omega
       | succ m =>
        obtain ⟨g',o',hA,_,z0,_⟩:=preads_at HR.out HLN.out.symm m (by omega)
        injection hA with hA
        injection hA with hA1 hA2
        subst hA1 hA2
        have hfx:=HFIT.out
        rw [HWV.out,Nat.add_sub_cancel] at hfx
        have hwf2:=HWF.out _ (pgetD_mem L m (by rw [HLN.out];omega))
        obtain ⟨⟨yw,yn⟩,hy⟩:∃ y,y=L.getD m PRow.zero:=⟨_,rfl⟩
        rw [← hy] at z0 hfx hwf2
        simp only at z0 hfx
        simp only [PRow.Wf] at hwf2
        have HFX:=hide hfx
        have HWFY:=hide hwf2
        have HZ0:=hide z0
        have HY2:=hide ((HT2.out.cell (a:=⟨g,o+m*2,none⟩) HA0.out.2.2 (fun f=>f)).trans z0)
        have HX2:=hide ((HT2.out.cell (a:=⟨g,o+(m+1)*2,none⟩) HA0.out.2.2 (fun f=>f)).trans HA0.out.1)
        have HG2:Hid (g<w2.heap.size):=hide (Nat.lt_of_lt_of_le HA0.out.2.2 HT2.out.size)
        clear hy hfx hwf2 z0
        have k2:IntKind.i64.wrap ((m:Int)+1-1)=(m:Int):=IntWalk.i64_in _ (by omega) |>.trans (by omega)
        have k3:IntKind.i64.wrap (m:Int)=(m:Int):=IntWalk.i64_in _ (by omega)
        have k4:(0:Int)≤(m:Int):=by omega
        have k5:(m:Int)<(n:Int):=by omega
        have k6:(0:Int)<(m:Int)+1:=by omega
        have k7:(0:Int)≤(m:Int)+1:=by omega
        cases hbl:Op.bytesLess yw.toList xw.toList with
        | false =>
         have HBL:=hide hbl
         clear hbl
         go_upto_region 11 with fail
         go_region_held3 (fun w'=>w'.cell? ⟨g,o+m*2,none⟩=some (.string yw)∧w'.cell? ⟨g,o+(m+1)*2,none⟩=some (.string xw)∧Touch (fun _=>False) w2 w')
          (first
            | exact cells2 HY2.out HG2.out HX2.out HG2.out (Touch.refl _ _)
            | exact cells2 HY2.out HG2.out HX2.out HG2.out (Touch.refl _ _).drew
            | (refine cells2 HY2.out HG2.out HX2.out HG2.out (Touch.then ?_ (by assumption));first | assumption | exact and_last3 (by assumption) | exact (Touch.refl _ _).drew | exact Touch.refl _ _))
          (first
            | (go_at_call 58;refine (rahead_is yw xw false HBL.out HWFY.out HWFX.out _).mono ?_;rintro e w3 ⟨rfl,T3⟩))
         all_goals
          have hTe:=HT2.out.then (and_last3 (by assumption))
          have hbE:=HBR.out.touch hTe (fun f=>f)
          obtain ⟨r0,r1,r2⟩:=hbE.facts
          go_wp2_with fail
          have hbF:=(hbE.set_ 0 (.int .i64 0)).set_ 1 (.slice none 0 0)
          have g0:=hbF.cell 0
          have g1:=hbF.cell 1
          exact bodyPost_ret (v:=.tuple #[.agg #[.int .i64 0,.slice none 0 0],.int .i64 73]) (by simp [results,Tryz.results20,go_sem,g0,g1]) rfl ⟨set2_touch HRR.out (HT0.out.then hTe) _ _,.inl ⟨HNO.out (by rw [HFX.out,HBL.out];simp),73,⟨by decide,((HEA.out (by rw [HFX.out,HBL.out];simp)).trans (err73 HER.out HWV.out (by have h1:=HH1.out;have h2:=HH2.out;rw [Bool.and_eq_true,decide_eq_true_eq,decide_eq_true_eq];omega))).symm⟩,rfl⟩⟩
        | true =>
         have HBL:=hide hbl
         clear hbl
         go_upto_region 11 with fail
         go_region_held3 (fun w'=>w'.cell? ⟨g,o+m*2,none⟩=some (.string yw)∧w'.cell? ⟨g,o+(m+1)*2,none⟩=some (.string xw)∧Touch (fun _=>False) w2 w')
          (first
            | exact cells2 HY2.out HG2.out HX2.out HG2.out (Touch.refl _ _)
            | exact cells2 HY2.out HG2.out HX2.out HG2.out (Touch.refl _ _).drew
            | (refine cells2 HY2.out HG2.out HX2.out HG2.out (Touch.then ?_ (by assumption));first | assumption | exact and_last3 (by assumption) | exact (Touch.refl _ _).drew | exact Touch.refl _ _))
          (first
            | (go_at_call 58;refine (rahead_is yw xw true HBL.out HWFY.out HWFX.out _).mono ?_;rintro e w3 ⟨rfl,T3⟩))
         all_goals
          go_wp2_with fail
          go_roundw
          ·exact ⟨m+1+1,by simp,by omega,hide (fun j hj=>by
            by_cases hj2:j=m+1
            ·subst hj2
             have h1:=HH1.out
             have h2:=HH2.out
             rw [HFX.out,HBL.out]
             simp [show 1≤xn by omega,show xn≤1048576 by omega]
            ·exact HA.out j (by omega)),hide (HT2.out.then (and_last3 (by assumption)))⟩
          ·simp [intOf]
           omega
   ·have hall:=rightU_yes (L:=L) (by rw [HLN.out];exact HBIG.out) (fun j hj=>HA.out j (by have:=HLN.out;omega))
    have HALL:=hide hall
    have HMK2:=hide (HMK.out wr (HT0.out.then HT.out) (dict_of_right hall))
    have y0:¬ (i:Int)<(n:Int):=by omega
    clear hall hin hin'
    go_wp2_with fail
    refine HMK2.out.mono ?_
    rintro e w5 ⟨A5,n5,c5,Z,rfl,hst,hz,hnc,_,T5⟩
    have hbE:=HBR.out.touch (HT.out.then T5) (fun f=>f)
    obtain ⟨r0,r1,r2⟩:=hbE.facts
    have HST:=hide hst
    have HZ:=hide hz
    have HNC:=hide hnc
    have HBE:=hide hbE
    have HT5:=hide (HT0.out.then (HT.out.then T5))
    obtain ⟨bs,hbs⟩:∃ b,(mach L).base=b:=⟨_,rfl⟩
    rw [hbs]
    have HBS:=hide hbs
    clear hst hz hnc hbE T5 HMK2 hbs
    go_wp2_with fail
    have hbF:=(HBE.out.set_ 0 (.int .i64 bs)).set_ 1 (.slice A5 n5 c5)
    have g0:=hbF.cell 0
    have g1:=hbF.cell 1
    have hTR:Touch (fun g=>g=R) w5 ((w5.setCell ⟨R,0,none⟩ (.int .i64 bs)).setCell ⟨R,1,none⟩ (.slice A5 n5 c5)) :=
     ((Touch.refl (fun g=>g=R) w5).setCell (p:=⟨R,0,none⟩) (fun _=>rfl) _).setCell (p:=⟨R,1,none⟩) (fun _=>rfl) _
    have hfin:StsOk ((w5.setCell ⟨R,0,none⟩ (.int .i64 bs)).setCell ⟨R,1,none⟩ (.slice A5 n5 c5)) A5 n5 Z :=
     ⟨HST.out.rd.touch hTR (fun g hg e=>hg.ne (blk_ty HBE.out) (by decide) e),HST.out.len,fun z hz=>(HST.out.el z hz).touch hTR (fun g hg e=>hg.ne (blk_ty HBE.out) (by decide) e)⟩
    exact bodyPost_ret (v:=.tuple #[.agg #[.int .i64 bs,.slice A5 n5 c5],.int .i64 0]) (by simp [results,Tryz.results20,go_sem,g0,g1]) rfl ⟨set2_touch HRR.out HT5.out _ _,.inr ⟨HALL.out,A5,n5,c5,Z,by rw [HBS.out],hfin,HZ.out,HNC.out⟩⟩
 ·have i0:(4096:Int)<(n:Int):=by omega
  have HALL:=hide (rightU_long (L:=L) (by rw [HLN.out];exact hbig))
  have HE70:=hide (errU_long (L:=L) (by rw [HLN.out];exact hbig))
  clear hbig
  go_enter Tryz.func20,Tryz.ntmps20
  go_wp2_with fail
  rw [← HW0.out]
  try rw [← HRE.out]
  have g0:=HBR.out.cell 0
  have g1:=HBR.out.cell 1
  exact bodyPost_ret (v:=.tuple #[.agg #[.int .i64 0,.slice none 0 0],.int .i64 70]) (by simp [results,Tryz.results20,go_sem,g0,g1]) rfl ⟨HT0.out,.inl ⟨HALL.out,70,⟨by decide,HE70.out.symm⟩,rfl⟩⟩
end Go.Proofs.YtbijfoeaemceiaaGreatDoor
