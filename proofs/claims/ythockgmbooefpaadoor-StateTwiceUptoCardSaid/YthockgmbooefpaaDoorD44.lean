/- What the law rests on, part 44. No condition but those that each theorem names. -/
import Derived.Test.YthockgmbooefpaaDoorD43
import Derived.Test.YthockgmbooefpaaDoorD24
set_option linter.unusedSectionVars false
set_option linter.unusedSimpArgs false
set_option linter.unusedVariables false
namespace Go.Proofs.YthockgmbooefpaaDoor
open Go.RowKit
theorem Touch.fp {w w':World} {d tb:Nat} {v:Value} (h:Touch (fp tb v) w w'):Touch (stF d tb v) w w':=h.mono (fun _ _ e=>.inr e)
theorem sdo_any (w:World) (hL:Lst w) {s d tb:Nat} {v:Value} {L:List PRow} {q:Nat} {R:List SRow} (h:StX w s d tb v L q R) (c:CmdP) (hc:c.Wf) :
  Calls Tryd.prog 11 #[ptrV s,c.val] w fun e w'=>e=.returned (ansV (doA c L R))∧(∃ v',(∃ q',StX w' s d tb v' (doL c L R) q' (doR c L R))∧Fresh w v v')∧Touch (stF d tb v) w w':=by
 obtain ⟨kd,sid,sq,kw,n⟩:=c
 unfold CmdP.Wf at hc
 by_cases h1:kd=1
 ·subst h1
  by_cases hn:R.length<4096
  ·refine (sdo_open w hL h sid sq n kw hc hn).mono ?_
   rintro e w' ⟨rfl,⟨v',hs,hf⟩,T⟩
   refine ⟨by simp [doA,hn],⟨v',⟨q,?_⟩,hf⟩,T.fp⟩
   simpa [doL,doR,goesB,hn] using hs
  ·refine (sdo_full w hL h sid sq n kw hc (by have:=h.few;omega)).mono ?_
   rintro e w' ⟨rfl,T⟩
   refine ⟨by simp [doA,hn],⟨v,⟨q,?_⟩,.inl rfl⟩,T.up _⟩
   simpa [doL,doR,goesB,hn] using h.quiet T
 ·by_cases h2:kd=2∨kd=3
  ·exact sdo_set w hL h sid sq n kw hc kd h2
  ·refine (sdo_other w hL h sid sq n kw hc kd h1 (by omega) (by omega)).mono ?_
   rintro e w' ⟨rfl,T⟩
   refine ⟨by simp [doA,h1,h2],⟨v,⟨q,?_⟩,.inl rfl⟩,T.up _⟩
   simpa [doL,doR,goesB,h1,h2] using h.quiet T
set_option maxRecDepth 100000 in
theorem words_st (w:World) (hL:Lst w) {s d tb:Nat} {v:Value} {L:List PRow} {q:Nat} {R:List SRow} (h:StX w s d tb v L q R) :
  Calls Tryd.prog 10 #[ptrV s] w fun e w'=>∃ A' c',e=.returned (.slice A' L.length c')∧POwn w' A' L.length c' L∧Touch (fun _=>False) w w':=by
 obtain ⟨s0,s1,s2⟩:=h.blk.facts
 have HC:=hide (pairs_any w hL h.dct)
 clear h hL
 go_enter Tryd.func10,Tryd.ntmps10
 go_wp2_with fail
 refine HC.out.mono ?_
 rintro e w1 ⟨A',c',rfl,hp,T⟩
 have HP:=hide hp
 have HT:=hide T
 clear hp T
 go_wp2_with fail
 go_ret
 exact ⟨A',c',rfl,HP.out,HT.out⟩
set_option maxRecDepth 100000 in
theorem sessions_st (w:World) {s d tb:Nat} {v:Value} {L:List PRow} {q:Nat} {R:List SRow} (h:StX w s d tb v L q R) :
  Calls Tryd.prog 27 #[ptrV s] w fun e w'=>∃ v',e=.returned v'∧w'.ownsRow 0 69 4 v' R.length (rowCells R)∧Touch (fun _=>False) w w'∧∀ g,v'.ownBlock=some g→w.heap.size≤g:=by
 obtain ⟨s0,s1,s2⟩:=h.blk.facts
 have HC:=hide (ses_rows w tb v R h.tab h.few)
 clear h
 go_enter Tryd.func27,Tryd.ntmps27
 go_wp2_with fail
 refine HC.out.mono ?_
 rintro e w1 ⟨v',rfl,hp⟩
 have HP:=hide hp
 clear hp
 go_wp2_with fail
 go_ret
 exact ⟨v',rfl,HP.out⟩
end Go.Proofs.YthockgmbooefpaaDoor
namespace Go.Proofs.YthockgmbooefpaaDoor
open Go.RowKit Go.ChangeShapes Go.WideShapes Go.ChangeAt
section
variable {H:Type} {enc:TypeId × Value→H} {P:Program} {w:World} {base:Nat} {spare:Nat→Bool} {held:Bool}
theorem field_bulk {t:TypeId} {fs:Array Field} {fuel:Nat} {cs:List Value} {x:DataW H × List MemPlace} (hs:P.underlying t=some (.struct fs)) (h:DataW.trod enc P w base spare held fuel t cs=some x)
  (i:Nat) (f:Field) (hf:fs[i]? = some f) (hk:P.underlying f.type=some .string) (hc:P.cellsOf f.type=1):∃ s:ByteArray,cs[f.offset]? = some (.string s)∧s.size≤Rows.uptoBulk x.1:=by
 obtain ⟨xs,n,_,hx,_,hlen,hg⟩:=DataW.trod_struct hs h
 have hi:i<fs.size:=(Array.getElem?_eq_some_iff.1 hf).1
 have hy:=hg i f hf
 rw [List.getElem?_eq_getElem (by omega:i<xs.length),hc] at hy
 obtain ⟨s,hn,hd,_⟩:=DataW.trod_string hk hy
 refine ⟨s,drop_take_one hn,?_⟩
 have hm:(xs[i]'(by omega)).1∈xs.map (·.1):=List.mem_map.2 ⟨_,List.getElem_mem _,rfl⟩
 have h1:=bulk_mem hm
 rw [hx]
 simp only [Rows.uptoBulk]
 rw [hd] at h1
 simp only [Rows.uptoBulk] at h1
 have e:s.data.toList.length=s.size:=Array.length_toList
 omega
theorem open_rowsB {R:Type} [Inhabited R] (cells:R→List Value) (bk:R→Nat) (size:Nat) (hcl:∀ r,(cells r).length=size) (h0:0<size) {t e:TypeId} {fuel:Nat} {cs:List Value} {x:DataW H × List MemPlace}
  (ht:P.underlying t=some (.slice e)) (hC:P.cellsOf e=size) (elem:∀ n cs (y:DataW H × List MemPlace),cs.length=size→DataW.trod enc P w base spare held n e cs=some y→∃ r,cs=cells r∧bk r≤Rows.uptoBulk y.1)
  (h:DataW.trod enc P w base spare held fuel t cs=some x) :
  ∃ A len cap,∃ l:List R,cs=[.slice A len cap]∧l.length=len∧len≤cap∧cap≤maxLen∧(A=none→len=0∧cap=0)∧Reads w size A len (l.flatMap cells)∧(∀ r∈l,bk r≤Rows.uptoBulk x.1)∧len≤Rows.uptoBulk x.1:=by
 rcases Go.Deep.open_slice ht h with ⟨hcs,hx⟩ | ⟨a,len,cap,m,n,D,Pl,hcs,hb,hl,hm,hmm,hx,hi⟩
 ·exact ⟨none,0,0,[],hcs,rfl,Nat.le_refl _,by simp [maxLen],fun _=>⟨rfl,rfl⟩,Reads.nil _ _ _,by simp,Nat.zero_le _⟩
 ·have hlm:len≤m:=by rw [hmm];split<;>omega
  have hel:∀ i,i<len→∃ r:R,bk r≤Rows.uptoBulk (D i)∧∀ j,j<size→w.cell? (a.add (i*size+j))=(cells r)[j]? := by
   intro i hil
   obtain ⟨cs',hc,hty⟩:=hi i (by omega)
   rw [hC] at hc
   obtain ⟨_,hlen,hat⟩:=World.cells?_some hc
   obtain ⟨r,hr,hw⟩:=elem _ cs' _ hlen hty
   refine ⟨r,hw,fun j hj=>?_⟩
   rw [← Go.Deep.add_add,hat j hj,hr]
  obtain ⟨f,hf⟩:=Go.Deep.choose_lt hel
  refine ⟨some a,len,cap,(List.range len).map f,hcs,by simp,hl,hm,(fun h=>by cases h),?_,?_,?_⟩
  ·refine ⟨by rw [flat_len cells size hcl];simp,fun hpos=>?_⟩
   have hc0:=(hf 0 hpos).2 0 h0
   have hsome:(cells (f 0))[0]? = some ((cells (f 0))[0]'(by rw [hcl];exact h0)):=List.getElem?_eq_getElem _
   rw [hsome] at hc0
   have hsp:=World.cell?_spot hc0
   obtain ⟨b,off,spot⟩:=a
   have hspot:spot=none:=by simpa [Addr.add] using hsp
   subst hspot
   have hlt:b<w.heap.size:=World.block_lt_of_cell? w _ (by simpa [Addr.add] using hc0)
   refine ⟨b,off,rfl,hlt,fun j u hu=>?_⟩
   have hjl:j<len*size:=by
    have:=(List.getElem?_eq_some_iff.1 hu).1
    rw [flat_len cells size hcl] at this
    simpa using this
   have hq:j / size<len:=Nat.div_lt_of_lt_mul (by rw [Nat.mul_comm];exact hjl)
   have hr:j % size<size:=Nat.mod_lt _ h0
   have e:j / size*size+j % size=j:=Nat.div_add_mod' j size
   have h1:=flat_at cells size hcl ((List.range len).map f) (j / size) (j % size) (by simpa using hq) hr
   rw [e,hu] at h1
   have h2:=(hf (j / size) hq).2 (j % size) hr
   rw [e,Addr.add_lit] at h2
   rw [h2,h1]
   simp
  ·intro r hr
   simp only [List.mem_map,List.mem_range] at hr
   obtain ⟨i,hi',rfl⟩:=hr
   have hmem:D i∈(List.range len).map D:=List.mem_map.2 ⟨i,List.mem_range.2 hi',rfl⟩
   have h1:=bulk_mem hmem
   have h2:=(hf i hi').1
   rw [hx]
   simp only [Rows.uptoBulk]
   omega
  ·have h1:=bulk_len ((List.range len).map D)
   rw [List.length_map,List.length_range] at h1
   rw [hx]
   simp only [Rows.uptoBulk]
   omega
end
theorem bulk_string {H:Type} {enc:TypeId × Value→H} {w:World} {base:Nat} {spare:Nat→Bool} {held:Bool} {s:ByteArray} {d:DataW H} {p:List MemPlace} (h:DataW.Trod enc Tryd.prog w base spare held 9 (.string s) d p):s.size≤Rows.uptoBulk d:=by
 obtain ⟨fuel,hf⟩:=h
 obtain ⟨s',hc,hx,_⟩:=DataW.trod_string Tryd.underlying9 hf
 simp [Value.cells] at hc
 subst hc
 injection hx with hd _
 subst hd
 simp only [Rows.uptoBulk]
 have e:s.data.toList.length=s.size:=Array.length_toList
 omega
end Go.Proofs.YthockgmbooefpaaDoor
