/- What the law rests on, part 37. No condition but those that each theorem names. -/
import Derived.Test.YthockgmbooefpaaGreatDoorJ19
import Derived.Test.YthockgmbooefpaaGreatDoorJ32
set_option linter.unusedSectionVars false
set_option linter.unusedSimpArgs false
set_option linter.unusedVariables false
namespace Go.Proofs.YthockgmbooefpaaGreatDoor
open Go.RowKit Go.ChangeShapes Go.WideShapes Go.ChangeAt
section
variable {H:Type} {enc:TypeId × Value→H} {P:Program} {w:World} {base:Nat} {spare:Nat→Bool} {held:Bool}
theorem field_bulk {t:TypeId} {fs:Array Field} {fuel:Nat} {cs:List Value} {x:DataW H × List MemPlace} (hs:P.underlying t=some (.struct fs)) (h:DataW.trod enc P w base spare held fuel t cs=some x)
  (i:Nat) (f:Field) (hf:fs[i]? = some f) (hk:P.underlying f.type=some .string) (hc:P.cellsOf f.type=1):∃ s:ByteArray,cs[f.offset]? = some (.string s)∧s.size≤Rows.uptoBulk x.1:=by
 obtain ⟨xs,n,_,hx,_,hlen,hg⟩:=DataW.trod_struct hs h
 have hi:i<fs.size:=(Array.getElem?_eq_some_iff.1 hf).1
 have hy:=hg i f hf
 rw [List.getElem?_eq_getElem (by omega:i<xs.length),hc] at hy
 obtain ⟨s,hn,hd,_⟩:=DataW.trod_string hk hy
 refine ⟨s,drop_take_one hn,?_⟩
 have hm:(xs[i]'(by omega)).1∈xs.map (·.1):=List.mem_map.2 ⟨_,List.getElem_mem _,rfl⟩
 have h1:=bulk_mem hm
 rw [hx]
 simp only [Rows.uptoBulk]
 rw [hd] at h1
 simp only [Rows.uptoBulk] at h1
 have e:s.data.toList.length=s.size:=Array.length_toList
 omega
theorem open_rowsB {R:Type} [Inhabited R] (cells:R→List Value) (bk:R→Nat) (size:Nat) (hcl:∀ r,(cells r).length=size) (h0:0<size) {t e:TypeId} {fuel:Nat} {cs:List Value} {x:DataW H × List MemPlace}
  (ht:P.underlying t=some (.slice e)) (hC:P.cellsOf e=size) (elem:∀ n cs (y:DataW H × List MemPlace),cs.length=size→DataW.trod enc P w base spare held n e cs=some y→∃ r,cs=cells r∧bk r≤Rows.uptoBulk y.1)
  (h:DataW.trod enc P w base spare held fuel t cs=some x) :
  ∃ A len cap,∃ l:List R,cs=[.slice A len cap]∧l.length=len∧len≤cap∧cap≤maxLen∧(A=none→len=0∧cap=0)∧Reads w size A len (l.flatMap cells)∧(∀ r∈l,bk r≤Rows.uptoBulk x.1)∧len≤Rows.uptoBulk x.1:=by
 rcases Go.Deep.open_slice ht h with ⟨hcs,hx⟩ | ⟨a,len,cap,m,n,D,Pl,hcs,hb,hl,hm,hmm,hx,hi⟩
 ·exact ⟨none,0,0,[],hcs,rfl,Nat.le_refl _,by simp [maxLen],fun _=>⟨rfl,rfl⟩,Reads.nil _ _ _,by simp,Nat.zero_le _⟩
 ·have hlm:len≤m:=by rw [hmm];split<;>omega
  have hel:∀ i,i<len→∃ r:R,bk r≤Rows.uptoBulk (D i)∧∀ j,j<size→w.cell? (a.add (i*size+j))=(cells r)[j]? := by
   intro i hil
   obtain ⟨cs',hc,hty⟩:=hi i (by omega)
   rw [hC] at hc
   obtain ⟨_,hlen,hat⟩:=World.cells?_some hc
   obtain ⟨r,hr,hw⟩:=elem _ cs' _ hlen hty
   refine ⟨r,hw,fun j hj=>?_⟩
   rw [← Go.Deep.add_add,hat j hj,hr]
  obtain ⟨f,hf⟩:=Go.Deep.choose_lt hel
  refine ⟨some a,len,cap,(List.range len).map f,hcs,by simp,hl,hm,(fun h=>by cases h),?_,?_,?_⟩
  ·refine ⟨by rw [flat_len cells size hcl];simp,fun hpos=>?_⟩
   have hc0:=(hf 0 hpos).2 0 h0
   have hsome:(cells (f 0))[0]? = some ((cells (f 0))[0]'(by rw [hcl];exact h0)):=List.getElem?_eq_getElem _
   rw [hsome] at hc0
   have hsp:=World.cell?_spot hc0
   obtain ⟨b,off,spot⟩:=a
   have hspot:spot=none:=by simpa [Addr.add] using hsp
   subst hspot
   have hlt:b<w.heap.size:=World.block_lt_of_cell? w _ (by simpa [Addr.add] using hc0)
   refine ⟨b,off,rfl,hlt,fun j u hu=>?_⟩
   have hjl:j<len*size:=by
    have:=(List.getElem?_eq_some_iff.1 hu).1
    rw [flat_len cells size hcl] at this
    simpa using this
   have hq:j / size<len:=Nat.div_lt_of_lt_mul (by rw [Nat.mul_comm];exact hjl)
   have hr:j % size<size:=Nat.mod_lt _ h0
   have e:j / size*size+j % size=j:=Nat.div_add_mod' j size
   have h1:=flat_at cells size hcl ((List.range len).map f) (j / size) (j % size) (by simpa using hq) hr
   rw [e,hu] at h1
   have h2:=(hf (j / size) hq).2 (j % size) hr
   rw [e,Addr.add_lit] at h2
   rw [h2,h1]
   simp
  ·intro r hr
   simp only [List.mem_map,List.mem_range] at hr
   obtain ⟨i,hi',rfl⟩:=hr
   have hmem:D i∈(List.range len).map D:=List.mem_map.2 ⟨i,List.mem_range.2 hi',rfl⟩
   have h1:=bulk_mem hmem
   have h2:=(hf i hi').1
   rw [hx]
   simp only [Rows.uptoBulk]
   omega
  ·have h1:=bulk_len ((List.range len).map D)
   rw [List.length_map,List.length_range] at h1
   rw [hx]
   simp only [Rows.uptoBulk]
   omega
end
theorem bulk_string {H:Type} {enc:TypeId × Value→H} {w:World} {base:Nat} {spare:Nat→Bool} {held:Bool} {s:ByteArray} {d:DataW H} {p:List MemPlace} (h:DataW.Trod enc Tryz.prog w base spare held 9 (.string s) d p):s.size≤Rows.uptoBulk d:=by
 obtain ⟨fuel,hf⟩:=h
 obtain ⟨s',hc,hx,_⟩:=DataW.trod_string Tryz.underlying9 hf
 simp [Value.cells] at hc
 subst hc
 injection hx with hd _
 subst hd
 simp only [Rows.uptoBulk]
 have e:s.data.toList.length=s.size:=Array.length_toList
 omega
end Go.Proofs.YthockgmbooefpaaGreatDoor
namespace Go.Proofs.YthockgmbooefpaaGreatDoor
open Go.RowKit
def cCells (l:List CmdP):List Value:=l.flatMap CmdP.cells
theorem cmd_at {w:World} {A:Option Addr} {n:Nat} {X:List CmdP} (h:Reads w 5 A n (cCells X)) (hn:n=X.length) (k:Nat) (hk:k<n) :
  ∃ g off,A=some ⟨g,off,none⟩∧g<w.heap.size∧w.cell? ⟨g,off+k*5,none⟩=some (.int .i64 (X.getD k CmdP.zero).kind)∧w.cell? ⟨g,off+k*5+1,none⟩=some (.int .u64 (X.getD k CmdP.zero).sess) ∧
   w.cell? ⟨g,off+k*5+2,none⟩=some (.int .u64 (X.getD k CmdP.zero).seq)∧w.cell? ⟨g,off+k*5+3,none⟩=some (.string (X.getD k CmdP.zero).word)∧w.cell? ⟨g,off+k*5+4,none⟩=some (.int .i64 (X.getD k CmdP.zero).n):=by
 subst hn
 obtain ⟨b,off,hA,hb,hc⟩:=h.2 (by omega)
 have key:∀ j,j<5→(cCells X)[k*5+j]? = (X.getD k CmdP.zero).cells[j]? := fun j hj=>by
  have e:X.getD k CmdP.zero=X[k]:=by simp [List.getD,hk]
  rw [e]
  exact flat_at CmdP.cells 5 (fun _=>rfl) X k j hk hj
 refine ⟨b,off,hA,hb,?_,?_,?_,?_,?_⟩
 ·exact hc (k*5) _ (key 0 (by omega))
 ·rw [Nat.add_assoc];exact hc (k*5+1) _ (key 1 (by omega))
 ·rw [Nat.add_assoc];exact hc (k*5+2) _ (key 2 (by omega))
 ·rw [Nat.add_assoc];exact hc (k*5+3) _ (key 3 (by omega))
 ·rw [Nat.add_assoc];exact hc (k*5+4) _ (key 4 (by omega))
def CmdP.In (c:CmdP):Prop:=0≤c.sess∧c.sess<18446744073709551616∧0≤c.seq∧c.seq<18446744073709551616
def stepS (S:List PRow × List SRow) (c:CmdP):List PRow × List SRow:=(doL c S.1 S.2,doR c S.1 S.2)
def runS (T:List CmdP) (S:List PRow × List SRow):List PRow × List SRow:=T.foldl stepS S
theorem runS_snoc (T:List CmdP) (c:CmdP) (S:List PRow × List SRow):runS (T++[c]) S=stepS (runS T S) c:=by simp [runS]
theorem ctake_succ (T:List CmdP) (i:Nat) (h:i<T.length):T.take (i+1)=T.take i++[T.getD i CmdP.zero]:=by
 rw [List.take_succ_eq_append_getElem h]
 have e:T.getD i CmdP.zero=T[i]:=by simp [List.getD,h]
 rw [e]
theorem doL_dict {L:List PRow} (hL:DictP L) (c:CmdP) (R:List SRow):DictP (doL c L R):=by
 unfold doL
 split
 ·unfold doW
  split
  ·exact set_dict hL _ _
  ·exact rem_dict hL _
 ·exact hL
theorem runS_dict {L:List PRow} (hL:DictP L) (R:List SRow) (T:List CmdP):DictP (runS T (L,R)).1:=by
 induction T generalizing L R with
 | nil=>exact hL
 | cons c T ih=>exact ih (doL_dict hL c R) _
theorem goes_new {c:CmdP} {R:List SRow} (h:goesB c R=true):thereB R c.sess=true∧(rowAt R c.sess).seq<c.seq∧¬ c.kind=1:=by
 unfold goesB at h
 simp only [Bool.and_eq_true,decide_eq_true_eq,Bool.not_eq_true'] at h
 obtain ⟨⟨hk,he⟩,hb⟩:=h
 have:=chk_new (K:=doC c R) rfl he hb
 exact ⟨this.1,this.2.1,by omega⟩
theorem row_set {R:List SRow} {id c:Int} (h:thereB R id=true) (hc:thereB R c=true) (r:SRow):thereB (R.set (c-1).toNat r) id=true∧rowAt (R.set (c-1).toNat r) id=if id=c then r else rowAt R id:=by
 obtain ⟨k,rfl,hk⟩:=thereB_at R id h
 obtain ⟨j,rfl,hj⟩:=thereB_at R c hc
 have e:((j:Int)+1-1).toNat=j:=by omega
 rw [e]
 have hk2:k<(R.set j r).length:=by simpa using hk
 refine ⟨thereB_succ _ k hk2,?_⟩
 rw [rowAt_succ _ k hk2,rowAt_succ _ k hk]
 by_cases hjk:j=k
 ·subst hjk
  simp
 ·rw [if_neg (by omega),List.getElem_set_ne hjk]
theorem twice_do {c:CmdP} (h1:¬ c.kind=1) (L:List PRow) (R:List SRow):doA c (doL c L R) (doR c L R)=doA c L R∧doL c (doL c L R) (doR c L R)=doL c L R∧doR c (doL c L R) (doR c L R)=doR c L R:=by
 by_cases hg:goesB c R=true
 ·obtain ⟨hc,hlt,_⟩:=goes_new hg
  have hR:doR c L R=R.set (c.sess-1).toNat ⟨c.seq,doE c L,0,doH c L⟩:=by unfold doR;rw [if_neg h1,if_pos hg]
  have hr:=row_set hc hc ⟨c.seq,doE c L,0,doH c L⟩
  rw [← hR,if_pos rfl] at hr
  have hg':=hg
  unfold goesB at hg'
  simp only [Bool.and_eq_true,decide_eq_true_eq,Bool.not_eq_true'] at hg'
  obtain ⟨⟨hk,he⟩,hb⟩:=hg'
  have hn:=do_new (c:=c) (L:=L) (R:=R) hk rfl he hb
  have hs0:¬ c.seq=0:=by
   intro h0
   have:=chk_new (K:=doC c R) rfl he hb
   unfold doC chk at he
   rw [hc,if_neg (by simp),if_pos (.inl h0)] at he
   simp at he
  have hK:doC c (doR c L R)=⟨doE c L,0,doH c L,true,0⟩:=by
   unfold doC chk
   rw [hr.1,hr.2,if_neg (by simp),if_neg (by simp only;omega),if_pos rfl]
  obtain ⟨a1,a2,a3⟩:=do_again (c:=c) (L:=doL c L R) (R:=doR c L R) hk hK rfl rfl
  exact ⟨by rw [a1,hn.1],a2,a3⟩
 ·have eL:doL c L R=L:=by unfold doL;rw [if_neg hg]
  have eR:doR c L R=R:=by unfold doR;rw [if_neg h1,if_neg hg]
  rw [eL,eR]
  exact ⟨rfl,eL,eR⟩
end Go.Proofs.YthockgmbooefpaaGreatDoor
namespace Go.Proofs.YthockgmbooefpaaGreatDoor
open Go.RowKit Go.ChangeShapes Go.WideShapes Go.ChangeAt
section
variable {H:Type} {enc:TypeId × Value→H} {w:World} {base:Nat} {spare:Nat→Bool} {held:Bool}
instance:Inhabited CmdP:=⟨CmdP.zero⟩
theorem list5 {α:Type} {l:List α} (h:l.length=5):∃ a b c d e,l=[a,b,c,d,e]:=by
 match l,h with
 | [a,b,c,d,e],_=>exact ⟨a,b,c,d,e,rfl⟩
theorem cmd_elem (n:Nat) (cs:List Value) (y:DataW H × List MemPlace) (hl:cs.length=5) (h:DataW.trod enc Tryz.prog w base spare held n 29 cs=some y):∃ r:CmdP,cs=r.cells∧r.word.size≤Rows.uptoBulk y.1∧r.In:=by
 obtain ⟨b,hb,_⟩:=field_int (k:=.i64) Tryz.underlying29 h 0 _ rfl (by kernel_rfl) (by kernel_rfl)
 obtain ⟨s1,hs1,i1⟩:=field_int (k:=.u64) Tryz.underlying29 h 1 _ rfl (by kernel_rfl) (by kernel_rfl)
 obtain ⟨s2,hs2,i2⟩:=field_int (k:=.u64) Tryz.underlying29 h 2 _ rfl (by kernel_rfl) (by kernel_rfl)
 obtain ⟨s,hs,ws⟩:=field_bulk Tryz.underlying29 h 3 _ rfl (by kernel_rfl) (by kernel_rfl)
 obtain ⟨c,hc,_⟩:=field_int (k:=.i64) Tryz.underlying29 h 4 _ rfl (by kernel_rfl) (by kernel_rfl)
 obtain ⟨x0,x1,x2,x3,x4,rfl⟩:=list5 hl
 simp at hs hb hc hs1 hs2
 refine ⟨⟨b,s1,s2,s,c⟩,by rw [hs,hb,hc,hs1,hs2];rfl,ws,?_⟩
 unfold CmdP.In
 simp only
 have j1:=i1
 have j2:=i2
 simp [Lit.wf] at j1 j2
 have m1:IntKind.u64.min=0:=by decide
 have m2:IntKind.u64.max=18446744073709551615:=by decide
 omega
abbrev CmdI:={c:CmdP // c.In}
instance:Inhabited CmdI:=⟨⟨CmdP.zero,by unfold CmdP.In CmdP.zero;simp⟩⟩
set_option maxRecDepth 100000 in
theorem open_cmds {r:Reach} {b0:Nat} {v:Value} {d:DataW H} {p:List MemPlace} (hv:Value.okWide Tryz.prog w r b0 22 v) (h:DataW.Trod enc Tryz.prog w base spare held 22 v d p) :
  ∃ A len cap,∃ l:List CmdP,v=.slice A len cap∧l.length=len∧Reads w 5 A len (cCells l)∧len≤maxLen∧(∀ o∈l,o.word.size≤Rows.uptoBulk d)∧∀ o∈l,o.In:=by
 obtain ⟨a0,len,cap,rfl⟩:=okWide_slice Tryz.underlying22 hv
 obtain ⟨fuel,hf⟩:=h
 obtain ⟨A,len',cap',l,hcs,hl,hlc,hm,hn,hr,hw,_⟩:=open_rowsB (R:=CmdI) (fun o=>o.1.cells) (fun o=>o.1.word.size) 5 (fun _=>rfl) (by decide) Tryz.underlying22 (by kernel_rfl) (fun n cs y h1 h2=>by obtain ⟨r,e1,e2,e3⟩:=cmd_elem n cs y h1 h2;exact ⟨⟨r,e3⟩,e1,e2⟩) hf
 simp [Value.cells] at hcs
 obtain ⟨rfl,rfl,rfl⟩:=hcs
 refine ⟨_,_,_,l.map (·.1),rfl,by simpa using hl,?_,Nat.le_trans hlc hm,?_,?_⟩
 ·unfold cCells
  rw [List.flatMap_map]
  exact hr
 ·intro o ho
  obtain ⟨x,hx,rfl⟩:=List.mem_map.1 ho
  exact hw x hx
 ·intro o ho
  obtain ⟨x,hx,rfl⟩:=List.mem_map.1 ho
  exact x.2
set_option maxRecDepth 100000 in
theorem open_cmd {r:Reach} {b0:Nat} {v:Value} {d:DataW H} {p:List MemPlace} (hv:Value.okWide Tryz.prog w r b0 29 v) (h:DataW.Trod enc Tryz.prog w base spare held 29 v d p) :
  ∃ o:CmdP,v=o.val∧o.word.size≤Rows.uptoBulk d∧o.In:=by
 obtain ⟨cs,rfl,hsz⟩:=okWide_struct Tryz.underlying29 hv
 obtain ⟨fuel,hf⟩:=h
 have hC:Tryz.prog.cellsOf 29 = 5:=by kernel_rfl
 obtain ⟨o,ho,hw,hi⟩:=cmd_elem _ _ _ (by show cs.toList.length=5;rw [Array.length_toList];exact hsz.trans hC) hf
 refine ⟨o,?_,hw,hi⟩
 have:cs.toList=o.cells:=ho
 have e:cs=#[.int .i64 o.kind,.int .u64 o.sess,.int .u64 o.seq,.string o.word,.int .i64 o.n]:=by rw [← Array.toArray_toList (xs:=cs),this];rfl
 rw [e];rfl
end
end Go.Proofs.YthockgmbooefpaaGreatDoor
namespace Go.Proofs.YthockgmbooefpaaGreatDoor
open Go.RowKit
def cOp:CmdP:=⟨1,0,0,ByteArray.empty,0⟩
def cSe:CmdP:=⟨2,1,1,⟨#[97,98]⟩,5⟩
def aL1:List PRow:=[⟨⟨#[97,98]⟩,5⟩]
def aR1:List SRow:=[⟨0,0,0,0⟩]
def aR2:List SRow:=[⟨1,0,0,0⟩]
theorem as_a1:doA cOp [] []=⟨0,0,1,0⟩:=by kernel_rfl
theorem as_l1:doL cOp [] []=[]:=by kernel_rfl
theorem as_r1:doR cOp [] []=aR1:=by kernel_rfl
theorem as_a2:doA cSe [] aR1=⟨0,0,0,0⟩:=by kernel_rfl
theorem as_l2:doL cSe [] aR1=aL1:=by kernel_rfl
theorem as_r2:doR cSe [] aR1=aR2:=by kernel_rfl
theorem as_a3:doA cSe aL1 aR2=⟨0,0,0,0⟩:=by kernel_rfl
theorem as_l3:doL cSe aL1 aR2=aL1:=by kernel_rfl
theorem as_r3:doR cSe aL1 aR2=aR2:=by kernel_rfl
structure StY (W w:World) (s d tb:Nat) (v:Value) (L:List PRow) (q:Nat) (R:List SRow):Prop where
 st:StX w s d tb v L q R
 y:W.heap.size≤d∧W.heap.size≤tb∧∀ g,v.ownBlock=some g→W.heap.size≤g
 t:Touch (fun _=>False) W w
 lw:Lst W
theorem StY.l {W w:World} {s d tb:Nat} {v:Value} {L:List PRow} {q:Nat} {R:List SRow} (h:StY W w s d tb v L q R):Lst w:=Lst.touch h.lw h.t
theorem StY.quiet {W w w':World} {s d tb:Nat} {v:Value} {L:List PRow} {q:Nat} {R:List SRow} (h:StY W w s d tb v L q R) (T:Touch (fun _=>False) w w'):StY W w' s d tb v L q R :=
 ⟨h.st.quiet T,h.y,h.t.then T,h.lw⟩
theorem StY.stF {W w:World} {s d tb:Nat} {v:Value} {L:List PRow} {q:Nat} {R:List SRow} (h:StY W w s d tb v L q R):∀ g,stF d tb v g→W.heap.size≤g:=by
 rintro g (rfl | rfl | hg)
 ·exact h.y.1
 ·exact h.y.2.1
 ·exact h.y.2.2 g hg
theorem StY.step {W w w':World} {s d tb:Nat} {v v':Value} {L L':List PRow} {q q':Nat} {R R':List SRow} (h:StY W w s d tb v L q R) (hs:StX w' s d tb v' L' q' R') (hf:Fresh w v v') (T:Touch (Go.Proofs.YthockgmbooefpaaGreatDoor.stF d tb v) w w'):StY W w' s d tb v' L' q' R':=by
 have ht:Touch (fun _=>False) W w':=h.t.trans T (fun g hg e=>by have:=h.stF g e;omega)
 refine ⟨hs,⟨h.y.1,h.y.2.1,fun g hg=>?_⟩,ht,h.lw⟩
 ·rcases hf with e | ⟨g',e,hg'⟩
  ·exact h.y.2.2 g (by rw [← e];exact hg)
  ·rw [e] at hg
   injection hg with hg
   have:=h.t.size
   omega
theorem snew_y (w:World) (hL:Lst w):Calls Tryz.prog 9 #[] w fun e w'=>∃ s d tb,e=.returned (ptrV s)∧StY w w' s d tb (.slice none 0 0) [] 0 [] :=
 (snew_any w hL).mono (by
   rintro e w' ⟨s,d,tb,rfl,hs,h1,h2,h3,T⟩
   exact ⟨s,d,tb,rfl,hs,⟨h2,h3,fun g hg=>by simp [Value.ownBlock] at hg⟩,T,hL⟩)
theorem StX.keep {w w':World} {s d tb:Nat} {v:Value} {L:List PRow} {q:Nat} {R:List SRow} (h:StX w s d tb v L q R) (T:Touch (Go.Proofs.YthockgmbooefpaaGreatDoor.stF d tb v) w w') {g:Nat} {t:TypeId} {cs:Array Value} (hb:Blk w g t cs) (ht:offT t):Blk w' g t cs :=
 hb.touch T (fun e=>by
  obtain ⟨o1,o2,o3,o4,o5⟩:=ht
  rcases e with rfl | e
  ·exact (blk_ty hb).ne h.dct.ty o2 rfl
  ·rcases fp_ty h.tab e with k | k
   ·exact (blk_ty hb).ne k o3 rfl
   ·exact (blk_ty hb).ne k o4 rfl)
theorem off_cmd:offT 29 := by unfold offT dctT;decide
theorem sdo_y {W:World} (w:World) {s d tb:Nat} {v:Value} {L:List PRow} {q:Nat} {R:List SRow} (h:StY W w s d tb v L q R) (c:CmdP) (hc:c.Wf) :
  Calls Tryz.prog 10 #[ptrV s,c.val] w fun e w'=>e=.returned (ansV (doA c L R))∧(∃ v' q',StY W w' s d tb v' (doL c L R) q' (doR c L R))∧Touch (stF d tb v) w w' :=
 (sdo_any w h.l h.st c hc).mono (by
   rintro e w' ⟨rfl,⟨v',⟨q',hs⟩,hf⟩,T⟩
   exact ⟨rfl,⟨v',q',h.step hs hf T⟩,T⟩)
theorem sdo_yf {W:World} (w:World) {s d tb:Nat} {v:Value} {L:List PRow} {q:Nat} {R:List SRow} (h:StY W w s d tb v L q R) (c:CmdP) (hc:c.Wf) :
  Calls Tryz.prog 10 #[ptrV s,c.val] w fun e w'=>e=.returned (ansV (doA c L R))∧(∃ v' q',StY W w' s d tb v' (doL c L R) q' (doR c L R)∧Fresh w v v')∧Touch (stF d tb v) w w' :=
 (sdo_any w h.l h.st c hc).mono (by
   rintro e w' ⟨rfl,⟨v',⟨q',hs⟩,hf⟩,T⟩
   exact ⟨rfl,⟨v',q',h.step hs hf T,hf⟩,T⟩)
theorem fresh_next {w w2:World} {v v' v3:Value} (h:Fresh w v v') (h2:Fresh w2 v' v3) (hs:w.heap.size≤w2.heap.size):Fresh w v v3:=by
 rcases h2 with e | ⟨g,e,hg⟩
 ·rcases h with e1 | ⟨g1,e1,hg1⟩
  ·exact .inl (e.trans e1)
  ·exact .inr ⟨g1,e.trans e1,hg1⟩
 ·exact .inr ⟨g,e,Nat.le_trans hs hg⟩
theorem stF_back {w:World} {d tb g:Nat} {v v':Value} (h:Fresh w v v') (hg:g<w.heap.size) (e:stF d tb v' g):stF d tb v g:=by
 rcases e with e | e | e
 ·exact .inl e
 ·exact .inr (.inl e)
 ·rcases h with e1 | ⟨g1,e1,hg1⟩
  ·exact .inr (.inr (by rw [← e1];exact e))
  ·rw [e] at e1
   injection e1 with e1
   omega
set_option maxRecDepth 100000 in
set_option maxHeartbeats 4000000 in
theorem alive16_any (w:World) (hL:Lst w):Calls Tryz.prog 24 #[] w fun e w'=>e=.returned (.bool true)∧Touch (fun _=>False) w w':=by
 have HN:=hide (snew_y w hL)
 clear hL
 go_enter Tryz.func24,Tryz.ntmps24
 go_wp2_with fail
 refine HN.out.mono ?_
 rintro e w1 ⟨s,d,tb,rfl,hy⟩
 have HC1:=hide (sdo_y w1 hy cOp (by unfold CmdP.Wf;decide))
 rw [as_a1,as_l1,as_r1] at HC1
 simp only [ansV,CmdP.val,cOp] at HC1
 clear hy HN
 go_wp2_with fail
 refine HC1.out.mono ?_
 rintro e w2 ⟨rfl,⟨v2,q2,hy2⟩,-⟩
 have HC2:=hide (fun (wx:World) (T:Touch (fun _=>False) w2 wx)=>sdo_y wx (hy2.quiet T) cSe (by unfold CmdP.Wf;decide))
 rw [as_a2,as_l2,as_r2] at HC2
 simp only [ansV,CmdP.val,cSe] at HC2
 obtain ⟨wa,hwa⟩:∃ y,y=(w2.alloc (.cells #[.int .i64 0,.int .u64 1,.int .i64 0] 32)).alloc (.cells #[.int .i64 2,.int .u64 1,.int .u64 1,.string ⟨#[97,98]⟩,.int .i64 5] 29):=⟨_,rfl⟩
 obtain ⟨ga,hga⟩:∃ y,y=w2.heap.size:=⟨_,rfl⟩
 obtain ⟨gc,hgc⟩:∃ y,y=w2.heap.size+1:=⟨_,rfl⟩
 have hTa:Touch (fun _=>False) w2 wa:=by rw [hwa];exact ((Touch.refl _ _).alloc _).alloc _
 have haB:Blk wa ga 32 #[.int .i64 0,.int .u64 1,.int .i64 0]:=by rw [hwa,hga];exact (Blk.new _ _ _).alloc _
 have hcB:Blk wa gc 29 #[.int .i64 2,.int .u64 1,.int .u64 1,.string ⟨#[97,98]⟩,.int .i64 5]:=by
  have h1:=Blk.new (w2.alloc (.cells #[.int .i64 0,.int .u64 1,.int .i64 0] 32)) 29 #[.int .i64 2,.int .u64 1,.int .u64 1,.string ⟨#[97,98]⟩,.int .i64 5]
  rw [hwa,hgc];simpa using h1
 have HYA:=hide (hy2.quiet hTa)
 have HC2:=hide (sdo_y wa HYA.out cSe (by unfold CmdP.Wf;decide))
 rw [as_a2,as_l2,as_r2] at HC2
 simp only [ansV,CmdP.val,cSe] at HC2
 have HWA:=hide hwa
 have HGA:=hide hga
 have HGC:=hide hgc
 have HAB:=hide haB
 have HCB:=hide hcB
 clear hy2 HC1 hwa hga hgc hTa haB hcB
 go_upto_region 6 with fail
 rw [← HWA.out,← HGC.out,← HGA.out]
 obtain ⟨c0,c1,c2⟩:=HCB.out.facts
 go_wp2_with fail
 refine HC2.out.mono ?_
 rintro e w3 ⟨rfl,⟨v3,q3,hy3⟩,T3⟩
 obtain ⟨wb,hwb⟩:∃ y,y=w3.alloc (.cells #[.int .i64 0,.int .u64 0,.int .i64 0] 32):=⟨_,rfl⟩
 obtain ⟨gb,hgb⟩:∃ y,y=w3.heap.size:=⟨_,rfl⟩
 have hTb:Touch (fun _=>False) w3 wb:=by rw [hwb];exact (Touch.refl _ _).alloc _
 have hbB:Blk wb gb 32 #[.int .i64 0,.int .u64 0,.int .i64 0]:=by rw [hwb,hgb];exact Blk.new _ _ _
 have HAB3:=hide ((HYA.out.st.keep T3 HAB.out off_ans).touch hTb (fun f=>f))
 have HCB3:=hide ((HYA.out.st.keep T3 HCB.out off_cmd).touch hTb (fun f=>f))
 have HYB:=hide (hy3.quiet hTb)
 have HC3:=hide (sdo_y wb HYB.out cSe (by unfold CmdP.Wf;decide))
 rw [as_a3,as_l3,as_r3] at HC3
 simp only [ansV,CmdP.val,cSe] at HC3
 have HWB:=hide hwb
 have HGB:=hide hgb
 have HBB:=hide hbB
 clear hy3 T3 HC2 hwb hgb hTb hbB c0 c1 c2
 go_upto_region 7 with fail
 rw [← HWB.out,← HGB.out]
 obtain ⟨c0,c1,c2⟩:=HCB3.out.facts
 go_wp2_with fail
 refine HC3.out.mono ?_
 rintro e w4 ⟨rfl,⟨v4,q4,hy4⟩,T4⟩
 obtain ⟨wd,hwd⟩:∃ y,y=w4.alloc (.cells #[.int .i64 0,.int .u64 0,.int .i64 0] 32):=⟨_,rfl⟩
 obtain ⟨gd,hgd⟩:∃ y,y=w4.heap.size:=⟨_,rfl⟩
 have hTd:Touch (fun _=>False) w4 wd:=by rw [hwd];exact (Touch.refl _ _).alloc _
 have hdB:Blk wd gd 32 #[.int .i64 0,.int .u64 0,.int .i64 0]:=by rw [hwd,hgd];exact Blk.new _ _ _
 have HAB4:=hide ((HYB.out.st.keep T4 HAB3.out off_ans).touch hTd (fun f=>f))
 have HBB4:=hide ((HYB.out.st.keep T4 HBB.out off_ans).touch hTd (fun f=>f))
 have HYD:=hide (hy4.quiet hTd)
 have HWR:=hide (words_st wd HYD.out.l HYD.out.st)
 have HWD:=hide hwd
 have HGD:=hide hgd
 have HDB:=hide hdB
 clear hy4 T4 HC3 hwd hgd hTd hdB c0 c1 c2
 go_upto_region 8 with fail
 rw [← HWD.out,← HGD.out]
 go_wp2_with fail
 refine HWR.out.mono ?_
 rintro e w5 ⟨A5,c5,rfl,hp5,T5⟩
 obtain ⟨x0,x1,x2⟩:=(HAB4.out.touch T5 (fun f=>f)).facts
 obtain ⟨x3,x4,x5⟩:=(HBB4.out.touch T5 (fun f=>f)).facts
 obtain ⟨x6,x7,x8⟩:=(HDB.out.touch T5 (fun f=>f)).facts
 obtain ⟨g5,hA5,hg5,p0,p1,_,_⟩:=pown_at hp5 rfl 0 (by decide)
 subst hA5
 simp only [aL1,List.getD_cons_zero,Nat.zero_mul,Nat.zero_add,List.length_cons,List.length_nil] at p0 p1 ⊢
 have HT5:=hide (HYD.out.t.then T5)
 clear hp5 T5 HWR
 go_wp2_with fail
 go_ret
 exact ⟨by simp,HT5.out⟩
end Go.Proofs.YthockgmbooefpaaGreatDoor
namespace Go.Proofs.YthockgmbooefpaaGreatDoor
open Go.RowKit
theorem few_any (w:World) (A:Option Addr) (n c:Nat):Calls Tryz.prog 23 #[.slice A n c] w fun e w'=>e=.returned (.bool (decide ((n:Int)≤400)))∧w=w':=by
 go_enter Tryz.func23,Tryz.ntmps23
 go_wp2
 go_ret
 exact ⟨rfl,rfl⟩
end Go.Proofs.YthockgmbooefpaaGreatDoor
