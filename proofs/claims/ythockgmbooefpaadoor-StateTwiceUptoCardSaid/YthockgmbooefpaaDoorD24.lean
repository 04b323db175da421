/- What the law rests on, part 24. No condition but those that each theorem names. -/
import Derived.Test.YthockgmbooefpaaDoorD08
import Derived.Test.YthockgmbooefpaaDoorD23
import Derived.Test.YthockgmbooefpaaDoorD02
import Derived.RangeFuncNested
import Derived.RangeFuncBound
import Derived.RangeFuncCalls
import Derived.RangeFuncLeaves
import Derived.Shelf.Abstract
import Derived.Shelf.RegionOpen
import Derived.OwnWalkIn
import Derived.TacticsInMore
import Derived.LoopNIn
import Derived.LoopIn
import Derived.Laws.EntriesVeiled
import Derived.Deep.CutRange
import Derived.Deep.DeepCutAuto
import Derived.Deep.LoopGhost
import Derived.StillTailTactics
import Derived.BigQuiet
import Derived.Deep.QuietTactic
import Derived.Test.YthockgmbooefpaaDoorD06
import Derived.Test.YthockgmbooefpaaDoorD15
import Derived.BigRegion
import Derived.Test.YthockgmbooefpaaDoorD04
import Derived.Test.YthockgmbooefpaaDoorD09
import Derived.Test.YthockgmbooefpaaDoorD05
import Derived.Test.YthockgmbooefpaaDoorRows
import Derived.Lib.LaidTab
import Derived.Test.YthockgmbooefpaaDoorD00
import Derived.SizedLaws
import Derived.Deep.SlicePairs
set_option linter.unusedSectionVars false
set_option linter.unusedSimpArgs false
set_option linter.unusedVariables false
namespace Go.Proofs.YthockgmbooefpaaDoor
open Go.RowKit
abbrev ptrV (b:Nat):Value:=.pointer (some ⟨b,0,none⟩)
structure FzX where
 w0:World
 bW:Nat
 bL:Nat
 bF:Nat
 bT:Nat
 bV:Nat
 wb:Nat
 lb:Nat
 lA:Option Addr
 ln:Nat
 lc:Nat
 X:List Nat
 o:Nat
 wK:World
section
variable {x:FzX} {W W':World} {S:Nat→Prop}
end
section
variable {x:FzX} {W W':World} {S:Nat→Prop} {F:List MRow} {I:List FzIt} {FA:Option Addr} {fc:Nat} {TA:Option Addr} {tc:Nat} {vs:List Value}
end
end Go.Proofs.YthockgmbooefpaaDoor
namespace Go.Proofs.YthockgmbooefpaaDoor
open Go.RowKit Go.Shelf
attribute [local go_sem] Oper.semAt_some
theorem run_app {P:Program} (w:World) (t ty:TypeId) (e:TypeId) (i:TypeInfo) (z:Value) (size bytes:Nat) (h1:P.underlying t=some (.slice e)) (h2:P.info? e=some i) (h3:i.zero=some z) (h4:i.size=size) (h5:i.bytes=bytes) (h6:z.cells.size=size) (h7:0<size)
  (v:Value) (n:Nat) (xs:List Value) (hown:w.ownsRow 0 e size v n xs)
  (ao:Option Addr) (m c:Nat) (news:List Value) (hr:Reads w size ao m news) (hn:ao=none→m=0∧c=0) (h1c:∀ u∈news,u.oneCell'=true)
  (b1:n+m≤maxLen) (b2:(n+m)*bytes≤140737488355328) :
  ∃ v' w',(Builtin.append_ #[t,t] ty #[v,.slice ao m c]).run P w=.ok v' w'∧w'.ownsRow 0 e size v' (n+m) (xs++news)∧w.grownBy w' v.ownBlock∧Fresh w v v'∧(v'=.slice none 0 0↔v=.slice none 0 0∧m=0):=by
 cases ao with
 | none =>
  obtain ⟨rfl,rfl⟩:=hn rfl
  have hnews:news=[]:=List.eq_nil_of_length_eq_zero (by simpa using hr.1)
  subst hnews
  exact ⟨v,w,run_append_owned_none (P:=P) w 0 t ty e i size h1 h2 v n xs hown,by simpa using hown,World.grownBy.refl _ _,.inl rfl,by simp⟩
 | some ad =>
  have hc:∀ j u,news[j]? = some u→w.cell? (ad.add j)=some u:=fun j u hu=>by
   have hm:0<m:=by
    rcases Nat.eq_zero_or_pos m with rfl | hm
    ·have hl:news=[]:=List.eq_nil_of_length_eq_zero (by simpa using hr.1)
     rw [hl] at hu
     cases hu
    ·exact hm
   obtain ⟨b,off,hA,_,hcell⟩:=hr.2 hm
   injection hA with hA
   subst hA
   rw [Addr.add_lit]
   exact hcell j u hu
  rcases hown.2 with ⟨rfl,rfl⟩ | ⟨g,cap,cur,rfl,_,hgg,hnc,hcm,hcs,ht⟩
  ·have hx:xs=[]:=List.eq_nil_of_length_eq_zero (by simpa using hown.1)
   subst hx
   obtain ⟨v',w',r1,r2,r3,r4⟩:=run_append_own (P:=P) w w.heap.size t ty e i z size bytes h1 h2 h3 h4 h5 h6 h7 (.slice none 0 0) 0 [] (World.ownsRow_nil w _ e size) ad m c news hr.1 hc h1c b1 b2 (Nat.le_refl _)
   refine ⟨v',w',r1,⟨r2.1,?_⟩,r3,?_,r4⟩
   ·rcases r2.2 with h | ⟨g,cap,cur,h,_,hh⟩
    ·exact .inl h
    ·exact .inr ⟨g,cap,cur,h,Nat.zero_le _,hh⟩
   ·rcases r2.2 with ⟨h,_⟩ | ⟨g,cap,cur,h,hge,hh⟩
    ·exact .inl (by rw [h])
    ·exact .inr ⟨g,by rw [h];rfl,hge⟩
  ·by_cases hroom:n+m≤cap
   ·obtain ⟨w',r1,r2,r3⟩:=run_append_fits (P:=P) w 0 t ty e i size h1 h2 h4 g n cap xs hown ad m c news hr.1 hc h1c hroom
    exact ⟨_,w',r1,r2,r3,.inl rfl,by simp⟩
   ·have holds:∀ j u,xs[j]? = some u→w.cell? ((⟨g,0,none⟩:Addr).add j)=some u:=hown.cells (g:=g) rfl
    obtain ⟨v',w',r1,r2,r3⟩:=run_append_arg_grows (P:=P) w t ty e i z size bytes h1 h2 h3 h4 h5 h6 h7 ⟨g,0,none⟩ n cap xs hown.1 holds ad m c news hr.1 hc (by omega) b1 b2
    refine ⟨v',w',r1,⟨r2.1,?_⟩,⟨r3.os,r3.tape,r3.output,r3.size,fun k hk _=>r3.block k hk (by simp)⟩,?_,?_⟩
    ·rcases r2.2 with h | ⟨g,cap,cur,h,_,hh⟩
     ·exact .inl h
     ·exact .inr ⟨g,cap,cur,h,Nat.zero_le _,hh⟩
    ·rcases r2.2 with ⟨h,hz⟩ | ⟨g,cap,cur,h,hge,hh⟩
     ·omega
     ·exact .inr ⟨g,by rw [h];rfl,hge⟩
    ·rcases r2.2 with ⟨h,hz⟩ | ⟨g,cap,cur,h,hge,hh⟩
     ·omega
     ·rw [h];simp
theorem wpListIn_app {F:Fence} {nF:Nat} {P:Program} (w:World) {ops:Array Oper} {rest:List Oper} {o:Oper} {a:Act} {Q:Exit→Act→World→Prop}
  (hg:o.guard=none) (s x:Operand) (t:TypeId) (hop:o.op=Op.call { callee:=Callee.builtin Builtin.append,args:=#[s,x],argTypes:=#[t,t] })
  (e:TypeId) (i:TypeInfo) (z:Value) (size bytes:Nat) (h1:P.underlying t=some (.slice e)) (h2:P.info? e=some i) (h3:i.zero=some z) (h4:i.size=size) (h5:i.bytes=bytes) (h6:z.cells.size=size) (h7:0<size)
  (v:Value) (n:Nat) (xs:List Value) (hs:a.eval s=v) (hown:w.ownsRow 0 e size v n xs)
  (ao:Option Addr) (m c:Nat) (news:List Value) (hx:a.eval x=.slice ao m c) (hr:Reads w size ao m news) (hn:ao=none→m=0∧c=0) (h1c:∀ u∈news,u.oneCell'=true)
  (b1:n+m≤maxLen) (b2:(n+m)*bytes≤140737488355328)
  (hK:∀ v' w',w'.ownsRow 0 e size v' (n+m) (xs++news)→w.grownBy w' v.ownBlock→Fresh w v v'→(v'=.slice none 0 0↔v=.slice none 0 0∧m=0)→wpListIn F nF P ops Q rest (a.put o.dst v') w') :
  wpListIn F nF P ops Q (o :: rest) a w:=by
 refine wpListIn_plain hg fun K hK'=>?_
 obtain ⟨v',w',hrun,r2,r3,r4,r5⟩:=run_app (P:=P) w t o.type e i z size bytes h1 h2 h3 h4 h5 h6 h7 v n xs hown ao m c news hr hn h1c b1 b2
 unfold Oper.wpIn
 refine ⟨?_,?_⟩
 ·simp [Oper.about,hop,resolve,Target.leads,Sem.run_pure]
 ·rw [Oper.semAt_plain F _ _ (by rw [hop];intro c hc';cases hc')]
  simp [execOp,hop,resolve,invoke,builtin,hs,hx,hrun,Result.andThen]
  exact hK' _ _ (hK v' w' r2 r3 r4 r5)
end Go.Proofs.YthockgmbooefpaaDoor
namespace Go.Proofs.YthockgmbooefpaaDoor
open Go.RowKit Go.Shelf
attribute [local go_sem] Oper.semAt_some
end Go.Proofs.YthockgmbooefpaaDoor
namespace Go.Proofs.YthockgmbooefpaaDoor
open Go.RowKit
instance zeroBase:Inhabited BaseT:=⟨⟨0⟩⟩
section
variable {L:List PRow}
theorem mach_form (hD:DictP L):∀ i,i<(mach L).states.length→FormP i ((mach L).states.getD i noSt):=by
 rcases right_mach hD with ⟨h,_⟩ | h
 ·intro i hi
  rw [h] at hi
  simp at hi
 ·exact h.form
structure FzGd (L:List PRow) (m:Nat) (t:FzIt):Prop where
 i:t.i<(mach L).states.length
 row:t.row.length=m+1
 s0:0≤t.sum
 mem:∀ r∈rst (mach L).states t.i,(t.head++r.1,t.sum+r.2)∈restsL L
theorem FzGd.ok {m:Nat} {X:List Nat} (hX:X.length=m) {t:FzIt} (h:FzGd L m t):t.Ok (mach L).states X:=⟨h.i,by rw [hX];exact h.row⟩
theorem FzGd.kids (hD:DictP L) {m:Nat} {X:List Nat} (hX:X.length=m) {o:Nat} {t:FzIt} (h:FzGd L m t):∀ k∈fzKids (mach L).states X o t,FzGd L m k:=by
 have hf:=mach_form hD
 have hd:=form_down hf
 intro k hk
 unfold fzKids at hk
 split at hk
 ·cases hk
 ·obtain ⟨a,ha,rfl⟩:=List.mem_map.1 hk
  have hi:=hd t.i h.i a ha
  have h0:=((hf t.i h.i).arc a ha).1
  refine ⟨Nat.lt_trans hi h.i,by rw [stepD_len _ (by rw [hX];exact h.row),hX],by have:=h.s0;simp only;omega,fun r hr=>?_⟩
  have h1:=h.mem (a.1 :: r.1,r.2+a.2.1) ((mem_rst_cons hd h.i).2 ⟨a,ha,rfl,by simpa using hr⟩)
  simp only at h1 ⊢
  rw [List.append_assoc,List.singleton_append]
  have e:t.sum+a.2.1+r.2=t.sum+(r.2+a.2.1):=by omega
  rw [e]
  exact h1
structure FzJ (L:List PRow) (X:List Nat) (m o:Nat) (tot hs:List FzHit) (I:List FzIt):Prop where
 all:hs++I.reverse.flatMap (fzI (mach L).states X o)=tot
 gd:∀ t∈I,FzGd L m t
theorem FzJ.step (hD:DictP L) {X:List Nat} {m o:Nat} (hX:X.length=m) {tot hs:List FzHit} {I:List FzIt} {t:FzIt} (h:FzJ L X m o tot hs (I++[t])) :
  FzJ L X m o tot (hs++fzHit (mach L).states o t) (I++(fzKids (mach L).states X o t).reverse)∧FzGd L m t∧nzL (mach L).states (I++(fzKids (mach L).states X o t).reverse)<nzL (mach L).states (I++[t]):=by
 have hd:=form_down (mach_form hD)
 have ht:=h.gd t (by simp)
 have hok:=ht.ok hX
 refine ⟨⟨?_,?_⟩,ht,?_⟩
 ·rw [← h.all]
  simp only [List.reverse_append,List.reverse_reverse,List.flatMap_append,List.reverse_cons,List.reverse_nil,List.nil_append,List.flatMap_cons,List.flatMap_nil,List.append_nil]
  rw [fzI_eq hd hok]
  simp only [List.append_assoc]
 ·intro k hk
  rcases List.mem_append.1 hk with hk | hk
  ·exact h.gd k (List.mem_append_left _ hk)
  ·exact ht.kids hD hX k (List.mem_reverse.1 hk)
 ·rw [nzL_app,nzL_app,nzL_reverse]
  have:=nz_kids hd (o:=o) hok
  have e:nzL (mach L).states [t]=nz (mach L).states t.i:=by simp [nzL]
  rw [e]
  omega
end
end Go.Proofs.YthockgmbooefpaaDoor
namespace Go.Proofs.YthockgmbooefpaaDoor
open Go.RowKit
def tabRow (X Y:List Nat) (i:Nat):List Nat:=(X.take i).foldl (tabD Y) (List.range (Y.length+1))
def tabAt (X Y:List Nat) (i j:Nat):Nat:=(tabRow X Y i).getD j 0
def TabE (X Y:List Nat) (m i j:Nat) (V:List Nat):Prop:=∀ i' j',j'≤m→(i'<i∨(i'=i∧j'<j))→V.getD (i'*(m+1)+j') 0=tabAt X Y i' j'
theorem cell_ne {m i j i' j':Nat} (hj:j≤m) (hj':j'≤m) (h:i'<i∨(i'=i∧j'<j)):i'*(m+1)+j'<i*(m+1)+j:=by
 rcases h with h | ⟨h,h2⟩
 ·have:=Nat.mul_le_mul_right (m+1) (show i'+1≤i from h)
  rw [Nat.add_mul,Nat.one_mul] at this
  omega
 ·subst h
  omega
theorem TabE.set {X Y:List Nat} {m i j:Nat} {V:List Nat} (h:TabE X Y m i j V) (hj:j≤m) (hl:i*(m+1)+j<V.length) {x:Nat} (hx:x=tabAt X Y i j):TabE X Y m i (j+1) (V.set (i*(m+1)+j) x):=by
 intro i' j' hj' hor
 by_cases he:i'=i∧j'=j
 ·obtain ⟨rfl,rfl⟩:=he
  simp [List.getD,hl,hx]
 ·have h2:i'<i∨(i'=i∧j'<j):=by omega
  have h3:=cell_ne hj hj' h2
  have h4:(V.set (i*(m+1)+j) x).getD (i'*(m+1)+j') 0=V.getD (i'*(m+1)+j') 0:=by
   simp only [List.getD]
   rw [List.getElem?_set_ne (by omega)]
  rw [h4]
  exact h i' j' hj' h2
end Go.Proofs.YthockgmbooefpaaDoor
namespace Go.Proofs.YthockgmbooefpaaDoor
open Go.RowKit
def MRow.Wf (p:MRow):Prop:=p.word.size≤9223372036854775807
end Go.Proofs.YthockgmbooefpaaDoor
namespace Go.Proofs.YthockgmbooefpaaDoor
open Go.RowKit
theorem lst_of_laid {W:World} {laid:List (String × DataW Unit)} (he:laid=[("abecedary/letters.least",Rows.laid_abecedary_letters_least)]) (h:laidMetH Tryd.prog laid W):Lst W:=by
 subst he
 have hL:laidMet Tryd.prog (("abecedary/letters.least",Lib.tabData .i32 [0,0,128,2048,65536]) :: []) W:=h
 have h:=Lib.tabIs_of_head (g:=0) (t := 174) (e := 21) (n:=5) (by kernel_rfl) (by kernel_rfl) Tryd.underlying174 Tryd.underlying21 (by kernel_rfl) (by kernel_rfl) hL
 unfold Lib.TabIs World.var? at h
 rw [show Tryd.prog.globalNamed "abecedary/letters.least" = some 0 by kernel_rfl] at h
 simp only [Option.bind_some] at h
 have hg:∃ cs t fr,W.heap[0]? = some (.cells cs t fr)∧cs=(([0,0,128,2048,65536]:List Int).map fun z=>Value.int .i32 z).toArray:=by
  cases hh:W.heap[0]? with
  | none=>rw [hh] at h;cases h
  | some o =>
   rw [hh] at h
   cases o with
   | cells cs t fr=>exact ⟨cs,t,fr,rfl,Option.some.inj h⟩
   | _=>cases h
 obtain ⟨cs,t,fr,hg,rfl⟩:=hg
 refine ⟨(Array.getElem?_eq_some_iff.1 hg).1,?_,?_,?_⟩
 ·unfold World.cell?;rw [hg];rfl
 ·unfold World.cell?;rw [hg];rfl
 ·unfold World.cell?;rw [hg];rfl
end Go.Proofs.YthockgmbooefpaaDoor
namespace Go.Proofs.YthockgmbooefpaaDoor
open Go.RowKit Go.ChangeShapes Go.WideShapes Go.ChangeAt
section
variable {H:Type} {enc:TypeId × Value→H} {w:World} {base:Nat} {spare:Nat→Bool} {held:Bool}
theorem slice_data {t e:TypeId} {A:Option Addr} {n c:Nat} {d:DataW H} {p:List MemPlace} (ht:Tryd.prog.underlying t=some (.slice e)) (h:DataW.Trod enc Tryd.prog w base spare held t (.slice A n c) d p) :
  n=0∨∃ elems sp,d=.slice elems sp∧elems.length=n:=by
 obtain ⟨fuel,hf⟩:=h
 rcases Go.Deep.open_slice ht hf with ⟨hcs,_⟩ | ⟨a,len,cap,m,n',D,Pl,hcs,_,_,_,_,hx,_⟩
 ·simp [Value.cells] at hcs
  exact .inl hcs.2.1
 ·simp [Value.cells] at hcs
  simp only [Prod.mk.injEq] at hx
  exact .inr ⟨_,_,hx.1,by simp [hcs.2.1]⟩
theorem bulk_pos (d:DataW H):1≤Rows.uptoBulk d:=by
 cases d with
 | lit l=>cases l<;>simp [Rows.uptoBulk]
 | _=>simp [Rows.uptoBulk]
theorem bulk_len (l:List (DataW H)):l.length≤Rows.uptoBulkAll l:=by
 induction l with
 | nil=>simp [Rows.uptoBulkAll]
 | cons x r ih=>have:=bulk_pos x;simp only [Rows.uptoBulkAll,List.length_cons];omega
theorem bulk_slice {s:SL} {d:DataW H} {p:List MemPlace} (h:DataW.Trod enc Tryd.prog w base spare held 30 s.val d p):s.n≤Rows.uptoBulk d:=by
 rcases slice_data Tryd.underlying30 h with e | ⟨el,sp,hd,he⟩
 ·omega
 ·rw [hd]
  have:=bulk_len el
  simp only [Rows.uptoBulk]
  omega
end
end Go.Proofs.YthockgmbooefpaaDoor
namespace Go.Proofs.YthockgmbooefpaaDoor
open Go.RowKit Go.ChangeShapes Go.WideShapes Go.ChangeAt
section
variable {H:Type} {enc:TypeId × Value→H} {w:World} {base:Nat} {spare:Nat→Bool} {held:Bool}
end
end Go.Proofs.YthockgmbooefpaaDoor
namespace Go.Proofs.YthockgmbooefpaaDoor
open Go.RowKit Go.ChangeShapes Go.WideShapes Go.ChangeAt
theorem bulk_mem {H:Type} {x:DataW H}:∀ {l:List (DataW H)},x∈l→Rows.uptoBulk x≤Rows.uptoBulkAll l
 | y :: l,h=>by
  simp only [Rows.uptoBulkAll]
  rcases List.mem_cons.1 h with rfl | h
  ·omega
  ·have:=bulk_mem h
   omega
theorem bulk_words {H:Type} {enc:TypeId × Value→H} {w:World} {base:Nat} {spare:Nat→Bool} {held:Bool} {s:SL} (hs:s.Ok w) {d:DataW H} {p:List MemPlace} (h:DataW.Trod enc Tryd.prog w base spare held 30 s.val d p):∀ r∈s.L,r.word.size≤Rows.uptoBulk d:=by
 obtain ⟨A,n,c,L⟩:=s
 obtain ⟨fuel,hf⟩:=h
 intro r hr
 obtain ⟨i,hi,hri⟩:=List.getElem_of_mem hr
 have hln:L.length=n:=hs.len
 have hin:i<n:=by rw [← hln];exact hi
 obtain ⟨g,o,hA,_,a0,_⟩:=preads_at hs.reads hln.symm i hin
 simp only at hA a0
 subst hA
 have hgd:L.getD i PRow.zero=r:=by rw [← hri];simp [List.getD,hi]
 rw [hgd] at a0
 rcases Go.Deep.open_slice_pairs Tryd.underlying30 Tryd.underlying56 (by kernel_rfl) rfl rfl (by kernel_rfl) (by kernel_rfl) hf with ⟨hcs,_⟩ | ⟨a,len,cap,m,k,V0,V1,D0,D1,P0,P1,hcs,_,_,_,hmm,hx,hel⟩
 ·simp [SL.val,Value.cells] at hcs
 ·simp [SL.val,Value.cells] at hcs
  obtain ⟨rfl,rfl,rfl⟩:=hcs
  have him:i<m:=by
   rw [hmm]
   split
   ·have:=(‹_≤_›:n≤c)
    omega
   ·exact hin
  obtain ⟨hc0,_,ht,_⟩:=hel i him
  rw [Addr.add_lit,a0] at hc0
  injection hc0 with hc0
  rw [← hc0] at ht
  obtain ⟨s',hs',hy,_⟩:=DataW.trod_string Tryd.underlying9 ht
  simp only [List.cons.injEq,Value.string.injEq,and_true] at hs'
  subst hs'
  simp only [Prod.mk.injEq] at hy hx
  have hm:(DataW.agg [D0 i,D1 i]:DataW H)∈(List.range n).map fun i=>DataW.agg [D0 i,D1 i]:=List.mem_map.2 ⟨i,List.mem_range.2 hin,rfl⟩
  have h1:=bulk_mem hm
  rw [hx.1]
  simp only [Rows.uptoBulk,Rows.uptoBulkAll] at h1 ⊢
  rw [hy.1] at h1
  simp only [Rows.uptoBulk] at h1
  have e:r.word.data.toList.length=r.word.size:=Array.length_toList
  omega
end Go.Proofs.YthockgmbooefpaaDoor
namespace Go.Proofs.YthockgmbooefpaaDoor
open Go.RowKit
theorem dict_strict {L:List PRow} (hD:DictP L):L.Pairwise (fun a b=>plt a b=true):=by
 have h:=hD.sort
 unfold SortR restsL at h
 rw [List.pairwise_map] at h
 refine List.Pairwise.imp_of_mem ?_ h
 intro a b ha hb hab
 obtain ⟨a1,a2⟩:=runesU_write _ _ _ (Nat.le_refl _) (hD.word a ha).1
 obtain ⟨b1,b2⟩:=runesU_write _ _ _ (Nat.le_refl _) (hD.word b hb).1
 unfold plt
 rw [a1,b1,less_runes _ _ (fun r hr=>scal_lt (a2 r hr)) (fun r hr=>scal_lt (b2 r hr))]
 exact hab
open Go.ChangeShapes Go.WideShapes Go.ChangeAt in
theorem str_le {H:Type} {enc:TypeId × Value→H} {w:World} {base:Nat} {spare:Nat→Bool} {held:Bool} {s:ByteArray} {d:DataW H} {p:List MemPlace} (h:DataW.Trod enc Tryd.prog w base spare held 9 (.string s) d p):s.size≤9223372036854775807:=by
 obtain ⟨fuel,hf⟩:=h
 obtain ⟨s',hc,hx,hm⟩:=DataW.trod_string Tryd.underlying9 hf
 simp [Value.cells] at hc
 subst hc
 have e:maxLen=9223372036854775807:=by decide
 rw [e] at hm
 exact hm
end Go.Proofs.YthockgmbooefpaaDoor
namespace Go.Proofs.YthockgmbooefpaaDoor
open Go.RowKit
theorem key_filter (x:List UInt8) (L:List PRow) (p:PRow→Bool):key x (L.filter p)=(key x L).filter p:=by
 unfold key
 rw [List.filter_filter,List.filter_filter]
 congr 1
 funext r
 rw [Bool.and_comm]
theorem key_one {L:List PRow} (h:L.Pairwise (fun a b=>plt a b=true)) (x:List UInt8):key x L=(key x L).getLast?.toList:=by
 have hs:(key x L).Pairwise (fun a b=>plt a b=true):=h.sublist List.filter_sublist
 have hm:∀ p∈key x L,p.word.toList=x:=fun p hp=>of_decide_eq_true (List.mem_filter.1 hp).2
 cases hk:key x L with
 | nil=>rfl
 | cons p l =>
  cases l with
  | nil=>rfl
  | cons q l =>
   rw [hk] at hs hm
   have h1:=(List.pairwise_cons.1 hs).1 q (by simp)
   exact absurd ((hm p (by simp)).trans (hm q (by simp)).symm) (plt_ne h1)
theorem mem_key {x:List UInt8} {L:List PRow} {p:PRow} (h:p∈key x L):p∈L:=(List.mem_filter.1 h).1
theorem wordU_dict {L:List PRow} (hD:DictP L) {p:PRow} (hp:p∈L):wordU p.word.toList=true:=by
 obtain ⟨h1,h2,h3,h4⟩:=hD.word p hp
 have h:=(runesU_write _ _ _ (Nat.le_refl _) h1).1
 have h5:=flat_size (wordR p)
 rw [← h] at h5
 unfold wordU
 rw [h1]
 simp only [Bool.and_eq_true,decide_eq_true_eq]
 exact ⟨by omega,h2,h3,h4⟩
end Go.Proofs.YthockgmbooefpaaDoor
namespace Go.Proofs.YthockgmbooefpaaDoor
open Go.RowKit
theorem PNx.ok {w0 w:World} {A:Option Addr} {q c:Nat} {N:List PRow} (h:PNx w0 w (.slice A q c) q N):SL.Ok ⟨A,q,c,N⟩ w:=by
 refine ⟨h.len,Reads.of_own h.own,fun hA=>?_⟩
 simp only at hA ⊢
 rcases h.own.2 with ⟨e,_⟩ | ⟨g',cap,cur,e,_,_⟩
 ·cases e;exact ⟨rfl,rfl⟩
 ·rw [hA] at e;cases e
end Go.Proofs.YthockgmbooefpaaDoor
