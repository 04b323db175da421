/- What the law rests on, part 2. No condition but those that each theorem names. -/
import Derived.Test.YthockgmbooefpaaDoorD01
import Derived.Lib.SliceRun
import Derived.Test.YthockgmbooefpaaDoorD00
import Derived.Lib.Strings
import Derived.Lib.Slices
import Derived.Lib.Walk
import Derived.BigRegion
import Derived.Deep.CutRange
set_option linter.unusedSectionVars false
set_option linter.unusedSimpArgs false
set_option linter.unusedVariables false
namespace Go.Proofs.YthockgmbooefpaaDoor
open Go.RowKit
theorem srow_one (l:List SRow):∀ u∈rowCells l,u.oneCell'=true:=by
 intro u hu
 simp only [rowCells,List.mem_flatMap] at hu
 obtain ⟨r,_,hu⟩:=hu
 simp only [SRow.cells,List.mem_cons,List.not_mem_nil,or_false] at hu
 rcases hu with rfl | rfl | rfl | rfl<;>rfl
theorem srow_clone (w:World) (A:Option Addr) (n c:Nat) (l:List SRow) (hl:n=l.length) (hr:Reads w 4 A n (rowCells l)) (hA:A=none→n=0∧c=0) (hn:n*32≤140737488355328) :
  Calls Tryd.prog 45 #[.slice A n c] w fun e w' =>
   ∃ v',e=.returned v'∧w'.ownsRow 0 69 4 v' n (rowCells l)∧Touch (fun _=>False) w w'∧∀ g,v'.ownBlock=some g→w.heap.size≤g:=by
 have q47:∀ (w:World) (a:Option Addr) (n c n' c':Nat),(binOp .eql 66 (.slice a n c) (.slice none n' c')).run Tryd.prog w=.ok (.bool a.isNone) w:=fun w a n c n' c'=>Lib.run_eql_slice_nil w _ _ a n c n' c' Tryd.underlying66
 obtain ⟨i0,hi,hz0,hz1,hz2⟩:=info_parts Tryd.infoRow
 cases A with
 | none =>
  obtain ⟨rfl,rfl⟩:=hA rfl
  have h0:l=[]:=List.eq_nil_of_length_eq_zero hl.symm
  subst h0
  clear hr hA hn hl
  go_enter Tryd.func45,Tryd.ntmps45
  go_wp2
  go_ret
  exact ⟨_,rfl,World.ownsRow_nil _ _ _ _,Touch.refl _ _,fun g hg=>by cases hg⟩
 | some ad =>
  have HR:=hide hr
  have HL:=hide hl
  clear hr hl hA
  go_enter Tryd.func45,Tryd.ntmps45
  go_wp2_with (at_builtin;refine wpList_app _ rfl _ _ 66 rfl 69 i0 (.agg #[.int .u64 0,.int .i64 0,.int .u64 0,.int .i64 0]) 4 32 Tryd.underlying66 hi hz0 hz1 hz2 rfl (by decide) _ 0 [] rfl (World.ownsRow_made _ #[] 0 (Nat.zero_le _) (by decide) rfl) (some ad) n c (rowCells l) rfl (HR.out.alloc _) ?c2 (srow_one l) ?c4 ?c5 ?_)
  case c2=>exact fun h=>by cases h
  case c4=>unfold maxLen;omega
  case c5=>omega
  intro v' w1 hown hgrow hfr _
  have HW:=hide (show w1.ownsRow 0 69 4 v' n (rowCells l)∧Touch (fun _=>False) w w1∧∀ g,v'.ownBlock=some g→w.heap.size≤g from ⟨by simpa using hown,((Touch.refl _ _).alloc _).grown hgrow (fun k hk hlt=>by simp [Value.ownBlock] at hk;omega),fun g hg=>by
   rcases hfr with h | ⟨g',h,hg'⟩
   ·rw [h] at hg;simp [Value.ownBlock] at hg;omega
   ·rw [h] at hg;simp at hg hg';omega⟩)
  clear hown hgrow hfr
  go_wp2
  go_ret
  obtain ⟨h1,h2,h3⟩:=HW.out
  exact ⟨_,rfl,h1,h2,h3⟩
theorem own_nilOk {w:World} {base:Nat} {e:TypeId} {size n:Nat} {A:Option Addr} {c:Nat} {xs:List Value} (h:w.ownsRow base e size (.slice A n c) n xs):A=none→n=0∧c=0:=by
 rintro rfl
 rcases h.2 with ⟨h1,rfl⟩ | ⟨g,cap,cur,h1,_⟩
 ·injection h1 with _ _ h3
  exact ⟨rfl,h3⟩
 ·injection h1 with h1 _ _
  cases h1
theorem ses_rows (w:World) (p:Nat) (v:Value) (l:List SRow) (h:Tab w p v l) (hn:l.length≤4096) :
  Calls Tryd.prog 34 #[.pointer (some ⟨p,0,none⟩)] w fun e w' =>
   ∃ v',e=.returned v'∧w'.ownsRow 0 69 4 v' l.length (rowCells l)∧Touch (fun _=>False) w w'∧∀ g,v'.ownBlock=some g→w.heap.size≤g:=by
 obtain ⟨hb,ho⟩:=h
 obtain ⟨A,c,hv,_,hc⟩:=own_len ho
 subst hv
 have c0:=hb.cell 0
 simp at c0
 have H:=hide ho
 clear ho hb
 go_enter Tryd.func34,Tryd.ntmps34
 go_wp2_with (go_at_call 45;refine (srow_clone w A l.length c l rfl (Reads.of_own H.out) (own_nilOk H.out) (by omega)).mono ?_;rintro e w' ⟨v',rfl,hown⟩;have H2:=hide hown;clear hown)
 go_ret
 exact ⟨_,rfl,H2.out⟩
theorem wpList_clearS {P:Program} (w:World) {ops:Array Oper} {rest:List Oper} {o:Oper} {a:Act} {Q:Exit→Act→World→Prop}
  (hg:o.guard=none) (x:Operand) (t:TypeId) (hop:o.op=Op.call { callee:=Callee.builtin Builtin.clear,args:=#[x],argTypes:=#[t] })
  (e:TypeId) (z:Value) (size:Nat) (h1:P.underlying t=some (.slice e)) (hv:∀ w,(zeroValue e).run P w=.ok z w) (h6:z.cells.size=size) (hone:∀ u∈z.cells.toList,u.oneCell'=true)
  (v:Value) (n:Nat) (xs:List Value) (hs:a.eval x=v) (hown:w.ownsRow 0 e size v n xs)
  (hK:∀ w',w.grownBy w' v.ownBlock→wpList P ops Q rest (a.put o.dst (.tuple #[])) w') :
  wpList P ops Q (o :: rest) a w:=by
 refine wpList_plain hg fun K hK'=>?_
 have main:∃ w',(Builtin.clear_ #[t] o.type #[v]).run P w=.ok (.tuple #[]) w'∧w.grownBy w' v.ownBlock:=by
  rcases hown.2 with ⟨rfl,rfl⟩ | ⟨g,cap,cur,rfl,_,hgg,hnc,hcm,hcs,ht⟩
  ·exact ⟨w,by simp [Builtin.clear_,run_underlying h1],World.grownBy.refl _ _⟩
  ·cases n with
   | zero=>exact ⟨w,by simp [Builtin.clear_,run_underlying h1],World.grownBy.refl _ _⟩
   | succ n =>
    have hfit:0+(Builtin.zeroCells z.cells (n+1)).toList.length≤cur.size:=by
     rw [Array.length_toList,size_zeroCells,h6,hcs,Nat.zero_add]
     exact Nat.mul_le_mul_right _ hnc
    have hst:=run_storeCells_at P g 0 e (Builtin.zeroCells z.cells (n+1)).toList 0 cur w hgg (by simpa using hfit) (by
     intro u hu
     have hu':u∈Builtin.zeroCells z.cells (n+1):=Array.mem_toList_iff.1 hu
     unfold Builtin.zeroCells at hu'
     simp only [Array.mem_map,Array.mem_range] at hu'
     obtain ⟨k,hk,rfl⟩:=hu'
     have hpos:0<z.cells.size:=by
      rcases Nat.eq_zero_or_pos z.cells.size with h | h
      ·rw [h] at hk;omega
      ·exact h
     rw [getElem!_pos z.cells _ (Nat.mod_lt _ hpos)]
     exact hone _ (Array.mem_toList_iff.2 (Array.getElem_mem _)))
    obtain ⟨X,hX⟩:∃ X,(storeCells ⟨g,0,none⟩ (Builtin.zeroCells z.cells (n+1)).toList).run P w=.ok () (w.setRow g X):=⟨_,hst⟩
    refine ⟨w.setRow g X,by simp [Builtin.clear_,run_underlying h1,hv,hX],⟨rfl,rfl,rfl,by simp,fun k _ hk=>setRow_other w g k _ (fun e=>hk (by simp [Value.ownBlock,e]))⟩⟩
 obtain ⟨w',r1,r2⟩:=main
 unfold Oper.wp
 simp [execOp,hop,resolve,invoke,builtin,hs,r1,Result.andThen]
 exact hK' _ _ (hK w' r2)
theorem Tryd.zeroRow (w:World):(zeroValue 69).run Tryd.prog w=.ok (.agg #[.int .u64 0,.int .i64 0,.int .u64 0,.int .i64 0]) w:=by kernel_rfl
def goodRow (r:SRow):Bool:=!(r.seq == 0) || (r == SRow.zero)
theorem own_row {w:World} {A:Option Addr} {n c:Nat} {l:List SRow} (h:w.ownsRow 0 69 4 (.slice A n c) n (rowCells l)) (hl:n=l.length) (k:Nat) (hk:k<n) :
  ∃ g,A=some ⟨g,0,none⟩∧g<w.heap.size∧w.cell? ⟨g,k*4,none⟩=some (.int .u64 (l.getD k SRow.zero).seq)∧w.cell? ⟨g,k*4+1,none⟩=some (.int .i64 (l.getD k SRow.zero).code) ∧
   w.cell? ⟨g,k*4+2,none⟩=some (.int .u64 (l.getD k SRow.zero).sess)∧w.cell? ⟨g,k*4+3,none⟩=some (.int .i64 (l.getD k SRow.zero).had):=by
 obtain ⟨g,cap,hv,_,_,hg,hc,_⟩:=own_form h (by omega)
 injection hv with hA' _ _
 have hk':k<l.length:=by omega
 have e:l.getD k SRow.zero=l[k]:=by simp [List.getD,hk']
 rw [e]
 refine ⟨g,hA',hg,?_,?_,?_,?_⟩
 ·exact hc _ _ (by have:=rowCells_at l k hk' 0 (by omega);rw [show k*4=4*k+0 by omega,this];rfl)
 ·exact hc _ _ (by have:=rowCells_at l k hk' 1 (by omega);rw [show k*4+1=4*k+1 by omega,this];rfl)
 ·exact hc _ _ (by have:=rowCells_at l k hk' 2 (by omega);rw [show k*4+2=4*k+2 by omega,this];rfl)
 ·exact hc _ _ (by have:=rowCells_at l k hk' 3 (by omega);rw [show k*4+3=4*k+3 by omega,this];rfl)
theorem stake_all (l:List SRow) (k:Nat) (hk:k<l.length) (h:(l.take k).all goodRow=true) (hg:goodRow (l.getD k SRow.zero)=true):(l.take (k+1)).all goodRow=true:=by
 have e:l.getD k SRow.zero=l[k]:=by simp [List.getD,hk]
 rw [e] at hg
 rw [List.take_succ_eq_append_getElem hk,List.all_append,h]
 simpa using hg
theorem not_all (l:List SRow) (k:Nat) (hk:k<l.length) (hg:goodRow (l.getD k SRow.zero)=false):l.all goodRow=false:=by
 have e:l.getD k SRow.zero=l[k]:=by simp [List.getD,hk]
 rw [e] at hg
 rw [List.all_eq_false]
 exact ⟨l[k],List.getElem_mem _,by simp [hg]⟩
end Go.Proofs.YthockgmbooefpaaDoor
namespace Go.Proofs.YthockgmbooefpaaDoor
structure MRow where
 word:ByteArray
 weight:Int
 dist:Int
theorem MRow.ext' {a b:MRow} (h1:a.word=b.word) (h2:a.weight=b.weight) (h3:a.dist=b.dist):a=b:=by
 cases a;cases b;simp_all
def MRow.zero:MRow:=⟨ByteArray.empty,0,0⟩
instance:Inhabited MRow:=⟨MRow.zero⟩
def MRow.cells (r:MRow):List Value:=[.string r.word,.int .i64 r.weight,.int .i64 r.dist]
end Go.Proofs.YthockgmbooefpaaDoor
namespace Go.Proofs.YthockgmbooefpaaDoor
open Go.RowKit
set_option maxRecDepth 100000 in
theorem cstring_any (a b:ByteArray) (w:World) :
  Calls Tryd.prog 91 #[.string a,.string b] w fun e w'=>e=.returned (.int .i64 (Lib.compareBytes a.data.toList b.data.toList))∧w'=w:=by
 go_enter Tryd.func91,Tryd.ntmps91
 go_wp2
 rw [run_callFunc_extern Tryd.func100 (by kernel_rfl) (by kernel_rfl) (by kernel_rfl) (e:=Extern.BytealgCompare.compare) (by kernel_rfl),Lib.run_compareString]
 simp only [Result.andThen]
 rw [Oper.upon_value]
 go_wp2
 go_ret
 exact ⟨rfl,rfl⟩
theorem compare_any (a b:ByteArray) (w:World) :
  Calls Tryd.prog 81 #[.string a,.string b] w fun e w'=>e=.returned (.int .i64 (Lib.compareBytes a.data.toList b.data.toList))∧w'=w:=by
 go_enter Tryd.func81,Tryd.ntmps81
 go_wp2_with (go_at_call 91;refine (cstring_any _ _ _).mono ?_;rintro e w' ⟨rfl,rfl⟩)
 go_ret
 exact ⟨rfl,rfl⟩
abbrev cmpF:Value:=.func (.func 80) #[] #[]
set_option maxRecDepth 100000 in
theorem cmp_any (a b:PRow) (w:World) :
  Calls Tryd.prog 80 #[a.val,b.val] w fun e w'=>(∃ z:Int,e=.returned (.int .i64 z)∧decide (z<0)=plt a b)∧Touch (fun _=>False) w w':=by
 obtain ⟨aw,an⟩:=a
 obtain ⟨bw,bn⟩:=b
 rw [pval_eq,pval_eq]
 go_enter Tryd.func80,Tryd.ntmps80
 go_wp2_with (go_at_call 81;refine (compare_any aw bw _).mono ?_;rintro e w' ⟨rfl,rfl⟩)
 go_ret
 refine ⟨⟨_,rfl,?_⟩,((Touch.refl _ _).alloc _).alloc _⟩
 rw [compare_neg]
 show Op.bytesLess aw.data.toList bw.data.toList=Op.bytesLess aw.toList bw.toList
 rw [Go.ByteArray.toList_eq,Go.ByteArray.toList_eq]
def swrF (X:List PRow) (a b:Nat):Nat→List PRow
 | 0=>X
 | k+1=>swpP (swrF X a b k) (a+k) (b+k)
set_option maxRecDepth 100000 in
set_option maxHeartbeats 1000000 in
theorem swr_any (w:World) (A:Option Addr) (n c:Nat) (X:List PRow) (h:POwn w A n c X) (a b k:Nat) (ha:a+k≤n) (hb:b+k≤n) (F:Value) :
  Calls Tryd.prog 106 #[.slice A n c,.int .i64 a,.int .i64 b,.int .i64 k,F] w fun e w'=>e=.returned (.tuple #[])∧POwn w' A n c (swrF X a b k)∧Touch (fun g=>adBlock A=some g) w w':=by
 have hn:=own_le h
 unfold maxLen at hn
 have HX:=hide h
 have HL:=hide (pown_len h)
 clear h
 go_enter Tryd.func106,Tryd.ntmps106
 go_wp2
 go_loopw [10] (fun iv wr=>∃ i:Nat,i≤k∧iv=.int .i64 i∧Hid (POwn wr A n c (swrF X a b i))∧Hid (Touch (fun g=>adBlock A=some g) w wr)) (fun iv _=>k-(intOf iv).toNat)
 case atStart=>exact ⟨0,Nat.zero_le _,rfl,HX,hide (Touch.refl _ _)⟩
 case round =>
  obtain ⟨i,hi,rfl,HO,HT⟩:=hrel
  by_cases hik:i<k
  ·obtain ⟨Y,hY⟩:∃ Y,Y=swrF X a b i:=⟨_,rfl⟩
   have HYE:=hide hY
   rw [← hY] at HO
   have hl:=pown_len HO.out
   obtain ⟨x,hx0⟩:∃ x,x=a+i:=⟨_,rfl⟩
   obtain ⟨y,hy0⟩:∃ x,x=b+i:=⟨_,rfl⟩
   obtain ⟨g,rfl,hg,a0,a1,f0,f1⟩:=pown_at HO.out hl x (by omega)
   obtain ⟨g',hA,_,b0,b1,f3,f4⟩:=pown_at HO.out hl y (by omega)
   injection hA with hA
   injection hA with hA _
   subst hA
   obtain ⟨⟨xw,xn⟩,hx⟩:∃ r,r=Y.getD x PRow.zero:=⟨_,rfl⟩
   obtain ⟨⟨yw,yn⟩,hy⟩:∃ r,r=Y.getD y PRow.zero:=⟨_,rfl⟩
   rw [← hx] at a0 a1
   rw [← hy] at b0 b1
   simp only at a0 a1 b0 b1
   have EX:=hide hx
   have EY:=hide hy
   have EX0:=hide hx0
   have EY0:=hide hy0
   have i0:(i:Int)<(k:Int):=by omega
   have i1:x<n:=by omega
   have i2:y<n:=by omega
   have i3:(a:Int)+(i:Int)=(x:Int):=by omega
   have i4:(b:Int)+(i:Int)=(y:Int):=by omega
   have i5:(x:Int)<(n:Int):=by omega
   have i6:(y:Int)<(n:Int):=by omega
   have i7:IntKind.i64.wrap (x:Int)=(x:Int):=IntWalk.i64_in _ (by omega)
   have i8:IntKind.i64.wrap (y:Int)=(y:Int):=IntWalk.i64_in _ (by omega)
   obtain ⟨v0,s0⟩:=cell?_setCell_some (p:=⟨g,x*2,none⟩) (x:=.string yw) b0
   obtain ⟨v1,s1⟩:=cell?_setCell_some (p:=⟨g,x*2,none⟩) (x:=.string yw) b1
   obtain ⟨v1,s1⟩:=cell?_setCell_some (p:=⟨g,x*2+1,none⟩) (x:=.int .i64 yn) s1
   clear hx hy hY hl hx0 hy0
   go_wp2
   go_region
   all_goals go_wp2
   go_roundw
   ·have HS:=pown_set2 (pown_set2 HO.out x ⟨yw,yn⟩) y ⟨xw,xn⟩
    have e:swpP Y x y=(Y.set x ⟨yw,yn⟩).set y ⟨xw,xn⟩:=by unfold swpP;rw [← EX.out,← EY.out]
    rw [← e] at HS
    have e2:swrF X a b (i+1)=swpP Y x y:=by rw [swrF,← HYE.out,← EX0.out,← EY0.out]
    rw [← e2] at HS
    refine ⟨i+1,by omega,by simp,hide (own_touch (S:=fun _=>False) HS (Touch.refl _ _).drew (fun _ _ f=>f)),hide ?_⟩
    refine Touch.drew ?_
    iterate 4 refine Touch.setCell ?_ (fun _=>(rfl:adBlock (some ⟨g,0,none⟩)=some g)) _
    exact HT.out
   ·show k-(intOf (.int .i64 ((i:Int)+1))).toNat<k-(intOf (.int .i64 (i:Int))).toNat
    simp [intOf]
    omega
  ·have hk':i=k:=by omega
   subst hk'
   go_wp2
   go_end0
   exact ⟨rfl,HO.out,HT.out⟩
end Go.Proofs.YthockgmbooefpaaDoor
namespace Go.Proofs.YthockgmbooefpaaDoor
open Go.RowKit
def m_key (k:List UInt8) (l:List MRow):List MRow:=l.filter (fun p=>decide (p.word.toList=k))
def m_SameK (A B:List MRow):Prop:=∀ k,m_key k A=m_key k B
theorem m_key_app (k:List UInt8) (A B:List MRow):m_key k (A++B)=m_key k A++m_key k B:=by simp [m_key]
theorem m_SameK.refl (A:List MRow):m_SameK A A:=fun _=>rfl
theorem m_SameK.trans {A B C:List MRow} (h:m_SameK A B) (k:m_SameK B C):m_SameK A C:=fun x=>(h x).trans (k x)
theorem m_SameK.symm {A B:List MRow} (h:m_SameK A B):m_SameK B A:=fun x=>(h x).symm
theorem m_SameK.app {A B C D:List MRow} (h:m_SameK A B) (k:m_SameK C D):m_SameK (A++C) (B++D):=fun x=>by rw [m_key_app,m_key_app,h x,k x]
theorem m_SameK.mem {A B:List MRow} (h:m_SameK A B) {x:MRow} (hx:x∈A):x∈B:=by
 have h1:x∈m_key x.word.toList A:=by simp [m_key,hx]
 rw [h] at h1
 exact (List.mem_filter.1 h1).1
theorem m_SameK.swap {A B:List MRow} (h:∀ a∈A,∀ b∈B,a.word.toList≠b.word.toList):m_SameK (A++B) (B++A):=by
 intro k
 rw [m_key_app,m_key_app]
 by_cases hA:m_key k A=[]
 ·rw [hA];simp
 ·obtain ⟨a,ha⟩:=List.exists_mem_of_ne_nil _ hA
  have ha':=List.mem_filter.1 ha
  have hB:m_key k B=[]:=by
   unfold m_key
   rw [List.filter_eq_nil_iff]
   intro b hb hk
   exact h a ha'.1 b hb ((of_decide_eq_true ha'.2).trans (of_decide_eq_true hk).symm)
  rw [hB];simp
end Go.Proofs.YthockgmbooefpaaDoor
