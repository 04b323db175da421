/- What the law rests on, part 2. No condition but those that each theorem names. -/
import Derived.Test.YthockgmbooefpaaGreatDoorT01
import Derived.Deep.CutRange
set_option linter.unusedSectionVars false
set_option linter.unusedSimpArgs false
set_option linter.unusedVariables false
set_option maxRecDepth 100000
set_option maxHeartbeats 2000000
namespace Go.Proofs.YthockgmbooefpaaGreatDoor
open Go.RowKit
theorem infoMso:(Tryz.prog.info? 43).map (fun i=>(i.zero,i.size,i.bytes))=some (some (.agg #[.string ByteArray.empty,.int .i64 0,.int .i64 0]),3,32):=by kernel_rfl
def mval (r:MRow):Value:=.agg #[.string r.word,.int .i64 r.weight,.int .i64 r.dist]
theorem mval_eq (w:ByteArray) (n d:Int):mval ⟨w,n,d⟩=.agg #[.string w,.int .i64 n,.int .i64 d]:=rfl
theorem mrow_len (r:MRow):(MRow.cells r).length=3:=rfl
theorem mrows_len (X:List MRow):(mCells X).length=X.length*3:=flat_len MRow.cells 3 mrow_len X
theorem mrows_at (X:List MRow) (k:Nat) (hk:k<X.length) (j:Nat) (hj:j<3):(mCells X)[k*3+j]? = (X.getD k MRow.zero).cells[j]? := by
 have e:X.getD k MRow.zero=X[k]:=by simp [List.getD,hk]
 rw [e]
 exact flat_at MRow.cells 3 mrow_len X k j hk hj
abbrev MOwn (w:World) (A:Option Addr) (n c:Nat) (X:List MRow):Prop:=w.ownsRow 0 43 3 (.slice A n c) n (mCells X)
theorem mown_at {w:World} {A:Option Addr} {n c:Nat} {X:List MRow} (h:MOwn w A n c X) (hn:n=X.length) (k:Nat) (hk:k<n) :
  ∃ g,A=some ⟨g,0,none⟩∧g<w.heap.size∧w.cell? ⟨g,k*3,none⟩=some (.string (X.getD k MRow.zero).word)∧w.cell? ⟨g,k*3+1,none⟩=some (.int .i64 (X.getD k MRow.zero).weight) ∧
   w.cell? ⟨g,k*3+2,none⟩=some (.int .i64 (X.getD k MRow.zero).dist)∧w.frozen? ⟨g,k*3,none⟩=false∧w.frozen? ⟨g,k*3+1,none⟩=false∧w.frozen? ⟨g,k*3+2,none⟩=false:=by
 subst hn
 obtain ⟨g,cap,hv,_,_,hg,hc,hf⟩:=own_form h (by omega)
 injection hv with hA' _ _
 exact ⟨g,hA',hg,hc (k*3) _ (mrows_at X k hk 0 (by omega)),hc (k*3+1) _ (mrows_at X k hk 1 (by omega)),hc (k*3+2) _ (mrows_at X k hk 2 (by omega)),hf _,hf _,hf _⟩
theorem mown_len {w:World} {A:Option Addr} {n c:Nat} {X:List MRow} (h:MOwn w A n c X):n=X.length:=by
 have:=h.1
 rw [mrows_len] at this
 omega
theorem mset3 (X:List MRow) (k:Nat) (r:MRow):(((mCells X).set (k*3) (.string r.word)).set (k*3+1) (.int .i64 r.weight)).set (k*3+2) (.int .i64 r.dist)=mCells (X.set k r):=by
 induction X generalizing k with
 | nil=>simp [mCells]
 | cons x X ih =>
  cases k with
  | zero=>simp [mCells,MRow.cells]
  | succ k =>
   have:=ih k
   simp only [mCells,List.flatMap_cons,List.set_cons_succ] at this ⊢
   rw [← this]
   simp only [MRow.cells,List.cons_append,List.nil_append,Nat.succ_mul]
   rw [show k*3+3=(k*3)+1+1+1 by omega,show k*3+1+1+1+1=(k*3+1)+1+1+1 by omega,show k*3+1+1+1+2=(k*3+2)+1+1+1 by omega]
   simp only [List.set_cons_succ]
theorem mown_set3 {w:World} {g n c:Nat} {X:List MRow} (h:MOwn w (some ⟨g,0,none⟩) n c X) (k:Nat) (r:MRow) :
  MOwn (((w.setCell ⟨g,k*3,none⟩ (.string r.word)).setCell ⟨g,k*3+1,none⟩ (.int .i64 r.weight)).setCell ⟨g,k*3+2,none⟩ (.int .i64 r.dist)) (some ⟨g,0,none⟩) n c (X.set k r):=by
 unfold MOwn
 rw [← mset3]
 exact own_set (own_set (own_set h _ _) _ _) _ _
def m_plt (a b:MRow):Bool:=Op.bytesLess a.word.toList b.word.toList
def m_ple (a b:MRow):Prop:=m_plt b a=false
theorem m_ple_refl (a:MRow):m_ple a a:=bl_irrefl _
theorem m_ple_of_plt {a b:MRow} (h:m_plt a b=true):m_ple a b:=by
 unfold m_ple
 cases hb:m_plt b a with
 | false=>rfl
 | true =>
  have:=bl_trans _ _ _ h hb
  rw [bl_irrefl] at this
  cases this
theorem m_ple_plt {a b c:MRow} (h:m_ple a b) (k:m_plt b c=true):m_plt a c=true:=by
 by_cases e:a.word.toList=b.word.toList
 ·unfold m_plt at k ⊢
  rw [e]
  exact k
 ·rcases bl_total _ _ e with x | x
  ·exact bl_trans _ _ _ x k
  ·have h':m_plt b a=false:=h
   unfold m_plt at h'
   rw [x] at h'
   cases h'
theorem m_plt_ple {a b c:MRow} (h:m_plt a b=true) (k:m_ple b c):m_plt a c=true:=by
 by_cases e:b.word.toList=c.word.toList
 ·unfold m_plt at h ⊢
  rw [← e]
  exact h
 ·rcases bl_total _ _ e with x | x
  ·exact bl_trans _ _ _ h x
  ·have k':m_plt c b=false:=k
   unfold m_plt at k'
   rw [x] at k'
   cases k'
theorem m_ple_trans {a b c:MRow} (h:m_ple a b) (k:m_ple b c):m_ple a c:=by
 unfold m_ple
 cases hb:m_plt c a with
 | false=>rfl
 | true =>
  have h1:=m_plt_ple hb h
  rw [show m_plt c b=false from k] at h1
  cases h1
theorem m_plt_ne {a b:MRow} (h:m_plt a b=true):a.word.toList≠b.word.toList:=by
 intro e
 unfold m_plt at h
 rw [e,bl_irrefl] at h
 cases h
theorem m_plt_total {a b:MRow} (h:a.word.toList≠b.word.toList):m_plt a b=true∨m_plt b a=true:=bl_total _ _ h
def m_SrtP (l:List MRow):Prop:=l.Pairwise m_ple
def m_key (k:List UInt8) (l:List MRow):List MRow:=l.filter (fun p=>decide (p.word.toList=k))
def m_SameK (A B:List MRow):Prop:=∀ k,m_key k A=m_key k B
theorem m_key_app (k:List UInt8) (A B:List MRow):m_key k (A++B)=m_key k A++m_key k B:=by simp [m_key]
theorem m_SameK.refl (A:List MRow):m_SameK A A:=fun _=>rfl
theorem m_SameK.trans {A B C:List MRow} (h:m_SameK A B) (k:m_SameK B C):m_SameK A C:=fun x=>(h x).trans (k x)
theorem m_SameK.symm {A B:List MRow} (h:m_SameK A B):m_SameK B A:=fun x=>(h x).symm
theorem m_SameK.app {A B C D:List MRow} (h:m_SameK A B) (k:m_SameK C D):m_SameK (A++C) (B++D):=fun x=>by rw [m_key_app,m_key_app,h x,k x]
theorem m_SameK.mem {A B:List MRow} (h:m_SameK A B) {x:MRow} (hx:x∈A):x∈B:=by
 have h1:x∈m_key x.word.toList A:=by simp [m_key,hx]
 rw [h] at h1
 exact (List.mem_filter.1 h1).1
theorem m_SameK.swap {A B:List MRow} (h:∀ a∈A,∀ b∈B,a.word.toList≠b.word.toList):m_SameK (A++B) (B++A):=by
 intro k
 rw [m_key_app,m_key_app]
 by_cases hA:m_key k A=[]
 ·rw [hA];simp
 ·obtain ⟨a,ha⟩:=List.exists_mem_of_ne_nil _ hA
  have ha':=List.mem_filter.1 ha
  have hB:m_key k B=[]:=by
   unfold m_key
   rw [List.filter_eq_nil_iff]
   intro b hb hk
   exact h a ha'.1 b hb ((of_decide_eq_true ha'.2).trans (of_decide_eq_true hk).symm)
  rw [hB];simp
theorem m_srt_app {A B:List MRow} (hA:m_SrtP A) (hB:m_SrtP B) (h:∀ a∈A,∀ b∈B,m_ple a b):m_SrtP (A++B):=List.pairwise_append.2 ⟨hA,hB,h⟩
theorem m_merge_parts {L1 L2 R1 R2 Z1 Z2:List MRow} (hL:m_SrtP (L1++L2)) (hR:m_SrtP (R1++R2)) (h1:∀ x∈L1,∀ y∈R2,m_ple x y) (h2:∀ x∈R1,∀ y∈L2,m_plt x y=true)
  (s1:m_SrtP Z1) (k1:m_SameK (L1++R1) Z1) (s2:m_SrtP Z2) (k2:m_SameK (L2++R2) Z2):m_SrtP (Z1++Z2)∧m_SameK ((L1++L2)++(R1++R2)) (Z1++Z2):=by
 refine ⟨m_srt_app s1 s2 fun a ha b hb=>?_,?_⟩
 ·have ha':=List.mem_append.1 (k1.symm.mem ha)
  have hb':=List.mem_append.1 (k2.symm.mem hb)
  rcases ha' with ha' | ha'<;>rcases hb' with hb' | hb'
  ·exact (List.pairwise_append.1 hL).2.2 a ha' b hb'
  ·exact h1 a ha' b hb'
  ·exact m_ple_of_plt (h2 a ha' b hb')
  ·exact (List.pairwise_append.1 hR).2.2 a ha' b hb'
 ·have e1:m_SameK (L2++R1) (R1++L2):=m_SameK.swap fun a ha b hb e=>m_plt_ne (h2 b hb a ha) e.symm
  have e2:(L1++L2)++(R1++R2)=L1++((L2++R1)++R2):=by simp
  have e3:m_SameK (L1++((L2++R1)++R2)) ((L1++R1)++(L2++R2)):=by
   have:=(m_SameK.refl L1).app (e1.app (m_SameK.refl R2))
   refine this.trans ?_
   simp only [List.append_assoc]
   exact m_SameK.refl _
  rw [e2]
  exact e3.trans (k1.app k2)
theorem m_srt_take {l:List MRow} (h:m_SrtP l) (k:Nat):m_SrtP (l.take k):=h.sublist (List.take_sublist _ _)
theorem m_srt_drop {l:List MRow} (h:m_SrtP l) (k:Nat):m_SrtP (l.drop k):=h.sublist (List.drop_sublist _ _)
theorem m_srt_at {l:List MRow} (h:m_SrtP l) {i j:Nat} (hij:i≤j) (hj:j<l.length):m_ple (l.getD i MRow.zero) (l.getD j MRow.zero):=by
 have e1:l.getD i MRow.zero=l[i]'(by omega):=by simp [List.getD,show i<l.length by omega]
 have e2:l.getD j MRow.zero=l[j]:=by simp [List.getD,hj]
 by_cases h0:i=j
 ·subst h0;exact m_ple_refl _
 ·rw [e1,e2]
  exact List.pairwise_iff_getElem.1 h i j (by omega) hj (by omega)
theorem m_mem_take_at {l:List MRow} {k:Nat} {x:MRow} (h:x∈l.take k):∃ i,i<k∧i<l.length∧l.getD i MRow.zero=x:=by
 obtain ⟨i,hi,e⟩:=List.mem_iff_getElem.1 h
 rw [List.length_take] at hi
 refine ⟨i,by omega,by omega,?_⟩
 rw [← e]
 simp [List.getD,show i<l.length by omega]
theorem m_mem_drop_at {l:List MRow} {k:Nat} {x:MRow} (h:x∈l.drop k):∃ i,k≤i∧i<l.length∧l.getD i MRow.zero=x:=by
 obtain ⟨i,hi,e⟩:=List.mem_iff_getElem.1 h
 rw [List.length_drop] at hi
 refine ⟨k+i,by omega,by omega,?_⟩
 rw [← e]
 simp [List.getD,show k+i<l.length by omega]
theorem m_cut_parts {L R:List MRow} (hL:m_SrtP L) (hR:m_SrtP R) (s e:Nat) (hs:s≤L.length) (he:e≤R.length)
  (hA:s=0∨e=R.length∨m_ple (L.getD (s-1) MRow.zero) (R.getD e MRow.zero)) (hB:s=L.length∨e=0∨m_plt (R.getD (e-1) MRow.zero) (L.getD s MRow.zero)=true) :
  (∀ x∈L.take s,∀ y∈R.drop e,m_ple x y)∧(∀ x∈R.take e,∀ y∈L.drop s,m_plt x y=true):=by
 constructor
 ·intro x hx y hy
  obtain ⟨i,i1,i2,rfl⟩:=m_mem_take_at hx
  obtain ⟨j,j1,j2,rfl⟩:=m_mem_drop_at hy
  rcases hA with h | h | h
  ·omega
  ·omega
  ·exact m_ple_trans (m_srt_at hL (by omega) (by omega)) (m_ple_trans h (m_srt_at hR j1 j2))
 ·intro x hx y hy
  obtain ⟨i,i1,i2,rfl⟩:=m_mem_take_at hx
  obtain ⟨j,j1,j2,rfl⟩:=m_mem_drop_at hy
  rcases hB with h | h | h
  ·omega
  ·omega
  ·exact m_plt_ple (m_ple_plt (m_srt_at hR (by omega) (by omega)) h) (m_srt_at hL j1 j2)
def m_swpP (X:List MRow) (i j:Nat):List MRow:=(X.set i (X.getD j MRow.zero)).set j (X.getD i MRow.zero)
theorem m_swpP_len (X:List MRow) (i j:Nat):(m_swpP X i j).length=X.length:=by simp [m_swpP]
abbrev m_cmpF:Value:=.func (.func 105) #[] #[]
theorem m_cmp_any (a b:MRow) (w:World) :
  Calls Tryz.prog 105 #[(mval a),(mval b)] w fun e w'=>(∃ z:Int,e=.returned (.int .i64 z)∧decide (z<0)=m_plt a b)∧Touch (fun _=>False) w w':=by
 obtain ⟨aw,an,ad⟩:=a
 obtain ⟨bw,bn,bd⟩:=b
 rw [mval_eq,mval_eq]
 go_enter Tryz.func105,Tryz.ntmps105
 go_wp2_with (go_at_call 106;refine (compare_any aw bw _).mono ?_;rintro e w' ⟨rfl,rfl⟩)
 go_ret
 refine ⟨⟨_,rfl,?_⟩,((Touch.refl _ _).alloc _).alloc _⟩
 rw [compare_neg]
 show Op.bytesLess aw.data.toList bw.data.toList=Op.bytesLess aw.toList bw.toList
 rw [Go.ByteArray.toList_eq,Go.ByteArray.toList_eq]
def m_swrF (X:List MRow) (a b:Nat):Nat→List MRow
 | 0=>X
 | k+1=>m_swpP (m_swrF X a b k) (a+k) (b+k)
theorem m_swr_any (w:World) (A:Option Addr) (n c:Nat) (X:List MRow) (h:MOwn w A n c X) (a b k:Nat) (ha:a+k≤n) (hb:b+k≤n) (F:Value) :
  Calls Tryz.prog 193 #[.slice A n c,.int .i64 a,.int .i64 b,.int .i64 k,F] w fun e w'=>e=.returned (.tuple #[])∧MOwn w' A n c (m_swrF X a b k)∧Touch (fun g=>adBlock A=some g) w w':=by
 have hn:=own_le h
 unfold maxLen at hn
 have HX:=hide h
 have HL:=hide (mown_len h)
 clear h
 go_enter Tryz.func193,Tryz.ntmps193
 go_wp2
 go_loopw [10] (fun iv wr=>∃ i:Nat,i≤k∧iv=.int .i64 i∧Hid (MOwn wr A n c (m_swrF X a b i))∧Hid (Touch (fun g=>adBlock A=some g) w wr)) (fun iv _=>k-(intOf iv).toNat)
 case atStart=>exact ⟨0,Nat.zero_le _,rfl,HX,hide (Touch.refl _ _)⟩
 case round =>
  obtain ⟨i,hi,rfl,HO,HT⟩:=hrel
  by_cases hik:i<k
  ·obtain ⟨Y,hY⟩:∃ Y,Y=m_swrF X a b i:=⟨_,rfl⟩
   have HYE:=hide hY
   rw [← hY] at HO
   have hl:=mown_len HO.out
   obtain ⟨x,hx0⟩:∃ x,x=a+i:=⟨_,rfl⟩
   obtain ⟨y,hy0⟩:∃ x,x=b+i:=⟨_,rfl⟩
   obtain ⟨g,rfl,hg,a0,a1,a2,f0,f1,f2⟩:=mown_at HO.out hl x (by omega)
   obtain ⟨g',hA,_,b0,b1,b2,f3,f4,f5⟩:=mown_at HO.out hl y (by omega)
   injection hA with hA
   injection hA with hA _
   subst hA
   obtain ⟨⟨xw,xn,xd⟩,hx⟩:∃ r,r=Y.getD x MRow.zero:=⟨_,rfl⟩
   obtain ⟨⟨yw,yn,yd⟩,hy⟩:∃ r,r=Y.getD y MRow.zero:=⟨_,rfl⟩
   rw [← hx] at a0 a1 a2
   rw [← hy] at b0 b1 b2
   simp only at a0 a1 a2 b0 b1 b2
   have EX:=hide hx
   have EY:=hide hy
   have EX0:=hide hx0
   have EY0:=hide hy0
   have i0:(i:Int)<(k:Int):=by omega
   have i1:x<n:=by omega
   have i2:y<n:=by omega
   have i3:(a:Int)+(i:Int)=(x:Int):=by omega
   have i4:(b:Int)+(i:Int)=(y:Int):=by omega
   have i5:(x:Int)<(n:Int):=by omega
   have i6:(y:Int)<(n:Int):=by omega
   have i7:IntKind.i64.wrap (x:Int)=(x:Int):=IntWalk.i64_in _ (by omega)
   have i8:IntKind.i64.wrap (y:Int)=(y:Int):=IntWalk.i64_in _ (by omega)
   obtain ⟨v0,s0⟩:=cell?_setCell_some (p:=⟨g,x*3,none⟩) (x:=.string yw) b0
   obtain ⟨v1,s1⟩:=cell?_setCell_some (p:=⟨g,x*3,none⟩) (x:=.string yw) b1
   obtain ⟨v1,s1⟩:=cell?_setCell_some (p:=⟨g,x*3+1,none⟩) (x:=.int .i64 yn) s1
   obtain ⟨v2,s2⟩:=cell?_setCell_some (p:=⟨g,x*3,none⟩) (x:=.string yw) b2
   obtain ⟨v2,s2⟩:=cell?_setCell_some (p:=⟨g,x*3+1,none⟩) (x:=.int .i64 yn) s2
   obtain ⟨v2,s2⟩:=cell?_setCell_some (p:=⟨g,x*3+2,none⟩) (x:=.int .i64 yd) s2
   clear hx hy hY hl hx0 hy0
   go_wp2
   go_region
   all_goals go_wp2
   go_roundw
   ·have HS:=mown_set3 (mown_set3 HO.out x ⟨yw,yn,yd⟩) y ⟨xw,xn,xd⟩
    have e:m_swpP Y x y=(Y.set x ⟨yw,yn,yd⟩).set y ⟨xw,xn,xd⟩:=by unfold m_swpP;rw [← EX.out,← EY.out]
    rw [← e] at HS
    have e2:m_swrF X a b (i+1)=m_swpP Y x y:=by rw [m_swrF,← HYE.out,← EX0.out,← EY0.out]
    rw [← e2] at HS
    refine ⟨i+1,by omega,by simp,hide (own_touch (S:=fun _=>False) HS (Touch.refl _ _).drew (fun _ _ f=>f)),hide ?_⟩
    refine Touch.drew ?_
    iterate 6 refine Touch.setCell ?_ (fun _=>(rfl:adBlock (some ⟨g,0,none⟩)=some g)) _
    exact HT.out
   ·show k-(intOf (.int .i64 ((i:Int)+1))).toNat<k-(intOf (.int .i64 (i:Int))).toNat
    simp [intOf]
    omega
  ·have hk':i=k:=by omega
   subst hk'
   go_wp2
   go_end0
   exact ⟨rfl,HO.out,HT.out⟩
end Go.Proofs.YthockgmbooefpaaGreatDoor
namespace Go.Proofs.YthockgmbooefpaaGreatDoor
theorem m_getD_mid (S W:List MRow) (x:MRow):(S++(x :: W)).getD S.length MRow.zero=x:=by
 simp [List.getD]
theorem m_set_mid (S W:List MRow) (x y:MRow):(S++(x :: W)).set S.length y=S++(y :: W):=by
 rw [List.set_append_right _ _ (Nat.le_refl _),Nat.sub_self,List.set_cons_zero]
theorem m_swpP_parts (S T W:List MRow) (u v:MRow) (i j:Nat) (hi:i=S.length) (hj:j=S.length+1+T.length):m_swpP (S++(u :: (T++(v :: W)))) i j=S++(v :: (T++(u :: W))):=by
 subst hi
 have e1:S++(u :: (T++(v :: W)))=(S++(u :: T))++(v :: W):=by simp
 have l1:(S++(u :: T)).length=j:=by simp;omega
 have g2:(S++(u :: (T++(v :: W)))).getD j MRow.zero=v:=by rw [e1,← l1,m_getD_mid]
 unfold m_swpP
 rw [g2,m_getD_mid,m_set_mid]
 have e2:S++(v :: (T++(v :: W)))=(S++(v :: T))++(v :: W):=by simp
 have l2:(S++(v :: T)).length=j:=by simp;omega
 rw [e2,← l2,m_set_mid]
 simp
theorem m_snoc_of {l:List MRow} {k:Nat} (h:l.length=k+1):∃ l' x,l=l'++[x]∧l'.length=k:=by
 have hne:l≠[]:=by intro e;rw [e] at h;simp at h
 refine ⟨l.dropLast,l.getLast hne,(List.dropLast_concat_getLast hne).symm,?_⟩
 rw [List.length_dropLast];omega
theorem m_swr_parts (k:Nat):∀ (P U M V Q:List MRow) (a b:Nat),a=P.length→U.length=k→V.length=k→b=P.length+k+M.length →
  m_swrF (P++(U++(M++(V++Q)))) a b k=P++(V++(M++(U++Q))):=by
 induction k with
 | zero =>
  intro P U M V Q a b ha hU hV hb
  have hU':=List.eq_nil_of_length_eq_zero hU
  have hV':=List.eq_nil_of_length_eq_zero hV
  subst hU' hV'
  rfl
 | succ k ih =>
  intro P U M V Q a b ha hU hV hb
  obtain ⟨U',u,rfl,hU'⟩:=m_snoc_of hU
  obtain ⟨V',v,rfl,hV'⟩:=m_snoc_of hV
  have:=ih P U' (u :: M) V' (v :: Q) a b ha hU' hV' (by rw [hb];simp;omega)
  have e:P++((U'++[u])++(M++((V'++[v])++Q)))=P++(U'++((u :: M)++(V'++(v :: Q)))):=by simp
  rw [e,m_swrF,this]
  have e2:P++(V'++((u :: M)++(U'++(v :: Q))))=(P++V')++(u :: ((M++U')++(v :: Q))):=by simp
  rw [e2,m_swpP_parts (P++V') (M++U') Q u v (a+k) (b+k) (by simp;omega) (by simp;omega)]
  simp
def m_bub (X:List MRow) (a:Nat):Nat→List MRow
 | 0=>X
 | d+1=>if m_plt (X.getD (a+d+1) MRow.zero) (X.getD (a+d) MRow.zero)=true then m_bub (m_swpP X (a+d+1) (a+d)) a d else X
def m_insF (X:List MRow) (a:Nat):Nat→List MRow
 | 0=>X
 | c+1=>m_bub (m_insF X a c) a (c+1)
theorem m_swpP_comm_parts (S W:List MRow) (u v:MRow) (i j:Nat) (hi:i=S.length+1) (hj:j=S.length):m_swpP (S++(u :: v :: W)) i j=S++(v :: u :: W):=by
 subst hi hj
 unfold m_swpP
 have g1:(S++(u :: v :: W)).getD (S.length+1) MRow.zero=v:=by
  simp [List.getD]
 have s1:∀ y,(S++(u :: v :: W)).set (S.length+1) y=S++(u :: y :: W):=by
  intro y
  rw [List.set_append_right _ _ (Nat.le_succ _)]
  simp
 rw [g1,m_getD_mid,s1,m_set_mid]
theorem m_bub_len (d:Nat):∀ (X:List MRow) (a:Nat),(m_bub X a d).length=X.length:=by
 induction d with
 | zero=>intro X a;rfl
 | succ d ih =>
  intro X a
  unfold m_bub
  split
  ·rw [ih,m_swpP_len]
  ·rfl
theorem m_insF_len (X:List MRow) (a c:Nat):(m_insF X a c).length=X.length:=by
 induction c with
 | zero=>rfl
 | succ c ih=>rw [m_insF,m_bub_len,ih]
theorem m_bub_parts (d:Nat):∀ (P Y Q:List MRow) (x:MRow) (a:Nat),a=P.length→Y.length=d→m_SrtP Y→∃ Z,m_bub (P++(Y++(x :: Q))) a d=P++(Z++Q)∧m_SrtP Z∧m_SameK (Y++[x]) Z:=by
 induction d with
 | zero =>
  intro P Y Q x a ha hY hs
  have:=List.eq_nil_of_length_eq_zero hY
  subst this
  exact ⟨[x],by simp [m_bub],by simp [m_SrtP],m_SameK.refl _⟩
 | succ d ih =>
  intro P Y Q x a ha hY hs
  obtain ⟨Y',y,rfl,hY'⟩:=m_snoc_of hY
  have e:P++((Y'++[y])++(x :: Q))=(P++Y')++(y :: x :: Q):=by simp
  have g0:(P++((Y'++[y])++(x :: Q))).getD (a+d) MRow.zero=y:=by
   have l:(P++Y').length=a+d:=by simp;omega
   rw [e,← l,m_getD_mid]
  have g1:(P++((Y'++[y])++(x :: Q))).getD (a+d+1) MRow.zero=x:=by
   have l:(P++Y'++[y]).length=a+d+1:=by simp;omega
   have e':(P++Y')++(y :: x :: Q)=(P++Y'++[y])++(x :: Q):=by simp
   rw [e,e',← l,m_getD_mid]
  have hs1:=List.pairwise_append.1 hs
  unfold m_bub
  rw [g0,g1]
  by_cases hb:m_plt x y=true
  ·rw [if_pos hb,e,m_swpP_comm_parts (P++Y') Q y x (a+d+1) (a+d) (by simp;omega) (by simp;omega)]
   obtain ⟨Z,h1,h2,h3⟩:=ih P Y' (y :: Q) x a ha hY' hs1.1
   have e2:(P++Y')++(x :: y :: Q)=P++(Y'++(x :: (y :: Q))):=by simp
   refine ⟨Z++[y],by rw [e2,h1];simp,m_srt_app h2 (by simp [m_SrtP]) ?_,?_⟩
   ·intro z hz w hw
    simp at hw
    subst hw
    rcases List.mem_append.1 (h3.symm.mem hz) with hz' | hz'
    ·exact hs1.2.2 z hz' _ (by simp)
    ·simp at hz'
     subst hz'
     exact m_ple_of_plt hb
   ·have k1:m_SameK ([y]++[x]) ([x]++[y]):=m_SameK.swap (by
     intro p hp q hq heq
     simp at hp hq
     subst hp hq
     exact m_plt_ne hb heq.symm)
    have k2:=(m_SameK.refl Y').app k1
    have k3:=h3.app (m_SameK.refl [y])
    have e3:Y'++[y]++[x]=Y'++([y]++[x]):=by simp
    have e4:Y'++([x]++[y])=Y'++[x]++[y]:=by simp
    rw [e3]
    exact k2.trans (by rw [e4];exact k3)
  ·rw [if_neg hb]
   have hb':m_ple y x:=by simpa [m_ple] using hb
   refine ⟨Y'++[y]++[x],by simp,m_srt_app hs (by simp [m_SrtP]) ?_,m_SameK.refl _⟩
   intro z hz w hw
   simp at hw
   subst hw
   rcases List.mem_append.1 hz with hz | hz
   ·exact m_ple_trans (hs1.2.2 z hz y (by simp)) hb'
   ·simp at hz
    subst hz
    exact hb'
theorem m_ins_parts (c:Nat):∀ (P Y Q:List MRow) (a:Nat),a=P.length→c<Y.length→∃ Z,m_insF (P++(Y++Q)) a c=P++(Z++(Y.drop (c+1)++Q))∧m_SrtP Z∧m_SameK (Y.take (c+1)) Z:=by
 induction c with
 | zero =>
  intro P Y Q a ha hc
  cases Y with
  | nil=>simp at hc
  | cons y Y=>exact ⟨[y],by simp [m_insF],by simp [m_SrtP],by simpa using m_SameK.refl _⟩
 | succ c ih =>
  intro P Y Q a ha hc
  obtain ⟨Z,h1,h2,h3⟩:=ih P Y Q a ha (by omega)
  have hZ:Z.length=c+1:=by
   have l1:=congrArg List.length h1
   rw [m_insF_len] at l1
   simp at l1
   omega
  have e:Y.drop (c+1)=Y[c+1] :: Y.drop (c+1+1):=List.drop_eq_getElem_cons hc
  rw [e] at h1
  obtain ⟨Z',k1,k2,k3⟩:=m_bub_parts (c+1) P Z (Y.drop (c+1+1)++Q) (Y[c+1]) a ha hZ h2
  refine ⟨Z',?_,k2,?_⟩
  ·rw [m_insF,h1,List.cons_append]
   exact k1
  ·have e2:Y.take (c+1+1)=Y.take (c+1)++[Y[c+1]]:=List.take_succ_eq_append_getElem hc
   rw [e2]
   exact (h3.app (m_SameK.refl _)).trans k3
theorem m_ins_whole (P Y Q:List MRow) (a b:Nat) (ha:a=P.length) (hb:b=a+Y.length):∃ Z,m_insF (P++(Y++Q)) a (b-a-1)=P++(Z++Q)∧m_SrtP Z∧m_SameK Y Z:=by
 by_cases h0:Y.length=0
 ·have:=List.eq_nil_of_length_eq_zero h0
  subst this
  have:b-a-1=0:=by simp at hb;omega
  rw [this]
  exact ⟨[],by simp [m_insF],List.Pairwise.nil,m_SameK.refl _⟩
 ·obtain ⟨Z,h1,h2,h3⟩:=m_ins_parts (b-a-1) P Y Q a ha (by omega)
  have e:b-a-1+1=Y.length:=by omega
  rw [e,List.drop_length,List.nil_append] at h1
  rw [e,List.take_length] at h3
  exact ⟨Z,h1,h2,h3⟩
end Go.Proofs.YthockgmbooefpaaGreatDoor
namespace Go.Proofs.YthockgmbooefpaaGreatDoor
open Go.RowKit
theorem m_split_at {l:List MRow} {k:Nat} (h:k≤l.length):∃ a b,l=a++b∧a.length=k∧b.length=l.length-k :=
 ⟨l.take k,l.drop k,(List.take_append_drop k l).symm,by rw [List.length_take];omega,by rw [List.length_drop]⟩
theorem m_rot_any (w:World) (A:Option Addr) (n c:Nat) (P U V Q:List MRow) (h:MOwn w A n c (P++(U++(V++Q)))) (a m b:Nat) (ha:a=P.length) (hm:m=a+U.length) (hb:b=m+V.length) (hU:0<U.length) (hV:0<V.length) (F:Value) :
  Calls Tryz.prog 188 #[.slice A n c,.int .i64 a,.int .i64 m,.int .i64 b,F] w fun e w'=>e=.returned (.tuple #[])∧MOwn w' A n c (P++(V++(U++Q)))∧Touch (fun g=>adBlock A=some g) w w':=by
 have hn:=own_le h
 unfold maxLen at hn
 have hl:=mown_len h
 simp only [List.length_append] at hl
 obtain ⟨G,hG⟩:∃ G,G=P++(V++(U++Q)):=⟨_,rfl⟩
 rw [← hG]
 have HX:=hide h
 have HG:=hide hG
 have HA:=hide ha
 have HM:=hide hm
 have HB:=hide hb
 obtain ⟨u,hu⟩:∃ u,u=U.length:=⟨_,rfl⟩
 obtain ⟨v,hv⟩:∃ v,v=V.length:=⟨_,rfl⟩
 have HU:=hide hu
 have HV:=hide hv
 have x0:(m:Int)-(a:Int)=(u:Int):=by omega
 have x1:(b:Int)-(m:Int)=(v:Int):=by omega
 have x2:IntKind.i64.wrap (u:Int)=(u:Int):=IntWalk.i64_in _ (by omega)
 have x3:IntKind.i64.wrap (v:Int)=(v:Int):=IntWalk.i64_in _ (by omega)
 have hmn:b≤n:=by omega
 have hmb:m≤b:=by omega
 have hu0:0<u:=by omega
 have hv0:0<v:=by omega
 have hum:u≤m:=by omega
 have hvb:m+v=b:=by omega
 clear h hG ha hm hb hl hu hv hU hV
 go_enter Tryz.func188,Tryz.ntmps188
 go_wp2
 go_loopw [10,11] (fun iv jv wr=>∃ i j:Nat,iv=.int .i64 i∧jv=.int .i64 j∧0<i∧0<j∧i≤m∧m+j≤b∧Hid (∃ P' U' V' Q',P'.length+i=m∧U'.length=i∧V'.length=j∧MOwn wr A n c (P'++(U'++(V'++Q')))∧G=P'++(V'++(U'++Q')))∧Hid (Touch (fun g=>adBlock A=some g) w wr)) (fun iv jv _=>(intOf iv).toNat+(intOf jv).toNat)
 case atStart=>exact ⟨u,v,rfl,rfl,hu0,hv0,hum,by omega,hide ⟨P,U,V,Q,by have:=HA.out;have:=HM.out;have:=HU.out;omega,HU.out.symm,HV.out.symm,HX.out,HG.out⟩,hide (Touch.refl _ _)⟩
 case round =>
  obtain ⟨i,j,rfl,rfl,hi0,hj0,him,hjb,HE,HT⟩:=hrel
  obtain ⟨P',U',V',Q',e1,e2,e3,O1,e4⟩:=HE.out
  have hl:=mown_len O1
  simp only [List.length_append] at hl
  have HO:=hide O1
  have HG1:=hide e4
  clear O1 e4 HE
  obtain ⟨d,hd⟩:∃ d,d=m-i:=⟨_,rfl⟩
  have y0:(m:Int)-(i:Int)=(d:Int):=by omega
  have y1:IntKind.i64.wrap (d:Int)=(d:Int):=IntWalk.i64_in _ (by omega)
  rcases Nat.lt_trichotomy i j with hij | hij | hij
  ·obtain ⟨V1,V2,rfl,f1,f2⟩:=m_split_at (l:=V') (k:=j-i) (by omega)
   obtain ⟨z,hz⟩:∃ z,z=m+j-i:=⟨_,rfl⟩
   have y2:(m:Int)+(j:Int)-(i:Int)=(z:Int):=by omega
   have y3:IntKind.i64.wrap (z:Int)=(z:Int):=IntWalk.i64_in _ (by omega)
   have y4:IntKind.i64.wrap ((m:Int)+(j:Int))=(m:Int)+(j:Int):=IntWalk.i64_in _ (by omega)
   obtain ⟨r,hr⟩:∃ r,r=j-i:=⟨_,rfl⟩
   have y5:(j:Int)-(i:Int)=(r:Int):=by omega
   have y6:IntKind.i64.wrap (r:Int)=(r:Int):=IntWalk.i64_in _ (by omega)
   have y7:¬ i=j:=by omega
   have y8:¬ (j:Int)<(i:Int):=by omega
   have hsw:=m_swr_parts i P' U' V1 V2 Q' d z (by omega) e2 (by rw [f2,e3];omega) (by omega)
   have HSW:=hide hsw
   have h1:d+i≤n:=by omega
   have h2:z+i≤n:=by omega
   have HH:=hide (And.intro e1 (And.intro e2 (And.intro e3 (And.intro f1 (And.intro f2 hr)))))
   clear hsw hl hd hz e1 e2 e3 f1 f2 hr
   go_wp2_with (go_at_call 193;refine (m_swr_any wr A n c _ HO.out d z i h1 h2 _).mono ?_;rintro e w2 ⟨rfl,O2,T2⟩;have HO2:=hide O2;have HT2:=hide (HT.out.then T2);clear O2 T2)
   go_roundw
   ·obtain ⟨e1,e2,e3,f1,f2,hr⟩:=HH.out
    have O3:=HO2.out
    rw [show P'++(U'++((V1++V2)++Q'))=P'++(U'++(V1++(V2++Q'))) by simp,HSW.out] at O3
    refine ⟨i,r,rfl,rfl,hi0,by omega,him,by omega,hide ⟨P',V2,V1,U'++Q',e1,by rw [f2,e3];omega,by omega,O3,?_⟩,HT2⟩
    rw [HG1.out];simp
   ·simp [intOf]
    have:=HH.out.2.2.2.2.2
    omega
  ·subst hij
   have hsw:=m_swr_parts i P' U' [] V' Q' d m (by omega) e2 e3 (by simp;omega)
   have HSW:=hide hsw
   have h1:d+i≤n:=by omega
   have h2:m+i≤n:=by omega
   clear hsw hl hd e1 e2 e3
   go_wp2_with (go_at_call 193;refine (m_swr_any wr A n c _ HO.out d m i h1 h2 _).mono ?_;rintro e w2 ⟨rfl,O2,T2⟩;have HO2:=hide O2;have HT2:=hide (HT.out.then T2);clear O2 T2)
   go_end0
   have O3:=HO2.out
   rw [show P'++(U'++(V'++Q'))=P'++(U'++([]++(V'++Q'))) by simp,HSW.out] at O3
   refine ⟨rfl,?_,HT2.out⟩
   rw [HG1.out]
   exact O3
  ·obtain ⟨U1,U2,rfl,f1,f2⟩:=m_split_at (l:=U') (k:=j) (by omega)
   obtain ⟨r,hr⟩:∃ r,r=i-j:=⟨_,rfl⟩
   have y5:(i:Int)-(j:Int)=(r:Int):=by omega
   have y6:IntKind.i64.wrap (r:Int)=(r:Int):=IntWalk.i64_in _ (by omega)
   have y7:¬ i=j:=by omega
   have y8:(j:Int)<(i:Int):=by omega
   have hsw:=m_swr_parts j P' U1 U2 V' Q' d m (by omega) f1 e3 (by omega)
   have HSW:=hide hsw
   have h1:d+j≤n:=by omega
   have h2:m+j≤n:=by omega
   have HH:=hide (And.intro e1 (And.intro e2 (And.intro e3 (And.intro f1 (And.intro f2 hr)))))
   clear hsw hl hd e1 e2 e3 f1 f2 hr
   go_wp2_with (go_at_call 193;refine (m_swr_any wr A n c _ HO.out d m j h1 h2 _).mono ?_;rintro e w2 ⟨rfl,O2,T2⟩;have HO2:=hide O2;have HT2:=hide (HT.out.then T2);clear O2 T2)
   go_roundw
   ·obtain ⟨e1,e2,e3,f1,f2,hr⟩:=HH.out
    have O3:=HO2.out
    rw [show P'++((U1++U2)++(V'++Q'))=P'++(U1++(U2++(V'++Q'))) by simp,HSW.out] at O3
    refine ⟨r,j,rfl,rfl,by omega,hj0,by omega,hjb,hide ⟨P'++V',U2,U1,Q',by rw [List.length_append];omega,by rw [f2,e2];omega,f1,by simpa using O3,?_⟩,HT2⟩
    rw [HG1.out];simp
   ·simp [intOf]
    have:=HH.out.2.2.2.2.2
    omega
theorem m_isort_any (w:World) (A:Option Addr) (n c:Nat) (X:List MRow) (h:MOwn w A n c X) (a b:Nat) (hab:a≤b) (hb:b≤n) (hn62:n≤4611686018427387904) :
  Calls Tryz.prog 178 #[.slice A n c,.int .i64 a,.int .i64 b,m_cmpF] w fun e w'=>e=.returned (.tuple #[])∧MOwn w' A n c (m_insF X a (b-a-1))∧Touch (fun g=>adBlock A=some g) w w':=by
 have HX:=hide h
 clear h
 go_enter Tryz.func178,Tryz.ntmps178
 go_wp2
 go_loopw [8] (fun iv wr=>∃ cn i:Nat,iv=.int .i64 i∧i=a+1+cn∧cn≤b-a-1∧Hid (MOwn wr A n c (m_insF X a cn))∧Hid (Touch (fun g=>adBlock A=some g) w wr)) (fun iv _=>b-(intOf iv).toNat)
 case atStart=>exact ⟨0,a+1,rfl,rfl,Nat.zero_le _,HX,hide (Touch.refl _ _)⟩
 case round =>
  obtain ⟨cn,i,rfl,hi,hcn,HO,HT⟩:=hrel
  have HI:=hide hi
  by_cases hib:i<b
  ·have i0:(i:Int)<(b:Int):=by omega
   obtain ⟨T,hT⟩:∃ T,T=m_insF X a (cn+1):=⟨_,rfl⟩
   have HTE:=hide hT
   obtain ⟨Y0,hY0⟩:∃ Y,Y=m_insF X a cn:=⟨_,rfl⟩
   rw [← hY0] at HO
   have hbub:m_bub Y0 a (i-a)=T:=by
    have e:i-a=cn+1:=by omega
    rw [e,hT,hY0,m_insF]
   have HBU:=hide hbub
   have hai:a≤i:=by omega
   clear hT hY0 hbub hi hcn
   go_wp2
   obtain ⟨wo,rfl⟩:∃ wo:World,wo=wr:=⟨_,rfl⟩
   go_loopw [9] (fun jv wr=>∃ j:Nat,jv=.int .i64 j∧a≤j∧j≤i∧Hid (∃ Y,MOwn wr A n c Y∧m_bub Y a (j-a)=T)∧Hid (Touch (fun g=>adBlock A=some g) w wr)) (fun jv _=>(intOf jv).toNat)
   case atStart=>exact ⟨i,rfl,hai,Nat.le_refl _,hide ⟨Y0,HO.out,HBU.out⟩,HT⟩
   case round =>
    obtain ⟨j,rfl,haj,hji,HE,HT2⟩:=hrel
    obtain ⟨Y,OY,hYb⟩:=HE.out
    have HOY:=hide OY
    have HYB:=hide hYb
    have hl:=mown_len OY
    clear OY hYb HE
    by_cases h0:a<j
    ·obtain ⟨d,hd⟩:∃ d,j=a+d+1:=⟨j-a-1,by omega⟩
     obtain ⟨q,hq⟩:∃ q,q=j-1:=⟨_,rfl⟩
     obtain ⟨g,hA0,hg,a0,a1,a2,f0,f1,f2⟩:=mown_at HOY.out hl j (by omega)
     subst hA0
     obtain ⟨g',hA,_,b0,b1,b2,f3,f4,f5⟩:=mown_at HOY.out hl q (by omega)
     injection hA with hA
     injection hA with hA _
     subst hA
     obtain ⟨⟨xw,xn,xd⟩,hx⟩:∃ r,r=Y.getD j MRow.zero:=⟨_,rfl⟩
     obtain ⟨⟨yw,yn,yd⟩,hy⟩:∃ r,r=Y.getD q MRow.zero:=⟨_,rfl⟩
     have hbu:m_bub Y a (j-a)=if m_plt ⟨xw,xn,xd⟩ ⟨yw,yn,yd⟩=true then m_bub (m_swpP Y j q) a (q-a) else Y:=by
      have e1:j-a=d+1:=by omega
      have e2:q=a+d:=by omega
      have e3:q-a=d:=by omega
      rw [e1,e3,m_bub,← hd,← e2,hx,hy]
     rw [← hx] at a0 a1 a2
     rw [← hy] at b0 b1 b2
     simp only at a0 a1 a2 b0 b1 b2
     have EX:=hide hx
     have EY:=hide hy
     have HBB:=hide hbu
     have y0:(j:Int)-1=(q:Int):=by omega
     have y1:IntKind.i64.wrap (q:Int)=(q:Int):=IntWalk.i64_in _ (by omega)
     have y2:IntKind.i64.wrap (j:Int)=(j:Int):=IntWalk.i64_in _ (by omega)
     have y3:j<n:=by omega
     have y4:q<n:=by omega
     have y5:(j:Int)<(n:Int):=by omega
     have y6:(q:Int)<(n:Int):=by omega
     have y7:decide (a<j)=true:=by simp [h0]
     have y8:(a:Int)<(j:Int):=by omega
     have y9:a≤q:=by omega
     have y10:q≤i:=by omega
     have HDQ:=hide (And.intro hd hq)
     have HLL:=hide hl
     clear hx hy hbu hd hq hl
     cases hb:m_plt ⟨xw,xn,xd⟩ ⟨yw,yn,yd⟩ with
     | true =>
      have HPB:=hide hb
      clear hb
      go_wp2_with fail
      go_still_tail 14,(by kernel_rfl)
      change wpList _ _ _ _ _ wr.drew
      have HD:Hid (Touch (fun _=>False) wr wr.drew):=hide (Touch.refl _ _).drew
      generalize wr.drew=wd at HD ⊢
      go_wp2_with (go_at_call 105;refine (m_cmp_any ⟨xw,xn,xd⟩ ⟨yw,yn,yd⟩ wd).mono ?_;rw [HPB.out];rintro e w2 ⟨⟨z,rfl,hz⟩,T2⟩;have O2:=own_touch HOY.out (HD.out.then T2) (fun _ _ f=>f);obtain ⟨g',hA,_,a0,a1,a2,f0,f1,f2⟩:=mown_at O2 HLL.out j y3;injection hA with hA;injection hA with hA _;subst hA;obtain ⟨g',hA,_,b0,b1,b2,f3,f4,f5⟩:=mown_at O2 HLL.out q y4;injection hA with hA;injection hA with hA _;subst hA;rw [← EX.out] at a0 a1 a2;rw [← EY.out] at b0 b1 b2;simp only at a0 a1 a2 b0 b1 b2;obtain ⟨v0,s0⟩:=cell?_setCell_some (p:=⟨g,j*3,none⟩) (x:=.string yw) b0;obtain ⟨v1,s1⟩:=cell?_setCell_some (p:=⟨g,j*3,none⟩) (x:=.string yw) b1;obtain ⟨v1,s1⟩:=cell?_setCell_some (p:=⟨g,j*3+1,none⟩) (x:=.int .i64 yn) s1;obtain ⟨v2,s2⟩:=cell?_setCell_some (p:=⟨g,j*3,none⟩) (x:=.string yw) b2;obtain ⟨v2,s2⟩:=cell?_setCell_some (p:=⟨g,j*3+1,none⟩) (x:=.int .i64 yn) s2;obtain ⟨v2,s2⟩:=cell?_setCell_some (p:=⟨g,j*3+2,none⟩) (x:=.int .i64 yd) s2;have HO2:=hide O2;have HT3:=hide (HT2.out.then ((HD.out.then T2).up _));clear O2 T2)
      go_region
      all_goals go_wp2
      go_roundw
      ·have HS:=mown_set3 (mown_set3 HO2.out j ⟨yw,yn,yd⟩) q ⟨xw,xn,xd⟩
       have e:m_swpP Y j q=(Y.set j ⟨yw,yn,yd⟩).set q ⟨xw,xn,xd⟩:=by unfold m_swpP;rw [← EX.out,← EY.out]
       rw [← e] at HS
       refine ⟨q,rfl,y9,y10,hide ⟨m_swpP Y j q,own_touch (S:=fun _=>False) HS (Touch.refl _ _).drew (fun _ _ f=>f),?_⟩,hide ?_⟩
       ·rw [← HYB.out,HBB.out,if_pos HPB.out]
       ·refine Touch.drew ?_
        iterate 6 refine Touch.setCell ?_ (fun _=>(rfl:adBlock (some ⟨g,0,none⟩)=some g)) _
        exact HT3.out
      ·simp [intOf]
       have:=HDQ.out
       omega
     | false =>
      have HPB:=hide hb
      clear hb
      go_wp2_with fail
      go_still_tail 14,(by kernel_rfl)
      change wpList _ _ _ _ _ wr.drew
      have HD:Hid (Touch (fun _=>False) wr wr.drew):=hide (Touch.refl _ _).drew
      generalize wr.drew=wd at HD ⊢
      go_wp2_with (go_at_call 105;refine (m_cmp_any ⟨xw,xn,xd⟩ ⟨yw,yn,yd⟩ wd).mono ?_;rw [HPB.out];rintro e w2 ⟨⟨z,rfl,hz⟩,T2⟩;have HO2:=hide (own_touch HOY.out (HD.out.then T2) (fun _ _ f=>f));have HT3:=hide (HT2.out.then ((HD.out.then T2).up _));clear T2)
      go_roundw
      ·have hi:=HI.out
       have e:Y=m_insF X a (cn+1):=by rw [← HTE.out,← HYB.out,HBB.out,if_neg (by rw [HPB.out];decide)]
       exact ⟨cn+1,i+1,by simp,by omega,by omega,hide (by rw [← e];exact HO2.out),HT3⟩
      ·show b-(intOf (.int .i64 ((i:Int)+1))).toNat<b-(intOf (.int .i64 (i:Int))).toNat
       simp [intOf]
       omega
    ·have hja:j=a:=by omega
     have hYT:Y=T:=by rw [← HYB.out,hja,Nat.sub_self];rfl
     have HYT:=hide hYT
     have y7:decide (a<j)=false:=by simp;omega
     have y8:¬ (a:Int)<(j:Int):=by omega
     clear hja hYT h0 hl
     go_wp2_with fail
     go_quiet (fail)
     obtain ⟨wd,hwd⟩:∃ wd,wd=wr.drewN nq:=⟨_,rfl⟩
     have hdd:Touch (fun _=>False) wr wd:=by rw [hwd];exact (Touch.refl _ _).drewN _
     have HD:=hide hdd
     rw [← hwd]
     clear hwd hdd
     go_wp2
     go_roundw
     ·have hi:=HI.out
      have e:Y=m_insF X a (cn+1):=by rw [HYT.out,HTE.out]
      exact ⟨cn+1,i+1,by simp,by omega,by omega,hide (by rw [← e];exact own_touch HOY.out HD.out (fun _ _ f=>f)),hide (HT2.out.then (HD.out.up _))⟩
     ·show b-(intOf (.int .i64 ((i:Int)+1))).toNat<b-(intOf (.int .i64 (i:Int))).toNat
      simp [intOf]
      omega
  ·have hc:cn=b-a-1:=by omega
   clear hi hcn
   go_wp2
   go_end0
   refine ⟨rfl,?_,HT.out⟩
   rw [← hc]
   exact HO.out
theorem m_getD_seg (S R W:List MRow) (i k:Nat) (hi:i=S.length+k) (hk:k<R.length):(S++(R++W)).getD i MRow.zero=R.getD k MRow.zero:=by
 subst hi
 rw [List.getD_eq_getElem?_getD,List.getElem?_append_right (Nat.le_add_right _ _),Nat.add_sub_cancel_left,List.getElem?_append_left hk]
 rfl
theorem m_sm_one (w:World) (A:Option Addr) (n c:Nat) (P R Q:List MRow) (x:MRow) (h:MOwn w A n c (P++(x :: (R++Q)))) (a m b:Nat) (ha:a=P.length) (hm:m=a+1) (hb:b=m+R.length) (hR:m_SrtP R) (hn62:n≤5864062014700) :
  Calls Tryz.prog 179 #[.slice A n c,.int .i64 a,.int .i64 m,.int .i64 b,m_cmpF] w fun e w'=>e=.returned (.tuple #[])∧(∃ Z,MOwn w' A n c (P++(Z++Q))∧m_SrtP Z∧m_SameK (x :: R) Z)∧Touch (fun g=>adBlock A=some g) w w':=by
 have hl:=mown_len h
 simp only [List.length_append,List.length_cons] at hl
 obtain ⟨X,hX⟩:∃ X,X=P++(x :: (R++Q)):=⟨_,rfl⟩
 rw [← hX] at h
 have hn:=own_le h
 unfold maxLen at hn
 have HX:=hide h
 have HE:=hide hX
 have HA:=hide ha
 have HB:=hide hb
 have HR:=hide hR
 have hbn:b≤n:=by omega
 have hmb:m≤b:=by omega
 have hab:a<n:=by omega
 have x0:((m:Int)-(a:Int) == 1)=true:=by simp;omega
 have x1:(m:Int)-(a:Int)=1:=by omega
 have ham:m=a+1:=hm
 have HAM:=hide ham
 clear h hX ha hb hl hR hm ham
 go_enter Tryz.func179,Tryz.ntmps179
 go_wp2
 go_loopw [10,11] (fun iv jv wr=>∃ i j:Nat,iv=.int .i64 i∧jv=.int .i64 j∧m≤i∧i≤j∧j≤b∧Hid (MOwn wr A n c X)∧Hid ((i=m∨m_plt (X.getD (i-1) MRow.zero) x=true)∧(j=b∨m_plt (X.getD j MRow.zero) x=false))∧Hid (Touch (fun _=>False) w wr)) (fun iv jv _=>(intOf jv).toNat-(intOf iv).toNat)
 case atStart=>exact ⟨m,b,rfl,rfl,Nat.le_refl _,hmb,Nat.le_refl _,HX,hide ⟨.inl rfl,.inl rfl⟩,hide (Touch.refl _ _)⟩
 case round =>
  obtain ⟨i,j,rfl,rfl,hmi,hij,hjb,HO,HI,HT⟩:=hrel
  by_cases h0:i<j
  ·have y0:(i:Int)<(j:Int):=by omega
   obtain ⟨h,hh⟩:∃ h,h=(i+j) / 2:=⟨_,rfl⟩
   have y1:((i:Int)+(j:Int)) / 2=(h:Int):=by omega
   have y2:h<n:=by omega
   have y3:(h:Int)<(n:Int):=by omega
   have y4:(a:Int)<(n:Int):=by omega
   have y5:IntKind.i64.wrap (h:Int)=(h:Int):=IntWalk.i64_in _ (by omega)
   have y6:IntKind.i64.wrap (a:Int)=(a:Int):=IntWalk.i64_in _ (by omega)
   have y7:i≤h:=by omega
   have y8:h<j:=by omega
   have hl:=mown_len HO.out
   obtain ⟨g,hA0,hg,a0,a1,a2,f0,f1,f2⟩:=mown_at HO.out hl h y2
   subst hA0
   obtain ⟨g',hA,_,b0,b1,b2,f3,f4,f5⟩:=mown_at HO.out hl a hab
   injection hA with hA
   injection hA with hA _
   subst hA
   have ex:X.getD a MRow.zero=x:=by rw [HE.out,HA.out,m_getD_mid]
   rw [ex] at b0 b1 b2
   obtain ⟨⟨zw,zn,zd⟩,hz⟩:∃ r,r=X.getD h MRow.zero:=⟨_,rfl⟩
   rw [← hz] at a0 a1 a2
   have EZ:=hide hz
   obtain ⟨⟨xw,xn,xd⟩,hx⟩:∃ r,r=x:=⟨_,rfl⟩
   rw [← hx] at b0 b1 b2
   have EX:=hide hx
   simp only at a0 a1 a2 b0 b1 b2
   clear hl ex hz hx hh
   cases hb:m_plt ⟨zw,zn,zd⟩ ⟨xw,xn,xd⟩ with
   | true =>
    have HPB:=hide hb
    clear hb
    go_wp2_with fail
    go_still_tail 9,(by kernel_rfl)
    change wpList _ _ _ _ _ wr.drew
    have HD:Hid (Touch (fun _=>False) wr wr.drew):=hide (Touch.refl _ _).drew
    generalize wr.drew=wd at HD ⊢
    go_wp2_with (go_at_call 105;refine (m_cmp_any ⟨zw,zn,zd⟩ ⟨xw,xn,xd⟩ wd).mono ?_;rw [HPB.out];rintro e w2 ⟨⟨z,rfl,hz⟩,T2⟩;have HT2:=hide (HT.out.then (HD.out.then T2));have HO2:=hide (own_touch HO.out (HD.out.then T2) (fun _ _ f=>f));clear T2)
    go_roundw
    ·refine ⟨h+1,j,by simp,rfl,by omega,by omega,hjb,HO2,hide ⟨.inr ?_,HI.out.2⟩,HT2⟩
     rw [Nat.add_sub_cancel,← EZ.out,← EX.out]
     exact HPB.out
    ·show (j:Int).toNat-((h:Int)+1).toNat<(j:Int).toNat-(i:Int).toNat
     omega
   | false =>
    have HPB:=hide hb
    clear hb
    go_wp2_with fail
    go_still_tail 9,(by kernel_rfl)
    change wpList _ _ _ _ _ wr.drew
    have HD:Hid (Touch (fun _=>False) wr wr.drew):=hide (Touch.refl _ _).drew
    generalize wr.drew=wd at HD ⊢
    go_wp2_with (go_at_call 105;refine (m_cmp_any ⟨zw,zn,zd⟩ ⟨xw,xn,xd⟩ wd).mono ?_;rw [HPB.out];rintro e w2 ⟨⟨z,rfl,hz⟩,T2⟩;have HT2:=hide (HT.out.then (HD.out.then T2));have HO2:=hide (own_touch HO.out (HD.out.then T2) (fun _ _ f=>f));clear T2)
    go_roundw
    ·refine ⟨i,h,rfl,rfl,hmi,y7,by omega,HO2,hide ⟨HI.out.1,.inr ?_⟩,HT2⟩
     rw [← EZ.out,← EX.out]
     exact HPB.out
    ·show (h:Int).toNat-(i:Int).toNat<(j:Int).toNat-(i:Int).toNat
     omega
  ·have hij':j=i:=by omega
   subst hij'
   obtain ⟨t,ht⟩:∃ t,j=m+t:=⟨j-m,by omega⟩
   obtain ⟨o,ho⟩:∃ o,o=a+t:=⟨_,rfl⟩
   have z0:(j:Int)-1=(o:Int):=by have:=HAM.out;omega
   have z1:IntKind.i64.wrap (o:Int)=(o:Int):=IntWalk.i64_in _ (by omega)
   have z2:a≤o:=by omega
   have z3:o<n:=by have:=HAM.out;omega
   have htR:t≤R.length:=by have:=HB.out;omega
   have HTT:=hide ht
   have HOO:=hide ho
   have HTR:=hide htR
   have HI2:=HI
   clear ht ho htR h0 hij hmi
   go_wp2
   obtain ⟨wo,rfl⟩:∃ wo:World,wo=wr:=⟨_,rfl⟩
   go_loopw [13] (fun kv wr=>∃ k s:Nat,kv=.int .i64 k∧k≤o∧Hid (k=a+s)∧Hid (MOwn wr A n c (P++(R.take s++(x :: (R.drop s++Q)))))∧Hid (Touch (fun g=>adBlock A=some g) w wr)) (fun kv _=>o-(intOf kv).toNat)
   case atStart =>
    refine ⟨a,0,rfl,z2,hide rfl,hide ?_,hide (HT.out.up _)⟩
    have:=HO.out
    rw [HE.out] at this
    simpa using this
   case round =>
    obtain ⟨k,s,rfl,hko,HK,HO2,HT2⟩:=hrel
    by_cases hk:k<o
    ·obtain ⟨Y,hY⟩:∃ Y,Y=P++(R.take s++(x :: (R.drop s++Q))):=⟨_,rfl⟩
     rw [← hY] at HO2
     have HYE:=hide hY
     have hl:=mown_len HO2.out
     obtain ⟨k2,hk2⟩:∃ k2,k2=k+1:=⟨_,rfl⟩
     obtain ⟨g,hA0,hg,a0,a1,a2,f0,f1,f2⟩:=mown_at HO2.out hl k (by omega)
     subst hA0
     obtain ⟨g',hA,_,b0,b1,b2,f3,f4,f5⟩:=mown_at HO2.out hl k2 (by omega)
     injection hA with hA
     injection hA with hA _
     subst hA
     obtain ⟨⟨xw,xn,xd⟩,hx⟩:∃ r,r=Y.getD k MRow.zero:=⟨_,rfl⟩
     obtain ⟨⟨yw,yn,yd⟩,hy⟩:∃ r,r=Y.getD k2 MRow.zero:=⟨_,rfl⟩
     rw [← hx] at a0 a1 a2
     rw [← hy] at b0 b1 b2
     simp only at a0 a1 a2 b0 b1 b2
     have EX:=hide hx
     have EY:=hide hy
     have HK2:=hide hk2
     have i0:(k:Int)<(o:Int):=by omega
     have i1:(k:Int)+1=(k2:Int):=by omega
     have i2:IntKind.i64.wrap (k:Int)=(k:Int):=IntWalk.i64_in _ (by omega)
     have i3:IntKind.i64.wrap (k2:Int)=(k2:Int):=IntWalk.i64_in _ (by omega)
     have i4:k<n:=by omega
     have i5:k2<n:=by omega
     have i6:(k:Int)<(n:Int):=by omega
     have i7:(k2:Int)<(n:Int):=by omega
     have i8:k2≤o:=by omega
     obtain ⟨v0,s0⟩:=cell?_setCell_some (p:=⟨g,k*3,none⟩) (x:=.string yw) b0
     obtain ⟨v1,s1⟩:=cell?_setCell_some (p:=⟨g,k*3,none⟩) (x:=.string yw) b1
     obtain ⟨v1,s1⟩:=cell?_setCell_some (p:=⟨g,k*3+1,none⟩) (x:=.int .i64 yn) s1
     obtain ⟨v2,s2⟩:=cell?_setCell_some (p:=⟨g,k*3,none⟩) (x:=.string yw) b2
     obtain ⟨v2,s2⟩:=cell?_setCell_some (p:=⟨g,k*3+1,none⟩) (x:=.int .i64 yn) s2
     obtain ⟨v2,s2⟩:=cell?_setCell_some (p:=⟨g,k*3+2,none⟩) (x:=.int .i64 yd) s2
     clear hx hy hl hk2 hY
     go_wp2
     go_region
     all_goals go_wp2
     go_roundw
     ·have HS:=mown_set3 (mown_set3 HO2.out k ⟨yw,yn,yd⟩) k2 ⟨xw,xn,xd⟩
      have e:m_swpP Y k k2=(Y.set k ⟨yw,yn,yd⟩).set k2 ⟨xw,xn,xd⟩:=by unfold m_swpP;rw [← EX.out,← EY.out]
      rw [← e] at HS
      have hs:s<R.length:=by have:=HTR.out;have:=HOO.out;have:=HK.out;omega
      have e2:m_swpP Y k k2=P++(R.take (s+1)++(x :: (R.drop (s+1)++Q))):=by
       have r1:R.drop s=R[s] :: R.drop (s+1):=List.drop_eq_getElem_cons hs
       have r2:R.take (s+1)=R.take s++[R[s]]:=List.take_succ_eq_append_getElem hs
       have l1:(P++R.take s).length=k:=by have:=HK.out;have:=HA.out;rw [List.length_append,List.length_take];omega
       have e3:Y=(P++R.take s)++(x :: ([]++(R[s] :: (R.drop (s+1)++Q)))):=by rw [HYE.out,r1];simp only [List.append_assoc,List.cons_append,List.nil_append]
       rw [e3,m_swpP_parts (P++R.take s) [] (R.drop (s+1)++Q) x R[s] k k2 l1.symm (by rw [l1,HK2.out];rfl),r2]
       simp only [List.append_assoc,List.cons_append,List.nil_append]
      rw [e2] at HS
      refine ⟨k2,s+1,rfl,i8,hide (by have:=HK.out;have:=HK2.out;omega),hide (own_touch (S:=fun _=>False) HS (Touch.refl _ _).drew (fun _ _ f=>f)),hide ?_⟩
      refine Touch.drew ?_
      iterate 6 refine Touch.setCell ?_ (fun _=>(rfl:adBlock (some ⟨g,0,none⟩)=some g)) _
      exact HT2.out
     ·simp [intOf]
      have:=HK2.out
      omega
    ·have hk':k=o:=by omega
     subst hk'
     go_wp2
     have hst:s=t:=by have:=HK.out;have:=HOO.out;omega
     subst hst
     obtain ⟨i1,i2⟩:=HI.out
     have hm:=HAM.out
     have ht:=HTT.out
     have hA:=HA.out
     have hB:=HB.out
     have eX:X=(P++[x])++(R++Q):=by rw [HE.out];simp
     have hc:=m_cut_parts (L:=[x]) (R:=R) (by simp [m_SrtP]) HR.out 0 s (Nat.zero_le _) HTR.out (.inl rfl) (by
      rcases i1 with e | e
      ·exact .inr (.inl (by omega))
      ·by_cases hs0:s=0
       ·exact .inr (.inl hs0)
       ·refine .inr (.inr ?_)
        rw [eX,m_getD_seg (P++[x]) R Q (j-1) (s-1) (by simp;omega) (by have:=HTR.out;omega)] at e
        simpa using e)
     have hd:∀ y∈R.drop s,m_ple x y:=by
      intro y hy
      obtain ⟨q,q1,q2,rfl⟩:=m_mem_drop_at hy
      rcases i2 with e | e
      ·omega
      ·rw [eX,m_getD_seg (P++[x]) R Q j s (by simp;omega) (by omega)] at e
       exact m_ple_trans (show m_ple x (R.getD s MRow.zero) from e) (m_srt_at HR.out q1 q2)
     simp only [List.drop_zero,List.mem_singleton,forall_eq] at hc
     refine bodyPost_ret (v:=.tuple #[]) (by simp [results,Tryz.results179,go_sem]) rfl ⟨rfl,⟨R.take s++(x :: R.drop s),?_,?_,?_⟩,HT2.out⟩
     ·have:=HO2.out
      simpa using this
     ·refine m_srt_app (m_srt_take HR.out s) (List.pairwise_cons.2 ⟨hd,m_srt_drop HR.out s⟩) ?_
      intro p hp r hr
      rcases List.mem_cons.1 hr with rfl | hr
      ·exact m_ple_of_plt (hc.2 p hp)
      ·exact m_ple_trans (m_ple_of_plt (hc.2 p hp)) (hd r hr)
     ·have k1:m_SameK ([x]++R.take s) (R.take s++[x]):=m_SameK.swap fun p hp r hr he=>by
       simp only [List.mem_singleton] at hp
       subst hp
       exact m_plt_ne (hc.2 r hr) he.symm
      have k2:=k1.app (m_SameK.refl (R.drop s))
      simpa using k2
theorem m_sm_last (w:World) (A:Option Addr) (n c:Nat) (P L Q:List MRow) (x:MRow) (h:MOwn w A n c (P++(L++(x :: Q)))) (a m b:Nat) (ha:a=P.length) (hm:m=a+L.length) (hb:b=m+1) (hL1:L.length≠1) (hL:m_SrtP L) (hn62:n≤5864062014700) :
  Calls Tryz.prog 179 #[.slice A n c,.int .i64 a,.int .i64 m,.int .i64 b,m_cmpF] w fun e w'=>e=.returned (.tuple #[])∧(∃ Z,MOwn w' A n c (P++(Z++Q))∧m_SrtP Z∧m_SameK (L++[x]) Z)∧Touch (fun g=>adBlock A=some g) w w':=by
 have hl:=mown_len h
 simp only [List.length_append,List.length_cons] at hl
 obtain ⟨X,hX⟩:∃ X,X=P++(L++(x :: Q)):=⟨_,rfl⟩
 rw [← hX] at h
 have hn:=own_le h
 unfold maxLen at hn
 have HX:=hide h
 have HE:=hide hX
 have HA:=hide ha
 have HB:=hide hb
 have HL:=hide hL
 have HM:=hide hm
 have hbn:m<n:=by omega
 have ham:a≤m:=by omega
 have x0:((m:Int)-(a:Int) == 1)=false:=by simp;omega
 have x1:((b:Int)-(m:Int) == 1)=true:=by simp;omega
 have x2:(b:Int)-(m:Int)=1:=by omega
 have x3:b≤n:=by omega
 clear h hX ha hb hl hL hm hL1
 go_enter Tryz.func179,Tryz.ntmps179
 go_wp2
 go_loopw [14,15] (fun iv jv wr=>∃ i j:Nat,iv=.int .i64 i∧jv=.int .i64 j∧a≤i∧i≤j∧j≤m∧Hid (MOwn wr A n c X)∧Hid ((i=a∨m_plt x (X.getD (i-1) MRow.zero)=false)∧(j=m∨m_plt x (X.getD j MRow.zero)=true))∧Hid (Touch (fun _=>False) w wr)) (fun iv jv _=>(intOf jv).toNat-(intOf iv).toNat)
 case atStart=>exact ⟨a,m,rfl,rfl,Nat.le_refl _,ham,Nat.le_refl _,HX,hide ⟨.inl rfl,.inl rfl⟩,hide (Touch.refl _ _)⟩
 case round =>
  obtain ⟨i,j,rfl,rfl,hmi,hij,hjb,HO,HI,HT⟩:=hrel
  by_cases h0:i<j
  ·have y0:(i:Int)<(j:Int):=by omega
   obtain ⟨h,hh⟩:∃ h,h=(i+j) / 2:=⟨_,rfl⟩
   have y1:((i:Int)+(j:Int)) / 2=(h:Int):=by omega
   have y2:h<n:=by omega
   have y3:(h:Int)<(n:Int):=by omega
   have y4:(m:Int)<(n:Int):=by omega
   have y5:IntKind.i64.wrap (h:Int)=(h:Int):=IntWalk.i64_in _ (by omega)
   have y6:IntKind.i64.wrap (m:Int)=(m:Int):=IntWalk.i64_in _ (by omega)
   have y7:i≤h:=by omega
   have y8:h<j:=by omega
   have hl:=mown_len HO.out
   obtain ⟨g,hA0,hg,a0,a1,a2,f0,f1,f2⟩:=mown_at HO.out hl h y2
   subst hA0
   obtain ⟨g',hA,_,b0,b1,b2,f3,f4,f5⟩:=mown_at HO.out hl m hbn
   injection hA with hA
   injection hA with hA _
   subst hA
   have ex:X.getD m MRow.zero=x:=by
    have l1:(P++L).length=m:=by have:=HM.out;have:=HA.out;rw [List.length_append];omega
    rw [HE.out,← List.append_assoc,← l1,m_getD_mid]
   rw [ex] at b0 b1 b2
   obtain ⟨⟨zw,zn,zd⟩,hz⟩:∃ r,r=X.getD h MRow.zero:=⟨_,rfl⟩
   rw [← hz] at a0 a1 a2
   have EZ:=hide hz
   obtain ⟨⟨xw,xn,xd⟩,hx⟩:∃ r,r=x:=⟨_,rfl⟩
   rw [← hx] at b0 b1 b2
   have EX:=hide hx
   simp only at a0 a1 a2 b0 b1 b2
   clear hl ex hz hx hh
   cases hb:m_plt ⟨xw,xn,xd⟩ ⟨zw,zn,zd⟩ with
   | true =>
    have HPB:=hide hb
    clear hb
    go_wp2_with fail
    go_still_tail 9,(by kernel_rfl)
    change wpList _ _ _ _ _ wr.drew
    have HD:Hid (Touch (fun _=>False) wr wr.drew):=hide (Touch.refl _ _).drew
    generalize wr.drew=wd at HD ⊢
    go_wp2_with (go_at_call 105;refine (m_cmp_any ⟨xw,xn,xd⟩ ⟨zw,zn,zd⟩ wd).mono ?_;rw [HPB.out];rintro e w2 ⟨⟨z,rfl,hz⟩,T2⟩;have HT2:=hide (HT.out.then (HD.out.then T2));have HO2:=hide (own_touch HO.out (HD.out.then T2) (fun _ _ f=>f));clear T2)
    go_roundw
    ·refine ⟨i,h,rfl,rfl,hmi,y7,by omega,HO2,hide ⟨HI.out.1,.inr ?_⟩,HT2⟩
     rw [← EZ.out,← EX.out]
     exact HPB.out
    ·show (h:Int).toNat-(i:Int).toNat<(j:Int).toNat-(i:Int).toNat
     omega
   | false =>
    have HPB:=hide hb
    clear hb
    go_wp2_with fail
    go_still_tail 9,(by kernel_rfl)
    change wpList _ _ _ _ _ wr.drew
    have HD:Hid (Touch (fun _=>False) wr wr.drew):=hide (Touch.refl _ _).drew
    generalize wr.drew=wd at HD ⊢
    go_wp2_with (go_at_call 105;refine (m_cmp_any ⟨xw,xn,xd⟩ ⟨zw,zn,zd⟩ wd).mono ?_;rw [HPB.out];rintro e w2 ⟨⟨z,rfl,hz⟩,T2⟩;have HT2:=hide (HT.out.then (HD.out.then T2));have HO2:=hide (own_touch HO.out (HD.out.then T2) (fun _ _ f=>f));clear T2)
    go_roundw
    ·refine ⟨h+1,j,by simp,rfl,by omega,by omega,hjb,HO2,hide ⟨.inr ?_,HI.out.2⟩,HT2⟩
     rw [Nat.add_sub_cancel,← EZ.out,← EX.out]
     exact HPB.out
    ·show (j:Int).toNat-((h:Int)+1).toNat<(j:Int).toNat-(i:Int).toNat
     omega
  ·have hij':j=i:=by omega
   subst hij'
   obtain ⟨t,ht⟩:∃ t,j=a+t:=⟨j-a,by omega⟩
   have htL:t≤L.length:=by have:=HM.out;omega
   have HTT:=hide ht
   have HTL:=hide htL
   clear ht htL h0 hij hmi
   go_wp2
   obtain ⟨wo,rfl⟩:∃ wo:World,wo=wr:=⟨_,rfl⟩
   go_loopw [17] (fun kv wr=>∃ k s:Nat,kv=.int .i64 k∧j≤k∧k≤m∧Hid (k=a+s)∧Hid (MOwn wr A n c (P++(L.take s++(x :: (L.drop s++Q)))))∧Hid (Touch (fun g=>adBlock A=some g) w wr)) (fun kv _=>(intOf kv).toNat)
   case atStart =>
    refine ⟨m,L.length,rfl,hjb,Nat.le_refl _,HM,hide ?_,hide (HT.out.up _)⟩
    have:=HO.out
    rw [HE.out] at this
    simpa using this
   case round =>
    obtain ⟨k,s,rfl,hko,hkm,HK,HO2,HT2⟩:=hrel
    by_cases hk:j<k
    ·obtain ⟨Y,hY⟩:∃ Y,Y=P++(L.take s++(x :: (L.drop s++Q))):=⟨_,rfl⟩
     rw [← hY] at HO2
     have HYE:=hide hY
     have hl:=mown_len HO2.out
     obtain ⟨k2,hk2⟩:∃ k2,k=k2+1:=⟨k-1,by omega⟩
     obtain ⟨g,hA0,hg,a0,a1,a2,f0,f1,f2⟩:=mown_at HO2.out hl k (by omega)
     subst hA0
     obtain ⟨g',hA,_,b0,b1,b2,f3,f4,f5⟩:=mown_at HO2.out hl k2 (by omega)
     injection hA with hA
     injection hA with hA _
     subst hA
     obtain ⟨⟨xw,xn,xd⟩,hx⟩:∃ r,r=Y.getD k MRow.zero:=⟨_,rfl⟩
     obtain ⟨⟨yw,yn,yd⟩,hy⟩:∃ r,r=Y.getD k2 MRow.zero:=⟨_,rfl⟩
     rw [← hx] at a0 a1 a2
     rw [← hy] at b0 b1 b2
     simp only at a0 a1 a2 b0 b1 b2
     have EX:=hide hx
     have EY:=hide hy
     have HK2:=hide hk2
     have i0:(j:Int)<(k:Int):=by omega
     have i1:(k:Int)-1=(k2:Int):=by omega
     have i2:IntKind.i64.wrap (k:Int)=(k:Int):=IntWalk.i64_in _ (by omega)
     have i3:IntKind.i64.wrap (k2:Int)=(k2:Int):=IntWalk.i64_in _ (by omega)
     have i4:k<n:=by omega
     have i5:k2<n:=by omega
     have i6:(k:Int)<(n:Int):=by omega
     have i7:(k2:Int)<(n:Int):=by omega
     have i8:j≤k2:=by omega
     have i9:k2≤m:=by omega
     obtain ⟨v0,s0⟩:=cell?_setCell_some (p:=⟨g,k*3,none⟩) (x:=.string yw) b0
     obtain ⟨v1,s1⟩:=cell?_setCell_some (p:=⟨g,k*3,none⟩) (x:=.string yw) b1
     obtain ⟨v1,s1⟩:=cell?_setCell_some (p:=⟨g,k*3+1,none⟩) (x:=.int .i64 yn) s1
     obtain ⟨v2,s2⟩:=cell?_setCell_some (p:=⟨g,k*3,none⟩) (x:=.string yw) b2
     obtain ⟨v2,s2⟩:=cell?_setCell_some (p:=⟨g,k*3+1,none⟩) (x:=.int .i64 yn) s2
     obtain ⟨v2,s2⟩:=cell?_setCell_some (p:=⟨g,k*3+2,none⟩) (x:=.int .i64 yd) s2
     clear hx hy hl hk2 hY
     go_wp2
     go_region
     all_goals go_wp2
     go_roundw
     ·have HS:=mown_set3 (mown_set3 HO2.out k ⟨yw,yn,yd⟩) k2 ⟨xw,xn,xd⟩
      have e:m_swpP Y k k2=(Y.set k ⟨yw,yn,yd⟩).set k2 ⟨xw,xn,xd⟩:=by unfold m_swpP;rw [← EX.out,← EY.out]
      rw [← e] at HS
      obtain ⟨s',rfl⟩:∃ s',s=s'+1:=⟨s-1,by have:=HK.out;have:=HTT.out;omega⟩
      have hs:s'<L.length:=by have:=HM.out;have:=HK.out;omega
      have e2:m_swpP Y k k2=P++(L.take s'++(x :: (L.drop s'++Q))):=by
       have r1:L.drop s'=L[s'] :: L.drop (s'+1):=List.drop_eq_getElem_cons hs
       have r2:L.take (s'+1)=L.take s'++[L[s']]:=List.take_succ_eq_append_getElem hs
       have l1:(P++L.take s').length=k2:=by have:=HK.out;have:=HK2.out;have:=HA.out;rw [List.length_append,List.length_take];omega
       have e3:Y=(P++L.take s')++(L[s'] :: x :: (L.drop (s'+1)++Q)):=by rw [HYE.out,r2];simp only [List.append_assoc,List.cons_append,List.nil_append]
       rw [e3,m_swpP_comm_parts (P++L.take s') (L.drop (s'+1)++Q) L[s'] x k k2 (by rw [l1,HK2.out]) l1.symm,r1]
       simp only [List.append_assoc,List.cons_append]
      rw [e2] at HS
      refine ⟨k2,s',rfl,i8,i9,hide (by have:=HK.out;have:=HK2.out;omega),hide (own_touch (S:=fun _=>False) HS (Touch.refl _ _).drew (fun _ _ f=>f)),hide ?_⟩
      refine Touch.drew ?_
      iterate 6 refine Touch.setCell ?_ (fun _=>(rfl:adBlock (some ⟨g,0,none⟩)=some g)) _
      exact HT2.out
     ·simp [intOf]
      have:=HK2.out
      omega
    ·have hk':k=j:=by omega
     subst hk'
     go_wp2
     have hst:s=t:=by have:=HK.out;have:=HTT.out;omega
     subst hst
     obtain ⟨i1,i2⟩:=HI.out
     have ht:=HTT.out
     have hA:=HA.out
     have hM:=HM.out
     have hTL:=HTL.out
     have eX:X=P++(L++(x :: Q)):=HE.out
     have hc:∀ p∈L.take s,m_ple p x:=by
      intro p hp
      obtain ⟨q,q1,q2,rfl⟩:=m_mem_take_at hp
      rcases i1 with e | e
      ·omega
      ·rw [eX,m_getD_seg P L (x :: Q) (k-1) (s-1) (by omega) (by omega)] at e
       exact m_ple_trans (m_srt_at HL.out (by omega) (by omega)) (show m_ple (L.getD (s-1) MRow.zero) x from e)
     have hd:∀ r∈L.drop s,m_plt x r=true:=by
      intro r hr
      obtain ⟨q,q1,q2,rfl⟩:=m_mem_drop_at hr
      rcases i2 with e | e
      ·omega
      ·rw [eX,m_getD_seg P L (x :: Q) k s (by omega) (by omega)] at e
       exact m_plt_ple e (m_srt_at HL.out q1 q2)
     refine bodyPost_ret (v:=.tuple #[]) (by simp [results,Tryz.results179,go_sem]) rfl ⟨rfl,⟨L.take s++(x :: L.drop s),?_,?_,?_⟩,HT2.out⟩
     ·have:=HO2.out
      simpa using this
     ·refine m_srt_app (m_srt_take HL.out s) (List.pairwise_cons.2 ⟨fun r hr=>m_ple_of_plt (hd r hr),m_srt_drop HL.out s⟩) ?_
      intro p hp r hr
      rcases List.mem_cons.1 hr with rfl | hr
      ·exact hc p hp
      ·exact m_ple_trans (hc p hp) (m_ple_of_plt (hd r hr))
     ·have k1:m_SameK (L.drop s++[x]) ([x]++L.drop s):=m_SameK.swap fun p hp r hr he=>by
       simp only [List.mem_singleton] at hr
       subst hr
       exact m_plt_ne (hd p hp) he.symm
      have k2:=(m_SameK.refl (L.take s)).app k1
      have e1:L.take s++(L.drop s++[x])=L++[x]:=by rw [← List.append_assoc,List.take_append_drop]
      rw [e1] at k2
      simpa using k2
def m_SmPost (w:World) (A:Option Addr) (n c:Nat) (P Y Q:List MRow) (e:Ending) (w':World):Prop :=
 e=.returned (.tuple #[])∧(∃ Z,MOwn w' A n c (P++(Z++Q))∧m_SrtP Z∧m_SameK Y Z)∧Touch (fun g=>adBlock A=some g) w w'
def m_SmC (A:Option Addr) (n c fuel:Nat):Prop:=∀ (w:World) (P L R Q:List MRow) (a m b:Nat),MOwn w A n c (P++(L++(R++Q)))→a=P.length→m=a+L.length→b=m+R.length→0<L.length→0<R.length→m_SrtP L→m_SrtP R→L.length+R.length≤fuel →
 Calls Tryz.prog 179 #[.slice A n c,.int .i64 a,.int .i64 m,.int .i64 b,m_cmpF] w (m_SmPost w A n c P (L++R) Q)
theorem m_sm_main (A:Option Addr) (n c fuel:Nat) (hn62:n≤5864062014700) (ih:m_SmC A n c fuel) (w:World) (P L R Q:List MRow) (a m b:Nat) (h:MOwn w A n c (P++(L++(R++Q)))) (ha:a=P.length) (hm:m=a+L.length) (hb:b=m+R.length)
  (hL1:1<L.length) (hR1:1<R.length) (hL:m_SrtP L) (hR:m_SrtP R) (hf:L.length+R.length≤fuel+1) :
  Calls Tryz.prog 179 #[.slice A n c,.int .i64 a,.int .i64 m,.int .i64 b,m_cmpF] w (m_SmPost w A n c P (L++R) Q):=by
 have hl:=mown_len h
 simp only [List.length_append] at hl
 obtain ⟨X,hX⟩:∃ X,X=P++(L++(R++Q)):=⟨_,rfl⟩
 rw [← hX] at h
 have hn:=own_le h
 unfold maxLen at hn
 have HX:=hide h
 have HE:=hide hX
 have HA:=hide ha
 have HB:=hide hb
 have HL:=hide hL
 have HR:=hide hR
 have HM:=hide hm
 have HF:=hide hf
 have HIH:=hide ih
 have hbn:b≤n:=by omega
 have ham:a+1<m:=by omega
 have hmb:m+1<b:=by omega
 have x0:((m:Int)-(a:Int) == 1)=false:=by simp;omega
 have x1:((b:Int)-(m:Int) == 1)=false:=by simp;omega
 obtain ⟨mid,hmid⟩:∃ x,x=(a+b) / 2:=⟨_,rfl⟩
 obtain ⟨N,hN⟩:∃ x,x=mid+m:=⟨_,rfl⟩
 obtain ⟨p,hp⟩:∃ x,N=x+1:=⟨N-1,by omega⟩
 have x2:((a:Int)+(b:Int)) / 2=(mid:Int):=by omega
 have x3:(mid:Int)+(m:Int)=(N:Int):=by omega
 have x4:(N:Int)-1=(p:Int):=by omega
 have x5:mid≤n:=by omega
 have x6:N≤n+n:=by omega
 have x7:p≤n+n:=by omega
 obtain ⟨lo,hi,hlohi⟩:∃ lo hi:Nat,(mid<m∧lo+b=N∧hi=mid)∨(¬ mid<m∧lo=a∧hi=m):=by
  by_cases hmm:mid<m
  ·exact ⟨N-b,mid,.inl ⟨hmm,by omega,rfl⟩⟩
  ·exact ⟨a,m,.inr ⟨hmm,rfl,rfl⟩⟩
 have y1:a≤lo∧lo≤hi∧hi≤m∧hi≤n:=by omega
 have y2:∀ k,lo≤k→k<hi→a≤k∧k<m∧m≤p-k∧p-k<b∧k≤p:=by intro k h1 h2;omega
 have HLH:=hide hlohi
 have HY1:=hide y1
 have HY2:=hide y2
 have HMID:=hide (And.intro hmid (And.intro hN hp))
 clear h hX ha hb hl hL hR hm hf ih hmid hN hp hL1 hR1 hlohi y1 y2
 go_enter Tryz.func179,Tryz.ntmps179
 go_upto_if 140 with fail
 go_cut [20,21] from 138 to 146 (fun s r wx=>s=.int .i64 (lo:Int)∧r=.int .i64 (hi:Int)∧wx=w)
 case first =>
  rcases HLH.out with ⟨h1,h2,h3⟩ | ⟨h1,h2,h3⟩
  ·have z1:(N:Int)-(b:Int)=(lo:Int):=by omega
   have z2:(mid:Int)<(m:Int):=by omega
   have z3:lo≤n:=by omega
   have H3:=hide h3
   clear h2 h3
   go_wp2
   go_meet
   exact ⟨rfl,by rw [H3.out],rfl⟩
  ·have H23:=hide (And.intro h2 h3)
   have z2:¬ (mid:Int)<(m:Int):=by omega
   clear h2 h3
   go_wp2
   go_meet
   exact ⟨by rw [H23.out.1],by rw [H23.out.2],rfl⟩
 case rest =>
  obtain ⟨rfl,rfl,hcw⟩:=hcut
  obtain rfl:=hcw.symm
  clear hcw
  go_wp2
  go_loopw [20,21] (fun sv rv wr=>∃ s r:Nat,sv=.int .i64 s∧rv=.int .i64 r∧lo≤s∧s≤r∧r≤hi∧Hid (MOwn wr A n c X)∧Hid ((s=lo∨m_plt (X.getD (p-(s-1)) MRow.zero) (X.getD (s-1) MRow.zero)=false)∧(r=hi∨m_plt (X.getD (p-r) MRow.zero) (X.getD r MRow.zero)=true))∧Hid (Touch (fun _=>False) w wr)) (fun sv rv _=>(intOf rv).toNat-(intOf sv).toNat)
  case atStart=>exact ⟨lo,hi,rfl,rfl,Nat.le_refl _,HY1.out.2.1,Nat.le_refl _,HX,hide ⟨.inl rfl,.inl rfl⟩,hide (Touch.refl _ _)⟩
  case round =>
   obtain ⟨s,r,rfl,rfl,hls,hsr,hrh,HO,HI,HT⟩:=hrel
   by_cases h0:s<r
   ·have y0:(s:Int)<(r:Int):=by omega
    obtain ⟨k,hk⟩:∃ k,k=(s+r) / 2:=⟨_,rfl⟩
    have hy2:=HY2.out k (by omega) (by omega)
    have hy1:=HY1.out
    obtain ⟨u,hu⟩:∃ u,p=u+k:=⟨p-k,by omega⟩
    have hpk:p-k=u:=by omega
    have z1:((s:Int)+(r:Int)) / 2=(k:Int):=by omega
    have z2:k<n:=by omega
    have z3:(k:Int)<(n:Int):=by omega
    have z4:u<n:=by omega
    have z5:(u:Int)<(n:Int):=by omega
    have z6:(p:Int)-(k:Int)=(u:Int):=by omega
    have z7:IntKind.i64.wrap (k:Int)=(k:Int):=IntWalk.i64_in _ (by omega)
    have z8:IntKind.i64.wrap (u:Int)=(u:Int):=IntWalk.i64_in _ (by omega)
    have z9:s≤k:=by omega
    have z10:k<r:=by omega
    have z11:s≤n:=by omega
    have z12:r≤n:=by omega
    have hl:=mown_len HO.out
    obtain ⟨g,hA0,hg,a0,a1,a2,f0,f1,f2⟩:=mown_at HO.out hl k z2
    subst hA0
    obtain ⟨g',hA,_,b0,b1,b2,f3,f4,f5⟩:=mown_at HO.out hl u z4
    injection hA with hA
    injection hA with hA _
    subst hA
    obtain ⟨⟨zw,zn,zd⟩,hz⟩:∃ r,r=X.getD k MRow.zero:=⟨_,rfl⟩
    rw [← hz] at a0 a1 a2
    obtain ⟨⟨xw,xn,xd⟩,hx⟩:∃ r,r=X.getD u MRow.zero:=⟨_,rfl⟩
    rw [← hx] at b0 b1 b2
    have EZ:=hide hz
    have EX:=hide hx
    have HPK:=hide hpk
    simp only at a0 a1 a2 b0 b1 b2
    clear hl hz hx hk hpk hu hy2 hy1
    cases hb:m_plt ⟨xw,xn,xd⟩ ⟨zw,zn,zd⟩ with
    | true =>
     have HPB:=hide hb
     clear hb
     go_wp2_with fail
     go_still_tail 11,(by kernel_rfl)
     change wpList _ _ _ _ _ wr.drew
     have HD:Hid (Touch (fun _=>False) wr wr.drew):=hide (Touch.refl _ _).drew
     generalize wr.drew=wd at HD ⊢
     go_wp2_with (go_at_call 105;refine (m_cmp_any ⟨xw,xn,xd⟩ ⟨zw,zn,zd⟩ wd).mono ?_;rw [HPB.out];rintro e w2 ⟨⟨z,rfl,hz⟩,T2⟩;have HT2:=hide (HT.out.then (HD.out.then T2));have HO2:=hide (own_touch HO.out (HD.out.then T2) (fun _ _ f=>f));clear T2)
     go_roundw
     ·refine ⟨s,k,rfl,rfl,hls,z9,by omega,HO2,hide ⟨HI.out.1,.inr ?_⟩,HT2⟩
      rw [HPK.out,← EZ.out,← EX.out]
      exact HPB.out
     ·show (k:Int).toNat-(s:Int).toNat<(r:Int).toNat-(s:Int).toNat
      omega
    | false =>
     have HPB:=hide hb
     clear hb
     go_wp2_with fail
     go_still_tail 11,(by kernel_rfl)
     change wpList _ _ _ _ _ wr.drew
     have HD:Hid (Touch (fun _=>False) wr wr.drew):=hide (Touch.refl _ _).drew
     generalize wr.drew=wd at HD ⊢
     go_wp2_with (go_at_call 105;refine (m_cmp_any ⟨xw,xn,xd⟩ ⟨zw,zn,zd⟩ wd).mono ?_;rw [HPB.out];rintro e w2 ⟨⟨z,rfl,hz⟩,T2⟩;have HT2:=hide (HT.out.then (HD.out.then T2));have HO2:=hide (own_touch HO.out (HD.out.then T2) (fun _ _ f=>f));clear T2)
     go_roundw
     ·refine ⟨k+1,r,by simp,rfl,by omega,by omega,hrh,HO2,hide ⟨.inr ?_,HI.out.2⟩,HT2⟩
      rw [Nat.add_sub_cancel,HPK.out,← EZ.out,← EX.out]
      exact HPB.out
     ·show (r:Int).toNat-((k:Int)+1).toNat<(r:Int).toNat-(s:Int).toNat
      omega
   ·have hsr':r=s:=by omega
    subst hsr'
    obtain ⟨e,he⟩:∃ e,N=e+r:=⟨N-r,by have:=HMID.out;have:=HY1.out;have:=HLH.out;omega⟩
    obtain ⟨i1,i2⟩:=HI.out
    have hmid:=HMID.out
    have hy1:=HY1.out
    have hlh:=HLH.out
    have hA:=HA.out
    have hM:=HM.out
    have hB:=HB.out
    have eb:a≤r∧r≤m∧m≤e∧e≤b∧r≤mid∧mid≤e:=by omega
    obtain ⟨L1,L2,eL,l1,l2⟩:=m_split_at (l:=L) (k:=r-a) (by omega)
    obtain ⟨R1,R2,eR,r1,r2⟩:=m_split_at (l:=R) (k:=e-m) (by omega)
    have hc:=m_cut_parts HL.out HR.out (r-a) (e-m) (by omega) (by omega) (by
     rcases i1 with q | q
     ·rcases hlh with ⟨h1,h2,h3⟩ | ⟨h1,h2,h3⟩
      ·exact .inr (.inl (by omega))
      ·exact .inl (by omega)
     ·by_cases q0:r=a
      ·exact .inl (by omega)
      ·by_cases q1:e=b
       ·exact .inr (.inl (by omega))
       ·refine .inr (.inr ?_)
        rw [HE.out,show P++(L++(R++Q))=(P++L)++(R++Q) by simp,m_getD_seg (P++L) R Q (p-(r-1)) (e-m) (by rw [List.length_append];omega) (by omega),show (P++L)++(R++Q)=P++(L++(R++Q)) by simp,m_getD_seg P L (R++Q) (r-1) (r-a-1) (by omega) (by omega)] at q
        exact q) (by
     rcases i2 with q | q
     ·rcases hlh with ⟨h1,h2,h3⟩ | ⟨h1,h2,h3⟩
      ·exact .inr (.inl (by omega))
      ·exact .inl (by omega)
     ·by_cases q0:r=m
      ·exact .inl (by omega)
      ·by_cases q1:e=m
       ·exact .inr (.inl (by omega))
       ·refine .inr (.inr ?_)
        rw [HE.out,show P++(L++(R++Q))=(P++L)++(R++Q) by simp,m_getD_seg (P++L) R Q (p-r) (e-m-1) (by rw [List.length_append];omega) (by omega),show (P++L)++(R++Q)=P++(L++(R++Q)) by simp,m_getD_seg P L (R++Q) r (r-a) (by omega) (by omega)] at q
        exact q)
    have t1:L.take (r-a)=L1:=by rw [eL,← l1,List.take_left]
    have t2:L.drop (r-a)=L2:=by rw [eL,← l1,List.drop_left]
    have t3:R.take (e-m)=R1:=by rw [eR,← r1,List.take_left]
    have t4:R.drop (e-m)=R2:=by rw [eR,← r1,List.drop_left]
    rw [t1,t2,t3,t4] at hc
    have HC:=hide hc
    have HLL:=hide eL
    have HRR:=hide eR
    have HLEN:=hide (And.intro l1 (And.intro l2 (And.intro r1 r2)))
    have HEB:=hide eb
    have u1:(N:Int)-(r:Int)=(e:Int):=by omega
    have u2:e≤n:=by omega
    have u3:r≤n:=by omega
    have u4:IntKind.i64.wrap (e:Int)=(e:Int):=IntWalk.i64_in _ (by omega)
    have HEN:=hide he
    have HM2:=hide hmid
    clear i1 i2 hmid hy1 hlh hA hM hB eL eR l1 l2 r1 r2 hc t1 t2 t3 t4 h0 eb he
    obtain ⟨b1,hb1⟩:∃ b1,b1=decide (r<m∧m<e):=⟨_,rfl⟩
    obtain ⟨b2,hb2⟩:∃ b2,b2=decide (a<r∧r<mid):=⟨_,rfl⟩
    obtain ⟨b3,hb3⟩:∃ b3,b3=decide (mid<e∧e<b):=⟨_,rfl⟩
    have HB1:=hide hb1
    have HB2:=hide hb2
    have HB3:=hide hb3
    clear hb1 hb2 hb3
    go_upto_region 39 with fail
    go_cut [24,185] from 174 to 185 (fun sv tv wx=>sv=.int .i64 (e:Int)∧tv=.bool b1∧wx=wr)
    case first =>
     by_cases q1:r<m
     ·have q3:(r:Int)<(m:Int):=by omega
      by_cases q2:m<e
      ·have q4:(m:Int)<(e:Int):=by omega
       go_wp2
       go_meet
       exact ⟨rfl,by rw [HB1.out];simp [q1,q2],rfl⟩
      ·have q4:¬ (m:Int)<(e:Int):=by omega
       go_wp2
       go_meet
       exact ⟨rfl,by rw [HB1.out];simp [q2],rfl⟩
     ·have q3:¬ (r:Int)<(m:Int):=by omega
      go_wp2
      go_meet
      exact ⟨rfl,by rw [HB1.out];simp [q1],rfl⟩
    case rest =>
     obtain ⟨rfl,rfl,hcw⟩:=hcut
     obtain rfl:=hcw.symm
     clear hcw
     go_upto_if 185 with fail
     go_cut [24] from 186 to 191 (fun sv wx=>sv=.int .i64 (e:Int)∧Hid (MOwn wx A n c (P++(L1++(R1++(L2++(R2++Q))))))∧Hid (Touch (fun g=>adBlock A=some g) w wx))
     case first =>
      have hO:=HO.out
      rw [HE.out,HLL.out,HRR.out] at hO
      cases b1 with
      | true =>
       have hb:=of_decide_eq_true HB1.out.symm
       have hO2:MOwn wr A n c ((P++L1)++(L2++(R1++(R2++Q)))):=by simpa using hO
       obtain ⟨l1,l2,r1,r2⟩:=HLEN.out
       have hm:=HM.out
       have ha:=HA.out
       have hbb:=HB.out
       have heb:=HEB.out
       have HRO:=hide (m_rot_any wr A n c (P++L1) L2 R1 (R2++Q) hO2 r m e (by rw [List.length_append];omega) (by omega) (by omega) (by omega) (by omega) m_cmpF)
       clear hO hO2 l1 l2 r1 r2 hm ha hbb heb hb
       go_wp2_with (go_at_call 188;refine HRO.out.mono ?_;rintro e w2 ⟨rfl,O2,T2⟩;have HO2:=hide O2;have HT2:=hide ((HT.out.up _).then T2);clear O2 T2)
       go_meet
       exact ⟨rfl,hide (by simpa using HO2.out),HT2⟩
      | false =>
       have hb:=of_decide_eq_false HB1.out.symm
       have hO2:MOwn wr A n c (P++(L1++(R1++(L2++(R2++Q))))):=by
        obtain ⟨l1,l2,r1,r2⟩:=HLEN.out
        have hm:=HM.out
        have heb:=HEB.out
        by_cases q1:r<m
        ·have e1:R1=[]:=List.eq_nil_of_length_eq_zero (by omega)
         rw [e1] at hO ⊢
         simpa using hO
        ·have e1:L2=[]:=List.eq_nil_of_length_eq_zero (by omega)
         rw [e1] at hO ⊢
         simpa using hO
       have HO2:=hide hO2
       clear hO hO2 hb
       go_wp2
       go_meet
       exact ⟨rfl,HO2,hide (HT.out.up _)⟩
     case rest =>
      obtain ⟨rfl,HO1,HT1⟩:=hcut
      go_upto_region 41 with fail
      go_cut [24,199] from 192 to 199 (fun sv tv wx=>sv=.int .i64 (e:Int)∧tv=.bool b2∧wx=wc)
      case first =>
       by_cases q1:a<r
       ·have q3:(a:Int)<(r:Int):=by omega
        by_cases q2:r<mid
        ·have q4:(r:Int)<(mid:Int):=by omega
         go_wp2
         go_meet
         exact ⟨rfl,by rw [HB2.out];simp [q1,q2],rfl⟩
        ·have q4:¬ (r:Int)<(mid:Int):=by omega
         go_wp2
         go_meet
         exact ⟨rfl,by rw [HB2.out];simp [q2],rfl⟩
       ·have q3:¬ (a:Int)<(r:Int):=by omega
        go_wp2
        go_meet
        exact ⟨rfl,by rw [HB2.out];simp [q1],rfl⟩
      case rest =>
       obtain ⟨rfl,rfl,hcw⟩:=hcut
       obtain rfl:=hcw.symm
       clear hcw
       obtain ⟨w1,hw1⟩:∃ w1,w1=wc:=⟨_,rfl⟩
       subst hw1
       go_upto_if 199 with fail
       go_cut [24] from 200 to 205 (fun sv wx=>sv=.int .i64 (e:Int)∧Hid (∃ Z1,MOwn wx A n c (P++(Z1++(L2++(R2++Q))))∧m_SrtP Z1∧m_SameK (L1++R1) Z1)∧Hid (Touch (fun g=>adBlock A=some g) w wx))
       case first =>
        have hsL:m_SrtP L1:=by have:=HL.out;rw [HLL.out] at this;exact (List.pairwise_append.1 this).1
        have hsR:m_SrtP R1:=by have:=HR.out;rw [HRR.out] at this;exact (List.pairwise_append.1 this).1
        obtain ⟨l1,l2,r1,r2⟩:=HLEN.out
        have hm:=HM.out
        have ha:=HA.out
        have hbb:=HB.out
        have heb:=HEB.out
        have hff:=HF.out
        have hmi:=HM2.out
        have hen:=HEN.out
        cases b2 with
        | true =>
         have hb:=of_decide_eq_true HB2.out.symm
         have HRO:=hide (HIH.out w1 P L1 R1 (L2++(R2++Q)) a r mid HO1.out ha (by omega) (by omega) (by omega) (by omega) hsL hsR (by omega))
         clear l1 l2 r1 r2 hm ha hbb heb hb hff hmi hen hsL hsR
         go_wp2_with (go_at_call 179;refine HRO.out.mono ?_;rintro e w2 ⟨rfl,⟨Z1,O2,s1,k1⟩,T2⟩;have HO2:=hide O2;have HK2:=hide (And.intro s1 k1);have HT2:=hide (HT1.out.then T2);clear O2 T2 s1 k1)
         go_meet
         exact ⟨rfl,hide ⟨Z1,HO2.out,HK2.out.1,HK2.out.2⟩,HT2⟩
        | false =>
         have hb:=of_decide_eq_false HB2.out.symm
         have hs:m_SrtP (L1++R1):=by
          by_cases q1:a<r
          ·have e1:R1=[]:=List.eq_nil_of_length_eq_zero (by omega)
           rw [e1];simpa using hsL
          ·have e1:L1=[]:=List.eq_nil_of_length_eq_zero (by omega)
           rw [e1];simpa using hsR
         have HZ:=hide (Exists.intro (p:=fun Z1=>MOwn w1 A n c (P++(Z1++(L2++(R2++Q))))∧m_SrtP Z1∧m_SameK (L1++R1) Z1) (L1++R1) (And.intro (by simpa using HO1.out) (And.intro hs (m_SameK.refl _))))
         clear l1 l2 r1 r2 hm ha hbb heb hb hff hmi hen hsL hsR hs
         go_wp2
         go_meet
         exact ⟨rfl,HZ,HT1⟩
       case rest =>
        obtain ⟨rfl,HZ1,HT2⟩:=hcut
        obtain ⟨Z1,O2,s1,k1⟩:=HZ1.out
        have hl1:=mown_len O2
        have hl2:=mown_len HO1.out
        simp only [List.length_append] at hl1 hl2
        have hsL:m_SrtP L2:=by have:=HL.out;rw [HLL.out] at this;exact (List.pairwise_append.1 this).2.1
        have hsR:m_SrtP R2:=by have:=HR.out;rw [HRR.out] at this;exact (List.pairwise_append.1 this).2.1
        have hLs:=HL.out
        have hRs:=HR.out
        rw [HLL.out] at hLs
        rw [HRR.out] at hRs
        obtain ⟨l1,l2,r1,r2⟩:=HLEN.out
        have hm:=HM.out
        have ha:=HA.out
        have hbb:=HB.out
        have heb:=HEB.out
        have hff:=HF.out
        have hmi:=HM2.out
        have hen:=HEN.out
        have hO2':MOwn wc A n c ((P++Z1)++(L2++(R2++Q))):=by simpa using O2
        have FIN:=hide (fun (Z2:List MRow) (s2:m_SrtP Z2) (k2:m_SameK (L2++R2) Z2)=>m_merge_parts (L1:=L1) (L2:=L2) (R1:=R1) (R2:=R2) (Z1:=Z1) (Z2:=Z2) hLs hRs HC.out.1 HC.out.2 s1 k1 s2 k2)
        have HO3:=hide O2
        by_cases q1:mid<e∧e<b
        ·obtain ⟨q1,q2⟩:=q1
         have q3:(mid:Int)<(e:Int):=by omega
         have q4:(e:Int)<(b:Int):=by omega
         have HRO:=hide (HIH.out wc (P++Z1) L2 R2 Q mid e b hO2' (by rw [List.length_append];omega) (by omega) (by omega) (by omega) (by omega) hsL hsR (by omega))
         clear l1 l2 r1 r2 hm ha hbb heb hff hmi hen hsL hsR hO2' hl1 hl2 hLs hRs O2 s1 k1
         go_wp2_with (go_at_call 179;refine HRO.out.mono ?_;rintro e w2 ⟨rfl,⟨Z2,O2,s2,k2⟩,T2⟩;have HO4:=hide O2;have HK2:=hide (And.intro s2 k2);have HT3:=hide (HT2.out.then T2);clear O2 T2 s2 k2)
         go_end0
         obtain ⟨f1,f2⟩:=FIN.out Z2 HK2.out.1 HK2.out.2
         rw [← HLL.out,← HRR.out] at f2
         exact ⟨rfl,⟨Z1++Z2,by simpa using HO4.out,f1,f2⟩,HT3.out⟩
        ·have hs:m_SrtP (L2++R2):=by
          by_cases q2:mid<e
          ·have e1:R2=[]:=List.eq_nil_of_length_eq_zero (by omega)
           rw [e1];simpa using hsL
          ·have e1:L2=[]:=List.eq_nil_of_length_eq_zero (by omega)
           rw [e1];simpa using hsR
         obtain ⟨f1,f2⟩:=FIN.out (L2++R2) hs (m_SameK.refl _)
         rw [← HLL.out,← HRR.out] at f2
         have HFF:=hide (And.intro f1 f2)
         have hq:(¬ (mid:Int)<(e:Int))∨((mid:Int)<(e:Int)∧¬ (e:Int)<(b:Int)):=by omega
         clear l1 l2 r1 r2 hm ha hbb heb hff hmi hen hsL hsR hO2' hl1 hl2 hLs hRs O2 s1 k1 hs f1 f2 q1
         rcases hq with q1 | ⟨q1,q2⟩
         all_goals
          go_wp2
          go_end0
          exact ⟨rfl,⟨Z1++(L2++R2),by simpa using HO3.out,HFF.out.1,HFF.out.2⟩,HT2.out⟩
theorem m_sm_any (A:Option Addr) (n c:Nat) (hn62:n≤5864062014700):∀ fuel,m_SmC A n c fuel:=by
 intro fuel
 induction fuel with
 | zero=>intro w P L R Q a m b _ _ _ _ h1 _ _ _ hf;omega
 | succ fuel ih =>
  intro w P L R Q a m b h ha hm hb hL0 hR0 hL hR hf
  by_cases h1:L.length=1
  ·obtain ⟨x,rfl⟩:=List.length_eq_one_iff.1 h1
   exact (m_sm_one w A n c P R Q x (by simpa using h) a m b ha (by simpa using hm) hb hR hn62).mono fun e w' hh=>by simpa [m_SmPost] using hh
  ·by_cases h2:R.length=1
   ·obtain ⟨x,rfl⟩:=List.length_eq_one_iff.1 h2
    exact (m_sm_last w A n c P L Q x (by simpa using h) a m b ha hm (by simpa using hb) h1 hL hn62).mono fun e w' hh=>by simpa [m_SmPost] using hh
   ·exact m_sm_main A n c fuel hn62 ih w P L R Q a m b h ha hm hb (by omega) (by omega) hL hR hf
def m_Bl (bs:Nat) (Bs:List (List MRow)):Prop:=∀ B∈Bs,B.length=bs∧m_SrtP B
theorem m_bl_len {bs:Nat} {Bs:List (List MRow)} (h:m_Bl bs Bs):Bs.flatten.length=Bs.length*bs:=by
 induction Bs with
 | nil=>simp
 | cons B Bs ih =>
  have h1:=(h B (by simp)).1
  have h2:=ih (fun C hC=>h C (by simp [hC]))
  simp only [List.flatten_cons,List.length_append,List.length_cons,h1,h2,Nat.succ_mul]
  omega
theorem m_bl_snoc {bs:Nat} {Bs:List (List MRow)} {Z:List MRow} (h:m_Bl bs Bs) (hZ:Z.length=bs) (hs:m_SrtP Z):m_Bl bs (Bs++[Z]):=by
 intro B hB
 rcases List.mem_append.1 hB with hB | hB
 ·exact h B hB
 ·simp at hB;subst hB;exact ⟨hZ,hs⟩
theorem m_flatten_snoc (Bs:List (List MRow)) (Z:List MRow):(Bs++[Z]).flatten=Bs.flatten++Z:=by simp
theorem m_bl_cases {bs:Nat} {Bs:List (List MRow)} (h:m_Bl bs Bs):(Bs=[]∧Bs.flatten.length=0)∨(∃ B,Bs=[B]∧Bs.flatten.length=bs∧B.length=bs∧m_SrtP B)∨∃ B1 B2 Bs',Bs=B1 :: B2 :: Bs'∧2*bs≤Bs.flatten.length:=by
 have hl:=m_bl_len h
 rcases Bs with _ | ⟨B1,_ | ⟨B2,Bs'⟩⟩
 ·exact .inl ⟨rfl,rfl⟩
 ·refine .inr (.inl ⟨B1,rfl,?_,h B1 (by simp)⟩)
  rw [hl];exact Nat.one_mul bs
 ·refine .inr (.inr ⟨B1,B2,Bs',rfl,?_⟩)
  rw [hl]
  exact Nat.mul_le_mul_right bs (by simp)
def m_SoPost (w:World) (A:Option Addr) (n c:Nat) (X:List MRow) (e:Ending) (w':World):Prop :=
 e=.returned (.tuple #[])∧(∃ Z,MOwn w' A n c Z∧m_SrtP Z∧m_SameK X Z)∧Touch (fun g=>adBlock A=some g) w w'
theorem m_stable_any (w:World) (A:Option Addr) (n c:Nat) (X:List MRow) (h:MOwn w A n c X) (hn62:n≤5864062014700) :
  Calls Tryz.prog 152 #[.slice A n c,.int .i64 n,m_cmpF] w (m_SoPost w A n c X):=by
 have HX:=hide h
 clear h
 go_enter Tryz.func152,Tryz.ntmps152
 go_wp2
 go_loopw [7,8] (fun av bv wr=>∃ a b:Nat,av=.int .i64 a∧bv=.int .i64 b∧b=a+20∧a≤n∧Hid (∃ Bs T,m_Bl 20 Bs∧Bs.flatten.length=a∧MOwn wr A n c (Bs.flatten++T)∧m_SameK X (Bs.flatten++T))∧Hid (Touch (fun g=>adBlock A=some g) w wr)) (fun _ bv _=>n+21-(intOf bv).toNat)
 case atStart=>exact ⟨0,20,rfl,rfl,rfl,Nat.zero_le _,hide ⟨[],X,(fun B hB=>by cases hB),rfl,HX.out,m_SameK.refl _⟩,hide (Touch.refl _ _)⟩
 case round =>
  obtain ⟨a,b,rfl,rfl,hab,han,HE,HT⟩:=hrel
  by_cases h0:b≤n
  ·have y0:(b:Int)≤(n:Int):=by omega
   obtain ⟨Bs,T,hB,hl,O1,K1⟩:=HE.out
   have hlen:=mown_len O1
   rw [List.length_append] at hlen
   obtain ⟨B,T',rfl,t1,t2⟩:=m_split_at (l:=T) (k:=20) (by omega)
   obtain ⟨Z,z1,z2,z3⟩:=m_ins_whole Bs.flatten B T' a b hl.symm (by omega)
   have HZ:=hide (And.intro z1 (And.intro z2 z3))
   have HBB:=hide hB
   have HL:=hide (And.intro hl (And.intro t1 hab))
   have HK:=hide K1
   have hab':a≤b:=by omega
   have HIS:=hide (m_isort_any wr A n c _ O1 a b hab' h0 (by omega))
   clear hB hl O1 K1 hlen t1 t2 z1 z2 z3 HE
   obtain ⟨b2,hb2⟩:∃ b2,b2=b+20:=⟨_,rfl⟩
   have y1:(b:Int)+20=(b2:Int):=by omega
   have y2:IntKind.i64.wrap (b2:Int)=(b2:Int):=IntWalk.i64_in _ (by omega)
   have HB2:=hide hb2
   clear hb2 hab
   go_wp2_with (go_at_call 178;refine HIS.out.mono ?_;rintro e w2 ⟨rfl,O2,T2⟩;have HO2:=hide O2;have HT2:=hide (HT.out.then T2);clear O2 T2)
   go_roundw
   ·obtain ⟨hl,t1,hab⟩:=HL.out
    obtain ⟨z1,z2,z3⟩:=HZ.out
    have O3:=HO2.out
    rw [z1] at O3
    have lz:Z.length=20:=by
     have h1:=mown_len O3
     have h2:=congrArg List.length z1
     rw [m_insF_len] at h2
     simp only [List.length_append] at h1 h2
     omega
    refine ⟨b,b2,rfl,rfl,HB2.out,h0,hide ⟨Bs++[Z],T',m_bl_snoc HBB.out lz z2,by rw [m_flatten_snoc,List.length_append];omega,by rw [m_flatten_snoc];simpa using O3,?_⟩,HT2⟩
    rw [m_flatten_snoc]
    refine HK.out.trans ?_
    have:=(m_SameK.refl Bs.flatten).app (z3.app (m_SameK.refl T'))
    simpa using this
   ·simp [intOf]
    have:=HB2.out
    omega
  ·obtain ⟨Bs,T,hB,hl,O1,K1⟩:=HE.out
   have hlen:=mown_len O1
   rw [List.length_append] at hlen
   obtain ⟨Z,z1,z2,z3⟩:=m_ins_whole Bs.flatten T [] a n hl.symm (by omega)
   rw [List.append_nil,List.append_nil] at z1
   have HIS:=hide (m_isort_any wr A n c _ O1 a n han (Nat.le_refl _) (by omega))
   have HZ:=hide (And.intro z1 (And.intro z2 z3))
   have HBB:=hide hB
   have HK:=hide K1
   have HL:=hide (And.intro hl (And.intro hlen hab))
   have y0:¬ (b:Int)≤(n:Int):=by omega
   clear hB hl O1 K1 hlen z1 z2 z3 HE hab h0
   go_wp2_with (go_at_call 178;refine HIS.out.mono ?_;rintro e w2 ⟨rfl,O2,T2⟩;have HO2:=hide O2;have HT2:=hide (HT.out.then T2);clear O2 T2)
   have HS:Hid (∃ Bs T,m_Bl 20 Bs∧m_SrtP T∧T.length<20∧MOwn w2 A n c (Bs.flatten++T)∧m_SameK X (Bs.flatten++T)):=hide (by
    obtain ⟨hl,hlen,hab⟩:=HL.out
    obtain ⟨z1,z2,z3⟩:=HZ.out
    have O3:=HO2.out
    rw [z1] at O3
    have h1:=mown_len O3
    have h2:=congrArg List.length z1
    rw [m_insF_len] at h2
    simp only [List.length_append] at h1 h2
    exact ⟨Bs,Z,HBB.out,z2,by omega,O3,HK.out.trans ((m_SameK.refl _).app z3)⟩)
   clear HIS HZ HBB HK HL HO2 HT
   obtain ⟨w0,hw0⟩:∃ w0,w0=w2:=⟨_,rfl⟩
   rw [← hw0] at HS HT2 ⊢
   clear hw0
   go_loopw [6] (fun sv wr=>∃ bs:Nat,sv=.int .i64 bs∧0<bs∧bs≤n+n+20∧Hid (∃ Bs T,m_Bl bs Bs∧m_SrtP T∧T.length<bs∧MOwn wr A n c (Bs.flatten++T)∧m_SameK X (Bs.flatten++T))∧Hid (Touch (fun g=>adBlock A=some g) w wr)) (fun sv _=>n-(intOf sv).toNat)
   case atStart=>exact ⟨20,rfl,by omega,by omega,HS,HT2⟩
   case round =>
    obtain ⟨bs,rfl,hbs,hbs2,HE,HT3⟩:=hrel
    by_cases h1:bs<n
    ·have x0:(bs:Int)<(n:Int):=by omega
     obtain ⟨d,hd⟩:∃ d,d=2*bs:=⟨_,rfl⟩
     have x1:(2:Int)*(bs:Int)=(d:Int):=by omega
     have x2:(bs:Int)*2=(d:Int):=by omega
     have x3:IntKind.i64.wrap (d:Int)=(d:Int):=IntWalk.i64_in _ (by omega)
     have HD:=hide hd
     have hd2:d≤n+n:=by omega
     clear hd
     go_wp2
     obtain ⟨wo,rfl⟩:∃ wo:World,wo=wr:=⟨_,rfl⟩
     go_loopw [7,8] (fun av bv wr=>∃ a b:Nat,av=.int .i64 a∧bv=.int .i64 b∧b=a+d∧a≤n∧Hid (∃ Ds Bs T,m_Bl d Ds∧Ds.flatten.length=a∧m_Bl bs Bs∧m_SrtP T∧T.length<bs∧MOwn wr A n c (Ds.flatten++(Bs.flatten++T))∧m_SameK X (Ds.flatten++(Bs.flatten++T)))∧Hid (Touch (fun g=>adBlock A=some g) w wr)) (fun av _ _=>n+1-(intOf av).toNat)
     case atStart =>
      obtain ⟨Bs,T,q1,q2,q3,q4,q5⟩:=HE.out
      exact ⟨0,d,rfl,rfl,by omega,Nat.zero_le _,hide ⟨[],Bs,T,(fun B hB=>by cases hB),rfl,q1,q2,q3,q4,q5⟩,HT3⟩
     case round =>
      obtain ⟨a,b,rfl,rfl,hab,han,HE2,HT4⟩:=hrel
      obtain ⟨Ds,Bs,T,q1,q2,q3,q4,q5,q6,q7⟩:=HE2.out
      have hlen:=mown_len q6
      have hbl:=m_bl_len q3
      simp only [List.length_append] at hlen
      have hdd:=HD.out
      obtain ⟨m,hm⟩:∃ m,m=a+bs:=⟨_,rfl⟩
      have w0:(a:Int)+(bs:Int)=(m:Int):=by omega
      have w1:IntKind.i64.wrap (m:Int)=(m:Int):=IntWalk.i64_in _ (by omega)
      by_cases h2:b≤n
      ·have y0:(b:Int)≤(n:Int):=by omega
       have hB2:∃ B1 B2 Bs',Bs=B1 :: B2 :: Bs':=by
        rcases m_bl_cases q3 with ⟨_,e⟩ | ⟨B,_,e,_⟩ | ⟨B1,B2,Bs',e,_⟩
        ·omega
        ·omega
        ·exact ⟨B1,B2,Bs',e⟩
       obtain ⟨B1,B2,Bs',rfl⟩:=hB2
       obtain ⟨c1,s1⟩:=q3 B1 (by simp)
       obtain ⟨c2,s2⟩:=q3 B2 (by simp)
       have q3':m_Bl bs Bs':=fun B hB=>q3 B (by simp [hB])
       have e1:Ds.flatten++((B1 :: B2 :: Bs').flatten++T)=Ds.flatten++(B1++(B2++(Bs'.flatten++T))):=by simp
       rw [e1] at q6 q7
       have HSM:=hide (m_sm_any A n c hn62 _ wr Ds.flatten B1 B2 (Bs'.flatten++T) a m b q6 q2.symm (by omega) (by omega) (by omega) (by omega) s1 s2 (Nat.le_refl _))
       have HK:=hide q7
       have HP:=hide (And.intro q1 (And.intro q2 (And.intro q3' (And.intro q4 q5))))
       have HC:=hide (And.intro c1 (And.intro c2 (And.intro hlen hab)))
       obtain ⟨b2,hb2⟩:∃ b2,b2=b+d:=⟨_,rfl⟩
       have y1:(b:Int)+(d:Int)=(b2:Int):=by omega
       have y2:IntKind.i64.wrap (b2:Int)=(b2:Int):=IntWalk.i64_in _ (by omega)
       have HB2:=hide hb2
       have hab3:a<b:=by omega
       clear q1 q2 q3 q4 q5 q6 q7 hlen hbl hdd hm e1 c1 c2 s1 s2 q3' HE2 hb2 hab
       go_wp2_with (go_at_call 179;refine HSM.out.mono ?_;rintro e w2 ⟨rfl,⟨Z,O2,s2,k2⟩,T2⟩;have HO2:=hide O2;have HK2:=hide (And.intro s2 k2);have HT5:=hide (HT4.out.then T2);clear O2 T2 s2 k2)
       go_roundw
       ·obtain ⟨q1,q2,q3',q4,q5⟩:=HP.out
        obtain ⟨c1,c2,hlen,hab⟩:=HC.out
        have hl2:=mown_len HO2.out
        have hdd:=HD.out
        simp only [List.length_append,List.flatten_cons] at hlen hl2
        have lz:Z.length=d:=by omega
        refine ⟨b,b2,rfl,rfl,HB2.out,h2,hide ⟨Ds++[Z],Bs',T,m_bl_snoc q1 lz HK2.out.1,by rw [m_flatten_snoc,List.length_append];omega,q3',q4,q5,by rw [m_flatten_snoc];simpa using HO2.out,?_⟩,HT5⟩
        rw [m_flatten_snoc]
        refine HK.out.trans ?_
        have:=(m_SameK.refl Ds.flatten).app (HK2.out.2.app (m_SameK.refl (Bs'.flatten++T)))
        simpa using this
       ·simp [intOf]
        omega
      ·have y0:¬ (b:Int)≤(n:Int):=by omega
       have hB2:(Bs=[]∧Bs.flatten.length=0)∨∃ B,Bs=[B]∧Bs.flatten.length=bs∧B.length=bs∧m_SrtP B:=by
        rcases m_bl_cases q3 with e | e | ⟨B1,B2,Bs',_,e⟩
        ·exact .inl e
        ·exact .inr e
        ·omega
       by_cases h3:m<n
       ·have y1:(m:Int)<(n:Int):=by omega
        have hB3:∃ B,Bs=[B]∧Bs.flatten.length=bs∧B.length=bs∧m_SrtP B:=by
         rcases hB2 with ⟨_,e⟩ | e
         ·omega
         ·exact e
        obtain ⟨B,rfl,c0,c1,s1⟩:=hB3
        have e1:Ds.flatten++([B].flatten++T)=Ds.flatten++(B++(T++[])):=by simp
        rw [e1] at q6 q7
        have HSM:=hide (m_sm_any A n c hn62 _ wr Ds.flatten B T [] a m n q6 q2.symm (by omega) (by omega) (by omega) (by omega) s1 q4 (Nat.le_refl _))
        have HK:=hide q7
        have HP:=hide (And.intro q1 (And.intro q2 hab))
        clear q1 q2 q3 q4 q5 q6 q7 hlen hbl hdd hm e1 c0 c1 s1 HE2 hab h3 hB2
        go_wp2_with (go_at_call 179;refine HSM.out.mono ?_;rintro e w2 ⟨rfl,⟨Z,O2,s2,k2⟩,T2⟩;have HO2:=hide O2;have HK2:=hide (And.intro s2 k2);have HT5:=hide (HT4.out.then T2);clear O2 T2 s2 k2)
        go_roundw
        ·obtain ⟨q1,q2,hab⟩:=HP.out
         have hl2:=mown_len HO2.out
         have hdd:=HD.out
         simp only [List.length_append,List.length_nil] at hl2
         refine ⟨d,rfl,by omega,by omega,hide ⟨Ds,Z,q1,HK2.out.1,by omega,by simpa using HO2.out,?_⟩,HT5⟩
         refine HK.out.trans ?_
         have:=(m_SameK.refl Ds.flatten).app (HK2.out.2.app (m_SameK.refl ([]:List MRow)))
         simpa using this
        ·have:=HD.out
         show n-(d:Int).toNat<n-(bs:Int).toNat
         omega
       ·have y1:¬ (m:Int)<(n:Int):=by omega
        have HS2:Hid (∃ Bs T,m_Bl d Bs∧m_SrtP T∧T.length<d∧MOwn wr A n c (Bs.flatten++T)∧m_SameK X (Bs.flatten++T)):=hide (by
         rcases hB2 with ⟨rfl,_⟩ | ⟨B,rfl,c0,c1,s1⟩
         ·simp only [List.flatten_nil,List.nil_append] at q6 q7
          exact ⟨Ds,T,q1,q4,by omega,q6,q7⟩
         ·have e1:T=[]:=List.eq_nil_of_length_eq_zero (by omega)
          subst e1
          simp at q6 q7
          exact ⟨Ds,B,q1,s1,by omega,q6,q7⟩)
        clear q1 q2 q3 q4 q5 q6 q7 hlen hbl hdd hm HE2 hab h3 hB2
        go_wp2
        go_roundw
        ·have hdd:=HD.out
         exact ⟨d,rfl,by omega,by omega,HS2,HT4⟩
        ·have:=HD.out
         show n-(d:Int).toNat<n-(bs:Int).toNat
         omega
    ·have x0:¬ (bs:Int)<(n:Int):=by omega
     obtain ⟨Bs,T,q1,q2,q3,q4,q5⟩:=HE.out
     have hlen:=mown_len q4
     have hbl:=m_bl_len q1
     rw [List.length_append] at hlen
     have hfin:m_SrtP (Bs.flatten++T):=by
      rcases m_bl_cases q1 with ⟨rfl,_⟩ | ⟨B,rfl,c0,c1,s1⟩ | ⟨B1,B2,Bs',_,e⟩
      ·simpa using q2
      ·have e1:T=[]:=List.eq_nil_of_length_eq_zero (by omega)
       subst e1
       simpa using s1
      ·omega
     have HFI:=hide (And.intro q4 (And.intro hfin q5))
     clear q1 q2 q3 q4 q5 hlen hbl hfin HE
     go_wp2
     go_end0
     exact ⟨rfl,⟨_,HFI.out.1,HFI.out.2.1,HFI.out.2.2⟩,HT3.out⟩
theorem m_sortfunc_any (w:World) (A:Option Addr) (n c:Nat) (X:List MRow) (h:MOwn w A n c X) (hn62:n≤5864062014700) :
  Calls Tryz.prog 104 #[.slice A n c,m_cmpF] w (m_SoPost w A n c X):=by
 have HX:=hide (m_stable_any w A n c X h hn62)
 clear h
 go_enter Tryz.func104,Tryz.ntmps104
 go_wp2_with (go_at_call 152;refine HX.out.mono ?_;rintro e w2 ⟨rfl,H2,T2⟩;have HZ:=hide H2;have HT:=hide T2;clear H2 T2)
 go_end0
 exact ⟨rfl,HZ.out,HT.out⟩
end Go.Proofs.YthockgmbooefpaaGreatDoor
