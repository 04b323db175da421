/- What the law rests on, part 1. No condition but those that each theorem names. -/
import Derived.Test.YtbijfoeaemceiaaGreatDoorM00
import Derived.Lib.Strings
import Derived.Lib.Slices
import Derived.Lib.Walk
import Derived.BigRegion
set_option linter.unusedSectionVars false
set_option linter.unusedSimpArgs false
set_option linter.unusedVariables false
namespace Go.Proofs.YtbijfoeaemceiaaGreatDoor
structure MRow where
 word:ByteArray
 weight:Int
 dist:Int
theorem MRow.ext' {a b:MRow} (h1:a.word=b.word) (h2:a.weight=b.weight) (h3:a.dist=b.dist):a=b:=by
 cases a;cases b;simp_all
def MRow.zero:MRow:=⟨ByteArray.empty,0,0⟩
instance:Inhabited MRow:=⟨MRow.zero⟩
def MRow.cells (r:MRow):List Value:=[.string r.word,.int .i64 r.weight,.int .i64 r.dist]
def mCells (l:List MRow):List Value:=l.flatMap MRow.cells
def better (a b:MRow):Bool :=
 if a.dist=b.dist then (if a.weight=b.weight then Op.bytesLess a.word.toList b.word.toList else decide (b.weight<a.weight)) else decide (a.dist<b.dist)
theorem better_irrefl (a:MRow):better a a=false:=by simp [better,bl_irrefl]
theorem better_total (a b:MRow) (h:a≠b):better a b=true∨better b a=true:=by
 unfold better
 by_cases h1:a.dist=b.dist
 ·rw [if_pos h1,if_pos h1.symm]
  by_cases h2:a.weight=b.weight
  ·rw [if_pos h2,if_pos h2.symm]
   exact bl_total _ _ (fun e=>h (MRow.ext' (toList_inj e) h2 h1))
  ·rw [if_neg h2,if_neg (fun e=>h2 e.symm)]
   simp;omega
 ·rw [if_neg h1,if_neg (fun e=>h1 e.symm)]
  simp;omega
theorem better_trans (a b c:MRow) (h:better a b=true) (k:better b c=true):better a c=true:=by
 unfold better at *
 split at h<;>split at k
 ·rename_i h1 k1
  rw [if_pos (h1.trans k1)]
  split at h<;>split at k
  ·rename_i h2 k2
   rw [if_pos (h2.trans k2)]
   exact bl_trans _ _ _ h k
  ·rename_i h2 k2
   rw [if_neg (by omega)]
   simp at k ⊢;omega
  ·rename_i h2 k2
   rw [if_neg (by omega)]
   simp at h ⊢;omega
  ·simp at h k
   rw [if_neg (by omega)]
   simp;omega
 ·rename_i h1 k1
  rw [if_neg (by omega)]
  simp at k ⊢;omega
 ·rename_i h1 k1
  rw [if_neg (by omega)]
  simp at h ⊢;omega
 ·simp at h k
  rw [if_neg (by omega)]
  simp;omega
def wle (a b:MRow):Prop:=better a b=false
theorem wle_refl (a:MRow):wle a a:=better_irrefl a
theorem wle_of_better {a b:MRow} (h:better a b=true):wle b a:=by
 unfold wle
 cases hb:better b a with
 | false=>rfl
 | true =>
  have:=better_trans _ _ _ h hb
  rw [better_irrefl] at this
  cases this
theorem wle_trans {a b c:MRow} (h:wle a b) (k:wle b c):wle a c:=by
 unfold wle at *
 cases hac:better a c with
 | false=>rfl
 | true =>
  by_cases hab:a=b
  ·subst hab;rw [hac] at k;cases k
  ·rcases better_total a b hab with e | e
   ·rw [h] at e;cases e
   ·have:=better_trans _ _ _ e hac
    rw [k] at this;cases this
theorem wle_antisymm {a b:MRow} (h:wle a b) (k:wle b a):a=b:=by
 by_cases e:a=b
 ·exact e
 ·rcases better_total a b e with x | x
  ·rw [h] at x;cases x
  ·rw [k] at x;cases x
def Srt (l:List MRow):Prop:=l.Pairwise fun a b=>wle b a
def ins (m:MRow):List MRow→List MRow
 | []=>[m]
 | x :: l=>if better m x=true then m :: x :: l else x :: ins m l
theorem ins_perm (m:MRow) (l:List MRow):(ins m l).Perm (m :: l):=by
 induction l with
 | nil=>exact List.Perm.refl _
 | cons x l ih =>
  unfold ins
  split
  ·exact List.Perm.refl _
  ·exact (List.Perm.cons x ih).trans (List.Perm.swap m x l)
theorem ins_len (m:MRow) (l:List MRow):(ins m l).length=l.length+1:=by rw [(ins_perm m l).length_eq];rfl
theorem ins_srt (m:MRow) (l:List MRow) (h:Srt l):Srt (ins m l):=by
 induction l with
 | nil=>exact List.pairwise_cons.2 ⟨by simp,List.Pairwise.nil⟩
 | cons x l ih =>
  obtain ⟨h1,h2⟩:=List.pairwise_cons.1 h
  unfold ins
  split
  ·rename_i hb
   refine List.pairwise_cons.2 ⟨fun y hy=>?_,h⟩
   rcases List.mem_cons.1 hy with rfl | hy
   ·exact wle_of_better hb
   ·exact wle_trans (h1 y hy) (wle_of_better hb)
  ·rename_i hb
   refine List.pairwise_cons.2 ⟨fun y hy=>?_,ih h2⟩
   rcases List.mem_cons.1 ((ins_perm m l).mem_iff.1 hy) with rfl | hy
   ·simpa [wle] using hb
   ·exact h1 y hy
def sortL (l:List MRow):List MRow:=l.foldl (fun out m=>ins m out) []
theorem sortL_snoc (l:List MRow) (m:MRow):sortL (l++[m])=ins m (sortL l):=by simp [sortL,List.foldl_append]
theorem ins_take (m:MRow) (l:List MRow) (k:Nat):(ins m (l.take k)).take k=(ins m l).take k:=by
 induction l generalizing k with
 | nil=>simp
 | cons x l ih =>
  cases k with
  | zero=>simp
  | succ k =>
   simp only [List.take_succ_cons,ins]
   split
   ·cases k with
    | zero=>simp
    | succ k=>simp [List.take_take]
   ·simp only [List.take_succ_cons]
    rw [ih]
def bestL (l:List MRow) (k:Nat):List MRow:=(sortL l).take k
theorem bestL_snoc (l:List MRow) (m:MRow) (k:Nat):bestL (l++[m]) k=(ins m (bestL l k)).take k:=by
 unfold bestL
 rw [sortL_snoc,ins_take]
def swp (X:List MRow) (i j:Nat):List MRow:=(X.set i (X.getD j MRow.zero)).set j (X.getD i MRow.zero)
theorem swp_len (X:List MRow) (i j:Nat):(swp X i j).length=X.length:=by simp [swp]
theorem swp_get (X:List MRow) (i j c:Nat) (hi:i<X.length) (hj:j<X.length):(swp X i j).getD c MRow.zero=if c=i then X.getD j MRow.zero else if c=j then X.getD i MRow.zero else X.getD c MRow.zero:=by
 unfold swp
 simp only [List.getD_eq_getElem?_getD,List.getElem?_set]
 by_cases h1:c=i
 ·subst h1
  by_cases h2:j=c
  ·subst h2;simp [hi]
  ·simp [h2,hi]
 ·by_cases h2:c=j
  ·subst h2;simp [h1,hj]
  ·simp [h1,h2,Ne.symm h1,Ne.symm h2]
theorem swp_perm (X:List MRow) (i j:Nat) (hi:i<X.length) (hj:j<X.length):(swp X i j).Perm X:=by
 unfold swp
 have e1:X.getD j MRow.zero=X[j]:=by simp [List.getD,hj]
 have e2:X.getD i MRow.zero=X[i]:=by simp [List.getD,hi]
 rw [e1,e2]
 exact List.set_set_perm hi hj
def Heap (X:List MRow) (n:Nat):Prop:=∀ c,0<c→c<n→wle (X.getD ((c-1) / 2) MRow.zero) (X.getD c MRow.zero)
theorem heap_top {X:List MRow} {n:Nat} (h:Heap X n):∀ c,c<n→wle (X.getD 0 MRow.zero) (X.getD c MRow.zero):=by
 intro c
 induction c using Nat.strongRecOn with
 | _ c ih =>
  intro hc
  by_cases h0:c=0
  ·subst h0;exact wle_refl _
  ·exact wle_trans (ih ((c-1) / 2) (by omega) (by omega)) (h c (by omega) hc)
def upF:Nat→List MRow→Nat→List MRow
 | 0,X,_=>X
 | f+1,X,j=>if j=0 then X else if better (X.getD ((j-1) / 2) MRow.zero) (X.getD j MRow.zero)=true then upF f (swp X ((j-1) / 2) j) ((j-1) / 2) else X
theorem upF_spec (f:Nat):∀ (X:List MRow) (j:Nat),j<X.length→j≤f →
  (∀ c,0<c→c<X.length→c≠j→wle (X.getD ((c-1) / 2) MRow.zero) (X.getD c MRow.zero)) →
  (0<j→∀ c,0<c→c<X.length→(c-1) / 2=j→wle (X.getD ((j-1) / 2) MRow.zero) (X.getD c MRow.zero)) →
  (upF f X j).Perm X∧Heap (upF f X j) X.length∧(upF f X j).length=X.length:=by
 induction f with
 | zero =>
  intro X j hj hf h1 h2
  have:j=0:=by omega
  subst this
  exact ⟨List.Perm.refl _,fun c h0 hc=>h1 c h0 hc (by omega),rfl⟩
 | succ f ih =>
  intro X j hj hf h1 h2
  unfold upF
  by_cases h0:j=0
  ·rw [if_pos h0]
   subst h0
   exact ⟨List.Perm.refl _,fun c h0 hc=>h1 c h0 hc (by omega),rfl⟩
  ·rw [if_neg h0]
   by_cases hb:better (X.getD ((j-1) / 2) MRow.zero) (X.getD j MRow.zero)=true
   ·rw [if_pos hb]
    have hi:(j-1) / 2<X.length:=by omega
    have hw:wle (X.getD j MRow.zero) (X.getD ((j-1) / 2) MRow.zero):=wle_of_better hb
    obtain ⟨i,hie⟩:∃ i,i=(j-1) / 2:=⟨_,rfl⟩
    rw [← hie] at hb hi hw h2 ⊢
    have hij:i≠j:=by omega
    have key:=ih (swp X i j) i (by rw [swp_len];exact hi) (by omega) ?_ ?_
    ·rw [swp_len] at key
     exact ⟨key.1.trans (swp_perm X i j hi hj),key.2.1,key.2.2⟩
    ·intro c hc0 hc hci
     rw [swp_len] at hc
     rw [swp_get X i j _ hi hj,swp_get X i j _ hi hj,if_neg hci]
     by_cases hcj:c=j
     ·subst hcj
      rw [if_pos hie.symm,if_pos rfl]
      exact hw
     ·rw [if_neg hcj]
      by_cases hp:(c-1) / 2=i
      ·rw [if_pos hp]
       have:=h1 c hc0 hc hcj
       rw [hp] at this
       exact wle_trans hw this
      ·rw [if_neg hp]
       by_cases hp2:(c-1) / 2=j
       ·rw [if_pos hp2]
        exact h2 (by omega) c hc0 hc hp2
       ·rw [if_neg hp2]
        exact h1 c hc0 hc hcj
    ·intro hi0 c hc0 hc hpc
     rw [swp_len] at hc
     have hgi:(i-1) / 2≠i:=by omega
     have hgj:(i-1) / 2≠j:=by omega
     rw [swp_get X i j _ hi hj,swp_get X i j _ hi hj,if_neg hgi,if_neg hgj,if_neg (by omega)]
     have hii:=h1 i hi0 hi hij
     by_cases hcj:c=j
     ·subst hcj
      rw [if_pos rfl]
      exact hii
     ·rw [if_neg hcj]
      have:=h1 c hc0 hc hcj
      rw [hpc] at this
      exact wle_trans hii this
   ·rw [if_neg hb]
    refine ⟨List.Perm.refl _,fun c h0' hc=>?_,rfl⟩
    by_cases hcj:c=j
    ·subst hcj
     simpa [wle] using hb
    ·exact h1 c h0' hc hcj
def kid (X:List MRow) (i n:Nat):Nat :=
 if 2*i+2<n∧better (X.getD (2*i+1) MRow.zero) (X.getD (2*i+2) MRow.zero)=true then 2*i+2 else 2*i+1
def downF:Nat→List MRow→Nat→Nat→List MRow
 | 0,X,_,_=>X
 | f+1,X,i,n=>if n≤2*i+1 then X else if better (X.getD i MRow.zero) (X.getD (kid X i n) MRow.zero)=true then downF f (swp X i (kid X i n)) (kid X i n) n else X
theorem downF_spec (f:Nat):∀ (X:List MRow) (i n:Nat),i<n→n≤X.length→n≤f+i →
  (∀ c,0<c→c<n→(c-1) / 2≠i→wle (X.getD ((c-1) / 2) MRow.zero) (X.getD c MRow.zero)) →
  (0<i→∀ c,0<c→c<n→(c-1) / 2=i→wle (X.getD ((i-1) / 2) MRow.zero) (X.getD c MRow.zero)) →
  (downF f X i n).Perm X∧Heap (downF f X i n) n∧(downF f X i n).length=X.length∧∀ c,n≤c→(downF f X i n).getD c MRow.zero=X.getD c MRow.zero:=by
 induction f with
 | zero=>intro X i n hi _ hf;omega
 | succ f ih =>
  intro X i n hi hn hf h1 h2
  unfold downF
  by_cases h0:n≤2*i+1
  ·rw [if_pos h0]
   exact ⟨List.Perm.refl _,fun c hc0 hc=>h1 c hc0 hc (by omega),rfl,fun _ _=>rfl⟩
  ·rw [if_neg h0]
   have hk:(kid X i n=2*i+1∨kid X i n=2*i+2)∧kid X i n<n:=by
    unfold kid;split
    ·rename_i h;exact ⟨.inr rfl,h.1⟩
    ·exact ⟨.inl rfl,by omega⟩
   have hkw:∀ c,0<c→c<n→(c-1) / 2=i→wle (X.getD (kid X i n) MRow.zero) (X.getD c MRow.zero):=by
    intro c hc0 hc hp
    have:c=2*i+1∨c=2*i+2:=by omega
    unfold kid
    split
    ·rename_i h
     rcases this with e | e
     ·subst e;exact wle_of_better h.2
     ·subst e;exact wle_refl _
    ·rename_i h
     rcases this with e | e
     ·subst e;exact wle_refl _
     ·subst e
      cases hb:better (X.getD (2*i+1) MRow.zero) (X.getD (2*i+2) MRow.zero) with
      | false=>exact hb
      | true=>exact absurd ⟨hc,hb⟩ h
   by_cases hb:better (X.getD i MRow.zero) (X.getD (kid X i n) MRow.zero)=true
   ·rw [if_pos hb]
    have hw:wle (X.getD (kid X i n) MRow.zero) (X.getD i MRow.zero):=wle_of_better hb
    obtain ⟨j,hj⟩:∃ j,j=kid X i n:=⟨_,rfl⟩
    rw [← hj] at hb hk hkw hw ⊢
    have hil:i<X.length:=by omega
    have hjl:j<X.length:=by omega
    have hji:j≠i:=by omega
    have hpj:(j-1) / 2=i:=by omega
    have key:=ih (swp X i j) j n hk.2 (by rw [swp_len];exact hn) (by omega) ?_ ?_
    ·rw [swp_len] at key
     refine ⟨key.1.trans (swp_perm X i j hil hjl),key.2.1,key.2.2.1,fun c hc=>?_⟩
     rw [key.2.2.2 c hc,swp_get X i j c hil hjl,if_neg (by omega),if_neg (by omega)]
    ·intro c hc0 hc hcp
     rw [swp_get X i j _ hil hjl,swp_get X i j _ hil hjl]
     by_cases hci:c=i
     ·subst hci
      rw [if_pos rfl,if_neg (by omega),if_neg (by omega)]
      exact h2 hc0 j (by omega) hk.2 hpj
     ·rw [if_neg hci]
      by_cases hcj:c=j
      ·subst hcj
       rw [if_pos rfl,if_pos hpj]
       exact hw
      ·rw [if_neg hcj,if_neg hcp]
       by_cases hpi:(c-1) / 2=i
       ·rw [if_pos hpi]
        exact hkw c hc0 hc hpi
       ·rw [if_neg hpi]
        exact h1 c hc0 hc hpi
    ·intro _ c hc0 hc hcp
     rw [hpj,swp_get X i j _ hil hjl,swp_get X i j _ hil hjl,if_pos rfl,if_neg (by omega),if_neg (by omega)]
     have:=h1 c hc0 hc (by omega)
     rwa [hcp] at this
   ·rw [if_neg hb]
    refine ⟨List.Perm.refl _,fun c hc0 hc=>?_,rfl,fun _ _=>rfl⟩
    by_cases hp:(c-1) / 2=i
    ·rw [hp]
     refine wle_trans ?_ (hkw c hc0 hc hp)
     simpa [wle] using hb
    ·exact h1 c hc0 hc hp
end Go.Proofs.YtbijfoeaemceiaaGreatDoor
namespace Go.Proofs.YtbijfoeaemceiaaGreatDoor
open Go.RowKit
set_option maxRecDepth 100000 in
theorem cstring_any (a b:ByteArray) (w:World) :
  Calls Tryz.prog 183 #[.string a,.string b] w fun e w'=>e=.returned (.int .i64 (Lib.compareBytes a.data.toList b.data.toList))∧w'=w:=by
 go_enter Tryz.func183,Tryz.ntmps183
 go_wp2
 rw [run_callFunc_extern Tryz.func201 (by kernel_rfl) (by kernel_rfl) (by kernel_rfl) (e:=Extern.BytealgCompare.compare) (by kernel_rfl),Lib.run_compareString]
 simp only [Result.andThen]
 rw [Oper.upon_value]
 go_wp2
 go_ret
 exact ⟨rfl,rfl⟩
theorem compare_any (a b:ByteArray) (w:World) :
  Calls Tryz.prog 135 #[.string a,.string b] w fun e w'=>e=.returned (.int .i64 (Lib.compareBytes a.data.toList b.data.toList))∧w'=w:=by
 go_enter Tryz.func135,Tryz.ntmps135
 go_wp2_with (go_at_call 183;refine (cstring_any _ _ _).mono ?_;rintro e w' ⟨rfl,rfl⟩)
 go_ret
 exact ⟨rfl,rfl⟩
abbrev cmpF:Value:=.func (.func 198) #[] #[]
set_option maxRecDepth 100000 in
theorem cmp_any (a b:PRow) (w:World) :
  Calls Tryz.prog 198 #[a.val,b.val] w fun e w'=>(∃ z:Int,e=.returned (.int .i64 z)∧decide (z<0)=plt a b)∧Touch (fun _=>False) w w':=by
 obtain ⟨aw,an⟩:=a
 obtain ⟨bw,bn⟩:=b
 rw [pval_eq,pval_eq]
 go_enter Tryz.func198,Tryz.ntmps198
 go_wp2_with (go_at_call 135;refine (compare_any aw bw _).mono ?_;rintro e w' ⟨rfl,rfl⟩)
 go_ret
 refine ⟨⟨_,rfl,?_⟩,((Touch.refl _ _).alloc _).alloc _⟩
 rw [compare_neg]
 show Op.bytesLess aw.data.toList bw.data.toList=Op.bytesLess aw.toList bw.toList
 rw [Go.ByteArray.toList_eq,Go.ByteArray.toList_eq]
def swrF (X:List PRow) (a b:Nat):Nat→List PRow
 | 0=>X
 | k+1=>swpP (swrF X a b k) (a+k) (b+k)
set_option maxRecDepth 100000 in
set_option maxHeartbeats 1000000 in
theorem swr_any (w:World) (A:Option Addr) (n c:Nat) (X:List PRow) (h:POwn w A n c X) (a b k:Nat) (ha:a+k≤n) (hb:b+k≤n) (F:Value) :
  Calls Tryz.prog 212 #[.slice A n c,.int .i64 a,.int .i64 b,.int .i64 k,F] w fun e w'=>e=.returned (.tuple #[])∧POwn w' A n c (swrF X a b k)∧Touch (fun g=>adBlock A=some g) w w':=by
 have hn:=own_le h
 unfold maxLen at hn
 have HX:=hide h
 have HL:=hide (pown_len h)
 clear h
 go_enter Tryz.func212,Tryz.ntmps212
 go_wp2
 go_loopw [10] (fun iv wr=>∃ i:Nat,i≤k∧iv=.int .i64 i∧Hid (POwn wr A n c (swrF X a b i))∧Hid (Touch (fun g=>adBlock A=some g) w wr)) (fun iv _=>k-(intOf iv).toNat)
 case atStart=>exact ⟨0,Nat.zero_le _,rfl,HX,hide (Touch.refl _ _)⟩
 case round =>
  obtain ⟨i,hi,rfl,HO,HT⟩:=hrel
  by_cases hik:i<k
  ·obtain ⟨Y,hY⟩:∃ Y,Y=swrF X a b i:=⟨_,rfl⟩
   have HYE:=hide hY
   rw [← hY] at HO
   have hl:=pown_len HO.out
   obtain ⟨x,hx0⟩:∃ x,x=a+i:=⟨_,rfl⟩
   obtain ⟨y,hy0⟩:∃ x,x=b+i:=⟨_,rfl⟩
   obtain ⟨g,rfl,hg,a0,a1,f0,f1⟩:=pown_at HO.out hl x (by omega)
   obtain ⟨g',hA,_,b0,b1,f3,f4⟩:=pown_at HO.out hl y (by omega)
   injection hA with hA
   injection hA with hA _
   subst hA
   obtain ⟨⟨xw,xn⟩,hx⟩:∃ r,r=Y.getD x PRow.zero:=⟨_,rfl⟩
   obtain ⟨⟨yw,yn⟩,hy⟩:∃ r,r=Y.getD y PRow.zero:=⟨_,rfl⟩
   rw [← hx] at a0 a1
   rw [← hy] at b0 b1
   simp only at a0 a1 b0 b1
   have EX:=hide hx
   have EY:=hide hy
   have EX0:=hide hx0
   have EY0:=hide hy0
   have i0:(i:Int)<(k:Int):=by omega
   have i1:x<n:=by omega
   have i2:y<n:=by omega
   have i3:(a:Int)+(i:Int)=(x:Int):=by omega
   have i4:(b:Int)+(i:Int)=(y:Int):=by omega
   have i5:(x:Int)<(n:Int):=by omega
   have i6:(y:Int)<(n:Int):=by omega
   have i7:IntKind.i64.wrap (x:Int)=(x:Int):=IntWalk.i64_in _ (by omega)
   have i8:IntKind.i64.wrap (y:Int)=(y:Int):=IntWalk.i64_in _ (by omega)
   obtain ⟨v0,s0⟩:=cell?_setCell_some (p:=⟨g,x*2,none⟩) (x:=.string yw) b0
   obtain ⟨v1,s1⟩:=cell?_setCell_some (p:=⟨g,x*2,none⟩) (x:=.string yw) b1
   obtain ⟨v1,s1⟩:=cell?_setCell_some (p:=⟨g,x*2+1,none⟩) (x:=.int .i64 yn) s1
   clear hx hy hY hl hx0 hy0
   go_wp2
   go_region
   all_goals go_wp2
   go_roundw
   ·have HS:=pown_set2 (pown_set2 HO.out x ⟨yw,yn⟩) y ⟨xw,xn⟩
    have e:swpP Y x y=(Y.set x ⟨yw,yn⟩).set y ⟨xw,xn⟩:=by unfold swpP;rw [← EX.out,← EY.out]
    rw [← e] at HS
    have e2:swrF X a b (i+1)=swpP Y x y:=by rw [swrF,← HYE.out,← EX0.out,← EY0.out]
    rw [← e2] at HS
    refine ⟨i+1,by omega,by simp,hide (own_touch (S:=fun _=>False) HS (Touch.refl _ _).drew (fun _ _ f=>f)),hide ?_⟩
    refine Touch.drew ?_
    iterate 4 refine Touch.setCell ?_ (fun _=>(rfl:adBlock (some ⟨g,0,none⟩)=some g)) _
    exact HT.out
   ·show k-(intOf (.int .i64 ((i:Int)+1))).toNat<k-(intOf (.int .i64 (i:Int))).toNat
    simp [intOf]
    omega
  ·have hk':i=k:=by omega
   subst hk'
   go_wp2
   go_end0
   exact ⟨rfl,HO.out,HT.out⟩
end Go.Proofs.YtbijfoeaemceiaaGreatDoor
