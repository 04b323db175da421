/- What the law rests on, part 1. No condition but those that each theorem names. -/
import Derived.Test.YthockgmbooefpaaDoorD00
import Derived.Test.YthockgmbooefpaaDoorRows
set_option linter.unusedSectionVars false
set_option linter.unusedSimpArgs false
set_option linter.unusedVariables false
namespace Go.Proofs.YthockgmbooefpaaDoor
open Go.RowKit
structure SRow where
 seq:Int
 code:Int
 sess:Int
 had:Int
deriving DecidableEq
def SRow.zero:SRow:=⟨0,0,0,0⟩
def SRow.cells (r:SRow):List Value:=[.int .u64 r.seq,.int .i64 r.code,.int .u64 r.sess,.int .i64 r.had]
def rowCells (l:List SRow):List Value:=l.flatMap SRow.cells
def Tab (w:World) (p:Nat) (v:Value) (l:List SRow):Prop :=
 Blk w p 86 #[v]∧w.ownsRow 0 69 4 v l.length (rowCells l)
theorem Tryd.infoRow:(Tryd.prog.info? 69).map (fun i=>(i.zero,i.size,i.bytes))=some (some (.agg #[.int .u64 0,.int .i64 0,.int .u64 0,.int .i64 0]),4,32):=by kernel_rfl
theorem ses_new (w:World):Calls Tryd.prog 19 #[] w fun e w' =>
  e=.returned (.pointer (some ⟨w.heap.size,0,none⟩))∧Tab w' w.heap.size (.slice none 0 0) []∧Touch (fun _=>False) w w':=by
 go_enter Tryd.func19,Tryd.ntmps19
 go_wp2
 go_ret
 exact ⟨rfl,⟨Blk.new _ _ _,World.ownsRow_nil _ _ _ _⟩,(Touch.refl _ _).alloc _⟩
def thereB (l:List SRow) (id:Int):Bool:=decide (1≤id) && decide (id≤(l.length:Int))
theorem ses_there (w:World) (p:Nat) (v:Value) (l:List SRow) (h:Tab w p v l) (id:Int) :
  Calls Tryd.prog 44 #[.pointer (some ⟨p,0,none⟩),.int .u64 id] w fun e w' =>
   e=.returned (.bool (thereB l id))∧w=w':=by
 obtain ⟨hb,ho⟩:=h
 obtain ⟨A,c,hv,_,hc⟩:=own_len ho
 have hm:=own_le ho
 unfold maxLen at hc hm
 subst hv
 have c0:=hb.cell 0
 simp at c0
 clear ho hb
 go_enter Tryd.func44,Tryd.ntmps44
 go_wp2
 ·have h1:1≤id:=by assumption
  go_ret
  exact ⟨by simp [thereB,h1],rfl⟩
 ·have h1:id<1:=by assumption
  go_ret
  exact ⟨by simp [thereB,show ¬ 1≤id by omega],rfl⟩
theorem thereB_at (l:List SRow) (id:Int) (h:thereB l id=true):∃ k:Nat,id=(k:Int)+1∧k<l.length:=by
 unfold thereB at h
 simp at h
 exact ⟨(id-1).toNat,by omega,by omega⟩
theorem rowCells_at (l:List SRow) (k:Nat) (hk:k<l.length) (j:Nat) (hj:j<4):(rowCells l)[4*k+j]? = (l[k].cells)[j]? := by
 induction l generalizing k with
 | nil=>simp at hk
 | cons r l ih =>
  have hl:r.cells.length=4:=rfl
  cases k with
  | zero =>
   simp only [rowCells,List.flatMap_cons,Nat.mul_zero,Nat.zero_add,List.getElem_cons_zero]
   rw [List.getElem?_append_left (by omega)]
  | succ k =>
   simp only [rowCells,List.flatMap_cons,List.getElem_cons_succ]
   rw [List.getElem?_append_right (by omega),hl,show 4*(k+1)+j-4=4*k+j by omega]
   exact ih k (by simpa using hk)
theorem tab_row {w:World} {p:Nat} {v:Value} {l:List SRow} (h:Tab w p v l) (k:Nat) (hk:k<l.length) :
  ∃ g cap,v=.slice (some ⟨g,0,none⟩) l.length cap∧l.length≤cap∧cap≤maxLen∧g<w.heap.size∧p<w.heap.size∧p≠g∧w.cell? ⟨p,0,none⟩=some (.slice (some ⟨g,0,none⟩) l.length cap) ∧
   w.cell? ⟨g,k*4,none⟩=some (.int .u64 l[k].seq)∧w.cell? ⟨g,k*4+1,none⟩=some (.int .i64 l[k].code) ∧
   w.cell? ⟨g,k*4+2,none⟩=some (.int .u64 l[k].sess)∧w.cell? ⟨g,k*4+3,none⟩=some (.int .i64 l[k].had):=by
 obtain ⟨hb,ho⟩:=h
 obtain ⟨g,cap,rfl,h1,h2,h3,h4,_⟩:=own_form ho (by omega)
 have hc:=hb.cell 0
 simp at hc
 refine ⟨g,cap,rfl,h1,h2,h3,hb.lt,?_,hc,?_,?_,?_,?_⟩
 ·rintro rfl
  exact own_blk_ne ho hb (by decide) rfl
 ·exact h4 _ _ (by have:=rowCells_at l k hk 0 (by omega);rw [show k*4=4*k+0 by omega,this];rfl)
 ·exact h4 _ _ (by have:=rowCells_at l k hk 1 (by omega);rw [show k*4+1=4*k+1 by omega,this];rfl)
 ·exact h4 _ _ (by have:=rowCells_at l k hk 2 (by omega);rw [show k*4+2=4*k+2 by omega,this];rfl)
 ·exact h4 _ _ (by have:=rowCells_at l k hk 3 (by omega);rw [show k*4+3=4*k+3 by omega,this];rfl)
structure CRes where
 c:Int
 s:Int
 h:Int
 b:Bool
 e:Int
def CRes.val (R:CRes):Value:=.tuple #[.agg #[.int .i64 R.c,.int .u64 R.s,.int .i64 R.h],.bool R.b,.int .i64 R.e]
def chk (t:Bool) (r:SRow) (seq:Int):CRes :=
 if t=false then ⟨0,0,0,false,150⟩ else if seq=0∨seq<r.seq then ⟨0,0,0,false,151⟩ else if seq=r.seq then ⟨r.code,r.sess,r.had,true,0⟩ else ⟨0,0,0,false,0⟩
def rowAt (l:List SRow) (id:Int):SRow:=l.getD (id-1).toNat SRow.zero
theorem rowAt_succ (l:List SRow) (k:Nat) (hk:k<l.length):rowAt l ((k:Int)+1)=l[k]:=by
 unfold rowAt
 rw [show ((k:Int)+1-1).toNat=k by omega]
 simp [List.getD,hk]
theorem thereB_succ (l:List SRow) (k:Nat) (hk:k<l.length):thereB l ((k:Int)+1)=true:=by
 unfold thereB;simp;omega
theorem Tab.touch {w w':World} {p:Nat} {v:Value} {l:List SRow} {S:Nat→Prop} (h:Tab w p v l) (ht:Touch S w w') (hp:¬ S p) (hv:∀ g,v.ownBlock=some g→¬ S g):Tab w' p v l :=
 ⟨h.1.touch ht hp,own_touch h.2 ht hv⟩
theorem Tab.alloc {w:World} {p:Nat} {v:Value} {l:List SRow} (h:Tab w p v l) (o:Obj):Tab (w.alloc o) p v l :=
 h.touch (S:=fun _=>False) ((Touch.refl _ _).alloc o) (fun f=>f) (fun _ _ f=>f)
theorem Tab.len {w:World} {p:Nat} {v:Value} {l:List SRow} (h:Tab w p v l):l.length≤9223372036854775807:=by
 have:=own_le h.2
 unfold maxLen at this
 omega
theorem ses_check (w:World) (p:Nat) (v:Value) (l:List SRow) (h:Tab w p v l) (id seq:Int) (R:CRes) (hR:chk (thereB l id) (rowAt l id) seq=R) :
  Calls Tryd.prog 25 #[.pointer (some ⟨p,0,none⟩),.int .u64 id,.int .u64 seq] w fun e w' =>
   e=.returned R.val∧Touch (fun _=>False) w w':=by
 subst hR
 cases ht:thereB l id with
 | false =>
  have H:=hide (show chk false (rowAt l id) seq=⟨0,0,0,false,150⟩ from rfl)
  go_enter Tryd.func25,Tryd.ntmps25
  go_wp2_with (go_at_call 44;refine (ses_there _ p v l (h.alloc _) id).mono ?_;rintro e w' ⟨rfl,rfl⟩)
  refine bodyPost_ret (v:=CRes.val ⟨0,0,0,false,150⟩) (by simp [results,Tryd.results25,CRes.val,go_sem]) rfl ⟨?_,(Touch.refl _ _).alloc _⟩
  rw [H.out]
 | true =>
  obtain ⟨k,rfl,hk⟩:=thereB_at l id ht
  have hl:=h.len
  rw [rowAt_succ l k hk]
  obtain ⟨g,cap,rfl,n1,n2,n3,n4,n5,c0,c1,c2,c3,c4⟩:=tab_row h k hk
  unfold maxLen at n2
  obtain ⟨⟨rs,rc,rr,rh⟩,hr⟩:∃ r,r=l[k]:=⟨_,rfl⟩
  rw [← hr] at c1 c2 c3 c4 ⊢
  clear hr
  by_cases h0:seq=0
  ·subst h0
   go_enter Tryd.func25,Tryd.ntmps25
   go_wp2_with (go_at_call 44;refine (ses_there _ p _ l (h.alloc _) _).mono ?_;rintro e w' ⟨rfl,rfl⟩)
   refine bodyPost_ret (v:=CRes.val ⟨0,0,0,false,151⟩) (by simp [results,Tryd.results25,CRes.val,go_sem]) rfl ⟨?_,((Touch.refl _ _).alloc _).alloc _⟩
   simp [chk]
  have b0:(seq == 0)=false:=by simpa using h0
  by_cases h1:seq<rs
  ·go_enter Tryd.func25,Tryd.ntmps25
   go_wp2_with (go_at_call 44;refine (ses_there _ p _ l (h.alloc _) _).mono ?_;rintro e w' ⟨rfl,rfl⟩)
   refine bodyPost_ret (v:=CRes.val ⟨0,0,0,false,151⟩) (by simp [results,Tryd.results25,CRes.val,go_sem]) rfl ⟨?_,((Touch.refl _ _).alloc _).alloc _⟩
   simp [chk,h1]
  have b1:decide (seq<rs)=false:=by simpa using h1
  by_cases h2:seq=rs
  ·subst h2
   go_enter Tryd.func25,Tryd.ntmps25
   go_wp2_with (go_at_call 44;refine (ses_there _ p _ l (h.alloc _) _).mono ?_;rintro e w' ⟨rfl,rfl⟩)
   refine bodyPost_ret (v:=CRes.val ⟨rc,rr,rh,true,0⟩) (by simp [results,Tryd.results25,CRes.val,go_sem]) rfl ⟨?_,((Touch.refl _ _).alloc _).alloc _⟩
   simp [chk,h0]
  ·have b2:(seq == rs)=false:=by simpa using h2
   go_enter Tryd.func25,Tryd.ntmps25
   go_wp2_with (go_at_call 44;refine (ses_there _ p _ l (h.alloc _) _).mono ?_;rintro e w' ⟨rfl,rfl⟩)
   refine bodyPost_ret (v:=CRes.val ⟨0,0,0,false,0⟩) (by simp [results,Tryd.results25,CRes.val,go_sem]) rfl ⟨?_,((Touch.refl _ _).alloc _).alloc _⟩
   simp [chk,h0,h2,show ¬ seq<rs by omega]
def keepB (l:List SRow) (id seq:Int):Bool:=thereB l id && decide ((rowAt l id).seq<seq)
def keepL (l:List SRow) (id seq:Int) (a:SRow):List SRow:=if keepB l id seq=true then l.set (id-1).toNat { a with seq:=seq } else l
theorem rowCells_len (l:List SRow):(rowCells l).length=l.length*4:=by
 induction l with
 | nil=>rfl
 | cons r l ih =>
  simp only [rowCells,List.flatMap_cons,List.length_append,List.length_cons] at ih ⊢
  rw [ih,show r.cells.length=4 from rfl]
  omega
theorem rowCells_set (l:List SRow) (k:Nat) (hk:k<l.length) (r:SRow) :
  ((((rowCells l).set (k*4) (.int .u64 r.seq)).set (k*4+1) (.int .i64 r.code)).set (k*4+2) (.int .u64 r.sess)).set (k*4+3) (.int .i64 r.had)=rowCells (l.set k r):=by
 induction l generalizing k with
 | nil=>simp at hk
 | cons q l ih =>
  cases k with
  | zero=>simp [rowCells,SRow.cells]
  | succ k =>
   have:=ih k (by simpa using hk)
   simp only [rowCells,List.flatMap_cons,List.set_cons_succ] at this ⊢
   rw [← this]
   simp only [SRow.cells,show (k+1)*4=k*4+4 by omega,List.cons_append,List.nil_append,List.set_cons_succ,show ∀ j,k*4+4+j=(k*4+j)+4 by omega]
theorem Tab.set {w:World} {p g cap:Nat} {l:List SRow} (h:Tab w p (.slice (some ⟨g,0,none⟩) l.length cap) l) (k:Nat) (hk:k<l.length) (r:SRow) :
  Tab ((((w.setCell ⟨g,k*4,none⟩ (.int .u64 r.seq)).setCell ⟨g,k*4+1,none⟩ (.int .i64 r.code)).setCell ⟨g,k*4+2,none⟩ (.int .u64 r.sess)).setCell ⟨g,k*4+3,none⟩ (.int .i64 r.had))
   p (.slice (some ⟨g,0,none⟩) l.length cap) (l.set k r):=by
 obtain ⟨hb,ho⟩:=h
 have hpg:p≠g:=by
  rintro rfl
  exact own_blk_ne ho hb (by decide) rfl
 refine ⟨(((hb.far (p:=⟨g,_,none⟩) hpg _).far (p:=⟨g,_,none⟩) hpg _).far (p:=⟨g,_,none⟩) hpg _).far (p:=⟨g,_,none⟩) hpg _,?_⟩
 rw [← rowCells_set l k hk r,List.length_set]
 exact own_set (own_set (own_set (own_set ho _ _) _ _) _ _) _ _
def fp (p:Nat) (v:Value):Nat→Prop:=fun k=>k=p∨v.ownBlock=some k
theorem ses_keep_no (w:World) (p:Nat) (v:Value) (l:List SRow) (h:Tab w p v l) (id seq:Int) (a:SRow) (hk:keepB l id seq=false) :
  Calls Tryd.prog 26 #[.pointer (some ⟨p,0,none⟩),.int .u64 id,.int .u64 seq,.agg #[.int .i64 a.code,.int .u64 a.sess,.int .i64 a.had]] w fun e w' =>
   e=.returned (.bool false)∧Touch (fun _=>False) w w':=by
 cases ht:thereB l id with
 | false =>
  go_enter Tryd.func26,Tryd.ntmps26
  go_wp2_with (go_at_call 44;refine (ses_there _ p v l (h.alloc _) id).mono ?_;rintro e w' ⟨rfl,rfl⟩)
  go_ret
  exact ⟨rfl,(Touch.refl _ _).alloc _⟩
 | true =>
  obtain ⟨k,rfl,hkl⟩:=thereB_at l id ht
  have hl:=h.len
  unfold keepB at hk
  rw [rowAt_succ l k hkl,ht] at hk
  simp at hk
  obtain ⟨g,cap,rfl,n1,n2,n3,n4,n5,c0,c1,c2,c3,c4⟩:=tab_row h k hkl
  unfold maxLen at n2
  obtain ⟨⟨rs,rc,rr,rh⟩,hr⟩:∃ r,r=l[k]:=⟨_,rfl⟩
  rw [← hr] at c1 c2 c3 c4 hk
  clear hr
  simp only at hk
  go_enter Tryd.func26,Tryd.ntmps26
  go_wp2_with (go_at_call 44;refine (ses_there _ p _ l (h.alloc _) _).mono ?_;rintro e w' ⟨rfl,rfl⟩)
  go_ret
  exact ⟨rfl,(Touch.refl _ _).alloc _⟩
theorem ses_keep_yes (w:World) (p:Nat) (v:Value) (l:List SRow) (h:Tab w p v l) (id seq:Int) (a:SRow) (hk:keepB l id seq=true) :
  Calls Tryd.prog 26 #[.pointer (some ⟨p,0,none⟩),.int .u64 id,.int .u64 seq,.agg #[.int .i64 a.code,.int .u64 a.sess,.int .i64 a.had]] w fun e w' =>
   e=.returned (.bool true)∧Tab w' p v (l.set (id-1).toNat { a with seq:=seq })∧Touch (fp p v) w w':=by
 have ht:thereB l id=true:=by unfold keepB at hk;simp at hk;exact hk.1
 obtain ⟨k,rfl,hkl⟩:=thereB_at l id ht
 have hl:=h.len
 unfold keepB at hk
 rw [rowAt_succ l k hkl,ht] at hk
 simp at hk
 have h1:=h.alloc (.cells #[.int .i64 a.code,.int .u64 a.sess,.int .i64 a.had] 34)
 obtain ⟨g,cap,rfl,n1,n2,n3,n4,n5,c0,c1,c2,c3,c4⟩:=tab_row h k hkl
 have hf:=(own_form h.2 (by omega))
 obtain ⟨g',cap',hv',_,_,_,_,hf⟩:=hf
 injection hv' with hg' _ _
 injection hg' with hg'
 injection hg' with hg'
 subst hg'
 have f0:=hf (k*4)
 have f1:=hf (k*4+1)
 have f2:=hf (k*4+2)
 have f3:=hf (k*4+3)
 clear hf
 unfold maxLen at n2
 obtain ⟨⟨rs,rc,rr,rh⟩,hr⟩:∃ r,r=l[k]:=⟨_,rfl⟩
 rw [← hr] at c1 c2 c3 c4 hk
 clear hr
 simp only at hk
 go_enter Tryd.func26,Tryd.ntmps26
 go_wp2_with (go_at_call 44;refine (ses_there _ p _ l (h.alloc _) _).mono ?_;rintro e w' ⟨rfl,rfl⟩)
 go_region
 all_goals go_wp2
 go_ret
 refine ⟨rfl,?_,?_⟩
 ·rw [show ((k:Int)+1-1).toNat=k by omega]
  exact (Tab.set h k hkl { a with seq:=seq }).alloc _
 ·have hg:fp p (.slice (some ⟨g,0,none⟩) l.length cap) g:=.inr rfl
  exact ((((((Touch.refl _ _).setCell (p:=⟨g,_,none⟩) (fun _=>hg) _).setCell (p:=⟨g,_,none⟩) (fun _=>hg) _).setCell (p:=⟨g,_,none⟩) (fun _=>hg) _).setCell (p:=⟨g,_,none⟩) (fun _=>hg) _).alloc _).drew
theorem ses_full (w:World) (p:Nat) (v:Value) (l:List SRow) (h:Tab w p v l) (hl:l.length=4096) :
  Calls Tryd.prog 22 #[.pointer (some ⟨p,0,none⟩)] w fun e w' =>
   e=.returned (.tuple #[.int .u64 0,.int .i64 152])∧w=w':=by
 obtain ⟨hb,ho⟩:=h
 obtain ⟨A,c,hv,_,hc⟩:=own_len ho
 subst hv
 have c0:=hb.cell 0
 simp at c0
 rw [hl] at c0
 clear ho hb
 go_enter Tryd.func22,Tryd.ntmps22
 go_wp2
 go_ret2
 exact ⟨rfl,rfl⟩
theorem rowCells_snoc (l:List SRow) (r:SRow):rowCells (l++[r])=rowCells l++r.cells:=by simp [rowCells]
set_option maxRecDepth 100000 in
theorem ses_open (w:World) (p:Nat) (v:Value) (l:List SRow) (h:Tab w p v l) (hl:l.length<4096) :
  Calls Tryd.prog 22 #[.pointer (some ⟨p,0,none⟩)] w fun e w' =>
   e=.returned (.tuple #[.int .u64 ((l.length:Int)+1),.int .i64 0])∧∃ v',Tab w' p v' (l++[SRow.zero])∧Touch (fp p v) w w'∧Fresh w v v':=by
 obtain ⟨hb,ho⟩:=h
 obtain ⟨A,c,hv,_,hc⟩:=own_len ho
 have c0:=hb.cell 0
 have f0:=hb.frozen 0
 simp at c0
 have hp:=hb.lt
 have HO:=hide ho
 have HV:=hide hv
 have HB:=hide hb
 rw [hv] at c0
 clear hv ho hb
 obtain ⟨i0,hi,hz0,hz1,hz2⟩:=info_parts Tryd.infoRow
 go_enter Tryd.func22,Tryd.ntmps22
 go_wp2_with (at_builtin;refine wpList_app _ rfl _ _ 66 rfl 69 i0 (.agg #[.int .u64 0,.int .i64 0,.int .u64 0,.int .i64 0]) 4 32 Tryd.underlying66 hi hz0 hz1 hz2 rfl (by decide) _ _ _ rfl (HV.out ▸ HO.out.alloc _) (some ⟨w.heap.size,0,none⟩) 1 1 SRow.zero.cells rfl ?c1 ?c2 ?c3 ?c4 ?c5 ?_)
 case c1=>exact Reads.new _ _ _ _ rfl
 case c2=>exact fun h=>by cases h
 case c3=>exact List.all_eq_true.1 rfl
 case c4=>unfold maxLen;omega
 case c5=>omega
 intro v' w1 hown hgrow hfr _
 have hb1:Blk w1 p 86 #[v]:=(HB.out.alloc _).grown hgrow (fun e=>own_blk_ne HO.out HB.out (by decide) (by rw [HV.out];exact e.symm))
 have hsz:w.heap.size+1≤w1.heap.size:=by simpa using hgrow.size
 have c1:=hb1.cell 0
 have f1:=hb1.frozen 0
 simp at c1
 have hex:∃ A' c',v'=.slice A' (l.length+1) c':=by
  obtain ⟨A',c',h,_⟩:=own_len hown
  exact ⟨A',c',h⟩
 obtain ⟨A',c',hv'⟩:=hex
 have HW:=hide (show l.length+1≤maxLen∧w1.ownsRow 0 69 4 v' (l.length+1) (rowCells l++SRow.zero.cells)∧(w.alloc (.cells SRow.zero.cells.toArray 69)).grownBy w1 v.ownBlock∧Fresh w v v'∧Blk w1 p 86 #[v] from ⟨by unfold maxLen;omega,hown,by rw [HV.out];exact hgrow,by
  rcases hfr with h | ⟨g,h,hg⟩
  ·exact .inl (by rw [h,HV.out])
  ·exact .inr ⟨g,h,by simp at hg;omega⟩,hb1⟩)
 clear hown hgrow hfr hb1
 have HV':=hide hv'
 rw [hv']
 clear hv'
 go_wp2
 go_ret2
 obtain ⟨_,h1,h2,h3,h4⟩:=HW.out
 refine ⟨rfl,v',⟨?_,?_⟩,?_,h3⟩
 ·rw [HV'.out]
  exact h4.set_ 0 _
 ·rw [rowCells_snoc]
  have:=own_setCell_far (a:=⟨p,0,none⟩) h1 (own_blk_ne h1 h4 (by decide)) (.slice A' (l.length+1) c')
  simpa using this
 ·exact (((Touch.refl _ _).alloc _).app h2 (fun g hg _=>.inr hg)).setCell (p:=⟨p,0,none⟩) (fun _=>.inl rfl) _
end Go.Proofs.YthockgmbooefpaaDoor
