/- What the law rests on, part 21. No condition but those that each theorem names. -/
import Derived.Test.YthockgmbooefpaaGreatDoorL00
import Derived.Test.YthockgmbooefpaaGreatDoorRows
import Derived.Lib.SliceRun
import Derived.Lib.Strings
import Derived.Lib.Slices
import Derived.Lib.Walk
import Derived.BigRegion
import Derived.Deep.CutRange
set_option linter.unusedSectionVars false
set_option linter.unusedSimpArgs false
set_option linter.unusedVariables false
set_option maxRecDepth 100000
set_option maxHeartbeats 1000000
namespace Go.Proofs.YthockgmbooefpaaGreatDoor
open Go.RowKit
structure SRow where
 seq:Int
 code:Int
 sess:Int
 had:Int
deriving DecidableEq
def SRow.zero:SRow:=⟨0,0,0,0⟩
def SRow.cells (r:SRow):List Value:=[.int .u64 r.seq,.int .i64 r.code,.int .u64 r.sess,.int .i64 r.had]
def rowCells (l:List SRow):List Value:=l.flatMap SRow.cells
def Tab (w:World) (p:Nat) (v:Value) (l:List SRow):Prop :=
 Blk w p 149 #[v]∧w.ownsRow 0 110 4 v l.length (rowCells l)
theorem Tryz.infoRow:(Tryz.prog.info? 110).map (fun i=>(i.zero,i.size,i.bytes))=some (some (.agg #[.int .u64 0,.int .i64 0,.int .u64 0,.int .i64 0]),4,32):=by kernel_rfl
theorem ses_new (w:World):Calls Tryz.prog 31 #[] w fun e w' =>
  e=.returned (.pointer (some ⟨w.heap.size,0,none⟩))∧Tab w' w.heap.size (.slice none 0 0) []∧Touch (fun _=>False) w w':=by
 go_enter Tryz.func31,Tryz.ntmps31
 go_wp2
 go_ret
 exact ⟨rfl,⟨Blk.new _ _ _,World.ownsRow_nil _ _ _ _⟩,(Touch.refl _ _).alloc _⟩
def thereB (l:List SRow) (id:Int):Bool:=decide (1≤id) && decide (id≤(l.length:Int))
theorem ses_there (w:World) (p:Nat) (v:Value) (l:List SRow) (h:Tab w p v l) (id:Int) :
  Calls Tryz.prog 80 #[.pointer (some ⟨p,0,none⟩),.int .u64 id] w fun e w' =>
   e=.returned (.bool (thereB l id))∧w=w':=by
 obtain ⟨hb,ho⟩:=h
 obtain ⟨A,c,hv,_,hc⟩:=own_len ho
 have hm:=own_le ho
 unfold maxLen at hc hm
 subst hv
 have c0:=hb.cell 0
 simp at c0
 clear ho hb
 go_enter Tryz.func80,Tryz.ntmps80
 go_wp2
 ·have h1:1≤id:=by assumption
  go_ret
  exact ⟨by simp [thereB,h1],rfl⟩
 ·have h1:id<1:=by assumption
  go_ret
  exact ⟨by simp [thereB,show ¬ 1≤id by omega],rfl⟩
theorem thereB_at (l:List SRow) (id:Int) (h:thereB l id=true):∃ k:Nat,id=(k:Int)+1∧k<l.length:=by
 unfold thereB at h
 simp at h
 exact ⟨(id-1).toNat,by omega,by omega⟩
theorem rowCells_at (l:List SRow) (k:Nat) (hk:k<l.length) (j:Nat) (hj:j<4):(rowCells l)[4*k+j]? = (l[k].cells)[j]? := by
 induction l generalizing k with
 | nil=>simp at hk
 | cons r l ih =>
  have hl:r.cells.length=4:=rfl
  cases k with
  | zero =>
   simp only [rowCells,List.flatMap_cons,Nat.mul_zero,Nat.zero_add,List.getElem_cons_zero]
   rw [List.getElem?_append_left (by omega)]
  | succ k =>
   simp only [rowCells,List.flatMap_cons,List.getElem_cons_succ]
   rw [List.getElem?_append_right (by omega),hl,show 4*(k+1)+j-4=4*k+j by omega]
   exact ih k (by simpa using hk)
theorem tab_row {w:World} {p:Nat} {v:Value} {l:List SRow} (h:Tab w p v l) (k:Nat) (hk:k<l.length) :
  ∃ g cap,v=.slice (some ⟨g,0,none⟩) l.length cap∧l.length≤cap∧cap≤maxLen∧g<w.heap.size∧p<w.heap.size∧p≠g∧w.cell? ⟨p,0,none⟩=some (.slice (some ⟨g,0,none⟩) l.length cap) ∧
   w.cell? ⟨g,k*4,none⟩=some (.int .u64 l[k].seq)∧w.cell? ⟨g,k*4+1,none⟩=some (.int .i64 l[k].code) ∧
   w.cell? ⟨g,k*4+2,none⟩=some (.int .u64 l[k].sess)∧w.cell? ⟨g,k*4+3,none⟩=some (.int .i64 l[k].had):=by
 obtain ⟨hb,ho⟩:=h
 obtain ⟨g,cap,rfl,h1,h2,h3,h4,_⟩:=own_form ho (by omega)
 have hc:=hb.cell 0
 simp at hc
 refine ⟨g,cap,rfl,h1,h2,h3,hb.lt,?_,hc,?_,?_,?_,?_⟩
 ·rintro rfl
  exact own_blk_ne ho hb (by decide) rfl
 ·exact h4 _ _ (by have:=rowCells_at l k hk 0 (by omega);rw [show k*4=4*k+0 by omega,this];rfl)
 ·exact h4 _ _ (by have:=rowCells_at l k hk 1 (by omega);rw [show k*4+1=4*k+1 by omega,this];rfl)
 ·exact h4 _ _ (by have:=rowCells_at l k hk 2 (by omega);rw [show k*4+2=4*k+2 by omega,this];rfl)
 ·exact h4 _ _ (by have:=rowCells_at l k hk 3 (by omega);rw [show k*4+3=4*k+3 by omega,this];rfl)
structure CRes where
 c:Int
 s:Int
 h:Int
 b:Bool
 e:Int
def CRes.val (R:CRes):Value:=.tuple #[.agg #[.int .i64 R.c,.int .u64 R.s,.int .i64 R.h],.bool R.b,.int .i64 R.e]
def chk (t:Bool) (r:SRow) (seq:Int):CRes :=
 if t=false then ⟨0,0,0,false,150⟩ else if seq=0∨seq<r.seq then ⟨0,0,0,false,151⟩ else if seq=r.seq then ⟨r.code,r.sess,r.had,true,0⟩ else ⟨0,0,0,false,0⟩
def rowAt (l:List SRow) (id:Int):SRow:=l.getD (id-1).toNat SRow.zero
theorem rowAt_succ (l:List SRow) (k:Nat) (hk:k<l.length):rowAt l ((k:Int)+1)=l[k]:=by
 unfold rowAt
 rw [show ((k:Int)+1-1).toNat=k by omega]
 simp [List.getD,hk]
theorem thereB_succ (l:List SRow) (k:Nat) (hk:k<l.length):thereB l ((k:Int)+1)=true:=by
 unfold thereB;simp;omega
theorem Tab.touch {w w':World} {p:Nat} {v:Value} {l:List SRow} {S:Nat→Prop} (h:Tab w p v l) (ht:Touch S w w') (hp:¬ S p) (hv:∀ g,v.ownBlock=some g→¬ S g):Tab w' p v l :=
 ⟨h.1.touch ht hp,own_touch h.2 ht hv⟩
theorem Tab.alloc {w:World} {p:Nat} {v:Value} {l:List SRow} (h:Tab w p v l) (o:Obj):Tab (w.alloc o) p v l :=
 h.touch (S:=fun _=>False) ((Touch.refl _ _).alloc o) (fun f=>f) (fun _ _ f=>f)
theorem Tab.len {w:World} {p:Nat} {v:Value} {l:List SRow} (h:Tab w p v l):l.length≤9223372036854775807:=by
 have:=own_le h.2
 unfold maxLen at this
 omega
theorem ses_check (w:World) (p:Nat) (v:Value) (l:List SRow) (h:Tab w p v l) (id seq:Int) (R:CRes) (hR:chk (thereB l id) (rowAt l id) seq=R) :
  Calls Tryz.prog 36 #[.pointer (some ⟨p,0,none⟩),.int .u64 id,.int .u64 seq] w fun e w' =>
   e=.returned R.val∧Touch (fun _=>False) w w':=by
 subst hR
 cases ht:thereB l id with
 | false =>
  have H:=hide (show chk false (rowAt l id) seq=⟨0,0,0,false,150⟩ from rfl)
  go_enter Tryz.func36,Tryz.ntmps36
  go_wp2_with (go_at_call 80;refine (ses_there _ p v l (h.alloc _) id).mono ?_;rintro e w' ⟨rfl,rfl⟩)
  refine bodyPost_ret (v:=CRes.val ⟨0,0,0,false,150⟩) (by simp [results,Tryz.results36,CRes.val,go_sem]) rfl ⟨?_,(Touch.refl _ _).alloc _⟩
  rw [H.out]
 | true =>
  obtain ⟨k,rfl,hk⟩:=thereB_at l id ht
  have hl:=h.len
  rw [rowAt_succ l k hk]
  obtain ⟨g,cap,rfl,n1,n2,n3,n4,n5,c0,c1,c2,c3,c4⟩:=tab_row h k hk
  unfold maxLen at n2
  obtain ⟨⟨rs,rc,rr,rh⟩,hr⟩:∃ r,r=l[k]:=⟨_,rfl⟩
  rw [← hr] at c1 c2 c3 c4 ⊢
  clear hr
  by_cases h0:seq=0
  ·subst h0
   go_enter Tryz.func36,Tryz.ntmps36
   go_wp2_with (go_at_call 80;refine (ses_there _ p _ l (h.alloc _) _).mono ?_;rintro e w' ⟨rfl,rfl⟩)
   refine bodyPost_ret (v:=CRes.val ⟨0,0,0,false,151⟩) (by simp [results,Tryz.results36,CRes.val,go_sem]) rfl ⟨?_,((Touch.refl _ _).alloc _).alloc _⟩
   simp [chk]
  have b0:(seq == 0)=false:=by simpa using h0
  by_cases h1:seq<rs
  ·go_enter Tryz.func36,Tryz.ntmps36
   go_wp2_with (go_at_call 80;refine (ses_there _ p _ l (h.alloc _) _).mono ?_;rintro e w' ⟨rfl,rfl⟩)
   refine bodyPost_ret (v:=CRes.val ⟨0,0,0,false,151⟩) (by simp [results,Tryz.results36,CRes.val,go_sem]) rfl ⟨?_,((Touch.refl _ _).alloc _).alloc _⟩
   simp [chk,h1]
  have b1:decide (seq<rs)=false:=by simpa using h1
  by_cases h2:seq=rs
  ·subst h2
   go_enter Tryz.func36,Tryz.ntmps36
   go_wp2_with (go_at_call 80;refine (ses_there _ p _ l (h.alloc _) _).mono ?_;rintro e w' ⟨rfl,rfl⟩)
   refine bodyPost_ret (v:=CRes.val ⟨rc,rr,rh,true,0⟩) (by simp [results,Tryz.results36,CRes.val,go_sem]) rfl ⟨?_,((Touch.refl _ _).alloc _).alloc _⟩
   simp [chk,h0]
  ·have b2:(seq == rs)=false:=by simpa using h2
   go_enter Tryz.func36,Tryz.ntmps36
   go_wp2_with (go_at_call 80;refine (ses_there _ p _ l (h.alloc _) _).mono ?_;rintro e w' ⟨rfl,rfl⟩)
   refine bodyPost_ret (v:=CRes.val ⟨0,0,0,false,0⟩) (by simp [results,Tryz.results36,CRes.val,go_sem]) rfl ⟨?_,((Touch.refl _ _).alloc _).alloc _⟩
   simp [chk,h0,h2,show ¬ seq<rs by omega]
def keepB (l:List SRow) (id seq:Int):Bool:=thereB l id && decide ((rowAt l id).seq<seq)
theorem rowCells_len (l:List SRow):(rowCells l).length=l.length*4:=by
 induction l with
 | nil=>rfl
 | cons r l ih =>
  simp only [rowCells,List.flatMap_cons,List.length_append,List.length_cons] at ih ⊢
  rw [ih,show r.cells.length=4 from rfl]
  omega
theorem rowCells_set (l:List SRow) (k:Nat) (hk:k<l.length) (r:SRow) :
  ((((rowCells l).set (k*4) (.int .u64 r.seq)).set (k*4+1) (.int .i64 r.code)).set (k*4+2) (.int .u64 r.sess)).set (k*4+3) (.int .i64 r.had)=rowCells (l.set k r):=by
 induction l generalizing k with
 | nil=>simp at hk
 | cons q l ih =>
  cases k with
  | zero=>simp [rowCells,SRow.cells]
  | succ k =>
   have:=ih k (by simpa using hk)
   simp only [rowCells,List.flatMap_cons,List.set_cons_succ] at this ⊢
   rw [← this]
   simp only [SRow.cells,show (k+1)*4=k*4+4 by omega,List.cons_append,List.nil_append,List.set_cons_succ,show ∀ j,k*4+4+j=(k*4+j)+4 by omega]
theorem Tab.set {w:World} {p g cap:Nat} {l:List SRow} (h:Tab w p (.slice (some ⟨g,0,none⟩) l.length cap) l) (k:Nat) (hk:k<l.length) (r:SRow) :
  Tab ((((w.setCell ⟨g,k*4,none⟩ (.int .u64 r.seq)).setCell ⟨g,k*4+1,none⟩ (.int .i64 r.code)).setCell ⟨g,k*4+2,none⟩ (.int .u64 r.sess)).setCell ⟨g,k*4+3,none⟩ (.int .i64 r.had))
   p (.slice (some ⟨g,0,none⟩) l.length cap) (l.set k r):=by
 obtain ⟨hb,ho⟩:=h
 have hpg:p≠g:=by
  rintro rfl
  exact own_blk_ne ho hb (by decide) rfl
 refine ⟨(((hb.far (p:=⟨g,_,none⟩) hpg _).far (p:=⟨g,_,none⟩) hpg _).far (p:=⟨g,_,none⟩) hpg _).far (p:=⟨g,_,none⟩) hpg _,?_⟩
 rw [← rowCells_set l k hk r,List.length_set]
 exact own_set (own_set (own_set (own_set ho _ _) _ _) _ _) _ _
def fp (p:Nat) (v:Value):Nat→Prop:=fun k=>k=p∨v.ownBlock=some k
theorem ses_keep_yes (w:World) (p:Nat) (v:Value) (l:List SRow) (h:Tab w p v l) (id seq:Int) (a:SRow) (hk:keepB l id seq=true) :
  Calls Tryz.prog 37 #[.pointer (some ⟨p,0,none⟩),.int .u64 id,.int .u64 seq,.agg #[.int .i64 a.code,.int .u64 a.sess,.int .i64 a.had]] w fun e w' =>
   e=.returned (.bool true)∧Tab w' p v (l.set (id-1).toNat { a with seq:=seq })∧Touch (fp p v) w w':=by
 have ht:thereB l id=true:=by unfold keepB at hk;simp at hk;exact hk.1
 obtain ⟨k,rfl,hkl⟩:=thereB_at l id ht
 have hl:=h.len
 unfold keepB at hk
 rw [rowAt_succ l k hkl,ht] at hk
 simp at hk
 have h1:=h.alloc (.cells #[.int .i64 a.code,.int .u64 a.sess,.int .i64 a.had] 32)
 obtain ⟨g,cap,rfl,n1,n2,n3,n4,n5,c0,c1,c2,c3,c4⟩:=tab_row h k hkl
 have hf:=(own_form h.2 (by omega))
 obtain ⟨g',cap',hv',_,_,_,_,hf⟩:=hf
 injection hv' with hg' _ _
 injection hg' with hg'
 injection hg' with hg'
 subst hg'
 have f0:=hf (k*4)
 have f1:=hf (k*4+1)
 have f2:=hf (k*4+2)
 have f3:=hf (k*4+3)
 clear hf
 unfold maxLen at n2
 obtain ⟨⟨rs,rc,rr,rh⟩,hr⟩:∃ r,r=l[k]:=⟨_,rfl⟩
 rw [← hr] at c1 c2 c3 c4 hk
 clear hr
 simp only at hk
 go_enter Tryz.func37,Tryz.ntmps37
 go_wp2_with (go_at_call 80;refine (ses_there _ p _ l (h.alloc _) _).mono ?_;rintro e w' ⟨rfl,rfl⟩)
 go_region
 all_goals go_wp2
 go_ret
 refine ⟨rfl,?_,?_⟩
 ·rw [show ((k:Int)+1-1).toNat=k by omega]
  exact (Tab.set h k hkl { a with seq:=seq }).alloc _
 ·have hg:fp p (.slice (some ⟨g,0,none⟩) l.length cap) g:=.inr rfl
  exact ((((((Touch.refl _ _).setCell (p:=⟨g,_,none⟩) (fun _=>hg) _).setCell (p:=⟨g,_,none⟩) (fun _=>hg) _).setCell (p:=⟨g,_,none⟩) (fun _=>hg) _).setCell (p:=⟨g,_,none⟩) (fun _=>hg) _).alloc _).drew
theorem ses_full (w:World) (p:Nat) (v:Value) (l:List SRow) (h:Tab w p v l) (hl:l.length=4096) :
  Calls Tryz.prog 33 #[.pointer (some ⟨p,0,none⟩)] w fun e w' =>
   e=.returned (.tuple #[.int .u64 0,.int .i64 152])∧w=w':=by
 obtain ⟨hb,ho⟩:=h
 obtain ⟨A,c,hv,_,hc⟩:=own_len ho
 subst hv
 have c0:=hb.cell 0
 simp at c0
 rw [hl] at c0
 clear ho hb
 go_enter Tryz.func33,Tryz.ntmps33
 go_wp2
 go_ret2
 exact ⟨rfl,rfl⟩
theorem rowCells_snoc (l:List SRow) (r:SRow):rowCells (l++[r])=rowCells l++r.cells:=by simp [rowCells]
theorem ses_open (w:World) (p:Nat) (v:Value) (l:List SRow) (h:Tab w p v l) (hl:l.length<4096) :
  Calls Tryz.prog 33 #[.pointer (some ⟨p,0,none⟩)] w fun e w' =>
   e=.returned (.tuple #[.int .u64 ((l.length:Int)+1),.int .i64 0])∧∃ v',Tab w' p v' (l++[SRow.zero])∧Touch (fp p v) w w'∧Fresh w v v':=by
 obtain ⟨hb,ho⟩:=h
 obtain ⟨A,c,hv,_,hc⟩:=own_len ho
 have c0:=hb.cell 0
 have f0:=hb.frozen 0
 simp at c0
 have hp:=hb.lt
 have HO:=hide ho
 have HV:=hide hv
 have HB:=hide hb
 rw [hv] at c0
 clear hv ho hb
 obtain ⟨i0,hi,hz0,hz1,hz2⟩:=info_parts Tryz.infoRow
 go_enter Tryz.func33,Tryz.ntmps33
 go_wp2_with (at_builtin;refine wpList_app _ rfl _ _ 106 rfl 110 i0 (.agg #[.int .u64 0,.int .i64 0,.int .u64 0,.int .i64 0]) 4 32 Tryz.underlying106 hi hz0 hz1 hz2 rfl (by decide) _ _ _ rfl (HV.out ▸ HO.out.alloc _) (some ⟨w.heap.size,0,none⟩) 1 1 SRow.zero.cells rfl ?c1 ?c2 ?c3 ?c4 ?c5 ?_)
 case c1=>exact Reads.new _ _ _ _ rfl
 case c2=>exact fun h=>by cases h
 case c3=>exact List.all_eq_true.1 rfl
 case c4=>unfold maxLen;omega
 case c5=>omega
 intro v' w1 hown hgrow hfr _
 have hb1:Blk w1 p 149 #[v]:=(HB.out.alloc _).grown hgrow (fun e=>own_blk_ne HO.out HB.out (by decide) (by rw [HV.out];exact e.symm))
 have hsz:w.heap.size+1≤w1.heap.size:=by simpa using hgrow.size
 have c1:=hb1.cell 0
 have f1:=hb1.frozen 0
 simp at c1
 have hex:∃ A' c',v'=.slice A' (l.length+1) c':=by
  obtain ⟨A',c',h,_⟩:=own_len hown
  exact ⟨A',c',h⟩
 obtain ⟨A',c',hv'⟩:=hex
 have HW:=hide (show l.length+1≤maxLen∧w1.ownsRow 0 110 4 v' (l.length+1) (rowCells l++SRow.zero.cells)∧(w.alloc (.cells SRow.zero.cells.toArray 110)).grownBy w1 v.ownBlock∧Fresh w v v'∧Blk w1 p 149 #[v] from ⟨by unfold maxLen;omega,hown,by rw [HV.out];exact hgrow,by
  rcases hfr with h | ⟨g,h,hg⟩
  ·exact .inl (by rw [h,HV.out])
  ·exact .inr ⟨g,h,by simp at hg;omega⟩,hb1⟩)
 clear hown hgrow hfr hb1
 have HV':=hide hv'
 rw [hv']
 clear hv'
 go_wp2
 go_ret2
 obtain ⟨_,h1,h2,h3,h4⟩:=HW.out
 refine ⟨rfl,v',⟨?_,?_⟩,?_,h3⟩
 ·rw [HV'.out]
  exact h4.set_ 0 _
 ·rw [rowCells_snoc]
  have:=own_setCell_far (a:=⟨p,0,none⟩) h1 (own_blk_ne h1 h4 (by decide)) (.slice A' (l.length+1) c')
  simpa using this
 ·exact (((Touch.refl _ _).alloc _).app h2 (fun g hg _=>.inr hg)).setCell (p:=⟨p,0,none⟩) (fun _=>.inl rfl) _
theorem srow_one (l:List SRow):∀ u∈rowCells l,u.oneCell'=true:=by
 intro u hu
 simp only [rowCells,List.mem_flatMap] at hu
 obtain ⟨r,_,hu⟩:=hu
 simp only [SRow.cells,List.mem_cons,List.not_mem_nil,or_false] at hu
 rcases hu with rfl | rfl | rfl | rfl<;>rfl
theorem srow_clone (w:World) (A:Option Addr) (n c:Nat) (l:List SRow) (hl:n=l.length) (hr:Reads w 4 A n (rowCells l)) (hA:A=none→n=0∧c=0) (hn:n*32≤140737488355328) :
  Calls Tryz.prog 112 #[.slice A n c] w fun e w' =>
   ∃ v',e=.returned v'∧w'.ownsRow 0 110 4 v' n (rowCells l)∧Touch (fun _=>False) w w'∧∀ g,v'.ownBlock=some g→w.heap.size≤g:=by
 have q47:∀ (w:World) (a:Option Addr) (n c n' c':Nat),(binOp .eql 106 (.slice a n c) (.slice none n' c')).run Tryz.prog w=.ok (.bool a.isNone) w:=fun w a n c n' c'=>Lib.run_eql_slice_nil w _ _ a n c n' c' Tryz.underlying106
 obtain ⟨i0,hi,hz0,hz1,hz2⟩:=info_parts Tryz.infoRow
 cases A with
 | none =>
  obtain ⟨rfl,rfl⟩:=hA rfl
  have h0:l=[]:=List.eq_nil_of_length_eq_zero hl.symm
  subst h0
  clear hr hA hn hl
  go_enter Tryz.func112,Tryz.ntmps112
  go_wp2
  go_ret
  exact ⟨_,rfl,World.ownsRow_nil _ _ _ _,Touch.refl _ _,fun g hg=>by cases hg⟩
 | some ad =>
  have HR:=hide hr
  have HL:=hide hl
  clear hr hl hA
  go_enter Tryz.func112,Tryz.ntmps112
  go_wp2_with (at_builtin;refine wpList_app _ rfl _ _ 106 rfl 110 i0 (.agg #[.int .u64 0,.int .i64 0,.int .u64 0,.int .i64 0]) 4 32 Tryz.underlying106 hi hz0 hz1 hz2 rfl (by decide) _ 0 [] rfl (World.ownsRow_made _ #[] 0 (Nat.zero_le _) (by decide) rfl) (some ad) n c (rowCells l) rfl (HR.out.alloc _) ?c2 (srow_one l) ?c4 ?c5 ?_)
  case c2=>exact fun h=>by cases h
  case c4=>unfold maxLen;omega
  case c5=>omega
  intro v' w1 hown hgrow hfr _
  have HW:=hide (show w1.ownsRow 0 110 4 v' n (rowCells l)∧Touch (fun _=>False) w w1∧∀ g,v'.ownBlock=some g→w.heap.size≤g from ⟨by simpa using hown,((Touch.refl _ _).alloc _).grown hgrow (fun k hk hlt=>by simp [Value.ownBlock] at hk;omega),fun g hg=>by
   rcases hfr with h | ⟨g',h,hg'⟩
   ·rw [h] at hg;simp [Value.ownBlock] at hg;omega
   ·rw [h] at hg;simp at hg hg';omega⟩)
  clear hown hgrow hfr
  go_wp2
  go_ret
  obtain ⟨h1,h2,h3⟩:=HW.out
  exact ⟨_,rfl,h1,h2,h3⟩
theorem own_nilOk {w:World} {base:Nat} {e:TypeId} {size n:Nat} {A:Option Addr} {c:Nat} {xs:List Value} (h:w.ownsRow base e size (.slice A n c) n xs):A=none→n=0∧c=0:=by
 rintro rfl
 rcases h.2 with ⟨h1,rfl⟩ | ⟨g,cap,cur,h1,_⟩
 ·injection h1 with _ _ h3
  exact ⟨rfl,h3⟩
 ·injection h1 with h1 _ _
  cases h1
theorem ses_rows (w:World) (p:Nat) (v:Value) (l:List SRow) (h:Tab w p v l) (hn:l.length≤4096) :
  Calls Tryz.prog 50 #[.pointer (some ⟨p,0,none⟩)] w fun e w' =>
   ∃ v',e=.returned v'∧w'.ownsRow 0 110 4 v' l.length (rowCells l)∧Touch (fun _=>False) w w'∧∀ g,v'.ownBlock=some g→w.heap.size≤g:=by
 obtain ⟨hb,ho⟩:=h
 obtain ⟨A,c,hv,_,hc⟩:=own_len ho
 subst hv
 have c0:=hb.cell 0
 simp at c0
 have H:=hide ho
 clear ho hb
 go_enter Tryz.func50,Tryz.ntmps50
 go_wp2_with (go_at_call 112;refine (srow_clone w A l.length c l rfl (Reads.of_own H.out) (own_nilOk H.out) (by omega)).mono ?_;rintro e w' ⟨v',rfl,hown⟩;have H2:=hide hown;clear hown)
 go_ret
 exact ⟨_,rfl,H2.out⟩
theorem wpList_clearS {P:Program} (w:World) {ops:Array Oper} {rest:List Oper} {o:Oper} {a:Act} {Q:Exit→Act→World→Prop}
  (hg:o.guard=none) (x:Operand) (t:TypeId) (hop:o.op=Op.call { callee:=Callee.builtin Builtin.clear,args:=#[x],argTypes:=#[t] })
  (e:TypeId) (z:Value) (size:Nat) (h1:P.underlying t=some (.slice e)) (hv:∀ w,(zeroValue e).run P w=.ok z w) (h6:z.cells.size=size) (hone:∀ u∈z.cells.toList,u.oneCell'=true)
  (v:Value) (n:Nat) (xs:List Value) (hs:a.eval x=v) (hown:w.ownsRow 0 e size v n xs)
  (hK:∀ w',w.grownBy w' v.ownBlock→wpList P ops Q rest (a.put o.dst (.tuple #[])) w') :
  wpList P ops Q (o :: rest) a w:=by
 refine wpList_plain hg fun K hK'=>?_
 have main:∃ w',(Builtin.clear_ #[t] o.type #[v]).run P w=.ok (.tuple #[]) w'∧w.grownBy w' v.ownBlock:=by
  rcases hown.2 with ⟨rfl,rfl⟩ | ⟨g,cap,cur,rfl,_,hgg,hnc,hcm,hcs,ht⟩
  ·exact ⟨w,by simp [Builtin.clear_,run_underlying h1],World.grownBy.refl _ _⟩
  ·cases n with
   | zero=>exact ⟨w,by simp [Builtin.clear_,run_underlying h1],World.grownBy.refl _ _⟩
   | succ n =>
    have hfit:0+(Builtin.zeroCells z.cells (n+1)).toList.length≤cur.size:=by
     rw [Array.length_toList,size_zeroCells,h6,hcs,Nat.zero_add]
     exact Nat.mul_le_mul_right _ hnc
    have hst:=run_storeCells_at P g 0 e (Builtin.zeroCells z.cells (n+1)).toList 0 cur w hgg (by simpa using hfit) (by
     intro u hu
     have hu':u∈Builtin.zeroCells z.cells (n+1):=Array.mem_toList_iff.1 hu
     unfold Builtin.zeroCells at hu'
     simp only [Array.mem_map,Array.mem_range] at hu'
     obtain ⟨k,hk,rfl⟩:=hu'
     have hpos:0<z.cells.size:=by
      rcases Nat.eq_zero_or_pos z.cells.size with h | h
      ·rw [h] at hk;omega
      ·exact h
     rw [getElem!_pos z.cells _ (Nat.mod_lt _ hpos)]
     exact hone _ (Array.mem_toList_iff.2 (Array.getElem_mem _)))
    obtain ⟨X,hX⟩:∃ X,(storeCells ⟨g,0,none⟩ (Builtin.zeroCells z.cells (n+1)).toList).run P w=.ok () (w.setRow g X):=⟨_,hst⟩
    refine ⟨w.setRow g X,by simp [Builtin.clear_,run_underlying h1,hv,hX],⟨rfl,rfl,rfl,by simp,fun k _ hk=>setRow_other w g k _ (fun e=>hk (by simp [Value.ownBlock,e]))⟩⟩
 obtain ⟨w',r1,r2⟩:=main
 unfold Oper.wp
 simp [execOp,hop,resolve,invoke,builtin,hs,r1,Result.andThen]
 exact hK' _ _ (hK w' r2)
theorem Tryz.zeroRow (w:World):(zeroValue 110).run Tryz.prog w=.ok (.agg #[.int .u64 0,.int .i64 0,.int .u64 0,.int .i64 0]) w:=by kernel_rfl
def goodRow (r:SRow):Bool:=!(r.seq == 0) || (r == SRow.zero)
theorem own_row {w:World} {A:Option Addr} {n c:Nat} {l:List SRow} (h:w.ownsRow 0 110 4 (.slice A n c) n (rowCells l)) (hl:n=l.length) (k:Nat) (hk:k<n) :
  ∃ g,A=some ⟨g,0,none⟩∧g<w.heap.size∧w.cell? ⟨g,k*4,none⟩=some (.int .u64 (l.getD k SRow.zero).seq)∧w.cell? ⟨g,k*4+1,none⟩=some (.int .i64 (l.getD k SRow.zero).code) ∧
   w.cell? ⟨g,k*4+2,none⟩=some (.int .u64 (l.getD k SRow.zero).sess)∧w.cell? ⟨g,k*4+3,none⟩=some (.int .i64 (l.getD k SRow.zero).had):=by
 obtain ⟨g,cap,hv,_,_,hg,hc,_⟩:=own_form h (by omega)
 injection hv with hA' _ _
 have hk':k<l.length:=by omega
 have e:l.getD k SRow.zero=l[k]:=by simp [List.getD,hk']
 rw [e]
 refine ⟨g,hA',hg,?_,?_,?_,?_⟩
 ·exact hc _ _ (by have:=rowCells_at l k hk' 0 (by omega);rw [show k*4=4*k+0 by omega,this];rfl)
 ·exact hc _ _ (by have:=rowCells_at l k hk' 1 (by omega);rw [show k*4+1=4*k+1 by omega,this];rfl)
 ·exact hc _ _ (by have:=rowCells_at l k hk' 2 (by omega);rw [show k*4+2=4*k+2 by omega,this];rfl)
 ·exact hc _ _ (by have:=rowCells_at l k hk' 3 (by omega);rw [show k*4+3=4*k+3 by omega,this];rfl)
theorem stake_all (l:List SRow) (k:Nat) (hk:k<l.length) (h:(l.take k).all goodRow=true) (hg:goodRow (l.getD k SRow.zero)=true):(l.take (k+1)).all goodRow=true:=by
 have e:l.getD k SRow.zero=l[k]:=by simp [List.getD,hk]
 rw [e] at hg
 rw [List.take_succ_eq_append_getElem hk,List.all_append,h]
 simpa using hg
theorem not_all (l:List SRow) (k:Nat) (hk:k<l.length) (hg:goodRow (l.getD k SRow.zero)=false):l.all goodRow=false:=by
 have e:l.getD k SRow.zero=l[k]:=by simp [List.getD,hk]
 rw [e] at hg
 rw [List.all_eq_false]
 exact ⟨l[k],List.getElem_mem _,by simp [hg]⟩
theorem ses_load (w:World) (A:Option Addr) (n c:Nat) (l:List SRow) (hl:n=l.length) (hr:Reads w 4 A n (rowCells l)) (hA:A=none→n=0∧c=0) (hn:n≤4096) :
  Calls Tryz.prog 58 #[.slice A n c] w fun e w' =>
   Touch (fun _=>False) w w' ∧
   ((l.all goodRow=false∧e=.returned (.tuple #[.pointer none,.bool false])) ∨
    (l.all goodRow=true∧∃ q v',e=.returned (.tuple #[.pointer (some ⟨q,0,none⟩),.bool true])∧Tab w' q v' l∧w.heap.size≤q∧∀ g,v'.ownBlock=some g→w.heap.size≤g)):=by
 have HR:=hide hr
 have HL:=hide hl
 have HA:=hide hA
 clear hr hl hA
 go_enter Tryz.func58,Tryz.ntmps58
 go_wp2_with (go_at_call 112;refine (srow_clone w A n c l HL.out HR.out HA.out (by omega)).mono ?_;rintro e w' ⟨v',rfl,hown⟩;have H2:=hide hown;obtain ⟨A',c',hv',_⟩:=own_len hown.1;clear hown;subst hv')
 obtain ⟨h1,h2,h3⟩:=H2.out
 have HL':=HL.out
 clear H2 HR HL HA
 go_loopw [13] (fun i wr=>∃ k:Nat,k≤n∧i=.int .i64 k∧(l.take k).all goodRow=true∧Touch (fun _=>False) w wr∧wr.ownsRow 0 110 4 (.slice A' n c') n (rowCells l))
  (fun i _=>n-(intOf i).toNat)
 case atStart=>exact ⟨0,Nat.zero_le _,rfl,rfl,h2,h1⟩
 case round =>
  obtain ⟨k,hk,rfl,hall,ht,hown⟩:=hrel
  by_cases hkn:k<n
  ·have hown':=hide hown
   obtain ⟨g,hA',hg,c0,c1,c2,c3⟩:=own_row hown HL' k hkn
   subst hA'
   clear hown
   have HALL:=hide hall
   have HT:=hide ht
   have HL2:=hide HL'
   clear hall ht
   have H2':=hide (And.intro h2 h3)
   clear h1 h2 h3 HL'
   obtain ⟨r,hr⟩:∃ r,r=l.getD k SRow.zero:=⟨_,rfl⟩
   rw [← hr] at c0 c1 c2 c3
   have HR:=hide hr
   clear hr
   obtain ⟨rs,rc,rr,rh⟩:=r
   simp only at c0 c1 c2 c3
   by_cases h0:rs=0
   ·subst h0
    have HO2:=hide (hown'.out.alloc (.cells #[.int .u64 0,.int .i64 rc,.int .u64 rr,.int .i64 rh] 110))
    go_wp2_with (with_reducible refine wpList_clearS _ rfl (.tmp 25) 106 rfl 110 (.agg #[.int .u64 0,.int .i64 0,.int .u64 0,.int .i64 0]) 4 Tryz.underlying106 Tryz.zeroRow rfl (List.all_eq_true.1 rfl) (.slice (some ⟨g,0,none⟩) n c') n (rowCells l) rfl (hown'.out.alloc _) ?_)
    ·have e1:rc=0:=by assumption
     have e2:rr=0:=by assumption
     have e3:rh=0:=by assumption
     go_roundw
     case rel=>exact ⟨k+1,by omega,by go_num,stake_all l k (by have:=HL2.out;omega) HALL.out (by rw [← HR.out,e1,e2,e3];rfl),HT.out.alloc _,hown'.out.alloc _⟩
     case measure=>simp [intOf];omega
    all_goals
     intro w1 hgrow
     have HG:=hide hgrow
     clear hgrow
     go_wp2
     go_ret2
     refine ⟨(HT.out.alloc _).app HG.out (fun g' hg' hlt=>by have:=H2'.out.2 g' hg';omega),.inl ⟨not_all l k (by have:=HL2.out;omega) ?_,rfl⟩⟩
     rw [← HR.out]
     simp [goodRow,SRow.zero]
     intros
     simp_all
   ·have b0:(rs == 0)=false:=by simpa using h0
    go_wp2
    go_roundw
    case rel=>exact ⟨k+1,by omega,by go_num,stake_all l k (by have:=HL2.out;omega) HALL.out (by rw [← HR.out];simp [goodRow,h0]),HT.out.alloc _,hown'.out.alloc _⟩
    case measure=>simp [intOf];omega
  ·have hown':=hide hown
   have HALL:=hide hall
   have HT:=hide ht
   have H2':=hide (And.intro h1 (And.intro h2 h3))
   have HL2:=hide HL'
   clear hall ht h1 h2 h3 HL' hown
   go_wp2
   go_ret2
   refine ⟨HT.out.alloc _,.inr ⟨?_,_,_,rfl,⟨Blk.new _ _ _,?_⟩,HT.out.size,H2'.out.2.2⟩⟩
   ·have:=HALL.out
    rwa [List.take_of_length_le (by have:=HL2.out;omega)] at this
   ·have:=hown'.out.alloc (.cells #[.slice A' n c'] 149)
    rw [← HL2.out]
    exact this
end Go.Proofs.YthockgmbooefpaaGreatDoor
namespace Go.Proofs.YthockgmbooefpaaGreatDoor
structure MRow where
 word:ByteArray
 weight:Int
 dist:Int
theorem MRow.ext' {a b:MRow} (h1:a.word=b.word) (h2:a.weight=b.weight) (h3:a.dist=b.dist):a=b:=by
 cases a;cases b;simp_all
def MRow.zero:MRow:=⟨ByteArray.empty,0,0⟩
instance:Inhabited MRow:=⟨MRow.zero⟩
def MRow.cells (r:MRow):List Value:=[.string r.word,.int .i64 r.weight,.int .i64 r.dist]
def mCells (l:List MRow):List Value:=l.flatMap MRow.cells
def better (a b:MRow):Bool :=
 if a.dist=b.dist then (if a.weight=b.weight then Op.bytesLess a.word.toList b.word.toList else decide (b.weight<a.weight)) else decide (a.dist<b.dist)
def wle (a b:MRow):Prop:=better a b=false
def Srt (l:List MRow):Prop:=l.Pairwise fun a b=>wle b a
def Heap (X:List MRow) (n:Nat):Prop:=∀ c,0<c→c<n→wle (X.getD ((c-1) / 2) MRow.zero) (X.getD c MRow.zero)
end Go.Proofs.YthockgmbooefpaaGreatDoor
namespace Go.Proofs.YthockgmbooefpaaGreatDoor
open Go.RowKit
theorem cstring_any (a b:ByteArray) (w:World) :
  Calls Tryz.prog 153 #[.string a,.string b] w fun e w'=>e=.returned (.int .i64 (Lib.compareBytes a.data.toList b.data.toList))∧w'=w:=by
 go_enter Tryz.func153,Tryz.ntmps153
 go_wp2
 rw [run_callFunc_extern Tryz.func180 (by kernel_rfl) (by kernel_rfl) (by kernel_rfl) (e:=Extern.BytealgCompare.compare) (by kernel_rfl),Lib.run_compareString]
 simp only [Result.andThen]
 rw [Oper.upon_value]
 go_wp2
 go_ret
 exact ⟨rfl,rfl⟩
theorem compare_any (a b:ByteArray) (w:World) :
  Calls Tryz.prog 106 #[.string a,.string b] w fun e w'=>e=.returned (.int .i64 (Lib.compareBytes a.data.toList b.data.toList))∧w'=w:=by
 go_enter Tryz.func106,Tryz.ntmps106
 go_wp2_with (go_at_call 153;refine (cstring_any _ _ _).mono ?_;rintro e w' ⟨rfl,rfl⟩)
 go_ret
 exact ⟨rfl,rfl⟩
abbrev cmpF:Value:=.func (.func 177) #[] #[]
theorem cmp_any (a b:PRow) (w:World) :
  Calls Tryz.prog 177 #[a.val,b.val] w fun e w'=>(∃ z:Int,e=.returned (.int .i64 z)∧decide (z<0)=plt a b)∧Touch (fun _=>False) w w':=by
 obtain ⟨aw,an⟩:=a
 obtain ⟨bw,bn⟩:=b
 rw [pval_eq,pval_eq]
 go_enter Tryz.func177,Tryz.ntmps177
 go_wp2_with (go_at_call 106;refine (compare_any aw bw _).mono ?_;rintro e w' ⟨rfl,rfl⟩)
 go_ret
 refine ⟨⟨_,rfl,?_⟩,((Touch.refl _ _).alloc _).alloc _⟩
 rw [compare_neg]
 show Op.bytesLess aw.data.toList bw.data.toList=Op.bytesLess aw.toList bw.toList
 rw [Go.ByteArray.toList_eq,Go.ByteArray.toList_eq]
def swrF (X:List PRow) (a b:Nat):Nat→List PRow
 | 0=>X
 | k+1=>swpP (swrF X a b k) (a+k) (b+k)
theorem swr_any (w:World) (A:Option Addr) (n c:Nat) (X:List PRow) (h:POwn w A n c X) (a b k:Nat) (ha:a+k≤n) (hb:b+k≤n) (F:Value) :
  Calls Tryz.prog 195 #[.slice A n c,.int .i64 a,.int .i64 b,.int .i64 k,F] w fun e w'=>e=.returned (.tuple #[])∧POwn w' A n c (swrF X a b k)∧Touch (fun g=>adBlock A=some g) w w':=by
 have hn:=own_le h
 unfold maxLen at hn
 have HX:=hide h
 have HL:=hide (pown_len h)
 clear h
 go_enter Tryz.func195,Tryz.ntmps195
 go_wp2
 go_loopw [10] (fun iv wr=>∃ i:Nat,i≤k∧iv=.int .i64 i∧Hid (POwn wr A n c (swrF X a b i))∧Hid (Touch (fun g=>adBlock A=some g) w wr)) (fun iv _=>k-(intOf iv).toNat)
 case atStart=>exact ⟨0,Nat.zero_le _,rfl,HX,hide (Touch.refl _ _)⟩
 case round =>
  obtain ⟨i,hi,rfl,HO,HT⟩:=hrel
  by_cases hik:i<k
  ·obtain ⟨Y,hY⟩:∃ Y,Y=swrF X a b i:=⟨_,rfl⟩
   have HYE:=hide hY
   rw [← hY] at HO
   have hl:=pown_len HO.out
   obtain ⟨x,hx0⟩:∃ x,x=a+i:=⟨_,rfl⟩
   obtain ⟨y,hy0⟩:∃ x,x=b+i:=⟨_,rfl⟩
   obtain ⟨g,rfl,hg,a0,a1,f0,f1⟩:=pown_at HO.out hl x (by omega)
   obtain ⟨g',hA,_,b0,b1,f3,f4⟩:=pown_at HO.out hl y (by omega)
   injection hA with hA
   injection hA with hA _
   subst hA
   obtain ⟨⟨xw,xn⟩,hx⟩:∃ r,r=Y.getD x PRow.zero:=⟨_,rfl⟩
   obtain ⟨⟨yw,yn⟩,hy⟩:∃ r,r=Y.getD y PRow.zero:=⟨_,rfl⟩
   rw [← hx] at a0 a1
   rw [← hy] at b0 b1
   simp only at a0 a1 b0 b1
   have EX:=hide hx
   have EY:=hide hy
   have EX0:=hide hx0
   have EY0:=hide hy0
   have i0:(i:Int)<(k:Int):=by omega
   have i1:x<n:=by omega
   have i2:y<n:=by omega
   have i3:(a:Int)+(i:Int)=(x:Int):=by omega
   have i4:(b:Int)+(i:Int)=(y:Int):=by omega
   have i5:(x:Int)<(n:Int):=by omega
   have i6:(y:Int)<(n:Int):=by omega
   have i7:IntKind.i64.wrap (x:Int)=(x:Int):=IntWalk.i64_in _ (by omega)
   have i8:IntKind.i64.wrap (y:Int)=(y:Int):=IntWalk.i64_in _ (by omega)
   obtain ⟨v0,s0⟩:=cell?_setCell_some (p:=⟨g,x*2,none⟩) (x:=.string yw) b0
   obtain ⟨v1,s1⟩:=cell?_setCell_some (p:=⟨g,x*2,none⟩) (x:=.string yw) b1
   obtain ⟨v1,s1⟩:=cell?_setCell_some (p:=⟨g,x*2+1,none⟩) (x:=.int .i64 yn) s1
   clear hx hy hY hl hx0 hy0
   go_wp2
   go_region
   all_goals go_wp2
   go_roundw
   ·have HS:=pown_set2 (pown_set2 HO.out x ⟨yw,yn⟩) y ⟨xw,xn⟩
    have e:swpP Y x y=(Y.set x ⟨yw,yn⟩).set y ⟨xw,xn⟩:=by unfold swpP;rw [← EX.out,← EY.out]
    rw [← e] at HS
    have e2:swrF X a b (i+1)=swpP Y x y:=by rw [swrF,← HYE.out,← EX0.out,← EY0.out]
    rw [← e2] at HS
    refine ⟨i+1,by omega,by simp,hide (own_touch (S:=fun _=>False) HS (Touch.refl _ _).drew (fun _ _ f=>f)),hide ?_⟩
    refine Touch.drew ?_
    iterate 4 refine Touch.setCell ?_ (fun _=>(rfl:adBlock (some ⟨g,0,none⟩)=some g)) _
    exact HT.out
   ·show k-(intOf (.int .i64 ((i:Int)+1))).toNat<k-(intOf (.int .i64 (i:Int))).toNat
    simp [intOf]
    omega
  ·have hk':i=k:=by omega
   subst hk'
   go_wp2
   go_end0
   exact ⟨rfl,HO.out,HT.out⟩
def m_key (k:List UInt8) (l:List MRow):List MRow:=l.filter (fun p=>decide (p.word.toList=k))
def m_SameK (A B:List MRow):Prop:=∀ k,m_key k A=m_key k B
theorem m_key_app (k:List UInt8) (A B:List MRow):m_key k (A++B)=m_key k A++m_key k B:=by simp [m_key]
theorem m_SameK.refl (A:List MRow):m_SameK A A:=fun _=>rfl
theorem m_SameK.trans {A B C:List MRow} (h:m_SameK A B) (k:m_SameK B C):m_SameK A C:=fun x=>(h x).trans (k x)
theorem m_SameK.symm {A B:List MRow} (h:m_SameK A B):m_SameK B A:=fun x=>(h x).symm
theorem m_SameK.app {A B C D:List MRow} (h:m_SameK A B) (k:m_SameK C D):m_SameK (A++C) (B++D):=fun x=>by rw [m_key_app,m_key_app,h x,k x]
theorem m_SameK.mem {A B:List MRow} (h:m_SameK A B) {x:MRow} (hx:x∈A):x∈B:=by
 have h1:x∈m_key x.word.toList A:=by simp [m_key,hx]
 rw [h] at h1
 exact (List.mem_filter.1 h1).1
theorem m_SameK.swap {A B:List MRow} (h:∀ a∈A,∀ b∈B,a.word.toList≠b.word.toList):m_SameK (A++B) (B++A):=by
 intro k
 rw [m_key_app,m_key_app]
 by_cases hA:m_key k A=[]
 ·rw [hA];simp
 ·obtain ⟨a,ha⟩:=List.exists_mem_of_ne_nil _ hA
  have ha':=List.mem_filter.1 ha
  have hB:m_key k B=[]:=by
   unfold m_key
   rw [List.filter_eq_nil_iff]
   intro b hb hk
   exact h a ha'.1 b hb ((of_decide_eq_true ha'.2).trans (of_decide_eq_true hk).symm)
  rw [hB];simp
end Go.Proofs.YthockgmbooefpaaGreatDoor
