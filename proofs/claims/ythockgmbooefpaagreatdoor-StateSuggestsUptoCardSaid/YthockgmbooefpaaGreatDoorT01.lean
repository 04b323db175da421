/- What the law rests on, part 1. No condition but those that each theorem names. -/
import Derived.Test.YthockgmbooefpaaGreatDoorT00
import Derived.Test.YthockgmbooefpaaGreatDoorRows
import Derived.Lib.SliceRun
import Derived.Lib.Strings
import Derived.Lib.Slices
import Derived.Lib.Walk
import Derived.BigRegion
set_option linter.unusedSectionVars false
set_option linter.unusedSimpArgs false
set_option linter.unusedVariables false
set_option maxRecDepth 100000
set_option maxHeartbeats 1000000
namespace Go.Proofs.YthockgmbooefpaaGreatDoor
open Go.RowKit
structure SRow where
 seq:Int
 code:Int
 sess:Int
 had:Int
deriving DecidableEq
def SRow.zero:SRow:=⟨0,0,0,0⟩
def SRow.cells (r:SRow):List Value:=[.int .u64 r.seq,.int .i64 r.code,.int .u64 r.sess,.int .i64 r.had]
def rowCells (l:List SRow):List Value:=l.flatMap SRow.cells
def Tab (w:World) (p:Nat) (v:Value) (l:List SRow):Prop :=
 Blk w p 149 #[v]∧w.ownsRow 0 110 4 v l.length (rowCells l)
theorem Tryz.infoRow:(Tryz.prog.info? 110).map (fun i=>(i.zero,i.size,i.bytes))=some (some (.agg #[.int .u64 0,.int .i64 0,.int .u64 0,.int .i64 0]),4,32):=by kernel_rfl
theorem ses_new (w:World):Calls Tryz.prog 31 #[] w fun e w' =>
  e=.returned (.pointer (some ⟨w.heap.size,0,none⟩))∧Tab w' w.heap.size (.slice none 0 0) []∧Touch (fun _=>False) w w':=by
 go_enter Tryz.func31,Tryz.ntmps31
 go_wp2
 go_ret
 exact ⟨rfl,⟨Blk.new _ _ _,World.ownsRow_nil _ _ _ _⟩,(Touch.refl _ _).alloc _⟩
def thereB (l:List SRow) (id:Int):Bool:=decide (1≤id) && decide (id≤(l.length:Int))
theorem ses_there (w:World) (p:Nat) (v:Value) (l:List SRow) (h:Tab w p v l) (id:Int) :
  Calls Tryz.prog 80 #[.pointer (some ⟨p,0,none⟩),.int .u64 id] w fun e w' =>
   e=.returned (.bool (thereB l id))∧w=w':=by
 obtain ⟨hb,ho⟩:=h
 obtain ⟨A,c,hv,_,hc⟩:=own_len ho
 have hm:=own_le ho
 unfold maxLen at hc hm
 subst hv
 have c0:=hb.cell 0
 simp at c0
 clear ho hb
 go_enter Tryz.func80,Tryz.ntmps80
 go_wp2
 ·have h1:1≤id:=by assumption
  go_ret
  exact ⟨by simp [thereB,h1],rfl⟩
 ·have h1:id<1:=by assumption
  go_ret
  exact ⟨by simp [thereB,show ¬ 1≤id by omega],rfl⟩
theorem thereB_at (l:List SRow) (id:Int) (h:thereB l id=true):∃ k:Nat,id=(k:Int)+1∧k<l.length:=by
 unfold thereB at h
 simp at h
 exact ⟨(id-1).toNat,by omega,by omega⟩
theorem rowCells_at (l:List SRow) (k:Nat) (hk:k<l.length) (j:Nat) (hj:j<4):(rowCells l)[4*k+j]? = (l[k].cells)[j]? := by
 induction l generalizing k with
 | nil=>simp at hk
 | cons r l ih =>
  have hl:r.cells.length=4:=rfl
  cases k with
  | zero =>
   simp only [rowCells,List.flatMap_cons,Nat.mul_zero,Nat.zero_add,List.getElem_cons_zero]
   rw [List.getElem?_append_left (by omega)]
  | succ k =>
   simp only [rowCells,List.flatMap_cons,List.getElem_cons_succ]
   rw [List.getElem?_append_right (by omega),hl,show 4*(k+1)+j-4=4*k+j by omega]
   exact ih k (by simpa using hk)
theorem tab_row {w:World} {p:Nat} {v:Value} {l:List SRow} (h:Tab w p v l) (k:Nat) (hk:k<l.length) :
  ∃ g cap,v=.slice (some ⟨g,0,none⟩) l.length cap∧l.length≤cap∧cap≤maxLen∧g<w.heap.size∧p<w.heap.size∧p≠g∧w.cell? ⟨p,0,none⟩=some (.slice (some ⟨g,0,none⟩) l.length cap) ∧
   w.cell? ⟨g,k*4,none⟩=some (.int .u64 l[k].seq)∧w.cell? ⟨g,k*4+1,none⟩=some (.int .i64 l[k].code) ∧
   w.cell? ⟨g,k*4+2,none⟩=some (.int .u64 l[k].sess)∧w.cell? ⟨g,k*4+3,none⟩=some (.int .i64 l[k].had):=by
 obtain ⟨hb,ho⟩:=h
 obtain ⟨g,cap,rfl,h1,h2,h3,h4,_⟩:=own_form ho (by omega)
 have hc:=hb.cell 0
 simp at hc
 refine ⟨g,cap,rfl,h1,h2,h3,hb.lt,?_,hc,?_,?_,?_,?_⟩
 ·rintro rfl
  exact own_blk_ne ho hb (by decide) rfl
 ·exact h4 _ _ (by have:=rowCells_at l k hk 0 (by omega);rw [show k*4=4*k+0 by omega,this];rfl)
 ·exact h4 _ _ (by have:=rowCells_at l k hk 1 (by omega);rw [show k*4+1=4*k+1 by omega,this];rfl)
 ·exact h4 _ _ (by have:=rowCells_at l k hk 2 (by omega);rw [show k*4+2=4*k+2 by omega,this];rfl)
 ·exact h4 _ _ (by have:=rowCells_at l k hk 3 (by omega);rw [show k*4+3=4*k+3 by omega,this];rfl)
structure CRes where
 c:Int
 s:Int
 h:Int
 b:Bool
 e:Int
def CRes.val (R:CRes):Value:=.tuple #[.agg #[.int .i64 R.c,.int .u64 R.s,.int .i64 R.h],.bool R.b,.int .i64 R.e]
def chk (t:Bool) (r:SRow) (seq:Int):CRes :=
 if t=false then ⟨0,0,0,false,150⟩ else if seq=0∨seq<r.seq then ⟨0,0,0,false,151⟩ else if seq=r.seq then ⟨r.code,r.sess,r.had,true,0⟩ else ⟨0,0,0,false,0⟩
def rowAt (l:List SRow) (id:Int):SRow:=l.getD (id-1).toNat SRow.zero
theorem rowAt_succ (l:List SRow) (k:Nat) (hk:k<l.length):rowAt l ((k:Int)+1)=l[k]:=by
 unfold rowAt
 rw [show ((k:Int)+1-1).toNat=k by omega]
 simp [List.getD,hk]
theorem thereB_succ (l:List SRow) (k:Nat) (hk:k<l.length):thereB l ((k:Int)+1)=true:=by
 unfold thereB;simp;omega
theorem Tab.touch {w w':World} {p:Nat} {v:Value} {l:List SRow} {S:Nat→Prop} (h:Tab w p v l) (ht:Touch S w w') (hp:¬ S p) (hv:∀ g,v.ownBlock=some g→¬ S g):Tab w' p v l :=
 ⟨h.1.touch ht hp,own_touch h.2 ht hv⟩
theorem Tab.alloc {w:World} {p:Nat} {v:Value} {l:List SRow} (h:Tab w p v l) (o:Obj):Tab (w.alloc o) p v l :=
 h.touch (S:=fun _=>False) ((Touch.refl _ _).alloc o) (fun f=>f) (fun _ _ f=>f)
theorem Tab.len {w:World} {p:Nat} {v:Value} {l:List SRow} (h:Tab w p v l):l.length≤9223372036854775807:=by
 have:=own_le h.2
 unfold maxLen at this
 omega
theorem ses_check (w:World) (p:Nat) (v:Value) (l:List SRow) (h:Tab w p v l) (id seq:Int) (R:CRes) (hR:chk (thereB l id) (rowAt l id) seq=R) :
  Calls Tryz.prog 36 #[.pointer (some ⟨p,0,none⟩),.int .u64 id,.int .u64 seq] w fun e w' =>
   e=.returned R.val∧Touch (fun _=>False) w w':=by
 subst hR
 cases ht:thereB l id with
 | false =>
  have H:=hide (show chk false (rowAt l id) seq=⟨0,0,0,false,150⟩ from rfl)
  go_enter Tryz.func36,Tryz.ntmps36
  go_wp2_with (go_at_call 80;refine (ses_there _ p v l (h.alloc _) id).mono ?_;rintro e w' ⟨rfl,rfl⟩)
  refine bodyPost_ret (v:=CRes.val ⟨0,0,0,false,150⟩) (by simp [results,Tryz.results36,CRes.val,go_sem]) rfl ⟨?_,(Touch.refl _ _).alloc _⟩
  rw [H.out]
 | true =>
  obtain ⟨k,rfl,hk⟩:=thereB_at l id ht
  have hl:=h.len
  rw [rowAt_succ l k hk]
  obtain ⟨g,cap,rfl,n1,n2,n3,n4,n5,c0,c1,c2,c3,c4⟩:=tab_row h k hk
  unfold maxLen at n2
  obtain ⟨⟨rs,rc,rr,rh⟩,hr⟩:∃ r,r=l[k]:=⟨_,rfl⟩
  rw [← hr] at c1 c2 c3 c4 ⊢
  clear hr
  by_cases h0:seq=0
  ·subst h0
   go_enter Tryz.func36,Tryz.ntmps36
   go_wp2_with (go_at_call 80;refine (ses_there _ p _ l (h.alloc _) _).mono ?_;rintro e w' ⟨rfl,rfl⟩)
   refine bodyPost_ret (v:=CRes.val ⟨0,0,0,false,151⟩) (by simp [results,Tryz.results36,CRes.val,go_sem]) rfl ⟨?_,((Touch.refl _ _).alloc _).alloc _⟩
   simp [chk]
  have b0:(seq == 0)=false:=by simpa using h0
  by_cases h1:seq<rs
  ·go_enter Tryz.func36,Tryz.ntmps36
   go_wp2_with (go_at_call 80;refine (ses_there _ p _ l (h.alloc _) _).mono ?_;rintro e w' ⟨rfl,rfl⟩)
   refine bodyPost_ret (v:=CRes.val ⟨0,0,0,false,151⟩) (by simp [results,Tryz.results36,CRes.val,go_sem]) rfl ⟨?_,((Touch.refl _ _).alloc _).alloc _⟩
   simp [chk,h1]
  have b1:decide (seq<rs)=false:=by simpa using h1
  by_cases h2:seq=rs
  ·subst h2
   go_enter Tryz.func36,Tryz.ntmps36
   go_wp2_with (go_at_call 80;refine (ses_there _ p _ l (h.alloc _) _).mono ?_;rintro e w' ⟨rfl,rfl⟩)
   refine bodyPost_ret (v:=CRes.val ⟨rc,rr,rh,true,0⟩) (by simp [results,Tryz.results36,CRes.val,go_sem]) rfl ⟨?_,((Touch.refl _ _).alloc _).alloc _⟩
   simp [chk,h0]
  ·have b2:(seq == rs)=false:=by simpa using h2
   go_enter Tryz.func36,Tryz.ntmps36
   go_wp2_with (go_at_call 80;refine (ses_there _ p _ l (h.alloc _) _).mono ?_;rintro e w' ⟨rfl,rfl⟩)
   refine bodyPost_ret (v:=CRes.val ⟨0,0,0,false,0⟩) (by simp [results,Tryz.results36,CRes.val,go_sem]) rfl ⟨?_,((Touch.refl _ _).alloc _).alloc _⟩
   simp [chk,h0,h2,show ¬ seq<rs by omega]
def keepB (l:List SRow) (id seq:Int):Bool:=thereB l id && decide ((rowAt l id).seq<seq)
theorem rowCells_len (l:List SRow):(rowCells l).length=l.length*4:=by
 induction l with
 | nil=>rfl
 | cons r l ih =>
  simp only [rowCells,List.flatMap_cons,List.length_append,List.length_cons] at ih ⊢
  rw [ih,show r.cells.length=4 from rfl]
  omega
theorem rowCells_set (l:List SRow) (k:Nat) (hk:k<l.length) (r:SRow) :
  ((((rowCells l).set (k*4) (.int .u64 r.seq)).set (k*4+1) (.int .i64 r.code)).set (k*4+2) (.int .u64 r.sess)).set (k*4+3) (.int .i64 r.had)=rowCells (l.set k r):=by
 induction l generalizing k with
 | nil=>simp at hk
 | cons q l ih =>
  cases k with
  | zero=>simp [rowCells,SRow.cells]
  | succ k =>
   have:=ih k (by simpa using hk)
   simp only [rowCells,List.flatMap_cons,List.set_cons_succ] at this ⊢
   rw [← this]
   simp only [SRow.cells,show (k+1)*4=k*4+4 by omega,List.cons_append,List.nil_append,List.set_cons_succ,show ∀ j,k*4+4+j=(k*4+j)+4 by omega]
theorem Tab.set {w:World} {p g cap:Nat} {l:List SRow} (h:Tab w p (.slice (some ⟨g,0,none⟩) l.length cap) l) (k:Nat) (hk:k<l.length) (r:SRow) :
  Tab ((((w.setCell ⟨g,k*4,none⟩ (.int .u64 r.seq)).setCell ⟨g,k*4+1,none⟩ (.int .i64 r.code)).setCell ⟨g,k*4+2,none⟩ (.int .u64 r.sess)).setCell ⟨g,k*4+3,none⟩ (.int .i64 r.had))
   p (.slice (some ⟨g,0,none⟩) l.length cap) (l.set k r):=by
 obtain ⟨hb,ho⟩:=h
 have hpg:p≠g:=by
  rintro rfl
  exact own_blk_ne ho hb (by decide) rfl
 refine ⟨(((hb.far (p:=⟨g,_,none⟩) hpg _).far (p:=⟨g,_,none⟩) hpg _).far (p:=⟨g,_,none⟩) hpg _).far (p:=⟨g,_,none⟩) hpg _,?_⟩
 rw [← rowCells_set l k hk r,List.length_set]
 exact own_set (own_set (own_set (own_set ho _ _) _ _) _ _) _ _
def fp (p:Nat) (v:Value):Nat→Prop:=fun k=>k=p∨v.ownBlock=some k
theorem ses_keep_yes (w:World) (p:Nat) (v:Value) (l:List SRow) (h:Tab w p v l) (id seq:Int) (a:SRow) (hk:keepB l id seq=true) :
  Calls Tryz.prog 37 #[.pointer (some ⟨p,0,none⟩),.int .u64 id,.int .u64 seq,.agg #[.int .i64 a.code,.int .u64 a.sess,.int .i64 a.had]] w fun e w' =>
   e=.returned (.bool true)∧Tab w' p v (l.set (id-1).toNat { a with seq:=seq })∧Touch (fp p v) w w':=by
 have ht:thereB l id=true:=by unfold keepB at hk;simp at hk;exact hk.1
 obtain ⟨k,rfl,hkl⟩:=thereB_at l id ht
 have hl:=h.len
 unfold keepB at hk
 rw [rowAt_succ l k hkl,ht] at hk
 simp at hk
 have h1:=h.alloc (.cells #[.int .i64 a.code,.int .u64 a.sess,.int .i64 a.had] 32)
 obtain ⟨g,cap,rfl,n1,n2,n3,n4,n5,c0,c1,c2,c3,c4⟩:=tab_row h k hkl
 have hf:=(own_form h.2 (by omega))
 obtain ⟨g',cap',hv',_,_,_,_,hf⟩:=hf
 injection hv' with hg' _ _
 injection hg' with hg'
 injection hg' with hg'
 subst hg'
 have f0:=hf (k*4)
 have f1:=hf (k*4+1)
 have f2:=hf (k*4+2)
 have f3:=hf (k*4+3)
 clear hf
 unfold maxLen at n2
 obtain ⟨⟨rs,rc,rr,rh⟩,hr⟩:∃ r,r=l[k]:=⟨_,rfl⟩
 rw [← hr] at c1 c2 c3 c4 hk
 clear hr
 simp only at hk
 go_enter Tryz.func37,Tryz.ntmps37
 go_wp2_with (go_at_call 80;refine (ses_there _ p _ l (h.alloc _) _).mono ?_;rintro e w' ⟨rfl,rfl⟩)
 go_region
 all_goals go_wp2
 go_ret
 refine ⟨rfl,?_,?_⟩
 ·rw [show ((k:Int)+1-1).toNat=k by omega]
  exact (Tab.set h k hkl { a with seq:=seq }).alloc _
 ·have hg:fp p (.slice (some ⟨g,0,none⟩) l.length cap) g:=.inr rfl
  exact ((((((Touch.refl _ _).setCell (p:=⟨g,_,none⟩) (fun _=>hg) _).setCell (p:=⟨g,_,none⟩) (fun _=>hg) _).setCell (p:=⟨g,_,none⟩) (fun _=>hg) _).setCell (p:=⟨g,_,none⟩) (fun _=>hg) _).alloc _).drew
theorem ses_full (w:World) (p:Nat) (v:Value) (l:List SRow) (h:Tab w p v l) (hl:l.length=4096) :
  Calls Tryz.prog 33 #[.pointer (some ⟨p,0,none⟩)] w fun e w' =>
   e=.returned (.tuple #[.int .u64 0,.int .i64 152])∧w=w':=by
 obtain ⟨hb,ho⟩:=h
 obtain ⟨A,c,hv,_,hc⟩:=own_len ho
 subst hv
 have c0:=hb.cell 0
 simp at c0
 rw [hl] at c0
 clear ho hb
 go_enter Tryz.func33,Tryz.ntmps33
 go_wp2
 go_ret2
 exact ⟨rfl,rfl⟩
theorem rowCells_snoc (l:List SRow) (r:SRow):rowCells (l++[r])=rowCells l++r.cells:=by simp [rowCells]
theorem ses_open (w:World) (p:Nat) (v:Value) (l:List SRow) (h:Tab w p v l) (hl:l.length<4096) :
  Calls Tryz.prog 33 #[.pointer (some ⟨p,0,none⟩)] w fun e w' =>
   e=.returned (.tuple #[.int .u64 ((l.length:Int)+1),.int .i64 0])∧∃ v',Tab w' p v' (l++[SRow.zero])∧Touch (fp p v) w w'∧Fresh w v v':=by
 obtain ⟨hb,ho⟩:=h
 obtain ⟨A,c,hv,_,hc⟩:=own_len ho
 have c0:=hb.cell 0
 have f0:=hb.frozen 0
 simp at c0
 have hp:=hb.lt
 have HO:=hide ho
 have HV:=hide hv
 have HB:=hide hb
 rw [hv] at c0
 clear hv ho hb
 obtain ⟨i0,hi,hz0,hz1,hz2⟩:=info_parts Tryz.infoRow
 go_enter Tryz.func33,Tryz.ntmps33
 go_wp2_with (at_builtin;refine wpList_app _ rfl _ _ 106 rfl 110 i0 (.agg #[.int .u64 0,.int .i64 0,.int .u64 0,.int .i64 0]) 4 32 Tryz.underlying106 hi hz0 hz1 hz2 rfl (by decide) _ _ _ rfl (HV.out ▸ HO.out.alloc _) (some ⟨w.heap.size,0,none⟩) 1 1 SRow.zero.cells rfl ?c1 ?c2 ?c3 ?c4 ?c5 ?_)
 case c1=>exact Reads.new _ _ _ _ rfl
 case c2=>exact fun h=>by cases h
 case c3=>exact List.all_eq_true.1 rfl
 case c4=>unfold maxLen;omega
 case c5=>omega
 intro v' w1 hown hgrow hfr _
 have hb1:Blk w1 p 149 #[v]:=(HB.out.alloc _).grown hgrow (fun e=>own_blk_ne HO.out HB.out (by decide) (by rw [HV.out];exact e.symm))
 have hsz:w.heap.size+1≤w1.heap.size:=by simpa using hgrow.size
 have c1:=hb1.cell 0
 have f1:=hb1.frozen 0
 simp at c1
 have hex:∃ A' c',v'=.slice A' (l.length+1) c':=by
  obtain ⟨A',c',h,_⟩:=own_len hown
  exact ⟨A',c',h⟩
 obtain ⟨A',c',hv'⟩:=hex
 have HW:=hide (show l.length+1≤maxLen∧w1.ownsRow 0 110 4 v' (l.length+1) (rowCells l++SRow.zero.cells)∧(w.alloc (.cells SRow.zero.cells.toArray 110)).grownBy w1 v.ownBlock∧Fresh w v v'∧Blk w1 p 149 #[v] from ⟨by unfold maxLen;omega,hown,by rw [HV.out];exact hgrow,by
  rcases hfr with h | ⟨g,h,hg⟩
  ·exact .inl (by rw [h,HV.out])
  ·exact .inr ⟨g,h,by simp at hg;omega⟩,hb1⟩)
 clear hown hgrow hfr hb1
 have HV':=hide hv'
 rw [hv']
 clear hv'
 go_wp2
 go_ret2
 obtain ⟨_,h1,h2,h3,h4⟩:=HW.out
 refine ⟨rfl,v',⟨?_,?_⟩,?_,h3⟩
 ·rw [HV'.out]
  exact h4.set_ 0 _
 ·rw [rowCells_snoc]
  have:=own_setCell_far (a:=⟨p,0,none⟩) h1 (own_blk_ne h1 h4 (by decide)) (.slice A' (l.length+1) c')
  simpa using this
 ·exact (((Touch.refl _ _).alloc _).app h2 (fun g hg _=>.inr hg)).setCell (p:=⟨p,0,none⟩) (fun _=>.inl rfl) _
theorem srow_one (l:List SRow):∀ u∈rowCells l,u.oneCell'=true:=by
 intro u hu
 simp only [rowCells,List.mem_flatMap] at hu
 obtain ⟨r,_,hu⟩:=hu
 simp only [SRow.cells,List.mem_cons,List.not_mem_nil,or_false] at hu
 rcases hu with rfl | rfl | rfl | rfl<;>rfl
theorem own_nilOk {w:World} {base:Nat} {e:TypeId} {size n:Nat} {A:Option Addr} {c:Nat} {xs:List Value} (h:w.ownsRow base e size (.slice A n c) n xs):A=none→n=0∧c=0:=by
 rintro rfl
 rcases h.2 with ⟨h1,rfl⟩ | ⟨g,cap,cur,h1,_⟩
 ·injection h1 with _ _ h3
  exact ⟨rfl,h3⟩
 ·injection h1 with h1 _ _
  cases h1
end Go.Proofs.YthockgmbooefpaaGreatDoor
namespace Go.Proofs.YthockgmbooefpaaGreatDoor
structure MRow where
 word:ByteArray
 weight:Int
 dist:Int
theorem MRow.ext' {a b:MRow} (h1:a.word=b.word) (h2:a.weight=b.weight) (h3:a.dist=b.dist):a=b:=by
 cases a;cases b;simp_all
def MRow.zero:MRow:=⟨ByteArray.empty,0,0⟩
instance:Inhabited MRow:=⟨MRow.zero⟩
def MRow.cells (r:MRow):List Value:=[.string r.word,.int .i64 r.weight,.int .i64 r.dist]
def mCells (l:List MRow):List Value:=l.flatMap MRow.cells
def better (a b:MRow):Bool :=
 if a.dist=b.dist then (if a.weight=b.weight then Op.bytesLess a.word.toList b.word.toList else decide (b.weight<a.weight)) else decide (a.dist<b.dist)
theorem better_irrefl (a:MRow):better a a=false:=by simp [better,bl_irrefl]
theorem better_total (a b:MRow) (h:a≠b):better a b=true∨better b a=true:=by
 unfold better
 by_cases h1:a.dist=b.dist
 ·rw [if_pos h1,if_pos h1.symm]
  by_cases h2:a.weight=b.weight
  ·rw [if_pos h2,if_pos h2.symm]
   exact bl_total _ _ (fun e=>h (MRow.ext' (toList_inj e) h2 h1))
  ·rw [if_neg h2,if_neg (fun e=>h2 e.symm)]
   simp;omega
 ·rw [if_neg h1,if_neg (fun e=>h1 e.symm)]
  simp;omega
theorem better_trans (a b c:MRow) (h:better a b=true) (k:better b c=true):better a c=true:=by
 unfold better at *
 split at h<;>split at k
 ·rename_i h1 k1
  rw [if_pos (h1.trans k1)]
  split at h<;>split at k
  ·rename_i h2 k2
   rw [if_pos (h2.trans k2)]
   exact bl_trans _ _ _ h k
  ·rename_i h2 k2
   rw [if_neg (by omega)]
   simp at k ⊢;omega
  ·rename_i h2 k2
   rw [if_neg (by omega)]
   simp at h ⊢;omega
  ·simp at h k
   rw [if_neg (by omega)]
   simp;omega
 ·rename_i h1 k1
  rw [if_neg (by omega)]
  simp at k ⊢;omega
 ·rename_i h1 k1
  rw [if_neg (by omega)]
  simp at h ⊢;omega
 ·simp at h k
  rw [if_neg (by omega)]
  simp;omega
def wle (a b:MRow):Prop:=better a b=false
theorem wle_refl (a:MRow):wle a a:=better_irrefl a
theorem wle_of_better {a b:MRow} (h:better a b=true):wle b a:=by
 unfold wle
 cases hb:better b a with
 | false=>rfl
 | true =>
  have:=better_trans _ _ _ h hb
  rw [better_irrefl] at this
  cases this
theorem wle_trans {a b c:MRow} (h:wle a b) (k:wle b c):wle a c:=by
 unfold wle at *
 cases hac:better a c with
 | false=>rfl
 | true =>
  by_cases hab:a=b
  ·subst hab;rw [hac] at k;cases k
  ·rcases better_total a b hab with e | e
   ·rw [h] at e;cases e
   ·have:=better_trans _ _ _ e hac
    rw [k] at this;cases this
theorem wle_antisymm {a b:MRow} (h:wle a b) (k:wle b a):a=b:=by
 by_cases e:a=b
 ·exact e
 ·rcases better_total a b e with x | x
  ·rw [h] at x;cases x
  ·rw [k] at x;cases x
def Srt (l:List MRow):Prop:=l.Pairwise fun a b=>wle b a
def ins (m:MRow):List MRow→List MRow
 | []=>[m]
 | x :: l=>if better m x=true then m :: x :: l else x :: ins m l
theorem ins_perm (m:MRow) (l:List MRow):(ins m l).Perm (m :: l):=by
 induction l with
 | nil=>exact List.Perm.refl _
 | cons x l ih =>
  unfold ins
  split
  ·exact List.Perm.refl _
  ·exact (List.Perm.cons x ih).trans (List.Perm.swap m x l)
theorem ins_len (m:MRow) (l:List MRow):(ins m l).length=l.length+1:=by rw [(ins_perm m l).length_eq];rfl
theorem ins_srt (m:MRow) (l:List MRow) (h:Srt l):Srt (ins m l):=by
 induction l with
 | nil=>exact List.pairwise_cons.2 ⟨by simp,List.Pairwise.nil⟩
 | cons x l ih =>
  obtain ⟨h1,h2⟩:=List.pairwise_cons.1 h
  unfold ins
  split
  ·rename_i hb
   refine List.pairwise_cons.2 ⟨fun y hy=>?_,h⟩
   rcases List.mem_cons.1 hy with rfl | hy
   ·exact wle_of_better hb
   ·exact wle_trans (h1 y hy) (wle_of_better hb)
  ·rename_i hb
   refine List.pairwise_cons.2 ⟨fun y hy=>?_,ih h2⟩
   rcases List.mem_cons.1 ((ins_perm m l).mem_iff.1 hy) with rfl | hy
   ·simpa [wle] using hb
   ·exact h1 y hy
def sortL (l:List MRow):List MRow:=l.foldl (fun out m=>ins m out) []
theorem sortL_snoc (l:List MRow) (m:MRow):sortL (l++[m])=ins m (sortL l):=by simp [sortL,List.foldl_append]
theorem sortL_both (l:List MRow):Srt (sortL l)∧(sortL l).Perm l:=by
 have:∀ (r l:List MRow),Srt l→Srt (r.foldl (fun out m=>ins m out) l)∧(r.foldl (fun out m=>ins m out) l).Perm (l++r):=by
  intro r
  induction r with
  | nil=>intro l h;exact ⟨h,by simp⟩
  | cons m r ih =>
   intro l h
   obtain ⟨h1,h2⟩:=ih (ins m l) (ins_srt m l h)
   refine ⟨h1,h2.trans ?_⟩
   exact ((ins_perm m l).append_right r).trans List.perm_middle.symm
 have h:=this l [] List.Pairwise.nil
 refine ⟨h.1,?_⟩
 have h2:=h.2
 rw [List.nil_append] at h2
 exact h2
theorem ins_take (m:MRow) (l:List MRow) (k:Nat):(ins m (l.take k)).take k=(ins m l).take k:=by
 induction l generalizing k with
 | nil=>simp
 | cons x l ih =>
  cases k with
  | zero=>simp
  | succ k =>
   simp only [List.take_succ_cons,ins]
   split
   ·cases k with
    | zero=>simp
    | succ k=>simp [List.take_take]
   ·simp only [List.take_succ_cons]
    rw [ih]
def bestL (l:List MRow) (k:Nat):List MRow:=(sortL l).take k
theorem bestL_snoc (l:List MRow) (m:MRow) (k:Nat):bestL (l++[m]) k=(ins m (bestL l k)).take k:=by
 unfold bestL
 rw [sortL_snoc,ins_take]
def swp (X:List MRow) (i j:Nat):List MRow:=(X.set i (X.getD j MRow.zero)).set j (X.getD i MRow.zero)
theorem swp_len (X:List MRow) (i j:Nat):(swp X i j).length=X.length:=by simp [swp]
theorem swp_get (X:List MRow) (i j c:Nat) (hi:i<X.length) (hj:j<X.length):(swp X i j).getD c MRow.zero=if c=i then X.getD j MRow.zero else if c=j then X.getD i MRow.zero else X.getD c MRow.zero:=by
 unfold swp
 simp only [List.getD_eq_getElem?_getD,List.getElem?_set]
 by_cases h1:c=i
 ·subst h1
  by_cases h2:j=c
  ·subst h2;simp [hi]
  ·simp [h2,hi]
 ·by_cases h2:c=j
  ·subst h2;simp [h1,hj]
  ·simp [h1,h2,Ne.symm h1,Ne.symm h2]
theorem swp_perm (X:List MRow) (i j:Nat) (hi:i<X.length) (hj:j<X.length):(swp X i j).Perm X:=by
 unfold swp
 have e1:X.getD j MRow.zero=X[j]:=by simp [List.getD,hj]
 have e2:X.getD i MRow.zero=X[i]:=by simp [List.getD,hi]
 rw [e1,e2]
 exact List.set_set_perm hi hj
def Heap (X:List MRow) (n:Nat):Prop:=∀ c,0<c→c<n→wle (X.getD ((c-1) / 2) MRow.zero) (X.getD c MRow.zero)
theorem heap_top {X:List MRow} {n:Nat} (h:Heap X n):∀ c,c<n→wle (X.getD 0 MRow.zero) (X.getD c MRow.zero):=by
 intro c
 induction c using Nat.strongRecOn with
 | _ c ih =>
  intro hc
  by_cases h0:c=0
  ·subst h0;exact wle_refl _
  ·exact wle_trans (ih ((c-1) / 2) (by omega) (by omega)) (h c (by omega) hc)
def upF:Nat→List MRow→Nat→List MRow
 | 0,X,_=>X
 | f+1,X,j=>if j=0 then X else if better (X.getD ((j-1) / 2) MRow.zero) (X.getD j MRow.zero)=true then upF f (swp X ((j-1) / 2) j) ((j-1) / 2) else X
theorem upF_spec (f:Nat):∀ (X:List MRow) (j:Nat),j<X.length→j≤f →
  (∀ c,0<c→c<X.length→c≠j→wle (X.getD ((c-1) / 2) MRow.zero) (X.getD c MRow.zero)) →
  (0<j→∀ c,0<c→c<X.length→(c-1) / 2=j→wle (X.getD ((j-1) / 2) MRow.zero) (X.getD c MRow.zero)) →
  (upF f X j).Perm X∧Heap (upF f X j) X.length∧(upF f X j).length=X.length:=by
 induction f with
 | zero =>
  intro X j hj hf h1 h2
  have:j=0:=by omega
  subst this
  exact ⟨List.Perm.refl _,fun c h0 hc=>h1 c h0 hc (by omega),rfl⟩
 | succ f ih =>
  intro X j hj hf h1 h2
  unfold upF
  by_cases h0:j=0
  ·rw [if_pos h0]
   subst h0
   exact ⟨List.Perm.refl _,fun c h0 hc=>h1 c h0 hc (by omega),rfl⟩
  ·rw [if_neg h0]
   by_cases hb:better (X.getD ((j-1) / 2) MRow.zero) (X.getD j MRow.zero)=true
   ·rw [if_pos hb]
    have hi:(j-1) / 2<X.length:=by omega
    have hw:wle (X.getD j MRow.zero) (X.getD ((j-1) / 2) MRow.zero):=wle_of_better hb
    obtain ⟨i,hie⟩:∃ i,i=(j-1) / 2:=⟨_,rfl⟩
    rw [← hie] at hb hi hw h2 ⊢
    have hij:i≠j:=by omega
    have key:=ih (swp X i j) i (by rw [swp_len];exact hi) (by omega) ?_ ?_
    ·rw [swp_len] at key
     exact ⟨key.1.trans (swp_perm X i j hi hj),key.2.1,key.2.2⟩
    ·intro c hc0 hc hci
     rw [swp_len] at hc
     rw [swp_get X i j _ hi hj,swp_get X i j _ hi hj,if_neg hci]
     by_cases hcj:c=j
     ·subst hcj
      rw [if_pos hie.symm,if_pos rfl]
      exact hw
     ·rw [if_neg hcj]
      by_cases hp:(c-1) / 2=i
      ·rw [if_pos hp]
       have:=h1 c hc0 hc hcj
       rw [hp] at this
       exact wle_trans hw this
      ·rw [if_neg hp]
       by_cases hp2:(c-1) / 2=j
       ·rw [if_pos hp2]
        exact h2 (by omega) c hc0 hc hp2
       ·rw [if_neg hp2]
        exact h1 c hc0 hc hcj
    ·intro hi0 c hc0 hc hpc
     rw [swp_len] at hc
     have hgi:(i-1) / 2≠i:=by omega
     have hgj:(i-1) / 2≠j:=by omega
     rw [swp_get X i j _ hi hj,swp_get X i j _ hi hj,if_neg hgi,if_neg hgj,if_neg (by omega)]
     have hii:=h1 i hi0 hi hij
     by_cases hcj:c=j
     ·subst hcj
      rw [if_pos rfl]
      exact hii
     ·rw [if_neg hcj]
      have:=h1 c hc0 hc hcj
      rw [hpc] at this
      exact wle_trans hii this
   ·rw [if_neg hb]
    refine ⟨List.Perm.refl _,fun c h0' hc=>?_,rfl⟩
    by_cases hcj:c=j
    ·subst hcj
     simpa [wle] using hb
    ·exact h1 c h0' hc hcj
def kid (X:List MRow) (i n:Nat):Nat :=
 if 2*i+2<n∧better (X.getD (2*i+1) MRow.zero) (X.getD (2*i+2) MRow.zero)=true then 2*i+2 else 2*i+1
def downF:Nat→List MRow→Nat→Nat→List MRow
 | 0,X,_,_=>X
 | f+1,X,i,n=>if n≤2*i+1 then X else if better (X.getD i MRow.zero) (X.getD (kid X i n) MRow.zero)=true then downF f (swp X i (kid X i n)) (kid X i n) n else X
theorem downF_spec (f:Nat):∀ (X:List MRow) (i n:Nat),i<n→n≤X.length→n≤f+i →
  (∀ c,0<c→c<n→(c-1) / 2≠i→wle (X.getD ((c-1) / 2) MRow.zero) (X.getD c MRow.zero)) →
  (0<i→∀ c,0<c→c<n→(c-1) / 2=i→wle (X.getD ((i-1) / 2) MRow.zero) (X.getD c MRow.zero)) →
  (downF f X i n).Perm X∧Heap (downF f X i n) n∧(downF f X i n).length=X.length∧∀ c,n≤c→(downF f X i n).getD c MRow.zero=X.getD c MRow.zero:=by
 induction f with
 | zero=>intro X i n hi _ hf;omega
 | succ f ih =>
  intro X i n hi hn hf h1 h2
  unfold downF
  by_cases h0:n≤2*i+1
  ·rw [if_pos h0]
   exact ⟨List.Perm.refl _,fun c hc0 hc=>h1 c hc0 hc (by omega),rfl,fun _ _=>rfl⟩
  ·rw [if_neg h0]
   have hk:(kid X i n=2*i+1∨kid X i n=2*i+2)∧kid X i n<n:=by
    unfold kid;split
    ·rename_i h;exact ⟨.inr rfl,h.1⟩
    ·exact ⟨.inl rfl,by omega⟩
   have hkw:∀ c,0<c→c<n→(c-1) / 2=i→wle (X.getD (kid X i n) MRow.zero) (X.getD c MRow.zero):=by
    intro c hc0 hc hp
    have:c=2*i+1∨c=2*i+2:=by omega
    unfold kid
    split
    ·rename_i h
     rcases this with e | e
     ·subst e;exact wle_of_better h.2
     ·subst e;exact wle_refl _
    ·rename_i h
     rcases this with e | e
     ·subst e;exact wle_refl _
     ·subst e
      cases hb:better (X.getD (2*i+1) MRow.zero) (X.getD (2*i+2) MRow.zero) with
      | false=>exact hb
      | true=>exact absurd ⟨hc,hb⟩ h
   by_cases hb:better (X.getD i MRow.zero) (X.getD (kid X i n) MRow.zero)=true
   ·rw [if_pos hb]
    have hw:wle (X.getD (kid X i n) MRow.zero) (X.getD i MRow.zero):=wle_of_better hb
    obtain ⟨j,hj⟩:∃ j,j=kid X i n:=⟨_,rfl⟩
    rw [← hj] at hb hk hkw hw ⊢
    have hil:i<X.length:=by omega
    have hjl:j<X.length:=by omega
    have hji:j≠i:=by omega
    have hpj:(j-1) / 2=i:=by omega
    have key:=ih (swp X i j) j n hk.2 (by rw [swp_len];exact hn) (by omega) ?_ ?_
    ·rw [swp_len] at key
     refine ⟨key.1.trans (swp_perm X i j hil hjl),key.2.1,key.2.2.1,fun c hc=>?_⟩
     rw [key.2.2.2 c hc,swp_get X i j c hil hjl,if_neg (by omega),if_neg (by omega)]
    ·intro c hc0 hc hcp
     rw [swp_get X i j _ hil hjl,swp_get X i j _ hil hjl]
     by_cases hci:c=i
     ·subst hci
      rw [if_pos rfl,if_neg (by omega),if_neg (by omega)]
      exact h2 hc0 j (by omega) hk.2 hpj
     ·rw [if_neg hci]
      by_cases hcj:c=j
      ·subst hcj
       rw [if_pos rfl,if_pos hpj]
       exact hw
      ·rw [if_neg hcj,if_neg hcp]
       by_cases hpi:(c-1) / 2=i
       ·rw [if_pos hpi]
        exact hkw c hc0 hc hpi
       ·rw [if_neg hpi]
        exact h1 c hc0 hc hpi
    ·intro _ c hc0 hc hcp
     rw [hpj,swp_get X i j _ hil hjl,swp_get X i j _ hil hjl,if_pos rfl,if_neg (by omega),if_neg (by omega)]
     have:=h1 c hc0 hc (by omega)
     rwa [hcp] at this
   ·rw [if_neg hb]
    refine ⟨List.Perm.refl _,fun c hc0 hc=>?_,rfl,fun _ _=>rfl⟩
    by_cases hp:(c-1) / 2=i
    ·rw [hp]
     refine wle_trans ?_ (hkw c hc0 hc hp)
     simpa [wle] using hb
    ·exact h1 c hc0 hc hp
end Go.Proofs.YthockgmbooefpaaGreatDoor
namespace Go.Proofs.YthockgmbooefpaaGreatDoor
open Go.RowKit
theorem cstring_any (a b:ByteArray) (w:World) :
  Calls Tryz.prog 153 #[.string a,.string b] w fun e w'=>e=.returned (.int .i64 (Lib.compareBytes a.data.toList b.data.toList))∧w'=w:=by
 go_enter Tryz.func153,Tryz.ntmps153
 go_wp2
 rw [run_callFunc_extern Tryz.func180 (by kernel_rfl) (by kernel_rfl) (by kernel_rfl) (e:=Extern.BytealgCompare.compare) (by kernel_rfl),Lib.run_compareString]
 simp only [Result.andThen]
 rw [Oper.upon_value]
 go_wp2
 go_ret
 exact ⟨rfl,rfl⟩
theorem compare_any (a b:ByteArray) (w:World) :
  Calls Tryz.prog 106 #[.string a,.string b] w fun e w'=>e=.returned (.int .i64 (Lib.compareBytes a.data.toList b.data.toList))∧w'=w:=by
 go_enter Tryz.func106,Tryz.ntmps106
 go_wp2_with (go_at_call 153;refine (cstring_any _ _ _).mono ?_;rintro e w' ⟨rfl,rfl⟩)
 go_ret
 exact ⟨rfl,rfl⟩
abbrev cmpF:Value:=.func (.func 177) #[] #[]
theorem cmp_any (a b:PRow) (w:World) :
  Calls Tryz.prog 177 #[a.val,b.val] w fun e w'=>(∃ z:Int,e=.returned (.int .i64 z)∧decide (z<0)=plt a b)∧Touch (fun _=>False) w w':=by
 obtain ⟨aw,an⟩:=a
 obtain ⟨bw,bn⟩:=b
 rw [pval_eq,pval_eq]
 go_enter Tryz.func177,Tryz.ntmps177
 go_wp2_with (go_at_call 106;refine (compare_any aw bw _).mono ?_;rintro e w' ⟨rfl,rfl⟩)
 go_ret
 refine ⟨⟨_,rfl,?_⟩,((Touch.refl _ _).alloc _).alloc _⟩
 rw [compare_neg]
 show Op.bytesLess aw.data.toList bw.data.toList=Op.bytesLess aw.toList bw.toList
 rw [Go.ByteArray.toList_eq,Go.ByteArray.toList_eq]
def swrF (X:List PRow) (a b:Nat):Nat→List PRow
 | 0=>X
 | k+1=>swpP (swrF X a b k) (a+k) (b+k)
theorem swr_any (w:World) (A:Option Addr) (n c:Nat) (X:List PRow) (h:POwn w A n c X) (a b k:Nat) (ha:a+k≤n) (hb:b+k≤n) (F:Value) :
  Calls Tryz.prog 195 #[.slice A n c,.int .i64 a,.int .i64 b,.int .i64 k,F] w fun e w'=>e=.returned (.tuple #[])∧POwn w' A n c (swrF X a b k)∧Touch (fun g=>adBlock A=some g) w w':=by
 have hn:=own_le h
 unfold maxLen at hn
 have HX:=hide h
 have HL:=hide (pown_len h)
 clear h
 go_enter Tryz.func195,Tryz.ntmps195
 go_wp2
 go_loopw [10] (fun iv wr=>∃ i:Nat,i≤k∧iv=.int .i64 i∧Hid (POwn wr A n c (swrF X a b i))∧Hid (Touch (fun g=>adBlock A=some g) w wr)) (fun iv _=>k-(intOf iv).toNat)
 case atStart=>exact ⟨0,Nat.zero_le _,rfl,HX,hide (Touch.refl _ _)⟩
 case round =>
  obtain ⟨i,hi,rfl,HO,HT⟩:=hrel
  by_cases hik:i<k
  ·obtain ⟨Y,hY⟩:∃ Y,Y=swrF X a b i:=⟨_,rfl⟩
   have HYE:=hide hY
   rw [← hY] at HO
   have hl:=pown_len HO.out
   obtain ⟨x,hx0⟩:∃ x,x=a+i:=⟨_,rfl⟩
   obtain ⟨y,hy0⟩:∃ x,x=b+i:=⟨_,rfl⟩
   obtain ⟨g,rfl,hg,a0,a1,f0,f1⟩:=pown_at HO.out hl x (by omega)
   obtain ⟨g',hA,_,b0,b1,f3,f4⟩:=pown_at HO.out hl y (by omega)
   injection hA with hA
   injection hA with hA _
   subst hA
   obtain ⟨⟨xw,xn⟩,hx⟩:∃ r,r=Y.getD x PRow.zero:=⟨_,rfl⟩
   obtain ⟨⟨yw,yn⟩,hy⟩:∃ r,r=Y.getD y PRow.zero:=⟨_,rfl⟩
   rw [← hx] at a0 a1
   rw [← hy] at b0 b1
   simp only at a0 a1 b0 b1
   have EX:=hide hx
   have EY:=hide hy
   have EX0:=hide hx0
   have EY0:=hide hy0
   have i0:(i:Int)<(k:Int):=by omega
   have i1:x<n:=by omega
   have i2:y<n:=by omega
   have i3:(a:Int)+(i:Int)=(x:Int):=by omega
   have i4:(b:Int)+(i:Int)=(y:Int):=by omega
   have i5:(x:Int)<(n:Int):=by omega
   have i6:(y:Int)<(n:Int):=by omega
   have i7:IntKind.i64.wrap (x:Int)=(x:Int):=IntWalk.i64_in _ (by omega)
   have i8:IntKind.i64.wrap (y:Int)=(y:Int):=IntWalk.i64_in _ (by omega)
   obtain ⟨v0,s0⟩:=cell?_setCell_some (p:=⟨g,x*2,none⟩) (x:=.string yw) b0
   obtain ⟨v1,s1⟩:=cell?_setCell_some (p:=⟨g,x*2,none⟩) (x:=.string yw) b1
   obtain ⟨v1,s1⟩:=cell?_setCell_some (p:=⟨g,x*2+1,none⟩) (x:=.int .i64 yn) s1
   clear hx hy hY hl hx0 hy0
   go_wp2
   go_region
   all_goals go_wp2
   go_roundw
   ·have HS:=pown_set2 (pown_set2 HO.out x ⟨yw,yn⟩) y ⟨xw,xn⟩
    have e:swpP Y x y=(Y.set x ⟨yw,yn⟩).set y ⟨xw,xn⟩:=by unfold swpP;rw [← EX.out,← EY.out]
    rw [← e] at HS
    have e2:swrF X a b (i+1)=swpP Y x y:=by rw [swrF,← HYE.out,← EX0.out,← EY0.out]
    rw [← e2] at HS
    refine ⟨i+1,by omega,by simp,hide (own_touch (S:=fun _=>False) HS (Touch.refl _ _).drew (fun _ _ f=>f)),hide ?_⟩
    refine Touch.drew ?_
    iterate 4 refine Touch.setCell ?_ (fun _=>(rfl:adBlock (some ⟨g,0,none⟩)=some g)) _
    exact HT.out
   ·show k-(intOf (.int .i64 ((i:Int)+1))).toNat<k-(intOf (.int .i64 (i:Int))).toNat
    simp [intOf]
    omega
  ·have hk':i=k:=by omega
   subst hk'
   go_wp2
   go_end0
   exact ⟨rfl,HO.out,HT.out⟩
end Go.Proofs.YthockgmbooefpaaGreatDoor
