/- What the laws of states rest on. Conditions: those that each theorem names. -/
import Derived.Test.YthockgmbooefpaaDoorD45
import Derived.Deep.RegionHeld3
import Derived.Laws.BitsAllLaws
import Derived.Laws.BitsLemmas
import Derived.Laws.IdiomStrings
set_option linter.unusedSectionVars false
set_option linter.unusedSimpArgs false
set_option linter.unusedVariables false
namespace Go.Proofs.YthockgmbooefpaaDoor
open Go.RowKit
def cCells (l:List CmdP):List Value:=l.flatMap CmdP.cells
theorem cmd_at {w:World} {A:Option Addr} {n:Nat} {X:List CmdP} (h:Reads w 5 A n (cCells X)) (hn:n=X.length) (k:Nat) (hk:k<n) :
  ∃ g off,A=some ⟨g,off,none⟩∧g<w.heap.size∧w.cell? ⟨g,off+k*5,none⟩=some (.int .i64 (X.getD k CmdP.zero).kind)∧w.cell? ⟨g,off+k*5+1,none⟩=some (.int .u64 (X.getD k CmdP.zero).sess) ∧
   w.cell? ⟨g,off+k*5+2,none⟩=some (.int .u64 (X.getD k CmdP.zero).seq)∧w.cell? ⟨g,off+k*5+3,none⟩=some (.string (X.getD k CmdP.zero).word)∧w.cell? ⟨g,off+k*5+4,none⟩=some (.int .i64 (X.getD k CmdP.zero).n):=by
 subst hn
 obtain ⟨b,off,hA,hb,hc⟩:=h.2 (by omega)
 have key:∀ j,j<5→(cCells X)[k*5+j]? = (X.getD k CmdP.zero).cells[j]? := fun j hj=>by
  have e:X.getD k CmdP.zero=X[k]:=by simp [List.getD,hk]
  rw [e]
  exact flat_at CmdP.cells 5 (fun _=>rfl) X k j hk hj
 refine ⟨b,off,hA,hb,?_,?_,?_,?_,?_⟩
 ·exact hc (k*5) _ (key 0 (by omega))
 ·rw [Nat.add_assoc];exact hc (k*5+1) _ (key 1 (by omega))
 ·rw [Nat.add_assoc];exact hc (k*5+2) _ (key 2 (by omega))
 ·rw [Nat.add_assoc];exact hc (k*5+3) _ (key 3 (by omega))
 ·rw [Nat.add_assoc];exact hc (k*5+4) _ (key 4 (by omega))
def CmdP.In (c:CmdP):Prop:=0≤c.sess∧c.sess<18446744073709551616∧0≤c.seq∧c.seq<18446744073709551616
def stepS (S:List PRow × List SRow) (c:CmdP):List PRow × List SRow:=(doL c S.1 S.2,doR c S.1 S.2)
def runS (T:List CmdP) (S:List PRow × List SRow):List PRow × List SRow:=T.foldl stepS S
theorem runS_snoc (T:List CmdP) (c:CmdP) (S:List PRow × List SRow):runS (T++[c]) S=stepS (runS T S) c:=by simp [runS]
theorem runS_nil (S:List PRow × List SRow):runS [] S=S:=rfl
theorem ctake_succ (T:List CmdP) (i:Nat) (h:i<T.length):T.take (i+1)=T.take i++[T.getD i CmdP.zero]:=by
 rw [List.take_succ_eq_append_getElem h]
 have e:T.getD i CmdP.zero=T[i]:=by simp [List.getD,h]
 rw [e]
theorem doL_dict {L:List PRow} (hL:DictP L) (c:CmdP) (R:List SRow):DictP (doL c L R):=by
 unfold doL
 split
 ·unfold doW
  split
  ·exact set_dict hL _ _
  ·exact rem_dict hL _
 ·exact hL
theorem doR_few {R:List SRow} (h:R.length≤4096) (c:CmdP) (L:List PRow):(doR c L R).length≤4096:=by
 unfold doR
 split
 ·split
  ·simp;omega
  ·exact h
 ·split
  ·simpa using h
  ·exact h
theorem runS_dict {L:List PRow} (hL:DictP L) (R:List SRow) (T:List CmdP):DictP (runS T (L,R)).1:=by
 induction T generalizing L R with
 | nil=>exact hL
 | cons c T ih=>exact ih (doL_dict hL c R) _
def DoneB (D:List CmdP) (R:List SRow):Prop:=∀ d∈D,thereB R d.sess=true∧d.seq≤(rowAt R d.sess).seq
theorem goes_new {c:CmdP} {R:List SRow} (h:goesB c R=true):thereB R c.sess=true∧(rowAt R c.sess).seq<c.seq∧¬ c.kind=1:=by
 unfold goesB at h
 simp only [Bool.and_eq_true,decide_eq_true_eq,Bool.not_eq_true'] at h
 obtain ⟨⟨hk,he⟩,hb⟩:=h
 have:=chk_new (K:=doC c R) rfl he hb
 exact ⟨this.1,this.2.1,by omega⟩
theorem row_app {R:List SRow} {id:Int} (h:thereB R id=true) (r:SRow):thereB (R++[r]) id=true∧rowAt (R++[r]) id=rowAt R id:=by
 obtain ⟨k,rfl,hk⟩:=thereB_at R id h
 have hk2:k<(R++[r]).length:=by simp;omega
 refine ⟨thereB_succ _ k hk2,?_⟩
 rw [rowAt_succ _ k hk2,rowAt_succ _ k hk]
 exact List.getElem_append_left hk
theorem row_set {R:List SRow} {id c:Int} (h:thereB R id=true) (hc:thereB R c=true) (r:SRow):thereB (R.set (c-1).toNat r) id=true∧rowAt (R.set (c-1).toNat r) id=if id=c then r else rowAt R id:=by
 obtain ⟨k,rfl,hk⟩:=thereB_at R id h
 obtain ⟨j,rfl,hj⟩:=thereB_at R c hc
 have e:((j:Int)+1-1).toNat=j:=by omega
 rw [e]
 have hk2:k<(R.set j r).length:=by simpa using hk
 refine ⟨thereB_succ _ k hk2,?_⟩
 rw [rowAt_succ _ k hk2,rowAt_succ _ k hk]
 by_cases hjk:j=k
 ·subst hjk
  simp
 ·rw [if_neg (by omega),List.getElem_set_ne hjk]
theorem done_step {D:List CmdP} {R:List SRow} (h:DoneB D R) (c:CmdP) (L:List PRow):DoneB D (doR c L R):=by
 intro d hd
 obtain ⟨h1,h2⟩:=h d hd
 unfold doR
 split
 ·split
  ·have:=row_app h1 SRow.zero
   exact ⟨this.1,by rw [this.2];exact h2⟩
  ·exact ⟨h1,h2⟩
 ·split
  ·rename_i hg
   obtain ⟨hc,hlt,_⟩:=goes_new hg
   have:=row_set h1 hc ⟨c.seq,doE c L,0,doH c L⟩
   refine ⟨this.1,?_⟩
   rw [this.2]
   split
   ·rename_i e
    rw [e] at h2
    simp only
    omega
   ·exact h2
  ·exact ⟨h1,h2⟩
theorem done_new {D:List CmdP} {R:List SRow} (h:DoneB D R) {c:CmdP} (hg:goesB c R=true):∀ d∈D,¬ (d.sess=c.sess∧d.seq=c.seq):=by
 intro d hd ⟨e1,e2⟩
 obtain ⟨_,h2⟩:=h d hd
 obtain ⟨_,hlt,_⟩:=goes_new hg
 rw [e1] at h2
 omega
theorem done_add {D:List CmdP} {R:List SRow} (h:DoneB D R) {c:CmdP} (hg:goesB c R=true) (L:List PRow):DoneB (D++[c]) (doR c L R):=by
 intro d hd
 rcases List.mem_append.1 hd with hd | hd
 ·exact done_step h c L d hd
 ·have e:d=c:=by simpa using hd
  subst e
  obtain ⟨hc,hlt,hk⟩:=goes_new hg
  unfold doR
  rw [if_neg hk,hg]
  simp only [if_true]
  have:=row_set hc hc ⟨d.seq,doE d L,0,doH d L⟩
  exact ⟨this.1,by rw [this.2];simp⟩
theorem doL_same {c:CmdP} {L:List PRow} {R:List SRow} (h:¬ doL c L R=L):goesB c R=true:=by
 cases hg:goesB c R with
 | true=>rfl
 | false=>exact absurd (by unfold doL;rw [hg];rfl) h
theorem twice_do {c:CmdP} (h1:¬ c.kind=1) (L:List PRow) (R:List SRow):doA c (doL c L R) (doR c L R)=doA c L R∧doL c (doL c L R) (doR c L R)=doL c L R∧doR c (doL c L R) (doR c L R)=doR c L R:=by
 by_cases hg:goesB c R=true
 ·obtain ⟨hc,hlt,_⟩:=goes_new hg
  have hR:doR c L R=R.set (c.sess-1).toNat ⟨c.seq,doE c L,0,doH c L⟩:=by unfold doR;rw [if_neg h1,if_pos hg]
  have hr:=row_set hc hc ⟨c.seq,doE c L,0,doH c L⟩
  rw [← hR,if_pos rfl] at hr
  have hg':=hg
  unfold goesB at hg'
  simp only [Bool.and_eq_true,decide_eq_true_eq,Bool.not_eq_true'] at hg'
  obtain ⟨⟨hk,he⟩,hb⟩:=hg'
  have hn:=do_new (c:=c) (L:=L) (R:=R) hk rfl he hb
  have hs0:¬ c.seq=0:=by
   intro h0
   have:=chk_new (K:=doC c R) rfl he hb
   unfold doC chk at he
   rw [hc,if_neg (by simp),if_pos (.inl h0)] at he
   simp at he
  have hK:doC c (doR c L R)=⟨doE c L,0,doH c L,true,0⟩:=by
   unfold doC chk
   rw [hr.1,hr.2,if_neg (by simp),if_neg (by simp only;omega),if_pos rfl]
  obtain ⟨a1,a2,a3⟩:=do_again (c:=c) (L:=doL c L R) (R:=doR c L R) hk hK rfl rfl
  exact ⟨by rw [a1,hn.1],a2,a3⟩
 ·have eL:doL c L R=L:=by unfold doL;rw [if_neg hg]
  have eR:doR c L R=R:=by unfold doR;rw [if_neg h1,if_neg hg]
  rw [eL,eR]
  exact ⟨rfl,eL,eR⟩
end Go.Proofs.YthockgmbooefpaaDoor
namespace Go.Proofs.YthockgmbooefpaaDoor
open Go.RowKit
def cOp:CmdP:=⟨1,0,0,ByteArray.empty,0⟩
def cSe:CmdP:=⟨2,1,1,⟨#[97,98]⟩,5⟩
def aL1:List PRow:=[⟨⟨#[97,98]⟩,5⟩]
def aR1:List SRow:=[⟨0,0,0,0⟩]
def aR2:List SRow:=[⟨1,0,0,0⟩]
theorem as_a1:doA cOp [] []=⟨0,0,1,0⟩:=by kernel_rfl
theorem as_l1:doL cOp [] []=[]:=by kernel_rfl
theorem as_r1:doR cOp [] []=aR1:=by kernel_rfl
theorem as_a2:doA cSe [] aR1=⟨0,0,0,0⟩:=by kernel_rfl
theorem as_l2:doL cSe [] aR1=aL1:=by kernel_rfl
theorem as_r2:doR cSe [] aR1=aR2:=by kernel_rfl
theorem as_a3:doA cSe aL1 aR2=⟨0,0,0,0⟩:=by kernel_rfl
theorem as_l3:doL cSe aL1 aR2=aL1:=by kernel_rfl
theorem as_r3:doR cSe aL1 aR2=aR2:=by kernel_rfl
theorem stF_young {w w1 w2:World} {d tb:Nat} {v:Value} {B:Nat} (T1:Touch (fun _=>False) w w1) (T2:Touch (stF d tb v) w1 w2) (h:∀ g,stF d tb v g→w.heap.size≤g):Touch (fun _=>False) w w2 :=
 T1.trans T2 (fun g hg e=>by have:=h g e;omega)
structure StY (W w:World) (s d tb:Nat) (v:Value) (L:List PRow) (q:Nat) (R:List SRow):Prop where
 st:StX w s d tb v L q R
 y:W.heap.size≤d∧W.heap.size≤tb∧∀ g,v.ownBlock=some g→W.heap.size≤g
 t:Touch (fun _=>False) W w
 lw:Lst W
theorem StY.l {W w:World} {s d tb:Nat} {v:Value} {L:List PRow} {q:Nat} {R:List SRow} (h:StY W w s d tb v L q R):Lst w:=Lst.touch h.lw h.t
theorem StY.quiet {W w w':World} {s d tb:Nat} {v:Value} {L:List PRow} {q:Nat} {R:List SRow} (h:StY W w s d tb v L q R) (T:Touch (fun _=>False) w w'):StY W w' s d tb v L q R :=
 ⟨h.st.quiet T,h.y,h.t.then T,h.lw⟩
theorem StY.stF {W w:World} {s d tb:Nat} {v:Value} {L:List PRow} {q:Nat} {R:List SRow} (h:StY W w s d tb v L q R):∀ g,stF d tb v g→W.heap.size≤g:=by
 rintro g (rfl | rfl | hg)
 ·exact h.y.1
 ·exact h.y.2.1
 ·exact h.y.2.2 g hg
theorem StY.step {W w w':World} {s d tb:Nat} {v v':Value} {L L':List PRow} {q q':Nat} {R R':List SRow} (h:StY W w s d tb v L q R) (hs:StX w' s d tb v' L' q' R') (hf:Fresh w v v') (T:Touch (Go.Proofs.YthockgmbooefpaaDoor.stF d tb v) w w'):StY W w' s d tb v' L' q' R':=by
 have ht:Touch (fun _=>False) W w':=h.t.trans T (fun g hg e=>by have:=h.stF g e;omega)
 refine ⟨hs,⟨h.y.1,h.y.2.1,fun g hg=>?_⟩,ht,h.lw⟩
 ·rcases hf with e | ⟨g',e,hg'⟩
  ·exact h.y.2.2 g (by rw [← e];exact hg)
  ·rw [e] at hg
   injection hg with hg
   have:=h.t.size
   omega
theorem snew_y (w:World) (hL:Lst w):Calls Tryd.prog 7 #[] w fun e w'=>∃ s d tb,e=.returned (ptrV s)∧StY w w' s d tb (.slice none 0 0) [] 0 [] :=
 (snew_any w hL).mono (by
   rintro e w' ⟨s,d,tb,rfl,hs,h1,h2,h3,T⟩
   exact ⟨s,d,tb,rfl,hs,⟨h2,h3,fun g hg=>by simp [Value.ownBlock] at hg⟩,T,hL⟩)
theorem StX.keep {w w':World} {s d tb:Nat} {v:Value} {L:List PRow} {q:Nat} {R:List SRow} (h:StX w s d tb v L q R) (T:Touch (Go.Proofs.YthockgmbooefpaaDoor.stF d tb v) w w') {g:Nat} {t:TypeId} {cs:Array Value} (hb:Blk w g t cs) (ht:offT t):Blk w' g t cs :=
 hb.touch T (fun e=>by
  obtain ⟨o1,o2,o3,o4,o5⟩:=ht
  rcases e with rfl | e
  ·exact (blk_ty hb).ne h.dct.ty o2 rfl
  ·rcases fp_ty h.tab e with k | k
   ·exact (blk_ty hb).ne k o3 rfl
   ·exact (blk_ty hb).ne k o4 rfl)
theorem off_cmd:offT 29 := by unfold offT dctT;decide
theorem sdo_y {W:World} (w:World) {s d tb:Nat} {v:Value} {L:List PRow} {q:Nat} {R:List SRow} (h:StY W w s d tb v L q R) (c:CmdP) (hc:c.Wf) :
  Calls Tryd.prog 11 #[ptrV s,c.val] w fun e w'=>e=.returned (ansV (doA c L R))∧(∃ v' q',StY W w' s d tb v' (doL c L R) q' (doR c L R))∧Touch (stF d tb v) w w' :=
 (sdo_any w h.l h.st c hc).mono (by
   rintro e w' ⟨rfl,⟨v',⟨q',hs⟩,hf⟩,T⟩
   exact ⟨rfl,⟨v',q',h.step hs hf T⟩,T⟩)
theorem sdo_yf {W:World} (w:World) {s d tb:Nat} {v:Value} {L:List PRow} {q:Nat} {R:List SRow} (h:StY W w s d tb v L q R) (c:CmdP) (hc:c.Wf) :
  Calls Tryd.prog 11 #[ptrV s,c.val] w fun e w'=>e=.returned (ansV (doA c L R))∧(∃ v' q',StY W w' s d tb v' (doL c L R) q' (doR c L R)∧Fresh w v v')∧Touch (stF d tb v) w w' :=
 (sdo_any w h.l h.st c hc).mono (by
   rintro e w' ⟨rfl,⟨v',⟨q',hs⟩,hf⟩,T⟩
   exact ⟨rfl,⟨v',q',h.step hs hf T,hf⟩,T⟩)
theorem fresh_next {w w2:World} {v v' v3:Value} (h:Fresh w v v') (h2:Fresh w2 v' v3) (hs:w.heap.size≤w2.heap.size):Fresh w v v3:=by
 rcases h2 with e | ⟨g,e,hg⟩
 ·rcases h with e1 | ⟨g1,e1,hg1⟩
  ·exact .inl (e.trans e1)
  ·exact .inr ⟨g1,e.trans e1,hg1⟩
 ·exact .inr ⟨g,e,Nat.le_trans hs hg⟩
theorem stF_back {w:World} {d tb g:Nat} {v v':Value} (h:Fresh w v v') (hg:g<w.heap.size) (e:stF d tb v' g):stF d tb v g:=by
 rcases e with e | e | e
 ·exact .inl e
 ·exact .inr (.inl e)
 ·rcases h with e1 | ⟨g1,e1,hg1⟩
  ·exact .inr (.inr (by rw [← e1];exact e))
  ·rw [e] at e1
   injection e1 with e1
   omega
set_option maxRecDepth 100000 in
set_option maxHeartbeats 4000000 in
theorem alive16_any (w:World) (hL:Lst w):Calls Tryd.prog 9 #[] w fun e w'=>e=.returned (.bool true)∧Touch (fun _=>False) w w':=by
 have HN:=hide (snew_y w hL)
 clear hL
 go_enter Tryd.func9,Tryd.ntmps9
 go_wp2_with fail
 refine HN.out.mono ?_
 rintro e w1 ⟨s,d,tb,rfl,hy⟩
 have HC1:=hide (sdo_y w1 hy cOp (by unfold CmdP.Wf;decide))
 rw [as_a1,as_l1,as_r1] at HC1
 simp only [ansV,CmdP.val,cOp] at HC1
 clear hy HN
 go_wp2_with fail
 refine HC1.out.mono ?_
 rintro e w2 ⟨rfl,⟨v2,q2,hy2⟩,-⟩
 have HC2:=hide (fun (wx:World) (T:Touch (fun _=>False) w2 wx)=>sdo_y wx (hy2.quiet T) cSe (by unfold CmdP.Wf;decide))
 rw [as_a2,as_l2,as_r2] at HC2
 simp only [ansV,CmdP.val,cSe] at HC2
 obtain ⟨wa,hwa⟩:∃ y,y=(w2.alloc (.cells #[.int .i64 0,.int .u64 1,.int .i64 0] 34)).alloc (.cells #[.int .i64 2,.int .u64 1,.int .u64 1,.string ⟨#[97,98]⟩,.int .i64 5] 29):=⟨_,rfl⟩
 obtain ⟨ga,hga⟩:∃ y,y=w2.heap.size:=⟨_,rfl⟩
 obtain ⟨gc,hgc⟩:∃ y,y=w2.heap.size+1:=⟨_,rfl⟩
 have hTa:Touch (fun _=>False) w2 wa:=by rw [hwa];exact ((Touch.refl _ _).alloc _).alloc _
 have haB:Blk wa ga 34 #[.int .i64 0,.int .u64 1,.int .i64 0]:=by rw [hwa,hga];exact (Blk.new _ _ _).alloc _
 have hcB:Blk wa gc 29 #[.int .i64 2,.int .u64 1,.int .u64 1,.string ⟨#[97,98]⟩,.int .i64 5]:=by
  have h1:=Blk.new (w2.alloc (.cells #[.int .i64 0,.int .u64 1,.int .i64 0] 34)) 29 #[.int .i64 2,.int .u64 1,.int .u64 1,.string ⟨#[97,98]⟩,.int .i64 5]
  rw [hwa,hgc];simpa using h1
 have HYA:=hide (hy2.quiet hTa)
 have HC2:=hide (sdo_y wa HYA.out cSe (by unfold CmdP.Wf;decide))
 rw [as_a2,as_l2,as_r2] at HC2
 simp only [ansV,CmdP.val,cSe] at HC2
 have HWA:=hide hwa
 have HGA:=hide hga
 have HGC:=hide hgc
 have HAB:=hide haB
 have HCB:=hide hcB
 clear hy2 HC1 hwa hga hgc hTa haB hcB
 go_upto_region 6 with fail
 rw [← HWA.out,← HGC.out,← HGA.out]
 obtain ⟨c0,c1,c2⟩:=HCB.out.facts
 go_wp2_with fail
 refine HC2.out.mono ?_
 rintro e w3 ⟨rfl,⟨v3,q3,hy3⟩,T3⟩
 obtain ⟨wb,hwb⟩:∃ y,y=w3.alloc (.cells #[.int .i64 0,.int .u64 0,.int .i64 0] 34):=⟨_,rfl⟩
 obtain ⟨gb,hgb⟩:∃ y,y=w3.heap.size:=⟨_,rfl⟩
 have hTb:Touch (fun _=>False) w3 wb:=by rw [hwb];exact (Touch.refl _ _).alloc _
 have hbB:Blk wb gb 34 #[.int .i64 0,.int .u64 0,.int .i64 0]:=by rw [hwb,hgb];exact Blk.new _ _ _
 have HAB3:=hide ((HYA.out.st.keep T3 HAB.out off_ans).touch hTb (fun f=>f))
 have HCB3:=hide ((HYA.out.st.keep T3 HCB.out off_cmd).touch hTb (fun f=>f))
 have HYB:=hide (hy3.quiet hTb)
 have HC3:=hide (sdo_y wb HYB.out cSe (by unfold CmdP.Wf;decide))
 rw [as_a3,as_l3,as_r3] at HC3
 simp only [ansV,CmdP.val,cSe] at HC3
 have HWB:=hide hwb
 have HGB:=hide hgb
 have HBB:=hide hbB
 clear hy3 T3 HC2 hwb hgb hTb hbB c0 c1 c2
 go_upto_region 7 with fail
 rw [← HWB.out,← HGB.out]
 obtain ⟨c0,c1,c2⟩:=HCB3.out.facts
 go_wp2_with fail
 refine HC3.out.mono ?_
 rintro e w4 ⟨rfl,⟨v4,q4,hy4⟩,T4⟩
 obtain ⟨wd,hwd⟩:∃ y,y=w4.alloc (.cells #[.int .i64 0,.int .u64 0,.int .i64 0] 34):=⟨_,rfl⟩
 obtain ⟨gd,hgd⟩:∃ y,y=w4.heap.size:=⟨_,rfl⟩
 have hTd:Touch (fun _=>False) w4 wd:=by rw [hwd];exact (Touch.refl _ _).alloc _
 have hdB:Blk wd gd 34 #[.int .i64 0,.int .u64 0,.int .i64 0]:=by rw [hwd,hgd];exact Blk.new _ _ _
 have HAB4:=hide ((HYB.out.st.keep T4 HAB3.out off_ans).touch hTd (fun f=>f))
 have HBB4:=hide ((HYB.out.st.keep T4 HBB.out off_ans).touch hTd (fun f=>f))
 have HYD:=hide (hy4.quiet hTd)
 have HWR:=hide (words_st wd HYD.out.l HYD.out.st)
 have HWD:=hide hwd
 have HGD:=hide hgd
 have HDB:=hide hdB
 clear hy4 T4 HC3 hwd hgd hTd hdB c0 c1 c2
 go_upto_region 8 with fail
 rw [← HWD.out,← HGD.out]
 go_wp2_with fail
 refine HWR.out.mono ?_
 rintro e w5 ⟨A5,c5,rfl,hp5,T5⟩
 obtain ⟨x0,x1,x2⟩:=(HAB4.out.touch T5 (fun f=>f)).facts
 obtain ⟨x3,x4,x5⟩:=(HBB4.out.touch T5 (fun f=>f)).facts
 obtain ⟨x6,x7,x8⟩:=(HDB.out.touch T5 (fun f=>f)).facts
 obtain ⟨g5,hA5,hg5,p0,p1,_,_⟩:=pown_at hp5 rfl 0 (by decide)
 subst hA5
 simp only [aL1,List.getD_cons_zero,Nat.zero_mul,Nat.zero_add,List.length_cons,List.length_nil] at p0 p1 ⊢
 have HT5:=hide (HYD.out.t.then T5)
 clear hp5 T5 HWR
 go_wp2_with fail
 go_ret
 exact ⟨by simp,HT5.out⟩
end Go.Proofs.YthockgmbooefpaaDoor
namespace Go.Proofs.YthockgmbooefpaaDoor
open Go.RowKit
theorem few_any (w:World) (A:Option Addr) (n c:Nat):Calls Tryd.prog 8 #[.slice A n c] w fun e w'=>e=.returned (.bool (decide ((n:Int)≤400)))∧w=w':=by
 go_enter Tryd.func8,Tryd.ntmps8
 go_wp2
 go_ret
 exact ⟨rfl,rfl⟩
set_option maxRecDepth 100000 in
set_option maxHeartbeats 1000000 in
theorem psame_some (w:World) (A:Option Addr) (n c:Nat) (X:List PRow) (hX:X.length=n) (hA:Reads w 2 A n (pCells X)) (hn:n≤maxLen) (B:Option Addr) (m d:Nat) (Y:List PRow) (hY:Y.length=m) (hB:Reads w 2 B m (pCells Y)) :
  Calls Tryd.prog 12 #[.slice A n c,.slice B m d] w fun e w'=>(∃ b,e=.returned (.bool b))∧Touch (fun _=>False) w w':=by
 unfold maxLen at hn
 have HA:=hide hA
 have HB:=hide hB
 have HX:=hide hX
 have HY:=hide hY
 clear hA hB hX hY
 by_cases hnm:n=m
 ·subst hnm
  go_enter Tryd.func12,Tryd.ntmps12
  go_wp2
  go_loopw [5] (fun i wr=>∃ k:Nat,k≤n∧i=.int .i64 k∧Hid (Touch (fun _=>False) w wr)) (fun i _=>n-(intOf i).toNat)
  case atStart=>exact ⟨0,Nat.zero_le _,rfl,hide (Touch.refl _ _)⟩
  case round =>
   obtain ⟨k,hk,rfl,HT⟩:=hrel
   by_cases hkn:k<n
   ·obtain ⟨g,o,hg,_,a0,a1⟩:=preads_at (HA.out.touch HT.out (fun _ _ f=>f)) HX.out.symm k hkn
    obtain ⟨g',o',hg',_,b0,b1⟩:=preads_at (HB.out.touch HT.out (fun _ _ f=>f)) HY.out.symm k hkn
    subst hg hg'
    obtain ⟨⟨xw,xn⟩,hx⟩:∃ x,x=X.getD k PRow.zero:=⟨_,rfl⟩
    obtain ⟨⟨yw,yn⟩,hy⟩:∃ x,x=Y.getD k PRow.zero:=⟨_,rfl⟩
    rw [← hx] at a0 a1
    rw [← hy] at b0 b1
    simp only at a0 a1 b0 b1
    have k0:(k:Int)<(n:Int):=by omega
    clear hx hy
    by_cases hw:xw=yw
    ·subst hw
     by_cases hnn:xn=yn
     ·subst hnn
      go_wp2
      go_quiet (fail)
      go_wp2
      go_roundw
      ·exact ⟨k+1,by omega,by simp,hide (HT.out.drewN _)⟩
      ·show n-(intOf (.int .i64 ((k:Int)+1))).toNat<n-(intOf (.int .i64 (k:Int))).toNat
       simp [intOf]
       omega
     ·go_wp2
      go_quiet (fail)
      go_wp2
      go_ret
      exact ⟨⟨false,rfl⟩,HT.out.drewN _⟩
    ·have hwl:¬ xw.toList=yw.toList:=fun e=>hw (toList_inj e)
     go_wp2
     go_quiet (fail)
     go_wp2
     go_ret
     exact ⟨⟨false,rfl⟩,HT.out.drewN _⟩
   ·go_wp2
    go_ret
    exact ⟨⟨true,rfl⟩,HT.out⟩
 ·have hnm':¬ (n:Int)=(m:Int):=by omega
  clear hnm
  go_enter Tryd.func12,Tryd.ntmps12
  go_wp2
  go_ret
  exact ⟨⟨false,rfl⟩,Touch.refl _ _⟩
theorem psame_any (w:World) (A:Option Addr) (n c:Nat) (X:List PRow) (hX:X.length=n) (hA:Reads w 2 A n (pCells X)) (hn:n≤maxLen) (B:Option Addr) (m d:Nat) (Y:List PRow) (hY:Y.length=m) (hB:Reads w 2 B m (pCells Y)) :
  Calls Tryd.prog 12 #[.slice A n c,.slice B m d] w fun e w'=>(∃ b,e=.returned (.bool b)∧(b=false→¬ Y=X))∧Touch (fun _=>False) w w':=by
 by_cases he:Y=X
 ·subst he
  have hnm:n=m:=by omega
  subst hnm
  exact (psame_yes w A n c Y hX hA hn B d hB).mono (by rintro e w' ⟨rfl,T⟩;exact ⟨⟨true,rfl,fun h=>by cases h⟩,T⟩)
 ·exact (psame_some w A n c X hX hA hn B m d Y hY hB).mono (by rintro e w' ⟨⟨b,rfl⟩,T⟩;exact ⟨⟨b,rfl,fun _=>he⟩,T⟩)
end Go.Proofs.YthockgmbooefpaaDoor
namespace Go.Proofs.YthockgmbooefpaaDoor
open Go.RowKit
set_option maxRecDepth 100000 in
set_option maxHeartbeats 1000000 in
theorem rdo_again (w:World) (B0:Nat) {tA:Option Addr} {tn tc:Nat} {tL L:List PRow} (hs:RfL B0 w ⟨tA,tn,tc,tL⟩ L) (hD:DictP L) {A:Option Addr} {n c:Nat} {R:List SRow} (hr:RwL w A n c R) (sid sq nn:Int) (kw:ByteArray) (hk:kw.size≤1099511627776) (kd:Int) (hkd:kd=2∨kd=3) (k:Nat) (hsk:sid=(k:Int)+1) (hkn:k<n) (rc rr rh:Int) (hrow:R.getD k SRow.zero=⟨sq,rc,rr,rh⟩) (h1:¬ sq=0) :
  Calls Tryd.prog 30 #[.agg #[.slice tA tn tc,.slice A n c],.agg #[.int .i64 kd,.int .u64 sid,.int .u64 sq,.string kw,.int .i64 nn]] w fun e w'=>e=.returned (.tuple #[.agg #[.slice tA tn tc,.slice A n c],ansV ⟨0,rc,rr,rh⟩])∧Touch (fun _=>False) w w':=by
 have HSK:=hide hsk
 have HROW:=hide hrow
 clear hsk hrow
 obtain ⟨wa,hwa⟩:∃ z,z=(((w.alloc (.cells #[.slice tA tn tc,.slice A n c] 39)).alloc (.cells #[.int .i64 kd,.int .u64 sid,.int .u64 sq,.string kw,.int .i64 nn] 29)).alloc (.cells #[.slice none 0 0,.slice none 0 0] 39)).alloc (.cells #[.int .i64 0,.int .u64 0,.int .i64 0] 34):=⟨_,rfl⟩
 obtain ⟨ba,hba⟩:∃ z,z=w.heap.size:=⟨_,rfl⟩
 obtain ⟨bb,hbb⟩:∃ z,z=w.heap.size+1:=⟨_,rfl⟩
 obtain ⟨bs,hbs⟩:∃ z,z=w.heap.size+1+1:=⟨_,rfl⟩
 obtain ⟨ra,hra⟩:∃ z,z=w.heap.size+1+1+1:=⟨_,rfl⟩
 have hTa:Touch (fun _=>False) w wa:=by rw [hwa];exact ((((Touch.refl _ _).alloc _).alloc _).alloc _).alloc _
 have haB:Blk wa ba 39 #[.slice tA tn tc,.slice A n c]:=by rw [hwa,hba];exact (((Blk.new _ _ _).alloc _).alloc _).alloc _
 have hbB:Blk wa bb 29 #[.int .i64 kd,.int .u64 sid,.int .u64 sq,.string kw,.int .i64 nn]:=by
  have h1:=(((Blk.new (w.alloc (.cells #[.slice tA tn tc,.slice A n c] 39)) 29 #[.int .i64 kd,.int .u64 sid,.int .u64 sq,.string kw,.int .i64 nn]).alloc (.cells #[.slice none 0 0,.slice none 0 0] 39)).alloc (.cells #[.int .i64 0,.int .u64 0,.int .i64 0] 34))
  rw [hwa,hbb];simpa using h1
 have hsB:Blk wa bs 39 #[.slice none 0 0,.slice none 0 0]:=by
  have h1:=(Blk.new ((w.alloc (.cells #[.slice tA tn tc,.slice A n c] 39)).alloc (.cells #[.int .i64 kd,.int .u64 sid,.int .u64 sq,.string kw,.int .i64 nn] 29)) 39 #[.slice none 0 0,.slice none 0 0]).alloc (.cells #[.int .i64 0,.int .u64 0,.int .i64 0] 34)
  rw [hwa,hbs];simpa using h1
 have hrB:Blk wa ra 34 #[.int .i64 0,.int .u64 0,.int .i64 0]:=by
  have h1:=Blk.new (((w.alloc (.cells #[.slice tA tn tc,.slice A n c] 39)).alloc (.cells #[.int .i64 kd,.int .u64 sid,.int .u64 sq,.string kw,.int .i64 nn] 29)).alloc (.cells #[.slice none 0 0,.slice none 0 0] 39)) 34 #[.int .i64 0,.int .u64 0,.int .i64 0]
  rw [hwa,hra];simpa using h1
 have HLO:Hid (w.heap.size≤ba∧w.heap.size≤bb∧w.heap.size≤bs∧w.heap.size≤ra∧ba≠bs∧bb≠bs∧bs≠ra):=hide (by omega)
 have HTA:=hide hTa
 have HAB:=hide haB
 have HBB:=hide hbB
 have HSB:=hide hsB
 have HRB:=hide hrB
 have HWA:=hide hwa
 have H0:=hide hba
 have H1:=hide hbb
 have H2:=hide hbs
 have H3:=hide hra
 have HS:=hide (hs.quiet hTa)
 have HR:=hide (hr.quiet hTa)
 have HD:=hide hD
 have HN0:=hide hr.len
 have hn:=hr.few
 have hx1:¬ bs=ra:=by omega
 have hx2:¬ ra=bs:=by omega
 obtain ⟨a0,a1,a2⟩:=haB.facts
 obtain ⟨b0,b1,b2⟩:=hbB.facts
 obtain ⟨s0,s1,s2⟩:=hsB.facts
 obtain ⟨r0,r1,r2⟩:=hrB.facts
 clear hwa hba hbb hbs hra hTa haB hbB hsB hrB hs hr hD
 go_enter Tryd.func30,Tryd.ntmps30
 go_upto_region 1 with fail
 rw [← HWA.out,← H3.out,← H2.out,← H1.out,← H0.out]
 rcases hkd with rfl | rfl
 all_goals
  have hsk:=HSK.out
  subst hsk
  clear HSK
  obtain ⟨gR,rfl,hgR,hnc,c0,c1,c2,c3⟩:=rw_at HR.out k hkn
  rw [HROW.out] at c0 c1 c2 c3
  simp only at c0 c1 c2 c3
  go_upto_region 14 with fail
  go_region
  go_wp2_with fail
  try simp only [Exit.inBlock,Exit.then]
  refine bodyPost_ret (v:=.tuple #[.agg #[.slice tA tn tc,.slice (some ⟨gR,0,none⟩) n c],ansV ⟨0,rc,rr,rh⟩]) (results_cells rfl _ _ bs ra 39 34 _ _ _ _ rfl ?hsb Tryd.underlying39 rfl (by kernel_rfl) rfl ?hrb Tryd.underlying34 rfl (by kernel_rfl)) rfl ?_
  case hsb=>exact ((far3 (two_cells _ _ _ _ HSB.out) HLO.out.2.2.2.2.2.2).alloc _).drew
  case hrb=>exact ((ans_cells _ _ _ _ _ _ (far2 HRB.out HLO.out.2.2.2.2.2.2.symm)).alloc _).drew
  exact ⟨rfl,((((((HTA.out.setCell (p:=⟨bs,_,none⟩) (fun hx=>absurd hx (by have h9:=HLO.out;simp at hx;omega)) _).setCell (p:=⟨bs,_,none⟩) (fun hx=>absurd hx (by have h9:=HLO.out;simp at hx;omega)) _).setCell (p:=⟨ra,_,none⟩) (fun hx=>absurd hx (by have h9:=HLO.out;simp at hx;omega)) _).setCell (p:=⟨ra,_,none⟩) (fun hx=>absurd hx (by have h9:=HLO.out;simp at hx;omega)) _).setCell (p:=⟨ra,_,none⟩) (fun hx=>absurd hx (by have h9:=HLO.out;simp at hx;omega)) _).alloc _).drew⟩
end Go.Proofs.YthockgmbooefpaaDoor
namespace Go.Proofs.YthockgmbooefpaaDoor
open Go.RowKit
theorem wp_app_runU {P:Program} {o:Oper} {a:Act} {w:World} {K:Act→World→Prop} {Q:Exit→Act→World→Prop} (s x:Operand) (t:TypeId) (hop:o.op=Op.call { callee:=Callee.builtin Builtin.append,args:=#[s,x],argTypes:=#[t,t] })
  (v1 v2 v:Value) (w':World) (hs:a.eval s=v1) (hx:a.eval x=v2) (hrun:(Builtin.append_ #[t,t] o.type #[v1,v2]).run P w=.ok v w') (h:K (a.put o.dst v) w'):o.wp P a w K Q:=by
 unfold Oper.wp
 simp [execOp,hop,resolve,invoke,builtin,hs,hx,hrun,Result.andThen]
 exact h
set_option maxRecDepth 100000 in
set_option maxHeartbeats 12000000 in
theorem rdo_open (w:World) (B0:Nat) {tA:Option Addr} {tn tc:Nat} {tL L:List PRow} (hs:RfL B0 w ⟨tA,tn,tc,tL⟩ L) (hD:DictP L) {A:Option Addr} {n c:Nat} {R:List SRow} (hr:RwL w A n c R) (sid sq nn:Int) (kw:ByteArray) (hk:kw.size≤1099511627776) (hf:n<4096) :
  Calls Tryd.prog 30 #[.agg #[.slice tA tn tc,.slice A n c],.agg #[.int .i64 1,.int .u64 sid,.int .u64 sq,.string kw,.int .i64 nn]] w fun e w'=>∃ A' n' c',e=.returned (.tuple #[.agg #[.slice tA tn tc,.slice A' n' c'],ansV ⟨0,0,(n:Int)+1,0⟩])∧RwL w' A' n' c' (R++[SRow.zero])∧Touch (fun _=>False) w w':=by
 obtain ⟨wa,hwa⟩:∃ z,z=(((w.alloc (.cells #[.slice tA tn tc,.slice A n c] 39)).alloc (.cells #[.int .i64 1,.int .u64 sid,.int .u64 sq,.string kw,.int .i64 nn] 29)).alloc (.cells #[.slice none 0 0,.slice none 0 0] 39)).alloc (.cells #[.int .i64 0,.int .u64 0,.int .i64 0] 34):=⟨_,rfl⟩
 obtain ⟨ba,hba⟩:∃ z,z=w.heap.size:=⟨_,rfl⟩
 obtain ⟨bb,hbb⟩:∃ z,z=w.heap.size+1:=⟨_,rfl⟩
 obtain ⟨bs,hbs⟩:∃ z,z=w.heap.size+1+1:=⟨_,rfl⟩
 obtain ⟨ra,hra⟩:∃ z,z=w.heap.size+1+1+1:=⟨_,rfl⟩
 have hTa:Touch (fun _=>False) w wa:=by rw [hwa];exact ((((Touch.refl _ _).alloc _).alloc _).alloc _).alloc _
 have haB:Blk wa ba 39 #[.slice tA tn tc,.slice A n c]:=by rw [hwa,hba];exact (((Blk.new _ _ _).alloc _).alloc _).alloc _
 have hbB:Blk wa bb 29 #[.int .i64 1,.int .u64 sid,.int .u64 sq,.string kw,.int .i64 nn]:=by
  have h1:=(((Blk.new (w.alloc (.cells #[.slice tA tn tc,.slice A n c] 39)) 29 #[.int .i64 1,.int .u64 sid,.int .u64 sq,.string kw,.int .i64 nn]).alloc (.cells #[.slice none 0 0,.slice none 0 0] 39)).alloc (.cells #[.int .i64 0,.int .u64 0,.int .i64 0] 34))
  rw [hwa,hbb];simpa using h1
 have hsB:Blk wa bs 39 #[.slice none 0 0,.slice none 0 0]:=by
  have h1:=(Blk.new ((w.alloc (.cells #[.slice tA tn tc,.slice A n c] 39)).alloc (.cells #[.int .i64 1,.int .u64 sid,.int .u64 sq,.string kw,.int .i64 nn] 29)) 39 #[.slice none 0 0,.slice none 0 0]).alloc (.cells #[.int .i64 0,.int .u64 0,.int .i64 0] 34)
  rw [hwa,hbs];simpa using h1
 have hrB:Blk wa ra 34 #[.int .i64 0,.int .u64 0,.int .i64 0]:=by
  have h1:=Blk.new (((w.alloc (.cells #[.slice tA tn tc,.slice A n c] 39)).alloc (.cells #[.int .i64 1,.int .u64 sid,.int .u64 sq,.string kw,.int .i64 nn] 29)).alloc (.cells #[.slice none 0 0,.slice none 0 0] 39)) 34 #[.int .i64 0,.int .u64 0,.int .i64 0]
  rw [hwa,hra];simpa using h1
 have HLO:Hid (w.heap.size≤ba∧w.heap.size≤bb∧w.heap.size≤bs∧w.heap.size≤ra∧ba≠bs∧bb≠bs∧bs≠ra):=hide (by omega)
 have HTA:=hide hTa
 have HAB:=hide haB
 have HBB:=hide hbB
 have HSB:=hide hsB
 have HRB:=hide hrB
 have HWA:=hide hwa
 have H0:=hide hba
 have H1:=hide hbb
 have H2:=hide hbs
 have H3:=hide hra
 have HS:=hide (hs.quiet hTa)
 have HR:=hide (hr.quiet hTa)
 have HD:=hide hD
 have HN0:=hide hr.len
 have hn:=hr.few
 have hx1:¬ bs=ra:=by omega
 have hx2:¬ ra=bs:=by omega
 obtain ⟨a0,a1,a2⟩:=haB.facts
 obtain ⟨b0,b1,b2⟩:=hbB.facts
 obtain ⟨s0,s1,s2⟩:=hsB.facts
 obtain ⟨r0,r1,r2⟩:=hrB.facts
 clear hwa hba hbb hbs hra hTa haB hbB hsB hrB hs hr hD
 go_enter Tryd.func30,Tryd.ntmps30
 go_upto_region 1 with fail
 rw [← HWA.out,← H3.out,← H2.out,← H1.out,← H0.out]
 have hnf:(n:Int)<4096:=by omega
 have HNIL:=hide (own_nilOk HR.out.own)
 have HRD:=hide (Reads.of_own HR.out.own)
 obtain ⟨i0,hi,hz0,hz1,hz2⟩:=info_parts Tryd.infoRRow
 go_upto_region 4 with fail
 go_wp2_with (at_builtin;refine wpList_app _ rfl (.tmp 22) (.tmp 24) 37 rfl 70 i0 (.agg #[.int .u64 0,.int .i64 0,.int .u64 0,.int .i64 0]) 4 32 Tryd.underlying37 hi hz0 hz1 hz2 rfl (by decide) _ 0 [] rfl (World.ownsRow_made _ #[] 0 (Nat.zero_le _) (by decide) rfl) A n c (rowCells R) rfl (HRD.out.alloc _) ?c2 (srow_one R) ?c4 ?c5 ?_)
 case c2=>exact HNIL.out
 case c4=>unfold maxLen;omega
 case c5=>omega
 intro v1 w1 hown hgrow hfr _
 have T1:Touch (fun _=>False) wa w1:=((Touch.refl _ _).alloc _).grown hgrow (fun k hk hlt=>by simp [Value.ownBlock] at hk;omega)
 have ho1:w1.ownsRow 0 70 4 v1 n (rowCells R):=by simpa using hown
 have hfr1:∀ g,v1.ownBlock=some g→wa.heap.size≤g:=fun g hg=>by
  rcases hfr with h | ⟨g',h,hg'⟩
  ·rw [h] at hg;simp [Value.ownBlock] at hg;omega
  ·rw [h] at hg;simp at hg hg';omega
 obtain ⟨A1,c1,hv,_⟩:=own_len ho1
 subst hv
 have HO1:=hide ho1
 have HT1:=hide T1
 have HF1:=hide hfr1
 have HA1:=hide (HAB.out.touch T1 (fun f=>f))
 have HB1:=hide (HBB.out.touch T1 (fun f=>f))
 have HS1:=hide (HSB.out.touch T1 (fun f=>f))
 have HR1:=hide (HRB.out.touch T1 (fun f=>f))
 have HBD:Hid (n+1≤maxLen∧(n+1)*32≤140737488355328):=hide (by unfold maxLen;omega)
 clear hown hgrow hfr T1 ho1 hfr1 a0 a1 a2 b0 b1 b2 s0 s1 s2 r0 r1 r2
 obtain ⟨a0,a1,a2⟩:=HA1.out.facts
 obtain ⟨s0,s1,s2⟩:=HS1.out.facts
 obtain ⟨r0,r1,r2⟩:=HR1.out.facts
 have hx3:¬ ba=bs:=HLO.out.2.2.2.2.1
 have hx4:¬ bs=ba:=fun e=>hx3 e.symm
 have hx5:¬ ba=ra:=by have h0:=H0.out;have h3:=H3.out;omega
 have hx6:¬ ra=ba:=fun e=>hx5 e.symm
 go_upto_region 5 with fail
 have HKS:Hid (∀ wx,Touch (fun k=>(Value.slice A1 n c1).ownBlock=some k∨k=bs∨k=ra) w1 wx→wx.cell? ⟨ba,0,none⟩=some (.slice tA tn tc)∧wx.cell? ⟨ba,1,none⟩=some (.slice A n c)∧Touch (fun k=>(Value.slice A1 n c1).ownBlock=some k∨k=bs∨k=ra) w1 wx):=hide (fun wx T=>by
  have hb:=HA1.out.touch T (fun e=>by
   rcases e with e | e | e
   ·exact own_blk_ne HO1.out HA1.out (by decide) e
   ·exact hx3 e
   ·exact hx5 e)
  exact ⟨(hb.cell 0).trans rfl,(hb.cell 1).trans rfl,T⟩)
 have HOR:Hid (¬ (Value.slice A1 n c1).ownBlock=some ra):=hide (own_blk_ne HO1.out HR1.out (by decide))
 have HW1:Hid (wa.heap.size≤w1.heap.size):=hide HT1.out.size
 have u1:IntKind.i64.wrap ((n:Int)+1)=(n:Int)+1:=IntWalk.i64_in _ (by omega)
 have u2:IntKind.u64.wrap ((n:Int)+1)=(n:Int)+1:=IntWalk.u64_in _ (by omega)
 refine wp_region_held_drew (S:=fun wx=>wx.cell? ⟨ba,0,none⟩=some (.slice tA tn tc)∧wx.cell? ⟨ba,1,none⟩=some (.slice A n c)∧Touch (fun k=>(Value.slice A1 n c1).ownBlock=some k∨k=bs∨k=ra) w1 wx) (by kernel_rfl) (HKS.out _ (Touch.refl _ _).drew) (fun hHeld=>?_)
 refine wpAnyH_take (i:=0) (v:=?v0) rfl (by kernel_rfl) (by kernel_rfl) (by kernel_rfl) (fun _ _ _ h=>h) (Or.inl ⟨by kernel_rfl,?h0⟩) hHeld ?_
 case h0=>rintro wq ⟨s0,s1,s2⟩;go_simp;with_reducible rfl
 simp only [List.getElem_toArray,List.getElem_cons_succ,List.getElem_cons_zero,Act.put,List.setIfInBounds_toArray,List.set_cons_zero,List.set_cons_succ]
 refine wpAnyH_take (i:=1) (v:=?v1) rfl (by kernel_rfl) (by kernel_rfl) (by kernel_rfl) (fun _ _ _ h=>h) (Or.inl ⟨by kernel_rfl,?h1⟩) hHeld ?_
 case h1=>rintro wq ⟨s0,s1,s2⟩;go_simp;with_reducible rfl
 simp only [List.getElem_toArray,List.getElem_cons_succ,List.getElem_cons_zero,Act.put,List.setIfInBounds_toArray,List.set_cons_zero,List.set_cons_succ]
 refine wpAnyH_take (i:=2) (v:=?v2) rfl (by kernel_rfl) (by kernel_rfl) (by kernel_rfl) (fun _ _ _ h=>h) (Or.inl ⟨by kernel_rfl,?h2⟩) hHeld ?_
 case h2=>rintro wq ⟨s0,s1,s2⟩;go_simp;with_reducible rfl
 simp only [List.getElem_toArray,List.getElem_cons_succ,List.getElem_cons_zero,Act.put,List.setIfInBounds_toArray,List.set_cons_zero,List.set_cons_succ]
 refine wpAnyH_take (i:=3) (v:=?v3) rfl (by kernel_rfl) (by kernel_rfl) (by kernel_rfl) (fun _ _ _ h=>h) (Or.inl ⟨by kernel_rfl,?h3⟩) hHeld ?_
 case h3=>rintro wq ⟨s0,s1,s2⟩;go_simp;with_reducible rfl
 simp only [List.getElem_toArray,List.getElem_cons_succ,List.getElem_cons_zero,Act.put,List.setIfInBounds_toArray,List.set_cons_zero,List.set_cons_succ]
 refine wpAnyH_take (i:=7) (v:=?v7) rfl (by kernel_rfl) (by kernel_rfl) (by kernel_rfl) (fun _ _ _ h=>h) (Or.inl ⟨by kernel_rfl,?h7⟩) hHeld ?_
 case h7=>rintro wq ⟨s0,s1,s2⟩;go_simp;with_reducible rfl
 simp only [List.getElem_toArray,List.getElem_cons_succ,List.getElem_cons_zero,Act.put,List.setIfInBounds_toArray,List.set_cons_zero,List.set_cons_succ]
 refine wpAnyH_take (i:=8) (v:=?v8) rfl (by kernel_rfl) (by kernel_rfl) (by kernel_rfl) (fun _ _ _ h=>h) (Or.inl ⟨by kernel_rfl,?h8⟩) hHeld ?_
 case h8=>rintro wq ⟨s0,s1,s2⟩;go_simp;with_reducible rfl
 simp only [List.getElem_toArray,List.getElem_cons_succ,List.getElem_cons_zero,Act.put,List.setIfInBounds_toArray,List.set_cons_zero,List.set_cons_succ]
 refine wpAnyH_take (i:=9) (v:=?v9) rfl (by kernel_rfl) (by kernel_rfl) (by kernel_rfl) (fun _ _ _ h=>h) (Or.inl ⟨by kernel_rfl,?h9⟩) hHeld ?_
 case h9=>rintro wq ⟨s0,s1,s2⟩;go_simp;with_reducible rfl
 simp only [List.getElem_toArray,List.getElem_cons_succ,List.getElem_cons_zero,Act.put,List.setIfInBounds_toArray,List.set_cons_zero,List.set_cons_succ]
 refine wpAnyH_take (i:=10) (v:=?v10) rfl (by kernel_rfl) (by kernel_rfl) (by kernel_rfl) (fun _ _ _ h=>h) (Or.inl ⟨by kernel_rfl,?h10⟩) hHeld ?_
 case h10=>rintro wq ⟨s0,s1,s2⟩;go_simp;with_reducible rfl
 simp only [List.getElem_toArray,List.getElem_cons_succ,List.getElem_cons_zero,Act.put,List.setIfInBounds_toArray,List.set_cons_zero,List.set_cons_succ]
 refine wpAnyH_take (i:=11) (v:=?v11) rfl (by kernel_rfl) (by kernel_rfl) (by kernel_rfl) (fun _ _ _ h=>h) (Or.inl ⟨by kernel_rfl,?h11⟩) hHeld ?_
 case h11=>rintro wq ⟨s0,s1,s2⟩;go_simp;with_reducible rfl
 simp only [List.getElem_toArray,List.getElem_cons_succ,List.getElem_cons_zero,Act.put,List.setIfInBounds_toArray,List.set_cons_zero,List.set_cons_succ]
 refine wpAnyH_take (i:=12) (v:=?v12) rfl (by kernel_rfl) (by kernel_rfl) (by kernel_rfl) (fun _ _ _ h=>h) (Or.inl ⟨by kernel_rfl,?h12⟩) hHeld ?_
 case h12=>rintro wq ⟨s0,s1,s2⟩;go_simp;with_reducible rfl
 simp only [List.getElem_toArray,List.getElem_cons_succ,List.getElem_cons_zero,Act.put,List.setIfInBounds_toArray,List.set_cons_zero,List.set_cons_succ]
 refine wpAnyH_ready (rs:=[4]) (by kernel_rfl) (by simp) ?_
 refine AllReadyH.cons rfl (fun K hK=>?_) AllReadyH.nil
 go_simp
 go_simp
 refine hK.out _ _ (HKS.out _ ((Touch.refl _ _).drew.alloc _)) (fun hHeld=>?_)
 clear hK K
 try simp only [List.getElem_toArray,List.getElem_cons_succ,List.getElem_cons_zero,Act.put,List.setIfInBounds_toArray,List.set_cons_zero,List.set_cons_succ]
 have hTq:Touch (fun _=>False) w1 (w1.drew.alloc (.cells #[.int .u64 0,.int .i64 0,.int .u64 0,.int .i64 0] 70)):=(Touch.refl _ _).drew.alloc _
 obtain ⟨v2,w2,hr2,hO2,hG2,hF2,_⟩:=run_app (P:=Tryd.prog) (w1.drew.alloc (.cells #[.int .u64 0,.int .i64 0,.int .u64 0,.int .i64 0] 70)) 37 37 70 i0 _ 4 32 Tryd.underlying37 hi hz0 hz1 hz2 rfl (by decide) (.slice A1 n c1) n (rowCells R) (own_touch HO1.out hTq (fun _ _ f=>f)) (some ⟨w1.heap.size,0,none⟩) 1 1 [.int .u64 0,.int .i64 0,.int .u64 0,.int .i64 0] (Reads.new w1.drew 70 [.int .u64 0,.int .i64 0,.int .u64 0,.int .i64 0] 1 rfl) (fun h=>by cases h) (List.all_eq_true.1 rfl) HBD.out.1 HBD.out.2
 obtain ⟨A2,c2,hv2,_,_⟩:=own_len hO2
 subst hv2
 have hT2:Touch (fun k=>(Value.slice A1 n c1).ownBlock=some k) w1 w2:=(hTq.up _).grown hG2 (fun k hk _=>hk)
 have HR2:=hide hr2
 have HO2:=hide hO2
 have HT2:Hid (Touch (fun k=>(Value.slice A1 n c1).ownBlock=some k∨k=bs∨k=ra) w1 w2):=hide (hT2.mono (fun _ _ e=>.inl e))
 have HTF:Hid (Touch (fun _=>False) wa w2):=hide (HT1.out.trans hT2 (fun i hi e=>absurd hi (by have:=HF1.out i e;omega)))
 have HS2:=hide (HS1.out.touch hT2 (own_blk_ne HO1.out HS1.out (by decide)))
 have HRR2:=hide (HR1.out.touch hT2 HOR.out)
 clear hr2 hO2 hG2 hF2 hT2 hTq s0 s1 s2 r0 r1 r2
 obtain ⟨s0,s1,s2⟩:=HS2.out.facts
 obtain ⟨r0,r1,r2⟩:=HRR2.out.facts
 refine wpAnyH_ready (rs:=[5]) (by kernel_rfl) (by simp) ?_
 refine AllReadyH.cons rfl (fun K hK=>?_) AllReadyH.nil
 refine wp_app_runU (.tmp 28) (.tmp 30) 37 rfl (.slice A1 n c1) (.slice (some ⟨w1.heap.size,0,none⟩) 1 1) _ w2 (by first | (simp [Act.eval];done) | (go_simp;done) | (trace_state;fail)) (by first | (simp [Act.eval];done) | (go_simp;done) | (trace_state;fail)) HR2.out ?_
 refine hK.out _ _ (HKS.out _ HT2.out) (fun hHeld=>?_)
 clear hK K
 try simp only [List.getElem_toArray,List.getElem_cons_succ,List.getElem_cons_zero,Act.put,List.setIfInBounds_toArray,List.set_cons_zero,List.set_cons_succ]
 refine wpAnyH_take (i:=6) (v:=?v6) rfl (by kernel_rfl) (by kernel_rfl) (by kernel_rfl) (fun _ _ _ h=>h) (Or.inl ⟨by kernel_rfl,?h6⟩) hHeld ?_
 case h6=>rintro wq ⟨s0,s1,s2⟩;go_simp;with_reducible rfl
 simp only [List.getElem_toArray,List.getElem_cons_succ,List.getElem_cons_zero,Act.put,List.setIfInBounds_toArray,List.set_cons_zero,List.set_cons_succ]
 refine wpAnyH_ready (rs:=[13]) (by kernel_rfl) (by simp) ?_
 refine AllReadyH.cons rfl (fun K hK=>?_) AllReadyH.nil
 go_simp
 go_simp
 refine hK.out _ _ (HKS.out _ ((HT2.out.setCell (p:=⟨bs,_,none⟩) (fun _=>.inr (.inl rfl)) _).setCell (p:=⟨bs,_,none⟩) (fun _=>.inr (.inl rfl)) _)) (fun hHeld=>?_)
 clear hK K
 try simp only [List.getElem_toArray,List.getElem_cons_succ,List.getElem_cons_zero,Act.put,List.setIfInBounds_toArray,List.set_cons_zero,List.set_cons_succ]
 refine wpAnyH_ready (rs:=[14]) (by kernel_rfl) (by simp) ?_
 refine AllReadyH.cons rfl (fun K hK=>?_) AllReadyH.nil
 go_simp
 go_simp
 refine hK.out _ _ (HKS.out _ (((((HT2.out.setCell (p:=⟨bs,_,none⟩) (fun _=>.inr (.inl rfl)) _).setCell (p:=⟨bs,_,none⟩) (fun _=>.inr (.inl rfl)) _).setCell (p:=⟨ra,_,none⟩) (fun _=>.inr (.inr rfl)) _).setCell (p:=⟨ra,_,none⟩) (fun _=>.inr (.inr rfl)) _).setCell (p:=⟨ra,_,none⟩) (fun _=>.inr (.inr rfl)) _)) (fun hHeld=>?_)
 clear hK K
 try simp only [List.getElem_toArray,List.getElem_cons_succ,List.getElem_cons_zero,Act.put,List.setIfInBounds_toArray,List.set_cons_zero,List.set_cons_succ]
 refine wpAnyH_done (by kernel_rfl) ?_ _
 go_wp2_with fail
 try simp only [Exit.inBlock,Exit.then]
 refine bodyPost_ret (v:=.tuple #[.agg #[.slice tA tn tc,.slice A2 (n+1) c2],ansV ⟨0,0,(n:Int)+1,0⟩]) (results_cells rfl _ _ bs ra 39 34 _ _ _ _ rfl ?hsb Tryd.underlying39 rfl (by kernel_rfl) rfl ?hrb Tryd.underlying34 rfl (by kernel_rfl)) rfl ?_
 case hsb=>first | exact (far3 (two_cells _ _ _ _ HS2.out) HLO.out.2.2.2.2.2.2) | exact (far3 (two_cells _ _ _ _ HS2.out) HLO.out.2.2.2.2.2.2).drew
 case hrb=>first | exact (ans_cells _ _ _ _ _ _ (far2 HRR2.out HLO.out.2.2.2.2.2.2.symm)) | exact (ans_cells _ _ _ _ _ _ (far2 HRR2.out HLO.out.2.2.2.2.2.2.symm)).drew
 have TF:Touch (fun g=>g=bs∨g=ra) w2 (((((w2.setCell ⟨bs,0,none⟩ (.slice tA tn tc)).setCell ⟨bs,1,none⟩ (.slice A2 (n+1) c2)).setCell ⟨ra,0,none⟩ (.int .i64 0)).setCell ⟨ra,1,none⟩ (.int .u64 ((n:Int)+1))).setCell ⟨ra,2,none⟩ (.int .i64 0)):=(((((Touch.refl (fun g=>g=bs∨g=ra) w2).setCell (p:=⟨bs,_,none⟩) (fun _=>.inl rfl) _).setCell (p:=⟨bs,_,none⟩) (fun _=>.inl rfl) _).setCell (p:=⟨ra,_,none⟩) (fun _=>.inr rfl) _).setCell (p:=⟨ra,_,none⟩) (fun _=>.inr rfl) _).setCell (p:=⟨ra,_,none⟩) (fun _=>.inr rfl) _
 have hl9:=HLO.out
 have hO3:w2.ownsRow 0 70 4 (.slice A2 (n+1) c2) (n+1) (rowCells (R++[SRow.zero])):=by rw [rowCells_snoc];exact HO2.out
 refine ⟨A2,n+1,c2,rfl,⟨own_touch hO3 TF (fun g hg e=>?_),by rw [List.length_append,HN0.out];rfl,by omega⟩,(HTA.out.then HTF.out).trans TF (fun i hi e=>?_)⟩
 ·rcases e with rfl | rfl
  ·exact own_blk_ne hO3 HS2.out (by decide) hg
  ·exact own_blk_ne hO3 HRR2.out (by decide) hg
 ·rcases e with rfl | rfl<;>omega
end Go.Proofs.YthockgmbooefpaaDoor
namespace Go.Proofs.YthockgmbooefpaaDoor
open Go.RowKit
set_option maxRecDepth 100000 in
set_option maxHeartbeats 12000000 in
theorem rdo_new3 (w:World) (B0:Nat) {tA:Option Addr} {tn tc:Nat} {tL L:List PRow} (hs:RfL B0 w ⟨tA,tn,tc,tL⟩ L) (hD:DictP L) {A:Option Addr} {n c:Nat} {R:List SRow} (hr:RwL w A n c R) (sid sq nn:Int) (kw:ByteArray) (hk:kw.size≤1099511627776) (hB0:B0≤w.heap.size) (k:Nat) (hsk:sid=(k:Int)+1) (hkn:k<n) (rs rc rr rh:Int) (hrow:R.getD k SRow.zero=⟨rs,rc,rr,rh⟩) (h1:¬ sq=0) (h2:¬ sq<rs) (h3:¬ sq=rs) :
  Calls Tryd.prog 30 #[.agg #[.slice tA tn tc,.slice A n c],.agg #[.int .i64 3,.int .u64 sid,.int .u64 sq,.string kw,.int .i64 nn]] w fun e w'=>∃ (s':SL) (A':Option Addr) (n' c':Nat),e=.returned (.tuple #[.agg #[s'.val,.slice A' n' c'],ansV ⟨0,(remE L kw.toList),0,(remH L kw)⟩])∧RfL B0 w' s' (remL L kw)∧RwL w' A' n' c' (R.set k ⟨sq,(remE L kw.toList),0,(remH L kw)⟩)∧Touch (fun _=>False) w w':=by
 have HSK:=hide hsk
 have HROW:=hide hrow
 clear hsk hrow
 have HB0':=hide hB0
 clear hB0
 have HRM:=hide (fun (wx:World) (hr:RfL B0 wx ⟨tA,tn,tc,tL⟩ L)=>rremove_any wx B0 ⟨tA,tn,tc,tL⟩ hr hD kw hk)
 simp only [SL.val] at HRM
 obtain ⟨hh,hhh⟩:∃ x,x=remH L kw:=⟨_,rfl⟩
 obtain ⟨ee,hee⟩:∃ x,x=remE L kw.toList:=⟨_,rfl⟩
 obtain ⟨L2,hL2⟩:∃ x,x=remL L kw:=⟨_,rfl⟩
 simp only [← hhh,← hee,← hL2] at HRM
 rw [← hhh,← hee,← hL2]
 clear hhh hee hL2
 obtain ⟨wa,hwa⟩:∃ z,z=(((w.alloc (.cells #[.slice tA tn tc,.slice A n c] 39)).alloc (.cells #[.int .i64 3,.int .u64 sid,.int .u64 sq,.string kw,.int .i64 nn] 29)).alloc (.cells #[.slice none 0 0,.slice none 0 0] 39)).alloc (.cells #[.int .i64 0,.int .u64 0,.int .i64 0] 34):=⟨_,rfl⟩
 obtain ⟨ba,hba⟩:∃ z,z=w.heap.size:=⟨_,rfl⟩
 obtain ⟨bb,hbb⟩:∃ z,z=w.heap.size+1:=⟨_,rfl⟩
 obtain ⟨bs,hbs⟩:∃ z,z=w.heap.size+1+1:=⟨_,rfl⟩
 obtain ⟨ra,hra⟩:∃ z,z=w.heap.size+1+1+1:=⟨_,rfl⟩
 have hTa:Touch (fun _=>False) w wa:=by rw [hwa];exact ((((Touch.refl _ _).alloc _).alloc _).alloc _).alloc _
 have haB:Blk wa ba 39 #[.slice tA tn tc,.slice A n c]:=by rw [hwa,hba];exact (((Blk.new _ _ _).alloc _).alloc _).alloc _
 have hbB:Blk wa bb 29 #[.int .i64 3,.int .u64 sid,.int .u64 sq,.string kw,.int .i64 nn]:=by
  have h1:=(((Blk.new (w.alloc (.cells #[.slice tA tn tc,.slice A n c] 39)) 29 #[.int .i64 3,.int .u64 sid,.int .u64 sq,.string kw,.int .i64 nn]).alloc (.cells #[.slice none 0 0,.slice none 0 0] 39)).alloc (.cells #[.int .i64 0,.int .u64 0,.int .i64 0] 34))
  rw [hwa,hbb];simpa using h1
 have hsB:Blk wa bs 39 #[.slice none 0 0,.slice none 0 0]:=by
  have h1:=(Blk.new ((w.alloc (.cells #[.slice tA tn tc,.slice A n c] 39)).alloc (.cells #[.int .i64 3,.int .u64 sid,.int .u64 sq,.string kw,.int .i64 nn] 29)) 39 #[.slice none 0 0,.slice none 0 0]).alloc (.cells #[.int .i64 0,.int .u64 0,.int .i64 0] 34)
  rw [hwa,hbs];simpa using h1
 have hrB:Blk wa ra 34 #[.int .i64 0,.int .u64 0,.int .i64 0]:=by
  have h1:=Blk.new (((w.alloc (.cells #[.slice tA tn tc,.slice A n c] 39)).alloc (.cells #[.int .i64 3,.int .u64 sid,.int .u64 sq,.string kw,.int .i64 nn] 29)).alloc (.cells #[.slice none 0 0,.slice none 0 0] 39)) 34 #[.int .i64 0,.int .u64 0,.int .i64 0]
  rw [hwa,hra];simpa using h1
 have HLO:Hid (w.heap.size≤ba∧w.heap.size≤bb∧w.heap.size≤bs∧w.heap.size≤ra∧ba≠bs∧bb≠bs∧bs≠ra):=hide (by omega)
 have HTA:=hide hTa
 have HAB:=hide haB
 have HBB:=hide hbB
 have HSB:=hide hsB
 have HRB:=hide hrB
 have HWA:=hide hwa
 have H0:=hide hba
 have H1:=hide hbb
 have H2:=hide hbs
 have H3:=hide hra
 have HS:=hide (hs.quiet hTa)
 have HR:=hide (hr.quiet hTa)
 have HD:=hide hD
 have HN0:=hide hr.len
 have hn:=hr.few
 have hx1:¬ bs=ra:=by omega
 have hx2:¬ ra=bs:=by omega
 obtain ⟨a0,a1,a2⟩:=haB.facts
 obtain ⟨b0,b1,b2⟩:=hbB.facts
 obtain ⟨s0,s1,s2⟩:=hsB.facts
 obtain ⟨r0,r1,r2⟩:=hrB.facts
 clear hwa hba hbb hbs hra hTa haB hbB hsB hrB hs hr hD
 go_enter Tryd.func30,Tryd.ntmps30
 go_upto_region 1 with fail
 rw [← HWA.out,← H3.out,← H2.out,← H1.out,← H0.out]
 have hsk:=HSK.out
 subst hsk
 clear HSK
 obtain ⟨gR,rfl,hgR,hnc,c0,c1,c2,c3⟩:=rw_at HR.out k hkn
 rw [HROW.out] at c0 c1 c2 c3
 simp only at c0 c1 c2 c3
 have HNIL:=hide (own_nilOk HR.out.own)
 have HRD:=hide (Reads.of_own HR.out.own)
 have HKN:=hide hkn
 have HNC:=hide hnc
 clear hgR hnc
 obtain ⟨i0,hi,hz0,hz1,hz2⟩:=info_parts Tryd.infoRRow
 go_upto_region 15 with fail
 obtain ⟨wb,hwb⟩:∃ y,y=wa.alloc (.cells #[.int .u64 rs,.int .i64 rc,.int .u64 rr,.int .i64 rh] 70):=⟨_,rfl⟩
 have HWB:=hide hwb
 have hTb:Touch (fun _=>False) wa wb:=by rw [hwb];exact (Touch.refl _ _).alloc _
 rw [← hwb]
 have HTB:=hide hTb
 have HAB':=hide (HAB.out.touch hTb (fun f=>f))
 have HBB':=hide (HBB.out.touch hTb (fun f=>f))
 clear hwb hTb a0 a1 a2 b0 b1 b2 s0 s1 s2 r0 r1 r2 c0 c1 c2 c3
 obtain ⟨a0,a1,a2⟩:=HAB'.out.facts
 obtain ⟨b0,b1,b2⟩:=HBB'.out.facts
 go_wp2_with fail
 refine (HRM.out _ (HS.out.quiet HTB.out)).mono ?_
 rintro e w1 ⟨⟨mA,mn,mc,mL⟩,rfl,hm1,T1⟩
 have HM1:=hide hm1
 have HT1:=hide (HTB.out.then T1)
 have HA1:=hide (HAB'.out.touch T1 (fun f=>f))
 have HB1:=hide (HBB'.out.touch T1 (fun f=>f))
 clear hm1 T1 a0 a1 a2 b0 b1 b2 HRM
 obtain ⟨a0,a1,a2⟩:=HA1.out.facts
 obtain ⟨b0,b1,b2⟩:=HB1.out.facts
 simp only [SL.val]
 go_upto_region 19 with fail
 obtain ⟨wc,hwc⟩:∃ y,y=w1.alloc (.cells #[.int .i64 ee,.int .u64 0,.int .i64 hh] 34):=⟨_,rfl⟩
 obtain ⟨ga,hga⟩:∃ y,y=w1.heap.size:=⟨_,rfl⟩
 have hTc:Touch (fun _=>False) wa wc:=by rw [hwc];exact HT1.out.alloc _
 have HGA:Hid (Blk wc ga 34 #[.int .i64 ee,.int .u64 0,.int .i64 hh]):=hide (by rw [hwc,hga];exact Blk.new _ _ _)
 have HGL:Hid (wa.heap.size≤ga):=hide (by rw [hga];exact HT1.out.size)
 have HMC:Hid (RfL B0 wc ⟨mA,mn,mc,mL⟩ L2):=hide (by rw [hwc];exact HM1.out.quiet ((Touch.refl _ _).alloc _))
 have HAC:Hid (Blk wc ba 39 #[.slice tA tn tc,.slice (some ⟨gR,0,none⟩) n c]):=hide (by rw [hwc];exact HA1.out.alloc _)
 have HBC:Hid (Blk wc bb 29 #[.int .i64 3,.int .u64 ((k:Int)+1),.int .u64 sq,.string kw,.int .i64 nn]):=hide (by rw [hwc];exact HB1.out.alloc _)
 have HTC:=hide hTc
 rw [← hwc,← hga]
 clear hwc hga hTc a0 a1 a2 b0 b1 b2 HM1 HT1 HA1 HB1
 obtain ⟨a0,a1,a2⟩:=HAC.out.facts
 go_wp2_with (at_builtin;refine wpList_app _ rfl (.tmp 116) (.tmp 118) 37 rfl 70 i0 (.agg #[.int .u64 0,.int .i64 0,.int .u64 0,.int .i64 0]) 4 32 Tryd.underlying37 hi hz0 hz1 hz2 rfl (by decide) _ 0 [] rfl (World.ownsRow_made _ #[] 0 (Nat.zero_le _) (by decide) rfl) (some ⟨gR,0,none⟩) n c (rowCells R) rfl ((HRD.out.touch HTC.out (fun _ _ f=>f)).alloc _) ?c2 (srow_one R) ?c4 ?c5 ?_)
 case c2=>exact HNIL.out
 case c4=>unfold maxLen;omega
 case c5=>omega
 intro v1 w2 hown hgrow hfr _
 have T2:Touch (fun _=>False) wc w2:=((Touch.refl _ _).alloc _).grown hgrow (fun k hk hlt=>by simp [Value.ownBlock] at hk;omega)
 have ho2:w2.ownsRow 0 70 4 v1 n (rowCells R):=by simpa using hown
 obtain ⟨gN,cN,hv,hle,hmx,hgN,hcN,hfN⟩:=own_form ho2 (by have:=HKN.out;omega)
 subst hv
 have hgy:wc.heap.size≤gN:=by
  rcases hfr with h | ⟨g',h,hg'⟩
  ·simp [Value.ownBlock] at h;omega
  ·simp [Value.ownBlock] at h hg';omega
 have f0:=hfN (k*4)
 have f1:=hfN (k*4+1)
 have f2:=hfN (k*4+2)
 have f3:=hfN (k*4+3)
 have hkn4:k*4+3<(rowCells R).length:=by rw [rowCells_len,HN0.out];have:=HKN.out;omega
 have e0:=hcN (k*4) _ (List.getElem?_eq_getElem (by omega))
 have e1:=hcN (k*4+1) _ (List.getElem?_eq_getElem (by omega))
 have e2:=hcN (k*4+2) _ (List.getElem?_eq_getElem (by omega))
 have e3:=hcN (k*4+3) _ (List.getElem?_eq_getElem (by omega))
 have HO2:=hide ho2
 have HGY:=hide hgy
 have HT2:=hide T2
 have HCN:Hid (n≤cN):=hide (by omega)
 have hkI:(k:Int)<(n:Int):=by have:=HKN.out;omega
 have HB2:=hide (HBC.out.touch T2 (fun f=>f))
 have HG2:=hide (HGA.out.touch T2 (fun f=>f))
 clear hown hgrow hfr T2 ho2 hle hmx hgN hcN hfN hgy a0 a1 a2
 obtain ⟨b0,b1,b2⟩:=HB2.out.facts
 obtain ⟨g0,g1,g2⟩:=HG2.out.facts
 go_upto_region 21 with fail
 obtain ⟨w3,hw3⟩:∃ y,y=(((w2.setCell ⟨gN,k*4,none⟩ (.int .u64 sq)).setCell ⟨gN,k*4+1,none⟩ (.int .i64 ee)).setCell ⟨gN,k*4+2,none⟩ (.int .u64 0)).setCell ⟨gN,k*4+3,none⟩ (.int .i64 hh):=⟨_,rfl⟩
 have T3:Touch (fun g=>g=gN) w2 w3:=by rw [hw3];exact ((((Touch.refl (fun g=>g=gN) w2).setCell (p:=⟨gN,_,none⟩) (fun _=>rfl) _).setCell (p:=⟨gN,_,none⟩) (fun _=>rfl) _).setCell (p:=⟨gN,_,none⟩) (fun _=>rfl) _).setCell (p:=⟨gN,_,none⟩) (fun _=>rfl) _
 have hO3:w3.ownsRow 0 70 4 (.slice (some ⟨gN,0,none⟩) n cN) n (rowCells (R.set k ⟨sq,ee,0,hh⟩)):=by
  rw [hw3,← rowCells_set R k (by rw [HN0.out];exact HKN.out) ⟨sq,ee,0,hh⟩]
  exact own_set (own_set (own_set (own_set HO2.out _ _) _ _) _ _) _ _
 have hgty:TyAt w2 gN 70 := own_ty HO2.out rfl
 have HS2:=hide ((HSB.out.touch HTC.out (fun f=>f)).touch HT2.out (fun f=>f))
 have HR2:=hide ((HRB.out.touch HTC.out (fun f=>f)).touch HT2.out (fun f=>f))
 have HS3:=hide (HS2.out.touch T3 (fun e=>(blk_ty HS2.out).ne hgty (by decide) e))
 have HR3:=hide (HR2.out.touch T3 (fun e=>(blk_ty HR2.out).ne hgty (by decide) e))
 have HG3:=hide (HG2.out.touch T3 (fun e=>(blk_ty HG2.out).ne hgty (by decide) e))
 have hsz1:w.heap.size≤wc.heap.size:=Nat.le_trans HTA.out.size HTC.out.size
 have HGW:Hid (w.heap.size≤gN∧B0≤gN):=hide (by have:=HGY.out;have:=HB0'.out;omega)
 have HM3:Hid (RfL B0 w3 ⟨mA,mn,mc,mL⟩ L2):=hide ((HMC.out.quiet HT2.out).touch T3 (fun g hg e=>by have:=HGW.out;omega) (fun g hg e=>hg.ne hgty (by decide) e))
 have HT3:Hid (Touch (fun _=>False) w w3):=hide ((HTA.out.then (HTC.out.then HT2.out)).trans T3 (fun i hi e=>by have:=HGW.out;omega))
 have HO3:=hide hO3
 rw [← hw3]
 clear hw3 T3 hO3 hgty hsz1 b0 b1 b2 g0 g1 g2 f0 f1 f2 f3 e0 e1 e2 e3
 obtain ⟨g0,g1,g2⟩:=HG3.out.facts
 obtain ⟨s0,s1,s2⟩:=HS3.out.facts
 obtain ⟨r0,r1,r2⟩:=HR3.out.facts
 have hbr:¬ bs=ra:=HLO.out.2.2.2.2.2.2
 have hrb:¬ ra=bs:=fun e=>hbr e.symm
 have hga:¬ ga=bs:=fun e=>(blk_ty HG3.out).ne (blk_ty HS3.out) (by decide) e
 have hga2:¬ ga=ra:=fun e=>by have h1:=HGL.out;have h2:=HRB.out.lt;omega
 go_region
 go_wp2_with fail
 try simp only [Exit.inBlock,Exit.then]
 refine bodyPost_ret (v:=.tuple #[.agg #[.slice mA mn mc,.slice (some ⟨gN,0,none⟩) n cN],ansV ⟨0,ee,0,hh⟩]) (results_cells rfl _ _ bs ra 39 34 _ _ _ _ rfl ?hsb Tryd.underlying39 rfl (by kernel_rfl) rfl ?hrb Tryd.underlying34 rfl (by kernel_rfl)) rfl ?_
 case hsb=>exact (far3 (two_cells _ _ _ _ HS3.out) hbr).drew
 case hrb=>exact (ans_cells _ _ _ _ _ _ (far2 HR3.out hrb)).drew
 have TF:Touch (fun g=>g=bs∨g=ra) w3 (((((w3.setCell ⟨bs,0,none⟩ (.slice mA mn mc)).setCell ⟨bs,1,none⟩ (.slice (some ⟨gN,0,none⟩) n cN)).setCell ⟨ra,0,none⟩ (.int .i64 ee)).setCell ⟨ra,1,none⟩ (.int .u64 0)).setCell ⟨ra,2,none⟩ (.int .i64 hh)).drew:=((((((Touch.refl (fun g=>g=bs∨g=ra) w3).setCell (p:=⟨bs,_,none⟩) (fun _=>.inl rfl) _).setCell (p:=⟨bs,_,none⟩) (fun _=>.inl rfl) _).setCell (p:=⟨ra,_,none⟩) (fun _=>.inr rfl) _).setCell (p:=⟨ra,_,none⟩) (fun _=>.inr rfl) _).setCell (p:=⟨ra,_,none⟩) (fun _=>.inr rfl) _).drew
 have hl9:=HLO.out
 have hb9:=HB0'.out
 refine ⟨⟨mA,mn,mc,mL⟩,_,_,_,rfl,HM3.out.touch TF (fun g hg e=>?_) (fun g hg e=>?_),⟨own_touch HO3.out TF (fun g hg e=>?_),by rw [List.length_set];exact HN0.out,HR.out.few⟩,HT3.out.trans TF (fun i hi e=>?_)⟩
 ·rcases e with rfl | rfl<;>omega
 ·rcases e with rfl | rfl
  ·exact hg.ne (blk_ty HS3.out) (by decide) rfl
  ·exact hg.ne (blk_ty HR3.out) (by decide) rfl
 ·rcases e with rfl | rfl
  ·exact own_blk_ne HO3.out HS3.out (by decide) hg
  ·exact own_blk_ne HO3.out HR3.out (by decide) hg
 ·rcases e with rfl | rfl<;>omega
set_option maxRecDepth 100000 in
set_option maxHeartbeats 12000000 in
theorem rdo_new2 (w:World) (B0:Nat) {tA:Option Addr} {tn tc:Nat} {tL L:List PRow} (hs:RfL B0 w ⟨tA,tn,tc,tL⟩ L) (hD:DictP L) {A:Option Addr} {n c:Nat} {R:List SRow} (hr:RwL w A n c R) (sid sq nn:Int) (kw:ByteArray) (hk:kw.size≤1099511627776) (hB0:B0≤w.heap.size) (k:Nat) (hsk:sid=(k:Int)+1) (hkn:k<n) (rs rc rr rh:Int) (hrow:R.getD k SRow.zero=⟨rs,rc,rr,rh⟩) (h1:¬ sq=0) (h2:¬ sq<rs) (h3:¬ sq=rs) :
  Calls Tryd.prog 30 #[.agg #[.slice tA tn tc,.slice A n c],.agg #[.int .i64 2,.int .u64 sid,.int .u64 sq,.string kw,.int .i64 nn]] w fun e w'=>∃ (s':SL) (A':Option Addr) (n' c':Nat),e=.returned (.tuple #[.agg #[s'.val,.slice A' n' c'],ansV ⟨0,(setE L kw.toList nn),0,(setH L kw nn)⟩])∧RfL B0 w' s' (setL L kw nn)∧RwL w' A' n' c' (R.set k ⟨sq,(setE L kw.toList nn),0,(setH L kw nn)⟩)∧Touch (fun _=>False) w w':=by
 have HSK:=hide hsk
 have HROW:=hide hrow
 clear hsk hrow
 have HB0':=hide hB0
 clear hB0
 have HRM:=hide (fun (wx:World) (hr:RfL B0 wx ⟨tA,tn,tc,tL⟩ L)=>rremove_any wx B0 ⟨tA,tn,tc,tL⟩ hr hD kw hk)
 have HST:=hide (fun (wx:World) (hr:RfL B0 wx ⟨tA,tn,tc,tL⟩ L)=>rset_any wx B0 ⟨tA,tn,tc,tL⟩ hr hD kw hk nn)
 simp only [SL.val] at HRM
 simp only [SL.val] at HST
 obtain ⟨hh,hhh⟩:∃ x,x=setH L kw nn:=⟨_,rfl⟩
 obtain ⟨ee,hee⟩:∃ x,x=setE L kw.toList nn:=⟨_,rfl⟩
 obtain ⟨L2,hL2⟩:∃ x,x=setL L kw nn:=⟨_,rfl⟩
 simp only [← hhh,← hee,← hL2] at HST
 rw [← hhh,← hee,← hL2]
 clear hhh hee hL2
 obtain ⟨wa,hwa⟩:∃ z,z=(((w.alloc (.cells #[.slice tA tn tc,.slice A n c] 39)).alloc (.cells #[.int .i64 2,.int .u64 sid,.int .u64 sq,.string kw,.int .i64 nn] 29)).alloc (.cells #[.slice none 0 0,.slice none 0 0] 39)).alloc (.cells #[.int .i64 0,.int .u64 0,.int .i64 0] 34):=⟨_,rfl⟩
 obtain ⟨ba,hba⟩:∃ z,z=w.heap.size:=⟨_,rfl⟩
 obtain ⟨bb,hbb⟩:∃ z,z=w.heap.size+1:=⟨_,rfl⟩
 obtain ⟨bs,hbs⟩:∃ z,z=w.heap.size+1+1:=⟨_,rfl⟩
 obtain ⟨ra,hra⟩:∃ z,z=w.heap.size+1+1+1:=⟨_,rfl⟩
 have hTa:Touch (fun _=>False) w wa:=by rw [hwa];exact ((((Touch.refl _ _).alloc _).alloc _).alloc _).alloc _
 have haB:Blk wa ba 39 #[.slice tA tn tc,.slice A n c]:=by rw [hwa,hba];exact (((Blk.new _ _ _).alloc _).alloc _).alloc _
 have hbB:Blk wa bb 29 #[.int .i64 2,.int .u64 sid,.int .u64 sq,.string kw,.int .i64 nn]:=by
  have h1:=(((Blk.new (w.alloc (.cells #[.slice tA tn tc,.slice A n c] 39)) 29 #[.int .i64 2,.int .u64 sid,.int .u64 sq,.string kw,.int .i64 nn]).alloc (.cells #[.slice none 0 0,.slice none 0 0] 39)).alloc (.cells #[.int .i64 0,.int .u64 0,.int .i64 0] 34))
  rw [hwa,hbb];simpa using h1
 have hsB:Blk wa bs 39 #[.slice none 0 0,.slice none 0 0]:=by
  have h1:=(Blk.new ((w.alloc (.cells #[.slice tA tn tc,.slice A n c] 39)).alloc (.cells #[.int .i64 2,.int .u64 sid,.int .u64 sq,.string kw,.int .i64 nn] 29)) 39 #[.slice none 0 0,.slice none 0 0]).alloc (.cells #[.int .i64 0,.int .u64 0,.int .i64 0] 34)
  rw [hwa,hbs];simpa using h1
 have hrB:Blk wa ra 34 #[.int .i64 0,.int .u64 0,.int .i64 0]:=by
  have h1:=Blk.new (((w.alloc (.cells #[.slice tA tn tc,.slice A n c] 39)).alloc (.cells #[.int .i64 2,.int .u64 sid,.int .u64 sq,.string kw,.int .i64 nn] 29)).alloc (.cells #[.slice none 0 0,.slice none 0 0] 39)) 34 #[.int .i64 0,.int .u64 0,.int .i64 0]
  rw [hwa,hra];simpa using h1
 have HLO:Hid (w.heap.size≤ba∧w.heap.size≤bb∧w.heap.size≤bs∧w.heap.size≤ra∧ba≠bs∧bb≠bs∧bs≠ra):=hide (by omega)
 have HTA:=hide hTa
 have HAB:=hide haB
 have HBB:=hide hbB
 have HSB:=hide hsB
 have HRB:=hide hrB
 have HWA:=hide hwa
 have H0:=hide hba
 have H1:=hide hbb
 have H2:=hide hbs
 have H3:=hide hra
 have HS:=hide (hs.quiet hTa)
 have HR:=hide (hr.quiet hTa)
 have HD:=hide hD
 have HN0:=hide hr.len
 have hn:=hr.few
 have hx1:¬ bs=ra:=by omega
 have hx2:¬ ra=bs:=by omega
 obtain ⟨a0,a1,a2⟩:=haB.facts
 obtain ⟨b0,b1,b2⟩:=hbB.facts
 obtain ⟨s0,s1,s2⟩:=hsB.facts
 obtain ⟨r0,r1,r2⟩:=hrB.facts
 clear hwa hba hbb hbs hra hTa haB hbB hsB hrB hs hr hD
 go_enter Tryd.func30,Tryd.ntmps30
 go_upto_region 1 with fail
 rw [← HWA.out,← H3.out,← H2.out,← H1.out,← H0.out]
 have hsk:=HSK.out
 subst hsk
 clear HSK
 obtain ⟨gR,rfl,hgR,hnc,c0,c1,c2,c3⟩:=rw_at HR.out k hkn
 rw [HROW.out] at c0 c1 c2 c3
 simp only at c0 c1 c2 c3
 have HNIL:=hide (own_nilOk HR.out.own)
 have HRD:=hide (Reads.of_own HR.out.own)
 have HKN:=hide hkn
 have HNC:=hide hnc
 clear hgR hnc
 obtain ⟨i0,hi,hz0,hz1,hz2⟩:=info_parts Tryd.infoRRow
 go_upto_region 15 with fail
 obtain ⟨wb,hwb⟩:∃ y,y=wa.alloc (.cells #[.int .u64 rs,.int .i64 rc,.int .u64 rr,.int .i64 rh] 70):=⟨_,rfl⟩
 have HWB:=hide hwb
 have hTb:Touch (fun _=>False) wa wb:=by rw [hwb];exact (Touch.refl _ _).alloc _
 rw [← hwb]
 have HTB:=hide hTb
 have HAB':=hide (HAB.out.touch hTb (fun f=>f))
 have HBB':=hide (HBB.out.touch hTb (fun f=>f))
 clear hwb hTb a0 a1 a2 b0 b1 b2 s0 s1 s2 r0 r1 r2 c0 c1 c2 c3
 obtain ⟨a0,a1,a2⟩:=HAB'.out.facts
 obtain ⟨b0,b1,b2⟩:=HBB'.out.facts
 go_wp2_with fail
 refine (HRM.out _ (HS.out.quiet HTB.out)).mono ?_
 rintro e w1 ⟨⟨mA,mn,mc,mL⟩,rfl,hm1,T1⟩
 have HM1:=hide hm1
 have HT1:=hide (HTB.out.then T1)
 have HA1:=hide (HAB'.out.touch T1 (fun f=>f))
 have HB1:=hide (HBB'.out.touch T1 (fun f=>f))
 clear hm1 T1 a0 a1 a2 b0 b1 b2 HRM
 obtain ⟨a0,a1,a2⟩:=HA1.out.facts
 obtain ⟨b0,b1,b2⟩:=HB1.out.facts
 simp only [SL.val]
 clear HM1
 go_wp2_with fail
 refine (HST.out _ (HS.out.quiet HT1.out)).mono ?_
 rintro e wq ⟨⟨nA,nn',nc,nL⟩,rfl,hm1,T1⟩
 have HM1:=hide hm1
 have HT1':=hide (HT1.out.then T1)
 have HA1':=hide (HA1.out.touch T1 (fun f=>f))
 have HB1':=hide (HB1.out.touch T1 (fun f=>f))
 clear hm1 T1 HT1 HA1 HB1 a0 a1 a2 b0 b1 b2 HST
 have HT1:=HT1'
 have HA1:=HA1'
 have HB1:=HB1'
 clear HT1' HA1' HB1'
 obtain ⟨a0,a1,a2⟩:=HA1.out.facts
 obtain ⟨b0,b1,b2⟩:=HB1.out.facts
 simp only [SL.val]
 go_upto_region 19 with fail
 obtain ⟨wc,hwc⟩:∃ y,y=wq.alloc (.cells #[.int .i64 ee,.int .u64 0,.int .i64 hh] 34):=⟨_,rfl⟩
 obtain ⟨ga,hga⟩:∃ y,y=wq.heap.size:=⟨_,rfl⟩
 have hTc:Touch (fun _=>False) wa wc:=by rw [hwc];exact HT1.out.alloc _
 have HGA:Hid (Blk wc ga 34 #[.int .i64 ee,.int .u64 0,.int .i64 hh]):=hide (by rw [hwc,hga];exact Blk.new _ _ _)
 have HGL:Hid (wa.heap.size≤ga):=hide (by rw [hga];exact HT1.out.size)
 have HMC:Hid (RfL B0 wc ⟨nA,nn',nc,nL⟩ L2):=hide (by rw [hwc];exact HM1.out.quiet ((Touch.refl _ _).alloc _))
 have HAC:Hid (Blk wc ba 39 #[.slice tA tn tc,.slice (some ⟨gR,0,none⟩) n c]):=hide (by rw [hwc];exact HA1.out.alloc _)
 have HBC:Hid (Blk wc bb 29 #[.int .i64 2,.int .u64 ((k:Int)+1),.int .u64 sq,.string kw,.int .i64 nn]):=hide (by rw [hwc];exact HB1.out.alloc _)
 have HTC:=hide hTc
 rw [← hwc,← hga]
 clear hwc hga hTc a0 a1 a2 b0 b1 b2 HM1 HT1 HA1 HB1
 obtain ⟨a0,a1,a2⟩:=HAC.out.facts
 go_wp2_with (at_builtin;refine wpList_app _ rfl (.tmp 116) (.tmp 118) 37 rfl 70 i0 (.agg #[.int .u64 0,.int .i64 0,.int .u64 0,.int .i64 0]) 4 32 Tryd.underlying37 hi hz0 hz1 hz2 rfl (by decide) _ 0 [] rfl (World.ownsRow_made _ #[] 0 (Nat.zero_le _) (by decide) rfl) (some ⟨gR,0,none⟩) n c (rowCells R) rfl ((HRD.out.touch HTC.out (fun _ _ f=>f)).alloc _) ?c2 (srow_one R) ?c4 ?c5 ?_)
 case c2=>exact HNIL.out
 case c4=>unfold maxLen;omega
 case c5=>omega
 intro v1 w2 hown hgrow hfr _
 have T2:Touch (fun _=>False) wc w2:=((Touch.refl _ _).alloc _).grown hgrow (fun k hk hlt=>by simp [Value.ownBlock] at hk;omega)
 have ho2:w2.ownsRow 0 70 4 v1 n (rowCells R):=by simpa using hown
 obtain ⟨gN,cN,hv,hle,hmx,hgN,hcN,hfN⟩:=own_form ho2 (by have:=HKN.out;omega)
 subst hv
 have hgy:wc.heap.size≤gN:=by
  rcases hfr with h | ⟨g',h,hg'⟩
  ·simp [Value.ownBlock] at h;omega
  ·simp [Value.ownBlock] at h hg';omega
 have f0:=hfN (k*4)
 have f1:=hfN (k*4+1)
 have f2:=hfN (k*4+2)
 have f3:=hfN (k*4+3)
 have hkn4:k*4+3<(rowCells R).length:=by rw [rowCells_len,HN0.out];have:=HKN.out;omega
 have e0:=hcN (k*4) _ (List.getElem?_eq_getElem (by omega))
 have e1:=hcN (k*4+1) _ (List.getElem?_eq_getElem (by omega))
 have e2:=hcN (k*4+2) _ (List.getElem?_eq_getElem (by omega))
 have e3:=hcN (k*4+3) _ (List.getElem?_eq_getElem (by omega))
 have HO2:=hide ho2
 have HGY:=hide hgy
 have HT2:=hide T2
 have HCN:Hid (n≤cN):=hide (by omega)
 have hkI:(k:Int)<(n:Int):=by have:=HKN.out;omega
 have HB2:=hide (HBC.out.touch T2 (fun f=>f))
 have HG2:=hide (HGA.out.touch T2 (fun f=>f))
 clear hown hgrow hfr T2 ho2 hle hmx hgN hcN hfN hgy a0 a1 a2
 obtain ⟨b0,b1,b2⟩:=HB2.out.facts
 obtain ⟨g0,g1,g2⟩:=HG2.out.facts
 go_upto_region 21 with fail
 obtain ⟨w3,hw3⟩:∃ y,y=(((w2.setCell ⟨gN,k*4,none⟩ (.int .u64 sq)).setCell ⟨gN,k*4+1,none⟩ (.int .i64 ee)).setCell ⟨gN,k*4+2,none⟩ (.int .u64 0)).setCell ⟨gN,k*4+3,none⟩ (.int .i64 hh):=⟨_,rfl⟩
 have T3:Touch (fun g=>g=gN) w2 w3:=by rw [hw3];exact ((((Touch.refl (fun g=>g=gN) w2).setCell (p:=⟨gN,_,none⟩) (fun _=>rfl) _).setCell (p:=⟨gN,_,none⟩) (fun _=>rfl) _).setCell (p:=⟨gN,_,none⟩) (fun _=>rfl) _).setCell (p:=⟨gN,_,none⟩) (fun _=>rfl) _
 have hO3:w3.ownsRow 0 70 4 (.slice (some ⟨gN,0,none⟩) n cN) n (rowCells (R.set k ⟨sq,ee,0,hh⟩)):=by
  rw [hw3,← rowCells_set R k (by rw [HN0.out];exact HKN.out) ⟨sq,ee,0,hh⟩]
  exact own_set (own_set (own_set (own_set HO2.out _ _) _ _) _ _) _ _
 have hgty:TyAt w2 gN 70 := own_ty HO2.out rfl
 have HS2:=hide ((HSB.out.touch HTC.out (fun f=>f)).touch HT2.out (fun f=>f))
 have HR2:=hide ((HRB.out.touch HTC.out (fun f=>f)).touch HT2.out (fun f=>f))
 have HS3:=hide (HS2.out.touch T3 (fun e=>(blk_ty HS2.out).ne hgty (by decide) e))
 have HR3:=hide (HR2.out.touch T3 (fun e=>(blk_ty HR2.out).ne hgty (by decide) e))
 have HG3:=hide (HG2.out.touch T3 (fun e=>(blk_ty HG2.out).ne hgty (by decide) e))
 have hsz1:w.heap.size≤wc.heap.size:=Nat.le_trans HTA.out.size HTC.out.size
 have HGW:Hid (w.heap.size≤gN∧B0≤gN):=hide (by have:=HGY.out;have:=HB0'.out;omega)
 have HM3:Hid (RfL B0 w3 ⟨nA,nn',nc,nL⟩ L2):=hide ((HMC.out.quiet HT2.out).touch T3 (fun g hg e=>by have:=HGW.out;omega) (fun g hg e=>hg.ne hgty (by decide) e))
 have HT3:Hid (Touch (fun _=>False) w w3):=hide ((HTA.out.then (HTC.out.then HT2.out)).trans T3 (fun i hi e=>by have:=HGW.out;omega))
 have HO3:=hide hO3
 rw [← hw3]
 clear hw3 T3 hO3 hgty hsz1 b0 b1 b2 g0 g1 g2 f0 f1 f2 f3 e0 e1 e2 e3
 obtain ⟨g0,g1,g2⟩:=HG3.out.facts
 obtain ⟨s0,s1,s2⟩:=HS3.out.facts
 obtain ⟨r0,r1,r2⟩:=HR3.out.facts
 have hbr:¬ bs=ra:=HLO.out.2.2.2.2.2.2
 have hrb:¬ ra=bs:=fun e=>hbr e.symm
 have hga:¬ ga=bs:=fun e=>(blk_ty HG3.out).ne (blk_ty HS3.out) (by decide) e
 have hga2:¬ ga=ra:=fun e=>by have h1:=HGL.out;have h2:=HRB.out.lt;omega
 go_region
 go_wp2_with fail
 try simp only [Exit.inBlock,Exit.then]
 refine bodyPost_ret (v:=.tuple #[.agg #[.slice nA nn' nc,.slice (some ⟨gN,0,none⟩) n cN],ansV ⟨0,ee,0,hh⟩]) (results_cells rfl _ _ bs ra 39 34 _ _ _ _ rfl ?hsb Tryd.underlying39 rfl (by kernel_rfl) rfl ?hrb Tryd.underlying34 rfl (by kernel_rfl)) rfl ?_
 case hsb=>exact (far3 (two_cells _ _ _ _ HS3.out) hbr).drew
 case hrb=>exact (ans_cells _ _ _ _ _ _ (far2 HR3.out hrb)).drew
 have TF:Touch (fun g=>g=bs∨g=ra) w3 (((((w3.setCell ⟨bs,0,none⟩ (.slice nA nn' nc)).setCell ⟨bs,1,none⟩ (.slice (some ⟨gN,0,none⟩) n cN)).setCell ⟨ra,0,none⟩ (.int .i64 ee)).setCell ⟨ra,1,none⟩ (.int .u64 0)).setCell ⟨ra,2,none⟩ (.int .i64 hh)).drew:=((((((Touch.refl (fun g=>g=bs∨g=ra) w3).setCell (p:=⟨bs,_,none⟩) (fun _=>.inl rfl) _).setCell (p:=⟨bs,_,none⟩) (fun _=>.inl rfl) _).setCell (p:=⟨ra,_,none⟩) (fun _=>.inr rfl) _).setCell (p:=⟨ra,_,none⟩) (fun _=>.inr rfl) _).setCell (p:=⟨ra,_,none⟩) (fun _=>.inr rfl) _).drew
 have hl9:=HLO.out
 have hb9:=HB0'.out
 refine ⟨⟨nA,nn',nc,nL⟩,_,_,_,rfl,HM3.out.touch TF (fun g hg e=>?_) (fun g hg e=>?_),⟨own_touch HO3.out TF (fun g hg e=>?_),by rw [List.length_set];exact HN0.out,HR.out.few⟩,HT3.out.trans TF (fun i hi e=>?_)⟩
 ·rcases e with rfl | rfl<;>omega
 ·rcases e with rfl | rfl
  ·exact hg.ne (blk_ty HS3.out) (by decide) rfl
  ·exact hg.ne (blk_ty HR3.out) (by decide) rfl
 ·rcases e with rfl | rfl
  ·exact own_blk_ne HO3.out HS3.out (by decide) hg
  ·exact own_blk_ne HO3.out HR3.out (by decide) hg
 ·rcases e with rfl | rfl<;>omega
end Go.Proofs.YthockgmbooefpaaDoor
namespace Go.Proofs.YthockgmbooefpaaDoor
open Go.RowKit
theorem rdo_any (w:World) (B0:Nat) {sl:SL} {L:List PRow} (hs:RfL B0 w sl L) (hD:DictP L) {A:Option Addr} {n c:Nat} {R:List SRow} (hr:RwL w A n c R) (hB0:B0≤w.heap.size) (cm:CmdP) (hk:cm.Wf) :
  Calls Tryd.prog 30 #[.agg #[sl.val,.slice A n c],cm.val] w fun e w'=>∃ (s':SL) (A':Option Addr) (n' c':Nat),e=.returned (.tuple #[.agg #[s'.val,.slice A' n' c'],ansV (doA cm L R)])∧RfL B0 w' s' (doL cm L R)∧RwL w' A' n' c' (doR cm L R)∧Touch (fun _=>False) w w':=by
 obtain ⟨kd,sid,sq,kw,nn⟩:=cm
 obtain ⟨tA,tn,tc,tL⟩:=sl
 unfold CmdP.Wf at hk
 have hn:=hr.few
 have hl:=hr.len
 have stay:∀ {e:Ending} {w':World} {a:SRow},doA ⟨kd,sid,sq,kw,nn⟩ L R=a→doL ⟨kd,sid,sq,kw,nn⟩ L R=L→doR ⟨kd,sid,sq,kw,nn⟩ L R=R→e=.returned (.tuple #[.agg #[.slice tA tn tc,.slice A n c],ansV a])∧Touch (fun _=>False) w w' →
   ∃ (s':SL) (A':Option Addr) (n' c':Nat),e=.returned (.tuple #[.agg #[s'.val,.slice A' n' c'],ansV (doA ⟨kd,sid,sq,kw,nn⟩ L R)])∧RfL B0 w' s' (doL ⟨kd,sid,sq,kw,nn⟩ L R)∧RwL w' A' n' c' (doR ⟨kd,sid,sq,kw,nn⟩ L R)∧Touch (fun _=>False) w w':=by
  rintro e w' a h1 h2 h3 ⟨rfl,T⟩
  rw [h1,h2,h3]
  exact ⟨⟨tA,tn,tc,tL⟩,A,n,c,rfl,hs.quiet T,hr.quiet T,T⟩
 by_cases h1:kd=1
 ·subst h1
  by_cases hf:n<4096
  ·refine (rdo_open w B0 hs hD hr sid sq nn kw hk hf).mono ?_
   rintro e w' ⟨A',n',c',rfl,hr',T⟩
   have e1:doA ⟨1,sid,sq,kw,nn⟩ L R=⟨0,0,(n:Int)+1,0⟩:=by simp [doA,hl,hf]
   have e2:doL ⟨1,sid,sq,kw,nn⟩ L R=L:=by simp [doL,goesB]
   have e3:doR ⟨1,sid,sq,kw,nn⟩ L R=R++[SRow.zero]:=by simp [doR,hl,hf]
   rw [e1,e2,e3]
   exact ⟨⟨tA,tn,tc,tL⟩,A',n',c',rfl,hs.quiet T,hr',T⟩
  ·exact (rdo_full w B0 hs hD hr sid sq nn kw hk (by omega)).mono (fun e w'=>stay (by simp [doA,hl,hf]) (by simp [doL,goesB]) (by simp [doR,hl,hf]))
 ·by_cases h2:kd=2∨kd=3
  ·have err:∀ {k:Int},¬ k=0→doC ⟨kd,sid,sq,kw,nn⟩ R=⟨0,0,0,false,k⟩→_:=fun {k} hk0 hc=>do_err (c:=⟨kd,sid,sq,kw,nn⟩) (L:=L) (R:=R) h2 hc hk0
   by_cases h3:sid<1
   ·have hc:doC ⟨kd,sid,sq,kw,nn⟩ R=⟨0,0,0,false,150⟩:=by
     have ht:thereB R sid=false:=by unfold thereB;simp;omega
     unfold doC chk
     simp only [ht]
     rfl
    obtain ⟨e1,e2,e3⟩:=err (by decide) hc
    exact (rdo_none1 w B0 hs hD hr sid sq nn kw hk kd h2 h3).mono (fun e w'=>stay e1 e2 e3)
   ·by_cases h4:(n:Int)<sid
    ·have hc:doC ⟨kd,sid,sq,kw,nn⟩ R=⟨0,0,0,false,150⟩:=by
      have ht:thereB R sid=false:=by unfold thereB;simp;omega
      unfold doC chk
      simp only [ht]
      rfl
     obtain ⟨e1,e2,e3⟩:=err (by decide) hc
     exact (rdo_none2 w B0 hs hD hr sid sq nn kw hk kd h2 (by omega) h4).mono (fun e w'=>stay e1 e2 e3)
    ·obtain ⟨k,hk1⟩:∃ k:Nat,sid=(k:Int)+1:=⟨(sid-1).toNat,by omega⟩
     have hkn:k<n:=by omega
     have hkR:k<R.length:=by omega
     obtain ⟨⟨rs,rc,rr,rh⟩,hrow⟩:∃ r,r=R.getD k SRow.zero:=⟨_,rfl⟩
     have ht:thereB R sid=true:=by rw [hk1];exact thereB_succ R k hkR
     have hra:rowAt R sid=⟨rs,rc,rr,rh⟩:=by rw [hk1,rowAt_succ R k hkR,hrow];simp [List.getD,hkR]
     have hdc:doC ⟨kd,sid,sq,kw,nn⟩ R=chk true ⟨rs,rc,rr,rh⟩ sq:=by unfold doC;simp only [ht,hra]
     by_cases h5:sq=0
     ·obtain ⟨e1,e2,e3⟩:=err (k:=151) (by decide) (by rw [hdc];simp [chk,h5])
      exact (rdo_old1 w B0 hs hD hr sid sq nn kw hk kd h2 k hk1 hkn rs rc rr rh hrow.symm h5).mono (fun e w'=>stay e1 e2 e3)
     ·by_cases h6:sq<rs
      ·obtain ⟨e1,e2,e3⟩:=err (k:=151) (by decide) (by rw [hdc];simp [chk,h6])
       exact (rdo_old2 w B0 hs hD hr sid sq nn kw hk kd h2 k hk1 hkn rs rc rr rh hrow.symm h5 h6).mono (fun e w'=>stay e1 e2 e3)
      ·by_cases h7:sq=rs
       ·subst h7
        have hK:doC ⟨kd,sid,sq,kw,nn⟩ R=⟨rc,rr,rh,true,0⟩:=by rw [hdc];simp [chk,h5]
        obtain ⟨e1,e2,e3⟩:=do_again (c:=⟨kd,sid,sq,kw,nn⟩) (L:=L) (R:=R) h2 hK rfl rfl
        exact (rdo_again w B0 hs hD hr sid sq nn kw hk kd h2 k hk1 hkn rc rr rh hrow.symm h5).mono (fun e w'=>stay e1 e2 e3)
       ·have hK:doC ⟨kd,sid,sq,kw,nn⟩ R=⟨0,0,0,false,0⟩:=by rw [hdc];simp [chk,h5,h6,h7]
        obtain ⟨e1,e2,e3⟩:=do_new (c:=⟨kd,sid,sq,kw,nn⟩) (L:=L) (R:=R) h2 hK rfl rfl
        have hkk:(sid-1).toNat=k:=by omega
        rw [e1,e2,e3]
        simp only [hkk]
        rcases h2 with rfl | rfl
        ·exact rdo_new2 w B0 hs hD hr sid sq nn kw hk hB0 k hk1 hkn rs rc rr rh hrow.symm h5 h6 h7
        ·exact rdo_new3 w B0 hs hD hr sid sq nn kw hk hB0 k hk1 hkn rs rc rr rh hrow.symm h5 h6 h7
  ·have hg:goesB ⟨kd,sid,sq,kw,nn⟩ R=false:=by simp [goesB,h2]
   exact (rdo_other w B0 hs hD hr sid sq nn kw hk kd h1 (by omega) (by omega)).mono (fun e w'=>stay (by simp [doA,h1,h2]) (by simp [doL,hg]) (by simp [doR,h1,hg]))
end Go.Proofs.YthockgmbooefpaaDoor
namespace Go.Proofs.YthockgmbooefpaaDoor
open Go.RowKit
theorem tdgetD {D:List CmdP} {k:Nat} (h:k<D.length):D.getD k CmdP.zero∈D:=by
 have e2:D.getD k CmdP.zero=D[k]:=by simp [List.getD,h]
 rw [e2];exact List.getElem_mem _
theorem runS_succ (T:List CmdP) (i:Nat) (h:i<T.length) (S:List PRow × List SRow):runS (T.take (i+1)) S=stepS (runS (T.take i) S) (T.getD i CmdP.zero):=by
 rw [ctake_succ T i h,runS_snoc]
structure Both (W w:World) (s d tb:Nat) (v:Value) (L:List PRow) (q:Nat) (R:List SRow) (sl:SL) (A:Option Addr) (n c:Nat):Prop where
 y:StY W w s d tb v L q R
 l:RfL W.heap.size w sl L
 r:RwL w A n c R
theorem RfL.stF {W w w':World} {s d tb:Nat} {v:Value} {L L':List PRow} {q:Nat} {R:List SRow} {sl:SL} (h:StY W w s d tb v L' q R) (hl:RfL W.heap.size w sl L) (T:Touch (Go.Proofs.YthockgmbooefpaaDoor.stF d tb v) w w'):RfL W.heap.size w' sl L :=
 hl.touch T (fun g hg e=>by have:=h.stF g e;omega) (fun g ht e=>by
  rcases e with rfl | e
  ·exact ht.ne h.st.dct.ty (by decide) rfl
  ·exact fp_no h.st.tab ht (by decide) (by decide) e)
theorem RwL.stF {w w':World} {s d tb:Nat} {v:Value} {L:List PRow} {q:Nat} {R R':List SRow} {A:Option Addr} {n c:Nat} (h:StX w s d tb v L q R) (hr:RwL w A n c R') (T:Touch (Go.Proofs.YthockgmbooefpaaDoor.stF d tb v) w w'):RwL w' A n c R' :=
 hr.touch T (fun g ht e=>by
  rcases e with rfl | e
  ·exact ht.ne h.dct.ty (by decide) rfl
  ·exact fp_no h.tab ht (by decide) (by decide) e)
theorem results_ct {P:Program} {fn:Func} {p u:Tmp} {ty:TypeId} (h:fn.results=#[.cell p ty,.tmp u]) (tmps:Array Value) (w:World) (g:Nat) (t:TypeId) (cs:Array Value) (d:TypeDesc) (x:Value)
  (hp:tmps.getD p undef=.pointer (some ⟨g,0,none⟩)) (hg:Blk w g t cs) (hu:P.underlying ty=some d) (hd:(match d with | .struct _ | .array _ _=>true | _=>false)=true) (hi:(P.info? ty).map (·.size)=some cs.size) (hx:tmps.getD u undef=x) :
  (results fn tmps).run P w=.ok (.tuple #[.agg cs,x]) w:=by
 have hp1:tmps[p]?.getD undef=.pointer (some ⟨g,0,none⟩):=by simpa using hp
 have hx1:tmps[u]?.getD undef=x:=by simpa using hx
 simp [results,h,hp1,hx1,asAddr,Sem.run_bind,run_loadVar_row w g t ty cs (0,0) d hg hu hd hi,Result.andThen]
theorem results_tct {P:Program} {fn:Func} {a p u:Tmp} {ty:TypeId} (h:fn.results=#[.tmp a,.cell p ty,.tmp u]) (tmps:Array Value) (w:World) (g:Nat) (t:TypeId) (cs:Array Value) (d:TypeDesc) (y x:Value)
  (hy:tmps.getD a undef=y) (hp:tmps.getD p undef=.pointer (some ⟨g,0,none⟩)) (hg:Blk w g t cs) (hu:P.underlying ty=some d) (hd:(match d with | .struct _ | .array _ _=>true | _=>false)=true) (hi:(P.info? ty).map (·.size)=some cs.size) (hx:tmps.getD u undef=x) :
  (results fn tmps).run P w=.ok (.tuple #[y,.agg cs,x]) w:=by
 have hp1:tmps[p]?.getD undef=.pointer (some ⟨g,0,none⟩):=by simpa using hp
 have hx1:tmps[u]?.getD undef=x:=by simpa using hx
 have hy1:tmps[a]?.getD undef=y:=by simpa using hy
 simp [results,h,hp1,hx1,hy1,asAddr,Sem.run_bind,run_loadVar_row w g t ty cs (0,0) d hg hu hd hi,Result.andThen]
theorem StY.off {W w w':World} {s d tb:Nat} {v:Value} {L:List PRow} {q:Nat} {R:List SRow} {S:Nat→Prop} (h:StY W w s d tb v L q R) (T:Touch S w w') (hS:∀ g,S g→W.heap.size≤g∧∃ t,TyAt w g t∧offT t):StY W w' s d tb v L q R :=
 ⟨h.st.off T (fun g hg=>(hS g hg).2),h.y,h.t.trans T (fun g hg e=>by have:=(hS g e).1;omega),h.lw⟩
theorem off_rst:offT 39 := by unfold offT dctT;decide
set_option maxRecDepth 100000 in
set_option maxHeartbeats 4000000 in
theorem goes_any {W:World} (w:World) {s d tb:Nat} {v:Value} {L:List PRow} {q:Nat} {R:List SRow} (h:StY W w s d tb v L q R) (sl:SL) (hl:RfL W.heap.size w sl L) (A:Option Addr) (n c:Nat) (hr:RwL w A n c R)
  (tA:Option Addr) (tn tc:Nat) (T:List CmdP) (hT:T.length=tn) (hR:Reads W 5 tA tn (cCells T)) (hWf:∀ o∈T,o.Wf) (hm:tn≤400) :
  Calls Tryd.prog 16 #[ptrV s,.agg #[sl.val,.slice A n c],.slice tA tn tc] w fun e w'=>∃ (sl':SL) (A':Option Addr) (n' c':Nat),e=.returned (.tuple #[.agg #[sl'.val,.slice A' n' c'],.bool true]) ∧
   (∃ v',(∃ q',StY W w' s d tb v' (runS T (L,R)).1 q' (runS T (L,R)).2)∧Fresh w v v')∧RfL W.heap.size w' sl' (runS T (L,R)).1∧RwL w' A' n' c' (runS T (L,R)).2∧Touch (stF d tb v) w w':=by
 have HTL:=hide hT
 have HRD:=hide hR
 have HWO:=hide hWf
 have HST0:=hide h
 obtain ⟨sA,sn,sc,sL⟩:=sl
 simp only [SL.val] at hl ⊢
 obtain ⟨wa,hwa⟩:∃ z,z=(w.alloc (.cells #[.slice sA sn sc,.slice A n c] 39)).alloc (.cells #[.slice none 0 0,.slice none 0 0] 39):=⟨_,rfl⟩
 obtain ⟨rb,hrb⟩:∃ z,z=w.heap.size:=⟨_,rfl⟩
 obtain ⟨rs,hrs⟩:∃ z,z=w.heap.size+1:=⟨_,rfl⟩
 have hTa:Touch (fun _=>False) w wa:=by rw [hwa];exact ((Touch.refl _ _).alloc _).alloc _
 have hbB:Blk wa rb 39 #[.slice sA sn sc,.slice A n c]:=by rw [hwa,hrb];exact (Blk.new _ _ _).alloc _
 have hsB:Blk wa rs 39 #[.slice none 0 0,.slice none 0 0]:=by
  have h1:=Blk.new (w.alloc (.cells #[.slice sA sn sc,.slice A n c] 39)) 39 #[.slice none 0 0,.slice none 0 0]
  rw [hwa,hrs]
  simpa using h1
 have HBR:Hid (w.heap.size≤rb∧w.heap.size≤rs∧¬ rb=rs):=hide (by omega)
 have HYA:=hide (h.quiet hTa)
 have HLA:=hide (hl.quiet hTa)
 have HRA:=hide (hr.quiet hTa)
 have HTA:=hide hTa
 have HBB:=hide hbB
 have HSB:=hide hsB
 have HWA:=hide hwa
 have HRB:=hide hrb
 have HRS:=hide hrs
 have HM:=hide hm
 clear hT hR hWf h hl hr hwa hrb hrs hTa hbB hsB hm
 go_enter Tryd.func16,Tryd.ntmps16
 go_upto_region 1 with fail
 rw [← HWA.out,← HRS.out,← HRB.out]
 go_wp2_with fail
 go_loopw [14] (fun iv wr=>∃ (i:Nat) (sA':Option Addr) (sn' sc':Nat) (sL':List PRow) (A':Option Addr) (n' c':Nat) (v':Value) (q':Nat),iv=.int .i64 i∧i≤tn∧Hid (StY W wr s d tb v' (runS (T.take i) (L,R)).1 q' (runS (T.take i) (L,R)).2)∧Hid (Fresh w v v')∧Hid (RfL W.heap.size wr ⟨sA',sn',sc',sL'⟩ (runS (T.take i) (L,R)).1)∧Hid (RwL wr A' n' c' (runS (T.take i) (L,R)).2) ∧
   Hid (Blk wr rb 39 #[.slice sA' sn' sc',.slice A' n' c'])∧Hid (Blk wr rs 39 #[.slice none 0 0,.slice none 0 0])∧Hid (Touch (stF d tb v) w wr)) (fun iv _=>tn-(intOf iv).toNat)
 case atStart=>exact ⟨0,sA,sn,sc,sL,A,n,c,v,q,rfl,Nat.zero_le _,HYA,hide (.inl rfl),HLA,HRA,HBB,HSB,hide (HTA.out.up _)⟩
 case round =>
  obtain ⟨i,sA',sn',sc',sL',A',n',c',v',q',rfl,hin',HY,HF,HLr,HRr,HBr,HSr,HTr⟩:=hrel
  obtain ⟨wo,hwo⟩:∃ y,y=wr:=⟨_,rfl⟩
  subst hwo
  by_cases hin:i<tn
  ·have y0:(i:Int)<(tn:Int):=by omega
   have y1:(0:Int)≤(i:Int):=by omega
   have y2:IntKind.i64.wrap ((i:Int)+1)=(i:Int)+1:=IntWalk.i64_in _ (by have:=HM.out;omega)
   obtain ⟨gl,ol,hAl,hgl,l0,l1,l2,l3,l4⟩:=cmd_at (HRD.out.touch HY.out.t (fun _ _ f=>f)) HTL.out.symm i hin
   subst hAl
   have hwf:(T.getD i CmdP.zero).Wf:=HWO.out _ (tdgetD (by rw [HTL.out];exact hin))
   have hrun:=runS_succ T i (by rw [HTL.out];exact hin) (L,R)
   obtain ⟨⟨kd,sid,sq,kw,kn⟩,ho⟩:∃ o,o=T.getD i CmdP.zero:=⟨_,rfl⟩
   rw [← ho] at l0 l1 l2 l3 l4 hwf hrun
   simp only at l0 l1 l2 l3 l4
   obtain ⟨⟨Li,Ri⟩,hLR⟩:∃ y,y=runS (T.take i) (L,R):=⟨_,rfl⟩
   rw [← hLR] at hrun HY HLr HRr
   simp only [stepS] at hrun HY HLr HRr
   obtain ⟨Lj,hLj⟩:∃ y,y=doL ⟨kd,sid,sq,kw,kn⟩ Li Ri:=⟨_,rfl⟩
   obtain ⟨Rj,hRj⟩:∃ y,y=doR ⟨kd,sid,sq,kw,kn⟩ Li Ri:=⟨_,rfl⟩
   obtain ⟨⟨a0,a1,a2,a3⟩,haj⟩:∃ y,y=doA ⟨kd,sid,sq,kw,kn⟩ Li Ri:=⟨_,rfl⟩
   have hcall:=fun (wx:World) (t:Touch (fun _=>False) wo wx)=>rdo_any wx W.heap.size (HLr.out.quiet t) HY.out.st.dct.dict (HRr.out.quiet t) (by have h1:=HY.out.t.size;have h2:=t.size;omega) ⟨kd,sid,sq,kw,kn⟩ hwf
   have hcall2:=fun (wx:World) (t:StY W wx s d tb v' Li q' Ri)=>sdo_yf wx t ⟨kd,sid,sq,kw,kn⟩ hwf
   rw [← hLj,← hRj] at hrun hcall hcall2
   rw [← haj] at hcall hcall2
   simp only [ansV,SL.val,CmdP.val] at hcall hcall2
   have HC:=hide hcall
   have HC2:=hide hcall2
   have HRUN:=hide hrun
   have HIN:=hide hin
   obtain ⟨b0,b1,b2⟩:=HBr.out.facts
   clear ho hwf hrun hLR hLj hRj haj hcall hcall2 hin hin'
   go_wp2_with fail
   refine (HC.out _ ((Touch.refl _ _).alloc _)).mono ?_
   rintro e w1 ⟨⟨jA,jn,jc,jL⟩,A1,n1,c1,rfl,hl1,hr1,T1⟩
   have hT1:Touch (fun _=>False) wo w1:=((Touch.refl _ _).alloc _).then T1
   have HGC:=hide ((Blk.new wo 29 #[.int .i64 kd,.int .u64 sid,.int .u64 sq,.string kw,.int .i64 kn]).touch T1 (fun f=>f))
   have HL1:=hide hl1
   have HR1:=hide hr1
   have HT1:=hide hT1
   have HY1:=hide (HY.out.quiet hT1)
   have HBr1:=hide (HBr.out.touch hT1 (fun f=>f))
   have HSr1:=hide (HSr.out.touch hT1 (fun f=>f))
   obtain ⟨gc,hgc⟩:∃ y,y=wo.heap.size:=⟨_,rfl⟩
   rw [← hgc] at HGC ⊢
   clear hl1 hr1 T1 hT1 HC b0 b1 b2 l0 l1 l2 l3 l4 hgc
   obtain ⟨b0,b1,b2⟩:=HBr1.out.facts
   obtain ⟨g0,g1,g2⟩:=HGC.out.facts
   simp only [SL.val]
   go_upto_region 6 with fail
   obtain ⟨w2,hw2⟩:∃ y,y=(((w1.setCell ⟨rb,0,none⟩ (.slice jA jn jc)).setCell ⟨rb,1,none⟩ (.slice A1 n1 c1)).alloc (.cells #[.slice jA jn jc,.slice A1 n1 c1] 39)).alloc (.cells #[.int .i64 a1,.int .u64 a2,.int .i64 a3] 34):=⟨_,rfl⟩
   obtain ⟨ga,hga⟩:∃ y,y=w1.heap.size+1:=⟨_,rfl⟩
   have T2:Touch (fun g=>g=rb) w1 w2:=by rw [hw2];exact ((((Touch.refl (fun g=>g=rb) w1).setCell (p:=⟨rb,_,none⟩) (fun _=>rfl) _).setCell (p:=⟨rb,_,none⟩) (fun _=>rfl) _).alloc _).alloc _
   have hrbW:W.heap.size≤rb:=by have h1:=HBR.out;have h2:=HST0.out.t.size;omega
   have HY2:=hide (HY1.out.off T2 (fun g e=>⟨by omega,_,e ▸ blk_ty HBr1.out,off_rst⟩))
   have HL2:=hide (HL1.out.touch T2 (fun g hg e=>by omega) (fun g hg e=>hg.ne (blk_ty HBr1.out) (by decide) e))
   have HR2:=hide (HR1.out.touch T2 (fun g hg e=>hg.ne (blk_ty HBr1.out) (by decide) e))
   have HB2:Hid (Blk w2 rb 39 #[.slice jA jn jc,.slice A1 n1 c1]):=hide (by rw [hw2];exact ((two_cells _ _ _ _ HBr1.out).alloc _).alloc _)
   have HS2:Hid (Blk w2 rs 39 #[.slice none 0 0,.slice none 0 0]):=hide (HSr1.out.touch T2 (fun e=>HBR.out.2.2 e.symm))
   have HC4:Hid (Blk w2 gc 29 #[.int .i64 kd,.int .u64 sid,.int .u64 sq,.string kw,.int .i64 kn]):=hide (HGC.out.touch T2 (fun e=>(blk_ty HGC.out).ne (blk_ty HBr1.out) (by decide) e))
   have HA2:Hid (Blk w2 ga 34 #[.int .i64 a1,.int .u64 a2,.int .i64 a3]):=hide (by
    have h1:=Blk.new (((w1.setCell ⟨rb,0,none⟩ (.slice jA jn jc)).setCell ⟨rb,1,none⟩ (.slice A1 n1 c1)).alloc (.cells #[.slice jA jn jc,.slice A1 n1 c1] 39)) 34 #[.int .i64 a1,.int .u64 a2,.int .i64 a3]
    rw [hw2,hga]
    simpa using h1)
   have HT2:Hid (Touch (fun _=>False) w w2∨True):=hide (.inr trivial)
   have HTw:Hid (Touch (stF d tb v) w w2):=hide ((HTr.out.then (HT1.out.up _)).trans T2 (fun g hg e=>by have:=HBR.out;omega))
   have HKS:Hid (∀ wx,Touch (stF d tb v') w2 wx→wx.cell? ⟨gc,0,none⟩=some (.int .i64 kd)∧wx.cell? ⟨gc,1,none⟩=some (.int .u64 sid)∧wx.cell? ⟨gc,2,none⟩=some (.int .u64 sq)∧wx.cell? ⟨gc,3,none⟩=some (.string kw)∧wx.cell? ⟨gc,4,none⟩=some (.int .i64 kn)∧wx.cell? ⟨ga,0,none⟩=some (.int .i64 a1)∧wx.cell? ⟨ga,1,none⟩=some (.int .u64 a2)∧wx.cell? ⟨ga,2,none⟩=some (.int .i64 a3)∧Touch (stF d tb v') w2 wx):=hide (fun wx T=>by
    have e1:=HY2.out.st.keep T HC4.out off_cmd
    have e2:=HY2.out.st.keep T HA2.out off_ans
    exact ⟨(e1.cell 0).trans rfl,(e1.cell 1).trans rfl,(e1.cell 2).trans rfl,(e1.cell 3).trans rfl,(e1.cell 4).trans rfl,(e2.cell 0).trans rfl,(e2.cell 1).trans rfl,(e2.cell 2).trans rfl,T⟩)
   rw [← hw2,← hga]
   clear hw2 hga T2 hrbW b0 b1 b2 g0 g1 g2
   go_region_held3 (fun w'=>w'.cell? ⟨gc,0,none⟩=some (.int .i64 kd)∧w'.cell? ⟨gc,1,none⟩=some (.int .u64 sid)∧w'.cell? ⟨gc,2,none⟩=some (.int .u64 sq)∧w'.cell? ⟨gc,3,none⟩=some (.string kw)∧w'.cell? ⟨gc,4,none⟩=some (.int .i64 kn)∧w'.cell? ⟨ga,0,none⟩=some (.int .i64 a1)∧w'.cell? ⟨ga,1,none⟩=some (.int .u64 a2)∧w'.cell? ⟨ga,2,none⟩=some (.int .i64 a3)∧Touch (stF d tb v') w2 w')
    (first
      | exact HKS.out _ (Touch.refl _ _).drew
      | exact HKS.out _ HT3.out
      | (trace_state;fail))
    (first
      | (go_simp;refine (HC2.out _ (HY2.out.quiet (Touch.refl _ _).drew)).mono ?_;rintro e w3 ⟨rfl,⟨v3,q3,hy3,hf3⟩,T3⟩;have HF3:=hide hf3;have HT3:=hide ((Touch.refl (stF d tb v') w2).drew.then T3);have HY3:=hide hy3;clear hy3 hf3 T3;go_simp))
   go_wp2_with fail
   go_roundw
   ·refine ⟨i+1,jA,jn,jc,jL,A1,n1,c1,v3,q3,by simp,by have:=HIN.out;omega,hide ?_,?_,hide ?_,hide ?_,hide ?_,hide ?_,hide ?_⟩
    ·rw [HRUN.out];exact HY3.out
    ·exact hide (fresh_next HF.out HF3.out (by have h1:=HTw.out.size;simpa using h1))
    ·rw [HRUN.out];exact RfL.stF HY2.out HL2.out HT3.out
    ·rw [HRUN.out];exact RwL.stF HY2.out.st HR2.out HT3.out
    ·exact HY2.out.st.keep HT3.out HB2.out off_rst
    ·exact HY2.out.st.keep HT3.out HS2.out off_rst
    ·exact HTw.out.trans HT3.out (fun g hg e=>stF_back HF.out hg e)
   ·have:=HIN.out
    simp only [intOf]
    omega
  ·have y0:¬ (i:Int)<(tn:Int):=by omega
   have hie:T.take i=T:=List.take_of_length_le (by rw [HTL.out];omega)
   rw [hie] at HY HLr HRr
   obtain ⟨b0,b1,b2⟩:=HBr.out.facts
   obtain ⟨s0,s1,s2⟩:=HSr.out.facts
   clear hin hin' hie
   go_wp2_with fail
   refine bodyPost_ret (v:=.tuple #[.agg #[.slice sA' sn' sc',.slice A' n' c'],.bool true]) (results_ct rfl _ _ rs 39 _ _ _ rfl (two_cells _ _ _ _ HSr.out) Tryd.underlying39 rfl (by kernel_rfl) rfl) rfl ?_
   have T3:Touch (fun g=>g=rs) wo ((wo.setCell ⟨rs,0,none⟩ (.slice sA' sn' sc')).setCell ⟨rs,1,none⟩ (.slice A' n' c')):=((Touch.refl (fun g=>g=rs) wo).setCell (p:=⟨rs,_,none⟩) (fun _=>rfl) _).setCell (p:=⟨rs,_,none⟩) (fun _=>rfl) _
   have hrs:W.heap.size≤rs:=by have h1:=HBR.out;have h2:=HST0.out.t.size;omega
   refine ⟨⟨sA',sn',sc',sL'⟩,A',n',c',rfl,⟨v',⟨q',HY.out.off T3 (fun g e=>⟨by omega,_,e ▸ blk_ty HSr.out,off_rst⟩)⟩,HF.out⟩,HLr.out.touch T3 (fun g hg e=>by omega) (fun g hg e=>hg.ne (blk_ty HSr.out) (by decide) e),HRr.out.touch T3 (fun g hg e=>hg.ne (blk_ty HSr.out) (by decide) e),HTr.out.trans T3 (fun g hg e=>by have:=HBR.out;omega)⟩
def BegS (W:World) (T:List CmdP) (e:Ending) (w':World):Prop :=
 ∃ (s d tb:Nat) (sl:SL) (A:Option Addr) (n c:Nat) (v:Value) (q:Nat),e=.returned (.tuple #[ptrV s,.agg #[sl.val,.slice A n c],.bool true])∧StY W w' s d tb v (runS T ([],[])).1 q (runS T ([],[])).2∧RfL W.heap.size w' sl (runS T ([],[])).1∧RwL w' A n c (runS T ([],[])).2
theorem rwl_nil (w:World):RwL w none 0 0 []:=⟨World.ownsRow_nil _ _ _ _,rfl,by omega⟩
theorem rfl_nil (B0:Nat) (w:World):RfL B0 w ⟨none,0,0,[]⟩ []:=⟨⟨rfl,Reads.nil _ _ _,fun _=>⟨rfl,rfl⟩⟩,rfl,fun h=>absurd h (by simp)⟩
set_option maxRecDepth 100000 in
set_option maxHeartbeats 4000000 in
theorem begun_any {W:World} (w:World) (hL:Lst W) (hT0:Touch (fun _=>False) W w) (tA:Option Addr) (tn tc:Nat) (T:List CmdP) (hT:T.length=tn) (hR:Reads W 5 tA tn (cCells T)) (hWf:∀ o∈T,o.Wf) (hm:tn≤400) :
  Calls Tryd.prog 13 #[.slice tA tn tc] w (BegS W T):=by
 obtain ⟨wa,hwa⟩:∃ z,z=w.alloc (.cells #[.slice none 0 0,.slice none 0 0] 39):=⟨_,rfl⟩
 obtain ⟨rs,hrs⟩:∃ z,z=w.heap.size:=⟨_,rfl⟩
 have hTa:Touch (fun _=>False) w wa:=by rw [hwa];exact (Touch.refl _ _).alloc _
 have HSB:Hid (Blk wa rs 39 #[.slice none 0 0,.slice none 0 0]):=hide (by rw [hwa,hrs];exact Blk.new _ _ _)
 have HRS:Hid (W.heap.size≤rs):=hide (by rw [hrs];exact hT0.size)
 have HN:=hide (snew_y wa (Lst.touch hL (hT0.then hTa)))
 have HLW:=hide (And.intro hL (hT0.then hTa))
 have HG:=hide (fun (wx:World) {s d tb:Nat} {v:Value} {q:Nat} (h:StY W wx s d tb v [] q [])=>goes_any wx h ⟨none,0,0,[]⟩ (rfl_nil _ _) none 0 0 (rwl_nil _) tA tn tc T hT hR hWf hm)
 simp only [SL.val] at HG
 have HWA:=hide hwa
 have HRS0:=hide hrs
 clear hL hT0 hT hR hWf hm hwa hrs hTa
 go_enter Tryd.func13,Tryd.ntmps13
 go_upto_region 1 with fail
 rw [← HWA.out,← HRS0.out]
 go_wp2_with fail
 refine HN.out.mono ?_
 rintro e w1 ⟨s,d,tb,rfl,hy⟩
 have hyW:StY W w1 s d tb (.slice none 0 0) [] 0 []:=⟨hy.st,⟨Nat.le_trans HLW.out.2.size hy.y.1,Nat.le_trans HLW.out.2.size hy.y.2.1,fun g hg=>Nat.le_trans HLW.out.2.size (hy.y.2.2 g hg)⟩,HLW.out.2.then hy.t,HLW.out.1⟩
 have HSB1:=hide (HSB.out.touch hy.t (fun f=>f))
 have HG1:=hide (HG.out w1 hyW)
 have HY1:=hide hyW
 clear hy hyW HN HG
 go_wp2_with fail
 refine HG1.out.mono ?_
 rintro e w2 ⟨⟨jA,jn,jc,jL⟩,A1,n1,c1,rfl,⟨v1,⟨q1,hy1⟩,hf1⟩,hl1,hr1,T1⟩
 obtain ⟨⟨Lj,Rj⟩,hLR⟩:∃ y,y=runS T ([],[]):=⟨_,rfl⟩
 rw [← hLR] at hy1 hl1 hr1
 simp only at hy1 hl1 hr1
 have HLR:=hide hLR
 have HSB2:=hide (HY1.out.st.keep T1 HSB1.out off_rst)
 have HY2:=hide hy1
 have HL2:=hide hl1
 have HR2:=hide hr1
 simp only [SL.val]
 clear hy1 hf1 hl1 hr1 T1 HG1 hLR
 obtain ⟨r0,r1,r2⟩:=HSB2.out.facts
 go_upto_region 5 with fail
 obtain ⟨w3,hw3⟩:∃ y,y=w2.alloc (.cells #[.slice jA jn jc,.slice A1 n1 c1] 39):=⟨_,rfl⟩
 obtain ⟨g3,hg3⟩:∃ y,y=w2.heap.size:=⟨_,rfl⟩
 have T3:Touch (fun _=>False) w2 w3:=by rw [hw3];exact (Touch.refl _ _).alloc _
 have HB3:Hid (Blk w3 g3 39 #[.slice jA jn jc,.slice A1 n1 c1]):=hide (by rw [hw3,hg3];exact Blk.new _ _ _)
 have HSB3:=hide (HSB2.out.touch T3 (fun f=>f))
 have HY3:=hide (HY2.out.quiet T3)
 have HL3:=hide (HL2.out.quiet T3)
 have HR3:=hide (HR2.out.quiet T3)
 have hne:¬ g3=rs:=fun e=>by have:=HSB2.out.lt;omega
 rw [← hw3,← hg3]
 clear hw3 hg3 T3 r0 r1 r2
 obtain ⟨r0,r1,r2⟩:=HSB3.out.facts
 obtain ⟨b0,b1,b2⟩:=HB3.out.facts
 go_region
 go_wp2_with fail
 refine bodyPost_ret (v:=.tuple #[ptrV s,.agg #[.slice jA jn jc,.slice A1 n1 c1],.bool true]) (results_tct rfl _ _ rs 39 _ _ _ _ rfl rfl (two_cells _ _ _ _ HSB3.out).drew Tryd.underlying39 rfl (by kernel_rfl) rfl) rfl ?_
 have T4:Touch (fun g=>g=rs) w3 ((w3.setCell ⟨rs,0,none⟩ (.slice jA jn jc)).setCell ⟨rs,1,none⟩ (.slice A1 n1 c1)).drew:=(((Touch.refl (fun g=>g=rs) w3).setCell (p:=⟨rs,_,none⟩) (fun _=>rfl) _).setCell (p:=⟨rs,_,none⟩) (fun _=>rfl) _).drew
 have hrsW:=HRS.out
 unfold BegS
 rw [← HLR.out]
 exact ⟨s,d,tb,⟨jA,jn,jc,jL⟩,A1,n1,c1,v1,q1,rfl,HY3.out.off T4 (fun g e=>⟨by omega,_,e ▸ blk_ty HSB3.out,off_rst⟩),HL3.out.touch T4 (fun g hg e=>by omega) (fun g hg e=>hg.ne (blk_ty HSB3.out) (by decide) e),HR3.out.touch T4 (fun g hg e=>hg.ne (blk_ty HSB3.out) (by decide) e)⟩
theorem rows_at {w:World} {A:Option Addr} {c:Nat} {R:List SRow} {t:TypeId} (h:w.ownsRow 0 t 4 (.slice A R.length c) R.length (rowCells R)) (k:Nat) (hk':k<R.length) :
  ∃ g,A=some ⟨g,0,none⟩∧g<w.heap.size∧w.cell? ⟨g,k*4,none⟩=some (.int .u64 (R.getD k SRow.zero).seq)∧w.cell? ⟨g,k*4+1,none⟩=some (.int .i64 (R.getD k SRow.zero).code) ∧
   w.cell? ⟨g,k*4+2,none⟩=some (.int .u64 (R.getD k SRow.zero).sess)∧w.cell? ⟨g,k*4+3,none⟩=some (.int .i64 (R.getD k SRow.zero).had):=by
 obtain ⟨g,cap,hv,hle,_,hg,hc,_⟩:=own_form h (by omega)
 injection hv with hA' _ hcc
 have e:R.getD k SRow.zero=R[k]:=by simp [List.getD,hk']
 rw [e]
 refine ⟨g,hA',hg,?_,?_,?_,?_⟩
 ·exact hc _ _ (by have:=rowCells_at R k hk' 0 (by omega);rw [show k*4=4*k+0 by omega,this];rfl)
 ·exact hc _ _ (by have:=rowCells_at R k hk' 1 (by omega);rw [show k*4+1=4*k+1 by omega,this];rfl)
 ·exact hc _ _ (by have:=rowCells_at R k hk' 2 (by omega);rw [show k*4+2=4*k+2 by omega,this];rfl)
 ·exact hc _ _ (by have:=rowCells_at R k hk' 3 (by omega);rw [show k*4+3=4*k+3 by omega,this];rfl)
set_option maxRecDepth 100000 in
set_option maxHeartbeats 4000000 in
theorem stands_any (w:World) (hL:Lst w) {s d tb:Nat} {v:Value} {L:List PRow} {q:Nat} {R:List SRow} (h:StX w s d tb v L q R) (B0:Nat) (sl:SL) (hl:RfL B0 w sl L) (A:Option Addr) (n c:Nat) (hr:RwL w A n c R) :
  Calls Tryd.prog 14 #[ptrV s,.agg #[sl.val,.slice A n c]] w fun e w'=>e=.returned (.bool true)∧Touch (fun _=>False) w w':=by
 have heq:=hl.eq
 have hsl:=hl.ok.len
 obtain ⟨sA,sn,sc,sL⟩:=sl
 simp only at heq hsl
 subst heq
 subst hsl
 have hrl:=hr.len
 subst hrl
 have HLN:Hid (sL.length≤4096):=hide h.dct.dict.len
 have HRF:Hid (R.length≤4096):=hide h.few
 obtain ⟨wa,hwa⟩:∃ z,z=w.alloc (.cells #[.slice sA sL.length sc,.slice A R.length c] 39):=⟨_,rfl⟩
 obtain ⟨rb,hrb⟩:∃ z,z=w.heap.size:=⟨_,rfl⟩
 have hTa:Touch (fun _=>False) w wa:=by rw [hwa];exact (Touch.refl _ _).alloc _
 have HBB:Hid (Blk wa rb 39 #[.slice sA sL.length sc,.slice A R.length c]):=hide (by rw [hwa,hrb];exact Blk.new _ _ _)
 have HSS:=hide (sessions_st wa (h.quiet hTa))
 have HWD:=hide (fun (wx:World) (T:Touch (fun _=>False) wa wx)=>words_st wx (Lst.touch hL (hTa.then T)) ((h.quiet hTa).quiet T))
 have HSM:=hide (fun (wx:World) (T:Touch (fun _=>False) wa wx) (A':Option Addr) (c':Nat) (hp:POwn wx A' sL.length c' sL)=>psame_yes wx A' sL.length c' sL rfl (Reads.of_own hp) (by have:=HLN.out;unfold maxLen;omega) sA sc ((hl.quiet hTa).quiet T).ok.reads)
 have HRW:=hide (hr.quiet hTa)
 have HTA:=hide hTa
 have HWA:=hide hwa
 have HRB:=hide hrb
 simp only [SL.val]
 clear hL h hl hr hwa hrb hTa
 go_enter Tryd.func14,Tryd.ntmps14
 go_upto_region 1 with fail
 rw [← HWA.out,← HRB.out]
 go_wp2_with fail
 refine HSS.out.mono ?_
 rintro e w1 ⟨v1,rfl,ho1,T1,hfr1⟩
 obtain ⟨A1,c1,hv1,_,_⟩:=own_len ho1
 subst hv1
 have HO1:=hide ho1
 have HT1:=hide T1
 have HB1:=hide (HBB.out.touch T1 (fun f=>f))
 have HKS:Hid (∀ wx,Touch (fun _=>False) w1 wx→wx.cell? ⟨rb,0,none⟩=some (.slice sA sL.length sc)∧wx.cell? ⟨rb,1,none⟩=some (.slice A R.length c)∧Touch (fun _=>False) w1 wx):=hide (fun wx T=>⟨((HB1.out.touch T (fun f=>f)).cell 0).trans rfl,((HB1.out.touch T (fun f=>f)).cell 1).trans rfl,T⟩)
 clear ho1 T1 hfr1 HSS
 have HRR:=hide (HRW.out.quiet HT1.out)
 go_upto_region 2 with fail
 go_region_held3 (fun w'=>w'.cell? ⟨rb,0,none⟩=some (.slice sA sL.length sc)∧w'.cell? ⟨rb,1,none⟩=some (.slice A R.length c)∧Touch (fun _=>False) w1 w')
  (first
    | exact HKS.out _ (Touch.refl _ _).drew
    | exact HKS.out _ HT2.out
    | exact HKS.out _ HT3.out
    | (trace_state;fail))
  (first
    | (go_simp;refine (HWD.out _ (HT1.out.then (Touch.refl _ _).drew)).mono ?_;rintro e w2 ⟨A2,c2,rfl,hp2,T2⟩;have HT2:=hide ((Touch.refl (fun _=>False) w1).drew.then T2);have HP2:=hide hp2;clear hp2 T2;go_simp)
    | (go_simp;refine (HSM.out _ (HT1.out.then HT2.out) _ _ HP2.out).mono ?_;rintro e w3 ⟨rfl,T3⟩;have HT3:=hide (HT2.out.then T3);clear T3;go_simp))
 go_wp2_with fail
 go_loopw [25] (fun iv wr=>∃ k:Nat,iv=.int .i64 k∧k≤R.length∧Hid (Touch (fun _=>False) w1 wr)) (fun iv _=>R.length-(intOf iv).toNat)
 case atStart=>exact ⟨0,rfl,Nat.zero_le _,HT3⟩
 case round =>
  obtain ⟨k,rfl,hk,HTk⟩:=hrel
  obtain ⟨wk,hwk⟩:∃ y,y=wr:=⟨_,rfl⟩
  subst hwk
  have HBk:=hide (HB1.out.touch HTk.out (fun f=>f))
  obtain ⟨b0,b1,b2⟩:=HBk.out.facts
  by_cases hkn:k<R.length
  ·have k0:(k:Int)<(R.length:Int):=by omega
   have k3:(0:Int)≤(k:Int):=by omega
   have k4:IntKind.i64.wrap ((k:Int)+1)=(k:Int)+1:=IntWalk.i64_in _ (by have:=HRF.out;omega)
   obtain ⟨g1,hA1,hg1,d0,d1,d2,d3⟩:=rows_at (own_touch HO1.out HTk.out (fun _ _ f=>f)) k hkn
   obtain ⟨g2,hA2,hg2,e0,e1,e2,e3⟩:=rows_at (HRR.out.quiet HTk.out).own k hkn
   subst hA1 hA2
   obtain ⟨⟨xs,xc,xr,xh⟩,hx⟩:∃ x,x=R.getD k SRow.zero:=⟨_,rfl⟩
   rw [← hx] at d0 d1 d2 d3 e0 e1 e2 e3
   simp only at d0 d1 d2 d3 e0 e1 e2 e3
   have HKN:=hide hkn
   clear hx hk hkn hg1 hg2
   go_upto_region 7 with fail
   go_quiet (fail)
   go_wp2_with fail
   go_roundw
   ·exact ⟨k+1,by simp,by have:=HKN.out;omega,hide (HTk.out.drewN _)⟩
   ·have:=HKN.out
    simp only [intOf]
    omega
  ·have k0:¬ (k:Int)<(R.length:Int):=by omega
   have HTE:=hide ((HTA.out.then HT1.out).then HTk.out)
   clear hk hkn
   go_wp2_with fail
   go_ret
   exact ⟨rfl,HTE.out⟩
end Go.Proofs.YthockgmbooefpaaDoor
namespace Go.Proofs.YthockgmbooefpaaDoor
open Go.RowKit Go.ChangeShapes Go.WideShapes Go.ChangeAt
section
variable {H:Type} {enc:TypeId × Value→H} {w:World} {base:Nat} {spare:Nat→Bool} {held:Bool}
instance:Inhabited CmdP:=⟨CmdP.zero⟩
theorem list5 {α:Type} {l:List α} (h:l.length=5):∃ a b c d e,l=[a,b,c,d,e]:=by
 match l,h with
 | [a,b,c,d,e],_=>exact ⟨a,b,c,d,e,rfl⟩
theorem cmd_elem (n:Nat) (cs:List Value) (y:DataW H × List MemPlace) (hl:cs.length=5) (h:DataW.trod enc Tryd.prog w base spare held n 29 cs=some y):∃ r:CmdP,cs=r.cells∧r.word.size≤Rows.uptoBulk y.1∧r.In:=by
 obtain ⟨b,hb,_⟩:=field_int (k:=.i64) Tryd.underlying29 h 0 _ rfl (by kernel_rfl) (by kernel_rfl)
 obtain ⟨s1,hs1,i1⟩:=field_int (k:=.u64) Tryd.underlying29 h 1 _ rfl (by kernel_rfl) (by kernel_rfl)
 obtain ⟨s2,hs2,i2⟩:=field_int (k:=.u64) Tryd.underlying29 h 2 _ rfl (by kernel_rfl) (by kernel_rfl)
 obtain ⟨s,hs,ws⟩:=field_bulk Tryd.underlying29 h 3 _ rfl (by kernel_rfl) (by kernel_rfl)
 obtain ⟨c,hc,_⟩:=field_int (k:=.i64) Tryd.underlying29 h 4 _ rfl (by kernel_rfl) (by kernel_rfl)
 obtain ⟨x0,x1,x2,x3,x4,rfl⟩:=list5 hl
 simp at hs hb hc hs1 hs2
 refine ⟨⟨b,s1,s2,s,c⟩,by rw [hs,hb,hc,hs1,hs2];rfl,ws,?_⟩
 unfold CmdP.In
 simp only
 have j1:=i1
 have j2:=i2
 simp [Lit.wf] at j1 j2
 have m1:IntKind.u64.min=0:=by decide
 have m2:IntKind.u64.max=18446744073709551615:=by decide
 omega
abbrev CmdI:={c:CmdP // c.In}
instance:Inhabited CmdI:=⟨⟨CmdP.zero,by unfold CmdP.In CmdP.zero;simp⟩⟩
set_option maxRecDepth 100000 in
theorem open_cmds {r:Reach} {b0:Nat} {v:Value} {d:DataW H} {p:List MemPlace} (hv:Value.okWide Tryd.prog w r b0 22 v) (h:DataW.Trod enc Tryd.prog w base spare held 22 v d p) :
  ∃ A len cap,∃ l:List CmdP,v=.slice A len cap∧l.length=len∧Reads w 5 A len (cCells l)∧len≤maxLen∧(∀ o∈l,o.word.size≤Rows.uptoBulk d)∧∀ o∈l,o.In:=by
 obtain ⟨a0,len,cap,rfl⟩:=okWide_slice Tryd.underlying22 hv
 obtain ⟨fuel,hf⟩:=h
 obtain ⟨A,len',cap',l,hcs,hl,hlc,hm,hn,hr,hw,_⟩:=open_rowsB (R:=CmdI) (fun o=>o.1.cells) (fun o=>o.1.word.size) 5 (fun _=>rfl) (by decide) Tryd.underlying22 (by kernel_rfl) (fun n cs y h1 h2=>by obtain ⟨r,e1,e2,e3⟩:=cmd_elem n cs y h1 h2;exact ⟨⟨r,e3⟩,e1,e2⟩) hf
 simp [Value.cells] at hcs
 obtain ⟨rfl,rfl,rfl⟩:=hcs
 refine ⟨_,_,_,l.map (·.1),rfl,by simpa using hl,?_,Nat.le_trans hlc hm,?_,?_⟩
 ·unfold cCells
  rw [List.flatMap_map]
  exact hr
 ·intro o ho
  obtain ⟨x,hx,rfl⟩:=List.mem_map.1 ho
  exact hw x hx
 ·intro o ho
  obtain ⟨x,hx,rfl⟩:=List.mem_map.1 ho
  exact x.2
set_option maxRecDepth 100000 in
theorem open_cmd {r:Reach} {b0:Nat} {v:Value} {d:DataW H} {p:List MemPlace} (hv:Value.okWide Tryd.prog w r b0 29 v) (h:DataW.Trod enc Tryd.prog w base spare held 29 v d p) :
  ∃ o:CmdP,v=o.val∧o.word.size≤Rows.uptoBulk d∧o.In:=by
 obtain ⟨cs,rfl,hsz⟩:=okWide_struct Tryd.underlying29 hv
 obtain ⟨fuel,hf⟩:=h
 have hC:Tryd.prog.cellsOf 29 = 5:=by kernel_rfl
 obtain ⟨o,ho,hw,hi⟩:=cmd_elem _ _ _ (by show cs.toList.length=5;rw [Array.length_toList];exact hsz.trans hC) hf
 refine ⟨o,?_,hw,hi⟩
 have:cs.toList=o.cells:=ho
 have e:cs=#[.int .i64 o.kind,.int .u64 o.sess,.int .u64 o.seq,.string o.word,.int .i64 o.n]:=by rw [← Array.toArray_toList (xs:=cs),this];rfl
 rw [e];rfl
end
end Go.Proofs.YthockgmbooefpaaDoor
namespace Go.Proofs.YthockgmbooefpaaDoor
open Go.RowKit
def crcBit (s:Nat):Nat:=if s % 2=1 then (s / 2) ^^^ 2197175160 else s / 2
def crcRep:Nat→Nat→Nat
 | 0,s=>s
 | n+1,s=>crcBit (crcRep n s)
def crcByte (s c:Nat):Nat:=crcRep 8 (s ^^^ c)
def crcF (bs:List UInt8):Nat:=bs.foldl (fun s c=>crcByte s c.toNat) 4294967295
def sumB (bs:List UInt8):Nat:=4294967295-crcF bs
theorem crcBit_lt {s:Nat} (h:s<4294967296):crcBit s<4294967296:=by
 unfold crcBit
 split
 ·exact Nat.xor_lt_two_pow (n:=32) (by omega) (by decide)
 ·omega
theorem crcRep_lt {s:Nat} (h:s<4294967296):∀ n,crcRep n s<4294967296
 | 0=>h
 | n+1=>crcBit_lt (crcRep_lt h n)
theorem crcByte_lt {s c:Nat} (h:s<4294967296) (hc:c<256):crcByte s c<4294967296 :=
 crcRep_lt (Nat.xor_lt_two_pow (n:=32) h (by omega)) 8
theorem crcF_lt (bs:List UInt8):crcF bs<4294967296:=by
 unfold crcF
 have key:∀ (l:List UInt8) (s:Nat),s<4294967296→l.foldl (fun s c=>crcByte s c.toNat) s<4294967296:=by
  intro l
  induction l with
  | nil=>exact fun s h=>h
  | cons b l ih=>exact fun s h=>ih _ (crcByte_lt h b.toNat_lt)
 exact key bs _ (by decide)
theorem crcF_snoc (bs:List UInt8) (b:UInt8):crcF (bs++[b])=crcByte (crcF bs) b.toNat:=by simp [crcF]
theorem crc_step {s:Nat} (h:s<4294967296) :
  bits .xor .u32 ((s:Int).fdiv (2 ^ min (Int.toNat 1) IntKind.u32.bits)) (bits .and .u32 2197175160 (IntKind.u32.wrap (-(bits .and .u32 (s:Int) 1))))=((crcBit s:Nat):Int):=by
 have e1:min (Int.toNat 1) IntKind.u32.bits=1:=by decide
 have e2:bits .and .u32 (s:Int) 1=((s % 2:Nat):Int):=by
  have:=u32_and_nat s 1 h (by decide)
  rw [Nat.and_one_is_mod] at this
  exact this
 have e3:(s:Int).fdiv (2 ^ 1)=((s / 2:Nat):Int):=by
  rw [Int.fdiv_eq_ediv_of_nonneg _ (by decide)]
  omega
 rw [e1,e2,e3]
 unfold crcBit
 rcases Nat.mod_two_eq_zero_or_one s with h2 | h2
 ·rw [h2,if_neg (by decide)]
  have e4:bits .and .u32 2197175160 (IntKind.u32.wrap (-((0:Nat):Int)))=((0:Nat):Int):=by decide
  rw [e4,u32_xor_nat _ _ (by omega) (by decide),Nat.xor_zero]
 ·rw [h2,if_pos rfl]
  have e4:bits .and .u32 2197175160 (IntKind.u32.wrap (-((1:Nat):Int)))=((2197175160:Nat):Int):=by decide
  rw [e4,u32_xor_nat _ _ (by omega) (by decide)]
theorem crc_stepN {s:Nat} (h:s<4294967296) :
  bits .xor .u32 ((s:Int) / 2) (bits .and .u32 2197175160 (-bits .and .u32 (s:Int) 1 % 4294967296))=((crcBit s:Nat):Int):=by
 rw [← crc_step h,IntKind.wrap_u32]
 have e1:min (Int.toNat 1) IntKind.u32.bits=1:=by decide
 rw [e1,Int.fdiv_eq_ediv_of_nonneg _ (by decide)]
 rfl
theorem xor_max {s:Nat} (h:s<4294967296):4294967295 ^^^ s=4294967295-s:=by
 have h1:=congrArg BitVec.toNat (BitVec.allOnes_xor (x:=BitVec.ofNat 32 s))
 rw [BitVec.toNat_xor,BitVec.toNat_not,BitVec.toNat_allOnes,BitVec.toNat_ofNat,Nat.mod_eq_of_lt h] at h1
 exact h1
theorem crc_notN {s:Nat} (h:s<4294967296):bits .xor .u32 IntKind.u32.max (s:Int)=((4294967295-s:Nat):Int):=by
 have e:IntKind.u32.max=((4294967295:Nat):Int):=by decide
 rw [e,u32_xor_nat _ _ (by decide) h,xor_max h]
end Go.Proofs.YthockgmbooefpaaDoor
namespace Go.Proofs.YthockgmbooefpaaDoor
open Go.RowKit
def varF:Nat→Nat→List UInt8
 | 0,n=>[UInt8.ofNat n]
 | f+1,n=>if n<128 then [UInt8.ofNat n] else UInt8.ofNat (n % 128+128) :: varF f (n / 128)
def varN (n:Nat):List UInt8:=varF 9 n
theorem varF_len:∀ (f n:Nat),(varF f n).length≤f+1
 | 0,_=>Nat.le_refl _
 | f+1,n=>by
  unfold varF
  split
  ·simp
  ·have:=varF_len f (n / 128)
   simp
   omega
theorem byteV_nat {m:Nat} (h:m<256):byteV (UInt8.ofNat m)=.int .u8 (m:Int):=by unfold byteV;rw [UInt8.toNat_ofNat',Nat.mod_eq_of_lt h]
theorem shr7 (m:Nat):(m:Int).fdiv (2 ^ min (Int.toNat 7) IntKind.u64.bits)=((m / 128:Nat):Int):=by
 have h:min (Int.toNat 7) IntKind.u64.bits=7:=by decide
 rw [h,Int.fdiv_eq_ediv_of_nonneg _ (by decide)]
 omega
theorem or128_all:∀ a:Fin 256,bits .or .u8 (a.val:Int) 128=((a.val % 128+128:Nat):Int):=by decide +kernel
theorem or128 (m:Nat):bits .or .u8 ((m:Int) % 256) 128=(m:Int) % 128+128:=by
 have h:=or128_all ⟨m % 256,by omega⟩
 simp only at h
 rw [show (m:Int) % 256=((m % 256:Nat):Int) by omega,h]
 omega
set_option maxRecDepth 100000 in
set_option maxHeartbeats 4000000 in
theorem putuint_any (w0 w:World) (A:Option Addr) (q c:Nat) (xs:List Value) (h:ONx 5 1 w0 w (.slice A q c) q xs) (n:Nat) (hn:n<18446744073709551616) (hq:q≤35184372088832) :
  Calls Tryd.prog 35 #[.slice A q c,.int .u64 n] w fun e w'=>∃ (A':Option Addr) (q' c':Nat),e=.returned (.slice A' q' c')∧ONx 5 1 w0 w' (.slice A' q' c') q' (xs++(varN n).map byteV)∧q'≤q+10∧Touch (fun g=>(Value.slice A q c).ownBlock=some g) w w':=by
 obtain ⟨i0,hi0,hz0,hz1,hz2⟩:=info_parts infoByte
 have H:=hide h
 have HN:=hide hn
 have HQ:=hide hq
 clear h hn hq
 go_enter Tryd.func35,Tryd.ntmps35
 go_wp2_with fail
 go_loopw [0,1] (fun bv nv wr=>∃ (A3:Option Addr) (k c3 m f:Nat) (ys:List UInt8),bv=.slice A3 (q+k) c3∧nv=.int .u64 m∧Hid (ONx 5 1 w0 wr (.slice A3 (q+k) c3) (q+k) (xs++ys.map byteV))∧Hid (ys++varF f m=varN n)∧Hid (m<128 ^ (f+1)∧m≤n∧k+f=9)∧Hid (Touch (fun g=>(Value.slice A q c).ownBlock=some g) w wr)∧Hid (Fresh w (.slice A q c) (.slice A3 (q+k) c3))) (fun _ nv _=>(intOf nv).toNat)
 case atStart=>exact ⟨A,0,c,n,9,[],rfl,rfl,hide (by rw [List.map_nil,List.append_nil];exact H.out),hide rfl,hide ⟨Nat.lt_of_lt_of_le HN.out (by decide),Nat.le_refl _,rfl⟩,hide (Touch.refl _ _),hide (.inl rfl)⟩
 case round =>
  obtain ⟨A3,k,c3,m,f,ys,rfl,rfl,HX,HY,HB,HT,HF⟩:=hrel
  by_cases hm:128≤m
  ·have m0:(128:Int)≤(m:Int):=by omega
   have m1:=or128 m
   have m2:=shr7 m
   have hf:∃ f',f=f'+1:=by
    cases f with
    | zero=>have:=HB.out.1;simp at this;omega
    | succ f'=>exact ⟨f',rfl⟩
   obtain ⟨f',rfl⟩:=hf
   have hvf:varF (f'+1) m=UInt8.ofNat (m % 128+128) :: varF f' (m / 128):=by
    conv=>lhs;unfold varF
    rw [if_neg (by omega)]
   have HVF:=hide hvf
   have HM:=hide hm
   clear hvf
   obtain ⟨wa,hwa⟩:∃ y,y=wr.alloc (.cells #[.int .u8 ((m:Int) % 128+128)] 5):=⟨_,rfl⟩
   have hTa:Touch (fun _=>False) wr wa:=by rw [hwa];exact (Touch.refl _ _).alloc _
   have hrd:Reads wa 1 (some ⟨wr.heap.size,0,none⟩) 1 [.int .u8 ((m:Int) % 128+128)]:=by
    rw [hwa]
    have h:=Reads.new (size:=1) wr 5 [.int .u8 ((m:Int) % 128+128)] 1 rfl
    simpa using h
   have hone:∀ u∈([.int .u8 ((m:Int) % 128+128)]:List Value),u.oneCell'=true:=by
    intro u hu
    rw [List.mem_singleton] at hu
    subst hu
    rfl
   have hbb:q+k+1≤maxLen∧(q+k+1)*1≤140737488355328:=by
    have h1:=HQ.out
    have h2:=HB.out.2.2
    unfold maxLen
    omega
   have HXA:=hide (HX.out.to hTa)
   have HWA:=hide hwa
   have HRD:=hide hrd
   have HONE:=hide hone
   have HBB:=hide hbb
   have HTA:=hide hTa
   clear hm hwa hTa hrd hone hbb
   go_wp2_with (at_builtin;rw [← HWA.out];refine wpList_app _ rfl (.tmp 7) (.tmp 11) 46 rfl 5 i0 _ 1 1 Tryd.underlying46 hi0 hz0 hz1 hz2 rfl (by decide) (.slice A3 (q+k) c3) (q+k) _ rfl HXA.out.own (some ⟨wr.heap.size,0,none⟩) 1 1 [.int .u8 ((m:Int) % 128+128)] rfl HRD.out (fun h=>by cases h) HONE.out HBB.out.1 HBB.out.2 ?_;intro v1 w10 O10 G10 F10 _;obtain ⟨A7,c7,hv,_,_⟩:=own_len O10;subst hv;have HX10:=hide (HXA.out.app O10 G10 F10);have HG10:=hide G10;have HF10:=hide F10;clear O10 G10 F10)
   have hT10:Touch (fun g=>(Value.slice A q c).ownBlock=some g) w w10:=(HT.out.then (HTA.out.up _)).trans ((Touch.refl (fun g=>(Value.slice A3 (q+k) c3).ownBlock=some g) wa).grown HG10.out (fun k e _=>e)) (fun g hg e=>by
    rcases HF.out with e2 | ⟨g',e2,hle⟩
    ·exact e2.symm.trans e
    ·rw [e2] at e
     injection e with e
     omega)
   go_roundw
   case rel =>
    refine ⟨A7,k+1,c7,m / 128,f',ys++[UInt8.ofNat (m % 128+128)],rfl,rfl,hide ?_,hide ?_,hide ⟨?_,?_,?_⟩,hide hT10,hide ?_⟩
    ·rw [List.map_append,← List.append_assoc]
     simp only [List.map_cons,List.map_nil]
     rw [byteV_nat (by omega),show ((m % 128+128:Nat):Int)=(m:Int) % 128+128 by omega]
     exact HX10.out
    ·rw [List.append_assoc,← HY.out,HVF.out]
     rfl
    ·have:=HB.out.1
     rw [Nat.pow_succ] at this
     exact Nat.div_lt_of_lt_mul (by omega)
    ·have:=HB.out.2.1
     omega
    ·have:=HB.out.2.2
     omega
    ·exact HF.out.up HF10.out (Nat.le_trans HT.out.size HTA.out.size)
   case measure =>
    have:=HM.out
    simp only [intOf]
    omega
  ·have m0:¬ (128:Int)≤(m:Int):=by omega
   have m1:(m:Int) % 256=(m:Int):=by omega
   have hvf:varF f m=[UInt8.ofNat m]:=by
    cases f with
    | zero=>rfl
    | succ f' =>
     unfold varF
     rw [if_pos (by omega)]
   have HVF:=hide hvf
   have HM:=hide hm
   clear hvf
   obtain ⟨wa,hwa⟩:∃ y,y=wr.alloc (.cells #[.int .u8 (m:Int)] 5):=⟨_,rfl⟩
   have hTa:Touch (fun _=>False) wr wa:=by rw [hwa];exact (Touch.refl _ _).alloc _
   have hrd:Reads wa 1 (some ⟨wr.heap.size,0,none⟩) 1 [.int .u8 (m:Int)]:=by
    rw [hwa]
    have h:=Reads.new (size:=1) wr 5 [.int .u8 (m:Int)] 1 rfl
    simpa using h
   have hone:∀ u∈([.int .u8 (m:Int)]:List Value),u.oneCell'=true:=by
    intro u hu
    rw [List.mem_singleton] at hu
    subst hu
    rfl
   have hbb:q+k+1≤maxLen∧(q+k+1)*1≤140737488355328:=by
    have h1:=HQ.out
    have h2:=HB.out.2.2
    unfold maxLen
    omega
   have HXA:=hide (HX.out.to hTa)
   have HWA:=hide hwa
   have HRD:=hide hrd
   have HONE:=hide hone
   have HBB:=hide hbb
   have HTA:=hide hTa
   clear hm hwa hTa hrd hone hbb
   go_wp2_with (at_builtin;rw [← HWA.out];refine wpList_app _ rfl (.tmp 15) (.tmp 18) 46 rfl 5 i0 _ 1 1 Tryd.underlying46 hi0 hz0 hz1 hz2 rfl (by decide) (.slice A3 (q+k) c3) (q+k) _ rfl HXA.out.own (some ⟨wr.heap.size,0,none⟩) 1 1 [.int .u8 (m:Int)] rfl HRD.out (fun h=>by cases h) HONE.out HBB.out.1 HBB.out.2 ?_;intro v1 w10 O10 G10 F10 _;obtain ⟨A7,c7,hv,_,_⟩:=own_len O10;subst hv;have HX10:=hide (HXA.out.app O10 G10 F10);have HG10:=hide G10;have HF10:=hide F10;clear O10 G10 F10)
   have hT10:Touch (fun g=>(Value.slice A q c).ownBlock=some g) w w10:=(HT.out.then (HTA.out.up _)).trans ((Touch.refl (fun g=>(Value.slice A3 (q+k) c3).ownBlock=some g) wa).grown HG10.out (fun k e _=>e)) (fun g hg e=>by
    rcases HF.out with e2 | ⟨g',e2,hle⟩
    ·exact e2.symm.trans e
    ·rw [e2] at e
     injection e with e
     omega)
   go_ret
   refine ⟨A7,q+k+1,c7,rfl,?_,by have:=HB.out.2.2;omega,hT10⟩
   have h:=HX10.out
   rw [← HY.out,HVF.out,List.map_append,← List.append_assoc]
   simp only [List.map_cons,List.map_nil]
   rw [byteV_nat (by have:=HM.out;omega)]
   exact h
theorem pput_any (w0 w:World) (A:Option Addr) (q c:Nat) (xs:List Value) (h:ONx 5 1 w0 w (.slice A q c) q xs) (n:Nat) (hn:n<9223372036854775808) (hq:q≤35184372088832) :
  Calls Tryd.prog 49 #[.slice A q c,.int .i64 n] w fun e w'=>∃ (A':Option Addr) (q' c':Nat),e=.returned (.slice A' q' c')∧ONx 5 1 w0 w' (.slice A' q' c') q' (xs++(varN n).map byteV)∧q'≤q+10∧Touch (fun g=>(Value.slice A q c).ownBlock=some g) w w':=by
 have HP:=hide (putuint_any w0 w A q c xs h n (by omega) hq)
 have z1:IntKind.u64.wrap (n:Int)=(n:Int):=IntWalk.u64_in _ (by omega)
 clear h hn hq
 go_enter Tryd.func49,Tryd.ntmps49
 go_wp2_with ((go_at_call 35;refine HP.out.mono ?_;rintro e w2 ⟨A',q',c',rfl,h2,hq2,T2⟩;have H2:=hide (And.intro h2 (And.intro hq2 T2));clear h2 hq2 T2))
 go_ret
 exact ⟨A',q',c',rfl,H2.out⟩
end Go.Proofs.YthockgmbooefpaaDoor
namespace Go.Proofs.YthockgmbooefpaaDoor
open Go.RowKit
def arcB (i prev:Nat) (a:Nat × Int × Nat):List UInt8:=varN (a.1-prev)++varN a.2.1.toNat++varN (i-a.2.2)
def arcsB (i:Nat):Nat→List (Nat × Int × Nat)→List UInt8
 | _,[]=>[]
 | p,a :: l=>arcB i p a++arcsB i a.1 l
def headB (s:StP):List UInt8:=if s.fin=true then varN (2*s.arcs.length+1)++varN s.out.toNat else varN (2*s.arcs.length)
def stB (i:Nat) (s:StP):List UInt8:=headB s++arcsB i 0 s.arcs
def stsB:Nat→List StP→List UInt8
 | _,[]=>[]
 | i,s :: l=>stB i s++stsB (i+1) l
def topB (base:Int) (n:Nat):List UInt8:=varN base.toNat++varN n
def packB (base:Int) (sts:List StP):List UInt8:=topB base sts.length++stsB 0 sts
def lastL (p:Nat) (l:List (Nat × Int × Nat)):Nat:=(l.getLast?.map (·.1)).getD p
theorem arcsB_snoc (i:Nat) (a:Nat × Int × Nat):∀ (l:List (Nat × Int × Nat)) (p:Nat),arcsB i p (l++[a])=arcsB i p l++arcB i (lastL p l) a
 | [],p=>by simp [arcsB,lastL]
 | [b],p=>by simp [arcsB,lastL]
 | b :: d :: l,p=>by
  have h:=arcsB_snoc i a (d :: l) b.1
  have e:lastL p (b :: d :: l)=lastL b.1 (d :: l):=by
   obtain ⟨x,hx⟩:∃ x,(d :: l).getLast? = some x:=⟨_,List.getLast?_eq_some_getLast (by simp)⟩
   unfold lastL
   rw [List.getLast?_cons_cons,hx]
   rfl
  simp only [List.cons_append,arcsB] at h ⊢
  rw [h,e,List.append_assoc,List.append_assoc,List.append_assoc]
theorem stsB_snoc (s:StP):∀ (l:List StP) (k:Nat),stsB k (l++[s])=stsB k l++stB (k+l.length) s
 | [],k=>by simp [stsB]
 | t :: l,k=>by
  have h:=stsB_snoc s l (k+1)
  simp only [List.cons_append,stsB]
  rw [h,List.append_assoc,List.length_cons,show k+1+l.length=k+(l.length+1) by omega]
def nbT (t:TypeId):Prop:=t ≠ 5
theorem put_k {w0 wx:World} {A:Option Addr} {q c:Nat} {xs:List UInt8} (h:Hid (ONx 5 1 w0 wx (.slice A q c) q (xs.map byteV))) {z:Int} {n:Nat} (hz:Hid (z=(n:Int)∧n<9223372036854775808)) (hq:q≤35184372088832) :
  Calls Tryd.prog 49 #[.slice A q c,.int .i64 z] wx fun e w'=>∃ (A':Option Addr) (q' c':Nat),e=.returned (.slice A' q' c')∧Hid (ONx 5 1 w0 w' (.slice A' q' c') q' ((xs++varN n).map byteV))∧q'≤q+10∧KpP nbT wx w':=by
 obtain ⟨rfl,hn⟩:=hz.out
 refine (pput_any w0 wx A q c _ h.out n hn hq).mono ?_
 rintro e w' ⟨A',q',c',rfl,h2,hq2,T⟩
 exact ⟨A',q',c',rfl,hide (by rw [List.map_append];exact h2),hq2,KpP.touch T (fun g t ht hg e=>(own_ty h.out.own e).ne hg (fun e=>ht e.symm) rfl)⟩
theorem keep2 {wd w':World} {M:Nat} {t:TypeId} {a b:Value} (ht:nbT t) (h:Blk wd M t #[a,b]) (k:KpP nbT wd w'):w'.cell? ⟨M,0,none⟩=some a∧w'.cell? ⟨M,1,none⟩=some b∧KpP nbT wd w' :=
 ⟨(h.kpp k ht).cell 0,(h.kpp k ht).cell 1,k⟩
theorem keep3 {wd w':World} {M:Nat} {t:TypeId} {a b c:Value} (ht:nbT t) (h:Blk wd M t #[a,b,c]) (k:KpP nbT wd w'):w'.cell? ⟨M,0,none⟩=some a∧w'.cell? ⟨M,1,none⟩=some b∧w'.cell? ⟨M,2,none⟩=some c∧KpP nbT wd w' :=
 ⟨(h.kpp k ht).cell 0,(h.kpp k ht).cell 1,(h.kpp k ht).cell 2,k⟩
theorem le_tiny {q:Nat} (h:q≤0+10):q≤35184372088832:=by omega
theorem and_last3' {a b c:Prop} (h:a∧b∧c):c:=h.2.2
theorem and_last4' {a b c d:Prop} (h:a∧b∧c∧d):d:=h.2.2.2
set_option maxRecDepth 100000 in
set_option maxHeartbeats 8000000 in
theorem pack_any (w:World) (hL:Lst w) (bn:Nat) (A:Option Addr) (n c:Nat) (Z:List SV) (hst:StsOk w A n Z) (hR:RgtP (Z.map SV.p) (bn:Int)) (hbn:bn≤1048576) (hn:n≤98305) (hf:∀ i,i<n→FormP i (Z.getD i svZero).p) :
  Calls Tryd.prog 31 #[.agg #[.int .i64 bn,.slice A n c]] w fun e w'=>∃ (A':Option Addr) (q c':Nat),e=.returned (.tuple #[.slice A' q c',.int .i64 0])∧ONx 5 1 w w' (.slice A' q c') q ((packB bn (Z.map SV.p)).map byteV):=by
 obtain ⟨w1,hw1⟩:∃ y,y=w.alloc (.cells #[.int .i64 bn,.slice A n c] 77):=⟨_,rfl⟩
 have hT1:Touch (fun _=>False) w w1:=by rw [hw1];exact (Touch.refl _ _).alloc _
 have hbM:Blk w1 w.heap.size 77 #[.int .i64 bn,.slice A n c]:=by rw [hw1];exact Blk.new _ _ _
 have hri:=right_all w1 (Lst.touch hL hT1) bn A n c Z (hst.quiet hT1) hR
 have HRI:=hide hri
 have HW1:=hide hw1
 have HT1:=hide hT1
 have HBM:=hide hbM
 have HST:=hide hst
 have HF:=hide hf
 have HBN:=hide hbn
 have HN:=hide hn
 obtain ⟨m0,m1,m2⟩:=hbM.facts
 rw [hw1] at m0 m1 m2
 clear hst hR hf hw1 hT1 hbM hri hL hbn hn
 go_enter Tryd.func31,Tryd.ntmps31
 go_wp2_with fail
 rw [← HW1.out]
 refine HRI.out.mono ?_
 rintro e w2 ⟨rfl,T2⟩
 have hbM2:=HBM.out.touch T2 (fun f=>f)
 clear m0 m1 m2
 obtain ⟨m0,m1,m2⟩:=hbM2.facts
 have HX0:Hid (ONx 5 1 w w2.drew (.slice none 0 0) 0 (([]:List UInt8).map byteV)):=hide ((ONx.nil _ _ _).to ((HT1.out.then T2).drew))
 have HBM2:=hide hbM2
 have HT2:=hide (HT1.out.then T2)
 have HZ1:Hid ((bn:Int)=(bn:Int)∧bn<9223372036854775808):=hide ⟨rfl,by have:=HBN.out;omega⟩
 have HZ2:Hid ((n:Int)=(n:Int)∧n<9223372036854775808):=hide ⟨rfl,by have:=HN.out;omega⟩
 have HNBM:Hid (nbT 77):=hide (by unfold nbT;decide)
 have HP1:=hide (put_k HX0 HZ1 (Nat.zero_le _))
 have HP2:Hid (∀ (A5:Option Addr) (q5 c5:Nat) (wx:World),Hid (ONx 5 1 w wx (.slice A5 q5 c5) q5 (([]++varN bn).map byteV))→q5≤0+10→Calls Tryd.prog 49 #[.slice A5 q5 c5,.int .i64 n] wx fun e w'=>∃ (A':Option Addr) (q' c':Nat),e=.returned (.slice A' q' c')∧Hid (ONx 5 1 w w' (.slice A' q' c') q' ((([]++varN bn)++varN n).map byteV))∧q'≤q5+10∧KpP nbT wx w'):=hide (fun A5 q5 c5 wx h hq=>put_k h HZ2 (le_tiny hq))
 clear T2 hbM2 HRI
 go_wp2_with fail
 go_region_held3 (fun w'=>w'.cell? ⟨w.heap.size,0,none⟩=some (.int .i64 bn)∧w'.cell? ⟨w.heap.size,1,none⟩=some (.slice A n c)∧KpP nbT w2 w')
  (first
    | exact keep2 HNBM.out HBM2.out (KpP.refl _ _)
    | exact keep2 HNBM.out HBM2.out (KpP.of (Touch.refl _ _).drew)
    | (refine keep2 HNBM.out HBM2.out (KpP.trans ?_ (by assumption));first | assumption | exact and_last3' (by assumption) | exact KpP.of (Touch.refl _ _).drew | exact KpP.refl _ _))
  (first
    | (go_at_call 49;refine (HP2.out _ _ _ _ HX5 hq5).mono ?_;rintro e wy ⟨A6,q6,c6,rfl,HX6,hq6,k6⟩)
    | (go_at_call 49;refine HP1.out.mono ?_;rintro e wx ⟨A5,q5,c5,rfl,HX5,hq5,k5⟩))
 have hk2y:KpP nbT w2 wy:=and_last3' (by assumption)
 have hxy:ONx 5 1 w wy (.slice A6 q6 c6) q6 ((topB bn n).map byteV):=by
  have h:=HX6.out
  simpa [topB] using h
 have hq6b:q6≤40:=by omega
 have HK2:=hide hk2y
 have HXY:=hide hxy
 have HQ6:=hide hq6b
 clear m0 m1 m2
 obtain ⟨m0,m1,m2⟩:=(HBM2.out.kpp hk2y HNBM.out).facts
 clear hk2y hxy hq6b hq5 hq6 k5 k6 HX5 HX6 HP1 HP2 HZ1 HZ2 HX0
 have hcl:∀ (wr:World),KpP nbT w2 wr→(RdT wr 108 3 A n (sCells Z))∧∀ z∈Z,RdT wr 110 3 z.A z.n (aCells z.arcs):=fun wr hk =>
  ⟨(HST.out.quiet HT2.out).rd.kpp hk (by unfold nbT;decide),fun z hz=>((HST.out.quiet HT2.out).el z hz).rd.kpp hk (by unfold nbT;decide)⟩
 have HCL:=hide hcl
 clear hcl
 go_wp2_with fail
 go_loopw [4,24] (fun bv iv wr=>∃ (A3:Option Addr) (q c3 i:Nat),bv=.slice A3 q c3∧iv=.int .i64 i∧i≤n∧Hid (ONx 5 1 w wr (.slice A3 q c3) q ((topB bn n++stsB 0 ((Z.map SV.p).take i)).map byteV))∧Hid (q≤40+i*62914600)∧Hid (KpP nbT w2 wr)) (fun _ iv _=>n-(intOf iv).toNat)
 case atStart=>exact ⟨A6,q6,c6,0,rfl,rfl,Nat.zero_le _,hide (by rw [List.take_zero];simpa [stsB] using HXY.out),hide (by have:=HQ6.out;omega),HK2⟩
 case round =>
  clear m0 m1 m2
  obtain ⟨A3,q,c3,i,rfl,rfl,hi,HX,HQ,HK⟩:=hrel
  by_cases hin:i<n
  ·obtain ⟨hrs,hra⟩:=HCL.out wr HK.out
   have hzl:Z.length=n:=HST.out.len
   obtain ⟨g,o,hA,hg,d0,d1,d2⟩:=state_at hrs.rd hzl i hin
   subst hA
   have hzm:=getD_mem Z svZero i (by rw [hzl];exact hin)
   have hfm:=HF.out i hin
   have hzo:=HST.out.el _ hzm
   have htk:(Z.map SV.p).take (i+1)=(Z.map SV.p).take i++[(Z.getD i svZero).p]:=by
    rw [List.take_succ_eq_append_getElem (by rw [List.length_map,hzl];exact hin)]
    simp [List.getD,show i<Z.length by rw [hzl];exact hin]
   obtain ⟨z,hz⟩:∃ z,Z.getD i svZero=z:=⟨_,rfl⟩
   rw [hz] at d0 d1 d2 hzm hfm hzo htk
   obtain ⟨fin,out,zA,zn,zc,arcs⟩:=z
   simp only at d0 d1 d2
   have hzal:=hzo.len
   have hzle:=hzo.le
   simp only at hzal hzle
   obtain ⟨on,hon⟩:∃ on:Nat,out=(on:Int):=⟨out.toNat,by have:=hfm.out0;simp only [SV.p] at this;omega⟩
   subst hon
   have honb:on≤1048576:=by have:=hfm.out1;simp only [SV.p] at this;omega
   have hfew:=form_few hfm
   simp only [SV.p] at hfew
   have hznI:(zn:Int)≤2097152:=by omega
   have htl:((Z.map SV.p).take i).length=i:=by rw [List.length_take,List.length_map,hzl];omega
   obtain ⟨w3,hw3⟩:∃ y,y=wr.alloc (.cells #[.bool fin,.int .i64 on,.slice zA zn zc] 108):=⟨_,rfl⟩
   have hT3:Touch (fun _=>False) wr w3:=by rw [hw3];exact (Touch.refl _ _).alloc _
   have hbS:Blk w3 wr.heap.size 108 #[.bool fin,.int .i64 on,.slice zA zn zc]:=by rw [hw3];exact Blk.new _ _ _
   have y0:(i:Int)<(n:Int):=by omega
   have y1:(0:Int)≤(i:Int):=by omega
   have y2:IntKind.i64.wrap ((i:Int)+1)=(i:Int)+1:=IntWalk.i64_in _ (by have:=HN.out;omega)
   have y3:IntKind.i64.wrap (2*(zn:Int))=2*(zn:Int):=IntWalk.i64_in _ (by omega)
   have y4:IntKind.i64.wrap (2*(zn:Int)+1)=2*(zn:Int)+1:=IntWalk.i64_in _ (by omega)
   obtain ⟨s0,s1,s2⟩:=hbS.facts
   have hxw3:=HX.out.to hT3
   have hq45:q≤35184372088832-1000:=by have h1:=HQ.out;have h2:=HN.out;omega
   obtain ⟨xs,hxs⟩:∃ xs,xs=topB bn n++stsB 0 ((Z.map SV.p).take i):=⟨_,rfl⟩
   rw [← hxs] at hxw3
   have hx3d:Hid (ONx 5 1 w w3.drew (.slice A3 q c3) q (xs.map byteV)):=hide (hxw3.to (Touch.refl _ _).drew)
   have HX3:=hide hxw3
   have HNBS:Hid (nbT 108):=hide (by unfold nbT;decide)
   have HNBA:Hid (nbT 110):=hide (by unfold nbT;decide)
   have HBS:=hide hbS
   have HW3:=hide hw3
   have HT3:=hide hT3
   have HFM:=hide hfm
   have HTK:=hide htk
   have HZAL:=hide hzal
   have HZM:=hide hzm
   have HXS:=hide hxs
   have HQ45:=hide hq45
   have HTL:=hide htl
   have HIN:=hide hin
   have HZN:=hide hfew
   have hzn1:Hid (2*(zn:Int)+1=((2*zn+1:Nat):Int)∧2*zn+1<9223372036854775808):=hide ⟨by omega,by omega⟩
   have hzn2:Hid (2*(zn:Int)=((2*zn:Nat):Int)∧2*zn<9223372036854775808):=hide ⟨by omega,by omega⟩
   have hzn3:Hid ((on:Int)=(on:Int)∧on<9223372036854775808):=hide ⟨rfl,by omega⟩
   have HP1:=hide (put_k hx3d hzn1 (by omega))
   have HP2:=hide (put_k (hide hxw3) hzn2 (by omega))
   have HP3:Hid (∀ (A5:Option Addr) (q5 c5:Nat) (wx:World),Hid (ONx 5 1 w wx (.slice A5 q5 c5) q5 ((xs++varN (2*zn+1)).map byteV))→q5≤q+10→Calls Tryd.prog 49 #[.slice A5 q5 c5,.int .i64 on] wx fun e w'=>∃ (A':Option Addr) (q' c':Nat),e=.returned (.slice A' q' c')∧Hid (ONx 5 1 w w' (.slice A' q' c') q' (((xs++varN (2*zn+1))++varN on).map byteV))∧q'≤q5+10∧KpP nbT wx w'):=hide (fun A5 q5 c5 wx h hq=>put_k h hzn3 (by have:=HQ45.out;omega))
   clear hxs hx3d hxw3 hbS hw3 hT3 hfm htk hzal hzm hq45 htl hin hfew hzn1 hzn2 hzn3 hrs hra hzl hg hz hzo hzle honb
   have d0':=d0
   go_upto_if 34 with fail
   rw [← HW3.out]
   clear d0 d1 d2 d0'
   go_cut [4] from 35 to 44 (fun bv wx=>∃ (A7:Option Addr) (q7 c7:Nat),bv=.slice A7 q7 c7∧Hid (ONx 5 1 w wx (.slice A7 q7 c7) q7 ((xs++headB ⟨fin,(on:Int),arcs⟩).map byteV))∧q7≤q+20∧Hid (KpP nbT w3 wx))
   case first =>
    cases fin with
    | true =>
     go_wp2_with fail
     go_region_held3 (fun w'=>w'.cell? ⟨wr.heap.size,0,none⟩=some (.bool true)∧w'.cell? ⟨wr.heap.size,1,none⟩=some (.int .i64 on)∧w'.cell? ⟨wr.heap.size,2,none⟩=some (.slice zA zn zc)∧KpP nbT w3 w')
      (first
     | exact keep3 HNBS.out HBS.out (KpP.refl _ _)
     | exact keep3 HNBS.out HBS.out (KpP.of (Touch.refl _ _).drew)
     | (refine keep3 HNBS.out HBS.out (KpP.trans ?_ (by assumption));first | assumption | exact and_last4' (by assumption) | exact KpP.of (Touch.refl _ _).drew | exact KpP.refl _ _))
      (first
        | (go_at_call 49;refine (HP3.out _ _ _ _ HX5 hq5).mono ?_;rintro e wy ⟨A6,q6,c6,rfl,HX6,hq6,k6⟩)
        | (go_at_call 49;refine HP1.out.mono ?_;rintro e wx ⟨A5,q5,c5,rfl,HX5,hq5,k5⟩))
     have hk:KpP nbT w3 wy:=and_last4' (by assumption)
     have HK7:=hide hk
     clear hk
     go_wp2_with fail
     go_meet
     exact ⟨A6,q6,c6,rfl,hide (by
      have h:=HX6.out
      have hz:=HZAL.out
      simp only [headB,if_true]
      rw [hz,Int.toNat_natCast,← List.append_assoc]
      exact h),by omega,HK7⟩
    | false =>
     go_wp2_with fail
     refine HP2.out.mono ?_
     rintro e wx ⟨A5,q5,c5,rfl,HX5,hq5,k5⟩
     have HK7:=hide k5
     clear k5
     go_wp2_with fail
     go_meet
     exact ⟨A5,q5,c5,rfl,hide (by
      have h:=HX5.out
      have hz:=HZAL.out
      simp only [headB]
      rw [hz]
      simpa using h),by omega,HK7⟩
   case rest =>
    obtain ⟨A7,q7,c7,rfl,HX7,hq7,HK7⟩:=hcut
    obtain ⟨s0,s1,s2⟩:=(HBS.out.kpp HK7.out HNBS.out).facts
    obtain ⟨xs2,hxs2⟩:∃ ys,ys=xs++headB ⟨fin,(on:Int),arcs⟩:=⟨_,rfl⟩
    rw [← hxs2] at HX7
    have HXS2:=hide hxs2
    clear hxs2 HP1 HP2 HP3
    go_wp2_with fail
    obtain ⟨wo,hwo⟩:∃ y,y=wr:=⟨_,rfl⟩
    subst hwo
    go_loopw [4,8,48] (fun bv lv jv wx=>∃ (A8:Option Addr) (q8 c8 j lab:Nat),bv=.slice A8 q8 c8∧lv=.int .i32 (lab:Int)∧jv=.int .i64 j∧j≤zn∧Hid (lab=lastL 0 (arcs.take j))∧Hid (ONx 5 1 w wx (.slice A8 q8 c8) q8 ((xs2++arcsB i 0 (arcs.take j)).map byteV))∧Hid (q8≤q+20+j*30)∧Hid (KpP nbT w3 wx)) (fun _ _ jv _=>zn-(intOf jv).toNat)
    case atStart=>exact ⟨A7,q7,c7,0,0,rfl,rfl,rfl,Nat.zero_le _,hide rfl,hide (by rw [List.take_zero];simpa [arcsB] using HX7.out),hide (by omega),HK7⟩
    case round =>
     clear s0 s1 s2
     obtain ⟨A8,q8,c8,j,lab,rfl,rfl,rfl,hj,HLA,HX8,HQ8,HK8⟩:=hrel
     by_cases hjn:j<zn
     ·have hra:=(((HCL.out wo HK.out).2 _ HZM.out).quiet HT3.out).kpp HK8.out HNBA.out
      obtain ⟨g2,o2,hA2,_,e0,e1,e2⟩:=arc_at hra.rd HZAL.out j hjn
      simp only at hA2 e0 e1 e2
      subst hA2
      have ham:=getD_mem arcs (0,0,0) j (by rw [HZAL.out];exact hjn)
      have htj:arcs.take (j+1)=arcs.take j++[arcs.getD j (0,0,0)]:=take_snoc arcs (0,0,0) j (by rw [HZAL.out];exact hjn)
      have hlt:∀ x∈arcs.take j,x.1<(arcs.getD j (0,0,0)).1:=by
       intro x hx
       have h1:=HFM.out.lab
       simp only [SV.p] at h1
       have h2:=h1.sublist ((List.take_sublist (j+1) arcs).map _)
       rw [htj,List.map_append,List.pairwise_append] at h2
       exact h2.2.2 _ (List.mem_map_of_mem hx) _ (List.mem_singleton.2 rfl)
      have har:=HFM.out.arc _ ham
      have hrn:=(HFM.out.run _ ham).1
      obtain ⟨⟨la,ua,tt⟩,hz⟩:∃ z,arcs.getD j (0,0,0)=z:=⟨_,rfl⟩
      rw [hz] at e0 e1 e2 htj hlt har hrn
      simp only at e0 e1 e2 hlt har hrn
      have hlab:lab≤la:=by
       rw [HLA.out]
       unfold lastL
       cases hg:(arcs.take j).getLast? with
       | none=>simp
       | some x=>exact Nat.le_of_lt (hlt x (List.mem_of_getLast? hg))
      have hla:la<1114112:=scal_lt hrn
      obtain ⟨un,hun⟩:∃ un:Nat,ua=(un:Int):=⟨ua.toNat,by omega⟩
      subst hun
      obtain ⟨w5,hw5⟩:∃ y,y=wr.alloc (.cells #[.int .i32 la,.int .i64 un,.int .i64 tt] 110):=⟨_,rfl⟩
      have hT5:Touch (fun _=>False) wr w5:=by rw [hw5];exact (Touch.refl _ _).alloc _
      have hbA:Blk w5 wr.heap.size 110 #[.int .i32 la,.int .i64 un,.int .i64 tt]:=by rw [hw5];exact Blk.new _ _ _
      obtain ⟨p0,p1,p2⟩:=hbA.facts
      have y5:(j:Int)<(zn:Int):=by omega
      have y6:(0:Int)≤(j:Int):=by omega
      have y7:IntKind.i64.wrap ((j:Int)+1)=(j:Int)+1:=IntWalk.i64_in _ (by have:=HZN.out;omega)
      have y8:IntKind.i32.wrap ((la:Int)-(lab:Int))=(la:Int)-(lab:Int):=IntWalk.i32_in _ (by omega)
      have y9:IntKind.i64.wrap ((la:Int)-(lab:Int))=(la:Int)-(lab:Int):=IntWalk.i64_in _ (by omega)
      have y10:IntKind.i64.wrap ((i:Int)-(tt:Int))=(i:Int)-(tt:Int):=IntWalk.i64_in _ (by have:=HN.out;have:=HIN.out;omega)
      obtain ⟨ys,hys⟩:∃ ys,ys=xs2++arcsB i 0 (arcs.take j):=⟨_,rfl⟩
      have hx5:Hid (ONx 5 1 w w5.drew (.slice A8 q8 c8) q8 (ys.map byteV)):=hide (by rw [hys];exact (HX8.out.to hT5).to (Touch.refl _ _).drew)
      have hn1:Hid ((la:Int)-(lab:Int)=((la-lab:Nat):Int)∧la-lab<9223372036854775808):=hide ⟨by omega,by omega⟩
      have hn2:Hid ((un:Int)=(un:Int)∧un<9223372036854775808):=hide ⟨rfl,by omega⟩
      have hn3:Hid ((i:Int)-(tt:Int)=((i-tt:Nat):Int)∧i-tt<9223372036854775808):=hide ⟨by omega,by have:=HN.out;have:=HIN.out;omega⟩
      have hq8:q8≤35184372088832-100:=by
       have h1:=HQ.out
       have h2:=HN.out
       have h3:=HQ8.out
       have h4:=HZN.out
       have h5:=HIN.out
       omega
      have HQ88:=hide hq8
      have HP1:=hide (put_k hx5 hn1 (by omega))
      have HP2:Hid (∀ (A5:Option Addr) (q5 c5:Nat) (wx:World),Hid (ONx 5 1 w wx (.slice A5 q5 c5) q5 ((ys++varN (la-lab)).map byteV))→q5≤q8+10→Calls Tryd.prog 49 #[.slice A5 q5 c5,.int .i64 un] wx fun e w'=>∃ (A':Option Addr) (q' c':Nat),e=.returned (.slice A' q' c')∧Hid (ONx 5 1 w w' (.slice A' q' c') q' (((ys++varN (la-lab))++varN un).map byteV))∧q'≤q5+10∧KpP nbT wx w'):=hide (fun A5 q5 c5 wx h hq=>put_k h hn2 (by have:=HQ88.out;omega))
      have HP3:Hid (∀ (A5:Option Addr) (q5 c5 q4:Nat) (wx:World),Hid (ONx 5 1 w wx (.slice A5 q5 c5) q5 (((ys++varN (la-lab))++varN un).map byteV))→q4≤q8+10→q5≤q4+10→Calls Tryd.prog 49 #[.slice A5 q5 c5,.int .i64 ((i:Int)-(tt:Int))] wx fun e w'=>∃ (A':Option Addr) (q' c':Nat),e=.returned (.slice A' q' c')∧Hid (ONx 5 1 w w' (.slice A' q' c') q' ((((ys++varN (la-lab))++varN un)++varN (i-tt)).map byteV))∧q'≤q5+10∧KpP nbT wx w'):=hide (fun A5 q5 c5 q4 wx h hq4 hq=>put_k h hn3 (by have:=HQ88.out;omega))
      have HBA:=hide hbA
      have HW5:=hide hw5
      have HT5:=hide hT5
      have HYS:=hide hys
      have HTJ:=hide htj
      have HJN:=hide hjn
      clear hra ham hlt har hrn hz hlab hla hw5 hT5 hbA hys hx5 hn1 hn2 hn3 hq8 htj hjn hj
      go_upto_region 15 with fail
      rw [← HW5.out]
      go_region_held3 (fun w'=>w'.cell? ⟨wr.heap.size,0,none⟩=some (.int .i32 la)∧w'.cell? ⟨wr.heap.size,1,none⟩=some (.int .i64 un)∧w'.cell? ⟨wr.heap.size,2,none⟩=some (.int .i64 tt)∧KpP nbT w5 w')
       (first
       | exact keep3 HNBA.out HBA.out (KpP.refl _ _)
       | exact keep3 HNBA.out HBA.out (KpP.of (Touch.refl _ _).drew)
       | (refine keep3 HNBA.out HBA.out (KpP.trans ?_ (by assumption));first | assumption | exact and_last4' (by assumption) | exact KpP.of (Touch.refl _ _).drew | exact KpP.refl _ _))
       (first
         | (go_at_call 49;refine (HP3.out _ _ _ _ _ HXB hqa hqb).mono ?_;rintro e wz ⟨Ac,qc,cc,rfl,HXC,hqc,kc⟩)
         | (go_at_call 49;refine (HP2.out _ _ _ _ HXA hqa).mono ?_;rintro e wy ⟨Ab,qb,cb,rfl,HXB,hqb,kb⟩)
         | (go_at_call 49;refine HP1.out.mono ?_;rintro e wx ⟨Aa,qa,ca,rfl,HXA,hqa,ka⟩))
      have hk:KpP nbT w5 wz:=and_last4' (by assumption)
      have HKZ:=hide hk
      obtain ⟨t0,t1,t2⟩:=(HBA.out.kpp hk HNBA.out).facts
      clear hk
      go_wp2_with fail
      go_roundw
      case rel =>
       refine ⟨Ac,qc,cc,j+1,la,rfl,rfl,by simp,by have:=HJN.out;omega,hide (by rw [HTJ.out];simp [lastL]),hide ?_,hide (by have:=HQ8.out;omega),hide (HK8.out.trans ((KpP.of HT5.out).trans HKZ.out))⟩
       have h:=HXC.out
       rw [HYS.out] at h
       rw [HTJ.out,arcsB_snoc,← HLA.out]
       simp only [arcB,Int.toNat_natCast]
       simpa only [List.append_assoc] using h
      case measure =>
       have:=HJN.out
       simp only [intOf]
       omega
     ·have hje:j=zn:=by omega
      have hat:arcs.take j=arcs:=List.take_of_length_le (by rw [HZAL.out];omega)
      rw [hat] at HX8
      have y5:¬ (j:Int)<(zn:Int):=by omega
      have HJE:=hide hje
      clear hje hat hjn hj
      go_wp2_with fail
      go_roundw
      case rel =>
       refine ⟨A8,q8,c8,i+1,rfl,by simp,by have:=HIN.out;omega,hide ?_,hide ?_,hide (HK.out.trans ((KpP.of HT3.out).trans HK8.out))⟩
       ·have h:=HX8.out
        rw [HXS2.out,HXS.out] at h
        rw [HTK.out,stsB_snoc,HTL.out,Nat.zero_add]
        simp only [stB,SV.p]
        simpa only [List.append_assoc] using h
       ·have h1:=HQ8.out
        have h2:=HQ.out
        have h3:=HZN.out
        have h4:=HJE.out
        omega
      case measure =>
       have:=HIN.out
       simp only [intOf]
       omega
  ·have hie:i=n:=by omega
   have hat:(Z.map SV.p).take i=Z.map SV.p:=List.take_of_length_le (by rw [List.length_map,HST.out.len];omega)
   rw [hat] at HX
   have y0:¬ (i:Int)<(n:Int):=by omega
   have HZL:Hid ((Z.map SV.p).length=n):=hide (by rw [List.length_map];exact HST.out.len)
   clear hie hat hin hi
   go_wp2_with fail
   refine bodyPost_ret (v:=.tuple #[.slice A3 q c3,.int .i64 0]) (by simp [results,Tryd.results31,go_sem]) rfl ⟨A3,q,c3,rfl,?_⟩
   unfold packB
   rw [HZL.out]
   exact HX.out
end Go.Proofs.YthockgmbooefpaaDoor
namespace Go.Proofs.YthockgmbooefpaaDoor
open Go.RowKit
theorem byte_atB {w:World} {A:Option Addr} {n:Nat} {bs:List UInt8} (h:Reads w 1 A n (bs.map byteV)) (k:Nat) (hk:k<n) (hn:bs.length=n) :
  ∃ g off,A=some ⟨g,off,none⟩∧g<w.heap.size∧w.cell? ⟨g,off+k,none⟩=some (.int .u8 ((bs.getD k 0).toNat:Int)):=by
 obtain ⟨b,off,hA,hb,hc⟩:=h.2 (by omega)
 have hk':k<bs.length:=by omega
 have e:bs.getD k 0=bs[k]:=by simp [List.getD,hk']
 rw [e]
 exact ⟨b,off,hA,hb,hc k _ (by simp [hk',byteV])⟩
theorem btake_succ (bs:List UInt8) (i:Nat) (h:i<bs.length):bs.take (i+1)=bs.take i++[bs.getD i 0]:=by
 rw [List.take_succ_eq_append_getElem h]
 have e:bs.getD i 0=bs[i]:=by simp [List.getD,h]
 rw [e]
set_option maxRecDepth 100000 in
set_option maxHeartbeats 2000000 in
theorem csum_any (w:World) (A:Option Addr) (n c:Nat) (bs:List UInt8) (hR:Reads w 1 A n (bs.map byteV)) (hl:bs.length=n) (hn:n≤35184372088832) :
  Calls Tryd.prog 51 #[.slice A n c] w fun e w'=>e=.returned (.int .u32 ((sumB bs:Nat):Int))∧Touch (fun _=>False) w w':=by
 have HR:=hide hR
 have HL:=hide hl
 have HN:=hide hn
 clear hR hl hn
 go_enter Tryd.func51,Tryd.ntmps51
 go_wp2_with fail
 go_loopw [3,8] (fun sv iv wr=>∃ (i:Nat),sv=.int .u32 ((crcF (bs.take i):Nat):Int)∧iv=.int .i64 i∧i≤n∧wr=w) (fun _ iv _=>n-(intOf iv).toNat)
 case atStart=>exact ⟨0,rfl,rfl,Nat.zero_le _,rfl⟩
 case round =>
  obtain ⟨i,rfl,rfl,hin',rfl⟩:=hrel
  obtain ⟨wo,hwo⟩:∃ y,y=wr:=⟨_,rfl⟩
  subst hwo
  by_cases hin:i<n
  ·have y0:(i:Int)<(n:Int):=by omega
   have y1:(0:Int)≤(i:Int):=by omega
   have y2:IntKind.i64.wrap ((i:Int)+1)=(i:Int)+1:=IntWalk.i64_in _ (by have:=HN.out;omega)
   obtain ⟨gl,ol,hAl,hgl,l0⟩:=byte_atB HR.out i hin HL.out
   subst hAl
   obtain ⟨b,hb⟩:∃ b,b=bs.getD i 0:=⟨_,rfl⟩
   have hsn:crcF (bs.take (i+1))=crcRep 8 (crcF (bs.take i) ^^^ b.toNat):=by rw [btake_succ bs i (by rw [HL.out];exact hin),crcF_snoc,hb];rfl
   rw [← hb] at l0
   obtain ⟨s,hs⟩:∃ s,s=crcF (bs.take i):=⟨_,rfl⟩
   rw [← hs] at hsn
   have hslt:s<4294967296:=by rw [hs];exact crcF_lt _
   obtain ⟨v,hv⟩:∃ v:Nat,v=b.toNat:=⟨_,rfl⟩
   have hvlt:v<256:=by rw [hv];exact b.toNat_lt
   rw [← hv] at l0 hsn
   have m0:IntKind.u32.wrap (v:Int)=(v:Int):=by rw [IntKind.wrap_u32];omega
   have m1:bits .xor .u32 (s:Int) (v:Int)=((s ^^^ v:Nat):Int):=u32_xor_nat s v hslt (by omega)
   obtain ⟨x,hx⟩:∃ x,x=s ^^^ v:=⟨_,rfl⟩
   have hxlt:x<4294967296:=by rw [hx];exact Nat.xor_lt_two_pow (n:=32) hslt (by omega)
   rw [← hx] at m1 hsn
   have HSN:=hide hsn
   have HXL:=hide hxlt
   have HIN:=hide hin
   have HS:=hide hs
   rw [← hs]
   clear hb hs hsn hv hx hxlt hin hin' hslt hvlt
   go_wp2_with fail
   go_loopw [3,16] (fun sv kv wr=>∃ (k:Nat),sv=.int .u32 ((crcRep k x:Nat):Int)∧kv=.int .i64 k∧k≤8∧wr=wo) (fun _ kv _=>8-(intOf kv).toNat)
   case atStart=>exact ⟨0,rfl,rfl,by omega,rfl⟩
   case round =>
    obtain ⟨k,rfl,rfl,hk',hwr⟩:=hrel
    subst hwr
    by_cases hk:k<8
    ·have k0:(k:Int)<8:=by omega
     have k1:(0:Int)≤(k:Int):=by omega
     have k2:IntKind.i64.wrap ((k:Int)+1)=(k:Int)+1:=IntWalk.i64_in _ (by omega)
     have m2:=crc_stepN (crcRep_lt HXL.out k)
     have e3:crcBit (crcRep k x)=crcRep (k+1) x:=rfl
     rw [e3] at m2
     obtain ⟨r,hr⟩:∃ r,r=crcRep k x:=⟨_,rfl⟩
     obtain ⟨r2,hr2⟩:∃ r,r=crcRep (k+1) x:=⟨_,rfl⟩
     rw [← hr,← hr2] at m2
     rw [← hr]
     have HR2:=hide hr2
     have HK:=hide hk
     clear hr hr2 hk hk'
     go_wp2_with fail
     go_roundw
     ·exact ⟨k+1,by rw [← HR2.out],by simp,by have:=HK.out;omega,trivial⟩
     ·have:=HK.out
      simp only [intOf]
      omega
    ·have k0:¬ (k:Int)<8:=by omega
     have hk8:k=8:=by omega
     subst hk8
     clear hk hk' k0
     go_wp2_with fail
     go_roundw
     ·exact ⟨i+1,by rw [HSN.out],by simp,by have:=HIN.out;omega,trivial⟩
     ·have:=HIN.out
      simp only [intOf]
      omega
  ·have y0:¬ (i:Int)<(n:Int):=by omega
   have hie:bs.take i=bs:=List.take_of_length_le (by rw [HL.out];omega)
   rw [hie]
   have m3:=crc_notN (crcF_lt bs)
   have hsu:(4294967295-crcF bs:Nat)=sumB bs:=rfl
   rw [hsu] at m3
   obtain ⟨s,hs⟩:∃ s,s=crcF bs:=⟨_,rfl⟩
   obtain ⟨t,ht⟩:∃ t,t=sumB bs:=⟨_,rfl⟩
   rw [← hs,← ht] at m3
   rw [← hs]
   have HTT:=hide ht
   clear hs ht hie hsu hin hin'
   go_wp2_with fail
   go_ret
   exact ⟨by rw [← HTT.out];rfl,Touch.refl _ _⟩
set_option maxRecDepth 100000 in
set_option maxHeartbeats 2000000 in
theorem putbytes_nil (w:World) (A:Option Addr) (n c:Nat) (bs:List UInt8) (hR:Reads w 1 A n (bs.map byteV)) (hA:A=none→n=0∧c=0) (hl:bs.length=n) (hn:n≤17592186044416) :
  Calls Tryd.prog 33 #[.slice none 0 0,.slice A n c] w fun e w'=>∃ (A':Option Addr) (q' c':Nat),e=.returned (.slice A' q' c')∧ONx 5 1 w w' (.slice A' q' c') q' ((varN n++bs).map byteV)∧q'≤n+10:=by
 obtain ⟨i0,hi0,hz0,hz1,hz2⟩:=info_parts infoByte
 have HP:=hide (putuint_any w w none 0 0 [] (ONx.nil _ _ _) n (by omega) (by omega))
 have HR:=hide hR
 have HN:=hide hn
 have HA:=hide hA
 have z1:IntKind.u64.wrap (n:Int)=(n:Int):=IntWalk.u64_in _ (by omega)
 clear hR hn hA hl
 go_enter Tryd.func33,Tryd.ntmps33
 go_wp2_with fail
 refine HP.out.mono ?_
 rintro e w1 ⟨A1,q1,c1,rfl,h1,hq1,T1⟩
 have hT1:Touch (fun _=>False) w w1:=T1.mono (fun i hi e=>by simp [Value.ownBlock] at e)
 have HO:=hide h1
 have HQ:=hide hq1
 have HRD:=hide (HR.out.touch hT1 (fun _ _ f=>f))
 have hone:∀ u∈bs.map byteV,u.oneCell'=true:=by
  intro u hu
  obtain ⟨b,_,rfl⟩:=List.mem_map.1 hu
  rfl
 have HONE:=hide hone
 have HBB:Hid (q1+n≤maxLen∧(q1+n)*1≤140737488355328):=hide (by have:=HN.out;unfold maxLen;omega)
 clear h1 hq1 T1 hT1 HP hone
 go_wp2_with (at_builtin;refine wpList_app _ rfl (.tmp 9) (.tmp 10) 46 rfl 5 i0 _ 1 1 Tryd.underlying46 hi0 hz0 hz1 hz2 rfl (by decide) (.slice A1 q1 c1) q1 _ rfl HO.out.own A n c (bs.map byteV) rfl HRD.out HA.out HONE.out HBB.out.1 HBB.out.2 ?_;intro v2 w2 O2 G2 F2 _;obtain ⟨A2,c2,hv,_,_⟩:=own_len O2;subst hv;have HO2:=hide (HO.out.app O2 G2 F2);clear O2 G2 F2)
 go_ret
 refine ⟨A2,q1+n,c2,rfl,?_,by have:=HQ.out;omega⟩
 have h:=HO2.out
 rw [List.map_append]
 simpa using h
def sum4 (s:Nat):List UInt8:=[UInt8.ofNat (s % 256),UInt8.ofNat (s / 256 % 256),UInt8.ofNat (s / 65536 % 256),UInt8.ofNat (s / 16777216 % 256)]
def sealB (bs:List UInt8):List UInt8:=varN bs.length++bs++sum4 (sumB bs)
set_option maxRecDepth 100000 in
set_option maxHeartbeats 2000000 in
theorem seal_any (w:World) (A:Option Addr) (n c:Nat) (bs:List UInt8) (hR:Reads w 1 A n (bs.map byteV)) (hA:A=none→n=0∧c=0) (hl:bs.length=n) (hn:n≤17592186044416) :
  Calls Tryd.prog 36 #[.slice A n c] w fun e w'=>∃ (A':Option Addr) (q' c':Nat) (k:Int),e=.returned (.tuple #[.slice A' q' c',.int .i64 k])∧ONx 5 1 w w' (.slice A' q' c') q' ((if n≤2097152 then sealB bs else []).map byteV)∧k=(if n≤2097152 then 0 else 22):=by
 obtain ⟨i0,hi0,hz0,hz1,hz2⟩:=info_parts infoByte
 by_cases hb:n≤2097152
 ·have k0:¬ (2097152:Int)<(n:Int):=by omega
  simp only [hb,if_true]
  have HS:=hide (csum_any w A n c bs hR hl (by omega))
  have HP:=hide (fun (wx:World) (T:Touch (fun _=>False) w wx)=>putbytes_nil wx A n c bs (hR.touch T (fun _ _ f=>f)) hA hl hn)
  have HB:=hide hb
  have HL:=hide hl
  obtain ⟨s,hs⟩:∃ s,s=sumB bs:=⟨_,rfl⟩
  have hslt:s<4294967296:=by rw [hs];unfold sumB;omega
  rw [← hs] at HS
  have m1:(s:Int).fdiv (2 ^ min (Int.toNat 8) IntKind.u32.bits)=((s / 256:Nat):Int):=by
   have h:min (Int.toNat 8) IntKind.u32.bits=8:=by decide
   rw [h,Int.fdiv_eq_ediv_of_nonneg _ (by decide)]
   omega
  have m2:(s:Int).fdiv (2 ^ min (Int.toNat 16) IntKind.u32.bits)=((s / 65536:Nat):Int):=by
   have h:min (Int.toNat 16) IntKind.u32.bits=16:=by decide
   rw [h,Int.fdiv_eq_ediv_of_nonneg _ (by decide)]
   omega
  have m3:(s:Int).fdiv (2 ^ min (Int.toNat 24) IntKind.u32.bits)=((s / 16777216:Nat):Int):=by
   have h:min (Int.toNat 24) IntKind.u32.bits=24:=by decide
   rw [h,Int.fdiv_eq_ediv_of_nonneg _ (by decide)]
   omega
  have HSS:=hide hs
  have HSL:=hide hslt
  clear hb hl hR hA hn hs hslt
  go_enter Tryd.func36,Tryd.ntmps36
  go_wp2_with fail
  refine HS.out.mono ?_
  rintro e w1 ⟨rfl,T1⟩
  have HT1:=hide T1
  have HP1:=hide (HP.out w1 T1)
  clear T1 HS HP
  go_wp2_with fail
  refine HP1.out.mono ?_
  rintro e w2 ⟨A2,q2,c2,rfl,h2,hq2⟩
  have HO:=hide h2
  have HQ:=hide hq2
  clear h2 hq2 HP1
  obtain ⟨wa,hwa⟩:∃ y,y=w2.alloc (.cells #[.int .u8 ((s:Int) % 256),.int .u8 ((s:Int) / 256 % 256),.int .u8 ((s:Int) / 65536 % 256),.int .u8 ((s:Int) / 16777216 % 256)] 5):=⟨_,rfl⟩
  have hTa:Touch (fun _=>False) w2 wa:=by rw [hwa];exact (Touch.refl _ _).alloc _
  have hrd:Reads wa 1 (some ⟨w2.heap.size,0,none⟩) 4 [.int .u8 ((s:Int) % 256),.int .u8 ((s:Int) / 256 % 256),.int .u8 ((s:Int) / 65536 % 256),.int .u8 ((s:Int) / 16777216 % 256)]:=by
   rw [hwa]
   have h:=Reads.new (size:=1) w2 5 [.int .u8 ((s:Int) % 256),.int .u8 ((s:Int) / 256 % 256),.int .u8 ((s:Int) / 65536 % 256),.int .u8 ((s:Int) / 16777216 % 256)] 4 rfl
   simpa using h
  have hone:∀ u∈([.int .u8 ((s:Int) % 256),.int .u8 ((s:Int) / 256 % 256),.int .u8 ((s:Int) / 65536 % 256),.int .u8 ((s:Int) / 16777216 % 256)]:List Value),u.oneCell'=true:=by
   intro u hu
   simp only [List.mem_cons,List.not_mem_nil,or_false] at hu
   rcases hu with rfl | rfl | rfl | rfl<;>rfl
  have HXA:=hide (HO.out.to hTa)
  have HWA:=hide hwa
  have HRD:=hide hrd
  have HONE:=hide hone
  have HBB:Hid (q2+4≤maxLen∧(q2+4)*1≤140737488355328):=hide (by have:=HQ.out;have:=HB.out;unfold maxLen;omega)
  clear hwa hTa hrd hone
  go_wp2_with (at_builtin;rw [← HWA.out];refine wpList_app _ rfl (.tmp 11) (.tmp 23) 46 rfl 5 i0 _ 1 1 Tryd.underlying46 hi0 hz0 hz1 hz2 rfl (by decide) (.slice A2 q2 c2) q2 _ rfl HXA.out.own (some ⟨w2.heap.size,0,none⟩) 4 4 [.int .u8 ((s:Int) % 256),.int .u8 ((s:Int) / 256 % 256),.int .u8 ((s:Int) / 65536 % 256),.int .u8 ((s:Int) / 16777216 % 256)] rfl HRD.out (fun h=>by cases h) HONE.out HBB.out.1 HBB.out.2 ?_;intro v3 w3 O3 G3 F3 _;obtain ⟨A3,c3,hv,_,_⟩:=own_len O3;subst hv;have HO3:=hide (HXA.out.app O3 G3 F3);clear O3 G3 F3)
  go_ret2
  refine ⟨A3,q2+4,c3,0,rfl,?_,rfl⟩
  have h:=HO3.out
  have e4:(sum4 s).map byteV=[.int .u8 ((s:Int) % 256),.int .u8 ((s:Int) / 256 % 256),.int .u8 ((s:Int) / 65536 % 256),.int .u8 ((s:Int) / 16777216 % 256)]:=by
   unfold sum4
   simp only [List.map_cons,List.map_nil]
   rw [byteV_nat (by omega),byteV_nat (by omega),byteV_nat (by omega),byteV_nat (by omega)]
   simp only [Int.natCast_emod,Int.natCast_ediv]
   rfl
  unfold sealB
  rw [← HSS.out,HL.out,List.map_append,e4]
  exact h.from HT1.out
 ·have k0:(2097152:Int)<(n:Int):=by omega
  simp only [hb,if_false]
  clear hR hA hl hn hb
  go_enter Tryd.func36,Tryd.ntmps36
  go_wp2_with fail
  go_ret2
  exact ⟨none,0,0,22,rfl,ONx.nil _ _ _,rfl⟩
end Go.Proofs.YthockgmbooefpaaDoor
namespace Go.Proofs.YthockgmbooefpaaDoor
open Go.RowKit
theorem mach_few {L:List PRow} (hD:DictP L):(mach L).states.length≤98305:=by
 rcases right_mach hD with ⟨h,_⟩ | h
 ·rw [h];exact Nat.zero_le _
 ·exact h.few
theorem dpack_any (w:World) (hL:Lst w) (L:List PRow) (hD:DictP L) (A:Option Addr) (n c:Nat) (Z:List SV) (hst:StsOk w A n Z) (hz:Z.map SV.p=(mach L).states) :
  Calls Tryd.prog 31 #[.agg #[.int .i64 (mach L).base,.slice A n c]] w fun e w'=>∃ (A':Option Addr) (q c':Nat),e=.returned (.tuple #[.slice A' q c',.int .i64 0])∧ONx 5 1 w w' (.slice A' q c') q ((packB (mach L).base (mach L).states).map byteV):=by
 have hb:=base_mach hD
 obtain ⟨bn,hbn⟩:∃ bn:Nat,(mach L).base=(bn:Int):=⟨(mach L).base.toNat,by omega⟩
 have hn:n=(mach L).states.length:=by rw [← hz,List.length_map];exact hst.len.symm
 have hr:=right_mach hD
 rw [← hz] at hr ⊢
 rw [hbn] at hr ⊢
 refine pack_any w hL bn A n c Z hst hr (by omega) (by rw [hn];exact mach_few hD) (fun i hi=>?_)
 rcases hr with ⟨h,_⟩ | h
 ·have:Z=[]:=by simpa using h
  rw [this] at hst
  have:=hst.len
  simp at this
  omega
 ·have hf:=h.form i (by rw [List.length_map,hst.len];exact hi)
  have e:(Z.map SV.p).getD i noSt=(Z.getD i svZero).p:=by simp [List.getD,show i<Z.length by rw [hst.len];exact hi]
  rw [e] at hf
  exact hf
theorem conv_bytes (w:World) (A:Option Addr) (q c:Nat) (l:List UInt8) (h:w.ownsRow 0 5 1 (.slice A q c) q (l.map byteV)) (h0:0<l.length):l.length=q∧(convert 46 9 (.slice A q c)).run Tryd.prog w=.ok (.string ⟨l.toArray⟩) w:=by
 have hr:=Reads.of_own h
 have hl:l.length=q:=by
  have:=hr.1
  rw [List.length_map] at this
  omega
 obtain ⟨b,off,hA,_,hc⟩:=hr.2 (by omega)
 subst hA
 refine ⟨hl,?_⟩
 rw [← hl]
 refine run_convert_bytes_back _ _ _ _ _ _ l Tryd.underlying46 Tryd.underlying5 Tryd.underlying9 fun j hj=>?_
 have:=hc j (byteV l[j]) (by rw [List.getElem?_map,List.getElem?_eq_getElem hj];rfl)
 rw [Addr.add_lit]
 exact this
def aliveP:List PRow:=[⟨⟨#[97]⟩,3⟩]
structure SRow.In (r:SRow):Prop where
 s0:0≤r.seq
 s1:r.seq<18446744073709551616
 c0:0≤r.code
 c1:r.code≤65535
 i0:0≤r.sess
 i1:r.sess<18446744073709551616
 h0:0≤r.had
 h1:r.had≤1048576
def rowNs (r:SRow):List Nat:=[r.seq.toNat,r.code.toNat,r.sess.toNat,r.had.toNat]
def rowB (r:SRow):List UInt8:=(rowNs r).flatMap varN
def mB (L:List PRow):List UInt8:=packB (mach L).base (mach L).states
def headI (L:List PRow) (n:Nat):List UInt8:=varN (mB L).length++mB L++varN n
def bodyI (L:List PRow) (R:List SRow):List UInt8:=headI L R.length++R.flatMap rowB
def imgB (L:List PRow) (R:List SRow):List UInt8:=if (bodyI L R).length≤2097152 then sealB (bodyI L R) else []
theorem varN_len (n:Nat):(varN n).length≤10:=varF_len 9 n
theorem arcB_len (i p:Nat) (a:Nat × Int × Nat):(arcB i p a).length≤30:=by
 unfold arcB
 have h1:=varN_len (a.1-p)
 have h2:=varN_len a.2.1.toNat
 have h3:=varN_len (i-a.2.2)
 simp only [List.length_append]
 omega
theorem arcsB_len (i:Nat):∀ (l:List (Nat × Int × Nat)) (p:Nat),(arcsB i p l).length≤30*l.length
 | [],p=>by simp [arcsB]
 | a :: l,p=>by
  have h1:=arcsB_len i l a.1
  have h2:=arcB_len i p a
  simp only [arcsB,List.length_append,List.length_cons]
  omega
theorem stB_len (i:Nat) (s:StP):(stB i s).length≤20+30*s.arcs.length:=by
 unfold stB headB
 have h1:=arcsB_len i s.arcs 0
 have h2:=varN_len (2*s.arcs.length+1)
 have h3:=varN_len s.out.toNat
 have h4:=varN_len (2*s.arcs.length)
 split<;>simp only [List.length_append]<;>omega
theorem stsB_len:∀ (l:List StP) (i:Nat),(∀ s∈l,s.arcs.length≤2097152)→(stsB i l).length≤62914580*l.length
 | [],i,_=>by simp [stsB]
 | s :: l,i,h=>by
  have h1:=stsB_len l (i+1) (fun x hx=>h x (List.mem_cons_of_mem _ hx))
  have h2:=stB_len i s
  have h3:=h s List.mem_cons_self
  simp only [stsB,List.length_append,List.length_cons]
  omega
theorem mB_len {L:List PRow} (hD:DictP L):(mB L).length≤8796093022208:=by
 unfold mB packB topB
 have h1:=varN_len (mach L).base.toNat
 have h2:=varN_len (mach L).states.length
 have hn:=mach_few hD
 have h3:=stsB_len (mach L).states 0 (fun s hs=>by
  rcases right_mach hD with ⟨h,_⟩ | h
  ·rw [h] at hs;cases hs
  ·obtain ⟨i,hi,he⟩:=List.getElem_of_mem hs
   have hf:=h.form i hi
   have e:(mach L).states.getD i noSt=s:=by rw [← he];simp [List.getD,hi]
   rw [e] at hf
   exact form_few hf)
 simp only [List.length_append]
 omega
theorem rowB_len (r:SRow):(rowB r).length≤40:=by
 unfold rowB rowNs
 have h1:=varN_len r.seq.toNat
 have h2:=varN_len r.code.toNat
 have h3:=varN_len r.sess.toNat
 have h4:=varN_len r.had.toNat
 simp only [List.flatMap_cons,List.flatMap_nil,List.length_append,List.length_nil]
 omega
theorem rowsB_len:∀ (R:List SRow),(R.flatMap rowB).length≤40*R.length
 | []=>by simp
 | r :: R=>by
  have h1:=rowsB_len R
  have h2:=rowB_len r
  simp only [List.flatMap_cons,List.length_append,List.length_cons]
  omega
theorem own_u8 {w:World} {A:Option Addr} {n c:Nat} {bs:List UInt8} (h:w.ownsRow 0 5 1 (.slice A n c) n (bs.map byteV)):bs.length=n:=by
 have hr:=Reads.of_own h
 have:=hr.1
 rw [List.length_map] at this
 omega
set_option maxRecDepth 100000 in
set_option maxHeartbeats 4000000 in
theorem image_any (w:World) (hL:Lst w) {s d tb:Nat} {v:Value} {L:List PRow} {q:Nat} {R:List SRow} (h:StX w s d tb v L q R) (hIn:∀ r∈R,r.In) :
  Calls Tryd.prog 17 #[ptrV s] w fun e w'=>∃ (A':Option Addr) (q' c':Nat),e=.returned (.slice A' q' c')∧ONx 5 1 w w' (.slice A' q' c') q' ((imgB L R).map byteV):=by
 have hD:=h.dct.dict
 have HML:=hide (mB_len hD)
 have HRF:=hide h.few
 have HH:=hide h
 have HMA:=hide (machine_any w hL h.dct)
 have HPK:=hide (fun (wx:World) (T:Touch (fun _=>False) w wx) (A:Option Addr) (n c:Nat) (Z:List SV) (hst:StsOk wx A n Z) (hz:Z.map SV.p=(mach L).states)=>dpack_any wx (Lst.touch hL T) L hD A n c Z hst hz)
 have HRW:=hide (fun (wx:World) (T:Touch (fun _=>False) w wx)=>ses_rows wx tb v R (h.quiet T).tab h.few)
 have HIN:=hide hIn
 obtain ⟨m,hm⟩:∃ m,m=mB L:=⟨_,rfl⟩
 have hm2:packB (mach L).base (mach L).states=m:=hm.symm
 simp only [hm2] at HPK
 rw [← hm] at HML
 obtain ⟨ba,hba⟩:∃ b,b=(mach L).base:=⟨_,rfl⟩
 rw [← hba] at HMA HPK
 have HM:=hide hm
 obtain ⟨s0,s1,s2⟩:=h.blk.facts
 clear hL h hIn hD hm hm2 hba
 go_enter Tryd.func17,Tryd.ntmps17
 go_wp2_with fail
 refine HMA.out.mono ?_
 rintro e w1 ⟨A1,n1,c1,Z1,rfl,hst1,hz1,_,T1⟩
 have HT1:=hide T1
 have HP1:=hide (HPK.out w1 T1 A1 n1 c1 Z1 hst1 hz1)
 clear hst1 hz1 T1 HMA HPK
 go_wp2_with fail
 refine HP1.out.mono ?_
 rintro e w2 ⟨A2,q2,c2,rfl,h2⟩
 have HO2:=hide h2
 have HQ2:=hide (own_u8 h2.own)
 have HT2:=hide (HT1.out.then h2.touch)
 have HP2:=hide (putbytes_nil w2 A2 q2 c2 m (Reads.of_own h2.own) (own_nilOk h2.own) (own_u8 h2.own) (by have:=own_u8 h2.own;have:=HML.out;omega))
 clear h2 HP1
 go_wp2_with fail
 refine HP2.out.mono ?_
 rintro e w3 ⟨A3,q3,c3,rfl,h3,hq3⟩
 have HO3:=hide h3
 have HQ3:=hide hq3
 have HT3:=hide (HT2.out.then h3.touch)
 have HR3:=hide (HRW.out w3 HT3.out)
 have HB3:=hide (HH.out.blk.touch HT3.out (fun f=>f))
 clear h3 hq3 HP2 s0 s1 s2
 obtain ⟨s0,s1,s2⟩:=HB3.out.facts
 go_wp2_with fail
 refine HR3.out.mono ?_
 rintro e w4 ⟨v4,rfl,ho4,T4,hfr4⟩
 obtain ⟨A4,c4,hv4,_,_⟩:=own_len ho4
 subst hv4
 have HO4:=hide ho4
 have HT4:=hide (HT3.out.then T4)
 have HX4:Hid (ONx 5 1 w w4 (.slice A3 q3 c3) q3 ((varN m.length++m).map byteV)):=hide (by
  have h:=HO3.out.to T4
  rw [← HQ2.out] at h
  exact h.from HT2.out)
 have HX4b:=hide (putuint_any w w4 A3 q3 c3 _ HX4.out R.length (by have:=HRF.out;omega) (by have:=HQ3.out;have:=HQ2.out;have:=HML.out;omega))
 have z1:IntKind.u64.wrap (R.length:Int)=(R.length:Int):=IntWalk.u64_in _ (by have:=HRF.out;omega)
 clear ho4 T4 hfr4 HR3 s0 s1 s2
 go_wp2_with fail
 refine HX4b.out.mono ?_
 rintro e w5 ⟨A5,q5,c5,rfl,h5,hq5,T5⟩
 have HO5:Hid (w5.ownsRow 0 69 4 (.slice A4 R.length c4) R.length (rowCells R)):=hide (own_touch HO4.out T5 (fun g hg e=>(own_ty HO4.out hg).ne (own_ty HX4.out.own e) (by decide) rfl))
 have HX5:Hid (ONx 5 1 w w5 (.slice A5 q5 c5) q5 ((headI L R.length).map byteV)):=hide (by
  have h:=h5
  rw [← List.map_append] at h
  unfold headI
  rw [← HM.out]
  exact h)
 have HHL:Hid ((headI L R.length).length≤8796093022228):=hide (by
  unfold headI
  have h1:=varN_len (mB L).length
  have h2:=varN_len R.length
  have h3:=HML.out
  rw [HM.out] at h3
  simp only [List.length_append]
  omega)
 clear h5 hq5 T5 HX4b
 go_wp2_with fail
 go_loopw [5,36] (fun bv iv wr=>∃ (i:Nat) (A':Option Addr) (q' c':Nat),bv=.slice A' q' c'∧iv=.int .i64 i∧i≤R.length∧Hid (ONx 5 1 w wr (.slice A' q' c') q' ((headI L R.length++(R.take i).flatMap rowB).map byteV))∧Hid (wr.ownsRow 0 69 4 (.slice A4 R.length c4) R.length (rowCells R))) (fun _ iv _=>R.length-(intOf iv).toNat)
 case atStart=>exact ⟨0,A5,q5,c5,rfl,rfl,Nat.zero_le _,hide (by simpa using HX5.out),HO5⟩
 case round =>
  obtain ⟨i,A6,q6,c6,rfl,rfl,hi',HX,HO⟩:=hrel
  obtain ⟨wo,hwo⟩:∃ y,y=wr:=⟨_,rfl⟩
  subst hwo
  by_cases hi:i<R.length
  ·have y0:(i:Int)<(R.length:Int):=by omega
   have y1:(0:Int)≤(i:Int):=by omega
   have y2:IntKind.i64.wrap ((i:Int)+1)=(i:Int)+1:=IntWalk.i64_in _ (by have:=HRF.out;omega)
   obtain ⟨g1,hA1,hg1,d0,d1,d2,d3⟩:=rows_at HO.out i hi
   subst hA1
   have hrm:R.getD i SRow.zero∈R:=by
    have e2:R.getD i SRow.zero=R[i]:=by simp [List.getD,hi]
    rw [e2];exact List.getElem_mem _
   have hri:=HIN.out _ hrm
   have htk:(R.take (i+1)).flatMap rowB=(R.take i).flatMap rowB++rowB (R.getD i SRow.zero):=by
    rw [List.take_succ_eq_append_getElem hi,List.flatMap_append]
    have e2:R.getD i SRow.zero=R[i]:=by simp [List.getD,hi]
    rw [e2]
    simp
   obtain ⟨⟨rs,rc,rr,rh⟩,hr⟩:∃ r,r=R.getD i SRow.zero:=⟨_,rfl⟩
   rw [← hr] at d0 d1 d2 d3 hri htk
   obtain ⟨i1,i2,i3,i4,i5,i6,i7,i8⟩:=hri
   simp only at d0 d1 d2 d3 i1 i2 i3 i4 i5 i6 i7 i8
   obtain ⟨sn,hsn⟩:∃ n:Nat,rs=(n:Int):=⟨rs.toNat,by omega⟩
   obtain ⟨cn,hcn⟩:∃ n:Nat,rc=(n:Int):=⟨rc.toNat,by omega⟩
   obtain ⟨an,han⟩:∃ n:Nat,rr=(n:Int):=⟨rr.toNat,by omega⟩
   obtain ⟨hn,hhn⟩:∃ n:Nat,rh=(n:Int):=⟨rh.toNat,by omega⟩
   subst hsn hcn han hhn
   have z2:IntKind.u64.wrap (cn:Int)=(cn:Int):=IntWalk.u64_in _ (by omega)
   have z3:IntKind.u64.wrap (hn:Int)=(hn:Int):=IntWalk.u64_in _ (by omega)
   have hrb:rowB ⟨(sn:Int),(cn:Int),(an:Int),(hn:Int)⟩=[sn,cn,an,hn].flatMap varN:=by unfold rowB rowNs;simp
   obtain ⟨ns,hns⟩:∃ ns,ns=[sn,cn,an,hn]:=⟨_,rfl⟩
   rw [hrb,← hns] at htk
   have hnl:ns.length=4:=by rw [hns];rfl
   have hnb:∀ k,k<4→ns.getD k 0<18446744073709551616:=by
    intro k hk
    rw [hns]
    rcases k with _ | _ | _ | _ | k
    ·simp;omega
    ·simp;omega
    ·simp;omega
    ·simp;omega
    ·omega
   obtain ⟨wa,hwa⟩:∃ y,y=(wo.alloc (.cells #[.int .u64 (sn:Int),.int .i64 (cn:Int),.int .u64 (an:Int),.int .i64 (hn:Int)] 69)).alloc (.cells #[.int .u64 (sn:Int),.int .u64 (cn:Int),.int .u64 (an:Int),.int .u64 (hn:Int)] 27):=⟨_,rfl⟩
   obtain ⟨gu,hgu⟩:∃ y,y=wo.heap.size+1:=⟨_,rfl⟩
   have hTa:Touch (fun _=>False) wo wa:=by rw [hwa];exact ((Touch.refl _ _).alloc _).alloc _
   have HUB:Hid (Blk wa gu 27 #[.int .u64 (sn:Int),.int .u64 (cn:Int),.int .u64 (an:Int),.int .u64 (hn:Int)]):=hide (by
    have h1:=Blk.new (wo.alloc (.cells #[.int .u64 (sn:Int),.int .i64 (cn:Int),.int .u64 (an:Int),.int .i64 (hn:Int)] 69)) 27 #[.int .u64 (sn:Int),.int .u64 (cn:Int),.int .u64 (an:Int),.int .u64 (hn:Int)]
    rw [hwa,hgu]
    simpa using h1)
   have HXA:=hide (HX.out.to hTa)
   have HOA:=hide (own_touch HO.out hTa (fun _ _ f=>f))
   have HWA:=hide hwa
   have HGU:=hide hgu
   have HTK:=hide htk
   have HNS:=hide hns
   have HNL:=hide hnl
   have HNB:=hide hnb
   have HI:=hide hi
   clear hr hrm i1 i2 i3 i4 i5 i6 i7 i8 hrb hns hnl hnb hwa hgu hTa htk hi hi' hg1
   go_upto_region 9 with fail
   rw [← HWA.out,← HGU.out]
   clear d0 d1 d2 d3
   go_loopw [5,55] (fun bv iv wr=>∃ (k:Nat) (A':Option Addr) (q' c':Nat),bv=.slice A' q' c'∧iv=.int .i64 k∧k≤4∧Hid (ONx 5 1 w wr (.slice A' q' c') q' ((headI L R.length++(R.take i).flatMap rowB++(ns.take k).flatMap varN).map byteV))∧Hid (wr.ownsRow 0 69 4 (.slice (some ⟨g1,0,none⟩) R.length c4) R.length (rowCells R))∧Hid (Blk wr gu 27 #[.int .u64 (sn:Int),.int .u64 (cn:Int),.int .u64 (an:Int),.int .u64 (hn:Int)])) (fun _ iv _=>4-(intOf iv).toNat)
   case atStart=>exact ⟨0,A6,q6,c6,rfl,rfl,by omega,hide (by simpa using HXA.out),HOA,HUB⟩
   case round =>
    obtain ⟨k,A7,q7,c7,rfl,rfl,hk',HX7,HO7,HU7⟩:=hrel
    obtain ⟨wk,hwk⟩:∃ y,y=wr:=⟨_,rfl⟩
    subst hwk
    by_cases hk:k<4
    ·have k0:(k:Int)<4:=by omega
     have k1:(0:Int)≤(k:Int):=by omega
     have k2:IntKind.i64.wrap ((k:Int)+1)=(k:Int)+1:=IntWalk.i64_in _ (by omega)
     have hcell:wk.cell? ⟨gu,k,none⟩=some (.int .u64 ((ns.getD k 0:Nat):Int)):=by
      rw [HU7.out.cell k,HNS.out]
      rcases k with _ | _ | _ | _ | k
      ·rfl
      ·rfl
      ·rfl
      ·rfl
      ·omega
     have hnk:=HNB.out k hk
     have htk:(ns.take (k+1)).flatMap varN=(ns.take k).flatMap varN++varN (ns.getD k 0):=by
      have hk2:k<ns.length:=by rw [HNL.out];exact hk
      rw [List.take_succ_eq_append_getElem hk2,List.flatMap_append]
      have e2:ns.getD k 0=ns[k]:=by simp [List.getD,hk2]
      rw [e2]
      simp
     obtain ⟨x,hx⟩:∃ x,x=ns.getD k 0:=⟨_,rfl⟩
     rw [← hx] at hcell hnk htk
     have hql:q7≤8796093193229:=by
      have h1:=own_u8 HX7.out.own
      rw [← h1]
      have h2:=rowsB_len (R.take i)
      have h3:=HHL.out
      have h4:=HRF.out
      have h5:(R.take i).length≤R.length:=by rw [List.length_take];omega
      have h6:((ns.take k).flatMap varN).length≤40:=by
       have h7:∀ l:List Nat,(l.flatMap varN).length≤10*l.length:=by
        intro l
        induction l with
        | nil=>simp
        | cons a l ih=>have:=varN_len a;simp only [List.flatMap_cons,List.length_append,List.length_cons];omega
       have h8:=h7 (ns.take k)
       have h9:(ns.take k).length≤4:=by rw [List.length_take,HNL.out];omega
       omega
      simp only [List.length_append]
      omega
     have HPU:=hide (putuint_any w wk A7 q7 c7 _ HX7.out x hnk (by omega))
     have HKK:=hide hk
     have HTK2:=hide htk
     have hgu2:gu<wk.heap.size:=HU7.out.lt
     clear hx hnk htk hql hk hk'
     go_wp2_with fail
     refine HPU.out.mono ?_
     rintro e w8 ⟨A8,q8,c8,rfl,h8,hq8,T8⟩
     have HX8:Hid (ONx 5 1 w w8 (.slice A8 q8 c8) q8 ((headI L R.length++(R.take i).flatMap rowB++(ns.take (k+1)).flatMap varN).map byteV)):=hide (by
      rw [HTK2.out,← List.append_assoc,List.map_append]
      exact h8)
     have HO8:=hide (own_touch HO7.out T8 (fun g hg e=>(own_ty HO7.out hg).ne (own_ty HX7.out.own e) (by decide) rfl))
     have HU8:=hide (HU7.out.touch T8 (fun e=>(blk_ty HU7.out).ne (own_ty HX7.out.own e) (by decide) rfl))
     clear h8 hq8 T8 HPU hcell hgu2
     go_wp2_with fail
     go_roundw
     ·exact ⟨k+1,A8,q8,c8,rfl,by simp,by have:=HKK.out;omega,HX8,HO8,HU8⟩
     ·have:=HKK.out
      simp only [intOf]
      omega
    ·have k0:¬ (k:Int)<4:=by omega
     have hke:ns.take k=ns:=List.take_of_length_le (by rw [HNL.out];omega)
     rw [hke] at HX7
     clear hk hk' hke
     go_wp2_with fail
     go_roundw
     ·exact ⟨i+1,A7,q7,c7,rfl,by simp,by have:=HI.out;omega,hide (by rw [HTK.out,← List.append_assoc];exact HX7.out),HO7⟩
     ·have:=HI.out
      simp only [intOf]
      omega
  ·have y0:¬ (i:Int)<(R.length:Int):=by omega
   have hie:R.take i=R:=List.take_of_length_le (by omega)
   have hx:=HX.out
   rw [hie] at hx
   have hbl:(bodyI L R).length=q6:=own_u8 hx.own
   have hbd:q6≤8796093186068:=by
    rw [← hbl]
    unfold bodyI
    have h1:=rowsB_len R
    have h2:=HRF.out
    have h3:=HHL.out
    simp only [List.length_append]
    omega
   have hse:=seal_any wo A6 q6 c6 (bodyI L R) (Reads.of_own hx.own) (own_nilOk hx.own) hbl (by omega)
   rw [← hbl] at hse
   have HSE:=hide hse
   have HTX:=hide hx.touch
   have HBL:=hide hbl
   rw [← hbl]
   clear hie hx hbl hbd hse hi hi'
   go_wp2_with fail
   refine HSE.out.mono ?_
   rintro e w9 ⟨A9,q9,c9,k9,rfl,h9,hk9⟩
   have HO9:=hide (h9.from HTX.out)
   clear h9 hk9 HSE
   go_wp2_with fail
   go_ret
   exact ⟨A9,q9,c9,rfl,HO9.out⟩
end Go.Proofs.YthockgmbooefpaaDoor
namespace Go.Proofs.YthockgmbooefpaaDoor
open Go.RowKit
theorem find_inW {L:List PRow} (hD:DictP L) (w:List UInt8):0≤(findP w L).1∧(findP w L).1≤1048576:=by
 cases hf:(findP w L).2 with
 | true =>
  obtain ⟨p,hp,_,he⟩:=findP_mem hf
  have:=hD.weight p hp
  rw [he]
  omega
 | false =>
  rw [find_zero hf]
  simp
theorem do_in {L:List PRow} (hD:DictP L) (c:CmdP):0≤doE c L∧doE c L≤65535∧0≤doH c L∧doH c L≤1048576:=by
 have hf:=find_inW hD c.word.toList
 unfold doE doH setH remH setE remE
 split
 ·refine ⟨?_,?_,?_,?_⟩<;>(repeat' split)<;>first | omega | exact hf.1 | exact hf.2
 ·refine ⟨?_,?_,?_,?_⟩<;>(repeat' split)<;>first | omega | exact hf.1 | exact hf.2
theorem doR_in {L:List PRow} (hD:DictP L) {R:List SRow} (h:∀ r∈R,r.In) {c:CmdP} (hc:c.In):∀ r∈doR c L R,r.In:=by
 intro r hr
 unfold doR at hr
 split at hr
 ·split at hr
  ·rcases List.mem_append.1 hr with hr | hr
   ·exact h r hr
   ·have e:r=SRow.zero:=by simpa using hr
    subst e
    exact ⟨by decide,by decide,by decide,by decide,by decide,by decide,by decide,by decide⟩
  ·exact h r hr
 ·split at hr
  ·rcases List.mem_or_eq_of_mem_set hr with hr | rfl
   ·exact h r hr
   ·obtain ⟨e0,e1,h0,h1⟩:=do_in hD c
    obtain ⟨_,_,s0,s1⟩:=hc
    exact ⟨s0,s1,e0,e1,Int.le_refl _,by simp only;omega,h0,h1⟩
  ·exact h r hr
theorem runS_in {L:List PRow} (hD:DictP L) {R:List SRow} (h:∀ r∈R,r.In) (T:List CmdP) (hT:∀ c∈T,c.In):∀ r∈(runS T (L,R)).2,r.In:=by
 induction T generalizing L R with
 | nil=>exact h
 | cons c T ih=>exact ih (doL_dict hD c R) (doR_in hD h (hT c List.mem_cons_self)) (fun x hx=>hT x (List.mem_cons_of_mem _ hx))
end Go.Proofs.YthockgmbooefpaaDoor
