/- What the laws of states rest on. Conditions: those that each theorem names. -/
import Derived.Test.YthockgmbooefpaaDoorD45
import Derived.Deep.RegionHeld3
set_option linter.unusedSectionVars false
set_option linter.unusedSimpArgs false
set_option linter.unusedVariables false
namespace Go.Proofs.YthockgmbooefpaaDoor
open Go.RowKit
def cCells (l:List CmdP):List Value:=l.flatMap CmdP.cells
theorem cmd_at {w:World} {A:Option Addr} {n:Nat} {X:List CmdP} (h:Reads w 5 A n (cCells X)) (hn:n=X.length) (k:Nat) (hk:k<n) :
  ∃ g off,A=some ⟨g,off,none⟩∧g<w.heap.size∧w.cell? ⟨g,off+k*5,none⟩=some (.int .i64 (X.getD k CmdP.zero).kind)∧w.cell? ⟨g,off+k*5+1,none⟩=some (.int .u64 (X.getD k CmdP.zero).sess) ∧
   w.cell? ⟨g,off+k*5+2,none⟩=some (.int .u64 (X.getD k CmdP.zero).seq)∧w.cell? ⟨g,off+k*5+3,none⟩=some (.string (X.getD k CmdP.zero).word)∧w.cell? ⟨g,off+k*5+4,none⟩=some (.int .i64 (X.getD k CmdP.zero).n):=by
 subst hn
 obtain ⟨b,off,hA,hb,hc⟩:=h.2 (by omega)
 have key:∀ j,j<5→(cCells X)[k*5+j]? = (X.getD k CmdP.zero).cells[j]? := fun j hj=>by
  have e:X.getD k CmdP.zero=X[k]:=by simp [List.getD,hk]
  rw [e]
  exact flat_at CmdP.cells 5 (fun _=>rfl) X k j hk hj
 refine ⟨b,off,hA,hb,?_,?_,?_,?_,?_⟩
 ·exact hc (k*5) _ (key 0 (by omega))
 ·rw [Nat.add_assoc];exact hc (k*5+1) _ (key 1 (by omega))
 ·rw [Nat.add_assoc];exact hc (k*5+2) _ (key 2 (by omega))
 ·rw [Nat.add_assoc];exact hc (k*5+3) _ (key 3 (by omega))
 ·rw [Nat.add_assoc];exact hc (k*5+4) _ (key 4 (by omega))
def CmdP.In (c:CmdP):Prop:=0≤c.sess∧c.sess<18446744073709551616∧0≤c.seq∧c.seq<18446744073709551616
def stepS (S:List PRow × List SRow) (c:CmdP):List PRow × List SRow:=(doL c S.1 S.2,doR c S.1 S.2)
def runS (T:List CmdP) (S:List PRow × List SRow):List PRow × List SRow:=T.foldl stepS S
theorem runS_snoc (T:List CmdP) (c:CmdP) (S:List PRow × List SRow):runS (T++[c]) S=stepS (runS T S) c:=by simp [runS]
theorem runS_nil (S:List PRow × List SRow):runS [] S=S:=rfl
theorem ctake_succ (T:List CmdP) (i:Nat) (h:i<T.length):T.take (i+1)=T.take i++[T.getD i CmdP.zero]:=by
 rw [List.take_succ_eq_append_getElem h]
 have e:T.getD i CmdP.zero=T[i]:=by simp [List.getD,h]
 rw [e]
theorem doL_dict {L:List PRow} (hL:DictP L) (c:CmdP) (R:List SRow):DictP (doL c L R):=by
 unfold doL
 split
 ·unfold doW
  split
  ·exact set_dict hL _ _
  ·exact rem_dict hL _
 ·exact hL
theorem doR_few {R:List SRow} (h:R.length≤4096) (c:CmdP) (L:List PRow):(doR c L R).length≤4096:=by
 unfold doR
 split
 ·split
  ·simp;omega
  ·exact h
 ·split
  ·simpa using h
  ·exact h
theorem runS_dict {L:List PRow} (hL:DictP L) (R:List SRow) (T:List CmdP):DictP (runS T (L,R)).1:=by
 induction T generalizing L R with
 | nil=>exact hL
 | cons c T ih=>exact ih (doL_dict hL c R) _
def DoneB (D:List CmdP) (R:List SRow):Prop:=∀ d∈D,thereB R d.sess=true∧d.seq≤(rowAt R d.sess).seq
theorem goes_new {c:CmdP} {R:List SRow} (h:goesB c R=true):thereB R c.sess=true∧(rowAt R c.sess).seq<c.seq∧¬ c.kind=1:=by
 unfold goesB at h
 simp only [Bool.and_eq_true,decide_eq_true_eq,Bool.not_eq_true'] at h
 obtain ⟨⟨hk,he⟩,hb⟩:=h
 have:=chk_new (K:=doC c R) rfl he hb
 exact ⟨this.1,this.2.1,by omega⟩
theorem row_app {R:List SRow} {id:Int} (h:thereB R id=true) (r:SRow):thereB (R++[r]) id=true∧rowAt (R++[r]) id=rowAt R id:=by
 obtain ⟨k,rfl,hk⟩:=thereB_at R id h
 have hk2:k<(R++[r]).length:=by simp;omega
 refine ⟨thereB_succ _ k hk2,?_⟩
 rw [rowAt_succ _ k hk2,rowAt_succ _ k hk]
 exact List.getElem_append_left hk
theorem row_set {R:List SRow} {id c:Int} (h:thereB R id=true) (hc:thereB R c=true) (r:SRow):thereB (R.set (c-1).toNat r) id=true∧rowAt (R.set (c-1).toNat r) id=if id=c then r else rowAt R id:=by
 obtain ⟨k,rfl,hk⟩:=thereB_at R id h
 obtain ⟨j,rfl,hj⟩:=thereB_at R c hc
 have e:((j:Int)+1-1).toNat=j:=by omega
 rw [e]
 have hk2:k<(R.set j r).length:=by simpa using hk
 refine ⟨thereB_succ _ k hk2,?_⟩
 rw [rowAt_succ _ k hk2,rowAt_succ _ k hk]
 by_cases hjk:j=k
 ·subst hjk
  simp
 ·rw [if_neg (by omega),List.getElem_set_ne hjk]
theorem done_step {D:List CmdP} {R:List SRow} (h:DoneB D R) (c:CmdP) (L:List PRow):DoneB D (doR c L R):=by
 intro d hd
 obtain ⟨h1,h2⟩:=h d hd
 unfold doR
 split
 ·split
  ·have:=row_app h1 SRow.zero
   exact ⟨this.1,by rw [this.2];exact h2⟩
  ·exact ⟨h1,h2⟩
 ·split
  ·rename_i hg
   obtain ⟨hc,hlt,_⟩:=goes_new hg
   have:=row_set h1 hc ⟨c.seq,doE c L,0,doH c L⟩
   refine ⟨this.1,?_⟩
   rw [this.2]
   split
   ·rename_i e
    rw [e] at h2
    simp only
    omega
   ·exact h2
  ·exact ⟨h1,h2⟩
theorem done_new {D:List CmdP} {R:List SRow} (h:DoneB D R) {c:CmdP} (hg:goesB c R=true):∀ d∈D,¬ (d.sess=c.sess∧d.seq=c.seq):=by
 intro d hd ⟨e1,e2⟩
 obtain ⟨_,h2⟩:=h d hd
 obtain ⟨_,hlt,_⟩:=goes_new hg
 rw [e1] at h2
 omega
theorem done_add {D:List CmdP} {R:List SRow} (h:DoneB D R) {c:CmdP} (hg:goesB c R=true) (L:List PRow):DoneB (D++[c]) (doR c L R):=by
 intro d hd
 rcases List.mem_append.1 hd with hd | hd
 ·exact done_step h c L d hd
 ·have e:d=c:=by simpa using hd
  subst e
  obtain ⟨hc,hlt,hk⟩:=goes_new hg
  unfold doR
  rw [if_neg hk,hg]
  simp only [if_true]
  have:=row_set hc hc ⟨d.seq,doE d L,0,doH d L⟩
  exact ⟨this.1,by rw [this.2];simp⟩
theorem doL_same {c:CmdP} {L:List PRow} {R:List SRow} (h:¬ doL c L R=L):goesB c R=true:=by
 cases hg:goesB c R with
 | true=>rfl
 | false=>exact absurd (by unfold doL;rw [hg];rfl) h
theorem twice_do {c:CmdP} (h1:¬ c.kind=1) (L:List PRow) (R:List SRow):doA c (doL c L R) (doR c L R)=doA c L R∧doL c (doL c L R) (doR c L R)=doL c L R∧doR c (doL c L R) (doR c L R)=doR c L R:=by
 by_cases hg:goesB c R=true
 ·obtain ⟨hc,hlt,_⟩:=goes_new hg
  have hR:doR c L R=R.set (c.sess-1).toNat ⟨c.seq,doE c L,0,doH c L⟩:=by unfold doR;rw [if_neg h1,if_pos hg]
  have hr:=row_set hc hc ⟨c.seq,doE c L,0,doH c L⟩
  rw [← hR,if_pos rfl] at hr
  have hg':=hg
  unfold goesB at hg'
  simp only [Bool.and_eq_true,decide_eq_true_eq,Bool.not_eq_true'] at hg'
  obtain ⟨⟨hk,he⟩,hb⟩:=hg'
  have hn:=do_new (c:=c) (L:=L) (R:=R) hk rfl he hb
  have hs0:¬ c.seq=0:=by
   intro h0
   have:=chk_new (K:=doC c R) rfl he hb
   unfold doC chk at he
   rw [hc,if_neg (by simp),if_pos (.inl h0)] at he
   simp at he
  have hK:doC c (doR c L R)=⟨doE c L,0,doH c L,true,0⟩:=by
   unfold doC chk
   rw [hr.1,hr.2,if_neg (by simp),if_neg (by simp only;omega),if_pos rfl]
  obtain ⟨a1,a2,a3⟩:=do_again (c:=c) (L:=doL c L R) (R:=doR c L R) hk hK rfl rfl
  exact ⟨by rw [a1,hn.1],a2,a3⟩
 ·have eL:doL c L R=L:=by unfold doL;rw [if_neg hg]
  have eR:doR c L R=R:=by unfold doR;rw [if_neg h1,if_neg hg]
  rw [eL,eR]
  exact ⟨rfl,eL,eR⟩
end Go.Proofs.YthockgmbooefpaaDoor
namespace Go.Proofs.YthockgmbooefpaaDoor
open Go.RowKit
def cOp:CmdP:=⟨1,0,0,ByteArray.empty,0⟩
def cSe:CmdP:=⟨2,1,1,⟨#[97,98]⟩,5⟩
def aL1:List PRow:=[⟨⟨#[97,98]⟩,5⟩]
def aR1:List SRow:=[⟨0,0,0,0⟩]
def aR2:List SRow:=[⟨1,0,0,0⟩]
theorem as_a1:doA cOp [] []=⟨0,0,1,0⟩:=by kernel_rfl
theorem as_l1:doL cOp [] []=[]:=by kernel_rfl
theorem as_r1:doR cOp [] []=aR1:=by kernel_rfl
theorem as_a2:doA cSe [] aR1=⟨0,0,0,0⟩:=by kernel_rfl
theorem as_l2:doL cSe [] aR1=aL1:=by kernel_rfl
theorem as_r2:doR cSe [] aR1=aR2:=by kernel_rfl
theorem as_a3:doA cSe aL1 aR2=⟨0,0,0,0⟩:=by kernel_rfl
theorem as_l3:doL cSe aL1 aR2=aL1:=by kernel_rfl
theorem as_r3:doR cSe aL1 aR2=aR2:=by kernel_rfl
theorem stF_young {w w1 w2:World} {d tb:Nat} {v:Value} {B:Nat} (T1:Touch (fun _=>False) w w1) (T2:Touch (stF d tb v) w1 w2) (h:∀ g,stF d tb v g→w.heap.size≤g):Touch (fun _=>False) w w2 :=
 T1.trans T2 (fun g hg e=>by have:=h g e;omega)
structure StY (W w:World) (s d tb:Nat) (v:Value) (L:List PRow) (q:Nat) (R:List SRow):Prop where
 st:StX w s d tb v L q R
 y:W.heap.size≤d∧W.heap.size≤tb∧∀ g,v.ownBlock=some g→W.heap.size≤g
 t:Touch (fun _=>False) W w
 lw:Lst W
theorem StY.l {W w:World} {s d tb:Nat} {v:Value} {L:List PRow} {q:Nat} {R:List SRow} (h:StY W w s d tb v L q R):Lst w:=Lst.touch h.lw h.t
theorem StY.quiet {W w w':World} {s d tb:Nat} {v:Value} {L:List PRow} {q:Nat} {R:List SRow} (h:StY W w s d tb v L q R) (T:Touch (fun _=>False) w w'):StY W w' s d tb v L q R :=
 ⟨h.st.quiet T,h.y,h.t.then T,h.lw⟩
theorem StY.stF {W w:World} {s d tb:Nat} {v:Value} {L:List PRow} {q:Nat} {R:List SRow} (h:StY W w s d tb v L q R):∀ g,stF d tb v g→W.heap.size≤g:=by
 rintro g (rfl | rfl | hg)
 ·exact h.y.1
 ·exact h.y.2.1
 ·exact h.y.2.2 g hg
theorem StY.step {W w w':World} {s d tb:Nat} {v v':Value} {L L':List PRow} {q q':Nat} {R R':List SRow} (h:StY W w s d tb v L q R) (hs:StX w' s d tb v' L' q' R') (hf:Fresh w v v') (T:Touch (Go.Proofs.YthockgmbooefpaaDoor.stF d tb v) w w'):StY W w' s d tb v' L' q' R':=by
 have ht:Touch (fun _=>False) W w':=h.t.trans T (fun g hg e=>by have:=h.stF g e;omega)
 refine ⟨hs,⟨h.y.1,h.y.2.1,fun g hg=>?_⟩,ht,h.lw⟩
 ·rcases hf with e | ⟨g',e,hg'⟩
  ·exact h.y.2.2 g (by rw [← e];exact hg)
  ·rw [e] at hg
   injection hg with hg
   have:=h.t.size
   omega
theorem snew_y (w:World) (hL:Lst w):Calls Tryd.prog 7 #[] w fun e w'=>∃ s d tb,e=.returned (ptrV s)∧StY w w' s d tb (.slice none 0 0) [] 0 [] :=
 (snew_any w hL).mono (by
   rintro e w' ⟨s,d,tb,rfl,hs,h1,h2,h3,T⟩
   exact ⟨s,d,tb,rfl,hs,⟨h2,h3,fun g hg=>by simp [Value.ownBlock] at hg⟩,T,hL⟩)
theorem StX.keep {w w':World} {s d tb:Nat} {v:Value} {L:List PRow} {q:Nat} {R:List SRow} (h:StX w s d tb v L q R) (T:Touch (Go.Proofs.YthockgmbooefpaaDoor.stF d tb v) w w') {g:Nat} {t:TypeId} {cs:Array Value} (hb:Blk w g t cs) (ht:offT t):Blk w' g t cs :=
 hb.touch T (fun e=>by
  obtain ⟨o1,o2,o3,o4,o5⟩:=ht
  rcases e with rfl | e
  ·exact (blk_ty hb).ne h.dct.ty o2 rfl
  ·rcases fp_ty h.tab e with k | k
   ·exact (blk_ty hb).ne k o3 rfl
   ·exact (blk_ty hb).ne k o4 rfl)
theorem off_cmd:offT 29 := by unfold offT dctT;decide
theorem sdo_y {W:World} (w:World) {s d tb:Nat} {v:Value} {L:List PRow} {q:Nat} {R:List SRow} (h:StY W w s d tb v L q R) (c:CmdP) (hc:c.Wf) :
  Calls Tryd.prog 11 #[ptrV s,c.val] w fun e w'=>e=.returned (ansV (doA c L R))∧(∃ v' q',StY W w' s d tb v' (doL c L R) q' (doR c L R))∧Touch (stF d tb v) w w' :=
 (sdo_any w h.l h.st c hc).mono (by
   rintro e w' ⟨rfl,⟨v',⟨q',hs⟩,hf⟩,T⟩
   exact ⟨rfl,⟨v',q',h.step hs hf T⟩,T⟩)
theorem sdo_yf {W:World} (w:World) {s d tb:Nat} {v:Value} {L:List PRow} {q:Nat} {R:List SRow} (h:StY W w s d tb v L q R) (c:CmdP) (hc:c.Wf) :
  Calls Tryd.prog 11 #[ptrV s,c.val] w fun e w'=>e=.returned (ansV (doA c L R))∧(∃ v' q',StY W w' s d tb v' (doL c L R) q' (doR c L R)∧Fresh w v v')∧Touch (stF d tb v) w w' :=
 (sdo_any w h.l h.st c hc).mono (by
   rintro e w' ⟨rfl,⟨v',⟨q',hs⟩,hf⟩,T⟩
   exact ⟨rfl,⟨v',q',h.step hs hf T,hf⟩,T⟩)
theorem fresh_next {w w2:World} {v v' v3:Value} (h:Fresh w v v') (h2:Fresh w2 v' v3) (hs:w.heap.size≤w2.heap.size):Fresh w v v3:=by
 rcases h2 with e | ⟨g,e,hg⟩
 ·rcases h with e1 | ⟨g1,e1,hg1⟩
  ·exact .inl (e.trans e1)
  ·exact .inr ⟨g1,e.trans e1,hg1⟩
 ·exact .inr ⟨g,e,Nat.le_trans hs hg⟩
theorem stF_back {w:World} {d tb g:Nat} {v v':Value} (h:Fresh w v v') (hg:g<w.heap.size) (e:stF d tb v' g):stF d tb v g:=by
 rcases e with e | e | e
 ·exact .inl e
 ·exact .inr (.inl e)
 ·rcases h with e1 | ⟨g1,e1,hg1⟩
  ·exact .inr (.inr (by rw [← e1];exact e))
  ·rw [e] at e1
   injection e1 with e1
   omega
set_option maxRecDepth 100000 in
set_option maxHeartbeats 4000000 in
theorem alive16_any (w:World) (hL:Lst w):Calls Tryd.prog 9 #[] w fun e w'=>e=.returned (.bool true)∧Touch (fun _=>False) w w':=by
 have HN:=hide (snew_y w hL)
 clear hL
 go_enter Tryd.func9,Tryd.ntmps9
 go_wp2_with fail
 refine HN.out.mono ?_
 rintro e w1 ⟨s,d,tb,rfl,hy⟩
 have HC1:=hide (sdo_y w1 hy cOp (by unfold CmdP.Wf;decide))
 rw [as_a1,as_l1,as_r1] at HC1
 simp only [ansV,CmdP.val,cOp] at HC1
 clear hy HN
 go_wp2_with fail
 refine HC1.out.mono ?_
 rintro e w2 ⟨rfl,⟨v2,q2,hy2⟩,-⟩
 have HC2:=hide (fun (wx:World) (T:Touch (fun _=>False) w2 wx)=>sdo_y wx (hy2.quiet T) cSe (by unfold CmdP.Wf;decide))
 rw [as_a2,as_l2,as_r2] at HC2
 simp only [ansV,CmdP.val,cSe] at HC2
 obtain ⟨wa,hwa⟩:∃ y,y=(w2.alloc (.cells #[.int .i64 0,.int .u64 1,.int .i64 0] 34)).alloc (.cells #[.int .i64 2,.int .u64 1,.int .u64 1,.string ⟨#[97,98]⟩,.int .i64 5] 29):=⟨_,rfl⟩
 obtain ⟨ga,hga⟩:∃ y,y=w2.heap.size:=⟨_,rfl⟩
 obtain ⟨gc,hgc⟩:∃ y,y=w2.heap.size+1:=⟨_,rfl⟩
 have hTa:Touch (fun _=>False) w2 wa:=by rw [hwa];exact ((Touch.refl _ _).alloc _).alloc _
 have haB:Blk wa ga 34 #[.int .i64 0,.int .u64 1,.int .i64 0]:=by rw [hwa,hga];exact (Blk.new _ _ _).alloc _
 have hcB:Blk wa gc 29 #[.int .i64 2,.int .u64 1,.int .u64 1,.string ⟨#[97,98]⟩,.int .i64 5]:=by
  have h1:=Blk.new (w2.alloc (.cells #[.int .i64 0,.int .u64 1,.int .i64 0] 34)) 29 #[.int .i64 2,.int .u64 1,.int .u64 1,.string ⟨#[97,98]⟩,.int .i64 5]
  rw [hwa,hgc];simpa using h1
 have HYA:=hide (hy2.quiet hTa)
 have HC2:=hide (sdo_y wa HYA.out cSe (by unfold CmdP.Wf;decide))
 rw [as_a2,as_l2,as_r2] at HC2
 simp only [ansV,CmdP.val,cSe] at HC2
 have HWA:=hide hwa
 have HGA:=hide hga
 have HGC:=hide hgc
 have HAB:=hide haB
 have HCB:=hide hcB
 clear hy2 HC1 hwa hga hgc hTa haB hcB
 go_upto_region 6 with fail
 rw [← HWA.out,← HGC.out,← HGA.out]
 obtain ⟨c0,c1,c2⟩:=HCB.out.facts
 go_wp2_with fail
 refine HC2.out.mono ?_
 rintro e w3 ⟨rfl,⟨v3,q3,hy3⟩,T3⟩
 obtain ⟨wb,hwb⟩:∃ y,y=w3.alloc (.cells #[.int .i64 0,.int .u64 0,.int .i64 0] 34):=⟨_,rfl⟩
 obtain ⟨gb,hgb⟩:∃ y,y=w3.heap.size:=⟨_,rfl⟩
 have hTb:Touch (fun _=>False) w3 wb:=by rw [hwb];exact (Touch.refl _ _).alloc _
 have hbB:Blk wb gb 34 #[.int .i64 0,.int .u64 0,.int .i64 0]:=by rw [hwb,hgb];exact Blk.new _ _ _
 have HAB3:=hide ((HYA.out.st.keep T3 HAB.out off_ans).touch hTb (fun f=>f))
 have HCB3:=hide ((HYA.out.st.keep T3 HCB.out off_cmd).touch hTb (fun f=>f))
 have HYB:=hide (hy3.quiet hTb)
 have HC3:=hide (sdo_y wb HYB.out cSe (by unfold CmdP.Wf;decide))
 rw [as_a3,as_l3,as_r3] at HC3
 simp only [ansV,CmdP.val,cSe] at HC3
 have HWB:=hide hwb
 have HGB:=hide hgb
 have HBB:=hide hbB
 clear hy3 T3 HC2 hwb hgb hTb hbB c0 c1 c2
 go_upto_region 7 with fail
 rw [← HWB.out,← HGB.out]
 obtain ⟨c0,c1,c2⟩:=HCB3.out.facts
 go_wp2_with fail
 refine HC3.out.mono ?_
 rintro e w4 ⟨rfl,⟨v4,q4,hy4⟩,T4⟩
 obtain ⟨wd,hwd⟩:∃ y,y=w4.alloc (.cells #[.int .i64 0,.int .u64 0,.int .i64 0] 34):=⟨_,rfl⟩
 obtain ⟨gd,hgd⟩:∃ y,y=w4.heap.size:=⟨_,rfl⟩
 have hTd:Touch (fun _=>False) w4 wd:=by rw [hwd];exact (Touch.refl _ _).alloc _
 have hdB:Blk wd gd 34 #[.int .i64 0,.int .u64 0,.int .i64 0]:=by rw [hwd,hgd];exact Blk.new _ _ _
 have HAB4:=hide ((HYB.out.st.keep T4 HAB3.out off_ans).touch hTd (fun f=>f))
 have HBB4:=hide ((HYB.out.st.keep T4 HBB.out off_ans).touch hTd (fun f=>f))
 have HYD:=hide (hy4.quiet hTd)
 have HWR:=hide (words_st wd HYD.out.l HYD.out.st)
 have HWD:=hide hwd
 have HGD:=hide hgd
 have HDB:=hide hdB
 clear hy4 T4 HC3 hwd hgd hTd hdB c0 c1 c2
 go_upto_region 8 with fail
 rw [← HWD.out,← HGD.out]
 go_wp2_with fail
 refine HWR.out.mono ?_
 rintro e w5 ⟨A5,c5,rfl,hp5,T5⟩
 obtain ⟨x0,x1,x2⟩:=(HAB4.out.touch T5 (fun f=>f)).facts
 obtain ⟨x3,x4,x5⟩:=(HBB4.out.touch T5 (fun f=>f)).facts
 obtain ⟨x6,x7,x8⟩:=(HDB.out.touch T5 (fun f=>f)).facts
 obtain ⟨g5,hA5,hg5,p0,p1,_,_⟩:=pown_at hp5 rfl 0 (by decide)
 subst hA5
 simp only [aL1,List.getD_cons_zero,Nat.zero_mul,Nat.zero_add,List.length_cons,List.length_nil] at p0 p1 ⊢
 have HT5:=hide (HYD.out.t.then T5)
 clear hp5 T5 HWR
 go_wp2_with fail
 go_ret
 exact ⟨by simp,HT5.out⟩
end Go.Proofs.YthockgmbooefpaaDoor
namespace Go.Proofs.YthockgmbooefpaaDoor
open Go.RowKit
theorem few_any (w:World) (A:Option Addr) (n c:Nat):Calls Tryd.prog 8 #[.slice A n c] w fun e w'=>e=.returned (.bool (decide ((n:Int)≤400)))∧w=w':=by
 go_enter Tryd.func8,Tryd.ntmps8
 go_wp2
 go_ret
 exact ⟨rfl,rfl⟩
set_option maxRecDepth 100000 in
set_option maxHeartbeats 1000000 in
theorem psame_some (w:World) (A:Option Addr) (n c:Nat) (X:List PRow) (hX:X.length=n) (hA:Reads w 2 A n (pCells X)) (hn:n≤maxLen) (B:Option Addr) (m d:Nat) (Y:List PRow) (hY:Y.length=m) (hB:Reads w 2 B m (pCells Y)) :
  Calls Tryd.prog 12 #[.slice A n c,.slice B m d] w fun e w'=>(∃ b,e=.returned (.bool b))∧Touch (fun _=>False) w w':=by
 unfold maxLen at hn
 have HA:=hide hA
 have HB:=hide hB
 have HX:=hide hX
 have HY:=hide hY
 clear hA hB hX hY
 by_cases hnm:n=m
 ·subst hnm
  go_enter Tryd.func12,Tryd.ntmps12
  go_wp2
  go_loopw [5] (fun i wr=>∃ k:Nat,k≤n∧i=.int .i64 k∧Hid (Touch (fun _=>False) w wr)) (fun i _=>n-(intOf i).toNat)
  case atStart=>exact ⟨0,Nat.zero_le _,rfl,hide (Touch.refl _ _)⟩
  case round =>
   obtain ⟨k,hk,rfl,HT⟩:=hrel
   by_cases hkn:k<n
   ·obtain ⟨g,o,hg,_,a0,a1⟩:=preads_at (HA.out.touch HT.out (fun _ _ f=>f)) HX.out.symm k hkn
    obtain ⟨g',o',hg',_,b0,b1⟩:=preads_at (HB.out.touch HT.out (fun _ _ f=>f)) HY.out.symm k hkn
    subst hg hg'
    obtain ⟨⟨xw,xn⟩,hx⟩:∃ x,x=X.getD k PRow.zero:=⟨_,rfl⟩
    obtain ⟨⟨yw,yn⟩,hy⟩:∃ x,x=Y.getD k PRow.zero:=⟨_,rfl⟩
    rw [← hx] at a0 a1
    rw [← hy] at b0 b1
    simp only at a0 a1 b0 b1
    have k0:(k:Int)<(n:Int):=by omega
    clear hx hy
    by_cases hw:xw=yw
    ·subst hw
     by_cases hnn:xn=yn
     ·subst hnn
      go_wp2
      go_quiet (fail)
      go_wp2
      go_roundw
      ·exact ⟨k+1,by omega,by simp,hide (HT.out.drewN _)⟩
      ·show n-(intOf (.int .i64 ((k:Int)+1))).toNat<n-(intOf (.int .i64 (k:Int))).toNat
       simp [intOf]
       omega
     ·go_wp2
      go_quiet (fail)
      go_wp2
      go_ret
      exact ⟨⟨false,rfl⟩,HT.out.drewN _⟩
    ·have hwl:¬ xw.toList=yw.toList:=fun e=>hw (toList_inj e)
     go_wp2
     go_quiet (fail)
     go_wp2
     go_ret
     exact ⟨⟨false,rfl⟩,HT.out.drewN _⟩
   ·go_wp2
    go_ret
    exact ⟨⟨true,rfl⟩,HT.out⟩
 ·have hnm':¬ (n:Int)=(m:Int):=by omega
  clear hnm
  go_enter Tryd.func12,Tryd.ntmps12
  go_wp2
  go_ret
  exact ⟨⟨false,rfl⟩,Touch.refl _ _⟩
theorem psame_any (w:World) (A:Option Addr) (n c:Nat) (X:List PRow) (hX:X.length=n) (hA:Reads w 2 A n (pCells X)) (hn:n≤maxLen) (B:Option Addr) (m d:Nat) (Y:List PRow) (hY:Y.length=m) (hB:Reads w 2 B m (pCells Y)) :
  Calls Tryd.prog 12 #[.slice A n c,.slice B m d] w fun e w'=>(∃ b,e=.returned (.bool b)∧(b=false→¬ Y=X))∧Touch (fun _=>False) w w':=by
 by_cases he:Y=X
 ·subst he
  have hnm:n=m:=by omega
  subst hnm
  exact (psame_yes w A n c Y hX hA hn B d hB).mono (by rintro e w' ⟨rfl,T⟩;exact ⟨⟨true,rfl,fun h=>by cases h⟩,T⟩)
 ·exact (psame_some w A n c X hX hA hn B m d Y hY hB).mono (by rintro e w' ⟨⟨b,rfl⟩,T⟩;exact ⟨⟨b,rfl,fun _=>he⟩,T⟩)
end Go.Proofs.YthockgmbooefpaaDoor
namespace Go.Proofs.YthockgmbooefpaaDoor
open Go.RowKit
set_option maxRecDepth 100000 in
set_option maxHeartbeats 1000000 in
theorem rdo_again (w:World) (B0:Nat) {tA:Option Addr} {tn tc:Nat} {tL L:List PRow} (hs:RfL B0 w ⟨tA,tn,tc,tL⟩ L) (hD:DictP L) {A:Option Addr} {n c:Nat} {R:List SRow} (hr:RwL w A n c R) (sid sq nn:Int) (kw:ByteArray) (hk:kw.size≤1099511627776) (kd:Int) (hkd:kd=2∨kd=3) (k:Nat) (hsk:sid=(k:Int)+1) (hkn:k<n) (rc rr rh:Int) (hrow:R.getD k SRow.zero=⟨sq,rc,rr,rh⟩) (h1:¬ sq=0) :
  Calls Tryd.prog 30 #[.agg #[.slice tA tn tc,.slice A n c],.agg #[.int .i64 kd,.int .u64 sid,.int .u64 sq,.string kw,.int .i64 nn]] w fun e w'=>e=.returned (.tuple #[.agg #[.slice tA tn tc,.slice A n c],ansV ⟨0,rc,rr,rh⟩])∧Touch (fun _=>False) w w':=by
 have HSK:=hide hsk
 have HROW:=hide hrow
 clear hsk hrow
 obtain ⟨wa,hwa⟩:∃ z,z=(((w.alloc (.cells #[.slice tA tn tc,.slice A n c] 39)).alloc (.cells #[.int .i64 kd,.int .u64 sid,.int .u64 sq,.string kw,.int .i64 nn] 29)).alloc (.cells #[.slice none 0 0,.slice none 0 0] 39)).alloc (.cells #[.int .i64 0,.int .u64 0,.int .i64 0] 34):=⟨_,rfl⟩
 obtain ⟨ba,hba⟩:∃ z,z=w.heap.size:=⟨_,rfl⟩
 obtain ⟨bb,hbb⟩:∃ z,z=w.heap.size+1:=⟨_,rfl⟩
 obtain ⟨bs,hbs⟩:∃ z,z=w.heap.size+1+1:=⟨_,rfl⟩
 obtain ⟨ra,hra⟩:∃ z,z=w.heap.size+1+1+1:=⟨_,rfl⟩
 have hTa:Touch (fun _=>False) w wa:=by rw [hwa];exact ((((Touch.refl _ _).alloc _).alloc _).alloc _).alloc _
 have haB:Blk wa ba 39 #[.slice tA tn tc,.slice A n c]:=by rw [hwa,hba];exact (((Blk.new _ _ _).alloc _).alloc _).alloc _
 have hbB:Blk wa bb 29 #[.int .i64 kd,.int .u64 sid,.int .u64 sq,.string kw,.int .i64 nn]:=by
  have h1:=(((Blk.new (w.alloc (.cells #[.slice tA tn tc,.slice A n c] 39)) 29 #[.int .i64 kd,.int .u64 sid,.int .u64 sq,.string kw,.int .i64 nn]).alloc (.cells #[.slice none 0 0,.slice none 0 0] 39)).alloc (.cells #[.int .i64 0,.int .u64 0,.int .i64 0] 34))
  rw [hwa,hbb];simpa using h1
 have hsB:Blk wa bs 39 #[.slice none 0 0,.slice none 0 0]:=by
  have h1:=(Blk.new ((w.alloc (.cells #[.slice tA tn tc,.slice A n c] 39)).alloc (.cells #[.int .i64 kd,.int .u64 sid,.int .u64 sq,.string kw,.int .i64 nn] 29)) 39 #[.slice none 0 0,.slice none 0 0]).alloc (.cells #[.int .i64 0,.int .u64 0,.int .i64 0] 34)
  rw [hwa,hbs];simpa using h1
 have hrB:Blk wa ra 34 #[.int .i64 0,.int .u64 0,.int .i64 0]:=by
  have h1:=Blk.new (((w.alloc (.cells #[.slice tA tn tc,.slice A n c] 39)).alloc (.cells #[.int .i64 kd,.int .u64 sid,.int .u64 sq,.string kw,.int .i64 nn] 29)).alloc (.cells #[.slice none 0 0,.slice none 0 0] 39)) 34 #[.int .i64 0,.int .u64 0,.int .i64 0]
  rw [hwa,hra];simpa using h1
 have HLO:Hid (w.heap.size≤ba∧w.heap.size≤bb∧w.heap.size≤bs∧w.heap.size≤ra∧ba≠bs∧bb≠bs∧bs≠ra):=hide (by omega)
 have HTA:=hide hTa
 have HAB:=hide haB
 have HBB:=hide hbB
 have HSB:=hide hsB
 have HRB:=hide hrB
 have HWA:=hide hwa
 have H0:=hide hba
 have H1:=hide hbb
 have H2:=hide hbs
 have H3:=hide hra
 have HS:=hide (hs.quiet hTa)
 have HR:=hide (hr.quiet hTa)
 have HD:=hide hD
 have HN0:=hide hr.len
 have hn:=hr.few
 have hx1:¬ bs=ra:=by omega
 have hx2:¬ ra=bs:=by omega
 obtain ⟨a0,a1,a2⟩:=haB.facts
 obtain ⟨b0,b1,b2⟩:=hbB.facts
 obtain ⟨s0,s1,s2⟩:=hsB.facts
 obtain ⟨r0,r1,r2⟩:=hrB.facts
 clear hwa hba hbb hbs hra hTa haB hbB hsB hrB hs hr hD
 go_enter Tryd.func30,Tryd.ntmps30
 go_upto_region 1 with fail
 rw [← HWA.out,← H3.out,← H2.out,← H1.out,← H0.out]
 rcases hkd with rfl | rfl
 all_goals
  have hsk:=HSK.out
  subst hsk
  clear HSK
  obtain ⟨gR,rfl,hgR,hnc,c0,c1,c2,c3⟩:=rw_at HR.out k hkn
  rw [HROW.out] at c0 c1 c2 c3
  simp only at c0 c1 c2 c3
  go_upto_region 14 with fail
  go_region
  go_wp2_with fail
  try simp only [Exit.inBlock,Exit.then]
  refine bodyPost_ret (v:=.tuple #[.agg #[.slice tA tn tc,.slice (some ⟨gR,0,none⟩) n c],ansV ⟨0,rc,rr,rh⟩]) (results_cells rfl _ _ bs ra 39 34 _ _ _ _ rfl ?hsb Tryd.underlying39 rfl (by kernel_rfl) rfl ?hrb Tryd.underlying34 rfl (by kernel_rfl)) rfl ?_
  case hsb=>exact ((far3 (two_cells _ _ _ _ HSB.out) HLO.out.2.2.2.2.2.2).alloc _).drew
  case hrb=>exact ((ans_cells _ _ _ _ _ _ (far2 HRB.out HLO.out.2.2.2.2.2.2.symm)).alloc _).drew
  exact ⟨rfl,((((((HTA.out.setCell (p:=⟨bs,_,none⟩) (fun hx=>absurd hx (by have h9:=HLO.out;simp at hx;omega)) _).setCell (p:=⟨bs,_,none⟩) (fun hx=>absurd hx (by have h9:=HLO.out;simp at hx;omega)) _).setCell (p:=⟨ra,_,none⟩) (fun hx=>absurd hx (by have h9:=HLO.out;simp at hx;omega)) _).setCell (p:=⟨ra,_,none⟩) (fun hx=>absurd hx (by have h9:=HLO.out;simp at hx;omega)) _).setCell (p:=⟨ra,_,none⟩) (fun hx=>absurd hx (by have h9:=HLO.out;simp at hx;omega)) _).alloc _).drew⟩
end Go.Proofs.YthockgmbooefpaaDoor
namespace Go.Proofs.YthockgmbooefpaaDoor
open Go.RowKit
theorem wp_app_runU {P:Program} {o:Oper} {a:Act} {w:World} {K:Act→World→Prop} {Q:Exit→Act→World→Prop} (s x:Operand) (t:TypeId) (hop:o.op=Op.call { callee:=Callee.builtin Builtin.append,args:=#[s,x],argTypes:=#[t,t] })
  (v1 v2 v:Value) (w':World) (hs:a.eval s=v1) (hx:a.eval x=v2) (hrun:(Builtin.append_ #[t,t] o.type #[v1,v2]).run P w=.ok v w') (h:K (a.put o.dst v) w'):o.wp P a w K Q:=by
 unfold Oper.wp
 simp [execOp,hop,resolve,invoke,builtin,hs,hx,hrun,Result.andThen]
 exact h
set_option maxRecDepth 100000 in
set_option maxHeartbeats 12000000 in
theorem rdo_open (w:World) (B0:Nat) {tA:Option Addr} {tn tc:Nat} {tL L:List PRow} (hs:RfL B0 w ⟨tA,tn,tc,tL⟩ L) (hD:DictP L) {A:Option Addr} {n c:Nat} {R:List SRow} (hr:RwL w A n c R) (sid sq nn:Int) (kw:ByteArray) (hk:kw.size≤1099511627776) (hf:n<4096) :
  Calls Tryd.prog 30 #[.agg #[.slice tA tn tc,.slice A n c],.agg #[.int .i64 1,.int .u64 sid,.int .u64 sq,.string kw,.int .i64 nn]] w fun e w'=>∃ A' n' c',e=.returned (.tuple #[.agg #[.slice tA tn tc,.slice A' n' c'],ansV ⟨0,0,(n:Int)+1,0⟩])∧RwL w' A' n' c' (R++[SRow.zero])∧Touch (fun _=>False) w w':=by
 obtain ⟨wa,hwa⟩:∃ z,z=(((w.alloc (.cells #[.slice tA tn tc,.slice A n c] 39)).alloc (.cells #[.int .i64 1,.int .u64 sid,.int .u64 sq,.string kw,.int .i64 nn] 29)).alloc (.cells #[.slice none 0 0,.slice none 0 0] 39)).alloc (.cells #[.int .i64 0,.int .u64 0,.int .i64 0] 34):=⟨_,rfl⟩
 obtain ⟨ba,hba⟩:∃ z,z=w.heap.size:=⟨_,rfl⟩
 obtain ⟨bb,hbb⟩:∃ z,z=w.heap.size+1:=⟨_,rfl⟩
 obtain ⟨bs,hbs⟩:∃ z,z=w.heap.size+1+1:=⟨_,rfl⟩
 obtain ⟨ra,hra⟩:∃ z,z=w.heap.size+1+1+1:=⟨_,rfl⟩
 have hTa:Touch (fun _=>False) w wa:=by rw [hwa];exact ((((Touch.refl _ _).alloc _).alloc _).alloc _).alloc _
 have haB:Blk wa ba 39 #[.slice tA tn tc,.slice A n c]:=by rw [hwa,hba];exact (((Blk.new _ _ _).alloc _).alloc _).alloc _
 have hbB:Blk wa bb 29 #[.int .i64 1,.int .u64 sid,.int .u64 sq,.string kw,.int .i64 nn]:=by
  have h1:=(((Blk.new (w.alloc (.cells #[.slice tA tn tc,.slice A n c] 39)) 29 #[.int .i64 1,.int .u64 sid,.int .u64 sq,.string kw,.int .i64 nn]).alloc (.cells #[.slice none 0 0,.slice none 0 0] 39)).alloc (.cells #[.int .i64 0,.int .u64 0,.int .i64 0] 34))
  rw [hwa,hbb];simpa using h1
 have hsB:Blk wa bs 39 #[.slice none 0 0,.slice none 0 0]:=by
  have h1:=(Blk.new ((w.alloc (.cells #[.slice tA tn tc,.slice A n c] 39)).alloc (.cells #[.int .i64 1,.int .u64 sid,.int .u64 sq,.string kw,.int .i64 nn] 29)) 39 #[.slice none 0 0,.slice none 0 0]).alloc (.cells #[.int .i64 0,.int .u64 0,.int .i64 0] 34)
  rw [hwa,hbs];simpa using h1
 have hrB:Blk wa ra 34 #[.int .i64 0,.int .u64 0,.int .i64 0]:=by
  have h1:=Blk.new (((w.alloc (.cells #[.slice tA tn tc,.slice A n c] 39)).alloc (.cells #[.int .i64 1,.int .u64 sid,.int .u64 sq,.string kw,.int .i64 nn] 29)).alloc (.cells #[.slice none 0 0,.slice none 0 0] 39)) 34 #[.int .i64 0,.int .u64 0,.int .i64 0]
  rw [hwa,hra];simpa using h1
 have HLO:Hid (w.heap.size≤ba∧w.heap.size≤bb∧w.heap.size≤bs∧w.heap.size≤ra∧ba≠bs∧bb≠bs∧bs≠ra):=hide (by omega)
 have HTA:=hide hTa
 have HAB:=hide haB
 have HBB:=hide hbB
 have HSB:=hide hsB
 have HRB:=hide hrB
 have HWA:=hide hwa
 have H0:=hide hba
 have H1:=hide hbb
 have H2:=hide hbs
 have H3:=hide hra
 have HS:=hide (hs.quiet hTa)
 have HR:=hide (hr.quiet hTa)
 have HD:=hide hD
 have HN0:=hide hr.len
 have hn:=hr.few
 have hx1:¬ bs=ra:=by omega
 have hx2:¬ ra=bs:=by omega
 obtain ⟨a0,a1,a2⟩:=haB.facts
 obtain ⟨b0,b1,b2⟩:=hbB.facts
 obtain ⟨s0,s1,s2⟩:=hsB.facts
 obtain ⟨r0,r1,r2⟩:=hrB.facts
 clear hwa hba hbb hbs hra hTa haB hbB hsB hrB hs hr hD
 go_enter Tryd.func30,Tryd.ntmps30
 go_upto_region 1 with fail
 rw [← HWA.out,← H3.out,← H2.out,← H1.out,← H0.out]
 have hnf:(n:Int)<4096:=by omega
 have HNIL:=hide (own_nilOk HR.out.own)
 have HRD:=hide (Reads.of_own HR.out.own)
 obtain ⟨i0,hi,hz0,hz1,hz2⟩:=info_parts Tryd.infoRRow
 go_upto_region 4 with fail
 go_wp2_with (at_builtin;refine wpList_app _ rfl (.tmp 22) (.tmp 24) 37 rfl 70 i0 (.agg #[.int .u64 0,.int .i64 0,.int .u64 0,.int .i64 0]) 4 32 Tryd.underlying37 hi hz0 hz1 hz2 rfl (by decide) _ 0 [] rfl (World.ownsRow_made _ #[] 0 (Nat.zero_le _) (by decide) rfl) A n c (rowCells R) rfl (HRD.out.alloc _) ?c2 (srow_one R) ?c4 ?c5 ?_)
 case c2=>exact HNIL.out
 case c4=>unfold maxLen;omega
 case c5=>omega
 intro v1 w1 hown hgrow hfr _
 have T1:Touch (fun _=>False) wa w1:=((Touch.refl _ _).alloc _).grown hgrow (fun k hk hlt=>by simp [Value.ownBlock] at hk;omega)
 have ho1:w1.ownsRow 0 70 4 v1 n (rowCells R):=by simpa using hown
 have hfr1:∀ g,v1.ownBlock=some g→wa.heap.size≤g:=fun g hg=>by
  rcases hfr with h | ⟨g',h,hg'⟩
  ·rw [h] at hg;simp [Value.ownBlock] at hg;omega
  ·rw [h] at hg;simp at hg hg';omega
 obtain ⟨A1,c1,hv,_⟩:=own_len ho1
 subst hv
 have HO1:=hide ho1
 have HT1:=hide T1
 have HF1:=hide hfr1
 have HA1:=hide (HAB.out.touch T1 (fun f=>f))
 have HB1:=hide (HBB.out.touch T1 (fun f=>f))
 have HS1:=hide (HSB.out.touch T1 (fun f=>f))
 have HR1:=hide (HRB.out.touch T1 (fun f=>f))
 have HBD:Hid (n+1≤maxLen∧(n+1)*32≤140737488355328):=hide (by unfold maxLen;omega)
 clear hown hgrow hfr T1 ho1 hfr1 a0 a1 a2 b0 b1 b2 s0 s1 s2 r0 r1 r2
 obtain ⟨a0,a1,a2⟩:=HA1.out.facts
 obtain ⟨s0,s1,s2⟩:=HS1.out.facts
 obtain ⟨r0,r1,r2⟩:=HR1.out.facts
 have hx3:¬ ba=bs:=HLO.out.2.2.2.2.1
 have hx4:¬ bs=ba:=fun e=>hx3 e.symm
 have hx5:¬ ba=ra:=by have h0:=H0.out;have h3:=H3.out;omega
 have hx6:¬ ra=ba:=fun e=>hx5 e.symm
 go_upto_region 5 with fail
 have HKS:Hid (∀ wx,Touch (fun k=>(Value.slice A1 n c1).ownBlock=some k∨k=bs∨k=ra) w1 wx→wx.cell? ⟨ba,0,none⟩=some (.slice tA tn tc)∧wx.cell? ⟨ba,1,none⟩=some (.slice A n c)∧Touch (fun k=>(Value.slice A1 n c1).ownBlock=some k∨k=bs∨k=ra) w1 wx):=hide (fun wx T=>by
  have hb:=HA1.out.touch T (fun e=>by
   rcases e with e | e | e
   ·exact own_blk_ne HO1.out HA1.out (by decide) e
   ·exact hx3 e
   ·exact hx5 e)
  exact ⟨(hb.cell 0).trans rfl,(hb.cell 1).trans rfl,T⟩)
 have HOR:Hid (¬ (Value.slice A1 n c1).ownBlock=some ra):=hide (own_blk_ne HO1.out HR1.out (by decide))
 have HW1:Hid (wa.heap.size≤w1.heap.size):=hide HT1.out.size
 have u1:IntKind.i64.wrap ((n:Int)+1)=(n:Int)+1:=IntWalk.i64_in _ (by omega)
 have u2:IntKind.u64.wrap ((n:Int)+1)=(n:Int)+1:=IntWalk.u64_in _ (by omega)
 refine wp_region_held_drew (S:=fun wx=>wx.cell? ⟨ba,0,none⟩=some (.slice tA tn tc)∧wx.cell? ⟨ba,1,none⟩=some (.slice A n c)∧Touch (fun k=>(Value.slice A1 n c1).ownBlock=some k∨k=bs∨k=ra) w1 wx) (by kernel_rfl) (HKS.out _ (Touch.refl _ _).drew) (fun hHeld=>?_)
 refine wpAnyH_take (i:=0) (v:=?v0) rfl (by kernel_rfl) (by kernel_rfl) (by kernel_rfl) (fun _ _ _ h=>h) (Or.inl ⟨by kernel_rfl,?h0⟩) hHeld ?_
 case h0=>rintro wq ⟨s0,s1,s2⟩;go_simp;with_reducible rfl
 simp only [List.getElem_toArray,List.getElem_cons_succ,List.getElem_cons_zero,Act.put,List.setIfInBounds_toArray,List.set_cons_zero,List.set_cons_succ]
 refine wpAnyH_take (i:=1) (v:=?v1) rfl (by kernel_rfl) (by kernel_rfl) (by kernel_rfl) (fun _ _ _ h=>h) (Or.inl ⟨by kernel_rfl,?h1⟩) hHeld ?_
 case h1=>rintro wq ⟨s0,s1,s2⟩;go_simp;with_reducible rfl
 simp only [List.getElem_toArray,List.getElem_cons_succ,List.getElem_cons_zero,Act.put,List.setIfInBounds_toArray,List.set_cons_zero,List.set_cons_succ]
 refine wpAnyH_take (i:=2) (v:=?v2) rfl (by kernel_rfl) (by kernel_rfl) (by kernel_rfl) (fun _ _ _ h=>h) (Or.inl ⟨by kernel_rfl,?h2⟩) hHeld ?_
 case h2=>rintro wq ⟨s0,s1,s2⟩;go_simp;with_reducible rfl
 simp only [List.getElem_toArray,List.getElem_cons_succ,List.getElem_cons_zero,Act.put,List.setIfInBounds_toArray,List.set_cons_zero,List.set_cons_succ]
 refine wpAnyH_take (i:=3) (v:=?v3) rfl (by kernel_rfl) (by kernel_rfl) (by kernel_rfl) (fun _ _ _ h=>h) (Or.inl ⟨by kernel_rfl,?h3⟩) hHeld ?_
 case h3=>rintro wq ⟨s0,s1,s2⟩;go_simp;with_reducible rfl
 simp only [List.getElem_toArray,List.getElem_cons_succ,List.getElem_cons_zero,Act.put,List.setIfInBounds_toArray,List.set_cons_zero,List.set_cons_succ]
 refine wpAnyH_take (i:=7) (v:=?v7) rfl (by kernel_rfl) (by kernel_rfl) (by kernel_rfl) (fun _ _ _ h=>h) (Or.inl ⟨by kernel_rfl,?h7⟩) hHeld ?_
 case h7=>rintro wq ⟨s0,s1,s2⟩;go_simp;with_reducible rfl
 simp only [List.getElem_toArray,List.getElem_cons_succ,List.getElem_cons_zero,Act.put,List.setIfInBounds_toArray,List.set_cons_zero,List.set_cons_succ]
 refine wpAnyH_take (i:=8) (v:=?v8) rfl (by kernel_rfl) (by kernel_rfl) (by kernel_rfl) (fun _ _ _ h=>h) (Or.inl ⟨by kernel_rfl,?h8⟩) hHeld ?_
 case h8=>rintro wq ⟨s0,s1,s2⟩;go_simp;with_reducible rfl
 simp only [List.getElem_toArray,List.getElem_cons_succ,List.getElem_cons_zero,Act.put,List.setIfInBounds_toArray,List.set_cons_zero,List.set_cons_succ]
 refine wpAnyH_take (i:=9) (v:=?v9) rfl (by kernel_rfl) (by kernel_rfl) (by kernel_rfl) (fun _ _ _ h=>h) (Or.inl ⟨by kernel_rfl,?h9⟩) hHeld ?_
 case h9=>rintro wq ⟨s0,s1,s2⟩;go_simp;with_reducible rfl
 simp only [List.getElem_toArray,List.getElem_cons_succ,List.getElem_cons_zero,Act.put,List.setIfInBounds_toArray,List.set_cons_zero,List.set_cons_succ]
 refine wpAnyH_take (i:=10) (v:=?v10) rfl (by kernel_rfl) (by kernel_rfl) (by kernel_rfl) (fun _ _ _ h=>h) (Or.inl ⟨by kernel_rfl,?h10⟩) hHeld ?_
 case h10=>rintro wq ⟨s0,s1,s2⟩;go_simp;with_reducible rfl
 simp only [List.getElem_toArray,List.getElem_cons_succ,List.getElem_cons_zero,Act.put,List.setIfInBounds_toArray,List.set_cons_zero,List.set_cons_succ]
 refine wpAnyH_take (i:=11) (v:=?v11) rfl (by kernel_rfl) (by kernel_rfl) (by kernel_rfl) (fun _ _ _ h=>h) (Or.inl ⟨by kernel_rfl,?h11⟩) hHeld ?_
 case h11=>rintro wq ⟨s0,s1,s2⟩;go_simp;with_reducible rfl
 simp only [List.getElem_toArray,List.getElem_cons_succ,List.getElem_cons_zero,Act.put,List.setIfInBounds_toArray,List.set_cons_zero,List.set_cons_succ]
 refine wpAnyH_take (i:=12) (v:=?v12) rfl (by kernel_rfl) (by kernel_rfl) (by kernel_rfl) (fun _ _ _ h=>h) (Or.inl ⟨by kernel_rfl,?h12⟩) hHeld ?_
 case h12=>rintro wq ⟨s0,s1,s2⟩;go_simp;with_reducible rfl
 simp only [List.getElem_toArray,List.getElem_cons_succ,List.getElem_cons_zero,Act.put,List.setIfInBounds_toArray,List.set_cons_zero,List.set_cons_succ]
 refine wpAnyH_ready (rs:=[4]) (by kernel_rfl) (by simp) ?_
 refine AllReadyH.cons rfl (fun K hK=>?_) AllReadyH.nil
 go_simp
 go_simp
 refine hK.out _ _ (HKS.out _ ((Touch.refl _ _).drew.alloc _)) (fun hHeld=>?_)
 clear hK K
 try simp only [List.getElem_toArray,List.getElem_cons_succ,List.getElem_cons_zero,Act.put,List.setIfInBounds_toArray,List.set_cons_zero,List.set_cons_succ]
 have hTq:Touch (fun _=>False) w1 (w1.drew.alloc (.cells #[.int .u64 0,.int .i64 0,.int .u64 0,.int .i64 0] 70)):=(Touch.refl _ _).drew.alloc _
 obtain ⟨v2,w2,hr2,hO2,hG2,hF2,_⟩:=run_app (P:=Tryd.prog) (w1.drew.alloc (.cells #[.int .u64 0,.int .i64 0,.int .u64 0,.int .i64 0] 70)) 37 37 70 i0 _ 4 32 Tryd.underlying37 hi hz0 hz1 hz2 rfl (by decide) (.slice A1 n c1) n (rowCells R) (own_touch HO1.out hTq (fun _ _ f=>f)) (some ⟨w1.heap.size,0,none⟩) 1 1 [.int .u64 0,.int .i64 0,.int .u64 0,.int .i64 0] (Reads.new w1.drew 70 [.int .u64 0,.int .i64 0,.int .u64 0,.int .i64 0] 1 rfl) (fun h=>by cases h) (List.all_eq_true.1 rfl) HBD.out.1 HBD.out.2
 obtain ⟨A2,c2,hv2,_,_⟩:=own_len hO2
 subst hv2
 have hT2:Touch (fun k=>(Value.slice A1 n c1).ownBlock=some k) w1 w2:=(hTq.up _).grown hG2 (fun k hk _=>hk)
 have HR2:=hide hr2
 have HO2:=hide hO2
 have HT2:Hid (Touch (fun k=>(Value.slice A1 n c1).ownBlock=some k∨k=bs∨k=ra) w1 w2):=hide (hT2.mono (fun _ _ e=>.inl e))
 have HTF:Hid (Touch (fun _=>False) wa w2):=hide (HT1.out.trans hT2 (fun i hi e=>absurd hi (by have:=HF1.out i e;omega)))
 have HS2:=hide (HS1.out.touch hT2 (own_blk_ne HO1.out HS1.out (by decide)))
 have HRR2:=hide (HR1.out.touch hT2 HOR.out)
 clear hr2 hO2 hG2 hF2 hT2 hTq s0 s1 s2 r0 r1 r2
 obtain ⟨s0,s1,s2⟩:=HS2.out.facts
 obtain ⟨r0,r1,r2⟩:=HRR2.out.facts
 refine wpAnyH_ready (rs:=[5]) (by kernel_rfl) (by simp) ?_
 refine AllReadyH.cons rfl (fun K hK=>?_) AllReadyH.nil
 refine wp_app_runU (.tmp 28) (.tmp 30) 37 rfl (.slice A1 n c1) (.slice (some ⟨w1.heap.size,0,none⟩) 1 1) _ w2 (by first | (simp [Act.eval];done) | (go_simp;done) | (trace_state;fail)) (by first | (simp [Act.eval];done) | (go_simp;done) | (trace_state;fail)) HR2.out ?_
 refine hK.out _ _ (HKS.out _ HT2.out) (fun hHeld=>?_)
 clear hK K
 try simp only [List.getElem_toArray,List.getElem_cons_succ,List.getElem_cons_zero,Act.put,List.setIfInBounds_toArray,List.set_cons_zero,List.set_cons_succ]
 refine wpAnyH_take (i:=6) (v:=?v6) rfl (by kernel_rfl) (by kernel_rfl) (by kernel_rfl) (fun _ _ _ h=>h) (Or.inl ⟨by kernel_rfl,?h6⟩) hHeld ?_
 case h6=>rintro wq ⟨s0,s1,s2⟩;go_simp;with_reducible rfl
 simp only [List.getElem_toArray,List.getElem_cons_succ,List.getElem_cons_zero,Act.put,List.setIfInBounds_toArray,List.set_cons_zero,List.set_cons_succ]
 refine wpAnyH_ready (rs:=[13]) (by kernel_rfl) (by simp) ?_
 refine AllReadyH.cons rfl (fun K hK=>?_) AllReadyH.nil
 go_simp
 go_simp
 refine hK.out _ _ (HKS.out _ ((HT2.out.setCell (p:=⟨bs,_,none⟩) (fun _=>.inr (.inl rfl)) _).setCell (p:=⟨bs,_,none⟩) (fun _=>.inr (.inl rfl)) _)) (fun hHeld=>?_)
 clear hK K
 try simp only [List.getElem_toArray,List.getElem_cons_succ,List.getElem_cons_zero,Act.put,List.setIfInBounds_toArray,List.set_cons_zero,List.set_cons_succ]
 refine wpAnyH_ready (rs:=[14]) (by kernel_rfl) (by simp) ?_
 refine AllReadyH.cons rfl (fun K hK=>?_) AllReadyH.nil
 go_simp
 go_simp
 refine hK.out _ _ (HKS.out _ (((((HT2.out.setCell (p:=⟨bs,_,none⟩) (fun _=>.inr (.inl rfl)) _).setCell (p:=⟨bs,_,none⟩) (fun _=>.inr (.inl rfl)) _).setCell (p:=⟨ra,_,none⟩) (fun _=>.inr (.inr rfl)) _).setCell (p:=⟨ra,_,none⟩) (fun _=>.inr (.inr rfl)) _).setCell (p:=⟨ra,_,none⟩) (fun _=>.inr (.inr rfl)) _)) (fun hHeld=>?_)
 clear hK K
 try simp only [List.getElem_toArray,List.getElem_cons_succ,List.getElem_cons_zero,Act.put,List.setIfInBounds_toArray,List.set_cons_zero,List.set_cons_succ]
 refine wpAnyH_done (by kernel_rfl) ?_ _
 go_wp2_with fail
 try simp only [Exit.inBlock,Exit.then]
 refine bodyPost_ret (v:=.tuple #[.agg #[.slice tA tn tc,.slice A2 (n+1) c2],ansV ⟨0,0,(n:Int)+1,0⟩]) (results_cells rfl _ _ bs ra 39 34 _ _ _ _ rfl ?hsb Tryd.underlying39 rfl (by kernel_rfl) rfl ?hrb Tryd.underlying34 rfl (by kernel_rfl)) rfl ?_
 case hsb=>first | exact (far3 (two_cells _ _ _ _ HS2.out) HLO.out.2.2.2.2.2.2) | exact (far3 (two_cells _ _ _ _ HS2.out) HLO.out.2.2.2.2.2.2).drew
 case hrb=>first | exact (ans_cells _ _ _ _ _ _ (far2 HRR2.out HLO.out.2.2.2.2.2.2.symm)) | exact (ans_cells _ _ _ _ _ _ (far2 HRR2.out HLO.out.2.2.2.2.2.2.symm)).drew
 have TF:Touch (fun g=>g=bs∨g=ra) w2 (((((w2.setCell ⟨bs,0,none⟩ (.slice tA tn tc)).setCell ⟨bs,1,none⟩ (.slice A2 (n+1) c2)).setCell ⟨ra,0,none⟩ (.int .i64 0)).setCell ⟨ra,1,none⟩ (.int .u64 ((n:Int)+1))).setCell ⟨ra,2,none⟩ (.int .i64 0)):=(((((Touch.refl (fun g=>g=bs∨g=ra) w2).setCell (p:=⟨bs,_,none⟩) (fun _=>.inl rfl) _).setCell (p:=⟨bs,_,none⟩) (fun _=>.inl rfl) _).setCell (p:=⟨ra,_,none⟩) (fun _=>.inr rfl) _).setCell (p:=⟨ra,_,none⟩) (fun _=>.inr rfl) _).setCell (p:=⟨ra,_,none⟩) (fun _=>.inr rfl) _
 have hl9:=HLO.out
 have hO3:w2.ownsRow 0 70 4 (.slice A2 (n+1) c2) (n+1) (rowCells (R++[SRow.zero])):=by rw [rowCells_snoc];exact HO2.out
 refine ⟨A2,n+1,c2,rfl,⟨own_touch hO3 TF (fun g hg e=>?_),by rw [List.length_append,HN0.out];rfl,by omega⟩,(HTA.out.then HTF.out).trans TF (fun i hi e=>?_)⟩
 ·rcases e with rfl | rfl
  ·exact own_blk_ne hO3 HS2.out (by decide) hg
  ·exact own_blk_ne hO3 HRR2.out (by decide) hg
 ·rcases e with rfl | rfl<;>omega
end Go.Proofs.YthockgmbooefpaaDoor
namespace Go.Proofs.YthockgmbooefpaaDoor
open Go.RowKit
set_option maxRecDepth 100000 in
set_option maxHeartbeats 12000000 in
theorem rdo_new3 (w:World) (B0:Nat) {tA:Option Addr} {tn tc:Nat} {tL L:List PRow} (hs:RfL B0 w ⟨tA,tn,tc,tL⟩ L) (hD:DictP L) {A:Option Addr} {n c:Nat} {R:List SRow} (hr:RwL w A n c R) (sid sq nn:Int) (kw:ByteArray) (hk:kw.size≤1099511627776) (hB0:B0≤w.heap.size) (k:Nat) (hsk:sid=(k:Int)+1) (hkn:k<n) (rs rc rr rh:Int) (hrow:R.getD k SRow.zero=⟨rs,rc,rr,rh⟩) (h1:¬ sq=0) (h2:¬ sq<rs) (h3:¬ sq=rs) :
  Calls Tryd.prog 30 #[.agg #[.slice tA tn tc,.slice A n c],.agg #[.int .i64 3,.int .u64 sid,.int .u64 sq,.string kw,.int .i64 nn]] w fun e w'=>∃ (s':SL) (A':Option Addr) (n' c':Nat),e=.returned (.tuple #[.agg #[s'.val,.slice A' n' c'],ansV ⟨0,(remE L kw.toList),0,(remH L kw)⟩])∧RfL B0 w' s' (remL L kw)∧RwL w' A' n' c' (R.set k ⟨sq,(remE L kw.toList),0,(remH L kw)⟩)∧Touch (fun _=>False) w w':=by
 have HSK:=hide hsk
 have HROW:=hide hrow
 clear hsk hrow
 have HB0':=hide hB0
 clear hB0
 have HRM:=hide (fun (wx:World) (hr:RfL B0 wx ⟨tA,tn,tc,tL⟩ L)=>rremove_any wx B0 ⟨tA,tn,tc,tL⟩ hr hD kw hk)
 simp only [SL.val] at HRM
 obtain ⟨hh,hhh⟩:∃ x,x=remH L kw:=⟨_,rfl⟩
 obtain ⟨ee,hee⟩:∃ x,x=remE L kw.toList:=⟨_,rfl⟩
 obtain ⟨L2,hL2⟩:∃ x,x=remL L kw:=⟨_,rfl⟩
 simp only [← hhh,← hee,← hL2] at HRM
 rw [← hhh,← hee,← hL2]
 clear hhh hee hL2
 obtain ⟨wa,hwa⟩:∃ z,z=(((w.alloc (.cells #[.slice tA tn tc,.slice A n c] 39)).alloc (.cells #[.int .i64 3,.int .u64 sid,.int .u64 sq,.string kw,.int .i64 nn] 29)).alloc (.cells #[.slice none 0 0,.slice none 0 0] 39)).alloc (.cells #[.int .i64 0,.int .u64 0,.int .i64 0] 34):=⟨_,rfl⟩
 obtain ⟨ba,hba⟩:∃ z,z=w.heap.size:=⟨_,rfl⟩
 obtain ⟨bb,hbb⟩:∃ z,z=w.heap.size+1:=⟨_,rfl⟩
 obtain ⟨bs,hbs⟩:∃ z,z=w.heap.size+1+1:=⟨_,rfl⟩
 obtain ⟨ra,hra⟩:∃ z,z=w.heap.size+1+1+1:=⟨_,rfl⟩
 have hTa:Touch (fun _=>False) w wa:=by rw [hwa];exact ((((Touch.refl _ _).alloc _).alloc _).alloc _).alloc _
 have haB:Blk wa ba 39 #[.slice tA tn tc,.slice A n c]:=by rw [hwa,hba];exact (((Blk.new _ _ _).alloc _).alloc _).alloc _
 have hbB:Blk wa bb 29 #[.int .i64 3,.int .u64 sid,.int .u64 sq,.string kw,.int .i64 nn]:=by
  have h1:=(((Blk.new (w.alloc (.cells #[.slice tA tn tc,.slice A n c] 39)) 29 #[.int .i64 3,.int .u64 sid,.int .u64 sq,.string kw,.int .i64 nn]).alloc (.cells #[.slice none 0 0,.slice none 0 0] 39)).alloc (.cells #[.int .i64 0,.int .u64 0,.int .i64 0] 34))
  rw [hwa,hbb];simpa using h1
 have hsB:Blk wa bs 39 #[.slice none 0 0,.slice none 0 0]:=by
  have h1:=(Blk.new ((w.alloc (.cells #[.slice tA tn tc,.slice A n c] 39)).alloc (.cells #[.int .i64 3,.int .u64 sid,.int .u64 sq,.string kw,.int .i64 nn] 29)) 39 #[.slice none 0 0,.slice none 0 0]).alloc (.cells #[.int .i64 0,.int .u64 0,.int .i64 0] 34)
  rw [hwa,hbs];simpa using h1
 have hrB:Blk wa ra 34 #[.int .i64 0,.int .u64 0,.int .i64 0]:=by
  have h1:=Blk.new (((w.alloc (.cells #[.slice tA tn tc,.slice A n c] 39)).alloc (.cells #[.int .i64 3,.int .u64 sid,.int .u64 sq,.string kw,.int .i64 nn] 29)).alloc (.cells #[.slice none 0 0,.slice none 0 0] 39)) 34 #[.int .i64 0,.int .u64 0,.int .i64 0]
  rw [hwa,hra];simpa using h1
 have HLO:Hid (w.heap.size≤ba∧w.heap.size≤bb∧w.heap.size≤bs∧w.heap.size≤ra∧ba≠bs∧bb≠bs∧bs≠ra):=hide (by omega)
 have HTA:=hide hTa
 have HAB:=hide haB
 have HBB:=hide hbB
 have HSB:=hide hsB
 have HRB:=hide hrB
 have HWA:=hide hwa
 have H0:=hide hba
 have H1:=hide hbb
 have H2:=hide hbs
 have H3:=hide hra
 have HS:=hide (hs.quiet hTa)
 have HR:=hide (hr.quiet hTa)
 have HD:=hide hD
 have HN0:=hide hr.len
 have hn:=hr.few
 have hx1:¬ bs=ra:=by omega
 have hx2:¬ ra=bs:=by omega
 obtain ⟨a0,a1,a2⟩:=haB.facts
 obtain ⟨b0,b1,b2⟩:=hbB.facts
 obtain ⟨s0,s1,s2⟩:=hsB.facts
 obtain ⟨r0,r1,r2⟩:=hrB.facts
 clear hwa hba hbb hbs hra hTa haB hbB hsB hrB hs hr hD
 go_enter Tryd.func30,Tryd.ntmps30
 go_upto_region 1 with fail
 rw [← HWA.out,← H3.out,← H2.out,← H1.out,← H0.out]
 have hsk:=HSK.out
 subst hsk
 clear HSK
 obtain ⟨gR,rfl,hgR,hnc,c0,c1,c2,c3⟩:=rw_at HR.out k hkn
 rw [HROW.out] at c0 c1 c2 c3
 simp only at c0 c1 c2 c3
 have HNIL:=hide (own_nilOk HR.out.own)
 have HRD:=hide (Reads.of_own HR.out.own)
 have HKN:=hide hkn
 have HNC:=hide hnc
 clear hgR hnc
 obtain ⟨i0,hi,hz0,hz1,hz2⟩:=info_parts Tryd.infoRRow
 go_upto_region 15 with fail
 obtain ⟨wb,hwb⟩:∃ y,y=wa.alloc (.cells #[.int .u64 rs,.int .i64 rc,.int .u64 rr,.int .i64 rh] 70):=⟨_,rfl⟩
 have HWB:=hide hwb
 have hTb:Touch (fun _=>False) wa wb:=by rw [hwb];exact (Touch.refl _ _).alloc _
 rw [← hwb]
 have HTB:=hide hTb
 have HAB':=hide (HAB.out.touch hTb (fun f=>f))
 have HBB':=hide (HBB.out.touch hTb (fun f=>f))
 clear hwb hTb a0 a1 a2 b0 b1 b2 s0 s1 s2 r0 r1 r2 c0 c1 c2 c3
 obtain ⟨a0,a1,a2⟩:=HAB'.out.facts
 obtain ⟨b0,b1,b2⟩:=HBB'.out.facts
 go_wp2_with fail
 refine (HRM.out _ (HS.out.quiet HTB.out)).mono ?_
 rintro e w1 ⟨⟨mA,mn,mc,mL⟩,rfl,hm1,T1⟩
 have HM1:=hide hm1
 have HT1:=hide (HTB.out.then T1)
 have HA1:=hide (HAB'.out.touch T1 (fun f=>f))
 have HB1:=hide (HBB'.out.touch T1 (fun f=>f))
 clear hm1 T1 a0 a1 a2 b0 b1 b2 HRM
 obtain ⟨a0,a1,a2⟩:=HA1.out.facts
 obtain ⟨b0,b1,b2⟩:=HB1.out.facts
 simp only [SL.val]
 go_upto_region 19 with fail
 obtain ⟨wc,hwc⟩:∃ y,y=w1.alloc (.cells #[.int .i64 ee,.int .u64 0,.int .i64 hh] 34):=⟨_,rfl⟩
 obtain ⟨ga,hga⟩:∃ y,y=w1.heap.size:=⟨_,rfl⟩
 have hTc:Touch (fun _=>False) wa wc:=by rw [hwc];exact HT1.out.alloc _
 have HGA:Hid (Blk wc ga 34 #[.int .i64 ee,.int .u64 0,.int .i64 hh]):=hide (by rw [hwc,hga];exact Blk.new _ _ _)
 have HGL:Hid (wa.heap.size≤ga):=hide (by rw [hga];exact HT1.out.size)
 have HMC:Hid (RfL B0 wc ⟨mA,mn,mc,mL⟩ L2):=hide (by rw [hwc];exact HM1.out.quiet ((Touch.refl _ _).alloc _))
 have HAC:Hid (Blk wc ba 39 #[.slice tA tn tc,.slice (some ⟨gR,0,none⟩) n c]):=hide (by rw [hwc];exact HA1.out.alloc _)
 have HBC:Hid (Blk wc bb 29 #[.int .i64 3,.int .u64 ((k:Int)+1),.int .u64 sq,.string kw,.int .i64 nn]):=hide (by rw [hwc];exact HB1.out.alloc _)
 have HTC:=hide hTc
 rw [← hwc,← hga]
 clear hwc hga hTc a0 a1 a2 b0 b1 b2 HM1 HT1 HA1 HB1
 obtain ⟨a0,a1,a2⟩:=HAC.out.facts
 go_wp2_with (at_builtin;refine wpList_app _ rfl (.tmp 116) (.tmp 118) 37 rfl 70 i0 (.agg #[.int .u64 0,.int .i64 0,.int .u64 0,.int .i64 0]) 4 32 Tryd.underlying37 hi hz0 hz1 hz2 rfl (by decide) _ 0 [] rfl (World.ownsRow_made _ #[] 0 (Nat.zero_le _) (by decide) rfl) (some ⟨gR,0,none⟩) n c (rowCells R) rfl ((HRD.out.touch HTC.out (fun _ _ f=>f)).alloc _) ?c2 (srow_one R) ?c4 ?c5 ?_)
 case c2=>exact HNIL.out
 case c4=>unfold maxLen;omega
 case c5=>omega
 intro v1 w2 hown hgrow hfr _
 have T2:Touch (fun _=>False) wc w2:=((Touch.refl _ _).alloc _).grown hgrow (fun k hk hlt=>by simp [Value.ownBlock] at hk;omega)
 have ho2:w2.ownsRow 0 70 4 v1 n (rowCells R):=by simpa using hown
 obtain ⟨gN,cN,hv,hle,hmx,hgN,hcN,hfN⟩:=own_form ho2 (by have:=HKN.out;omega)
 subst hv
 have hgy:wc.heap.size≤gN:=by
  rcases hfr with h | ⟨g',h,hg'⟩
  ·simp [Value.ownBlock] at h;omega
  ·simp [Value.ownBlock] at h hg';omega
 have f0:=hfN (k*4)
 have f1:=hfN (k*4+1)
 have f2:=hfN (k*4+2)
 have f3:=hfN (k*4+3)
 have hkn4:k*4+3<(rowCells R).length:=by rw [rowCells_len,HN0.out];have:=HKN.out;omega
 have e0:=hcN (k*4) _ (List.getElem?_eq_getElem (by omega))
 have e1:=hcN (k*4+1) _ (List.getElem?_eq_getElem (by omega))
 have e2:=hcN (k*4+2) _ (List.getElem?_eq_getElem (by omega))
 have e3:=hcN (k*4+3) _ (List.getElem?_eq_getElem (by omega))
 have HO2:=hide ho2
 have HGY:=hide hgy
 have HT2:=hide T2
 have HCN:Hid (n≤cN):=hide (by omega)
 have hkI:(k:Int)<(n:Int):=by have:=HKN.out;omega
 have HB2:=hide (HBC.out.touch T2 (fun f=>f))
 have HG2:=hide (HGA.out.touch T2 (fun f=>f))
 clear hown hgrow hfr T2 ho2 hle hmx hgN hcN hfN hgy a0 a1 a2
 obtain ⟨b0,b1,b2⟩:=HB2.out.facts
 obtain ⟨g0,g1,g2⟩:=HG2.out.facts
 go_upto_region 21 with fail
 obtain ⟨w3,hw3⟩:∃ y,y=(((w2.setCell ⟨gN,k*4,none⟩ (.int .u64 sq)).setCell ⟨gN,k*4+1,none⟩ (.int .i64 ee)).setCell ⟨gN,k*4+2,none⟩ (.int .u64 0)).setCell ⟨gN,k*4+3,none⟩ (.int .i64 hh):=⟨_,rfl⟩
 have T3:Touch (fun g=>g=gN) w2 w3:=by rw [hw3];exact ((((Touch.refl (fun g=>g=gN) w2).setCell (p:=⟨gN,_,none⟩) (fun _=>rfl) _).setCell (p:=⟨gN,_,none⟩) (fun _=>rfl) _).setCell (p:=⟨gN,_,none⟩) (fun _=>rfl) _).setCell (p:=⟨gN,_,none⟩) (fun _=>rfl) _
 have hO3:w3.ownsRow 0 70 4 (.slice (some ⟨gN,0,none⟩) n cN) n (rowCells (R.set k ⟨sq,ee,0,hh⟩)):=by
  rw [hw3,← rowCells_set R k (by rw [HN0.out];exact HKN.out) ⟨sq,ee,0,hh⟩]
  exact own_set (own_set (own_set (own_set HO2.out _ _) _ _) _ _) _ _
 have hgty:TyAt w2 gN 70 := own_ty HO2.out rfl
 have HS2:=hide ((HSB.out.touch HTC.out (fun f=>f)).touch HT2.out (fun f=>f))
 have HR2:=hide ((HRB.out.touch HTC.out (fun f=>f)).touch HT2.out (fun f=>f))
 have HS3:=hide (HS2.out.touch T3 (fun e=>(blk_ty HS2.out).ne hgty (by decide) e))
 have HR3:=hide (HR2.out.touch T3 (fun e=>(blk_ty HR2.out).ne hgty (by decide) e))
 have HG3:=hide (HG2.out.touch T3 (fun e=>(blk_ty HG2.out).ne hgty (by decide) e))
 have hsz1:w.heap.size≤wc.heap.size:=Nat.le_trans HTA.out.size HTC.out.size
 have HGW:Hid (w.heap.size≤gN∧B0≤gN):=hide (by have:=HGY.out;have:=HB0'.out;omega)
 have HM3:Hid (RfL B0 w3 ⟨mA,mn,mc,mL⟩ L2):=hide ((HMC.out.quiet HT2.out).touch T3 (fun g hg e=>by have:=HGW.out;omega) (fun g hg e=>hg.ne hgty (by decide) e))
 have HT3:Hid (Touch (fun _=>False) w w3):=hide ((HTA.out.then (HTC.out.then HT2.out)).trans T3 (fun i hi e=>by have:=HGW.out;omega))
 have HO3:=hide hO3
 rw [← hw3]
 clear hw3 T3 hO3 hgty hsz1 b0 b1 b2 g0 g1 g2 f0 f1 f2 f3 e0 e1 e2 e3
 obtain ⟨g0,g1,g2⟩:=HG3.out.facts
 obtain ⟨s0,s1,s2⟩:=HS3.out.facts
 obtain ⟨r0,r1,r2⟩:=HR3.out.facts
 have hbr:¬ bs=ra:=HLO.out.2.2.2.2.2.2
 have hrb:¬ ra=bs:=fun e=>hbr e.symm
 have hga:¬ ga=bs:=fun e=>(blk_ty HG3.out).ne (blk_ty HS3.out) (by decide) e
 have hga2:¬ ga=ra:=fun e=>by have h1:=HGL.out;have h2:=HRB.out.lt;omega
 go_region
 go_wp2_with fail
 try simp only [Exit.inBlock,Exit.then]
 refine bodyPost_ret (v:=.tuple #[.agg #[.slice mA mn mc,.slice (some ⟨gN,0,none⟩) n cN],ansV ⟨0,ee,0,hh⟩]) (results_cells rfl _ _ bs ra 39 34 _ _ _ _ rfl ?hsb Tryd.underlying39 rfl (by kernel_rfl) rfl ?hrb Tryd.underlying34 rfl (by kernel_rfl)) rfl ?_
 case hsb=>exact (far3 (two_cells _ _ _ _ HS3.out) hbr).drew
 case hrb=>exact (ans_cells _ _ _ _ _ _ (far2 HR3.out hrb)).drew
 have TF:Touch (fun g=>g=bs∨g=ra) w3 (((((w3.setCell ⟨bs,0,none⟩ (.slice mA mn mc)).setCell ⟨bs,1,none⟩ (.slice (some ⟨gN,0,none⟩) n cN)).setCell ⟨ra,0,none⟩ (.int .i64 ee)).setCell ⟨ra,1,none⟩ (.int .u64 0)).setCell ⟨ra,2,none⟩ (.int .i64 hh)).drew:=((((((Touch.refl (fun g=>g=bs∨g=ra) w3).setCell (p:=⟨bs,_,none⟩) (fun _=>.inl rfl) _).setCell (p:=⟨bs,_,none⟩) (fun _=>.inl rfl) _).setCell (p:=⟨ra,_,none⟩) (fun _=>.inr rfl) _).setCell (p:=⟨ra,_,none⟩) (fun _=>.inr rfl) _).setCell (p:=⟨ra,_,none⟩) (fun _=>.inr rfl) _).drew
 have hl9:=HLO.out
 have hb9:=HB0'.out
 refine ⟨⟨mA,mn,mc,mL⟩,_,_,_,rfl,HM3.out.touch TF (fun g hg e=>?_) (fun g hg e=>?_),⟨own_touch HO3.out TF (fun g hg e=>?_),by rw [List.length_set];exact HN0.out,HR.out.few⟩,HT3.out.trans TF (fun i hi e=>?_)⟩
 ·rcases e with rfl | rfl<;>omega
 ·rcases e with rfl | rfl
  ·exact hg.ne (blk_ty HS3.out) (by decide) rfl
  ·exact hg.ne (blk_ty HR3.out) (by decide) rfl
 ·rcases e with rfl | rfl
  ·exact own_blk_ne HO3.out HS3.out (by decide) hg
  ·exact own_blk_ne HO3.out HR3.out (by decide) hg
 ·rcases e with rfl | rfl<;>omega
set_option maxRecDepth 100000 in
set_option maxHeartbeats 12000000 in
theorem rdo_new2 (w:World) (B0:Nat) {tA:Option Addr} {tn tc:Nat} {tL L:List PRow} (hs:RfL B0 w ⟨tA,tn,tc,tL⟩ L) (hD:DictP L) {A:Option Addr} {n c:Nat} {R:List SRow} (hr:RwL w A n c R) (sid sq nn:Int) (kw:ByteArray) (hk:kw.size≤1099511627776) (hB0:B0≤w.heap.size) (k:Nat) (hsk:sid=(k:Int)+1) (hkn:k<n) (rs rc rr rh:Int) (hrow:R.getD k SRow.zero=⟨rs,rc,rr,rh⟩) (h1:¬ sq=0) (h2:¬ sq<rs) (h3:¬ sq=rs) :
  Calls Tryd.prog 30 #[.agg #[.slice tA tn tc,.slice A n c],.agg #[.int .i64 2,.int .u64 sid,.int .u64 sq,.string kw,.int .i64 nn]] w fun e w'=>∃ (s':SL) (A':Option Addr) (n' c':Nat),e=.returned (.tuple #[.agg #[s'.val,.slice A' n' c'],ansV ⟨0,(setE L kw.toList nn),0,(setH L kw nn)⟩])∧RfL B0 w' s' (setL L kw nn)∧RwL w' A' n' c' (R.set k ⟨sq,(setE L kw.toList nn),0,(setH L kw nn)⟩)∧Touch (fun _=>False) w w':=by
 have HSK:=hide hsk
 have HROW:=hide hrow
 clear hsk hrow
 have HB0':=hide hB0
 clear hB0
 have HRM:=hide (fun (wx:World) (hr:RfL B0 wx ⟨tA,tn,tc,tL⟩ L)=>rremove_any wx B0 ⟨tA,tn,tc,tL⟩ hr hD kw hk)
 have HST:=hide (fun (wx:World) (hr:RfL B0 wx ⟨tA,tn,tc,tL⟩ L)=>rset_any wx B0 ⟨tA,tn,tc,tL⟩ hr hD kw hk nn)
 simp only [SL.val] at HRM
 simp only [SL.val] at HST
 obtain ⟨hh,hhh⟩:∃ x,x=setH L kw nn:=⟨_,rfl⟩
 obtain ⟨ee,hee⟩:∃ x,x=setE L kw.toList nn:=⟨_,rfl⟩
 obtain ⟨L2,hL2⟩:∃ x,x=setL L kw nn:=⟨_,rfl⟩
 simp only [← hhh,← hee,← hL2] at HST
 rw [← hhh,← hee,← hL2]
 clear hhh hee hL2
 obtain ⟨wa,hwa⟩:∃ z,z=(((w.alloc (.cells #[.slice tA tn tc,.slice A n c] 39)).alloc (.cells #[.int .i64 2,.int .u64 sid,.int .u64 sq,.string kw,.int .i64 nn] 29)).alloc (.cells #[.slice none 0 0,.slice none 0 0] 39)).alloc (.cells #[.int .i64 0,.int .u64 0,.int .i64 0] 34):=⟨_,rfl⟩
 obtain ⟨ba,hba⟩:∃ z,z=w.heap.size:=⟨_,rfl⟩
 obtain ⟨bb,hbb⟩:∃ z,z=w.heap.size+1:=⟨_,rfl⟩
 obtain ⟨bs,hbs⟩:∃ z,z=w.heap.size+1+1:=⟨_,rfl⟩
 obtain ⟨ra,hra⟩:∃ z,z=w.heap.size+1+1+1:=⟨_,rfl⟩
 have hTa:Touch (fun _=>False) w wa:=by rw [hwa];exact ((((Touch.refl _ _).alloc _).alloc _).alloc _).alloc _
 have haB:Blk wa ba 39 #[.slice tA tn tc,.slice A n c]:=by rw [hwa,hba];exact (((Blk.new _ _ _).alloc _).alloc _).alloc _
 have hbB:Blk wa bb 29 #[.int .i64 2,.int .u64 sid,.int .u64 sq,.string kw,.int .i64 nn]:=by
  have h1:=(((Blk.new (w.alloc (.cells #[.slice tA tn tc,.slice A n c] 39)) 29 #[.int .i64 2,.int .u64 sid,.int .u64 sq,.string kw,.int .i64 nn]).alloc (.cells #[.slice none 0 0,.slice none 0 0] 39)).alloc (.cells #[.int .i64 0,.int .u64 0,.int .i64 0] 34))
  rw [hwa,hbb];simpa using h1
 have hsB:Blk wa bs 39 #[.slice none 0 0,.slice none 0 0]:=by
  have h1:=(Blk.new ((w.alloc (.cells #[.slice tA tn tc,.slice A n c] 39)).alloc (.cells #[.int .i64 2,.int .u64 sid,.int .u64 sq,.string kw,.int .i64 nn] 29)) 39 #[.slice none 0 0,.slice none 0 0]).alloc (.cells #[.int .i64 0,.int .u64 0,.int .i64 0] 34)
  rw [hwa,hbs];simpa using h1
 have hrB:Blk wa ra 34 #[.int .i64 0,.int .u64 0,.int .i64 0]:=by
  have h1:=Blk.new (((w.alloc (.cells #[.slice tA tn tc,.slice A n c] 39)).alloc (.cells #[.int .i64 2,.int .u64 sid,.int .u64 sq,.string kw,.int .i64 nn] 29)).alloc (.cells #[.slice none 0 0,.slice none 0 0] 39)) 34 #[.int .i64 0,.int .u64 0,.int .i64 0]
  rw [hwa,hra];simpa using h1
 have HLO:Hid (w.heap.size≤ba∧w.heap.size≤bb∧w.heap.size≤bs∧w.heap.size≤ra∧ba≠bs∧bb≠bs∧bs≠ra):=hide (by omega)
 have HTA:=hide hTa
 have HAB:=hide haB
 have HBB:=hide hbB
 have HSB:=hide hsB
 have HRB:=hide hrB
 have HWA:=hide hwa
 have H0:=hide hba
 have H1:=hide hbb
 have H2:=hide hbs
 have H3:=hide hra
 have HS:=hide (hs.quiet hTa)
 have HR:=hide (hr.quiet hTa)
 have HD:=hide hD
 have HN0:=hide hr.len
 have hn:=hr.few
 have hx1:¬ bs=ra:=by omega
 have hx2:¬ ra=bs:=by omega
 obtain ⟨a0,a1,a2⟩:=haB.facts
 obtain ⟨b0,b1,b2⟩:=hbB.facts
 obtain ⟨s0,s1,s2⟩:=hsB.facts
 obtain ⟨r0,r1,r2⟩:=hrB.facts
 clear hwa hba hbb hbs hra hTa haB hbB hsB hrB hs hr hD
 go_enter Tryd.func30,Tryd.ntmps30
 go_upto_region 1 with fail
 rw [← HWA.out,← H3.out,← H2.out,← H1.out,← H0.out]
 have hsk:=HSK.out
 subst hsk
 clear HSK
 obtain ⟨gR,rfl,hgR,hnc,c0,c1,c2,c3⟩:=rw_at HR.out k hkn
 rw [HROW.out] at c0 c1 c2 c3
 simp only at c0 c1 c2 c3
 have HNIL:=hide (own_nilOk HR.out.own)
 have HRD:=hide (Reads.of_own HR.out.own)
 have HKN:=hide hkn
 have HNC:=hide hnc
 clear hgR hnc
 obtain ⟨i0,hi,hz0,hz1,hz2⟩:=info_parts Tryd.infoRRow
 go_upto_region 15 with fail
 obtain ⟨wb,hwb⟩:∃ y,y=wa.alloc (.cells #[.int .u64 rs,.int .i64 rc,.int .u64 rr,.int .i64 rh] 70):=⟨_,rfl⟩
 have HWB:=hide hwb
 have hTb:Touch (fun _=>False) wa wb:=by rw [hwb];exact (Touch.refl _ _).alloc _
 rw [← hwb]
 have HTB:=hide hTb
 have HAB':=hide (HAB.out.touch hTb (fun f=>f))
 have HBB':=hide (HBB.out.touch hTb (fun f=>f))
 clear hwb hTb a0 a1 a2 b0 b1 b2 s0 s1 s2 r0 r1 r2 c0 c1 c2 c3
 obtain ⟨a0,a1,a2⟩:=HAB'.out.facts
 obtain ⟨b0,b1,b2⟩:=HBB'.out.facts
 go_wp2_with fail
 refine (HRM.out _ (HS.out.quiet HTB.out)).mono ?_
 rintro e w1 ⟨⟨mA,mn,mc,mL⟩,rfl,hm1,T1⟩
 have HM1:=hide hm1
 have HT1:=hide (HTB.out.then T1)
 have HA1:=hide (HAB'.out.touch T1 (fun f=>f))
 have HB1:=hide (HBB'.out.touch T1 (fun f=>f))
 clear hm1 T1 a0 a1 a2 b0 b1 b2 HRM
 obtain ⟨a0,a1,a2⟩:=HA1.out.facts
 obtain ⟨b0,b1,b2⟩:=HB1.out.facts
 simp only [SL.val]
 clear HM1
 go_wp2_with fail
 refine (HST.out _ (HS.out.quiet HT1.out)).mono ?_
 rintro e wq ⟨⟨nA,nn',nc,nL⟩,rfl,hm1,T1⟩
 have HM1:=hide hm1
 have HT1':=hide (HT1.out.then T1)
 have HA1':=hide (HA1.out.touch T1 (fun f=>f))
 have HB1':=hide (HB1.out.touch T1 (fun f=>f))
 clear hm1 T1 HT1 HA1 HB1 a0 a1 a2 b0 b1 b2 HST
 have HT1:=HT1'
 have HA1:=HA1'
 have HB1:=HB1'
 clear HT1' HA1' HB1'
 obtain ⟨a0,a1,a2⟩:=HA1.out.facts
 obtain ⟨b0,b1,b2⟩:=HB1.out.facts
 simp only [SL.val]
 go_upto_region 19 with fail
 obtain ⟨wc,hwc⟩:∃ y,y=wq.alloc (.cells #[.int .i64 ee,.int .u64 0,.int .i64 hh] 34):=⟨_,rfl⟩
 obtain ⟨ga,hga⟩:∃ y,y=wq.heap.size:=⟨_,rfl⟩
 have hTc:Touch (fun _=>False) wa wc:=by rw [hwc];exact HT1.out.alloc _
 have HGA:Hid (Blk wc ga 34 #[.int .i64 ee,.int .u64 0,.int .i64 hh]):=hide (by rw [hwc,hga];exact Blk.new _ _ _)
 have HGL:Hid (wa.heap.size≤ga):=hide (by rw [hga];exact HT1.out.size)
 have HMC:Hid (RfL B0 wc ⟨nA,nn',nc,nL⟩ L2):=hide (by rw [hwc];exact HM1.out.quiet ((Touch.refl _ _).alloc _))
 have HAC:Hid (Blk wc ba 39 #[.slice tA tn tc,.slice (some ⟨gR,0,none⟩) n c]):=hide (by rw [hwc];exact HA1.out.alloc _)
 have HBC:Hid (Blk wc bb 29 #[.int .i64 2,.int .u64 ((k:Int)+1),.int .u64 sq,.string kw,.int .i64 nn]):=hide (by rw [hwc];exact HB1.out.alloc _)
 have HTC:=hide hTc
 rw [← hwc,← hga]
 clear hwc hga hTc a0 a1 a2 b0 b1 b2 HM1 HT1 HA1 HB1
 obtain ⟨a0,a1,a2⟩:=HAC.out.facts
 go_wp2_with (at_builtin;refine wpList_app _ rfl (.tmp 116) (.tmp 118) 37 rfl 70 i0 (.agg #[.int .u64 0,.int .i64 0,.int .u64 0,.int .i64 0]) 4 32 Tryd.underlying37 hi hz0 hz1 hz2 rfl (by decide) _ 0 [] rfl (World.ownsRow_made _ #[] 0 (Nat.zero_le _) (by decide) rfl) (some ⟨gR,0,none⟩) n c (rowCells R) rfl ((HRD.out.touch HTC.out (fun _ _ f=>f)).alloc _) ?c2 (srow_one R) ?c4 ?c5 ?_)
 case c2=>exact HNIL.out
 case c4=>unfold maxLen;omega
 case c5=>omega
 intro v1 w2 hown hgrow hfr _
 have T2:Touch (fun _=>False) wc w2:=((Touch.refl _ _).alloc _).grown hgrow (fun k hk hlt=>by simp [Value.ownBlock] at hk;omega)
 have ho2:w2.ownsRow 0 70 4 v1 n (rowCells R):=by simpa using hown
 obtain ⟨gN,cN,hv,hle,hmx,hgN,hcN,hfN⟩:=own_form ho2 (by have:=HKN.out;omega)
 subst hv
 have hgy:wc.heap.size≤gN:=by
  rcases hfr with h | ⟨g',h,hg'⟩
  ·simp [Value.ownBlock] at h;omega
  ·simp [Value.ownBlock] at h hg';omega
 have f0:=hfN (k*4)
 have f1:=hfN (k*4+1)
 have f2:=hfN (k*4+2)
 have f3:=hfN (k*4+3)
 have hkn4:k*4+3<(rowCells R).length:=by rw [rowCells_len,HN0.out];have:=HKN.out;omega
 have e0:=hcN (k*4) _ (List.getElem?_eq_getElem (by omega))
 have e1:=hcN (k*4+1) _ (List.getElem?_eq_getElem (by omega))
 have e2:=hcN (k*4+2) _ (List.getElem?_eq_getElem (by omega))
 have e3:=hcN (k*4+3) _ (List.getElem?_eq_getElem (by omega))
 have HO2:=hide ho2
 have HGY:=hide hgy
 have HT2:=hide T2
 have HCN:Hid (n≤cN):=hide (by omega)
 have hkI:(k:Int)<(n:Int):=by have:=HKN.out;omega
 have HB2:=hide (HBC.out.touch T2 (fun f=>f))
 have HG2:=hide (HGA.out.touch T2 (fun f=>f))
 clear hown hgrow hfr T2 ho2 hle hmx hgN hcN hfN hgy a0 a1 a2
 obtain ⟨b0,b1,b2⟩:=HB2.out.facts
 obtain ⟨g0,g1,g2⟩:=HG2.out.facts
 go_upto_region 21 with fail
 obtain ⟨w3,hw3⟩:∃ y,y=(((w2.setCell ⟨gN,k*4,none⟩ (.int .u64 sq)).setCell ⟨gN,k*4+1,none⟩ (.int .i64 ee)).setCell ⟨gN,k*4+2,none⟩ (.int .u64 0)).setCell ⟨gN,k*4+3,none⟩ (.int .i64 hh):=⟨_,rfl⟩
 have T3:Touch (fun g=>g=gN) w2 w3:=by rw [hw3];exact ((((Touch.refl (fun g=>g=gN) w2).setCell (p:=⟨gN,_,none⟩) (fun _=>rfl) _).setCell (p:=⟨gN,_,none⟩) (fun _=>rfl) _).setCell (p:=⟨gN,_,none⟩) (fun _=>rfl) _).setCell (p:=⟨gN,_,none⟩) (fun _=>rfl) _
 have hO3:w3.ownsRow 0 70 4 (.slice (some ⟨gN,0,none⟩) n cN) n (rowCells (R.set k ⟨sq,ee,0,hh⟩)):=by
  rw [hw3,← rowCells_set R k (by rw [HN0.out];exact HKN.out) ⟨sq,ee,0,hh⟩]
  exact own_set (own_set (own_set (own_set HO2.out _ _) _ _) _ _) _ _
 have hgty:TyAt w2 gN 70 := own_ty HO2.out rfl
 have HS2:=hide ((HSB.out.touch HTC.out (fun f=>f)).touch HT2.out (fun f=>f))
 have HR2:=hide ((HRB.out.touch HTC.out (fun f=>f)).touch HT2.out (fun f=>f))
 have HS3:=hide (HS2.out.touch T3 (fun e=>(blk_ty HS2.out).ne hgty (by decide) e))
 have HR3:=hide (HR2.out.touch T3 (fun e=>(blk_ty HR2.out).ne hgty (by decide) e))
 have HG3:=hide (HG2.out.touch T3 (fun e=>(blk_ty HG2.out).ne hgty (by decide) e))
 have hsz1:w.heap.size≤wc.heap.size:=Nat.le_trans HTA.out.size HTC.out.size
 have HGW:Hid (w.heap.size≤gN∧B0≤gN):=hide (by have:=HGY.out;have:=HB0'.out;omega)
 have HM3:Hid (RfL B0 w3 ⟨nA,nn',nc,nL⟩ L2):=hide ((HMC.out.quiet HT2.out).touch T3 (fun g hg e=>by have:=HGW.out;omega) (fun g hg e=>hg.ne hgty (by decide) e))
 have HT3:Hid (Touch (fun _=>False) w w3):=hide ((HTA.out.then (HTC.out.then HT2.out)).trans T3 (fun i hi e=>by have:=HGW.out;omega))
 have HO3:=hide hO3
 rw [← hw3]
 clear hw3 T3 hO3 hgty hsz1 b0 b1 b2 g0 g1 g2 f0 f1 f2 f3 e0 e1 e2 e3
 obtain ⟨g0,g1,g2⟩:=HG3.out.facts
 obtain ⟨s0,s1,s2⟩:=HS3.out.facts
 obtain ⟨r0,r1,r2⟩:=HR3.out.facts
 have hbr:¬ bs=ra:=HLO.out.2.2.2.2.2.2
 have hrb:¬ ra=bs:=fun e=>hbr e.symm
 have hga:¬ ga=bs:=fun e=>(blk_ty HG3.out).ne (blk_ty HS3.out) (by decide) e
 have hga2:¬ ga=ra:=fun e=>by have h1:=HGL.out;have h2:=HRB.out.lt;omega
 go_region
 go_wp2_with fail
 try simp only [Exit.inBlock,Exit.then]
 refine bodyPost_ret (v:=.tuple #[.agg #[.slice nA nn' nc,.slice (some ⟨gN,0,none⟩) n cN],ansV ⟨0,ee,0,hh⟩]) (results_cells rfl _ _ bs ra 39 34 _ _ _ _ rfl ?hsb Tryd.underlying39 rfl (by kernel_rfl) rfl ?hrb Tryd.underlying34 rfl (by kernel_rfl)) rfl ?_
 case hsb=>exact (far3 (two_cells _ _ _ _ HS3.out) hbr).drew
 case hrb=>exact (ans_cells _ _ _ _ _ _ (far2 HR3.out hrb)).drew
 have TF:Touch (fun g=>g=bs∨g=ra) w3 (((((w3.setCell ⟨bs,0,none⟩ (.slice nA nn' nc)).setCell ⟨bs,1,none⟩ (.slice (some ⟨gN,0,none⟩) n cN)).setCell ⟨ra,0,none⟩ (.int .i64 ee)).setCell ⟨ra,1,none⟩ (.int .u64 0)).setCell ⟨ra,2,none⟩ (.int .i64 hh)).drew:=((((((Touch.refl (fun g=>g=bs∨g=ra) w3).setCell (p:=⟨bs,_,none⟩) (fun _=>.inl rfl) _).setCell (p:=⟨bs,_,none⟩) (fun _=>.inl rfl) _).setCell (p:=⟨ra,_,none⟩) (fun _=>.inr rfl) _).setCell (p:=⟨ra,_,none⟩) (fun _=>.inr rfl) _).setCell (p:=⟨ra,_,none⟩) (fun _=>.inr rfl) _).drew
 have hl9:=HLO.out
 have hb9:=HB0'.out
 refine ⟨⟨nA,nn',nc,nL⟩,_,_,_,rfl,HM3.out.touch TF (fun g hg e=>?_) (fun g hg e=>?_),⟨own_touch HO3.out TF (fun g hg e=>?_),by rw [List.length_set];exact HN0.out,HR.out.few⟩,HT3.out.trans TF (fun i hi e=>?_)⟩
 ·rcases e with rfl | rfl<;>omega
 ·rcases e with rfl | rfl
  ·exact hg.ne (blk_ty HS3.out) (by decide) rfl
  ·exact hg.ne (blk_ty HR3.out) (by decide) rfl
 ·rcases e with rfl | rfl
  ·exact own_blk_ne HO3.out HS3.out (by decide) hg
  ·exact own_blk_ne HO3.out HR3.out (by decide) hg
 ·rcases e with rfl | rfl<;>omega
end Go.Proofs.YthockgmbooefpaaDoor
namespace Go.Proofs.YthockgmbooefpaaDoor
open Go.RowKit
theorem rdo_any (w:World) (B0:Nat) {sl:SL} {L:List PRow} (hs:RfL B0 w sl L) (hD:DictP L) {A:Option Addr} {n c:Nat} {R:List SRow} (hr:RwL w A n c R) (hB0:B0≤w.heap.size) (cm:CmdP) (hk:cm.Wf) :
  Calls Tryd.prog 30 #[.agg #[sl.val,.slice A n c],cm.val] w fun e w'=>∃ (s':SL) (A':Option Addr) (n' c':Nat),e=.returned (.tuple #[.agg #[s'.val,.slice A' n' c'],ansV (doA cm L R)])∧RfL B0 w' s' (doL cm L R)∧RwL w' A' n' c' (doR cm L R)∧Touch (fun _=>False) w w':=by
 obtain ⟨kd,sid,sq,kw,nn⟩:=cm
 obtain ⟨tA,tn,tc,tL⟩:=sl
 unfold CmdP.Wf at hk
 have hn:=hr.few
 have hl:=hr.len
 have stay:∀ {e:Ending} {w':World} {a:SRow},doA ⟨kd,sid,sq,kw,nn⟩ L R=a→doL ⟨kd,sid,sq,kw,nn⟩ L R=L→doR ⟨kd,sid,sq,kw,nn⟩ L R=R→e=.returned (.tuple #[.agg #[.slice tA tn tc,.slice A n c],ansV a])∧Touch (fun _=>False) w w' →
   ∃ (s':SL) (A':Option Addr) (n' c':Nat),e=.returned (.tuple #[.agg #[s'.val,.slice A' n' c'],ansV (doA ⟨kd,sid,sq,kw,nn⟩ L R)])∧RfL B0 w' s' (doL ⟨kd,sid,sq,kw,nn⟩ L R)∧RwL w' A' n' c' (doR ⟨kd,sid,sq,kw,nn⟩ L R)∧Touch (fun _=>False) w w':=by
  rintro e w' a h1 h2 h3 ⟨rfl,T⟩
  rw [h1,h2,h3]
  exact ⟨⟨tA,tn,tc,tL⟩,A,n,c,rfl,hs.quiet T,hr.quiet T,T⟩
 by_cases h1:kd=1
 ·subst h1
  by_cases hf:n<4096
  ·refine (rdo_open w B0 hs hD hr sid sq nn kw hk hf).mono ?_
   rintro e w' ⟨A',n',c',rfl,hr',T⟩
   have e1:doA ⟨1,sid,sq,kw,nn⟩ L R=⟨0,0,(n:Int)+1,0⟩:=by simp [doA,hl,hf]
   have e2:doL ⟨1,sid,sq,kw,nn⟩ L R=L:=by simp [doL,goesB]
   have e3:doR ⟨1,sid,sq,kw,nn⟩ L R=R++[SRow.zero]:=by simp [doR,hl,hf]
   rw [e1,e2,e3]
   exact ⟨⟨tA,tn,tc,tL⟩,A',n',c',rfl,hs.quiet T,hr',T⟩
  ·exact (rdo_full w B0 hs hD hr sid sq nn kw hk (by omega)).mono (fun e w'=>stay (by simp [doA,hl,hf]) (by simp [doL,goesB]) (by simp [doR,hl,hf]))
 ·by_cases h2:kd=2∨kd=3
  ·have err:∀ {k:Int},¬ k=0→doC ⟨kd,sid,sq,kw,nn⟩ R=⟨0,0,0,false,k⟩→_:=fun {k} hk0 hc=>do_err (c:=⟨kd,sid,sq,kw,nn⟩) (L:=L) (R:=R) h2 hc hk0
   by_cases h3:sid<1
   ·have hc:doC ⟨kd,sid,sq,kw,nn⟩ R=⟨0,0,0,false,150⟩:=by
     have ht:thereB R sid=false:=by unfold thereB;simp;omega
     unfold doC chk
     simp only [ht]
     rfl
    obtain ⟨e1,e2,e3⟩:=err (by decide) hc
    exact (rdo_none1 w B0 hs hD hr sid sq nn kw hk kd h2 h3).mono (fun e w'=>stay e1 e2 e3)
   ·by_cases h4:(n:Int)<sid
    ·have hc:doC ⟨kd,sid,sq,kw,nn⟩ R=⟨0,0,0,false,150⟩:=by
      have ht:thereB R sid=false:=by unfold thereB;simp;omega
      unfold doC chk
      simp only [ht]
      rfl
     obtain ⟨e1,e2,e3⟩:=err (by decide) hc
     exact (rdo_none2 w B0 hs hD hr sid sq nn kw hk kd h2 (by omega) h4).mono (fun e w'=>stay e1 e2 e3)
    ·obtain ⟨k,hk1⟩:∃ k:Nat,sid=(k:Int)+1:=⟨(sid-1).toNat,by omega⟩
     have hkn:k<n:=by omega
     have hkR:k<R.length:=by omega
     obtain ⟨⟨rs,rc,rr,rh⟩,hrow⟩:∃ r,r=R.getD k SRow.zero:=⟨_,rfl⟩
     have ht:thereB R sid=true:=by rw [hk1];exact thereB_succ R k hkR
     have hra:rowAt R sid=⟨rs,rc,rr,rh⟩:=by rw [hk1,rowAt_succ R k hkR,hrow];simp [List.getD,hkR]
     have hdc:doC ⟨kd,sid,sq,kw,nn⟩ R=chk true ⟨rs,rc,rr,rh⟩ sq:=by unfold doC;simp only [ht,hra]
     by_cases h5:sq=0
     ·obtain ⟨e1,e2,e3⟩:=err (k:=151) (by decide) (by rw [hdc];simp [chk,h5])
      exact (rdo_old1 w B0 hs hD hr sid sq nn kw hk kd h2 k hk1 hkn rs rc rr rh hrow.symm h5).mono (fun e w'=>stay e1 e2 e3)
     ·by_cases h6:sq<rs
      ·obtain ⟨e1,e2,e3⟩:=err (k:=151) (by decide) (by rw [hdc];simp [chk,h6])
       exact (rdo_old2 w B0 hs hD hr sid sq nn kw hk kd h2 k hk1 hkn rs rc rr rh hrow.symm h5 h6).mono (fun e w'=>stay e1 e2 e3)
      ·by_cases h7:sq=rs
       ·subst h7
        have hK:doC ⟨kd,sid,sq,kw,nn⟩ R=⟨rc,rr,rh,true,0⟩:=by rw [hdc];simp [chk,h5]
        obtain ⟨e1,e2,e3⟩:=do_again (c:=⟨kd,sid,sq,kw,nn⟩) (L:=L) (R:=R) h2 hK rfl rfl
        exact (rdo_again w B0 hs hD hr sid sq nn kw hk kd h2 k hk1 hkn rc rr rh hrow.symm h5).mono (fun e w'=>stay e1 e2 e3)
       ·have hK:doC ⟨kd,sid,sq,kw,nn⟩ R=⟨0,0,0,false,0⟩:=by rw [hdc];simp [chk,h5,h6,h7]
        obtain ⟨e1,e2,e3⟩:=do_new (c:=⟨kd,sid,sq,kw,nn⟩) (L:=L) (R:=R) h2 hK rfl rfl
        have hkk:(sid-1).toNat=k:=by omega
        rw [e1,e2,e3]
        simp only [hkk]
        rcases h2 with rfl | rfl
        ·exact rdo_new2 w B0 hs hD hr sid sq nn kw hk hB0 k hk1 hkn rs rc rr rh hrow.symm h5 h6 h7
        ·exact rdo_new3 w B0 hs hD hr sid sq nn kw hk hB0 k hk1 hkn rs rc rr rh hrow.symm h5 h6 h7
  ·have hg:goesB ⟨kd,sid,sq,kw,nn⟩ R=false:=by simp [goesB,h2]
   exact (rdo_other w B0 hs hD hr sid sq nn kw hk kd h1 (by omega) (by omega)).mono (fun e w'=>stay (by simp [doA,h1,h2]) (by simp [doL,hg]) (by simp [doR,h1,hg]))
end Go.Proofs.YthockgmbooefpaaDoor
namespace Go.Proofs.YthockgmbooefpaaDoor
open Go.RowKit
theorem tdgetD {D:List CmdP} {k:Nat} (h:k<D.length):D.getD k CmdP.zero∈D:=by
 have e2:D.getD k CmdP.zero=D[k]:=by simp [List.getD,h]
 rw [e2];exact List.getElem_mem _
theorem runS_succ (T:List CmdP) (i:Nat) (h:i<T.length) (S:List PRow × List SRow):runS (T.take (i+1)) S=stepS (runS (T.take i) S) (T.getD i CmdP.zero):=by
 rw [ctake_succ T i h,runS_snoc]
structure Both (W w:World) (s d tb:Nat) (v:Value) (L:List PRow) (q:Nat) (R:List SRow) (sl:SL) (A:Option Addr) (n c:Nat):Prop where
 y:StY W w s d tb v L q R
 l:RfL W.heap.size w sl L
 r:RwL w A n c R
theorem RfL.stF {W w w':World} {s d tb:Nat} {v:Value} {L L':List PRow} {q:Nat} {R:List SRow} {sl:SL} (h:StY W w s d tb v L' q R) (hl:RfL W.heap.size w sl L) (T:Touch (Go.Proofs.YthockgmbooefpaaDoor.stF d tb v) w w'):RfL W.heap.size w' sl L :=
 hl.touch T (fun g hg e=>by have:=h.stF g e;omega) (fun g ht e=>by
  rcases e with rfl | e
  ·exact ht.ne h.st.dct.ty (by decide) rfl
  ·exact fp_no h.st.tab ht (by decide) (by decide) e)
theorem RwL.stF {w w':World} {s d tb:Nat} {v:Value} {L:List PRow} {q:Nat} {R R':List SRow} {A:Option Addr} {n c:Nat} (h:StX w s d tb v L q R) (hr:RwL w A n c R') (T:Touch (Go.Proofs.YthockgmbooefpaaDoor.stF d tb v) w w'):RwL w' A n c R' :=
 hr.touch T (fun g ht e=>by
  rcases e with rfl | e
  ·exact ht.ne h.dct.ty (by decide) rfl
  ·exact fp_no h.tab ht (by decide) (by decide) e)
theorem results_ct {P:Program} {fn:Func} {p u:Tmp} {ty:TypeId} (h:fn.results=#[.cell p ty,.tmp u]) (tmps:Array Value) (w:World) (g:Nat) (t:TypeId) (cs:Array Value) (d:TypeDesc) (x:Value)
  (hp:tmps.getD p undef=.pointer (some ⟨g,0,none⟩)) (hg:Blk w g t cs) (hu:P.underlying ty=some d) (hd:(match d with | .struct _ | .array _ _=>true | _=>false)=true) (hi:(P.info? ty).map (·.size)=some cs.size) (hx:tmps.getD u undef=x) :
  (results fn tmps).run P w=.ok (.tuple #[.agg cs,x]) w:=by
 have hp1:tmps[p]?.getD undef=.pointer (some ⟨g,0,none⟩):=by simpa using hp
 have hx1:tmps[u]?.getD undef=x:=by simpa using hx
 simp [results,h,hp1,hx1,asAddr,Sem.run_bind,run_loadVar_row w g t ty cs (0,0) d hg hu hd hi,Result.andThen]
theorem results_tct {P:Program} {fn:Func} {a p u:Tmp} {ty:TypeId} (h:fn.results=#[.tmp a,.cell p ty,.tmp u]) (tmps:Array Value) (w:World) (g:Nat) (t:TypeId) (cs:Array Value) (d:TypeDesc) (y x:Value)
  (hy:tmps.getD a undef=y) (hp:tmps.getD p undef=.pointer (some ⟨g,0,none⟩)) (hg:Blk w g t cs) (hu:P.underlying ty=some d) (hd:(match d with | .struct _ | .array _ _=>true | _=>false)=true) (hi:(P.info? ty).map (·.size)=some cs.size) (hx:tmps.getD u undef=x) :
  (results fn tmps).run P w=.ok (.tuple #[y,.agg cs,x]) w:=by
 have hp1:tmps[p]?.getD undef=.pointer (some ⟨g,0,none⟩):=by simpa using hp
 have hx1:tmps[u]?.getD undef=x:=by simpa using hx
 have hy1:tmps[a]?.getD undef=y:=by simpa using hy
 simp [results,h,hp1,hx1,hy1,asAddr,Sem.run_bind,run_loadVar_row w g t ty cs (0,0) d hg hu hd hi,Result.andThen]
theorem StY.off {W w w':World} {s d tb:Nat} {v:Value} {L:List PRow} {q:Nat} {R:List SRow} {S:Nat→Prop} (h:StY W w s d tb v L q R) (T:Touch S w w') (hS:∀ g,S g→W.heap.size≤g∧∃ t,TyAt w g t∧offT t):StY W w' s d tb v L q R :=
 ⟨h.st.off T (fun g hg=>(hS g hg).2),h.y,h.t.trans T (fun g hg e=>by have:=(hS g e).1;omega),h.lw⟩
theorem off_rst:offT 39 := by unfold offT dctT;decide
set_option maxRecDepth 100000 in
set_option maxHeartbeats 4000000 in
theorem goes_any {W:World} (w:World) {s d tb:Nat} {v:Value} {L:List PRow} {q:Nat} {R:List SRow} (h:StY W w s d tb v L q R) (sl:SL) (hl:RfL W.heap.size w sl L) (A:Option Addr) (n c:Nat) (hr:RwL w A n c R)
  (tA:Option Addr) (tn tc:Nat) (T:List CmdP) (hT:T.length=tn) (hR:Reads W 5 tA tn (cCells T)) (hWf:∀ o∈T,o.Wf) (hm:tn≤400) :
  Calls Tryd.prog 16 #[ptrV s,.agg #[sl.val,.slice A n c],.slice tA tn tc] w fun e w'=>∃ (sl':SL) (A':Option Addr) (n' c':Nat),e=.returned (.tuple #[.agg #[sl'.val,.slice A' n' c'],.bool true]) ∧
   (∃ v',(∃ q',StY W w' s d tb v' (runS T (L,R)).1 q' (runS T (L,R)).2)∧Fresh w v v')∧RfL W.heap.size w' sl' (runS T (L,R)).1∧RwL w' A' n' c' (runS T (L,R)).2∧Touch (stF d tb v) w w':=by
 have HTL:=hide hT
 have HRD:=hide hR
 have HWO:=hide hWf
 have HST0:=hide h
 obtain ⟨sA,sn,sc,sL⟩:=sl
 simp only [SL.val] at hl ⊢
 obtain ⟨wa,hwa⟩:∃ z,z=(w.alloc (.cells #[.slice sA sn sc,.slice A n c] 39)).alloc (.cells #[.slice none 0 0,.slice none 0 0] 39):=⟨_,rfl⟩
 obtain ⟨rb,hrb⟩:∃ z,z=w.heap.size:=⟨_,rfl⟩
 obtain ⟨rs,hrs⟩:∃ z,z=w.heap.size+1:=⟨_,rfl⟩
 have hTa:Touch (fun _=>False) w wa:=by rw [hwa];exact ((Touch.refl _ _).alloc _).alloc _
 have hbB:Blk wa rb 39 #[.slice sA sn sc,.slice A n c]:=by rw [hwa,hrb];exact (Blk.new _ _ _).alloc _
 have hsB:Blk wa rs 39 #[.slice none 0 0,.slice none 0 0]:=by
  have h1:=Blk.new (w.alloc (.cells #[.slice sA sn sc,.slice A n c] 39)) 39 #[.slice none 0 0,.slice none 0 0]
  rw [hwa,hrs]
  simpa using h1
 have HBR:Hid (w.heap.size≤rb∧w.heap.size≤rs∧¬ rb=rs):=hide (by omega)
 have HYA:=hide (h.quiet hTa)
 have HLA:=hide (hl.quiet hTa)
 have HRA:=hide (hr.quiet hTa)
 have HTA:=hide hTa
 have HBB:=hide hbB
 have HSB:=hide hsB
 have HWA:=hide hwa
 have HRB:=hide hrb
 have HRS:=hide hrs
 have HM:=hide hm
 clear hT hR hWf h hl hr hwa hrb hrs hTa hbB hsB hm
 go_enter Tryd.func16,Tryd.ntmps16
 go_upto_region 1 with fail
 rw [← HWA.out,← HRS.out,← HRB.out]
 go_wp2_with fail
 go_loopw [14] (fun iv wr=>∃ (i:Nat) (sA':Option Addr) (sn' sc':Nat) (sL':List PRow) (A':Option Addr) (n' c':Nat) (v':Value) (q':Nat),iv=.int .i64 i∧i≤tn∧Hid (StY W wr s d tb v' (runS (T.take i) (L,R)).1 q' (runS (T.take i) (L,R)).2)∧Hid (Fresh w v v')∧Hid (RfL W.heap.size wr ⟨sA',sn',sc',sL'⟩ (runS (T.take i) (L,R)).1)∧Hid (RwL wr A' n' c' (runS (T.take i) (L,R)).2) ∧
   Hid (Blk wr rb 39 #[.slice sA' sn' sc',.slice A' n' c'])∧Hid (Blk wr rs 39 #[.slice none 0 0,.slice none 0 0])∧Hid (Touch (stF d tb v) w wr)) (fun iv _=>tn-(intOf iv).toNat)
 case atStart=>exact ⟨0,sA,sn,sc,sL,A,n,c,v,q,rfl,Nat.zero_le _,HYA,hide (.inl rfl),HLA,HRA,HBB,HSB,hide (HTA.out.up _)⟩
 case round =>
  obtain ⟨i,sA',sn',sc',sL',A',n',c',v',q',rfl,hin',HY,HF,HLr,HRr,HBr,HSr,HTr⟩:=hrel
  obtain ⟨wo,hwo⟩:∃ y,y=wr:=⟨_,rfl⟩
  subst hwo
  by_cases hin:i<tn
  ·have y0:(i:Int)<(tn:Int):=by omega
   have y1:(0:Int)≤(i:Int):=by omega
   have y2:IntKind.i64.wrap ((i:Int)+1)=(i:Int)+1:=IntWalk.i64_in _ (by have:=HM.out;omega)
   obtain ⟨gl,ol,hAl,hgl,l0,l1,l2,l3,l4⟩:=cmd_at (HRD.out.touch HY.out.t (fun _ _ f=>f)) HTL.out.symm i hin
   subst hAl
   have hwf:(T.getD i CmdP.zero).Wf:=HWO.out _ (tdgetD (by rw [HTL.out];exact hin))
   have hrun:=runS_succ T i (by rw [HTL.out];exact hin) (L,R)
   obtain ⟨⟨kd,sid,sq,kw,kn⟩,ho⟩:∃ o,o=T.getD i CmdP.zero:=⟨_,rfl⟩
   rw [← ho] at l0 l1 l2 l3 l4 hwf hrun
   simp only at l0 l1 l2 l3 l4
   obtain ⟨⟨Li,Ri⟩,hLR⟩:∃ y,y=runS (T.take i) (L,R):=⟨_,rfl⟩
   rw [← hLR] at hrun HY HLr HRr
   simp only [stepS] at hrun HY HLr HRr
   obtain ⟨Lj,hLj⟩:∃ y,y=doL ⟨kd,sid,sq,kw,kn⟩ Li Ri:=⟨_,rfl⟩
   obtain ⟨Rj,hRj⟩:∃ y,y=doR ⟨kd,sid,sq,kw,kn⟩ Li Ri:=⟨_,rfl⟩
   obtain ⟨⟨a0,a1,a2,a3⟩,haj⟩:∃ y,y=doA ⟨kd,sid,sq,kw,kn⟩ Li Ri:=⟨_,rfl⟩
   have hcall:=fun (wx:World) (t:Touch (fun _=>False) wo wx)=>rdo_any wx W.heap.size (HLr.out.quiet t) HY.out.st.dct.dict (HRr.out.quiet t) (by have h1:=HY.out.t.size;have h2:=t.size;omega) ⟨kd,sid,sq,kw,kn⟩ hwf
   have hcall2:=fun (wx:World) (t:StY W wx s d tb v' Li q' Ri)=>sdo_yf wx t ⟨kd,sid,sq,kw,kn⟩ hwf
   rw [← hLj,← hRj] at hrun hcall hcall2
   rw [← haj] at hcall hcall2
   simp only [ansV,SL.val,CmdP.val] at hcall hcall2
   have HC:=hide hcall
   have HC2:=hide hcall2
   have HRUN:=hide hrun
   have HIN:=hide hin
   obtain ⟨b0,b1,b2⟩:=HBr.out.facts
   clear ho hwf hrun hLR hLj hRj haj hcall hcall2 hin hin'
   go_wp2_with fail
   refine (HC.out _ ((Touch.refl _ _).alloc _)).mono ?_
   rintro e w1 ⟨⟨jA,jn,jc,jL⟩,A1,n1,c1,rfl,hl1,hr1,T1⟩
   have hT1:Touch (fun _=>False) wo w1:=((Touch.refl _ _).alloc _).then T1
   have HGC:=hide ((Blk.new wo 29 #[.int .i64 kd,.int .u64 sid,.int .u64 sq,.string kw,.int .i64 kn]).touch T1 (fun f=>f))
   have HL1:=hide hl1
   have HR1:=hide hr1
   have HT1:=hide hT1
   have HY1:=hide (HY.out.quiet hT1)
   have HBr1:=hide (HBr.out.touch hT1 (fun f=>f))
   have HSr1:=hide (HSr.out.touch hT1 (fun f=>f))
   obtain ⟨gc,hgc⟩:∃ y,y=wo.heap.size:=⟨_,rfl⟩
   rw [← hgc] at HGC ⊢
   clear hl1 hr1 T1 hT1 HC b0 b1 b2 l0 l1 l2 l3 l4 hgc
   obtain ⟨b0,b1,b2⟩:=HBr1.out.facts
   obtain ⟨g0,g1,g2⟩:=HGC.out.facts
   simp only [SL.val]
   go_upto_region 6 with fail
   obtain ⟨w2,hw2⟩:∃ y,y=(((w1.setCell ⟨rb,0,none⟩ (.slice jA jn jc)).setCell ⟨rb,1,none⟩ (.slice A1 n1 c1)).alloc (.cells #[.slice jA jn jc,.slice A1 n1 c1] 39)).alloc (.cells #[.int .i64 a1,.int .u64 a2,.int .i64 a3] 34):=⟨_,rfl⟩
   obtain ⟨ga,hga⟩:∃ y,y=w1.heap.size+1:=⟨_,rfl⟩
   have T2:Touch (fun g=>g=rb) w1 w2:=by rw [hw2];exact ((((Touch.refl (fun g=>g=rb) w1).setCell (p:=⟨rb,_,none⟩) (fun _=>rfl) _).setCell (p:=⟨rb,_,none⟩) (fun _=>rfl) _).alloc _).alloc _
   have hrbW:W.heap.size≤rb:=by have h1:=HBR.out;have h2:=HST0.out.t.size;omega
   have HY2:=hide (HY1.out.off T2 (fun g e=>⟨by omega,_,e ▸ blk_ty HBr1.out,off_rst⟩))
   have HL2:=hide (HL1.out.touch T2 (fun g hg e=>by omega) (fun g hg e=>hg.ne (blk_ty HBr1.out) (by decide) e))
   have HR2:=hide (HR1.out.touch T2 (fun g hg e=>hg.ne (blk_ty HBr1.out) (by decide) e))
   have HB2:Hid (Blk w2 rb 39 #[.slice jA jn jc,.slice A1 n1 c1]):=hide (by rw [hw2];exact ((two_cells _ _ _ _ HBr1.out).alloc _).alloc _)
   have HS2:Hid (Blk w2 rs 39 #[.slice none 0 0,.slice none 0 0]):=hide (HSr1.out.touch T2 (fun e=>HBR.out.2.2 e.symm))
   have HC4:Hid (Blk w2 gc 29 #[.int .i64 kd,.int .u64 sid,.int .u64 sq,.string kw,.int .i64 kn]):=hide (HGC.out.touch T2 (fun e=>(blk_ty HGC.out).ne (blk_ty HBr1.out) (by decide) e))
   have HA2:Hid (Blk w2 ga 34 #[.int .i64 a1,.int .u64 a2,.int .i64 a3]):=hide (by
    have h1:=Blk.new (((w1.setCell ⟨rb,0,none⟩ (.slice jA jn jc)).setCell ⟨rb,1,none⟩ (.slice A1 n1 c1)).alloc (.cells #[.slice jA jn jc,.slice A1 n1 c1] 39)) 34 #[.int .i64 a1,.int .u64 a2,.int .i64 a3]
    rw [hw2,hga]
    simpa using h1)
   have HT2:Hid (Touch (fun _=>False) w w2∨True):=hide (.inr trivial)
   have HTw:Hid (Touch (stF d tb v) w w2):=hide ((HTr.out.then (HT1.out.up _)).trans T2 (fun g hg e=>by have:=HBR.out;omega))
   have HKS:Hid (∀ wx,Touch (stF d tb v') w2 wx→wx.cell? ⟨gc,0,none⟩=some (.int .i64 kd)∧wx.cell? ⟨gc,1,none⟩=some (.int .u64 sid)∧wx.cell? ⟨gc,2,none⟩=some (.int .u64 sq)∧wx.cell? ⟨gc,3,none⟩=some (.string kw)∧wx.cell? ⟨gc,4,none⟩=some (.int .i64 kn)∧wx.cell? ⟨ga,0,none⟩=some (.int .i64 a1)∧wx.cell? ⟨ga,1,none⟩=some (.int .u64 a2)∧wx.cell? ⟨ga,2,none⟩=some (.int .i64 a3)∧Touch (stF d tb v') w2 wx):=hide (fun wx T=>by
    have e1:=HY2.out.st.keep T HC4.out off_cmd
    have e2:=HY2.out.st.keep T HA2.out off_ans
    exact ⟨(e1.cell 0).trans rfl,(e1.cell 1).trans rfl,(e1.cell 2).trans rfl,(e1.cell 3).trans rfl,(e1.cell 4).trans rfl,(e2.cell 0).trans rfl,(e2.cell 1).trans rfl,(e2.cell 2).trans rfl,T⟩)
   rw [← hw2,← hga]
   clear hw2 hga T2 hrbW b0 b1 b2 g0 g1 g2
   go_region_held3 (fun w'=>w'.cell? ⟨gc,0,none⟩=some (.int .i64 kd)∧w'.cell? ⟨gc,1,none⟩=some (.int .u64 sid)∧w'.cell? ⟨gc,2,none⟩=some (.int .u64 sq)∧w'.cell? ⟨gc,3,none⟩=some (.string kw)∧w'.cell? ⟨gc,4,none⟩=some (.int .i64 kn)∧w'.cell? ⟨ga,0,none⟩=some (.int .i64 a1)∧w'.cell? ⟨ga,1,none⟩=some (.int .u64 a2)∧w'.cell? ⟨ga,2,none⟩=some (.int .i64 a3)∧Touch (stF d tb v') w2 w')
    (first
      | exact HKS.out _ (Touch.refl _ _).drew
      | exact HKS.out _ HT3.out
      | (trace_state;fail))
    (first
      | (go_simp;refine (HC2.out _ (HY2.out.quiet (Touch.refl _ _).drew)).mono ?_;rintro e w3 ⟨rfl,⟨v3,q3,hy3,hf3⟩,T3⟩;have HF3:=hide hf3;have HT3:=hide ((Touch.refl (stF d tb v') w2).drew.then T3);have HY3:=hide hy3;clear hy3 hf3 T3;go_simp))
   go_wp2_with fail
   go_roundw
   ·refine ⟨i+1,jA,jn,jc,jL,A1,n1,c1,v3,q3,by simp,by have:=HIN.out;omega,hide ?_,?_,hide ?_,hide ?_,hide ?_,hide ?_,hide ?_⟩
    ·rw [HRUN.out];exact HY3.out
    ·exact hide (fresh_next HF.out HF3.out (by have h1:=HTw.out.size;simpa using h1))
    ·rw [HRUN.out];exact RfL.stF HY2.out HL2.out HT3.out
    ·rw [HRUN.out];exact RwL.stF HY2.out.st HR2.out HT3.out
    ·exact HY2.out.st.keep HT3.out HB2.out off_rst
    ·exact HY2.out.st.keep HT3.out HS2.out off_rst
    ·exact HTw.out.trans HT3.out (fun g hg e=>stF_back HF.out hg e)
   ·have:=HIN.out
    simp only [intOf]
    omega
  ·have y0:¬ (i:Int)<(tn:Int):=by omega
   have hie:T.take i=T:=List.take_of_length_le (by rw [HTL.out];omega)
   rw [hie] at HY HLr HRr
   obtain ⟨b0,b1,b2⟩:=HBr.out.facts
   obtain ⟨s0,s1,s2⟩:=HSr.out.facts
   clear hin hin' hie
   go_wp2_with fail
   refine bodyPost_ret (v:=.tuple #[.agg #[.slice sA' sn' sc',.slice A' n' c'],.bool true]) (results_ct rfl _ _ rs 39 _ _ _ rfl (two_cells _ _ _ _ HSr.out) Tryd.underlying39 rfl (by kernel_rfl) rfl) rfl ?_
   have T3:Touch (fun g=>g=rs) wo ((wo.setCell ⟨rs,0,none⟩ (.slice sA' sn' sc')).setCell ⟨rs,1,none⟩ (.slice A' n' c')):=((Touch.refl (fun g=>g=rs) wo).setCell (p:=⟨rs,_,none⟩) (fun _=>rfl) _).setCell (p:=⟨rs,_,none⟩) (fun _=>rfl) _
   have hrs:W.heap.size≤rs:=by have h1:=HBR.out;have h2:=HST0.out.t.size;omega
   refine ⟨⟨sA',sn',sc',sL'⟩,A',n',c',rfl,⟨v',⟨q',HY.out.off T3 (fun g e=>⟨by omega,_,e ▸ blk_ty HSr.out,off_rst⟩)⟩,HF.out⟩,HLr.out.touch T3 (fun g hg e=>by omega) (fun g hg e=>hg.ne (blk_ty HSr.out) (by decide) e),HRr.out.touch T3 (fun g hg e=>hg.ne (blk_ty HSr.out) (by decide) e),HTr.out.trans T3 (fun g hg e=>by have:=HBR.out;omega)⟩
def BegS (W:World) (T:List CmdP) (e:Ending) (w':World):Prop :=
 ∃ (s d tb:Nat) (sl:SL) (A:Option Addr) (n c:Nat) (v:Value) (q:Nat),e=.returned (.tuple #[ptrV s,.agg #[sl.val,.slice A n c],.bool true])∧StY W w' s d tb v (runS T ([],[])).1 q (runS T ([],[])).2∧RfL W.heap.size w' sl (runS T ([],[])).1∧RwL w' A n c (runS T ([],[])).2
theorem rwl_nil (w:World):RwL w none 0 0 []:=⟨World.ownsRow_nil _ _ _ _,rfl,by omega⟩
theorem rfl_nil (B0:Nat) (w:World):RfL B0 w ⟨none,0,0,[]⟩ []:=⟨⟨rfl,Reads.nil _ _ _,fun _=>⟨rfl,rfl⟩⟩,rfl,fun h=>absurd h (by simp)⟩
set_option maxRecDepth 100000 in
set_option maxHeartbeats 4000000 in
theorem begun_any {W:World} (w:World) (hL:Lst W) (hT0:Touch (fun _=>False) W w) (tA:Option Addr) (tn tc:Nat) (T:List CmdP) (hT:T.length=tn) (hR:Reads W 5 tA tn (cCells T)) (hWf:∀ o∈T,o.Wf) (hm:tn≤400) :
  Calls Tryd.prog 13 #[.slice tA tn tc] w (BegS W T):=by
 obtain ⟨wa,hwa⟩:∃ z,z=w.alloc (.cells #[.slice none 0 0,.slice none 0 0] 39):=⟨_,rfl⟩
 obtain ⟨rs,hrs⟩:∃ z,z=w.heap.size:=⟨_,rfl⟩
 have hTa:Touch (fun _=>False) w wa:=by rw [hwa];exact (Touch.refl _ _).alloc _
 have HSB:Hid (Blk wa rs 39 #[.slice none 0 0,.slice none 0 0]):=hide (by rw [hwa,hrs];exact Blk.new _ _ _)
 have HRS:Hid (W.heap.size≤rs):=hide (by rw [hrs];exact hT0.size)
 have HN:=hide (snew_y wa (Lst.touch hL (hT0.then hTa)))
 have HLW:=hide (And.intro hL (hT0.then hTa))
 have HG:=hide (fun (wx:World) {s d tb:Nat} {v:Value} {q:Nat} (h:StY W wx s d tb v [] q [])=>goes_any wx h ⟨none,0,0,[]⟩ (rfl_nil _ _) none 0 0 (rwl_nil _) tA tn tc T hT hR hWf hm)
 simp only [SL.val] at HG
 have HWA:=hide hwa
 have HRS0:=hide hrs
 clear hL hT0 hT hR hWf hm hwa hrs hTa
 go_enter Tryd.func13,Tryd.ntmps13
 go_upto_region 1 with fail
 rw [← HWA.out,← HRS0.out]
 go_wp2_with fail
 refine HN.out.mono ?_
 rintro e w1 ⟨s,d,tb,rfl,hy⟩
 have hyW:StY W w1 s d tb (.slice none 0 0) [] 0 []:=⟨hy.st,⟨Nat.le_trans HLW.out.2.size hy.y.1,Nat.le_trans HLW.out.2.size hy.y.2.1,fun g hg=>Nat.le_trans HLW.out.2.size (hy.y.2.2 g hg)⟩,HLW.out.2.then hy.t,HLW.out.1⟩
 have HSB1:=hide (HSB.out.touch hy.t (fun f=>f))
 have HG1:=hide (HG.out w1 hyW)
 have HY1:=hide hyW
 clear hy hyW HN HG
 go_wp2_with fail
 refine HG1.out.mono ?_
 rintro e w2 ⟨⟨jA,jn,jc,jL⟩,A1,n1,c1,rfl,⟨v1,⟨q1,hy1⟩,hf1⟩,hl1,hr1,T1⟩
 obtain ⟨⟨Lj,Rj⟩,hLR⟩:∃ y,y=runS T ([],[]):=⟨_,rfl⟩
 rw [← hLR] at hy1 hl1 hr1
 simp only at hy1 hl1 hr1
 have HLR:=hide hLR
 have HSB2:=hide (HY1.out.st.keep T1 HSB1.out off_rst)
 have HY2:=hide hy1
 have HL2:=hide hl1
 have HR2:=hide hr1
 simp only [SL.val]
 clear hy1 hf1 hl1 hr1 T1 HG1 hLR
 obtain ⟨r0,r1,r2⟩:=HSB2.out.facts
 go_upto_region 5 with fail
 obtain ⟨w3,hw3⟩:∃ y,y=w2.alloc (.cells #[.slice jA jn jc,.slice A1 n1 c1] 39):=⟨_,rfl⟩
 obtain ⟨g3,hg3⟩:∃ y,y=w2.heap.size:=⟨_,rfl⟩
 have T3:Touch (fun _=>False) w2 w3:=by rw [hw3];exact (Touch.refl _ _).alloc _
 have HB3:Hid (Blk w3 g3 39 #[.slice jA jn jc,.slice A1 n1 c1]):=hide (by rw [hw3,hg3];exact Blk.new _ _ _)
 have HSB3:=hide (HSB2.out.touch T3 (fun f=>f))
 have HY3:=hide (HY2.out.quiet T3)
 have HL3:=hide (HL2.out.quiet T3)
 have HR3:=hide (HR2.out.quiet T3)
 have hne:¬ g3=rs:=fun e=>by have:=HSB2.out.lt;omega
 rw [← hw3,← hg3]
 clear hw3 hg3 T3 r0 r1 r2
 obtain ⟨r0,r1,r2⟩:=HSB3.out.facts
 obtain ⟨b0,b1,b2⟩:=HB3.out.facts
 go_region
 go_wp2_with fail
 refine bodyPost_ret (v:=.tuple #[ptrV s,.agg #[.slice jA jn jc,.slice A1 n1 c1],.bool true]) (results_tct rfl _ _ rs 39 _ _ _ _ rfl rfl (two_cells _ _ _ _ HSB3.out).drew Tryd.underlying39 rfl (by kernel_rfl) rfl) rfl ?_
 have T4:Touch (fun g=>g=rs) w3 ((w3.setCell ⟨rs,0,none⟩ (.slice jA jn jc)).setCell ⟨rs,1,none⟩ (.slice A1 n1 c1)).drew:=(((Touch.refl (fun g=>g=rs) w3).setCell (p:=⟨rs,_,none⟩) (fun _=>rfl) _).setCell (p:=⟨rs,_,none⟩) (fun _=>rfl) _).drew
 have hrsW:=HRS.out
 unfold BegS
 rw [← HLR.out]
 exact ⟨s,d,tb,⟨jA,jn,jc,jL⟩,A1,n1,c1,v1,q1,rfl,HY3.out.off T4 (fun g e=>⟨by omega,_,e ▸ blk_ty HSB3.out,off_rst⟩),HL3.out.touch T4 (fun g hg e=>by omega) (fun g hg e=>hg.ne (blk_ty HSB3.out) (by decide) e),HR3.out.touch T4 (fun g hg e=>hg.ne (blk_ty HSB3.out) (by decide) e)⟩
theorem rows_at {w:World} {A:Option Addr} {c:Nat} {R:List SRow} {t:TypeId} (h:w.ownsRow 0 t 4 (.slice A R.length c) R.length (rowCells R)) (k:Nat) (hk':k<R.length) :
  ∃ g,A=some ⟨g,0,none⟩∧g<w.heap.size∧w.cell? ⟨g,k*4,none⟩=some (.int .u64 (R.getD k SRow.zero).seq)∧w.cell? ⟨g,k*4+1,none⟩=some (.int .i64 (R.getD k SRow.zero).code) ∧
   w.cell? ⟨g,k*4+2,none⟩=some (.int .u64 (R.getD k SRow.zero).sess)∧w.cell? ⟨g,k*4+3,none⟩=some (.int .i64 (R.getD k SRow.zero).had):=by
 obtain ⟨g,cap,hv,hle,_,hg,hc,_⟩:=own_form h (by omega)
 injection hv with hA' _ hcc
 have e:R.getD k SRow.zero=R[k]:=by simp [List.getD,hk']
 rw [e]
 refine ⟨g,hA',hg,?_,?_,?_,?_⟩
 ·exact hc _ _ (by have:=rowCells_at R k hk' 0 (by omega);rw [show k*4=4*k+0 by omega,this];rfl)
 ·exact hc _ _ (by have:=rowCells_at R k hk' 1 (by omega);rw [show k*4+1=4*k+1 by omega,this];rfl)
 ·exact hc _ _ (by have:=rowCells_at R k hk' 2 (by omega);rw [show k*4+2=4*k+2 by omega,this];rfl)
 ·exact hc _ _ (by have:=rowCells_at R k hk' 3 (by omega);rw [show k*4+3=4*k+3 by omega,this];rfl)
set_option maxRecDepth 100000 in
set_option maxHeartbeats 4000000 in
theorem stands_any (w:World) (hL:Lst w) {s d tb:Nat} {v:Value} {L:List PRow} {q:Nat} {R:List SRow} (h:StX w s d tb v L q R) (B0:Nat) (sl:SL) (hl:RfL B0 w sl L) (A:Option Addr) (n c:Nat) (hr:RwL w A n c R) :
  Calls Tryd.prog 14 #[ptrV s,.agg #[sl.val,.slice A n c]] w fun e w'=>e=.returned (.bool true)∧Touch (fun _=>False) w w':=by
 have heq:=hl.eq
 have hsl:=hl.ok.len
 obtain ⟨sA,sn,sc,sL⟩:=sl
 simp only at heq hsl
 subst heq
 subst hsl
 have hrl:=hr.len
 subst hrl
 have HLN:Hid (sL.length≤4096):=hide h.dct.dict.len
 have HRF:Hid (R.length≤4096):=hide h.few
 obtain ⟨wa,hwa⟩:∃ z,z=w.alloc (.cells #[.slice sA sL.length sc,.slice A R.length c] 39):=⟨_,rfl⟩
 obtain ⟨rb,hrb⟩:∃ z,z=w.heap.size:=⟨_,rfl⟩
 have hTa:Touch (fun _=>False) w wa:=by rw [hwa];exact (Touch.refl _ _).alloc _
 have HBB:Hid (Blk wa rb 39 #[.slice sA sL.length sc,.slice A R.length c]):=hide (by rw [hwa,hrb];exact Blk.new _ _ _)
 have HSS:=hide (sessions_st wa (h.quiet hTa))
 have HWD:=hide (fun (wx:World) (T:Touch (fun _=>False) wa wx)=>words_st wx (Lst.touch hL (hTa.then T)) ((h.quiet hTa).quiet T))
 have HSM:=hide (fun (wx:World) (T:Touch (fun _=>False) wa wx) (A':Option Addr) (c':Nat) (hp:POwn wx A' sL.length c' sL)=>psame_yes wx A' sL.length c' sL rfl (Reads.of_own hp) (by have:=HLN.out;unfold maxLen;omega) sA sc ((hl.quiet hTa).quiet T).ok.reads)
 have HRW:=hide (hr.quiet hTa)
 have HTA:=hide hTa
 have HWA:=hide hwa
 have HRB:=hide hrb
 simp only [SL.val]
 clear hL h hl hr hwa hrb hTa
 go_enter Tryd.func14,Tryd.ntmps14
 go_upto_region 1 with fail
 rw [← HWA.out,← HRB.out]
 go_wp2_with fail
 refine HSS.out.mono ?_
 rintro e w1 ⟨v1,rfl,ho1,T1,hfr1⟩
 obtain ⟨A1,c1,hv1,_,_⟩:=own_len ho1
 subst hv1
 have HO1:=hide ho1
 have HT1:=hide T1
 have HB1:=hide (HBB.out.touch T1 (fun f=>f))
 have HKS:Hid (∀ wx,Touch (fun _=>False) w1 wx→wx.cell? ⟨rb,0,none⟩=some (.slice sA sL.length sc)∧wx.cell? ⟨rb,1,none⟩=some (.slice A R.length c)∧Touch (fun _=>False) w1 wx):=hide (fun wx T=>⟨((HB1.out.touch T (fun f=>f)).cell 0).trans rfl,((HB1.out.touch T (fun f=>f)).cell 1).trans rfl,T⟩)
 clear ho1 T1 hfr1 HSS
 have HRR:=hide (HRW.out.quiet HT1.out)
 go_upto_region 2 with fail
 go_region_held3 (fun w'=>w'.cell? ⟨rb,0,none⟩=some (.slice sA sL.length sc)∧w'.cell? ⟨rb,1,none⟩=some (.slice A R.length c)∧Touch (fun _=>False) w1 w')
  (first
    | exact HKS.out _ (Touch.refl _ _).drew
    | exact HKS.out _ HT2.out
    | exact HKS.out _ HT3.out
    | (trace_state;fail))
  (first
    | (go_simp;refine (HWD.out _ (HT1.out.then (Touch.refl _ _).drew)).mono ?_;rintro e w2 ⟨A2,c2,rfl,hp2,T2⟩;have HT2:=hide ((Touch.refl (fun _=>False) w1).drew.then T2);have HP2:=hide hp2;clear hp2 T2;go_simp)
    | (go_simp;refine (HSM.out _ (HT1.out.then HT2.out) _ _ HP2.out).mono ?_;rintro e w3 ⟨rfl,T3⟩;have HT3:=hide (HT2.out.then T3);clear T3;go_simp))
 go_wp2_with fail
 go_loopw [25] (fun iv wr=>∃ k:Nat,iv=.int .i64 k∧k≤R.length∧Hid (Touch (fun _=>False) w1 wr)) (fun iv _=>R.length-(intOf iv).toNat)
 case atStart=>exact ⟨0,rfl,Nat.zero_le _,HT3⟩
 case round =>
  obtain ⟨k,rfl,hk,HTk⟩:=hrel
  obtain ⟨wk,hwk⟩:∃ y,y=wr:=⟨_,rfl⟩
  subst hwk
  have HBk:=hide (HB1.out.touch HTk.out (fun f=>f))
  obtain ⟨b0,b1,b2⟩:=HBk.out.facts
  by_cases hkn:k<R.length
  ·have k0:(k:Int)<(R.length:Int):=by omega
   have k3:(0:Int)≤(k:Int):=by omega
   have k4:IntKind.i64.wrap ((k:Int)+1)=(k:Int)+1:=IntWalk.i64_in _ (by have:=HRF.out;omega)
   obtain ⟨g1,hA1,hg1,d0,d1,d2,d3⟩:=rows_at (own_touch HO1.out HTk.out (fun _ _ f=>f)) k hkn
   obtain ⟨g2,hA2,hg2,e0,e1,e2,e3⟩:=rows_at (HRR.out.quiet HTk.out).own k hkn
   subst hA1 hA2
   obtain ⟨⟨xs,xc,xr,xh⟩,hx⟩:∃ x,x=R.getD k SRow.zero:=⟨_,rfl⟩
   rw [← hx] at d0 d1 d2 d3 e0 e1 e2 e3
   simp only at d0 d1 d2 d3 e0 e1 e2 e3
   have HKN:=hide hkn
   clear hx hk hkn hg1 hg2
   go_upto_region 7 with fail
   go_quiet (fail)
   go_wp2_with fail
   go_roundw
   ·exact ⟨k+1,by simp,by have:=HKN.out;omega,hide (HTk.out.drewN _)⟩
   ·have:=HKN.out
    simp only [intOf]
    omega
  ·have k0:¬ (k:Int)<(R.length:Int):=by omega
   have HTE:=hide ((HTA.out.then HT1.out).then HTk.out)
   clear hk hkn
   go_wp2_with fail
   go_ret
   exact ⟨rfl,HTE.out⟩
end Go.Proofs.YthockgmbooefpaaDoor
namespace Go.Proofs.YthockgmbooefpaaDoor
open Go.RowKit Go.ChangeShapes Go.WideShapes Go.ChangeAt
section
variable {H:Type} {enc:TypeId × Value→H} {w:World} {base:Nat} {spare:Nat→Bool} {held:Bool}
instance:Inhabited CmdP:=⟨CmdP.zero⟩
theorem list5 {α:Type} {l:List α} (h:l.length=5):∃ a b c d e,l=[a,b,c,d,e]:=by
 match l,h with
 | [a,b,c,d,e],_=>exact ⟨a,b,c,d,e,rfl⟩
theorem cmd_elem (n:Nat) (cs:List Value) (y:DataW H × List MemPlace) (hl:cs.length=5) (h:DataW.trod enc Tryd.prog w base spare held n 29 cs=some y):∃ r:CmdP,cs=r.cells∧r.word.size≤Rows.uptoBulk y.1∧r.In:=by
 obtain ⟨b,hb,_⟩:=field_int (k:=.i64) Tryd.underlying29 h 0 _ rfl (by kernel_rfl) (by kernel_rfl)
 obtain ⟨s1,hs1,i1⟩:=field_int (k:=.u64) Tryd.underlying29 h 1 _ rfl (by kernel_rfl) (by kernel_rfl)
 obtain ⟨s2,hs2,i2⟩:=field_int (k:=.u64) Tryd.underlying29 h 2 _ rfl (by kernel_rfl) (by kernel_rfl)
 obtain ⟨s,hs,ws⟩:=field_bulk Tryd.underlying29 h 3 _ rfl (by kernel_rfl) (by kernel_rfl)
 obtain ⟨c,hc,_⟩:=field_int (k:=.i64) Tryd.underlying29 h 4 _ rfl (by kernel_rfl) (by kernel_rfl)
 obtain ⟨x0,x1,x2,x3,x4,rfl⟩:=list5 hl
 simp at hs hb hc hs1 hs2
 refine ⟨⟨b,s1,s2,s,c⟩,by rw [hs,hb,hc,hs1,hs2];rfl,ws,?_⟩
 unfold CmdP.In
 simp only
 have j1:=i1
 have j2:=i2
 simp [Lit.wf] at j1 j2
 have m1:IntKind.u64.min=0:=by decide
 have m2:IntKind.u64.max=18446744073709551615:=by decide
 omega
abbrev CmdI:={c:CmdP // c.In}
instance:Inhabited CmdI:=⟨⟨CmdP.zero,by unfold CmdP.In CmdP.zero;simp⟩⟩
set_option maxRecDepth 100000 in
theorem open_cmds {r:Reach} {b0:Nat} {v:Value} {d:DataW H} {p:List MemPlace} (hv:Value.okWide Tryd.prog w r b0 22 v) (h:DataW.Trod enc Tryd.prog w base spare held 22 v d p) :
  ∃ A len cap,∃ l:List CmdP,v=.slice A len cap∧l.length=len∧Reads w 5 A len (cCells l)∧len≤maxLen∧(∀ o∈l,o.word.size≤Rows.uptoBulk d)∧∀ o∈l,o.In:=by
 obtain ⟨a0,len,cap,rfl⟩:=okWide_slice Tryd.underlying22 hv
 obtain ⟨fuel,hf⟩:=h
 obtain ⟨A,len',cap',l,hcs,hl,hlc,hm,hn,hr,hw,_⟩:=open_rowsB (R:=CmdI) (fun o=>o.1.cells) (fun o=>o.1.word.size) 5 (fun _=>rfl) (by decide) Tryd.underlying22 (by kernel_rfl) (fun n cs y h1 h2=>by obtain ⟨r,e1,e2,e3⟩:=cmd_elem n cs y h1 h2;exact ⟨⟨r,e3⟩,e1,e2⟩) hf
 simp [Value.cells] at hcs
 obtain ⟨rfl,rfl,rfl⟩:=hcs
 refine ⟨_,_,_,l.map (·.1),rfl,by simpa using hl,?_,Nat.le_trans hlc hm,?_,?_⟩
 ·unfold cCells
  rw [List.flatMap_map]
  exact hr
 ·intro o ho
  obtain ⟨x,hx,rfl⟩:=List.mem_map.1 ho
  exact hw x hx
 ·intro o ho
  obtain ⟨x,hx,rfl⟩:=List.mem_map.1 ho
  exact x.2
set_option maxRecDepth 100000 in
theorem open_cmd {r:Reach} {b0:Nat} {v:Value} {d:DataW H} {p:List MemPlace} (hv:Value.okWide Tryd.prog w r b0 29 v) (h:DataW.Trod enc Tryd.prog w base spare held 29 v d p) :
  ∃ o:CmdP,v=o.val∧o.word.size≤Rows.uptoBulk d∧o.In:=by
 obtain ⟨cs,rfl,hsz⟩:=okWide_struct Tryd.underlying29 hv
 obtain ⟨fuel,hf⟩:=h
 have hC:Tryd.prog.cellsOf 29 = 5:=by kernel_rfl
 obtain ⟨o,ho,hw,hi⟩:=cmd_elem _ _ _ (by show cs.toList.length=5;rw [Array.length_toList];exact hsz.trans hC) hf
 refine ⟨o,?_,hw,hi⟩
 have:cs.toList=o.cells:=ho
 have e:cs=#[.int .i64 o.kind,.int .u64 o.sess,.int .u64 o.seq,.string o.word,.int .i64 o.n]:=by rw [← Array.toArray_toList (xs:=cs),this];rfl
 rw [e];rfl
end
end Go.Proofs.YthockgmbooefpaaDoor
