/- What the law rests on, part 32. No condition but those that each theorem names. -/
import Derived.Test.YthockgmbooefpaaGreatDoorL21
import Derived.Test.YthockgmbooefpaaGreatDoorL31
import Derived.Deep.RegionHeld3
import Derived.Deep.CutRange
set_option linter.unusedSectionVars false
set_option linter.unusedSimpArgs false
set_option linter.unusedVariables false
set_option maxRecDepth 100000
set_option maxHeartbeats 4000000
namespace Go.Proofs.YthockgmbooefpaaGreatDoor
open Go.RowKit
structure CmdP where
 kind:Int
 sess:Int
 seq:Int
 word:ByteArray
 n:Int
def CmdP.zero:CmdP:=⟨0,0,0,ByteArray.empty,0⟩
def CmdP.cells (c:CmdP):List Value:=[.int .i64 c.kind,.int .u64 c.sess,.int .u64 c.seq,.string c.word,.int .i64 c.n]
def CmdP.val (c:CmdP):Value:=.agg #[.int .i64 c.kind,.int .u64 c.sess,.int .u64 c.seq,.string c.word,.int .i64 c.n]
def CmdP.Wf (c:CmdP):Prop:=c.word.size≤1099511627776
def ansV (a:SRow):Value:=.agg #[.int .i64 a.code,.int .u64 a.sess,.int .i64 a.had]
def doW (c:CmdP) (L:List PRow):List PRow:=if c.kind=2 then setL L c.word c.n else remL L c.word
def doH (c:CmdP) (L:List PRow):Int:=if c.kind=2 then setH L c.word c.n else remH L c.word
def doE (c:CmdP) (L:List PRow):Int:=if c.kind=2 then setE L c.word.toList c.n else remE L c.word.toList
def doC (c:CmdP) (R:List SRow):CRes:=chk (thereB R c.sess) (rowAt R c.sess) c.seq
def doA (c:CmdP) (L:List PRow) (R:List SRow):SRow :=
 if c.kind=1 then (if R.length<4096 then ⟨0,0,(R.length:Int)+1,0⟩ else ⟨0,152,0,0⟩)
 else if c.kind=2∨c.kind=3 then
  (if ¬ (doC c R).e=0 then ⟨0,(doC c R).e,0,0⟩ else if (doC c R).b=true then ⟨0,(doC c R).c,(doC c R).s,(doC c R).h⟩ else ⟨0,doE c L,0,doH c L⟩)
 else ⟨0,161,0,0⟩
def goesB (c:CmdP) (R:List SRow):Bool:=decide (c.kind=2∨c.kind=3) && decide ((doC c R).e=0) && !(doC c R).b
def doL (c:CmdP) (L:List PRow) (R:List SRow):List PRow:=if goesB c R=true then doW c L else L
def doR (c:CmdP) (L:List PRow) (R:List SRow):List SRow :=
 if c.kind=1 then (if R.length<4096 then R++[SRow.zero] else R)
 else if goesB c R=true then R.set (c.sess-1).toNat ⟨c.seq,doE c L,0,doH c L⟩ else R
structure StX (w:World) (s d tb:Nat) (v:Value) (L:List PRow) (q:Nat) (R:List SRow):Prop where
 blk:Blk w s 77 #[ptrV d,ptrV tb]
 dct:DctM w d L q
 tab:Tab w tb v R
 few:R.length≤4096
def stF (d tb:Nat) (v:Value):Nat→Prop:=fun g=>g=d∨fp tb v g
theorem StX.quiet {w w':World} {s d tb:Nat} {v:Value} {L:List PRow} {q:Nat} {R:List SRow} (h:StX w s d tb v L q R) (T:Touch (fun _=>False) w w'):StX w' s d tb v L q R :=
 ⟨h.blk.touch T (fun f=>f),h.dct.quiet T,h.tab.touch T (fun f=>f) (fun _ _ f=>f),h.few⟩
theorem chk_new {t:Bool} {r:SRow} {sq:Int} {K:CRes} (h:chk t r sq=K) (he:K.e=0) (hb:K.b=false):t=true∧r.seq<sq∧K=⟨0,0,0,false,0⟩:=by
 subst h
 unfold chk at he hb ⊢
 cases t with
 | false=>simp at he
 | true =>
  by_cases h1:sq=0∨sq<r.seq
  ·simp [h1] at he
  ·by_cases h2:sq=r.seq
   ·rw [if_neg (by simp),if_neg h1,if_pos h2] at hb
    simp at hb
   ·rw [if_neg (by simp),if_neg h1,if_neg h2]
    exact ⟨rfl,by omega,rfl⟩
theorem do_err {c:CmdP} {L:List PRow} {R:List SRow} {K:CRes} (hk:c.kind=2∨c.kind=3) (h:doC c R=K) (he:¬ K.e=0):doA c L R=⟨0,K.e,0,0⟩∧doL c L R=L∧doR c L R=R:=by
 subst h
 have h1:¬ c.kind=1:=by omega
 have hg:goesB c R=false:=by simp [goesB,he]
 exact ⟨by unfold doA;rw [if_neg h1,if_pos hk,if_pos he],by unfold doL;rw [hg];rfl,by unfold doR;rw [if_neg h1,hg];rfl⟩
theorem do_again {c:CmdP} {L:List PRow} {R:List SRow} {K:CRes} (hk:c.kind=2∨c.kind=3) (h:doC c R=K) (he:K.e=0) (hb:K.b=true):doA c L R=⟨0,K.c,K.s,K.h⟩∧doL c L R=L∧doR c L R=R:=by
 subst h
 have h1:¬ c.kind=1:=by omega
 have hg:goesB c R=false:=by simp [goesB,hb]
 exact ⟨by unfold doA;rw [if_neg h1,if_pos hk,if_neg (by omega),if_pos hb],by unfold doL;rw [hg];rfl,by unfold doR;rw [if_neg h1,hg];rfl⟩
theorem do_new {c:CmdP} {L:List PRow} {R:List SRow} {K:CRes} (hk:c.kind=2∨c.kind=3) (h:doC c R=K) (he:K.e=0) (hb:K.b=false):doA c L R=⟨0,doE c L,0,doH c L⟩∧doL c L R=doW c L∧doR c L R=R.set (c.sess-1).toNat ⟨c.seq,doE c L,0,doH c L⟩:=by
 subst h
 have h1:¬ c.kind=1:=by omega
 have hg:goesB c R=true:=by simp [goesB,hb,he,hk]
 exact ⟨by unfold doA;rw [if_neg h1,if_pos hk,if_neg (by omega),hb];rfl,by unfold doL;rw [hg];rfl,by unfold doR;rw [if_neg h1,hg];rfl⟩
theorem fp_ty {w:World} {tb:Nat} {v:Value} {R:List SRow} (h:Tab w tb v R) {g:Nat} (hg:fp tb v g):TyAt w g 149 ∨ TyAt w g 110 := by
 rcases hg with rfl | hg
 ·exact .inl (blk_ty h.1)
 ·exact .inr (own_ty h.2 hg)
theorem fp_no {w:World} {tb:Nat} {v:Value} {R:List SRow} (h:Tab w tb v R) {g:Nat} {t:TypeId} (hg:TyAt w g t) (h1:t ≠ 149) (h2:t ≠ 110):¬ fp tb v g:=fun f=>by
 rcases fp_ty h f with k | k
 ·exact hg.ne k h1 rfl
 ·exact hg.ne k h2 rfl
theorem fp_lt {w:World} {tb:Nat} {v:Value} {R:List SRow} (h:Tab w tb v R) {g:Nat} (hg:fp tb v g):g<w.heap.size:=by
 rcases fp_ty h hg with k | k<;>exact k.lt
theorem StX.tabbed {w w':World} {s d tb:Nat} {v v':Value} {L:List PRow} {q:Nat} {R R':List SRow} (h:StX w s d tb v L q R) (T:Touch (fp tb v) w w') (ht:Tab w' tb v' R') (hn:R'.length≤4096):StX w' s d tb v' L q R' :=
 ⟨h.blk.touch T (fp_no h.tab (blk_ty h.blk) (by decide) (by decide)),h.dct.far T (fp_no h.tab h.dct.ty (by decide) (by decide)) (fun g t hg ht=>fp_no h.tab hg (by rcases ht with rfl | rfl | rfl | rfl | rfl<;>decide) (by rcases ht with rfl | rfl | rfl | rfl | rfl<;>decide)),ht,hn⟩
theorem StX.worded {w w':World} {s d tb:Nat} {v:Value} {L L':List PRow} {q q':Nat} {R:List SRow} (h:StX w s d tb v L q R) (T:Touch (fun g=>g=d) w w') (hd:DctM w' d L' q'):StX w' s d tb v L' q' R :=
 ⟨h.blk.touch T ((blk_ty h.blk).ne h.dct.ty (by decide)),hd,h.tab.touch T ((blk_ty h.tab.1).ne h.dct.ty (by decide)) (fun g hg=>(own_ty h.tab.2 hg).ne h.dct.ty (by decide)),h.few⟩
def offT (t:TypeId):Prop:=t ≠ 77 ∧ t ≠ 96 ∧ t ≠ 149 ∧ t ≠ 110 ∧ ¬ dctT t
theorem StX.off {w w':World} {s d tb:Nat} {v:Value} {L:List PRow} {q:Nat} {R:List SRow} {S:Nat→Prop} (h:StX w s d tb v L q R) (T:Touch S w w') (hS:∀ g,S g→∃ t,TyAt w g t∧offT t):StX w' s d tb v L q R:=by
 have key:∀ {g:Nat} {t:TypeId},TyAt w g t→(t = 77 ∨ t = 96 ∨ t = 149 ∨ t = 110 ∨ dctT t)→¬ S g:=fun {g t} hg ht f=>by
  obtain ⟨t',hg',o1,o2,o3,o4,o5⟩:=hS g f
  refine hg.ne hg' ?_ rfl
  rintro rfl
  rcases ht with e | e | e | e | e
  ·exact o1 e
  ·exact o2 e
  ·exact o3 e
  ·exact o4 e
  ·exact o5 e
 exact ⟨h.blk.touch T (key (blk_ty h.blk) (.inl rfl)),h.dct.far T (key h.dct.ty (.inr (.inl rfl))) (fun g t hg ht=>key hg (.inr (.inr (.inr (.inr ht))))),h.tab.touch T (key (blk_ty h.tab.1) (.inr (.inr (.inl rfl)))) (fun g hg=>key (own_ty h.tab.2 hg) (.inr (.inr (.inr (.inl rfl))))),h.few⟩
theorem off_ans:offT 32 := by unfold offT dctT;decide
theorem StX.ans {w w':World} {s d tb:Nat} {v:Value} {L:List PRow} {q:Nat} {R:List SRow} {g:Nat} {cs:Array Value} (h:StX w s d tb v L q R) (hb:Blk w g 32 cs) (T:Touch (fun k=>k=g) w w'):StX w' s d tb v L q R :=
 h.off T (fun k e=>⟨_,e ▸ blk_ty hb,off_ans⟩)
theorem Fresh.of {w wa:World} {v v':Value} (h:Fresh wa v v') (hs:w.heap.size≤wa.heap.size):Fresh w v v':=h.imp id (fun ⟨g,h1,h2⟩=>⟨g,h1,Nat.le_trans hs h2⟩)
theorem stF_lt {w:World} {s d tb:Nat} {v:Value} {L:List PRow} {q:Nat} {R:List SRow} (h:StX w s d tb v L q R) {g:Nat} (hg:stF d tb v g):g<w.heap.size:=by
 rcases hg with rfl | hg
 ·exact h.dct.ty.lt
 ·exact fp_lt h.tab hg
theorem snew_any (w:World) (hL:Lst w):Calls Tryz.prog 9 #[] w fun e w' =>
  ∃ s d tb,e=.returned (ptrV s)∧StX w' s d tb (.slice none 0 0) [] 0 []∧w.heap.size≤s∧w.heap.size≤d∧w.heap.size≤tb∧Touch (fun _=>False) w w':=by
 have HL:=hide hL
 clear hL
 go_enter Tryz.func9,Tryz.ntmps9
 go_wp2_with fail
 refine (dnew14_any w HL.out).mono ?_
 rintro e w1 ⟨d,rfl,hd,hdw,T1⟩
 have HD:=hide hd
 have HDW:=hide hdw
 have HT1:=hide T1
 clear hd hdw T1
 go_wp2_with fail
 refine (ses_new w1).mono ?_
 rintro e w2 ⟨rfl,ht,T2⟩
 have HTB:=hide ht
 have HT2:=hide T2
 clear ht T2
 obtain ⟨tb,htb⟩:∃ y,y=w1.heap.size:=⟨_,rfl⟩
 rw [← htb] at HTB ⊢
 have HTE:=hide htb
 clear htb
 go_wp2_with fail
 go_ret
 have T12:=HT1.out.then HT2.out
 refine ⟨w2.heap.size,d,tb,rfl,⟨Blk.new _ _ _,(HD.out.quiet HT2.out).quiet ((Touch.refl _ _).alloc _),HTB.out.alloc _,by simp⟩,T12.size,HDW.out,?_,T12.alloc _⟩
 rw [HTE.out]
 exact HT1.out.size
theorem do1_any (w:World) (hL:Lst w) {d:Nat} {L:List PRow} {q:Nat} (h:DctM w d L q) (k:ByteArray) (hk:k.size≤1099511627776) (n:Int) :
  Calls Tryz.prog 34 #[ptrV d,.string k,.int .i64 n] w fun e w'=>e=.returned (.tuple #[.int .i64 (remH L k),.int .i64 (remE L k.toList)])∧(∃ q',DctM w' d (remL L k) q')∧Touch (fun g=>g=d) w w':=by
 have HC:=hide (dremove_any w hL h k hk)
 obtain ⟨hh,hhh⟩:∃ x,x=remH L k:=⟨_,rfl⟩
 obtain ⟨ee,hee⟩:∃ x,x=remE L k.toList:=⟨_,rfl⟩
 rw [← hhh,← hee] at HC ⊢
 clear hL h hhh hee
 go_enter Tryz.func34,Tryz.ntmps34
 go_wp2_with fail
 refine HC.out.mono ?_
 rintro e w1 ⟨rfl,hq⟩
 have HQ:=hide hq
 clear hq
 go_wp2_with fail
 go_ret2
 exact ⟨rfl,HQ.out⟩
theorem schange_any (w:World) (hL:Lst w) {d:Nat} {L:List PRow} {q:Nat} (h:DctM w d L q) (kd sid sq:Int) (k:ByteArray) (hk:k.size≤1099511627776) (n:Int) (hkd:kd=2∨kd=3) :
  Calls Tryz.prog (if kd=2 then 32 else 34) #[ptrV d,.string k,.int .i64 n] w fun e w'=>e=.returned (.tuple #[.int .i64 (doH ⟨kd,sid,sq,k,n⟩ L),.int .i64 (doE ⟨kd,sid,sq,k,n⟩ L)])∧(∃ q',DctM w' d (doW ⟨kd,sid,sq,k,n⟩ L) q')∧Touch (fun g=>g=d) w w':=by
 rcases hkd with rfl | rfl
 ·exact dset_any w hL h k hk n
 ·exact do1_any w hL h k hk n
theorem ans_cells {w:World} {g:Nat} (a b c:Value) (x y z:Value) (h:Blk w g 32 #[x,y,z]):Blk (((w.setCell ⟨g,0,none⟩ a).setCell ⟨g,1,none⟩ b).setCell ⟨g,2,none⟩ c) g 32 #[a,b,c]:=by
 have:=((h.set_ 0 a).set_ 1 b).set_ 2 c
 simpa using this
theorem sdo_other (w:World) (hL:Lst w) {s d tb:Nat} {v:Value} {L:List PRow} {q:Nat} {R:List SRow} (h:StX w s d tb v L q R) (sid sq n:Int) (kw:ByteArray) (hk:kw.size≤1099511627776) (kd:Int) (h1:¬ kd=1) (h2:¬ kd=2) (h3:¬ kd=3) :
  Calls Tryz.prog 10 #[ptrV s,.agg #[.int .i64 kd,.int .u64 sid,.int .u64 sq,.string kw,.int .i64 n]] w fun e w'=>e=.returned (ansV ⟨0,161,0,0⟩)∧Touch (fun _=>False) w w':=by
 obtain ⟨wa,hwa⟩:∃ z,z=(w.alloc (.cells #[.int .i64 kd,.int .u64 sid,.int .u64 sq,.string kw,.int .i64 n] 29)).alloc (.cells #[.int .i64 0,.int .u64 0,.int .i64 0] 32):=⟨_,rfl⟩
 obtain ⟨bb,hbb⟩:∃ z,z=w.heap.size:=⟨_,rfl⟩
 obtain ⟨ra,hra⟩:∃ z,z=w.heap.size+1:=⟨_,rfl⟩
 have hTa:Touch (fun _=>False) w wa:=by rw [hwa];exact ((Touch.refl _ _).alloc _).alloc _
 have hbB:Blk wa bb 29 #[.int .i64 kd,.int .u64 sid,.int .u64 sq,.string kw,.int .i64 n]:=by rw [hwa,hbb];exact (Blk.new _ _ _).alloc _
 have hrB:Blk wa ra 32 #[.int .i64 0,.int .u64 0,.int .i64 0]:=by
  have h1:=Blk.new (w.alloc (.cells #[.int .i64 kd,.int .u64 sid,.int .u64 sq,.string kw,.int .i64 n] 29)) 32 #[.int .i64 0,.int .u64 0,.int .i64 0]
  rw [hwa,hra]
  simpa using h1
 have hsa:=h.quiet hTa
 have hLa:=Lst.touch hL hTa
 have hbs:bb<wa.heap.size:=hbB.lt
 have hrs:ra<wa.heap.size:=hrB.lt
 have hba:w.heap.size≤bb:=by omega
 have hraw:w.heap.size≤ra:=by omega
 have hne:bb≠ra:=by omega
 have HT0:=hide h.tab
 have HX0:=hide h
 have HTA:=hide hTa
 have HBB:=hide hbB
 have HRB:=hide hrB
 have HWA:=hide hwa
 have HB0:=hide hbb
 have HR0:=hide hra
 have HSA:=hide hsa
 have HLA:=hide hLa
 have HNE:=hide hne
 have HBA:=hide hba
 have HRW:=hide hraw
 clear hwa hbb hra hTa h hL hsa hLa hbs hrs hba hraw hne
 obtain ⟨b0,b1,b2⟩:=hbB.facts
 obtain ⟨s0,s1,s2⟩:=HSA.out.blk.facts
 obtain ⟨r0,r1,r2⟩:=hrB.facts
 clear hbB hrB
 go_enter Tryz.func10,Tryz.ntmps10
 go_upto_region 1 with fail
 rw [← HWA.out,← HR0.out,← HB0.out]
 go_wp2_with fail
 refine bodyPost_ret (v:=ansV ⟨0,161,0,0⟩) (results_cell_row rfl _ _ ra 32 _ (0,0) _ rfl (ans_cells _ _ _ _ _ _ HRB.out) Tryz.underlying32 rfl (by kernel_rfl)) rfl ?_
 exact ⟨rfl,(((HTA.out.setCell (p:=⟨ra,_,none⟩) (fun hx=>absurd hx (by have:=HRW.out;simp at hx;omega)) _).setCell (p:=⟨ra,_,none⟩) (fun hx=>absurd hx (by have:=HRW.out;simp at hx;omega)) _).setCell (p:=⟨ra,_,none⟩) (fun hx=>absurd hx (by have:=HRW.out;simp at hx;omega)) _)⟩
theorem sdo_full (w:World) (hL:Lst w) {s d tb:Nat} {v:Value} {L:List PRow} {q:Nat} {R:List SRow} (h:StX w s d tb v L q R) (sid sq n:Int) (kw:ByteArray) (hk:kw.size≤1099511627776) (hn:R.length=4096) :
  Calls Tryz.prog 10 #[ptrV s,.agg #[.int .i64 1,.int .u64 sid,.int .u64 sq,.string kw,.int .i64 n]] w fun e w'=>e=.returned (ansV ⟨0,152,0,0⟩)∧Touch (fun _=>False) w w':=by
 obtain ⟨wa,hwa⟩:∃ z,z=(w.alloc (.cells #[.int .i64 1,.int .u64 sid,.int .u64 sq,.string kw,.int .i64 n] 29)).alloc (.cells #[.int .i64 0,.int .u64 0,.int .i64 0] 32):=⟨_,rfl⟩
 obtain ⟨bb,hbb⟩:∃ z,z=w.heap.size:=⟨_,rfl⟩
 obtain ⟨ra,hra⟩:∃ z,z=w.heap.size+1:=⟨_,rfl⟩
 have hTa:Touch (fun _=>False) w wa:=by rw [hwa];exact ((Touch.refl _ _).alloc _).alloc _
 have hbB:Blk wa bb 29 #[.int .i64 1,.int .u64 sid,.int .u64 sq,.string kw,.int .i64 n]:=by rw [hwa,hbb];exact (Blk.new _ _ _).alloc _
 have hrB:Blk wa ra 32 #[.int .i64 0,.int .u64 0,.int .i64 0]:=by
  have h1:=Blk.new (w.alloc (.cells #[.int .i64 1,.int .u64 sid,.int .u64 sq,.string kw,.int .i64 n] 29)) 32 #[.int .i64 0,.int .u64 0,.int .i64 0]
  rw [hwa,hra]
  simpa using h1
 have hsa:=h.quiet hTa
 have hLa:=Lst.touch hL hTa
 have hbs:bb<wa.heap.size:=hbB.lt
 have hrs:ra<wa.heap.size:=hrB.lt
 have hba:w.heap.size≤bb:=by omega
 have hraw:w.heap.size≤ra:=by omega
 have hne:bb≠ra:=by omega
 have HT0:=hide h.tab
 have HX0:=hide h
 have HTA:=hide hTa
 have HBB:=hide hbB
 have HRB:=hide hrB
 have HWA:=hide hwa
 have HB0:=hide hbb
 have HR0:=hide hra
 have HSA:=hide hsa
 have HLA:=hide hLa
 have HNE:=hide hne
 have HBA:=hide hba
 have HRW:=hide hraw
 clear hwa hbb hra hTa h hL hsa hLa hbs hrs hba hraw hne
 obtain ⟨b0,b1,b2⟩:=hbB.facts
 obtain ⟨s0,s1,s2⟩:=HSA.out.blk.facts
 obtain ⟨r0,r1,r2⟩:=hrB.facts
 clear hbB hrB
 go_enter Tryz.func10,Tryz.ntmps10
 go_upto_region 1 with fail
 rw [← HWA.out,← HR0.out,← HB0.out]
 go_wp2_with fail
 refine (ses_full wa tb v R HSA.out.tab hn).mono ?_
 rintro e w1 ⟨rfl,rfl⟩
 go_wp2_with fail
 refine bodyPost_ret (v:=ansV ⟨0,152,0,0⟩) (results_cell_row rfl _ _ ra 32 _ (0,0) _ rfl (ans_cells _ _ _ _ _ _ HRB.out) Tryz.underlying32 rfl (by kernel_rfl)) rfl ?_
 exact ⟨rfl,(((HTA.out.setCell (p:=⟨ra,_,none⟩) (fun hx=>absurd hx (by have:=HRW.out;simp at hx;omega)) _).setCell (p:=⟨ra,_,none⟩) (fun hx=>absurd hx (by have:=HRW.out;simp at hx;omega)) _).setCell (p:=⟨ra,_,none⟩) (fun hx=>absurd hx (by have:=HRW.out;simp at hx;omega)) _)⟩
theorem sdo_open (w:World) (hL:Lst w) {s d tb:Nat} {v:Value} {L:List PRow} {q:Nat} {R:List SRow} (h:StX w s d tb v L q R) (sid sq n:Int) (kw:ByteArray) (hk:kw.size≤1099511627776) (hn:R.length<4096) :
  Calls Tryz.prog 10 #[ptrV s,.agg #[.int .i64 1,.int .u64 sid,.int .u64 sq,.string kw,.int .i64 n]] w fun e w'=>e=.returned (ansV ⟨0,0,(R.length:Int)+1,0⟩)∧(∃ v',StX w' s d tb v' L q (R++[SRow.zero])∧Fresh w v v')∧Touch (fp tb v) w w':=by
 obtain ⟨wa,hwa⟩:∃ z,z=(w.alloc (.cells #[.int .i64 1,.int .u64 sid,.int .u64 sq,.string kw,.int .i64 n] 29)).alloc (.cells #[.int .i64 0,.int .u64 0,.int .i64 0] 32):=⟨_,rfl⟩
 obtain ⟨bb,hbb⟩:∃ z,z=w.heap.size:=⟨_,rfl⟩
 obtain ⟨ra,hra⟩:∃ z,z=w.heap.size+1:=⟨_,rfl⟩
 have hTa:Touch (fun _=>False) w wa:=by rw [hwa];exact ((Touch.refl _ _).alloc _).alloc _
 have hbB:Blk wa bb 29 #[.int .i64 1,.int .u64 sid,.int .u64 sq,.string kw,.int .i64 n]:=by rw [hwa,hbb];exact (Blk.new _ _ _).alloc _
 have hrB:Blk wa ra 32 #[.int .i64 0,.int .u64 0,.int .i64 0]:=by
  have h1:=Blk.new (w.alloc (.cells #[.int .i64 1,.int .u64 sid,.int .u64 sq,.string kw,.int .i64 n] 29)) 32 #[.int .i64 0,.int .u64 0,.int .i64 0]
  rw [hwa,hra]
  simpa using h1
 have hsa:=h.quiet hTa
 have hLa:=Lst.touch hL hTa
 have hbs:bb<wa.heap.size:=hbB.lt
 have hrs:ra<wa.heap.size:=hrB.lt
 have hba:w.heap.size≤bb:=by omega
 have hraw:w.heap.size≤ra:=by omega
 have hne:bb≠ra:=by omega
 have HT0:=hide h.tab
 have HX0:=hide h
 have HTA:=hide hTa
 have HBB:=hide hbB
 have HRB:=hide hrB
 have HWA:=hide hwa
 have HB0:=hide hbb
 have HR0:=hide hra
 have HSA:=hide hsa
 have HLA:=hide hLa
 have HNE:=hide hne
 have HBA:=hide hba
 have HRW:=hide hraw
 clear hwa hbb hra hTa h hL hsa hLa hbs hrs hba hraw hne
 obtain ⟨b0,b1,b2⟩:=hbB.facts
 obtain ⟨s0,s1,s2⟩:=HSA.out.blk.facts
 obtain ⟨r0,r1,r2⟩:=hrB.facts
 clear hbB hrB
 go_enter Tryz.func10,Tryz.ntmps10
 go_upto_region 1 with fail
 rw [← HWA.out,← HR0.out,← HB0.out]
 have HLT:=hide (fun g=>fp_lt (w:=w) (g:=g) HT0.out)
 go_wp2_with fail
 refine (ses_open wa tb v R HSA.out.tab hn).mono ?_
 rintro e w1 ⟨rfl,v',ht,T1,hf⟩
 have HT1:=hide ((HTA.out.up _).then T1)
 have HF:=hide hf
 have HS1:=hide (HSA.out.tabbed T1 ht (by simp;omega))
 have HR1:=hide (HRB.out.touch T1 (fun f=>by have:=HLT.out ra f;have:=HRW.out;omega))
 clear ht hf b0 b1 b2 s0 s1 s2 r0 r1 r2 T1
 obtain ⟨r0,r1,r2⟩:=HR1.out.facts
 go_wp2_with fail
 refine bodyPost_ret (v:=ansV ⟨0,0,(R.length:Int)+1,0⟩) (results_cell_row rfl _ _ ra 32 _ (0,0) _ rfl (ans_cells _ _ _ _ _ _ HR1.out) Tryz.underlying32 rfl (by kernel_rfl)) rfl ?_
 refine ⟨rfl,⟨v',HS1.out.ans HR1.out (((((Touch.refl (fun k=>k=ra) w1).setCell (p:=⟨ra,_,none⟩) (fun _=>rfl) _).setCell (p:=⟨ra,_,none⟩) (fun _=>rfl) _).setCell (p:=⟨ra,_,none⟩) (fun _=>rfl) _)),HF.out.of HTA.out.size⟩,?_⟩
 exact (((HT1.out.setCell (p:=⟨ra,_,none⟩) (fun hx=>absurd hx (by have:=HRW.out;simp at hx;omega)) _).setCell (p:=⟨ra,_,none⟩) (fun hx=>absurd hx (by have:=HRW.out;simp at hx;omega)) _).setCell (p:=⟨ra,_,none⟩) (fun hx=>absurd hx (by have:=HRW.out;simp at hx;omega)) _)
theorem sdo_set (w:World) (hL:Lst w) {s d tb:Nat} {v:Value} {L:List PRow} {q:Nat} {R:List SRow} (h:StX w s d tb v L q R) (sid sq n:Int) (kw:ByteArray) (hk:kw.size≤1099511627776) (kd:Int) (hkd:kd=2∨kd=3) :
  Calls Tryz.prog 10 #[ptrV s,.agg #[.int .i64 kd,.int .u64 sid,.int .u64 sq,.string kw,.int .i64 n]] w fun e w'=>e=.returned (ansV (doA ⟨kd,sid,sq,kw,n⟩ L R))∧(∃ v',(∃ q',StX w' s d tb v' (doL ⟨kd,sid,sq,kw,n⟩ L R) q' (doR ⟨kd,sid,sq,kw,n⟩ L R))∧Fresh w v v')∧Touch (stF d tb v) w w':=by
 obtain ⟨K,hK⟩:∃ K,doC ⟨kd,sid,sq,kw,n⟩ R=K:=⟨_,rfl⟩
 have HE:=hide (fun he=>do_err (L:=L) hkd hK he)
 have HG:=hide (fun he hb=>do_again (L:=L) hkd hK he hb)
 have HN:=hide (fun he hb=>do_new (L:=L) hkd hK he hb)
 have HCH:=hide (fun he hb=>chk_new (K:=K) hK he hb)
 have HDS:=hide (fun (wx:World) (hl:Lst wx) (hd:DctM wx d L q)=>schange_any wx hl hd kd sid sq kw hk n hkd)
 obtain ⟨hh,hhh⟩:∃ x,x=doH ⟨kd,sid,sq,kw,n⟩ L:=⟨_,rfl⟩
 obtain ⟨ee,hee⟩:∃ x,x=doE ⟨kd,sid,sq,kw,n⟩ L:=⟨_,rfl⟩
 obtain ⟨L2,hL2⟩:∃ x,x=doW ⟨kd,sid,sq,kw,n⟩ L:=⟨_,rfl⟩
 simp only [← hhh,← hee,← hL2] at HDS HN
 obtain ⟨xA,hxA⟩:∃ x,x=doA ⟨kd,sid,sq,kw,n⟩ L R:=⟨_,rfl⟩
 obtain ⟨xL,hxL⟩:∃ x,x=doL ⟨kd,sid,sq,kw,n⟩ L R:=⟨_,rfl⟩
 obtain ⟨xR,hxR⟩:∃ x,x=doR ⟨kd,sid,sq,kw,n⟩ L R:=⟨_,rfl⟩
 simp only [← hxA,← hxL,← hxR] at HE HG HN ⊢
 clear hhh hee hL2 hxA hxL hxR
 have HLT:=hide (fun g=>stF_lt (w:=w) (g:=g) h)
 obtain ⟨wa,hwa⟩:∃ z,z=(w.alloc (.cells #[.int .i64 kd,.int .u64 sid,.int .u64 sq,.string kw,.int .i64 n] 29)).alloc (.cells #[.int .i64 0,.int .u64 0,.int .i64 0] 32):=⟨_,rfl⟩
 obtain ⟨bb,hbb⟩:∃ z,z=w.heap.size:=⟨_,rfl⟩
 obtain ⟨ra,hra⟩:∃ z,z=w.heap.size+1:=⟨_,rfl⟩
 have hTa:Touch (fun _=>False) w wa:=by rw [hwa];exact ((Touch.refl _ _).alloc _).alloc _
 have hbB:Blk wa bb 29 #[.int .i64 kd,.int .u64 sid,.int .u64 sq,.string kw,.int .i64 n]:=by rw [hwa,hbb];exact (Blk.new _ _ _).alloc _
 have hrB:Blk wa ra 32 #[.int .i64 0,.int .u64 0,.int .i64 0]:=by
  have h1:=Blk.new (w.alloc (.cells #[.int .i64 kd,.int .u64 sid,.int .u64 sq,.string kw,.int .i64 n] 29)) 32 #[.int .i64 0,.int .u64 0,.int .i64 0]
  rw [hwa,hra]
  simpa using h1
 have hsa:=h.quiet hTa
 have hLa:=Lst.touch hL hTa
 have hbs:bb<wa.heap.size:=hbB.lt
 have hrs:ra<wa.heap.size:=hrB.lt
 have hba:w.heap.size≤bb:=by omega
 have hraw:w.heap.size≤ra:=by omega
 have hne:bb≠ra:=by omega
 have HT0:=hide h.tab
 have HX0:=hide h
 have HTA:=hide hTa
 have HBB:=hide hbB
 have HRB:=hide hrB
 have HWA:=hide hwa
 have HB0:=hide hbb
 have HR0:=hide hra
 have HSA:=hide hsa
 have HLA:=hide hLa
 have HNE:=hide hne
 have HBA:=hide hba
 have HRW:=hide hraw
 clear hwa hbb hra hTa h hL hsa hLa hbs hrs hba hraw hne
 obtain ⟨b0,b1,b2⟩:=hbB.facts
 obtain ⟨s0,s1,s2⟩:=HSA.out.blk.facts
 obtain ⟨r0,r1,r2⟩:=hrB.facts
 clear hbB hrB
 go_enter Tryz.func10,Tryz.ntmps10
 go_upto_region 1 with fail
 rw [← HWA.out,← HR0.out,← HB0.out]
 have HCK:=hide (fun (wx:World) (T:Touch (fun _=>False) wa wx)=>ses_check wx tb v R (HSA.out.quiet T).tab sid sq K hK)
 have HKS:Hid (∀ wx,Touch (fun _=>False) wa wx→wx.cell? ⟨s,1,none⟩=some (ptrV tb)∧wx.cell? ⟨bb,1,none⟩=some (.int .u64 sid)∧wx.cell? ⟨bb,2,none⟩=some (.int .u64 sq)∧Touch (fun _=>False) wa wx):=hide (fun wx T=>⟨((HSA.out.blk.touch T (fun f=>f)).cell 1).trans rfl,((HBB.out.touch T (fun f=>f)).cell 1).trans rfl,((HBB.out.touch T (fun f=>f)).cell 2).trans rfl,T⟩)
 clear hK
 obtain ⟨kc,ks,kh,kb,ke⟩:=K
 simp only [CRes.val] at HCK
 rcases hkd with rfl | rfl
 all_goals
  go_upto_region 10 with fail
  go_cut [8,9,10] from 31 to 43 (fun s8 s9 s10 wx=>s9=.bool kb∧s10=.int .i64 ke∧Hid (∃ g,s8=.pointer (some ⟨g,0,none⟩)∧Blk wx g 32 #[.int .i64 kc,.int .u64 ks,.int .i64 kh]∧wa.heap.size≤g∧Touch (fun _=>False) wa wx))
  case first =>
   go_region_held3 (fun w'=>w'.cell? ⟨s,1,none⟩=some (ptrV tb)∧w'.cell? ⟨bb,1,none⟩=some (.int .u64 sid)∧w'.cell? ⟨bb,2,none⟩=some (.int .u64 sq)∧Touch (fun _=>False) wa w')
    (first
      | exact HKS.out _ (Touch.refl _ _).drew
      | exact HKS.out _ ((Touch.refl _ _).drew.alloc _)
      | exact HKS.out _ HT1.out
      | exact HKS.out _ (HT1.out.alloc _)
      | exact HKS.out _ (((HT1.out.setCell (p:=⟨wa.heap.size,_,none⟩) (fun hx=>absurd hx (Nat.lt_irrefl _)) _).setCell (p:=⟨wa.heap.size,_,none⟩) (fun hx=>absurd hx (Nat.lt_irrefl _)) _).setCell (p:=⟨wa.heap.size,_,none⟩) (fun hx=>absurd hx (Nat.lt_irrefl _)) _)
      | exact HKS.out _ ((((HT1.out.alloc _).setCell (p:=⟨w1.heap.size,_,none⟩) (fun hx=>absurd hx (by have:=HT1.out.size;simp at hx;omega)) _).setCell (p:=⟨w1.heap.size,_,none⟩) (fun hx=>absurd hx (by have:=HT1.out.size;simp at hx;omega)) _).setCell (p:=⟨w1.heap.size,_,none⟩) (fun hx=>absurd hx (by have:=HT1.out.size;simp at hx;omega)) _)
      | (trace_state;fail))
    (first
      | (go_simp;refine (HCK.out _ (Touch.refl (fun _=>False) wa).drew).mono ?_;rintro e w1 ⟨rfl,T1⟩;have HT1:=hide ((Touch.refl (fun _=>False) wa).drew.then T1);clear T1;go_simp)
      | (go_simp;refine (HCK.out _ ((Touch.refl (fun _=>False) wa).drew.alloc _)).mono ?_;rintro e w1 ⟨rfl,T1⟩;have HT1:=hide (((Touch.refl (fun _=>False) wa).drew.alloc _).then T1);have HG1:Hid (Blk w1 wa.heap.size 32 #[.int .i64 0,.int .u64 0,.int .i64 0]):=hide ((Blk.new wa.drew _ _).touch T1 (fun f=>f));clear T1;obtain ⟨g0,g1,g2⟩:=HG1.out.facts;go_simp))
   ·go_wp2_with fail
    go_meet
    case rel=>exact ⟨rfl,rfl,hide ⟨_,rfl,(by first | exact Blk.new _ _ _ | exact ans_cells _ _ _ _ _ _ (Blk.new _ _ _)),HT1.out.size,(by first | exact HT1.out.alloc _ | exact ((((HT1.out.alloc _).setCell (p:=⟨w1.heap.size,_,none⟩) (fun hx=>absurd hx (by have:=HT1.out.size;simp at hx;omega)) _).setCell (p:=⟨w1.heap.size,_,none⟩) (fun hx=>absurd hx (by have:=HT1.out.size;simp at hx;omega)) _).setCell (p:=⟨w1.heap.size,_,none⟩) (fun hx=>absurd hx (by have:=HT1.out.size;simp at hx;omega)) _))⟩⟩
   ·go_wp2_with fail
    go_meet
    case rel=>exact ⟨rfl,rfl,hide ⟨_,rfl,ans_cells _ _ _ _ _ _ HG1.out,Nat.le_refl _,(((HT1.out.setCell (p:=⟨wa.heap.size,_,none⟩) (fun hx=>absurd hx (Nat.lt_irrefl _)) _).setCell (p:=⟨wa.heap.size,_,none⟩) (fun hx=>absurd hx (Nat.lt_irrefl _)) _).setCell (p:=⟨wa.heap.size,_,none⟩) (fun hx=>absurd hx (Nat.lt_irrefl _)) _)⟩⟩
  case rest =>
   obtain ⟨rfl,rfl,hcut⟩:=hcut
   obtain ⟨g,rfl,hgb,hgl,T⟩:=hcut.out
   have HSC:=hide (HSA.out.quiet T)
   have HBC:=hide (HBB.out.touch T (fun f=>f))
   have HRC:=hide (HRB.out.touch T (fun f=>f))
   have HGC:=hide hgb
   have HGL:=hide hgl
   have HTC:=hide (HTA.out.then T)
   have HLC:=hide (Lst.touch HLA.out T)
   have HGR:Hid (g≠ra):=hide (by have:=HRB.out.lt;omega)
   clear hcut hgb hgl T b0 b1 b2 s0 s1 s2 r0 r1 r2 HSA HBB HRB HKS HCK
   obtain ⟨b0,b1,b2⟩:=HBC.out.facts
   obtain ⟨s0,s1,s2⟩:=HSC.out.blk.facts
   obtain ⟨r0,r1,r2⟩:=HRC.out.facts
   obtain ⟨g0,g1,g2⟩:=HGC.out.facts
   by_cases he:ke=0
   ·subst he
    cases kb
    ·have HE3:=hide (HN.out rfl rfl)
     have HCN:=hide (HCH.out rfl rfl)
     obtain ⟨-,-,hcn⟩:=HCN.out
     injection hcn with hc1 hc2 hc3 _ _
     subst hc1 hc2 hc3
     have hbd:¬ (bb=d∨bb=g):=fun f=>f.elim (fun e=>(blk_ty HBC.out).ne HSC.out.dct.ty (by decide) e) (fun e=>(blk_ty HBC.out).ne (blk_ty HGC.out) (by decide) e)
     have hsd:¬ (s=d∨s=g):=fun f=>f.elim (fun e=>(blk_ty HSC.out.blk).ne HSC.out.dct.ty (by decide) e) (fun e=>(blk_ty HSC.out.blk).ne (blk_ty HGC.out) (by decide) e)
     have hrd:¬ (ra=d∨ra=g):=fun f=>f.elim (fun e=>(blk_ty HRC.out).ne HSC.out.dct.ty (by decide) e) (fun e=>HGR.out e.symm)
     have hgd:¬ g=d:=fun e=>(blk_ty HGC.out).ne HSC.out.dct.ty (by decide) e
     have HKS:Hid (∀ wx,Touch (fun k=>k=d∨k=g) wc wx→wx.cell? ⟨s,0,none⟩=some (ptrV d)∧wx.cell? ⟨bb,3,none⟩=some (.string kw)∧wx.cell? ⟨bb,4,none⟩=some (.int .i64 n)∧Touch (fun k=>k=d∨k=g) wc wx):=hide (fun wx T=>⟨((HSC.out.blk.touch T hsd).cell 0).trans rfl,((HBC.out.touch T hbd).cell 3).trans rfl,((HBC.out.touch T hbd).cell 4).trans rfl,T⟩)
     have HBD:=hide hbd
     have HSD:=hide hsd
     have HRD:=hide hrd
     have HGD:=hide hgd
     clear hbd hsd hrd hgd
     go_upto_region 14 with fail
     go_region_held3 (fun w'=>w'.cell? ⟨s,0,none⟩=some (ptrV d)∧w'.cell? ⟨bb,3,none⟩=some (.string kw)∧w'.cell? ⟨bb,4,none⟩=some (.int .i64 n)∧Touch (fun k=>k=d∨k=g) wc w')
      (first
        | exact HKS.out _ (Touch.refl _ _).drew
        | exact HKS.out _ HT2.out
        | exact HKS.out _ (HT2.out.setCell (p:=⟨g,_,none⟩) (fun _=>.inr rfl) _)
        | exact HKS.out _ ((HT2.out.setCell (p:=⟨g,_,none⟩) (fun _=>.inr rfl) _).setCell (p:=⟨g,_,none⟩) (fun _=>.inr rfl) _)
        | (trace_state;fail))
      (first
        | (go_simp;refine (HDS.out wc.drew (Lst.touch HLC.out (Touch.refl _ _).drew) (HSC.out.quiet (Touch.refl _ _).drew).dct).mono ?_;rintro e w2 ⟨rfl,⟨q2,hd2⟩,T2⟩;have HD2:=hide hd2;have HTd:=hide ((Touch.refl (fun k=>k=d) wc).drew.then T2);have HT2:=hide (HTd.out.mono (fun _ _ e=>Or.inl e):Touch (fun k=>k=d∨k=g) wc w2);have HG2:=hide (HGC.out.touch HTd.out HGD.out);clear hd2 T2 g0 g1 g2;obtain ⟨g0,g1,g2⟩:=HG2.out.facts;go_simp))
     obtain ⟨w3,hw3⟩:∃ y,y=(w2.setCell ⟨g,2,none⟩ (.int .i64 hh)).setCell ⟨g,0,none⟩ (.int .i64 ee):=⟨_,rfl⟩
     have hg3:Blk w3 g 32 #[.int .i64 ee,.int .u64 0,.int .i64 hh]:=by
      rw [hw3]
      have h1:=(HG2.out.set_ 2 (.int .i64 hh)).set_ 0 (.int .i64 ee)
      simpa using h1
     have ht23:Touch (fun k=>k=g) w2 w3:=by rw [hw3];exact ((Touch.refl (fun k=>k=g) w2).setCell (p:=⟨g,_,none⟩) (fun _=>rfl) _).setCell (p:=⟨g,_,none⟩) (fun _=>rfl) _
     have hs3:StX w3 s d tb v L2 q2 R:=(HSC.out.worded HTd.out HD2.out).ans HG2.out ht23
     have htd3:Touch (fun k=>k=d∨k=g) wc w3:=HT2.out.trans ht23 (fun _ _ e=>.inr e)
     have HB3:=hide (HBC.out.touch htd3 HBD.out)
     have HR3:=hide (HRC.out.touch htd3 HRD.out)
     have HT3:Hid (Touch (stF d tb v) w w3):=hide ((HTC.out.up _).trans htd3 (fun i hi e=>e.elim (fun e=>.inl e) (fun e=>absurd hi (by have h1:=HGL.out;have h2:=HTA.out.size;omega))))
     have HG3:=hide hg3
     have HS3:=hide hs3
     have hkeep:keepB R sid sq=true:=by
      unfold keepB
      rw [HCN.out.1]
      simpa using HCN.out.2.1
     have HKP:=hide hkeep
     have HK4:Hid (∀ wx,Touch (fp tb v) w3 wx→wx.cell? ⟨s,1,none⟩=some (ptrV tb)∧wx.cell? ⟨bb,1,none⟩=some (.int .u64 sid)∧wx.cell? ⟨bb,2,none⟩=some (.int .u64 sq)∧wx.cell? ⟨g,0,none⟩=some (.int .i64 ee)∧wx.cell? ⟨g,1,none⟩=some (.int .u64 0)∧wx.cell? ⟨g,2,none⟩=some (.int .i64 hh)∧Touch (fp tb v) w3 wx):=hide (fun wx T=>by
      have e1:=HS3.out.blk.touch T (fp_no HS3.out.tab (blk_ty HS3.out.blk) (by decide) (by decide))
      have e2:=HB3.out.touch T (fp_no HS3.out.tab (blk_ty HB3.out) (by decide) (by decide))
      have e3:=HG3.out.touch T (fp_no HS3.out.tab (blk_ty HG3.out) (by decide) (by decide))
      exact ⟨(e1.cell 1).trans rfl,(e2.cell 1).trans rfl,(e2.cell 2).trans rfl,(e3.cell 0).trans rfl,(e3.cell 1).trans rfl,(e3.cell 2).trans rfl,T⟩)
     rw [← hw3]
     clear hw3 hg3 ht23 hs3 htd3 hkeep b0 b1 b2 s0 s1 s2 r0 r1 r2 g0 g1 g2
     go_upto_region 15 with fail
     go_region_held3 (fun w'=>w'.cell? ⟨s,1,none⟩=some (ptrV tb)∧w'.cell? ⟨bb,1,none⟩=some (.int .u64 sid)∧w'.cell? ⟨bb,2,none⟩=some (.int .u64 sq)∧w'.cell? ⟨g,0,none⟩=some (.int .i64 ee)∧w'.cell? ⟨g,1,none⟩=some (.int .u64 0)∧w'.cell? ⟨g,2,none⟩=some (.int .i64 hh)∧Touch (fp tb v) w3 w')
      (first
        | exact HK4.out _ (Touch.refl _ _).drew
        | exact HK4.out _ HT4.out
        | (trace_state;fail))
      (first
        | (go_simp;refine (ses_keep_yes w3.drew tb v R (HS3.out.quiet (Touch.refl _ _).drew).tab sid sq ⟨0,ee,0,hh⟩ HKP.out).mono ?_;rintro e w4 ⟨rfl,ht4,T4⟩;have HTB4:=hide ht4;have HT4:=hide ((Touch.refl (fp tb v) w3).drew.then T4);have HG4:=hide (HG3.out.touch HT4.out (fp_no HS3.out.tab (blk_ty HG3.out) (by decide) (by decide)));have HR4:=hide (HR3.out.touch HT4.out (fp_no HS3.out.tab (blk_ty HR3.out) (by decide) (by decide)));clear ht4 T4;obtain ⟨g0,g1,g2⟩:=HG4.out.facts;obtain ⟨r0,r1,r2⟩:=HR4.out.facts;go_simp))
     go_wp2_with fail
     refine bodyPost_ret (v:=ansV ⟨0,ee,0,hh⟩) (results_cell_row rfl _ _ ra 32 _ (0,0) _ rfl (ans_cells _ _ _ _ _ _ HR4.out) Tryz.underlying32 rfl (by kernel_rfl)) rfl ?_
     exact ⟨by rw [HE3.out.1],⟨v,⟨q2,by rw [HE3.out.2.1,HE3.out.2.2];exact (HS3.out.tabbed HT4.out HTB4.out (by simp;exact HS3.out.few)).ans HR4.out (((((Touch.refl (fun k=>k=ra) w4).setCell (p:=⟨ra,_,none⟩) (fun _=>rfl) _).setCell (p:=⟨ra,_,none⟩) (fun _=>rfl) _).setCell (p:=⟨ra,_,none⟩) (fun _=>rfl) _))⟩,.inl rfl⟩,((((HT3.out.trans HT4.out (fun i hi e=>.inr e)).setCell (p:=⟨ra,_,none⟩) (fun hx=>absurd hx (by have:=HRW.out;simp at hx;omega)) _).setCell (p:=⟨ra,_,none⟩) (fun hx=>absurd hx (by have:=HRW.out;simp at hx;omega)) _).setCell (p:=⟨ra,_,none⟩) (fun hx=>absurd hx (by have:=HRW.out;simp at hx;omega)) _)⟩
    ·have HE3:=hide (HG.out rfl rfl)
     go_wp2_with fail
     refine bodyPost_ret (v:=ansV ⟨0,kc,ks,kh⟩) (results_cell_row rfl _ _ ra 32 _ (0,0) _ rfl (ans_cells _ _ _ _ _ _ HRC.out) Tryz.underlying32 rfl (by kernel_rfl)) rfl ?_
     exact ⟨by rw [HE3.out.1],⟨v,⟨q,by rw [HE3.out.2.1,HE3.out.2.2];exact HSC.out.ans HRC.out (((((Touch.refl (fun k=>k=ra) wc).setCell (p:=⟨ra,_,none⟩) (fun _=>rfl) _).setCell (p:=⟨ra,_,none⟩) (fun _=>rfl) _).setCell (p:=⟨ra,_,none⟩) (fun _=>rfl) _))⟩,.inl rfl⟩,((((HTC.out.up _).setCell (p:=⟨ra,_,none⟩) (fun hx=>absurd hx (by have:=HRW.out;simp at hx;omega)) _).setCell (p:=⟨ra,_,none⟩) (fun hx=>absurd hx (by have:=HRW.out;simp at hx;omega)) _).setCell (p:=⟨ra,_,none⟩) (fun hx=>absurd hx (by have:=HRW.out;simp at hx;omega)) _)⟩
   ·have HE3:=hide (HE.out he)
    go_wp2_with fail
    refine bodyPost_ret (v:=ansV ⟨0,ke,0,0⟩) (results_cell_row rfl _ _ ra 32 _ (0,0) _ rfl (ans_cells _ _ _ _ _ _ HRC.out) Tryz.underlying32 rfl (by kernel_rfl)) rfl ?_
    exact ⟨by rw [HE3.out.1],⟨v,⟨q,by rw [HE3.out.2.1,HE3.out.2.2];exact HSC.out.ans HRC.out (((((Touch.refl (fun k=>k=ra) wc).setCell (p:=⟨ra,_,none⟩) (fun _=>rfl) _).setCell (p:=⟨ra,_,none⟩) (fun _=>rfl) _).setCell (p:=⟨ra,_,none⟩) (fun _=>rfl) _))⟩,.inl rfl⟩,((((HTC.out.up _).setCell (p:=⟨ra,_,none⟩) (fun hx=>absurd hx (by have:=HRW.out;simp at hx;omega)) _).setCell (p:=⟨ra,_,none⟩) (fun hx=>absurd hx (by have:=HRW.out;simp at hx;omega)) _).setCell (p:=⟨ra,_,none⟩) (fun hx=>absurd hx (by have:=HRW.out;simp at hx;omega)) _)⟩
end Go.Proofs.YthockgmbooefpaaGreatDoor
namespace Go.Proofs.YthockgmbooefpaaGreatDoor
open Go.RowKit
theorem Touch.fp {w w':World} {d tb:Nat} {v:Value} (h:Touch (fp tb v) w w'):Touch (stF d tb v) w w':=h.mono (fun _ _ e=>.inr e)
theorem sdo_any (w:World) (hL:Lst w) {s d tb:Nat} {v:Value} {L:List PRow} {q:Nat} {R:List SRow} (h:StX w s d tb v L q R) (c:CmdP) (hc:c.Wf) :
  Calls Tryz.prog 10 #[ptrV s,c.val] w fun e w'=>e=.returned (ansV (doA c L R))∧(∃ v',(∃ q',StX w' s d tb v' (doL c L R) q' (doR c L R))∧Fresh w v v')∧Touch (stF d tb v) w w':=by
 obtain ⟨kd,sid,sq,kw,n⟩:=c
 unfold CmdP.Wf at hc
 by_cases h1:kd=1
 ·subst h1
  by_cases hn:R.length<4096
  ·refine (sdo_open w hL h sid sq n kw hc hn).mono ?_
   rintro e w' ⟨rfl,⟨v',hs,hf⟩,T⟩
   refine ⟨by simp [doA,hn],⟨v',⟨q,?_⟩,hf⟩,T.fp⟩
   simpa [doL,doR,goesB,hn] using hs
  ·refine (sdo_full w hL h sid sq n kw hc (by have:=h.few;omega)).mono ?_
   rintro e w' ⟨rfl,T⟩
   refine ⟨by simp [doA,hn],⟨v,⟨q,?_⟩,.inl rfl⟩,T.up _⟩
   simpa [doL,doR,goesB,hn] using h.quiet T
 ·by_cases h2:kd=2∨kd=3
  ·exact sdo_set w hL h sid sq n kw hc kd h2
  ·refine (sdo_other w hL h sid sq n kw hc kd h1 (by omega) (by omega)).mono ?_
   rintro e w' ⟨rfl,T⟩
   refine ⟨by simp [doA,h1,h2],⟨v,⟨q,?_⟩,.inl rfl⟩,T.up _⟩
   simpa [doL,doR,goesB,h1,h2] using h.quiet T
theorem words_st (w:World) (hL:Lst w) {s d tb:Nat} {v:Value} {L:List PRow} {q:Nat} {R:List SRow} (h:StX w s d tb v L q R) :
  Calls Tryz.prog 12 #[ptrV s] w fun e w'=>∃ A' c',e=.returned (.slice A' L.length c')∧POwn w' A' L.length c' L∧Touch (fun _=>False) w w':=by
 obtain ⟨s0,s1,s2⟩:=h.blk.facts
 have HC:=hide (pairs_any w hL h.dct)
 clear h hL
 go_enter Tryz.func12,Tryz.ntmps12
 go_wp2_with fail
 refine HC.out.mono ?_
 rintro e w1 ⟨A',c',rfl,hp,T⟩
 have HP:=hide hp
 have HT:=hide T
 clear hp T
 go_wp2_with fail
 go_ret
 exact ⟨A',c',rfl,HP.out,HT.out⟩
theorem sessions_st (w:World) {s d tb:Nat} {v:Value} {L:List PRow} {q:Nat} {R:List SRow} (h:StX w s d tb v L q R) :
  Calls Tryz.prog 77 #[ptrV s] w fun e w'=>∃ v',e=.returned v'∧w'.ownsRow 0 110 4 v' R.length (rowCells R)∧Touch (fun _=>False) w w'∧∀ g,v'.ownBlock=some g→w.heap.size≤g:=by
 obtain ⟨s0,s1,s2⟩:=h.blk.facts
 have HC:=hide (ses_rows w tb v R h.tab h.few)
 clear h
 go_enter Tryz.func77,Tryz.ntmps77
 go_wp2_with fail
 refine HC.out.mono ?_
 rintro e w1 ⟨v',rfl,hp⟩
 have HP:=hide hp
 clear hp
 go_wp2_with fail
 go_ret
 exact ⟨v',rfl,HP.out⟩
end Go.Proofs.YthockgmbooefpaaGreatDoor
