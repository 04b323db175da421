/- What the law rests on, part 14. No condition but those that each theorem names. -/
import Derived.Test.YthockgmbooefpaaGreatDoorM10
import Derived.Test.YthockgmbooefpaaGreatDoorM13
import Derived.Deep.RegionHeld3
import Derived.Deep.CutRange
import Derived.Laws.BitsAllLaws
import Derived.Test.YthockgmbooefpaaGreatDoorM06
import Derived.Test.YthockgmbooefpaaGreatDoorM08
import Derived.Laws.IdiomStrings
import Derived.Test.YthockgmbooefpaaGreatDoorM09
set_option linter.unusedSectionVars false
set_option linter.unusedSimpArgs false
set_option linter.unusedVariables false
set_option maxRecDepth 100000
set_option maxHeartbeats 4000000
namespace Go.Proofs.YthockgmbooefpaaGreatDoor
open Int renaming toNat → qZa, fdiv_eq_ediv_of_nonneg → qQb
open IntWalk renaming i64_in → qZb, u64_in → qJb
open List renaming length_append → qQa, getD → qXa, length_cons → qXb, length_map → qQc, map_append → qZc, flatMap_cons → qJc, take_of_length_le → qQd, take_succ_eq_append_getElem → qZd
open Nat renaming lt_irrefl → qJa, zero_le → qXc, xor_lt_two_pow → qXd
variable{cs:Array Value}{e:Int}{bs:List UInt8}{L L':List aE}{c d g k n p q s tb:Nat}{S:Nat->Prop}{A:Option Addr}{t ty:TypeId}{v v':Value}{W w w':World}{K:mK}
open Go.RowKit
structure gC where
 kind:Int
 sess:Int
 seq:Int
 word:ByteArray
 n:Int
def gC.zero:gC:=⟨0,0,0,ByteArray.empty,0⟩
def gC.cells(c:gC):List Value:=[.int .i64 c.kind,.int .u64 c.sess,.int .u64 c.seq,.string c.word,.int .i64 c.n]
def gC.val(c:gC):Value:=.agg #[.int .i64 c.kind,.int .u64 c.sess,.int .u64 c.seq,.string c.word,.int .i64 c.n]
def gC.Wf(c:gC):Prop:=c.word.size<=1099511627776
def pT(a:aU):Value:=.agg #[.int .i64 a.code,.int .u64 a.sess,.int .i64 a.had]
def doW(c:gC)(L:List aE):List aE:=if c.kind=2 then Jj L c.word c.n else Mp L c.word
def doH(c:gC)(L:List aE):Int:=if c.kind=2 then Ji L c.word c.n else Ip L c.word
def doE(c:gC)(L:List aE):Int:=if c.kind=2 then oS L c.word.toList c.n else tT L c.word.toList
def Tu(c:gC)(R:List aU):mK:=Zw (mF R c.sess) (Dj R c.sess) c.seq
def Kt(c:gC)(L:List aE)(R:List aU):aU :=
 if c.kind=1 then (if R.length<4096 then ⟨0,0,(R.length:Int)+1,0⟩ else ⟨0,152,0,0⟩)
 else if c.kind=2\/c.kind=3 then
  (if ¬ (Tu c R).e=0 then ⟨0,(Tu c R).e,0,0⟩ else if (Tu c R).b=true then ⟨0,(Tu c R).c,(Tu c R).s,(Tu c R).h⟩ else ⟨0,doE c L,0,doH c L⟩)
 else ⟨0,161,0,0⟩
def oJ(c:gC)(R:List aU):Bool:=decide (c.kind=2\/c.kind=3) && decide ((Tu c R).e=0) && !(Tu c R).b
def Ku(c:gC)(L:List aE)(R:List aU):List aE:=if oJ c R=true then doW c L else L
def Kv(c:gC)(L:List aE)(R:List aU):List aU :=
 if c.kind=1 then (if R.length<4096 then R++[aU.zero] else R)
 else if oJ c R=true then R.set (c.sess-1).toNat ⟨c.seq,doE c L,0,doH c L⟩ else R
structure nY(w:World)(s d tb:Nat)(v:Value)(L:List aE)(q:Nat)(R:List aU):Prop where
 blk:aL w s 77 #[dC d,dC tb]
 dct:gK w d L q
 tab:sW w tb v R
 few:R.length<=4096
def stF(d tb:Nat)(v:Value):Nat->Prop:=λg=>g=d\/fp tb v g
theorem nY.quiet{R:List aU}(h:nY w s d tb v L q R)(T:aC (λ_=>False) w w'):nY w' s d tb v L q R :=
 ⟨h.blk.touch T (λf=>f),h.dct.quiet T,h.tab.touch T (λf=>f) (λ_ _ f=>f),h.few⟩
theorem Zx{t:Bool}{r:aU}{sq:Int}(h:Zw t r sq=K)(he:K.e=0)(hb:K.b=false):t=true/\r.seq<sq/\K=⟨0,0,0,false,0⟩:=by
 subst h
 unfold Zw at he hb ⊢
 cases t with
 | false=>simp at he
 | true =>
  by_cases h1:sq=0\/sq<r.seq
  ·simp[h1] at he
  ·by_cases h2:sq=r.seq
   ·rw[if_neg (by simp),if_neg h1,if_pos h2] at hb
    simp at hb
   ·rw[if_neg (by simp),if_neg h1,if_neg h2]
    exact⟨rfl,by omega,rfl⟩
theorem aDk{c:gC}{R:List aU}(hk:c.kind=2\/c.kind=3)(h:Tu c R=K)(he:¬ K.e=0):Kt c L R=⟨0,K.e,0,0⟩/\Ku c L R=L/\Kv c L R=R:=by
 subst h
 have h1:¬ c.kind=1:=by omega
 have hg:oJ c R=false:=by simp[oJ,he]
 exact⟨by unfold Kt;rw[if_neg h1,if_pos hk,if_pos he],by unfold Ku;rw[hg];rfl,by unfold Kv;rw[if_neg h1,hg];rfl⟩
theorem Uy{c:gC}{R:List aU}(hk:c.kind=2\/c.kind=3)(h:Tu c R=K)(he:K.e=0)(hb:K.b=true):Kt c L R=⟨0,K.c,K.s,K.h⟩/\Ku c L R=L/\Kv c L R=R:=by
 subst h
 have h1:¬ c.kind=1:=by omega
 have hg:oJ c R=false:=by simp[oJ,hb]
 exact⟨by unfold Kt;rw[if_neg h1,if_pos hk,if_neg (by omega),if_pos hb],by unfold Ku;rw[hg];rfl,by unfold Kv;rw[if_neg h1,hg];rfl⟩
theorem aDl{c:gC}{R:List aU}(hk:c.kind=2\/c.kind=3)(h:Tu c R=K)(he:K.e=0)(hb:K.b=false):Kt c L R=⟨0,doE c L,0,doH c L⟩/\Ku c L R=doW c L/\Kv c L R=R.set (c.sess-1).toNat ⟨c.seq,doE c L,0,doH c L⟩:=by
 subst h
 have h1:¬ c.kind=1:=by omega
 have hg:oJ c R=true:=by simp[oJ,hb,he,hk]
 exact⟨by unfold Kt;rw[if_neg h1,if_pos hk,if_neg (by omega),hb];rfl,by unfold Ku;rw[hg];rfl,by unfold Kv;rw[if_neg h1,hg];rfl⟩
theorem Vj{R:List aU}(h:sW w tb v R)(hg:fp tb v g):bE w g 149 \/ bE w g 110 := by
 rcases hg with rfl | hg
 ·exact .inl (aF h.1)
 ·exact .inr (aH h.2 hg)
theorem qB{R:List aU}(h:sW w tb v R)(hg:bE w g t)(h1:t ≠ 149)(h2:t ≠ 110):¬ fp tb v g:=λf=>by
 rcases Vj h f with k | k
 ·exact hg.ne k h1 rfl
 ·exact hg.ne k h2 rfl
theorem aCs{R:List aU}(h:sW w tb v R)(hg:fp tb v g):g<w.heap.size:=by
 rcases Vj h hg with k | k<;>exact k.lt
theorem nY.tabbed{R R':List aU}(h:nY w s d tb v L q R)(T:aC (fp tb v) w w')(ht:sW w' tb v' R')(hn:R'.length<=4096):nY w' s d tb v' L q R' :=
 ⟨h.blk.touch T (qB h.tab (aF h.blk) (by decide) (by decide)),h.dct.far T (qB h.tab h.dct.ty (by decide) (by decide)) (λg t hg ht=>qB h.tab hg (by rcases ht with rfl | rfl | rfl | rfl | rfl<;>decide) (by rcases ht with rfl | rfl | rfl | rfl | rfl<;>decide)),ht,hn⟩
theorem nY.worded{q':Nat}{R:List aU}(h:nY w s d tb v L q R)(T:aC (λg=>g=d) w w')(hd:gK w' d L' q'):nY w' s d tb v L' q' R :=
 ⟨h.blk.touch T ((aF h.blk).ne h.dct.ty (by decide)),hd,h.tab.touch T ((aF h.tab.1).ne h.dct.ty (by decide)) (λg hg=>(aH h.tab.2 hg).ne h.dct.ty (by decide)),h.few⟩
def Mh(t:TypeId):Prop:=t ≠ 77 /\ t ≠ 96 /\ t ≠ 149 /\ t ≠ 110 /\ ¬ Eq t
theorem nY.off{R:List aU}(h:nY w s d tb v L q R)(T:aC S w w')(hS:∀ g,S g->∃ t,bE w g t/\Mh t):nY w' s d tb v L q R:=by
 have key:∀ {g:Nat} {t:TypeId},bE w g t->(t = 77 \/ t = 96 \/ t = 149 \/ t = 110 \/ Eq t)->¬ S g:=λ{g t} hg ht f=>by
  obtain⟨t',hg',o1,o2,o3,o4,o5⟩:=hS g f
  refine hg.ne hg' ?_ rfl
  rintro rfl
  rcases ht with e | e | e | e | e
  ·exact o1 e
  ·exact o2 e
  ·exact o3 e
  ·exact o4 e
  ·exact o5 e
 exact⟨h.blk.touch T (key (aF h.blk) (.inl rfl)),h.dct.far T (key h.dct.ty (.inr (.inl rfl))) (λg t hg ht=>key hg (.inr (.inr (.inr (.inr ht))))),h.tab.touch T (key (aF h.tab.1) (.inr (.inr (.inl rfl)))) (λg hg=>key (aH h.tab.2 hg) (.inr (.inr (.inr (.inl rfl))))),h.few⟩
theorem wN:Mh 32 := by unfold Mh Eq;decide
theorem nY.ans{R:List aU}(h:nY w s d tb v L q R)(hb:aL w g 32 cs)(T:aC (λk=>k=g) w w'):nY w' s d tb v L q R :=
 h.off T (λk e=>⟨_,e ▸ aF hb,wN⟩)
theorem bJ.of{wa:World}(h:bJ wa v v')(hs:w.heap.size<=wa.heap.size):bJ w v v':=h.imp id (λ⟨g,h1,h2⟩=>⟨g,h1,Nat.le_trans hs h2⟩)
theorem aEn{R:List aU}(h:nY w s d tb v L q R)(hg:stF d tb v g):g<w.heap.size:=by
 rcases hg with rfl | hg
 ·exact h.dct.ty.lt
 ·exact aCs h.tab hg
theorem Yb(w:World)(hL:dN w):Calls Tryz.prog 9 #[] w λe w' =>
  ∃ s d tb,e=.returned (dC s)/\nY w' s d tb (.slice none 0 0) [] 0 []/\w.heap.size<=s/\w.heap.size<=d/\w.heap.size<=tb/\aC (λ_=>False) w w':=by
 have HL:=aB hL
 clear hL
 go_in
 go_wp2_with fail
 refine (Lr w HL).mono ?_
 rintro e w1 ⟨d,rfl,hd,hdw,T1⟩
 have HD:=aB hd
 have HDW:=aB hdw
 have HT1:=aB T1
 clear hd hdw T1
 go_wp2_with fail
 refine (aBt w1).mono ?_
 rintro e w2 ⟨rfl,ht,T2⟩
 have HTB:=aB ht
 have HT2:=aB T2
 clear ht T2
 obtain⟨tb,htb⟩:=eX w1.heap.size
 rw[<-htb] at HTB ⊢
 have HTE:=aB htb
 clear htb
 go_wp2_with fail
 go_ret
 have T12:=HT1.then HT2
 refine⟨w2.heap.size,d,tb,rfl,⟨aL.new _ _ _,(HD.quiet HT2).quiet ((aC.refl _ _).alloc _),HTB.alloc _,by simp⟩,T12.size,HDW,?_,T12.alloc _⟩
 rw[HTE.out]
 exact HT1.size
theorem Zz(w:World)(hL:dN w)(h:gK w d L q)(k:ByteArray)(hk:k.size<=1099511627776)(n:Int) :
  Calls Tryz.prog 34 #[dC d,.string k,.int .i64 n] w λe w'=>e=.returned (.tuple #[.int .i64 (Ip L k),.int .i64 (tT L k.toList)])/\(∃ q',gK w' d (Mp L k) q')/\aC (λg=>g=d) w w':=by
 have HC:=aB (Hc w hL h k hk)
 obtain⟨hh,hhh⟩:=eX (Ip L k)
 obtain⟨ee,hee⟩:=eX (tT L k.toList)
 rw[<-hhh,<-hee] at HC ⊢
 clear hL h hhh hee
 go_in
 go_wp2_with fail
 refine HC.mono ?_
 rintro e w1 ⟨rfl,hq⟩
 have HQ:=aB hq
 clear hq
 go_wp2_with fail
 go_ret2
 exact⟨rfl,HQ⟩
theorem Je(w:World)(hL:dN w)(h:gK w d L q)(kd sid sq:Int)(k:ByteArray)(hk:k.size<=1099511627776)(n:Int)(hkd:kd=2\/kd=3) :
  Calls Tryz.prog (if kd=2 then 32 else 34) #[dC d,.string k,.int .i64 n] w λe w'=>e=.returned (.tuple #[.int .i64 (doH ⟨kd,sid,sq,k,n⟩ L),.int .i64 (doE ⟨kd,sid,sq,k,n⟩ L)])/\(∃ q',gK w' d (doW ⟨kd,sid,sq,k,n⟩ L) q')/\aC (λg=>g=d) w w':=by
 rcases hkd with rfl | rfl
 ·exact Uz w hL h k hk n
 ·exact Zz w hL h k hk n
theorem gX(a b c:Value)(x y z:Value)(h:aL w g 32 #[x,y,z]):aL (((w.setCell ⟨g,0,none⟩ a).setCell ⟨g,1,none⟩ b).setCell ⟨g,2,none⟩ c) g 32 #[a,b,c]:=by
 have:=((h.set_ 0 a).set_ 1 b).set_ 2 c
 simpa using this
theorem St(w:World)(hL:dN w){R:List aU}(h:nY w s d tb v L q R)(sid sq n:Int)(kw:ByteArray)(hk:kw.size<=1099511627776)(kd:Int)(h1:¬ kd=1)(h2:¬ kd=2)(h3:¬ kd=3) :
  Calls Tryz.prog 10 #[dC s,.agg #[.int .i64 kd,.int .u64 sid,.int .u64 sq,.string kw,.int .i64 n]] w λe w'=>e=.returned (pT ⟨0,161,0,0⟩)/\aC (λ_=>False) w w':=by
 obtain⟨wa,hwa⟩:=eX ((w.alloc (.cells #[.int .i64 kd,.int .u64 sid,.int .u64 sq,.string kw,.int .i64 n] 29)).alloc (.cells #[.int .i64 0,.int .u64 0,.int .i64 0] 32))
 obtain⟨bb,hbb⟩:=eX w.heap.size
 obtain⟨ra,hra⟩:=eX (w.heap.size+1)
 have hTa:aC (λ_=>False) w wa:=by rw[hwa];exact ((aC.refl _ _).alloc _).alloc _
 have hbB:aL wa bb 29 #[.int .i64 kd,.int .u64 sid,.int .u64 sq,.string kw,.int .i64 n]:=by rw[hwa,hbb];exact (aL.new _ _ _).alloc _
 have hrB:aL wa ra 32 #[.int .i64 0,.int .u64 0,.int .i64 0]:=by
  have h1:=aL.new (w.alloc (.cells #[.int .i64 kd,.int .u64 sid,.int .u64 sq,.string kw,.int .i64 n] 29)) 32 #[.int .i64 0,.int .u64 0,.int .i64 0]
  rw[hwa,hra]
  simpa using h1
 have hsa:=h.quiet hTa
 have hLa:=dN.touch hL hTa
 have hbs:bb<wa.heap.size:=hbB.lt
 have hrs:ra<wa.heap.size:=hrB.lt
 have hba:w.heap.size<=bb:=by omega
 have hraw:w.heap.size<=ra:=by omega
 have hne:bb≠ra:=by omega
 have HT0:=aB h.tab
 have HX0:=aB h
 have HTA:=aB hTa
 have HBB:=aB hbB
 have HRB:=aB hrB
 have HWA:=aB hwa
 have HB0:=aB hbb
 have HR0:=aB hra
 have HSA:=aB hsa
 have HLA:=aB hLa
 have HNE:=aB hne
 have HBA:=aB hba
 have HRW:=aB hraw
 clear hwa hbb hra hTa h hL hsa hLa hbs hrs hba hraw hne
 obtain⟨b0,b1,b2⟩:=hbB.facts
 obtain⟨s0,s1,s2⟩:=HSA.blk.facts
 obtain⟨r0,r1,r2⟩:=hrB.facts
 clear hbB hrB
 go_in
 go_upto_region 1 with fail
 rw[<-HWA.out,<-HR0.out,<-HB0.out]
 go_wp2_with fail
 refine bodyPost_ret (v:=pT ⟨0,161,0,0⟩) (results_cell_row rfl _ _ ra 32 _ (0,0) _ rfl (gX _ _ _ _ _ _ HRB) Tryz.underlying32 rfl (by kernel_rfl)) rfl ?_
 exact⟨rfl,(((HTA.setCell (p:=⟨ra,_,none⟩) (λhx=>absurd hx (by have:=HRW.out;simp at hx;omega)) _).setCell (p:=⟨ra,_,none⟩) (λhx=>absurd hx (by have:=HRW.out;simp at hx;omega)) _).setCell (p:=⟨ra,_,none⟩) (λhx=>absurd hx (by have:=HRW.out;simp at hx;omega)) _)⟩
theorem Xs(w:World)(hL:dN w){R:List aU}(h:nY w s d tb v L q R)(sid sq n:Int)(kw:ByteArray)(hk:kw.size<=1099511627776)(hn:R.length=4096) :
  Calls Tryz.prog 10 #[dC s,.agg #[.int .i64 1,.int .u64 sid,.int .u64 sq,.string kw,.int .i64 n]] w λe w'=>e=.returned (pT ⟨0,152,0,0⟩)/\aC (λ_=>False) w w':=by
 obtain⟨wa,hwa⟩:=eX ((w.alloc (.cells #[.int .i64 1,.int .u64 sid,.int .u64 sq,.string kw,.int .i64 n] 29)).alloc (.cells #[.int .i64 0,.int .u64 0,.int .i64 0] 32))
 obtain⟨bb,hbb⟩:=eX w.heap.size
 obtain⟨ra,hra⟩:=eX (w.heap.size+1)
 have hTa:aC (λ_=>False) w wa:=by rw[hwa];exact ((aC.refl _ _).alloc _).alloc _
 have hbB:aL wa bb 29 #[.int .i64 1,.int .u64 sid,.int .u64 sq,.string kw,.int .i64 n]:=by rw[hwa,hbb];exact (aL.new _ _ _).alloc _
 have hrB:aL wa ra 32 #[.int .i64 0,.int .u64 0,.int .i64 0]:=by
  have h1:=aL.new (w.alloc (.cells #[.int .i64 1,.int .u64 sid,.int .u64 sq,.string kw,.int .i64 n] 29)) 32 #[.int .i64 0,.int .u64 0,.int .i64 0]
  rw[hwa,hra]
  simpa using h1
 have hsa:=h.quiet hTa
 have hLa:=dN.touch hL hTa
 have hbs:bb<wa.heap.size:=hbB.lt
 have hrs:ra<wa.heap.size:=hrB.lt
 have hba:w.heap.size<=bb:=by omega
 have hraw:w.heap.size<=ra:=by omega
 have hne:bb≠ra:=by omega
 have HT0:=aB h.tab
 have HX0:=aB h
 have HTA:=aB hTa
 have HBB:=aB hbB
 have HRB:=aB hrB
 have HWA:=aB hwa
 have HB0:=aB hbb
 have HR0:=aB hra
 have HSA:=aB hsa
 have HLA:=aB hLa
 have HNE:=aB hne
 have HBA:=aB hba
 have HRW:=aB hraw
 clear hwa hbb hra hTa h hL hsa hLa hbs hrs hba hraw hne
 obtain⟨b0,b1,b2⟩:=hbB.facts
 obtain⟨s0,s1,s2⟩:=HSA.blk.facts
 obtain⟨r0,r1,r2⟩:=hrB.facts
 clear hbB hrB
 go_in
 go_upto_region 1 with fail
 rw[<-HWA.out,<-HR0.out,<-HB0.out]
 go_wp2_with fail
 refine (Xv wa tb v R HSA.tab hn).mono ?_
 rintro e w1 ⟨rfl,rfl⟩
 go_wp2_with fail
 refine bodyPost_ret (v:=pT ⟨0,152,0,0⟩) (results_cell_row rfl _ _ ra 32 _ (0,0) _ rfl (gX _ _ _ _ _ _ HRB) Tryz.underlying32 rfl (by kernel_rfl)) rfl ?_
 exact⟨rfl,(((HTA.setCell (p:=⟨ra,_,none⟩) (λhx=>absurd hx (by have:=HRW.out;simp at hx;omega)) _).setCell (p:=⟨ra,_,none⟩) (λhx=>absurd hx (by have:=HRW.out;simp at hx;omega)) _).setCell (p:=⟨ra,_,none⟩) (λhx=>absurd hx (by have:=HRW.out;simp at hx;omega)) _)⟩
theorem Xt(w:World)(hL:dN w){R:List aU}(h:nY w s d tb v L q R)(sid sq n:Int)(kw:ByteArray)(hk:kw.size<=1099511627776)(hn:R.length<4096) :
  Calls Tryz.prog 10 #[dC s,.agg #[.int .i64 1,.int .u64 sid,.int .u64 sq,.string kw,.int .i64 n]] w λe w'=>e=.returned (pT ⟨0,0,(R.length:Int)+1,0⟩)/\(∃ v',nY w' s d tb v' L q (R++[aU.zero])/\bJ w v v')/\aC (fp tb v) w w':=by
 obtain⟨wa,hwa⟩:=eX ((w.alloc (.cells #[.int .i64 1,.int .u64 sid,.int .u64 sq,.string kw,.int .i64 n] 29)).alloc (.cells #[.int .i64 0,.int .u64 0,.int .i64 0] 32))
 obtain⟨bb,hbb⟩:=eX w.heap.size
 obtain⟨ra,hra⟩:=eX (w.heap.size+1)
 have hTa:aC (λ_=>False) w wa:=by rw[hwa];exact ((aC.refl _ _).alloc _).alloc _
 have hbB:aL wa bb 29 #[.int .i64 1,.int .u64 sid,.int .u64 sq,.string kw,.int .i64 n]:=by rw[hwa,hbb];exact (aL.new _ _ _).alloc _
 have hrB:aL wa ra 32 #[.int .i64 0,.int .u64 0,.int .i64 0]:=by
  have h1:=aL.new (w.alloc (.cells #[.int .i64 1,.int .u64 sid,.int .u64 sq,.string kw,.int .i64 n] 29)) 32 #[.int .i64 0,.int .u64 0,.int .i64 0]
  rw[hwa,hra]
  simpa using h1
 have hsa:=h.quiet hTa
 have hLa:=dN.touch hL hTa
 have hbs:bb<wa.heap.size:=hbB.lt
 have hrs:ra<wa.heap.size:=hrB.lt
 have hba:w.heap.size<=bb:=by omega
 have hraw:w.heap.size<=ra:=by omega
 have hne:bb≠ra:=by omega
 have HT0:=aB h.tab
 have HX0:=aB h
 have HTA:=aB hTa
 have HBB:=aB hbB
 have HRB:=aB hrB
 have HWA:=aB hwa
 have HB0:=aB hbb
 have HR0:=aB hra
 have HSA:=aB hsa
 have HLA:=aB hLa
 have HNE:=aB hne
 have HBA:=aB hba
 have HRW:=aB hraw
 clear hwa hbb hra hTa h hL hsa hLa hbs hrs hba hraw hne
 obtain⟨b0,b1,b2⟩:=hbB.facts
 obtain⟨s0,s1,s2⟩:=HSA.blk.facts
 obtain⟨r0,r1,r2⟩:=hrB.facts
 clear hbB hrB
 go_in
 go_upto_region 1 with fail
 rw[<-HWA.out,<-HR0.out,<-HB0.out]
 have HLT:=aB (λg=>aCs (w:=w) (g:=g) HT0)
 go_wp2_with fail
 refine (Xx wa tb v R HSA.tab hn).mono ?_
 rintro e w1 ⟨rfl,v',ht,T1,hf⟩
 have HT1:=aB ((HTA.up _).then T1)
 have HF:=aB hf
 have HS1:=aB (HSA.tabbed T1 ht (by simp;omega))
 have HR1:=aB (HRB.touch T1 (λf=>by have:=HLT.out ra f;have:=HRW.out;omega))
 clear ht hf b0 b1 b2 s0 s1 s2 r0 r1 r2 T1
 obtain⟨r0,r1,r2⟩:=HR1.facts
 go_wp2_with fail
 refine bodyPost_ret (v:=pT ⟨0,0,(R.length:Int)+1,0⟩) (results_cell_row rfl _ _ ra 32 _ (0,0) _ rfl (gX _ _ _ _ _ _ HR1) Tryz.underlying32 rfl (by kernel_rfl)) rfl ?_
 refine⟨rfl,⟨v',HS1.ans HR1 (((((aC.refl (λk=>k=ra) w1).setCell (p:=⟨ra,_,none⟩) (λ_=>rfl) _).setCell (p:=⟨ra,_,none⟩) (λ_=>rfl) _).setCell (p:=⟨ra,_,none⟩) (λ_=>rfl) _)),HF.of HTA.size⟩,?_⟩
 exact (((HT1.setCell (p:=⟨ra,_,none⟩) (λhx=>absurd hx (by have:=HRW.out;simp at hx;omega)) _).setCell (p:=⟨ra,_,none⟩) (λhx=>absurd hx (by have:=HRW.out;simp at hx;omega)) _).setCell (p:=⟨ra,_,none⟩) (λhx=>absurd hx (by have:=HRW.out;simp at hx;omega)) _)
theorem aBs(w:World)(hL:dN w){R:List aU}(h:nY w s d tb v L q R)(sid sq n:Int)(kw:ByteArray)(hk:kw.size<=1099511627776)(kd:Int)(hkd:kd=2\/kd=3) :
  Calls Tryz.prog 10 #[dC s,.agg #[.int .i64 kd,.int .u64 sid,.int .u64 sq,.string kw,.int .i64 n]] w λe w'=>e=.returned (pT (Kt ⟨kd,sid,sq,kw,n⟩ L R))/\(∃ v',(∃ q',nY w' s d tb v' (Ku ⟨kd,sid,sq,kw,n⟩ L R) q' (Kv ⟨kd,sid,sq,kw,n⟩ L R))/\bJ w v v')/\aC (stF d tb v) w w':=by
 obtain⟨K,hK⟩:∃ K,Tu ⟨kd,sid,sq,kw,n⟩ R=K:=⟨_,rfl⟩
 have HE:=aB (λhe=>aDk (L:=L) hkd hK he)
 have HG:=aB (λhe hb=>Uy (L:=L) hkd hK he hb)
 have HN:=aB (λhe hb=>aDl (L:=L) hkd hK he hb)
 have HCH:=aB (λhe hb=>Zx (K:=K) hK he hb)
 have HDS:=aB (λ(wx:World) (hl:dN wx) (hd:gK wx d L q)=>Je wx hl hd kd sid sq kw hk n hkd)
 obtain⟨hh,hhh⟩:=eX (doH ⟨kd,sid,sq,kw,n⟩ L)
 obtain⟨ee,hee⟩:=eX (doE ⟨kd,sid,sq,kw,n⟩ L)
 obtain⟨L2,hL2⟩:=eX (doW ⟨kd,sid,sq,kw,n⟩ L)
 simp only[<-hhh,<-hee,<-hL2] at HDS HN
 obtain⟨xA,hxA⟩:=eX (Kt ⟨kd,sid,sq,kw,n⟩ L R)
 obtain⟨xL,hxL⟩:=eX (Ku ⟨kd,sid,sq,kw,n⟩ L R)
 obtain⟨xR,hxR⟩:=eX (Kv ⟨kd,sid,sq,kw,n⟩ L R)
 simp only[<-hxA,<-hxL,<-hxR] at HE HG HN ⊢
 clear hhh hee hL2 hxA hxL hxR
 have HLT:=aB (λg=>aEn (w:=w) (g:=g) h)
 obtain⟨wa,hwa⟩:=eX ((w.alloc (.cells #[.int .i64 kd,.int .u64 sid,.int .u64 sq,.string kw,.int .i64 n] 29)).alloc (.cells #[.int .i64 0,.int .u64 0,.int .i64 0] 32))
 obtain⟨bb,hbb⟩:=eX w.heap.size
 obtain⟨ra,hra⟩:=eX (w.heap.size+1)
 have hTa:aC (λ_=>False) w wa:=by rw[hwa];exact ((aC.refl _ _).alloc _).alloc _
 have hbB:aL wa bb 29 #[.int .i64 kd,.int .u64 sid,.int .u64 sq,.string kw,.int .i64 n]:=by rw[hwa,hbb];exact (aL.new _ _ _).alloc _
 have hrB:aL wa ra 32 #[.int .i64 0,.int .u64 0,.int .i64 0]:=by
  have h1:=aL.new (w.alloc (.cells #[.int .i64 kd,.int .u64 sid,.int .u64 sq,.string kw,.int .i64 n] 29)) 32 #[.int .i64 0,.int .u64 0,.int .i64 0]
  rw[hwa,hra]
  simpa using h1
 have hsa:=h.quiet hTa
 have hLa:=dN.touch hL hTa
 have hbs:bb<wa.heap.size:=hbB.lt
 have hrs:ra<wa.heap.size:=hrB.lt
 have hba:w.heap.size<=bb:=by omega
 have hraw:w.heap.size<=ra:=by omega
 have hne:bb≠ra:=by omega
 have HT0:=aB h.tab
 have HX0:=aB h
 have HTA:=aB hTa
 have HBB:=aB hbB
 have HRB:=aB hrB
 have HWA:=aB hwa
 have HB0:=aB hbb
 have HR0:=aB hra
 have HSA:=aB hsa
 have HLA:=aB hLa
 have HNE:=aB hne
 have HBA:=aB hba
 have HRW:=aB hraw
 clear hwa hbb hra hTa h hL hsa hLa hbs hrs hba hraw hne
 obtain⟨b0,b1,b2⟩:=hbB.facts
 obtain⟨s0,s1,s2⟩:=HSA.blk.facts
 obtain⟨r0,r1,r2⟩:=hrB.facts
 clear hbB hrB
 go_in
 go_upto_region 1 with fail
 rw[<-HWA.out,<-HR0.out,<-HB0.out]
 have HCK:=aB (λ(wx:World) (T:aC (λ_=>False) wa wx)=>Su wx tb v R (HSA.quiet T).tab sid sq K hK)
 have HKS:Hid (∀ wx,aC (λ_=>False) wa wx->wx.cell? ⟨s,1,none⟩=some (dC tb)/\wx.cell? ⟨bb,1,none⟩=some (.int .u64 sid)/\wx.cell? ⟨bb,2,none⟩=some (.int .u64 sq)/\aC (λ_=>False) wa wx):=aB (λwx T=>⟨((HSA.blk.touch T (λf=>f)).cell 1).trans rfl,((HBB.touch T (λf=>f)).cell 1).trans rfl,((HBB.touch T (λf=>f)).cell 2).trans rfl,T⟩)
 clear hK
 obtain⟨kc,ks,kh,kb,ke⟩:=K
 simp only[mK.val] at HCK
 rcases hkd with rfl | rfl
 all_goals
  go_upto_region 10 with fail
  go_cut [8,9,10] from 31 to 43 (λs8 s9 s10 wx=>s9=.bool kb/\s10=.int .i64 ke/\Hid (∃ g,s8=.pointer (some ⟨g,0,none⟩)/\aL wx g 32 #[.int .i64 kc,.int .u64 ks,.int .i64 kh]/\wa.heap.size<=g/\aC (λ_=>False) wa wx))
  case first =>
   go_region_held3 (λw'=>w'.cell? ⟨s,1,none⟩=some (dC tb)/\w'.cell? ⟨bb,1,none⟩=some (.int .u64 sid)/\w'.cell? ⟨bb,2,none⟩=some (.int .u64 sq)/\aC (λ_=>False) wa w')
    (first
      | exact HKS _ (aC.refl _ _).drew
      | exact HKS _ ((aC.refl _ _).drew.alloc _)
      | exact HKS _ HT1
      | exact HKS _ (HT1.alloc _)
      | exact HKS _ (((HT1.setCell (p:=⟨wa.heap.size,_,none⟩) (λhx=>absurd hx (qJa _)) _).setCell (p:=⟨wa.heap.size,_,none⟩) (λhx=>absurd hx (qJa _)) _).setCell (p:=⟨wa.heap.size,_,none⟩) (λhx=>absurd hx (qJa _)) _)
      | exact HKS _ ((((HT1.alloc _).setCell (p:=⟨w1.heap.size,_,none⟩) (λhx=>absurd hx (by have:=HT1.size;simp at hx;omega)) _).setCell (p:=⟨w1.heap.size,_,none⟩) (λhx=>absurd hx (by have:=HT1.size;simp at hx;omega)) _).setCell (p:=⟨w1.heap.size,_,none⟩) (λhx=>absurd hx (by have:=HT1.size;simp at hx;omega)) _)
      | (trace_state;fail))
    (first
      | (go_simp;refine (HCK _ (aC.refl (λ_=>False) wa).drew).mono ?_;rintro e w1 ⟨rfl,T1⟩;have HT1:=aB ((aC.refl (λ_=>False) wa).drew.then T1);clear T1;go_simp)
      | (go_simp;refine (HCK _ ((aC.refl (λ_=>False) wa).drew.alloc _)).mono ?_;rintro e w1 ⟨rfl,T1⟩;have HT1:=aB (((aC.refl (λ_=>False) wa).drew.alloc _).then T1);have HG1:Hid (aL w1 wa.heap.size 32 #[.int .i64 0,.int .u64 0,.int .i64 0]):=aB ((aL.new wa.drew _ _).touch T1 (λf=>f));clear T1;obtain⟨g0,g1,g2⟩:=HG1.facts;go_simp))
   ·go_wp2_with fail
    go_meet
    case rel=>exact⟨rfl,rfl,aB ⟨_,rfl,(by first | exact aL.new _ _ _ | exact gX _ _ _ _ _ _ (aL.new _ _ _)),HT1.size,(by first | exact HT1.alloc _ | exact ((((HT1.alloc _).setCell (p:=⟨w1.heap.size,_,none⟩) (λhx=>absurd hx (by have:=HT1.size;simp at hx;omega)) _).setCell (p:=⟨w1.heap.size,_,none⟩) (λhx=>absurd hx (by have:=HT1.size;simp at hx;omega)) _).setCell (p:=⟨w1.heap.size,_,none⟩) (λhx=>absurd hx (by have:=HT1.size;simp at hx;omega)) _))⟩⟩
   ·go_wp2_with fail
    go_meet
    case rel=>exact⟨rfl,rfl,aB ⟨_,rfl,gX _ _ _ _ _ _ HG1,Nat.le_refl _,(((HT1.setCell (p:=⟨wa.heap.size,_,none⟩) (λhx=>absurd hx (qJa _)) _).setCell (p:=⟨wa.heap.size,_,none⟩) (λhx=>absurd hx (qJa _)) _).setCell (p:=⟨wa.heap.size,_,none⟩) (λhx=>absurd hx (qJa _)) _)⟩⟩
  case rest =>
   obtain⟨rfl,rfl,hcut⟩:=hcut
   obtain⟨g,rfl,hgb,hgl,T⟩:=hcut.out
   have HSC:=aB (HSA.quiet T)
   have HBC:=aB (HBB.touch T (λf=>f))
   have HRC:=aB (HRB.touch T (λf=>f))
   have HGC:=aB hgb
   have HGL:=aB hgl
   have HTC:=aB (HTA.then T)
   have HLC:=aB (dN.touch HLA T)
   have HGR:Hid (g≠ra):=aB (by have:=HRB.lt;omega)
   clear hcut hgb hgl T b0 b1 b2 s0 s1 s2 r0 r1 r2 HSA HBB HRB HKS HCK
   obtain⟨b0,b1,b2⟩:=HBC.facts
   obtain⟨s0,s1,s2⟩:=HSC.blk.facts
   obtain⟨r0,r1,r2⟩:=HRC.facts
   obtain⟨g0,g1,g2⟩:=HGC.facts
   by_cases he:ke=0
   ·subst he
    cases kb
    ·have HE3:=aB (HN rfl rfl)
     have HCN:=aB (HCH rfl rfl)
     obtain⟨-,-,hcn⟩:=HCN.out
     injection hcn with hc1 hc2 hc3 _ _
     subst hc1 hc2 hc3
     have hbd:¬ (bb=d\/bb=g):=λf=>f.elim (λe=>(aF HBC).ne HSC.dct.ty (by decide) e) (λe=>(aF HBC).ne (aF HGC) (by decide) e)
     have hsd:¬ (s=d\/s=g):=λf=>f.elim (λe=>(aF HSC.blk).ne HSC.dct.ty (by decide) e) (λe=>(aF HSC.blk).ne (aF HGC) (by decide) e)
     have hrd:¬ (ra=d\/ra=g):=λf=>f.elim (λe=>(aF HRC).ne HSC.dct.ty (by decide) e) (λe=>HGR.out e.symm)
     have hgd:¬ g=d:=λe=>(aF HGC).ne HSC.dct.ty (by decide) e
     have HKS:Hid (∀ wx,aC (λk=>k=d\/k=g) wc wx->wx.cell? ⟨s,0,none⟩=some (dC d)/\wx.cell? ⟨bb,3,none⟩=some (.string kw)/\wx.cell? ⟨bb,4,none⟩=some (.int .i64 n)/\aC (λk=>k=d\/k=g) wc wx):=aB (λwx T=>⟨((HSC.blk.touch T hsd).cell 0).trans rfl,((HBC.touch T hbd).cell 3).trans rfl,((HBC.touch T hbd).cell 4).trans rfl,T⟩)
     have HBD:=aB hbd
     have HSD:=aB hsd
     have HRD:=aB hrd
     have HGD:=aB hgd
     clear hbd hsd hrd hgd
     go_upto_region 14 with fail
     go_region_held3 (λw'=>w'.cell? ⟨s,0,none⟩=some (dC d)/\w'.cell? ⟨bb,3,none⟩=some (.string kw)/\w'.cell? ⟨bb,4,none⟩=some (.int .i64 n)/\aC (λk=>k=d\/k=g) wc w')
      (first
        | exact HKS _ (aC.refl _ _).drew
        | exact HKS _ HT2
        | exact HKS _ (HT2.setCell (p:=⟨g,_,none⟩) (λ_=>.inr rfl) _)
        | exact HKS _ ((HT2.setCell (p:=⟨g,_,none⟩) (λ_=>.inr rfl) _).setCell (p:=⟨g,_,none⟩) (λ_=>.inr rfl) _)
        | (trace_state;fail))
      (first
        | (go_simp;refine (HDS wc.drew (dN.touch HLC (aC.refl _ _).drew) (HSC.quiet (aC.refl _ _).drew).dct).mono ?_;rintro e w2 ⟨rfl,⟨q2,hd2⟩,T2⟩;have HD2:=aB hd2;have HTd:=aB ((aC.refl (λk=>k=d) wc).drew.then T2);have HT2:=aB (HTd.mono (λ_ _ e=>Or.inl e):aC (λk=>k=d\/k=g) wc w2);have HG2:=aB (HGC.touch HTd HGD);clear hd2 T2 g0 g1 g2;obtain⟨g0,g1,g2⟩:=HG2.facts;go_simp))
     obtain⟨w3,hw3⟩:=eX ((w2.setCell ⟨g,2,none⟩ (.int .i64 hh)).setCell ⟨g,0,none⟩ (.int .i64 ee))
     have hg3:aL w3 g 32 #[.int .i64 ee,.int .u64 0,.int .i64 hh]:=by
      rw[hw3]
      have h1:=(HG2.set_ 2 (.int .i64 hh)).set_ 0 (.int .i64 ee)
      simpa using h1
     have ht23:aC (λk=>k=g) w2 w3:=by rw[hw3];exact ((aC.refl (λk=>k=g) w2).setCell (p:=⟨g,_,none⟩) (λ_=>rfl) _).setCell (p:=⟨g,_,none⟩) (λ_=>rfl) _
     have hs3:nY w3 s d tb v L2 q2 R:=(HSC.worded HTd HD2).ans HG2 ht23
     have htd3:aC (λk=>k=d\/k=g) wc w3:=HT2.trans ht23 (λ_ _ e=>.inr e)
     have HB3:=aB (HBC.touch htd3 HBD)
     have HR3:=aB (HRC.touch htd3 HRD)
     have HT3:Hid (aC (stF d tb v) w w3):=aB ((HTC.up _).trans htd3 (λi hi e=>e.elim (λe=>.inl e) (λe=>absurd hi (by have h1:=HGL.out;have h2:=HTA.size;omega))))
     have HG3:=aB hg3
     have HS3:=aB hs3
     have hkeep:Hp R sid sq=true:=by
      unfold Hp
      rw[HCN.1]
      simpa using HCN.2.1
     have HKP:=aB hkeep
     have HK4:Hid (∀ wx,aC (fp tb v) w3 wx->wx.cell? ⟨s,1,none⟩=some (dC tb)/\wx.cell? ⟨bb,1,none⟩=some (.int .u64 sid)/\wx.cell? ⟨bb,2,none⟩=some (.int .u64 sq)/\wx.cell? ⟨g,0,none⟩=some (.int .i64 ee)/\wx.cell? ⟨g,1,none⟩=some (.int .u64 0)/\wx.cell? ⟨g,2,none⟩=some (.int .i64 hh)/\aC (fp tb v) w3 wx):=aB (λwx T=>by
      have e1:=HS3.blk.touch T (qB HS3.tab (aF HS3.blk) (by decide) (by decide))
      have e2:=HB3.touch T (qB HS3.tab (aF HB3) (by decide) (by decide))
      have e3:=HG3.touch T (qB HS3.tab (aF HG3) (by decide) (by decide))
      exact⟨(e1.cell 1).trans rfl,(e2.cell 1).trans rfl,(e2.cell 2).trans rfl,(e3.cell 0).trans rfl,(e3.cell 1).trans rfl,(e3.cell 2).trans rfl,T⟩)
     rw[<-hw3]
     clear hw3 hg3 ht23 hs3 htd3 hkeep b0 b1 b2 s0 s1 s2 r0 r1 r2 g0 g1 g2
     go_upto_region 15 with fail
     go_region_held3 (λw'=>w'.cell? ⟨s,1,none⟩=some (dC tb)/\w'.cell? ⟨bb,1,none⟩=some (.int .u64 sid)/\w'.cell? ⟨bb,2,none⟩=some (.int .u64 sq)/\w'.cell? ⟨g,0,none⟩=some (.int .i64 ee)/\w'.cell? ⟨g,1,none⟩=some (.int .u64 0)/\w'.cell? ⟨g,2,none⟩=some (.int .i64 hh)/\aC (fp tb v) w3 w')
      (first
        | exact HK4 _ (aC.refl _ _).drew
        | exact HK4 _ HT4
        | (trace_state;fail))
      (first
        | (go_simp;refine (Fk w3.drew tb v R (HS3.quiet (aC.refl _ _).drew).tab sid sq ⟨0,ee,0,hh⟩ HKP).mono ?_;rintro e w4 ⟨rfl,ht4,T4⟩;have HTB4:=aB ht4;have HT4:=aB ((aC.refl (fp tb v) w3).drew.then T4);have HG4:=aB (HG3.touch HT4 (qB HS3.tab (aF HG3) (by decide) (by decide)));have HR4:=aB (HR3.touch HT4 (qB HS3.tab (aF HR3) (by decide) (by decide)));clear ht4 T4;obtain⟨g0,g1,g2⟩:=HG4.facts;obtain⟨r0,r1,r2⟩:=HR4.facts;go_simp))
     go_wp2_with fail
     refine bodyPost_ret (v:=pT ⟨0,ee,0,hh⟩) (results_cell_row rfl _ _ ra 32 _ (0,0) _ rfl (gX _ _ _ _ _ _ HR4) Tryz.underlying32 rfl (by kernel_rfl)) rfl ?_
     exact⟨by rw[HE3.1],⟨v,⟨q2,by rw[HE3.2.1,HE3.2.2];exact (HS3.tabbed HT4 HTB4 (by simp;exact HS3.few)).ans HR4 (((((aC.refl (λk=>k=ra) w4).setCell (p:=⟨ra,_,none⟩) (λ_=>rfl) _).setCell (p:=⟨ra,_,none⟩) (λ_=>rfl) _).setCell (p:=⟨ra,_,none⟩) (λ_=>rfl) _))⟩,.inl rfl⟩,((((HT3.trans HT4 (λi hi e=>.inr e)).setCell (p:=⟨ra,_,none⟩) (λhx=>absurd hx (by have:=HRW.out;simp at hx;omega)) _).setCell (p:=⟨ra,_,none⟩) (λhx=>absurd hx (by have:=HRW.out;simp at hx;omega)) _).setCell (p:=⟨ra,_,none⟩) (λhx=>absurd hx (by have:=HRW.out;simp at hx;omega)) _)⟩
    ·have HE3:=aB (HG rfl rfl)
     go_wp2_with fail
     refine bodyPost_ret (v:=pT ⟨0,kc,ks,kh⟩) (results_cell_row rfl _ _ ra 32 _ (0,0) _ rfl (gX _ _ _ _ _ _ HRC) Tryz.underlying32 rfl (by kernel_rfl)) rfl ?_
     exact⟨by rw[HE3.1],⟨v,⟨q,by rw[HE3.2.1,HE3.2.2];exact HSC.ans HRC (((((aC.refl (λk=>k=ra) wc).setCell (p:=⟨ra,_,none⟩) (λ_=>rfl) _).setCell (p:=⟨ra,_,none⟩) (λ_=>rfl) _).setCell (p:=⟨ra,_,none⟩) (λ_=>rfl) _))⟩,.inl rfl⟩,((((HTC.up _).setCell (p:=⟨ra,_,none⟩) (λhx=>absurd hx (by have:=HRW.out;simp at hx;omega)) _).setCell (p:=⟨ra,_,none⟩) (λhx=>absurd hx (by have:=HRW.out;simp at hx;omega)) _).setCell (p:=⟨ra,_,none⟩) (λhx=>absurd hx (by have:=HRW.out;simp at hx;omega)) _)⟩
   ·have HE3:=aB (HE he)
    go_wp2_with fail
    refine bodyPost_ret (v:=pT ⟨0,ke,0,0⟩) (results_cell_row rfl _ _ ra 32 _ (0,0) _ rfl (gX _ _ _ _ _ _ HRC) Tryz.underlying32 rfl (by kernel_rfl)) rfl ?_
    exact⟨by rw[HE3.1],⟨v,⟨q,by rw[HE3.2.1,HE3.2.2];exact HSC.ans HRC (((((aC.refl (λk=>k=ra) wc).setCell (p:=⟨ra,_,none⟩) (λ_=>rfl) _).setCell (p:=⟨ra,_,none⟩) (λ_=>rfl) _).setCell (p:=⟨ra,_,none⟩) (λ_=>rfl) _))⟩,.inl rfl⟩,((((HTC.up _).setCell (p:=⟨ra,_,none⟩) (λhx=>absurd hx (by have:=HRW.out;simp at hx;omega)) _).setCell (p:=⟨ra,_,none⟩) (λhx=>absurd hx (by have:=HRW.out;simp at hx;omega)) _).setCell (p:=⟨ra,_,none⟩) (λhx=>absurd hx (by have:=HRW.out;simp at hx;omega)) _)⟩
theorem aC.fp(h:aC (fp tb v) w w'):aC (stF d tb v) w w':=h.mono (λ_ _ e=>.inr e)
theorem aBr(w:World)(hL:dN w){R:List aU}(h:nY w s d tb v L q R)(c:gC)(hc:c.Wf) :
  Calls Tryz.prog 10 #[dC s,c.val] w λe w'=>e=.returned (pT (Kt c L R))/\(∃ v',(∃ q',nY w' s d tb v' (Ku c L R) q' (Kv c L R))/\bJ w v v')/\aC (stF d tb v) w w':=by
 obtain⟨kd,sid,sq,kw,n⟩:=c
 unfold gC.Wf at hc
 by_cases h1:kd=1
 ·subst h1
  by_cases hn:R.length<4096
  ·refine (Xt w hL h sid sq n kw hc hn).mono ?_
   rintro e w' ⟨rfl,⟨v',hs,hf⟩,T⟩
   refine⟨by simp[Kt,hn],⟨v',⟨q,?_⟩,hf⟩,T.fp⟩
   simpa [Ku,Kv,oJ,hn] using hs
  ·refine (Xs w hL h sid sq n kw hc (by have:=h.few;omega)).mono ?_
   rintro e w' ⟨rfl,T⟩
   refine⟨by simp[Kt,hn],⟨v,⟨q,?_⟩,.inl rfl⟩,T.up _⟩
   simpa [Ku,Kv,oJ,hn] using h.quiet T
 ·by_cases h2:kd=2\/kd=3
  ·exact aBs w hL h sid sq n kw hc kd h2
  ·refine (St w hL h sid sq n kw hc kd h1 (by omega) (by omega)).mono ?_
   rintro e w' ⟨rfl,T⟩
   refine⟨by simp[Kt,h1,h2],⟨v,⟨q,?_⟩,.inl rfl⟩,T.up _⟩
   simpa [Ku,Kv,oJ,h1,h2] using h.quiet T
theorem Kn(w:World)(hL:dN w){R:List aU}(h:nY w s d tb v L q R) :
  Calls Tryz.prog 12 #[dC s] w λe w'=>∃ A' c',e=.returned (.slice A' L.length c')/\cZ w' A' L.length c' L/\aC (λ_=>False) w w':=by
 obtain⟨s0,s1,s2⟩:=h.blk.facts
 have HC:=aB (Ry w hL h.dct)
 clear h hL
 go_in
 go_wp2_with fail
 refine HC.mono ?_
 rintro e w1 ⟨A',c',rfl,hp,T⟩
 have HP:=aB hp
 have HT:=aB T
 clear hp T
 go_wp2_with fail
 go_ret
 exact⟨A',c',rfl,HP,HT⟩
theorem Jg(w:World){R:List aU}(h:nY w s d tb v L q R) :
  Calls Tryz.prog 77 #[dC s] w λe w'=>∃ v',e=.returned v'/\w'.ownsRow 0 110 4 v' R.length (bQ R)/\aC (λ_=>False) w w'/\∀ g,v'.ownBlock=some g->w.heap.size<=g:=by
 obtain⟨s0,s1,s2⟩:=h.blk.facts
 have HC:=aB (Jf w tb v R h.tab h.few)
 clear h
 go_in
 go_wp2_with fail
 refine HC.mono ?_
 rintro e w1 ⟨v',rfl,hp⟩
 have HP:=aB hp
 clear hp
 go_wp2_with fail
 go_ret
 exact⟨v',rfl,HP⟩
def jR(s:Nat):Nat:=if s % 2=1 then (s / 2) ^^^ 2197175160 else s / 2
def iX:Nat->Nat->Nat
 | 0,s=>s
 | n+1,s=>jR (iX n s)
def vZ(s c:Nat):Nat:=iX 8 (s ^^^ c)
def oH(bs:List UInt8):Nat:=bs.foldl (λs c=>vZ s c.toNat) 4294967295
def sumB(bs:List UInt8):Nat:=4294967295-oH bs
theorem Qf(h:s<4294967296):jR s<4294967296:=by
 unfold jR
 split
 ·exact qXd (n:=32) (by omega) (by decide)
 ·omega
theorem pB(h:s<4294967296):∀ n,iX n s<4294967296
 | 0=>h
 | n+1=>Qf (pB h n)
theorem Lp(h:s<4294967296)(hc:c<256):vZ s c<4294967296 :=
 pB (qXd (n:=32) h (by omega)) 8
theorem wG(bs:List UInt8):oH bs<4294967296:=by
 unfold oH
 have key:∀ (l:List UInt8) (s:Nat),s<4294967296->l.foldl (λs c=>vZ s c.toNat) s<4294967296:=by
  intro l
  induction l with
  | nil=>exact λs h=>h
  | cons b l ih=>exact λs h=>ih _ (Lp h b.toNat_lt)
 exact key bs _ (by decide)
theorem Cc(bs:List UInt8)(b:UInt8):oH (bs++[b])=vZ (oH bs) b.toNat:=by simp[oH]
theorem Uw(h:s<4294967296) :
  bits .xor .u32 ((s:Int).fdiv (2 ^ min (qZa 1) IntKind.u32.bits)) (bits .and .u32 2197175160 (IntKind.u32.wrap (-(bits .and .u32 (s:Int) 1))))=((jR s:Nat):Int):=by
 have e1:min (qZa 1) IntKind.u32.bits=1:=by decide
 have e2:bits .and .u32 (s:Int) 1=((s % 2:Nat):Int):=by
  have:=u32_and_nat s 1 h (by decide)
  rw[Nat.and_one_is_mod] at this
  exact this
 have e3:(s:Int).fdiv (2 ^ 1)=((s / 2:Nat):Int):=by
  rw[qQb _ (by decide)]
  omega
 rw[e1,e2,e3]
 unfold jR
 rcases Nat.mod_two_eq_zero_or_one s with h2 | h2
 ·rw[h2,if_neg (by decide)]
  have e4:bits .and .u32 2197175160 (IntKind.u32.wrap (-((0:Nat):Int)))=((0:Nat):Int):=by decide
  rw[e4,u32_xor_nat _ _ (by omega) (by decide),Nat.xor_zero]
 ·rw[h2,if_pos rfl]
  have e4:bits .and .u32 2197175160 (IntKind.u32.wrap (-((1:Nat):Int)))=((2197175160:Nat):Int):=by decide
  rw[e4,u32_xor_nat _ _ (by omega) (by decide)]
theorem Qg(h:s<4294967296) :
  bits .xor .u32 ((s:Int) / 2) (bits .and .u32 2197175160 (-bits .and .u32 (s:Int) 1 % 4294967296))=((jR s:Nat):Int):=by
 rw[<-Uw h,IntKind.wrap_u32]
 have e1:min (qZa 1) IntKind.u32.bits=1:=by decide
 rw[e1,qQb _ (by decide)]
 rfl
theorem aCe(h:s<4294967296):4294967295 ^^^ s=4294967295-s:=by
 have h1:=congrArg BitVec.toNat (BitVec.allOnes_xor (x:=BitVec.ofNat 32 s))
 rw[BitVec.toNat_xor,BitVec.toNat_not,BitVec.toNat_allOnes,BitVec.toNat_ofNat,Nat.mod_eq_of_lt h] at h1
 exact h1
theorem Uv(h:s<4294967296):bits .xor .u32 IntKind.u32.max (s:Int)=((4294967295-s:Nat):Int):=by
 have e:IntKind.u32.max=((4294967295:Nat):Int):=by decide
 rw[e,u32_xor_nat _ _ (by decide) h,aCe h]
theorem rL(h:aI w 1 A n (bs.map aP))(k:Nat)(hk:k<n)(hn:bs.length=n) :
  ∃ g off,A=some ⟨g,off,none⟩/\g<w.heap.size/\w.cell? ⟨g,off+k,none⟩=some (.int .u8 ((bs.getD k 0).toNat:Int)):=by
 obtain⟨b,off,hA,hb,hc⟩:=h.2 (by omega)
 have hk':k<bs.length:=by omega
 have e:bs.getD k 0=bs[k]:=by simp[qXa,hk']
 rw[e]
 exact⟨b,off,hA,hb,hc k _ (by simp[hk',aP])⟩
theorem xN(bs:List UInt8)(i:Nat)(h:i<bs.length):bs.take (i+1)=bs.take i++[bs.getD i 0]:=by
 rw[qZd h]
 have e:bs.getD i 0=bs[i]:=by simp[qXa,h]
 rw[e]
theorem Hb(w:World)(A:Option Addr)(n c:Nat)(bs:List UInt8)(hR:aI w 1 A n (bs.map aP))(hl:bs.length=n)(hn:n<=35184372088832) :
  Calls Tryz.prog 113 #[.slice A n c] w λe w'=>e=.returned (.int .u32 ((sumB bs:Nat):Int))/\aC (λ_=>False) w w':=by
 have HR:=aB hR
 have HL:=aB hl
 have HN:=aB hn
 clear hR hl hn
 go_in
 go_wp2_with fail
 go_loopw [3,8] (λsv iv wr=>∃ (i:Nat),sv=.int .u32 ((oH (bs.take i):Nat):Int)/\iv=.int .i64 i/\i<=n/\wr=w) (λ_ iv _=>n-(intOf iv).toNat)
 case atStart=>exact⟨0,rfl,rfl,qXc _,rfl⟩
 case round =>
  obtain⟨i,rfl,rfl,hin',rfl⟩:=hrel
  obtain⟨wo,hwo⟩:=eX wr
  subst hwo
  by_cases hin:i<n
  ·have y0:(i:Int)<(n:Int):=by omega
   have y1:(0:Int)<=(i:Int):=by omega
   have y2:IntKind.i64.wrap ((i:Int)+1)=(i:Int)+1:=qZb _ (by have:=HN.out;omega)
   obtain⟨gl,ol,hAl,hgl,l0⟩:=rL HR i hin HL
   subst hAl
   obtain⟨b,hb⟩:=eX (bs.getD i 0)
   have hsn:oH (bs.take (i+1))=iX 8 (oH (bs.take i) ^^^ b.toNat):=by rw[xN bs i (by rw[HL.out];exact hin),Cc,hb];rfl
   rw[<-hb] at l0
   obtain⟨s,hs⟩:=eX (oH (bs.take i))
   rw[<-hs] at hsn
   have hslt:s<4294967296:=by rw[hs];exact wG _
   obtain⟨v,hv⟩:∃ v:Nat,v=b.toNat:=⟨_,rfl⟩
   have hvlt:v<256:=by rw[hv];exact b.toNat_lt
   rw[<-hv] at l0 hsn
   have m0:IntKind.u32.wrap (v:Int)=(v:Int):=by rw[IntKind.wrap_u32];omega
   have m1:bits .xor .u32 (s:Int) (v:Int)=((s ^^^ v:Nat):Int):=u32_xor_nat s v hslt (by omega)
   obtain⟨x,hx⟩:=eX (s ^^^ v)
   have hxlt:x<4294967296:=by rw[hx];exact qXd (n:=32) hslt (by omega)
   rw[<-hx] at m1 hsn
   have HSN:=aB hsn
   have HXL:=aB hxlt
   have HIN:=aB hin
   have HS:=aB hs
   rw[<-hs]
   clear hb hs hsn hv hx hxlt hin hin' hslt hvlt
   go_wp2_with fail
   go_loopw [3,16] (λsv kv wr=>∃ (k:Nat),sv=.int .u32 ((iX k x:Nat):Int)/\kv=.int .i64 k/\k<=8/\wr=wo) (λ_ kv _=>8-(intOf kv).toNat)
   case atStart=>exact⟨0,rfl,rfl,by omega,rfl⟩
   case round =>
    obtain⟨k,rfl,rfl,hk',hwr⟩:=hrel
    subst hwr
    by_cases hk:k<8
    ·have k0:(k:Int)<8:=by omega
     have k1:(0:Int)<=(k:Int):=by omega
     have k2:IntKind.i64.wrap ((k:Int)+1)=(k:Int)+1:=qZb _ (by omega)
     have m2:=Qg (pB HXL k)
     have e3:jR (iX k x)=iX (k+1) x:=rfl
     rw[e3] at m2
     obtain⟨r,hr⟩:=eX (iX k x)
     obtain⟨r2,hr2⟩:=eX (iX (k+1) x)
     rw[<-hr,<-hr2] at m2
     rw[<-hr]
     have HR2:=aB hr2
     have HK:=aB hk
     clear hr hr2 hk hk'
     go_wp2_with fail
     go_roundw
     ·exact⟨k+1,by rw[<-HR2.out],by simp,by have:=HK.out;omega,trivial⟩
     ·have:=HK.out
      simp only[intOf]
      omega
    ·have k0:¬ (k:Int)<8:=by omega
     have hk8:k=8:=by omega
     subst hk8
     clear hk hk' k0
     go_wp2_with fail
     go_roundw
     ·exact⟨i+1,by rw[HSN.out],by simp,by have:=HIN.out;omega,trivial⟩
     ·have:=HIN.out
      simp only[intOf]
      omega
  ·have y0:¬ (i:Int)<(n:Int):=by omega
   have hie:bs.take i=bs:=qQd (by rw[HL.out];omega)
   rw[hie]
   have m3:=Uv (wG bs)
   have hsu:(4294967295-oH bs:Nat)=sumB bs:=rfl
   rw[hsu] at m3
   obtain⟨s,hs⟩:=eX (oH bs)
   obtain⟨t,ht⟩:=eX (sumB bs)
   rw[<-hs,<-ht] at m3
   rw[<-hs]
   have HTT:=aB ht
   clear hs ht hie hsu hin hin'
   go_wp2_with fail
   go_ret
   exact⟨by rw[<-HTT.out];rfl,aC.refl _ _⟩
theorem sK(w:World)(A:Option Addr)(n c:Nat)(bs:List UInt8)(hR:aI w 1 A n (bs.map aP))(hA:A=none->n=0/\c=0)(hl:bs.length=n)(hn:n<=17592186044416) :
  Calls Tryz.prog 49 #[.slice none 0 0,.slice A n c] w λe w'=>∃ (A':Option Addr) (q' c':Nat),e=.returned (.slice A' q' c')/\eB 5 1 w w' (.slice A' q' c') q' ((dA n++bs).map aP)/\q'<=n+10:=by
 obtain⟨i0,hi0,hz0,hz1,hz2⟩:=aO fW
 have HP:=aB (lT w w none 0 0 [] (eB.nil _ _ _) n (by omega) (by omega))
 have HR:=aB hR
 have HN:=aB hn
 have HA:=aB hA
 have z1:IntKind.u64.wrap (n:Int)=(n:Int):=qJb _ (by omega)
 clear hR hn hA hl
 go_in
 go_wp2_with fail
 refine HP.mono ?_
 rintro e w1 ⟨A1,q1,c1,rfl,h1,hq1,T1⟩
 have hT1:aC (λ_=>False) w w1:=T1.mono (λi hi e=>by simp[Value.ownBlock] at e)
 have HO:=aB h1
 have HQ:=aB hq1
 have HRD:=aB (HR.touch hT1 (λ_ _ f=>f))
 have hone:∀ u∈bs.map aP,u.oneCell'=true:=by
  intro u hu
  obtain⟨b,_,rfl⟩:=List.mem_map.1 hu
  rfl
 have HONE:=aB hone
 have HBB:Hid (q1+n<=maxLen/\(q1+n)*1<=140737488355328):=aB (by have:=HN.out;unfold maxLen;omega)
 clear h1 hq1 T1 hT1 HP hone
 go_wp2_with (at_builtin;refine aR _ rfl (.tmp 9) (.tmp 10) 50 rfl 5 i0 _ 1 1 Tryz.underlying50 hi0 hz0 hz1 hz2 rfl (by decide) (.slice A1 q1 c1) q1 _ rfl HO.own A n c (bs.map aP) rfl HRD HA HONE HBB.1 HBB.2 ?_;intro v2 w2 O2 G2 F2 _;obtain⟨A2,c2,hv,_,_⟩:=aX O2;subst hv;have HO2:=aB (HO.app O2 G2 F2);clear O2 G2 F2)
 go_ret
 refine⟨A2,q1+n,c2,rfl,?_,by have:=HQ.out;omega⟩
 have h:=HO2.out
 rw[qZc]
 simpa using h
def Kb(s:Nat):List UInt8:=[UInt8.ofNat (s % 256),UInt8.ofNat (s / 256 % 256),UInt8.ofNat (s / 65536 % 256),UInt8.ofNat (s / 16777216 % 256)]
def vM(bs:List UInt8):List UInt8:=dA bs.length++bs++Kb (sumB bs)
theorem Xu(w:World)(A:Option Addr)(n c:Nat)(bs:List UInt8)(hR:aI w 1 A n (bs.map aP))(hA:A=none->n=0/\c=0)(hl:bs.length=n)(hn:n<=17592186044416) :
  Calls Tryz.prog 52 #[.slice A n c] w λe w'=>∃ (A':Option Addr) (q' c':Nat) (k:Int),e=.returned (.tuple #[.slice A' q' c',.int .i64 k])/\eB 5 1 w w' (.slice A' q' c') q' ((if n<=2097152 then vM bs else []).map aP)/\k=(if n<=2097152 then 0 else 22):=by
 obtain⟨i0,hi0,hz0,hz1,hz2⟩:=aO fW
 by_cases hb:n<=2097152
 ·have k0:¬ (2097152:Int)<(n:Int):=by omega
  simp only[hb,if_true]
  have HS:=aB (Hb w A n c bs hR hl (by omega))
  have HP:=aB (λ(wx:World) (T:aC (λ_=>False) w wx)=>sK wx A n c bs (hR.touch T (λ_ _ f=>f)) hA hl hn)
  have HB:=aB hb
  have HL:=aB hl
  obtain⟨s,hs⟩:=eX (sumB bs)
  have hslt:s<4294967296:=by rw[hs];unfold sumB;omega
  rw[<-hs] at HS
  have m1:(s:Int).fdiv (2 ^ min (qZa 8) IntKind.u32.bits)=((s / 256:Nat):Int):=by
   have h:min (qZa 8) IntKind.u32.bits=8:=by decide
   rw[h,qQb _ (by decide)]
   omega
  have m2:(s:Int).fdiv (2 ^ min (qZa 16) IntKind.u32.bits)=((s / 65536:Nat):Int):=by
   have h:min (qZa 16) IntKind.u32.bits=16:=by decide
   rw[h,qQb _ (by decide)]
   omega
  have m3:(s:Int).fdiv (2 ^ min (qZa 24) IntKind.u32.bits)=((s / 16777216:Nat):Int):=by
   have h:min (qZa 24) IntKind.u32.bits=24:=by decide
   rw[h,qQb _ (by decide)]
   omega
  have HSS:=aB hs
  have HSL:=aB hslt
  clear hb hl hR hA hn hs hslt
  go_in
  go_wp2_with fail
  refine HS.mono ?_
  rintro e w1 ⟨rfl,T1⟩
  have HT1:=aB T1
  have HP1:=aB (HP w1 T1)
  clear T1 HS HP
  go_wp2_with fail
  refine HP1.mono ?_
  rintro e w2 ⟨A2,q2,c2,rfl,h2,hq2⟩
  have HO:=aB h2
  have HQ:=aB hq2
  clear h2 hq2 HP1
  obtain⟨wa,hwa⟩:=eX (w2.alloc (.cells #[.int .u8 ((s:Int) % 256),.int .u8 ((s:Int) / 256 % 256),.int .u8 ((s:Int) / 65536 % 256),.int .u8 ((s:Int) / 16777216 % 256)] 5))
  have hTa:aC (λ_=>False) w2 wa:=by rw[hwa];exact (aC.refl _ _).alloc _
  have hrd:aI wa 1 (some ⟨w2.heap.size,0,none⟩) 4 [.int .u8 ((s:Int) % 256),.int .u8 ((s:Int) / 256 % 256),.int .u8 ((s:Int) / 65536 % 256),.int .u8 ((s:Int) / 16777216 % 256)]:=by
   rw[hwa]
   have h:=aI.new (size:=1) w2 5 [.int .u8 ((s:Int) % 256),.int .u8 ((s:Int) / 256 % 256),.int .u8 ((s:Int) / 65536 % 256),.int .u8 ((s:Int) / 16777216 % 256)] 4 rfl
   simpa using h
  have hone:∀ u∈([.int .u8 ((s:Int) % 256),.int .u8 ((s:Int) / 256 % 256),.int .u8 ((s:Int) / 65536 % 256),.int .u8 ((s:Int) / 16777216 % 256)]:List Value),u.oneCell'=true:=by
   intro u hu
   simp only[List.mem_cons,List.not_mem_nil,or_false] at hu
   rcases hu with rfl | rfl | rfl | rfl<;>rfl
  have HXA:=aB (HO.to hTa)
  have HWA:=aB hwa
  have HRD:=aB hrd
  have HONE:=aB hone
  have HBB:Hid (q2+4<=maxLen/\(q2+4)*1<=140737488355328):=aB (by have:=HQ.out;have:=HB.out;unfold maxLen;omega)
  clear hwa hTa hrd hone
  go_wp2_with (at_builtin;rw[<-HWA.out];refine aR _ rfl (.tmp 11) (.tmp 23) 50 rfl 5 i0 _ 1 1 Tryz.underlying50 hi0 hz0 hz1 hz2 rfl (by decide) (.slice A2 q2 c2) q2 _ rfl HXA.own (some ⟨w2.heap.size,0,none⟩) 4 4 [.int .u8 ((s:Int) % 256),.int .u8 ((s:Int) / 256 % 256),.int .u8 ((s:Int) / 65536 % 256),.int .u8 ((s:Int) / 16777216 % 256)] rfl HRD (λh=>by cases h) HONE HBB.1 HBB.2 ?_;intro v3 w3 O3 G3 F3 _;obtain⟨A3,c3,hv,_,_⟩:=aX O3;subst hv;have HO3:=aB (HXA.app O3 G3 F3);clear O3 G3 F3)
  go_ret2
  refine⟨A3,q2+4,c3,0,rfl,?_,rfl⟩
  have h:=HO3.out
  have e4:(Kb s).map aP=[.int .u8 ((s:Int) % 256),.int .u8 ((s:Int) / 256 % 256),.int .u8 ((s:Int) / 65536 % 256),.int .u8 ((s:Int) / 16777216 % 256)]:=by
   unfold Kb
   simp only[List.map_cons,List.map_nil]
   rw[gY (by omega),gY (by omega),gY (by omega),gY (by omega)]
   simp only[Int.natCast_emod,Int.natCast_ediv]
   rfl
  unfold vM
  rw[<-HSS.out,HL.out,qZc,e4]
  exact h.from HT1
 ·have k0:(2097152:Int)<(n:Int):=by omega
  simp only[hb,if_false]
  clear hR hA hl hn hb
  go_in
  go_wp2_with fail
  go_ret2
  exact⟨none,0,0,22,rfl,eB.nil _ _ _,rfl⟩
def gC.In(c:gC):Prop:=0<=c.sess/\c.sess<18446744073709551616/\0<=c.seq/\c.seq<18446744073709551616
def cOp:gC:=⟨1,0,0,ByteArray.empty,0⟩
def Tt:gC:=⟨2,1,1,⟨#[97,98]⟩,5⟩
def aL1:List aE:=[⟨⟨#[97,98]⟩,5⟩]
def aR1:List aU:=[⟨0,0,0,0⟩]
def aR2:List aU:=[⟨1,0,0,0⟩]
theorem aFj:Kt cOp [] []=⟨0,0,1,0⟩:=by kernel_rfl
theorem aFl:Ku cOp [] []=[]:=by kernel_rfl
theorem aFn:Kv cOp [] []=aR1:=by kernel_rfl
theorem aCn:Kt Tt [] aR1=⟨0,0,0,0⟩:=by kernel_rfl
theorem aCo:Ku Tt [] aR1=aL1:=by kernel_rfl
theorem aCp:Kv Tt [] aR1=aR2:=by kernel_rfl
theorem aFk:Kt Tt aL1 aR2=⟨0,0,0,0⟩:=by kernel_rfl
theorem aFm:Ku Tt aL1 aR2=aL1:=by kernel_rfl
theorem aFo:Kv Tt aL1 aR2=aR2:=by kernel_rfl
structure Gh(W w:World)(s d tb:Nat)(v:Value)(L:List aE)(q:Nat)(R:List aU):Prop where
 st:nY w s d tb v L q R
 y:W.heap.size<=d/\W.heap.size<=tb/\∀ g,v.ownBlock=some g->W.heap.size<=g
 t:aC (λ_=>False) W w
 lw:dN W
theorem Gh.l{R:List aU}(h:Gh W w s d tb v L q R):dN w:=dN.touch h.lw h.t
theorem Gh.quiet{R:List aU}(h:Gh W w s d tb v L q R)(T:aC (λ_=>False) w w'):Gh W w' s d tb v L q R :=
 ⟨h.st.quiet T,h.y,h.t.then T,h.lw⟩
theorem Gh.stF{R:List aU}(h:Gh W w s d tb v L q R):∀ g,stF d tb v g->W.heap.size<=g:=by
 rintro g (rfl | rfl | hg)
 ·exact h.y.1
 ·exact h.y.2.1
 ·exact h.y.2.2 g hg
theorem Gh.step{q':Nat}{R R':List aU}(h:Gh W w s d tb v L q R)(hs:nY w' s d tb v' L' q' R')(hf:bJ w v v')(T:aC (Go.Proofs.YthockgmbooefpaaGreatDoor.stF d tb v) w w'):Gh W w' s d tb v' L' q' R':=by
 have ht:aC (λ_=>False) W w':=h.t.trans T (λg hg e=>by have:=h.stF g e;omega)
 refine⟨hs,⟨h.y.1,h.y.2.1,λg hg=>?_⟩,ht,h.lw⟩
 ·rcases hf with e | ⟨g',e,hg'⟩
  ·exact h.y.2.2 g (by rw[<-e];exact hg)
  ·rw[e] at hg
   injection hg with hg
   have:=h.t.size
   omega
theorem aEm(w:World)(hL:dN w):Calls Tryz.prog 9 #[] w λe w'=>∃ s d tb,e=.returned (dC s)/\Gh w w' s d tb (.slice none 0 0) [] 0 [] :=
 (Yb w hL).mono (by
   rintro e w' ⟨s,d,tb,rfl,hs,h1,h2,h3,T⟩
   exact⟨s,d,tb,rfl,hs,⟨h2,h3,λg hg=>by simp[Value.ownBlock] at hg⟩,T,hL⟩)
theorem nY.keep{R:List aU}(h:nY w s d tb v L q R)(T:aC (Go.Proofs.YthockgmbooefpaaGreatDoor.stF d tb v) w w')(hb:aL w g t cs)(ht:Mh t):aL w' g t cs :=
 hb.touch T (λe=>by
  obtain⟨o1,o2,o3,o4,o5⟩:=ht
  rcases e with rfl | e
  ·exact (aF hb).ne h.dct.ty o2 rfl
  ·rcases Vj h.tab e with k | k
   ·exact (aF hb).ne k o3 rfl
   ·exact (aF hb).ne k o4 rfl)
theorem aBb:Mh 29 := by unfold Mh Eq;decide
theorem Oy(w:World){R:List aU}(h:Gh W w s d tb v L q R)(c:gC)(hc:c.Wf) :
  Calls Tryz.prog 10 #[dC s,c.val] w λe w'=>e=.returned (pT (Kt c L R))/\(∃ v' q',Gh W w' s d tb v' (Ku c L R) q' (Kv c L R))/\aC (stF d tb v) w w' :=
 (aBr w h.l h.st c hc).mono (by
   rintro e w' ⟨rfl,⟨v',⟨q',hs⟩,hf⟩,T⟩
   exact⟨rfl,⟨v',q',h.step hs hf T⟩,T⟩)
theorem Gk(w:World)(hL:dN w):Calls Tryz.prog 24 #[] w λe w'=>e=.returned (.bool true)/\aC (λ_=>False) w w':=by
 have HN:=aB (aEm w hL)
 clear hL
 go_in
 go_wp2_with fail
 refine HN.mono ?_
 rintro e w1 ⟨s,d,tb,rfl,hy⟩
 have HC1:=aB (Oy w1 hy cOp (by unfold gC.Wf;decide))
 rw[aFj,aFl,aFn] at HC1
 simp only[pT,gC.val,cOp] at HC1
 clear hy HN
 go_wp2_with fail
 refine HC1.mono ?_
 rintro e w2 ⟨rfl,⟨v2,q2,hy2⟩,-⟩
 have HC2:=aB (λ(wx:World) (T:aC (λ_=>False) w2 wx)=>Oy wx (hy2.quiet T) Tt (by unfold gC.Wf;decide))
 rw[aCn,aCo,aCp] at HC2
 simp only[pT,gC.val,Tt] at HC2
 obtain⟨wa,hwa⟩:=eX ((w2.alloc (.cells #[.int .i64 0,.int .u64 1,.int .i64 0] 32)).alloc (.cells #[.int .i64 2,.int .u64 1,.int .u64 1,.string ⟨#[97,98]⟩,.int .i64 5] 29))
 obtain⟨ga,hga⟩:=eX w2.heap.size
 obtain⟨gc,hgc⟩:=eX (w2.heap.size+1)
 have hTa:aC (λ_=>False) w2 wa:=by rw[hwa];exact ((aC.refl _ _).alloc _).alloc _
 have haB:aL wa ga 32 #[.int .i64 0,.int .u64 1,.int .i64 0]:=by rw[hwa,hga];exact (aL.new _ _ _).alloc _
 have hcB:aL wa gc 29 #[.int .i64 2,.int .u64 1,.int .u64 1,.string ⟨#[97,98]⟩,.int .i64 5]:=by
  have h1:=aL.new (w2.alloc (.cells #[.int .i64 0,.int .u64 1,.int .i64 0] 32)) 29 #[.int .i64 2,.int .u64 1,.int .u64 1,.string ⟨#[97,98]⟩,.int .i64 5]
  rw[hwa,hgc];simpa using h1
 have HYA:=aB (hy2.quiet hTa)
 have HC2:=aB (Oy wa HYA Tt (by unfold gC.Wf;decide))
 rw[aCn,aCo,aCp] at HC2
 simp only[pT,gC.val,Tt] at HC2
 have HWA:=aB hwa
 have HGA:=aB hga
 have HGC:=aB hgc
 have HAB:=aB haB
 have HCB:=aB hcB
 clear hy2 HC1 hwa hga hgc hTa haB hcB
 go_upto_region 6 with fail
 rw[<-HWA.out,<-HGC.out,<-HGA.out]
 obtain⟨c0,c1,c2⟩:=HCB.facts
 go_wp2_with fail
 refine HC2.mono ?_
 rintro e w3 ⟨rfl,⟨v3,q3,hy3⟩,T3⟩
 obtain⟨wb,hwb⟩:=eX (w3.alloc (.cells #[.int .i64 0,.int .u64 0,.int .i64 0] 32))
 obtain⟨gb,hgb⟩:=eX w3.heap.size
 have hTb:aC (λ_=>False) w3 wb:=by rw[hwb];exact (aC.refl _ _).alloc _
 have hbB:aL wb gb 32 #[.int .i64 0,.int .u64 0,.int .i64 0]:=by rw[hwb,hgb];exact aL.new _ _ _
 have HAB3:=aB ((HYA.st.keep T3 HAB wN).touch hTb (λf=>f))
 have HCB3:=aB ((HYA.st.keep T3 HCB aBb).touch hTb (λf=>f))
 have HYB:=aB (hy3.quiet hTb)
 have HC3:=aB (Oy wb HYB Tt (by unfold gC.Wf;decide))
 rw[aFk,aFm,aFo] at HC3
 simp only[pT,gC.val,Tt] at HC3
 have HWB:=aB hwb
 have HGB:=aB hgb
 have HBB:=aB hbB
 clear hy3 T3 HC2 hwb hgb hTb hbB c0 c1 c2
 go_upto_region 7 with fail
 rw[<-HWB.out,<-HGB.out]
 obtain⟨c0,c1,c2⟩:=HCB3.facts
 go_wp2_with fail
 refine HC3.mono ?_
 rintro e w4 ⟨rfl,⟨v4,q4,hy4⟩,T4⟩
 obtain⟨wd,hwd⟩:=eX (w4.alloc (.cells #[.int .i64 0,.int .u64 0,.int .i64 0] 32))
 obtain⟨gd,hgd⟩:=eX w4.heap.size
 have hTd:aC (λ_=>False) w4 wd:=by rw[hwd];exact (aC.refl _ _).alloc _
 have hdB:aL wd gd 32 #[.int .i64 0,.int .u64 0,.int .i64 0]:=by rw[hwd,hgd];exact aL.new _ _ _
 have HAB4:=aB ((HYB.st.keep T4 HAB3 wN).touch hTd (λf=>f))
 have HBB4:=aB ((HYB.st.keep T4 HBB wN).touch hTd (λf=>f))
 have HYD:=aB (hy4.quiet hTd)
 have HWR:=aB (Kn wd HYD.l HYD.st)
 have HWD:=aB hwd
 have HGD:=aB hgd
 have HDB:=aB hdB
 clear hy4 T4 HC3 hwd hgd hTd hdB c0 c1 c2
 go_upto_region 8 with fail
 rw[<-HWD.out,<-HGD.out]
 go_wp2_with fail
 refine HWR.mono ?_
 rintro e w5 ⟨A5,c5,rfl,hp5,T5⟩
 obtain⟨x0,x1,x2⟩:=(HAB4.touch T5 (λf=>f)).facts
 obtain⟨x3,x4,x5⟩:=(HBB4.touch T5 (λf=>f)).facts
 obtain⟨x6,x7,x8⟩:=(HDB.touch T5 (λf=>f)).facts
 obtain⟨g5,hA5,hg5,p0,p1,_,_⟩:=cY hp5 rfl 0 (by decide)
 subst hA5
 simp only[aL1,List.getD_cons_zero,Nat.zero_mul,Nat.zero_add,qXb,List.length_nil] at p0 p1 ⊢
 have HT5:=aB (HYD.t.then T5)
 clear hp5 T5 HWR
 go_wp2_with fail
 go_ret
 exact⟨by simp,HT5⟩
structure Tr(w:World)(A:Option Addr)(n c:Nat)(R:List aU):Prop where
 own:w.ownsRow 0 136 4 (.slice A n c) n (bQ R)
 len:R.length=n
 few:n<=4096
theorem Tr.touch{R:List aU}(h:Tr w A n c R)(T:aC S w w')(hS:∀ g,bE w g 136 -> ¬ S g):Tr w' A n c R :=
 ⟨aD h.own T (λg hg=>hS g (aH h.own hg)),h.len,h.few⟩
theorem Tr.quiet{R:List aU}(h:Tr w A n c R)(T:aC (λ_=>False) w w'):Tr w' A n c R:=h.touch T (λ_ _ f=>f)
theorem Tryz.infoRRow:(Tryz.prog.info? 136).map (λi=>(i.zero,i.size,i.bytes))=some (some (.agg #[.int .u64 0,.int .i64 0,.int .u64 0,.int .i64 0]),4,32):=by kernel_rfl
theorem gJ(a b:Value)(x y:Value)(h:aL w g ty #[x,y]):aL ((w.setCell ⟨g,0,none⟩ a).setCell ⟨g,1,none⟩ b) g ty #[a,b]:=by
 have:=(h.set_ 0 a).set_ 1 b
 simpa using this
theorem Ba{P:Program}{fn:Func}{p p':Tmp}{ty ty':TypeId}(h:fn.results=#[.cell p ty,.cell p' ty'])(tmps:Array Value)(w:World)(g g':Nat)(t t':TypeId)(cs cs':Array Value)(d d':TypeDesc)
  (hp:tmps.getD p undef=.pointer (some ⟨g,0,none⟩))(hg:aL w g t cs)(hu:P.underlying ty=some d)(hd:(match d with | .struct _ | .array _ _=>true | _=>false)=true)(hi:(P.info? ty).map (·.size)=some cs.size)
  (hp':tmps.getD p' undef=.pointer (some ⟨g',0,none⟩))(hg':aL w g' t' cs')(hu':P.underlying ty'=some d')(hd':(match d' with | .struct _ | .array _ _=>true | _=>false)=true)(hi':(P.info? ty').map (·.size)=some cs'.size) :
  (results fn tmps).run P w=.ok (.tuple #[.agg cs,.agg cs']) w:=by
 have hp1:tmps[p]?.getD undef=.pointer (some ⟨g,0,none⟩):=by simpa using hp
 have hp2:tmps[p']?.getD undef=.pointer (some ⟨g',0,none⟩):=by simpa using hp'
 simp[results,h,hp1,hp2,asAddr,Sem.run_bind,run_loadVar_row w g t ty cs (0,0) d hg hu hd hi,run_loadVar_row w g' t' ty' cs' (0,0) d' hg' hu' hd' hi',Result.andThen]
theorem aFv{a b c:Value}(h:aL w g t cs)(hk:g≠k):aL (((w.setCell ⟨k,0,none⟩ a).setCell ⟨k,1,none⟩ b).setCell ⟨k,2,none⟩ c) g t cs:=((h.far hk a).far hk b).far hk c
theorem Ks.stF{R:List aU}{sl:SL}(h:Gh W w s d tb v L' q R)(hl:Ks W.heap.size w sl L)(T:aC (Go.Proofs.YthockgmbooefpaaGreatDoor.stF d tb v) w w'):Ks W.heap.size w' sl L :=
 hl.touch T (λg hg e=>by have:=h.stF g e;omega) (λg ht e=>by
  rcases e with rfl | e
  ·exact ht.ne h.st.dct.ty (by decide) rfl
  ·exact qB h.st.tab ht (by decide) (by decide) e)
theorem Tr.stF{R R':List aU}(h:nY w s d tb v L q R)(hr:Tr w A n c R')(T:aC (Go.Proofs.YthockgmbooefpaaGreatDoor.stF d tb v) w w'):Tr w' A n c R' :=
 hr.touch T (λg ht e=>by
  rcases e with rfl | e
  ·exact ht.ne h.dct.ty (by decide) rfl
  ·exact qB h.tab ht (by decide) (by decide) e)
theorem dP{P:Program}{fn:Func}{p u:Tmp}{ty:TypeId}(h:fn.results=#[.cell p ty,.tmp u])(tmps:Array Value)(w:World)(g:Nat)(t:TypeId)(cs:Array Value)(d:TypeDesc)(x:Value)
  (hp:tmps.getD p undef=.pointer (some ⟨g,0,none⟩))(hg:aL w g t cs)(hu:P.underlying ty=some d)(hd:(match d with | .struct _ | .array _ _=>true | _=>false)=true)(hi:(P.info? ty).map (·.size)=some cs.size)(hx:tmps.getD u undef=x) :
  (results fn tmps).run P w=.ok (.tuple #[.agg cs,x]) w:=by
 have hp1:tmps[p]?.getD undef=.pointer (some ⟨g,0,none⟩):=by simpa using hp
 have hx1:tmps[u]?.getD undef=x:=by simpa using hx
 simp[results,h,hp1,hx1,asAddr,Sem.run_bind,run_loadVar_row w g t ty cs (0,0) d hg hu hd hi,Result.andThen]
theorem Gh.off{R:List aU}(h:Gh W w s d tb v L q R)(T:aC S w w')(hS:∀ g,S g->W.heap.size<=g/\∃ t,bE w g t/\Mh t):Gh W w' s d tb v L q R :=
 ⟨h.st.off T (λg hg=>(hS g hg).2),h.y,h.t.trans T (λg hg e=>by have:=(hS g e).1;omega),h.lw⟩
theorem Fb{R:List aU}(h:w.ownsRow 0 t 4 (.slice A R.length c) R.length (bQ R))(k:Nat)(hk':k<R.length) :
  ∃ g,A=some ⟨g,0,none⟩/\g<w.heap.size/\w.cell? ⟨g,k*4,none⟩=some (.int .u64 (R.getD k aU.zero).seq)/\w.cell? ⟨g,k*4+1,none⟩=some (.int .i64 (R.getD k aU.zero).code) /\
   w.cell? ⟨g,k*4+2,none⟩=some (.int .u64 (R.getD k aU.zero).sess)/\w.cell? ⟨g,k*4+3,none⟩=some (.int .i64 (R.getD k aU.zero).had):=by
 obtain⟨g,cap,hv,hle,_,hg,hc,_⟩:=iM h (by omega)
 injection hv with hA' _ hcc
 have e:R.getD k aU.zero=R[k]:=by simp[qXa,hk']
 rw[e]
 refine⟨g,hA',hg,?_,?_,?_,?_⟩
 ·exact hc _ _ (by have:=dH R k hk' 0 (by omega);rw[show k*4=4*k+0 by omega,this];rfl)
 ·exact hc _ _ (by have:=dH R k hk' 1 (by omega);rw[show k*4+1=4*k+1 by omega,this];rfl)
 ·exact hc _ _ (by have:=dH R k hk' 2 (by omega);rw[show k*4+2=4*k+2 by omega,this];rfl)
 ·exact hc _ _ (by have:=dH R k hk' 3 (by omega);rw[show k*4+3=4*k+3 by omega,this];rfl)
theorem Nb(w:World)(hL:dN w){R:List aU}(h:nY w s d tb v L q R)(B0:Nat)(sl:SL)(hl:Ks B0 w sl L)(A:Option Addr)(n c:Nat)(hr:Tr w A n c R) :
  Calls Tryz.prog 28 #[dC s,.agg #[sl.val,.slice A n c]] w λe w'=>e=.returned (.bool true)/\aC (λ_=>False) w w':=by
 have heq:=hl.eq
 have hsl:=hl.ok.len
 obtain⟨sA,sn,sc,sL⟩:=sl
 simp only at heq hsl
 subst heq
 subst hsl
 have hrl:=hr.len
 subst hrl
 have HLN:Hid (sL.length<=4096):=aB h.dct.dict.len
 have HRF:Hid (R.length<=4096):=aB h.few
 obtain⟨wa,hwa⟩:=eX (w.alloc (.cells #[.slice sA sL.length sc,.slice A R.length c] 56))
 obtain⟨rb,hrb⟩:=eX w.heap.size
 have hTa:aC (λ_=>False) w wa:=by rw[hwa];exact (aC.refl _ _).alloc _
 have HBB:Hid (aL wa rb 56 #[.slice sA sL.length sc,.slice A R.length c]):=aB (by rw[hwa,hrb];exact aL.new _ _ _)
 have HSS:=aB (Jg wa (h.quiet hTa))
 have HWD:=aB (λ(wx:World) (T:aC (λ_=>False) wa wx)=>Kn wx (dN.touch hL (hTa.then T)) ((h.quiet hTa).quiet T))
 have HSM:=aB (λ(wx:World) (T:aC (λ_=>False) wa wx) (A':Option Addr) (c':Nat) (hp:cZ wx A' sL.length c' sL)=>Sg wx A' sL.length c' sL rfl (aI.of_own hp) (by have:=HLN.out;unfold maxLen;omega) sA sc ((hl.quiet hTa).quiet T).ok.reads)
 have HRW:=aB (hr.quiet hTa)
 have HTA:=aB hTa
 have HWA:=aB hwa
 have HRB:=aB hrb
 simp only[SL.val]
 clear hL h hl hr hwa hrb hTa
 go_in
 go_upto_region 1 with fail
 rw[<-HWA.out,<-HRB.out]
 go_wp2_with fail
 refine HSS.mono ?_
 rintro e w1 ⟨v1,rfl,ho1,T1,hfr1⟩
 obtain⟨A1,c1,hv1,_,_⟩:=aX ho1
 subst hv1
 have HO1:=aB ho1
 have HT1:=aB T1
 have HB1:=aB (HBB.touch T1 (λf=>f))
 have HKS:Hid (∀ wx,aC (λ_=>False) w1 wx->wx.cell? ⟨rb,0,none⟩=some (.slice sA sL.length sc)/\wx.cell? ⟨rb,1,none⟩=some (.slice A R.length c)/\aC (λ_=>False) w1 wx):=aB (λwx T=>⟨((HB1.touch T (λf=>f)).cell 0).trans rfl,((HB1.touch T (λf=>f)).cell 1).trans rfl,T⟩)
 clear ho1 T1 hfr1 HSS
 have HRR:=aB (HRW.quiet HT1)
 go_upto_region 2 with fail
 go_region_held3 (λw'=>w'.cell? ⟨rb,0,none⟩=some (.slice sA sL.length sc)/\w'.cell? ⟨rb,1,none⟩=some (.slice A R.length c)/\aC (λ_=>False) w1 w')
  (first
    | exact HKS _ (aC.refl _ _).drew
    | exact HKS _ HT2
    | exact HKS _ HT3
    | (trace_state;fail))
  (first
    | (go_simp;refine (HWD _ (HT1.then (aC.refl _ _).drew)).mono ?_;rintro e w2 ⟨A2,c2,rfl,hp2,T2⟩;have HT2:=aB ((aC.refl (λ_=>False) w1).drew.then T2);have HP2:=aB hp2;clear hp2 T2;go_simp)
    | (go_simp;refine (HSM _ (HT1.then HT2) _ _ HP2).mono ?_;rintro e w3 ⟨rfl,T3⟩;have HT3:=aB (HT2.then T3);clear T3;go_simp))
 go_wp2_with fail
 go_loopw [25] (λiv wr=>∃ k:Nat,iv=.int .i64 k/\k<=R.length/\Hid (aC (λ_=>False) w1 wr)) (λiv _=>R.length-(intOf iv).toNat)
 case atStart=>exact⟨0,rfl,qXc _,HT3⟩
 case round =>
  obtain⟨k,rfl,hk,HTk⟩:=hrel
  obtain⟨wk,hwk⟩:=eX wr
  subst hwk
  have HBk:=aB (HB1.touch HTk (λf=>f))
  obtain⟨b0,b1,b2⟩:=HBk.facts
  by_cases hkn:k<R.length
  ·have k0:(k:Int)<(R.length:Int):=by omega
   have k3:(0:Int)<=(k:Int):=by omega
   have k4:IntKind.i64.wrap ((k:Int)+1)=(k:Int)+1:=qZb _ (by have:=HRF.out;omega)
   obtain⟨g1,hA1,hg1,d0,d1,d2,d3⟩:=Fb (aD HO1 HTk (λ_ _ f=>f)) k hkn
   obtain⟨g2,hA2,hg2,e0,e1,e2,e3⟩:=Fb (HRR.quiet HTk).own k hkn
   subst hA1 hA2
   obtain⟨⟨xs,xc,xr,xh⟩,hx⟩:∃ x,x=R.getD k aU.zero:=⟨_,rfl⟩
   rw[<-hx] at d0 d1 d2 d3 e0 e1 e2 e3
   simp only at d0 d1 d2 d3 e0 e1 e2 e3
   have HKN:=aB hkn
   clear hx hk hkn hg1 hg2
   go_upto_region 7 with fail
   go_quiet (fail)
   go_wp2_with fail
   go_roundw
   ·exact⟨k+1,by simp,by have:=HKN.out;omega,aB (HTk.drewN _)⟩
   ·have:=HKN.out
    simp only[intOf]
    omega
  ·have k0:¬ (k:Int)<(R.length:Int):=by omega
   have HTE:=aB ((HTA.then HT1).then HTk)
   clear hk hkn
   go_wp2_with fail
   go_ret
   exact⟨rfl,HTE⟩
theorem sH(hD:cA L):(bB L).states.length<=98305:=by
 rcases dD hD with⟨h,_⟩ | h
 ·rw[h];exact qXc _
 ·exact h.few
theorem Ql(w:World)(hL:dN w)(L:List aE)(hD:cA L)(A:Option Addr)(n c:Nat)(Z:List SV)(hst:eC w A n Z)(hz:Z.map SV.p=(bB L).states) :
  Calls Tryz.prog 47 #[.agg #[.int .i64 (bB L).base,.slice A n c]] w λe w'=>∃ (A':Option Addr) (q c':Nat),e=.returned (.tuple #[.slice A' q c',.int .i64 0])/\eB 5 1 w w' (.slice A' q c') q ((eU (bB L).base (bB L).states).map aP):=by
 have hb:=gE hD
 obtain⟨bn,hbn⟩:∃ bn:Nat,(bB L).base=(bn:Int):=⟨(bB L).base.toNat,by omega⟩
 have hn:n=(bB L).states.length:=by rw[<-hz,qQc];exact hst.len.symm
 have hr:=dD hD
 rw[<-hz] at hr ⊢
 rw[hbn] at hr ⊢
 refine Wu w hL bn A n c Z hst hr (by omega) (by rw[hn];exact sH hD) (λi hi=>?_)
 rcases hr with⟨h,_⟩ | h
 ·have:Z=[]:=by simpa using h
  rw[this] at hst
  have:=hst.len
  simp at this
  omega
 ·have hf:=h.form i (by rw[qQc,hst.len];exact hi)
  have e:(Z.map SV.p).getD i aS=(Z.getD i cE).p:=by simp[qXa,show i<Z.length by rw[hst.len];exact hi]
  rw[e] at hf
  exact hf
theorem Lo(w:World)(A:Option Addr)(q c:Nat)(l:List UInt8)(h:w.ownsRow 0 5 1 (.slice A q c) q (l.map aP))(h0:0<l.length):l.length=q/\(convert 50 9 (.slice A q c)).run Tryz.prog w=.ok (.string ⟨l.toArray⟩) w:=by
 have hr:=aI.of_own h
 have hl:l.length=q:=by
  have:=hr.1
  rw[qQc] at this
  omega
 obtain⟨b,off,hA,_,hc⟩:=hr.2 (by omega)
 subst hA
 refine⟨hl,?_⟩
 rw[<-hl]
 refine run_convert_bytes_back _ _ _ _ _ _ l Tryz.underlying50 Tryz.underlying5 Tryz.underlying9 λj hj=>?_
 have:=hc j (aP l[j]) (by rw[List.getElem?_map,List.getElem?_eq_getElem hj];rfl)
 rw[Addr.add_lit]
 exact this
structure aU.In(r:aU):Prop where
 s0:0<=r.seq
 s1:r.seq<18446744073709551616
 c0:0<=r.code
 c1:r.code<=65535
 i0:0<=r.sess
 i1:r.sess<18446744073709551616
 h0:0<=r.had
 h1:r.had<=1048576
def Iv(r:aU):List Nat:=[r.seq.toNat,r.code.toNat,r.sess.toNat,r.had.toNat]
def mC(r:aU):List UInt8:=(Iv r).flatMap dA
def mB(L:List aE):List UInt8:=eU (bB L).base (bB L).states
def qC(L:List aE)(n:Nat):List UInt8:=dA (mB L).length++mB L++dA n
def oE(L:List aE)(R:List aU):List UInt8:=qC L R.length++R.flatMap mC
def Vr(L:List aE)(R:List aU):List UInt8:=if (oE L R).length<=2097152 then vM (oE L R) else []
theorem eO(n:Nat):(dA n).length<=10:=Ki 9 n
theorem Un(i p:Nat)(a:Nat × Int × Nat):(xC i p a).length<=30:=by
 unfold xC
 have h1:=eO (a.1-p)
 have h2:=eO a.2.1.toNat
 have h3:=eO (i-a.2.2)
 simp only[qQa]
 omega
theorem xE(i:Nat):∀ (l:List (Nat × Int × Nat)) (p:Nat),(eG i p l).length<=30*l.length
 | [],p=>by simp[eG]
 | a :: l,p=>by
  have h1:=xE i l a.1
  have h2:=Un i p a
  simp only[eG,qQa,qXb]
  omega
theorem aBw(i:Nat)(s:bP):(Mz i s).length<=20+30*s.arcs.length:=by
 unfold Mz mR
 have h1:=xE i s.arcs 0
 have h2:=eO (2*s.arcs.length+1)
 have h3:=eO s.out.toNat
 have h4:=eO (2*s.arcs.length)
 split<;>simp only[qQa]<;>omega
theorem Jw:∀ (l:List bP) (i:Nat),(∀ s∈l,s.arcs.length<=2097152)->(lF i l).length<=62914580*l.length
 | [],i,_=>by simp[lF]
 | s :: l,i,h=>by
  have h1:=Jw l (i+1) (λx hx=>h x (List.mem_cons_of_mem _ hx))
  have h2:=aBw i s
  have h3:=h s List.mem_cons_self
  simp only[lF,qQa,qXb]
  omega
theorem aDy(hD:cA L):(mB L).length<=8796093022208:=by
 unfold mB eU uJ
 have h1:=eO (bB L).base.toNat
 have h2:=eO (bB L).states.length
 have hn:=sH hD
 have h3:=Jw (bB L).states 0 (λs hs=>by
  rcases dD hD with⟨h,_⟩ | h
  ·rw[h] at hs;cases hs
  ·obtain⟨i,hi,he⟩:=List.getElem_of_mem hs
   have hf:=h.form i hi
   have e:(bB L).states.getD i aS=s:=by rw[<-he];simp[qXa,hi]
   rw[e] at hf
   exact kL hf)
 simp only[qQa]
 omega
theorem Xh(r:aU):(mC r).length<=40:=by
 unfold mC Iv
 have h1:=eO r.seq.toNat
 have h2:=eO r.code.toNat
 have h3:=eO r.sess.toNat
 have h4:=eO r.had.toNat
 simp only[qJc,List.flatMap_nil,qQa,List.length_nil]
 omega
theorem tY:∀ (R:List aU),(R.flatMap mC).length<=40*R.length
 | []=>by simp
 | r :: R=>by
  have h1:=tY R
  have h2:=Xh r
  simp only[qJc,qQa,qXb]
  omega
theorem tS(h:w.ownsRow 0 5 1 (.slice A n c) n (bs.map aP)):bs.length=n:=by
 have hr:=aI.of_own h
 have:=hr.1
 rw[qQc] at this
 omega
theorem Ck(w:World)(hL:dN w){R:List aU}(h:nY w s d tb v L q R)(hIn:∀ r∈R,r.In) :
  Calls Tryz.prog 18 #[dC s] w λe w'=>∃ (A':Option Addr) (q' c':Nat),e=.returned (.slice A' q' c')/\eB 5 1 w w' (.slice A' q' c') q' ((Vr L R).map aP):=by
 have hD:=h.dct.dict
 have HML:=aB (aDy hD)
 have HRF:=aB h.few
 have HH:=aB h
 have HMA:=aB (Hz w hL h.dct)
 have HPK:=aB (λ(wx:World) (T:aC (λ_=>False) w wx) (A:Option Addr) (n c:Nat) (Z:List SV) (hst:eC wx A n Z) (hz:Z.map SV.p=(bB L).states)=>Ql wx (dN.touch hL T) L hD A n c Z hst hz)
 have HRW:=aB (λ(wx:World) (T:aC (λ_=>False) w wx)=>Jf wx tb v R (h.quiet T).tab h.few)
 have HIN:=aB hIn
 obtain⟨m,hm⟩:=eX (mB L)
 have hm2:eU (bB L).base (bB L).states=m:=hm.symm
 simp only[hm2] at HPK
 rw[<-hm] at HML
 obtain⟨ba,hba⟩:=eX ((bB L).base)
 rw[<-hba] at HMA HPK
 have HM:=aB hm
 obtain⟨s0,s1,s2⟩:=h.blk.facts
 clear hL h hIn hD hm hm2 hba
 go_in
 go_wp2_with fail
 refine HMA.mono ?_
 rintro e w1 ⟨A1,n1,c1,Z1,rfl,hst1,hz1,_,T1⟩
 have HT1:=aB T1
 have HP1:=aB (HPK w1 T1 A1 n1 c1 Z1 hst1 hz1)
 clear hst1 hz1 T1 HMA HPK
 go_wp2_with fail
 refine HP1.mono ?_
 rintro e w2 ⟨A2,q2,c2,rfl,h2⟩
 have HO2:=aB h2
 have HQ2:=aB (tS h2.own)
 have HT2:=aB (HT1.then h2.touch)
 have HP2:=aB (sK w2 A2 q2 c2 m (aI.of_own h2.own) (jD h2.own) (tS h2.own) (by have:=tS h2.own;have:=HML.out;omega))
 clear h2 HP1
 go_wp2_with fail
 refine HP2.mono ?_
 rintro e w3 ⟨A3,q3,c3,rfl,h3,hq3⟩
 have HO3:=aB h3
 have HQ3:=aB hq3
 have HT3:=aB (HT2.then h3.touch)
 have HR3:=aB (HRW w3 HT3)
 have HB3:=aB (HH.blk.touch HT3 (λf=>f))
 clear h3 hq3 HP2 s0 s1 s2
 obtain⟨s0,s1,s2⟩:=HB3.facts
 go_wp2_with fail
 refine HR3.mono ?_
 rintro e w4 ⟨v4,rfl,ho4,T4,hfr4⟩
 obtain⟨A4,c4,hv4,_,_⟩:=aX ho4
 subst hv4
 have HO4:=aB ho4
 have HT4:=aB (HT3.then T4)
 have HX4:Hid (eB 5 1 w w4 (.slice A3 q3 c3) q3 ((dA m.length++m).map aP)):=aB (by
  have h:=HO3.to T4
  rw[<-HQ2.out] at h
  exact h.from HT2)
 have HX4b:=aB (lT w w4 A3 q3 c3 _ HX4 R.length (by have:=HRF.out;omega) (by have:=HQ3.out;have:=HQ2.out;have:=HML.out;omega))
 have z1:IntKind.u64.wrap (R.length:Int)=(R.length:Int):=qJb _ (by have:=HRF.out;omega)
 clear ho4 T4 hfr4 HR3 s0 s1 s2
 go_wp2_with fail
 refine HX4b.mono ?_
 rintro e w5 ⟨A5,q5,c5,rfl,h5,hq5,T5⟩
 have HO5:Hid (w5.ownsRow 0 110 4 (.slice A4 R.length c4) R.length (bQ R)):=aB (aD HO4 T5 (λg hg e=>(aH HO4 hg).ne (aH HX4.own e) (by decide) rfl))
 have HX5:Hid (eB 5 1 w w5 (.slice A5 q5 c5) q5 ((qC L R.length).map aP)):=aB (by
  have h:=h5
  rw[<-qZc] at h
  unfold qC
  rw[<-HM.out]
  exact h)
 have HHL:Hid ((qC L R.length).length<=8796093022228):=aB (by
  unfold qC
  have h1:=eO (mB L).length
  have h2:=eO R.length
  have h3:=HML.out
  rw[HM.out] at h3
  simp only[qQa]
  omega)
 clear h5 hq5 T5 HX4b
 go_wp2_with fail
 go_loopw [5,36] (λbv iv wr=>∃ (i:Nat) (A':Option Addr) (q' c':Nat),bv=.slice A' q' c'/\iv=.int .i64 i/\i<=R.length/\Hid (eB 5 1 w wr (.slice A' q' c') q' ((qC L R.length++(R.take i).flatMap mC).map aP))/\Hid (wr.ownsRow 0 110 4 (.slice A4 R.length c4) R.length (bQ R))) (λ_ iv _=>R.length-(intOf iv).toNat)
 case atStart=>exact⟨0,A5,q5,c5,rfl,rfl,qXc _,aB (by simpa using HX5.out),HO5⟩
 case round =>
  obtain⟨i,A6,q6,c6,rfl,rfl,hi',HX,HO⟩:=hrel
  obtain⟨wo,hwo⟩:=eX wr
  subst hwo
  by_cases hi:i<R.length
  ·have y0:(i:Int)<(R.length:Int):=by omega
   have y1:(0:Int)<=(i:Int):=by omega
   have y2:IntKind.i64.wrap ((i:Int)+1)=(i:Int)+1:=qZb _ (by have:=HRF.out;omega)
   obtain⟨g1,hA1,hg1,d0,d1,d2,d3⟩:=Fb HO.out i hi
   subst hA1
   have hrm:R.getD i aU.zero∈R:=by
    have e2:R.getD i aU.zero=R[i]:=by simp[qXa,hi]
    rw[e2];exact List.getElem_mem _
   have hri:=HIN.out _ hrm
   have htk:(R.take (i+1)).flatMap mC=(R.take i).flatMap mC++mC (R.getD i aU.zero):=by
    rw[qZd hi,List.flatMap_append]
    have e2:R.getD i aU.zero=R[i]:=by simp[qXa,hi]
    rw[e2]
    simp
   obtain⟨⟨rs,rc,rr,rh⟩,hr⟩:∃ r,r=R.getD i aU.zero:=⟨_,rfl⟩
   rw[<-hr] at d0 d1 d2 d3 hri htk
   obtain⟨i1,i2,i3,i4,i5,i6,i7,i8⟩:=hri
   simp only at d0 d1 d2 d3 i1 i2 i3 i4 i5 i6 i7 i8
   obtain⟨sn,hsn⟩:∃ n:Nat,rs=(n:Int):=⟨rs.toNat,by omega⟩
   obtain⟨cn,hcn⟩:∃ n:Nat,rc=(n:Int):=⟨rc.toNat,by omega⟩
   obtain⟨an,han⟩:∃ n:Nat,rr=(n:Int):=⟨rr.toNat,by omega⟩
   obtain⟨hn,hhn⟩:∃ n:Nat,rh=(n:Int):=⟨rh.toNat,by omega⟩
   subst hsn hcn han hhn
   have z2:IntKind.u64.wrap (cn:Int)=(cn:Int):=qJb _ (by omega)
   have z3:IntKind.u64.wrap (hn:Int)=(hn:Int):=qJb _ (by omega)
   have hrb:mC ⟨(sn:Int),(cn:Int),(an:Int),(hn:Int)⟩=[sn,cn,an,hn].flatMap dA:=by unfold mC Iv;simp
   obtain⟨ns,hns⟩:=eX ([sn,cn,an,hn])
   rw[hrb,<-hns] at htk
   have hnl:ns.length=4:=by rw[hns];rfl
   have hnb:∀ k,k<4->ns.getD k 0<18446744073709551616:=by
    intro k hk
    rw[hns]
    rcases k with _ | _ | _ | _ | k
    ·simp;omega
    ·simp;omega
    ·simp;omega
    ·simp;omega
    ·omega
   obtain⟨wa,hwa⟩:=eX ((wo.alloc (.cells #[.int .u64 (sn:Int),.int .i64 (cn:Int),.int .u64 (an:Int),.int .i64 (hn:Int)] 110)).alloc (.cells #[.int .u64 (sn:Int),.int .u64 (cn:Int),.int .u64 (an:Int),.int .u64 (hn:Int)] 27))
   obtain⟨gu,hgu⟩:=eX (wo.heap.size+1)
   have hTa:aC (λ_=>False) wo wa:=by rw[hwa];exact ((aC.refl _ _).alloc _).alloc _
   have HUB:Hid (aL wa gu 27 #[.int .u64 (sn:Int),.int .u64 (cn:Int),.int .u64 (an:Int),.int .u64 (hn:Int)]):=aB (by
    have h1:=aL.new (wo.alloc (.cells #[.int .u64 (sn:Int),.int .i64 (cn:Int),.int .u64 (an:Int),.int .i64 (hn:Int)] 110)) 27 #[.int .u64 (sn:Int),.int .u64 (cn:Int),.int .u64 (an:Int),.int .u64 (hn:Int)]
    rw[hwa,hgu]
    simpa using h1)
   have HXA:=aB (HX.to hTa)
   have HOA:=aB (aD HO hTa (λ_ _ f=>f))
   have HWA:=aB hwa
   have HGU:=aB hgu
   have HTK:=aB htk
   have HNS:=aB hns
   have HNL:=aB hnl
   have HNB:=aB hnb
   have HI:=aB hi
   clear hr hrm i1 i2 i3 i4 i5 i6 i7 i8 hrb hns hnl hnb hwa hgu hTa htk hi hi' hg1
   go_upto_region 9 with fail
   rw[<-HWA.out,<-HGU.out]
   clear d0 d1 d2 d3
   go_loopw [5,55] (λbv iv wr=>∃ (k:Nat) (A':Option Addr) (q' c':Nat),bv=.slice A' q' c'/\iv=.int .i64 k/\k<=4/\Hid (eB 5 1 w wr (.slice A' q' c') q' ((qC L R.length++(R.take i).flatMap mC++(ns.take k).flatMap dA).map aP))/\Hid (wr.ownsRow 0 110 4 (.slice (some ⟨g1,0,none⟩) R.length c4) R.length (bQ R))/\Hid (aL wr gu 27 #[.int .u64 (sn:Int),.int .u64 (cn:Int),.int .u64 (an:Int),.int .u64 (hn:Int)])) (λ_ iv _=>4-(intOf iv).toNat)
   case atStart=>exact⟨0,A6,q6,c6,rfl,rfl,by omega,aB (by simpa using HXA.out),HOA,HUB⟩
   case round =>
    obtain⟨k,A7,q7,c7,rfl,rfl,hk',HX7,HO7,HU7⟩:=hrel
    obtain⟨wk,hwk⟩:=eX wr
    subst hwk
    by_cases hk:k<4
    ·have k0:(k:Int)<4:=by omega
     have k1:(0:Int)<=(k:Int):=by omega
     have k2:IntKind.i64.wrap ((k:Int)+1)=(k:Int)+1:=qZb _ (by omega)
     have hcell:wk.cell? ⟨gu,k,none⟩=some (.int .u64 ((ns.getD k 0:Nat):Int)):=by
      rw[HU7.cell k,HNS.out]
      rcases k with _ | _ | _ | _ | k
      ·rfl
      ·rfl
      ·rfl
      ·rfl
      ·omega
     have hnk:=HNB.out k hk
     have htk:(ns.take (k+1)).flatMap dA=(ns.take k).flatMap dA++dA (ns.getD k 0):=by
      have hk2:k<ns.length:=by rw[HNL.out];exact hk
      rw[qZd hk2,List.flatMap_append]
      have e2:ns.getD k 0=ns[k]:=by simp[qXa,hk2]
      rw[e2]
      simp
     obtain⟨x,hx⟩:=eX (ns.getD k 0)
     rw[<-hx] at hcell hnk htk
     have hql:q7<=8796093193229:=by
      have h1:=tS HX7.own
      rw[<-h1]
      have h2:=tY (R.take i)
      have h3:=HHL.out
      have h4:=HRF.out
      have h5:(R.take i).length<=R.length:=by rw[List.length_take];omega
      have h6:((ns.take k).flatMap dA).length<=40:=by
       have h7:∀ l:List Nat,(l.flatMap dA).length<=10*l.length:=by
        intro l
        induction l with
        | nil=>simp
        | cons a l ih=>have:=eO a;simp only[qJc,qQa,qXb];omega
       have h8:=h7 (ns.take k)
       have h9:(ns.take k).length<=4:=by rw[List.length_take,HNL.out];omega
       omega
      simp only[qQa]
      omega
     have HPU:=aB (lT w wk A7 q7 c7 _ HX7 x hnk (by omega))
     have HKK:=aB hk
     have HTK2:=aB htk
     have hgu2:gu<wk.heap.size:=HU7.lt
     clear hx hnk htk hql hk hk'
     go_wp2_with fail
     refine HPU.mono ?_
     rintro e w8 ⟨A8,q8,c8,rfl,h8,hq8,T8⟩
     have HX8:Hid (eB 5 1 w w8 (.slice A8 q8 c8) q8 ((qC L R.length++(R.take i).flatMap mC++(ns.take (k+1)).flatMap dA).map aP)):=aB (by
      rw[HTK2.out,<-List.append_assoc,qZc]
      exact h8)
     have HO8:=aB (aD HO7 T8 (λg hg e=>(aH HO7 hg).ne (aH HX7.own e) (by decide) rfl))
     have HU8:=aB (HU7.touch T8 (λe=>(aF HU7).ne (aH HX7.own e) (by decide) rfl))
     clear h8 hq8 T8 HPU hcell hgu2
     go_wp2_with fail
     go_roundw
     ·exact⟨k+1,A8,q8,c8,rfl,by simp,by have:=HKK.out;omega,HX8,HO8,HU8⟩
     ·have:=HKK.out
      simp only[intOf]
      omega
    ·have k0:¬ (k:Int)<4:=by omega
     have hke:ns.take k=ns:=qQd (by rw[HNL.out];omega)
     rw[hke] at HX7
     clear hk hk' hke
     go_wp2_with fail
     go_roundw
     ·exact⟨i+1,A7,q7,c7,rfl,by simp,by have:=HI.out;omega,aB (by rw[HTK.out,<-List.append_assoc];exact HX7),HO7⟩
     ·have:=HI.out
      simp only[intOf]
      omega
  ·have y0:¬ (i:Int)<(R.length:Int):=by omega
   have hie:R.take i=R:=qQd (by omega)
   have hx:=HX.out
   rw[hie] at hx
   have hbl:(oE L R).length=q6:=tS hx.own
   have hbd:q6<=8796093186068:=by
    rw[<-hbl]
    unfold oE
    have h1:=tY R
    have h2:=HRF.out
    have h3:=HHL.out
    simp only[qQa]
    omega
   have hse:=Xu wo A6 q6 c6 (oE L R) (aI.of_own hx.own) (jD hx.own) hbl (by omega)
   rw[<-hbl] at hse
   have HSE:=aB hse
   have HTX:=aB hx.touch
   have HBL:=aB hbl
   rw[<-hbl]
   clear hie hx hbl hbd hse hi hi'
   go_wp2_with fail
   refine HSE.mono ?_
   rintro e w9 ⟨A9,q9,c9,k9,rfl,h9,hk9⟩
   have HO9:=aB (h9.from HTX)
   clear h9 hk9 HSE
   go_wp2_with fail
   go_ret
   exact⟨A9,q9,c9,rfl,HO9⟩
theorem iO{size:Nat}{xs:List Value}(h:aI w size A n xs)(T:aC S w w')(hs:0<n->∀ g,aQ A=some g->¬ S g):aI w' size A n xs:=by
 by_cases hn:0<n
 ·exact h.touch T (hs hn)
 ·exact⟨h.1,λh0=>absurd h0 hn⟩
structure vW(w:World)(p:Nat)(A:Option Addr)(n c:Nat)(bs:List UInt8)(e:Int):Prop where
 blk:aL w p 214 #[.slice A n c,.int .i64 e]
 rd:aI w 1 A n (bs.map aP)
 ne:0<n->∀ g,aQ A=some g->¬ g=p
 len:bs.length=n
 le:n<=c
 mx:c<=maxLen
theorem vW.touch(h:vW w p A n c bs e)(T:aC S w w')(h1:¬ S p)(h2:0<n->∀ g,aQ A=some g->¬ S g):vW w' p A n c bs e :=
 ⟨h.blk.touch T h1,iO h.rd T h2,h.ne,h.len,h.le,h.mx⟩
theorem vW.quiet(h:vW w p A n c bs e)(T:aC (λ_=>False) w w'):vW w' p A n c bs e:=h.touch T (λf=>f) (λ_ _ _ f=>f)
theorem vW.fail(h:vW w p A n c bs e)(k:Int):vW (w.setCell ⟨p,1,none⟩ (.int .i64 k)) p A n c bs k:=by
 have T:aC (λg=>g=p) w (w.setCell ⟨p,1,none⟩ (.int .i64 k)):=(aC.refl (λg=>g=p) w).setCell (λ_=>rfl) _
 exact⟨h.blk.set_ 1 _,iO h.rd T (λhn g hg e=>h.ne hn g hg e),h.ne,h.len,h.le,h.mx⟩
theorem vW.step(h:vW w p A n c bs e)(hk:k<=n) :
  vW (w.setCell ⟨p,0,none⟩ (.slice (if c=k then A else A.map (·.add k)) (n-k) (c-k))) p (if c=k then A else A.map (·.add k)) (n-k) (c-k) (bs.drop k) e:=by
 have T:aC (λg=>g=p) w (w.setCell ⟨p,0,none⟩ (.slice (if c=k then A else A.map (·.add k)) (n-k) (c-k))):=(aC.refl (λg=>g=p) w).setCell (λ_=>rfl) _
 have hr:=iO h.rd T (λhn g hg e=>h.ne hn g hg e)
 refine⟨h.blk.set_ 0 _,?_,?_,by rw[List.length_drop,h.len],by have:=h.le;omega,by have:=h.mx;omega⟩
 ·have:=hr.cut hk h.le
  rw[Nat.mul_one] at this
  rw[List.map_drop]
  exact this
 ·intro hn g hg
  refine h.ne (by omega) g ?_
  split at hg
  ·exact hg
  ·cases A with
   | none=>cases hg
   | some a =>
    simp only[aQ,Option.map_some,Option.some.injEq] at hg ⊢
    rw[<-hg]
    unfold Addr.add
    split<;>rfl
def Uf(A A':Option Addr):Prop:=∀ g,aQ A'=some g->aQ A=some g
theorem vW.same:Uf A (if c=k then A else A.map (·.add k)):=by
 intro g hg
 split at hg
 ·exact hg
 ·cases A with
  | none=>cases hg
  | some a =>
   simp only[aQ,Option.map_some,Option.some.injEq] at hg ⊢
   rw[<-hg]
   unfold Addr.add
   split<;>rfl
theorem aBc(r d i:Nat)(hi:i<=24)(hr:r<2 ^ i)(hd:d*2 ^ i<4294967296):bits .or .u32 (r:Int) ((d*2 ^ i:Nat):Int)=((r+d*2 ^ i:Nat):Int):=by
 have hr2:r<4294967296:=by
  rcases Nat.eq_zero_or_pos d with h | h
  ·subst h
   exact Nat.lt_of_lt_of_le hr (Nat.le_trans (Nat.pow_le_pow_right (by decide) (show i<=32 by omega)) (by decide))
  ·have:=Nat.le_mul_of_pos_left (2 ^ i) h
   omega
 rw[u32_or_nat r (d*2 ^ i) hr2 hd,Nat.or_comm,nat_join i (d*2 ^ i) r (Nat.mul_mod_left _ _) hr,Nat.add_comm]
theorem Wm(s k:Nat):s % 256 ^ (k+1)=s % 256 ^ k+s / 256 ^ k % 256*256 ^ k:=by
 rw[Nat.pow_succ,Nat.mod_mul,Nat.mul_comm (256 ^ k)]
theorem aCa(s k:Nat)(hk:k<4):((Kb s).getD k 0).toNat=s / 256 ^ k % 256:=by
 unfold Kb
 have hm:∀ x:Nat,(UInt8.ofNat (x % 256)).toNat=x % 256:=λx=>by rw[UInt8.toNat_ofNat'];omega
 rcases k with _ | _ | _ | _ | k
 ·simp[hm]
 ·simp[hm]
 ·simp[hm]
 ·simp[hm]
 ·omega
end Go.Proofs.YthockgmbooefpaaGreatDoor
