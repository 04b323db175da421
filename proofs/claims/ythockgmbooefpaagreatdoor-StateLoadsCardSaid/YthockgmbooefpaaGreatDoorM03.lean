/- What the law rests on, part 3. No condition but those that each theorem names. -/
import Derived.Test.YthockgmbooefpaaGreatDoorM02
import Derived.Test.YthockgmbooefpaaGreatDoorM01
import Derived.Deep.AppendLies
import Derived.Deep.RegionLaw
import Derived.Laws.BytesArg
import Derived.StillTailTactics
set_option linter.unusedSectionVars false
set_option linter.unusedSimpArgs false
set_option linter.unusedVariables false
set_option maxRecDepth 100000
set_option maxHeartbeats 2000000
namespace Go.Proofs.YthockgmbooefpaaGreatDoor
open IntWalk renaming i64_in → qJd
open List renaming length_map → qQa, getD → qZa, mem_map → qXa, map_append → qQb, take_of_length_le → qZb, length_append → qXb, length_cons → qJb, length_nil → qQc, foldl_cons → qZc, mem_append → qXc, mem_cons_of_mem → qJc, mem_cons_self → qQd, mem_singleton → qZd, flatMap_append → qQe, foldl_append → qZe, filterMap_append → qXe, getElem?_eq_getElem → qJe, map_take → qQf, eq_nil_of_length_eq_zero → qZg, getD_eq_getElem?_getD → qQh, take_succ_eq_append_getElem → qJi
open Nat renaming le_trans → qJa, le_refl → qXd
variable{fin:Bool}{out:Int}{arcs:List (Nat × Int × Nat)}{F:List Nat}{xs:List Value}{B C ac ai b base c cap fq g i n size:Nat}{A aA fA:Option Addr}{R:Rs}{α:Type}{t:TypeId}{u v v4 w w':World}{z:bP}
open Go.RowKit
def bE(w:World)(b:Nat)(t:TypeId):Prop:=∃ cs,∃ _:Unit,w.heap[b]? = some (.cells cs t (0,0))
theorem bE.ne{b':Nat}{t':TypeId}(h:bE w b t)(h':bE w b' t')(ht:t≠t'):b≠b':=by
 rintro rfl
 obtain⟨_,_,e⟩:=h
 obtain⟨_,_,e'⟩:=h'
 rw[e] at e'
 injection e' with e'
 injection e' with _ e'
 exact ht e'
theorem bE.lt(h:bE w b t):b<w.heap.size:=by
 obtain⟨_,_,e⟩:=h
 exact (Array.getElem?_eq_some_iff.1 e).1
theorem bE.touch{S:Nat->Prop}(h:bE w b t)(T:aC S w w')(hS:¬ S b):bE w' b t:=by
 have hl:=h.lt
 obtain⟨cs,fr,e⟩:=h
 exact⟨cs,fr,(T.block b hl hS).trans e⟩
structure fM(w:World)(t:TypeId)(size:Nat)(A:Option Addr)(n:Nat)(xs:List Value):Prop where
 rd:aI w size A n xs
 ty:0<n->∀ g,aQ A=some g->bE w g t
theorem fM.touch{S:Nat->Prop}(h:fM w t size A n xs)(T:aC S w w')(hS:∀ g,bE w g t->¬ S g):fM w' t size A n xs:=by
 by_cases hn:0<n
 ·exact⟨h.rd.touch T λg hg=>hS g (h.ty hn g hg),λ_ g hg=>(h.ty hn g hg).touch T (hS g (h.ty hn g hg))⟩
 ·exact⟨⟨h.rd.1,λh=>absurd h hn⟩,λh=>absurd h hn⟩
theorem fM.quiet(h:fM w t size A n xs)(T:aC (λ_=>False) w w'):fM w' t size A n xs:=h.touch T λ_ _ f=>f
theorem fM.of_own(h:w.ownsRow base t size (.slice A n c) n xs):fM w t size A n xs:=by
 refine⟨aI.of_own h,λhn g hg=>?_⟩
 rcases h.2 with⟨e,e2⟩ | ⟨g',cap,cur,e,_,hb,_⟩
 ·omega
 ·injection e with e _ _
  subst e
  simp only[aQ,Option.map_some,Option.some.injEq] at hg
  subst hg
  exact⟨cur,(),hb⟩
theorem aH{v:Value}(h:w.ownsRow base t size v n xs)(hg:v.ownBlock=some g):bE w g t:=by
 rcases h.2 with⟨e,_⟩ | ⟨g',cap,cur,e,_,hb,_⟩
 ·rw[e] at hg;simp[Value.ownBlock] at hg
 ·rw[e] at hg
  simp[Value.ownBlock] at hg
  subst hg
  exact⟨cur,(),hb⟩
structure RV where
 A:Option Addr
 q:Nat
 c:Nat
 O:List Nat
 wt:Int
def RV.zero:RV:=⟨none,0,0,[],0⟩
def RV.cells(r:RV):List Value:=[.slice r.A r.q r.c,.int .i64 r.wt]
def RV.p(r:RV):List Nat × Int:=(r.O,r.wt)
structure RV.Ok(r:RV)(w:World):Prop where
 len:r.O.length=r.q
 rd:fM w 21 1 r.A r.q (r.O.map eV)
 le:r.q<=r.c
 mx:r.c<=maxLen
def fH(V:List RV):List Value:=V.flatMap RV.cells
theorem kU(V W:List RV):fH (V++W)=fH V++fH W:=qQe
theorem Dc(X:List RV)(k:Nat)(hk:k<X.length)(j:Nat)(hj:j<2):(fH X)[k*2+j]? = some ((X.getD k RV.zero).cells.getD j undef):=by
 induction X generalizing k with
 | nil=>simp at hk
 | cons x X ih =>
  have e:fH (x :: X)=x.cells++fH X:=rfl
  cases k with
  | zero =>
   rw[e,Nat.zero_mul,Nat.zero_add]
   obtain rfl | rfl:j=0\/j=1:=by omega
   ·rfl
   ·rfl
  | succ k =>
   rw[e,List.getElem?_append_right (by simp[RV.cells];omega)]
   have:(k+1)*2+j-x.cells.length=k*2+j:=by simp[RV.cells];omega
   rw[this,ih k (by simp at hk;omega)]
   simp[qZa]
structure RL where
 A:Option Addr
 n:Nat
 c:Nat
 V:List RV
def RL.val(s:RL):Value:=.slice s.A s.n s.c
def RL.p(s:RL):Rs:=s.V.map RV.p
structure RL.Ok(s:RL)(w:World):Prop where
 len:s.V.length=s.n
 rd:fM w 236 2 s.A s.n (fH s.V)
 el:∀ r∈s.V,r.Ok w
theorem RV.Ok.touch{r:RV}{S:Nat->Prop}(h:r.Ok w)(T:aC S w w')(hS:∀ g,bE w g 21 -> ¬ S g):r.Ok w':=⟨h.len,h.rd.touch T hS,h.le,h.mx⟩
theorem RL.Ok.touch{s:RL}{S:Nat->Prop}(h:s.Ok w)(T:aC S w w')(h1:∀ g,bE w g 21 -> ¬ S g)(h2:∀ g,bE w g 236 -> ¬ S g):s.Ok w' :=
 ⟨h.len,h.rd.touch T h2,λr hr=>(h.el r hr).touch T h1⟩
theorem RL.Ok.quiet{s:RL}(h:s.Ok w)(T:aC (λ_=>False) w w'):s.Ok w':=h.touch T (λ_ _ f=>f) (λ_ _ f=>f)
theorem fS{X:List RV}(h:aI w 2 A n (fH X))(hn:X.length=n)(k:Nat)(hk:k<n) :
  ∃ g off,A=some ⟨g,off,none⟩/\g<w.heap.size/\w.cell? ⟨g,off+k*2,none⟩=some (.slice (X.getD k RV.zero).A (X.getD k RV.zero).q (X.getD k RV.zero).c)/\w.cell? ⟨g,off+k*2+1,none⟩=some (.int .i64 (X.getD k RV.zero).wt):=by
 obtain⟨b,off,hA,hb,hc⟩:=h.2 (by omega)
 refine⟨b,off,hA,hb,?_,?_⟩
 ·exact hc (k*2) _ (Dc X k (by omega) 0 (by omega))
 ·rw[Nat.add_assoc];exact hc (k*2+1) _ (Dc X k (by omega) 1 (by omega))
theorem aZ(X:List α)(d:α)(k:Nat)(hk:k<X.length):X.getD k d∈X:=by
 have e:X.getD k d=X[k]:=by simp[qZa,hk]
 rw[e];exact List.getElem_mem _
theorem bI(X:List α)(d:α)(k:Nat)(hk:k<X.length):X.take (k+1)=X.take k++[X.getD k d]:=by
 have e:X.getD k d=X[k]:=by simp[qZa,hk]
 rw[qJi hk,e]
theorem Re(w:World)(s:RL)(hs:s.Ok w)(hn:0<s.n)(hm:s.n<=maxLen) :
  Calls Tryz.prog 128 #[s.val] w λe w'=>e=.returned (.int .i64 (aW s.p))/\aC (λ_=>False) w w':=by
 obtain⟨A,n,c,V⟩:=s
 have HR:=aB hs.rd.rd
 have HLN:=aB hs.len
 simp only[RL.val,RL.p]
 simp only at HR HLN hn hm
 clear hs
 unfold maxLen at hm
 obtain⟨m,rfl⟩:∃ m,n=m+1:=⟨n-1,by omega⟩
 obtain⟨g,o,hA,hg,_,z1⟩:=fS HR.out HLN 0 (by omega)
 subst hA
 simp only[Nat.zero_mul,Nat.add_zero] at z1
 obtain⟨z,hz⟩:∃ z,(V.getD 0 RV.zero).wt=z:=⟨_,rfl⟩
 rw[hz] at z1
 have hl:aW (V.map RV.p)=(V.map RV.p).foldl (λn r=>min n r.2) z:=by
  cases V with
  | nil=>have:=HLN.out;simp at this
  | cons x V=>simp only[List.getD_cons_zero] at hz;subst hz;rfl
 have HL:=aB hl
 have HZ1:=aB z1
 have HG:=aB hg
 clear hl hz hg
 have y0:(0:Int)<((m:Int)+1):=by omega
 go_in
 go_wp2
 go_loopw [3,4] (λnv iv wr=>∃ (z':Int) (i:Nat),nv=.int .i64 z'/\iv=.int .i64 i/\i<=m+1/\Hid (z'=((V.map RV.p).take i).foldl (λn r=>min n r.2) z)/\Hid (aC (λ_=>False) w wr)) (λ_ iv _=>m+1-(intOf iv).toNat)
 case atStart=>exact⟨z,0,rfl,rfl,by omega,aB (by simp),aB (aC.refl _ _)⟩
 case round =>
  obtain⟨z',i,rfl,rfl,hi,HZ,HT⟩:=hrel
  by_cases hin:i<m+1
  ·have y1:(i:Int)<(m:Int)+1:=by omega
   have y2:(0:Int)<=(i:Int):=by omega
   obtain⟨g',o',hA,_,_,a1⟩:=fS (HR.touch HT (λ_ _ f=>f)) HLN i hin
   injection hA with hA
   injection hA with hA1 hA2
   subst hA1 hA2
   obtain⟨u,hu⟩:∃ u,(V.getD i RV.zero).wt=u:=⟨_,rfl⟩
   rw[hu] at a1
   have hst:((V.map RV.p).take (i+1)).foldl (λn r=>min n r.2) z=min z' u:=by
    rw[bI (V.map RV.p) RV.zero.p i (by rw[qQa,HLN.out];exact hin),qZe,<-HZ.out]
    simp only[qZc,List.foldl_nil]
    rw[<-hu]
    simp[qZa,RV.p,show i<V.length by rw[HLN.out];exact hin]
   have HST:=aB hst
   clear hst hu
   go_wp2
   all_goals
    go_roundw
    ·exact⟨_,i+1,rfl,by simp,by omega,aB (by rw[HST.out];first | done | (split<;>omega)),HT⟩
    ·show m+1-(intOf (.int .i64 ((i:Int)+1))).toNat<m+1-(intOf (.int .i64 (i:Int))).toNat
     simp[intOf]
     omega
  ·have y1:¬ (i:Int)<(m:Int)+1:=by omega
   have ht:(V.map RV.p).take i=V.map RV.p:=qZb (by rw[qQa,HLN.out];omega)
   have hz:=HZ.out
   rw[ht,<-HL.out] at hz
   have HE:=aB hz
   clear hz ht
   go_wp2
   go_ret
   exact⟨by rw[<-HE.out];rfl,HT⟩
theorem yN:(Tryz.prog.info? 236).map (λi=>(i.zero,i.size,i.bytes))=some (some (.agg #[.slice none 0 0,.int .i64 0]),2,32):=by kernel_rfl
def RL.Bd(s:RL):Prop:=∀ r∈s.V,0<=r.wt/\r.wt<=1048576
theorem iL(A:Option Addr)(q c:Nat)(z:Int):∀ u∈([.slice A q c,.int .i64 z]:List Value),u.oneCell'=true:=by
 intro u hu
 simp at hu
 rcases hu with e | e<;>subst e<;>rfl
theorem eB.app2{e m:Nat}{w0 w1 w3:World}{v:Value}{q:Nat}{ys:List Value}(h:eB e size w0 w1 v q xs)(ho:w3.ownsRow 0 e size (.slice (some ⟨g,0,none⟩) (q+m) cap) (q+m) (xs++ys))(hg:w1.grownBy w3 v.ownBlock)(hl:v.ownBlock=some g\/g=w1.heap.size):eB e size w0 w3 (.slice (some ⟨g,0,none⟩) (q+m) cap) (q+m) (xs++ys):=by
 refine h.app ho hg ?_
 rcases hl with e | e
 ·exact .inl e.symm
 ·exact .inr ⟨g,rfl,by rw[e];exact qXd _⟩
theorem Dh{w0:World}{V:List RV}(h:eB 236 2 w0 w (.slice A n c) n (fH V))(hl:V.length=n)(he:∀ r∈V,r.Ok w0):RL.Ok ⟨A,n,c,V⟩ w :=
 ⟨hl,fM.of_own h.own,λr hr=>(he r hr).touch h.touch λ_ _ f=>f⟩
def Ay(z:Int)(V:List RV):List RV:=V.map λr=>{ r with wt:=r.wt-z }
theorem aDx(z:Int)(V:List RV):(Ay z V).map RV.p=fO z (V.map RV.p):=by
 unfold Ay fO
 rw[List.map_map,List.map_map]
 rfl
theorem Rf(w:World)(s:RL)(hs:s.Ok w)(hn:0<s.n)(hm:s.n<=4096)(hb:s.Bd) :
  Calls Tryz.prog 164 #[s.val] w λe w'=>∃ s':RL,e=.returned s'.val/\s'.Ok w'/\s'.p=aJ s.p/\s'.n=s.n/\s'.Bd/\aC (λ_=>False) w w':=by
 have HLE:=aB (λw1 T=>Re w1 s (hs.quiet (w':=w1) T) hn (by unfold maxLen;omega))
 obtain⟨i0,hi,hz0,hz1,hz2⟩:=aO yN
 obtain⟨A,n,c,V⟩:=s
 have HR:=aB hs.rd.rd
 have HLN:=aB hs.len
 have HEL:=aB hs.el
 have HB:=aB hb
 simp only[RL.val,RL.p] at HLE ⊢
 simp only at HR HLN HEL hn hm
 simp only[RL.Bd] at HB
 obtain⟨z,hz⟩:∃ z,aW (V.map RV.p)=z:=⟨_,rfl⟩
 have hzb:0<=z/\z<=1048576:=by
  obtain⟨r,hr,e⟩:=cL (l:=V.map RV.p) (by intro e;have:=congrArg List.length e;rw[qQa,HLN.out] at this;simp at this;omega)
  obtain⟨x,hx,rfl⟩:=List.mem_map.1 hr
  rw[<-hz,<-e]
  exact HB x hx
 have hlv:aJ (V.map RV.p)=(Ay z V).map RV.p:=by rw[aDx,<-hz];rfl
 have HLV:=aB hlv
 rw[hz] at HLE
 clear hs hb hz hlv
 go_in
 go_wp2_with fail
 refine (HLE w (aC.refl _ _)).mono ?_
 rintro e w1 ⟨rfl,T1⟩
 have HT1:=aB T1
 clear T1 HLE
 go_wp2_with fail
 go_loopw [3,5] (λov iv wr=>∃ (i:Nat) (A3:Option Addr) (c3:Nat),ov=.slice A3 i c3/\iv=.int .i64 i/\i<=n/\Hid (eB 236 2 w wr (.slice A3 i c3) i (fH (Ay z (V.take i))))) (λ_ iv _=>n-(intOf iv).toNat)
 case atStart=>exact⟨0,none,0,rfl,rfl,by omega,aB ((eB.nil _ _ _).to HT1)⟩
 case round =>
  obtain⟨i,A3,c3,rfl,rfl,hi',HO⟩:=hrel
  by_cases hin:i<n
  ·have y1:(i:Int)<(n:Int):=by omega
   have y2:(0:Int)<=(i:Int):=by omega
   obtain⟨g,o,hA,_,a0,a1⟩:=fS (HR.touch HO.touch (λ_ _ f=>f)) HLN i hin
   subst hA
   have hbi:=HB.out _ (aZ V RV.zero i (by rw[HLN.out];exact hin))
   have hsn:=bI V RV.zero i (by rw[HLN.out];exact hin)
   obtain⟨⟨rA,rq,rc,rO,u⟩,hu⟩:∃ r,V.getD i RV.zero=r:=⟨_,rfl⟩
   rw[hu] at a0 a1 hbi hsn
   simp only at a0 a1 hbi
   have hcs:fH (Ay z (V.take (i+1)))=fH (Ay z (V.take i))++[.slice rA rq rc,.int .i64 (u-z)]:=by
    rw[hsn]
    unfold Ay
    rw[qQb,kU]
    rfl
   have HCS:=aB hcs
   obtain⟨hb1,hb2⟩:=hbi
   obtain⟨hz1',hz2'⟩:=hzb
   have HWR:Hid (IntKind.i64.wrap (u-z)=u-z):=aB (qJd _ (by omega))
   clear hu hsn hcs
   go_wp2_with fail
   go_region_law (refine step_append_lies _ rfl (.tmp 14) (.tmp 28) 225 rfl 0 236 i0 _ 2 32 Tryz.underlying225 hi hz0 hz1 hz2 (by decide) (by decide) (.slice A3 i c3) i _ (by simp[Act.eval]) (aD HO.own ((aC.refl _ _).alloc _).drew (λ_ _ f=>f)) ⟨wr.heap.size,0,none⟩ 1 1 [.slice rA rq rc,.int .i64 (IntKind.i64.wrap (u-z))] (by simp[Act.eval]) rfl ?news ?one (by decide) ?b1 ?b2 (Nat.zero_le _) _ rfl ?_;(case news=>exact World.news_of_block (aL.new wr _ _));(case one=>exact iL _ _ _ _);(case b1=>unfold maxLen;omega);(case b2=>omega);intro g4 cap4 w4 hown hgrow hlies _;have N4:=(HO.to ((aC.refl _ _).alloc _).drew).app2 hown hgrow hlies;have HN4:=aB N4;clear N4 hown hgrow hlies)
   all_goals
    go_wp2_with fail
    go_roundw
    ·exact⟨i+1,some ⟨g4,0,none⟩,cap4,rfl,by simp,by omega,aB (by
      have h4:=HN4.out
      rw[HWR.out] at h4
      rw[HCS.out]
      exact h4)⟩
    ·show n-(intOf (.int .i64 ((i:Int)+1))).toNat<n-(intOf (.int .i64 (i:Int))).toNat
     simp[intOf]
     omega
  ·have hin2:i=n:=by omega
   subst hin2
   have ht:V.take i=V:=qZb (by rw[HLN.out];exact qXd _)
   have hO:=HO.out
   rw[ht] at hO
   have HOO:=aB hO
   have y1:¬ (i:Int)<(i:Int):=by omega
   clear hO ht
   go_wp2_with fail
   go_ret
   have hOO:=HOO.out
   refine⟨⟨A3,i,c3,Ay z V⟩,rfl,Dh hOO (by unfold Ay;rw[qQa];exact HLN) ?_,HLV.symm,rfl,?_,hOO.touch⟩
   ·intro r hr
    obtain⟨x,hx,rfl⟩:=List.mem_map.1 hr
    have:=HEL.out x hx
    exact⟨this.len,this.rd,this.le,this.mx⟩
   ·intro r hr
    simp only at hr
    have h1:(r.O,r.wt)∈(Ay z V).map RV.p:=List.mem_map.2 ⟨r,hr,rfl⟩
    rw[<-HLV.out] at h1
    have h2:=cV.1 h1
    have h3:=dG h2
    obtain⟨x,hx,rfl⟩:=List.mem_map.1 hr
    have:=HB.out x hx
    simp only at h3 ⊢
    constructor
    ·omega
    ·have:=hzb.1;omega
def RV.cut(r:RV)(t:List Nat):RV:=⟨if r.c=1 then r.A else r.A.map (·.add 1),r.q-1,r.c-1,t,r.wt⟩
def pW(c:Nat)(V:List RV):List RV:=V.filterMap λr=>match r.O with
 | []=>none
 | d :: t=>if d=c then some (r.cut t) else none
theorem aEr(c:Nat)(V:List RV):(pW c V).map RV.p=aG (V.map RV.p) c:=by
 unfold pW aG
 rw[List.map_filterMap,List.filterMap_map]
 congr 1
 funext r
 obtain⟨A,q,rc,O,wt⟩:=r
 cases O with
 | nil=>rfl
 | cons d t =>
  simp only[Function.comp,RV.p]
  split<;>rfl
theorem RV.Ok.cut{r:RV}(h:r.Ok w){d:Nat}{t:List Nat}(hO:r.O=d :: t):(r.cut t).Ok w:=by
 have hl:=h.len
 rw[hO,qJb] at hl
 have hle:=h.le
 have hmx:=h.mx
 refine⟨by simp only[RV.cut];omega,⟨?_,?_⟩,by simp only[RV.cut];omega,by simp only[RV.cut];unfold maxLen at hmx ⊢;omega⟩
 ·have:=h.rd.rd.cut (k:=1) (cap:=r.c) (by omega) hle
  rw[hO] at this
  simp only[RV.cut]
  by_cases e:r.c=1
  ·rw[if_pos e] at this ⊢
   exact this
  ·rw[if_neg e] at this ⊢
   exact this
 ·intro hn g hg
  simp only[RV.cut] at hg hn
  have hq:0<r.q:=by omega
  refine h.rd.ty hq g ?_
  split at hg
  ·exact hg
  ·cases hA:r.A with
   | none=>rw[hA] at hg;cases hg
   | some a =>
    rw[hA] at hg
    simp only[Option.map_some,aQ,Option.some.injEq] at hg ⊢
    rw[<-hg]
    unfold Addr.add
    split<;>rfl
theorem kV{q:Nat}{d:Nat}{t:List Nat}(h:aI w 1 A (q+1) ((d :: t).map eV)):∃ b off,A=some ⟨b,off,none⟩/\b<w.heap.size/\w.cell? ⟨b,off,none⟩=some (.int .i32 (d:Int)):=by
 obtain⟨b,off,hA,hb,hc⟩:=h.2 (by omega)
 refine⟨b,off,hA,hb,?_⟩
 have:=hc 0 (eV d) rfl
 rw[Nat.add_zero] at this
 exact this
theorem Sz(w:World)(s:RL)(hs:s.Ok w)(hm:s.n<=4096)(x:Nat) :
  Calls Tryz.prog 167 #[s.val,.int .i32 x] w λe w'=>∃ s':RL,e=.returned s'.val/\s'.Ok w'/\s'.p=aG s.p x/\s'.n<=s.n/\(s.Bd->s'.Bd)/\aC (λ_=>False) w w':=by
 obtain⟨i0,hi,hz0,hz1,hz2⟩:=aO yN
 obtain⟨A,n,c,V⟩:=s
 have HR:=aB hs.rd.rd
 have HLN:=aB hs.len
 have HEL:=aB hs.el
 simp only[RL.val,RL.p]
 simp only at HR HLN HEL hm
 clear hs
 go_in
 go_wp2_with fail
 go_loopw [5,6] (λov iv wr=>∃ (i k:Nat) (A3:Option Addr) (c3:Nat),ov=.slice A3 k c3/\iv=.int .i64 i/\i<=n/\k<=i/\Hid (eB 236 2 w wr (.slice A3 k c3) k (fH (pW x (V.take i)))/\(pW x (V.take i)).length=k)) (λ_ iv _=>n-(intOf iv).toNat)
 case atStart=>exact⟨0,0,none,0,rfl,rfl,by omega,by omega,aB ⟨eB.nil _ _ _,rfl⟩⟩
 case round =>
  obtain⟨i,k,A3,c3,rfl,rfl,hi',hk',HO⟩:=hrel
  by_cases hin:i<n
  ·have y1:(i:Int)<(n:Int):=by omega
   have y2:(0:Int)<=(i:Int):=by omega
   obtain⟨g,o,hA,_,a0,a1⟩:=fS (HR.touch HO.1.touch (λ_ _ f=>f)) HLN i hin
   subst hA
   have hel:=(HEL _ (aZ V RV.zero i (by rw[HLN.out];exact hin))).touch HO.1.touch (λ_ _ f=>f)
   have hsn:=bI V RV.zero i (by rw[HLN.out];exact hin)
   obtain⟨⟨rA,rq,rc,rO,u⟩,hu⟩:∃ r,V.getD i RV.zero=r:=⟨_,rfl⟩
   rw[hu] at a0 a1 hel hsn
   simp only at a0 a1
   have hl:=hel.len
   have hle:=hel.le
   have hmx:=hel.mx
   have hrd:=hel.rd.rd
   unfold maxLen at hmx
   simp only at hl hle hmx hrd
   cases rO with
   | nil =>
    simp only[qQc] at hl
    subst hl
    have hcs:pW x (V.take (i+1))=pW x (V.take i):=by
     rw[hsn]
     unfold pW
     rw[qXe]
     simp
    have HCS:=aB hcs
    clear hu hsn hcs hel hrd
    go_wp2_with fail
    go_roundw
    ·exact⟨i+1,k,A3,c3,rfl,by simp,by omega,by omega,aB (by rw[HCS.out];exact HO)⟩
    ·show n-(intOf (.int .i64 ((i:Int)+1))).toNat<n-(intOf (.int .i64 (i:Int))).toNat
     simp[intOf]
     omega
   | cons d t =>
    obtain⟨q,rfl⟩:∃ q,rq=q+1:=⟨t.length,by simpa using hl.symm⟩
    obtain⟨b,off,hA,_,d0⟩:=kV hrd
    subst hA
    have z0:(0:Int)<(q:Int)+1:=by omega
    have z1:(1:Int)<=(q:Int)+1:=by omega
    have z2:(q:Int)+1<=(rc:Int):=by omega
    have z3:(1:Int)<=(rc:Int):=by omega
    by_cases hd:d=x
    ·have w1:((d:Int) == (x:Int))=true:=by simp[hd]
     have hcs:pW x (V.take (i+1))=pW x (V.take i)++[(⟨if rc=1 then some ⟨b,off,none⟩ else some ⟨b,off+1,none⟩,q,rc-1,t,u⟩:RV)]:=by
      rw[hsn]
      unfold pW
      rw[qXe]
      congr 1
      simp[hd,RV.cut,Addr.add_lit]
     have HCS:=aB hcs
     have HLQ:=aB hl
     clear hu hsn hcs hel hrd hl
     go_wp2_with fail
     go_region_law (refine step_append_lies _ rfl (.tmp 31) (.tmp 44) 225 rfl 0 236 i0 _ 2 32 Tryz.underlying225 hi hz0 hz1 hz2 (by decide) (by decide) (.slice A3 k c3) k _ (by simp[Act.eval]) (aD HO.1.own ((aC.refl _ _).alloc _).drew (λ_ _ f=>f)) ⟨wr.heap.size,0,none⟩ 1 1 [.slice (if rc=1 then some ⟨b,off,none⟩ else some ⟨b,off+1,none⟩) q (rc-1),.int .i64 u] (by simp[Act.eval]) rfl ?news ?one (by decide) ?b1 ?b2 (Nat.zero_le _) _ rfl ?_;(case news=>exact World.news_of_block (aL.new wr _ _));(case one=>exact iL _ _ _ _);(case b1=>unfold maxLen;omega);(case b2=>omega);intro g4 cap4 w4 hown hgrow hlies _;have N4:=(HO.1.to ((aC.refl _ _).alloc _).drew).app2 hown hgrow hlies;have HN4:=aB N4;clear N4 hown hgrow hlies)
     all_goals
      go_wp2_with fail
      go_roundw
      ·refine⟨i+1,k+1,some ⟨g4,0,none⟩,cap4,rfl,by simp,by omega,by omega,aB ⟨?_,?_⟩⟩
       ·rw[HCS.out,kU]
        exact HN4
       ·rw[HCS.out,qXb,HO.2]
        rfl
      ·show n-(intOf (.int .i64 ((i:Int)+1))).toNat<n-(intOf (.int .i64 (i:Int))).toNat
       simp[intOf]
       omega
    ·have w1:((d:Int) == (x:Int))=false:=by simp;omega
     have w2:¬ (d:Int)=(x:Int):=by omega
     have hcs:pW x (V.take (i+1))=pW x (V.take i):=by
      rw[hsn]
      unfold pW
      rw[qXe]
      simp[hd]
     have HCS:=aB hcs
     clear hu hsn hcs hel hrd hl
     go_wp2_with fail
     go_roundw
     ·exact⟨i+1,k,A3,c3,rfl,by simp,by omega,by omega,aB (by rw[HCS.out];exact HO)⟩
     ·show n-(intOf (.int .i64 ((i:Int)+1))).toNat<n-(intOf (.int .i64 (i:Int))).toNat
      simp[intOf]
      omega
  ·have ht:V.take i=V:=qZb (by rw[HLN.out];omega)
   have hO:=HO.out
   rw[ht] at hO
   have HOO:=aB hO
   have y1:¬ (i:Int)<(n:Int):=by omega
   clear hO ht
   go_wp2_with fail
   go_ret
   have hOO:=HOO.out
   refine⟨⟨A3,k,c3,pW x V⟩,rfl,Dh hOO.1 hOO.2 ?_,aEr x V,by show k<=n;omega,?_,hOO.1.touch⟩
   ·intro r hr
    unfold pW at hr
    obtain⟨y,hy,e⟩:=List.mem_filterMap.1 hr
    split at e
    ·cases e
    ·rename_i d t hO
     split at e
     ·injection e with e
      subst e
      exact (HEL y hy).cut hO
     ·cases e
   ·intro hb r hr
    simp only at hr
    unfold pW at hr
    obtain⟨y,hy,e⟩:=List.mem_filterMap.1 hr
    split at e
    ·cases e
    ·split at e
     ·injection e with e
      subst e
      exact hb y hy
     ·cases e
theorem aN{P:Program}{ops:Array Oper}{C:World->Prop}{Q:Act->Prop}{o:Oper}{l:List Oper}{a:Act}(h:Region.wanted o (yielded ops a.tmps)=false):wpQuiet P ops C Q (o :: l) a=wpQuiet P ops C Q l (a.put o.dst undef):=by
 show (if Region.wanted o (yielded ops a.tmps)=true then _ else _)=_
 rw[if_neg (by rw[h];decide)]
theorem He(l:Rs)(r:List Nat × Int):aK (l++[r])=eP (aK l) r:=by
 unfold aK
 rw[qZe]
 rfl
theorem Lv(w:World)(s:RL)(hs:s.Ok w)(hm:s.n<=4096) :
  Calls Tryz.prog 166 #[s.val] w λe w'=>∃ A' q c',e=.returned (.slice A' q c')/\eB 21 1 w w' (.slice A' q c') q ((aK s.p).map eV)/\(aK s.p).length=q/\q<=s.n:=by
 obtain⟨i0,hi,hz0,hz1,hz2⟩:=aO yO
 obtain⟨A,n,c,V⟩:=s
 have HR:=aB hs.rd.rd
 have HLN:=aB hs.len
 have HEL:=aB hs.el
 simp only[RL.val,RL.p]
 simp only at HR HLN HEL hm
 clear hs
 go_in
 go_wp2_with fail
 go_loopw [3,4] (λov iv wr=>∃ (i k:Nat) (A3:Option Addr) (c3:Nat) (O:List Nat),ov=.slice A3 k c3/\iv=.int .i64 i/\i<=n/\k<=i/\Hid (eB 21 1 w wr (.slice A3 k c3) k (O.map eV)/\O.length=k)/\Hid (O=aK ((V.take i).map RV.p))) (λ_ iv _=>n-(intOf iv).toNat)
 case atStart=>exact⟨0,0,none,0,[],rfl,rfl,by omega,by omega,aB ⟨eB.nil _ _ _,rfl⟩,aB rfl⟩
 case round =>
  obtain⟨i,k,A3,c3,O,rfl,rfl,hi',hk',HO,HF⟩:=hrel
  by_cases hin:i<n
  ·have y1:(i:Int)<(n:Int):=by omega
   have y2:(0:Int)<=(i:Int):=by omega
   obtain⟨g,o,hA,hgl,a0,a1⟩:=fS (HR.touch HO.1.touch (λ_ _ f=>f)) HLN i hin
   subst hA
   have hel:=(HEL _ (aZ V RV.zero i (by rw[HLN.out];exact hin))).touch HO.1.touch (λ_ _ f=>f)
   have hsn:=bI V RV.zero i (by rw[HLN.out];exact hin)
   obtain⟨⟨rA,rq,rc,rO,u⟩,hu⟩:∃ r,V.getD i RV.zero=r:=⟨_,rfl⟩
   rw[hu] at a0 a1 hel hsn
   simp only at a0 a1
   have hst:aK ((V.take (i+1)).map RV.p)=eP O (rO,u):=by
    rw[hsn,qQb,HF.out]
    exact He _ _
   have HST:=aB hst
   have HGL:=aB hgl
   have hl:=hel.len
   have hrd:=hel.rd.rd
   simp only at hl hrd
   clear hu hsn hel hst hgl
   cases rO with
   | nil =>
    simp only[qQc] at hl
    subst hl
    clear hrd
    go_wp2_with fail
    refine wp_region_quiet_lit (by kernel_rfl) (by kernel_rfl) ?_
    quiet_step (fail)
    quiet_step (fail)
    quiet_step (fail)
    quiet_step (fail)
    quiet_step (fail)
    quiet_step (fail)
    quiet_step (fail)
    quiet_step (fail)
    rw[aN]
    rotate_left;· kernel_rfl
    go_simp
    rw[aN]
    rotate_left;· kernel_rfl
    go_simp
    rw[aN]
    rotate_left;· kernel_rfl
    go_simp
    rw[aN]
    rotate_left;· kernel_rfl
    go_simp
    rw[aN]
    rotate_left;· kernel_rfl
    go_simp
    rw[aN]
    rotate_left;· kernel_rfl
    go_simp
    rw[aN]
    rotate_left;· kernel_rfl
    go_simp
    rw[aN]
    rotate_left;· kernel_rfl
    go_simp
    rw[aN]
    rotate_left;· kernel_rfl
    go_simp
    rw[aN]
    rotate_left;· kernel_rfl
    go_simp
    rw[aN]
    rotate_left;· kernel_rfl
    go_simp
    rw[aN]
    rotate_left;· kernel_rfl
    go_simp
    rw[aN]
    rotate_left;· kernel_rfl
    go_simp
    rw[aN]
    rotate_left;· kernel_rfl
    go_simp
    rw[aN]
    rotate_left;· kernel_rfl
    go_simp
    rw[aN]
    rotate_left;· kernel_rfl
    go_simp
    rw[aN]
    rotate_left;· kernel_rfl
    go_simp
    rw[aN]
    rotate_left;· kernel_rfl
    go_simp
    rw[aN]
    rotate_left;· kernel_rfl
    go_simp
    quiet_step (fail)
    refine wpQuiet_nil ?_
    intro nq
    go_wp2_with fail
    go_roundw
    ·exact⟨i+1,k,A3,c3,O,rfl,by simp,by omega,by omega,aB ⟨HO.1.to ((aC.refl _ _).drewN _),HO.2⟩,aB (by rw[HST.out];rfl)⟩
    ·show n-(intOf (.int .i64 ((i:Int)+1))).toNat<n-(intOf (.int .i64 (i:Int))).toNat
     simp[intOf]
     omega
   | cons d t =>
    obtain⟨q,rfl⟩:∃ q,rq=q+1:=⟨t.length,by simpa using hl.symm⟩
    obtain⟨b,off,hA,hb,d0⟩:=kV hrd
    subst hA
    have HD0:=aB (And.intro d0 (And.intro a0 hb))
    have z0:(0:Int)<(q:Int)+1:=by omega
    clear hl hrd
    cases k with
    | zero =>
     have hO0:O=[]:=qZg HO.2
     subst hO0
     go_wp2_with fail
     refine wp_region_quiet_lit (by kernel_rfl) (by kernel_rfl) ?_
     quiet_step (fail)
     quiet_step (fail)
     quiet_step (fail)
     quiet_step (fail)
     quiet_step (fail)
     quiet_step (fail)
     quiet_step (fail)
     quiet_step (fail)
     quiet_step (fail)
     quiet_step (fail)
     quiet_step (fail)
     quiet_step (fail)
     rw[aN]
     rotate_left;· kernel_rfl
     go_simp
     rw[aN]
     rotate_left;· kernel_rfl
     go_simp
     rw[aN]
     rotate_left;· kernel_rfl
     go_simp
     rw[aN]
     rotate_left;· kernel_rfl
     go_simp
     rw[aN]
     rotate_left;· kernel_rfl
     go_simp
     rw[aN]
     rotate_left;· kernel_rfl
     go_simp
     rw[aN]
     rotate_left;· kernel_rfl
     go_simp
     rw[aN]
     rotate_left;· kernel_rfl
     go_simp
     rw[aN]
     rotate_left;· kernel_rfl
     go_simp
     rw[aN]
     rotate_left;· kernel_rfl
     go_simp
     rw[aN]
     rotate_left;· kernel_rfl
     go_simp
     rw[aN]
     rotate_left;· kernel_rfl
     go_simp
     rw[aN]
     rotate_left;· kernel_rfl
     go_simp
     rw[aN]
     rotate_left;· kernel_rfl
     go_simp
     quiet_step (fail)
     quiet_step (fail)
     refine wpQuiet_nil ?_
     intro nq
     obtain⟨wd,hwd⟩:=eX (wr.drewN nq)
     have hTd:aC (λ_=>False) wr wd:=by rw[hwd];exact (aC.refl _ _).drewN _
     have HO1:=aB (HO.1.to hTd)
     rw[<-hwd]
     have b0:=(hTd.cell (a:=⟨b,off,none⟩) HD0.2.2 (λf=>f)).trans HD0.1
     obtain⟨g',o',hA,_,c0,_⟩:=fS (HR.touch HO1.touch (λ_ _ f=>f)) HLN i hin
     injection hA with hA
     injection hA with hA1 hA2
     subst hA1 hA2
     have e0:wd.cell? ⟨g,o+i*2,none⟩=some (.slice (some ⟨b,off,none⟩) (q+1) rc):=by
      rw[<-HD0.2.1]
      exact hTd.cell (a:=⟨g,o+i*2,none⟩) HGL (λf=>f)
     clear hwd hTd c0
     go_wp2_with (at_builtin;refine aR _ rfl (.tmp 39) (.tmp 47) 154 rfl 21 i0 _ 1 4 Tryz.underlying154 hi hz0 hz1 hz2 rfl (by decide) (.slice A3 0 c3) (0) _ rfl (aD HO1.own ((aC.refl _ _).alloc _) (λ_ _ f=>f)) (some ⟨_,0,none⟩) 1 1 [eV d] rfl ?sa10 ?sb10 ?sc10 ?sd10 ?se10 ?_)
     case sa10=>exact aI.new _ _ _ _ rfl
     try (case sb10=>exact λh=>by cases h)
     case sc10=>first | exact qE [d] | rfl
     case sd10=>unfold maxLen;omega
     try (case se10=>omega)
     intro v4 w4 hown hgrow hfr _
     have N4:=(HO1.to ((aC.refl _ _).alloc _)).app (m:=1) (ys:=[eV d]) hown hgrow hfr
     obtain⟨A4,c4,rfl,_,_⟩:=aX hown
     have HN4:=aB N4
     clear N4 hown hgrow hfr
     go_wp2_with fail
     go_roundw
     ·refine⟨i+1,0+1,A4,c4,[]++[d],rfl,by simp,by omega,by omega,aB ⟨?_,?_⟩,aB ?_⟩
      ·rw[qQb]
       exact HN4
      ·rw[qXb,HO.2];rfl
      ·rw[HST.out]
       unfold eP
       simp only
       rw[if_neg (by simp)]
     ·show n-(intOf (.int .i64 ((i:Int)+1))).toNat<n-(intOf (.int .i64 (i:Int))).toNat
      simp[intOf]
      omega
    | succ m =>
     obtain⟨g3,cap3,hv3,_,_,hg3,hc3,_⟩:=iM HO.1.own (by omega)
     injection hv3 with hv3 _ hv5
     subst hv3 hv5
     have hlast:O.getLast? = some (O.getD m 0):=by
      rw[List.getLast?_eq_getElem?,HO.2,Nat.add_sub_cancel,qQh]
      rw[qJe (by rw[HO.2];omega)]
      rfl
     obtain⟨e,he⟩:∃ e,O.getD m 0=e:=⟨_,rfl⟩
     have c3m:wr.cell? ⟨g3,m,none⟩=some (.int .i32 (e:Int)):=by
      refine hc3 m _ ?_
      rw[List.getElem?_map,qJe (by rw[HO.2];omega)]
      rw[qQh,qJe (by rw[HO.2];omega)] at he
      simp only[Option.getD_some] at he
      rw[he]
      rfl
     rw[he] at hlast
     have HLAST:=aB hlast
     clear hc3 hlast he
     have z1:(0:Int)<=(m:Int):=by omega
     have z2:(m:Int)<(m:Int)+1:=by omega
     have z3:¬ (m:Int)+1=0:=by omega
     have z4:((m:Int)+1 == 0)=false:=by simp[z3]
     have z5:IntKind.i64.wrap ((m:Int)+1-1)=(m:Int):=qJd _ (by omega) |>.trans (by omega)
     have z6:IntKind.i64.wrap (m:Int)=(m:Int):=qJd _ (by omega)
     by_cases hd:e=d
     ·have w1:((e:Int) != (d:Int))=false:=by simp[hd]
      have HDD:=aB hd
      go_wp2_with fail
      go_quiet (fail)
      go_wp2_with fail
      go_roundw
      ·exact⟨i+1,m+1,some ⟨g3,0,none⟩,c3,O,rfl,by simp,by omega,by omega,aB ⟨HO.1.to ((aC.refl _ _).drewN _),HO.2⟩,aB (by rw[HST.out];unfold eP;simp only;rw[if_pos (by rw[HLAST.out,HDD.out])])⟩
      ·show n-(intOf (.int .i64 ((i:Int)+1))).toNat<n-(intOf (.int .i64 (i:Int))).toNat
       simp[intOf]
       omega
     ·have w1:((e:Int) != (d:Int))=true:=by simp;omega
      have HDD:=aB hd
      go_wp2_with fail
      go_quiet (fail)
      obtain⟨wd,hwd⟩:=eX (wr.drewN nq)
      have hTd:aC (λ_=>False) wr wd:=by rw[hwd];exact (aC.refl _ _).drewN _
      have HO1:=aB (HO.1.to hTd)
      rw[<-hwd]
      have b0:=(hTd.cell (a:=⟨b,off,none⟩) HD0.2.2 (λf=>f)).trans HD0.1
      obtain⟨g',o',hA,_,c0,_⟩:=fS (HR.touch HO1.touch (λ_ _ f=>f)) HLN i hin
      injection hA with hA
      injection hA with hA1 hA2
      subst hA1 hA2
      have e0:wd.cell? ⟨g,o+i*2,none⟩=some (.slice (some ⟨b,off,none⟩) (q+1) rc):=by
       rw[<-HD0.2.1]
       exact hTd.cell (a:=⟨g,o+i*2,none⟩) HGL (λf=>f)
      clear hwd hTd c0
      go_wp2_with (at_builtin;refine aR _ rfl (.tmp 39) (.tmp 47) 154 rfl 21 i0 _ 1 4 Tryz.underlying154 hi hz0 hz1 hz2 rfl (by decide) (.slice (some ⟨g3,0,none⟩) (m+1) c3) (m+1) _ rfl (aD HO1.own ((aC.refl _ _).alloc _) (λ_ _ f=>f)) (some ⟨_,0,none⟩) 1 1 [eV d] rfl ?sa12 ?sb12 ?sc12 ?sd12 ?se12 ?_)
      case sa12=>exact aI.new _ _ _ _ rfl
      try (case sb12=>exact λh=>by cases h)
      case sc12=>first | exact qE [d] | rfl
      case sd12=>unfold maxLen;omega
      try (case se12=>omega)
      intro v4 w4 hown hgrow hfr _
      have N4:=(HO1.to ((aC.refl _ _).alloc _)).app (m:=1) (ys:=[eV d]) hown hgrow hfr
      obtain⟨A4,c4,rfl,_,_⟩:=aX hown
      have HN4:=aB N4
      clear N4 hown hgrow hfr
      go_wp2_with fail
      go_roundw
      ·refine⟨i+1,m+1+1,A4,c4,O++[d],rfl,by simp,by omega,by omega,aB ⟨?_,?_⟩,aB ?_⟩
       ·rw[qQb]
        exact HN4
       ·rw[qXb,HO.2];rfl
       ·rw[HST.out]
        unfold eP
        simp only
        rw[if_neg (by rw[HLAST.out];intro e;injection e with e;exact HDD.out e)]
      ·show n-(intOf (.int .i64 ((i:Int)+1))).toNat<n-(intOf (.int .i64 (i:Int))).toNat
       simp[intOf]
       omega
  ·have ht:V.take i=V:=qZb (by rw[HLN.out];omega)
   have hF:=HF.out
   rw[ht] at hF
   have HFF:=aB hF
   have y1:¬ (i:Int)<(n:Int):=by omega
   clear hF ht
   go_wp2_with fail
   go_ret
   have hF:=HFF.out
   have hO:=HO.out
   rw[hF] at hO
   exact⟨A3,k,c3,rfl,hO.1,hO.2,by omega⟩
theorem xT(w:World)(A:Option Addr)(q c:Nat)(l:List UInt8)(h:aI w 1 A q (l.map aP)) :
  (convert 50 9 (.slice A q c)).run Tryz.prog w=.ok (.string ⟨l.toArray⟩) w:=by
 have hl:l.length=q:=by have:=h.1;simpa using this
 cases A with
 | none =>
  have h0:q=0:=by
   rcases Nat.eq_zero_or_pos q with e | e
   ·exact e
   ·obtain⟨b,off,hA,_⟩:=h.2 e
    cases hA
  subst h0
  obtain rfl:=qZg hl
  exact run_convert_bytes_nil _ _ _ Tryz.underlying50 Tryz.underlying5 0 c _ Tryz.underlying9
 | some ad =>
  subst hl
  rcases Nat.eq_zero_or_pos l.length with e | e
  ·refine run_convert_bytes_back _ _ _ _ _ _ l Tryz.underlying50 Tryz.underlying5 Tryz.underlying9 λj hj=>?_
   rw[e] at hj
   exact absurd hj (Nat.not_lt_zero _)
  ·obtain⟨b,off,hA,_,hc⟩:=h.2 e
   obtain rfl:ad=⟨b,off,none⟩:=Option.some.inj hA
   refine run_convert_bytes_back _ _ _ _ _ _ l Tryz.underlying50 Tryz.underlying5 Tryz.underlying9 λj hj=>?_
   rw[Addr.add_lit]
   exact hc j _ (by simp[hj,aP])
theorem iH(r:Nat):1<=(aM r).length/\(aM r).length<=4:=by
 unfold aM
 split
 ·simp
 ·split
  ·simp
  ·split
   ·simp
   ·simp
theorem Ak(w:World)(hL:dN w)(A:Option Addr)(n c:Nat)(O:List Nat)(hR:aI w 1 A n (O.map eV))(hO:O.length=n)(hn:n<=4294967296)(hs:∀ r∈O,dS r=true) :
  Calls Tryz.prog 93 #[.slice A n c] w λe w'=>e=.returned (.tuple #[.string ⟨(O.flatMap aM).toArray⟩,.bool true])/\aC (λ_=>False) w w':=by
 have HL:=aB hL
 have HR:=aB hR
 have HS:=aB hs
 have HO:=aB hO
 have hnm:n<=maxLen:=by unfold maxLen;omega
 clear hL hR hs hO
 go_in
 go_wp2
 go_loopw [4,9] (λbv iv wr=>∃ (i q:Nat) (A3:Option Addr) (c3:Nat),iv=.int .i64 i/\bv=.slice A3 q c3/\i<=n/\q<=4*i/\Hid (eB 5 1 w wr (.slice A3 q c3) q (((O.take i).flatMap aM).map aP)) ) (λ_ iv _=>n-(intOf iv).toNat)
 case atStart=>exact⟨0,0,none,0,rfl,rfl,by omega,by omega,aB (eB.nil _ _ _)⟩
 case round =>
  obtain⟨i,q,A3,c3,rfl,rfl,hi,hq,HB⟩:=hrel
  by_cases hin:i<n
  ·have y1:(i:Int)<(n:Int):=by omega
   have y2:(0:Int)<=(i:Int):=by omega
   have z2:IntKind.i64.wrap ((i:Int)+1)=(i:Int)+1:=qJd _ (by omega)
   obtain⟨g,o,hA,c0⟩:=lU (HR.touch HB.touch (λ_ _ f=>f)) HO i hin
   subst hA
   have hsc:=HS.out _ (aZ O 0 i (by rw[HO.out];exact hin))
   have htk:=bI O 0 i (by rw[HO.out];exact hin)
   obtain⟨r,hr⟩:∃ r,O.getD i 0=r:=⟨_,rfl⟩
   rw[hr] at c0 hsc htk
   have HSC:=aB hsc
   have HTK:=aB htk
   have HW:=aB (Yw wr (.slice A3 q c3) q _ HB.own (HL.touch HB.touch) (by omega) r (cU hsc))
   have hsc2:(dS r)=true:=hsc
   clear hr hsc htk
   go_wp2_with (first
    | (go_at_call 147;refine (fY r _).mono ?_;rintro e w2 ⟨rfl,rfl⟩;rw[hsc2])
    | (go_at_call 148;refine HW.mono ?_;rintro e w3 ⟨v',rfl,hown,hgr,hfr⟩))
   obtain⟨A4,c4,rfl,_,_⟩:=aX hown
   have HN4:=aB (HB.app hown hgr hfr)
   clear hown hgr hfr
   go_wp2_with fail
   go_roundw
   ·refine⟨i+1,q+(aM r).length,A4,c4,by simp,rfl,by omega,?_,aB ?_⟩
    ·have:=iH r;omega
    ·rw[HTK.out,qQe,qQb]
     have:=HN4.out
     simpa using this
   ·simp only[intOf];omega
  ·have hie:i=n:=by omega
   subst hie
   have hb:=HB.out
   rw[qZb (by rw[HO.out];exact qXd _)] at hb
   have kc:=xT wr A3 q c3 _ (aI.of_own hb.own)
   have HT:=aB hb.touch
   clear hb
   go_wp2_with fail
   exact bodyPost_ret (v:=.tuple #[.string ⟨(O.flatMap aM).toArray⟩,.bool true]) (by simp[results,Tryz.results93,go_sem]) rfl ⟨rfl,HT⟩
theorem qY{r:Nat}(hr:r<1114112):cO (aM r).length (aM r)=r:=by
 unfold aM
 split
 ·simp only[cO,qJb,qQc,UInt8.toNat_ofNat']
  omega
 ·split
  ·simp only[cO,qJb,qQc,UInt8.toNat_ofNat']
   omega
  ·split
   ·simp only[cO,qJb,qQc,UInt8.toNat_ofNat']
    omega
   ·simp only[cO,qJb,qQc,UInt8.toNat_ofNat']
    omega
theorem vL{r:Nat}(hs:dS r=true):cQ (aM r)=some [r]:=by
 have hl:=iH r
 have hit:fB (aM r)=(r,(aM r).length):=by
  have:=sU (n:=(aM r).length) (bs:=aM r) hl.1 hl.2 (qXd _) ⟨by rw[qY (cU hs)];exact hs,by rw[qY (cU hs),List.take_length]⟩
  rw[qY (cU hs)] at this
  exact this
 rw[jM hl.1,hit]
 simp only
 rw[if_neg (by omega),List.drop_length,jE]
 rfl
theorem Nn{r:Nat}(hs:dS r=true)(hf:iY r=true):cD (aM r)=true:=by
 have hl:=iH r
 unfold cD
 rw[vL hs]
 simp only[List.all_cons,List.all_nil,Bool.and_true,hf,qJb,qQc,Bool.and_eq_true,decide_eq_true_eq]
 exact⟨by omega,trivial,by omega,by omega⟩
structure uR(R:Rs):Prop where
 len:R.length<=4096
 run:∀ r∈R,∀ c∈r.1,dS c=true/\iY c=true
 dep:∀ r∈R,r.1.length<=24
 wt:∀ r∈R,0<=r.2/\r.2<=1048576
theorem Cr(R:Rs):(aJ R).length=R.length:=by simp[aJ]
theorem uR.level(h:uR R):uR (aJ R):=by
 have key:∀ r∈aJ R,(r.1,r.2+aW R)∈R:=λr hr=>cV.1 (show (r.1,r.2)∈aJ R from hr)
 refine⟨by rw[Cr];exact h.len,λr hr=>h.run (r.1,r.2+aW R) (key r hr),λr hr=>h.dep (r.1,r.2+aW R) (key r hr),λr hr=>?_⟩
 have h1:=h.wt _ (key r hr)
 have h2:=dG (key r hr)
 have hne:R≠[]:=List.ne_nil_of_mem (key r hr)
 obtain⟨s,hs,e⟩:=cL hne
 have h3:=h.wt _ hs
 simp only at h1 h2
 omega
theorem uR.under(h:uR R)(c:Nat):uR (aG R c):=by
 have key:∀ r∈aG R c,(c :: r.1,r.2)∈R:=λr hr=>bY.1 (show (r.1,r.2)∈aG R c from hr)
 refine⟨qJa (List.length_filterMap_le _ _) h.len,λr hr d hd=>h.run _ (key r hr) d (qJc _ hd),λr hr=>?_,λr hr=>h.wt (c :: r.1,r.2) (key r hr)⟩
 have:=h.dep _ (key r hr)
 simp only[qJb] at this
 omega
theorem Gl{st:iJ->Rs->iJ × Nat}(hst:∀ k l,(∀ X∈k.rests,uR X)->uR l->∀ X∈(st k l).1.rests,uR X)(hR:uR R):∀ (cs:List Nat) (k:iJ),(∀ X∈k.rests,uR X)->∀ X∈(cJ st R k cs).1.rests,uR X
 | [],_,hk=>hk
 | c :: cs,k,hk=>by
  simp only[cJ]
  exact Gl hst hR cs _ (hst _ _ hk (hR.under c))
theorem rB:∀ f k l,(∀ X∈k.rests,uR X)->uR l->∀ X∈(aY f k l).1.rests,uR X
 | 0,_,_,hk,_=>hk
 | f+1,k,l,hk,hl=>by
  simp only[aY]
  split
  ·exact hk
  ·intro X hX
   simp only[qXc,qZd] at hX
   rcases hX with h | h
   ·exact Gl (rB f) hl.level _ _ hk X h
   ·rw[h];exact hl.level
theorem yM{L:List aE}(h:cA L):uR (aT L):=by
 refine⟨by simpa [aT] using h.len,?_,?_,?_⟩
 ·intro r hr c hc
  obtain⟨p,hp,rfl⟩:=List.mem_map.1 hr
  obtain⟨h1,h2,_,_⟩:=h.word p hp
  exact⟨(cK _ _ _ (qXd _) h1).2 c hc,List.all_eq_true.1 h2 c hc⟩
 ·intro r hr
  obtain⟨p,hp,rfl⟩:=List.mem_map.1 hr
  exact (h.word p hp).2.2.2
 ·intro r hr
  obtain⟨p,hp,rfl⟩:=List.mem_map.1 hr
  have:=h.weight p hp
  exact⟨by simp only;omega,this.2⟩
def Wg(z:bP):Int:=z.arcs.foldl (λm a=>min m a.2.1) (if z.fin=true then z.out else 1048577)
structure dQ(i:Nat)(z:bP):Prop where
 out0:0<=z.out
 out1:z.out<=1048576
 fin0:z.fin=false->z.out=0
 lab:(z.arcs.map (·.1)).Pairwise (·<·)
 run:∀ a∈z.arcs,dS a.1=true/\iY a.1=true
 arc:∀ a∈z.arcs,0<=a.2.1/\a.2.1<=1048576/\a.2.2<i
 low:Wg z=0
theorem Vh(l:List (Nat × Int × Nat)):∀ m:Int,l.foldl (λm a=>min m a.2.1) m<=m/\(∀ a∈l,l.foldl (λm a=>min m a.2.1) m<=a.2.1)/\(0<=m->(∀ a∈l,0<=a.2.1)->0<=l.foldl (λm a=>min m a.2.1) m):=by
 induction l with
 | nil=>intro m;exact⟨Int.le_refl _,λa h=>(by cases h),λh _=>h⟩
 | cons b l ih =>
  intro m
  obtain⟨h1,h2,h3⟩:=ih (min m b.2.1)
  simp only[qZc]
  refine⟨Int.le_trans h1 (Int.min_le_left _ _),λa ha=>?_,λh0 hl=>h3 ?_ λa ha=>hl a (qJc _ ha)⟩
  ·rcases List.mem_cons.1 ha with e | e
   ·rw[e];exact Int.le_trans h1 (Int.min_le_right _ _)
   ·exact h2 a e
  ·have:=hl b qQd
   omega
theorem xD{rests:List Rs}(h:vQ rests i R z)(hh:uR R){a:Nat × Int × Nat}(ha:a∈z.arcs):0<=a.2.1/\a.2.1<=1048576/\aG R a.1≠[]:=by
 have hc:a.1∈aK R:=by rw[<-h.labels];exact List.mem_map.2 ⟨a,ha,rfl⟩
 have hne:=bD.1 hc
 obtain⟨s,hs,e⟩:=cL hne
 have:=(hh.under a.1).wt s hs
 rw[e,<-(h.arc a ha).1] at this
 exact⟨this.1,this.2,hne⟩
theorem tI{rests:List Rs}(h:vQ rests i R z)(hh:uR R):dQ i z:=by
 have hout:0<=z.out/\z.out<=1048576/\(z.fin=false->z.out=0):=by
  rw[h.out,h.fin]
  cases hf:eI R with
  | false=>rw[tR h.sort hf];exact⟨by omega,by omega,λ_=>rfl⟩
  | true =>
   obtain⟨n,hn⟩:=eD.1 hf
   rw[fX h.sort hn]
   have:=hh.wt _ hn
   exact⟨this.1,this.2,λe=>by cases e⟩
 have harc:∀ a∈z.arcs,0<=a.2.1/\a.2.1<=1048576/\a.2.2<i:=λa ha=>⟨(xD h hh ha).1,(xD h hh ha).2.1,(h.arc a ha).2.1⟩
 refine⟨hout.1,hout.2.1,hout.2.2,by rw[h.labels];exact cM h.sort,?_,harc,?_⟩
 ·intro a ha
  have hc:a.1∈aK R:=by rw[<-h.labels];exact List.mem_map.2 ⟨a,ha,rfl⟩
  obtain⟨⟨t,n⟩,hr⟩:=List.exists_mem_of_ne_nil _ (bD.1 hc)
  exact hh.run _ (bY.1 hr) a.1 qQd
 ·unfold Wg
  obtain⟨h1,h2,h3⟩:=Vh z.arcs (if z.fin=true then z.out else 1048577)
  have h0:=h3 (by split<;>omega) λa ha=>(harc a ha).1
  obtain⟨⟨x,n⟩,hr,e⟩:=cL h.ne
  rw[h.least] at e
  simp only at e
  subst e
  cases x with
  | nil =>
   obtain⟨g1,g2⟩:=(wJ h.sort).1 hr
   rw[<-h.fin] at g1
   rw[<-h.out] at g2
   rw[if_pos g1,g2] at h1 h0 ⊢
   omega
  | cons c t =>
   have hc:c∈aK R:=bD.2 (List.ne_nil_of_mem (bY.2 hr))
   rw[<-h.labels] at hc
   obtain⟨a,ha,rfl⟩:=List.mem_map.1 hc
   have g1:=dG (bY.2 hr)
   rw[<-(h.arc a ha).1] at g1
   simp only at g1
   have g2:=h2 a ha
   omega
abbrev S3:=Int × Int × Int
def z3:S3:=(0,0,0)
def dE(U:List S3)(x:S3)(a:Nat × Int × Nat):S3:=(x.1+(U.getD a.2.2 z3).1,max x.2.1 ((U.getD a.2.2 z3).2.1+1),max x.2.2 (a.2.1+(U.getD a.2.2 z3).2.2))
def cN(U:List S3)(z:bP)(j:Nat):S3:=(z.arcs.take j).foldl (dE U) (if z.fin=true then 1 else 0,0,z.out)
structure Uj(R:Rs)(u:S3):Prop where
 words:u.1=R.length
 deep0:0<=u.2.1
 deep1:u.2.1<=fF R
 wt0:0<=u.2.2
 wt1:∀ W:Int,(∀ r∈R,r.2<=W)->u.2.2<=W
theorem yH(U:List S3)(R:Rs):∀ (l:List (Nat × Int × Nat)) (x:S3),(∀ a∈l,(U.getD a.2.2 z3).1=((aG R a.1).length:Int))->(l.foldl (dE U) x).1=x.1+(((l.map (·.1)).map λc=>(aG R c).length).sum:Nat)
 | [],x,_=>by simp
 | a :: l,x,h=>by
  rw[qZc,yH U R l _ λb hb=>h b (qJc _ hb)]
  simp only[dE,List.map_cons,List.sum_cons]
  rw[h a qQd]
  omega
theorem Cg(U:List S3)(D:Int):∀ (l:List (Nat × Int × Nat)) (x:S3),0<=x.2.1->x.2.1<=D->(∀ a∈l,(U.getD a.2.2 z3).2.1+1<=D)->0<=(l.foldl (dE U) x).2.1/\(l.foldl (dE U) x).2.1<=D
 | [],x,h0,h1,_=>⟨h0,h1⟩
 | a :: l,x,h0,h1,h=>by
  rw[qZc]
  have:=h a qQd
  refine Cg U D l _ ?_ ?_ λb hb=>h b (qJc _ hb)
  ·simp only[dE];omega
  ·simp only[dE];omega
theorem Oe(U:List S3)(W:Int):∀ (l:List (Nat × Int × Nat)) (x:S3),0<=x.2.2->x.2.2<=W->(∀ a∈l,a.2.1+(U.getD a.2.2 z3).2.2<=W)->0<=(l.foldl (dE U) x).2.2/\(l.foldl (dE U) x).2.2<=W
 | [],x,h0,h1,_=>⟨h0,h1⟩
 | a :: l,x,h0,h1,h=>by
  rw[qZc]
  have:=h a qQd
  refine Oe U W l _ ?_ ?_ λb hb=>h b (qJc _ hb)
  ·simp only[dE];omega
  ·simp only[dE];omega
theorem Yj(f:Nat->Nat)(l:List Nat)(j:Nat):((l.take j).map f).sum<=(l.map f).sum:=by
 conv=>rhs;rw[<-List.take_append_drop j l]
 rw[qQb,List.sum_append]
 omega
def Uk(k:iJ)(U:List S3)(i:Nat):Prop:=∀ j,j<i->∀ R,k.rests[j]? = some R->Uj R (U.getD j z3)
theorem Ai{k:iJ}{U:List S3}(hU:Uk k U i)(h:vQ k.rests i R z)(hh:uR R)(hd:fF R<=24)(j:Nat) :
  (0<=(cN U z j).1/\(cN U z j).1<=4096)/\(0<=(cN U z j).2.1/\(cN U z j).2.1<=fF R)/\(0<=(cN U z j).2.2/\∀ W:Int,(∀ r∈R,r.2<=W)->(cN U z j).2.2<=W)/\(z.arcs.length<=j->Uj R (cN U z j)) /\
  (∀ a∈z.arcs,0<=(U.getD a.2.2 z3).1/\(U.getD a.2.2 z3).1<=4096/\0<=(U.getD a.2.2 z3).2.1/\(U.getD a.2.2 z3).2.1<=24/\0<=(U.getD a.2.2 z3).2.2/\(U.getD a.2.2 z3).2.2<=1048576):=by
 have hfm:=tI h hh
 have hsub:∀ a∈z.arcs,Uj (aJ (aG R a.1)) (U.getD a.2.2 z3):=λa ha=>hU a.2.2 (h.arc a ha).2.1 _ (h.arc a ha).2.2
 have hw:∀ a∈z.arcs,(U.getD a.2.2 z3).1=((aG R a.1).length:Int):=λa ha=>by rw[(hsub a ha).words,Cr]
 have hdp:∀ a∈z.arcs,(U.getD a.2.2 z3).2.1+1<=fF R:=λa ha=>by
  have h1:=(hsub a ha).deep1
  rw[eH] at h1
  have h2:=eW (xD h hh ha).2.2
  omega
 have hwt:∀ W:Int,(∀ r∈R,r.2<=W)->∀ a∈z.arcs,a.2.1+(U.getD a.2.2 z3).2.2<=W:=λW hW a ha=>by
  have h1:=(hsub a ha).wt1 (W-a.2.1) λr hr=>by
   have h2:=cV.1 (show (r.1,r.2)∈aJ (aG R a.1) from hr)
   have h3:=hW _ (bY.1 h2)
   rw[(h.arc a ha).1]
   simp only at h3
   omega
  omega
 have hfin:∀ W:Int,(∀ r∈R,r.2<=W)->z.out<=W:=λW hW=>by
  cases hf:z.fin with
  | false =>
   rw[hfm.fin0 hf]
   obtain⟨r,hr,e⟩:=cL h.ne
   have h1:=hW r hr
   rw[h.least] at e
   omega
  | true =>
   rw[h.fin] at hf
   obtain⟨n,hn⟩:=eD.1 hf
   rw[h.out,fX h.sort hn]
   exact hW _ hn
 have hone:(if z.fin=true then (1:Int) else 0)=((if eI R=true then 1 else 0:Nat):Int):=by
  rw[h.fin];split<;>rfl
 have hlen:=Km h.sort
 have hwords:∀ j,(cN U z j).1=((if eI R=true then 1 else 0:Nat):Int)+((((aK R).take j).map λc=>(aG R c).length).sum:Nat):=λj=>by
  unfold cN
  rw[yH U R _ _ λa ha=>hw a (List.mem_of_mem_take ha)]
  simp only
  rw[hone,qQf,h.labels]
 have h1:∀ a∈z.arcs.take j,a∈z.arcs:=λa ha=>List.mem_of_mem_take ha
 have hdj:=Cg U (fF R) (z.arcs.take j) (if z.fin=true then 1 else 0,0,z.out) (Int.le_refl _) (by simp only;omega) λa ha=>hdp a (h1 a ha)
 have hwj:∀ W:Int,(∀ r∈R,r.2<=W)->0<=(cN U z j).2.2/\(cN U z j).2.2<=W:=λW hW=>Oe U W (z.arcs.take j) (if z.fin=true then 1 else 0,0,z.out) hfm.out0 (hfin W hW) λa ha=>hwt W hW a (h1 a ha)
 have hW0:=hwj 1048576 λr hr=>(hh.wt r hr).2
 have hst:=Yj (λc=>(aG R c).length) (aK R) j
 have hl:=hh.len
 refine⟨?_,hdj,⟨hW0.1,λW hW=>(hwj W hW).2⟩,λhj=>⟨?_,hdj.1,hdj.2,hW0.1,λW hW=>(hwj W hW).2⟩,λa ha=>?_⟩
 ·rw[hwords j]
  omega
 ·rw[hwords j,qZb (by rw[<-h.labels,qQa];exact hj)]
  omega
 ·have h2:=hsub a ha
  have h3:=hw a ha
  have h4:=(hh.under a.1).len
  have h5:=hdp a ha
  have h6:=h2.wt1 1048576 λr hr=>((hh.under a.1).level.wt r hr).2
  refine⟨by omega,by omega,h2.deep0,by omega,h2.wt0,h6⟩
theorem uH(U:List S3)(z:bP):cN U z 0=(if z.fin=true then 1 else 0,0,z.out):=by simp[cN]
theorem pQ(U:List S3)(z:bP)(j:Nat)(hj:j<z.arcs.length):cN U z (j+1)=dE U (cN U z j) (z.arcs.getD j (0,0,0)):=by
 unfold cN
 rw[qJi hj,qZe]
 simp[qZa,hj]
theorem yC{l m:List α}(d:α)(hl:l.length=m.length)(h:∀ j,j<l.length->l.getD j d=m.getD j d):l=m:=by
 apply List.ext_getElem hl
 intro i h1 h2
 have:=h i h1
 simpa [qZa,h1,h2] using this
theorem Bf(w:World)(A:Option Addr)(q c:Nat)(O:List Nat)(B:Option Addr)(r e:Nat)(U:List Nat)(hA:aI w 1 A q (O.map eV))(hO:O.length=q)(hB:aI w 1 B r (U.map eV))(hU:U.length=r)(hq:q<=maxLen)(v:Bool)(hv:decide (O=U)=v) :
  Calls Tryz.prog 190 #[.slice A q c,.slice B r e] w λx w'=>x=.returned (.bool v)/\aC (λ_=>False) w w':=by
 have HA:=aB hA
 have HO:=aB hO
 have HB:=aB hB
 have HU:=aB hU
 clear hA hO hB hU
 unfold maxLen at hq
 by_cases hqr:q=r
 ·subst hqr
  have HV:=aB hv
  clear hv
  go_in
  go_wp2_with fail
  go_loopw [5] (λiv wr=>∃ (i:Nat),iv=.int .i64 i/\i<=q/\Hid (∀ j,j<i->O.getD j 0=U.getD j 0)/\Hid (aC (λ_=>False) w wr)) (λiv _=>q-(intOf iv).toNat)
  case atStart=>exact⟨0,rfl,by omega,aB (λj hj=>by omega),aB (aC.refl _ _)⟩
  case round =>
   obtain⟨i,rfl,hi,HE,HT⟩:=hrel
   by_cases hin:i<q
   ·have y1:(i:Int)<(q:Int):=by omega
    have y2:(0:Int)<=(i:Int):=by omega
    obtain⟨g,o,hA,a0⟩:=lU (HA.touch HT (λ_ _ f=>f)) HO i hin
    subst hA
    obtain⟨g',o',hB,b0⟩:=lU (HB.touch HT (λ_ _ f=>f)) HU i hin
    subst hB
    obtain⟨x,hx⟩:∃ x,O.getD i 0=x:=⟨_,rfl⟩
    obtain⟨y,hy⟩:∃ y,U.getD i 0=y:=⟨_,rfl⟩
    rw[hx] at a0
    rw[hy] at b0
    have HX:=aB (And.intro hx hy)
    clear hx hy
    by_cases hxy:x=y
    ·have w1:((x:Int) != (y:Int))=false:=by simp[hxy]
     have HXY:=aB hxy
     go_wp2_with fail
     go_quiet (fail)
     go_wp2_with fail
     go_roundw
     ·exact⟨i+1,by simp,by omega,aB (λj hj=>by
       by_cases hj2:j=i
       ·subst hj2;rw[HX.1,HX.2,HXY.out]
       ·exact HE j (by omega)),aB (HT.drewN _)⟩
     ·show q-(intOf (.int .i64 ((i:Int)+1))).toNat<q-(intOf (.int .i64 (i:Int))).toNat
      simp[intOf]
      omega
    ·have w1:((x:Int) != (y:Int))=true:=by simp;omega
     have hne:O≠U:=λe=>hxy (by rw[<-HX.1,<-HX.2,e])
     have hvv:v=false:=by rw[<-HV.out];exact decide_eq_false hne
     subst hvv
     clear hne
     go_wp2_with fail
     go_quiet (fail)
     go_wp2_with fail
     go_ret
     exact⟨rfl,HT.drewN _⟩
   ·have hall:O=U:=yC 0 (by rw[HO.out,HU.out]) λj hj=>HE.out j (by rw[HO.out] at hj;omega)
    have hvv:v=true:=by rw[<-HV.out];exact decide_eq_true hall
    have y1:¬ (i:Int)<(q:Int):=by omega
    subst hvv
    clear hall
    go_wp2_with fail
    go_ret
    exact⟨rfl,HT⟩
 ·have w1:((q:Int) != (r:Int))=true:=by simp;omega
  have hne:O≠U:=λe=>hqr (by rw[<-HO.out,<-HU.out,e])
  have hvv:v=false:=by rw[<-hv];exact decide_eq_false hne
  subst hvv
  clear hv hne
  go_in
  go_wp2_with fail
  go_ret
  exact⟨rfl,aC.refl _ _⟩
theorem Xq(w:World)(s t:RL)(hs:s.Ok w)(ht:t.Ok w)(hm:s.n<=maxLen)(v:Bool)(hv:decide (s.p=t.p)=v) :
  Calls Tryz.prog 184 #[s.val,t.val] w λx w'=>x=.returned (.bool v)/\aC (λ_=>False) w w':=by
 obtain⟨A,q,c,V⟩:=s
 obtain⟨B,r,e,U⟩:=t
 have HA:=aB hs.rd.rd
 have HO:=aB hs.len
 have HB:=aB ht.rd.rd
 have HU:=aB ht.len
 have HEA:=aB hs.el
 have HEB:=aB ht.el
 simp only[RL.val]
 simp only[RL.p] at hv
 simp only at HA HO HB HU HEA HEB hm
 clear hs ht
 unfold maxLen at hm
 by_cases hqr:q=r
 ·subst hqr
  have HV:=aB hv
  clear hv
  go_in
  go_wp2_with fail
  go_loopw [5] (λiv wr=>∃ (i:Nat),iv=.int .i64 i/\i<=q/\Hid (∀ j,j<i->(V.map RV.p).getD j RV.zero.p=(U.map RV.p).getD j RV.zero.p)/\Hid (aC (λ_=>False) w wr)) (λiv _=>q-(intOf iv).toNat)
  case atStart=>exact⟨0,rfl,by omega,aB (λj hj=>by omega),aB (aC.refl _ _)⟩
  case round =>
   obtain⟨i,rfl,hi,HE,HT⟩:=hrel
   by_cases hin:i<q
   ·have y1:(i:Int)<(q:Int):=by omega
    have y2:(0:Int)<=(i:Int):=by omega
    have gA:∀ w',aC (λ_=>False) w w'->∃ g off,A=some ⟨g,off,none⟩/\g<w'.heap.size/\w'.cell? ⟨g,off+i*2,none⟩=some (.slice (V.getD i RV.zero).A (V.getD i RV.zero).q (V.getD i RV.zero).c)/\w'.cell? ⟨g,off+i*2+1,none⟩=some (.int .i64 (V.getD i RV.zero).wt):=λw' T=>fS (HA.touch T (λ_ _ f=>f)) HO i hin
    have gB:∀ w',aC (λ_=>False) w w'->∃ g off,B=some ⟨g,off,none⟩/\g<w'.heap.size/\w'.cell? ⟨g,off+i*2,none⟩=some (.slice (U.getD i RV.zero).A (U.getD i RV.zero).q (U.getD i RV.zero).c)/\w'.cell? ⟨g,off+i*2+1,none⟩=some (.int .i64 (U.getD i RV.zero).wt):=λw' T=>fS (HB.touch T (λ_ _ f=>f)) HU i hin
    have ea:=(HEA _ (aZ V RV.zero i (by rw[HO.out];exact hin))).touch HT (λ_ _ f=>f)
    have eb:=(HEB _ (aZ U RV.zero i (by rw[HU.out];exact hin))).touch HT (λ_ _ f=>f)
    have pa:(V.map RV.p).getD i RV.zero.p=(V.getD i RV.zero).p:=by simp[qZa,show i<V.length by rw[HO.out];exact hin]
    have pb:(U.map RV.p).getD i RV.zero.p=(U.getD i RV.zero).p:=by simp[qZa,show i<U.length by rw[HU.out];exact hin]
    obtain⟨⟨xA,xq,xc,xO,xw⟩,hx⟩:∃ r,V.getD i RV.zero=r:=⟨_,rfl⟩
    obtain⟨⟨zA,zq,zc,zO,zw⟩,hz⟩:∃ r,U.getD i RV.zero=r:=⟨_,rfl⟩
    rw[hx] at gA ea pa
    rw[hz] at gB eb pb
    simp only[RV.p] at gA ea pa gB eb pb
    have HPA:=aB pa
    have HPB:=aB pb
    have HGA:=aB gA
    have HGB:=aB gB
    have hxm:=qJa ea.le ea.mx
    simp only at hxm
    have HSR:=aB (λ(wd:World) (T:aC (λ_=>False) wr wd) v hv=>Bf wd xA xq xc xO zA zq zc zO (ea.rd.rd.touch T (λ_ _ f=>f)) ea.len (eb.rd.rd.touch T (λ_ _ f=>f)) eb.len hxm v hv)
    obtain⟨g,o,hgA,hgl,a0,a1⟩:=gA wr HT
    subst hgA
    obtain⟨g',o',hgB,hgl',b0,b1⟩:=gB wr HT
    subst hgB
    have HC:=aB (And.intro a1 (And.intro b1 (And.intro hgl hgl')))
    clear pa pb gA gB hx hz ea eb hgl hgl' a1 b1
    by_cases hrr:xO=zO
    ·go_wp2_with fail
     go_still_tail 10,(by kernel_rfl)
     change wpList _ _ _ _ _ wr.drew
     have hTd:aC (λ_=>False) wr wr.drew:=(aC.refl _ _).drew
     generalize wr.drew=wd at hTd ⊢
     have HTD:=aB hTd
     clear hTd
     go_wp2_with fail
     refine (HSR wd HTD true (decide_eq_true hrr)).mono ?_
     rintro x w2 ⟨rfl,T2'⟩
     have T2:=HTD.then T2'
     clear T2'
     have HT2:=aB (HT.then T2)
     have c1:=(T2.cell (a:=⟨g,o+i*2+1,none⟩) HC.2.2.1 (λf=>f)).trans HC.1
     have c2:=(T2.cell (a:=⟨g',o'+i*2+1,none⟩) HC.2.2.2 (λf=>f)).trans HC.2.1
     have HRR:=aB hrr
     clear T2 hrr
     by_cases hww:xw=zw
     ·have w1:(xw != zw)=false:=by simp[hww]
      have HWW:=aB hww
      go_wp2_with fail
      go_quiet (fail)
      go_wp2_with fail
      go_roundw
      ·exact⟨i+1,by simp,by omega,aB (λj hj=>by
        by_cases hj2:j=i
        ·subst hj2;exact HPA.trans ((by rw[HRR.out,HWW.out]:(xO,xw)=(zO,zw)).trans HPB.symm)
        ·exact HE j (by omega)),aB (HT2.drewN _)⟩
      ·show q-(intOf (.int .i64 ((i:Int)+1))).toNat<q-(intOf (.int .i64 (i:Int))).toNat
       simp[intOf]
       omega
     ·have w1:(xw != zw)=true:=by simp[hww]
      have hne:V.map RV.p≠U.map RV.p:=λe=>hww (by
       have:=HPA.out
       rw[e,HPB.out] at this
       injection this with _ this
       exact this.symm)
      have hvv:v=false:=by rw[<-HV.out];exact decide_eq_false hne
      subst hvv
      clear hne
      go_wp2_with fail
      go_quiet (fail)
      go_wp2_with fail
      go_ret
      exact⟨rfl,HT2.drewN _⟩
    ·have hne:V.map RV.p≠U.map RV.p:=λe=>hrr (by
      have:=HPA.out
      rw[e,HPB.out] at this
      injection this with this _
      exact this.symm)
     have hvv:v=false:=by rw[<-HV.out];exact decide_eq_false hne
     subst hvv
     clear hne
     go_wp2_with fail
     go_still_tail 10,(by kernel_rfl)
     change wpList _ _ _ _ _ wr.drew
     have hTd:aC (λ_=>False) wr wr.drew:=(aC.refl _ _).drew
     generalize wr.drew=wd at hTd ⊢
     have HTD:=aB hTd
     clear hTd
     go_wp2_with fail
     refine (HSR wd HTD false (decide_eq_false hrr)).mono ?_
     rintro x w2 ⟨rfl,T2'⟩
     have T2:=HTD.then T2'
     clear T2'
     have HT2:=aB (HT.then T2)
     clear T2 hrr
     go_wp2_with fail
     refine wp_region_quiet_lit (by kernel_rfl) (by kernel_rfl) ?_
     quiet_step (fail)
     quiet_step (fail)
     quiet_step (fail)
     rw[aN]
     rotate_left;· kernel_rfl
     go_simp
     rw[aN]
     rotate_left;· kernel_rfl
     go_simp
     rw[aN]
     rotate_left;· kernel_rfl
     go_simp
     rw[aN]
     rotate_left;· kernel_rfl
     go_simp
     rw[aN]
     rotate_left;· kernel_rfl
     go_simp
     rw[aN]
     rotate_left;· kernel_rfl
     go_simp
     rw[aN]
     rotate_left;· kernel_rfl
     go_simp
     rw[aN]
     rotate_left;· kernel_rfl
     go_simp
     rw[aN]
     rotate_left;· kernel_rfl
     go_simp
     rw[aN]
     rotate_left;· kernel_rfl
     go_simp
     rw[aN]
     rotate_left;· kernel_rfl
     go_simp
     quiet_step (fail)
     refine wpQuiet_nil ?_
     intro nq
     go_wp2_with fail
     go_ret
     exact⟨rfl,HT2.drewN _⟩
   ·have hall:V.map RV.p=U.map RV.p:=yC RV.zero.p (by rw[qQa,qQa,HO.out,HU.out]) λj hj=>HE.out j (by rw[qQa,HO.out] at hj;omega)
    have hvv:v=true:=by rw[<-HV.out];exact decide_eq_true hall
    have y1:¬ (i:Int)<(q:Int):=by omega
    subst hvv
    clear hall
    go_wp2_with fail
    go_ret
    exact⟨rfl,HT⟩
 ·have w1:((q:Int) != (r:Int))=true:=by simp;omega
  have hne:V.map RV.p≠U.map RV.p:=λe=>hqr (by have:=congrArg List.length e;rw[qQa,qQa,HO.out,HU.out] at this;exact this)
  have hvv:v=false:=by rw[<-hv];exact decide_eq_false hne
  subst hvv
  clear hv hne
  go_in
  go_wp2_with fail
  go_ret
  exact⟨rfl,aC.refl _ _⟩
def inZ:Option Nat->Int
 | some i=>(i:Int)
 | none=>-1
theorem aCd{X:List RL}(h:aI w 1 A n (X.map RL.val))(hn:X.length=n)(k:Nat)(hk:k<n) :
  ∃ g off,A=some ⟨g,off,none⟩/\g<w.heap.size/\w.cell? ⟨g,off+k,none⟩=some (X.getD k ⟨none,0,0,[]⟩).val:=by
 obtain⟨b,off,hA,hb,hc⟩:=h.2 (by omega)
 refine⟨b,off,hA,hb,hc k _ ?_⟩
 simp[qZa,show k<X.length by omega]
theorem aDp(w:World)(A:Option Addr)(n c:Nat)(X:List RL)(hR:aI w 1 A n (X.map RL.val))(hX:X.length=n)(hE:∀ s∈X,s.Ok w/\s.n<=maxLen)(t:RL)(ht:t.Ok w)(hn:n<=maxLen) :
  Calls Tryz.prog 165 #[.slice A n c,t.val] w λx w'=>x=.returned (.int .i64 (inZ (jT (X.map RL.p) t.p)))/\aC (λ_=>False) w w':=by
 have HR:=aB hR
 have HX:=aB hX
 have HE:=aB hE
 have HT:=aB ht
 obtain⟨z,hz⟩:∃ z:Int,inZ (jT (X.map RL.p) t.p)=z:=⟨_,rfl⟩
 rw[hz]
 have HZ:=aB hz
 clear hR hX hE ht hz
 unfold maxLen at hn
 obtain⟨tA,tn,tc,tV⟩:=t
 simp only[RL.val]
 go_in
 go_wp2_with fail
 go_loopw [5] (λiv wr=>∃ (i:Nat),iv=.int .i64 i/\i<=n/\Hid (∀ j,j<i->(X.getD j ⟨none,0,0,[]⟩).p≠RL.p ⟨tA,tn,tc,tV⟩)/\Hid (aC (λ_=>False) w wr)) (λiv _=>n-(intOf iv).toNat)
 case atStart=>exact⟨0,rfl,by omega,aB (λj hj=>by omega),aB (aC.refl _ _)⟩
 case round =>
  obtain⟨i,rfl,hi,HN,HTT⟩:=hrel
  by_cases hin:i<n
  ·have y1:(i:Int)<(n:Int):=by omega
   have y2:(0:Int)<=(i:Int):=by omega
   obtain⟨g,o,hA,_,a0⟩:=aCd (HR.touch HTT (λ_ _ f=>f)) HX i hin
   subst hA
   have hel:=HE.out _ (aZ X ⟨none,0,0,[]⟩ i (by rw[HX.out];exact hin))
   obtain⟨⟨xA,xn,xc,xV⟩,hx⟩:∃ r,X.getD i ⟨none,0,0,[]⟩=r:=⟨_,rfl⟩
   rw[hx] at a0 hel
   simp only[RL.val] at a0
   have HSM:=aB (λv hv=>Xq wr ⟨xA,xn,xc,xV⟩ ⟨tA,tn,tc,tV⟩ (hel.1.quiet HTT) (HT.quiet HTT) hel.2 v hv)
   have HXX:=aB hx
   simp only[RL.val] at HSM
   clear hel hx
   by_cases hp:RL.p ⟨xA,xn,xc,xV⟩=RL.p ⟨tA,tn,tc,tV⟩
   ·have hzi:z=(i:Int):=by
     rw[<-HZ.out]
     have:jT (X.map RL.p) (RL.p ⟨tA,tn,tc,tV⟩)=some i:=by
      unfold jT
      rw[List.findIdx?_eq_some_iff_getElem]
      have hl:i<X.length:=by rw[HX.out];exact hin
      have hg:∀ j,j<X.length->X.getD j ⟨none,0,0,[]⟩=X.getD j ⟨none,0,0,[]⟩:=λ_ _=>rfl
      refine⟨by rw[qQa];exact hl,?_,?_⟩
      ·rw[List.getElem_map]
       have e:X[i]=⟨xA,xn,xc,xV⟩:=by rw[<-HXX.out];simp[qZa,hl]
       rw[e]
       exact decide_eq_true hp
      ·intro j hj
       rw[List.getElem_map]
       have hjl:j<X.length:=by omega
       have e:X[j]=X.getD j ⟨none,0,0,[]⟩:=by simp[qZa,hjl]
       rw[e]
       simpa using HN.out j hj
     exact congrArg inZ this
    subst hzi
    go_wp2_with fail
    refine (HSM true (decide_eq_true hp)).mono ?_
    rintro x w2 ⟨rfl,T2⟩
    have HT2:=aB (HTT.then T2)
    clear T2 hp
    go_wp2_with fail
    go_ret
    exact⟨rfl,HT2⟩
   ·have HP:=aB hp
    go_wp2_with fail
    refine (HSM false (decide_eq_false hp)).mono ?_
    rintro x w2 ⟨rfl,T2⟩
    have HT2:=aB (HTT.then T2)
    clear T2 hp
    go_wp2_with fail
    go_roundw
    ·exact⟨i+1,by simp,by omega,aB (λj hj=>by
      by_cases hj2:j=i
      ·subst hj2;rw[HXX.out];exact HP
      ·exact HN j (by omega)),HT2⟩
    ·show n-(intOf (.int .i64 ((i:Int)+1))).toNat<n-(intOf (.int .i64 (i:Int))).toNat
     simp[intOf]
     omega
  ·have hzi:z = -1:=by
    rw[<-HZ.out]
    have:jT (X.map RL.p) (RL.p ⟨tA,tn,tc,tV⟩)=none:=by
     unfold jT
     rw[List.findIdx?_eq_none_iff]
     intro y hy
     obtain⟨s,hs,rfl⟩:=List.mem_map.1 hy
     obtain⟨j,hj,rfl⟩:=List.getElem_of_mem hs
     have:=HN.out j (by rw[HX.out] at hj;omega)
     have e:X[j]=X.getD j ⟨none,0,0,[]⟩:=by simp[qZa,hj]
     rw[e]
     simpa using this
    exact congrArg inZ this
   subst hzi
   have y1:¬ (i:Int)<(n:Int):=by omega
   go_wp2_with fail
   go_ret
   exact⟨rfl,HTT⟩
theorem iQ{row:Option Nat}(h:w.grownBy w' row):aC (λg=>row=some g) w w':=⟨h.os,h.tape,h.output,h.size,λk hk hne=>h.block k hk (λe=>hne e.symm)⟩
theorem Si(w:World)(s:SL)(hs:s.Ok w)(hD:cA s.L)(hWf:∀ r∈s.L,r.word.size<=1099511627776) :
  Calls Tryz.prog 126 #[s.val] w λe w'=>∃ s':RL,e=.returned s'.val/\s'.Ok w'/\s'.p=aT s.L/\s'.n=s.n/\s'.Bd/\aC (λ_=>False) w w':=by
 obtain⟨i0,hi,hz0,hz1,hz2⟩:=aO yN
 obtain⟨A,n,c,L⟩:=s
 have HR:=aB hs.reads
 have HLN:=aB hs.len
 have HD:=aB hD
 have HWF:=aB hWf
 simp only[SL.val]
 simp only at HR HLN HD HWF
 have hm:n<=4096:=by have h1:=hD.len;have h2:=hs.len;simp only at h1 h2;omega
 clear hs hD hWf
 go_in
 go_wp2_with fail
 go_loopw [3,4] (λov iv wr=>∃ (i:Nat) (A3:Option Addr) (c3:Nat) (V:List RV),ov=.slice A3 i c3/\iv=.int .i64 i/\i<=n/\Hid (eB 236 2 w wr (.slice A3 i c3) i (fH V)/\V.length=i)/\Hid ((∀ r∈V,r.Ok wr)/\V.map RV.p=(aT L).take i)) (λ_ iv _=>n-(intOf iv).toNat)
 case atStart=>exact⟨0,none,0,[],rfl,rfl,by omega,aB ⟨eB.nil _ _ _,rfl⟩,aB ⟨λr hr=>(by cases hr),by simp⟩⟩
 case round =>
  obtain⟨i,A3,c3,V,rfl,rfl,hi',HO,HV⟩:=hrel
  by_cases hin:i<n
  ·have y1:(i:Int)<(n:Int):=by omega
   have y2:(0:Int)<=(i:Int):=by omega
   have gP:∀ w',aC (λ_=>False) w w'->∃ g off,A=some ⟨g,off,none⟩/\g<w'.heap.size/\w'.cell? ⟨g,off+i*2,none⟩=some (.string (L.getD i aE.zero).word)/\w'.cell? ⟨g,off+i*2+1,none⟩=some (.int .i64 (L.getD i aE.zero).weight):=λw' T=>iC (HR.touch T (λ_ _ f=>f)) HLN.symm i hin
   have hmem:=pH L i (by rw[HLN.out];exact hin)
   have hsn:=aGf L i (by rw[HLN.out];exact hin)
   obtain⟨⟨xw,xn⟩,hx⟩:∃ x,L.getD i aE.zero=x:=⟨_,rfl⟩
   rw[hx] at hmem hsn
   simp only[hx] at gP
   have hwd:=HD.word _ hmem
   have hwf:=HWF.out _ hmem
   simp only at hwd hwf
   have htk:(aT L).take (i+1)=(aT L).take i++[(dM ⟨xw,xn⟩,xn)]:=by
    unfold aT
    rw[<-qQf,<-qQf,hsn,qQb]
    rfl
   have HTK:=aB htk
   have HWD:=aB hwd
   have HRU:=aB (zP wr xw hwf)
   obtain⟨g,o,hA,hg,a0,a1⟩:=gP wr HO.1.touch
   subst hA
   have HA1:=aB (And.intro a1 hg)
   clear gP hmem hsn hx hwd hwf htk a1 hg
   go_wp2_with fail
   refine HRU.mono ?_
   rintro e w2 ⟨rA,rq,rc,rO,ok,rfl,N2,hl2,hq2,hru⟩
   have hok:ok=true/\rO=dM ⟨xw,xn⟩:=by
    have h1:=HWD.1
    rw[hru] at h1
    cases ok with
    | false=>cases h1
    | true=>exact⟨rfl,Option.some.inj h1⟩
   obtain⟨rfl,hrO⟩:=hok
   have hrOk:RV.Ok ⟨rA,rq,rc,rO,xn⟩ w2:=by
    obtain⟨_,_,e,h1,h2⟩:=aX N2.own
    injection e with e1 _ e3
    subst e1 e3
    exact⟨hl2,fM.of_own N2.own,by simp only;omega,h2⟩
   have HO2:=aB (HO.1.to N2.touch)
   have a2:=(N2.touch.cell (a:=⟨g,o+i*2+1,none⟩) HA1.2 (λf=>f)).trans HA1.1
   have HV2:=aB (And.intro (λr hr=>(HV.1 r hr).touch N2.touch (λ_ _ f=>f):∀ r∈V,r.Ok w2) (And.intro hrOk hrO))
   clear N2 hl2 hq2 hru hrOk hrO HRU
   go_wp2_with (at_builtin;refine aR _ rfl (.tmp 22) (.tmp 30) 225 rfl 236 i0 _ 2 32 Tryz.underlying225 hi hz0 hz1 hz2 rfl (by decide) (.slice A3 i c3) i _ rfl (aD HO2.own ((aC.refl _ _).alloc _) (λ_ _ f=>f)) (some ⟨_,0,none⟩) 1 1 [.slice rA rq rc,.int .i64 xn] rfl ?sa ?sb ?sc ?sd ?se ?_)
   case sa=>exact aI.new _ _ _ _ rfl
   try (case sb=>exact λh=>by cases h)
   case sc=>exact iL _ _ _ _
   case sd=>unfold maxLen;omega
   case se=>omega
   intro v4 w4 hown hgrow hfr _
   have hO2a:=HO2.to ((aC.refl _ _).alloc (.cells #[.slice rA rq rc,.int .i64 xn] 236))
   have N4:=hO2a.app (m:=1) (ys:=[.slice rA rq rc,.int .i64 xn]) hown hgrow hfr
   have hkeep:∀ r:RV,r.Ok w2->r.Ok w4:=λr hr =>
    (hr.touch ((aC.refl _ _).alloc _) (λ_ _ f=>f)).touch (iQ hgrow) (λg' hg' e=>(aH hO2a.own e).ne hg' (by decide) rfl)
   obtain⟨A4,c4,rfl,_,_⟩:=aX hown
   have HN4:=aB N4
   have HK:=aB hkeep
   clear N4 hown hgrow hfr hO2a hkeep
   go_wp2_with fail
   go_roundw
   ·refine⟨i+1,A4,c4,V++[⟨rA,rq,rc,rO,xn⟩],rfl,by simp,by omega,aB ⟨?_,?_⟩,aB ⟨?_,?_⟩⟩
    ·rw[kU]
     exact HN4
    ·rw[qXb,HO.2]
     rfl
    ·intro r hr
     rcases List.mem_append.1 hr with h | h
     ·exact HK r (HV2.1 r h)
     ·rw[qZd] at h
      subst h
      exact HK _ HV2.2.1
    ·rw[qQb,HV.2,HTK.out,<-HV2.2.2]
     rfl
   ·show n-(intOf (.int .i64 ((i:Int)+1))).toNat<n-(intOf (.int .i64 (i:Int))).toNat
    simp[intOf]
    omega
  ·have ht:(aT L).take i=aT L:=qZb (by unfold aT;rw[qQa,HLN.out];omega)
   have hin2:i=n:=by omega
   subst hin2
   have hV:=HV.out
   rw[ht] at hV
   have HVV:=aB hV
   have y1:¬ (i:Int)<(i:Int):=by omega
   clear hV ht
   go_wp2_with fail
   go_ret
   refine⟨⟨A3,i,c3,V⟩,rfl,⟨HO.2,fM.of_own HO.1.own,HVV.1⟩,HVV.2,rfl,?_,HO.1.touch⟩
   intro r hr
   simp only at hr
   have h1:(r.O,r.wt)∈aT L:=by rw[<-HVV.2];exact List.mem_map.2 ⟨r,hr,rfl⟩
   obtain⟨p,hp,e⟩:=List.mem_map.1 h1
   injection e with _ e
   have:=HD.weight p hp
   rw[e] at this
   omega
theorem Ht(w:World)(s:RL)(hs:s.Ok w)(hn:0<s.n)(hm:s.n<=maxLen) :
  Calls Tryz.prog 128 #[s.val] w λe w'=>e=.returned (.int .i64 (aW s.p))/\w'=w:=by
 obtain⟨A,n,c,V⟩:=s
 have HR:=aB hs.rd.rd
 have HLN:=aB hs.len
 simp only[RL.val,RL.p]
 simp only at HR HLN hn hm
 clear hs
 unfold maxLen at hm
 obtain⟨m,rfl⟩:∃ m,n=m+1:=⟨n-1,by omega⟩
 obtain⟨g,o,hA,hg,_,z1⟩:=fS HR.out HLN 0 (by omega)
 subst hA
 simp only[Nat.zero_mul,Nat.add_zero] at z1
 obtain⟨z,hz⟩:∃ z,(V.getD 0 RV.zero).wt=z:=⟨_,rfl⟩
 rw[hz] at z1
 have hl:aW (V.map RV.p)=(V.map RV.p).foldl (λn r=>min n r.2) z:=by
  cases V with
  | nil=>have:=HLN.out;simp at this
  | cons x V=>simp only[List.getD_cons_zero] at hz;subst hz;rfl
 have HL:=aB hl
 have HZ1:=aB z1
 have HG:=aB hg
 clear hl hz hg
 have y0:(0:Int)<((m:Int)+1):=by omega
 go_in
 go_wp2
 go_loopw [3,4] (λnv iv wr=>∃ (z':Int) (i:Nat),nv=.int .i64 z'/\iv=.int .i64 i/\i<=m+1/\Hid (z'=((V.map RV.p).take i).foldl (λn r=>min n r.2) z)/\Hid (wr=w)) (λ_ iv _=>m+1-(intOf iv).toNat)
 case atStart=>exact⟨z,0,rfl,rfl,by omega,aB (by simp),aB rfl⟩
 case round =>
  obtain⟨z',i,rfl,rfl,hi,HZ,HT⟩:=hrel
  have hT:=HT.out
  subst hT
  by_cases hin:i<m+1
  ·have y1:(i:Int)<(m:Int)+1:=by omega
   have y2:(0:Int)<=(i:Int):=by omega
   obtain⟨g',o',hA,_,_,a1⟩:=fS HR.out HLN i hin
   injection hA with hA
   injection hA with hA1 hA2
   subst hA1 hA2
   obtain⟨u,hu⟩:∃ u,(V.getD i RV.zero).wt=u:=⟨_,rfl⟩
   rw[hu] at a1
   have hst:((V.map RV.p).take (i+1)).foldl (λn r=>min n r.2) z=min z' u:=by
    rw[bI (V.map RV.p) RV.zero.p i (by rw[qQa,HLN.out];exact hin),qZe,<-HZ.out]
    simp only[qZc,List.foldl_nil]
    rw[<-hu]
    simp[qZa,RV.p,show i<V.length by rw[HLN.out];exact hin]
   have HST:=aB hst
   clear hst hu
   go_wp2
   all_goals
    go_roundw
    ·exact⟨_,i+1,rfl,by simp,by omega,aB (by rw[HST.out];first | done | (split<;>omega)),by first | exact aB rfl | exact aB trivial⟩
    ·show m+1-(intOf (.int .i64 ((i:Int)+1))).toNat<m+1-(intOf (.int .i64 (i:Int))).toNat
     simp[intOf]
     omega
  ·have y1:¬ (i:Int)<(m:Int)+1:=by omega
   have ht:(V.map RV.p).take i=V.map RV.p:=qZb (by rw[qQa,HLN.out];omega)
   have hz:=HZ.out
   rw[ht,<-HL.out] at hz
   have HE:=aB hz
   clear hz ht
   go_wp2
   go_ret
   exact⟨by rw[<-HE.out];rfl,rfl⟩
def dI(l:List (Nat × Int × Nat)):List Value:=l.flatMap λa=>[.int .i32 (a.1:Int),.int .i64 a.2.1,.int .i64 (a.2.2:Int)]
theorem wZ(V W:List (Nat × Int × Nat)):dI (V++W)=dI V++dI W:=qQe
structure SV where
 fin:Bool
 out:Int
 A:Option Addr
 n:Nat
 c:Nat
 arcs:List (Nat × Int × Nat)
def SV.cells(s:SV):List Value:=[.bool s.fin,.int .i64 s.out,.slice s.A s.n s.c]
def SV.p(s:SV):bP:=⟨s.fin,s.out,s.arcs⟩
structure SV.Ok(s:SV)(w:World):Prop where
 len:s.arcs.length=s.n
 rd:fM w 173 3 s.A s.n (dI s.arcs)
 le:s.n<=s.c
 mx:s.c<=maxLen
def dY(Z:List SV):List Value:=Z.flatMap SV.cells
theorem zT(V W:List SV):dY (V++W)=dY V++dY W:=qQe
theorem SV.Ok.touch{s:SV}{S:Nat->Prop}(h:s.Ok w)(T:aC S w w')(hS:∀ g,bE w g 173 -> ¬ S g):s.Ok w':=⟨h.len,h.rd.touch T hS,h.le,h.mx⟩
structure KV where
 rA:Option Addr
 rn:Nat
 rc:Nat
 X:List RL
 sA:Option Addr
 sn:Nat
 sc:Nat
 Z:List SV
def KV.r(k:KV):Value:=.slice k.rA k.rn k.rc
def KV.s(k:KV):Value:=.slice k.sA k.sn k.sc
def KV.val(k:KV):Value:=.agg #[k.r,k.s]
def KV.p(k:KV):iJ:=⟨k.X.map RL.p,k.Z.map SV.p⟩
theorem fM.touch'{S:Nat->Prop}(h:fM w t size A n xs)(T:aC S w w')(hS:0<n->∀ g,aQ A=some g->¬ S g):fM w' t size A n xs:=by
 by_cases hn:0<n
 ·exact⟨h.rd.touch T λg hg=>hS hn g hg,λ_ g hg=>(h.ty hn g hg).touch T (hS hn g hg)⟩
 ·exact⟨⟨h.rd.1,λh=>absurd h hn⟩,λh=>absurd h hn⟩
structure KV.Ok(k:KV)(w:World):Prop where
 r:w.ownsRow 0 225 1 k.r k.rn (k.X.map RL.val)
 rl:k.X.length=k.rn
 re:∀ x∈k.X,x.Ok w/\x.n<=maxLen
 s:w.ownsRow 0 170 3 k.s k.sn (dY k.Z)
 sl:k.Z.length=k.sn
 se:∀ z∈k.Z,z.Ok w
def KV.S(k:KV)(g:Nat):Prop:=k.r.ownBlock=some g\/k.s.ownBlock=some g
theorem KV.Ok.noS{k:KV}(h:k.Ok w)(h1:t ≠ 225)(h2:t ≠ 170):∀ g,bE w g t->¬ k.S g:=by
 rintro g hg (e | e)
 ·exact (aH h.r e).ne hg (λe=>h1 e.symm) rfl
 ·exact (aH h.s e).ne hg (λe=>h2 e.symm) rfl
theorem KV.Ok.quiet{k:KV}(h:k.Ok w)(T:aC (λ_=>False) w w'):k.Ok w' :=
 ⟨aD h.r T (λ_ _ f=>f),h.rl,λx hx=>⟨(h.re x hx).1.quiet T,(h.re x hx).2⟩,aD h.s T (λ_ _ f=>f),h.sl,λz hz=>(h.se z hz).touch T (λ_ _ f=>f)⟩
theorem KV.Ok.far{k:KV}{S:Nat->Prop}(h:k.Ok w)(T:aC S w w')(hr:∀ g,k.S g->¬ S g)(h1:∀ g,bE w g 21 -> ¬ S g)(h2:∀ g,bE w g 236 -> ¬ S g)(h3:∀ g,bE w g 173 -> ¬ S g):k.Ok w' :=
 ⟨aD h.r T (λg e=>hr g (.inl e)),h.rl,λx hx=>⟨(h.re x hx).1.touch T h1 h2,(h.re x hx).2⟩,aD h.s T (λg e=>hr g (.inr e)),h.sl,λz hz=>(h.se z hz).touch T h3⟩
theorem aF{cs:Array Value}(h:aL w g t cs):bE w g t:=⟨cs,(),h⟩
theorem KV.Ok.lt{k:KV}(h:k.Ok w)(hg:k.S g):g<w.heap.size:=by
 rcases hg with e | e
 ·exact (aH h.r e).lt
 ·exact (aH h.s e).lt
theorem KV.Ok.box{k:KV}{cs:Array Value}(h:k.Ok w)(hb:aL w b t cs)(T:aC (λx=>x=b) w w')(hn:¬ k.S b)(h1:t ≠ 21)(h2:t ≠ 236)(h3:t ≠ 173):k.Ok w' :=
 h.far T (λ_ hg e=>hn (e ▸ hg)) (λ_ hg e=>hg.ne (aF hb) (λe=>h1 e.symm) e) (λ_ hg e=>hg.ne (aF hb) (λe=>h2 e.symm) e) (λ_ hg e=>hg.ne (aF hb) (λe=>h3 e.symm) e)
theorem Ad{f:Nat}{k:iJ}{l:Rs}(h:jT k.rests (aJ l)=some i):aY (f+1) k l=(k,i):=by simp only[aY,h]
structure L2(w wr:World)(B C:Nat)(k0 kc:KV)(fin:Bool)(out:Int)(aA:Option Addr)(ai ac:Nat)(arcs:List (Nat × Int × Nat))(M:RL)(fA:Option Addr)(fq:Nat)(F:List Nat):Prop where
 ok:kc.Ok wr
 b0:aL wr B 229 #[kc.r,kc.s]
 b1:aL wr (B+1) 229 #[.slice none 0 0,.slice none 0 0]
 b2:aL wr C 170 #[.bool fin,.int .i64 out,.slice aA ai ac]
 own:wr.ownsRow 0 173 3 (.slice aA ai ac) ai (dI arcs)
 al:arcs.length=ai
 af:∀ g,(Value.slice aA ai ac).ownBlock=some g->w.heap.size<=g
 m:M.Ok wr
 f:fM wr 21 1 fA fq (F.map eV)
 touch:aC k0.S w wr
 fr:bJ w k0.r kc.r
 fs:bJ w k0.s kc.s
 nb:¬ kc.S C
 zs:∀ z∈kc.Z,z∈k0.Z\/(0<z.n->∀ g,aQ z.A=some g->w.heap.size<=g)
 za:∀ z∈kc.Z,0<z.n->∀ g,aQ z.A=some g->(Value.slice aA ai ac).ownBlock≠some g
theorem bJ.up{a b c:Value}(h:bJ w a b)(k:bJ u b c)(hs:w.heap.size<=u.heap.size):bJ w a c:=by
 rcases k with e | ⟨g,e,hg⟩
 ·rcases h with e2 | ⟨g,e2,hg⟩
  ·exact .inl (e.trans e2)
  ·exact .inr ⟨g,e.trans e2,hg⟩
 ·exact .inr ⟨g,e,qJa hs hg⟩
def S4(k:KV)(B:Nat)(g:Nat):Prop:=k.S g\/g=B
theorem aAn{wr u1 u2:World}{k0 kc kd:KV}{M:RL}
  (h:L2 w wr B C k0 kc fin out aA ai ac arcs M fA fq F)(hB:w.heap.size<=B)(T1:aC (λ_=>False) wr u1)(hd:kd.Ok u2)(T2:aC kc.S u1 u2)(fr:bJ u1 kc.r kd.r)(fs:bJ u1 kc.s kd.s)
  (hz:∀ z∈kd.Z,z∈kc.Z\/(0<z.n->∀ g,aQ z.A=some g->u1.heap.size<=g))(o:Obj) :
  L2 w (((u2.setCell ⟨B,0,none⟩ kd.r).setCell ⟨B,1,none⟩ kd.s).alloc o) B C k0 kd fin out aA ai ac arcs M fA fq F /\
  (∀ t:RL,t.Ok u1->t.Ok (((u2.setCell ⟨B,0,none⟩ kd.r).setCell ⟨B,1,none⟩ kd.s).alloc o)):=by
 have hw1:w.heap.size<=wr.heap.size:=h.touch.size
 have hwu:wr.heap.size<=u1.heap.size:=T1.size
 have hkc:kc.Ok u1:=h.ok.quiet T1
 have T12:aC kc.S wr u2:=(T1.up _).then T2
 have T3:aC (S4 kc B) wr u2:=T12.mono (λ_ _ h=>.inl h)
 have T4:aC (S4 kc B) wr (((u2.setCell ⟨B,0,none⟩ kd.r).setCell ⟨B,1,none⟩ kd.s).alloc o):=((T3.setCell (p:=⟨B,0,none⟩) (λ_=>.inr rfl) _).setCell (p:=⟨B,1,none⟩) (λ_=>.inr rfl) _).alloc o
 have hnS:∀ t,t ≠ 225 -> t ≠ 170 -> t ≠ 229 -> ∀ g,bE wr g t->¬ S4 kc B g:=by
  rintro t h1 h2 h3 g hg (e | e)
  ·exact h.ok.noS h1 h2 g hg e
  ·exact hg.ne (aF h.b0) h3 e
 have hBS:¬ kc.S B:=h.ok.noS (t := 229) (by decide) (by decide) B (aF h.b0)
 have hB1S:¬ S4 kc B (B+1):=by
  rintro (e | e)
  ·exact h.ok.noS (t := 229) (by decide) (by decide) _ (aF h.b1) e
  ·omega
 have hCS:¬ S4 kc B C:=by
  rintro (e | e)
  ·exact h.nb e
  ·exact (aF h.b2).ne (aF h.b0) (by decide) e
 have hb0:aL u2 B 229 #[kc.r,kc.s]:=h.b0.touch T12 hBS
 have hdB:¬ kd.S B:=hd.noS (t := 229) (by decide) (by decide) B (aF hb0)
 have hCu2:aL u2 C 170 #[.bool fin,.int .i64 out,.slice aA ai ac]:=h.b2.touch T12 h.nb
 have hClt:C<u1.heap.size:=Nat.lt_of_lt_of_le h.b2.lt hwu
 refine⟨⟨?_,?_,?_,?_,?_,h.al,h.af,?_,?_,?_,?_,?_,?_,?_,?_⟩,?_⟩
 ·exact (hd.box hb0 (((aC.refl (λx=>x=B) _).setCell (p:=⟨B,0,none⟩) (λ_=>rfl) _).setCell (p:=⟨B,1,none⟩) (λ_=>rfl) _) hdB (by decide) (by decide) (by decide)).quiet ((aC.refl _ _).alloc o)
 ·have:=(hb0.set_ 0 kd.r).set_ 1 kd.s
  exact aL.alloc (by simpa using this) o
 ·exact h.b1.touch T4 hB1S
 ·exact h.b2.touch T4 hCS
 ·exact aD h.own T4 (λg hg=>hnS _ (by decide) (by decide) (by decide) g (aH h.own hg))
 ·exact h.m.touch T4 (hnS _ (by decide) (by decide) (by decide)) (hnS _ (by decide) (by decide) (by decide))
 ·exact h.f.touch T4 (hnS _ (by decide) (by decide) (by decide))
 ·refine h.touch.trans T4 ?_
  rintro g hg ((e | e) | e)
  ·rcases h.fr with e2 | ⟨g',e2,hg'⟩
   ·exact .inl (e2.symm.trans e)
   ·rw[e2] at e;injection e with e;omega
  ·rcases h.fs with e2 | ⟨g',e2,hg'⟩
   ·exact .inr (e2.symm.trans e)
   ·rw[e2] at e;injection e with e;omega
  ·omega
 ·exact h.fr.up fr (qJa hw1 hwu)
 ·exact h.fs.up fs (qJa hw1 hwu)
 ·rintro (e | e)
  ·exact (aH hd.r e).ne (aF hCu2) (by decide) rfl
  ·rcases fs with e2 | ⟨g',e2,hg'⟩
   ·exact h.nb (.inr (e2.symm.trans e))
   ·rw[e2] at e;injection e with e;omega
 ·intro z hzz
  rcases hz z hzz with h1 | h1
  ·exact h.zs z h1
  ·exact .inr λhn g hg=>qJa (qJa hw1 hwu) (h1 hn g hg)
 ·intro z hzz hn g hg e
  rcases hz z hzz with h1 | h1
  ·exact h.za z h1 hn g hg e
  ·have:=(aH h.own e).lt
   have:=h1 hn g hg
   omega
 ·intro t ht
  have hb1':∀ t',t' ≠ 225 -> t' ≠ 170 -> t' ≠ 229 -> ∀ g,bE u1 g t'->¬ S4 kc B g:=by
   rintro t' h1 h2 h3 g hg (e | e)
   ·exact hkc.noS h1 h2 g hg e
   ·exact hg.ne (aF (h.b0.touch T1 (λf=>f))) h3 e
  have T5:aC (S4 kc B) u1 (((u2.setCell ⟨B,0,none⟩ kd.r).setCell ⟨B,1,none⟩ kd.s).alloc o):=(((T2.mono (T:=S4 kc B) (λ_ _ h=>.inl h)).setCell (p:=⟨B,0,none⟩) (λ_=>.inr rfl) _).setCell (p:=⟨B,1,none⟩) (λ_=>.inr rfl) _).alloc o
  exact ht.touch T5 (hb1' _ (by decide) (by decide) (by decide)) (hb1' _ (by decide) (by decide) (by decide))
def S5(v:Value)(C:Nat)(g:Nat):Prop:=v.ownBlock=some g\/g=C
theorem aDu{u4:World}{k0 kd:KV}{M:RL}
  (h0:L2 w u4 B C k0 kd fin out aA ai ac arcs M fA fq F)(_:w.heap.size<=B)(hC:w.heap.size<=C)(T:aC (λ_=>False) u4 v){g':Nat}(c:Nat)(le:Int)(n:Nat)
  (hown:v4.ownsRow 0 173 3 (.slice (some ⟨g',0,none⟩) (ai+1) cap) (ai+1) (dI arcs++[.int .i32 (c:Int),.int .i64 le,.int .i64 (n:Int)]))(hg:v.grownBy v4 (Value.slice aA ai ac).ownBlock)(hf:bJ v (.slice aA ai ac) (.slice (some ⟨g',0,none⟩) (ai+1) cap)) :
  L2 w (v4.setCell ⟨C,2,none⟩ (.slice (some ⟨g',0,none⟩) (ai+1) cap)) B C k0 kd fin out (some ⟨g',0,none⟩) (ai+1) cap (arcs++[(c,le,n)]) M fA fq F:=by
 have ok:=h0.ok.quiet T
 have b0:=h0.b0.touch T (λf=>f)
 have b1:=h0.b1.touch T (λf=>f)
 have b2:=h0.b2.touch T (λf=>f)
 have own:=aD h0.own T (λ_ _ f=>f)
 have hwv:w.heap.size<=v.heap.size:=qJa h0.touch.size T.size
 have Tg:aC (S5 (.slice aA ai ac) C) v v4:=(iQ hg).mono (λ_ _ h=>.inl h)
 have T5:aC (S5 (.slice aA ai ac) C) v (v4.setCell ⟨C,2,none⟩ (.slice (some ⟨g',0,none⟩) (ai+1) cap)):=Tg.setCell (p:=⟨C,2,none⟩) (λ_=>.inr rfl) _
 have hn5:∀ t,t ≠ 173 -> t ≠ 170 -> ∀ g,bE v g t->¬ S5 (.slice aA ai ac) C g:=by
  rintro t h1 h2 g hg (e | e)
  ·exact hg.ne (aH own e) h1 rfl
  ·exact hg.ne (aF b2) h2 e
 have hb2:aL v4 C 170 #[.bool fin,.int .i64 out,.slice aA ai ac]:=b2.grown hg (λe=>(aH own e.symm).ne (aF b2) (by decide) rfl)
 have hgw:w.heap.size<=g':=by
  rcases hf with e | ⟨g2,e,h2⟩
  ·exact h0.af g' (by rw[<-e];rfl)
  ·have e:g'=g2:=Option.some.inj e
   omega
 refine⟨⟨?_,ok.rl,λx hx=>⟨(ok.re x hx).1.touch T5 (hn5 _ (by decide) (by decide)) (hn5 _ (by decide) (by decide)),(ok.re x hx).2⟩,?_,ok.sl,?_⟩,?_,?_,?_,?_,?_,?_,?_,?_,?_,h0.fr,h0.fs,h0.nb,h0.zs,?_⟩
 ·exact aD ok.r T5 (λg e=>hn5 _ (by decide) (by decide) g (aH ok.r e))
 ·refine aD ok.s T5 ?_
  rintro g e (e2 | e2)
  ·exact (aH ok.s e).ne (aH own e2) (by decide) rfl
  ·exact h0.nb (.inr (e2 ▸ e))
 ·intro z hz
  have hz1:=ok.se z hz
  refine⟨hz1.len,hz1.rd.touch' T5 ?_,hz1.le,hz1.mx⟩
  rintro hn g e (e2 | e2)
  ·exact h0.za z hz hn g e e2
  ·exact (hz1.rd.ty hn g e).ne (aF b2) (by decide) e2
 ·exact b0.touch T5 (hn5 _ (by decide) (by decide) _ (aF b0))
 ·exact b1.touch T5 (hn5 _ (by decide) (by decide) _ (aF b1))
 ·simpa using hb2.set_ 2 (.slice (some ⟨g',0,none⟩) (ai+1) cap)
 ·rw[wZ]
  refine aD (S:=λx=>x=C) hown ((aC.refl (λx=>x=C) _).setCell (p:=⟨C,2,none⟩) (λ_=>rfl) _) ?_
  intro g e e2
  exact (aH hown e).ne (aF hb2) (by decide) e2
 ·rw[qXb,h0.al];rfl
 ·intro g e
  have e:g'=g:=Option.some.inj e
  omega
 ·exact (h0.m.quiet T).touch T5 (hn5 _ (by decide) (by decide)) (hn5 _ (by decide) (by decide))
 ·exact (h0.f.quiet T).touch T5 (hn5 _ (by decide) (by decide))
 ·refine (h0.touch.then (T.up _)).trans T5 ?_
  rintro g hgl (e | e)
  ·have:=h0.af g e;omega
  ·omega
 ·intro z hz hn g e e2
  have e2:g'=g:=Option.some.inj e2
  have hzt:=((ok.se z hz).rd.ty hn g e).lt
  rcases hf with e3 | ⟨g2,e3,h2⟩
  ·exact h0.za z hz hn g e (by rw[<-e3,<-e2];rfl)
  ·have e3:g'=g2:=Option.some.inj e3
   omega
def S6(v:Value)(B:Nat)(g:Nat):Prop:=v.ownBlock=some g\/g=B
theorem cT{e:TypeId}(h:w.ownsRow base e size (.slice A n c) n xs):n<=c/\c<=maxLen:=by
 obtain⟨_,_,e,h1,h2⟩:=aX h
 injection e with e1 e2 e3
 subst e3
 exact⟨by omega,h2⟩
theorem aAo{k0:KV}{kA:Option Addr}{kn kc:Nat}{X:List RL}{sA:Option Addr}{sn sc:Nat}{Z:List SV}{M:RL}
  (h0:L2 w u B C k0 ⟨kA,kn,kc,X,sA,sn,sc,Z⟩ fin out aA ai ac arcs M fA fq F)(hB:w.heap.size<=B)(T:aC (λ_=>False) u v)(hM:M.n<=maxLen){a':Option Addr}
  (hown:v4.ownsRow 0 225 1 (.slice a' (kn+1) cap) (kn+1) (X.map RL.val++[M.val]))(hg:v.grownBy v4 (Value.slice kA kn kc).ownBlock)(hf:bJ v (.slice kA kn kc) (.slice a' (kn+1) cap)) :
  L2 w (v4.setCell ⟨B,0,none⟩ (.slice a' (kn+1) cap)) B C k0 ⟨a',kn+1,cap,X++[M],sA,sn,sc,Z⟩ fin out aA ai ac arcs M fA fq F:=by
 have ok:=h0.ok.quiet T
 have b0:=h0.b0.touch T (λf=>f)
 have b1:=h0.b1.touch T (λf=>f)
 have b2:=h0.b2.touch T (λf=>f)
 have own:=aD h0.own T (λ_ _ f=>f)
 have hwv:w.heap.size<=v.heap.size:=qJa h0.touch.size T.size
 have hr:v.ownsRow 0 225 1 (.slice kA kn kc) kn (X.map RL.val):=ok.r
 have Tg:aC (S6 (.slice kA kn kc) B) v v4:=(iQ hg).mono (λ_ _ h=>.inl h)
 have T6:aC (S6 (.slice kA kn kc) B) v (v4.setCell ⟨B,0,none⟩ (.slice a' (kn+1) cap)):=Tg.setCell (p:=⟨B,0,none⟩) (λ_=>.inr rfl) _
 have hn6:∀ t,t ≠ 225 -> t ≠ 229 -> ∀ g,bE v g t->¬ S6 (.slice kA kn kc) B g:=by
  rintro t h1 h2 g hg (e | e)
  ·exact hg.ne (aH hr e) h1 rfl
  ·exact hg.ne (aF b0) h2 e
 have hb0:aL v4 B 229 #[.slice kA kn kc,.slice sA sn sc]:=b0.grown hg (λe=>(aH hr e.symm).ne (aF b0) (by decide) rfl)
 have hb2:aL v4 C 170 #[.bool fin,.int .i64 out,.slice aA ai ac]:=b2.grown hg (λe=>(aH hr e.symm).ne (aF b2) (by decide) rfl)
 have hM2:M.Ok (v4.setCell ⟨B,0,none⟩ (.slice a' (kn+1) cap)):=(h0.m.quiet T).touch T6 (hn6 _ (by decide) (by decide)) (hn6 _ (by decide) (by decide))
 refine⟨⟨?_,?_,?_,?_,ok.sl,?_⟩,?_,?_,?_,?_,h0.al,h0.af,hM2,?_,?_,?_,h0.fs,?_,h0.zs,h0.za⟩
 ·show World.ownsRow _ _ _ _ _ _ ((X++[M]).map RL.val)
  rw[qQb]
  refine aD (S:=λx=>x=B) hown ((aC.refl (λx=>x=B) _).setCell (p:=⟨B,0,none⟩) (λ_=>rfl) _) ?_
  intro g e e2
  exact (aH hown e).ne (aF hb0) (by decide) e2
 ·show (X++[M]).length=kn+1
  rw[qXb,ok.rl];rfl
 ·intro x hx
  rcases List.mem_append.1 hx with h | h
  ·exact⟨(ok.re x h).1.touch T6 (hn6 _ (by decide) (by decide)) (hn6 _ (by decide) (by decide)),(ok.re x h).2⟩
  ·rw[qZd] at h
   subst h
   exact⟨hM2,hM⟩
 ·exact aD ok.s T6 (λg e=>hn6 _ (by decide) (by decide) g (aH ok.s e))
 ·exact λz hz=>(ok.se z hz).touch T6 (hn6 _ (by decide) (by decide))
 ·have h9:aL (v4.setCell ⟨B,0,none⟩ (.slice a' (kn+1) cap)) B 229 #[.slice a' (kn+1) cap,.slice sA sn sc]:=by simpa using hb0.set_ 0 (.slice a' (kn+1) cap)
  exact h9
 ·refine b1.touch T6 ?_
  rintro (e | e)
  ·exact (aH hr e).ne (aF b1) (by decide) rfl
  ·omega
 ·exact b2.touch T6 (hn6 _ (by decide) (by decide) _ (aF b2))
 ·exact aD own T6 (λg e=>hn6 _ (by decide) (by decide) g (aH own e))
 ·exact (h0.f.quiet T).touch T6 (hn6 _ (by decide) (by decide))
 ·refine (h0.touch.then (T.up _)).trans T6 ?_
  rintro g hgl (e | e)
  ·rcases h0.fr with e2 | ⟨g',e2,hg'⟩
   ·exact .inl (e2.symm.trans e)
   ·have:g'=g:=Option.some.inj (e2.symm.trans e)
    omega
  ·omega
 ·exact h0.fr.up hf hwv
 ·rintro (e | e)
  ·exact (aH hown e).ne (aF hb2) (by decide) rfl
  ·exact h0.nb (.inr e)
theorem aDt{k0:KV}{kA:Option Addr}{kn kc:Nat}{X:List RL}{sA:Option Addr}{sn sc:Nat}{Z:List SV}{M:RL}
  (h0:L2 w u B C k0 ⟨kA,kn,kc,X,sA,sn,sc,Z⟩ fin out aA ai ac arcs M fA fq F)(hB:w.heap.size<=B)(T:aC (λ_=>False) u v){a':Option Addr}
  (hown:v4.ownsRow 0 170 3 (.slice a' (sn+1) cap) (sn+1) (dY Z++[.bool fin,.int .i64 out,.slice aA ai ac]))(hg:v.grownBy v4 (Value.slice sA sn sc).ownBlock)(hf:bJ v (.slice sA sn sc) (.slice a' (sn+1) cap)) :
  KV.Ok ⟨kA,kn,kc,X,a',sn+1,cap,Z++[⟨fin,out,aA,ai,ac,arcs⟩]⟩ (v4.setCell ⟨B,1,none⟩ (.slice a' (sn+1) cap)) /\
  aL (v4.setCell ⟨B,1,none⟩ (.slice a' (sn+1) cap)) B 229 #[.slice kA kn kc,.slice a' (sn+1) cap] /\
  aL (v4.setCell ⟨B,1,none⟩ (.slice a' (sn+1) cap)) (B+1) 229 #[.slice none 0 0,.slice none 0 0] /\
  aC k0.S w (v4.setCell ⟨B,1,none⟩ (.slice a' (sn+1) cap))/\bJ w k0.r (.slice kA kn kc)/\bJ w k0.s (.slice a' (sn+1) cap) /\
  ∀ z∈Z++[(⟨fin,out,aA,ai,ac,arcs⟩:SV)],z∈k0.Z\/(0<z.n->∀ g,aQ z.A=some g->w.heap.size<=g):=by
 have ok:=h0.ok.quiet T
 have b0:=h0.b0.touch T (λf=>f)
 have b1:=h0.b1.touch T (λf=>f)
 have own:=aD h0.own T (λ_ _ f=>f)
 have hwv:w.heap.size<=v.heap.size:=qJa h0.touch.size T.size
 have hr:v.ownsRow 0 170 3 (.slice sA sn sc) sn (dY Z):=ok.s
 have Tg:aC (S6 (.slice sA sn sc) B) v v4:=(iQ hg).mono (λ_ _ h=>.inl h)
 have T6:aC (S6 (.slice sA sn sc) B) v (v4.setCell ⟨B,1,none⟩ (.slice a' (sn+1) cap)):=Tg.setCell (p:=⟨B,1,none⟩) (λ_=>.inr rfl) _
 have hn6:∀ t,t ≠ 170 -> t ≠ 229 -> ∀ g,bE v g t->¬ S6 (.slice sA sn sc) B g:=by
  rintro t h1 h2 g hg (e | e)
  ·exact hg.ne (aH hr e) h1 rfl
  ·exact hg.ne (aF b0) h2 e
 have hb0:aL v4 B 229 #[.slice kA kn kc,.slice sA sn sc]:=b0.grown hg (λe=>(aH hr e.symm).ne (aF b0) (by decide) rfl)
 have own6:=aD own T6 (λg e=>hn6 _ (by decide) (by decide) g (aH own e))
 refine⟨⟨?_,ok.rl,?_,?_,?_,?_⟩,?_,?_,?_,h0.fr,h0.fs.up hf hwv,?_⟩
 ·exact aD ok.r T6 (λg e=>hn6 _ (by decide) (by decide) g (aH ok.r e))
 ·exact λx hx=>⟨(ok.re x hx).1.touch T6 (hn6 _ (by decide) (by decide)) (hn6 _ (by decide) (by decide)),(ok.re x hx).2⟩
 ·show World.ownsRow _ _ _ _ _ _ (dY (Z++[_]))
  rw[zT]
  refine aD (S:=λx=>x=B) hown ((aC.refl (λx=>x=B) _).setCell (p:=⟨B,1,none⟩) (λ_=>rfl) _) ?_
  intro g e e2
  exact (aH hown e).ne (aF hb0) (by decide) e2
 ·show (Z++[_]).length=sn+1
  rw[qXb,ok.sl];rfl
 ·intro z hz
  rcases List.mem_append.1 hz with h | h
  ·exact (ok.se z h).touch T6 (hn6 _ (by decide) (by decide))
  ·rw[qZd] at h
   subst h
   exact⟨h0.al,fM.of_own own6,(cT own6).1,(cT own6).2⟩
 ·simpa using hb0.set_ 1 (.slice a' (sn+1) cap)
 ·refine b1.touch T6 ?_
  rintro (e | e)
  ·exact (aH hr e).ne (aF b1) (by decide) rfl
  ·omega
 ·refine (h0.touch.then (T.up _)).trans T6 ?_
  rintro g hgl (e | e)
  ·rcases h0.fs with e2 | ⟨g',e2,hg'⟩
   ·exact .inr (e2.symm.trans e)
   ·have:g'=g:=Option.some.inj (e2.symm.trans e)
    omega
  ·omega
 ·intro z hz
  rcases List.mem_append.1 hz with h | h
  ·exact h0.zs z h
  ·rw[qZd] at h
   subst h
   refine .inr λhn g e=>?_
   simp only at e hn
   cases hA:aA with
   | none =>
    rw[hA] at e
    cases e
   | some a =>
    have hsp:∃ g2,aA=some ⟨g2,0,none⟩:=by
     obtain⟨g2,_,e2,_⟩:=iM h0.own (by omega)
     injection e2 with e2
     exact⟨g2,e2⟩
    obtain⟨g2,rfl⟩:=hsp
    have e3:g2=g:=Option.some.inj e
    subst e3
    exact h0.af g2 rfl
end Go.Proofs.YthockgmbooefpaaGreatDoor
