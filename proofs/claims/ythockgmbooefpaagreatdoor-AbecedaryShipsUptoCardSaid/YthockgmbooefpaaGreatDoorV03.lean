/- What the law rests on, part 3. No condition but those that each theorem names. -/
import Derived.Test.YthockgmbooefpaaGreatDoorV02
import Derived.Deep.RegionHeld3
import Derived.Deep.RegionLaw
import Derived.Deep.DrawnRows
import Derived.BigRegion
import Derived.ChangeKeysEq
import Derived.Test.YthockgmbooefpaaGreatDoorV00
import Derived.RangeFuncNested
import Derived.RangeFuncBound
import Derived.RangeFuncCalls
import Derived.RangeFuncLeaves
import Derived.Shelf.Abstract
import Derived.Shelf.RegionOpen
import Derived.WalkKit
import Derived.OwnWalkIn
import Derived.TacticsInMore
import Derived.LoopNIn
import Derived.LoopIn
import Derived.Laws.BytesArg
set_option linter.unusedSectionVars false
set_option linter.unusedSimpArgs false
set_option linter.unusedVariables false
set_option maxRecDepth 100000
set_option maxHeartbeats 8000000
namespace Go.Proofs.YthockgmbooefpaaGreatDoor
open IntWalk renaming i64_in → qJb
open List renaming replicate → qQa, getD → qZa, setIfInBounds_toArray → qJa, set_cons_succ → qQb, set_cons_zero → qZb, length_take → qQc, getElem?_eq_none → qZc, range → qXc, length → qJc, map_cons → qQd, map_nil → qZd, mem_cons → qXd, not_mem_nil → qJd, take_of_length_le → qQe, toArray → qZe, append_toArray → qJe, cons_append → qQf, length_cons → qZf, length_nil → qXf, nil_append → qJf, push_toArray → qQg, size_toArray → qZg, length_replicate → qXh
open Nat renaming le_refl → qXa, le_trans → qXb, zero_add → qXe, min_eq_left → qXg, reduceAdd → qJg, reduceSub → qQh
variable{cs:Array Value}{X:List Nat}{b c g n o:Nat}{A:Option Addr}{t:TypeId}{w w':World}
open Go.RowKit
def Fh(x:Nat):Value:=.int .u8 (x:Int)
def cB(s:List Nat):Array Value:=((qXc 25).map λj=>Fh (s.getD j 0)).toArray
theorem eN(s:List Nat):(cB s).size=25:=by simp[cB]
theorem fM(s:List Nat)(j:Nat)(hj:j<25):(cB s)[j]? = some (Fh (s.getD j 0)):=by
 simp[cB,hj]
theorem rD:cB []=#[.int .u8 0,.int .u8 0,.int .u8 0,.int .u8 0,.int .u8 0,.int .u8 0,.int .u8 0,.int .u8 0,.int .u8 0,.int .u8 0,.int .u8 0,.int .u8 0,.int .u8 0,.int .u8 0,.int .u8 0,.int .u8 0,.int .u8 0,.int .u8 0,.int .u8 0,.int .u8 0,.int .u8 0,.int .u8 0,.int .u8 0,.int .u8 0,.int .u8 0]:=rfl
theorem oQ(l:List Nat)(x:Nat)(h:l.length<25):(cB l).setIfInBounds l.length (Fh x)=cB (l++[x]):=by
 apply Array.ext_getElem?
 intro j
 rw[Array.getElem?_setIfInBounds]
 by_cases hj:j<25
 ·rw[fM _ _ hj,eN]
  by_cases e:l.length=j
  ·subst e
   rw[if_pos rfl,if_pos h,fM _ _ hj]
   simp[qZa,Fh]
  ·rw[if_neg e,fM _ _ hj]
   congr 2
   by_cases h1:j<l.length
   ·simp[qZa,h1,List.getElem?_append_left]
   ·have h2:l.length<j:=by omega
    simp only[qZa]
    rw[qZc (by omega),qZc (by simp;omega)]
 ·have h1:(cB (l++[x])).size<=j:=by rw[eN];omega
  have h2:(cB l).size<=j:=by rw[eN];omega
  rw[Array.getElem?_eq_none h1,Array.getElem?_eq_none h2,if_neg (by omega)]
def bM(o:Nat)(s:List Nat):List Nat:=s.map (min · o)
theorem kJ(o:Nat)(s:List Nat):(bM o s).length=s.length:=by simp[bM]
theorem fJ(o:Nat)(s:List Nat)(j:Nat)(hj:j<s.length):(bM o s).getD j 0=min (s.getD j 0) o:=by simp[bM,qZa,hj]
theorem Bj(o:Nat)(s:List Nat):bM o (bM o s)=bM o s:=by
 simp only[bM,List.map_map]
 apply List.map_congr_left
 intro x _
 simp[Function.comp]
theorem iH{S:Nat->Prop}(hb:b<w.heap.size->S b):∀ (vs:List Value) (o:Nat) (w':World),aC S w w'->aC S w (w'.setCells b o vs)
 | [],_,_,h=>h
 | v :: r,o,w',h=>iH hb r (o+1) _ (h.setCell (p:=⟨b,o,none⟩) hb v)
theorem uG:∀ (vs:List Value) (o:Nat) (w:World) (cs:Array Value),aL w g t cs->∃ cs',aL (w.setCells g o vs) g t cs'/\cs'.size=cs.size
 | [],_,_,cs,h=>⟨cs,h,rfl⟩
 | v :: r,o,w,cs,h=>by
  obtain⟨cs',h1,h2⟩:=uG r (o+1) _ _ (h.set_ o v)
  exact⟨cs',h1,by rw[h2];simp⟩
theorem aL.range(h:aL w g t cs):w.rangeAt g 0 cs.toList:=λj v hv=>by
 rw[qXe,h.cell]
 simpa using hv
theorem aL.there(h:aL w g t cs)(hn:n<=cs.size):w.there g 0 n:=λj hj=>by
 rw[qXe,h.cell]
 exact⟨by simp;omega,h.frozen j⟩
theorem aL.setAll{ds:Array Value}(h:aL w g t cs)(hs:ds.size=cs.size):aL (w.setCells g 0 ds.toList) g t ds:=by
 obtain⟨cs',h1,h2⟩:=uG ds.toList 0 w cs h
 have e:cs'=ds:=by
  apply Array.ext_getElem?
  intro j
  rw[<-h1.cell j]
  by_cases hj:j<ds.size
  ·have:=World.cell?_setCells_in g ds.toList 0 w (λi hi=>((h.there (Nat.le_of_eq hs)) i (by simpa using hi)).1) j (by simpa using hj)
   rw[qXe] at this
   rw[this]
   simp[hj]
  ·rw[h1.cell,Array.getElem?_eq_none (by omega),Array.getElem?_eq_none (by omega)]
 rw[e] at h1
 exact h1
theorem jH:(Tryz.prog.info? 181).map (·.size)=some 25:=by kernel_rfl
theorem aDr(s:List Nat):(cB s).all (·.oneCell')=true:=by
 rw[Array.all_eq_true_iff_forall_mem]
 intro v hv
 simp only[cB,List.mem_toArray,List.mem_map] at hv
 obtain⟨j,_,rfl⟩:=hv
 rfl
theorem gK{ops:Array Oper}{rest:List Oper}{op:Oper}{a:Act}{Q:Exit->Act->World->Prop}(hgd:op.guard=none)(x:Operand)(ho:op.op=.load 181 x)
  (b:Nat)(hx:a.eval x=.pointer (some ⟨b,0,none⟩))(s:List Nat)(hb:aL w b 181 (cB s))(h:wpList Tryz.prog ops Q rest (a.put op.dst (.agg (cB s))) w):wpList Tryz.prog ops Q (op :: rest) a w:=by
 refine wpList_load_mid (P:=Tryz.prog) hgd 181 x ho b 0 hx (cB s).toList _ hb.range Tryz.underlying181 rfl (by rw[jH];simp[eN]) ?_
 simpa using h
theorem Jq{s:List Nat}(h:aL w g 181 (cB s)):(loadVar 181 ⟨g,0,none⟩).run Tryz.prog w=.ok (.agg (cB s)) w:=by
 have:=run_loadVar_mid (P:=Tryz.prog) w g 0 181 (cB s).toList _ h.range Tryz.underlying181 rfl (by rw[jH];simp[eN])
 simpa using this
theorem iX{ops:Array Oper}{rest:List Oper}{op:Oper}{a:Act}{Q:Exit->Act->World->Prop}(hgd:op.guard=none)(x y:Operand)(ho:op.op=.store 181 x y)
  (b:Nat)(hx:a.eval x=.pointer (some ⟨b,0,none⟩))(t:List Nat)(hy:a.eval y=.agg (cB t))(s:List Nat)(hb:aL w b 181 (cB s))(h:wpList Tryz.prog ops Q rest (a.put op.dst undef) (w.setCells b 0 (cB t).toList)):wpList Tryz.prog ops Q (op :: rest) a w :=
 wpList_store_mid (P:=Tryz.prog) hgd 181 x y ho b 0 (cB t) hx hy (hb.there (by rw[eN,eN];exact qXa _)) (by rw[jH,eN]) (aDr t) h
theorem aL.row{s:List Nat}(h:aL w g 181 (cB s))(t:List Nat):aL (w.setCells g 0 (cB t).toList) g 181 (cB t):=h.setAll (by rw[eN,eN])
theorem pG{P:Program}{fn:Func}{a:Tmp}{tmps:Array Value}{b:Addr}{v:Value}(h:fn.results=#[.cell a t])(hp:tmps.getD a undef=.pointer (some b))(hl:(loadVar t b).run P w=.ok v w) :
  (results fn tmps).run P w=.ok v w:=by
 unfold results
 rw[h]
 have hp':tmps[a]?.getD undef=.pointer (some b):=by simpa using hp
 simp[Sem.run_bind,hp',asAddr,hl]
structure rV(w:World)(b:Nat)(A:Option Addr)(n c:Nat)(X:List Nat)(o:Nat):Prop where
 blk:aL w b 252 (#[.slice A n c,Fh o]++cB (qQa (n+1) o))
 rd:gL w 21 1 A n (X.map fF)
 len:X.length=n
 few:n<=24
 o1:1<=o
 o2:o<=4
theorem rV.quiet(h:rV w b A n c X o)(T:aC (λ_=>False) w w'):rV w' b A n c X o :=
 ⟨h.blk.touch T (λf=>f),h.rd.quiet T,h.len,h.few,h.o1,h.o2⟩
theorem rV.cells(h:rV w b A n c X o) :
  w.cell? ⟨b,0,none⟩=some (.slice A n c)/\w.cell? ⟨b,1,none⟩=some (.int .u8 (o:Int))/\b<w.heap.size:=by
 have h0:=h.blk.cell 0
 have h1:=h.blk.cell 1
 refine⟨?_,?_,h.blk.lt⟩
 ·rw[h0,Array.getElem?_append_left (by simp)];rfl
 ·rw[h1,Array.getElem?_append_left (by simp)];rfl
theorem Tz(w:World)(b:Nat)(A:Option Addr)(n c:Nat)(X:List Nat)(o:Nat)(h:rV w b A n c X o)(s:List Nat)(hs:s.length=n+1) :
  Calls Tryz.prog 146 #[.pointer (some ⟨b,0,none⟩),.agg (cB s)] w λe w'=>e=.returned (.agg (cB (bM o s)))/\aC (λ_=>False) w w':=by
 obtain⟨x0,x1,x2⟩:=h.cells
 have H:=aB h
 have HSL:=aB hs
 have hn:(n:Int)<=24:=by have:=h.few;omega
 clear h hs
 obtain⟨wa,hwa⟩:=eX (((w.alloc (.cells (cB s) 181)).alloc (.cells (cB []) 181)).alloc (.cells (cB []) 181))
 have hTa:aC (λ_=>False) w wa:=by rw[hwa];exact (((aC.refl _ _).alloc _).alloc _).alloc _
 have hb3:aL wa w.heap.size 181 (cB s):=by rw[hwa];exact ((aL.new _ _ _).alloc _).alloc _
 have hb4:aL wa (w.heap.size+1) 181 (cB []):=by rw[hwa];exact (iA _ _ _ _).alloc _
 have hb5:aL wa (w.heap.size+1+1) 181 (cB []):=by rw[hwa];exact Ba _ _ _ _ _
 have HWA:=aB hwa
 have HTA:=aB hTa
 have HB3:=aB hb3
 have HB4:=aB hb4
 have HB5:=aB hb5
 have HLA:=aB (H.quiet hTa)
 clear hwa hTa hb3 hb4 hb5
 go_in
 go_upto_region 2 with fail
 rw[<-rD,<-HWA.out]
 obtain⟨b3,h3⟩:=eX w.heap.size
 obtain⟨b4,h4⟩:=eX (w.heap.size+1)
 obtain⟨b5,h5⟩:=eX (w.heap.size+1+1)
 rw[<-h5,<-h4,<-h3]
 rw[<-h3] at HB3
 rw[<-h4] at HB4
 rw[<-h5] at HB5
 have HE:=aB (And.intro h3 (And.intro h4 h5))
 clear h3 h4 h5 x0 x1 x2
 obtain⟨x0,x1,x2⟩:=HLA.cells
 go_wp2_with fail
 go_loopw [6,13] (λ_ iv wr=>∃ (k:Nat),iv=.int .i64 k/\k<=n+1/\Hid (aL wr b5 181 (cB ((bM o s).take k)))/\Hid (aC (λg=>g=b5) wa wr)) (λ_ iv _=>n+1-(intOf iv).toNat)
 case atStart=>exact⟨0,rfl,by omega,HB5,aB (aC.refl _ _)⟩
 case round =>
  obtain⟨k,rfl,hk,HB,HT⟩:=hrel
  have hne3:b3≠b5:=by have:=HE.out;omega
  have hbb5:b≠b5:=HLA.blk.ne_ HB5 (by decide)
  by_cases hkn:k<=n
  ·have y1:(k:Int)<(n:Int)+1:=by omega
   have y2:(0:Int)<=(k:Int):=by omega
   have y3:(k:Int)<25:=by omega
   have y4:IntKind.i64.wrap ((k:Int)+1)=(k:Int)+1:=qJb _ (by omega)
   have hb3:=HB3.touch HT hne3
   have hlev:aL wr b _ _:=HLA.blk.touch HT hbb5
   have c3:wr.cell? ⟨b3,k,none⟩=some (.int .u8 (s.getD k 0:Int)):=by rw[hb3.cell];exact fM _ _ (by omega)
   have c5:wr.cell? ⟨b5,k,none⟩=some (.int .u8 (((bM o s).take k).getD k 0:Int)):=by rw[HB.cell];exact fM _ _ (by omega)
   have c1:wr.cell? ⟨b,1,none⟩=some (.int .u8 (o:Int)):=by rw[hlev.cell,Array.getElem?_append_left (by simp)];rfl
   have l3:=hb3.lt
   have l5:=HB.lt
   have l1:=hlev.lt
   have f5:wr.frozen? ⟨b5,k,none⟩=false:=HB.frozen k
   have HK:=aB hkn
   obtain⟨v,hv⟩:=eX (s.getD k 0)
   obtain⟨u,hu⟩:=eX (((bM o s).take k).getD k 0)
   rw[<-hv] at c3
   rw[<-hu] at c5
   have HV:=aB hv
   clear hv hu hb3 hlev hkn hk x0 x1 x2
   go_wp2_with fail
   go_region
   go_wp2_with fail
   go_roundw
   ·have hl:(bM o s).length=n+1:=by rw[kJ,HSL.out]
    have hk1:=HK.out
    have hset:=oQ ((bM o s).take k) ((bM o s).getD k 0) (by rw[qQc];omega)
    rw[qQc,qXg (by omega),<-gG _ _ (by omega),fJ _ _ _ (by rw[HSL.out];omega),<-HV.out] at hset
    have hval:Value.int .u8 (if o<v then (o:Int) else (v:Int))=Fh (min v o):=by
     unfold Fh
     congr 1
     split<;>omega
    refine⟨k+1,by simp,by omega,aB ?_,aB ((HT.setCell (p:=⟨b5,k,none⟩) (λ_=>rfl) _).drew)⟩
    rw[hval,<-hset]
    exact (HB.set_ k _).drew
   ·have:=HK.out
    simp only[intOf]
    omega
  ·have hke:k=n+1:=by omega
   subst hke
   have y1:¬ ((n+1:Nat):Int)<(n:Int)+1:=by omega
   have hb5:=HB.out
   rw[qQe (by rw[kJ,HSL.out];exact qXa _)] at hb5
   have h45:b4≠b5:=by have:=HE.out;omega
   have hb4:=HB4.touch HT h45
   have hv:=Jq (hb4.row (bM o s))
   have hT4:aC (λg=>g=b5\/g=b4) wa (wr.setCells b4 0 (cB (bM o s)).toList):=iH (λ_=>.inr rfl) _ _ _ (HT.mono λ_ _ e=>.inl e)
   have HV:=aB hv
   have HT4:=aB hT4
   have HB5':=aB hb5
   have HB4':=aB hb4
   clear hb5 hb4 hv hT4 hkn hk h45 hbb5 hne3
   go_wp2_with (first | (refine gK rfl (.tmp 5) rfl b5 rfl _ HB5' ?_) | (refine iX rfl (.tmp 4) (.tmp 27) rfl b4 rfl (bM o s) rfl _ HB4' ?_))
   refine bodyPost_ret (v:=.agg (cB (bM o s))) (pG rfl rfl HV) rfl ⟨rfl,HTA.trans HT4 λi hi e=>?_⟩
   have:=HE.out
   omega
theorem rT(x:Int)(h0:0<=x)(h1:x<=255):IntKind.u8.wrap x=x:=by
 unfold IntKind.wrap
 simp[IntKind.bits,IntKind.signed]
 omega
theorem aEl(X s:List Nat)(o r n:Nat)(hX:X.length=n)(hs:s.length=n+1) :
  (bM o (dP X s r)).length=n+1/\(bM o (dP X s r)).getD 0 0=min ((bM o s).getD 0 0+1) o /\
  ∀ j,j<n->(bM o (dP X s r)).getD (j+1) 0=min (min (min ((bM o s).getD j 0+if X.getD j 0=r then 0 else 1) ((bM o s).getD (j+1) 0+1)) ((bM o (dP X s r)).getD j 0+1)) o:=by
 have hl:(dP X s r).length=n+1:=by rw[jV r (by omega),hX]
 refine⟨by rw[kJ,hl],?_,λj hj=>?_⟩
 ·rw[fJ _ _ _ (by omega),fJ _ _ _ (by omega)]
  have:(dP X s r).getD 0 0=s.getD 0 0+1:=by
   unfold dP
   cases s<;>simp
  omega
 ·rw[fJ _ _ _ (by omega),fJ _ _ _ (by omega),fJ _ _ _ (by omega),fJ _ _ _ (by omega),Ia r (by omega) (by omega)]
  split<;>omega
theorem Qh(o:Nat)(s:List Nat)(j:Nat):(bM o s).getD j 0<=o:=by
 by_cases hj:j<s.length
 ·rw[fJ _ _ _ hj];omega
 ·simp[qZa,bM,qZc (Nat.le_of_not_lt hj)]
theorem aAx(w:World)(b:Nat)(A:Option Addr)(n c:Nat)(X:List Nat)(o:Nat)(h:rV w b A n c X o)(s:List Nat)(hs:s.length=n+1) :
  Calls Tryz.prog 92 #[.pointer (some ⟨b,0,none⟩),.agg (cB (bM o s))] w λe w'=>e=.returned (.tuple #[.int .i64 (if s.getD n 0<o then (s.getD n 0:Int) else 0),.bool (decide (s.getD n 0<o))])/\aC (λ_=>False) w w':=by
 obtain⟨x0,x1,x2⟩:=h.cells
 have hn:=h.few
 have ho1:=h.o1
 have ho2:=h.o2
 have y0:(0:Int)<=(n:Int):=by omega
 have y1:(n:Int)<25:=by omega
 have y5:((bM o s).getD n 0:Int)<=4:=by have:=Qh o s n;omega
 have hg:=fJ o s n (by omega)
 obtain⟨v,hv⟩:=eX (s.getD n 0)
 obtain⟨u,hu⟩:=eX ((bM o s).getD n 0)
 rw[<-hv,<-hu] at hg
 rw[<-hu] at y5
 rw[<-hv]
 obtain⟨wa,hwa⟩:=eX (w.alloc (.cells (cB (bM o s)) 181))
 have hTa:aC (λ_=>False) w wa:=by rw[hwa];exact (aC.refl _ _).alloc _
 have hb3:aL wa w.heap.size 181 (cB (bM o s)):=by rw[hwa];exact aL.new _ _ _
 have c3:wa.cell? ⟨w.heap.size,n,none⟩=some (.int .u8 (u:Int)):=by rw[hb3.cell,hu];exact fM _ _ (by omega)
 have l3:=hb3.lt
 have hla:=h.quiet hTa
 obtain⟨b3,h3⟩:=eX w.heap.size
 rw[<-h3] at c3 l3
 have HWA:=aB hwa
 have HTA:=aB hTa
 have HLA:=aB hla
 have HS:=aB hs
 have HE:=aB h3
 clear h hs hwa hTa hb3 hla x0 x1 x2 hu hv h3
 by_cases hlt:v<o
 ·have huv:u=v:=by omega
  subst huv
  have z1:¬ (o:Int)<=(u:Int):=by omega
  have e:(decide (u<o))=true:=by simpa using hlt
  rw[if_pos hlt,e]
  clear hlt e hn ho1 ho2 hg
  go_in
  go_upto_region 1 with fail
  rw[<-HWA.out,<-HE.out]
  obtain⟨x0,x1,x2⟩:=HLA.cells
  go_wp2_with fail
  go_ret2
  exact⟨rfl,HTA⟩
 ·have huv:u=o:=by omega
  subst huv
  have z1:(u:Int)<=(u:Int):=Int.le_refl _
  have e:(decide (v<u))=false:=by simpa using hlt
  rw[if_neg hlt,e]
  clear hlt e hn ho1 ho2 hg
  go_in
  go_upto_region 1 with fail
  rw[<-HWA.out,<-HE.out]
  obtain⟨x0,x1,x2⟩:=HLA.cells
  go_wp2_with fail
  go_ret2
  exact⟨rfl,HTA⟩
theorem Za(w:World)(b:Nat)(A:Option Addr)(n c:Nat)(X:List Nat)(o:Nat)(h:rV w b A n c X o) :
  Calls Tryz.prog 100 #[.pointer (some ⟨b,0,none⟩)] w λe w'=>e=.returned (.agg (cB (bM o (qXc (n+1)))))/\aC (λ_=>False) w w':=by
 obtain⟨S0,hS0⟩:=eX (qXc (n+1))
 have HS0:Hid (S0.length=n+1):=aB (by rw[hS0,List.length_range])
 have HS1:Hid (∀ k,k<n+1->S0.getD k 0=k):=aB (λk hk=>by rw[hS0];simp[qZa,hk])
 rw[<-hS0]
 clear hS0
 have H:=aB h
 have hn:(n:Int)<=24:=by have:=h.few;omega
 obtain⟨wa,hwa⟩:=eX ((w.alloc (.cells (cB []) 181)).alloc (.cells (cB []) 181))
 have hTa:aC (λ_=>False) w wa:=by rw[hwa];exact ((aC.refl _ _).alloc _).alloc _
 have hb2:aL wa w.heap.size 181 (cB []):=by rw[hwa];exact (aL.new _ _ _).alloc _
 have hb3:aL wa (w.heap.size+1) 181 (cB []):=by rw[hwa];exact iA _ _ _ _
 have HWA:=aB hwa
 have HTA:=aB hTa
 have HB2:=aB hb2
 have HB3:=aB hb3
 have HLA:=aB (h.quiet hTa)
 clear h hwa hTa hb2 hb3
 go_in
 go_upto_region 2 with fail
 rw[<-rD,<-HWA.out]
 obtain⟨b2,h2⟩:=eX w.heap.size
 obtain⟨b3,h3⟩:=eX (w.heap.size+1)
 rw[<-h3,<-h2]
 rw[<-h2] at HB2
 rw[<-h3] at HB3
 have HE:=aB (And.intro h2 h3)
 clear h2 h3
 obtain⟨x0,x1,x2⟩:=HLA.cells
 go_wp2_with fail
 go_loopw [4,11] (λ_ iv wr=>∃ (k:Nat),iv=.int .i64 k/\k<=n+1/\Hid (aL wr b3 181 (cB ((bM o S0).take k)))/\Hid (aC (λg=>g=b3) wa wr)) (λ_ iv _=>n+1-(intOf iv).toNat)
 case atStart=>exact⟨0,rfl,by omega,HB3,aB (aC.refl _ _)⟩
 case round =>
  obtain⟨k,rfl,hk,HB,HT⟩:=hrel
  have hbb3:b≠b3:=HLA.blk.ne_ HB3 (by decide)
  by_cases hkn:k<=n
  ·have y1:(k:Int)<(n:Int)+1:=by omega
   have y2:(0:Int)<=(k:Int):=by omega
   have y3:(k:Int)<25:=by omega
   have y4:IntKind.i64.wrap ((k:Int)+1)=(k:Int)+1:=qJb _ (by omega)
   have hlev:aL wr b _ _:=HLA.blk.touch HT hbb3
   have c3:wr.cell? ⟨b3,k,none⟩=some (.int .u8 (((bM o S0).take k).getD k 0:Int)):=by rw[HB.cell];exact fM _ _ (by omega)
   have c1:wr.cell? ⟨b,1,none⟩=some (.int .u8 (o:Int)):=by rw[hlev.cell,Array.getElem?_append_left (by simp)];rfl
   have l3:=HB.lt
   have l1:=hlev.lt
   have f3:wr.frozen? ⟨b3,k,none⟩=false:=HB.frozen k
   have HK:=aB hkn
   have ho:=HLA.o2
   obtain⟨u,hu⟩:=eX (((bM o S0).take k).getD k 0)
   rw[<-hu] at c3
   clear hu hlev hkn hk x0 x1 x2
   go_wp2_with fail
   all_goals
    go_roundw
    ·have hl:(bM o S0).length=n+1:=by rw[kJ,HS0.out]
     have hk1:=HK.out
     have hset:=oQ ((bM o S0).take k) ((bM o S0).getD k 0) (by rw[qQc];omega)
     have hrk:S0.getD k 0=k:=HS1.out k (by omega)
     rw[qQc,qXg (by omega),<-gG _ _ (by omega),fJ _ _ _ (by rw[HS0.out];omega),hrk] at hset
     refine⟨k+1,by simp,by omega,aB ?_,aB (HT.setCell (p:=⟨b3,k,none⟩) (λ_=>rfl) _)⟩
     have hv:Fh (min k o)=.int .u8 (if o<k then (o:Int) else (k:Int)):=by
      unfold Fh
      congr 1
      split<;>omega
     rw[hv] at hset
     rw[<-hset]
     exact HB.set_ k _
    ·have:=HK.out
     simp only[intOf]
     omega
  ·have hke:k=n+1:=by omega
   subst hke
   have y1:¬ ((n+1:Nat):Int)<(n:Int)+1:=by omega
   have hb3:=HB.out
   rw[qQe (by rw[kJ,HS0.out];exact qXa _)] at hb3
   have h23:b2≠b3:=by have:=HE.out;omega
   have hb2:=HB2.touch HT h23
   have hv:=Jq (hb2.row (bM o S0))
   have hT4:aC (λg=>g=b3\/g=b2) wa (wr.setCells b2 0 (cB (bM o S0)).toList):=iH (λ_=>.inr rfl) _ _ _ (HT.mono λ_ _ e=>.inl e)
   have HV:=aB hv
   have HT4:=aB hT4
   have HB3':=aB hb3
   have HB2':=aB hb2
   clear hb3 hb2 hv hT4 hkn hk h23 hbb3
   go_wp2_with (first | (refine gK rfl (.tmp 3) rfl b3 rfl _ HB3' ?_) | (refine iX rfl (.tmp 2) (.tmp 25) rfl b2 rfl (bM o S0) rfl _ HB2' ?_))
   refine bodyPost_ret (v:=.agg (cB (bM o S0))) (pG rfl rfl HV) rfl ⟨rfl,HTA.trans HT4 λi hi e=>?_⟩
   have:=HE.out
   omega
theorem Ht(d:Nat)(w:World)(s t:List Nat):∀ is:List Nat,(∀ i∈is,i<25)->(Op.eqItems (d+1) 5 1 (cB s) (cB t) is).run Tryz.prog w=.ok (is.all λi=>decide (s.getD i 0=t.getD i 0)) w
 | [],_=>by simp[Op.eqItems]
 | i :: is,h=>by
  have hi:=h i List.mem_cons_self
  have ih:=Ht d w s t is λj hj=>h j (List.mem_cons_of_mem _ hj)
  have p1:∀ u:List Nat,(part 5 (cB u) (i*1)).run Tryz.prog w=.ok (Fh (u.getD i 0)) w:=λu=>by
   have:=fM u i hi
   simp[part,go_sem,this]
  simp only[Op.eqItems,Sem.run_bind,p1,Result.andThen_ok]
  rw[show (Op.equalIn (d+1) 5 (Fh (s.getD i 0)) (Fh (t.getD i 0))).run Tryz.prog w=.ok (((s.getD i 0:Nat):Int) == ((t.getD i 0:Nat):Int)) w from run_equalIn_int w d _ _ .u8 _ _ Tryz.underlying5]
  simp only[Result.andThen_ok,List.all_cons]
  generalize s.getD i 0=a
  generalize t.getD i 0=b
  by_cases e:a=b
  ·subst e
   have e':¬ ((!((a:Int) == (a:Int)))=true):=by simp
   rw[if_neg e',ih]
   simp
  ·have e':(!((a:Int) == (b:Int)))=true:=by simp;omega
   rw[if_pos e',decide_eq_false e]
   simp
theorem Vi:∃ i,Tryz.prog.info? 5 = some i:=by
 have h:(Tryz.prog.info? 5).isSome=true:=by kernel_rfl
 exact Option.isSome_iff_exists.1 h
def Aj(s t:List Nat):Bool:=(qXc 25).all λi=>decide (s.getD i 0=t.getD i 0)
theorem Ys(w:World)(s t:List Nat):(Op.equalIn 10000 181 (.agg (cB s)) (.agg (cB t))).run Tryz.prog w=.ok (Aj s t) w:=by
 obtain⟨i,hi⟩:=Vi
 have h:=run_equalIn_array (P:=Tryz.prog) (w:=w) 9999 (cB s) (cB t) Tryz.underlying181 hi
 rw[h]
 have hc:Tryz.prog.cellsOf 5 = 1:=by kernel_rfl
 rw[hc]
 exact Ht 9998 w s t _ λi hi=>by simpa using hi
theorem Yw(o n:Nat)(s:List Nat)(hs:s.length=n+1)(hn:n<=24):Aj (bM o s) (qQa (n+1) o)=s.all λx=>decide (o<=x):=by
 rw[Bool.eq_iff_iff]
 simp only[Aj,List.all_eq_true,decide_eq_true_eq,List.mem_range]
 constructor
 ·intro h x hx
  obtain⟨j,hj,rfl⟩:=List.mem_iff_getElem.1 hx
  have h1:=h j (by omega)
  rw[fJ _ _ _ hj] at h1
  have e1:s.getD j 0=s[j]:=by simp[qZa,hj]
  have e2:(qQa (n+1) o).getD j 0=o:=by simp[qZa,show j<n+1 by omega]
  omega
 ·intro h j hj
  by_cases hjs:j<s.length
  ·rw[fJ _ _ _ hjs]
   have e1:s.getD j 0=s[j]:=by simp[qZa,hjs]
   have e2:(qQa (n+1) o).getD j 0=o:=by simp[qZa,show j<n+1 by omega]
   have:=h s[j] (List.getElem_mem hjs)
   omega
  ·have e1:(bM o s).getD j 0=0:=by simp[qZa,bM,qZc (Nat.le_of_not_lt hjs)]
   have e2:(qQa (n+1) o).getD j 0=0:=by
    simp only[qZa]
    rw[qZc (by simp;omega)]
    rfl
   rw[e1,e2]
theorem Vq(w:World)(b:Nat)(A:Option Addr)(n c:Nat)(X:List Nat)(o:Nat)(h:rV w b A n c X o)(s:List Nat)(hs:s.length=n+1) :
  Calls Tryz.prog 91 #[.pointer (some ⟨b,0,none⟩),.agg (cB (bM o s))] w λe w'=>e=.returned (.bool (!(s.all λx=>decide (o<=x))))/\aC (λ_=>False) w w':=by
 rw[<-Yw o n s hs h.few]
 have hcut:=Bj o s
 have hD:∀ w',aC (λ_=>False) w w'->w'.rangeAt b 2 (cB (qQa (n+1) o)).toList:=λw' T=>by
  intro j v hv
  have hb:=(h.blk.touch T (λf=>f)).cell (2+j)
  rw[hb]
  simp only[Array.getElem?_toList] at hv
  rw[Array.getElem?_append_right (by simp),<-hv]
  congr 1
  simp
 obtain⟨wa,hwa⟩:=eX (w.alloc (.cells (cB (bM o s)) 181))
 have hTa:aC (λ_=>False) w wa:=by rw[hwa];exact (aC.refl _ _).alloc _
 have hb3:aL wa w.heap.size 181 (cB (bM o s)):=by rw[hwa];exact aL.new _ _ _
 obtain⟨b3,h3⟩:=eX w.heap.size
 rw[<-h3] at hb3
 have heq:∀ wx:World,(Op.equalIn 10000 181 (.agg (cB (bM o s))) (.agg (cB (qQa (n+1) o)))).run Tryz.prog wx=.ok (Aj (bM o s) (qQa (n+1) o)) wx:=λwx=>Ys wx _ _
 have HWA:=aB hwa
 have HTA:=aB hTa
 have HB3:=aB hb3
 have HH:=aB h
 have HS:=aB hs
 have HE:=aB h3
 have HD:=aB hD
 have HCUT:=aB hcut
 obtain⟨D,hDD⟩:=eX (qQa (n+1) o)
 obtain⟨S1,hS1⟩:=eX (bM o s)
 have HCL:Hid (S1.length=n+1/\bM o S1=S1):=aB (by rw[hS1];exact⟨by rw[kJ,hs],hcut⟩)
 rw[<-hDD,<-hS1] at heq
 rw[<-hDD] at HD
 rw[<-hS1] at HB3 HWA
 rw[<-hDD,<-hS1]
 obtain⟨c1,hc1⟩:∃ c,cB S1=qZe c:=⟨(cB S1).toList,by simp⟩
 obtain⟨c2,hc2⟩:∃ c,cB D=qZe c:=⟨(cB D).toList,by simp⟩
 have hi1:(Tryz.prog.info? 181).map (·.size)=some c1.length:=by
  have:=eN S1
  rw[hc1] at this
  rw[jH,<-this]
  simp
 have hi2:(Tryz.prog.info? 181).map (·.size)=some c2.length:=by
  have:=eN D
  rw[hc2] at this
  rw[jH,<-this]
  simp
 have HCU:=aB (λwx hx=>Tz wx b A n c X o hx S1 HCL.1)
 rw[HCL.2] at HCU
 rw[hc1,hc2] at heq
 rw[hc1] at HB3 HWA HCU
 rw[hc2] at HD
 rw[hc1]
 clear hwa hTa hb3 h hs h3 hD hcut hDD hS1 HCUT hc1 hc2
 go_in
 go_upto_region 1 with fail
 rw[<-HWA.out,<-HE.out]
 have hu:=Tryz.underlying181
 have hks:Hid (∀ wx,aC (λ_=>False) wa wx->wx.rangeAt b3 0 c1/\wx.rangeAt b 2 c2/\aC (λ_=>False) wa wx):=aB (λwx T=>⟨by have:=(HB3.touch T (λf=>f)).range;simpa using this,by have:=HD.out wx (HTA.then T);simpa using this,T⟩)
 refine wp_region_held_drew (S:=λwx=>wx.rangeAt b3 0 c1/\wx.rangeAt b 2 c2/\aC (λ_=>False) wa wx) (by kernel_rfl) (hks.out _ (aC.refl _ _).drew) (λhHeld=>?_)
 refine wpAnyH_take (i:=0) (v:=?v0) rfl (by kernel_rfl) (by kernel_rfl) (by kernel_rfl) (λ_ _ _ h=>h) (Or.inl ⟨by kernel_rfl,?h0⟩) hHeld ?_
 case h0=>intro w _;go_simp;with_reducible rfl
 try simp only[Act.put,qJa,qZb,qQb]
 refine wpAnyH_take (i:=1) (v:=.agg (qZe c1)) rfl (by kernel_rfl) (by kernel_rfl) (by kernel_rfl) (λ_ _ _ h=>h) (yieldsIf_load_mid (by kernel_rfl) _ _ rfl b3 0 rfl c1 _ (λw h=>h.1) hu rfl hi1) hHeld ?_
 try simp only[Act.put,qJa,qZb,qQb]
 refine wpAnyH_take (i:=3) (v:=?v3) rfl (by kernel_rfl) (by kernel_rfl) (by kernel_rfl) (λ_ _ _ h=>h) (Or.inl ⟨by kernel_rfl,?h3⟩) hHeld ?_
 case h3=>intro w _;go_simp;with_reducible rfl
 try simp only[Act.put,qJa,qZb,qQb]
 refine wpAnyH_take (i:=4) (v:=?v4) rfl (by kernel_rfl) (by kernel_rfl) (by kernel_rfl) (λ_ _ _ h=>h) (Or.inl ⟨by kernel_rfl,?h4⟩) hHeld ?_
 case h4=>intro w _;go_simp;with_reducible rfl
 try simp only[Act.put,qJa,qZb,qQb]
 refine wpAnyH_take (i:=5) (v:=?v5) rfl (by kernel_rfl) (by kernel_rfl) (by kernel_rfl) (λ_ _ _ h=>h) (Or.inl ⟨by kernel_rfl,?h5⟩) hHeld ?_
 case h5=>intro w _;go_simp;with_reducible rfl
 try simp only[Act.put,qJa,qZb,qQb]
 refine wpAnyH_take (i:=6) (v:=.agg (qZe c2)) rfl (by kernel_rfl) (by kernel_rfl) (by kernel_rfl) (λ_ _ _ h=>h) (yieldsIf_load_mid (by kernel_rfl) _ _ rfl b 2 rfl c2 _ (λw h=>h.2.1) hu rfl hi2) hHeld ?_
 try simp only[Act.put,qJa,qZb,qQb]
 refine wpAnyH_ready (rs:=[2]) (by kernel_rfl) (by simp) ?_
 refine AllReadyH.cons rfl (λK hK=>?_) AllReadyH.nil
 go_simp
 refine (HCU _ (HH.quiet (HTA.then (aC.refl _ _).drew))).mono ?_
 rintro e w' ⟨rfl,T1⟩
 have HT1:=aB T1
 go_simp
 refine hK.out _ _ (hks.out _ ((aC.refl _ _).drew.then HT1)) (λhHeld=>?_)
 clear hK K
 try simp only[Act.put,qJa,qZb,qQb]
 refine wpAnyH_take (i:=7) (v:=?v7) rfl (by kernel_rfl) (by kernel_rfl) (by kernel_rfl) (λ_ _ _ h=>h) (Or.inl ⟨by kernel_rfl,?h7⟩) hHeld ?_
 case h7=>intro w _;go_simp;with_reducible rfl
 try simp only[Act.put,qJa,qZb,qQb]
 refine wpAnyH_take (i:=8) (v:=?v8) rfl (by kernel_rfl) (by kernel_rfl) (by kernel_rfl) (λ_ _ _ h=>h) (Or.inl ⟨by kernel_rfl,?h8⟩) hHeld ?_
 case h8=>intro w _;go_simp;with_reducible rfl
 try simp only[Act.put,qJa,qZb,qQb]
 refine wpAnyH_done (by kernel_rfl) ?_ _
 go_wp2_with fail
 go_ret
 exact⟨rfl,HTA.then ((aC.refl _ _).drew.then HT1)⟩
section
def aGr(x y z u:Int):Int:=min (min (min x y) z) u
theorem Jt{P:Program}(w:World)(ts:Array TypeId)(t:TypeId)(k k1 k2 k3:IntKind)(x y z u:Int):(Builtin.min_ ts t #[.int k x,.int k1 y,.int k2 z,.int k3 u]).run P w=.ok (.int k (aGr x y z u)) w:=by
 have e:∀ a b:Int,(if b<a then b else a)=min a b:=λa b=>by
  rw[Int.min_def]
  split<;>split<;>omega
 simp[Builtin.min_,Builtin.min2,e,aGr]
attribute [local go_sem] Jt
theorem rV.touch2{S:Nat->Prop}(h:rV w b A n c X o)(T:aC S w w')(hS:∀ t,t ≠ 181 -> ∀ g,bQ w g t->¬ S g):rV w' b A n c X o :=
 ⟨h.blk.touch T (hS _ (by decide) _ (aG h.blk)),h.rd.touch T (λg hg=>hS _ (by decide) g hg),h.len,h.few,h.o1,h.o2⟩
theorem aEk(w:World)(b:Nat)(A:Option Addr)(n c:Nat)(X:List Nat)(o:Nat)(h:rV w b A n c X o)(s:List Nat)(hs:s.length=n+1)(r:Nat) :
  Calls Tryz.prog 97 #[.pointer (some ⟨b,0,none⟩),.agg (cB (bM o s)),.int .i32 (r:Int)] w λe w'=>e=.returned (.agg (cB (bM o (dP X s r))))/\aC (λ_=>False) w w':=by
 obtain⟨hTl,hT0,hTs⟩:=aEl X s o r n h.len hs
 obtain⟨TT,hTT⟩:=eX (bM o (dP X s r))
 obtain⟨S1,hS1⟩:=eX (bM o s)
 have hSl:S1.length=n+1:=by rw[hS1,kJ,hs]
 have hSi:bM o S1=S1:=by rw[hS1,Bj]
 have hSle:∀ j,S1.getD j 0<=o:=λj=>by rw[hS1];exact Qh o s j
 have hTle:∀ j,TT.getD j 0<=o:=λj=>by rw[hTT];exact Qh o _ j
 rw[<-hTT] at hTl hT0 hTs ⊢
 rw[<-hS1] at hT0 hTs ⊢
 clear hTT hS1
 obtain⟨wa,hwa⟩:=eX ((w.alloc (.cells (cB S1) 181)).alloc (.cells (cB []) 181))
 have hTa:aC (λ_=>False) w wa:=by rw[hwa];exact ((aC.refl _ _).alloc _).alloc _
 have hb4:aL wa w.heap.size 181 (cB S1):=by rw[hwa];exact (aL.new _ _ _).alloc _
 have hb6:aL wa (w.heap.size+1) 181 (cB []):=by rw[hwa];exact iA _ _ _ _
 obtain⟨b4,h4⟩:=eX w.heap.size
 obtain⟨b6,h6⟩:=eX (w.heap.size+1)
 rw[<-h4] at hb4
 rw[<-h6] at hb6
 have hla:=h.quiet hTa
 have hcu:=Tz wa b A n c X o hla S1 hSl
 rw[hSi] at hcu
 have HWA:=aB hwa
 have HTA:=aB hTa
 have HB4:=aB hb4
 have HB6:=aB hb6
 have HLA:=aB hla
 have HCU:=aB hcu
 have HE:=aB (And.intro h4 h6)
 have HSL:=aB hSl
 have HTL:=aB hTl
 have HT0:=aB hT0
 have HTS:=aB hTs
 have HSLE:=aB hSle
 have HTLE:=aB hTle
 have hn:(n:Int)<=24:=by have:=h.few;omega
 clear hwa hTa hb4 hb6 h hs h4 h6 hla hcu hSl hSi hTl hT0 hTs hSle hTle
 go_in
 go_upto_region 1 with fail
 rw[<-rD,<-HWA.out,<-HE.2,<-HE.1]
 go_wp2_with (refine gK rfl (.tmp 4) rfl b4 rfl _ HB4 ?_)
 refine HCU.mono ?_
 rintro e w1 ⟨rfl,T1⟩
 have HT1:=aB T1
 clear T1
 go_upto_region 2 with (refine iX rfl (.tmp 4) (.tmp 13) rfl b4 rfl S1 rfl _ (HB4.touch HT1 (λf=>f)) ?_)
 obtain⟨w3,hw3⟩:=eX (w1.setCells b4 0 (cB S1).toList)
 rw[<-hw3]
 have hb43:aL w3 b4 181 (cB S1):=by rw[hw3];exact (HB4.touch HT1 (λf=>f)).row S1
 have hT3:aC (λg=>g=b4) wa w3:=by rw[hw3];exact iH (S:=λg=>g=b4) (w:=wa) (b:=b4) (λ_=>rfl) _ _ _ (HT1.up _)
 have hb63:=HB6.touch hT3 (by have:=HE.out;omega)
 have hl3:rV w3 b A n c X o:=HLA.touch2 hT3 (λt ht g hg e=>hg.ne (aG HB4) ht e)
 obtain⟨w7,hw7⟩:=eX (w3.alloc (.cells (cB []) 181))
 obtain⟨b7,h7⟩:=eX w3.heap.size
 have hT7:aC (λ_=>False) w3 w7:=by rw[hw7];exact (aC.refl _ _).alloc _
 have hb7:aL w7 b7 181 (cB []):=by rw[hw7,h7];exact aL.new _ _ _
 have HW7:=aB hw7
 have HE7:=aB h7
 have HT3:=aB hT3
 have HT7:=aB hT7
 have HB7:=aB hb7
 have HB47:=aB (hb43.touch hT7 (λf=>f))
 have HB67:=aB (hb63.touch hT7 (λf=>f))
 have HL7:=aB (hl3.quiet hT7)
 have HN4:=aB (show b4<b7 by have:=hb43.lt;omega)
 have HN6:=aB (show b6<b7 by have:=hb63.lt;omega)
 clear hw3 hb43 hb63 hT3 hT7 hb7 hl3 hw7 h7
 go_upto_region 3 with fail
 rw[<-rD,<-HW7.out,<-HE7.out]
 obtain⟨x0,x1,x2⟩:=HL7.cells
 have hb:b≠b7:=HL7.blk.ne_ HB7 (by decide)
 have y1:((S1.getD 0 0:Nat):Int)<=4:=by have:=HSLE.out 0;have:=HL7.o2;omega
 have hT00:=HT0.out
 obtain⟨s0,hs0⟩:=eX (S1.getD 0 0)
 rw[<-hs0] at y1 hT00
 have c4:w7.cell? ⟨b4,0,none⟩=some (.int .u8 (s0:Int)):=by rw[HB47.cell,hs0];exact fM _ _ (by omega)
 have c7:w7.cell? ⟨b7,0,none⟩=some (.int .u8 0):=by rw[HB7.cell];rfl
 have f7:w7.frozen? ⟨b7,0,none⟩=false:=HB7.frozen 0
 have l7:=HB7.lt
 have l4:=HB47.lt
 have z1:IntKind.u8.wrap ((s0:Int)+1)=(s0:Int)+1:=rT _ (by omega) (by omega)
 have HT00:=aB hT00
 clear hs0 hT00
 go_region
 obtain⟨m0,hm0⟩:∃ m:Int,m=if (o:Int)<(s0:Int)+1 then (o:Int) else (s0:Int)+1:=⟨_,rfl⟩
 rw[<-hm0]
 obtain⟨w8,hw8⟩:=eX ((w7.setCell ⟨b7,0,none⟩ (.int .u8 m0)).drew)
 rw[<-hw8]
 have hb78:aL w8 b7 181 (cB (TT.take 1)):=by
  have h1:=HB7.set_ 0 (.int .u8 m0)
  have h2:=oQ [] (TT.getD 0 0) (by simp)
  have h3:TT.take 1=[TT.getD 0 0]:=by
   have:=gG TT 0 (by rw[HTL.out];omega)
   simpa using this
  rw[h3]
  have h4:Value.int .u8 m0=Fh (TT.getD 0 0):=by
   unfold Fh
   rw[HT00.out,hm0]
   congr 1
   split<;>omega
  rw[hw8]
  rw[h4] at h1 ⊢
  rw[show (cB []).setIfInBounds 0 (Fh (TT.getD 0 0))=cB ([]++[TT.getD 0 0]) from h2] at h1
  exact h1.drew
 have hT8:aC (λg=>g=b7) w7 w8:=by rw[hw8];exact ((aC.refl (λg=>g=b7) w7).setCell (p:=⟨b7,0,none⟩) (λ_=>rfl) _).drew
 have HW8:=aB hw8
 have HB78:=aB hb78
 have HT8:=aB hT8
 have HL8:=aB (HL7.touch2 hT8 (λt ht g hg e=>hg.ne (aG HB7) ht e))
 have HB48:=aB (HB47.touch hT8 (by have:=HN4.out;omega))
 have HB68:=aB (HB67.touch hT8 (by have:=HN6.out;omega))
 have HBB:=aB hb
 clear hw8 hm0 hb78 hT8 c4 c7 f7 l7 l4 z1 x0 x1 x2 hb
 obtain⟨x0,x1,x2⟩:=HL8.cells
 go_wp2_with fail
 clear x0 x1 x2
 go_loopw [8,9,10,28] (λ_ _ _ iv wr=>∃ (k:Nat),iv=.int .i64 k/\k<=n/\Hid (aL wr b7 181 (cB (TT.take (k+1))))/\Hid (aC (λg=>g=b7) w8 wr)) (λ_ _ _ iv _=>n-(intOf iv).toNat)
 case atStart=>exact⟨0,rfl,by omega,HB78,aB (aC.refl _ _)⟩
 case round =>
  obtain⟨k,rfl,hk,HB,HT⟩:=hrel
  have hl:=HL8.touch2 HT (λt ht g hg e=>hg.ne (aG HB78) ht e)
  have hb4:=HB48.touch HT (by have:=HN4.out;omega)
  have hb6:=HB68.touch HT (by have:=HN6.out;omega)
  by_cases hkn:k<n
  ·have y1:(k:Int)<(n:Int):=by omega
   have y2:(0:Int)<=(k:Int):=by omega
   have y3:(k:Int)<25:=by omega
   have y4:IntKind.i64.wrap ((k:Int)+1)=(k:Int)+1:=qJb _ (by omega)
   have y5:(0:Int)<=(k:Int)+1:=by omega
   have y6:(k:Int)+1<25:=by omega
   have y7:((k:Int)+1).toNat=k+1:=by omega
   obtain⟨x0,x1,x2⟩:=hl.cells
   obtain⟨g,off,hA,cr⟩:=pI hl.rd.rd hl.len k hkn
   subst hA
   have hts:=HTS.out k hkn
   have htk:(TT.take (k+1)).getD k 0=TT.getD k 0:=by simp[qZa]
   have c40:wr.cell? ⟨b4,k,none⟩=some (.int .u8 (S1.getD k 0:Int)):=by rw[hb4.cell];exact fM _ _ (by omega)
   have c41:wr.cell? ⟨b4,k+1,none⟩=some (.int .u8 (S1.getD (k+1) 0:Int)):=by rw[hb4.cell];exact fM _ _ (by omega)
   have c70:wr.cell? ⟨b7,k,none⟩=some (.int .u8 (TT.getD k 0:Int)):=by rw[HB.cell,<-htk];exact fM _ _ (by omega)
   have c71:wr.cell? ⟨b7,k+1,none⟩=some (.int .u8 ((TT.take (k+1)).getD (k+1) 0:Int)):=by rw[HB.cell];exact fM _ _ (by omega)
   have f7:wr.frozen? ⟨b7,k+1,none⟩=false:=HB.frozen (k+1)
   have l7:=HB.lt
   have l4:=hb4.lt
   have e1:((S1.getD k 0:Nat):Int)<=4:=by have:=HSLE.out k;have:=HL7.o2;omega
   have e2:((S1.getD (k+1) 0:Nat):Int)<=4:=by have:=HSLE.out (k+1);have:=HL7.o2;omega
   have e3:((TT.getD k 0:Nat):Int)<=4:=by have:=HTLE.out k;have:=HL7.o2;omega
   obtain⟨sa,hsa⟩:=eX (S1.getD k 0)
   obtain⟨sb,hsb⟩:=eX (S1.getD (k+1) 0)
   obtain⟨ta,hta⟩:=eX (TT.getD k 0)
   obtain⟨tb,htb⟩:=eX ((TT.take (k+1)).getD (k+1) 0)
   obtain⟨cc,hcc⟩:=eX (X.getD k 0)
   rw[<-hsa] at c40 e1 hts
   rw[<-hsb] at c41 e2 hts
   rw[<-hta] at c70 e3 hts
   rw[<-htb] at c71
   rw[<-hcc] at cr hts
   have z1:IntKind.u8.wrap ((sa:Int)+1)=(sa:Int)+1:=rT _ (by omega) (by omega)
   have z2:IntKind.u8.wrap ((sb:Int)+1)=(sb:Int)+1:=rT _ (by omega) (by omega)
   have z3:IntKind.u8.wrap ((ta:Int)+1)=(ta:Int)+1:=rT _ (by omega) (by omega)
   have HTSK:=aB hts
   have HK:=aB hkn
   have HEND:Hid (∀ v:Int,v=((TT.getD (k+1) 0:Nat):Int)->aL (wr.setCell ⟨b7,k+1,none⟩ (.int .u8 v)) b7 181 (cB (TT.take (k+1+1)))):=aB (by
    intro v hv
    have h1:=HB.set_ (k+1) (.int .u8 v)
    have h2:=oQ (TT.take (k+1)) (TT.getD (k+1) 0) (by rw[qQc,HTL.out];omega)
    rw[qQc,HTL.out,qXg (by omega),<-gG _ _ (by rw[HTL.out];omega)] at h2
    rw[hv] at h1 ⊢
    rw[show Value.int .u8 ((TT.getD (k+1) 0:Nat):Int)=Fh (TT.getD (k+1) 0) from rfl] at h1 ⊢
    rw[h2] at h1
    exact h1)
   clear hsa hsb hta htb hcc hts htk hkn hk hl hb4 hb6 e1 e2 e3
   by_cases hc:cc=r
   ·have q1:((cc:Int) == (r:Int))=true:=by simp;omega
    have q2:((cc:Int) != (r:Int))=false:=by simp;omega
    have HC:=aB hc
    clear hc
    go_wp2_with fail
    go_region
    go_wp2_with fail
    go_roundw
    ·refine⟨k+1,by simp,by have:=HK.out;omega,aB ((HEND _ ?_).drew),aB ((HT.setCell (p:=⟨b7,k+1,none⟩) (λ_=>rfl) _).drew)⟩
     have:=HTSK.out
     rw[if_pos HC.out] at this
     unfold aGr
     omega
    ·have:=HK.out
     simp only[intOf]
     omega
   ·have q1:((cc:Int) == (r:Int))=false:=by simp;omega
    have q2:((cc:Int) != (r:Int))=true:=by simp;omega
    have HC:=aB hc
    clear hc
    go_wp2_with fail
    go_region
    go_wp2_with fail
    go_roundw
    ·refine⟨k+1,by simp,by have:=HK.out;omega,aB ((HEND _ ?_).drew),aB ((HT.setCell (p:=⟨b7,k+1,none⟩) (λ_=>rfl) _).drew)⟩
     have:=HTSK.out
     rw[if_neg HC.out] at this
     unfold aGr
     omega
    ·have:=HK.out
     simp only[intOf]
     omega
  ·have hke:k=n:=by omega
   subst hke
   have y1:¬ (k:Int)<(k:Int):=by omega
   have hb7:=HB.out
   rw[qQe (by rw[HTL.out];exact qXa _)] at hb7
   have hv:=Jq (hb6.row TT)
   have hT6:aC (λg=>g=b7\/g=b6) w8 (wr.setCells b6 0 (cB TT).toList):=iH (S:=λg=>g=b7\/g=b6) (w:=w8) (b:=b6) (λ_=>.inr rfl) _ _ _ (HT.mono λ_ _ e=>.inl e)
   have hTT:aC (λg=>g=b4\/g=b7\/g=b6) w (wr.setCells b6 0 (cB TT).toList):=by
    refine aC.trans (T:=λg=>g=b7\/g=b6) ?_ hT6 (λi _ e=>.inr e)
    refine aC.trans (T:=λg=>g=b7) ?_ HT8 (λi _ e=>.inr (.inl e))
    refine aC.then ?_ (HT7.up _)
    refine aC.trans (HTA.up _) HT3 (λi _ e=>.inl e)
   have HV:=aB hv
   have HTT:=aB hTT
   have HB7':=aB hb7
   have HB6':=aB hb6
   clear hb7 hb4 hb6 hv hT6 hTT hkn hk hl
   go_wp2_with (first | (refine gK rfl (.tmp 7) rfl b7 rfl _ HB7' ?_) | (refine iX rfl (.tmp 6) (.tmp 60) rfl b6 rfl TT rfl _ HB6' ?_))
   refine bodyPost_ret (v:=.agg (cB TT)) (pG rfl rfl HV) rfl ⟨rfl,HTT.mono λi hi e=>?_⟩
   have h1:=HE.out
   have h2:=HE7.out
   have h3:=HT3.size
   have h4:=HTA.size
   omega
end
def nP(a:List UInt8)(k:Int):Bool:=cF a && (decide (0<=k) && decide (k<=3))
theorem Nq(w:World)(a:ByteArray)(k:Int)(ha:a.size<=9223372036854775807) :
  Calls Tryz.prog 123 #[.string a,.int .i64 k] w λe w'=>e=.returned (.bool (nP a.toList k))/\aC (λ_=>False) w w':=by
 have HR:=aB (xP w a ha)
 obtain⟨v,hv⟩:∃ v,cF a.toList=v:=⟨_,rfl⟩
 have he:nP a.toList k=(v && (decide (0<=k) && decide (k<=3))):=by unfold nP;rw[hv]
 rw[hv] at HR
 rw[he]
 clear ha hv he
 cases v with
 | false =>
  go_in
  go_wp2_with fail
  refine HR.mono ?_
  rintro e w1 ⟨rfl,T1⟩
  have HT1:=aB T1
  clear T1
  go_wp2_with fail
  go_ret
  exact⟨rfl,HT1⟩
 | true =>
  by_cases h0:0<=k
  ·by_cases h3:k<=3
   all_goals
    go_in
    go_wp2_with fail
    refine HR.mono ?_
    rintro e w1 ⟨rfl,T1⟩
    have HT1:=aB T1
    clear T1
    go_wp2_with fail
    go_ret
    exact⟨by simp[h0,h3],HT1⟩
  ·go_in
   go_wp2_with fail
   refine HR.mono ?_
   rintro e w1 ⟨rfl,T1⟩
   have HT1:=aB T1
   clear T1
   go_wp2_with fail
   go_ret
   exact⟨by simp;omega,HT1⟩
def sZ(A:Option Addr)(n c o:Nat)(s:List Nat):Array Value:=#[.slice A n c,Fh o]++cB s
theorem Xf(o:Nat):sZ none 0 0 o []=#[.slice none 0 0,.int .u8 (o:Int),.int .u8 0,.int .u8 0,.int .u8 0,.int .u8 0,.int .u8 0,.int .u8 0,.int .u8 0,.int .u8 0,.int .u8 0,.int .u8 0,.int .u8 0,.int .u8 0,.int .u8 0,.int .u8 0,.int .u8 0,.int .u8 0,.int .u8 0,.int .u8 0,.int .u8 0,.int .u8 0,.int .u8 0,.int .u8 0,.int .u8 0,.int .u8 0,.int .u8 0]:=by
 unfold sZ
 rw[rD]
 simp[Fh]
theorem Jj(A:Option Addr)(n c o:Nat)(s:List Nat):(sZ A n c o s)[0]? = some (.slice A n c)/\(sZ A n c o s)[1]? = some (.int .u8 (o:Int))/\∀ j,j<25->(sZ A n c o s)[2+j]? = some (.int .u8 ((s.getD j 0:Nat):Int)):=by
 unfold sZ
 refine⟨?_,?_,λj hj=>?_⟩
 ·rw[Array.getElem?_append_left (by simp)];rfl
 ·rw[Array.getElem?_append_left (by simp)];rfl
 ·rw[Array.getElem?_append_right (by simp)]
  have:2+j-(#[.slice A n c,Fh o]:Array Value).size=j:=by simp
  rw[this,fM _ _ hj]
  rfl
theorem Xd(A B:Option Addr)(n c m d o:Nat)(s:List Nat):(sZ A n c o s).setIfInBounds 0 (.slice B m d)=sZ B m d o s:=by
 unfold sZ
 rw[Array.setIfInBounds_append_left (by simp)]
 rfl
theorem Xe(A:Option Addr)(n c o:Nat)(s:List Nat)(j:Nat)(v:Value):(sZ A n c o s).setIfInBounds (2+j) v=#[.slice A n c,Fh o]++(cB s).setIfInBounds j v:=by
 unfold sZ
 rw[Array.setIfInBounds_append_right (by simp)]
 congr 2
 simp
theorem aGn(w:World)(hL:cV w)(a:ByteArray)(k:Int)(ha:a.size<=9223372036854775807)(hr:nP a.toList k=false) :
  Calls Tryz.prog 88 #[.string a,.int .i64 k] w λe w'=>e=.returned (.tuple #[.pointer none,.int .i64 110])/\aC (λ_=>False) w w':=by
 have HR:=aB (mQ w a ha hL)
 obtain⟨v,hv⟩:∃ v,cF a.toList=v:=⟨_,rfl⟩
 have he:(v && (decide (0<=k) && decide (k<=3)))=false:=by rw[<-hv];exact hr
 rw[hv] at HR
 clear hr hv
 cases v with
 | false =>
  clear he
  go_in
  go_wp2_with fail
  refine HR.mono ?_
  rintro e w1 ⟨rfl,T1⟩
  have HT1:=aB T1
  clear T1
  go_wp2_with fail
  go_ret2
  exact⟨rfl,HT1⟩
 | true =>
  have hk:k<0\/(¬ k<0/\3<k):=by
   simp at he
   omega
  clear he
  rcases hk with h0 | ⟨h0,h1⟩
  all_goals
   go_in
   go_wp2_with fail
   refine HR.mono ?_
   rintro e w1 ⟨rfl,T1⟩
   have HT1:=aB T1
   clear T1
   go_wp2_with fail
   go_ret2
   exact⟨rfl,HT1⟩
def aKe(w:World)(X:List Nat)(o:Nat)(e:Ending)(w':World):Prop:=∃ b A n c,e=.returned (.tuple #[.pointer (some ⟨b,0,none⟩),.int .i64 0])/\rV w' b A n c X o/\aC (λ_=>False) w w'/\w.heap.size<=b
theorem Mk(w:World)(hL:cV w)(a:ByteArray)(k:Nat)(ha:a.size<=1099511627776)(X:List Nat)(hX:bZ a.toList=some X)(hr:nP a.toList k=true) :
  Calls Tryz.prog 88 #[.string a,.int .i64 (k:Int)] w (aKe w X (k+1)):=by
 have hr0:=hr
 unfold nP at hr
 simp only[Bool.and_eq_true,decide_eq_true_eq] at hr
 obtain⟨hw,h0,h3⟩:=hr
 have HR:=aB (mQ w a (by omega) hL)
 rw[hw] at HR
 have hXl:X.length<=24:=by
  obtain⟨x,h1,_,_,h4⟩:=iI hw
  rw[hX] at h1
  injection h1 with h1
  rw[h1];exact h4
 have HXL:=aB hXl
 have HX:=aB hX
 have HL:=aB hL
 have HA:=aB ha
 have y0:(0:Int)<=(k:Int):=h0
 have y1:(k:Int)<=3:=h3
 have z1:IntKind.u8.wrap ((k:Int))=(k:Int):=rT _ (by omega) (by omega)
 have z2:IntKind.u8.wrap ((k:Int)+1)=(k:Int)+1:=rT _ (by omega) (by omega)
 clear hr0 hw hXl hX hL ha h0 h3
 go_in
 go_wp2_with fail
 refine HR.mono ?_
 rintro e w1 ⟨rfl,T1⟩
 have HT1:=aB T1
 clear T1
 go_upto_region 4 with fail
 have hk1:(k:Int)+1=((k+1:Nat):Int):=by omega
 rw[hk1,<-Xf (k+1)]
 obtain⟨wa,hwa⟩:=eX (w1.alloc (.cells (sZ none 0 0 (k+1) []) 252))
 obtain⟨b,hb⟩:=eX w1.heap.size
 rw[<-hwa,<-hb]
 have hTa:aC (λ_=>False) w wa:=by rw[hwa];exact HT1.alloc _
 have hba:aL wa b 252 (sZ none 0 0 (k+1) []):=by rw[hwa,hb];exact aL.new _ _ _
 have HBF:=aB (show w.heap.size<=b by rw[hb];exact HT1.size)
 have HTA:=aB hTa
 have HBA:=aB hba
 have HRU:=aB (lK wa a HA (cV.touch HL hTa))
 clear hk1 hwa hb hTa hba
 go_wp2_with fail
 refine HRU.mono ?_
 rintro e w2 ⟨A,n,c,O,ok,rfl,ho,hl,hs,hx⟩
 have hx2:=HX.out
 rw[hx2] at hx
 cases ok with
 | false=>simp at hx
 | true =>
  simp only[if_true,Option.some.injEq] at hx
  subst hx
  have hb2:=HBA.touch ho.touch (λf=>f)
  have c0:w2.cell? ⟨b,0,none⟩=some (.slice none 0 0):=by rw[hb2.cell];exact (Jj _ _ _ _ _).1
  have f0:w2.frozen? ⟨b,0,none⟩=false:=hb2.frozen 0
  have l0:=hb2.lt
  have HB2:=aB hb2
  have HO:=aB ho
  have HLN:=aB hl
  clear ho hl hs hb2 hx2
  go_upto_region 5 with fail
  obtain⟨w3,hw3⟩:=eX (w2.setCell ⟨b,0,none⟩ (.slice A n c))
  rw[<-hw3]
  have hb3:aL w3 b 252 (sZ A n c (k+1) []):=by
   rw[hw3]
   have:=HB2.set_ 0 (.slice A n c)
   rw[Xd] at this
   exact this
  have hT3:aC (λg=>g=b) w2 w3:=by rw[hw3];exact (aC.refl (λg=>g=b) w2).setCell (p:=⟨b,0,none⟩) (λ_=>rfl) _
  have hr3:gL w3 21 1 A n (X.map fF):=(gL.of_own HO.own).touch hT3 (λg hg e=>hg.ne (aG HB2) (by decide) e)
  have HB3:=aB hb3
  have HT3:=aB hT3
  have HR3:=aB hr3
  have d0:w3.cell? ⟨b,0,none⟩=some (.slice A n c):=by rw[hb3.cell];exact (Jj _ _ _ _ _).1
  have l3:=hb3.lt
  have hn:(n:Int)<=24:=by have:=HXL.out;have:=HLN.out;omega
  clear hw3 hb3 hT3 hr3 c0 f0 l0
  go_wp2_with fail
  clear d0 l3
  go_loopw [7,38] (λ_ iv wr=>∃ (j:Nat),iv=.int .i64 j/\j<=n+1/\Hid (aL wr b 252 (sZ A n c (k+1) (qQa j (k+1))))/\Hid (aC (λg=>g=b) w3 wr)) (λ_ iv _=>n+1-(intOf iv).toNat)
  case atStart=>exact⟨0,rfl,by omega,HB3,aB (aC.refl _ _)⟩
  case round =>
   obtain⟨j,rfl,hj,HB,HT⟩:=hrel
   by_cases hjn:j<=n
   ·have y1:(j:Int)<(n:Int)+1:=by omega
    have y2:(0:Int)<=(j:Int):=by omega
    have y3:(j:Int)<25:=by omega
    have y4:IntKind.i64.wrap ((j:Int)+1)=(j:Int)+1:=qJb _ (by omega)
    obtain⟨_,a1,a2⟩:=Jj A n c (k+1) (qQa j (k+1))
    have c1:wr.cell? ⟨b,1,none⟩=some (.int .u8 ((k+1:Nat):Int)):=by rw[HB.cell];exact a1
    have c2:wr.cell? ⟨b,2+j,none⟩=some (.int .u8 (((qQa j (k+1)).getD j 0:Nat):Int)):=by rw[HB.cell];exact a2 j (by omega)
    have f2:wr.frozen? ⟨b,2+j,none⟩=false:=HB.frozen _
    have l1:=HB.lt
    obtain⟨u,hu⟩:=eX ((qQa j (k+1)).getD j 0)
    rw[<-hu] at c2
    have HJ:=aB hjn
    clear hu a1 a2 hj hjn
    go_wp2_with fail
    go_region
    go_wp2_with fail
    go_roundw
    ·have h1:=oQ (qQa j (k+1)) (k+1) (by rw[qXh];have:=HJ.out;omega)
     rw[qXh] at h1
     have h2:=HB.set_ (2+j) (Fh (k+1))
     rw[Xe,h1,<-List.replicate_succ'] at h2
     exact⟨j+1,by simp,by have:=HJ.out;omega,aB h2.drew,aB ((HT.setCell (p:=⟨b,2+j,none⟩) (λ_=>rfl) _).drew)⟩
    ·have:=HJ.out
     simp only[intOf]
     omega
   ·have hje:j=n+1:=by omega
    subst hje
    have y1:¬ ((n+1:Nat):Int)<(n:Int)+1:=by omega
    clear hj hjn
    go_wp2_with fail
    go_ret2
    have hT:aC (λg=>g=b) w2 wr:=HT3.then HT
    refine⟨b,A,n,c,rfl,⟨HB,HR3.touch HT (λg hg e=>hg.ne (aG HB3) (by decide) e),HLN,by omega,by omega,by omega⟩,?_,HBF⟩
    refine aC.trans (HTA.then HO.touch) hT (λi hi e=>?_)
    have:=HBF.out
    omega
section
open Go.RowKit Go.Shelf
attribute [local go_sem] Oper.semAt_some
theorem zD{B:Nat}{w0 W:World}(h0:aC (λ_=>False) w0 W)(h:Below B W w')(hB:w0.heap.size<=B):aC (λ_=>False) w0 w' :=
 ⟨h.os.trans h0.os,h.tape.trans h0.tape,h.output.trans h0.output,qXb h0.size h.size,λk hk _=>(h.block k (Nat.lt_of_lt_of_le hk hB)).trans (h0.block k hk (λf=>f))⟩
def upto{α:Type}(f:Nat->α)(k:Nat):List α:=(qXc k).map f
theorem yB{α:Type}(f:Nat->α)(k:Nat):upto f (k+1)=upto f k++[f k]:=by simp[upto,List.range_succ]
theorem Pc{α:Type}(f:Nat->α)(k:Nat):(upto f k).length=k:=by simp[upto]
def mS(L:List aD)(j:Nat):Int × aD:=(((L.length-1-j:Nat):Int),L.getD (L.length-1-j) aD.zero)
def zU(x:Int × aD):Array Value:=#[.int .i64 x.1,.agg #[.string x.2.word,.int .i64 x.2.weight]]
theorem aAh(F:Fence)(n:Nat)(hf:F.fn 157)(hro:F.round=none)(hn:1<=n)(l Bs n0:Nat)(w0:World)(A:Option Addr)(len cap:Nat)(L:List aD)(hL:L.length=len)(hR:aH w0 2 A len (bK L))(hlen:len<=maxLen)(J Jx:List (Int × aD)->World->Prop)
  (hY:∀ pre x W,J pre W->pre.length<len->YieldAt F (n-1) Tryz.prog l (zU x) W λe W' =>
    (e=.returned (.bool true)/\J (pre++[x]) W'/\Below n0 W W')\/(e=.returned (.bool false)/\Jx (pre++[x]) W'))
  (W:World)(hW:aC (λ_=>False) w0 W)(hbs:Bs<n0)(hn0:w0.heap.size<=n0)(hBs:W.cell? ⟨Bs,0,none⟩=some (.slice A len cap))(h0:J [] W) :
  CallsIn F n Tryz.prog 157 #[.func (.yield l) #[] #[],.pointer (some ⟨Bs,0,none⟩)] W λe W'=>(∃ v,e=.returned v) /\
   ((∃ ys,ys=upto (mS L) len/\J ys W')\/(∃ pre,(∃ k,k<=len/\pre=upto (mS L) k)/\Jx pre W')):=by
 unfold maxLen at hlen
 have HR:=aB hR
 have HL:=aB hL
 have hw:IntKind.i64.wrap ((len:Int)-1)=(len:Int)-1:=qJb _ (by omega)
 have HST:((len:Int)-1 = -1/\len=0)\/∃ i:Nat,(len:Int)-1=(i:Int)/\len=i+1:=by
  by_cases h:len=0
  ·exact .inl ⟨by omega,h⟩
  ·exact .inr ⟨len-1,by omega,by omega⟩
 have HST:=aB HST
 clear hR hL
 refine callsIn_of_wp Tryz.func157 rfl hf ?_ hro
 simp only[Tryz.ntmps157,qZg,qZf,qXf,qJg,qQh,Array.replicate_succ,Array.replicate_zero,qQg,qJe,qJf,qQf]
 gi_wp2
 gi_loopw [3] (λiv wr=>∃ (z:Int) (k m:Nat),iv=.int .i64 z/\Hid (k+m=len)/\Hid ((z = -1/\m=0)\/∃ i:Nat,z=(i:Int)/\m=i+1)/\Hid (J (upto (mS L) k) wr)/\Hid (Below n0 W wr)) (λiv _=>(intOf iv+1).toNat)
 case atStart=>exact⟨_,0,len,rfl,aB (qXe _),HST,aB h0,aB (Below.refl _ _)⟩
 case round =>
  obtain⟨z,k,m,rfl,HK,HZ,HJ,HB⟩:=hrel
  have c1:=(HB.cell (p:=⟨Bs,0,none⟩) hbs).trans hBs
  rcases HZ.out with⟨rfl,rfl⟩ | ⟨i,rfl,rfl⟩
  ·clear HZ
   gi_wp2
   go_end0
   have hk:k=len:=by have:=HK.out;omega
   exact⟨⟨_,rfl⟩,.inl ⟨_,rfl,by rw[<-hk];exact HJ⟩⟩
  ·clear HZ
   have y0:¬ (i:Int)<0:=by omega
   have y1:(0:Int)<=(i:Int):=by omega
   have y2:i<len:=by have:=HK.out;omega
   have y3:(i:Int)<(len:Int):=by omega
   have y4:L.length-1-k=i:=by have:=HK.out;rw[HL.out];omega
   obtain⟨g,o,hA,_,a0,a1⟩:=dN (HR.touch (zD hW HB hn0) (λ_ _ f=>f)) HL.symm i y2
   subst hA
   have hbf:mS L k=((i:Int),L.getD i aD.zero):=by unfold mS;rw[y4]
   have hus:=yB (mS L) k
   rw[hbf] at hus
   obtain⟨⟨xw,xn⟩,hx⟩:∃ x,x=L.getD i aD.zero:=⟨_,rfl⟩
   rw[<-hx] at a0 a1 hus
   simp only at a0 a1
   have HUS:=aB hus
   clear hx hus hbf
   obtain⟨fn,tmps,assign,body,hy,hR⟩:=hY _ ((i:Int),⟨xw,xn⟩) wr HJ (by rw[Pc];have:=HK.out;omega)
   simp only[zU] at hy
   obtain⟨z2,hz2⟩:∃ z2:Int,(i:Int)-1=z2:=⟨_,rfl⟩
   have hw2:IntKind.i64.wrap z2=z2:=qJb _ (by omega)
   have HZ2:=aB hz2
   gi_wp2
   refine hR.mono ?_
   rintro e W3 (⟨rfl,hJ3,hk3⟩ | ⟨rfl,hJx3⟩)
   ·have HJ3:=aB hJ3
    have HK3:=aB hk3
    clear hJ3 hk3
    gi_wp2
    go_roundw
    case rel =>
     have hz2:=HZ2.out
     refine⟨z2,k+1,i,rfl,aB (by have:=HK.out;omega),aB ?_,aB (by rw[HUS.out];exact HJ3),aB (HB.trans HK3)⟩
     by_cases hi0:i=0
     ·exact .inl ⟨by omega,hi0⟩
     ·exact .inr ⟨i-1,by omega,by omega⟩
    case measure =>
     have hz2:=HZ2.out
     show (z2+1).toNat<((i:Int)+1).toNat
     omega
   ·gi_wp2
    refine bodyPost_ret (results_none rfl _ _ _) rfl ?_
    exact⟨⟨_,rfl⟩,.inr ⟨_,⟨k+1,by have:=HK.out;omega,HUS.symm⟩,hJx3⟩⟩
end
section
open Go.RowKit Go.Shelf
attribute [local go_sem] Oper.semAt_some
theorem Lf(F:Fence)(n:Nat)(hf:F.fn 110)(hro:F.round=none)(a:Option Addr)(len cap:Nat)(w:World) :
  CallsIn F n Tryz.prog 110 #[.slice a len cap] w λe w'=>e=.returned (.func (.func 157) #[] #[.pointer (some ⟨w.heap.size,0,none⟩)])/\w'=w.alloc (.cells #[.slice a len cap] 37):=by
 refine callsIn_of_wp Tryz.func110 rfl hf ?_ hro
 simp only[Tryz.ntmps110,qZg,qZf,qXf,qJg,qQh,Array.replicate_succ,Array.replicate_zero,qQg,qJe,qJf,qQf]
 gi_wp2
 go_ret
 exact⟨rfl,rfl⟩
theorem Px(F:Fence)(n:Nat)(hf:F.fn 157)(hro:F.round=none)(hn:1<=n)(Bs n0:Nat)(w0:World)(A:Option Addr)(len cap:Nat)(L:List aD)(hL:L.length=len)(hR:aH w0 2 A len (bK L))(hlen:len<=maxLen)(w:World)(hw:aC (λ_=>False) w0 w)(hbs:Bs<n0)(hn0:n0<=w.heap.size)(h00:w0.heap.size<=n0)(hc:w.cell? ⟨Bs,0,none⟩=some (.slice A len cap)) :
  SeqStopsK F n Tryz.prog 157 #[.pointer (some ⟨Bs,0,none⟩)] zU (Below n0) (λys=>ys=upto (mS L) len) (λpre=>∃ k,k<=len/\pre=upto (mS L) k) len w:=λl J Jx W hW _ _ hY h0 =>
 aAh F n hf hro hn l Bs n0 w0 A len cap L hL hR hlen J Jx hY W (zD hw hW hw.size) hbs h00 ((hW.cell (p:=⟨Bs,0,none⟩) (Nat.lt_of_lt_of_le hbs hn0)).trans hc) h0
theorem Fv(L:List aD)(w:List UInt8):∀ k,k<=L.length->(∀ p∈upto (mS L) k,¬ p.2.word.toList=w)->key w (L.drop (L.length-k))=[]:=by
 intro k
 induction k with
 | zero=>intro _ _;rw[Nat.sub_zero,List.drop_length];rfl
 | succ k ih =>
  intro hk h
  rw[yB] at h
  have h1:=ih (by omega) (λp hp=>h p (List.mem_append_left _ hp))
  have h2:=h (mS L k) (by simp)
  have e1:L.length-1-k=L.length-(k+1):=by omega
  unfold mS at h2
  rw[e1] at h2
  refine Gh (by omega) w h2 ?_
  rw[show L.length-(k+1)+1=L.length-k by omega]
  exact h1
theorem Vw(L:List aD)(w:List UInt8)(h:∀ p∈upto (mS L) L.length,¬ p.2.word.toList=w):bC w L=(0,false):=by
 have h1:=Fv L w L.length (qXa _) h
 rw[Nat.sub_self,List.drop_zero] at h1
 unfold bC
 rw[h1]
 rfl
theorem aAi(L:List aD)(w:List UInt8){k:Nat}(hk:k<=L.length){ini:List (Int × aD)}{last:Int × aD}(he:upto (mS L) k=ini++[last])(hi:∀ p∈ini,¬ p.2.word.toList=w)(hl:last.2.word.toList=w):bC w L=(last.2.weight,true):=by
 cases k with
 | zero=>simp[upto] at he
 | succ k =>
  rw[yB] at he
  obtain⟨h1,h2⟩:=List.append_inj' he rfl
  simp only[List.cons.injEq,and_true] at h2
  have h3:=Fv L w k (by omega) (by rw[h1];exact hi)
  have e1:L.length-1-k=L.length-(k+1):=by omega
  rw[<-h2] at hl ⊢
  unfold mS at hl ⊢
  rw[e1] at hl ⊢
  exact Lz (by omega) w hl (by rw[show L.length-(k+1)+1=L.length-k by omega];exact h3)
theorem aFw(F:Fence)(n:Nat)(h1f:F.fn 44)(h2f:F.fn 110)(h3f:F.fn 157)(hro:F.round=none)(hn:3<=n)(w:World)(A:Option Addr)(len cap:Nat)(L:List aD)(hL:L.length=len)(hR:aH w 2 A len (bK L))(hlen:len<=maxLen)(k:ByteArray) :
  CallsIn F n Tryz.prog 44 #[.slice A len cap,.string k] w λe w'=>e=.returned (.tuple #[.int .i64 (bC k.toList L).1,.bool (bC k.toList L).2])/\Below w.heap.size w w':=by
 have h1:1<=n:=by omega
 refine callsIn_of_wp_marks Tryz.func44 rfl h1f ?_ hro
 simp only[Tryz.ntmps44,qZg,qZf,qXf,qJg,qQh,Array.replicate_succ,Array.replicate_zero,qQg,qJe,qJf,qQf]
 gi_wp2_with (gi_at_call 110;refine (Lf F (n-1) h2f hro _ _ _ _).mono ?_;rintro e w' ⟨rfl,rfl⟩)
 have hk0:=((Boxed.new w 9 (.string k)).alloc (.cells #[.int .i64 0] 3)).alloc (.cells #[.bool false] 4) |>.alloc (.cells #[.slice A len cap] 37)
 have hk1:=((Boxed.new (w.alloc (.cells #[.string k] 9)) 3 (.int .i64 0)).alloc (.cells #[.bool false] 4)).alloc (.cells #[.slice A len cap] 37)
 have hk2:=(Boxed.new ((w.alloc (.cells #[.string k] 9)).alloc (.cells #[.int .i64 0] 3)) 4 (.bool false)).alloc (.cells #[.slice A len cap] 37)
 have hk3:=Boxed.new (((w.alloc (.cells #[.string k] 9)).alloc (.cells #[.int .i64 0] 3)).alloc (.cells #[.bool false] 4)) 37 (.slice A len cap)
 have hT0:aC (λ_=>False) w ((((w.alloc (.cells #[.string k] 9)).alloc (.cells #[.int .i64 0] 3)).alloc (.cells #[.bool false] 4)).alloc (.cells #[.slice A len cap] 37)):=((((aC.refl _ w).alloc _).alloc _).alloc _).alloc _
 have hsz:((((w.alloc (.cells #[.string k] 9)).alloc (.cells #[.int .i64 0] 3)).alloc (.cells #[.bool false] 4)).alloc (.cells #[.slice A len cap] 37)).heap.size=w.heap.size+1+1+1+1:=by simp
 simp only[World.size_alloc] at hk1 hk2 hk3
 obtain⟨W0,hW0⟩:∃ W0,(((w.alloc (.cells #[.string k] 9)).alloc (.cells #[.int .i64 0] 3)).alloc (.cells #[.bool false] 4)).alloc (.cells #[.slice A len cap] 37)=W0:=⟨_,rfl⟩
 rw[hW0] at hk0 hk1 hk2 hk3 hT0 hsz ⊢
 clear hW0
 have hB0:Below w.heap.size w W0:=hT0.below (qXa _) (λ_ _ f=>f)
 refine wpIn_rangeFunc_ownH hro h1 (gf := 157) (lb:=#[.pointer (some ⟨w.heap.size+1+1+1,0,none⟩)]) rfl h3f (enters_of Tryz.func157 (by kernel_rfl) rfl)
  (Px F (n-1) h3f hro (by omega) (w.heap.size+1+1+1) (w.heap.size+1+1+1+1) w A len cap L hL hR hlen W0 hT0 (by omega) (by omega) (by omega) hk3.cell) belowK_t (belowK_b (by omega)) (Below.refl _ _) (λ_=>rfl)
  (λpre W=>((Boxed W w.heap.size 9 (.string k)/\Boxed W (w.heap.size+1) 3 (.int .i64 0))/\(Boxed W (w.heap.size+1+1) 4 (.bool false)/\(Boxed W (w.heap.size+1+1+1) 37 (.slice A len cap)/\∀ p∈pre,¬ p.2.word.toList=k.toList)))/\Below w.heap.size w W)
  (λc pre W=>(c=.ret/\∃ ini last,pre=ini++[last]/\(∀ p∈ini,¬ p.2.word.toList=k.toList)/\last.2.word.toList=k.toList/\Boxed W (w.heap.size+1) 3 (.int .i64 last.2.weight)/\Boxed W (w.heap.size+1+1) 4 (.bool true))/\Below w.heap.size w W)
  (OwnFrom.and (OwnFrom.and (OwnFrom.and (Own.from (boxed_own _ _ _) _) (Own.from (boxed_own _ _ _) _)) (OwnFrom.and (Own.from (boxed_own _ _ _) _) (OwnFrom.and (Own.from (boxed_own _ _ _) _) (ownFrom_pure _ _)))) (ownFrom_below (qXa _) (by omega)))
  (λc=>OwnFrom.and (Own.from (λs X Y row hs hg hr=>by
    obtain⟨hc,ini,last,e1,e2,e3,e4,e5⟩:=hs
    exact⟨hc,ini,last,e1,e2,e3,boxed_own _ _ (λ(_:Unit)=>Value.int .i64 last.2.weight) () X Y row e4 hg hr,boxed_own _ _ (λ(_:Unit)=>Value.bool true) () X Y row e5 hg hr⟩) _) (ownFrom_below (qXa _) (by omega)))
  ⟨⟨⟨hk0,hk1⟩,hk2,hk3,by simp⟩,hB0⟩
  (λx a' W=>∃ Bx,w.heap.size+1+1<Bx/\(W.cell? ⟨Bx,0,none⟩=some (.string x.2.word)/\W.cell? ⟨Bx,1,none⟩=some (.int .i64 x.2.weight))/\a'={ tmps:=#[.slice A len cap,.string k,undef,.pointer (some ⟨w.heap.size,0,none⟩),.pointer (some ⟨w.heap.size+1,0,none⟩),.pointer (some ⟨w.heap.size+1+1,0,none⟩),undef,.pointer (some ⟨Bx,0,none⟩),.slice A len cap,.func (.func 157) #[] #[.pointer (some ⟨w.heap.size+1+1+1,0,none⟩)],.int .i64 x.1,.agg #[.string x.2.word,.int .i64 x.2.weight],undef,undef,undef,undef,undef,undef],defers:=[] })
  (λx a' _ X Y row hs hg hr=>by
    obtain⟨Bx,e1,e2,e3⟩:=hs
    exact⟨Bx,e1,⟨cell_kept e2.1 hg (λr e=>(hr r e).2),cell_kept e2.2 hg (λr e=>(hr r e).2)⟩,e3⟩)
  ?assign ?body ?done ?stop
 case assign =>
  rintro l pre ⟨i,⟨xw,xn⟩⟩ W K ⟨⟨⟨b0,b1⟩,b2,b3,hp⟩,hB⟩ hK
  simp only[zU]
  gi_wp2
  refine hK _ _ ((KeepsOthers.alloc _ _).from _) ((Below.refl _ W).alloc b3.lt _) ⟨⟨⟨b0.alloc _,b1.alloc _⟩,b2.alloc _,b3.alloc _,hp⟩,hB.alloc hB.size _⟩ ⟨W.heap.size,b2.lt,⟨?_,?_⟩,rfl⟩
  ·unfold World.cell?;rw[World.alloc_heap_new];rfl
  ·unfold World.cell?;rw[World.alloc_heap_new];rfl
 case body =>
  rintro l pre ⟨i,⟨xw,xn⟩⟩ a' W hl ⟨r,hr⟩ ⟨⟨⟨b0,b1⟩,b2,b3,hp⟩,hB⟩ ⟨Bx,hBx,⟨c0,c1⟩,rfl⟩ hlt
  simp only at c0 c1
  have d0:=b0.cell
  have f1:=b1.frozen
  have f2:=b2.frozen
  have d1:=b1.cell
  have d2:=b2.cell
  by_cases hk:xw.toList=k.toList
  ·have q2:(xw.toList == k.toList)=true:=by simp[hk]
   gi_wp2
   have e1:=(b1.set (.int .i64 xn)).other (B':=w.heap.size+1+1) (by omega) (.bool true)
   have e2:=(b2.other (B':=w.heap.size+1) (by omega) (.int .i64 xn)).set (.bool true)
   exact⟨((KeepsOthers.setCell _ _ _).trans (KeepsOthers.setCell _ _ _)).from _,⟨rfl,pre,(i,⟨xw,xn⟩),rfl,hp,hk,e1,e2⟩,(hB.setCell (p:=⟨w.heap.size+1,0,none⟩) (by simp) _).setCell (p:=⟨w.heap.size+1+1,0,none⟩) (by simp;omega) _⟩
  ·have q2:(xw.toList == k.toList)=false:=by simp[hk]
   have q3:decide (xw.toList=k.toList)=false:=by simp[hk]
   gi_wp2
   exact⟨KeepsFrom.refl _ _,Below.refl _ _,⟨⟨b0,b1⟩,b2,b3,λp hp'=>(List.mem_append.1 hp').elim (hp p) (λe=>by simp at e;subst e;exact hk)⟩,hB⟩
 case done =>
  rintro D ys W hD rfl ⟨⟨⟨b0,b1⟩,b2,b3,hp⟩,hB⟩ hK
  have hfm:=Vw L k.toList (by rw[hL];exact hp)
  have f1:=b1.frozen
  have f2:=b2.frozen
  have d1:=b1.cell
  have d2:=b2.cell
  gi_wp2
  have e1:=(b1.set (.int .i64 0)).other (B':=w.heap.size+1+1) (by omega) (.bool false)
  have e2:=(b2.other (B':=w.heap.size+1) (by omega) (.int .i64 0)).set (.bool false)
  have hK':=((KeepsOthers.setCell W ⟨w.heap.size+1,0,none⟩ (.int .i64 0)).trans (KeepsOthers.setCell _ ⟨w.heap.size+1+1,0,none⟩ (.bool false))).same D _ hK rfl
  refine⟨by simp,.inl ⟨_,_,rfl,run_takeDeferred hK',?_⟩⟩
  have g1:=cell_kept e1.cell (grownBy_putObj' _ D (.deferred none)) (λr e=>by cases e;exact⟨_,hK',rfl⟩)
  have g2:=cell_kept e2.cell (grownBy_putObj' _ D (.deferred none)) (λr e=>by cases e;exact⟨_,hK',rfl⟩)
  refine⟨.tuple #[.int .i64 0,.bool false],?_,by rw[hfm],((hB.setCell (p:=⟨w.heap.size+1,0,none⟩) (by simp) _).setCell (p:=⟨w.heap.size+1+1,0,none⟩) (by simp;omega) _).trans (belowK_b (w:=w) (qXa _) _ D _ _ (by omega) hK' rfl rfl)⟩
  simp[results,Tryz.f44,go_sem,g1,g2]
 case stop =>
  rintro D c pre W hD ⟨k',hk',rfl⟩ ⟨⟨rfl,ini,last,e1,e2,e3,e4,e5⟩,hB⟩ hK
  have hfm:=aAi L k.toList (by rw[hL];exact hk') e1 e2 e3
  gi_wp2
  refine⟨by simp,.inl ⟨_,_,rfl,run_takeDeferred hK,?_⟩⟩
  have g1:=cell_kept e4.cell (grownBy_putObj' _ D (.deferred none)) (λr e=>by cases e;exact⟨_,hK,rfl⟩)
  have g2:=cell_kept e5.cell (grownBy_putObj' _ D (.deferred none)) (λr e=>by cases e;exact⟨_,hK,rfl⟩)
  refine⟨.tuple #[.int .i64 last.2.weight,.bool true],?_,by rw[hfm],hB.trans (belowK_b (w:=w) (qXa _) W D _ _ (by omega) hK rfl rfl)⟩
  simp[results,Tryz.f44,go_sem,g1,g2]
theorem Hj(w:World)(A:Option Addr)(n c:Nat)(L:List aD)(hL:L.length=n)(hR:aH w 2 A n (bK L))(hn:n<=maxLen)(k:ByteArray) :
  Calls Tryz.prog 44 #[.slice A n c,.string k] w λe w'=>e=.returned (.tuple #[.int .i64 (bC k.toList L).1,.bool (bC k.toList L).2])/\aC (λ_=>False) w w' :=
 (callsIn_wide.1 (aFw Fence.wide 3 trivial trivial trivial rfl (qXa _) w A n c L hL hR hn k)).mono λ_ _ ⟨he,hb⟩=>⟨he,hb.os,hb.tape,hb.output,hb.size,λj hj _=>hb.block j hj⟩
end
theorem kD:(Tryz.prog.info? 5).map (λi=>(i.zero,i.size,i.bytes))=some (some (.int .u8 0),1,1):=by kernel_rfl
def bG(b:UInt8):Value:=.int .u8 (b.toNat:Int)
theorem Fd(O:List UInt8):∀ u∈O.map bG,u.oneCell'=true:=by
 intro u hu
 obtain⟨_,_,rfl⟩:=List.mem_map.1 hu
 rfl
theorem Fp(r:Nat)(h:r<2147483648):bits .and .i32 (r:Int) 63=((r % 64:Nat):Int):=zT 6 (by decide) r h
theorem aJg(c:Nat)(h:c<16):bits .or .i32 224 (c:Int)=224+(c:Int) :=
 bits_join .i32 31 (by decide) (λn h0 h1=>IntWalk.i32_in _ (by omega)) 5 (224:Int) (c:Int) (by omega) (by omega) (by omega) (by omega) (by omega) (by omega)
theorem aJh(c:Nat)(h:c<8):bits .or .i32 240 (c:Int)=240+(c:Int) :=
 bits_join .i32 31 (by decide) (λn h0 h1=>IntWalk.i32_in _ (by omega)) 4 (240:Int) (c:Int) (by omega) (by omega) (by omega) (by omega) (by omega) (by omega)
theorem iN{x:Nat}(h:n+x<256):bG (UInt8.ofNat (n+x))=.int .u8 ((n:Int)+(x:Int)):=kQ h
theorem aEy(w:World)(v:Value)(q:Nat)(xs:List Value)(hv:w.ownsRow 0 5 1 v q xs)(hL:cV w)(hq:q<=1099511627776)(r:Nat)(h1:r<128) :
  Calls Tryz.prog 148 #[v,.int .i32 r] w λe w'=>∃ v',e=.returned v'/\w'.ownsRow 0 5 1 v' (q+(aN r).length) (xs++(aN r).map bG)/\w.grownBy w' v.ownBlock/\cK w v v':=by
 obtain⟨ti,hi,hz0,hz1,hz2⟩:=aQ kD
 obtain⟨l0,l2,l3,l4⟩:=hL
 have h0:(0:Int)<=(r:Int):=by omega
 have hwr:(aN r).map bG=[.int .u8 (r:Int)]:=by
  unfold aN;rw[if_pos h1]
  simp only[qQd,qZd,show bG (UInt8.ofNat r)=.int .u8 (r:Int) from by unfold bG;rw[UInt8.toNat_ofNat',Nat.mod_eq_of_lt (by omega)]]
  try rfl
 have hwl:(aN r).length=1:=by have:=congrArg qJc hwr;simpa using this
 have e0:(r:Int) % 256=(r:Int):=by omega
 have i0:(r:Int)<128:=by omega
 rw[hwl,hwr]
 have HV:=aB hv
 have hrd:∀ w:World,aH (w.alloc (.cells #[.int .u8 (r:Int)] 5)) 1 (some ⟨w.heap.size,0,none⟩) 1 [.int .u8 (r:Int)]:=λw=>aH.new (size:=1) _ _ [.int .u8 (r:Int)] 1 (by simp)
 have hone:∀ u∈([.int .u8 (r:Int)]:List Value),u.oneCell'=true:=by
  intro u hu
  simp only[qXd,qJd,or_false] at hu
  rcases hu with rfl
  all_goals rfl
 have hb1:q+1<=maxLen:=by unfold maxLen;omega
 have hb2:(q+1)*1<=140737488355328:=by omega
 clear hwr hwl hv h1
 go_in
 go_wp2_with (at_builtin;refine aP _ rfl (.tmp 10) (.tmp 13) 50 rfl 5 ti _ 1 1 Tryz.underlying50 hi hz0 hz1 hz2 rfl (by decide) v q _ rfl (aF HV ((aC.refl _ _).alloc _) (λ_ _ f=>f)) (some ⟨_,0,none⟩) 1 1 [.int .u8 (r:Int)] rfl (hrd _) (λh=>by cases h) hone hb1 hb2 ?_)
 intro v4 w4 hown hgrow hfr _
 have hg1:w.grownBy w4 v.ownBlock:=⟨hgrow.os,hgrow.tape,hgrow.output,qXb (by simp) hgrow.size,λk hk hne=>(hgrow.block k (by simp;omega) hne).trans (Below.heap_alloc w _ k hk)⟩
 have hf1:cK w v v4:=by
  rcases hfr with e | ⟨g,e,hg⟩
  ·exact Or.inl e
  ·exact Or.inr ⟨g,e,qXb (by simp) hg⟩
 have HE:=aB (And.intro hown (And.intro hg1 hf1))
 clear hown hgrow hfr hg1 hf1
 go_wp2_with fail
 first
  | (go_ret;exact⟨v4,rfl,HE.1,HE.2.1,HE.2.2⟩)
  | exact bodyPost_ret (v:=v4) (by simp[results,Tryz.results148,go_sem]) rfl ⟨v4,rfl,HE.1,HE.2.1,HE.2.2⟩
theorem aEz(w:World)(v:Value)(q:Nat)(xs:List Value)(hv:w.ownsRow 0 5 1 v q xs)(hL:cV w)(hq:q<=1099511627776)(r:Nat)(h1:128<=r)(h2:r<2048) :
  Calls Tryz.prog 148 #[v,.int .i32 r] w λe w'=>∃ v',e=.returned v'/\w'.ownsRow 0 5 1 v' (q+(aN r).length) (xs++(aN r).map bG)/\w.grownBy w' v.ownBlock/\cK w v v':=by
 obtain⟨ti,hi,hz0,hz1,hz2⟩:=aQ kD
 obtain⟨l0,l2,l3,l4⟩:=hL
 have h0:(0:Int)<=(r:Int):=by omega
 obtain⟨l,hl⟩:∃ l,r % 64=l:=⟨_,rfl⟩
 obtain⟨a,ha⟩:∃ a,r / 64=a:=⟨_,rfl⟩
 have hwr:(aN r).map bG=[.int .u8 ((192:Int)+(a:Int)),.int .u8 ((128:Int)+(l:Int))]:=by
  unfold aN;rw[if_neg (by omega),if_pos h2,hl,ha]
  simp only[qQd,qZd,iN (n:=192) (x:=a) (by omega),iN (n:=128) (x:=l) (by omega)]
  try rfl
 have hwl:(aN r).length=2:=by have:=congrArg qJc hwr;simpa using this
 have f1:=Fp r (by omega)
 rw[hl] at f1
 have e2:(r:Int) / 64=(a:Int):=by omega
 have b1:l<64:=by omega
 have b2:a<32:=by omega
 have i0:¬ (r:Int)<128:=by omega
 have i1:(r:Int)<2048:=by omega
 rw[hwl,hwr]
 have HV:=aB hv
 have hrd:∀ w:World,aH (w.alloc (.cells #[.int .u8 ((192:Int)+(a:Int)),.int .u8 ((128:Int)+(l:Int))] 5)) 1 (some ⟨w.heap.size,0,none⟩) 2 [.int .u8 ((192:Int)+(a:Int)),.int .u8 ((128:Int)+(l:Int))]:=λw=>aH.new (size:=1) _ _ [.int .u8 ((192:Int)+(a:Int)),.int .u8 ((128:Int)+(l:Int))] 2 (by simp)
 have hone:∀ u∈([.int .u8 ((192:Int)+(a:Int)),.int .u8 ((128:Int)+(l:Int))]:List Value),u.oneCell'=true:=by
  intro u hu
  simp only[qXd,qJd,or_false] at hu
  rcases hu with rfl | rfl
  all_goals rfl
 have hb1:q+2<=maxLen:=by unfold maxLen;omega
 have hb2:(q+2)*1<=140737488355328:=by omega
 clear hwr hwl hv h1 hl ha
 go_in
 go_wp2_with (at_builtin;refine aP _ rfl (.tmp 20) (.tmp 29) 50 rfl 5 ti _ 1 1 Tryz.underlying50 hi hz0 hz1 hz2 rfl (by decide) v q _ rfl (aF HV ((aC.refl _ _).alloc _) (λ_ _ f=>f)) (some ⟨_,0,none⟩) 2 2 [.int .u8 ((192:Int)+(a:Int)),.int .u8 ((128:Int)+(l:Int))] rfl (hrd _) (λh=>by cases h) hone hb1 hb2 ?_)
 intro v4 w4 hown hgrow hfr _
 have hg1:w.grownBy w4 v.ownBlock:=⟨hgrow.os,hgrow.tape,hgrow.output,qXb (by simp) hgrow.size,λk hk hne=>(hgrow.block k (by simp;omega) hne).trans (Below.heap_alloc w _ k hk)⟩
 have hf1:cK w v v4:=by
  rcases hfr with e | ⟨g,e,hg⟩
  ·exact Or.inl e
  ·exact Or.inr ⟨g,e,qXb (by simp) hg⟩
 have HE:=aB (And.intro hown (And.intro hg1 hf1))
 clear hown hgrow hfr hg1 hf1
 go_wp2_with fail
 first
  | (go_ret;exact⟨v4,rfl,HE.1,HE.2.1,HE.2.2⟩)
  | exact bodyPost_ret (v:=v4) (by simp[results,Tryz.results148,go_sem]) rfl ⟨v4,rfl,HE.1,HE.2.1,HE.2.2⟩
theorem Tq(w:World)(v:Value)(q:Nat)(xs:List Value)(hv:w.ownsRow 0 5 1 v q xs)(hL:cV w)(hq:q<=1099511627776)(r:Nat)(h1:2048<=r)(h2:(r:Int)<65536) :
  Calls Tryz.prog 148 #[v,.int .i32 r] w λe w'=>∃ v',e=.returned v'/\w'.ownsRow 0 5 1 v' (q+(aN r).length) (xs++(aN r).map bG)/\w.grownBy w' v.ownBlock/\cK w v v':=by
 obtain⟨ti,hi,hz0,hz1,hz2⟩:=aQ kD
 obtain⟨l0,l2,l3,l4⟩:=hL
 have h0:(0:Int)<=(r:Int):=by omega
 obtain⟨l,hl⟩:∃ l,r % 64=l:=⟨_,rfl⟩
 obtain⟨a,ha⟩:∃ a,r / 64=a:=⟨_,rfl⟩
 obtain⟨m,hm⟩:∃ m,a % 64=m:=⟨_,rfl⟩
 obtain⟨c,hc⟩:∃ c,r / 4096=c:=⟨_,rfl⟩
 have hwr:(aN r).map bG=[.int .u8 ((224:Int)+(c:Int)),.int .u8 ((128:Int)+(m:Int)),.int .u8 ((128:Int)+(l:Int))]:=by
  unfold aN;rw[if_neg (by omega),if_neg (by omega),if_pos (by omega),hl,ha,hm,hc]
  simp only[qQd,qZd,iN (n:=224) (x:=c) (by omega),iN (n:=128) (x:=m) (by omega),iN (n:=128) (x:=l) (by omega)]
  try rfl
 have hwl:(aN r).length=3:=by have:=congrArg qJc hwr;simpa using this
 have f1:=Fp r (by omega)
 rw[hl] at f1
 have f2:=Fp a (by omega)
 rw[hm] at f2
 have e2:(r:Int) / 64=(a:Int):=by omega
 have e3:(r:Int) / 4096=(c:Int):=by omega
 have b1:l<64:=by omega
 have b2:m<64:=by omega
 have b3:c<16:=by omega
 have b4:(a:Int)<2048:=by omega
 have g1:=aJg c b3
 have g2:((224:Int)+(c:Int)) % 256=224+(c:Int):=by omega
 have i0:¬ (r:Int)<128:=by omega
 have i1:¬ (r:Int)<2048:=by omega
 rw[hwl,hwr]
 have HV:=aB hv
 have hrd:∀ w:World,aH (w.alloc (.cells #[.int .u8 ((224:Int)+(c:Int)),.int .u8 ((128:Int)+(m:Int)),.int .u8 ((128:Int)+(l:Int))] 5)) 1 (some ⟨w.heap.size,0,none⟩) 3 [.int .u8 ((224:Int)+(c:Int)),.int .u8 ((128:Int)+(m:Int)),.int .u8 ((128:Int)+(l:Int))]:=λw=>aH.new (size:=1) _ _ [.int .u8 ((224:Int)+(c:Int)),.int .u8 ((128:Int)+(m:Int)),.int .u8 ((128:Int)+(l:Int))] 3 (by simp)
 have hone:∀ u∈([.int .u8 ((224:Int)+(c:Int)),.int .u8 ((128:Int)+(m:Int)),.int .u8 ((128:Int)+(l:Int))]:List Value),u.oneCell'=true:=by
  intro u hu
  simp only[qXd,qJd,or_false] at hu
  rcases hu with rfl | rfl | rfl
  all_goals rfl
 have hb1:q+3<=maxLen:=by unfold maxLen;omega
 have hb2:(q+3)*1<=140737488355328:=by omega
 clear hwr hwl hv h1 hl ha hm hc
 go_in
 go_wp2_with (at_builtin;refine aP _ rfl (.tmp 36) (.tmp 50) 50 rfl 5 ti _ 1 1 Tryz.underlying50 hi hz0 hz1 hz2 rfl (by decide) v q _ rfl (aF HV ((aC.refl _ _).alloc _) (λ_ _ f=>f)) (some ⟨_,0,none⟩) 3 3 [.int .u8 ((224:Int)+(c:Int)),.int .u8 ((128:Int)+(m:Int)),.int .u8 ((128:Int)+(l:Int))] rfl (hrd _) (λh=>by cases h) hone hb1 hb2 ?_)
 intro v4 w4 hown hgrow hfr _
 have hg1:w.grownBy w4 v.ownBlock:=⟨hgrow.os,hgrow.tape,hgrow.output,qXb (by simp) hgrow.size,λk hk hne=>(hgrow.block k (by simp;omega) hne).trans (Below.heap_alloc w _ k hk)⟩
 have hf1:cK w v v4:=by
  rcases hfr with e | ⟨g,e,hg⟩
  ·exact Or.inl e
  ·exact Or.inr ⟨g,e,qXb (by simp) hg⟩
 have HE:=aB (And.intro hown (And.intro hg1 hf1))
 clear hown hgrow hfr hg1 hf1
 go_wp2_with fail
 first
  | (go_ret;exact⟨v4,rfl,HE.1,HE.2.1,HE.2.2⟩)
  | exact bodyPost_ret (v:=v4) (by simp[results,Tryz.results148,go_sem]) rfl ⟨v4,rfl,HE.1,HE.2.1,HE.2.2⟩
theorem Zl(w:World)(v:Value)(q:Nat)(xs:List Value)(hv:w.ownsRow 0 5 1 v q xs)(hL:cV w)(hq:q<=1099511627776)(r:Nat)(h1:(65536:Int)<=(r:Int))(h2:(r:Int)<1114112) :
  Calls Tryz.prog 148 #[v,.int .i32 r] w λe w'=>∃ v',e=.returned v'/\w'.ownsRow 0 5 1 v' (q+(aN r).length) (xs++(aN r).map bG)/\w.grownBy w' v.ownBlock/\cK w v v':=by
 obtain⟨ti,hi,hz0,hz1,hz2⟩:=aQ kD
 obtain⟨l0,l2,l3,l4⟩:=hL
 have h0:(0:Int)<=(r:Int):=by omega
 obtain⟨l,hl⟩:∃ l,r % 64=l:=⟨_,rfl⟩
 obtain⟨a,ha⟩:∃ a,r / 64=a:=⟨_,rfl⟩
 obtain⟨m,hm⟩:∃ m,a % 64=m:=⟨_,rfl⟩
 obtain⟨c,hc⟩:∃ c,r / 4096=c:=⟨_,rfl⟩
 obtain⟨d,hd⟩:∃ d,c % 64=d:=⟨_,rfl⟩
 obtain⟨f,hf⟩:∃ f,r / 262144=f:=⟨_,rfl⟩
 have hwr:(aN r).map bG=[.int .u8 ((240:Int)+(f:Int)),.int .u8 ((128:Int)+(d:Int)),.int .u8 ((128:Int)+(m:Int)),.int .u8 ((128:Int)+(l:Int))]:=by
  unfold aN;rw[if_neg (by omega),if_neg (by omega),if_neg (by omega),hl,ha,hm,hc,hd,hf]
  simp only[qQd,qZd,iN (n:=240) (x:=f) (by omega),iN (n:=128) (x:=d) (by omega),iN (n:=128) (x:=m) (by omega),iN (n:=128) (x:=l) (by omega)]
  try rfl
 have hwl:(aN r).length=4:=by have:=congrArg qJc hwr;simpa using this
 have f1:=Fp r (by omega)
 rw[hl] at f1
 have f2:=Fp a (by omega)
 rw[hm] at f2
 have f3:=Fp c (by omega)
 rw[hd] at f3
 have e2:(r:Int) / 64=(a:Int):=by omega
 have e3:(r:Int) / 4096=(c:Int):=by omega
 have e4:(r:Int) / 262144=(f:Int):=by omega
 have b1:l<64:=by omega
 have b2:m<64:=by omega
 have b3:d<64:=by omega
 have b4:f<8:=by omega
 have b5:(a:Int)<20000:=by omega
 have b6:(c:Int)<300:=by omega
 have g1:=aJh f b4
 have g2:((240:Int)+(f:Int)) % 256=240+(f:Int):=by omega
 have i0:¬ (r:Int)<128:=by omega
 have i1:¬ (r:Int)<2048:=by omega
 have i2:¬ (r:Int)<65536:=by omega
 rw[hwl,hwr]
 have HV:=aB hv
 have hrd:∀ w:World,aH (w.alloc (.cells #[.int .u8 ((240:Int)+(f:Int)),.int .u8 ((128:Int)+(d:Int)),.int .u8 ((128:Int)+(m:Int)),.int .u8 ((128:Int)+(l:Int))] 5)) 1 (some ⟨w.heap.size,0,none⟩) 4 [.int .u8 ((240:Int)+(f:Int)),.int .u8 ((128:Int)+(d:Int)),.int .u8 ((128:Int)+(m:Int)),.int .u8 ((128:Int)+(l:Int))]:=λw=>aH.new (size:=1) _ _ [.int .u8 ((240:Int)+(f:Int)),.int .u8 ((128:Int)+(d:Int)),.int .u8 ((128:Int)+(m:Int)),.int .u8 ((128:Int)+(l:Int))] 4 (by simp)
 have hone:∀ u∈([.int .u8 ((240:Int)+(f:Int)),.int .u8 ((128:Int)+(d:Int)),.int .u8 ((128:Int)+(m:Int)),.int .u8 ((128:Int)+(l:Int))]:List Value),u.oneCell'=true:=by
  intro u hu
  simp only[qXd,qJd,or_false] at hu
  rcases hu with rfl | rfl | rfl | rfl
  all_goals rfl
 have hb1:q+4<=maxLen:=by unfold maxLen;omega
 have hb2:(q+4)*1<=140737488355328:=by omega
 clear hwr hwl hv h1 hl ha hm hc hd hf
 go_in
 go_wp2_with (at_builtin;refine aP _ rfl (.tmp 52) (.tmp 71) 50 rfl 5 ti _ 1 1 Tryz.underlying50 hi hz0 hz1 hz2 rfl (by decide) v q _ rfl (aF HV ((aC.refl _ _).alloc _) (λ_ _ f=>f)) (some ⟨_,0,none⟩) 4 4 [.int .u8 ((240:Int)+(f:Int)),.int .u8 ((128:Int)+(d:Int)),.int .u8 ((128:Int)+(m:Int)),.int .u8 ((128:Int)+(l:Int))] rfl (hrd _) (λh=>by cases h) hone hb1 hb2 ?_)
 intro v4 w4 hown hgrow hfr _
 have hg1:w.grownBy w4 v.ownBlock:=⟨hgrow.os,hgrow.tape,hgrow.output,qXb (by simp) hgrow.size,λk hk hne=>(hgrow.block k (by simp;omega) hne).trans (Below.heap_alloc w _ k hk)⟩
 have hf1:cK w v v4:=by
  rcases hfr with e | ⟨g,e,hg⟩
  ·exact Or.inl e
  ·exact Or.inr ⟨g,e,qXb (by simp) hg⟩
 have HE:=aB (And.intro hown (And.intro hg1 hf1))
 clear hown hgrow hfr hg1 hf1
 go_wp2_with fail
 first
  | (go_ret;exact⟨v4,rfl,HE.1,HE.2.1,HE.2.2⟩)
  | exact bodyPost_ret (v:=v4) (by simp[results,Tryz.results148,go_sem]) rfl ⟨v4,rfl,HE.1,HE.2.1,HE.2.2⟩
theorem aEx(w:World)(v:Value)(q:Nat)(xs:List Value)(hv:w.ownsRow 0 5 1 v q xs)(hL:cV w)(hq:q<=1099511627776)(r:Nat)(hr:r<1114112) :
  Calls Tryz.prog 148 #[v,.int .i32 r] w λe w'=>∃ v',e=.returned v'/\w'.ownsRow 0 5 1 v' (q+(aN r).length) (xs++(aN r).map bG)/\w.grownBy w' v.ownBlock/\cK w v v':=by
 by_cases h1:r<128
 ·exact aEy w v q xs hv hL hq r h1
 ·by_cases h2:r<2048
  ·exact aEz w v q xs hv hL hq r (by omega) h2
  ·by_cases h3:(r:Int)<65536
   ·exact Tq w v q xs hv hL hq r (by omega) h3
   ·exact Zl w v q xs hv hL hq r (by omega) (by omega)
theorem aAt(w:World)(A:Option Addr)(q c:Nat)(l:List UInt8)(h:aH w 1 A q (l.map bG)) :
  (convert 50 9 (.slice A q c)).run Tryz.prog w=.ok (.string ⟨l.toArray⟩) w:=by
 have hl:l.length=q:=by have:=h.1;simpa using this
 cases A with
 | none =>
  have h0:q=0:=by
   rcases Nat.eq_zero_or_pos q with e | e
   ·exact e
   ·obtain⟨b,off,hA,_⟩:=h.2 e
    cases hA
  subst h0
  obtain rfl:=List.eq_nil_of_length_eq_zero hl
  exact run_convert_bytes_nil _ _ _ Tryz.underlying50 Tryz.underlying5 0 c _ Tryz.underlying9
 | some ad =>
  subst hl
  rcases Nat.eq_zero_or_pos l.length with e | e
  ·refine run_convert_bytes_back _ _ _ _ _ _ l Tryz.underlying50 Tryz.underlying5 Tryz.underlying9 λj hj=>?_
   rw[e] at hj
   exact absurd hj (Nat.not_lt_zero _)
  ·obtain⟨b,off,hA,_,hc⟩:=h.2 e
   obtain rfl:ad=⟨b,off,none⟩:=Option.some.inj hA
   refine run_convert_bytes_back _ _ _ _ _ _ l Tryz.underlying50 Tryz.underlying5 Tryz.underlying9 λj hj=>?_
   rw[Addr.add_lit]
   exact hc j _ (by simp[hj,bG])
theorem oV(r:Nat):1<=(aN r).length/\(aN r).length<=4:=by
 unfold aN
 split
 ·simp
 ·split
  ·simp
  ·split
   ·simp
   ·simp
theorem rF(w:World)(hL:cV w)(A:Option Addr)(n c:Nat)(O:List Nat)(hR:aH w 1 A n (O.map fF))(hO:O.length=n)(hn:n<=4294967296)(hs:∀ r∈O,scal r=true) :
  Calls Tryz.prog 93 #[.slice A n c] w λe w'=>e=.returned (.tuple #[.string ⟨(O.flatMap aN).toArray⟩,.bool true])/\aC (λ_=>False) w w':=by
 have HL:=aB hL
 have HR:=aB hR
 have HS:=aB hs
 have HO:=aB hO
 have hnm:n<=maxLen:=by unfold maxLen;omega
 clear hL hR hs hO
 go_in
 go_wp2
 go_loopw [4,9] (λbv iv wr=>∃ (i q:Nat) (A3:Option Addr) (c3:Nat),iv=.int .i64 i/\bv=.slice A3 q c3/\i<=n/\q<=4*i/\Hid (fS 5 1 w wr (.slice A3 q c3) q (((O.take i).flatMap aN).map bG)) ) (λ_ iv _=>n-(intOf iv).toNat)
 case atStart=>exact⟨0,0,none,0,rfl,rfl,by omega,by omega,aB (fS.nil _ _ _)⟩
 case round =>
  obtain⟨i,q,A3,c3,rfl,rfl,hi,hq,HB⟩:=hrel
  by_cases hin:i<n
  ·have y1:(i:Int)<(n:Int):=by omega
   have y2:(0:Int)<=(i:Int):=by omega
   have z2:IntKind.i64.wrap ((i:Int)+1)=(i:Int)+1:=qJb _ (by omega)
   obtain⟨g,o,hA,c0⟩:=pI (HR.touch HB.touch (λ_ _ f=>f)) HO i hin
   subst hA
   have hsc:=HS.out _ (cJ O 0 i (by rw[HO.out];exact hin))
   have htk:=kO O 0 i (by rw[HO.out];exact hin)
   obtain⟨r,hr⟩:∃ r,O.getD i 0=r:=⟨_,rfl⟩
   rw[hr] at c0 hsc htk
   have HSC:=aB hsc
   have HTK:=aB htk
   have HW:=aB (aEx wr (.slice A3 q c3) q _ HB.own (HL.touch HB.touch) (by omega) r (fD hsc))
   have hsc2:(scal r)=true:=hsc
   clear hr hsc htk
   go_wp2_with (first
    | (go_at_call 147;refine (jN r _).mono ?_;rintro e w2 ⟨rfl,rfl⟩;rw[hsc2])
    | (go_at_call 148;refine HW.mono ?_;rintro e w3 ⟨v',rfl,hown,hgr,hfr⟩))
   obtain⟨A4,c4,rfl,_,_⟩:=aS hown
   have HN4:=aB (HB.app hown hgr hfr)
   clear hown hgr hfr
   go_wp2_with fail
   go_roundw
   ·refine⟨i+1,q+(aN r).length,A4,c4,by simp,rfl,by omega,?_,aB ?_⟩
    ·have:=oV r;omega
    ·rw[HTK.out,List.flatMap_append,List.map_append]
     have:=HN4.out
     simpa using this
   ·simp only[intOf];omega
  ·have hie:i=n:=by omega
   subst hie
   have hb:=HB.out
   rw[qQe (by rw[HO.out];exact qXa _)] at hb
   have kc:=aAt wr A3 q c3 _ (aH.of_own hb.own)
   have HT:=aB hb.touch
   clear hb
   go_wp2_with fail
   exact bodyPost_ret (v:=.tuple #[.string ⟨(O.flatMap aN).toArray⟩,.bool true]) (by simp[results,Tryz.results93,go_sem]) rfl ⟨rfl,HT⟩
end Go.Proofs.YthockgmbooefpaaGreatDoor
