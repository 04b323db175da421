/- What the law rests on, part 12. No condition but those that each theorem names. -/
import Derived.Test.YthockgmbooefpaaGreatDoorM11
import Derived.Test.YthockgmbooefpaaGreatDoorM10
import Derived.RangeFuncNested
import Derived.RangeFuncBound
import Derived.RangeFuncCalls
import Derived.RangeFuncLeaves
import Derived.Shelf.Abstract
import Derived.Shelf.RegionOpen
import Derived.OwnWalkIn
import Derived.TacticsInMore
import Derived.LoopNIn
import Derived.LoopIn
import Derived.Laws.EntriesVeiled
import Derived.Deep.CutRange
import Derived.Deep.DeepCutAuto
import Derived.Deep.LoopGhost
import Derived.StillTailTactics
import Derived.BigQuiet
import Derived.Deep.QuietTactic
import Derived.Test.YthockgmbooefpaaGreatDoorM04
import Derived.BigRegion
import Derived.Test.YthockgmbooefpaaGreatDoorM01
import Derived.Test.YthockgmbooefpaaGreatDoorRows
import Derived.Lib.LaidTab
import Derived.Test.YthockgmbooefpaaGreatDoorM00
import Derived.SizedLaws
import Derived.Deep.SlicePairs
import Derived.Test.YthockgmbooefpaaGreatDoorM07
import Derived.Laws.Concat
set_option linter.unusedSectionVars false
set_option linter.unusedSimpArgs false
set_option linter.unusedVariables false
set_option maxRecDepth 100000
set_option maxHeartbeats 8000000
namespace Go.Proofs.YthockgmbooefpaaGreatDoor
open IntWalk renaming i64_in → qZa
open List renaming append_assoc → qXa, length_append → qJa, length_cons → qQb, length_nil → qZb, getD → qXb, length_map → qJb, mem_filter → qQc, nil_append → qZc, append_nil → qJc, filter_sublist → qQd, flatMap_append → qZd, map_map → qXd, append_toArray → qJd, cons_append → qQe, eq_nil_of_length_eq_zero → qZe, filter_cons_of_neg → qXe, filter_cons_of_pos → qJe, getElem?_eq_some_iff → qQf, getElem?_map → qZf, mem_singleton → qXf, pairwise_map → qJf, push_toArray → qQg, size_toArray → qZg, exists_mem_of_ne_nil → qZh, length_singleton → qXi, prefix_append_right_inj → qQk, singleton_append → qJk, take_of_length_le → qQl
open Nat renaming le_refl → qQa, le_trans → qXc, lt_of_lt_of_le → qXg, reduceAdd → qJg, reduceSub → qQh
variable{cs:Array Value}{X:List Nat}{Z:List SV}{xs:List Value}{B L O Y:List aE}{I:List gD}{B0 bH bR bS bX c c2 g m n o q wc:Nat}{S:Nat->Prop}{A A2 wA:Option Addr}{P:Program}{z:SV}{t:TypeId}{v:Value}{W W' a b w w' w0:World}{p:aE}
open Go.RowKit
def Yl(t:TypeId):Bool:=t == 39 || t == 43 || t == 178 || t == 1
abbrev dC(b:Nat):Value:=.pointer (some ⟨b,0,none⟩)
structure Nu where
 w0:World
 bW:Nat
 bL:Nat
 bF:Nat
 bT:Nat
 bV:Nat
 wb:Nat
 lb:Nat
 lA:Option Addr
 ln:Nat
 lc:Nat
 X:List Nat
 o:Nat
 wK:World
def Nu.f(x:Nu):Value:=.func (.func 89) #[] #[dC x.bW,dC x.bL,dC x.bF,dC x.bT,dC x.bV]
structure FzC(x:Nu)(W:World):Prop where
 bw:aL W x.bW 92 #[dC x.wb]
 bl:aL W x.bL 175 #[dC x.lb]
 bv:aL W x.bV 179 #[x.f]
 lev:Pq W x.lb x.lA x.ln x.lc x.X x.o
def FzT(S:Nat->Prop)(W:World):Prop:=∀ g t,bE W g t->Yl t=false->¬ S g
def Kp(a b:World):Prop:=∃ S,aC S a b/\FzT S a
theorem Kp.refl(a:World):Kp a a:=⟨λ_=>False,aC.refl _ _,λ_ _ _ _ f=>f⟩
theorem Kp.of(T:aC S a b)(h:FzT S a):Kp a b:=⟨S,T,h⟩
theorem Kp.quiet(T:aC (λ_=>False) a b):Kp a b:=⟨_,T,λ_ _ _ _ f=>f⟩
theorem Kp.trans{c:World}(h:Kp a b)(k:Kp b c):Kp a c:=by
 obtain⟨S,T,hS⟩:=h
 obtain⟨S',T',hS'⟩:=k
 refine⟨λg=>S g\/S' g,(T.mono λ_ _ e=>.inl e).trans T' (λ_ _ e=>.inr e),?_⟩
 rintro g t hg ht (e | e)
 ·exact hS g t hg ht e
 ·exact hS' g t (hg.touch T (hS g t hg ht)) ht e
section
variable{x:Nu}{W W':World}{S:Nat->Prop}
theorem aL.kp(h:aL W g t cs)(k:Kp W W')(ht:Yl t=false):aL W' g t cs:=by
 obtain⟨S,T,hS⟩:=k
 exact h.touch T (hS _ _ (aF h) ht)
theorem aL.fz(h:aL W g t cs)(T:aC S W W')(hS:FzT S W)(ht:Yl t=false):aL W' g t cs:=h.touch T (hS _ _ (aF h) ht)
theorem fM.fz{size:Nat}(h:fM W t size A n xs)(T:aC S W W')(hS:FzT S W)(ht:Yl t=false):fM W' t size A n xs:=h.touch T (λg hg=>hS _ _ hg ht)
theorem FzC.fz(h:FzC x W)(T:aC S W W')(hS:FzT S W):FzC x W' :=
 ⟨h.bw.fz T hS (by decide),h.bl.fz T hS (by decide),h.bv.fz T hS (by decide),⟨h.lev.blk.fz T hS (by decide),h.lev.rd.fz T hS (by decide),h.lev.len,h.lev.few,h.lev.o1,h.lev.o2⟩⟩
end
structure Zf(x:Nu)(W:World)(v:Value)(t p:gD)(a:Nat × Int × Nat)(bA bH bS bR:Nat)(A:Option Addr)(q c:Nat):Prop where
 v:v=.func (.func 95) #[] #[dC x.bV,dC bA,dC bH,dC bS,dC x.bL,dC bR]
 ba:aL W bA 173 #[.int .i32 (a.1:Int),.int .i64 a.2.1,.int .i64 (a.2.2:Int)]
 bh:aL W bH 154 #[.slice A q c]
 rd:fM W 21 1 A q (p.head.map eV)
 len:p.head.length=q
 le:q<=c
 mx:c<=maxLen
 few:q<=24
 bs:aL W bS 3 #[.int .i64 p.sum]
 br:aL W bR 181 (Iw (aCq x.o p.row))
 row:p.row.length=x.ln+1
 t:t=⟨a.2.2,p.head++[a.1],p.sum+a.2.1,lW x.X p.row a.1⟩
def Gg(x:Nu)(W:World)(v:Value)(t:gD):Prop:=∃ p a bA bH bS bR A q c,Zf x W v t p a bA bH bS bR A q c
theorem Gg.fz{x:Nu}{t:gD}(h:Gg x W v t)(T:aC S W W')(hS:FzT S W):Gg x W' v t:=by
 obtain⟨p,a,bA,bH,bS,bR,A,q,c,h⟩:=h
 exact⟨p,a,bA,bH,bS,bR,A,q,c,⟨h.v,h.ba.fz T hS (by decide),h.bh.fz T hS (by decide),h.rd.fz T hS (by decide),h.len,h.le,h.mx,h.few,h.bs.fz T hS (by decide),h.br.fz T hS (by decide),h.row,h.t⟩⟩
structure FzR(x:Nu)(W:World)(F:List dK)(I:List gD)(FA:Option Addr)(fc:Nat)(TA:Option Addr)(tc:Nat)(vs:List Value):Prop where
 st:FzC x W
 old:aC (λ_=>False) x.w0 W
 f0:x.w0.heap.size<=x.bF
 t0:x.w0.heap.size<=x.bT
 fb:aL W x.bF 39 #[.slice FA F.length fc]
 fo:W.ownsRow 0 43 3 (.slice FA F.length fc) F.length (iK F)
 fy:∀ g,(Value.slice FA F.length fc).ownBlock=some g->x.w0.heap.size<=g
 tb:aL W x.bT 178 #[.slice TA I.length tc]
 tw:W.ownsRow 0 1 1 (.slice TA I.length tc) I.length vs
 ty:∀ g,(Value.slice TA I.length tc).ownBlock=some g->x.w0.heap.size<=g
 kids:∀ (i:Nat) v t,vs[i]? = some v->I[i]? = some t->Gg x W v t
 kp:Kp x.wK W
def Ua(x:Nu)(W:World)(F:List dK)(I:List gD):Prop:=∃ FA fc TA tc vs,FzR x W F I FA fc TA tc vs
section
variable{x:Nu}{W W':World}{S:Nat->Prop}{F:List dK}{I:List gD}{FA:Option Addr}{fc:Nat}{TA:Option Addr}{tc:Nat}{vs:List Value}
theorem FzR.keep(h:FzR x W F I FA fc TA tc vs)(T:aC S W W')(hS:∀ g t,bE W g t->¬ S g)(hB:∀ g,S g->x.w0.heap.size<=g):FzR x W' F I FA fc TA tc vs :=
 have hF:FzT S W:=λg t hg _=>hS g t hg
 ⟨h.st.fz T hF,h.old.trans T (λi hi s=>by have:=hB i s;omega),h.f0,h.t0,h.fb.touch T (hS _ _ (aF h.fb)),aD h.fo T (λg hg=>hS _ _ (aH h.fo hg)),h.fy,h.tb.touch T (hS _ _ (aF h.tb)),aD h.tw T (λg hg=>hS _ _ (aH h.tw hg)),h.ty,λi v t h1 h2=>(h.kids i v t h1 h2).fz T hF,h.kp.trans (.of T hF)⟩
theorem FzR.quiet(h:FzR x W F I FA fc TA tc vs)(T:aC (λ_=>False) W W'):FzR x W' F I FA fc TA tc vs:=h.keep T (λ_ _ _ f=>f) (λ_ f=>f.elim)
theorem Ua.quiet(h:Ua x W F I)(T:aC (λ_=>False) W W'):Ua x W' F I:=by
 obtain⟨FA,fc,TA,tc,vs,h⟩:=h
 exact⟨FA,fc,TA,tc,vs,h.quiet T⟩
theorem Ua.grown{row:Option Nat}(h:Ua x W F I)(hg:W.grownBy W' row)(hr:∀ r,row=some r->x.w0.heap.size<=r/\∃ o:Obj,W.heap[r]? = some o/\o.isCells=false):Ua x W' F I:=by
 obtain⟨FA,fc,TA,tc,vs,h⟩:=h
 refine⟨FA,fc,TA,tc,vs,h.keep (S:=λg=>row=some g) ⟨hg.os,hg.tape,hg.output,hg.size,λk hk hs=>hg.block k hk (λe=>hs e.symm)⟩ ?_ (λg e=>(hr g e).1)⟩
 rintro g t ⟨cs,_,hc⟩ e
 obtain⟨_,o,ho,hn⟩:=hr g e
 rw[hc] at ho
 injection ho with ho
 subst ho
 cases hn
end
theorem Gg.re{x:Nu}{t:gD}(w:World):Gg { x with wK:=w } W v t↔Gg x W v t:=by
 constructor
 ·rintro⟨p,a,bA,bH,bS,bR,A,q,c,h⟩
  exact⟨p,a,bA,bH,bS,bR,A,q,c,⟨h.v,h.ba,h.bh,h.rd,h.len,h.le,h.mx,h.few,h.bs,h.br,h.row,h.t⟩⟩
 ·rintro⟨p,a,bA,bH,bS,bR,A,q,c,h⟩
  exact⟨p,a,bA,bH,bS,bR,A,q,c,⟨h.v,h.ba,h.bh,h.rd,h.len,h.le,h.mx,h.few,h.bs,h.br,h.row,h.t⟩⟩
theorem Ua.re{x:Nu}{F:List dK}(h:Ua x W F I):Ua { x with wK:=W } W F I/\Kp x.wK W:=by
 obtain⟨FA,fc,TA,tc,vs,h⟩:=h
 exact⟨⟨FA,fc,TA,tc,vs,⟨⟨h.st.bw,h.st.bl,h.st.bv,h.st.lev⟩,h.old,h.f0,h.t0,h.fb,h.fo,h.fy,h.tb,h.tw,h.ty,λi v t h1 h2=>(Gg.re W).2 (h.kids i v t h1 h2),Kp.refl _⟩⟩,h.kp⟩
theorem aL.nc{row:Option Nat}(h:aL W g t cs)(hg:W.grownBy W' row)(hr:∀ r,row=some r->∃ o:Obj,W.heap[r]? = some o/\o.isCells=false):aL W' g t cs:=by
 refine h.grown hg λe=>?_
 obtain⟨o,ho,hn⟩:=hr g e.symm
 unfold aL at h
 rw[h] at ho
 injection ho with ho
 subst ho
 cases hn
theorem Ua.size{x:Nu}{F:List dK}(h:Ua x W F I):x.w0.heap.size<=W.heap.size:=by
 obtain⟨_,_,_,_,_,h⟩:=h
 exact h.old.size
structure Em(t:gD)(o:Nat)(z:SV)(bH bS bR bX:Nat)(A:Option Addr)(c:Nat)(A2:Option Addr)(c2:Nat)(W:World):Prop where
 bh:aL W bH 154 #[.slice A t.head.length c]
 bs:aL W bS 3 #[.int .i64 t.sum]
 br:aL W bR 181 (Iw (aCq o t.row))
 bx:aL W bX 170 #[.bool z.fin,.int .i64 z.out,.slice A2 z.n c2]
 ra:fM W 173 3 A2 z.n (dI z.arcs)
 rh:fM W 21 1 A t.head.length (t.head.map eV)
theorem Em.fz{t:gD}(h:Em t o z bH bS bR bX A c A2 c2 W)(T:aC S W W')(hS:FzT S W):Em t o z bH bS bR bX A c A2 c2 W' :=
 ⟨h.bh.fz T hS (by decide),h.bs.fz T hS (by decide),h.br.fz T hS (by decide),h.bx.fz T hS (by decide),h.ra.fz T hS (by decide),h.rh.fz T hS (by decide)⟩
theorem Em.quiet{t:gD}(h:Em t o z bH bS bR bX A c A2 c2 W)(T:aC (λ_=>False) W W'):Em t o z bH bS bR bX A c A2 c2 W':=h.fz T (λ_ _ _ _ f=>f)
theorem Em.grown{t:gD}{row:Option Nat}(h:Em t o z bH bS bR bX A c A2 c2 W)(hg:W.grownBy W' row)(hr:∀ r,row=some r->∃ o:Obj,W.heap[r]? = some o/\o.isCells=false):Em t o z bH bS bR bX A c A2 c2 W':=by
 refine h.fz (S:=λg=>row=some g) ⟨hg.os,hg.tape,hg.output,hg.size,λk hk hs=>hg.block k hk (λe=>hs e.symm)⟩ ?_
 rintro g t ⟨cs,_,hc⟩ _ e
 obtain⟨o,ho,hn⟩:=hr g e
 rw[hc] at ho
 injection ho with ho
 subst ho
 cases hn
section
open Go.RowKit Go.Shelf
attribute [local go_sem] Oper.semAt_some
theorem aBp(w:World)(t ty:TypeId)(e:TypeId)(i:TypeInfo)(z:Value)(size bytes:Nat)(h1:P.underlying t=some (.slice e))(h2:P.info? e=some i)(h3:i.zero=some z)(h4:i.size=size)(h5:i.bytes=bytes)(h6:z.cells.size=size)(h7:0<size)
  (v:Value)(n:Nat)(xs:List Value)(hown:w.ownsRow 0 e size v n xs)
  (ao:Option Addr)(m c:Nat)(news:List Value)(hr:aI w size ao m news)(hn:ao=none->m=0/\c=0)(h1c:∀ u∈news,u.oneCell'=true)
  (b1:n+m<=maxLen)(b2:(n+m)*bytes<=140737488355328) :
  ∃ v' w',(Builtin.append_ #[t,t] ty #[v,.slice ao m c]).run P w=.ok v' w'/\w'.ownsRow 0 e size v' (n+m) (xs++news)/\w.grownBy w' v.ownBlock/\bJ w v v'/\(v'=.slice none 0 0↔v=.slice none 0 0/\m=0):=by
 cases ao with
 | none =>
  obtain⟨rfl,rfl⟩:=hn rfl
  have hnews:news=[]:=qZe (by simpa using hr.1)
  subst hnews
  exact⟨v,w,run_append_owned_none (P:=P) w 0 t ty e i size h1 h2 v n xs hown,by simpa using hown,World.grownBy.refl _ _,.inl rfl,by simp⟩
 | some ad =>
  have hc:∀ j u,news[j]? = some u->w.cell? (ad.add j)=some u:=λj u hu=>by
   have hm:0<m:=by
    rcases Nat.eq_zero_or_pos m with rfl | hm
    ·have hl:news=[]:=qZe (by simpa using hr.1)
     rw[hl] at hu
     cases hu
    ·exact hm
   obtain⟨b,off,hA,_,hcell⟩:=hr.2 hm
   injection hA with hA
   subst hA
   rw[Addr.add_lit]
   exact hcell j u hu
  rcases hown.2 with⟨rfl,rfl⟩ | ⟨g,cap,cur,rfl,_,hgg,hnc,hcm,hcs,ht⟩
  ·have hx:xs=[]:=qZe (by simpa using hown.1)
   subst hx
   obtain⟨v',w',r1,r2,r3,r4⟩:=run_append_own (P:=P) w w.heap.size t ty e i z size bytes h1 h2 h3 h4 h5 h6 h7 (.slice none 0 0) 0 [] (World.ownsRow_nil w _ e size) ad m c news hr.1 hc h1c b1 b2 (qQa _)
   refine⟨v',w',r1,⟨r2.1,?_⟩,r3,?_,r4⟩
   ·rcases r2.2 with h | ⟨g,cap,cur,h,_,hh⟩
    ·exact .inl h
    ·exact .inr ⟨g,cap,cur,h,Nat.zero_le _,hh⟩
   ·rcases r2.2 with⟨h,_⟩ | ⟨g,cap,cur,h,hge,hh⟩
    ·exact .inl (by rw[h])
    ·exact .inr ⟨g,by rw[h];rfl,hge⟩
  ·by_cases hroom:n+m<=cap
   ·obtain⟨w',r1,r2,r3⟩:=run_append_fits (P:=P) w 0 t ty e i size h1 h2 h4 g n cap xs hown ad m c news hr.1 hc h1c hroom
    exact⟨_,w',r1,r2,r3,.inl rfl,by simp⟩
   ·have holds:∀ j u,xs[j]? = some u->w.cell? ((⟨g,0,none⟩:Addr).add j)=some u:=hown.cells (g:=g) rfl
    obtain⟨v',w',r1,r2,r3⟩:=run_append_arg_grows (P:=P) w t ty e i z size bytes h1 h2 h3 h4 h5 h6 h7 ⟨g,0,none⟩ n cap xs hown.1 holds ad m c news hr.1 hc (by omega) b1 b2
    refine⟨v',w',r1,⟨r2.1,?_⟩,⟨r3.os,r3.tape,r3.output,r3.size,λk hk _=>r3.block k hk (by simp)⟩,?_,?_⟩
    ·rcases r2.2 with h | ⟨g,cap,cur,h,_,hh⟩
     ·exact .inl h
     ·exact .inr ⟨g,cap,cur,h,Nat.zero_le _,hh⟩
    ·rcases r2.2 with⟨h,hz⟩ | ⟨g,cap,cur,h,hge,hh⟩
     ·omega
     ·exact .inr ⟨g,by rw[h];rfl,hge⟩
    ·rcases r2.2 with⟨h,hz⟩ | ⟨g,cap,cur,h,hge,hh⟩
     ·omega
     ·rw[h];simp
theorem Gb{F:Fence}{nF:Nat}(w:World){ops:Array Oper}{rest:List Oper}{o:Oper}{a:Act}{Q:Exit->Act->World->Prop}
  (hg:o.guard=none)(s x:Operand)(t:TypeId)(hop:o.op=Op.call { callee:=Callee.builtin Builtin.append,args:=#[s,x],argTypes:=#[t,t] })
  (e:TypeId)(i:TypeInfo)(z:Value)(size bytes:Nat)(h1:P.underlying t=some (.slice e))(h2:P.info? e=some i)(h3:i.zero=some z)(h4:i.size=size)(h5:i.bytes=bytes)(h6:z.cells.size=size)(h7:0<size)
  (v:Value)(n:Nat)(xs:List Value)(hs:a.eval s=v)(hown:w.ownsRow 0 e size v n xs)
  (ao:Option Addr)(m c:Nat)(news:List Value)(hx:a.eval x=.slice ao m c)(hr:aI w size ao m news)(hn:ao=none->m=0/\c=0)(h1c:∀ u∈news,u.oneCell'=true)
  (b1:n+m<=maxLen)(b2:(n+m)*bytes<=140737488355328)
  (hK:∀ v' w',w'.ownsRow 0 e size v' (n+m) (xs++news)->w.grownBy w' v.ownBlock->bJ w v v'->(v'=.slice none 0 0↔v=.slice none 0 0/\m=0)->wpListIn F nF P ops Q rest (a.put o.dst v') w') :
  wpListIn F nF P ops Q (o :: rest) a w:=by
 refine wpListIn_plain hg λK hK'=>?_
 obtain⟨v',w',hrun,r2,r3,r4,r5⟩:=aBp (P:=P) w t o.type e i z size bytes h1 h2 h3 h4 h5 h6 h7 v n xs hown ao m c news hr hn h1c b1 b2
 unfold Oper.wpIn
 refine⟨?_,?_⟩
 ·simp[Oper.about,hop,resolve,Target.leads,Sem.run_pure]
 ·rw[Oper.semAt_plain F _ _ (by rw[hop];intro c hc';cases hc')]
  simp[execOp,hop,resolve,invoke,builtin,hs,hx,hrun,Result.andThen]
  exact hK' _ _ (hK v' w' r2 r3 r4 r5)
end
section
open Go.RowKit Go.Shelf
attribute [local go_sem] Oper.semAt_some
end
instance zeroBase:Inhabited eF:=⟨⟨0⟩⟩
theorem Vg{k:List UInt8}{n:Int}(h:bZ k L=(n,true)):∃ p∈L,p.word.toList=k/\p.weight=n:=by
 unfold bZ at h
 cases hl:(key k L).getLast? with
 | none=>rw[hl] at h;simp at h
 | some p =>
  rw[hl] at h
  simp only[Prod.mk.injEq,and_true] at h
  have hm:=List.mem_of_getLast? hl
  simp only[key,qQc,decide_eq_true_eq] at hm
  exact⟨p,hm.1,hm.2,h⟩
theorem Hy{M:List aE}(hL:cA L)(hM:cA M)(h:bB L=bB M):∀ p∈L,p∈M:=by
 intro p hp
 have hne:L≠[]:=λe=>by rw[e] at hp;cases hp
 have hlen:0<(bB L).states.length:=(zK hL hne).pos
 have hne2:M≠[]:=λe=>by
  rw[h,e] at hlen
  simp[bB] at hlen
 have h1:=tP hL hne _ _ (hL.word p hp).1
 have h2:=tP hM hne2 _ _ (hL.word p hp).1
 rw[h,h2,Cp hL hp] at h1
 obtain⟨q,hq,e1,e2⟩:=Vg h1
 have e:q=p:=by
  obtain⟨qw,qn⟩:=q
  obtain⟨pw,pn⟩:=p
  simp only at e1 e2
  rw[e2,rD e1]
 rw[<-e]
 exact hq
theorem Wi{M:List aE}(hL:cA L)(hM:cA M)(h:bB L=bB M):L=M:=by
 have sL:=hL.sort
 have sM:=hM.sort
 unfold bK aT at sL sM
 rw[qJf] at sL sM
 exact lD (lt:=λa b:aE=>Tv (dM a,a.weight) (dM b,b.weight)) (λa e=>by simp[Tv,sF] at e) (λa b e f=>by
  simp only[Tv] at e f
  rw[tM _ _ e] at f
  cases f) sL sM (λp=>⟨Hy hL hM h p,Hy hM hL h.symm p⟩)
section
variable{L:List aE}
theorem Cs(hD:cA L):∀ i,i<(bB L).states.length->dQ i ((bB L).states.getD i aS):=by
 rcases dD hD with⟨h,_⟩ | h
 ·intro i hi
  rw[h] at hi
  simp at hi
 ·exact h.form
structure Kx(L:List aE)(m:Nat)(t:gD):Prop where
 i:t.i<(bB L).states.length
 row:t.row.length=m+1
 s0:0<=t.sum
 mem:∀ r∈gV (bB L).states t.i,(t.head++r.1,t.sum+r.2)∈aT L
theorem Kx.ok(hX:X.length=m){t:gD}(h:Kx L m t):t.Ok (bB L).states X:=⟨h.i,by rw[hX];exact h.row⟩
theorem Kx.kids(hD:cA L)(hX:X.length=m){t:gD}(h:Kx L m t):∀ k∈oI (bB L).states X o t,Kx L m k:=by
 have hf:=Cs hD
 have hd:=eQ hf
 intro k hk
 unfold oI at hk
 split at hk
 ·cases hk
 ·obtain⟨a,ha,rfl⟩:=List.mem_map.1 hk
  have hi:=hd t.i h.i a ha
  have h0:=((hf t.i h.i).arc a ha).1
  refine⟨Nat.lt_trans hi h.i,by rw[mX _ (by rw[hX];exact h.row),hX],by have:=h.s0;simp only;omega,λr hr=>?_⟩
  have h1:=h.mem (a.1 :: r.1,r.2+a.2.1) ((fK hd h.i).2 ⟨a,ha,rfl,by simpa using hr⟩)
  simp only at h1 ⊢
  rw[qXa,qJk]
  have e:t.sum+a.2.1+r.2=t.sum+(r.2+a.2.1):=by omega
  rw[e]
  exact h1
structure FzJ(L:List aE)(X:List Nat)(m o:Nat)(tot hs:List Bp)(I:List gD):Prop where
 all:hs++I.reverse.flatMap (fzI (bB L).states X o)=tot
 gd:∀ t∈I,Kx L m t
theorem FzJ.step(hD:cA L)(hX:X.length=m){tot hs:List Bp}{t:gD}(h:FzJ L X m o tot hs (I++[t])) :
  FzJ L X m o tot (hs++Vl (bB L).states o t) (I++(oI (bB L).states X o t).reverse)/\Kx L m t/\Ru (bB L).states (I++(oI (bB L).states X o t).reverse)<Ru (bB L).states (I++[t]):=by
 have hd:=eQ (Cs hD)
 have ht:=h.gd t (by simp)
 have hok:=ht.ok hX
 refine⟨⟨?_,?_⟩,ht,?_⟩
 ·rw[<-h.all]
  simp only[List.reverse_append,List.reverse_reverse,qZd,List.reverse_cons,List.reverse_nil,qZc,List.flatMap_cons,List.flatMap_nil,qJc]
  rw[aDm hd hok]
  simp only[qXa]
 ·intro k hk
  rcases List.mem_append.1 hk with hk | hk
  ·exact h.gd k (List.mem_append_left _ hk)
  ·exact ht.kids hD hX k (List.mem_reverse.1 hk)
 ·rw[Oq,Oq,If]
  have:=aBa hd (o:=o) hok
  have e:Ru (bB L).states [t]=nz (bB L).states t.i:=by simp[Ru]
  rw[e]
  omega
end
section
open Go.RowKit Go.Shelf
theorem fM.kp{size:Nat}(h:fM W t size A n xs)(k:Kp W W')(ht:Yl t=false):fM W' t size A n xs:=by
 obtain⟨S,T,hS⟩:=k
 exact h.fz T hS ht
theorem Zf.kp{x:Nu}{t p:gD}{a:Nat × Int × Nat}{bA:Nat}(h:Zf x W v t p a bA bH bS bR A q c)(k:Kp W W'):Zf x W' v t p a bA bH bS bR A q c :=
 ⟨h.v,h.ba.kp k (by decide),h.bh.kp k (by decide),h.rd.kp k (by decide),h.len,h.le,h.mx,h.few,h.bs.kp k (by decide),h.br.kp k (by decide),h.row,h.t⟩
end
def aEo(X Y:List Nat)(i:Nat):List Nat:=(X.take i).foldl (aHe Y) (List.range (Y.length+1))
def aCu(X Y:List Nat)(i j:Nat):Nat:=(aEo X Y i).getD j 0
def aDb(X Y:List Nat)(m i j:Nat)(V:List Nat):Prop:=∀ i' j',j'<=m->(i'<i\/(i'=i/\j'<j))->V.getD (i'*(m+1)+j') 0=aCu X Y i' j'
theorem Zv{i j i' j':Nat}(hj:j<=m)(hj':j'<=m)(h:i'<i\/(i'=i/\j'<j)):i'*(m+1)+j'<i*(m+1)+j:=by
 rcases h with h | ⟨h,h2⟩
 ·have:=Nat.mul_le_mul_right (m+1) (show i'+1<=i from h)
  rw[Nat.add_mul,Nat.one_mul] at this
  omega
 ·subst h
  omega
theorem aDb.set{Y:List Nat}{i j:Nat}{V:List Nat}(h:aDb X Y m i j V)(hj:j<=m)(hl:i*(m+1)+j<V.length){x:Nat}(hx:x=aCu X Y i j):aDb X Y m i (j+1) (V.set (i*(m+1)+j) x):=by
 intro i' j' hj' hor
 by_cases he:i'=i/\j'=j
 ·obtain⟨rfl,rfl⟩:=he
  simp[qXb,hl,hx]
 ·have h2:i'<i\/(i'=i/\j'<j):=by omega
  have h3:=Zv hj hj' h2
  have h4:(V.set (i*(m+1)+j) x).getD (i'*(m+1)+j') 0=V.getD (i'*(m+1)+j') 0:=by
   simp only[qXb]
   rw[List.getElem?_set_ne (by omega)]
  rw[h4]
  exact h i' j' hj' h2
structure Uc(w0 w:World)(v:Value)(q:Nat)(N:List dK):Prop where
 own:w.ownsRow 0 43 3 v q (iK N)
 len:N.length=q
 touch:aC (λ_=>False) w0 w
 fresh:∀ g,v.ownBlock=some g->w0.heap.size<=g
theorem Rn(X Y:List dK):iK (X++Y)=iK X++iK Y:=by simp[iK]
theorem Uc.nil(w:World):Uc w w (.slice none 0 0) 0 []:=⟨World.ownsRow_nil _ _ _ _,rfl,aC.refl _ _,λg e=>by simp[Value.ownBlock] at e⟩
theorem Uc.to{w2:World}{N:List dK}(h:Uc w0 w v q N)(t:aC (λ_=>False) w w2):Uc w0 w2 v q N :=
 ⟨aD h.own t (λ_ _ f=>f),h.len,h.touch.then t,h.fresh⟩
theorem Uc.from{w1:World}{N:List dK}(h:Uc w1 w v q N)(t:aC (λ_=>False) w0 w1):Uc w0 w v q N :=
 ⟨h.own,h.len,t.then h.touch,λg hg=>by have h1:=h.fresh g hg;have h2:=t.size;omega⟩
theorem Uc.app{w1 w3:World}{v':Value}{N:List dK}{m:dK}(h:Uc w0 w1 v q N)(ho:w3.ownsRow 0 43 3 v' (q+1) (iK N++m.cells))(hg:w1.grownBy w3 v.ownBlock)(hf:bJ w1 v v'):Uc w0 w3 v' (q+1) (N++[m]):=by
 refine⟨by rw[Rn];simpa [iK] using ho,by simp[h.len],h.touch.app hg (λg hg hlt=>by have:=h.fresh g hg;omega),?_⟩
 intro g hg
 rcases hf with e | ⟨g',e,hg'⟩
 ·rw[e] at hg;exact h.fresh g hg
 ·rw[hg] at e
  injection e with e
  have:=h.touch.size
  omega
def dK.Wf(p:dK):Prop:=p.word.size<=9223372036854775807
theorem Hv{laid:List (String × DataW Unit)}(he:laid=[("abecedary/letters.least",Rows.laid_abecedary_letters_least)])(h:laidMetH Tryz.prog laid W):dN W:=by
 subst he
 have hL:laidMet Tryz.prog (("abecedary/letters.least",Lib.tabData .i32 [0,0,128,2048,65536]) :: []) W:=h
 have h:=Lib.tabIs_of_head (g:=0) (t := 278) (e := 21) (n:=5) (by kernel_rfl) (by kernel_rfl) Tryz.underlying278 Tryz.underlying21 (by kernel_rfl) (by kernel_rfl) hL
 unfold Lib.TabIs World.var? at h
 rw[show Tryz.prog.globalNamed "abecedary/letters.least" = some 0 by kernel_rfl] at h
 simp only[Option.bind_some] at h
 have hg:∃ cs t fr,W.heap[0]? = some (.cells cs t fr)/\cs=(([0,0,128,2048,65536]:List Int).map λz=>Value.int .i32 z).toArray:=by
  cases hh:W.heap[0]? with
  | none=>rw[hh] at h;cases h
  | some o =>
   rw[hh] at h
   cases o with
   | cells cs t fr=>exact⟨cs,t,fr,rfl,Option.some.inj h⟩
   | _=>cases h
 obtain⟨cs,t,fr,hg,rfl⟩:=hg
 refine⟨(Array.getElem?_eq_some_iff.1 hg).1,?_,?_,?_⟩
 ·unfold World.cell?;rw[hg];rfl
 ·unfold World.cell?;rw[hg];rfl
 ·unfold World.cell?;rw[hg];rfl
section
open Go.RowKit Go.ChangeShapes Go.WideShapes Go.ChangeAt
section
variable{H:Type}{enc:TypeId × Value->H}{w:World}{base:Nat}{spare:Nat->Bool}{held:Bool}
end
noncomputable def laidWorld (os:Os):World :=
 { World.holding Tryz.prog os ⟨#[],#[],[]⟩ with heap:=(World.holding Tryz.prog os ⟨#[],#[],[]⟩).heap.modify 0 fun
   | .cells _ t frozen=>.cells #[.int .i32 0,.int .i32 0,.int .i32 128,.int .i32 2048,.int .i32 65536] t frozen
   | o=>o }
section
variable{H:Type}{enc:TypeId × Value->H}{w:World}{base:Nat}{spare:Nat->Bool}{held:Bool}
end
end
theorem fJ(hD:cA L):L.Pairwise (λa b=>iN a b=true):=by
 have h:=hD.sort
 unfold bK aT at h
 rw[qJf] at h
 refine List.Pairwise.imp_of_mem ?_ h
 intro a b ha hb hab
 obtain⟨a1,a2⟩:=cK _ _ _ (qQa _) (hD.word a ha).1
 obtain⟨b1,b2⟩:=cK _ _ _ (qQa _) (hD.word b hb).1
 unfold iN
 rw[a1,b1,kR _ _ (λr hr=>cU (a2 r hr)) (λr hr=>cU (b2 r hr))]
 exact hab
theorem yR(x:List UInt8)(L:List aE)(p:aE->Bool):key x (L.filter p)=(key x L).filter p:=by
 unfold key
 rw[List.filter_filter,List.filter_filter]
 congr 1
 funext r
 rw[Bool.and_comm]
theorem Ol(h:L.Pairwise (λa b=>iN a b=true))(x:List UInt8):key x L=(key x L).getLast?.toList:=by
 have hs:(key x L).Pairwise (λa b=>iN a b=true):=h.sublist qQd
 have hm:∀ p∈key x L,p.word.toList=x:=λp hp=>of_decide_eq_true (List.mem_filter.1 hp).2
 cases hk:key x L with
 | nil=>rfl
 | cons p l =>
  cases l with
  | nil=>rfl
  | cons q l =>
   rw[hk] at hs hm
   have h1:=(List.pairwise_cons.1 hs).1 q (by simp)
   exact absurd ((hm p (by simp)).trans (hm q (by simp)).symm) (qU h1)
theorem Oo{x:List UInt8}(h:p∈key x L):p∈L:=(List.mem_filter.1 h).1
theorem rG(hD:cA L)(hp:p∈L):cD p.word.toList=true:=by
 obtain⟨h1,h2,h3,h4⟩:=hD.word p hp
 have h:=(cK _ _ _ (qQa _) h1).1
 have h5:=iZ (dM p)
 rw[<-h] at h5
 unfold cD
 rw[h1]
 simp only[Bool.and_eq_true,decide_eq_true_eq]
 exact⟨by omega,h2,h3,h4⟩
theorem PNx.ok{N:List aE}(h:PNx w0 w (.slice A q c) q N):SL.Ok ⟨A,q,c,N⟩ w:=by
 refine⟨h.len,aI.of_own h.own,λhA=>?_⟩
 simp only at hA ⊢
 rcases h.own.2 with⟨e,_⟩ | ⟨g',cap,cur,e,_,_⟩
 ·cases e;exact⟨rfl,rfl⟩
 ·rw[hA] at e;cases e
def Rp(X:List aE):List aE:=X.foldl (λo p=>fI p false o) []
theorem Rq(X:List aE)(p:aE):Rp (X++[p])=fI p false (Rp X):=by simp[Rp]
theorem yY(X:List aE):pZ X (Rp X):=by
 obtain⟨r,hr⟩:=eX X.reverse
 have hl:X=r.reverse:=by rw[hr,List.reverse_reverse]
 rw[hl]
 clear hl hr
 induction r with
 | nil=>exact pZ.nil
 | cons p r ih =>
  rw[List.reverse_cons,Rq]
  exact ih.put p
def vS(B O:List aE):List aE:=(Rp (B++O)).filter eJ
theorem kQ(B O:List aE):kK (vS B O):=(yY (B++O)).1.sublist qQd
theorem Qz(hB:cA B)(k:List UInt8):(key k B).filter eJ=key k B:=by
 rw[List.filter_eq_self]
 intro p hp
 have:=(hB.weight p (Oo hp)).1
 unfold eJ
 have h0:(p.weight == 0)=false:=by simp;omega
 rw[h0];rfl
theorem pD(hB:cA B)(O:List aE)(k:List UInt8):key k (vS B O)=match (key k O).getLast? with
  | some p=>if eJ p=true then [p] else []
  | none=>key k B:=by
 unfold vS
 rw[yR,(yY (B++O)).2 k,lQ,List.getLast?_append]
 cases h:(key k O).getLast? with
 | some p =>
  simp only[Option.some_or,Option.toList_some]
  by_cases hk:eJ p=true
  ·rw[qJe hk,List.filter_nil,if_pos hk]
  ·rw[qXe hk,List.filter_nil,if_neg hk]
 | none =>
  simp only[Option.none_or]
  rw[<-Ol (fJ hB) k,Qz hB]
theorem aAq(hL:cA L):vS L []=L :=
 gS (kQ L []) (fJ hL) λk=>by rw[pD hL];rfl
theorem Ic{X:List aE}(h:pZ X Y)(k:List UInt8):(key k Y).getLast? = (key k X).getLast? := by
 rw[h.2 k]
 cases (key k X).getLast? <;> rfl
def jV(w:List UInt8)(L:List aE):List aE:=L.filter (λx=>decide (¬ x.word.toList=w))
theorem xY(w k:List UInt8)(L:List aE):key k (jV w L)=if w=k then [] else key k L:=by
 unfold jV
 rw[yR]
 by_cases h:w=k
 ·subst h
  rw[if_pos rfl,List.filter_eq_nil_iff]
  intro p hp
  have:=of_decide_eq_true (List.mem_filter.1 hp).2
  simp[this]
 ·rw[if_neg h,List.filter_eq_self]
  intro p hp
  have h2:=of_decide_eq_true (List.mem_filter.1 hp).2
  simp only[decide_eq_true_eq]
  rw[h2]
  exact λe=>h e.symm
theorem lN(h:kK L)(w:List UInt8):kK (jV w L):=List.Pairwise.sublist qQd h
theorem Hs(k:List UInt8)(O:List aE)(p:aE):(key k (O++[p])).getLast? = if p.word.toList=k then some p else (key k O).getLast? := by
 rw[lQ]
 by_cases h:p.word.toList=k
 ·have e:key k [p]=[p]:=by simp[key,h]
  rw[e,if_pos h];simp
 ·have e:key k [p]=[]:=by simp[key,h]
  rw[e,if_neg h,qJc]
theorem aAr(hB:cA B)(h:pZ (O++[p]) Y)(hp:eJ p=true):vS B Y=fI p false (vS B O):=by
 obtain⟨h1,h2⟩:=wQ p (vS B O) (kQ B O)
 refine gS (kQ B Y) h1 λk=>?_
 rw[h2,pD hB,Ic h,Hs]
 by_cases e:p.word.toList=k
 ·rw[if_pos e,if_pos e]
  simp only
  rw[if_pos hp]
 ·rw[if_neg e,if_neg e,pD hB]
theorem Wa(hB:cA B)(h:pZ (O++[p]) Y)(hp:¬ eJ p=true):vS B Y=jV p.word.toList (vS B O):=by
 refine gS (kQ B Y) (lN (kQ B O) _) λk=>?_
 rw[xY,pD hB,Ic h,Hs]
 by_cases e:p.word.toList=k
 ·rw[if_pos e,if_pos e]
  simp only
  rw[if_neg hp]
 ·rw[if_neg e,if_neg e,pD hB]
theorem Vf{A:List aE}{k:List UInt8}(h:key k A=key k B):bZ k A=bZ k B:=by unfold bZ;rw[h]
theorem Wb(hB:cA B)(hO:∀ p∈O,0<=p.weight)(k:List UInt8) :
  bZ k (vS B O)=if (bZ k O).2=true then ((bZ k O).1,decide (0<(bZ k O).1)) else bZ k B:=by
 have h:=pD hB O k
 cases hk:(key k O).getLast? with
 | none =>
  have e:bZ k O=(0,false):=by unfold bZ;rw[hk]
  rw[hk] at h
  rw[e,if_neg (by decide)]
  exact Vf h
 | some p =>
  have e:bZ k O=(p.weight,true):=by unfold bZ;rw[hk]
  rw[hk] at h
  simp only at h
  rw[e,if_pos rfl]
  have hp:p∈O:=Oo (List.mem_of_getLast? hk)
  have h0:=hO p hp
  unfold bZ
  rw[h]
  by_cases hz:p.weight=0
  ·have hn:¬ eJ p=true:=by unfold eJ;simp[hz]
   rw[if_neg hn]
   simp[hz]
  ·have hn:eJ p=true:=by unfold eJ;simp[hz]
   rw[if_pos hn]
   simp only[List.getLast?_singleton,Prod.mk.injEq,true_and]
   symm
   simp only[decide_eq_true_eq]
   omega
theorem Sx(hW:∀ p∈L,cD p.word.toList=true)(hs:kK L):bK (aT L):=by
 unfold bK aT
 rw[qJf]
 refine List.Pairwise.imp_of_mem ?_ hs
 intro a b ha hb hab
 have ra:cQ a.word.toList=some (dM a):=by obtain⟨x,h,_⟩:=lG (hW a ha);unfold dM;rw[h];rfl
 have rb:cQ b.word.toList=some (dM b):=by obtain⟨x,h,_⟩:=lG (hW b hb);unfold dM;rw[h];rfl
 obtain⟨a1,a2⟩:=cK _ _ _ (qQa _) ra
 obtain⟨b1,b2⟩:=cK _ _ _ (qQa _) rb
 unfold iN at hab
 rw[a1,b1,kR _ _ (λr hr=>cU (a2 r hr)) (λr hr=>cU (b2 r hr))] at hab
 exact hab
theorem Ob(hl:L.length<=4096)(hW:∀ p∈L,cD p.word.toList=true/\1<=p.weight/\p.weight<=1048576)(hs:kK L):cA L:=by
 refine⟨hl,λp hp=>?_,λp hp=>(hW p hp).2,Sx (λp hp=>(hW p hp).1) hs⟩
 obtain⟨x,h1,h2,h3,h4⟩:=lG (hW p hp).1
 have e:dM p=x:=by unfold dM;rw[h1];rfl
 rw[e]
 exact⟨h1,h2,h3,h4⟩
theorem Qp{w:List UInt8}(h:(bZ w L).2=false):bZ w L=(0,false):=by
 unfold bZ at h ⊢
 cases hk:(key w L).getLast? with
 | none=>rfl
 | some p=>rw[hk] at h;cases h
theorem Ls{α:Type}(q:α->Bool)(l:List α):l.length=(l.filter q).length+(l.filter λx=>!q x).length:=by
 induction l with
 | nil=>rfl
 | cons x l ih =>
  cases h:q x with
  | true=>rw[qJe h,qXe (by simp[h])];simp only[qQb];omega
  | false=>rw[qXe (by simp[h]),qJe (by simp[h])];simp only[qQb];omega
theorem xZ(hs:kK L)(w:List UInt8):(jV w L).length+(if (bZ w L).2=true then 1 else 0)=L.length:=by
 have h:=Ls (λx:aE=>decide (x.word.toList=w)) L
 have e:(L.filter λx=>!decide (x.word.toList=w))=jV w L:=by unfold jV;congr 1;funext x;simp
 have k1:L.filter (λx=>decide (x.word.toList=w))=key w L:=rfl
 rw[e,k1,Ol hs w] at h
 unfold bZ
 cases hk:(key w L).getLast? with
 | none=>rw[hk] at h;simp only[Option.toList_none,qZb] at h;simp;omega
 | some p=>rw[hk] at h;simp only[Option.toList_some,qQb,qZb] at h;simp;omega
theorem Ey(hs:kK L)(p:aE):(fI p false L).length=if (bZ p.word.toList L).2=true then L.length else L.length+1:=by
 obtain⟨h1,h2⟩:=wQ p L hs
 have a:=xZ h1 p.word.toList
 have b:=xZ hs p.word.toList
 have e:jV p.word.toList (fI p false L)=jV p.word.toList L:=gS (lN h1 _) (lN hs _) λk=>by
  rw[xY,xY]
  by_cases hk:p.word.toList=k
  ·rw[if_pos hk,if_pos hk]
  ·rw[if_neg hk,if_neg hk,h2,if_neg hk]
 have f:(bZ p.word.toList (fI p false L)).2=true:=by
  have h3:=h2 p.word.toList
  rw[if_pos rfl] at h3
  unfold bZ
  rw[h3]
  rfl
 rw[f,if_pos rfl,e] at a
 split at b
 ·rename_i h;rw[if_pos h];omega
 ·rename_i h;rw[if_neg h];omega
theorem Ux(hL:cA L)(hw:cD p.word.toList=true)(h1:1<=p.weight)(h2:p.weight<=1048576)(hf:(bZ p.word.toList L).2=true\/L.length<4096):cA (fI p false L):=by
 refine Ob ?_ ?_ (wQ p L (fJ hL)).1
 ·rw[Ey (fJ hL)]
  have:=hL.len
  split
  ·exact this
  ·rcases hf with hf | hf
   ·exact absurd hf ‹_›
   ·omega
 ·intro q hq
  rcases Im p L q hq with rfl | hq
  ·exact⟨hw,h1,h2⟩
  ·exact⟨rG hL hq,hL.weight q hq⟩
theorem Qj(hL:cA L)(w:List UInt8):cA (jV w L):=by
 have hs:(jV w L).Sublist L:=qQd
 refine Ob (qXc hs.length_le hL.len) ?_ (lN (fJ hL) w)
 intro q hq
 exact⟨rG hL (hs.subset hq),hL.weight q (hs.subset hq)⟩
structure OvP(O:List aE):Prop where
 strict:kK O
 ok:∀ p∈O,cD p.word.toList=true/\0<=p.weight/\p.weight<=1048576
structure nZ(B O L:List aE):Prop where
 dB:cA B
 ov:OvP O
 lay:L=vS B O
 dL:cA L
theorem nZ.begin(h:cA L):nZ L [] L:=⟨h,⟨List.Pairwise.nil,λp hp=>by cases hp⟩,(aAq h).symm,h⟩
theorem OvP.add(h:OvP O)(hn:pZ (O++[p]) Y)(hw:cD p.word.toList=true)(h0:0<=p.weight)(h1:p.weight<=1048576):OvP Y:=by
 refine⟨hn.1,λq hq=>?_⟩
 rcases List.mem_append.1 (hn.mem hq) with h2 | h2
 ·exact h.ok q h2
 ·rw[List.mem_singleton.1 h2]
  exact⟨hw,h0,h1⟩
theorem nZ.find(h:nZ B O L)(k:List UInt8):bZ k L=if (bZ k O).2=true then ((bZ k O).1,decide (0<(bZ k O).1)) else bZ k B:=by
 rw[h.lay]
 exact Wb h.dB (λp hp=>(h.ov.ok p hp).2.1) k
theorem Vz(h:1<=p.weight):eJ p=true:=by unfold eJ;have h0:(p.weight == 0)=false:=(by simp;omega);rw[h0];rfl
theorem nZ.put(h:nZ B O L)(hn:pZ (O++[p]) Y)(hw:cD p.word.toList=true)(h0:1<=p.weight)(h1:p.weight<=1048576)(hf:(bZ p.word.toList L).2=true\/L.length<4096):nZ B Y (fI p false L) :=
 ⟨h.dB,h.ov.add hn hw (by omega) h1,by rw[aAr h.dB hn (Vz h0),<-h.lay],Ux h.dL hw h0 h1 hf⟩
theorem nZ.drop(h:nZ B O L){w:ByteArray}(hn:pZ (O++[⟨w,0⟩]) Y)(hw:cD w.toList=true):nZ B Y (jV w.toList L) :=
 ⟨h.dB,h.ov.add hn hw (Int.le_refl 0) (by show (0:Int)<=1048576;omega),by rw[Wa h.dB hn (by simp[eJ]),<-h.lay],Qj h.dL _⟩
def oS(L:List aE)(w:List UInt8)(n:Int):Int:=if cD w=false then 140 else if n<1\/1048576<n then 141 else if (bZ w L).2=false/\4096<=L.length then 142 else 0
def Jj(L:List aE)(w:ByteArray)(n:Int):List aE:=if oS L w.toList n=0 then fI ⟨w,n⟩ false L else L
def Ji(L:List aE)(w:ByteArray)(n:Int):Int:=if oS L w.toList n=0 then (bZ w.toList L).1 else 0
def tT(L:List aE)(w:List UInt8):Int:=if cD w=false then 140 else if (bZ w L).2=false then 143 else 0
def Mp(L:List aE)(w:ByteArray):List aE:=if tT L w.toList=0 then jV w.toList L else L
def Ip(L:List aE)(w:ByteArray):Int:=if tT L w.toList=0 then (bZ w.toList L).1 else 0
def mkW(l:List Nat)(u:Int)(r:List Nat × Int):aE:=⟨⟨((l++r.1).flatMap aM).toArray⟩,u+r.2⟩
def dX(l:List Nat)(u:Int)(R:Rs):List aE:=R.map (mkW l u)
theorem lX(l:List Nat)(u:Int)(R:Rs):(dX l u R).length=R.length:=by simp[dX]
theorem Tl(l:List Nat)(u:Int)(R:Rs)(c:Nat):dX l u (jP R c)=dX (l++[c]) (u+aW (aG R c)) (aJ (aG R c)):=by
 unfold dX jP aJ
 rw[qXd,qXd]
 refine List.map_congr_left λr _=>?_
 simp only[Function.comp,mkW,qXa,qJk,aE.mk.injEq,true_and]
 omega
def mW(l:List Nat)(u:Int)(R:Rs)(j:Nat):List aE:=dX l u ((if eI R=true then [([],jB R)] else [])++((aK R).take j).flatMap (jP R))
theorem Sd(l:List Nat)(u:Int)(R:Rs):mW l u R 0=if eI R=true then [⟨⟨(l.flatMap aM).toArray⟩,u+jB R⟩] else []:=by
 unfold mW dX
 simp only[List.take_zero,List.flatMap_nil,qJc]
 split
 ·simp[mkW]
 ·rfl
theorem Db(l:List Nat)(u:Int)(R:Rs)(j:Nat)(c:Nat)(h:(aK R)[j]? = some c):mW l u R (j+1)=mW l u R j++dX (l++[c]) (u+aW (aG R c)) (aJ (aG R c)):=by
 rw[<-Tl]
 obtain⟨hj,e⟩:=List.getElem?_eq_some_iff.1 h
 unfold mW dX
 rw[List.take_succ_eq_append_getElem hj,e]
 simp
theorem Il{R:Rs}(h:bK R)(l:List Nat)(u:Int)(j:Nat)(hj:(aK R).length<=j):mW l u R j=dX l u R:=by
 unfold mW
 rw[qQl hj,<-nO h]
theorem oO{R:Rs}(h:bK R)(l:List Nat)(u:Int)(j:Nat):mW l u R j <+: dX l u R:=by
 have hs:dX l u R=mW l u R j++dX l u (((aK R).drop j).flatMap (jP R)):=by
  conv=>lhs;rw[nO h]
  unfold mW dX
  rw[<-List.map_append,qXa,<-qZd,List.take_append_drop]
 rw[hs]
 exact List.prefix_append _ _
theorem aCv(s:ByteArray):(⟨s.toList.toArray⟩:ByteArray)=s:=by
 rw[Go.ByteArray.toList_eq]
theorem Bz(a b:ByteArray):(a++b).toList=a.toList++b.toList:=by
 rw[Go.ByteArray.toList_eq,Go.ByteArray.toList_eq,Go.ByteArray.toList_eq]
 simp
theorem Me{a:ByteArray}{l:List UInt8}(h:a.toList=l):a=⟨l.toArray⟩:=by rw[<-h,aCv]
theorem pN(a:ByteArray):a.size=a.toList.length:=by
 rw[Go.ByteArray.toList_eq,Array.length_toList]
 rfl
theorem No(hD:cA L):dX [] (aW (aT L)) (aJ (aT L))=L:=by
 unfold dX aJ aT
 rw[qXd,qXd]
 conv=>rhs;rw[<-List.map_id L]
 refine List.map_congr_left λp hp=>?_
 have h:=(cK _ _ _ (qQa _) (hD.word p hp).1).1
 obtain⟨pw,pn⟩:=p
 simp only[Function.comp,mkW,qZc,id,aE.mk.injEq]
 refine⟨?_,by omega⟩
 rw[<-h,aCv]
theorem Nw(w:World)(b:Nat) :
  Calls Tryz.prog 61 #[.pointer (some ⟨b,0,none⟩)] w λe w'=>∃ B,e=.returned (.func (.func 119) #[] #[.pointer (some ⟨B,0,none⟩)])/\aL w' B 92 #[.pointer (some ⟨b,0,none⟩)]/\aC (λ_=>False) w w':=by
 have hmf:∀ (fn:Fn) (first cap:Array Value) (w:World),(Instr.makeFunc fn first cap).run Tryz.prog w=.ok (.func fn first cap) w:=λ_ _ _ _=>rfl
 go_in
 go_wp2_with fail
 go_ret
 exact⟨w.heap.size,rfl,aL.new _ _ _,(aC.refl _ _).alloc _⟩
structure nX(B0:Nat)(w w':World):Prop where
 os:w'.os=w.os
 tape:w'.tape=w.tape
 output:w'.output=w.output
 size:w.heap.size<=w'.heap.size
 low:∀ g:Nat,g<w.heap.size->g<B0->w'.heap[g]? = w.heap[g]?
 ty:∀ (g:Nat) (t:TypeId) (cs:Array Value) (fr:Nat × Nat),w.heap[g]? = some (Obj.cells cs t fr)->t ≠ 125 -> t ≠ 37 -> w'.heap[g]? = w.heap[g]?
theorem nX.refl(B0:Nat)(w:World):nX B0 w w:=⟨rfl,rfl,rfl,qQa _,λ_ _ _=>rfl,λ_ _ _ _ _ _ _=>rfl⟩
theorem nX.trans{c:World}(h:nX B0 a b)(k:nX B0 b c):nX B0 a c :=
 ⟨k.os.trans h.os,k.tape.trans h.tape,k.output.trans h.output,qXc h.size k.size,λg h1 h2=>(k.low g (qXg h1 h.size) h2).trans (h.low g h1 h2),λg t cs fr e h1 h2=>by
  have e1:=h.ty g t cs fr e h1 h2
  exact (k.ty g t cs fr (e1.trans e) h1 h2).trans e1⟩
theorem nX.of(h:aC (λ_=>False) a b):nX B0 a b :=
 ⟨h.os,h.tape,h.output,h.size,λg h1 _=>h.block g h1 (λf=>f),λg _ _ _ e _ _=>h.block g (Array.getElem?_eq_some_iff.1 e).1 (λf=>f)⟩
theorem aL.kpt(h:aL a g t cs)(k:nX B0 a b)(h1:t ≠ 125)(h2:t ≠ 37):aL b g t cs:=(k.ty g t cs _ h h1 h2).trans h
theorem bE.kpt(h:bE a g t)(k:nX B0 a b)(h1:t ≠ 125)(h2:t ≠ 37):bE b g t:=by
 obtain⟨cs,u,e⟩:=h
 exact⟨cs,u,(k.ty g t cs _ e h1 h2).trans e⟩
theorem bE.cell_kp(h:bE a g t)(k:nX B0 a b)(h1:t ≠ 125)(h2:t ≠ 37)(j:Nat):b.cell? ⟨g,j,none⟩=a.cell? ⟨g,j,none⟩:=by
 obtain⟨cs,u,e⟩:=h
 exact World.cell?_of_block (k.ty g t cs _ e h1 h2)
theorem fM.kpt{size:Nat}(h:fM a t size A n xs)(k:nX B0 a b)(h1:t ≠ 125)(h2:t ≠ 37):fM b t size A n xs:=by
 refine⟨⟨h.rd.1,λhn=>?_⟩,λhn g hg=>(h.ty hn g hg).kpt k h1 h2⟩
 obtain⟨g,o,hA,hg,hc⟩:=h.rd.2 hn
 have ht:=h.ty hn g (by rw[hA];rfl)
 exact⟨g,o,hA,qXg hg k.size,λj u hu=>(ht.cell_kp k h1 h2 _).trans (hc j u hu)⟩
theorem eC.kpt(h:eC a A n Z)(k:nX B0 a b):eC b A n Z :=
 ⟨h.rd.kpt k (by decide) (by decide),h.len,λz hz=>⟨(h.el z hz).len,(h.el z hz).rd.kpt k (by decide) (by decide),(h.el z hz).le,(h.el z hz).mx⟩⟩
theorem Za.kpt{b:Nat}{base:Int}{W:List Int}(h:Za a b base A n c Z wA wc W)(k:nX B0 a w):Za w b base A n c Z wA wc W :=
 ⟨h.blk.kpt k (by decide) (by decide),h.sts.kpt k,h.wds.kpt k (by decide) (by decide),h.len⟩
theorem dN.kpt(h:dN a)(k:nX B0 a b)(hB:0<B0):dN b:=by
 have e:∀ j,b.cell? ⟨0,j,none⟩=a.cell? ⟨0,j,none⟩:=λj=>World.cell?_of_block (k.low 0 h.1 hB)
 exact⟨qXg h.1 k.size,(e 2).trans h.2.1,(e 3).trans h.2.2.1,(e 4).trans h.2.2.2⟩
section
open Go.RowKit Go.Shelf
attribute [local go_sem] Oper.semAt_some
def aBe(x:aE):Array Value:=#[.agg #[.string x.word,.int .i64 x.weight]]
def En(lp B0:Nat)(J Jx:List aE->World->Prop)(N:Nat):Prop:=∀ pre x W1,J pre W1->pre.length<N->YieldAt Fence.wide 0 Tryz.prog lp (aBe x) W1 λe W'=>(e=.returned (.bool true)/\J (pre++[x]) W'/\nX B0 W1 W')\/(e=.returned (.bool false)/\Jx (pre++[x]) W')
theorem vJ{l:Nat}{f:FuncId}{tmps:Array Value}{assign body:Code}{R:Ending->World->Prop}(m:Nat)(h:RoundIn Fence.wide n P l f tmps assign body w R):RoundIn Fence.wide m P l f tmps assign body w R:=⟨h.1,λc cs _=>h.2 c cs (room_wide _)⟩
def Tx(w0:World)(b n:Nat)(k:iJ)(lp B0:Nat)(J Jx:List aE->World->Prop)(N:Nat)(f:Nat):Prop :=
 ∀ (w:World) (s:Nat) (R:Rs) (head:ByteArray) (l:List Nat) (u:Int) (pre:List aE),s<n->k.rests[s]? = some R->fF R<f->head.toList=l.flatMap aM->l.length+fF R<=24->nX B0 w0 w->J pre w->pre.length+R.length<=N->0<=u->(∀ r∈R,u+r.2<=2097152) ->
  Calls Tryz.prog 120 #[.pointer (some ⟨b,0,none⟩),.int .i64 s,.string head,.int .i64 u,.func (.yield lp) #[] #[]] w λe w'=>(e=.returned (.bool true)/\J (pre++dX l u R) w'/\nX B0 w0 w')\/(e=.returned (.bool false)/\∃ q,q <+: dX l u R/\Jx (pre++q) w')
theorem Lx(w0:World)(hL:dN w0)(b:Nat)(base:Int)(A:Option Addr)(n c:Nat)(Z:List SV)(wA:Option Addr)(wc:Nat)(W:List Int)(hM:Za w0 b base A n c Z wA wc W)(k:iJ)(hk:jY k)(hh:∀ X∈k.rests,uR X)(hZ:Z.map SV.p=k.states)(lp B0:Nat)(hB0:0<B0)(J Jx:List aE->World->Prop)(N:Nat)
  (hJ:∀ pre W W',J pre W->aC (λ_=>False) W W'->J pre W')(hJx:∀ pre W W',Jx pre W->aC (λ_=>False) W W'->Jx pre W')(hY:En lp B0 J Jx N)(f:Nat)(ih:Tx w0 b n k lp B0 J Jx N f):Tx w0 b n k lp B0 J Jx N (f+1):=by
 intro w s R head l u pre hs hR hd hhead hlen hKw hJw hN hu0 hub
 have hMw:=hM.kpt hKw
 obtain⟨x0,x1,x2⟩:=hMw.blk.facts
 have y1:(0:Int)<=(s:Int):=by omega
 have y2:(s:Int)<(n:Int):=by omega
 obtain⟨g,o,hA,hgl,d0,d1,d2⟩:=lE hMw.sts.rd.rd hMw.sts.len s hs
 subst hA
 have hzm:=aZ Z cE s (by rw[hMw.sts.len];exact hs)
 have hzo:=hM.sts.el _ hzm
 have hzk:k.states[s]? = some (Z.getD s cE).p:=by
  rw[<-hZ,qZf,kN? (d:=cE) (by rw[hMw.sts.len];exact hs)]
  rfl
 have hc:=hk.corr s R _ hR hzk
 have hher:=hh R (List.mem_of_getElem? hR)
 have hsl:k.states.length=n:=by rw[<-hZ,qJb];exact hM.sts.len
 obtain⟨⟨fin,out,zA,zn,zc,arcs⟩,hz⟩:∃ z,Z.getD s cE=z:=⟨_,rfl⟩
 rw[hz] at d0 d1 d2 hzo hzk hc
 simp only[SV.p] at d0 d1 d2 hzk hc
 have hzq:zn<=2097152:=by
  have h1:=kL (tI hc hher)
  have h2:=hzo.len
  simp only at h1 h2
  omega
 have hznI:(zn:Int)<=2097152:=by omega
 have HHER:=aB hher
 have HC:=aB hc
 have HZO:=aB hzo
 have HUB:=aB hub
 have HL:=aB hL
 have HIH:=aB ih
 have HHD:=aB hhead
 have HLEN:=aB hlen
 have HD:=aB hd
 have HN:=aB hsl
 have HNN:=aB hN
 have HY:=aB hY
 have HJ:=aB hJ
 have HJX:=aB hJx
 obtain⟨wD,hwD⟩:=eX (w.alloc (.cells #[.bool fin,.int .i64 out,.slice zA zn zc] 170))
 obtain⟨D,hDD⟩:=eX w.heap.size
 have hTD:aC (λ_=>False) w wD:=by rw[hwD];exact (aC.refl _ _).alloc _
 have hbD:aL wD D 170 #[.bool fin,.int .i64 out,.slice zA zn zc]:=by rw[hwD,hDD];exact aL.new _ _ _
 have HKD:=aB (hKw.trans (nX.of hTD))
 have HJD:=aB (hJ _ _ _ hJw hTD)
 have HWD:=aB hwD
 have HDD:=aB hDD
 have HBD:=aB hbD
 have hpz:=Sd l u R
 rw[<-hc.fin,<-hc.out] at hpz
 simp only at hpz
 have hhm:=Me hhead
 obtain⟨s0,s1,s2⟩:=hbD.facts
 clear hM hMw hzm hzo hzk hz hher hzq hub ih hhead hlen hd hsl hwD hDD hTD hbD hL hZ hKw hJw hY hN hJ hJx
 cases fin with
 | true =>
  have hrm:([],out)∈R:=by
   obtain⟨m,hm⟩:=eD.1 (show eI R=true from hc.fin.symm)
   have:=fX hc.sort hm
   rw[<-hc.out] at this
   simp only at this
   rw[this]
   exact hm
  have hb1:=HUB.out _ hrm
  have hb2:=(HHER.wt _ hrm).1
  simp only at hb1 hb2
  have z1:IntKind.i64.wrap (u+out)=u+out:=qZa _ (by omega)
  rw[if_pos rfl,<-hhm] at hpz
  obtain⟨fn,tmps,assign,body,hy,hRR⟩:=HY.out pre ⟨head,u+out⟩ wD HJD (by have h1:=HNN.out;have h2:0<R.length:=List.length_pos_iff.2 hc.ne;omega)
  simp only[aBe] at hy
  have HPZ:=aB hpz
  have HRR:=aB (vJ 8 hRR)
  clear hc hrm hb1 hb2 hpz hhm hRR
  rw[HWD.out] at hy
  refine (callsIn_wide (n:=9)).1 ?_
  refine callsIn_of_wp Tryz.func120 rfl trivial ?_ rfl
  simp only[Tryz.ntmps120,qZg,qQb,qZb,qJg,qQh,Array.replicate_succ,Array.replicate_zero,qQg,qJd,qZc,qQe]
  gi_wp2
  rw[<-HWD.out]
  refine HRR.mono ?_
  rintro e wS (⟨rfl,hJ1,hk1⟩ | ⟨rfl,hx1⟩)
  ·have hbS:=HBD.kpt hk1 (by decide) (by decide)
   rw[HDD.out] at hbS
   clear s0 s1 s2
   obtain⟨s0,s1,s2⟩:=hbS.facts
   have HJ0:Hid (J (pre++mW l u R 0) wS):=aB (by rw[HPZ.out];exact hJ1)
   have HK0:=aB (HKD.trans hk1)
   clear hJ1 hk1 hbS HRR hy
   gi_wp2
   gi_loopw [39] (λjv wr=>∃ (j:Nat),jv=.int .i64 j/\j<=zn/\Hid (J (pre++mW l u R j) wr)/\Hid (nX B0 w0 wr)) (λjv _=>zn-(intOf jv).toNat)
   case atStart=>exact⟨0,rfl,by omega,HJ0,HK0⟩
   case round =>
    clear HJ0 HK0 s0 s1 s2 x0 x1 x2 d0 d1 d2
    obtain⟨j,rfl,hjz,HJj,HKj⟩:=hrel
    by_cases hjz2:j<zn
    ·have j1:(j:Int)<(zn:Int):=by omega
     have j2:(0:Int)<=(j:Int):=by omega
     have j3:IntKind.i64.wrap ((j:Int)+1)=(j:Int)+1:=qZa _ (by omega)
     obtain⟨ag,ao,hA2,_,e0,e1,e2⟩:=fT (HZO.rd.kpt HKj (by decide) (by decide)).rd HZO.len j hjz2
     subst hA2
     have ham:=aZ arcs (0,0,0) j (by rw[HZO.len];exact hjz2)
     have harc:=HC.arc _ ham
     have hawt:=xD HC HHER ham
     have hlab:(aK R)[j]? = some (arcs.getD j (0,0,0)).1:=by
      rw[<-HC.labels,qZf,kN? (d:=(0,0,0)) (by rw[HZO.len];exact hjz2)]
      rfl
     obtain⟨⟨la,ua,tt⟩,hz⟩:∃ z,arcs.getD j (0,0,0)=z:=⟨_,rfl⟩
     rw[hz] at e0 e1 e2 harc hawt hlab
     simp only at e0 e1 e2 harc hawt hlab
     obtain⟨q1,q2,q3⟩:=harc
     obtain⟨w1,w2,w3⟩:=hawt
     obtain⟨r0,hr0⟩:=qZh _ w3
     have hr1:=bY.1 (show (r0.1,r0.2)∈aG R la from hr0)
     have hsc:dS la=true:=(HHER.run _ hr1 la (List.mem_cons_self)).1
     have hdu:=eW w3
     have hpn:=Db l u R j la hlab
     have hpf:=oO HC.sort l u (j+1)
     rw[<-q1] at hpn
     have hb3:=HUB.out _ hr1
     have hb4:=dG hr0
     rw[<-q1] at hb4
     simp only at hb3
     have z2:IntKind.i64.wrap (u+ua)=u+ua:=qZa _ (by omega)
     obtain⟨more,hmore2⟩:∃ m:ByteArray,m=⟨([la].flatMap aM).toArray⟩:=⟨_,rfl⟩
     have hml:more.toList=[la].flatMap aM:=by rw[hmore2,kJ]
     have hsz1:head.size<=96:=by
      have h1:=iZ l
      have h2:=HLEN.out
      rw[pN,HHD.out]
      omega
     have hsz2:more.size<=4:=by
      have h1:=iZ [la]
      rw[pN,hml]
      simpa using h1
     have hadd:∀ wx,(Op.stringOp .add head more).run Tryz.prog wx=.ok (.string (head++more)) wx:=λwx=>run_string_add_sum (P:=Tryz.prog) wx head more (by omega)
     have hhd2:(head++more).toList=(l++[la]).flatMap aM:=by rw[Bz,HHD.out,hml,qZd]
     obtain⟨wo,hwo⟩:=eX wr
     subst hwo
     obtain⟨wF,hwF⟩:=eX ((wo.alloc (.cells #[.int .i32 la,.int .i64 ua,.int .i64 tt] 173)).alloc (.cells #[.int .i32 la] 21))
     obtain⟨E,hE⟩:=eX wo.heap.size
     have hTF:aC (λ_=>False) wo wF:=by rw[hwF];exact ((aC.refl _ _).alloc _).alloc _
     have hbE:aL wF E 173 #[.int .i32 la,.int .i64 ua,.int .i64 tt]:=by rw[hwF,hE];exact (aL.new _ _ _).alloc _
     have hrdF:aI wF 1 (some ⟨wo.heap.size+1,0,none⟩) 1 ([la].map eV):=by
      rw[hwF]
      have h:=aI.new (size:=1) (wo.alloc (.cells #[.int .i32 la,.int .i64 ua,.int .i64 tt] 173)) 21 [.int .i32 la] 1 rfl
      simpa [eV] using h
     have hKF:=HKj.trans (nX.of hTF)
     have htx:=Ak wF (dN.kpt HL hKF hB0) (some ⟨wo.heap.size+1,0,none⟩) 1 1 [la] hrdF rfl (by omega) (by intro r hr;rw[qXf] at hr;rw[hr];exact hsc)
     rw[<-hmore2] at htx
     have hdl:=eH (aG R la)
     have hlnn:(pre++mW l u R j).length+(aJ (aG R la)).length<=N:=by
      have h1:=hpf.length_le
      rw[hpn,qJa,lX,lX] at h1
      have h2:=HNN.out
      rw[qJa]
      omega
     have hrec:∀ w7,aC (λ_=>False) wF w7->Calls Tryz.prog 120 _ w7 _:=λw7 T7=>HIH.out w7 tt (aJ (aG R la)) (head++more) (l++[la]) (u+ua) (pre++mW l u R j) (by have:=(List.getElem?_eq_some_iff.1 q3).1;rw[hk.len,HN.out] at this;exact this) q3 (by have:=HD.out;omega) hhd2 (by have:=HLEN.out;rw[qJa,qXi];omega) (hKF.trans (nX.of T7)) (HJ _ _ _ HJj (hTF.then T7)) hlnn (by omega) (by
      intro r hr
      have h1:=cV.1 (show (r.1,r.2)∈aJ (aG R la) from hr)
      have h2:=HUB.out _ (bY.1 h1)
      simp only at h2
      rw[q1]
      omega)
     have HWF:=aB hwF
     have HEE:=aB hE
     have HBE:=aB hbE
     have HTX:=aB (callsIn_wide (n:=8).2 htx)
     have HREC:=aB hrec
     have HPN:=aB hpn
     have HPF:=aB hpf
     clear ham hz q1 q2 q3 w1 w2 w3 hr0 hr1 hsc hdu hpn hpf hb3 hb4 hlab hmore2 hml hsz1 hsz2 hhd2 hwF hE hTF hbE hrdF htx hdl hrec hKF hlnn
     gi_wp2
     rw[<-HWF.out]
     refine⟨trivial,HTX.mono ?_⟩
     rintro e w7 ⟨rfl,T7⟩
     have hb7:=HBE.touch T7 (λf=>f)
     rw[HEE.out] at hb7
     obtain⟨t0,t1,t2⟩:=hb7.facts
     have HR7:=aB (callsIn_wide (n:=8).2 (HREC w7 T7))
     clear T7 hb7 HTX HREC
     gi_wp2
     refine⟨trivial,HR7.mono ?_⟩
     rintro e w8 (⟨rfl,hJ8,hK8⟩ | ⟨rfl,q,hq,hX8⟩)
     ·have HJ8:=aB hJ8
      have HK8:=aB hK8
      clear hJ8 hK8 HR7
      gi_wp2
      go_roundw
      case rel=>exact⟨j+1,by simp,by omega,aB (by rw[HPN.out,<-qXa];exact HJ8),HK8⟩
      case measure=>simp only[intOf];omega
     ·have hq2:mW l u R j++q <+: dX l u R:=by
       refine List.IsPrefix.trans ?_ HPF
       rw[HPN.out]
       exact (qQk _).2 hq
      have HQ2:=aB hq2
      have HX8:=aB hX8
      clear hq hq2 hX8 HR7
      gi_wp2
      go_ret
      exact .inr ⟨rfl,_,HQ2,by rw[<-qXa];exact HX8⟩
    ·have hje:j=zn:=by omega
     have j4:¬ (j:Int)<(zn:Int):=by omega
     have hall:=Il HC.sort l u j (by rw[<-HC.labels,qJb];have:=HZO.len;simp only at this ⊢;omega)
     have HALL:=aB hall
     clear hje hall
     gi_wp2
     go_ret
     exact .inl ⟨rfl,by rw[<-HALL.out];exact HJj,HKj⟩
  ·have HX:=aB hx1
   have hpf:=oO HC.sort l u 0
   rw[HPZ.out] at hpf
   have HPF:=aB hpf
   clear hx1 hpf hy HRR
   gi_wp2
   go_ret
   exact .inr ⟨rfl,_,HPF,HX⟩
 | false =>
  rw[if_neg (by decide)] at hpz
  have HJ0:Hid (J (pre++mW l u R 0) wD):=aB (by rw[hpz,qJc];exact HJD)
  have HK0:=HKD
  clear hc hpz hhm
  refine (callsIn_wide (n:=9)).1 ?_
  refine callsIn_of_wp Tryz.func120 rfl trivial ?_ rfl
  simp only[Tryz.ntmps120,qZg,qQb,qZb,qJg,qQh,Array.replicate_succ,Array.replicate_zero,qQg,qJd,qZc,qQe]
  gi_wp2
  refine⟨λ_ h=>(by cases h),?_⟩
  rename_i Q3 K2 a2 K1 a1 K0 a0 xx hhh ww heqq
  clear heqq xx hhh ww
  refine a0 _ _ ?_
  clear a0 K0
  gi_wp2
  rw[<-HWD.out]
  gi_loopw [39] (λjv wr=>∃ (j:Nat),jv=.int .i64 j/\j<=zn/\Hid (J (pre++mW l u R j) wr)/\Hid (nX B0 w0 wr)) (λjv _=>zn-(intOf jv).toNat)
  case atStart=>exact⟨0,rfl,by omega,HJ0,HK0⟩
  case round =>
   clear HJ0 HK0 s0 s1 s2 x0 x1 x2 d0 d1 d2
   obtain⟨j,rfl,hjz,HJj,HKj⟩:=hrel
   by_cases hjz2:j<zn
   ·have j1:(j:Int)<(zn:Int):=by omega
    have j2:(0:Int)<=(j:Int):=by omega
    have j3:IntKind.i64.wrap ((j:Int)+1)=(j:Int)+1:=qZa _ (by omega)
    obtain⟨ag,ao,hA2,_,e0,e1,e2⟩:=fT (HZO.rd.kpt HKj (by decide) (by decide)).rd HZO.len j hjz2
    subst hA2
    have ham:=aZ arcs (0,0,0) j (by rw[HZO.len];exact hjz2)
    have harc:=HC.arc _ ham
    have hawt:=xD HC HHER ham
    have hlab:(aK R)[j]? = some (arcs.getD j (0,0,0)).1:=by
     rw[<-HC.labels,qZf,kN? (d:=(0,0,0)) (by rw[HZO.len];exact hjz2)]
     rfl
    obtain⟨⟨la,ua,tt⟩,hz⟩:∃ z,arcs.getD j (0,0,0)=z:=⟨_,rfl⟩
    rw[hz] at e0 e1 e2 harc hawt hlab
    simp only at e0 e1 e2 harc hawt hlab
    obtain⟨q1,q2,q3⟩:=harc
    obtain⟨w1,w2,w3⟩:=hawt
    obtain⟨r0,hr0⟩:=qZh _ w3
    have hr1:=bY.1 (show (r0.1,r0.2)∈aG R la from hr0)
    have hsc:dS la=true:=(HHER.run _ hr1 la (List.mem_cons_self)).1
    have hdu:=eW w3
    have hpn:=Db l u R j la hlab
    have hpf:=oO HC.sort l u (j+1)
    rw[<-q1] at hpn
    have hb3:=HUB.out _ hr1
    have hb4:=dG hr0
    rw[<-q1] at hb4
    simp only at hb3
    have z2:IntKind.i64.wrap (u+ua)=u+ua:=qZa _ (by omega)
    obtain⟨more,hmore2⟩:∃ m:ByteArray,m=⟨([la].flatMap aM).toArray⟩:=⟨_,rfl⟩
    have hml:more.toList=[la].flatMap aM:=by rw[hmore2,kJ]
    have hsz1:head.size<=96:=by
     have h1:=iZ l
     have h2:=HLEN.out
     rw[pN,HHD.out]
     omega
    have hsz2:more.size<=4:=by
     have h1:=iZ [la]
     rw[pN,hml]
     simpa using h1
    have hadd:∀ wx,(Op.stringOp .add head more).run Tryz.prog wx=.ok (.string (head++more)) wx:=λwx=>run_string_add_sum (P:=Tryz.prog) wx head more (by omega)
    have hhd2:(head++more).toList=(l++[la]).flatMap aM:=by rw[Bz,HHD.out,hml,qZd]
    obtain⟨wo,hwo⟩:=eX wr
    subst hwo
    obtain⟨wF,hwF⟩:=eX ((wo.alloc (.cells #[.int .i32 la,.int .i64 ua,.int .i64 tt] 173)).alloc (.cells #[.int .i32 la] 21))
    obtain⟨E,hE⟩:=eX wo.heap.size
    have hTF:aC (λ_=>False) wo wF:=by rw[hwF];exact ((aC.refl _ _).alloc _).alloc _
    have hbE:aL wF E 173 #[.int .i32 la,.int .i64 ua,.int .i64 tt]:=by rw[hwF,hE];exact (aL.new _ _ _).alloc _
    have hrdF:aI wF 1 (some ⟨wo.heap.size+1,0,none⟩) 1 ([la].map eV):=by
     rw[hwF]
     have h:=aI.new (size:=1) (wo.alloc (.cells #[.int .i32 la,.int .i64 ua,.int .i64 tt] 173)) 21 [.int .i32 la] 1 rfl
     simpa [eV] using h
    have hKF:=HKj.trans (nX.of hTF)
    have htx:=Ak wF (dN.kpt HL hKF hB0) (some ⟨wo.heap.size+1,0,none⟩) 1 1 [la] hrdF rfl (by omega) (by intro r hr;rw[qXf] at hr;rw[hr];exact hsc)
    rw[<-hmore2] at htx
    have hdl:=eH (aG R la)
    have hlnn:(pre++mW l u R j).length+(aJ (aG R la)).length<=N:=by
     have h1:=hpf.length_le
     rw[hpn,qJa,lX,lX] at h1
     have h2:=HNN.out
     rw[qJa]
     omega
    have hrec:∀ w7,aC (λ_=>False) wF w7->Calls Tryz.prog 120 _ w7 _:=λw7 T7=>HIH.out w7 tt (aJ (aG R la)) (head++more) (l++[la]) (u+ua) (pre++mW l u R j) (by have:=(List.getElem?_eq_some_iff.1 q3).1;rw[hk.len,HN.out] at this;exact this) q3 (by have:=HD.out;omega) hhd2 (by have:=HLEN.out;rw[qJa,qXi];omega) (hKF.trans (nX.of T7)) (HJ _ _ _ HJj (hTF.then T7)) hlnn (by omega) (by
     intro r hr
     have h1:=cV.1 (show (r.1,r.2)∈aJ (aG R la) from hr)
     have h2:=HUB.out _ (bY.1 h1)
     simp only at h2
     rw[q1]
     omega)
    have HWF:=aB hwF
    have HEE:=aB hE
    have HBE:=aB hbE
    have HTX:=aB (callsIn_wide (n:=8).2 htx)
    have HREC:=aB hrec
    have HPN:=aB hpn
    have HPF:=aB hpf
    clear ham hz q1 q2 q3 w1 w2 w3 hr0 hr1 hsc hdu hpn hpf hb3 hb4 hlab hmore2 hml hsz1 hsz2 hhd2 hwF hE hTF hbE hrdF htx hdl hrec hKF hlnn
    gi_wp2
    rw[<-HWF.out]
    refine⟨trivial,HTX.mono ?_⟩
    rintro e w7 ⟨rfl,T7⟩
    have hb7:=HBE.touch T7 (λf=>f)
    rw[HEE.out] at hb7
    obtain⟨t0,t1,t2⟩:=hb7.facts
    have HR7:=aB (callsIn_wide (n:=8).2 (HREC w7 T7))
    clear T7 hb7 HTX HREC
    gi_wp2
    refine⟨trivial,HR7.mono ?_⟩
    rintro e w8 (⟨rfl,hJ8,hK8⟩ | ⟨rfl,q,hq,hX8⟩)
    ·have HJ8:=aB hJ8
     have HK8:=aB hK8
     clear hJ8 hK8 HR7
     gi_wp2
     go_roundw
     case rel=>exact⟨j+1,by simp,by omega,aB (by rw[HPN.out,<-qXa];exact HJ8),HK8⟩
     case measure=>simp only[intOf];omega
    ·have hq2:mW l u R j++q <+: dX l u R:=by
      refine List.IsPrefix.trans ?_ HPF
      rw[HPN.out]
      exact (qQk _).2 hq
     have HQ2:=aB hq2
     have HX8:=aB hX8
     clear hq hq2 hX8 HR7
     gi_wp2
     go_ret
     exact .inr ⟨rfl,_,HQ2,by rw[<-qXa];exact HX8⟩
   ·have hje:j=zn:=by omega
    have j4:¬ (j:Int)<(zn:Int):=by omega
    have hall:=Il HC.sort l u j (by rw[<-HC.labels,qJb];have:=HZO.len;simp only at this ⊢;omega)
    have HALL:=aB hall
    clear hje hall
    gi_wp2
    go_ret
    exact .inl ⟨rfl,by rw[<-HALL.out];exact HJj,HKj⟩
end
theorem Cj(w0:World)(hL:dN w0)(b:Nat)(base:Int)(A:Option Addr)(n c:Nat)(Z:List SV)(wA:Option Addr)(wc:Nat)(W:List Int)(hM:Za w0 b base A n c Z wA wc W)(k:iJ)(hk:jY k)(hh:∀ X∈k.rests,uR X)(hZ:Z.map SV.p=k.states)(lp B0:Nat)(hB0:0<B0)(J Jx:List aE->World->Prop)(N:Nat)
  (hJ:∀ pre W W',J pre W->aC (λ_=>False) W W'->J pre W')(hJx:∀ pre W W',Jx pre W->aC (λ_=>False) W W'->Jx pre W')(hY:En lp B0 J Jx N):∀ f,Tx w0 b n k lp B0 J Jx N f
 | 0=>λ_ _ _ _ _ _ _ _ _ hd=>absurd hd (Nat.not_lt_zero _)
 | f+1=>Lx w0 hL b base A n c Z wA wc W hM k hk hh hZ lp B0 hB0 J Jx N hJ hJx hY f (Cj w0 hL b base A n c Z wA wc W hM k hk hh hZ lp B0 hB0 J Jx N hJ hJx hY f)
theorem Lc(hL:dN w0){b:Nat}(h:Kw w0 b L n A c Z wA wc)(hD:cA L)(B:Nat)(hB:aL w0 B 92 #[.pointer (some ⟨b,0,none⟩)])(w:World)(lp B0:Nat)(hB0:0<B0)(J Jx:List aE->World->Prop)
  (hJ:∀ pre W W',J pre W->aC (λ_=>False) W W'->J pre W')(hJx:∀ pre W W',Jx pre W->aC (λ_=>False) W W'->Jx pre W')(hY:En lp B0 J Jx L.length)(hK:nX B0 w0 w)(h0:J [] w) :
  Calls Tryz.prog 119 #[.func (.yield lp) #[] #[],.pointer (some ⟨B,0,none⟩)] w λe w'=>e=.returned (.tuple #[])/\(J L w'\/∃ q,q <+: L/\Jx q w'):=by
 obtain⟨x0,x1,x2⟩:=(h.wk.kpt hK).blk.facts
 obtain⟨b0,b1,b2⟩:=(hB.kpt hK (by decide) (by decide)).facts
 by_cases he:L=[]
 ·subst he
  have hn:n=0:=by rw[<-h.n_len];rfl
  subst hn
  have HC:=aB h0
  clear h hD hL hB h0 hJ hJx hY hK
  go_in
  go_wp2_with fail
  go_end0
  exact⟨rfl,.inl HC⟩
 ·have hm:=On he
  have M:=aAw hD he
  have hher:=rB 25 ⟨[],[]⟩ (aT L) (λX hX=>(by cases hX)) (yM hD)
  have hn:=h.n_len
  have hst:=h.st
  have hwk:=h.wk
  rw[hm] at hn hst hwk
  simp only at hn hst hwk
  have hbase:=gE hD
  have hpos:=M.pos
  have hroot:=M.root
  rw[hn] at hroot
  have hfa:=Cj w0 hL b _ A n c Z wA wc _ hwk _ M.good hher hst lp B0 hB0 J Jx L.length hJ hJx hY 25
  have hdep:=mP hD
  have hwl:=No hD
  have hbm:(bB L).base=aW (aT L):=by rw[hm]
  rw[hbm] at x0 hbase
  obtain⟨base,hb⟩:=eX (aW (aT L))
  rw[<-hb] at x0 hbase hwl hwk
  have hll:(aJ (aT L)).length=L.length:=by unfold aJ aT;rw[qJb,qJb]
  have hcall:∀ wx,aC (λ_=>False) w wx->Calls Tryz.prog 120 #[.pointer (some ⟨b,0,none⟩),.int .i64 ((n-1:Nat):Int),.string ⟨#[]⟩,.int .i64 base,.func (.yield lp) #[] #[]] wx (λe w5=>∃ v,e=.returned (.bool v)/\(J L w5\/∃ q,q <+: L/\Jx q w5)):=λwx T=>(hfa wx (n-1) (aJ (aT L)) ⟨#[]⟩ [] base [] (by omega) hroot (by rw[eH];exact hdep) (kJ []) (by rw[eH];simp only[qZb];omega) (hK.trans (nX.of T)) (hJ _ _ _ h0 T) (by rw[hll];simp) hbase.1 (by
   intro r hr
   have h1:=cV.1 (show (r.1,r.2)∈aJ (aT L) from hr)
   obtain⟨p,hp,e⟩:=List.mem_map.1 h1
   have:=(hD.weight p hp).2
   simp only[Prod.mk.injEq] at e
   omega)).mono (by
   intro e w5 hC5
   rw[hwl] at hC5
   rcases hC5 with⟨rfl,h1,_⟩ | ⟨rfl,h1⟩
   ·exact⟨_,rfl,.inl (by simpa using h1)⟩
   ·exact⟨_,rfl,.inr (by simpa using h1)⟩)
  have hfew:=h.few
  have HWK:=aB (h.wk.kpt hK).blk
  rw[hbm,<-hb] at HWK
  have HN:=aB hfew
  have HCALL:=aB hcall
  have hn1:((n-1:Nat):Int)=(n:Int)-1:=by omega
  rw[hn1] at HCALL
  have y0:(0:Int)<(n:Int):=by omega
  clear h hD hL hB h0 hJ hJx hY hK hll hm M hher hn hst hwk hbase hpos hroot hfa hdep hwl hbm hb hcall hfew hn1
  go_in
  go_wp2_with fail
  refine wp_region_still_tail 8 (by kernel_rfl) (by kernel_rfl) ?_
  simp only[List.take_succ_cons,List.take_zero,List.drop_succ_cons,List.drop_zero]
  still_step
  still_step
  still_call (It w.drew b base A n c _ HWK.drew HN)
  repeat still_step
  refine wpStill_nil ?_
  change wpList _ _ _ _ _ w.drew
  have HDR:=aB (show aC (λ_=>False) w w.drew from (aC.refl _ _).drew)
  generalize w.drew=wd at HDR ⊢
  go_wp2_with ((go_at_call 120;refine (HCALL wd HDR).mono ?_;rintro e w5 ⟨v,rfl,h5⟩;have H5:=aB h5;clear h5))
  go_end0
  exact⟨rfl,H5⟩
section
open Go.RowKit Go.Shelf
attribute [local go_sem] Oper.semAt_some
theorem xM{row:Option Nat}(hr:∀ r,row=some r->∃ o:Obj,w.heap[r]? = some o/\o.isCells=false)(h:bE w g t):some g≠row:=by
 intro e
 obtain⟨cs,_,h⟩:=h
 obtain⟨o,ho,hc⟩:=hr g e.symm
 rw[h] at ho
 cases ho
 cases hc
theorem nX.touch(h:aC S w w')(hS:∀ g,S g->B0<=g/\(bE w g 125 \/ bE w g 37)):nX B0 w w':=by
 refine⟨h.os,h.tape,h.output,h.size,λg h1 h2=>h.block g h1 (λs=>by have:=(hS g s).1;omega),λg t cs fr e h1 h2=>h.block g (Array.getElem?_eq_some_iff.1 e).1 (λs=>?_)⟩
 rcases (hS g s).2 with⟨cs2,_,e2⟩ | ⟨cs2,_,e2⟩
 ·rw[e] at e2
  cases e2
  exact h1 rfl
 ·rw[e] at e2
  cases e2
  exact h2 rfl
theorem uZ{B:Nat}(h:aC S w w')(hS:∀ g,S g->∃ t,bE w g t):KeepsFrom B w w' :=
 ⟨h.size,λk o _ hk ho=>(h.block k (Array.getElem?_eq_some_iff.1 hk).1 (λs=>by
  obtain⟨t,cs,_,e⟩:=hS k s
  rw[e] at hk
  cases hk
  cases ho)).trans hk⟩
theorem aFy(hB:B0<=n)(W:World)(l:Nat)(o o':Obj)(hl:n<=l)(h:W.heap[l]? = some o)(hc:o.isCells=false)(_:o.isWalk=false):nX B0 W (W.putObj l o'):=by
 have hg:=grownBy_putObj' W l o'
 refine⟨hg.os,hg.tape,hg.output,hg.size,λg h1 h2=>hg.block g h1 (λe=>by cases e;omega),λg t cs fr e _ _=>hg.block g (Array.getElem?_eq_some_iff.1 e).1 (λe2=>?_)⟩
 cases e2
 rw[h] at e
 cases e
 cases hc
theorem Ns{m':Nat}{l:Nat}{args:Array Value}{R:Ending->World->Prop}(h:YieldAt Fence.wide m P l args W R):YieldAt Fence.wide m' P l args W R:=by
 obtain⟨fn,tmps,assign,body,h1,h2⟩:=h
 exact⟨fn,tmps,assign,body,h1,vJ m' h2⟩
theorem Pt(hL:dN w0){b:Nat}(h:Kw w0 b L n A c Z wA wc)(hD:cA L)(B:Nat)(hB:aL w0 B 92 #[.pointer (some ⟨b,0,none⟩)])(B0:Nat)(hB0:0<B0) :
  SeqStopsK Fence.wide 8 Tryz.prog 119 #[.pointer (some ⟨B,0,none⟩)] aBe (nX B0) (λxs=>xs=L) (λpre=>pre <+: L) L.length w0:=by
 intro l J Jx W hW hJ hJx hY h0
 refine callsIn_wide.2 ((Lc hL h hD B hB W l B0 hB0 J Jx (λpre X Y hs ht=>hJ pre X Y none hs (ht.grownBy_none none) (λr e=>by cases e)) (λpre X Y hs ht=>hJx pre X Y none hs (ht.grownBy_none none) (λr e=>by cases e)) (λpre x W1 h1 h2=>Ns (hY pre x W1 h1 h2)) (nX.of (aC.of_below hW _)) h0).mono ?_)
 rintro e W' ⟨rfl,h1 | ⟨q,hq,h1⟩⟩
 ·exact⟨⟨_,rfl⟩,.inl ⟨_,rfl,h1⟩⟩
 ·exact⟨⟨_,rfl⟩,.inr ⟨q,hq,h1⟩⟩
end
section
open Go.RowKit Go.Shelf
attribute [local go_sem] Oper.semAt_some
structure uQ(w0 w:World)(sb:Nat)(A:Option Addr)(c:Nat)(T:List aE):Prop where
 l:aL w sb 37 #[.slice A T.length c]
 own:w.ownsRow 0 125 2 (.slice A T.length c) T.length (bC T)
 young:∀ g,(Value.slice A T.length c).ownBlock=some g->w0.heap.size<=g
 sb0:w0.heap.size<=sb
 touch:aC (λ_=>False) w0 w
theorem uQ.quiet{sb:Nat}{T:List aE}(h:uQ w0 w sb A c T)(t:aC (λ_=>False) w w'):uQ w0 w' sb A c T :=
 ⟨h.l.touch t (λf=>f),aD h.own t (λ_ _ f=>f),h.young,h.sb0,h.touch.then t⟩
theorem uQ.row{sb:Nat}{T:List aE}{row:Option Nat}(h:uQ w0 w sb A c T)(hg:w.grownBy w' row)(hr:∀ r,row=some r->w0.heap.size<=r/\∃ o:Obj,w.heap[r]? = some o/\o.isCells=false):uQ w0 w' sb A c T:=by
 have hr2:∀ r,row=some r->∃ o:Obj,w.heap[r]? = some o/\o.isCells=false:=λr e=>(hr r e).2
 have hT:aC (λk=>row=some k) w w':=(aC.refl _ _).grown hg (λk e _=>e)
 exact⟨h.l.grown hg (xM hr2 (aF h.l)),aD h.own hT (λg e1 e2=>xM hr2 (aH h.own e1) e2.symm),h.young,h.sb0,h.touch.grown hg (λk e hk=>by have:=(hr k e).1;omega)⟩
theorem At(hL:dN w0){b:Nat}(h:Kw w0 b L n A c Z wA wc)(hD:cA L)(B:Nat)(hB:aL w0 B 92 #[.pointer (some ⟨b,0,none⟩)]) :
  Calls Tryz.prog 118 #[.slice none 0 0,.func (.func 119) #[] #[.pointer (some ⟨B,0,none⟩)]] w0 λe w'=>∃ A' c',e=.returned (.slice A' L.length c')/\eB 125 2 w0 w' (.slice A' L.length c') L.length (bC L):=by
 have hmf:∀ (fn:Fn) (first cap:Array Value) (w:World),(Instr.makeFunc fn first cap).run Tryz.prog w=.ok (.func fn first cap) w:=λ_ _ _ _=>rfl
 obtain⟨w2,hw2⟩:=eX (w0.alloc (.cells #[.slice none 0 0] 37))
 obtain⟨sb,hsb⟩:=eX w0.heap.size
 have hT2:aC (λ_=>False) w0 w2:=by rw[hw2];exact (aC.refl _ _).alloc _
 have hbl:aL w2 sb 37 #[.slice none 0 0]:=by rw[hw2,hsb];exact aL.new _ _ _
 have hC:uQ w0 w2 sb none 0 []:=⟨hbl,World.ownsRow_nil _ _ _ _,λg hg=>(by cases hg),by omega,hT2⟩
 have hst:=Pt (dN.touch hL hT2) (h.quiet hT2) hD B (hB.touch hT2 (λf=>f)) w0.heap.size hL.1
 have hpos:w0.heap.size<=w2.heap.size:=hT2.size
 have hlen:=hD.len
 have HC:=aB hC
 have HW2:=aB hw2
 have HSB:=aB hsb
 obtain⟨i1,hi1,hy0,hy1,hy2⟩:=aO jK
 clear hbl hC hsb hw2 hT2 hL h hD hB
 refine (callsIn_wide (n:=9)).1 ?_
 refine callsIn_of_wp_marks Tryz.func118 rfl trivial ?_ rfl
 simp only[Tryz.ntmps118,qZg,qQb,qZb,qJg,qQh,Array.replicate_succ,Array.replicate_zero,qQg,qJd,qZc,qQe]
 gi_wp2
 rw[<-HW2.out,<-HSB.out]
 refine wpIn_rangeFunc_ownH rfl (by decide) (gf := 119) (lb:=#[.pointer (some ⟨B,0,none⟩)]) rfl trivial (enters_of Tryz.func119 (by kernel_rfl) rfl)
  hst (λh k=>nX.trans h k) (aFy hpos) (Below.refl _ _) (λ_=>rfl)
  (λpre W=>∃ A c,uQ w0 W sb A c pre)
  (λ_ _ _=>False)
  (λpre X Y row hs hg hr=>by
    obtain⟨A,c,h1⟩:=hs
    exact⟨A,c,h1.row hg (λr e=>⟨qXc hpos (hr r e).1,(hr r e).2⟩)⟩)
  (λ_ _ _ _ _ hs _ _=>hs)
  ⟨none,0,HC⟩
  (λx a' W=>∃ Bx,aL W Bx 125 #[.string x.word,.int .i64 x.weight]/\a'={ tmps:=#[.slice none 0 0,.func (.func 119) #[] #[.pointer (some ⟨B,0,none⟩)],.pointer (some ⟨sb,0,none⟩),undef,.slice none 0 0,.pointer (some ⟨Bx,0,none⟩),.func (.func 119) #[] #[.pointer (some ⟨B,0,none⟩)],.agg #[.string x.word,.int .i64 x.weight],undef,undef,undef,undef,undef],defers:=[] })
  (λx a' _ X Y row hs hg hr=>by
    obtain⟨Bx,e1,e2⟩:=hs
    exact⟨Bx,e1.grown hg (xM (λr e=>(hr r e).2) (aF e1)),e2⟩)
  ?assign ?body ?done ?stop
 case assign =>
  rintro l pre ⟨xw,xn⟩ W K ⟨A2,c2,h1⟩ hK
  simp only[aBe]
  gi_wp2
  exact hK _ _ ((KeepsOthers.alloc _ _).from _) (nX.of ((aC.refl _ _).alloc _)) ⟨A2,c2,h1.quiet ((aC.refl _ _).alloc _)⟩ ⟨W.heap.size,aL.new _ _ _,rfl⟩
 case body =>
  rintro l pre ⟨xw,xn⟩ a' W _ _ ⟨A2,c2,h1⟩ ⟨Bx,hbx,rfl⟩ hlt
  obtain⟨p0,p1,p2⟩:=hbx.facts
  obtain⟨l0,l1,l2⟩:=h1.l.facts
  obtain⟨q,hq⟩:∃ q,pre.length=q:=⟨_,rfl⟩
  have HQ:=aB hq
  obtain⟨wa,hwa⟩:=eX (W.alloc (.cells #[.string xw,.int .i64 xn] 125))
  have hTa:aC (λ_=>False) W wa:=by rw[hwa];exact (aC.refl _ _).alloc _
  have hca:=h1.quiet hTa
  have hown:=hca.own
  rw[hq] at hown
  have hrd:aI wa 2 (some ⟨W.heap.size,0,none⟩) 1 [.string xw,.int .i64 xn]:=by
   rw[hwa]
   have h:=aI.new (size:=2) W 125 [.string xw,.int .i64 xn] 1 rfl
   simpa using h
  have hone:∀ u∈[Value.string xw,.int .i64 xn],u.oneCell'=true:=by
   intro u hu
   simp only[List.mem_cons,List.not_mem_nil,or_false] at hu
   rcases hu with rfl | rfl<;>rfl
  have hqs:q+1<=4096:=by omega
  rw[hq] at l0
  have HWA:=aB hwa
  have HCA:=aB hca
  have HOW:=aB hown
  have HRD:=aB hrd
  have HONE:=aB hone
  have HBB:Hid (q+1<=maxLen/\(q+1)*24<=140737488355328):=aB (by unfold maxLen;omega)
  have HLV:Hid (some sb≠(Value.slice A2 q c2).ownBlock):=aB (λe=>(aH hown e.symm).ne (aF hca.l) (by decide) rfl)
  have HTA:=aB hTa
  clear h1 hbx hwa hTa hca hown hrd hone hqs hq hlt hst hlen
  gi_wp2_with (gi_at_builtin;rw[<-HWA.out];refine Gb _ rfl (.tmp 8) (.tmp 10) 37 rfl 125 i1 _ 2 24 Tryz.underlying37 hi1 hy0 hy1 hy2 rfl (by decide) (.slice A2 q c2) q _ rfl HOW (some ⟨W.heap.size,0,none⟩) 1 1 [.string xw,.int .i64 xn] rfl HRD (λh=>by cases h) HONE HBB.1 HBB.2 ?_;intro v6 w6 O6 G6 F6 _;obtain⟨A6,c6,hv,_,_⟩:=aX O6;subst hv;have hb6:=HCA.l.grown G6 HLV.out;have HE6:=aB (And.intro O6 (And.intro G6 F6));have HB6:=aB hb6;clear O6 G6 F6 l0 l1 l2;obtain⟨l0,l1,l2⟩:=hb6.facts;clear hb6)
  obtain⟨O6,G6,F6⟩:=HE6.out
  have hpc:bC (pre++[(⟨xw,xn⟩:aE)])=bC pre++[.string xw,.int .i64 xn]:=by simp[bC,aE.cells]
  have hl1:(pre++[(⟨xw,xn⟩:aE)]).length=q+1:=by rw[qJa,HQ.out];rfl
  have hTg:aC (λg=>g=sb\/(Value.slice A2 q c2).ownBlock=some g) wa (w6.setCell ⟨sb,0,none⟩ (.slice A6 (q+1) c6)):=(((aC.refl _ _).grown G6 (λk hk _=>.inr hk))).setCell (p:=⟨sb,0,none⟩) (λ_=>.inl rfl) _
  have hS:∀ g,(g=sb\/(Value.slice A2 q c2).ownBlock=some g)->w0.heap.size<=g/\(bE wa g 125 \/ bE wa g 37):=by
   rintro g (rfl | e)
   ·exact⟨HCA.sb0,.inr (aF HCA.l)⟩
   ·have hy:=HCA.young g
    rw[HQ.out] at hy
    exact⟨hy e,.inl (aH HOW e)⟩
  refine⟨(uZ HTA (λg f=>f.elim)).trans (uZ hTg (λg e=>(hS g e).2.elim (λh=>⟨_,h⟩) (λh=>⟨_,h⟩))),(nX.of HTA).trans (nX.touch hTg hS),A6,c6,⟨?_,?_,?_,HCA.sb0,?_⟩⟩
  ·rw[hl1]
   have:=HB6.set_ 0 (.slice A6 (q+1) c6)
   simpa using this
  ·rw[hl1,hpc]
   exact eS O6 (λe=>(aH O6 e).ne (aF HB6) (by decide) rfl) _
  ·rw[hl1]
   intro g hg
   rcases F6 with e | ⟨g2,e,hle⟩
   ·rw[e] at hg
    have h1:=HCA.young g
    rw[HQ.out] at h1
    exact h1 hg
   ·rw[e] at hg
    injection hg with hg
    have:=HCA.touch.size
    omega
  ·refine HCA.touch.trans hTg λg hg e=>?_
   rcases e with e | e
   ·have:=HCA.sb0;omega
   ·have h1:=HCA.young g
    rw[HQ.out] at h1
    have:=h1 e
    omega
 case done =>
  rintro D ys W hD rfl ⟨A2,c2,h1⟩ hK
  obtain⟨l0,l1,l2⟩:=h1.l.facts
  have H1:=aB h1
  clear h1
  gi_wp2
  refine⟨by simp,.inl ⟨_,_,rfl,run_takeDeferred hK,?_⟩⟩
  have h2:=H1.row (grownBy_putObj' W D (.deferred none)) (λr e=>by cases e;exact⟨qXc hpos hD,_,hK,rfl⟩)
  exact⟨.slice A2 _ c2,by simp[results,Tryz.f118,go_sem],A2,c2,rfl,h2.own,h2.touch,h2.young⟩
 case stop =>
  rintro D c pre W _ _ hf
  exact hf.elim
theorem uU(hL:dN w0){b:Nat}(h:Kw w0 b L n A c Z wA wc)(hD:cA L)(B:Nat)(hB:aL w0 B 92 #[.pointer (some ⟨b,0,none⟩)]) :
  Calls Tryz.prog 60 #[.func (.func 119) #[] #[.pointer (some ⟨B,0,none⟩)]] w0 λe w'=>∃ A' c',e=.returned (.slice A' L.length c')/\eB 125 2 w0 w' (.slice A' L.length c') L.length (bC L):=by
 have HA:=aB (At hL h hD B hB)
 clear hL h hD hB
 go_in
 go_wp2_with fail
 refine HA.mono ?_
 rintro e w1 ⟨A1,c1,rfl,ho⟩
 have HO:=aB ho
 clear ho HA
 go_wp2_with fail
 go_ret
 exact⟨A1,c1,rfl,HO⟩
end
def yE(sts:List bP)(root:Int)(base:Int)(s:List UInt8):Int × Bool:=match cQ s with
 | none=>(0,false)
 | some x=>Er sts (fD sts x root base)
theorem Tk(w:World)(b:Nat)(base:Int)(A:Option Addr)(n c:Nat)(Z:List SV)(wv:Value)(hblk:aL w b 167 #[.int .i64 base,.slice A n c,wv])(hst:eC w A n Z)(hL:dN w)(s:ByteArray)(hs:s.size<=1099511627776)(hn:n<=1000000)(hb0:0<=base)(hb1:base<=1048576)(hsm:aCk n Z) :
  Calls Tryz.prog 45 #[.pointer (some ⟨b,0,none⟩),.string s] w λe w'=>e=.returned (.tuple #[.int .i64 (yE (Z.map SV.p) ((n:Int)-1) base s.toList).1,.bool (yE (Z.map SV.p) ((n:Int)-1) base s.toList).2])/\aC (λ_=>False) w w':=by
 have HBK:=aB hblk
 have HST:=aB hst
 have HSM:=aB hsm
 have HRN:=aB (uB w s hs hL)
 clear hblk hst hsm hL
 obtain⟨R,hR⟩:∃ R,yE (Z.map SV.p) ((n:Int)-1) base s.toList=R:=⟨_,rfl⟩
 rw[hR]
 have HR:=aB hR
 clear hR
 go_in
 go_wp2_with fail
 refine HRN.mono ?_
 rintro e w1 ⟨lA,lq,lc,O,ok,rfl,N1,hl,hq,hru⟩
 have HN:=aB N1
 have HOL:=aB hl
 have HRU:=aB hru
 have hb:=HBK.touch N1.touch (λf=>f)
 obtain⟨x0,x1,x2⟩:=hb.facts
 have HB1:=aB hb
 clear N1 hl hru HRN hb
 go_wp2_with fail
 go_quiet ((go_at_call 98;exact Calls.quiet_of_same (It _ b base A n c wv HB1 hn)))
 obtain⟨w2,hw2⟩:=eX (w1.drewN nq)
 have hT2:aC (λ_=>False) w1 w2:=by rw[hw2];exact (aC.refl _ _).drewN _
 rw[<-hw2]
 have HT2:=aB (HN.touch.then hT2)
 have HB2:=aB (HB1.touch hT2 (λf=>f))
 have HF2:=aB ((fM.of_own HN.own).quiet hT2)
 have HS2:=aB (HST.quiet (HN.touch.then hT2))
 clear hw2 hT2
 go_wp2_with fail
 go_loopw [8,9,28] (λav sv iv wr=>∃ (i:Nat) (a u:Int),av=.int .i64 a/\sv=.int .i64 u/\iv=.int .i64 i/\i<=lq/\-1<=a/\a<n/\Hid (0<=u/\u<=1048576+1048576*(i:Int))/\Hid (fD (Z.map SV.p) O ((n:Int)-1) base=fD (Z.map SV.p) (O.drop i) a u)/\Hid (aC (λ_=>False) w2 wr)) (λ_ _ iv _=>lq-(intOf iv).toNat)
 case atStart=>exact⟨0,(n:Int)-1,base,rfl,rfl,rfl,by omega,by omega,by omega,aB ⟨hb0,by omega⟩,aB rfl,aB (aC.refl _ _)⟩
 case round =>
  obtain⟨i,a,u,rfl,rfl,rfl,hi,ha1,ha2,HU,HE,HT⟩:=hrel
  by_cases hin:i<lq
  ·have y1:(i:Int)<(lq:Int):=by omega
   have y2:(0:Int)<=(i:Int):=by omega
   obtain⟨g,o,hlA,c0⟩:=lU (HF2.quiet HT).rd HOL i hin
   subst hlA
   have hdr:O.drop i=O.getD i 0 :: O.drop (i+1):=by
    rw[List.drop_eq_getElem_cons (by rw[HOL.out];exact hin)]
    simp[qXb,HOL.out,hin]
   obtain⟨r,hr⟩:∃ r,O.getD i 0=r:=⟨_,rfl⟩
   rw[hr] at c0 hdr
   have HDR:=aB hdr
   clear hr hdr
   by_cases hneg:a<0
   ·have hres:R=(0,false):=by
     rw[<-HR.out]
     unfold yE
     rw[HRU.out]
     cases ok with
     | false=>rfl
     | true=>simp only[if_true];rw[HE.out];exact yI _ _ hneg
    subst hres
    go_wp2_with fail
    exact bodyPost_ret (v:=.tuple #[.int .i64 0,.bool false]) (by simp[results,Tryz.results45,go_sem]) rfl ⟨rfl,HT2.then HT⟩
   ·obtain⟨k,rfl⟩:∃ k:Nat,a=(k:Int):=⟨a.toNat,by omega⟩
    have hk:k<n:=by omega
    have n0:¬ (k:Int)<0:=by omega
    have n1:(0:Int)<=(k:Int):=by omega
    have hb:=HB2.touch HT (λf=>f)
    obtain⟨x3,x4,x5⟩:=hb.facts
    have hsr:=HS2.quiet HT
    obtain⟨g2,o2,hA2,hg2,s0,s1,s2⟩:=lE hsr.rd.rd hsr.len k hk
    have hA3:A=some ⟨g2,o2,none⟩:=hA2
    subst hA3
    have hzm:=aZ Z cE k (by rw[hsr.len];exact hk)
    have hzo:=hsr.el _ hzm
    have hlab:=HSM.lab _ hzm
    have harc:=HSM.arc _ hzm
    have hgp:((Z.map SV.p).getD ((k:Nat):Int).toNat aS).arcs=(Z.getD k cE).arcs:=by simp[qXb,show k<Z.length by rw[hsr.len];exact hk,SV.p]
    obtain⟨⟨fin,out,aA,an,ac,arcs⟩,hz⟩:∃ z,Z.getD k cE=z:=⟨_,rfl⟩
    rw[hz] at s0 s1 s2 hzo hlab harc hgp
    simp only at s0 s1 s2 hlab harc hgp
    have hstep:fD (Z.map SV.p) (O.drop i) k u=fD (Z.map SV.p) (O.drop (i+1)) (iW arcs r (-1,u)).1 (iW arcs r (-1,u)).2:=by
     rw[HDR.out]
     simp only[fD]
     rw[if_neg n0,hgp]
    have HSTP:=aB hstep
    have HAR:=aB (And.intro hzo.rd hzo.len)
    have han:an<=maxLen:=qXc hzo.le hzo.mx
    have HLAB:=aB hlab
    have HARC:=aB harc
    have hu:=HU.out
    clear hstep hgp hz hzo hlab harc hzm hsr hb
    go_wp2_with fail
    obtain⟨w4,hw4⟩:=eX (wr.alloc (.cells #[.bool fin,.int .i64 out,.slice aA an ac] 170))
    have hT4:aC (λ_=>False) wr w4:=by rw[hw4];exact (aC.refl _ _).alloc _
    rw[<-hw4]
    have HT4:=aB hT4
    have HA4:=aB (And.intro (HAR.1.quiet hT4) HAR.2)
    clear hw4 hT4 s0 s1 s2 c0 x0 x1 x3 x4 HAR
    go_loopw [8,9,44] (λav sv jv ws=>∃ (j:Nat) (a' u':Int),av=.int .i64 a'/\sv=.int .i64 u'/\jv=.int .i64 j/\j<=an/\Hid ((a',u')=iW (arcs.take j) r (-1,u))/\Hid (aC (λ_=>False) w4 ws)) (λ_ _ jv _=>an-(intOf jv).toNat)
    case atStart=>exact⟨0,-1,u,rfl,rfl,rfl,by omega,aB rfl,aB (aC.refl _ _)⟩
    case round =>
     obtain⟨j,a',u',rfl,rfl,rfl,hj,HP,HT5⟩:=hrel
     have hsm:=Jv (l:=arcs.take j) (n:=n) (r:=r) ((((List.take_sublist j arcs).map (·.1)).nodup HLAB.out)) (λa ha=>HARC.out a (List.mem_of_mem_take ha)) u
     rw[<-HP.out] at hsm
     simp only at hsm
     by_cases hjn:j<an
     ·have y3:(j:Int)<(an:Int):=by omega
      have y4:(0:Int)<=(j:Int):=by omega
      obtain⟨g3,o3,hA3,hg3,c1,c2,c3⟩:=fT (HA4.1.quiet HT5).rd HA4.2 j hjn
      subst hA3
      have hab:=HARC.out _ (aZ arcs (0,0,0) j (by rw[HA4.2];exact hjn))
      have hsn:=Ne (arcs.take j) (arcs.getD j (0,0,0)) r (-1,u)
      rw[<-bI arcs (0,0,0) j (by rw[HA4.2];exact hjn),<-HP.out] at hsn
      obtain⟨⟨la,ao,tt⟩,hz⟩:∃ z,arcs.getD j (0,0,0)=z:=⟨_,rfl⟩
      rw[hz] at c1 c2 c3 hab hsn
      simp only at c1 c2 c3 hab hsn
      have HSN:=aB hsn
      have z1:IntKind.i64.wrap (u'+ao)=u'+ao:=qZa _ (by omega)
      have z2:IntKind.i64.wrap ((j:Int)+1)=(j:Int)+1:=qZa _ (by unfold maxLen at han;omega)
      clear hsn hz hab hsm
      by_cases hla:la=r
      ·subst hla
       go_wp2_with fail
       go_roundw
       ·exact⟨j+1,(tt:Int),u'+ao,rfl,rfl,by simp,by omega,aB (by rw[HSN.out,if_pos rfl]),aB ((HT5).alloc _)⟩
       ·simp only[intOf];omega
      ·have hla2:(la:Int)≠(r:Int):=by omega
       go_wp2_with fail
       go_roundw
       ·exact⟨j+1,a',u',rfl,rfl,by simp,by omega,aB (by rw[HSN.out,if_neg hla]),aB ((HT5).alloc _)⟩
       ·simp only[intOf];omega
     ·have hje:j=an:=by omega
      subst hje
      have hfull:iW arcs r (-1,u)=(a',u'):=by
       rw[HP.out,qQl (by rw[HA4.2];exact qQa _)]
      have hst:=HSTP.out
      rw[hfull] at hst
      have HST2:=aB (HE.trans hst)
      clear hfull hst
      have z3:IntKind.i64.wrap ((i:Int)+1)=(i:Int)+1:=qZa _ (by omega)
      go_wp2_with fail
      go_roundw
      ·exact⟨i+1,a',u',rfl,rfl,by simp,by omega,by omega,by omega,aB (by omega),aB HST2,aB (HT.then (HT4.then HT5))⟩
      ·simp only[intOf];omega
  ·have hie:i=lq:=by omega
   subst hie
   have hE:=HE.out
   rw[List.drop_of_length_le (by rw[HOL.out];exact qQa _)] at hE
   have hR:=HR.out
   unfold yE at hR
   rw[HRU.out] at hR
   cases ok with
   | false =>
    have hres:R=(0,false):=by rw[<-hR];rfl
    subst hres
    go_wp2_with fail
    exact bodyPost_ret (v:=.tuple #[.int .i64 0,.bool false]) (by simp[results,Tryz.results45,go_sem]) rfl ⟨rfl,HT2.then HT⟩
   | true =>
    simp only[if_true] at hR
    rw[hE] at hR
    simp only[fD,Er] at hR
    by_cases hneg:a<0
    ·have hres:R=(0,false):=by rw[<-hR,if_pos hneg]
     subst hres
     clear hR hE
     go_wp2_with fail
     exact bodyPost_ret (v:=.tuple #[.int .i64 0,.bool false]) (by simp[results,Tryz.results45,go_sem]) rfl ⟨rfl,HT2.then HT⟩
    ·obtain⟨k,rfl⟩:∃ k:Nat,a=(k:Int):=⟨a.toNat,by omega⟩
     have hk:k<n:=by omega
     have n0:¬ (k:Int)<0:=by omega
     have n1:(0:Int)<=(k:Int):=by omega
     have hb:=HB2.touch HT (λf=>f)
     obtain⟨x3,x4,x5⟩:=hb.facts
     have hsr:=HS2.quiet HT
     obtain⟨g2,o2,hA2,hg2,s0,s1,s2⟩:=lE hsr.rd.rd hsr.len k hk
     have hA3:A=some ⟨g2,o2,none⟩:=hA2
     subst hA3
     have hzm:=aZ Z cE k (by rw[hsr.len];exact hk)
     have hzout:=HSM.out.out _ hzm
     have hgp:(Z.map SV.p).getD ((k:Nat):Int).toNat aS=(Z.getD k cE).p:=by simp[qXb,show k<Z.length by rw[hsr.len];exact hk]
     rw[if_neg n0,hgp] at hR
     obtain⟨⟨fin,out,aA,an,ac,arcs⟩,hz⟩:∃ z,Z.getD k cE=z:=⟨_,rfl⟩
     rw[hz] at s0 s1 s2 hzout hR
     simp only[SV.p] at s0 s1 s2 hzout hR
     have hu:=HU.out
     have z1:IntKind.i64.wrap (u+out)=u+out:=qZa _ (by omega)
     clear hgp hz hzm hsr hb x0 x1
     cases fin with
     | false =>
      have hres:R=(0,false):=by rw[<-hR];rfl
      subst hres
      clear hR hE
      go_wp2_with fail
      exact bodyPost_ret (v:=.tuple #[.int .i64 0,.bool false]) (by simp[results,Tryz.results45,go_sem]) rfl ⟨rfl,HT2.then HT⟩
     | true =>
      have hres:R=(u+out,true):=by rw[<-hR];rfl
      subst hres
      clear hR hE
      go_wp2_with fail
      exact bodyPost_ret (v:=.tuple #[.int .i64 (u+out),.bool true]) (by simp[results,Tryz.results45,go_sem]) rfl ⟨rfl,HT2.then HT⟩
section
variable{w:World}{b:Nat}{L:List aE}{n:Nat}{A:Option Addr}{c:Nat}{Z:List SV}{wA:Option Addr}{wc:Nat}
theorem Lt(hD:cA L)(bs:List UInt8):yE (bB L).states (((bB L).states.length:Int)-1) (bB L).base bs=bZ bs L:=by
 unfold yE
 by_cases he:L=[]
 ·subst he
  cases hr:cQ bs with
  | none=>rfl
  | some x =>
   cases x with
   | nil=>rfl
   | cons r x=>rfl
 ·cases hr:cQ bs with
  | none =>
   have hno:∀ p∈L,p.word.toList≠bs:=λp hp e=>by
    have h1:=(hD.word p hp).1
    rw[e,hr] at h1
    cases h1
   rw[Hr hno]
  | some x =>
   have hpos:0<(bB L).states.length:=by rw[On he];exact (aAw hD he).pos
   rw[<-tP hD he bs x hr]
   simp only
   rw[show (((bB L).states.length-1:Nat):Int)=((bB L).states.length:Int)-1 by omega]
theorem Qi(h:Kw w b L n A c Z wA wc)(hD:cA L)(hL:dN w)(s:ByteArray)(hs:s.size<=1099511627776) :
  Calls Tryz.prog 45 #[.pointer (some ⟨b,0,none⟩),.string s] w λe w'=>e=.returned (.tuple #[.int .i64 (bZ s.toList L).1,.bool (bZ s.toList L).2])/\aC (λ_=>False) w w':=by
 have hn:=h.n_len
 have hsm:=Jq (dD hD) h.st
 rw[hn] at hsm
 have:=Tk w b (bB L).base A n c Z _ h.wk.blk h.wk.sts hL s hs h.few (gE hD).1 (gE hD).2 hsm
 rw[h.st] at this
 have e:=Lt hD s.toList
 rw[hn] at e
 rw[e] at this
 exact this
end
end Go.Proofs.YthockgmbooefpaaGreatDoor
