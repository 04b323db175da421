/- What the law rests on, part 0. No condition but those that each theorem names. -/
import Derived.WalkKit
import Derived.WalkSpells
import Derived.WalkLawsBesides
import Derived.ProofKit
import Derived.OpenShut
import Derived.ShutString
import Derived.ChangeOld
import Derived.Deep.Slices
import Derived.Deep.Fields
import Derived.Test.YthockgmbooefpaaGreatDoorRows
import Derived.BigQuiet
import Derived.Lib.Bytealg
import Derived.StillTailTactics
import Derived.Deep.QuietTactic
set_option linter.unusedSectionVars false
set_option linter.unusedSimpArgs false
set_option linter.unusedVariables false
set_option maxRecDepth 100000
namespace Go.Proofs.YthockgmbooefpaaGreatDoor
open List renaming getD → qQa, flatMap_cons → qZa, eq_nil_of_length_eq_zero → qZb, pairwise_append → qXb, drop_eq_getElem_cons → qZc
open Nat renaming lt_of_lt_of_le → qXa, succ_mul → qJa, zero_le → qQb
variable{c g i k n:Nat}{R:Type}{t:TypeId}{W w:World}
theorem eX{α:Sort _}(a:α):∃ y,y=a:=⟨a,rfl⟩
open Go.RowKit
structure aC(S:Nat->Prop)(w w':World):Prop where
 os:w'.os=w.os
 tape:w'.tape=w.tape
 output:w'.output=w.output
 size:w.heap.size<=w'.heap.size
 block:∀ k,k<w.heap.size->¬ S k->w'.heap[k]? = w.heap[k]?
section
variable{w w' w1 w2:World}{S T:Nat->Prop}
theorem aC.refl(S:Nat->Prop)(w:World):aC S w w:=⟨rfl,rfl,rfl,Nat.le_refl _,λ_ _ _=>rfl⟩
theorem aC.trans(h:aC S w w1)(k:aC T w1 w2)(hT:∀ i,i<w.heap.size->T i->S i):aC S w w2 :=
 ⟨k.os.trans h.os,k.tape.trans h.tape,k.output.trans h.output,Nat.le_trans h.size k.size,
  λi hi hs=>(k.block i (qXa hi h.size) (λt=>hs (hT i hi t))).trans (h.block i hi hs)⟩
theorem aC.mono(h:aC S w w')(hT:∀ i,i<w.heap.size->S i->T i):aC T w w' :=
 ⟨h.os,h.tape,h.output,h.size,λi hi ht=>h.block i hi (λs=>ht (hT i hi s))⟩
theorem aC.up(h:aC (λ_=>False) w w')(S:Nat->Prop):aC S w w':=h.mono (λ_ _ f=>False.elim f)
theorem aC.then(h:aC S w w1)(k:aC S w1 w2):aC S w w2:=h.trans k (λ_ _ s=>s)
theorem aC.drew(h:aC S w w'):aC S w w'.drew:=⟨h.os,h.tape,h.output,h.size,h.block⟩
theorem aC.drewN(h:aC S w w')(n:Nat):aC S w (w'.drewN n):=⟨h.os,h.tape,h.output,h.size,h.block⟩
theorem aC.alloc(h:aC S w w')(o:Obj):aC S w (w'.alloc o) :=
 h.trans (T:=λ_=>False) ⟨rfl,rfl,rfl,by simp,λk hk _=>Below.heap_alloc _ _ _ (by omega)⟩ (λ_ _ f=>f.elim)
theorem aC.setCell(h:aC S w w'){p:Addr}(hp:p.block<w.heap.size->S p.block)(u:Value):aC S w (w'.setCell p u) :=
 h.trans (T:=λk=>k=p.block) ⟨rfl,rfl,rfl,by simp[World.setCell],λk _ hk=>Below.heap_setCell _ _ _ _ hk⟩ (λi hi e=>by subst e;exact hp hi)
theorem aC.grown{row:Option Nat}(h:aC S w w1)(hg:w1.grownBy w2 row)(hr:∀ k,row=some k->k<w.heap.size->S k):aC S w w2 :=
 h.trans (T:=λk=>row=some k) ⟨hg.os,hg.tape,hg.output,hg.size,λk hk hs=>hg.block k hk (λe=>hs e.symm)⟩ (λi hi e=>hr i e hi)
theorem aC.of_below(h:Below w.heap.size w w')(S:Nat->Prop):aC S w w':=⟨h.os,h.tape,h.output,h.size,λk hk _=>h.block k hk⟩
theorem aC.below(h:aC S w w'){B:Nat}(hB:B<=w.heap.size)(hS:∀ k,k<B->¬ S k):Below B w w':=⟨h.os,h.tape,h.output,h.size,λk hk=>h.block k (by omega) (hS k hk)⟩
theorem aC.cell(h:aC S w w'){a:Addr}(ha:a.block<w.heap.size)(hs:¬ S a.block):w'.cell? a=w.cell? a:=World.cell?_of_block (h.block _ ha hs)
theorem aC.grownBy_none(h:aC (λ_=>False) w w')(row:Option Nat):w.grownBy w' row:=⟨h.os,h.tape,h.output,h.size,λk hk _=>h.block k hk (λf=>f)⟩
end
def aL(w:World)(g:Nat)(t:TypeId)(cs:Array Value):Prop:=w.heap[g]? = some (.cells cs t (0,0))
section
variable{w w':World}{g:Nat}{t:TypeId}{cs:Array Value}{S:Nat->Prop}
theorem aL.lt(h:aL w g t cs):g<w.heap.size:=by
 rcases Nat.lt_or_ge g w.heap.size with hlt | hge
 ·exact hlt
 ·unfold aL at h;rw[Array.getElem?_eq_none hge] at h;cases h
theorem aL.cell(h:aL w g t cs)(i:Nat):w.cell? ⟨g,i,none⟩=cs[i]? := cell_of_row w g i cs t (0,0) h
theorem aL.frozen(h:aL w g t cs)(i:Nat):w.frozen? ⟨g,i,none⟩=false:=by
 unfold aL at h
 simp[World.frozen?,h]
theorem aL.new(w:World)(t:TypeId)(cs:Array Value):aL (w.alloc (.cells cs t)) w.heap.size t cs:=heap_alloc_new w _
theorem aL.drew(h:aL w g t cs):aL w.drew g t cs:=h
theorem aL.drewN(h:aL w g t cs)(n:Nat):aL (w.drewN n) g t cs:=h
theorem aL.alloc(h:aL w g t cs)(o:Obj):aL (w.alloc o) g t cs:=(Below.heap_alloc w o g h.lt).trans h
theorem aL.set_(h:aL w g t cs)(i:Nat)(u:Value):aL (w.setCell ⟨g,i,none⟩ u) g t (cs.setIfInBounds i u):=by
 unfold aL at h ⊢
 simp[World.setCell,Array.getElem?_modify,h]
theorem aL.far(h:aL w g t cs){p:Addr}(hp:g≠p.block)(u:Value):aL (w.setCell p u) g t cs:=(Below.heap_setCell w p u g hp).trans h
theorem aL.touch(h:aL w g t cs)(hb:aC S w w')(hg:¬ S g):aL w' g t cs:=(hb.block g h.lt hg).trans h
theorem aL.grown{row:Option Nat}(h:aL w g t cs)(hb:w.grownBy w' row)(hg:some g≠row):aL w' g t cs:=(hb.block g h.lt hg).trans h
theorem aL.below{B:Nat}(h:aL w g t cs)(hb:Below B w w')(hg:g<B):aL w' g t cs:=(hb.block g hg).trans h
theorem aL.ne_{g':Nat}{t':TypeId}{cs':Array Value}(h:aL w g t cs)(h':aL w g' t' cs')(ht:t≠t'):g≠g':=by
 rintro rfl
 unfold aL at h h'
 rw[h] at h'
 injection h' with h'
 injection h' with _ h' _
 exact ht h'
end
section
variable{w w':World}{base:Nat}{e:TypeId}{size:Nat}{v:Value}{n:Nat}{xs:List Value}{S:Nat->Prop}
theorem jC(h:w.ownsRow base e size v n xs){cs:Array Value}(hb:aL w g t cs)(ht:t≠e):v.ownBlock≠some g:=by
 intro he
 rcases h.2 with⟨rfl,_⟩ | ⟨g',cap,cur,rfl,_,hgg,_⟩
 ·simp[Value.ownBlock] at he
 ·simp[Value.ownBlock] at he
  subst he
  unfold aL at hb
  rw[hgg] at hb
  injection hb with hb
  injection hb with _ hb _
  exact ht hb.symm
theorem Mk{base':Nat}{e':TypeId}{size' n':Nat}{v':Value}{xs':List Value}(h:w.ownsRow base e size v n xs)(h':w.ownsRow base' e' size' v' n' xs')(ht:e≠e')(hg:v.ownBlock=some g):v'.ownBlock≠some g:=by
 rcases h.2 with⟨rfl,_⟩ | ⟨g',cap,cur,rfl,_,hgg,_⟩
 ·simp[Value.ownBlock] at hg
 ·simp[Value.ownBlock] at hg
  subst hg
  exact jC h' (g:=g') (t:=e) (cs:=cur) hgg ht
theorem aD(h:w.ownsRow base e size v n xs)(hb:aC S w w')(hs:∀ g,v.ownBlock=some g->¬ S g):w'.ownsRow base e size v n xs:=by
 refine⟨h.1,?_⟩
 rcases h.2 with hn | ⟨g,cap,cur,rfl,hge,hgg,rest⟩
 ·exact .inl hn
 ·refine .inr ⟨g,cap,cur,rfl,hge,?_,rest⟩
  rw[hb.block g (Array.getElem?_eq_some_iff.1 hgg).1 (hs g rfl)]
  exact hgg
theorem eS(h:w.ownsRow base e size v n xs){a:Addr}(ha:v.ownBlock≠some a.block)(u:Value):(w.setCell a u).ownsRow base e size v n xs:=by
 refine aD (S:=λk=>k=a.block) h ⟨rfl,rfl,rfl,by simp[World.setCell],λk _ hk=>Below.heap_setCell _ _ _ _ hk⟩ ?_
 rintro g hg rfl
 exact ha hg
theorem aX(h:w.ownsRow base e size v n xs):∃ A c,v=.slice A n c/\(n<c\/n=c)/\c<=maxLen:=by
 rcases h.2 with⟨rfl,rfl⟩ | ⟨g,cap,cur,rfl,_,_,hle,hm,_⟩
 ·exact⟨_,_,rfl,.inr rfl,by simp[maxLen]⟩
 ·exact⟨_,_,rfl,by omega,hm⟩
theorem kT(h:w.ownsRow base e size v n xs):n<=maxLen:=by
 obtain⟨_,_,_,h1,h2⟩:=aX h
 omega
theorem iM(h:w.ownsRow base e size v n xs)(hn:0<n):∃ g cap,v=.slice (some ⟨g,0,none⟩) n cap/\n<=cap/\cap<=maxLen/\g<w.heap.size/\(∀ j u,xs[j]? = some u->w.cell? ⟨g,j,none⟩=some u)/\∀ j,w.frozen? ⟨g,j,none⟩=false:=by
 rcases h.2 with⟨rfl,rfl⟩ | ⟨g,cap,cur,rfl,hge,hgg,hle,hm,hsz,ht⟩
 ·omega
 ·refine⟨g,cap,rfl,hle,hm,(Array.getElem?_eq_some_iff.1 hgg).1,?_,λj=>by simp[World.frozen?,hgg]⟩
  intro j u hu
  have:=h.cells (g:=g) rfl j u hu
  have hadd:(⟨g,0,none⟩:Addr).add j=⟨g,j,none⟩:=by unfold Addr.add;split<;>simp_all
  rwa [hadd] at this
theorem kC{cap:Nat}(h:w.ownsRow base e size (.slice (some ⟨g,0,none⟩) n cap) n xs)(i:Nat)(u:Value) :
  (w.setCell ⟨g,i,none⟩ u).ownsRow base e size (.slice (some ⟨g,0,none⟩) n cap) n (xs.set i u):=by
 refine⟨by rw[List.length_set];exact h.1,?_⟩
 rcases h.2 with⟨h0,_⟩ | ⟨g',cap',cur,hv,hge,hgg,hle,hm,hsz,ht⟩
 ·cases h0
 ·injection hv with ha _ hc
  injection ha with ha
  injection ha with ha
  subst ha
  subst hc
  refine .inr ⟨g,cap,cur.setIfInBounds i u,rfl,hge,?_,hle,hm,by simpa using hsz,?_⟩
  ·simp[World.setCell,Array.getElem?_modify,hgg]
  ·rw[Array.toList_setIfInBounds,List.take_set,ht]
end
theorem aL.facts{cs:Array Value}(h:aL w g t cs):(∀ i,w.cell? ⟨g,i,none⟩=cs[i]?)/\(∀ i,w.frozen? ⟨g,i,none⟩=false)/\g<w.heap.size:=⟨h.cell,h.frozen,h.lt⟩
theorem fU(w:World)(X:Obj)(t:TypeId)(cs:Array Value):aL ((w.alloc X).alloc (.cells cs t)) (w.heap.size+1) t cs:=by
 have:=aL.new (w.alloc X) t cs
 simpa using this
theorem Us(w:World)(X Y:Obj)(t:TypeId)(cs:Array Value):aL (((w.alloc X).alloc Y).alloc (.cells cs t)) (w.heap.size+1+1) t cs:=by
 have:=aL.new ((w.alloc X).alloc Y) t cs
 simpa using this
theorem aB{p:Prop}(h:p):Hid p:=h
def aI(w:World)(size:Nat)(A:Option Addr)(n:Nat)(xs:List Value):Prop :=
 xs.length=n*size/\(0<n->∃ b off,A=some ⟨b,off,none⟩/\b<w.heap.size/\∀ j u,xs[j]? = some u->w.cell? ⟨b,off+j,none⟩=some u)
def aQ:Option Addr->Option Nat:=λA=>A.map (·.block)
section
variable{w w':World}{size n:Nat}{A:Option Addr}{xs:List Value}{S:Nat->Prop}
theorem aI.nil(w:World)(size:Nat)(A:Option Addr):aI w size A 0 []:=⟨by simp,λh=>absurd h (by omega)⟩
theorem aI.touch(h:aI w size A n xs)(ht:aC S w w')(hs:∀ g,aQ A=some g->¬ S g):aI w' size A n xs :=
 ⟨h.1,λhn=>by
  obtain⟨b,off,rfl,hb,hc⟩:=h.2 hn
  exact⟨b,off,rfl,qXa hb ht.size,λj u hu=>(ht.cell (a:=⟨b,off+j,none⟩) hb (hs b rfl)).trans (hc j u hu)⟩⟩
theorem aI.below{B:Nat}(h:aI w size A n xs)(ht:Below B w w')(hs:∀ g,aQ A=some g->0<n->g<B):aI w' size A n xs :=
 ⟨h.1,λhn=>by
  obtain⟨b,off,rfl,hb,hc⟩:=h.2 hn
  exact⟨b,off,rfl,qXa hb ht.size,λj u hu=>(ht.cell (p:=⟨b,off+j,none⟩) (hs b rfl hn)).trans (hc j u hu)⟩⟩
theorem aI.old(h:aI w size A n xs)(ht:Below w.heap.size w w'):aI w' size A n xs :=
 ⟨h.1,λhn=>by
  obtain⟨b,off,rfl,hb,hc⟩:=h.2 hn
  exact⟨b,off,rfl,qXa hb ht.size,λj u hu=>(ht.cell (p:=⟨b,off+j,none⟩) hb).trans (hc j u hu)⟩⟩
theorem aI.alloc(h:aI w size A n xs)(o:Obj):aI (w.alloc o) size A n xs:=h.touch (S:=λ_=>False) ((aC.refl _ _).alloc o) (λ_ _ f=>f)
theorem aI.drew(h:aI w size A n xs):aI w.drew size A n xs:=h
theorem aI.drewN(h:aI w size A n xs)(k:Nat):aI (w.drewN k) size A n xs:=h
theorem aI.form(h:aI w size A n xs)(hn:0<n):∃ b off,A=some ⟨b,off,none⟩/\b<w.heap.size/\∀ j u,xs[j]? = some u->w.cell? ⟨b,off+j,none⟩=some u:=h.2 hn
theorem aI.of_own{base:Nat}{e:TypeId}(h:w.ownsRow base e size (.slice A n c) n xs):aI w size A n xs:=by
 refine⟨h.1,λhn=>?_⟩
 obtain⟨g,cap,hv,_,_,hg,hc,_⟩:=iM h hn
 injection hv with hA _ _
 subst hA
 exact⟨g,0,rfl,hg,λj u hu=>by rw[Nat.zero_add];exact hc j u hu⟩
theorem aI.cut(h:aI w size A n xs){cap:Nat}(hk:k<=n)(hc:n<=cap) :
  aI w size (if cap=k then A else A.map (·.add (k*size))) (n-k) (xs.drop (k*size)):=by
 refine⟨by rw[List.length_drop,h.1,Nat.sub_mul],λhn=>?_⟩
 obtain⟨b,off,rfl,hb,hcell⟩:=h.2 (by omega)
 rw[if_neg (by omega)]
 refine⟨b,off+k*size,?_,hb,λj u hu=>?_⟩
 ·simp[Addr.add_lit]
 ·rw[Nat.add_assoc]
  exact hcell _ u (by rw[<-hu,List.getElem?_drop])
theorem aI.take(h:aI w size A n xs)(hk:k<=n):aI w size A k (xs.take (k*size)):=by
 refine⟨by rw[List.length_take,h.1];exact Nat.min_eq_left (Nat.mul_le_mul_right _ hk),λhn=>?_⟩
 obtain⟨b,off,rfl,hb,hcell⟩:=h.2 (by omega)
 exact⟨b,off,rfl,hb,λj u hu=>hcell j u (by rw[List.getElem?_take] at hu;split at hu<;>simp_all)⟩
theorem aI.new(w:World)(t:TypeId)(xs:List Value)(n:Nat)(h:xs.length=n*size):aI (w.alloc (.cells xs.toArray t)) size (some ⟨w.heap.size,0,none⟩) n xs :=
 ⟨h,λ_=>⟨w.heap.size,0,rfl,by simp,λj u hu=>by rw[Nat.zero_add,World.cell?_alloc_new];simpa using hu⟩⟩
end
def bJ(w:World)(v v':Value):Prop:=v'.ownBlock=v.ownBlock\/∃ g,v'.ownBlock=some g/\w.heap.size<=g
theorem aR{P:Program}(w:World){ops:Array Oper}{rest:List Oper}{o:Oper}{a:Act}{Q:Exit->Act->World->Prop}
  (hg:o.guard=none)(s x:Operand)(t:TypeId)(hop:o.op=Op.call { callee:=Callee.builtin Builtin.append,args:=#[s,x],argTypes:=#[t,t] })
  (e:TypeId)(i:TypeInfo)(z:Value)(size bytes:Nat)(h1:P.underlying t=some (.slice e))(h2:P.info? e=some i)(h3:i.zero=some z)(h4:i.size=size)(h5:i.bytes=bytes)(h6:z.cells.size=size)(h7:0<size)
  (v:Value)(n:Nat)(xs:List Value)(hs:a.eval s=v)(hown:w.ownsRow 0 e size v n xs)
  (ao:Option Addr)(m c:Nat)(news:List Value)(hx:a.eval x=.slice ao m c)(hr:aI w size ao m news)(hn:ao=none->m=0/\c=0)(h1c:∀ u∈news,u.oneCell'=true)
  (b1:n+m<=maxLen)(b2:(n+m)*bytes<=140737488355328)
  (hK:∀ v' w',w'.ownsRow 0 e size v' (n+m) (xs++news)->w.grownBy w' v.ownBlock->bJ w v v'->(v'=.slice none 0 0↔v=.slice none 0 0/\m=0)->wpList P ops Q rest (a.put o.dst v') w') :
  wpList P ops Q (o :: rest) a w:=by
 refine wpList_plain hg λK hK'=>?_
 have main:∃ v' w',(Builtin.append_ #[t,t] o.type #[v,.slice ao m c]).run P w=.ok v' w'/\w'.ownsRow 0 e size v' (n+m) (xs++news)/\w.grownBy w' v.ownBlock/\bJ w v v'/\(v'=.slice none 0 0↔v=.slice none 0 0/\m=0):=by
  cases ao with
  | none =>
   obtain⟨rfl,rfl⟩:=hn rfl
   have hnews:news=[]:=qZb (by simpa using hr.1)
   subst hnews
   exact⟨v,w,run_append_owned_none (P:=P) w 0 t o.type e i size h1 h2 v n xs hown,by simpa using hown,World.grownBy.refl _ _,.inl rfl,by simp⟩
  | some ad =>
   have hc:∀ j u,news[j]? = some u->w.cell? (ad.add j)=some u:=λj u hu=>by
    have hm:0<m:=by
     rcases Nat.eq_zero_or_pos m with rfl | hm
     ·have hl:news=[]:=qZb (by simpa using hr.1)
      rw[hl] at hu
      cases hu
     ·exact hm
    obtain⟨b,off,hA,_,hcell⟩:=hr.2 hm
    injection hA with hA
    subst hA
    rw[Addr.add_lit]
    exact hcell j u hu
   rcases hown.2 with⟨rfl,rfl⟩ | ⟨g,cap,cur,rfl,_,hgg,hnc,hcm,hcs,ht⟩
   ·have hx:xs=[]:=qZb (by simpa using hown.1)
    subst hx
    obtain⟨v',w',r1,r2,r3,r4⟩:=run_append_own (P:=P) w w.heap.size t o.type e i z size bytes h1 h2 h3 h4 h5 h6 h7 (.slice none 0 0) 0 [] (World.ownsRow_nil w _ e size) ad m c news hr.1 hc h1c b1 b2 (Nat.le_refl _)
    refine⟨v',w',r1,⟨r2.1,?_⟩,r3,?_,r4⟩
    ·rcases r2.2 with h | ⟨g,cap,cur,h,_,hh⟩
     ·exact .inl h
     ·exact .inr ⟨g,cap,cur,h,qQb _,hh⟩
    ·rcases r2.2 with⟨h,_⟩ | ⟨g,cap,cur,h,hge,hh⟩
     ·exact .inl (by rw[h])
     ·exact .inr ⟨g,by rw[h];rfl,hge⟩
   ·by_cases hroom:n+m<=cap
    ·obtain⟨w',r1,r2,r3⟩:=run_append_fits (P:=P) w 0 t o.type e i size h1 h2 h4 g n cap xs hown ad m c news hr.1 hc h1c hroom
     exact⟨_,w',r1,r2,r3,.inl rfl,by simp⟩
    ·have holds:∀ j u,xs[j]? = some u->w.cell? ((⟨g,0,none⟩:Addr).add j)=some u:=hown.cells (g:=g) rfl
     obtain⟨v',w',r1,r2,r3⟩:=run_append_arg_grows (P:=P) w t o.type e i z size bytes h1 h2 h3 h4 h5 h6 h7 ⟨g,0,none⟩ n cap xs hown.1 holds ad m c news hr.1 hc (by omega) b1 b2
     refine⟨v',w',r1,⟨r2.1,?_⟩,⟨r3.os,r3.tape,r3.output,r3.size,λk hk _=>r3.block k hk (by simp)⟩,?_,?_⟩
     ·rcases r2.2 with h | ⟨g,cap,cur,h,_,hh⟩
      ·exact .inl h
      ·exact .inr ⟨g,cap,cur,h,qQb _,hh⟩
     ·rcases r2.2 with⟨h,hz⟩ | ⟨g,cap,cur,h,hge,hh⟩
      ·omega
      ·exact .inr ⟨g,by rw[h];rfl,hge⟩
     ·rcases r2.2 with⟨h,hz⟩ | ⟨g,cap,cur,h,hge,hh⟩
      ·omega
      ·rw[h];simp
 obtain⟨v',w',r1,r2,r3,r4,r5⟩:=main
 unfold Oper.wp
 simp[execOp,hop,resolve,invoke,builtin,hs,hx,r1,Result.andThen]
 exact hK' _ _ (hK v' w' r2 r3 r4 r5)
theorem aC.app{S:Nat->Prop}{w1 w2:World}{v:Value}(h:aC S w w1)(hg:w1.grownBy w2 v.ownBlock)(hv:∀ g,v.ownBlock=some g->g<w.heap.size->S g):aC S w w2 :=
 h.grown hg hv
section
open Go.RowKit Go.ChangeShapes Go.WideShapes Go.ChangeAt
section
variable{H:Type}{enc:TypeId × Value->H}{P:Program}
theorem Bj(hl:laidOutB P=true){W':World}(hb:Below W.heap.size W W'):∀ (ts:List TypeId) (vs:List Value) (ds:List (DataW H)) (ps:List MemPlace),
  (∀ t∈ts,P.readableRec t=true/\t<P.types.size)->DataW.TrodAll enc P W 0 (λ_=>true) true ts vs ds ps ->
  DataW.TrodAll enc P W' 0 (λb=>decide (b<W.heap.size)) true ts vs ds ps:=by
 intro ts
 induction ts with
 | nil =>
  intro vs ds ps _ h
  obtain⟨rfl,rfl,rfl⟩:=trodAll_nil h
  exact trodAll_mk0
 | cons t ts ih =>
  intro vs ds ps ht h
  obtain⟨v,vs',d,ds',p,q,rfl,rfl,rfl,h0,r0⟩:=trodAll_cons h
  have lt0:∀ x∈p,x.block<W.heap.size:=by obtain⟨m,hm⟩:=h0;exact DataW.trod_lt m _ _ _ hm
  obtain⟨h1,h2⟩:=ht t (by simp)
  exact trodAll_cons_mk (Below.trod hl h1 h2 h0 hb lt0) (ih vs' ds' q (λt' h'=>ht t' (by simp[h'])) r0)
theorem Sb{f:Func}{s:ChangeSpec}{W':World}{args:Array Value}{ds gs:List (DataW H)}{before:List MemPlace}{tb:TypeId}
  (hW:DataW.Whole enc P f.params.toList s.vars false W args.toList ds gs before)(hvars:s.vars=[])(hres:f.resultTypes.toList=[tb])(hn:f.resultTypes.size=1)(htb:P.underlying tb=some .bool)
  (hfn:s.fn H (ds++gs)={ results:=[.lit (.bool true)],args:=ds })(hl:laidOutB P=true)(hts0:(f.params.toList.all λt=>P.readableRec t && decide (t<P.types.size))=true)(bel:Below W.heap.size W W') :
  s.post enc P f false true false false W args (.bool true) W':=by
 have hts:∀ t∈f.params.toList,P.readableRec t=true/\t<P.types.size:=λt ht=>by
  have:=List.all_eq_true.1 hts0 t ht
  simpa using this
 have hW':=hW
 obtain⟨p,q,hA,hV,rfl,hfz,hnd⟩:=hW
 rw[hvars] at hV
 obtain⟨rfl,rfl⟩:=trodVars_none hV
 refine⟨ds,[],p++[],[],p,[],hW',?_,?_,?_,bel.frame _,λh=>by cases h⟩
 ·rw[hfn,hres,hn]
  exact trodAll_mk1 (shut_bool htb _)
 ·rw[hfn]
  exact Bj hl bel _ _ _ _ hts hA
 ·rw[hfn,hvars]
  rfl
theorem Nl{f:Func}{s:ChangeSpec}{args:Array Value}{ds gs:List (DataW H)}{before:List MemPlace}(hvars:s.vars=[])
  (hW:DataW.Whole enc P f.params.toList s.vars false W args.toList ds gs before):∃ p,DataW.TrodAll enc P W 0 (λ_=>true) true f.params.toList args.toList ds p/\gs=[]:=by
 obtain⟨p,q,hA,hV,rfl,hfz,hnd⟩:=hW
 rw[hvars] at hV
 obtain⟨rfl,rfl⟩:=trodVars_none hV
 exact⟨p,hA,rfl⟩
end
theorem rW(cells:R->List Value)(size:Nat)(hs:∀ r,(cells r).length=size)(l:List R)(i j:Nat)(hi:i<l.length)(hj:j<size) :
  (l.flatMap cells)[i*size+j]? = (cells l[i])[j]? := by
 induction l generalizing i with
 | nil=>simp at hi
 | cons r l ih =>
  cases i with
  | zero =>
   simp only[qZa,Nat.zero_mul,Nat.zero_add,List.getElem_cons_zero]
   rw[List.getElem?_append_left (by rw[hs];exact hj)]
  | succ i =>
   simp only[qZa,List.getElem_cons_succ]
   rw[List.getElem?_append_right (by rw[hs,qJa];omega),hs,show (i+1)*size+j-size=i*size+j by rw[qJa];omega]
   exact ih i (by simpa using hi)
theorem yF(cells:R->List Value)(size:Nat)(hs:∀ r,(cells r).length=size)(l:List R):(l.flatMap cells).length=l.length*size:=by
 induction l with
 | nil=>simp
 | cons r l ih=>rw[qZa,List.length_append,hs,ih,List.length_cons,qJa,Nat.add_comm]
section
variable{H:Type}{enc:TypeId × Value->H}{P:Program}{w:World}{base:Nat}{spare:Nat->Bool}{held:Bool}
theorem Rw[Inhabited R](cells:R->List Value)(wf:R->Prop)(size:Nat)(hcl:∀ r,(cells r).length=size)(h0:0<size){e:TypeId}{fuel:Nat}{cs:List Value}{x:DataW H × List MemPlace}
  (ht:P.underlying t=some (.slice e))(hC:P.cellsOf e=size)(elem:∀ n cs y,cs.length=size->DataW.trod enc P w base spare held n e cs=some y->∃ r,cs=cells r/\wf r)
  (h:DataW.trod enc P w base spare held fuel t cs=some x) :
  ∃ A len cap,∃ l:List R,cs=[.slice A len cap]/\l.length=len/\len<=cap/\cap<=maxLen/\(A=none->len=0/\cap=0)/\aI w size A len (l.flatMap cells)/\∀ r∈l,wf r:=by
 rcases Go.Deep.open_slice ht h with⟨hcs,_⟩ | ⟨a,len,cap,m,n,D,Pl,hcs,hb,hl,hm,hmm,hx,hi⟩
 ·exact⟨none,0,0,[],hcs,rfl,Nat.le_refl _,by simp[maxLen],λ_=>⟨rfl,rfl⟩,aI.nil _ _ _,by simp⟩
 ·have hlm:len<=m:=by rw[hmm];split<;>omega
  have hel:∀ i,i<len->∃ r:R,wf r/\∀ j,j<size->w.cell? (a.add (i*size+j))=(cells r)[j]? := by
   intro i hil
   obtain⟨cs',hc,hty⟩:=hi i (by omega)
   rw[hC] at hc
   obtain⟨_,hlen,hat⟩:=World.cells?_some hc
   obtain⟨r,hr,hw⟩:=elem _ cs' _ hlen hty
   refine⟨r,hw,λj hj=>?_⟩
   rw[<-Go.Deep.add_add,hat j hj,hr]
  obtain⟨f,hf⟩:=Go.Deep.choose_lt hel
  refine⟨some a,len,cap,(List.range len).map f,hcs,by simp,hl,hm,(λh=>by cases h),?_,?_⟩
  ·refine⟨by rw[yF cells size hcl];simp,λhpos=>?_⟩
   have hc0:=(hf 0 hpos).2 0 h0
   have hsome:(cells (f 0))[0]? = some ((cells (f 0))[0]'(by rw[hcl];exact h0)):=List.getElem?_eq_getElem _
   rw[hsome] at hc0
   have hsp:=World.cell?_spot hc0
   obtain⟨b,off,spot⟩:=a
   have hspot:spot=none:=by simpa [Addr.add] using hsp
   subst hspot
   have hlt:b<w.heap.size:=World.block_lt_of_cell? w _ (by simpa [Addr.add] using hc0)
   refine⟨b,off,rfl,hlt,λj u hu=>?_⟩
   have hjl:j<len*size:=by
    have:=(List.getElem?_eq_some_iff.1 hu).1
    rw[yF cells size hcl] at this
    simpa using this
   have hq:j / size<len:=Nat.div_lt_of_lt_mul (by rw[Nat.mul_comm];exact hjl)
   have hr:j % size<size:=Nat.mod_lt _ h0
   have e:j / size*size+j % size=j:=Nat.div_add_mod' j size
   have h1:=rW cells size hcl ((List.range len).map f) (j / size) (j % size) (by simpa using hq) hr
   rw[e,hu] at h1
   have h2:=(hf (j / size) hq).2 (j % size) hr
   rw[e,Addr.add_lit] at h2
   rw[h2,h1]
   simp
  ·intro r hr
   simp only[List.mem_map,List.mem_range] at hr
   obtain⟨i,hi',rfl⟩:=hr
   exact (hf i hi').1
end
end
structure aE where
 word:ByteArray
 weight:Int
def aE.zero:aE:=⟨ByteArray.empty,0⟩
instance:Inhabited aE:=⟨aE.zero⟩
def aE.cells(r:aE):List Value:=[.string r.word,.int .i64 r.weight]
def aE.val(r:aE):Value:=.agg #[.string r.word,.int .i64 r.weight]
def bC(l:List aE):List Value:=l.flatMap aE.cells
theorem Ez(w:ByteArray)(n:Int):aE.val ⟨w,n⟩=.agg #[.string w,.int .i64 n]:=rfl
theorem rD{a b:ByteArray}(h:a.toList=b.toList):a=b:=by
 rw[Go.ByteArray.toList_eq,Go.ByteArray.toList_eq] at h
 exact Go.WideShapes.bytes_inj h
theorem mO(x:List UInt8):Op.bytesLess x x=false:=by
 induction x with
 | nil=>rfl
 | cons a x ih=>simp[Op.bytesLess,ih,UInt8.lt_irrefl]
theorem xK(x y:List UInt8)(h:x≠y):Op.bytesLess x y=true\/Op.bytesLess y x=true:=by
 induction x generalizing y with
 | nil=>cases y with
  | nil=>exact absurd rfl h
  | cons b y=>left;rfl
 | cons a x ih=>cases y with
  | nil=>right;rfl
  | cons b y =>
   by_cases hab:a=b
   ·subst hab
    rcases ih y (λe=>h (by rw[e])) with k | k
    ·left;simp[Op.bytesLess,k]
    ·right;simp[Op.bytesLess,k]
   ·rcases Nat.lt_or_gt_of_ne (λe:a.toNat=b.toNat=>hab (UInt8.toNat_inj.1 e)) with k | k
    ·left;simp[Op.bytesLess,UInt8.lt_iff_toNat_lt,k]
    ·right;simp[Op.bytesLess,UInt8.lt_iff_toNat_lt,k]
theorem oD(x y z:List UInt8)(h:Op.bytesLess x y=true)(k:Op.bytesLess y z=true):Op.bytesLess x z=true:=by
 induction x generalizing y z with
 | nil=>cases z with
  | nil=>cases y<;>simp[Op.bytesLess] at k
  | cons c z=>rfl
 | cons a x ih=>cases y with
  | nil=>simp[Op.bytesLess] at h
  | cons b y=>cases z with
   | nil=>simp[Op.bytesLess] at k
   | cons c z =>
    simp only[Op.bytesLess,Bool.or_eq_true,Bool.and_eq_true,decide_eq_true_eq,beq_iff_eq,UInt8.lt_iff_toNat_lt] at h k ⊢
    rcases h with h | ⟨h,h'⟩
    ·rcases k with k | ⟨k,k'⟩
     ·left;omega
     ·subst k;left;exact h
    ·subst h
     rcases k with k | ⟨k,k'⟩
     ·left;exact k
     ·right;exact⟨k,ih y z h' k'⟩
def iN(a b:aE):Bool:=Op.bytesLess a.word.toList b.word.toList
def vE(a b:aE):Prop:=iN b a=false
theorem Ww(a:aE):vE a a:=mO _
theorem gU{a b:aE}(h:iN a b=true):vE a b:=by
 unfold vE
 cases hb:iN b a with
 | false=>rfl
 | true =>
  have:=oD _ _ _ h hb
  rw[mO] at this
  cases this
theorem aBf{a b c:aE}(h:vE a b)(k:iN b c=true):iN a c=true:=by
 by_cases e:a.word.toList=b.word.toList
 ·unfold iN at k ⊢
  rw[e]
  exact k
 ·rcases xK _ _ e with x | x
  ·exact oD _ _ _ x k
  ·have h':iN b a=false:=h
   unfold iN at h'
   rw[x] at h'
   cases h'
theorem wO{a b c:aE}(h:iN a b=true)(k:vE b c):iN a c=true:=by
 by_cases e:b.word.toList=c.word.toList
 ·unfold iN at h ⊢
  rw[<-e]
  exact h
 ·rcases xK _ _ e with x | x
  ·exact oD _ _ _ h x
  ·have k':iN c b=false:=k
   unfold iN at k'
   rw[x] at k'
   cases k'
theorem iB{a b c:aE}(h:vE a b)(k:vE b c):vE a c:=by
 unfold vE
 cases hb:iN c a with
 | false=>rfl
 | true =>
  have h1:=wO hb h
  rw[show iN c b=false from k] at h1
  cases h1
theorem qU{a b:aE}(h:iN a b=true):a.word.toList≠b.word.toList:=by
 intro e
 unfold iN at h
 rw[e,mO] at h
 cases h
theorem zF(a:aE):iN a a=false:=mO _
theorem Da{a b c:aE}(h:iN a b=true)(k:iN b c=true):iN a c=true:=oD _ _ _ h k
theorem Cz{a b:aE}(h:a.word.toList≠b.word.toList):iN a b=true\/iN b a=true:=xK _ _ h
def dO(l:List aE):Prop:=l.Pairwise vE
def key(k:List UInt8)(l:List aE):List aE:=l.filter (λp=>decide (p.word.toList=k))
def bO(A B:List aE):Prop:=∀ k,key k A=key k B
theorem lQ(k:List UInt8)(A B:List aE):key k (A++B)=key k A++key k B:=by simp[key]
theorem bO.refl(A:List aE):bO A A:=λ_=>rfl
theorem bO.trans{A B C:List aE}(h:bO A B)(k:bO B C):bO A C:=λx=>(h x).trans (k x)
theorem bO.symm{A B:List aE}(h:bO A B):bO B A:=λx=>(h x).symm
theorem bO.app{A B C D:List aE}(h:bO A B)(k:bO C D):bO (A++C) (B++D):=λx=>by rw[lQ,lQ,h x,k x]
theorem bO.mem{A B:List aE}(h:bO A B){x:aE}(hx:x∈A):x∈B:=by
 have h1:x∈key x.word.toList A:=by simp[key,hx]
 rw[h] at h1
 exact (List.mem_filter.1 h1).1
theorem bO.swap{A B:List aE}(h:∀ a∈A,∀ b∈B,a.word.toList≠b.word.toList):bO (A++B) (B++A):=by
 intro k
 rw[lQ,lQ]
 by_cases hA:key k A=[]
 ·rw[hA];simp
 ·obtain⟨a,ha⟩:=List.exists_mem_of_ne_nil _ hA
  have ha':=List.mem_filter.1 ha
  have hB:key k B=[]:=by
   unfold key
   rw[List.filter_eq_nil_iff]
   intro b hb hk
   exact h a ha'.1 b hb ((of_decide_eq_true ha'.2).trans (of_decide_eq_true hk).symm)
  rw[hB];simp
theorem sP{A B:List aE}(hA:dO A)(hB:dO B)(h:∀ a∈A,∀ b∈B,vE a b):dO (A++B):=List.pairwise_append.2 ⟨hA,hB,h⟩
theorem Ia{L1 L2 R1 R2 Z1 Z2:List aE}(hL:dO (L1++L2))(hR:dO (R1++R2))(h1:∀ x∈L1,∀ y∈R2,vE x y)(h2:∀ x∈R1,∀ y∈L2,iN x y=true)
  (s1:dO Z1)(k1:bO (L1++R1) Z1)(s2:dO Z2)(k2:bO (L2++R2) Z2):dO (Z1++Z2)/\bO ((L1++L2)++(R1++R2)) (Z1++Z2):=by
 refine⟨sP s1 s2 λa ha b hb=>?_,?_⟩
 ·have ha':=List.mem_append.1 (k1.symm.mem ha)
  have hb':=List.mem_append.1 (k2.symm.mem hb)
  rcases ha' with ha' | ha'<;>rcases hb' with hb' | hb'
  ·exact (List.pairwise_append.1 hL).2.2 a ha' b hb'
  ·exact h1 a ha' b hb'
  ·exact gU (h2 a ha' b hb')
  ·exact (List.pairwise_append.1 hR).2.2 a ha' b hb'
 ·have e1:bO (L2++R1) (R1++L2):=bO.swap λa ha b hb e=>qU (h2 b hb a ha) e.symm
  have e2:(L1++L2)++(R1++R2)=L1++((L2++R1)++R2):=by simp
  have e3:bO (L1++((L2++R1)++R2)) ((L1++R1)++(L2++R2)):=by
   have:=(bO.refl L1).app (e1.app (bO.refl R2))
   refine this.trans ?_
   simp only[List.append_assoc]
   exact bO.refl _
  rw[e2]
  exact e3.trans (k1.app k2)
theorem Ju{l:List aE}(h:dO l)(k:Nat):dO (l.take k):=h.sublist (List.take_sublist _ _)
theorem Jt{l:List aE}(h:dO l)(k:Nat):dO (l.drop k):=h.sublist (List.drop_sublist _ _)
theorem qZ{l:List aE}(h:dO l){j:Nat}(hij:i<=j)(hj:j<l.length):vE (l.getD i aE.zero) (l.getD j aE.zero):=by
 have e1:l.getD i aE.zero=l[i]'(by omega):=by simp[qQa,show i<l.length by omega]
 have e2:l.getD j aE.zero=l[j]:=by simp[qQa,hj]
 by_cases h0:i=j
 ·subst h0;exact Ww _
 ·rw[e1,e2]
  exact List.pairwise_iff_getElem.1 h i j (by omega) hj (by omega)
theorem oL{l:List aE}{x:aE}(h:x∈l.take k):∃ i,i<k/\i<l.length/\l.getD i aE.zero=x:=by
 obtain⟨i,hi,e⟩:=List.mem_iff_getElem.1 h
 rw[List.length_take] at hi
 refine⟨i,by omega,by omega,?_⟩
 rw[<-e]
 simp[qQa,show i<l.length by omega]
theorem lS{l:List aE}{x:aE}(h:x∈l.drop k):∃ i,k<=i/\i<l.length/\l.getD i aE.zero=x:=by
 obtain⟨i,hi,e⟩:=List.mem_iff_getElem.1 h
 rw[List.length_drop] at hi
 refine⟨k+i,by omega,by omega,?_⟩
 rw[<-e]
 simp[qQa,show k+i<l.length by omega]
theorem Cd{L R:List aE}(hL:dO L)(hR:dO R)(s e:Nat)(hs:s<=L.length)(he:e<=R.length)
  (hA:s=0\/e=R.length\/vE (L.getD (s-1) aE.zero) (R.getD e aE.zero))(hB:s=L.length\/e=0\/iN (R.getD (e-1) aE.zero) (L.getD s aE.zero)=true) :
  (∀ x∈L.take s,∀ y∈R.drop e,vE x y)/\(∀ x∈R.take e,∀ y∈L.drop s,iN x y=true):=by
 constructor
 ·intro x hx y hy
  obtain⟨i,i1,i2,rfl⟩:=oL hx
  obtain⟨j,j1,j2,rfl⟩:=lS hy
  rcases hA with h | h | h
  ·omega
  ·omega
  ·exact iB (qZ hL (by omega) (by omega)) (iB h (qZ hR j1 j2))
 ·intro x hx y hy
  obtain⟨i,i1,i2,rfl⟩:=oL hx
  obtain⟨j,j1,j2,rfl⟩:=lS hy
  rcases hB with h | h | h
  ·omega
  ·omega
  ·exact wO (aBf (qZ hR (by omega) (by omega)) h) (qZ hL j1 j2)
theorem jK:(Tryz.prog.info? 125).map (λi=>(i.zero,i.size,i.bytes))=some (some (.agg #[.string ByteArray.empty,.int .i64 0]),2,24):=by kernel_rfl
theorem aO{z:Value}{s b:Nat}(h:(Tryz.prog.info? t).map (λi=>(i.zero,i.size,i.bytes))=some (some z,s,b)):∃ i,Tryz.prog.info? t=some i/\i.zero=some z/\i.size=s/\i.bytes=b:=by
 cases hi:Tryz.prog.info? t with
 | none=>rw[hi] at h;cases h
 | some i =>
  rw[hi] at h
  simp at h
  exact⟨i,rfl,h.1,h.2.1,h.2.2⟩
theorem zE(r:aE):(aE.cells r).length=2:=rfl
theorem qT(X:List aE):(bC X).length=X.length*2:=yF aE.cells 2 zE X
theorem pG(X:List aE)(k:Nat)(hk:k<X.length)(j:Nat)(hj:j<2):(bC X)[k*2+j]? = (X.getD k aE.zero).cells[j]? := by
 have e:X.getD k aE.zero=X[k]:=by simp[qQa,hk]
 rw[e]
 exact rW aE.cells 2 zE X k j hk hj
theorem nM(X Y:List aE):bC (X++Y)=bC X++bC Y:=by simp[bC]
theorem Ik(X:List aE)(n:Nat):(bC X).take (n*2)=bC (X.take n):=by
 induction X generalizing n with
 | nil=>simp[bC]
 | cons x X ih =>
  cases n with
  | zero=>simp[bC]
  | succ n =>
   have:=ih n
   simp only[bC,qZa,List.take_succ_cons] at this ⊢
   rw[<-this]
   simp[aE.cells,show (n+1)*2=n*2+1+1 by omega]
theorem iC{A:Option Addr}{X:List aE}(h:aI w 2 A n (bC X))(hn:n=X.length)(k:Nat)(hk:k<n) :
  ∃ g off,A=some ⟨g,off,none⟩/\g<w.heap.size/\w.cell? ⟨g,off+k*2,none⟩=some (.string (X.getD k aE.zero).word)/\w.cell? ⟨g,off+k*2+1,none⟩=some (.int .i64 (X.getD k aE.zero).weight):=by
 subst hn
 obtain⟨b,off,hA,hb,hc⟩:=h.2 (by omega)
 refine⟨b,off,hA,hb,?_,?_⟩
 ·exact hc (k*2) _ (pG X k hk 0 (by omega))
 ·rw[Nat.add_assoc];exact hc (k*2+1) _ (pG X k hk 1 (by omega))
abbrev cZ(w:World)(A:Option Addr)(n c:Nat)(X:List aE):Prop:=w.ownsRow 0 125 2 (.slice A n c) n (bC X)
theorem cY{A:Option Addr}{X:List aE}(h:cZ w A n c X)(hn:n=X.length)(k:Nat)(hk:k<n) :
  ∃ g,A=some ⟨g,0,none⟩/\g<w.heap.size/\w.cell? ⟨g,k*2,none⟩=some (.string (X.getD k aE.zero).word)/\w.cell? ⟨g,k*2+1,none⟩=some (.int .i64 (X.getD k aE.zero).weight) /\
   w.frozen? ⟨g,k*2,none⟩=false/\w.frozen? ⟨g,k*2+1,none⟩=false:=by
 subst hn
 obtain⟨g,cap,hv,_,_,hg,hc,hf⟩:=iM h (by omega)
 injection hv with hA' _ _
 exact⟨g,hA',hg,hc (k*2) _ (pG X k hk 0 (by omega)),hc (k*2+1) _ (pG X k hk 1 (by omega)),hf _,hf _⟩
theorem bM{A:Option Addr}{X:List aE}(h:cZ w A n c X):n=X.length:=by
 have:=h.1
 rw[qT] at this
 omega
theorem aGe(X:List aE)(k:Nat)(r:aE):((bC X).set (k*2) (.string r.word)).set (k*2+1) (.int .i64 r.weight)=bC (X.set k r):=by
 induction X generalizing k with
 | nil=>simp[bC]
 | cons x X ih =>
  cases k with
  | zero=>simp[bC,aE.cells]
  | succ k =>
   have:=ih k
   simp only[bC,qZa,List.set_cons_succ] at this ⊢
   rw[<-this]
   simp only[aE.cells,List.cons_append,List.nil_append,qJa]
   rw[show k*2+2=(k*2)+1+1 by omega,show k*2+1+1+1=(k*2+1)+1+1 by omega]
   simp only[List.set_cons_succ]
theorem gH{X:List aE}(h:cZ w (some ⟨g,0,none⟩) n c X)(k:Nat)(r:aE) :
  cZ ((w.setCell ⟨g,k*2,none⟩ (.string r.word)).setCell ⟨g,k*2+1,none⟩ (.int .i64 r.weight)) (some ⟨g,0,none⟩) n c (X.set k r):=by
 unfold cZ
 rw[<-aGe]
 exact kC (kC h _ _) _ _
def mE(X:List aE)(i j:Nat):List aE:=(X.set i (X.getD j aE.zero)).set j (X.getD i aE.zero)
theorem Yk(X:List aE)(i j:Nat):(mE X i j).length=X.length:=by simp[mE]
theorem Gx(x y:List UInt8):decide (Lib.compareBytes x y<0)=Op.bytesLess x y:=by
 induction x generalizing y with
 | nil=>cases y<;>simp[Lib.compareBytes,Op.bytesLess]
 | cons a x ih =>
  cases y with
  | nil=>simp[Lib.compareBytes,Op.bytesLess]
  | cons b y =>
   unfold Lib.compareBytes
   by_cases h:a<b
   ·simp[Op.bytesLess,h]
   ·rw[if_neg h]
    by_cases h2:b<a
    ·rw[if_pos h2]
     have:¬ a=b:=by rintro rfl;exact h h2
     simp[Op.bytesLess,h,this]
    ·rw[if_neg h2,ih]
     have:a=b:=by
      refine UInt8.toNat_inj.1 ?_
      simp only[UInt8.lt_iff_toNat_lt] at h h2
      omega
     subst this
     simp[Op.bytesLess,UInt8.lt_irrefl]
theorem lL(s:ByteArray)(k:Nat)(h:k<s.size):s.toList[k]? = some s[k]:=by
 rw[Go.ByteArray.toList_eq]
 show s.data.toList[k]? = some s.data[k]
 simp[h]
theorem aV(s:ByteArray):s.toList.length=s.size:=by
 rw[Go.ByteArray.toList_eq,Array.length_toList];rfl
theorem Zq(x y:List UInt8)(k:Nat)(a b:UInt8)(hx:x[k]? = some a)(hy:y[k]? = some b)(hab:a≠b)(hp:x.take k=y.take k):Op.bytesLess x y=decide (a<b):=by
 induction k generalizing x y with
 | zero =>
  cases x with
  | nil=>simp at hx
  | cons c x=>cases y with
   | nil=>simp at hy
   | cons d y =>
    simp at hx hy
    subst hx hy
    simp[Op.bytesLess,hab]
 | succ k ih =>
  cases x with
  | nil=>simp at hx
  | cons c x=>cases y with
   | nil=>simp at hy
   | cons d y =>
    simp at hx hy hp
    obtain⟨rfl,hp⟩:=hp
    simp[Op.bytesLess,ih x y hx hy hp,UInt8.lt_irrefl]
theorem Ur(x y:List UInt8)(k:Nat)(hp:x.take k=y.take k)(hk:k=x.length\/k=y.length)(hx:k<=x.length)(hy:k<=y.length):Op.bytesLess x y=decide (x.length<y.length):=by
 induction k generalizing x y with
 | zero =>
  cases x with
  | nil=>cases y<;>simp[Op.bytesLess]
  | cons c x=>cases y with
   | nil=>simp[Op.bytesLess]
   | cons d y=>simp at hk
 | succ k ih =>
  cases x with
  | nil=>simp at hx
  | cons c x=>cases y with
   | nil=>simp at hy
   | cons d y =>
    simp at hp hx hy hk
    obtain⟨rfl,hp⟩:=hp
    simp[Op.bytesLess,ih x y hp hk hx hy,UInt8.lt_irrefl]
theorem Ps(a b:ByteArray)(ha:a.size<=9223372036854775807)(hb:b.size<=9223372036854775807)(w:World) :
  Calls Tryz.prog 46 #[.string a,.string b] w λe w'=>e=.returned (.bool (Op.bytesLess a.toList b.toList))/\aC (λ_=>False) w w':=by
 go_in
 go_wp2
 go_loopw [5] (λi wr=>∃ k:Nat,k<=a.size/\k<=b.size/\i=.int .i64 k/\Hid (a.toList.take k=b.toList.take k)/\aC (λ_=>False) w wr) (λi _=>a.size-(intOf i).toNat)
 case atStart=>exact⟨0,qQb _,qQb _,rfl,aB rfl,aC.refl _ _⟩
 case round =>
  obtain⟨k,hka,hkb,rfl,HP,hT⟩:=hrel
  have HT:=aB hT
  clear hT
  by_cases h1:k<a.size
  ·by_cases h2:k<b.size
   ·have i0:(0:Int)<=(k:Int):=by omega
    have i1:(k:Int)<(a.size:Int):=by omega
    have i2:(k:Int)<(b.size:Int):=by omega
    by_cases he:a[k]=b[k]
    ·have hbne:(((a[k]'h1).toNat:Int) != ((b[k]'h2).toNat:Int))=false:=by rw[he];simp
     have HE:=aB he
     clear he
     go_wp2
     go_quiet (fail)
     go_wp2
     go_roundw
     ·refine⟨k+1,by omega,by omega,by simp,aB ?_,HT.drewN _⟩
      rw[List.take_add_one,List.take_add_one,lL _ _ h1,lL _ _ h2,HE.out,HP.out]
     ·show a.size-(k+1)<a.size-k
      omega
    ·have hbne:(((a[k]'h1).toNat:Int) != ((b[k]'h2).toNat:Int))=true:=by
      rw[bne_iff_ne]
      exact λe=>he (UInt8.toNat_inj.1 (by omega))
     have HE:=aB (Zq a.toList b.toList k _ _ (lL _ _ h1) (lL _ _ h2) he HP)
     clear he
     go_wp2
     go_quiet (fail)
     go_wp2
     go_quiet (fail)
     go_wp2
     go_ret
     refine⟨?_,(HT.drewN _).drewN _⟩
     rw[HE.out]
     rfl
   ·have hk:k=b.size:=by omega
    have i0:(0:Int)<=(k:Int):=by omega
    have i1:(k:Int)<(a.size:Int):=by omega
    have i2:¬ (k:Int)<(b.size:Int):=by omega
    have HE:=aB (Ur a.toList b.toList k HP (.inr (by rw[aV];exact hk)) (by rw[aV];exact hka) (by rw[aV];exact hkb))
    clear hk
    go_wp2
    go_ret
    refine⟨?_,HT⟩
    rw[HE.out,aV,aV]
    rfl
  ·have hk:k=a.size:=by omega
   have i1:¬ (k:Int)<(a.size:Int):=by omega
   have HE:=aB (Ur a.toList b.toList k HP (.inl (by rw[aV];exact hk)) (by rw[aV];exact hka) (by rw[aV];exact hkb))
   clear hk
   go_wp2
   go_ret
   refine⟨?_,HT⟩
   rw[HE.out,aV,aV]
   rfl
def aE.Wf(p:aE):Prop:=p.word.size<=9223372036854775807
def kK(l:List aE):Prop:=l.Pairwise (λa b=>iN a b=true)
theorem aGf(L:List aE)(i:Nat)(hi:i<L.length):L.take (i+1)=L.take i++[L.getD i aE.zero]:=by
 have e:L.getD i aE.zero=L[i]:=by simp[qQa,hi]
 rw[List.take_succ_eq_append_getElem hi,e]
theorem pH(O:List aE)(k:Nat)(hk:k<O.length):O.getD k aE.zero∈O:=by
 have e:O.getD k aE.zero=O[k]:=by simp[qQa,hk]
 rw[e];exact List.getElem_mem _
structure SL where
 A:Option Addr
 n:Nat
 c:Nat
 L:List aE
instance:Inhabited SL:=⟨⟨none,0,0,[]⟩⟩
def SL.val(s:SL):Value:=.slice s.A s.n s.c
structure SL.Ok(s:SL)(w:World):Prop where
 len:s.L.length=s.n
 reads:aI w 2 s.A s.n (bC s.L)
 nil:s.A=none->s.n=0/\s.c=0
theorem Hq(k:List UInt8)(x:aE)(l:List aE):key k (x :: l)=if x.word.toList=k then x :: key k l else key k l:=by
 by_cases h:x.word.toList=k
 ·simp[key,h]
 ·simp[key,h]
def bZ(k:List UInt8)(L:List aE):Int × Bool:=match (key k L).getLast? with | some p=>(p.weight,true) | none=>(0,false)
theorem Ve{L:List aE}(hi:i<L.length)(k:List UInt8)(hk:(L.getD i aE.zero).word.toList=k)(hd:key k (L.drop (i+1))=[]):bZ k L=((L.getD i aE.zero).weight,true):=by
 have e2:L.getD i aE.zero=L[i]:=by simp[qQa,hi]
 have e:L=L.take i++(L[i] :: L.drop (i+1)):=by rw[<-qZc hi,List.take_append_drop]
 have e3:key k (L[i] :: L.drop (i+1))=[L[i]]:=by
  rw[Hq,if_pos (by rw[<-e2];exact hk),hd]
 have e4:key k L=key k (L.take i)++[L[i]]:=by
  rw[<-e3,<-lQ,<-e]
 unfold bZ
 rw[e4,e2]
 simp
theorem Qo{L:List aE}(hi:i<L.length)(k:List UInt8)(hk:¬ (L.getD i aE.zero).word.toList=k)(hd:key k (L.drop (i+1))=[]):key k (L.drop i)=[]:=by
 have e2:L.getD i aE.zero=L[i]:=by simp[qQa,hi]
 rw[qZc hi]
 rw[Hq,if_neg (by rw[<-e2];exact hk),hd]
end Go.Proofs.YthockgmbooefpaaGreatDoor
