/- What the law rests on, part 0. No condition but those that each theorem names. -/
import Derived.WalkKit
import Derived.WalkSpells
import Derived.WalkLawsBesides
import Derived.ProofKit
import Derived.OpenShut
import Derived.ShutString
import Derived.ChangeOld
import Derived.Deep.Slices
import Derived.Deep.Fields
import Derived.Test.YthockgmbooefpaaGreatDoorRows
import Derived.BigQuiet
import Derived.Lib.Bytealg
import Derived.StillTailTactics
import Derived.Deep.QuietTactic
import Derived.Lib.SliceRun
set_option linter.unusedSectionVars false
set_option linter.unusedSimpArgs false
set_option linter.unusedVariables false
set_option maxRecDepth 100000
set_option maxHeartbeats 1000000
namespace Go.Proofs.YthockgmbooefpaaGreatDoor
open List renaming getD → qQa, flatMap_cons → qZa, eq_nil_of_length_eq_zero → qZb, pairwise_cons → qXb, set_cons_succ → qJb, all_eq_true → qXc, mem_cons → qJc, nil_append → qQd, pairwise_append → qZd, take_succ_cons → qXd, drop_eq_getElem_cons → qZe, getElem?_append_left → qXe, getElem?_append_right → qJe, getElem?_eq_getElem → qQf, getElem_cons_succ → qXf, getElem_cons_zero → qJf, take_succ_eq_append_getElem → qJi
open Nat renaming zero_le → qXa, le_refl → qJa, zero_add → qQb, lt_of_lt_of_le → qQc, succ_mul → qZc
variable{fs:Array Field}{cs:List Value}{c cap fuel g i k n p:Nat}{R:Type}{e t:TypeId}{v:Value}{W w:World}
theorem eX{α:Sort _}(a:α):∃ y,y=a:=⟨a,rfl⟩
open Go.RowKit
structure aC(S:Nat->Prop)(w w':World):Prop where
 os:w'.os=w.os
 tape:w'.tape=w.tape
 output:w'.output=w.output
 size:w.heap.size<=w'.heap.size
 block:∀ k,k<w.heap.size->¬ S k->w'.heap[k]? = w.heap[k]?
section
variable{w w' w1 w2:World}{S T:Nat->Prop}
theorem aC.refl(S:Nat->Prop)(w:World):aC S w w:=⟨rfl,rfl,rfl,qJa _,λ_ _ _=>rfl⟩
theorem aC.trans(h:aC S w w1)(k:aC T w1 w2)(hT:∀ i,i<w.heap.size->T i->S i):aC S w w2 :=
 ⟨k.os.trans h.os,k.tape.trans h.tape,k.output.trans h.output,Nat.le_trans h.size k.size,
  λi hi hs=>(k.block i (qQc hi h.size) (λt=>hs (hT i hi t))).trans (h.block i hi hs)⟩
theorem aC.mono(h:aC S w w')(hT:∀ i,i<w.heap.size->S i->T i):aC T w w' :=
 ⟨h.os,h.tape,h.output,h.size,λi hi ht=>h.block i hi (λs=>ht (hT i hi s))⟩
theorem aC.up(h:aC (λ_=>False) w w')(S:Nat->Prop):aC S w w':=h.mono (λ_ _ f=>False.elim f)
theorem aC.then(h:aC S w w1)(k:aC S w1 w2):aC S w w2:=h.trans k (λ_ _ s=>s)
theorem aC.drew(h:aC S w w'):aC S w w'.drew:=⟨h.os,h.tape,h.output,h.size,h.block⟩
theorem aC.drewN(h:aC S w w')(n:Nat):aC S w (w'.drewN n):=⟨h.os,h.tape,h.output,h.size,h.block⟩
theorem aC.alloc(h:aC S w w')(o:Obj):aC S w (w'.alloc o) :=
 h.trans (T:=λ_=>False) ⟨rfl,rfl,rfl,by simp,λk hk _=>Below.heap_alloc _ _ _ (by omega)⟩ (λ_ _ f=>f.elim)
theorem aC.setCell(h:aC S w w'){p:Addr}(hp:p.block<w.heap.size->S p.block)(u:Value):aC S w (w'.setCell p u) :=
 h.trans (T:=λk=>k=p.block) ⟨rfl,rfl,rfl,by simp[World.setCell],λk _ hk=>Below.heap_setCell _ _ _ _ hk⟩ (λi hi e=>by subst e;exact hp hi)
theorem aC.grown{row:Option Nat}(h:aC S w w1)(hg:w1.grownBy w2 row)(hr:∀ k,row=some k->k<w.heap.size->S k):aC S w w2 :=
 h.trans (T:=λk=>row=some k) ⟨hg.os,hg.tape,hg.output,hg.size,λk hk hs=>hg.block k hk (λe=>hs e.symm)⟩ (λi hi e=>hr i e hi)
theorem aC.of_below(h:Below w.heap.size w w')(S:Nat->Prop):aC S w w':=⟨h.os,h.tape,h.output,h.size,λk hk _=>h.block k hk⟩
theorem aC.below(h:aC S w w'){B:Nat}(hB:B<=w.heap.size)(hS:∀ k,k<B->¬ S k):Below B w w':=⟨h.os,h.tape,h.output,h.size,λk hk=>h.block k (by omega) (hS k hk)⟩
theorem aC.cell(h:aC S w w'){a:Addr}(ha:a.block<w.heap.size)(hs:¬ S a.block):w'.cell? a=w.cell? a:=World.cell?_of_block (h.block _ ha hs)
theorem aC.grownBy_none(h:aC (λ_=>False) w w')(row:Option Nat):w.grownBy w' row:=⟨h.os,h.tape,h.output,h.size,λk hk _=>h.block k hk (λf=>f)⟩
end
def aL(w:World)(g:Nat)(t:TypeId)(cs:Array Value):Prop:=w.heap[g]? = some (.cells cs t (0,0))
section
variable{w w':World}{g:Nat}{t:TypeId}{cs:Array Value}{S:Nat->Prop}
theorem aL.lt(h:aL w g t cs):g<w.heap.size:=by
 rcases Nat.lt_or_ge g w.heap.size with hlt | hge
 ·exact hlt
 ·unfold aL at h;rw[Array.getElem?_eq_none hge] at h;cases h
theorem aL.cell(h:aL w g t cs)(i:Nat):w.cell? ⟨g,i,none⟩=cs[i]? := cell_of_row w g i cs t (0,0) h
theorem aL.frozen(h:aL w g t cs)(i:Nat):w.frozen? ⟨g,i,none⟩=false:=by
 unfold aL at h
 simp[World.frozen?,h]
theorem aL.new(w:World)(t:TypeId)(cs:Array Value):aL (w.alloc (.cells cs t)) w.heap.size t cs:=heap_alloc_new w _
theorem aL.drew(h:aL w g t cs):aL w.drew g t cs:=h
theorem aL.drewN(h:aL w g t cs)(n:Nat):aL (w.drewN n) g t cs:=h
theorem aL.alloc(h:aL w g t cs)(o:Obj):aL (w.alloc o) g t cs:=(Below.heap_alloc w o g h.lt).trans h
theorem aL.set_(h:aL w g t cs)(i:Nat)(u:Value):aL (w.setCell ⟨g,i,none⟩ u) g t (cs.setIfInBounds i u):=by
 unfold aL at h ⊢
 simp[World.setCell,Array.getElem?_modify,h]
theorem aL.far(h:aL w g t cs){p:Addr}(hp:g≠p.block)(u:Value):aL (w.setCell p u) g t cs:=(Below.heap_setCell w p u g hp).trans h
theorem aL.touch(h:aL w g t cs)(hb:aC S w w')(hg:¬ S g):aL w' g t cs:=(hb.block g h.lt hg).trans h
theorem aL.grown{row:Option Nat}(h:aL w g t cs)(hb:w.grownBy w' row)(hg:some g≠row):aL w' g t cs:=(hb.block g h.lt hg).trans h
theorem aL.below{B:Nat}(h:aL w g t cs)(hb:Below B w w')(hg:g<B):aL w' g t cs:=(hb.block g hg).trans h
theorem aL.ne_{g':Nat}{t':TypeId}{cs':Array Value}(h:aL w g t cs)(h':aL w g' t' cs')(ht:t≠t'):g≠g':=by
 rintro rfl
 unfold aL at h h'
 rw[h] at h'
 injection h' with h'
 injection h' with _ h' _
 exact ht h'
end
section
variable{w w':World}{base:Nat}{e:TypeId}{size:Nat}{v:Value}{n:Nat}{xs:List Value}{S:Nat->Prop}
theorem bY(h:w.ownsRow base e size v n xs){cs:Array Value}(hb:aL w g t cs)(ht:t≠e):v.ownBlock≠some g:=by
 intro he
 rcases h.2 with⟨rfl,_⟩ | ⟨g',cap,cur,rfl,_,hgg,_⟩
 ·simp[Value.ownBlock] at he
 ·simp[Value.ownBlock] at he
  subst he
  unfold aL at hb
  rw[hgg] at hb
  injection hb with hb
  injection hb with _ hb _
  exact ht hb.symm
theorem Rz{base':Nat}{e':TypeId}{size' n':Nat}{v':Value}{xs':List Value}(h:w.ownsRow base e size v n xs)(h':w.ownsRow base' e' size' v' n' xs')(ht:e≠e')(hg:v.ownBlock=some g):v'.ownBlock≠some g:=by
 rcases h.2 with⟨rfl,_⟩ | ⟨g',cap,cur,rfl,_,hgg,_⟩
 ·simp[Value.ownBlock] at hg
 ·simp[Value.ownBlock] at hg
  subst hg
  exact bY h' (g:=g') (t:=e) (cs:=cur) hgg ht
theorem aF(h:w.ownsRow base e size v n xs)(hb:aC S w w')(hs:∀ g,v.ownBlock=some g->¬ S g):w'.ownsRow base e size v n xs:=by
 refine⟨h.1,?_⟩
 rcases h.2 with hn | ⟨g,cap,cur,rfl,hge,hgg,rest⟩
 ·exact .inl hn
 ·refine .inr ⟨g,cap,cur,rfl,hge,?_,rest⟩
  rw[hb.block g (Array.getElem?_eq_some_iff.1 hgg).1 (hs g rfl)]
  exact hgg
theorem cO(h:w.ownsRow base e size v n xs){a:Addr}(ha:v.ownBlock≠some a.block)(u:Value):(w.setCell a u).ownsRow base e size v n xs:=by
 refine aF (S:=λk=>k=a.block) h ⟨rfl,rfl,rfl,by simp[World.setCell],λk _ hk=>Below.heap_setCell _ _ _ _ hk⟩ ?_
 rintro g hg rfl
 exact ha hg
theorem aS(h:w.ownsRow base e size v n xs):∃ A c,v=.slice A n c/\(n<c\/n=c)/\c<=maxLen:=by
 rcases h.2 with⟨rfl,rfl⟩ | ⟨g,cap,cur,rfl,_,_,hle,hm,_⟩
 ·exact⟨_,_,rfl,.inr rfl,by simp[maxLen]⟩
 ·exact⟨_,_,rfl,by omega,hm⟩
theorem dR(h:w.ownsRow base e size v n xs):n<=maxLen:=by
 obtain⟨_,_,_,h1,h2⟩:=aS h
 omega
theorem eZ(h:w.ownsRow base e size v n xs)(hn:0<n):∃ g cap,v=.slice (some ⟨g,0,none⟩) n cap/\n<=cap/\cap<=maxLen/\g<w.heap.size/\(∀ j u,xs[j]? = some u->w.cell? ⟨g,j,none⟩=some u)/\∀ j,w.frozen? ⟨g,j,none⟩=false:=by
 rcases h.2 with⟨rfl,rfl⟩ | ⟨g,cap,cur,rfl,hge,hgg,hle,hm,hsz,ht⟩
 ·omega
 ·refine⟨g,cap,rfl,hle,hm,(Array.getElem?_eq_some_iff.1 hgg).1,?_,λj=>by simp[World.frozen?,hgg]⟩
  intro j u hu
  have:=h.cells (g:=g) rfl j u hu
  have hadd:(⟨g,0,none⟩:Addr).add j=⟨g,j,none⟩:=by unfold Addr.add;split<;>simp_all
  rwa [hadd] at this
theorem dS(h:w.ownsRow base e size (.slice (some ⟨g,0,none⟩) n cap) n xs)(i:Nat)(u:Value) :
  (w.setCell ⟨g,i,none⟩ u).ownsRow base e size (.slice (some ⟨g,0,none⟩) n cap) n (xs.set i u):=by
 refine⟨by rw[List.length_set];exact h.1,?_⟩
 rcases h.2 with⟨h0,_⟩ | ⟨g',cap',cur,hv,hge,hgg,hle,hm,hsz,ht⟩
 ·cases h0
 ·injection hv with ha _ hc
  injection ha with ha
  injection ha with ha
  subst ha
  subst hc
  refine .inr ⟨g,cap,cur.setIfInBounds i u,rfl,hge,?_,hle,hm,by simpa using hsz,?_⟩
  ·simp[World.setCell,Array.getElem?_modify,hgg]
  ·rw[Array.toList_setIfInBounds,List.take_set,ht]
end
theorem aL.facts{cs:Array Value}(h:aL w g t cs):(∀ i,w.cell? ⟨g,i,none⟩=cs[i]?)/\(∀ i,w.frozen? ⟨g,i,none⟩=false)/\g<w.heap.size:=⟨h.cell,h.frozen,h.lt⟩
theorem iA(w:World)(X:Obj)(t:TypeId)(cs:Array Value):aL ((w.alloc X).alloc (.cells cs t)) (w.heap.size+1) t cs:=by
 have:=aL.new (w.alloc X) t cs
 simpa using this
theorem Ba(w:World)(X Y:Obj)(t:TypeId)(cs:Array Value):aL (((w.alloc X).alloc Y).alloc (.cells cs t)) (w.heap.size+1+1) t cs:=by
 have:=aL.new ((w.alloc X).alloc Y) t cs
 simpa using this
theorem aAl(w:World)(X Y Z:Obj)(t:TypeId)(cs:Array Value):aL ((((w.alloc X).alloc Y).alloc Z).alloc (.cells cs t)) (w.heap.size+1+1+1) t cs:=by
 have:=aL.new (((w.alloc X).alloc Y).alloc Z) t cs
 simpa using this
theorem aB{p:Prop}(h:p):Hid p:=h
def aH(w:World)(size:Nat)(A:Option Addr)(n:Nat)(xs:List Value):Prop :=
 xs.length=n*size/\(0<n->∃ b off,A=some ⟨b,off,none⟩/\b<w.heap.size/\∀ j u,xs[j]? = some u->w.cell? ⟨b,off+j,none⟩=some u)
def aJ:Option Addr->Option Nat:=λA=>A.map (·.block)
section
variable{w w':World}{size n:Nat}{A:Option Addr}{xs:List Value}{S:Nat->Prop}
theorem aH.nil(w:World)(size:Nat)(A:Option Addr):aH w size A 0 []:=⟨by simp,λh=>absurd h (by omega)⟩
theorem aH.touch(h:aH w size A n xs)(ht:aC S w w')(hs:∀ g,aJ A=some g->¬ S g):aH w' size A n xs :=
 ⟨h.1,λhn=>by
  obtain⟨b,off,rfl,hb,hc⟩:=h.2 hn
  exact⟨b,off,rfl,qQc hb ht.size,λj u hu=>(ht.cell (a:=⟨b,off+j,none⟩) hb (hs b rfl)).trans (hc j u hu)⟩⟩
theorem aH.below{B:Nat}(h:aH w size A n xs)(ht:Below B w w')(hs:∀ g,aJ A=some g->0<n->g<B):aH w' size A n xs :=
 ⟨h.1,λhn=>by
  obtain⟨b,off,rfl,hb,hc⟩:=h.2 hn
  exact⟨b,off,rfl,qQc hb ht.size,λj u hu=>(ht.cell (p:=⟨b,off+j,none⟩) (hs b rfl hn)).trans (hc j u hu)⟩⟩
theorem aH.old(h:aH w size A n xs)(ht:Below w.heap.size w w'):aH w' size A n xs :=
 ⟨h.1,λhn=>by
  obtain⟨b,off,rfl,hb,hc⟩:=h.2 hn
  exact⟨b,off,rfl,qQc hb ht.size,λj u hu=>(ht.cell (p:=⟨b,off+j,none⟩) hb).trans (hc j u hu)⟩⟩
theorem aH.alloc(h:aH w size A n xs)(o:Obj):aH (w.alloc o) size A n xs:=h.touch (S:=λ_=>False) ((aC.refl _ _).alloc o) (λ_ _ f=>f)
theorem aH.drew(h:aH w size A n xs):aH w.drew size A n xs:=h
theorem aH.drewN(h:aH w size A n xs)(k:Nat):aH (w.drewN k) size A n xs:=h
theorem aH.form(h:aH w size A n xs)(hn:0<n):∃ b off,A=some ⟨b,off,none⟩/\b<w.heap.size/\∀ j u,xs[j]? = some u->w.cell? ⟨b,off+j,none⟩=some u:=h.2 hn
theorem aH.of_own{base:Nat}(h:w.ownsRow base e size (.slice A n c) n xs):aH w size A n xs:=by
 refine⟨h.1,λhn=>?_⟩
 obtain⟨g,cap,hv,_,_,hg,hc,_⟩:=eZ h hn
 injection hv with hA _ _
 subst hA
 exact⟨g,0,rfl,hg,λj u hu=>by rw[qQb];exact hc j u hu⟩
theorem aH.cut(h:aH w size A n xs)(hk:k<=n)(hc:n<=cap) :
  aH w size (if cap=k then A else A.map (·.add (k*size))) (n-k) (xs.drop (k*size)):=by
 refine⟨by rw[List.length_drop,h.1,Nat.sub_mul],λhn=>?_⟩
 obtain⟨b,off,rfl,hb,hcell⟩:=h.2 (by omega)
 rw[if_neg (by omega)]
 refine⟨b,off+k*size,?_,hb,λj u hu=>?_⟩
 ·simp[Addr.add_lit]
 ·rw[Nat.add_assoc]
  exact hcell _ u (by rw[<-hu,List.getElem?_drop])
theorem aH.take(h:aH w size A n xs)(hk:k<=n):aH w size A k (xs.take (k*size)):=by
 refine⟨by rw[List.length_take,h.1];exact Nat.min_eq_left (Nat.mul_le_mul_right _ hk),λhn=>?_⟩
 obtain⟨b,off,rfl,hb,hcell⟩:=h.2 (by omega)
 exact⟨b,off,rfl,hb,λj u hu=>hcell j u (by rw[List.getElem?_take] at hu;split at hu<;>simp_all)⟩
theorem aH.new(w:World)(t:TypeId)(xs:List Value)(n:Nat)(h:xs.length=n*size):aH (w.alloc (.cells xs.toArray t)) size (some ⟨w.heap.size,0,none⟩) n xs :=
 ⟨h,λ_=>⟨w.heap.size,0,rfl,by simp,λj u hu=>by rw[qQb,World.cell?_alloc_new];simpa using hu⟩⟩
end
def cK(w:World)(v v':Value):Prop:=v'.ownBlock=v.ownBlock\/∃ g,v'.ownBlock=some g/\w.heap.size<=g
theorem aP{P:Program}(w:World){ops:Array Oper}{rest:List Oper}{o:Oper}{a:Act}{Q:Exit->Act->World->Prop}
  (hg:o.guard=none)(s x:Operand)(t:TypeId)(hop:o.op=Op.call { callee:=Callee.builtin Builtin.append,args:=#[s,x],argTypes:=#[t,t] })
  (e:TypeId)(i:TypeInfo)(z:Value)(size bytes:Nat)(h1:P.underlying t=some (.slice e))(h2:P.info? e=some i)(h3:i.zero=some z)(h4:i.size=size)(h5:i.bytes=bytes)(h6:z.cells.size=size)(h7:0<size)
  (v:Value)(n:Nat)(xs:List Value)(hs:a.eval s=v)(hown:w.ownsRow 0 e size v n xs)
  (ao:Option Addr)(m c:Nat)(news:List Value)(hx:a.eval x=.slice ao m c)(hr:aH w size ao m news)(hn:ao=none->m=0/\c=0)(h1c:∀ u∈news,u.oneCell'=true)
  (b1:n+m<=maxLen)(b2:(n+m)*bytes<=140737488355328)
  (hK:∀ v' w',w'.ownsRow 0 e size v' (n+m) (xs++news)->w.grownBy w' v.ownBlock->cK w v v'->(v'=.slice none 0 0↔v=.slice none 0 0/\m=0)->wpList P ops Q rest (a.put o.dst v') w') :
  wpList P ops Q (o :: rest) a w:=by
 refine wpList_plain hg λK hK'=>?_
 have main:∃ v' w',(Builtin.append_ #[t,t] o.type #[v,.slice ao m c]).run P w=.ok v' w'/\w'.ownsRow 0 e size v' (n+m) (xs++news)/\w.grownBy w' v.ownBlock/\cK w v v'/\(v'=.slice none 0 0↔v=.slice none 0 0/\m=0):=by
  cases ao with
  | none =>
   obtain⟨rfl,rfl⟩:=hn rfl
   have hnews:news=[]:=qZb (by simpa using hr.1)
   subst hnews
   exact⟨v,w,run_append_owned_none (P:=P) w 0 t o.type e i size h1 h2 v n xs hown,by simpa using hown,World.grownBy.refl _ _,.inl rfl,by simp⟩
  | some ad =>
   have hc:∀ j u,news[j]? = some u->w.cell? (ad.add j)=some u:=λj u hu=>by
    have hm:0<m:=by
     rcases Nat.eq_zero_or_pos m with rfl | hm
     ·have hl:news=[]:=qZb (by simpa using hr.1)
      rw[hl] at hu
      cases hu
     ·exact hm
    obtain⟨b,off,hA,_,hcell⟩:=hr.2 hm
    injection hA with hA
    subst hA
    rw[Addr.add_lit]
    exact hcell j u hu
   rcases hown.2 with⟨rfl,rfl⟩ | ⟨g,cap,cur,rfl,_,hgg,hnc,hcm,hcs,ht⟩
   ·have hx:xs=[]:=qZb (by simpa using hown.1)
    subst hx
    obtain⟨v',w',r1,r2,r3,r4⟩:=run_append_own (P:=P) w w.heap.size t o.type e i z size bytes h1 h2 h3 h4 h5 h6 h7 (.slice none 0 0) 0 [] (World.ownsRow_nil w _ e size) ad m c news hr.1 hc h1c b1 b2 (qJa _)
    refine⟨v',w',r1,⟨r2.1,?_⟩,r3,?_,r4⟩
    ·rcases r2.2 with h | ⟨g,cap,cur,h,_,hh⟩
     ·exact .inl h
     ·exact .inr ⟨g,cap,cur,h,qXa _,hh⟩
    ·rcases r2.2 with⟨h,_⟩ | ⟨g,cap,cur,h,hge,hh⟩
     ·exact .inl (by rw[h])
     ·exact .inr ⟨g,by rw[h];rfl,hge⟩
   ·by_cases hroom:n+m<=cap
    ·obtain⟨w',r1,r2,r3⟩:=run_append_fits (P:=P) w 0 t o.type e i size h1 h2 h4 g n cap xs hown ad m c news hr.1 hc h1c hroom
     exact⟨_,w',r1,r2,r3,.inl rfl,by simp⟩
    ·have holds:∀ j u,xs[j]? = some u->w.cell? ((⟨g,0,none⟩:Addr).add j)=some u:=hown.cells (g:=g) rfl
     obtain⟨v',w',r1,r2,r3⟩:=run_append_arg_grows (P:=P) w t o.type e i z size bytes h1 h2 h3 h4 h5 h6 h7 ⟨g,0,none⟩ n cap xs hown.1 holds ad m c news hr.1 hc (by omega) b1 b2
     refine⟨v',w',r1,⟨r2.1,?_⟩,⟨r3.os,r3.tape,r3.output,r3.size,λk hk _=>r3.block k hk (by simp)⟩,?_,?_⟩
     ·rcases r2.2 with h | ⟨g,cap,cur,h,_,hh⟩
      ·exact .inl h
      ·exact .inr ⟨g,cap,cur,h,qXa _,hh⟩
     ·rcases r2.2 with⟨h,hz⟩ | ⟨g,cap,cur,h,hge,hh⟩
      ·omega
      ·exact .inr ⟨g,by rw[h];rfl,hge⟩
     ·rcases r2.2 with⟨h,hz⟩ | ⟨g,cap,cur,h,hge,hh⟩
      ·omega
      ·rw[h];simp
 obtain⟨v',w',r1,r2,r3,r4,r5⟩:=main
 unfold Oper.wp
 simp[execOp,hop,resolve,invoke,builtin,hs,hx,r1,Result.andThen]
 exact hK' _ _ (hK v' w' r2 r3 r4 r5)
theorem aC.app{S:Nat->Prop}{w1 w2:World}(h:aC S w w1)(hg:w1.grownBy w2 v.ownBlock)(hv:∀ g,v.ownBlock=some g->g<w.heap.size->S g):aC S w w2 :=
 h.grown hg hv
section
open Go.RowKit Go.ChangeShapes Go.WideShapes Go.ChangeAt
section
variable{H:Type}{enc:TypeId × Value->H}{P:Program}
theorem Fg(hl:laidOutB P=true){W':World}(hb:Below W.heap.size W W'):∀ (ts:List TypeId) (vs:List Value) (ds:List (DataW H)) (ps:List MemPlace),
  (∀ t∈ts,P.readableRec t=true/\t<P.types.size)->DataW.TrodAll enc P W 0 (λ_=>true) true ts vs ds ps ->
  DataW.TrodAll enc P W' 0 (λb=>decide (b<W.heap.size)) true ts vs ds ps:=by
 intro ts
 induction ts with
 | nil =>
  intro vs ds ps _ h
  obtain⟨rfl,rfl,rfl⟩:=trodAll_nil h
  exact trodAll_mk0
 | cons t ts ih =>
  intro vs ds ps ht h
  obtain⟨v,vs',d,ds',p,q,rfl,rfl,rfl,h0,r0⟩:=trodAll_cons h
  have lt0:∀ x∈p,x.block<W.heap.size:=by obtain⟨m,hm⟩:=h0;exact DataW.trod_lt m _ _ _ hm
  obtain⟨h1,h2⟩:=ht t (by simp)
  exact trodAll_cons_mk (Below.trod hl h1 h2 h0 hb lt0) (ih vs' ds' q (λt' h'=>ht t' (by simp[h'])) r0)
theorem Yh{f:Func}{s:ChangeSpec}{W':World}{args:Array Value}{ds gs:List (DataW H)}{before:List MemPlace}{tb:TypeId}
  (hW:DataW.Whole enc P f.params.toList s.vars false W args.toList ds gs before)(hvars:s.vars=[])(hres:f.resultTypes.toList=[tb])(hn:f.resultTypes.size=1)(htb:P.underlying tb=some .bool)
  (hfn:s.fn H (ds++gs)={ results:=[.lit (.bool true)],args:=ds })(hl:laidOutB P=true)(hts0:(f.params.toList.all λt=>P.readableRec t && decide (t<P.types.size))=true)(bel:Below W.heap.size W W') :
  s.post enc P f false true false false W args (.bool true) W':=by
 have hts:∀ t∈f.params.toList,P.readableRec t=true/\t<P.types.size:=λt ht=>by
  have:=List.all_eq_true.1 hts0 t ht
  simpa using this
 have hW':=hW
 obtain⟨p,q,hA,hV,rfl,hfz,hnd⟩:=hW
 rw[hvars] at hV
 obtain⟨rfl,rfl⟩:=trodVars_none hV
 refine⟨ds,[],p++[],[],p,[],hW',?_,?_,?_,bel.frame _,λh=>by cases h⟩
 ·rw[hfn,hres,hn]
  exact trodAll_mk1 (shut_bool htb _)
 ·rw[hfn]
  exact Fg hl bel _ _ _ _ hts hA
 ·rw[hfn,hvars]
  rfl
theorem Tm{f:Func}{s:ChangeSpec}{args:Array Value}{ds gs:List (DataW H)}{before:List MemPlace}(hvars:s.vars=[])
  (hW:DataW.Whole enc P f.params.toList s.vars false W args.toList ds gs before):∃ p,DataW.TrodAll enc P W 0 (λ_=>true) true f.params.toList args.toList ds p/\gs=[]:=by
 obtain⟨p,q,hA,hV,rfl,hfz,hnd⟩:=hW
 rw[hvars] at hV
 obtain⟨rfl,rfl⟩:=trodVars_none hV
 exact⟨p,hA,rfl⟩
end
theorem pB(cells:R->List Value)(size:Nat)(hs:∀ r,(cells r).length=size)(l:List R)(i j:Nat)(hi:i<l.length)(hj:j<size) :
  (l.flatMap cells)[i*size+j]? = (cells l[i])[j]? := by
 induction l generalizing i with
 | nil=>simp at hi
 | cons r l ih =>
  cases i with
  | zero =>
   simp only[qZa,Nat.zero_mul,qQb,qJf]
   rw[qXe (by rw[hs];exact hj)]
  | succ i =>
   simp only[qZa,qXf]
   rw[qJe (by rw[hs,qZc];omega),hs,show (i+1)*size+j-size=i*size+j by rw[qZc];omega]
   exact ih i (by simpa using hi)
theorem oC(cells:R->List Value)(size:Nat)(hs:∀ r,(cells r).length=size)(l:List R):(l.flatMap cells).length=l.length*size:=by
 induction l with
 | nil=>simp
 | cons r l ih=>rw[qZa,List.length_append,hs,ih,List.length_cons,qZc,Nat.add_comm]
section
variable{H:Type}{enc:TypeId × Value->H}{P:Program}{w:World}{base:Nat}{spare:Nat->Bool}{held:Bool}
theorem Ly{x:DataW H × List MemPlace}(hs:P.underlying t=some (.struct fs))(h:DataW.trod enc P w base spare held fuel t cs=some x)
  (i:Nat)(f:Field)(hf:fs[i]? = some f):∃ n y,DataW.trod enc P w base spare held n f.type ((cs.drop f.offset).take (P.cellsOf f.type))=some y:=by
 obtain⟨xs,n,_,_,_,hlen,hg⟩:=DataW.trod_struct hs h
 have hi:i<fs.size:=(Array.getElem?_eq_some_iff.1 hf).1
 refine⟨n,xs[i]'(by omega),?_⟩
 rw[hg i f hf]
 exact qQf (by omega)
theorem nO{o:Nat}(h:(cs.drop o).take 1=[v]):cs[o]? = some v:=by
 have:=congrArg (λl=>l[0]?) h
 simpa [List.getElem?_take] using this
theorem lI{x:DataW H × List MemPlace}(hs:P.underlying t=some (.struct fs))(h:DataW.trod enc P w base spare held fuel t cs=some x)
  (i:Nat)(f:Field)(hf:fs[i]? = some f){k:IntKind}(hk:P.underlying f.type=some (.int k))(hc:P.cellsOf f.type=1):∃ n,cs[f.offset]? = some (.int k n)/\(Lit.int k n).wf=true:=by
 obtain⟨m,y,hy⟩:=Ly hs h i f hf
 rw[hc] at hy
 obtain⟨n,hn,_,hw⟩:=DataW.trod_int hk hy
 exact⟨n,nO hn,hw⟩
theorem Jg{x:DataW H × List MemPlace}(hs:P.underlying t=some (.struct fs))(h:DataW.trod enc P w base spare held fuel t cs=some x)
  (i:Nat)(f:Field)(hf:fs[i]? = some f)(hk:P.underlying f.type=some .string)(hc:P.cellsOf f.type=1):∃ s:ByteArray,cs[f.offset]? = some (.string s)/\s.size<=maxLen:=by
 obtain⟨m,y,hy⟩:=Ly hs h i f hf
 rw[hc] at hy
 obtain⟨s,hn,_,hw⟩:=DataW.trod_string hk hy
 exact⟨s,nO hn,hw⟩
theorem Yb[Inhabited R](cells:R->List Value)(wf:R->Prop)(size:Nat)(hcl:∀ r,(cells r).length=size)(h0:0<size){x:DataW H × List MemPlace}
  (ht:P.underlying t=some (.slice e))(hC:P.cellsOf e=size)(elem:∀ n cs y,cs.length=size->DataW.trod enc P w base spare held n e cs=some y->∃ r,cs=cells r/\wf r)
  (h:DataW.trod enc P w base spare held fuel t cs=some x) :
  ∃ A len cap,∃ l:List R,cs=[.slice A len cap]/\l.length=len/\len<=cap/\cap<=maxLen/\(A=none->len=0/\cap=0)/\aH w size A len (l.flatMap cells)/\∀ r∈l,wf r:=by
 rcases Go.Deep.open_slice ht h with⟨hcs,_⟩ | ⟨a,len,cap,m,n,D,Pl,hcs,hb,hl,hm,hmm,hx,hi⟩
 ·exact⟨none,0,0,[],hcs,rfl,qJa _,by simp[maxLen],λ_=>⟨rfl,rfl⟩,aH.nil _ _ _,by simp⟩
 ·have hlm:len<=m:=by rw[hmm];split<;>omega
  have hel:∀ i,i<len->∃ r:R,wf r/\∀ j,j<size->w.cell? (a.add (i*size+j))=(cells r)[j]? := by
   intro i hil
   obtain⟨cs',hc,hty⟩:=hi i (by omega)
   rw[hC] at hc
   obtain⟨_,hlen,hat⟩:=World.cells?_some hc
   obtain⟨r,hr,hw⟩:=elem _ cs' _ hlen hty
   refine⟨r,hw,λj hj=>?_⟩
   rw[<-Go.Deep.add_add,hat j hj,hr]
  obtain⟨f,hf⟩:=Go.Deep.choose_lt hel
  refine⟨some a,len,cap,(List.range len).map f,hcs,by simp,hl,hm,(λh=>by cases h),?_,?_⟩
  ·refine⟨by rw[oC cells size hcl];simp,λhpos=>?_⟩
   have hc0:=(hf 0 hpos).2 0 h0
   have hsome:(cells (f 0))[0]? = some ((cells (f 0))[0]'(by rw[hcl];exact h0)):=qQf _
   rw[hsome] at hc0
   have hsp:=World.cell?_spot hc0
   obtain⟨b,off,spot⟩:=a
   have hspot:spot=none:=by simpa [Addr.add] using hsp
   subst hspot
   have hlt:b<w.heap.size:=World.block_lt_of_cell? w _ (by simpa [Addr.add] using hc0)
   refine⟨b,off,rfl,hlt,λj u hu=>?_⟩
   have hjl:j<len*size:=by
    have:=(List.getElem?_eq_some_iff.1 hu).1
    rw[oC cells size hcl] at this
    simpa using this
   have hq:j / size<len:=Nat.div_lt_of_lt_mul (by rw[Nat.mul_comm];exact hjl)
   have hr:j % size<size:=Nat.mod_lt _ h0
   have e:j / size*size+j % size=j:=Nat.div_add_mod' j size
   have h1:=pB cells size hcl ((List.range len).map f) (j / size) (j % size) (by simpa using hq) hr
   rw[e,hu] at h1
   have h2:=(hf (j / size) hq).2 (j % size) hr
   rw[e,Addr.add_lit] at h2
   rw[h2,h1]
   simp
  ·intro r hr
   simp only[List.mem_map,List.mem_range] at hr
   obtain⟨i,hi',rfl⟩:=hr
   exact (hf i hi').1
end
end
structure aD where
 word:ByteArray
 weight:Int
def aD.zero:aD:=⟨ByteArray.empty,0⟩
instance:Inhabited aD:=⟨aD.zero⟩
def aD.cells(r:aD):List Value:=[.string r.word,.int .i64 r.weight]
def aD.val(r:aD):Value:=.agg #[.string r.word,.int .i64 r.weight]
def bK(l:List aD):List Value:=l.flatMap aD.cells
theorem Af(w:ByteArray)(n:Int):aD.val ⟨w,n⟩=.agg #[.string w,.int .i64 n]:=rfl
theorem pN{a b:ByteArray}(h:a.toList=b.toList):a=b:=by
 rw[Go.ByteArray.toList_eq,Go.ByteArray.toList_eq] at h
 exact Go.WideShapes.bytes_inj h
theorem iL(x:List UInt8):Op.bytesLess x x=false:=by
 induction x with
 | nil=>rfl
 | cons a x ih=>simp[Op.bytesLess,ih,UInt8.lt_irrefl]
theorem lS(x y:List UInt8)(h:x≠y):Op.bytesLess x y=true\/Op.bytesLess y x=true:=by
 induction x generalizing y with
 | nil=>cases y with
  | nil=>exact absurd rfl h
  | cons b y=>left;rfl
 | cons a x ih=>cases y with
  | nil=>right;rfl
  | cons b y =>
   by_cases hab:a=b
   ·subst hab
    rcases ih y (λe=>h (by rw[e])) with k | k
    ·left;simp[Op.bytesLess,k]
    ·right;simp[Op.bytesLess,k]
   ·rcases Nat.lt_or_gt_of_ne (λe:a.toNat=b.toNat=>hab (UInt8.toNat_inj.1 e)) with k | k
    ·left;simp[Op.bytesLess,UInt8.lt_iff_toNat_lt,k]
    ·right;simp[Op.bytesLess,UInt8.lt_iff_toNat_lt,k]
theorem kC(x y z:List UInt8)(h:Op.bytesLess x y=true)(k:Op.bytesLess y z=true):Op.bytesLess x z=true:=by
 induction x generalizing y z with
 | nil=>cases z with
  | nil=>cases y<;>simp[Op.bytesLess] at k
  | cons c z=>rfl
 | cons a x ih=>cases y with
  | nil=>simp[Op.bytesLess] at h
  | cons b y=>cases z with
   | nil=>simp[Op.bytesLess] at k
   | cons c z =>
    simp only[Op.bytesLess,Bool.or_eq_true,Bool.and_eq_true,decide_eq_true_eq,beq_iff_eq,UInt8.lt_iff_toNat_lt] at h k ⊢
    rcases h with h | ⟨h,h'⟩
    ·rcases k with k | ⟨k,k'⟩
     ·left;omega
     ·subst k;left;exact h
    ·subst h
     rcases k with k | ⟨k,k'⟩
     ·left;exact k
     ·right;exact⟨k,ih y z h' k'⟩
def jY(a b:aD):Bool:=Op.bytesLess a.word.toList b.word.toList
def yR(a b:aD):Prop:=jY b a=false
theorem aDd(a:aD):yR a a:=iL _
theorem jM{a b:aD}(h:jY a b=true):yR a b:=by
 unfold yR
 cases hb:jY b a with
 | false=>rfl
 | true =>
  have:=kC _ _ _ h hb
  rw[iL] at this
  cases this
theorem aHg{a b c:aD}(h:yR a b)(k:jY b c=true):jY a c=true:=by
 by_cases e:a.word.toList=b.word.toList
 ·unfold jY at k ⊢
  rw[e]
  exact k
 ·rcases lS _ _ e with x | x
  ·exact kC _ _ _ x k
  ·have h':jY b a=false:=h
   unfold jY at h'
   rw[x] at h'
   cases h'
theorem zZ{a b c:aD}(h:jY a b=true)(k:yR b c):jY a c=true:=by
 by_cases e:b.word.toList=c.word.toList
 ·unfold jY at h ⊢
  rw[<-e]
  exact h
 ·rcases lS _ _ e with x | x
  ·exact kC _ _ _ h x
  ·have k':jY c b=false:=k
   unfold jY at k'
   rw[x] at k'
   cases k'
theorem jU{a b c:aD}(h:yR a b)(k:yR b c):yR a c:=by
 unfold yR
 cases hb:jY c a with
 | false=>rfl
 | true =>
  have h1:=zZ hb h
  rw[show jY c b=false from k] at h1
  cases h1
theorem qZ{a b:aD}(h:jY a b=true):a.word.toList≠b.word.toList:=by
 intro e
 unfold jY at h
 rw[e,iL] at h
 cases h
theorem Cy(a:aD):jY a a=false:=iL _
theorem Hm{a b c:aD}(h:jY a b=true)(k:jY b c=true):jY a c=true:=kC _ _ _ h k
theorem Hl{a b:aD}(h:a.word.toList≠b.word.toList):jY a b=true\/jY b a=true:=lS _ _ h
def eG(l:List aD):Prop:=l.Pairwise yR
def key(k:List UInt8)(l:List aD):List aD:=l.filter (λp=>decide (p.word.toList=k))
def bP(A B:List aD):Prop:=∀ k,key k A=key k B
theorem lC(k:List UInt8)(A B:List aD):key k (A++B)=key k A++key k B:=by simp[key]
theorem bP.refl(A:List aD):bP A A:=λ_=>rfl
theorem bP.trans{A B C:List aD}(h:bP A B)(k:bP B C):bP A C:=λx=>(h x).trans (k x)
theorem bP.symm{A B:List aD}(h:bP A B):bP B A:=λx=>(h x).symm
theorem bP.app{A B C D:List aD}(h:bP A B)(k:bP C D):bP (A++C) (B++D):=λx=>by rw[lC,lC,h x,k x]
theorem bP.mem{A B:List aD}(h:bP A B){x:aD}(hx:x∈A):x∈B:=by
 have h1:x∈key x.word.toList A:=by simp[key,hx]
 rw[h] at h1
 exact (List.mem_filter.1 h1).1
theorem bP.swap{A B:List aD}(h:∀ a∈A,∀ b∈B,a.word.toList≠b.word.toList):bP (A++B) (B++A):=by
 intro k
 rw[lC,lC]
 by_cases hA:key k A=[]
 ·rw[hA];simp
 ·obtain⟨a,ha⟩:=List.exists_mem_of_ne_nil _ hA
  have ha':=List.mem_filter.1 ha
  have hB:key k B=[]:=by
   unfold key
   rw[List.filter_eq_nil_iff]
   intro b hb hk
   exact h a ha'.1 b hb ((of_decide_eq_true ha'.2).trans (of_decide_eq_true hk).symm)
  rw[hB];simp
theorem vN{A B:List aD}(hA:eG A)(hB:eG B)(h:∀ a∈A,∀ b∈B,yR a b):eG (A++B):=List.pairwise_append.2 ⟨hA,hB,h⟩
theorem Mw{L1 L2 R1 R2 Z1 Z2:List aD}(hL:eG (L1++L2))(hR:eG (R1++R2))(h1:∀ x∈L1,∀ y∈R2,yR x y)(h2:∀ x∈R1,∀ y∈L2,jY x y=true)
  (s1:eG Z1)(k1:bP (L1++R1) Z1)(s2:eG Z2)(k2:bP (L2++R2) Z2):eG (Z1++Z2)/\bP ((L1++L2)++(R1++R2)) (Z1++Z2):=by
 refine⟨vN s1 s2 λa ha b hb=>?_,?_⟩
 ·have ha':=List.mem_append.1 (k1.symm.mem ha)
  have hb':=List.mem_append.1 (k2.symm.mem hb)
  rcases ha' with ha' | ha'<;>rcases hb' with hb' | hb'
  ·exact (List.pairwise_append.1 hL).2.2 a ha' b hb'
  ·exact h1 a ha' b hb'
  ·exact jM (h2 a ha' b hb')
  ·exact (List.pairwise_append.1 hR).2.2 a ha' b hb'
 ·have e1:bP (L2++R1) (R1++L2):=bP.swap λa ha b hb e=>qZ (h2 b hb a ha) e.symm
  have e2:(L1++L2)++(R1++R2)=L1++((L2++R1)++R2):=by simp
  have e3:bP (L1++((L2++R1)++R2)) ((L1++R1)++(L2++R2)):=by
   have:=(bP.refl L1).app (e1.app (bP.refl R2))
   refine this.trans ?_
   simp only[List.append_assoc]
   exact bP.refl _
  rw[e2]
  exact e3.trans (k1.app k2)
theorem Oc{l:List aD}(h:eG l)(k:Nat):eG (l.take k):=h.sublist (List.take_sublist _ _)
theorem Oa{l:List aD}(h:eG l)(k:Nat):eG (l.drop k):=h.sublist (List.drop_sublist _ _)
theorem tQ{l:List aD}(h:eG l){j:Nat}(hij:i<=j)(hj:j<l.length):yR (l.getD i aD.zero) (l.getD j aD.zero):=by
 have e1:l.getD i aD.zero=l[i]'(by omega):=by simp[qQa,show i<l.length by omega]
 have e2:l.getD j aD.zero=l[j]:=by simp[qQa,hj]
 by_cases h0:i=j
 ·subst h0;exact aDd _
 ·rw[e1,e2]
  exact List.pairwise_iff_getElem.1 h i j (by omega) hj (by omega)
theorem qU{l:List aD}{x:aD}(h:x∈l.take k):∃ i,i<k/\i<l.length/\l.getD i aD.zero=x:=by
 obtain⟨i,hi,e⟩:=List.mem_iff_getElem.1 h
 rw[List.length_take] at hi
 refine⟨i,by omega,by omega,?_⟩
 rw[<-e]
 simp[qQa,show i<l.length by omega]
theorem mZ{l:List aD}{x:aD}(h:x∈l.drop k):∃ i,k<=i/\i<l.length/\l.getD i aD.zero=x:=by
 obtain⟨i,hi,e⟩:=List.mem_iff_getElem.1 h
 rw[List.length_drop] at hi
 refine⟨k+i,by omega,by omega,?_⟩
 rw[<-e]
 simp[qQa,show k+i<l.length by omega]
theorem Ga{L R:List aD}(hL:eG L)(hR:eG R)(s e:Nat)(hs:s<=L.length)(he:e<=R.length)
  (hA:s=0\/e=R.length\/yR (L.getD (s-1) aD.zero) (R.getD e aD.zero))(hB:s=L.length\/e=0\/jY (R.getD (e-1) aD.zero) (L.getD s aD.zero)=true) :
  (∀ x∈L.take s,∀ y∈R.drop e,yR x y)/\(∀ x∈R.take e,∀ y∈L.drop s,jY x y=true):=by
 constructor
 ·intro x hx y hy
  obtain⟨i,i1,i2,rfl⟩:=qU hx
  obtain⟨j,j1,j2,rfl⟩:=mZ hy
  rcases hA with h | h | h
  ·omega
  ·omega
  ·exact jU (tQ hL (by omega) (by omega)) (jU h (tQ hR j1 j2))
 ·intro x hx y hy
  obtain⟨i,i1,i2,rfl⟩:=qU hx
  obtain⟨j,j1,j2,rfl⟩:=mZ hy
  rcases hB with h | h | h
  ·omega
  ·omega
  ·exact zZ (aHg (tQ hR (by omega) (by omega)) h) (tQ hL j1 j2)
theorem kE:(Tryz.prog.info? 125).map (λi=>(i.zero,i.size,i.bytes))=some (some (.agg #[.string ByteArray.empty,.int .i64 0]),2,24):=by kernel_rfl
theorem aQ{z:Value}{s b:Nat}(h:(Tryz.prog.info? t).map (λi=>(i.zero,i.size,i.bytes))=some (some z,s,b)):∃ i,Tryz.prog.info? t=some i/\i.zero=some z/\i.size=s/\i.bytes=b:=by
 cases hi:Tryz.prog.info? t with
 | none=>rw[hi] at h;cases h
 | some i =>
  rw[hi] at h
  simp at h
  exact⟨i,rfl,h.1,h.2.1,h.2.2⟩
theorem Cw(r:aD):(aD.cells r).length=2:=rfl
theorem tF(X:List aD):(bK X).length=X.length*2:=oC aD.cells 2 Cw X
theorem rM(X:List aD)(k:Nat)(hk:k<X.length)(j:Nat)(hj:j<2):(bK X)[k*2+j]? = (X.getD k aD.zero).cells[j]? := by
 have e:X.getD k aD.zero=X[k]:=by simp[qQa,hk]
 rw[e]
 exact pB aD.cells 2 Cw X k j hk hj
theorem pF(X Y:List aD):bK (X++Y)=bK X++bK Y:=by simp[bK]
theorem Nh(X:List aD)(n:Nat):(bK X).take (n*2)=bK (X.take n):=by
 induction X generalizing n with
 | nil=>simp[bK]
 | cons x X ih =>
  cases n with
  | zero=>simp[bK]
  | succ n =>
   have:=ih n
   simp only[bK,qZa,qXd] at this ⊢
   rw[<-this]
   simp[aD.cells,show (n+1)*2=n*2+1+1 by omega]
theorem dN{A:Option Addr}{X:List aD}(h:aH w 2 A n (bK X))(hn:n=X.length)(k:Nat)(hk:k<n) :
  ∃ g off,A=some ⟨g,off,none⟩/\g<w.heap.size/\w.cell? ⟨g,off+k*2,none⟩=some (.string (X.getD k aD.zero).word)/\w.cell? ⟨g,off+k*2+1,none⟩=some (.int .i64 (X.getD k aD.zero).weight):=by
 subst hn
 obtain⟨b,off,hA,hb,hc⟩:=h.2 (by omega)
 refine⟨b,off,hA,hb,?_,?_⟩
 ·exact hc (k*2) _ (rM X k hk 0 (by omega))
 ·rw[Nat.add_assoc];exact hc (k*2+1) _ (rM X k hk 1 (by omega))
abbrev dO(w:World)(A:Option Addr)(n c:Nat)(X:List aD):Prop:=w.ownsRow 0 125 2 (.slice A n c) n (bK X)
theorem dU{A:Option Addr}{X:List aD}(h:dO w A n c X)(hn:n=X.length)(k:Nat)(hk:k<n) :
  ∃ g,A=some ⟨g,0,none⟩/\g<w.heap.size/\w.cell? ⟨g,k*2,none⟩=some (.string (X.getD k aD.zero).word)/\w.cell? ⟨g,k*2+1,none⟩=some (.int .i64 (X.getD k aD.zero).weight) /\
   w.frozen? ⟨g,k*2,none⟩=false/\w.frozen? ⟨g,k*2+1,none⟩=false:=by
 subst hn
 obtain⟨g,cap,hv,_,_,hg,hc,hf⟩:=eZ h (by omega)
 injection hv with hA' _ _
 exact⟨g,hA',hg,hc (k*2) _ (rM X k hk 0 (by omega)),hc (k*2+1) _ (rM X k hk 1 (by omega)),hf _,hf _⟩
theorem bN{A:Option Addr}{X:List aD}(h:dO w A n c X):n=X.length:=by
 have:=h.1
 rw[tF] at this
 omega
theorem aKy(X:List aD)(k:Nat)(r:aD):((bK X).set (k*2) (.string r.word)).set (k*2+1) (.int .i64 r.weight)=bK (X.set k r):=by
 induction X generalizing k with
 | nil=>simp[bK]
 | cons x X ih =>
  cases k with
  | zero=>simp[bK,aD.cells]
  | succ k =>
   have:=ih k
   simp only[bK,qZa,qJb] at this ⊢
   rw[<-this]
   simp only[aD.cells,List.cons_append,qQd,qZc]
   rw[show k*2+2=(k*2)+1+1 by omega,show k*2+1+1+1=(k*2+1)+1+1 by omega]
   simp only[qJb]
theorem iU{X:List aD}(h:dO w (some ⟨g,0,none⟩) n c X)(k:Nat)(r:aD) :
  dO ((w.setCell ⟨g,k*2,none⟩ (.string r.word)).setCell ⟨g,k*2+1,none⟩ (.int .i64 r.weight)) (some ⟨g,0,none⟩) n c (X.set k r):=by
 unfold dO
 rw[<-aKy]
 exact dS (dS h _ _) _ _
def nU(X:List aD)(i j:Nat):List aD:=(X.set i (X.getD j aD.zero)).set j (X.getD i aD.zero)
theorem aEp(X:List aD)(i j:Nat):(nU X i j).length=X.length:=by simp[nU]
theorem yI(x y:List UInt8):decide (Lib.compareBytes x y<0)=Op.bytesLess x y:=by
 induction x generalizing y with
 | nil=>cases y<;>simp[Lib.compareBytes,Op.bytesLess]
 | cons a x ih =>
  cases y with
  | nil=>simp[Lib.compareBytes,Op.bytesLess]
  | cons b y =>
   unfold Lib.compareBytes
   by_cases h:a<b
   ·simp[Op.bytesLess,h]
   ·rw[if_neg h]
    by_cases h2:b<a
    ·rw[if_pos h2]
     have:¬ a=b:=by rintro rfl;exact h h2
     simp[Op.bytesLess,h,this]
    ·rw[if_neg h2,ih]
     have:a=b:=by
      refine UInt8.toNat_inj.1 ?_
      simp only[UInt8.lt_iff_toNat_lt] at h h2
      omega
     subst this
     simp[Op.bytesLess,UInt8.lt_irrefl]
theorem mT(s:ByteArray)(k:Nat)(h:k<s.size):s.toList[k]? = some s[k]:=by
 rw[Go.ByteArray.toList_eq]
 show s.data.toList[k]? = some s.data[k]
 simp[h]
theorem aX(s:ByteArray):s.toList.length=s.size:=by
 rw[Go.ByteArray.toList_eq,Array.length_toList];rfl
theorem aFk(x y:List UInt8)(k:Nat)(a b:UInt8)(hx:x[k]? = some a)(hy:y[k]? = some b)(hab:a≠b)(hp:x.take k=y.take k):Op.bytesLess x y=decide (a<b):=by
 induction k generalizing x y with
 | zero =>
  cases x with
  | nil=>simp at hx
  | cons c x=>cases y with
   | nil=>simp at hy
   | cons d y =>
    simp at hx hy
    subst hx hy
    simp[Op.bytesLess,hab]
 | succ k ih =>
  cases x with
  | nil=>simp at hx
  | cons c x=>cases y with
   | nil=>simp at hy
   | cons d y =>
    simp at hx hy hp
    obtain⟨rfl,hp⟩:=hp
    simp[Op.bytesLess,ih x y hx hy hp,UInt8.lt_irrefl]
theorem aAk(x y:List UInt8)(k:Nat)(hp:x.take k=y.take k)(hk:k=x.length\/k=y.length)(hx:k<=x.length)(hy:k<=y.length):Op.bytesLess x y=decide (x.length<y.length):=by
 induction k generalizing x y with
 | zero =>
  cases x with
  | nil=>cases y<;>simp[Op.bytesLess]
  | cons c x=>cases y with
   | nil=>simp[Op.bytesLess]
   | cons d y=>simp at hk
 | succ k ih =>
  cases x with
  | nil=>simp at hx
  | cons c x=>cases y with
   | nil=>simp at hy
   | cons d y =>
    simp at hp hx hy hk
    obtain⟨rfl,hp⟩:=hp
    simp[Op.bytesLess,ih x y hp hk hx hy,UInt8.lt_irrefl]
theorem vZ(a b:ByteArray)(ha:a.size<=9223372036854775807)(hb:b.size<=9223372036854775807)(w:World) :
  Calls Tryz.prog 46 #[.string a,.string b] w λe w'=>e=.returned (.bool (Op.bytesLess a.toList b.toList))/\aC (λ_=>False) w w':=by
 go_in
 go_wp2
 go_loopw [5] (λi wr=>∃ k:Nat,k<=a.size/\k<=b.size/\i=.int .i64 k/\Hid (a.toList.take k=b.toList.take k)/\aC (λ_=>False) w wr) (λi _=>a.size-(intOf i).toNat)
 case atStart=>exact⟨0,qXa _,qXa _,rfl,aB rfl,aC.refl _ _⟩
 case round =>
  obtain⟨k,hka,hkb,rfl,HP,hT⟩:=hrel
  have HT:=aB hT
  clear hT
  by_cases h1:k<a.size
  ·by_cases h2:k<b.size
   ·have i0:(0:Int)<=(k:Int):=by omega
    have i1:(k:Int)<(a.size:Int):=by omega
    have i2:(k:Int)<(b.size:Int):=by omega
    by_cases he:a[k]=b[k]
    ·have hbne:(((a[k]'h1).toNat:Int) != ((b[k]'h2).toNat:Int))=false:=by rw[he];simp
     have HE:=aB he
     clear he
     go_wp2
     go_quiet (fail)
     go_wp2
     go_roundw
     ·refine⟨k+1,by omega,by omega,by simp,aB ?_,HT.drewN _⟩
      rw[List.take_add_one,List.take_add_one,mT _ _ h1,mT _ _ h2,HE.out,HP.out]
     ·show a.size-(k+1)<a.size-k
      omega
    ·have hbne:(((a[k]'h1).toNat:Int) != ((b[k]'h2).toNat:Int))=true:=by
      rw[bne_iff_ne]
      exact λe=>he (UInt8.toNat_inj.1 (by omega))
     have HE:=aB (aFk a.toList b.toList k _ _ (mT _ _ h1) (mT _ _ h2) he HP)
     clear he
     go_wp2
     go_quiet (fail)
     go_wp2
     go_quiet (fail)
     go_wp2
     go_ret
     refine⟨?_,(HT.drewN _).drewN _⟩
     rw[HE.out]
     rfl
   ·have hk:k=b.size:=by omega
    have i0:(0:Int)<=(k:Int):=by omega
    have i1:(k:Int)<(a.size:Int):=by omega
    have i2:¬ (k:Int)<(b.size:Int):=by omega
    have HE:=aB (aAk a.toList b.toList k HP (.inr (by rw[aX];exact hk)) (by rw[aX];exact hka) (by rw[aX];exact hkb))
    clear hk
    go_wp2
    go_ret
    refine⟨?_,HT⟩
    rw[HE.out,aX,aX]
    rfl
  ·have hk:k=a.size:=by omega
   have i1:¬ (k:Int)<(a.size:Int):=by omega
   have HE:=aB (aAk a.toList b.toList k HP (.inl (by rw[aX];exact hk)) (by rw[aX];exact hka) (by rw[aX];exact hkb))
   clear hk
   go_wp2
   go_ret
   refine⟨?_,HT⟩
   rw[HE.out,aX,aX]
   rfl
def aD.Wf(p:aD):Prop:=p.word.size<=9223372036854775807
def lQ(l:List aD):Prop:=l.Pairwise (λa b=>jY a b=true)
theorem aIn(L:List aD)(i:Nat)(hi:i<L.length):L.take (i+1)=L.take i++[L.getD i aD.zero]:=by
 have e:L.getD i aD.zero=L[i]:=by simp[qQa,hi]
 rw[qJi hi,e]
theorem Hk(O:List aD)(k:Nat)(hk:k<O.length):O.getD k aD.zero∈O:=by
 have e:O.getD k aD.zero=O[k]:=by simp[qQa,hk]
 rw[e];exact List.getElem_mem _
structure SL where
 A:Option Addr
 n:Nat
 c:Nat
 L:List aD
instance:Inhabited SL:=⟨⟨none,0,0,[]⟩⟩
def SL.val(s:SL):Value:=.slice s.A s.n s.c
structure SL.Ok(s:SL)(w:World):Prop where
 len:s.L.length=s.n
 reads:aH w 2 s.A s.n (bK s.L)
 nil:s.A=none->s.n=0/\s.c=0
theorem Ch(k:List UInt8)(x:aD)(l:List aD):key k (x :: l)=if x.word.toList=k then x :: key k l else key k l:=by
 by_cases h:x.word.toList=k
 ·simp[key,h]
 ·simp[key,h]
def bC(k:List UInt8)(L:List aD):Int × Bool:=match (key k L).getLast? with | some p=>(p.weight,true) | none=>(0,false)
theorem Lz{L:List aD}(hi:i<L.length)(k:List UInt8)(hk:(L.getD i aD.zero).word.toList=k)(hd:key k (L.drop (i+1))=[]):bC k L=((L.getD i aD.zero).weight,true):=by
 have e2:L.getD i aD.zero=L[i]:=by simp[qQa,hi]
 have e:L=L.take i++(L[i] :: L.drop (i+1)):=by rw[<-qZe hi,List.take_append_drop]
 have e3:key k (L[i] :: L.drop (i+1))=[L[i]]:=by
  rw[Ch,if_pos (by rw[<-e2];exact hk),hd]
 have e4:key k L=key k (L.take i)++[L[i]]:=by
  rw[<-e3,<-lC,<-e]
 unfold bC
 rw[e4,e2]
 simp
theorem Gh{L:List aD}(hi:i<L.length)(k:List UInt8)(hk:¬ (L.getD i aD.zero).word.toList=k)(hd:key k (L.drop (i+1))=[]):key k (L.drop i)=[]:=by
 have e2:L.getD i aD.zero=L[i]:=by simp[qQa,hi]
 rw[qZe hi]
 rw[Ch,if_neg (by rw[<-e2];exact hk),hd]
theorem Hs(w:World)(A:Option Addr)(n c:Nat)(L:List aD)(hL:L.length=n)(hR:aH w 2 A n (bK L))(hn:n<=maxLen)(k:ByteArray) :
  Calls Tryz.prog 160 #[.slice A n c,.string k] w λe w'=>e=.returned (.tuple #[.int .i64 (bC k.toList L).1,.bool (bC k.toList L).2])/\aC (λ_=>False) w w':=by
 unfold maxLen at hn
 have HR:=aB hR
 have HL:=aB hL
 clear hR hL
 have hcn:n=0\/∃ m,n=m+1:=by cases n<;>simp
 have hstart:∃ z:Int,(n:Int)-1=z/\((z = -1/\n=0)\/∃ i:Nat,z=(i:Int)/\n=i+1):=by
  rcases hcn with h | ⟨m,h⟩
  ·exact⟨-1,by omega,.inl ⟨rfl,h⟩⟩
  ·exact⟨(m:Int),by omega,.inr ⟨m,rfl,h⟩⟩
 obtain⟨z,hz,hzz⟩:=hstart
 have hw:IntKind.i64.wrap z=z:=IntWalk.i64_in _ (by omega)
 have HZ:=aB hzz
 clear hcn hzz
 go_in
 go_wp2
 go_loopw [6] (λiv wr=>∃ (z:Int) (q:Nat),iv=.int .i64 z/\q<=n/\Hid ((z = -1/\q=0)\/∃ i:Nat,z=(i:Int)/\q=i+1)/\Hid (key k.toList (L.drop q)=[])/\Hid (aC (λ_=>False) w wr)) (λiv _=>(intOf iv+1).toNat)
 case atStart=>exact⟨z,n,rfl,qJa _,HZ,aB (by rw[List.drop_of_length_le (by rw[HL.out];exact qJa _)];rfl),aB (aC.refl _ _)⟩
 case round =>
  obtain⟨z,q,rfl,hq,HZQ,HD,HT⟩:=hrel
  rcases HZQ.out with⟨rfl,rfl⟩ | ⟨i,rfl,rfl⟩
  ·clear HZQ
   go_wp2
   have hf:bC k.toList L=(0,false):=by
    have:=HD.out
    rw[List.drop_zero] at this
    unfold bC
    rw[this]
    rfl
   rw[hf]
   exact bodyPost_ret (v:=.tuple #[.int .i64 0,.bool false]) (by simp[results,Tryz.results160,go_sem]) rfl ⟨rfl,HT⟩
  ·clear HZQ
   have y0:¬ (i:Int)<0:=by omega
   have y1:(0:Int)<=(i:Int):=by omega
   have y2:i<n:=by omega
   have y3:(i:Int)<(n:Int):=by omega
   obtain⟨g,o,hA,hg,a0,a1⟩:=dN (HR.touch HT (λ_ _ f=>f)) HL.symm i y2
   subst hA
   have hhit:=Lz (L:=L) (i:=i) (by rw[HL.out];exact y2) k.toList
   have hmiss:=Gh (L:=L) (i:=i) (by rw[HL.out];exact y2) k.toList
   obtain⟨⟨xw,xn⟩,hx⟩:∃ x,x=L.getD i aD.zero:=⟨_,rfl⟩
   rw[<-hx] at a0 a1 hhit hmiss
   simp only at a0 a1 hhit hmiss
   have HH:=aB hhit
   have HM:=aB hmiss
   clear hx hhit hmiss
   by_cases hk:xw.toList=k.toList
   ·have q2:(xw.toList == k.toList)=true:=by simp[hk]
    have HK:=aB hk
    go_wp2
    rw[HH.out HK.out HD.out]
    exact bodyPost_ret (v:=.tuple #[.int .i64 xn,.bool true]) (by simp[results,Tryz.results160,go_sem]) rfl ⟨rfl,HT⟩
   ·have q2:(xw.toList == k.toList)=false:=by simp[hk]
    have q3:decide (xw.toList=k.toList)=false:=by simp[hk]
    have HK:=aB hk
    obtain⟨z2,hz2⟩:∃ z2:Int,(i:Int)-1=z2:=⟨_,rfl⟩
    have hw2:IntKind.i64.wrap z2=z2:=IntWalk.i64_in _ (by omega)
    have HZ2:=aB hz2
    go_wp2
    go_roundw
    ·have hz2:=HZ2.out
     refine⟨z2,i,rfl,by omega,aB ?_,aB (HM HK HD),HT⟩
     by_cases hi0:i=0
     ·exact .inl ⟨by omega,hi0⟩
     ·exact .inr ⟨i-1,by omega,by omega⟩
    ·have hz2:=HZ2.out
     show (z2+1).toNat<((i:Int)+1).toNat
     omega
structure aT where
 seq:Int
 code:Int
 sess:Int
 had:Int
deriving DecidableEq
def aT.zero:aT:=⟨0,0,0,0⟩
def aT.cells(r:aT):List Value:=[.int .u64 r.seq,.int .i64 r.code,.int .u64 r.sess,.int .i64 r.had]
def bD(l:List aT):List Value:=l.flatMap aT.cells
def vV(w:World)(p:Nat)(v:Value)(l:List aT):Prop :=
 aL w p 149 #[v]/\w.ownsRow 0 110 4 v l.length (bD l)
theorem Tryz.infoRow:(Tryz.prog.info? 110).map (λi=>(i.zero,i.size,i.bytes))=some (some (.agg #[.int .u64 0,.int .i64 0,.int .u64 0,.int .i64 0]),4,32):=by kernel_rfl
theorem aHs(w:World):Calls Tryz.prog 31 #[] w λe w' =>
  e=.returned (.pointer (some ⟨w.heap.size,0,none⟩))/\vV w' w.heap.size (.slice none 0 0) []/\aC (λ_=>False) w w':=by
 go_in
 go_wp2
 go_ret
 exact⟨rfl,⟨aL.new _ _ _,World.ownsRow_nil _ _ _ _⟩,(aC.refl _ _).alloc _⟩
def iG(l:List aT)(id:Int):Bool:=decide (1<=id) && decide (id<=(l.length:Int))
theorem lL(w:World)(p:Nat)(v:Value)(l:List aT)(h:vV w p v l)(id:Int) :
  Calls Tryz.prog 80 #[.pointer (some ⟨p,0,none⟩),.int .u64 id] w λe w' =>
   e=.returned (.bool (iG l id))/\w=w':=by
 obtain⟨hb,ho⟩:=h
 obtain⟨A,c,hv,_,hc⟩:=aS ho
 have hm:=dR ho
 unfold maxLen at hc hm
 subst hv
 have c0:=hb.cell 0
 simp at c0
 clear ho hb
 go_in
 go_wp2
 ·have h1:1<=id:=by assumption
  go_ret
  exact⟨by simp[iG,h1],rfl⟩
 ·have h1:id<1:=by assumption
  go_ret
  exact⟨by simp[iG,show ¬ 1<=id by omega],rfl⟩
theorem Ik(l:List aT)(id:Int)(h:iG l id=true):∃ k:Nat,id=(k:Int)+1/\k<l.length:=by
 unfold iG at h
 simp at h
 exact⟨(id-1).toNat,by omega,by omega⟩
theorem cQ(l:List aT)(k:Nat)(hk:k<l.length)(j:Nat)(hj:j<4):(bD l)[4*k+j]? = (l[k].cells)[j]? := by
 induction l generalizing k with
 | nil=>simp at hk
 | cons r l ih =>
  have hl:r.cells.length=4:=rfl
  cases k with
  | zero =>
   simp only[bD,qZa,Nat.mul_zero,qQb,qJf]
   rw[qXe (by omega)]
  | succ k =>
   simp only[bD,qZa,qXf]
   rw[qJe (by omega),hl,show 4*(k+1)+j-4=4*k+j by omega]
   exact ih k (by simpa using hk)
theorem Uz{l:List aT}(h:vV w p v l)(k:Nat)(hk:k<l.length) :
  ∃ g cap,v=.slice (some ⟨g,0,none⟩) l.length cap/\l.length<=cap/\cap<=maxLen/\g<w.heap.size/\p<w.heap.size/\p≠g/\w.cell? ⟨p,0,none⟩=some (.slice (some ⟨g,0,none⟩) l.length cap) /\
   w.cell? ⟨g,k*4,none⟩=some (.int .u64 l[k].seq)/\w.cell? ⟨g,k*4+1,none⟩=some (.int .i64 l[k].code) /\
   w.cell? ⟨g,k*4+2,none⟩=some (.int .u64 l[k].sess)/\w.cell? ⟨g,k*4+3,none⟩=some (.int .i64 l[k].had):=by
 obtain⟨hb,ho⟩:=h
 obtain⟨g,cap,rfl,h1,h2,h3,h4,_⟩:=eZ ho (by omega)
 have hc:=hb.cell 0
 simp at hc
 refine⟨g,cap,rfl,h1,h2,h3,hb.lt,?_,hc,?_,?_,?_,?_⟩
 ·rintro rfl
  exact bY ho hb (by decide) rfl
 ·exact h4 _ _ (by have:=cQ l k hk 0 (by omega);rw[show k*4=4*k+0 by omega,this];rfl)
 ·exact h4 _ _ (by have:=cQ l k hk 1 (by omega);rw[show k*4+1=4*k+1 by omega,this];rfl)
 ·exact h4 _ _ (by have:=cQ l k hk 2 (by omega);rw[show k*4+2=4*k+2 by omega,this];rfl)
 ·exact h4 _ _ (by have:=cQ l k hk 3 (by omega);rw[show k*4+3=4*k+3 by omega,this];rfl)
structure nX where
 c:Int
 s:Int
 h:Int
 b:Bool
 e:Int
def nX.val(R:nX):Value:=.tuple #[.agg #[.int .i64 R.c,.int .u64 R.s,.int .i64 R.h],.bool R.b,.int .i64 R.e]
def Ln(t:Bool)(r:aT)(seq:Int):nX :=
 if t=false then ⟨0,0,0,false,150⟩ else if seq=0\/seq<r.seq then ⟨0,0,0,false,151⟩ else if seq=r.seq then ⟨r.code,r.sess,r.had,true,0⟩ else ⟨0,0,0,false,0⟩
def Df(l:List aT)(id:Int):aT:=l.getD (id-1).toNat aT.zero
theorem tI(l:List aT)(k:Nat)(hk:k<l.length):Df l ((k:Int)+1)=l[k]:=by
 unfold Df
 rw[show ((k:Int)+1-1).toNat=k by omega]
 simp[qQa,hk]
theorem Oz(l:List aT)(k:Nat)(hk:k<l.length):iG l ((k:Int)+1)=true:=by
 unfold iG;simp;omega
theorem vV.touch{w':World}{l:List aT}{S:Nat->Prop}(h:vV w p v l)(ht:aC S w w')(hp:¬ S p)(hv:∀ g,v.ownBlock=some g->¬ S g):vV w' p v l :=
 ⟨h.1.touch ht hp,aF h.2 ht hv⟩
theorem vV.alloc{l:List aT}(h:vV w p v l)(o:Obj):vV (w.alloc o) p v l :=
 h.touch (S:=λ_=>False) ((aC.refl _ _).alloc o) (λf=>f) (λ_ _ f=>f)
theorem vV.len{l:List aT}(h:vV w p v l):l.length<=9223372036854775807:=by
 have:=dR h.2
 unfold maxLen at this
 omega
theorem Yy(w:World)(p:Nat)(v:Value)(l:List aT)(h:vV w p v l)(id seq:Int)(R:nX)(hR:Ln (iG l id) (Df l id) seq=R) :
  Calls Tryz.prog 36 #[.pointer (some ⟨p,0,none⟩),.int .u64 id,.int .u64 seq] w λe w' =>
   e=.returned R.val/\aC (λ_=>False) w w':=by
 subst hR
 cases ht:iG l id with
 | false =>
  have H:=aB (show Ln false (Df l id) seq=⟨0,0,0,false,150⟩ from rfl)
  go_in
  go_wp2_with (go_at_call 80;refine (lL _ p v l (h.alloc _) id).mono ?_;rintro e w' ⟨rfl,rfl⟩)
  refine bodyPost_ret (v:=nX.val ⟨0,0,0,false,150⟩) (by simp[results,Tryz.results36,nX.val,go_sem]) rfl ⟨?_,(aC.refl _ _).alloc _⟩
  rw[H.out]
 | true =>
  obtain⟨k,rfl,hk⟩:=Ik l id ht
  have hl:=h.len
  rw[tI l k hk]
  obtain⟨g,cap,rfl,n1,n2,n3,n4,n5,c0,c1,c2,c3,c4⟩:=Uz h k hk
  unfold maxLen at n2
  obtain⟨⟨rs,rc,rr,rh⟩,hr⟩:∃ r,r=l[k]:=⟨_,rfl⟩
  rw[<-hr] at c1 c2 c3 c4 ⊢
  clear hr
  by_cases h0:seq=0
  ·subst h0
   go_in
   go_wp2_with (go_at_call 80;refine (lL _ p _ l (h.alloc _) _).mono ?_;rintro e w' ⟨rfl,rfl⟩)
   refine bodyPost_ret (v:=nX.val ⟨0,0,0,false,151⟩) (by simp[results,Tryz.results36,nX.val,go_sem]) rfl ⟨?_,((aC.refl _ _).alloc _).alloc _⟩
   simp[Ln]
  have b0:(seq == 0)=false:=by simpa using h0
  by_cases h1:seq<rs
  ·go_in
   go_wp2_with (go_at_call 80;refine (lL _ p _ l (h.alloc _) _).mono ?_;rintro e w' ⟨rfl,rfl⟩)
   refine bodyPost_ret (v:=nX.val ⟨0,0,0,false,151⟩) (by simp[results,Tryz.results36,nX.val,go_sem]) rfl ⟨?_,((aC.refl _ _).alloc _).alloc _⟩
   simp[Ln,h1]
  have b1:decide (seq<rs)=false:=by simpa using h1
  by_cases h2:seq=rs
  ·subst h2
   go_in
   go_wp2_with (go_at_call 80;refine (lL _ p _ l (h.alloc _) _).mono ?_;rintro e w' ⟨rfl,rfl⟩)
   refine bodyPost_ret (v:=nX.val ⟨rc,rr,rh,true,0⟩) (by simp[results,Tryz.results36,nX.val,go_sem]) rfl ⟨?_,((aC.refl _ _).alloc _).alloc _⟩
   simp[Ln,h0]
  ·have b2:(seq == rs)=false:=by simpa using h2
   go_in
   go_wp2_with (go_at_call 80;refine (lL _ p _ l (h.alloc _) _).mono ?_;rintro e w' ⟨rfl,rfl⟩)
   refine bodyPost_ret (v:=nX.val ⟨0,0,0,false,0⟩) (by simp[results,Tryz.results36,nX.val,go_sem]) rfl ⟨?_,((aC.refl _ _).alloc _).alloc _⟩
   simp[Ln,h0,h2,show ¬ seq<rs by omega]
def Mf(l:List aT)(id seq:Int):Bool:=iG l id && decide ((Df l id).seq<seq)
theorem vI(l:List aT):(bD l).length=l.length*4:=by
 induction l with
 | nil=>rfl
 | cons r l ih =>
  simp only[bD,qZa,List.length_append,List.length_cons] at ih ⊢
  rw[ih,show r.cells.length=4 from rfl]
  omega
theorem pH(l:List aT)(k:Nat)(hk:k<l.length)(r:aT) :
  ((((bD l).set (k*4) (.int .u64 r.seq)).set (k*4+1) (.int .i64 r.code)).set (k*4+2) (.int .u64 r.sess)).set (k*4+3) (.int .i64 r.had)=bD (l.set k r):=by
 induction l generalizing k with
 | nil=>simp at hk
 | cons q l ih =>
  cases k with
  | zero=>simp[bD,aT.cells]
  | succ k =>
   have:=ih k (by simpa using hk)
   simp only[bD,qZa,qJb] at this ⊢
   rw[<-this]
   simp only[aT.cells,show (k+1)*4=k*4+4 by omega,List.cons_append,qQd,qJb,show ∀ j,k*4+4+j=(k*4+j)+4 by omega]
theorem vV.set{l:List aT}(h:vV w p (.slice (some ⟨g,0,none⟩) l.length cap) l)(k:Nat)(hk:k<l.length)(r:aT) :
  vV ((((w.setCell ⟨g,k*4,none⟩ (.int .u64 r.seq)).setCell ⟨g,k*4+1,none⟩ (.int .i64 r.code)).setCell ⟨g,k*4+2,none⟩ (.int .u64 r.sess)).setCell ⟨g,k*4+3,none⟩ (.int .i64 r.had))
   p (.slice (some ⟨g,0,none⟩) l.length cap) (l.set k r):=by
 obtain⟨hb,ho⟩:=h
 have hpg:p≠g:=by
  rintro rfl
  exact bY ho hb (by decide) rfl
 refine⟨(((hb.far (p:=⟨g,_,none⟩) hpg _).far (p:=⟨g,_,none⟩) hpg _).far (p:=⟨g,_,none⟩) hpg _).far (p:=⟨g,_,none⟩) hpg _,?_⟩
 rw[<-pH l k hk r,List.length_set]
 exact dS (dS (dS (dS ho _ _) _ _) _ _) _ _
def fp(p:Nat)(v:Value):Nat->Prop:=λk=>k=p\/v.ownBlock=some k
theorem Kb(w:World)(p:Nat)(v:Value)(l:List aT)(h:vV w p v l)(id seq:Int)(a:aT)(hk:Mf l id seq=true) :
  Calls Tryz.prog 37 #[.pointer (some ⟨p,0,none⟩),.int .u64 id,.int .u64 seq,.agg #[.int .i64 a.code,.int .u64 a.sess,.int .i64 a.had]] w λe w' =>
   e=.returned (.bool true)/\vV w' p v (l.set (id-1).toNat { a with seq:=seq })/\aC (fp p v) w w':=by
 have ht:iG l id=true:=by unfold Mf at hk;simp at hk;exact hk.1
 obtain⟨k,rfl,hkl⟩:=Ik l id ht
 have hl:=h.len
 unfold Mf at hk
 rw[tI l k hkl,ht] at hk
 simp at hk
 have h1:=h.alloc (.cells #[.int .i64 a.code,.int .u64 a.sess,.int .i64 a.had] 32)
 obtain⟨g,cap,rfl,n1,n2,n3,n4,n5,c0,c1,c2,c3,c4⟩:=Uz h k hkl
 have hf:=(eZ h.2 (by omega))
 obtain⟨g',cap',hv',_,_,_,_,hf⟩:=hf
 injection hv' with hg' _ _
 injection hg' with hg'
 injection hg' with hg'
 subst hg'
 have f0:=hf (k*4)
 have f1:=hf (k*4+1)
 have f2:=hf (k*4+2)
 have f3:=hf (k*4+3)
 clear hf
 unfold maxLen at n2
 obtain⟨⟨rs,rc,rr,rh⟩,hr⟩:∃ r,r=l[k]:=⟨_,rfl⟩
 rw[<-hr] at c1 c2 c3 c4 hk
 clear hr
 simp only at hk
 go_in
 go_wp2_with (go_at_call 80;refine (lL _ p _ l (h.alloc _) _).mono ?_;rintro e w' ⟨rfl,rfl⟩)
 go_region
 all_goals go_wp2
 go_ret
 refine⟨rfl,?_,?_⟩
 ·rw[show ((k:Int)+1-1).toNat=k by omega]
  exact (vV.set h k hkl { a with seq:=seq }).alloc _
 ·have hg:fp p (.slice (some ⟨g,0,none⟩) l.length cap) g:=.inr rfl
  exact ((((((aC.refl _ _).setCell (p:=⟨g,_,none⟩) (λ_=>hg) _).setCell (p:=⟨g,_,none⟩) (λ_=>hg) _).setCell (p:=⟨g,_,none⟩) (λ_=>hg) _).setCell (p:=⟨g,_,none⟩) (λ_=>hg) _).alloc _).drew
theorem aEc(w:World)(p:Nat)(v:Value)(l:List aT)(h:vV w p v l)(hl:l.length=4096) :
  Calls Tryz.prog 33 #[.pointer (some ⟨p,0,none⟩)] w λe w' =>
   e=.returned (.tuple #[.int .u64 0,.int .i64 152])/\w=w':=by
 obtain⟨hb,ho⟩:=h
 obtain⟨A,c,hv,_,hc⟩:=aS ho
 subst hv
 have c0:=hb.cell 0
 simp at c0
 rw[hl] at c0
 clear ho hb
 go_in
 go_wp2
 go_ret2
 exact⟨rfl,rfl⟩
theorem nT(l:List aT)(r:aT):bD (l++[r])=bD l++r.cells:=by simp[bD]
theorem aEe(w:World)(p:Nat)(v:Value)(l:List aT)(h:vV w p v l)(hl:l.length<4096) :
  Calls Tryz.prog 33 #[.pointer (some ⟨p,0,none⟩)] w λe w' =>
   e=.returned (.tuple #[.int .u64 ((l.length:Int)+1),.int .i64 0])/\∃ v',vV w' p v' (l++[aT.zero])/\aC (fp p v) w w'/\cK w v v':=by
 obtain⟨hb,ho⟩:=h
 obtain⟨A,c,hv,_,hc⟩:=aS ho
 have c0:=hb.cell 0
 have f0:=hb.frozen 0
 simp at c0
 have hp:=hb.lt
 have HO:=aB ho
 have HV:=aB hv
 have HB:=aB hb
 rw[hv] at c0
 clear hv ho hb
 obtain⟨i0,hi,hz0,hz1,hz2⟩:=aQ Tryz.infoRow
 go_in
 go_wp2_with (at_builtin;refine aP _ rfl _ _ 106 rfl 110 i0 (.agg #[.int .u64 0,.int .i64 0,.int .u64 0,.int .i64 0]) 4 32 Tryz.underlying106 hi hz0 hz1 hz2 rfl (by decide) _ _ _ rfl (HV ▸ HO.alloc _) (some ⟨w.heap.size,0,none⟩) 1 1 aT.zero.cells rfl ?c1 ?c2 ?c3 ?c4 ?c5 ?_)
 case c1=>exact aH.new _ _ _ _ rfl
 case c2=>exact λh=>by cases h
 case c3=>exact List.all_eq_true.1 rfl
 case c4=>unfold maxLen;omega
 case c5=>omega
 intro v' w1 hown hgrow hfr _
 have hb1:aL w1 p 149 #[v]:=(HB.alloc _).grown hgrow (λe=>bY HO HB (by decide) (by rw[HV.out];exact e.symm))
 have hsz:w.heap.size+1<=w1.heap.size:=by simpa using hgrow.size
 have c1:=hb1.cell 0
 have f1:=hb1.frozen 0
 simp at c1
 have hex:∃ A' c',v'=.slice A' (l.length+1) c':=by
  obtain⟨A',c',h,_⟩:=aS hown
  exact⟨A',c',h⟩
 obtain⟨A',c',hv'⟩:=hex
 have HW:=aB (show l.length+1<=maxLen/\w1.ownsRow 0 110 4 v' (l.length+1) (bD l++aT.zero.cells)/\(w.alloc (.cells aT.zero.cells.toArray 110)).grownBy w1 v.ownBlock/\cK w v v'/\aL w1 p 149 #[v] from⟨by unfold maxLen;omega,hown,by rw[HV.out];exact hgrow,by
  rcases hfr with h | ⟨g,h,hg⟩
  ·exact .inl (by rw[h,HV.out])
  ·exact .inr ⟨g,h,by simp at hg;omega⟩,hb1⟩)
 clear hown hgrow hfr hb1
 have HV':=aB hv'
 rw[hv']
 clear hv'
 go_wp2
 go_ret2
 obtain⟨_,h1,h2,h3,h4⟩:=HW.out
 refine⟨rfl,v',⟨?_,?_⟩,?_,h3⟩
 ·rw[HV'.out]
  exact h4.set_ 0 _
 ·rw[nT]
  have:=cO (a:=⟨p,0,none⟩) h1 (bY h1 h4 (by decide)) (.slice A' (l.length+1) c')
  simpa using this
 ·exact (((aC.refl _ _).alloc _).app h2 (λg hg _=>.inr hg)).setCell (p:=⟨p,0,none⟩) (λ_=>.inl rfl) _
theorem vM(l:List aT):∀ u∈bD l,u.oneCell'=true:=by
 intro u hu
 simp only[bD,List.mem_flatMap] at hu
 obtain⟨r,_,hu⟩:=hu
 simp only[aT.cells,qJc,List.not_mem_nil,or_false] at hu
 rcases hu with rfl | rfl | rfl | rfl<;>rfl
theorem Do(w:World)(A:Option Addr)(n c:Nat)(l:List aT)(hl:n=l.length)(hr:aH w 4 A n (bD l))(hA:A=none->n=0/\c=0)(hn:n*32<=140737488355328) :
  Calls Tryz.prog 112 #[.slice A n c] w λe w' =>
   ∃ v',e=.returned v'/\w'.ownsRow 0 110 4 v' n (bD l)/\aC (λ_=>False) w w'/\∀ g,v'.ownBlock=some g->w.heap.size<=g:=by
 have q47:∀ (w:World) (a:Option Addr) (n c n' c':Nat),(binOp .eql 106 (.slice a n c) (.slice none n' c')).run Tryz.prog w=.ok (.bool a.isNone) w:=λw a n c n' c'=>Lib.run_eql_slice_nil w _ _ a n c n' c' Tryz.underlying106
 obtain⟨i0,hi,hz0,hz1,hz2⟩:=aQ Tryz.infoRow
 cases A with
 | none =>
  obtain⟨rfl,rfl⟩:=hA rfl
  have h0:l=[]:=qZb hl.symm
  subst h0
  clear hr hA hn hl
  go_in
  go_wp2
  go_ret
  exact⟨_,rfl,World.ownsRow_nil _ _ _ _,aC.refl _ _,λg hg=>by cases hg⟩
 | some ad =>
  have HR:=aB hr
  have HL:=aB hl
  clear hr hl hA
  go_in
  go_wp2_with (at_builtin;refine aP _ rfl _ _ 106 rfl 110 i0 (.agg #[.int .u64 0,.int .i64 0,.int .u64 0,.int .i64 0]) 4 32 Tryz.underlying106 hi hz0 hz1 hz2 rfl (by decide) _ 0 [] rfl (World.ownsRow_made _ #[] 0 (qXa _) (by decide) rfl) (some ad) n c (bD l) rfl (HR.alloc _) ?c2 (vM l) ?c4 ?c5 ?_)
  case c2=>exact λh=>by cases h
  case c4=>unfold maxLen;omega
  case c5=>omega
  intro v' w1 hown hgrow hfr _
  have HW:=aB (show w1.ownsRow 0 110 4 v' n (bD l)/\aC (λ_=>False) w w1/\∀ g,v'.ownBlock=some g->w.heap.size<=g from⟨by simpa using hown,((aC.refl _ _).alloc _).grown hgrow (λk hk hlt=>by simp[Value.ownBlock] at hk;omega),λg hg=>by
   rcases hfr with h | ⟨g',h,hg'⟩
   ·rw[h] at hg;simp[Value.ownBlock] at hg;omega
   ·rw[h] at hg;simp at hg hg';omega⟩)
  clear hown hgrow hfr
  go_wp2
  go_ret
  obtain⟨h1,h2,h3⟩:=HW.out
  exact⟨_,rfl,h1,h2,h3⟩
theorem kM{base:Nat}{size:Nat}{A:Option Addr}{xs:List Value}(h:w.ownsRow base e size (.slice A n c) n xs):A=none->n=0/\c=0:=by
 rintro rfl
 rcases h.2 with⟨h1,rfl⟩ | ⟨g,cap,cur,h1,_⟩
 ·injection h1 with _ _ h3
  exact⟨rfl,h3⟩
 ·injection h1 with h1 _ _
  cases h1
theorem aEf(w:World)(p:Nat)(v:Value)(l:List aT)(h:vV w p v l)(hn:l.length<=4096) :
  Calls Tryz.prog 50 #[.pointer (some ⟨p,0,none⟩)] w λe w' =>
   ∃ v',e=.returned v'/\w'.ownsRow 0 110 4 v' l.length (bD l)/\aC (λ_=>False) w w'/\∀ g,v'.ownBlock=some g->w.heap.size<=g:=by
 obtain⟨hb,ho⟩:=h
 obtain⟨A,c,hv,_,hc⟩:=aS ho
 subst hv
 have c0:=hb.cell 0
 simp at c0
 have H:=aB ho
 clear ho hb
 go_in
 go_wp2_with (go_at_call 112;refine (Do w A l.length c l rfl (aH.of_own H) (kM H) (by omega)).mono ?_;rintro e w' ⟨v',rfl,hown⟩;have H2:=aB hown;clear hown)
 go_ret
 exact⟨_,rfl,H2⟩
theorem Fi{P:Program}(w:World){ops:Array Oper}{rest:List Oper}{o:Oper}{a:Act}{Q:Exit->Act->World->Prop}
  (hg:o.guard=none)(x:Operand)(t:TypeId)(hop:o.op=Op.call { callee:=Callee.builtin Builtin.clear,args:=#[x],argTypes:=#[t] })
  (e:TypeId)(z:Value)(size:Nat)(h1:P.underlying t=some (.slice e))(hv:∀ w,(zeroValue e).run P w=.ok z w)(h6:z.cells.size=size)(hone:∀ u∈z.cells.toList,u.oneCell'=true)
  (v:Value)(n:Nat)(xs:List Value)(hs:a.eval x=v)(hown:w.ownsRow 0 e size v n xs)
  (hK:∀ w',w.grownBy w' v.ownBlock->wpList P ops Q rest (a.put o.dst (.tuple #[])) w') :
  wpList P ops Q (o :: rest) a w:=by
 refine wpList_plain hg λK hK'=>?_
 have main:∃ w',(Builtin.clear_ #[t] o.type #[v]).run P w=.ok (.tuple #[]) w'/\w.grownBy w' v.ownBlock:=by
  rcases hown.2 with⟨rfl,rfl⟩ | ⟨g,cap,cur,rfl,_,hgg,hnc,hcm,hcs,ht⟩
  ·exact⟨w,by simp[Builtin.clear_,run_underlying h1],World.grownBy.refl _ _⟩
  ·cases n with
   | zero=>exact⟨w,by simp[Builtin.clear_,run_underlying h1],World.grownBy.refl _ _⟩
   | succ n =>
    have hfit:0+(Builtin.zeroCells z.cells (n+1)).toList.length<=cur.size:=by
     rw[Array.length_toList,size_zeroCells,h6,hcs,qQb]
     exact Nat.mul_le_mul_right _ hnc
    have hst:=run_storeCells_at P g 0 e (Builtin.zeroCells z.cells (n+1)).toList 0 cur w hgg (by simpa using hfit) (by
     intro u hu
     have hu':u∈Builtin.zeroCells z.cells (n+1):=Array.mem_toList_iff.1 hu
     unfold Builtin.zeroCells at hu'
     simp only[Array.mem_map,Array.mem_range] at hu'
     obtain⟨k,hk,rfl⟩:=hu'
     have hpos:0<z.cells.size:=by
      rcases Nat.eq_zero_or_pos z.cells.size with h | h
      ·rw[h] at hk;omega
      ·exact h
     rw[getElem!_pos z.cells _ (Nat.mod_lt _ hpos)]
     exact hone _ (Array.mem_toList_iff.2 (Array.getElem_mem _)))
    obtain⟨X,hX⟩:∃ X,(storeCells ⟨g,0,none⟩ (Builtin.zeroCells z.cells (n+1)).toList).run P w=.ok () (w.setRow g X):=⟨_,hst⟩
    refine⟨w.setRow g X,by simp[Builtin.clear_,run_underlying h1,hv,hX],⟨rfl,rfl,rfl,by simp,λk _ hk=>setRow_other w g k _ (λe=>hk (by simp[Value.ownBlock,e]))⟩⟩
 obtain⟨w',r1,r2⟩:=main
 unfold Oper.wp
 simp[execOp,hop,resolve,invoke,builtin,hs,r1,Result.andThen]
 exact hK' _ _ (hK w' r2)
theorem Tryz.zeroRow(w:World):(zeroValue 110).run Tryz.prog w=.ok (.agg #[.int .u64 0,.int .i64 0,.int .u64 0,.int .i64 0]) w:=by kernel_rfl
def fL(r:aT):Bool:=!(r.seq == 0) || (r == aT.zero)
theorem aHe{A:Option Addr}{l:List aT}(h:w.ownsRow 0 110 4 (.slice A n c) n (bD l))(hl:n=l.length)(k:Nat)(hk:k<n) :
  ∃ g,A=some ⟨g,0,none⟩/\g<w.heap.size/\w.cell? ⟨g,k*4,none⟩=some (.int .u64 (l.getD k aT.zero).seq)/\w.cell? ⟨g,k*4+1,none⟩=some (.int .i64 (l.getD k aT.zero).code) /\
   w.cell? ⟨g,k*4+2,none⟩=some (.int .u64 (l.getD k aT.zero).sess)/\w.cell? ⟨g,k*4+3,none⟩=some (.int .i64 (l.getD k aT.zero).had):=by
 obtain⟨g,cap,hv,_,_,hg,hc,_⟩:=eZ h (by omega)
 injection hv with hA' _ _
 have hk':k<l.length:=by omega
 have e:l.getD k aT.zero=l[k]:=by simp[qQa,hk']
 rw[e]
 refine⟨g,hA',hg,?_,?_,?_,?_⟩
 ·exact hc _ _ (by have:=cQ l k hk' 0 (by omega);rw[show k*4=4*k+0 by omega,this];rfl)
 ·exact hc _ _ (by have:=cQ l k hk' 1 (by omega);rw[show k*4+1=4*k+1 by omega,this];rfl)
 ·exact hc _ _ (by have:=cQ l k hk' 2 (by omega);rw[show k*4+2=4*k+2 by omega,this];rfl)
 ·exact hc _ _ (by have:=cQ l k hk' 3 (by omega);rw[show k*4+3=4*k+3 by omega,this];rfl)
theorem Hz(l:List aT)(k:Nat)(hk:k<l.length)(h:(l.take k).all fL=true)(hg:fL (l.getD k aT.zero)=true):(l.take (k+1)).all fL=true:=by
 have e:l.getD k aT.zero=l[k]:=by simp[qQa,hk]
 rw[e] at hg
 rw[qJi hk,List.all_append,h]
 simpa using hg
theorem aGu(l:List aT)(k:Nat)(hk:k<l.length)(hg:fL (l.getD k aT.zero)=false):l.all fL=false:=by
 have e:l.getD k aT.zero=l[k]:=by simp[qQa,hk]
 rw[e] at hg
 rw[List.all_eq_false]
 exact⟨l[k],List.getElem_mem _,by simp[hg]⟩
theorem aEd(w:World)(A:Option Addr)(n c:Nat)(l:List aT)(hl:n=l.length)(hr:aH w 4 A n (bD l))(hA:A=none->n=0/\c=0)(hn:n<=4096) :
  Calls Tryz.prog 58 #[.slice A n c] w λe w' =>
   aC (λ_=>False) w w' /\
   ((l.all fL=false/\e=.returned (.tuple #[.pointer none,.bool false])) \/
    (l.all fL=true/\∃ q v',e=.returned (.tuple #[.pointer (some ⟨q,0,none⟩),.bool true])/\vV w' q v' l/\w.heap.size<=q/\∀ g,v'.ownBlock=some g->w.heap.size<=g)):=by
 have HR:=aB hr
 have HL:=aB hl
 have HA:=aB hA
 clear hr hl hA
 go_in
 go_wp2_with (go_at_call 112;refine (Do w A n c l HL HR HA (by omega)).mono ?_;rintro e w' ⟨v',rfl,hown⟩;have H2:=aB hown;obtain⟨A',c',hv',_⟩:=aS hown.1;clear hown;subst hv')
 obtain⟨h1,h2,h3⟩:=H2.out
 have HL':=HL.out
 clear H2 HR HL HA
 go_loopw [13] (λi wr=>∃ k:Nat,k<=n/\i=.int .i64 k/\(l.take k).all fL=true/\aC (λ_=>False) w wr/\wr.ownsRow 0 110 4 (.slice A' n c') n (bD l))
  (λi _=>n-(intOf i).toNat)
 case atStart=>exact⟨0,qXa _,rfl,rfl,h2,h1⟩
 case round =>
  obtain⟨k,hk,rfl,hall,ht,hown⟩:=hrel
  by_cases hkn:k<n
  ·have hown':=aB hown
   obtain⟨g,hA',hg,c0,c1,c2,c3⟩:=aHe hown HL' k hkn
   subst hA'
   clear hown
   have HALL:=aB hall
   have HT:=aB ht
   have HL2:=aB HL'
   clear hall ht
   have H2':=aB (And.intro h2 h3)
   clear h1 h2 h3 HL'
   obtain⟨r,hr⟩:=eX (l.getD k aT.zero)
   rw[<-hr] at c0 c1 c2 c3
   have HR:=aB hr
   clear hr
   obtain⟨rs,rc,rr,rh⟩:=r
   simp only at c0 c1 c2 c3
   by_cases h0:rs=0
   ·subst h0
    have HO2:=aB (hown'.out.alloc (.cells #[.int .u64 0,.int .i64 rc,.int .u64 rr,.int .i64 rh] 110))
    go_wp2_with (with_reducible refine Fi _ rfl (.tmp 25) 106 rfl 110 (.agg #[.int .u64 0,.int .i64 0,.int .u64 0,.int .i64 0]) 4 Tryz.underlying106 Tryz.zeroRow rfl (List.all_eq_true.1 rfl) (.slice (some ⟨g,0,none⟩) n c') n (bD l) rfl (hown'.out.alloc _) ?_)
    ·have e1:rc=0:=by assumption
     have e2:rr=0:=by assumption
     have e3:rh=0:=by assumption
     go_roundw
     case rel=>exact⟨k+1,by omega,by go_num,Hz l k (by have:=HL2.out;omega) HALL (by rw[<-HR.out,e1,e2,e3];rfl),HT.alloc _,hown'.out.alloc _⟩
     case measure=>simp[intOf];omega
    all_goals
     intro w1 hgrow
     have HG:=aB hgrow
     clear hgrow
     go_wp2
     go_ret2
     refine⟨(HT.alloc _).app HG (λg' hg' hlt=>by have:=H2'.2 g' hg';omega),.inl ⟨aGu l k (by have:=HL2.out;omega) ?_,rfl⟩⟩
     rw[<-HR.out]
     simp[fL,aT.zero]
     intros
     simp_all
   ·have b0:(rs == 0)=false:=by simpa using h0
    go_wp2
    go_roundw
    case rel=>exact⟨k+1,by omega,by go_num,Hz l k (by have:=HL2.out;omega) HALL (by rw[<-HR.out];simp[fL,h0]),HT.alloc _,hown'.out.alloc _⟩
    case measure=>simp[intOf];omega
  ·have hown':=aB hown
   have HALL:=aB hall
   have HT:=aB ht
   have H2':=aB (And.intro h1 (And.intro h2 h3))
   have HL2:=aB HL'
   clear hall ht h1 h2 h3 HL' hown
   go_wp2
   go_ret2
   refine⟨HT.alloc _,.inr ⟨?_,_,_,rfl,⟨aL.new _ _ _,?_⟩,HT.size,H2'.2.2⟩⟩
   ·have:=HALL.out
    rwa [List.take_of_length_le (by have:=HL2.out;omega)] at this
   ·have:=hown'.out.alloc (.cells #[.slice A' n c'] 149)
    rw[<-HL2.out]
    exact this
structure aE where
 word:ByteArray
 weight:Int
 dist:Int
theorem aE.ext'{a b:aE}(h1:a.word=b.word)(h2:a.weight=b.weight)(h3:a.dist=b.dist):a=b:=by
 cases a;cases b;simp_all
def aE.zero:aE:=⟨ByteArray.empty,0,0⟩
instance:Inhabited aE:=⟨aE.zero⟩
def aE.cells(r:aE):List Value:=[.string r.word,.int .i64 r.weight,.int .i64 r.dist]
def aW(l:List aE):List Value:=l.flatMap aE.cells
def cD(a b:aE):Bool :=
 if a.dist=b.dist then (if a.weight=b.weight then Op.bytesLess a.word.toList b.word.toList else decide (b.weight<a.weight)) else decide (a.dist<b.dist)
theorem sC(a:aE):cD a a=false:=by simp[cD,iL]
theorem uD(a b:aE)(h:a≠b):cD a b=true\/cD b a=true:=by
 unfold cD
 by_cases h1:a.dist=b.dist
 ·rw[if_pos h1,if_pos h1.symm]
  by_cases h2:a.weight=b.weight
  ·rw[if_pos h2,if_pos h2.symm]
   exact lS _ _ (λe=>h (aE.ext' (pN e) h2 h1))
  ·rw[if_neg h2,if_neg (λe=>h2 e.symm)]
   simp;omega
 ·rw[if_neg h1,if_neg (λe=>h1 e.symm)]
  simp;omega
theorem uE(a b c:aE)(h:cD a b=true)(k:cD b c=true):cD a c=true:=by
 unfold cD at *
 split at h<;>split at k
 ·rename_i h1 k1
  rw[if_pos (h1.trans k1)]
  split at h<;>split at k
  ·rename_i h2 k2
   rw[if_pos (h2.trans k2)]
   exact kC _ _ _ h k
  ·rename_i h2 k2
   rw[if_neg (by omega)]
   simp at k ⊢;omega
  ·rename_i h2 k2
   rw[if_neg (by omega)]
   simp at h ⊢;omega
  ·simp at h k
   rw[if_neg (by omega)]
   simp;omega
 ·rename_i h1 k1
  rw[if_neg (by omega)]
  simp at k ⊢;omega
 ·rename_i h1 k1
  rw[if_neg (by omega)]
  simp at h ⊢;omega
 ·simp at h k
  rw[if_neg (by omega)]
  simp;omega
def Ak(a b:aE):Prop:=cD a b=false
theorem vS(a:aE):Ak a a:=sC a
theorem jG{a b:aE}(h:cD a b=true):Ak b a:=by
 unfold Ak
 cases hb:cD b a with
 | false=>rfl
 | true =>
  have:=uE _ _ _ h hb
  rw[sC] at this
  cases this
theorem lP{a b c:aE}(h:Ak a b)(k:Ak b c):Ak a c:=by
 unfold Ak at *
 cases hac:cD a c with
 | false=>rfl
 | true =>
  by_cases hab:a=b
  ·subst hab;rw[hac] at k;cases k
  ·rcases uD a b hab with e | e
   ·rw[h] at e;cases e
   ·have:=uE _ _ _ e hac
    rw[k] at this;cases this
theorem Kl{a b:aE}(h:Ak a b)(k:Ak b a):a=b:=by
 by_cases e:a=b
 ·exact e
 ·rcases uD a b e with x | x
  ·rw[h] at x;cases x
  ·rw[k] at x;cases x
def Vm(l:List aE):Prop:=l.Pairwise λa b=>Ak b a
def nW(m:aE):List aE->List aE
 | []=>[m]
 | x :: l=>if cD m x=true then m :: x :: l else x :: nW m l
theorem uO(m:aE)(l:List aE):(nW m l).Perm (m :: l):=by
 induction l with
 | nil=>exact List.Perm.refl _
 | cons x l ih =>
  unfold nW
  split
  ·exact List.Perm.refl _
  ·exact (List.Perm.cons x ih).trans (List.Perm.swap m x l)
theorem Ui(m:aE)(l:List aE):(nW m l).length=l.length+1:=by rw[(uO m l).length_eq];rfl
theorem Uj(m:aE)(l:List aE)(h:Vm l):Vm (nW m l):=by
 induction l with
 | nil=>exact List.pairwise_cons.2 ⟨by simp,List.Pairwise.nil⟩
 | cons x l ih =>
  obtain⟨h1,h2⟩:=List.pairwise_cons.1 h
  unfold nW
  split
  ·rename_i hb
   refine List.pairwise_cons.2 ⟨λy hy=>?_,h⟩
   rcases List.mem_cons.1 hy with rfl | hy
   ·exact jG hb
   ·exact lP (h1 y hy) (jG hb)
  ·rename_i hb
   refine List.pairwise_cons.2 ⟨λy hy=>?_,ih h2⟩
   rcases List.mem_cons.1 ((uO m l).mem_iff.1 hy) with rfl | hy
   ·simpa [Ak] using hb
   ·exact h1 y hy
def zB(l:List aE):List aE:=l.foldl (λout m=>nW m out) []
theorem So(l:List aE)(m:aE):zB (l++[m])=nW m (zB l):=by simp[zB,List.foldl_append]
theorem Sn(l:List aE):Vm (zB l)/\(zB l).Perm l:=by
 have:∀ (r l:List aE),Vm l->Vm (r.foldl (λout m=>nW m out) l)/\(r.foldl (λout m=>nW m out) l).Perm (l++r):=by
  intro r
  induction r with
  | nil=>intro l h;exact⟨h,by simp⟩
  | cons m r ih =>
   intro l h
   obtain⟨h1,h2⟩:=ih (nW m l) (Uj m l h)
   refine⟨h1,h2.trans ?_⟩
   exact ((uO m l).append_right r).trans List.perm_middle.symm
 have h:=this l [] List.Pairwise.nil
 refine⟨h.1,?_⟩
 have h2:=h.2
 rw[qQd] at h2
 exact h2
theorem aCc(m:aE)(l:List aE)(k:Nat):(nW m (l.take k)).take k=(nW m l).take k:=by
 induction l generalizing k with
 | nil=>simp
 | cons x l ih =>
  cases k with
  | zero=>simp
  | succ k =>
   simp only[qXd,nW]
   split
   ·cases k with
    | zero=>simp
    | succ k=>simp[List.take_take]
   ·simp only[qXd]
    rw[ih]
def gU(l:List aE)(k:Nat):List aE:=(zB l).take k
theorem Qa(l:List aE)(m:aE)(k:Nat):gU (l++[m]) k=(nW m (gU l k)).take k:=by
 unfold gU
 rw[So,aCc]
def pL(X:List aE)(i j:Nat):List aE:=(X.set i (X.getD j aE.zero)).set j (X.getD i aE.zero)
theorem dC(X:List aE)(i j:Nat):(pL X i j).length=X.length:=by simp[pL]
theorem gX(X:List aE)(i j c:Nat)(hi:i<X.length)(hj:j<X.length):(pL X i j).getD c aE.zero=if c=i then X.getD j aE.zero else if c=j then X.getD i aE.zero else X.getD c aE.zero:=by
 unfold pL
 simp only[List.getD_eq_getElem?_getD,List.getElem?_set]
 by_cases h1:c=i
 ·subst h1
  by_cases h2:j=c
  ·subst h2;simp[hi]
  ·simp[h2,hi]
 ·by_cases h2:c=j
  ·subst h2;simp[h1,hj]
  ·simp[h1,h2,Ne.symm h1,Ne.symm h2]
theorem vQ(X:List aE)(i j:Nat)(hi:i<X.length)(hj:j<X.length):(pL X i j).Perm X:=by
 unfold pL
 have e1:X.getD j aE.zero=X[j]:=by simp[qQa,hj]
 have e2:X.getD i aE.zero=X[i]:=by simp[qQa,hi]
 rw[e1,e2]
 exact List.set_set_perm hi hj
def rU(X:List aE)(n:Nat):Prop:=∀ c,0<c->c<n->Ak (X.getD ((c-1) / 2) aE.zero) (X.getD c aE.zero)
theorem aBu{X:List aE}(h:rU X n):∀ c,c<n->Ak (X.getD 0 aE.zero) (X.getD c aE.zero):=by
 intro c
 induction c using Nat.strongRecOn with
 | _ c ih =>
  intro hc
  by_cases h0:c=0
  ·subst h0;exact vS _
  ·exact lP (ih ((c-1) / 2) (by omega) (by omega)) (h c (by omega) hc)
def Th:Nat->List aE->Nat->List aE
 | 0,X,_=>X
 | f+1,X,j=>if j=0 then X else if cD (X.getD ((j-1) / 2) aE.zero) (X.getD j aE.zero)=true then Th f (pL X ((j-1) / 2) j) ((j-1) / 2) else X
theorem aEt(f:Nat):∀ (X:List aE) (j:Nat),j<X.length->j<=f ->
  (∀ c,0<c->c<X.length->c≠j->Ak (X.getD ((c-1) / 2) aE.zero) (X.getD c aE.zero)) ->
  (0<j->∀ c,0<c->c<X.length->(c-1) / 2=j->Ak (X.getD ((j-1) / 2) aE.zero) (X.getD c aE.zero)) ->
  (Th f X j).Perm X/\rU (Th f X j) X.length/\(Th f X j).length=X.length:=by
 induction f with
 | zero =>
  intro X j hj hf h1 h2
  have:j=0:=by omega
  subst this
  exact⟨List.Perm.refl _,λc h0 hc=>h1 c h0 hc (by omega),rfl⟩
 | succ f ih =>
  intro X j hj hf h1 h2
  unfold Th
  by_cases h0:j=0
  ·rw[if_pos h0]
   subst h0
   exact⟨List.Perm.refl _,λc h0 hc=>h1 c h0 hc (by omega),rfl⟩
  ·rw[if_neg h0]
   by_cases hb:cD (X.getD ((j-1) / 2) aE.zero) (X.getD j aE.zero)=true
   ·rw[if_pos hb]
    have hi:(j-1) / 2<X.length:=by omega
    have hw:Ak (X.getD j aE.zero) (X.getD ((j-1) / 2) aE.zero):=jG hb
    obtain⟨i,hie⟩:=eX ((j-1) / 2)
    rw[<-hie] at hb hi hw h2 ⊢
    have hij:i≠j:=by omega
    have key:=ih (pL X i j) i (by rw[dC];exact hi) (by omega) ?_ ?_
    ·rw[dC] at key
     exact⟨key.1.trans (vQ X i j hi hj),key.2.1,key.2.2⟩
    ·intro c hc0 hc hci
     rw[dC] at hc
     rw[gX X i j _ hi hj,gX X i j _ hi hj,if_neg hci]
     by_cases hcj:c=j
     ·subst hcj
      rw[if_pos hie.symm,if_pos rfl]
      exact hw
     ·rw[if_neg hcj]
      by_cases hp:(c-1) / 2=i
      ·rw[if_pos hp]
       have:=h1 c hc0 hc hcj
       rw[hp] at this
       exact lP hw this
      ·rw[if_neg hp]
       by_cases hp2:(c-1) / 2=j
       ·rw[if_pos hp2]
        exact h2 (by omega) c hc0 hc hp2
       ·rw[if_neg hp2]
        exact h1 c hc0 hc hcj
    ·intro hi0 c hc0 hc hpc
     rw[dC] at hc
     have hgi:(i-1) / 2≠i:=by omega
     have hgj:(i-1) / 2≠j:=by omega
     rw[gX X i j _ hi hj,gX X i j _ hi hj,if_neg hgi,if_neg hgj,if_neg (by omega)]
     have hii:=h1 i hi0 hi hij
     by_cases hcj:c=j
     ·subst hcj
      rw[if_pos rfl]
      exact hii
     ·rw[if_neg hcj]
      have:=h1 c hc0 hc hcj
      rw[hpc] at this
      exact lP hii this
   ·rw[if_neg hb]
    refine⟨List.Perm.refl _,λc h0' hc=>?_,rfl⟩
    by_cases hcj:c=j
    ·subst hcj
     simpa [Ak] using hb
    ·exact h1 c h0' hc hcj
def Ci(X:List aE)(i n:Nat):Nat :=
 if 2*i+2<n/\cD (X.getD (2*i+1) aE.zero) (X.getD (2*i+2) aE.zero)=true then 2*i+2 else 2*i+1
def fE:Nat->List aE->Nat->Nat->List aE
 | 0,X,_,_=>X
 | f+1,X,i,n=>if n<=2*i+1 then X else if cD (X.getD i aE.zero) (X.getD (Ci X i n) aE.zero)=true then fE f (pL X i (Ci X i n)) (Ci X i n) n else X
theorem Qk(f:Nat):∀ (X:List aE) (i n:Nat),i<n->n<=X.length->n<=f+i ->
  (∀ c,0<c->c<n->(c-1) / 2≠i->Ak (X.getD ((c-1) / 2) aE.zero) (X.getD c aE.zero)) ->
  (0<i->∀ c,0<c->c<n->(c-1) / 2=i->Ak (X.getD ((i-1) / 2) aE.zero) (X.getD c aE.zero)) ->
  (fE f X i n).Perm X/\rU (fE f X i n) n/\(fE f X i n).length=X.length/\∀ c,n<=c->(fE f X i n).getD c aE.zero=X.getD c aE.zero:=by
 induction f with
 | zero=>intro X i n hi _ hf;omega
 | succ f ih =>
  intro X i n hi hn hf h1 h2
  unfold fE
  by_cases h0:n<=2*i+1
  ·rw[if_pos h0]
   exact⟨List.Perm.refl _,λc hc0 hc=>h1 c hc0 hc (by omega),rfl,λ_ _=>rfl⟩
  ·rw[if_neg h0]
   have hk:(Ci X i n=2*i+1\/Ci X i n=2*i+2)/\Ci X i n<n:=by
    unfold Ci;split
    ·rename_i h;exact⟨.inr rfl,h.1⟩
    ·exact⟨.inl rfl,by omega⟩
   have hkw:∀ c,0<c->c<n->(c-1) / 2=i->Ak (X.getD (Ci X i n) aE.zero) (X.getD c aE.zero):=by
    intro c hc0 hc hp
    have:c=2*i+1\/c=2*i+2:=by omega
    unfold Ci
    split
    ·rename_i h
     rcases this with e | e
     ·subst e;exact jG h.2
     ·subst e;exact vS _
    ·rename_i h
     rcases this with e | e
     ·subst e;exact vS _
     ·subst e
      cases hb:cD (X.getD (2*i+1) aE.zero) (X.getD (2*i+2) aE.zero) with
      | false=>exact hb
      | true=>exact absurd ⟨hc,hb⟩ h
   by_cases hb:cD (X.getD i aE.zero) (X.getD (Ci X i n) aE.zero)=true
   ·rw[if_pos hb]
    have hw:Ak (X.getD (Ci X i n) aE.zero) (X.getD i aE.zero):=jG hb
    obtain⟨j,hj⟩:=eX (Ci X i n)
    rw[<-hj] at hb hk hkw hw ⊢
    have hil:i<X.length:=by omega
    have hjl:j<X.length:=by omega
    have hji:j≠i:=by omega
    have hpj:(j-1) / 2=i:=by omega
    have key:=ih (pL X i j) j n hk.2 (by rw[dC];exact hn) (by omega) ?_ ?_
    ·rw[dC] at key
     refine⟨key.1.trans (vQ X i j hil hjl),key.2.1,key.2.2.1,λc hc=>?_⟩
     rw[key.2.2.2 c hc,gX X i j c hil hjl,if_neg (by omega),if_neg (by omega)]
    ·intro c hc0 hc hcp
     rw[gX X i j _ hil hjl,gX X i j _ hil hjl]
     by_cases hci:c=i
     ·subst hci
      rw[if_pos rfl,if_neg (by omega),if_neg (by omega)]
      exact h2 hc0 j (by omega) hk.2 hpj
     ·rw[if_neg hci]
      by_cases hcj:c=j
      ·subst hcj
       rw[if_pos rfl,if_pos hpj]
       exact hw
      ·rw[if_neg hcj,if_neg hcp]
       by_cases hpi:(c-1) / 2=i
       ·rw[if_pos hpi]
        exact hkw c hc0 hc hpi
       ·rw[if_neg hpi]
        exact h1 c hc0 hc hpi
    ·intro _ c hc0 hc hcp
     rw[hpj,gX X i j _ hil hjl,gX X i j _ hil hjl,if_pos rfl,if_neg (by omega),if_neg (by omega)]
     have:=h1 c hc0 hc (by omega)
     rwa [hcp] at this
   ·rw[if_neg hb]
    refine⟨List.Perm.refl _,λc hc0 hc=>?_,rfl,λ_ _=>rfl⟩
    by_cases hp:(c-1) / 2=i
    ·rw[hp]
     refine lP ?_ (hkw c hc0 hc hp)
     simpa [Ak] using hb
    ·exact h1 c hc0 hc hp
end Go.Proofs.YthockgmbooefpaaGreatDoor
