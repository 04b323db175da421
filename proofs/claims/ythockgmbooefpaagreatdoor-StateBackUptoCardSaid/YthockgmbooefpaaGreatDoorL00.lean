/- What the law rests on, part 0. No condition but those that each theorem names. -/
import Derived.WalkKit
import Derived.WalkSpells
import Derived.WalkLawsBesides
import Derived.ProofKit
import Derived.OpenShut
import Derived.ShutString
import Derived.ChangeOld
import Derived.Deep.Slices
import Derived.Deep.Fields
import Derived.Test.YthockgmbooefpaaGreatDoorRows
import Derived.BigQuiet
import Derived.Lib.Bytealg
import Derived.StillTailTactics
import Derived.Deep.QuietTactic
set_option linter.unusedSectionVars false
set_option linter.unusedSimpArgs false
set_option linter.unusedVariables false
set_option maxRecDepth 100000
set_option maxHeartbeats 1000000
namespace Go.Proofs.YthockgmbooefpaaGreatDoor
open Go.RowKit
structure Touch (S:Nat→Prop) (w w':World):Prop where
 os:w'.os=w.os
 tape:w'.tape=w.tape
 output:w'.output=w.output
 size:w.heap.size≤w'.heap.size
 block:∀ k,k<w.heap.size→¬ S k→w'.heap[k]? = w.heap[k]?
section
variable {w w' w1 w2:World} {S T:Nat→Prop}
theorem Touch.refl (S:Nat→Prop) (w:World):Touch S w w:=⟨rfl,rfl,rfl,Nat.le_refl _,fun _ _ _=>rfl⟩
theorem Touch.trans (h:Touch S w w1) (k:Touch T w1 w2) (hT:∀ i,i<w.heap.size→T i→S i):Touch S w w2 :=
 ⟨k.os.trans h.os,k.tape.trans h.tape,k.output.trans h.output,Nat.le_trans h.size k.size,
  fun i hi hs=>(k.block i (Nat.lt_of_lt_of_le hi h.size) (fun t=>hs (hT i hi t))).trans (h.block i hi hs)⟩
theorem Touch.mono (h:Touch S w w') (hT:∀ i,i<w.heap.size→S i→T i):Touch T w w' :=
 ⟨h.os,h.tape,h.output,h.size,fun i hi ht=>h.block i hi (fun s=>ht (hT i hi s))⟩
theorem Touch.up (h:Touch (fun _=>False) w w') (S:Nat→Prop):Touch S w w':=h.mono (fun _ _ f=>False.elim f)
theorem Touch.then (h:Touch S w w1) (k:Touch S w1 w2):Touch S w w2:=h.trans k (fun _ _ s=>s)
theorem Touch.drew (h:Touch S w w'):Touch S w w'.drew:=⟨h.os,h.tape,h.output,h.size,h.block⟩
theorem Touch.drewN (h:Touch S w w') (n:Nat):Touch S w (w'.drewN n):=⟨h.os,h.tape,h.output,h.size,h.block⟩
theorem Touch.alloc (h:Touch S w w') (o:Obj):Touch S w (w'.alloc o) :=
 h.trans (T:=fun _=>False) ⟨rfl,rfl,rfl,by simp,fun k hk _=>Below.heap_alloc _ _ _ (by omega)⟩ (fun _ _ f=>f.elim)
theorem Touch.setCell (h:Touch S w w') {p:Addr} (hp:p.block<w.heap.size→S p.block) (u:Value):Touch S w (w'.setCell p u) :=
 h.trans (T:=fun k=>k=p.block) ⟨rfl,rfl,rfl,by simp [World.setCell],fun k _ hk=>Below.heap_setCell _ _ _ _ hk⟩ (fun i hi e=>by subst e;exact hp hi)
theorem Touch.grown {row:Option Nat} (h:Touch S w w1) (hg:w1.grownBy w2 row) (hr:∀ k,row=some k→k<w.heap.size→S k):Touch S w w2 :=
 h.trans (T:=fun k=>row=some k) ⟨hg.os,hg.tape,hg.output,hg.size,fun k hk hs=>hg.block k hk (fun e=>hs e.symm)⟩ (fun i hi e=>hr i e hi)
theorem Touch.of_below (h:Below w.heap.size w w') (S:Nat→Prop):Touch S w w':=⟨h.os,h.tape,h.output,h.size,fun k hk _=>h.block k hk⟩
theorem Touch.below (h:Touch S w w') {B:Nat} (hB:B≤w.heap.size) (hS:∀ k,k<B→¬ S k):Below B w w':=⟨h.os,h.tape,h.output,h.size,fun k hk=>h.block k (by omega) (hS k hk)⟩
theorem Touch.cell (h:Touch S w w') {a:Addr} (ha:a.block<w.heap.size) (hs:¬ S a.block):w'.cell? a=w.cell? a:=World.cell?_of_block (h.block _ ha hs)
theorem Touch.grownBy_none (h:Touch (fun _=>False) w w') (row:Option Nat):w.grownBy w' row:=⟨h.os,h.tape,h.output,h.size,fun k hk _=>h.block k hk (fun f=>f)⟩
end
def Blk (w:World) (g:Nat) (t:TypeId) (cs:Array Value):Prop:=w.heap[g]? = some (.cells cs t (0,0))
section
variable {w w':World} {g:Nat} {t:TypeId} {cs:Array Value} {S:Nat→Prop}
theorem Blk.lt (h:Blk w g t cs):g<w.heap.size:=by
 rcases Nat.lt_or_ge g w.heap.size with hlt | hge
 ·exact hlt
 ·unfold Blk at h;rw [Array.getElem?_eq_none hge] at h;cases h
theorem Blk.cell (h:Blk w g t cs) (i:Nat):w.cell? ⟨g,i,none⟩=cs[i]? := cell_of_row w g i cs t (0,0) h
theorem Blk.frozen (h:Blk w g t cs) (i:Nat):w.frozen? ⟨g,i,none⟩=false:=by
 unfold Blk at h
 simp [World.frozen?,h]
theorem Blk.new (w:World) (t:TypeId) (cs:Array Value):Blk (w.alloc (.cells cs t)) w.heap.size t cs:=heap_alloc_new w _
theorem Blk.drew (h:Blk w g t cs):Blk w.drew g t cs:=h
theorem Blk.drewN (h:Blk w g t cs) (n:Nat):Blk (w.drewN n) g t cs:=h
theorem Blk.alloc (h:Blk w g t cs) (o:Obj):Blk (w.alloc o) g t cs:=(Below.heap_alloc w o g h.lt).trans h
theorem Blk.set_ (h:Blk w g t cs) (i:Nat) (u:Value):Blk (w.setCell ⟨g,i,none⟩ u) g t (cs.setIfInBounds i u):=by
 unfold Blk at h ⊢
 simp [World.setCell,Array.getElem?_modify,h]
theorem Blk.far (h:Blk w g t cs) {p:Addr} (hp:g≠p.block) (u:Value):Blk (w.setCell p u) g t cs:=(Below.heap_setCell w p u g hp).trans h
theorem Blk.touch (h:Blk w g t cs) (hb:Touch S w w') (hg:¬ S g):Blk w' g t cs:=(hb.block g h.lt hg).trans h
theorem Blk.grown {row:Option Nat} (h:Blk w g t cs) (hb:w.grownBy w' row) (hg:some g≠row):Blk w' g t cs:=(hb.block g h.lt hg).trans h
theorem Blk.below {B:Nat} (h:Blk w g t cs) (hb:Below B w w') (hg:g<B):Blk w' g t cs:=(hb.block g hg).trans h
theorem Blk.ne_ {g':Nat} {t':TypeId} {cs':Array Value} (h:Blk w g t cs) (h':Blk w g' t' cs') (ht:t≠t'):g≠g':=by
 rintro rfl
 unfold Blk at h h'
 rw [h] at h'
 injection h' with h'
 injection h' with _ h' _
 exact ht h'
end
section
variable {w w':World} {base:Nat} {e:TypeId} {size:Nat} {v:Value} {n:Nat} {xs:List Value} {S:Nat→Prop}
theorem own_blk_ne (h:w.ownsRow base e size v n xs) {g:Nat} {t:TypeId} {cs:Array Value} (hb:Blk w g t cs) (ht:t≠e):v.ownBlock≠some g:=by
 intro he
 rcases h.2 with ⟨rfl,_⟩ | ⟨g',cap,cur,rfl,_,hgg,_⟩
 ·simp [Value.ownBlock] at he
 ·simp [Value.ownBlock] at he
  subst he
  unfold Blk at hb
  rw [hgg] at hb
  injection hb with hb
  injection hb with _ hb _
  exact ht hb.symm
theorem own_own_ne {base':Nat} {e':TypeId} {size' n':Nat} {v':Value} {xs':List Value} (h:w.ownsRow base e size v n xs) (h':w.ownsRow base' e' size' v' n' xs') (ht:e≠e') {g:Nat} (hg:v.ownBlock=some g):v'.ownBlock≠some g:=by
 rcases h.2 with ⟨rfl,_⟩ | ⟨g',cap,cur,rfl,_,hgg,_⟩
 ·simp [Value.ownBlock] at hg
 ·simp [Value.ownBlock] at hg
  subst hg
  exact own_blk_ne h' (g:=g') (t:=e) (cs:=cur) hgg ht
theorem own_touch (h:w.ownsRow base e size v n xs) (hb:Touch S w w') (hs:∀ g,v.ownBlock=some g→¬ S g):w'.ownsRow base e size v n xs:=by
 refine ⟨h.1,?_⟩
 rcases h.2 with hn | ⟨g,cap,cur,rfl,hge,hgg,rest⟩
 ·exact .inl hn
 ·refine .inr ⟨g,cap,cur,rfl,hge,?_,rest⟩
  rw [hb.block g (Array.getElem?_eq_some_iff.1 hgg).1 (hs g rfl)]
  exact hgg
theorem own_setCell_far (h:w.ownsRow base e size v n xs) {a:Addr} (ha:v.ownBlock≠some a.block) (u:Value):(w.setCell a u).ownsRow base e size v n xs:=by
 refine own_touch (S:=fun k=>k=a.block) h ⟨rfl,rfl,rfl,by simp [World.setCell],fun k _ hk=>Below.heap_setCell _ _ _ _ hk⟩ ?_
 rintro g hg rfl
 exact ha hg
theorem own_len (h:w.ownsRow base e size v n xs):∃ A c,v=.slice A n c∧(n<c∨n=c)∧c≤maxLen:=by
 rcases h.2 with ⟨rfl,rfl⟩ | ⟨g,cap,cur,rfl,_,_,hle,hm,_⟩
 ·exact ⟨_,_,rfl,.inr rfl,by simp [maxLen]⟩
 ·exact ⟨_,_,rfl,by omega,hm⟩
theorem own_le (h:w.ownsRow base e size v n xs):n≤maxLen:=by
 obtain ⟨_,_,_,h1,h2⟩:=own_len h
 omega
theorem own_form (h:w.ownsRow base e size v n xs) (hn:0<n):∃ g cap,v=.slice (some ⟨g,0,none⟩) n cap∧n≤cap∧cap≤maxLen∧g<w.heap.size∧(∀ j u,xs[j]? = some u→w.cell? ⟨g,j,none⟩=some u)∧∀ j,w.frozen? ⟨g,j,none⟩=false:=by
 rcases h.2 with ⟨rfl,rfl⟩ | ⟨g,cap,cur,rfl,hge,hgg,hle,hm,hsz,ht⟩
 ·omega
 ·refine ⟨g,cap,rfl,hle,hm,(Array.getElem?_eq_some_iff.1 hgg).1,?_,fun j=>by simp [World.frozen?,hgg]⟩
  intro j u hu
  have:=h.cells (g:=g) rfl j u hu
  have hadd:(⟨g,0,none⟩:Addr).add j=⟨g,j,none⟩:=by unfold Addr.add;split<;>simp_all
  rwa [hadd] at this
theorem own_set {g cap:Nat} (h:w.ownsRow base e size (.slice (some ⟨g,0,none⟩) n cap) n xs) (i:Nat) (u:Value) :
  (w.setCell ⟨g,i,none⟩ u).ownsRow base e size (.slice (some ⟨g,0,none⟩) n cap) n (xs.set i u):=by
 refine ⟨by rw [List.length_set];exact h.1,?_⟩
 rcases h.2 with ⟨h0,_⟩ | ⟨g',cap',cur,hv,hge,hgg,hle,hm,hsz,ht⟩
 ·cases h0
 ·injection hv with ha _ hc
  injection ha with ha
  injection ha with ha
  subst ha
  subst hc
  refine .inr ⟨g,cap,cur.setIfInBounds i u,rfl,hge,?_,hle,hm,by simpa using hsz,?_⟩
  ·simp [World.setCell,Array.getElem?_modify,hgg]
  ·rw [Array.toList_setIfInBounds,List.take_set,ht]
end
theorem Blk.facts {w:World} {g:Nat} {t:TypeId} {cs:Array Value} (h:Blk w g t cs):(∀ i,w.cell? ⟨g,i,none⟩=cs[i]?)∧(∀ i,w.frozen? ⟨g,i,none⟩=false)∧g<w.heap.size:=⟨h.cell,h.frozen,h.lt⟩
theorem blk_new1 (w:World) (X:Obj) (t:TypeId) (cs:Array Value):Blk ((w.alloc X).alloc (.cells cs t)) (w.heap.size+1) t cs:=by
 have:=Blk.new (w.alloc X) t cs
 simpa using this
theorem hide {p:Prop} (h:p):Hid p:=h
def Reads (w:World) (size:Nat) (A:Option Addr) (n:Nat) (xs:List Value):Prop :=
 xs.length=n*size∧(0<n→∃ b off,A=some ⟨b,off,none⟩∧b<w.heap.size∧∀ j u,xs[j]? = some u→w.cell? ⟨b,off+j,none⟩=some u)
def adBlock:Option Addr→Option Nat:=fun A=>A.map (·.block)
section
variable {w w':World} {size n:Nat} {A:Option Addr} {xs:List Value} {S:Nat→Prop}
theorem Reads.nil (w:World) (size:Nat) (A:Option Addr):Reads w size A 0 []:=⟨by simp,fun h=>absurd h (by omega)⟩
theorem Reads.touch (h:Reads w size A n xs) (ht:Touch S w w') (hs:∀ g,adBlock A=some g→¬ S g):Reads w' size A n xs :=
 ⟨h.1,fun hn=>by
  obtain ⟨b,off,rfl,hb,hc⟩:=h.2 hn
  exact ⟨b,off,rfl,Nat.lt_of_lt_of_le hb ht.size,fun j u hu=>(ht.cell (a:=⟨b,off+j,none⟩) hb (hs b rfl)).trans (hc j u hu)⟩⟩
theorem Reads.below {B:Nat} (h:Reads w size A n xs) (ht:Below B w w') (hs:∀ g,adBlock A=some g→0<n→g<B):Reads w' size A n xs :=
 ⟨h.1,fun hn=>by
  obtain ⟨b,off,rfl,hb,hc⟩:=h.2 hn
  exact ⟨b,off,rfl,Nat.lt_of_lt_of_le hb ht.size,fun j u hu=>(ht.cell (p:=⟨b,off+j,none⟩) (hs b rfl hn)).trans (hc j u hu)⟩⟩
theorem Reads.old (h:Reads w size A n xs) (ht:Below w.heap.size w w'):Reads w' size A n xs :=
 ⟨h.1,fun hn=>by
  obtain ⟨b,off,rfl,hb,hc⟩:=h.2 hn
  exact ⟨b,off,rfl,Nat.lt_of_lt_of_le hb ht.size,fun j u hu=>(ht.cell (p:=⟨b,off+j,none⟩) hb).trans (hc j u hu)⟩⟩
theorem Reads.alloc (h:Reads w size A n xs) (o:Obj):Reads (w.alloc o) size A n xs:=h.touch (S:=fun _=>False) ((Touch.refl _ _).alloc o) (fun _ _ f=>f)
theorem Reads.drew (h:Reads w size A n xs):Reads w.drew size A n xs:=h
theorem Reads.drewN (h:Reads w size A n xs) (k:Nat):Reads (w.drewN k) size A n xs:=h
theorem Reads.form (h:Reads w size A n xs) (hn:0<n):∃ b off,A=some ⟨b,off,none⟩∧b<w.heap.size∧∀ j u,xs[j]? = some u→w.cell? ⟨b,off+j,none⟩=some u:=h.2 hn
theorem Reads.of_own {base:Nat} {e:TypeId} {c:Nat} (h:w.ownsRow base e size (.slice A n c) n xs):Reads w size A n xs:=by
 refine ⟨h.1,fun hn=>?_⟩
 obtain ⟨g,cap,hv,_,_,hg,hc,_⟩:=own_form h hn
 injection hv with hA _ _
 subst hA
 exact ⟨g,0,rfl,hg,fun j u hu=>by rw [Nat.zero_add];exact hc j u hu⟩
theorem Reads.cut (h:Reads w size A n xs) {k cap:Nat} (hk:k≤n) (hc:n≤cap) :
  Reads w size (if cap=k then A else A.map (·.add (k*size))) (n-k) (xs.drop (k*size)):=by
 refine ⟨by rw [List.length_drop,h.1,Nat.sub_mul],fun hn=>?_⟩
 obtain ⟨b,off,rfl,hb,hcell⟩:=h.2 (by omega)
 rw [if_neg (by omega)]
 refine ⟨b,off+k*size,?_,hb,fun j u hu=>?_⟩
 ·simp [Addr.add_lit]
 ·rw [Nat.add_assoc]
  exact hcell _ u (by rw [← hu,List.getElem?_drop])
theorem Reads.take (h:Reads w size A n xs) {k:Nat} (hk:k≤n):Reads w size A k (xs.take (k*size)):=by
 refine ⟨by rw [List.length_take,h.1];exact Nat.min_eq_left (Nat.mul_le_mul_right _ hk),fun hn=>?_⟩
 obtain ⟨b,off,rfl,hb,hcell⟩:=h.2 (by omega)
 exact ⟨b,off,rfl,hb,fun j u hu=>hcell j u (by rw [List.getElem?_take] at hu;split at hu<;>simp_all)⟩
theorem Reads.new (w:World) (t:TypeId) (xs:List Value) (n:Nat) (h:xs.length=n*size):Reads (w.alloc (.cells xs.toArray t)) size (some ⟨w.heap.size,0,none⟩) n xs :=
 ⟨h,fun _=>⟨w.heap.size,0,rfl,by simp,fun j u hu=>by rw [Nat.zero_add,World.cell?_alloc_new];simpa using hu⟩⟩
end
def Fresh (w:World) (v v':Value):Prop:=v'.ownBlock=v.ownBlock∨∃ g,v'.ownBlock=some g∧w.heap.size≤g
theorem wpList_app {P:Program} (w:World) {ops:Array Oper} {rest:List Oper} {o:Oper} {a:Act} {Q:Exit→Act→World→Prop}
  (hg:o.guard=none) (s x:Operand) (t:TypeId) (hop:o.op=Op.call { callee:=Callee.builtin Builtin.append,args:=#[s,x],argTypes:=#[t,t] })
  (e:TypeId) (i:TypeInfo) (z:Value) (size bytes:Nat) (h1:P.underlying t=some (.slice e)) (h2:P.info? e=some i) (h3:i.zero=some z) (h4:i.size=size) (h5:i.bytes=bytes) (h6:z.cells.size=size) (h7:0<size)
  (v:Value) (n:Nat) (xs:List Value) (hs:a.eval s=v) (hown:w.ownsRow 0 e size v n xs)
  (ao:Option Addr) (m c:Nat) (news:List Value) (hx:a.eval x=.slice ao m c) (hr:Reads w size ao m news) (hn:ao=none→m=0∧c=0) (h1c:∀ u∈news,u.oneCell'=true)
  (b1:n+m≤maxLen) (b2:(n+m)*bytes≤140737488355328)
  (hK:∀ v' w',w'.ownsRow 0 e size v' (n+m) (xs++news)→w.grownBy w' v.ownBlock→Fresh w v v'→(v'=.slice none 0 0↔v=.slice none 0 0∧m=0)→wpList P ops Q rest (a.put o.dst v') w') :
  wpList P ops Q (o :: rest) a w:=by
 refine wpList_plain hg fun K hK'=>?_
 have main:∃ v' w',(Builtin.append_ #[t,t] o.type #[v,.slice ao m c]).run P w=.ok v' w'∧w'.ownsRow 0 e size v' (n+m) (xs++news)∧w.grownBy w' v.ownBlock∧Fresh w v v'∧(v'=.slice none 0 0↔v=.slice none 0 0∧m=0):=by
  cases ao with
  | none =>
   obtain ⟨rfl,rfl⟩:=hn rfl
   have hnews:news=[]:=List.eq_nil_of_length_eq_zero (by simpa using hr.1)
   subst hnews
   exact ⟨v,w,run_append_owned_none (P:=P) w 0 t o.type e i size h1 h2 v n xs hown,by simpa using hown,World.grownBy.refl _ _,.inl rfl,by simp⟩
  | some ad =>
   have hc:∀ j u,news[j]? = some u→w.cell? (ad.add j)=some u:=fun j u hu=>by
    have hm:0<m:=by
     rcases Nat.eq_zero_or_pos m with rfl | hm
     ·have hl:news=[]:=List.eq_nil_of_length_eq_zero (by simpa using hr.1)
      rw [hl] at hu
      cases hu
     ·exact hm
    obtain ⟨b,off,hA,_,hcell⟩:=hr.2 hm
    injection hA with hA
    subst hA
    rw [Addr.add_lit]
    exact hcell j u hu
   rcases hown.2 with ⟨rfl,rfl⟩ | ⟨g,cap,cur,rfl,_,hgg,hnc,hcm,hcs,ht⟩
   ·have hx:xs=[]:=List.eq_nil_of_length_eq_zero (by simpa using hown.1)
    subst hx
    obtain ⟨v',w',r1,r2,r3,r4⟩:=run_append_own (P:=P) w w.heap.size t o.type e i z size bytes h1 h2 h3 h4 h5 h6 h7 (.slice none 0 0) 0 [] (World.ownsRow_nil w _ e size) ad m c news hr.1 hc h1c b1 b2 (Nat.le_refl _)
    refine ⟨v',w',r1,⟨r2.1,?_⟩,r3,?_,r4⟩
    ·rcases r2.2 with h | ⟨g,cap,cur,h,_,hh⟩
     ·exact .inl h
     ·exact .inr ⟨g,cap,cur,h,Nat.zero_le _,hh⟩
    ·rcases r2.2 with ⟨h,_⟩ | ⟨g,cap,cur,h,hge,hh⟩
     ·exact .inl (by rw [h])
     ·exact .inr ⟨g,by rw [h];rfl,hge⟩
   ·by_cases hroom:n+m≤cap
    ·obtain ⟨w',r1,r2,r3⟩:=run_append_fits (P:=P) w 0 t o.type e i size h1 h2 h4 g n cap xs hown ad m c news hr.1 hc h1c hroom
     exact ⟨_,w',r1,r2,r3,.inl rfl,by simp⟩
    ·have holds:∀ j u,xs[j]? = some u→w.cell? ((⟨g,0,none⟩:Addr).add j)=some u:=hown.cells (g:=g) rfl
     obtain ⟨v',w',r1,r2,r3⟩:=run_append_arg_grows (P:=P) w t o.type e i z size bytes h1 h2 h3 h4 h5 h6 h7 ⟨g,0,none⟩ n cap xs hown.1 holds ad m c news hr.1 hc (by omega) b1 b2
     refine ⟨v',w',r1,⟨r2.1,?_⟩,⟨r3.os,r3.tape,r3.output,r3.size,fun k hk _=>r3.block k hk (by simp)⟩,?_,?_⟩
     ·rcases r2.2 with h | ⟨g,cap,cur,h,_,hh⟩
      ·exact .inl h
      ·exact .inr ⟨g,cap,cur,h,Nat.zero_le _,hh⟩
     ·rcases r2.2 with ⟨h,hz⟩ | ⟨g,cap,cur,h,hge,hh⟩
      ·omega
      ·exact .inr ⟨g,by rw [h];rfl,hge⟩
     ·rcases r2.2 with ⟨h,hz⟩ | ⟨g,cap,cur,h,hge,hh⟩
      ·omega
      ·rw [h];simp
 obtain ⟨v',w',r1,r2,r3,r4,r5⟩:=main
 unfold Oper.wp
 simp [execOp,hop,resolve,invoke,builtin,hs,hx,r1,Result.andThen]
 exact hK' _ _ (hK v' w' r2 r3 r4 r5)
theorem Touch.app {S:Nat→Prop} {w w1 w2:World} {v:Value} (h:Touch S w w1) (hg:w1.grownBy w2 v.ownBlock) (hv:∀ g,v.ownBlock=some g→g<w.heap.size→S g):Touch S w w2 :=
 h.grown hg hv
end Go.Proofs.YthockgmbooefpaaGreatDoor
namespace Go.Proofs.YthockgmbooefpaaGreatDoor
open Go.RowKit Go.ChangeShapes Go.WideShapes Go.ChangeAt
section
variable {H:Type} {enc:TypeId × Value→H} {P:Program}
theorem trodAll_below (hl:laidOutB P=true) {W W':World} (hb:Below W.heap.size W W'):∀ (ts:List TypeId) (vs:List Value) (ds:List (DataW H)) (ps:List MemPlace),
  (∀ t∈ts,P.readableRec t=true∧t<P.types.size)→DataW.TrodAll enc P W 0 (fun _=>true) true ts vs ds ps →
  DataW.TrodAll enc P W' 0 (fun b=>decide (b<W.heap.size)) true ts vs ds ps:=by
 intro ts
 induction ts with
 | nil =>
  intro vs ds ps _ h
  obtain ⟨rfl,rfl,rfl⟩:=trodAll_nil h
  exact trodAll_mk0
 | cons t ts ih =>
  intro vs ds ps ht h
  obtain ⟨v,vs',d,ds',p,q,rfl,rfl,rfl,h0,r0⟩:=trodAll_cons h
  have lt0:∀ x∈p,x.block<W.heap.size:=by obtain ⟨m,hm⟩:=h0;exact DataW.trod_lt m _ _ _ hm
  obtain ⟨h1,h2⟩:=ht t (by simp)
  exact trodAll_cons_mk (Below.trod hl h1 h2 h0 hb lt0) (ih vs' ds' q (fun t' h'=>ht t' (by simp [h'])) r0)
theorem post_true {f:Func} {s:ChangeSpec} {W W':World} {args:Array Value} {ds gs:List (DataW H)} {before:List MemPlace} {tb:TypeId}
  (hW:DataW.Whole enc P f.params.toList s.vars false W args.toList ds gs before) (hvars:s.vars=[]) (hres:f.resultTypes.toList=[tb]) (hn:f.resultTypes.size=1) (htb:P.underlying tb=some .bool)
  (hfn:s.fn H (ds++gs)={ results:=[.lit (.bool true)],args:=ds }) (hl:laidOutB P=true) (hts0:(f.params.toList.all fun t=>P.readableRec t && decide (t<P.types.size))=true) (bel:Below W.heap.size W W') :
  s.post enc P f false true false false W args (.bool true) W':=by
 have hts:∀ t∈f.params.toList,P.readableRec t=true∧t<P.types.size:=fun t ht=>by
  have:=List.all_eq_true.1 hts0 t ht
  simpa using this
 have hW':=hW
 obtain ⟨p,q,hA,hV,rfl,hfz,hnd⟩:=hW
 rw [hvars] at hV
 obtain ⟨rfl,rfl⟩:=trodVars_none hV
 refine ⟨ds,[],p++[],[],p,[],hW',?_,?_,?_,bel.frame _,fun h=>by cases h⟩
 ·rw [hfn,hres,hn]
  exact trodAll_mk1 (shut_bool htb _)
 ·rw [hfn]
  exact trodAll_below hl bel _ _ _ _ hts hA
 ·rw [hfn,hvars]
  rfl
end
theorem flat_at {R:Type} (cells:R→List Value) (size:Nat) (hs:∀ r,(cells r).length=size) (l:List R) (i j:Nat) (hi:i<l.length) (hj:j<size) :
  (l.flatMap cells)[i*size+j]? = (cells l[i])[j]? := by
 induction l generalizing i with
 | nil=>simp at hi
 | cons r l ih =>
  cases i with
  | zero =>
   simp only [List.flatMap_cons,Nat.zero_mul,Nat.zero_add,List.getElem_cons_zero]
   rw [List.getElem?_append_left (by rw [hs];exact hj)]
  | succ i =>
   simp only [List.flatMap_cons,List.getElem_cons_succ]
   rw [List.getElem?_append_right (by rw [hs,Nat.succ_mul];omega),hs,show (i+1)*size+j-size=i*size+j by rw [Nat.succ_mul];omega]
   exact ih i (by simpa using hi)
theorem flat_len {R:Type} (cells:R→List Value) (size:Nat) (hs:∀ r,(cells r).length=size) (l:List R):(l.flatMap cells).length=l.length*size:=by
 induction l with
 | nil=>simp
 | cons r l ih=>rw [List.flatMap_cons,List.length_append,hs,ih,List.length_cons,Nat.succ_mul,Nat.add_comm]
section
variable {H:Type} {enc:TypeId × Value→H} {P:Program} {w:World} {base:Nat} {spare:Nat→Bool} {held:Bool}
theorem field_of {t:TypeId} {fs:Array Field} {fuel:Nat} {cs:List Value} {x:DataW H × List MemPlace} (hs:P.underlying t=some (.struct fs)) (h:DataW.trod enc P w base spare held fuel t cs=some x)
  (i:Nat) (f:Field) (hf:fs[i]? = some f):∃ n y,DataW.trod enc P w base spare held n f.type ((cs.drop f.offset).take (P.cellsOf f.type))=some y:=by
 obtain ⟨xs,n,_,_,_,hlen,hg⟩:=DataW.trod_struct hs h
 have hi:i<fs.size:=(Array.getElem?_eq_some_iff.1 hf).1
 refine ⟨n,xs[i]'(by omega),?_⟩
 rw [hg i f hf]
 exact List.getElem?_eq_getElem (by omega)
theorem drop_take_one {cs:List Value} {o:Nat} {v:Value} (h:(cs.drop o).take 1=[v]):cs[o]? = some v:=by
 have:=congrArg (fun l=>l[0]?) h
 simpa [List.getElem?_take] using this
theorem field_int {t:TypeId} {fs:Array Field} {fuel:Nat} {cs:List Value} {x:DataW H × List MemPlace} (hs:P.underlying t=some (.struct fs)) (h:DataW.trod enc P w base spare held fuel t cs=some x)
  (i:Nat) (f:Field) (hf:fs[i]? = some f) {k:IntKind} (hk:P.underlying f.type=some (.int k)) (hc:P.cellsOf f.type=1):∃ n,cs[f.offset]? = some (.int k n)∧(Lit.int k n).wf=true:=by
 obtain ⟨m,y,hy⟩:=field_of hs h i f hf
 rw [hc] at hy
 obtain ⟨n,hn,_,hw⟩:=DataW.trod_int hk hy
 exact ⟨n,drop_take_one hn,hw⟩
end
end Go.Proofs.YthockgmbooefpaaGreatDoor
namespace Go.Proofs.YthockgmbooefpaaGreatDoor
structure PRow where
 word:ByteArray
 weight:Int
def PRow.zero:PRow:=⟨ByteArray.empty,0⟩
instance:Inhabited PRow:=⟨PRow.zero⟩
def PRow.cells (r:PRow):List Value:=[.string r.word,.int .i64 r.weight]
def PRow.val (r:PRow):Value:=.agg #[.string r.word,.int .i64 r.weight]
def pCells (l:List PRow):List Value:=l.flatMap PRow.cells
theorem pval_eq (w:ByteArray) (n:Int):PRow.val ⟨w,n⟩=.agg #[.string w,.int .i64 n]:=rfl
theorem toList_inj {a b:ByteArray} (h:a.toList=b.toList):a=b:=by
 rw [Go.ByteArray.toList_eq,Go.ByteArray.toList_eq] at h
 exact Go.WideShapes.bytes_inj h
theorem bl_irrefl (x:List UInt8):Op.bytesLess x x=false:=by
 induction x with
 | nil=>rfl
 | cons a x ih=>simp [Op.bytesLess,ih,UInt8.lt_irrefl]
theorem bl_total (x y:List UInt8) (h:x≠y):Op.bytesLess x y=true∨Op.bytesLess y x=true:=by
 induction x generalizing y with
 | nil=>cases y with
  | nil=>exact absurd rfl h
  | cons b y=>left;rfl
 | cons a x ih=>cases y with
  | nil=>right;rfl
  | cons b y =>
   by_cases hab:a=b
   ·subst hab
    rcases ih y (fun e=>h (by rw [e])) with k | k
    ·left;simp [Op.bytesLess,k]
    ·right;simp [Op.bytesLess,k]
   ·rcases Nat.lt_or_gt_of_ne (fun e:a.toNat=b.toNat=>hab (UInt8.toNat_inj.1 e)) with k | k
    ·left;simp [Op.bytesLess,UInt8.lt_iff_toNat_lt,k]
    ·right;simp [Op.bytesLess,UInt8.lt_iff_toNat_lt,k]
theorem bl_trans (x y z:List UInt8) (h:Op.bytesLess x y=true) (k:Op.bytesLess y z=true):Op.bytesLess x z=true:=by
 induction x generalizing y z with
 | nil=>cases z with
  | nil=>cases y<;>simp [Op.bytesLess] at k
  | cons c z=>rfl
 | cons a x ih=>cases y with
  | nil=>simp [Op.bytesLess] at h
  | cons b y=>cases z with
   | nil=>simp [Op.bytesLess] at k
   | cons c z =>
    simp only [Op.bytesLess,Bool.or_eq_true,Bool.and_eq_true,decide_eq_true_eq,beq_iff_eq,UInt8.lt_iff_toNat_lt] at h k ⊢
    rcases h with h | ⟨h,h'⟩
    ·rcases k with k | ⟨k,k'⟩
     ·left;omega
     ·subst k;left;exact h
    ·subst h
     rcases k with k | ⟨k,k'⟩
     ·left;exact k
     ·right;exact ⟨k,ih y z h' k'⟩
def plt (a b:PRow):Bool:=Op.bytesLess a.word.toList b.word.toList
def ple (a b:PRow):Prop:=plt b a=false
theorem ple_refl (a:PRow):ple a a:=bl_irrefl _
theorem ple_of_plt {a b:PRow} (h:plt a b=true):ple a b:=by
 unfold ple
 cases hb:plt b a with
 | false=>rfl
 | true =>
  have:=bl_trans _ _ _ h hb
  rw [bl_irrefl] at this
  cases this
theorem ple_plt {a b c:PRow} (h:ple a b) (k:plt b c=true):plt a c=true:=by
 by_cases e:a.word.toList=b.word.toList
 ·unfold plt at k ⊢
  rw [e]
  exact k
 ·rcases bl_total _ _ e with x | x
  ·exact bl_trans _ _ _ x k
  ·have h':plt b a=false:=h
   unfold plt at h'
   rw [x] at h'
   cases h'
theorem plt_ple {a b c:PRow} (h:plt a b=true) (k:ple b c):plt a c=true:=by
 by_cases e:b.word.toList=c.word.toList
 ·unfold plt at h ⊢
  rw [← e]
  exact h
 ·rcases bl_total _ _ e with x | x
  ·exact bl_trans _ _ _ h x
  ·have k':plt c b=false:=k
   unfold plt at k'
   rw [x] at k'
   cases k'
theorem ple_trans {a b c:PRow} (h:ple a b) (k:ple b c):ple a c:=by
 unfold ple
 cases hb:plt c a with
 | false=>rfl
 | true =>
  have h1:=plt_ple hb h
  rw [show plt c b=false from k] at h1
  cases h1
theorem plt_ne {a b:PRow} (h:plt a b=true):a.word.toList≠b.word.toList:=by
 intro e
 unfold plt at h
 rw [e,bl_irrefl] at h
 cases h
theorem plt_irrefl (a:PRow):plt a a=false:=bl_irrefl _
theorem plt_trans {a b c:PRow} (h:plt a b=true) (k:plt b c=true):plt a c=true:=bl_trans _ _ _ h k
theorem plt_total {a b:PRow} (h:a.word.toList≠b.word.toList):plt a b=true∨plt b a=true:=bl_total _ _ h
def SrtP (l:List PRow):Prop:=l.Pairwise ple
def key (k:List UInt8) (l:List PRow):List PRow:=l.filter (fun p=>decide (p.word.toList=k))
def SameK (A B:List PRow):Prop:=∀ k,key k A=key k B
theorem key_app (k:List UInt8) (A B:List PRow):key k (A++B)=key k A++key k B:=by simp [key]
theorem SameK.refl (A:List PRow):SameK A A:=fun _=>rfl
theorem SameK.trans {A B C:List PRow} (h:SameK A B) (k:SameK B C):SameK A C:=fun x=>(h x).trans (k x)
theorem SameK.symm {A B:List PRow} (h:SameK A B):SameK B A:=fun x=>(h x).symm
theorem SameK.app {A B C D:List PRow} (h:SameK A B) (k:SameK C D):SameK (A++C) (B++D):=fun x=>by rw [key_app,key_app,h x,k x]
theorem SameK.mem {A B:List PRow} (h:SameK A B) {x:PRow} (hx:x∈A):x∈B:=by
 have h1:x∈key x.word.toList A:=by simp [key,hx]
 rw [h] at h1
 exact (List.mem_filter.1 h1).1
theorem SameK.swap {A B:List PRow} (h:∀ a∈A,∀ b∈B,a.word.toList≠b.word.toList):SameK (A++B) (B++A):=by
 intro k
 rw [key_app,key_app]
 by_cases hA:key k A=[]
 ·rw [hA];simp
 ·obtain ⟨a,ha⟩:=List.exists_mem_of_ne_nil _ hA
  have ha':=List.mem_filter.1 ha
  have hB:key k B=[]:=by
   unfold key
   rw [List.filter_eq_nil_iff]
   intro b hb hk
   exact h a ha'.1 b hb ((of_decide_eq_true ha'.2).trans (of_decide_eq_true hk).symm)
  rw [hB];simp
theorem srt_app {A B:List PRow} (hA:SrtP A) (hB:SrtP B) (h:∀ a∈A,∀ b∈B,ple a b):SrtP (A++B):=List.pairwise_append.2 ⟨hA,hB,h⟩
theorem merge_parts {L1 L2 R1 R2 Z1 Z2:List PRow} (hL:SrtP (L1++L2)) (hR:SrtP (R1++R2)) (h1:∀ x∈L1,∀ y∈R2,ple x y) (h2:∀ x∈R1,∀ y∈L2,plt x y=true)
  (s1:SrtP Z1) (k1:SameK (L1++R1) Z1) (s2:SrtP Z2) (k2:SameK (L2++R2) Z2):SrtP (Z1++Z2)∧SameK ((L1++L2)++(R1++R2)) (Z1++Z2):=by
 refine ⟨srt_app s1 s2 fun a ha b hb=>?_,?_⟩
 ·have ha':=List.mem_append.1 (k1.symm.mem ha)
  have hb':=List.mem_append.1 (k2.symm.mem hb)
  rcases ha' with ha' | ha'<;>rcases hb' with hb' | hb'
  ·exact (List.pairwise_append.1 hL).2.2 a ha' b hb'
  ·exact h1 a ha' b hb'
  ·exact ple_of_plt (h2 a ha' b hb')
  ·exact (List.pairwise_append.1 hR).2.2 a ha' b hb'
 ·have e1:SameK (L2++R1) (R1++L2):=SameK.swap fun a ha b hb e=>plt_ne (h2 b hb a ha) e.symm
  have e2:(L1++L2)++(R1++R2)=L1++((L2++R1)++R2):=by simp
  have e3:SameK (L1++((L2++R1)++R2)) ((L1++R1)++(L2++R2)):=by
   have:=(SameK.refl L1).app (e1.app (SameK.refl R2))
   refine this.trans ?_
   simp only [List.append_assoc]
   exact SameK.refl _
  rw [e2]
  exact e3.trans (k1.app k2)
theorem srt_take {l:List PRow} (h:SrtP l) (k:Nat):SrtP (l.take k):=h.sublist (List.take_sublist _ _)
theorem srt_drop {l:List PRow} (h:SrtP l) (k:Nat):SrtP (l.drop k):=h.sublist (List.drop_sublist _ _)
theorem srt_at {l:List PRow} (h:SrtP l) {i j:Nat} (hij:i≤j) (hj:j<l.length):ple (l.getD i PRow.zero) (l.getD j PRow.zero):=by
 have e1:l.getD i PRow.zero=l[i]'(by omega):=by simp [List.getD,show i<l.length by omega]
 have e2:l.getD j PRow.zero=l[j]:=by simp [List.getD,hj]
 by_cases h0:i=j
 ·subst h0;exact ple_refl _
 ·rw [e1,e2]
  exact List.pairwise_iff_getElem.1 h i j (by omega) hj (by omega)
theorem mem_take_at {l:List PRow} {k:Nat} {x:PRow} (h:x∈l.take k):∃ i,i<k∧i<l.length∧l.getD i PRow.zero=x:=by
 obtain ⟨i,hi,e⟩:=List.mem_iff_getElem.1 h
 rw [List.length_take] at hi
 refine ⟨i,by omega,by omega,?_⟩
 rw [← e]
 simp [List.getD,show i<l.length by omega]
theorem mem_drop_at {l:List PRow} {k:Nat} {x:PRow} (h:x∈l.drop k):∃ i,k≤i∧i<l.length∧l.getD i PRow.zero=x:=by
 obtain ⟨i,hi,e⟩:=List.mem_iff_getElem.1 h
 rw [List.length_drop] at hi
 refine ⟨k+i,by omega,by omega,?_⟩
 rw [← e]
 simp [List.getD,show k+i<l.length by omega]
theorem cut_parts {L R:List PRow} (hL:SrtP L) (hR:SrtP R) (s e:Nat) (hs:s≤L.length) (he:e≤R.length)
  (hA:s=0∨e=R.length∨ple (L.getD (s-1) PRow.zero) (R.getD e PRow.zero)) (hB:s=L.length∨e=0∨plt (R.getD (e-1) PRow.zero) (L.getD s PRow.zero)=true) :
  (∀ x∈L.take s,∀ y∈R.drop e,ple x y)∧(∀ x∈R.take e,∀ y∈L.drop s,plt x y=true):=by
 constructor
 ·intro x hx y hy
  obtain ⟨i,i1,i2,rfl⟩:=mem_take_at hx
  obtain ⟨j,j1,j2,rfl⟩:=mem_drop_at hy
  rcases hA with h | h | h
  ·omega
  ·omega
  ·exact ple_trans (srt_at hL (by omega) (by omega)) (ple_trans h (srt_at hR j1 j2))
 ·intro x hx y hy
  obtain ⟨i,i1,i2,rfl⟩:=mem_take_at hx
  obtain ⟨j,j1,j2,rfl⟩:=mem_drop_at hy
  rcases hB with h | h | h
  ·omega
  ·omega
  ·exact plt_ple (ple_plt (srt_at hR (by omega) (by omega)) h) (srt_at hL j1 j2)
end Go.Proofs.YthockgmbooefpaaGreatDoor
namespace Go.Proofs.YthockgmbooefpaaGreatDoor
open Go.RowKit
theorem infoPair:(Tryz.prog.info? 125).map (fun i=>(i.zero,i.size,i.bytes))=some (some (.agg #[.string ByteArray.empty,.int .i64 0]),2,24):=by kernel_rfl
theorem info_parts {t:TypeId} {z:Value} {s b:Nat} (h:(Tryz.prog.info? t).map (fun i=>(i.zero,i.size,i.bytes))=some (some z,s,b)):∃ i,Tryz.prog.info? t=some i∧i.zero=some z∧i.size=s∧i.bytes=b:=by
 cases hi:Tryz.prog.info? t with
 | none=>rw [hi] at h;cases h
 | some i =>
  rw [hi] at h
  simp at h
  exact ⟨i,rfl,h.1,h.2.1,h.2.2⟩
theorem pcells_len (r:PRow):(PRow.cells r).length=2:=rfl
theorem pCells_len (X:List PRow):(pCells X).length=X.length*2:=flat_len PRow.cells 2 pcells_len X
theorem pCells_at (X:List PRow) (k:Nat) (hk:k<X.length) (j:Nat) (hj:j<2):(pCells X)[k*2+j]? = (X.getD k PRow.zero).cells[j]? := by
 have e:X.getD k PRow.zero=X[k]:=by simp [List.getD,hk]
 rw [e]
 exact flat_at PRow.cells 2 pcells_len X k j hk hj
theorem pCells_app (X Y:List PRow):pCells (X++Y)=pCells X++pCells Y:=by simp [pCells]
theorem pCells_take (X:List PRow) (n:Nat):(pCells X).take (n*2)=pCells (X.take n):=by
 induction X generalizing n with
 | nil=>simp [pCells]
 | cons x X ih =>
  cases n with
  | zero=>simp [pCells]
  | succ n =>
   have:=ih n
   simp only [pCells,List.flatMap_cons,List.take_succ_cons] at this ⊢
   rw [← this]
   simp [PRow.cells,show (n+1)*2=n*2+1+1 by omega]
theorem preads_at {w:World} {A:Option Addr} {n:Nat} {X:List PRow} (h:Reads w 2 A n (pCells X)) (hn:n=X.length) (k:Nat) (hk:k<n) :
  ∃ g off,A=some ⟨g,off,none⟩∧g<w.heap.size∧w.cell? ⟨g,off+k*2,none⟩=some (.string (X.getD k PRow.zero).word)∧w.cell? ⟨g,off+k*2+1,none⟩=some (.int .i64 (X.getD k PRow.zero).weight):=by
 subst hn
 obtain ⟨b,off,hA,hb,hc⟩:=h.2 (by omega)
 refine ⟨b,off,hA,hb,?_,?_⟩
 ·exact hc (k*2) _ (pCells_at X k hk 0 (by omega))
 ·rw [Nat.add_assoc];exact hc (k*2+1) _ (pCells_at X k hk 1 (by omega))
abbrev POwn (w:World) (A:Option Addr) (n c:Nat) (X:List PRow):Prop:=w.ownsRow 0 125 2 (.slice A n c) n (pCells X)
theorem pown_at {w:World} {A:Option Addr} {n c:Nat} {X:List PRow} (h:POwn w A n c X) (hn:n=X.length) (k:Nat) (hk:k<n) :
  ∃ g,A=some ⟨g,0,none⟩∧g<w.heap.size∧w.cell? ⟨g,k*2,none⟩=some (.string (X.getD k PRow.zero).word)∧w.cell? ⟨g,k*2+1,none⟩=some (.int .i64 (X.getD k PRow.zero).weight) ∧
   w.frozen? ⟨g,k*2,none⟩=false∧w.frozen? ⟨g,k*2+1,none⟩=false:=by
 subst hn
 obtain ⟨g,cap,hv,_,_,hg,hc,hf⟩:=own_form h (by omega)
 injection hv with hA' _ _
 exact ⟨g,hA',hg,hc (k*2) _ (pCells_at X k hk 0 (by omega)),hc (k*2+1) _ (pCells_at X k hk 1 (by omega)),hf _,hf _⟩
theorem pown_len {w:World} {A:Option Addr} {n c:Nat} {X:List PRow} (h:POwn w A n c X):n=X.length:=by
 have:=h.1
 rw [pCells_len] at this
 omega
theorem pset2 (X:List PRow) (k:Nat) (r:PRow):((pCells X).set (k*2) (.string r.word)).set (k*2+1) (.int .i64 r.weight)=pCells (X.set k r):=by
 induction X generalizing k with
 | nil=>simp [pCells]
 | cons x X ih =>
  cases k with
  | zero=>simp [pCells,PRow.cells]
  | succ k =>
   have:=ih k
   simp only [pCells,List.flatMap_cons,List.set_cons_succ] at this ⊢
   rw [← this]
   simp only [PRow.cells,List.cons_append,List.nil_append,Nat.succ_mul]
   rw [show k*2+2=(k*2)+1+1 by omega,show k*2+1+1+1=(k*2+1)+1+1 by omega]
   simp only [List.set_cons_succ]
theorem pown_set2 {w:World} {g n c:Nat} {X:List PRow} (h:POwn w (some ⟨g,0,none⟩) n c X) (k:Nat) (r:PRow) :
  POwn ((w.setCell ⟨g,k*2,none⟩ (.string r.word)).setCell ⟨g,k*2+1,none⟩ (.int .i64 r.weight)) (some ⟨g,0,none⟩) n c (X.set k r):=by
 unfold POwn
 rw [← pset2]
 exact own_set (own_set h _ _) _ _
def swpP (X:List PRow) (i j:Nat):List PRow:=(X.set i (X.getD j PRow.zero)).set j (X.getD i PRow.zero)
theorem swpP_len (X:List PRow) (i j:Nat):(swpP X i j).length=X.length:=by simp [swpP]
theorem compare_neg (x y:List UInt8):decide (Lib.compareBytes x y<0)=Op.bytesLess x y:=by
 induction x generalizing y with
 | nil=>cases y<;>simp [Lib.compareBytes,Op.bytesLess]
 | cons a x ih =>
  cases y with
  | nil=>simp [Lib.compareBytes,Op.bytesLess]
  | cons b y =>
   unfold Lib.compareBytes
   by_cases h:a<b
   ·simp [Op.bytesLess,h]
   ·rw [if_neg h]
    by_cases h2:b<a
    ·rw [if_pos h2]
     have:¬ a=b:=by rintro rfl;exact h h2
     simp [Op.bytesLess,h,this]
    ·rw [if_neg h2,ih]
     have:a=b:=by
      refine UInt8.toNat_inj.1 ?_
      simp only [UInt8.lt_iff_toNat_lt] at h h2
      omega
     subst this
     simp [Op.bytesLess,UInt8.lt_irrefl]
theorem byte_at (s:ByteArray) (k:Nat) (h:k<s.size):s.toList[k]? = some s[k]:=by
 rw [Go.ByteArray.toList_eq]
 show s.data.toList[k]? = some s.data[k]
 simp [h]
theorem toList_len (s:ByteArray):s.toList.length=s.size:=by
 rw [Go.ByteArray.toList_eq,Array.length_toList];rfl
theorem bl_step (x y:List UInt8) (k:Nat) (a b:UInt8) (hx:x[k]? = some a) (hy:y[k]? = some b) (hab:a≠b) (hp:x.take k=y.take k):Op.bytesLess x y=decide (a<b):=by
 induction k generalizing x y with
 | zero =>
  cases x with
  | nil=>simp at hx
  | cons c x=>cases y with
   | nil=>simp at hy
   | cons d y =>
    simp at hx hy
    subst hx hy
    simp [Op.bytesLess,hab]
 | succ k ih =>
  cases x with
  | nil=>simp at hx
  | cons c x=>cases y with
   | nil=>simp at hy
   | cons d y =>
    simp at hx hy hp
    obtain ⟨rfl,hp⟩:=hp
    simp [Op.bytesLess,ih x y hx hy hp,UInt8.lt_irrefl]
theorem bl_pre (x y:List UInt8) (k:Nat) (hp:x.take k=y.take k) (hk:k=x.length∨k=y.length) (hx:k≤x.length) (hy:k≤y.length):Op.bytesLess x y=decide (x.length<y.length):=by
 induction k generalizing x y with
 | zero =>
  cases x with
  | nil=>cases y<;>simp [Op.bytesLess]
  | cons c x=>cases y with
   | nil=>simp [Op.bytesLess]
   | cons d y=>simp at hk
 | succ k ih =>
  cases x with
  | nil=>simp at hx
  | cons c x=>cases y with
   | nil=>simp at hy
   | cons d y =>
    simp at hp hx hy hk
    obtain ⟨rfl,hp⟩:=hp
    simp [Op.bytesLess,ih x y hp hk hx hy,UInt8.lt_irrefl]
theorem ahead_any (a b:ByteArray) (ha:a.size≤9223372036854775807) (hb:b.size≤9223372036854775807) (w:World) :
  Calls Tryz.prog 46 #[.string a,.string b] w fun e w'=>e=.returned (.bool (Op.bytesLess a.toList b.toList))∧Touch (fun _=>False) w w':=by
 go_enter Tryz.func46,Tryz.ntmps46
 go_wp2
 go_loopw [5] (fun i wr=>∃ k:Nat,k≤a.size∧k≤b.size∧i=.int .i64 k∧Hid (a.toList.take k=b.toList.take k)∧Touch (fun _=>False) w wr) (fun i _=>a.size-(intOf i).toNat)
 case atStart=>exact ⟨0,Nat.zero_le _,Nat.zero_le _,rfl,hide rfl,Touch.refl _ _⟩
 case round =>
  obtain ⟨k,hka,hkb,rfl,HP,hT⟩:=hrel
  have HT:=hide hT
  clear hT
  by_cases h1:k<a.size
  ·by_cases h2:k<b.size
   ·have i0:(0:Int)≤(k:Int):=by omega
    have i1:(k:Int)<(a.size:Int):=by omega
    have i2:(k:Int)<(b.size:Int):=by omega
    by_cases he:a[k]=b[k]
    ·have hbne:(((a[k]'h1).toNat:Int) != ((b[k]'h2).toNat:Int))=false:=by rw [he];simp
     have HE:=hide he
     clear he
     go_wp2
     go_quiet (fail)
     go_wp2
     go_roundw
     ·refine ⟨k+1,by omega,by omega,by simp,hide ?_,HT.out.drewN _⟩
      rw [List.take_add_one,List.take_add_one,byte_at _ _ h1,byte_at _ _ h2,HE.out,HP.out]
     ·show a.size-(k+1)<a.size-k
      omega
    ·have hbne:(((a[k]'h1).toNat:Int) != ((b[k]'h2).toNat:Int))=true:=by
      rw [bne_iff_ne]
      exact fun e=>he (UInt8.toNat_inj.1 (by omega))
     have HE:=hide (bl_step a.toList b.toList k _ _ (byte_at _ _ h1) (byte_at _ _ h2) he HP.out)
     clear he
     go_wp2
     go_quiet (fail)
     go_wp2
     go_quiet (fail)
     go_wp2
     go_ret
     refine ⟨?_,(HT.out.drewN _).drewN _⟩
     rw [HE.out]
     rfl
   ·have hk:k=b.size:=by omega
    have i0:(0:Int)≤(k:Int):=by omega
    have i1:(k:Int)<(a.size:Int):=by omega
    have i2:¬ (k:Int)<(b.size:Int):=by omega
    have HE:=hide (bl_pre a.toList b.toList k HP.out (.inr (by rw [toList_len];exact hk)) (by rw [toList_len];exact hka) (by rw [toList_len];exact hkb))
    clear hk
    go_wp2
    go_ret
    refine ⟨?_,HT.out⟩
    rw [HE.out,toList_len,toList_len]
    rfl
  ·have hk:k=a.size:=by omega
   have i1:¬ (k:Int)<(a.size:Int):=by omega
   have HE:=hide (bl_pre a.toList b.toList k HP.out (.inl (by rw [toList_len];exact hk)) (by rw [toList_len];exact hka) (by rw [toList_len];exact hkb))
   clear hk
   go_wp2
   go_ret
   refine ⟨?_,HT.out⟩
   rw [HE.out,toList_len,toList_len]
   rfl
def PRow.Wf (p:PRow):Prop:=p.word.size≤9223372036854775807
def Strict (l:List PRow):Prop:=l.Pairwise (fun a b=>plt a b=true)
theorem psnoc (L:List PRow) (i:Nat) (hi:i<L.length):L.take (i+1)=L.take i++[L.getD i PRow.zero]:=by
 have e:L.getD i PRow.zero=L[i]:=by simp [List.getD,hi]
 rw [List.take_succ_eq_append_getElem hi,e]
theorem pgetD_mem (O:List PRow) (k:Nat) (hk:k<O.length):O.getD k PRow.zero∈O:=by
 have e:O.getD k PRow.zero=O[k]:=by simp [List.getD,hk]
 rw [e];exact List.getElem_mem _
structure SL where
 A:Option Addr
 n:Nat
 c:Nat
 L:List PRow
instance:Inhabited SL:=⟨⟨none,0,0,[]⟩⟩
def SL.val (s:SL):Value:=.slice s.A s.n s.c
structure SL.Ok (s:SL) (w:World):Prop where
 len:s.L.length=s.n
 reads:Reads w 2 s.A s.n (pCells s.L)
 nil:s.A=none→s.n=0∧s.c=0
theorem key_cons (k:List UInt8) (x:PRow) (l:List PRow):key k (x :: l)=if x.word.toList=k then x :: key k l else key k l:=by
 by_cases h:x.word.toList=k
 ·simp [key,h]
 ·simp [key,h]
def findP (k:List UInt8) (L:List PRow):Int × Bool:=match (key k L).getLast? with | some p=>(p.weight,true) | none=>(0,false)
theorem find_hit {L:List PRow} {i:Nat} (hi:i<L.length) (k:List UInt8) (hk:(L.getD i PRow.zero).word.toList=k) (hd:key k (L.drop (i+1))=[]):findP k L=((L.getD i PRow.zero).weight,true):=by
 have e2:L.getD i PRow.zero=L[i]:=by simp [List.getD,hi]
 have e:L=L.take i++(L[i] :: L.drop (i+1)):=by rw [← List.drop_eq_getElem_cons hi,List.take_append_drop]
 have e3:key k (L[i] :: L.drop (i+1))=[L[i]]:=by
  rw [key_cons,if_pos (by rw [← e2];exact hk),hd]
 have e4:key k L=key k (L.take i)++[L[i]]:=by
  rw [← e3,← key_app,← e]
 unfold findP
 rw [e4,e2]
 simp
theorem find_miss {L:List PRow} {i:Nat} (hi:i<L.length) (k:List UInt8) (hk:¬ (L.getD i PRow.zero).word.toList=k) (hd:key k (L.drop (i+1))=[]):key k (L.drop i)=[]:=by
 have e2:L.getD i PRow.zero=L[i]:=by simp [List.getD,hi]
 rw [List.drop_eq_getElem_cons hi]
 rw [key_cons,if_neg (by rw [← e2];exact hk),hd]
theorem rfind_any (w:World) (A:Option Addr) (n c:Nat) (L:List PRow) (hL:L.length=n) (hR:Reads w 2 A n (pCells L)) (hn:n≤maxLen) (k:ByteArray) :
  Calls Tryz.prog 160 #[.slice A n c,.string k] w fun e w'=>e=.returned (.tuple #[.int .i64 (findP k.toList L).1,.bool (findP k.toList L).2])∧Touch (fun _=>False) w w':=by
 unfold maxLen at hn
 have HR:=hide hR
 have HL:=hide hL
 clear hR hL
 have hcn:n=0∨∃ m,n=m+1:=by cases n<;>simp
 have hstart:∃ z:Int,(n:Int)-1=z∧((z = -1∧n=0)∨∃ i:Nat,z=(i:Int)∧n=i+1):=by
  rcases hcn with h | ⟨m,h⟩
  ·exact ⟨-1,by omega,.inl ⟨rfl,h⟩⟩
  ·exact ⟨(m:Int),by omega,.inr ⟨m,rfl,h⟩⟩
 obtain ⟨z,hz,hzz⟩:=hstart
 have hw:IntKind.i64.wrap z=z:=IntWalk.i64_in _ (by omega)
 have HZ:=hide hzz
 clear hcn hzz
 go_enter Tryz.func160,Tryz.ntmps160
 go_wp2
 go_loopw [6] (fun iv wr=>∃ (z:Int) (q:Nat),iv=.int .i64 z∧q≤n∧Hid ((z = -1∧q=0)∨∃ i:Nat,z=(i:Int)∧q=i+1)∧Hid (key k.toList (L.drop q)=[])∧Hid (Touch (fun _=>False) w wr)) (fun iv _=>(intOf iv+1).toNat)
 case atStart=>exact ⟨z,n,rfl,Nat.le_refl _,HZ,hide (by rw [List.drop_of_length_le (by rw [HL.out];exact Nat.le_refl _)];rfl),hide (Touch.refl _ _)⟩
 case round =>
  obtain ⟨z,q,rfl,hq,HZQ,HD,HT⟩:=hrel
  rcases HZQ.out with ⟨rfl,rfl⟩ | ⟨i,rfl,rfl⟩
  ·clear HZQ
   go_wp2
   have hf:findP k.toList L=(0,false):=by
    have:=HD.out
    rw [List.drop_zero] at this
    unfold findP
    rw [this]
    rfl
   rw [hf]
   exact bodyPost_ret (v:=.tuple #[.int .i64 0,.bool false]) (by simp [results,Tryz.results160,go_sem]) rfl ⟨rfl,HT.out⟩
  ·clear HZQ
   have y0:¬ (i:Int)<0:=by omega
   have y1:(0:Int)≤(i:Int):=by omega
   have y2:i<n:=by omega
   have y3:(i:Int)<(n:Int):=by omega
   obtain ⟨g,o,hA,hg,a0,a1⟩:=preads_at (HR.out.touch HT.out (fun _ _ f=>f)) HL.out.symm i y2
   subst hA
   have hhit:=find_hit (L:=L) (i:=i) (by rw [HL.out];exact y2) k.toList
   have hmiss:=find_miss (L:=L) (i:=i) (by rw [HL.out];exact y2) k.toList
   obtain ⟨⟨xw,xn⟩,hx⟩:∃ x,x=L.getD i PRow.zero:=⟨_,rfl⟩
   rw [← hx] at a0 a1 hhit hmiss
   simp only at a0 a1 hhit hmiss
   have HH:=hide hhit
   have HM:=hide hmiss
   clear hx hhit hmiss
   by_cases hk:xw.toList=k.toList
   ·have q2:(xw.toList == k.toList)=true:=by simp [hk]
    have HK:=hide hk
    go_wp2
    rw [HH.out HK.out HD.out]
    exact bodyPost_ret (v:=.tuple #[.int .i64 xn,.bool true]) (by simp [results,Tryz.results160,go_sem]) rfl ⟨rfl,HT.out⟩
   ·have q2:(xw.toList == k.toList)=false:=by simp [hk]
    have q3:decide (xw.toList=k.toList)=false:=by simp [hk]
    have HK:=hide hk
    obtain ⟨z2,hz2⟩:∃ z2:Int,(i:Int)-1=z2:=⟨_,rfl⟩
    have hw2:IntKind.i64.wrap z2=z2:=IntWalk.i64_in _ (by omega)
    have HZ2:=hide hz2
    go_wp2
    go_roundw
    ·have hz2:=HZ2.out
     refine ⟨z2,i,rfl,by omega,hide ?_,hide (HM.out HK.out HD.out),HT⟩
     by_cases hi0:i=0
     ·exact .inl ⟨by omega,hi0⟩
     ·exact .inr ⟨i-1,by omega,by omega⟩
    ·have hz2:=HZ2.out
     show (z2+1).toNat<((i:Int)+1).toNat
     omega
end Go.Proofs.YthockgmbooefpaaGreatDoor
