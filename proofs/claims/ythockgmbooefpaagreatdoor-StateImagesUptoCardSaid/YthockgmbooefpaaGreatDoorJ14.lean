/- What the law rests on, part 14. No condition but those that each theorem names. -/
import Derived.Test.YthockgmbooefpaaGreatDoorJ13
import Derived.WideKeyArr
import Derived.WideKeyEntry
set_option linter.unusedSectionVars false
set_option linter.unusedSimpArgs false
set_option linter.unusedVariables false
namespace Go.Proofs.YthockgmbooefpaaGreatDoor
open Go.RowKit Go.WideMaps Go.WideElems Go.ChangeShapes Go.WideShapes Go.MapKept Go.ChangeMaps
theorem grp_arr:ArrKey Tryz.prog 246 3 4:=⟨Tryz.underlying246,by kernel_rfl,by kernel_rfl,by kernel_rfl⟩
theorem grp_law:KeyLaw Tryz.prog 246 := grp_arr.law
theorem grp_kt:Tryz.prog.keyType 246 = true:=by kernel_rfl
theorem cells_int:Tryz.prog.cellsOf 3 = 1:=by kernel_rfl
theorem lit_wf {x:Int} (h:I64 x):(Lit.int .i64 x).wf=true:=by
 have h1:IntKind.i64.min = -9223372036854775808:=by decide
 have h2:IntKind.i64.max=9223372036854775807:=by decide
 unfold I64 at h
 simp only [Lit.wf,h1,h2,Bool.and_eq_true,decide_eq_true_eq]
 exact h
theorem grp_key {a b c d:Int} (ha:I64 a) (hb:I64 b) (hc:I64 c) (hd:I64 d):∃ l,keyOf Tryz.prog 246 (.agg #[.int .i64 a,.int .i64 b,.int .i64 c,.int .i64 d])=some l:=by
 have hs:∃ m,Tryz.prog.types.size=m+1:=⟨Tryz.prog.types.size-1,by kernel_rfl⟩
 obtain ⟨m,hm⟩:=hs
 refine ⟨.string (keyBytes [.int .i64 a,.int .i64 b,.int .i64 c,.int .i64 d]),?_⟩
 unfold keyOf
 simp only [grp_arr.hu,grp_kt,Value.formed,grp_arr.size,Bool.true_and]
 rw [hm]
 unfold Program.keyLits
 simp only [grp_arr.hu,grp_arr.size,Value.cells]
 have e1:∀ x,I64 x→Tryz.prog.keyLits (m+1) 3 [.int .i64 x]=some [.int .i64 x]:=by
  intro x hx
  unfold Program.keyLits
  simp [Tryz.underlying3,lit_wf hx]
 simp [List.range,List.range.loop,cells_int,e1 _ ha,e1 _ hb,e1 _ hc,e1 _ hd]
def natV (k:Nat):Value:=.int .i64 k
def RowV (w:World) (m:Nat) (v:Value) (xs:List Nat):Prop:=w.ownsRow 0 3 1 v xs.length (xs.map natV)∧xs.length≤m∧∀ k∈xs,k<m
structure Grp (w:World) (B b m:Nat) (es:Array MapEntry) (clock:Nat):Prop where
 blk:w.heap[b]? = some (.map es clock)
 stamped:Stamped es clock
 keys:∀ x∈es.toList,∃ l,keyOf Tryz.prog 246 x.key=some l
 vals:∀ (i:Nat) (x:MapEntry),es[i]? = some x→∃ xs,RowV w m x.val xs
 young:∀ (i:Nat) (x:MapEntry),es[i]? = some x→∀ g,x.val.ownBlock=some g→B≤g
 apart:∀ (i j:Nat) (x y:MapEntry),es[i]? = some x→es[j]? = some y→i≠j→∀ g,x.val.ownBlock=some g→y.val.ownBlock≠some g
theorem RowV.nil (w:World) (m:Nat):RowV w m (.slice none 0 0) []:=⟨World.ownsRow_nil _ _ _ _,Nat.zero_le _,fun k hk=>(by cases hk)⟩
theorem map_ne {w:World} {g b:Nat} {t:TypeId} {es:Array MapEntry} {clock:Nat} (h:TyAt w g t) (hb:w.heap[b]? = some (.map es clock)):g≠b:=by
 obtain ⟨cs,fr,hg⟩:=h
 intro e
 rw [e,hb] at hg
 cases hg
theorem touch_setBlock (w:World) (b:Nat) (o:Obj):Touch (fun x=>x=b) w (setBlock w b o) :=
 ⟨rfl,rfl,rfl,by simp [setBlock],fun k _ hk=>by
  have:b≠k:=fun e=>hk e.symm
  simp [setBlock,this]⟩
theorem heap_setBlock {w:World} {b:Nat} {o:Obj} (h:b<w.heap.size):(setBlock w b o).heap[b]? = some o:=by
 simp [setBlock,h]
theorem map_lt {w:World} {b:Nat} {o:Obj} (h:w.heap[b]? = some o):b<w.heap.size:=by
 rcases Nat.lt_or_ge b w.heap.size with h1 | h1
 ·exact h1
 ·rw [Array.getElem?_eq_none h1] at h;cases h
theorem RowV.touch {w w':World} {m:Nat} {v:Value} {xs:List Nat} {S:Nat→Prop} (h:RowV w m v xs) (T:Touch S w w') (hs:∀ g,v.ownBlock=some g→¬ S g):RowV w' m v xs:=⟨own_touch h.1 T hs,h.2⟩
theorem Grp.quiet {w w':World} {B b m clock:Nat} {es:Array MapEntry} (h:Grp w B b m es clock) (T:Touch (fun _=>False) w w'):Grp w' B b m es clock :=
 ⟨(T.block b (map_lt h.blk) (fun f=>f)).trans h.blk,h.stamped,h.keys,fun i x hx=>by
   obtain ⟨xs,hr⟩:=h.vals i x hx
   exact ⟨xs,hr.touch T (fun _ _ f=>f)⟩,h.young,h.apart⟩
theorem Grp.far {w w':World} {B b m clock:Nat} {es:Array MapEntry} {S:Nat→Prop} (h:Grp w B b m es clock) (T:Touch S w w') (hb:¬ S b) (hs:∀ g,TyAt w g 3 → ¬ S g):Grp w' B b m es clock :=
 ⟨(T.block b (map_lt h.blk) hb).trans h.blk,h.stamped,h.keys,fun i x hx=>by
   obtain ⟨xs,hr⟩:=h.vals i x hx
   exact ⟨xs,hr.touch T (fun g hg=>hs g (own_ty hr.1 hg))⟩,h.young,h.apart⟩
theorem Grp.up {w:World} {B b m m' clock:Nat} {es:Array MapEntry} (h:Grp w B b m es clock) (hm:m≤m'):Grp w B b m' es clock :=
 ⟨h.blk,h.stamped,h.keys,fun i x hx=>by
  obtain ⟨xs,h1,h2,h3⟩:=h.vals i x hx
  exact ⟨xs,h1,by omega,fun k hk=>by have:=h3 k hk;omega⟩,h.young,h.apart⟩
theorem Grp.lookup {w:World} {B b m clock:Nat} {es:Array MapEntry} (h:Grp w B b m es clock) {key:Value} {l:Lit} (hk:keyOf Tryz.prog 246 key=some l) :
  ∃ v xs,(Instr.lookup 241 (.map (some b)) key false).run Tryz.prog w=.ok v w∧RowV w m v xs:=by
 rcases grp_law.find w hk es.toList h.keys with ⟨h1,h2⟩ | ⟨j,e0,h1,h2,h3⟩
 ·refine ⟨.slice none 0 0,[],?_,RowV.nil _ _⟩
  simp [Instr.lookup,run_underlying Tryz.underlying241,MapKept.run_getObj_map h.blk,grp_law.check w _ hk,h1,Result.andThen]
 ·obtain ⟨xs,hr⟩:=h.vals j e0 (by simpa using h2)
  refine ⟨e0.val,xs,?_,hr⟩
  simp [Instr.lookup,run_underlying Tryz.underlying241,MapKept.run_getObj_map h.blk,grp_law.check w _ hk,h1,Result.andThen]
theorem Grp.entry {w:World} {B b m clock:Nat} {es:Array MapEntry} (h:Grp w B b m es clock) {key:Value} {l:Lit} (hk:keyOf Tryz.prog 246 key=some l) :
  ∃ (es1:Array MapEntry) (clock1 j:Nat) (e0:MapEntry),(Instr.mapEntry 241 (.map (some b)) key).run Tryz.prog w=.ok (.tuple #[e0.val,goInt e0.born]) (setBlock w b (.map es1 clock1))∧Grp (setBlock w b (.map es1 clock1)) B b m es1 clock1∧es1[j]? = some e0:=by
 have hT:=fun o=>touch_setBlock w b o
 have hlt:=map_lt h.blk
 have hne:∀ (i:Nat) (x:MapEntry),es[i]? = some x→∀ g,x.val.ownBlock=some g→¬ g=b:=by
  intro i x hx g hg
  obtain ⟨xs,hr⟩:=h.vals i x hx
  exact map_ne (own_ty hr.1 hg) h.blk
 rcases grp_law.find w hk es.toList h.keys with ⟨h1,h2⟩ | ⟨j,e0,h1,h2,h3⟩
 ·refine ⟨es.push ⟨key,.slice none 0 0,clock⟩,clock+1,es.size,⟨key,.slice none 0 0,clock⟩,?_,⟨heap_setBlock hlt,stamped_push h.stamped h2,?_,?_,?_,?_⟩,by simp⟩
  ·simp [Instr.mapEntry,run_underlying Tryz.underlying241,MapKept.run_getObj_map h.blk,grp_law.check w false hk,h1,MapKept.run_setObj_map _ h.blk,Result.andThen,setBlock]
  ·intro x hx
   simp only [Array.toList_push,List.mem_append,List.mem_singleton] at hx
   rcases hx with hx | rfl
   ·exact h.keys x hx
   ·exact ⟨l,hk⟩
  ·intro i x hx
   rw [Array.getElem?_push] at hx
   split at hx
   ·injection hx with hx
    subst hx
    exact ⟨[],RowV.nil _ _⟩
   ·obtain ⟨xs,hr⟩:=h.vals i x hx
    exact ⟨xs,hr.touch (hT _) (hne i x hx)⟩
  ·intro i x hx g hg
   rw [Array.getElem?_push] at hx
   split at hx
   ·injection hx with hx
    subst hx
    cases hg
   ·exact h.young i x hx g hg
  ·intro i j x y hx hy hij g hg
   rw [Array.getElem?_push] at hx hy
   split at hx
   ·injection hx with hx
    subst hx
    cases hg
   ·split at hy
    ·injection hy with hy
     subst hy
     intro e
     cases e
    ·exact h.apart i j x y hx hy hij g hg
 ·have hj:es[j]? = some e0:=by simpa using h2
  have hsame:es.modify j (fun e=>{ e with key:=key })=es:=by
   apply Array.ext'
   rw [Array.toList_modify,modify_eq_set _ _ _ _ h2]
   have:({ e0 with key:=key }:MapEntry)=e0:=by rw [← h3]
   rw [this]
   exact set_self _ _ _ h2
  refine ⟨es,clock,j,e0,?_,⟨heap_setBlock hlt,h.stamped,h.keys,fun i x hx=>?_,h.young,h.apart⟩,hj⟩
  ·simp [Instr.mapEntry,run_underlying Tryz.underlying241,MapKept.run_getObj_map h.blk,grp_law.check w false hk,h1,hj,h3,grp_law.stays w hk,hsame,MapKept.run_setObj_map _ h.blk,Result.andThen,setBlock]
  ·obtain ⟨xs,hr⟩:=h.vals i x hx
   exact ⟨xs,hr.touch (hT _) (hne i x hx)⟩
theorem Grp.store {w w6:World} {B b m clock j:Nat} {es:Array MapEntry} {e0:MapEntry} (h:Grp w B b m es clock) (hj:es[j]? = some e0) {v1:Value} {xs:List Nat} (hg:w.grownBy w6 e0.val.ownBlock) (hf:Fresh w e0.val v1) (hv:RowV w6 (m+1) v1 xs) (hB:B≤w.heap.size) :
  ∃ es',(Instr.entryStore 241 (.map (some b)) (goInt e0.born) v1).run Tryz.prog w6=.ok () (setBlock w6 b (.map es' clock))∧Grp (setBlock w6 b (.map es' clock)) B b (m+1) es' clock:=by
 have hlt:=map_lt h.blk
 have hnb:∀ (i:Nat) (x:MapEntry),es[i]? = some x→∀ g,x.val.ownBlock=some g→¬ g=b:=by
  intro i x hx g hg
  obtain ⟨xs,hr⟩:=h.vals i x hx
  exact map_ne (own_ty hr.1 hg) h.blk
 have hT6:Touch (fun x=>e0.val.ownBlock=some x) w w6:=(Touch.refl _ _).grown hg (fun k hk _=>hk)
 have hb6:w6.heap[b]? = some (.map es clock):=(hT6.block b hlt (fun e=>hnb j e0 hj b e rfl)).trans h.blk
 have hT7:=fun o=>touch_setBlock w6 b o
 have hl:es.toList[j]? = some e0:=by simpa using hj
 have hidx:es.findIdx? (fun e=>((e.born:Nat):Int) == ((e0.born:Nat):Int))=some j:=by
  rw [findIdx_arr]
  exact findIdx_born h.stamped.2.1 hl
 have hget:∀ i:Nat,(es.modify j (fun e=>{ e with val:=v1 }))[i]? = if j=i then (es[i]?).map (fun e=>{ e with val:=v1 }) else es[i]? := by
  intro i
  rw [Array.getElem?_modify]
 refine ⟨es.modify j (fun e=>{ e with val:=v1 }),?_,⟨heap_setBlock (map_lt hb6),stamped_modify h.stamped j _ (fun _ _=>rfl) (fun _ _ _=>rfl),?_,?_,?_,?_⟩⟩
 ·simp [Instr.entryStore,MapKept.run_getObj_map hb6,asInt,asIntOf,goInt,hidx,MapKept.run_setObj_map _ hb6,Result.andThen,setBlock]
 ·intro x hx
  rw [Array.toList_modify,modify_eq_set _ _ _ _ hl] at hx
  rcases List.mem_or_eq_of_mem_set hx with hx | rfl
  ·exact h.keys x hx
  ·exact h.keys e0 (List.mem_of_getElem? hl)
 ·intro i x hx
  rw [hget] at hx
  split at hx
  ·rename_i hji
   subst hji
   rw [hj] at hx
   simp only [Option.map_some,Option.some.injEq] at hx
   subst hx
   refine ⟨xs,hv.touch (hT7 _) fun g hg' e=>?_⟩
   exact map_ne (own_ty hv.1 hg') hb6 e
  ·rename_i hji
   obtain ⟨ys,hr⟩:=(h.up (Nat.le_succ m)).vals i x hx
   refine ⟨ys,(hr.touch hT6 fun g hg' e=>?_).touch (hT7 _) (hnb i x hx)⟩
   exact h.apart j i e0 x hj hx hji g e hg'
 ·intro i x hx g hg'
  rw [hget] at hx
  split at hx
  ·rename_i hji
   subst hji
   rw [hj] at hx
   simp only [Option.map_some,Option.some.injEq] at hx
   subst hx
   rcases hf with hf | ⟨g2,e2,hf⟩
   ·simp only at hg'
    rw [hf] at hg'
    exact h.young j e0 hj g hg'
   ·simp only at hg'
    rw [e2] at hg'
    injection hg' with hg'
    omega
  ·exact h.young i x hx g hg'
 ·have hfar:∀ (i:Nat) (x:MapEntry),es[i]? = some x→j≠i→∀ g,v1.ownBlock=some g→x.val.ownBlock≠some g:=by
   intro i x hx hji g hg' e
   rcases hf with hf | ⟨g2,e2,hf⟩
   ·rw [hf] at hg'
    exact h.apart j i e0 x hj hx hji g hg' e
   ·rw [e2] at hg'
    injection hg' with hg'
    obtain ⟨ys,hr⟩:=h.vals i x hx
    have:=(own_ty hr.1 e).lt
    omega
  intro i k x y hx hy hik g hg'
  rw [hget] at hx hy
  split at hx
  ·rename_i hji
   rw [if_neg (by omega)] at hy
   subst hji
   rw [hj] at hx
   simp only [Option.map_some,Option.some.injEq] at hx
   subst hx
   exact hfar k y hy hik g hg'
  ·split at hy
   ·rename_i hji hjk
    subst hjk
    rw [hj] at hy
    simp only [Option.map_some,Option.some.injEq] at hy
    subst hy
    intro e
    exact hfar i x hx hji g e hg'
   ·exact h.apart i k x y hx hy hik g hg'
end Go.Proofs.YthockgmbooefpaaGreatDoor
namespace Go.Proofs.YthockgmbooefpaaGreatDoor
def uF (sts:List StP) (n:Nat):Nat→List S3
 | 0=>List.replicate n z3
 | i+1=>(uF sts n i).set i (sumP (uF sts n i) (sts.getD i noSt) (sts.getD i noSt).arcs.length)
theorem uF_len (sts:List StP) (n:Nat):∀ i,(uF sts n i).length=n
 | 0=>by simp [uF]
 | i+1=>by simp [uF,uF_len sts n i]
structure RightP (sts:List StP) (base:Int):Prop where
 pos:0<sts.length
 few:sts.length≤98305
 base1:1≤base
 base2:base≤1048576
 root:(sts.getD (sts.length-1) noSt).fin=false
 form:∀ i,i<sts.length→FormP i (sts.getD i noSt)
 sumB:∀ i,i<sts.length→∀ j,(0≤(sumP (uF sts sts.length i) (sts.getD i noSt) j).1∧(sumP (uF sts sts.length i) (sts.getD i noSt) j).1≤4096)∧(0≤(sumP (uF sts sts.length i) (sts.getD i noSt) j).2.1∧(sumP (uF sts sts.length i) (sts.getD i noSt) j).2.1≤24)∧(0≤(sumP (uF sts sts.length i) (sts.getD i noSt) j).2.2∧(sumP (uF sts sts.length i) (sts.getD i noSt) j).2.2≤1048576)
 sumE:∀ i,i<sts.length→∀ a∈(sts.getD i noSt).arcs,(0≤((uF sts sts.length i).getD a.2.2 z3).1∧((uF sts sts.length i).getD a.2.2 z3).1≤4096)∧(0≤((uF sts sts.length i).getD a.2.2 z3).2.1∧((uF sts sts.length i).getD a.2.2 z3).2.1≤24)∧(0≤((uF sts sts.length i).getD a.2.2 z3).2.2∧((uF sts sts.length i).getD a.2.2 z3).2.2≤1048576)
 top:base+((uF sts sts.length sts.length).getD (sts.length-1) z3).2.2≤1048576
 unalike:∀ i j,i<sts.length→j<sts.length→sts.getD i noSt=sts.getD j noSt→i=j
 vis:∃ F s',visF sts F (sts.length-1) (List.replicate sts.length false) 0=(true,s',sts.length)
theorem Her.deep {R:Rs} (h:Her R):depR R≤24:=by
 have:depR R<25:=depR_lt (by omega) fun r hr=>by have:=h.dep r hr;omega
 omega
theorem getD_get? {α:Type} {l:List α} {d:α} {i:Nat} (h:i<l.length):l[i]? = some (l.getD i d):=by
 simp [List.getD,h]
theorem sums_uF {k:KnP} (hk:Good k) (hh:∀ X∈k.rests,Her X):∀ i,i≤k.states.length→SumsTo k (uF k.states k.states.length i) i
 | 0,_=>fun j hj=>absurd hj (Nat.not_lt_zero _)
 | i+1,hi=>fun j hj R hR=>by
  have ih:=sums_uF hk hh i (by omega)
  simp only [uF]
  by_cases e:j=i
  ·subst e
   have hz:k.states[j]? = some (k.states.getD j noSt):=getD_get? (by omega)
   have hc:=hk.corr j R _ hR hz
   have hhR:=hh R (List.mem_of_getElem? hR)
   have hd:=hhR.deep
   have h:=(sum_corr ih hc hhR hd (k.states.getD j noSt).arcs.length).2.2.2.1 (Nat.le_refl _)
   rw [List.getD_eq_getElem?_getD,List.getElem?_set_self (by rw [uF_len];omega)]
   exact h
  ·rw [List.getD_eq_getElem?_getD,List.getElem?_set_ne (by omega),← List.getD_eq_getElem?_getD]
   exact ih j (by omega) R hR
theorem her_rest {R:Rs} (h:Her R):∀ r∈R,r.2≤1048576:=fun r hr=>(h.wt r hr).2
theorem right_made {L:List PRow} (hD:DictP L) (hne:L≠[]):RightP (mach L).states (mach L).base:=by
 have hm:mach L=⟨leastR (restsL L),(stateF 25 ⟨[],[]⟩ (restsL L)).1.states⟩:=by unfold mach;rw [if_neg hne]
 rw [hm]
 have M:=made hD hne
 have hher:=stateF_her 25 ⟨[],[]⟩ (restsL L) (fun X hX=>(by cases hX)) (her_dict hD)
 have htot:=tot_dict hD
 have hne2:=rests_ne hne
 obtain ⟨k,hk⟩:∃ k,k=(stateF 25 ⟨[],[]⟩ (restsL L)).1:=⟨_,rfl⟩
 rw [← hk] at M hher ⊢
 simp only
 have hwt:∀ r∈restsL L,1≤r.2∧r.2≤1048576:=by
  intro r hr
  obtain ⟨p,hp,rfl⟩:=List.mem_map.1 hr
  exact hD.weight p hp
 obtain ⟨r0,hr0,e0⟩:=leastR_mem hne2
 have hb:=hwt r0 hr0
 have hst:∀ i,i<k.states.length→k.states[i]? = some (k.states.getD i noSt):=fun i hi=>getD_get? hi
 have hre:∀ i,i<k.states.length→∃ R,k.rests[i]? = some R∧Corr k.rests i R (k.states.getD i noSt)∧Her R:=by
  intro i hi
  have hl:i<k.rests.length:=by rw [M.good.len];exact hi
  refine ⟨k.rests[i],List.getElem?_eq_getElem hl,M.good.corr i _ _ (List.getElem?_eq_getElem hl) (hst i hi),hher _ (List.getElem_mem hl)⟩
 have hsums:=sums_uF M.good hher
 have hlast:k.states.length-1<k.states.length:=by have:=M.pos;omega
 refine ⟨M.pos,by have:=M.few;omega,by omega,by omega,?_,?_,?_,?_,?_,?_,⟨25,_,M.vis 25 (Nat.le_refl _)⟩⟩
 ·obtain ⟨R,hR,hc,_⟩:=hre _ hlast
  rw [M.root] at hR
  injection hR with hR
  subst hR
  rw [hc.fin]
  cases hf:finR (levelR (restsL L)) with
  | false=>rfl
  | true =>
   exfalso
   obtain ⟨n,hn⟩:=finR_iff.1 hf
   have h1:=mem_level.1 hn
   obtain ⟨p,hp,e⟩:=List.mem_map.1 h1
   simp only [Prod.mk.injEq] at e
   have:=(hD.word p hp).2.2.1
   rw [e.1] at this
   simp at this
 ·intro i hi
  obtain ⟨R,hR,hc,hh⟩:=hre i hi
  exact form_corr hc hh
 ·intro i hi j
  obtain ⟨R,hR,hc,hh⟩:=hre i hi
  obtain ⟨h1,h2,h3,_,_⟩:=sum_corr (hsums i (by omega)) hc hh hh.deep j
  refine ⟨h1,⟨h2.1,?_⟩,h3.1,h3.2 _ (her_rest hh)⟩
  have:=hh.deep
  omega
 ·intro i hi a ha
  obtain ⟨R,hR,hc,hh⟩:=hre i hi
  obtain ⟨h1,h2,h3,h4,h5,h6⟩:=(sum_corr (hsums i (by omega)) hc hh hh.deep 0).2.2.2.2 a ha
  exact ⟨⟨h1,h2⟩,⟨h3,h4⟩,h5,h6⟩
 ·have h:=hsums k.states.length (Nat.le_refl _) (k.states.length-1) hlast _ M.root
  have h2:=h.wt1 (1048576-leastR (restsL L)) fun r hr=>by
   have h3:=hwt _ (mem_level.1 (show (r.1,r.2)∈levelR (restsL L) from hr))
   simp only at h3
   omega
  omega
 ·intro i j hi hj e
  have h1:=hst i hi
  have h2:=hst j hj
  rw [← e] at h2
  exact M.good.unalike h1 h2
end Go.Proofs.YthockgmbooefpaaGreatDoor
