/- What the law rests on, part 31. No condition but those that each theorem names. -/
import Derived.Test.YthockgmbooefpaaDoorD30
import Derived.Test.YthockgmbooefpaaDoorD16
import Derived.Maps.Keyed
set_option linter.unusedSectionVars false
set_option linter.unusedSimpArgs false
set_option linter.unusedVariables false
namespace Go.Proofs.YthockgmbooefpaaDoor
open Go.RowKit Go.WideMaps Go.WideElems Go.ChangeShapes Go.WideShapes Go.MapKept Go.ChangeMaps
theorem lnk_law:KeyLaw Tryd.prog 179 := deep_law (m:=2) (by decide) (by kernel_rfl) (by kernel_rfl) (by kernel_rfl)
theorem lnk_keyed:Maps.Keyed Tryd.prog 179 := Maps.Keyed.of_law lnk_law
theorem num_keyed:Maps.Keyed Tryd.prog 3 := Maps.int_keyed Tryd.underlying3
structure Itn (w:World) (b:Nat) (kt:TypeId) (ks:List Value):Prop where
 ex:∃ es clock,w.heap[b]? = some (.map es clock)∧Stamped es clock∧es.toList.map (·.key)=ks∧es.toList.map (·.val)=(List.range ks.length).map natV
 keys:∀ v∈ks,∃ l,keyOf Tryd.prog kt v=some l
 nodup:ks.Nodup
theorem Itn.lt {w:World} {b:Nat} {kt:TypeId} {ks:List Value} (h:Itn w b kt ks):b<w.heap.size:=by
 obtain ⟨es,clock,hb,_⟩:=h.ex
 exact map_lt hb
theorem Itn.far {w w':World} {b:Nat} {kt:TypeId} {ks:List Value} {S:Nat→Prop} (h:Itn w b kt ks) (T:Touch S w w') (hb:¬ S b):Itn w' b kt ks:=by
 obtain ⟨es,clock,e1,e2⟩:=h.ex
 exact ⟨⟨es,clock,(T.block b h.lt hb).trans e1,e2⟩,h.keys,h.nodup⟩
theorem Itn.quiet {w w':World} {b:Nat} {kt:TypeId} {ks:List Value} (h:Itn w b kt ks) (T:Touch (fun _=>False) w w'):Itn w' b kt ks:=h.far T (fun f=>f)
theorem Itn.ne {w:World} {g b:Nat} {kt t:TypeId} {ks:List Value} (h:Itn w b kt ks) (hg:TyAt w g t):g≠b:=by
 obtain ⟨es,clock,hb,_⟩:=h.ex
 exact map_ne hg hb
theorem Itn.new (w:World) (kt:TypeId):Itn (w.alloc (.map #[] 0)) w.heap.size kt []:=⟨⟨#[],0,heap_alloc_new w _,stamped_empty 0,rfl,rfl⟩,fun v hv=>(by cases hv),List.nodup_nil⟩
theorem Itn.look {w:World} {b:Nat} {mt kt:TypeId} {ks:List Value} (h:Itn w b kt ks) (K:Maps.Keyed Tryd.prog kt) (ht:Tryd.prog.underlying mt=some (.map kt 3)) {v:Value} {l:Lit} (hv:keyOf Tryd.prog kt v=some l) :
  (v ∉ ks∧(Instr.lookup mt (.map (some b)) v true).run Tryd.prog w=.ok (.tuple #[.int .i64 0,.bool false]) w) ∨
  ∃ i:Nat,ks[i]? = some v∧(Instr.lookup mt (.map (some b)) v true).run Tryd.prog w=.ok (.tuple #[.int .i64 i,.bool true]) w:=by
 obtain ⟨es,clock,hb,_,hk,hvl⟩:=h.ex
 have hz:(zeroValue 3).run Tryd.prog w=.ok (.int .i64 0) w:=by kernel_rfl
 have hkeys:∀ e∈es.toList,∃ l,keyOf Tryd.prog kt e.key=some l:=fun e he=>h.keys e.key (by rw [← hk];exact List.mem_map_of_mem he)
 rcases K.find w hv es.toList hkeys with ⟨h1,h2⟩ | ⟨j,e0,h1,h2,h3⟩
 ·refine .inl ⟨fun hm=>?_,by simp [Instr.lookup,run_underlying ht,MapKept.run_getObj_map hb,K.check w _ hv,h1,hz,Result.andThen]⟩
  rw [← hk] at hm
  obtain ⟨e,he,e2⟩:=List.mem_map.1 hm
  exact h2 e he e2
 ·have hkj:ks[j]? = some v:=by rw [← hk,List.getElem?_map,h2,← h3];rfl
  have hvj:e0.val=natV j:=by
   have e1:(es.toList.map (·.val))[j]? = some e0.val:=by rw [List.getElem?_map,h2];rfl
   rw [hvl,List.getElem?_map,List.getElem?_range (List.getElem?_eq_some_iff.1 hkj).1] at e1
   simp only [Option.map_some,Option.some.injEq] at e1
   exact e1.symm
  refine .inr ⟨j,hkj,?_⟩
  simp [Instr.lookup,run_underlying ht,MapKept.run_getObj_map hb,K.check w _ hv,h1,Result.andThen,hvj,natV]
theorem Itn.len {w:World} {b:Nat} {mt kt:TypeId} {ks:List Value} (h:Itn w b kt ks) (ht:Tryd.prog.underlying mt=some (.map kt 3)) (ty:TypeId):(Builtin.len_ #[mt] ty #[.map (some b)]).run Tryd.prog w=.ok (.int .i64 (ks.length:Int)) w:=by
 obtain ⟨es,clock,hb,_,hk,_⟩:=h.ex
 have hs:es.size=ks.length:=by rw [← hk,List.length_map,Array.length_toList]
 simp [Builtin.len_,run_underlying ht,MapKept.run_getObj_map hb,goInt,hs]
theorem Itn.no {w:World} {b:Nat} {mt kt:TypeId} {ks:List Value} (h:Itn w b kt ks) (K:Maps.Keyed Tryd.prog kt) (ht:Tryd.prog.underlying mt=some (.map kt 3)) {v:Value} {l:Lit} (hv:keyOf Tryd.prog kt v=some l) (hn:v ∉ ks) :
  (Instr.lookup mt (.map (some b)) v true).run Tryd.prog w=.ok (.tuple #[.int .i64 0,.bool false]) w:=by
 rcases h.look K ht hv with ⟨_,h1⟩ | ⟨i,h1,_⟩
 ·exact h1
 ·exact absurd (List.mem_of_getElem? h1) hn
theorem Itn.yes {w:World} {b:Nat} {mt kt:TypeId} {ks:List Value} (h:Itn w b kt ks) (K:Maps.Keyed Tryd.prog kt) (ht:Tryd.prog.underlying mt=some (.map kt 3)) {v:Value} {l:Lit} (hv:keyOf Tryd.prog kt v=some l) {i:Nat} (hi:ks[i]? = some v) :
  (Instr.lookup mt (.map (some b)) v true).run Tryd.prog w=.ok (.tuple #[.int .i64 i,.bool true]) w:=by
 rcases h.look K ht hv with ⟨h1,_⟩ | ⟨j,h1,h2⟩
 ·exact absurd (List.mem_of_getElem? hi) h1
 ·obtain ⟨l1,e1⟩:=List.getElem?_eq_some_iff.1 hi
  obtain ⟨l2,e2⟩:=List.getElem?_eq_some_iff.1 h1
  rw [(List.getElem_inj h.nodup).1 (e1.trans e2.symm)]
  exact h2
theorem Itn.put {w:World} {b:Nat} {mt kt:TypeId} {ks:List Value} (h:Itn w b kt ks) (K:Maps.Keyed Tryd.prog kt) (ht:Tryd.prog.underlying mt=some (.map kt 3)) {v:Value} {l:Lit} (hv:keyOf Tryd.prog kt v=some l) (hn:v ∉ ks) :
  ∃ o,(Instr.mapUpdate mt (.map (some b)) v (.int .i64 (ks.length:Int))).run Tryd.prog w=.ok () (setBlock w b o)∧Itn (setBlock w b o) b kt (ks++[v]):=by
 obtain ⟨es,clock,hb,hs,hk,hvl⟩:=h.ex
 have hkeys:∀ e∈es.toList,∃ l,keyOf Tryd.prog kt e.key=some l:=fun e he=>h.keys e.key (by rw [← hk];exact List.mem_map_of_mem he)
 rcases K.find w hv es.toList hkeys with ⟨h1,h2⟩ | ⟨j,e0,h1,h2,h3⟩
 ·refine ⟨.map (es.push ⟨v,.int .i64 (ks.length:Int),clock⟩) (clock+1),?_,⟨⟨_,_,heap_setBlock h.lt,stamped_push hs h2,?_,?_⟩,?_,?_⟩⟩
  ·simp [Instr.mapUpdate,run_underlying ht,MapKept.run_getObj_map hb,K.check w false hv,h1,MapKept.run_setObj_map _ hb,Result.andThen,setBlock]
  ·rw [Array.toList_push,List.map_append,hk];rfl
  ·rw [Array.toList_push,List.map_append,hvl,List.length_append,List.length_singleton,List.range_succ,List.map_append];rfl
  ·intro x hx
   rcases List.mem_append.1 hx with hx | hx
   ·exact h.keys x hx
   ·rw [List.mem_singleton.1 hx];exact ⟨l,hv⟩
  ·rw [List.nodup_append]
   refine ⟨h.nodup,by simp,?_⟩
   intro a ha c hc e
   rw [List.mem_singleton.1 hc] at e
   exact hn (e ▸ ha)
 ·exfalso
  apply hn
  rw [← hk,← h3]
  exact List.mem_map_of_mem (List.mem_of_getElem? h2)
def endKey (fin:Bool) (out:Int):Value:=.agg #[.bool fin,.int .i64 out,.int .i64 0,.int .i64 0,.int .i64 (-1),.int .i64 0]
def arcKey (a:Nat × Int × Nat) (k:Nat):Value:=.agg #[.bool false,.int .i64 0,.int .i64 (a.1:Int),.int .i64 a.2.1,.int .i64 (a.2.2:Int),.int .i64 ((k:Int)+1)]
theorem end_inj {f g:Bool} {o p:Int} (h:endKey f o=endKey g p):f=g∧o=p:=by
 unfold endKey at h
 simp only [Value.agg.injEq,Array.mk.injEq,List.cons.injEq,Value.bool.injEq,Value.int.injEq,true_and,and_true] at h
 exact h
theorem arc_inj {a b:Nat × Int × Nat} {k m:Nat} (h:arcKey a k=arcKey b m):a=b∧k=m:=by
 obtain ⟨a1,a2,a3⟩:=a
 obtain ⟨b1,b2,b3⟩:=b
 unfold arcKey at h
 simp only [Value.agg.injEq,Array.mk.injEq,List.cons.injEq,Value.int.injEq,true_and,and_true] at h
 obtain ⟨h1,h2,h3,h4⟩:=h
 exact ⟨by rw [show a1=b1 by omega,h2,show a3=b3 by omega],by omega⟩
theorem end_arc {f:Bool} {o:Int} {a:Nat × Int × Nat} {k:Nat} (h:endKey f o=arcKey a k):False:=by
 unfold endKey arcKey at h
 simp only [Value.agg.injEq,Array.mk.injEq,List.cons.injEq,Value.bool.injEq,Value.int.injEq,true_and,and_true] at h
 omega
theorem lnk_kt:Tryd.prog.keyType 179 = true:=by kernel_rfl
theorem lnk_size:Tryd.prog.cellsOf 179 = 6:=by kernel_rfl
theorem cells_bool:Tryd.prog.cellsOf 4 = 1:=by kernel_rfl
theorem lnk_key {b:Bool} {x1 x2 x3 x4 x5:Int} (h1:I64 x1) (h2:I64 x2) (h3:I64 x3) (h4:I64 x4) (h5:I64 x5):∃ l,keyOf Tryd.prog 179 (.agg #[.bool b,.int .i64 x1,.int .i64 x2,.int .i64 x3,.int .i64 x4,.int .i64 x5])=some l:=by
 have hs:∃ m,Tryd.prog.types.size=m+1:=⟨Tryd.prog.types.size-1,by kernel_rfl⟩
 obtain ⟨m,hm⟩:=hs
 refine ⟨.string (keyBytes [.bool b,.int .i64 x1,.int .i64 x2,.int .i64 x3,.int .i64 x4,.int .i64 x5]),?_⟩
 have e0:Tryd.prog.keyLits (m+1) 4 [.bool b]=some [.bool b]:=by
  unfold Program.keyLits
  simp [Tryd.underlying4]
 have e1:∀ x,I64 x→Tryd.prog.keyLits (m+1) 3 [.int .i64 x]=some [.int .i64 x]:=by
  intro x hx
  unfold Program.keyLits
  simp [Tryd.underlying3,lit_wf hx]
 unfold keyOf
 simp only [Tryd.underlying179,lnk_kt,Value.formed,lnk_size,Bool.true_and]
 rw [hm]
 unfold Program.keyLits
 simp only [Tryd.underlying179,lnk_size,Value.cells]
 simp [cells_int,cells_bool,e0,e1 _ h1,e1 _ h2,e1 _ h3,e1 _ h4,e1 _ h5]
def chainR (Lk:List Value) (fin:Bool) (out:Int):List (Nat × Int × Nat)→Nat→Prop
 | [],k=>Lk[k]? = some (endKey fin out)
 | a :: l,k=>∃ m,chainR Lk fin out l m∧Lk[k]? = some (arcKey a m)
theorem nodup_at {α:Type} {l:List α} (h:l.Nodup) {i j:Nat} {x:α} (hi:l[i]? = some x) (hj:l[j]? = some x):i=j:=by
 obtain ⟨l1,e1⟩:=List.getElem?_eq_some_iff.1 hi
 obtain ⟨l2,e2⟩:=List.getElem?_eq_some_iff.1 hj
 exact (List.getElem_inj h).1 (e1.trans e2.symm)
theorem chain_fun {Lk:List Value} (h:Lk.Nodup) {fin:Bool} {out:Int}:∀ (l:List (Nat × Int × Nat)) {k m:Nat},chainR Lk fin out l k→chainR Lk fin out l m→k=m
 | [],_,_,h1,h2=>nodup_at h h1 h2
 | a :: l,_,_,⟨x,h1,e1⟩,⟨y,h2,e2⟩=>by
  obtain rfl:=chain_fun h l h1 h2
  exact nodup_at h e1 e2
theorem chain_inj {Lk:List Value} {f g:Bool} {o p:Int}:∀ (l m:List (Nat × Int × Nat)) {k:Nat},chainR Lk f o l k→chainR Lk g p m k→f=g∧o=p∧l=m
 | [],[],k,h1,h2=>by
  have h1:Lk[k]? = some (endKey f o):=h1
  have h2:Lk[k]? = some (endKey g p):=h2
  rw [h1] at h2
  obtain ⟨e1,e2⟩:=end_inj (Option.some.inj h2)
  exact ⟨e1,e2,rfl⟩
 | [],b :: m,k,h1,⟨y,_,e2⟩=>by
  have h1:Lk[k]? = some (endKey f o):=h1
  rw [h1] at e2
  exact (end_arc (Option.some.inj e2)).elim
 | a :: l,[],k,⟨x,_,e1⟩,h2=>by
  have h2:Lk[k]? = some (endKey g p):=h2
  rw [h2] at e1
  exact (end_arc (Option.some.inj e1)).elim
 | a :: l,b :: m,_,⟨x,h1,e1⟩,⟨y,h2,e2⟩=>by
  rw [e1] at e2
  obtain ⟨rfl,rfl⟩:=arc_inj (Option.some.inj e2)
  obtain ⟨r1,r2,r3⟩:=chain_inj l m h1 h2
  exact ⟨r1,r2,by rw [r3]⟩
theorem chain_ext {Lk M:List Value} {fin:Bool} {out:Int}:∀ (l:List (Nat × Int × Nat)) {k:Nat},chainR Lk fin out l k→chainR (Lk++M) fin out l k
 | [],k,h=>by
  have h:Lk[k]? = _:=h
  show (Lk++M)[k]? = _
  rw [List.getElem?_append_left (List.getElem?_eq_some_iff.1 h).1]
  exact h
 | a :: l,k,⟨x,h1,e1⟩=>⟨x,chain_ext l h1,by rw [List.getElem?_append_left (List.getElem?_eq_some_iff.1 e1).1];exact e1⟩
theorem chain_lt {Lk:List Value} {fin:Bool} {out:Int}:∀ (l:List (Nat × Int × Nat)) {k:Nat},chainR Lk fin out l k→k<Lk.length
 | [],_,h=>(List.getElem?_eq_some_iff.1 h).1
 | _ :: _,_,⟨_,_,e⟩=>(List.getElem?_eq_some_iff.1 e).1
structure TabP (Lk:List Value) (K:List StP) (Bk:List Nat):Prop where
 len:Bk.length=K.length
 says:∀ (j:Nat) (s:StP) (k:Nat),K[j]? = some s→Bk[j]? = some k→chainR Lk s.fin s.out s.arcs k
theorem TabP.ext {Lk M:List Value} {K:List StP} {Bk:List Nat} (h:TabP Lk K Bk):TabP (Lk++M) K Bk:=⟨h.len,fun j s k h1 h2=>chain_ext _ (h.says j s k h1 h2)⟩
theorem TabP.old {Lk:List Value} {K:List StP} {Bk:List Nat} (h:TabP Lk K Bk) (hL:Lk.Nodup) (hB:Bk.Nodup) {s:StP} {k j:Nat} (hs:chainR Lk s.fin s.out s.arcs k) (hj:Bk[j]? = some k):addS K s=(K,j):=by
 obtain ⟨x,hx⟩:∃ x,K[j]? = some x:=by
  have:=(List.getElem?_eq_some_iff.1 hj).1
  rw [h.len] at this
  exact ⟨_,List.getElem?_eq_getElem this⟩
 obtain ⟨e1,e2,e3⟩:=chain_inj _ _ (h.says j x k hx hj) hs
 obtain rfl:x=s:=by
  obtain ⟨x1,x2,x3⟩:=x
  obtain ⟨s1,s2,s3⟩:=s
  simp only at e1 e2 e3
  rw [e1,e2,e3]
 refine addS_some hx fun i hi=>?_
 obtain ⟨m,hm⟩:∃ m,Bk[i]? = some m:=by
  have:=(List.getElem?_eq_some_iff.1 hi).1
  rw [← h.len] at this
  exact ⟨_,List.getElem?_eq_getElem this⟩
 obtain rfl:=chain_fun hL _ (h.says i x m hi hm) hs
 exact nodup_at hB hm hj
theorem TabP.new {Lk:List Value} {K:List StP} {Bk:List Nat} (h:TabP Lk K Bk) (hL:Lk.Nodup) {s:StP} {k:Nat} (hs:chainR Lk s.fin s.out s.arcs k) (hk:k ∉ Bk):addS K s=(K++[s],K.length)∧TabP Lk (K++[s]) (Bk++[k]):=by
 refine ⟨addS_none fun hm=>?_,by simp [h.len],fun j x m hx hm=>?_⟩
 ·obtain ⟨j,hj,e⟩:=List.getElem_of_mem hm
  have hjB:j<Bk.length:=by rw [h.len];exact hj
  have h1:=h.says j s Bk[j] (by rw [List.getElem?_eq_getElem hj,e]) (List.getElem?_eq_getElem hjB)
  rw [chain_fun hL _ hs h1] at hk
  exact hk (List.getElem_mem hjB)
 ·by_cases hj:j<K.length
  ·rw [List.getElem?_append_left hj] at hx
   rw [List.getElem?_append_left (by rw [h.len];exact hj)] at hm
   exact h.says j x m hx hm
  ·have hj2:j=K.length:=by
    have:=(List.getElem?_eq_some_iff.1 hx).1
    rw [List.length_append] at this
    simp at this
    omega
   subst hj2
   rw [List.getElem?_append_right (Nat.le_refl _),Nat.sub_self] at hx
   rw [← h.len,List.getElem?_append_right (Nat.le_refl _),Nat.sub_self] at hm
   simp only [List.getElem?_cons_zero,Option.some.injEq] at hx hm
   subst hx hm
   exact hs
end Go.Proofs.YthockgmbooefpaaDoor
