/- What the law rests on, part 9. No condition but those that each theorem names. -/
import Derived.Test.YthockgmbooefpaaGreatDoorL02
import Derived.Test.YthockgmbooefpaaGreatDoorL06
import Derived.Maps.Keyed
import Derived.BigQuiet
import Derived.RangeFuncNested
import Derived.RangeFuncBound
import Derived.RangeFuncCalls
import Derived.RangeFuncLeaves
import Derived.Shelf.Abstract
import Derived.Shelf.RegionOpen
import Derived.OwnWalkIn
import Derived.TacticsInMore
import Derived.LoopNIn
import Derived.LoopIn
set_option linter.unusedSectionVars false
set_option linter.unusedSimpArgs false
set_option linter.unusedVariables false
set_option maxRecDepth 100000
set_option maxHeartbeats 2000000
namespace Go.Proofs.YthockgmbooefpaaGreatDoor
deriving instance DecidableEq for StP
def addS (K:List StP) (s:StP):List StP × Nat:=match K.findIdx? (fun x=>decide (x=s)) with
 | some i=>(K,i)
 | none=>(K++[s],K.length)
def fstArcs (st:List StP→Rs→List StP × Nat) (low:Int) (R:Rs):List StP→List Nat→List StP × List (Nat × Int × Nat)
 | K,[]=>(K,[])
 | K,c :: cs=>((fstArcs st low R (st K (underR R c)).1 cs).1,(c,leastR (underR R c)-low,(st K (underR R c)).2) :: (fstArcs st low R (st K (underR R c)).1 cs).2)
def fstOut (R:Rs):Int:=if finR R=true then outR R-leastR R else 0
def fstF:Nat→List StP→Rs→List StP × Nat
 | 0,K,_=>(K,0)
 | f+1,K,R=>addS (fstArcs (fstF f) (leastR R) R K (firstsR R)).1 ⟨finR R,fstOut R,(fstArcs (fstF f) (leastR R) R K (firstsR R)).2⟩
theorem fstArcs_snoc (st:List StP→Rs→List StP × Nat) (low:Int) (R:Rs) (c:Nat):∀ (cs:List Nat) (K:List StP),fstArcs st low R K (cs++[c])=((st (fstArcs st low R K cs).1 (underR R c)).1,(fstArcs st low R K cs).2++[(c,leastR (underR R c)-low,(st (fstArcs st low R K cs).1 (underR R c)).2)])
 | [],K=>rfl
 | d :: cs,K=>by
  simp only [List.cons_append,fstArcs]
  rw [fstArcs_snoc st low R c cs]
theorem addS_some {K:List StP} {s:StP} {i:Nat} (h:K[i]? = some s) (hu:∀ j,K[j]? = some s→j=i):addS K s=(K,i):=by
 unfold addS
 cases hf:K.findIdx? (fun x=>decide (x=s)) with
 | some j =>
  obtain ⟨hj,h1,_⟩:=List.findIdx?_eq_some_iff_getElem.1 hf
  rw [hu j (List.getElem?_eq_some_iff.2 ⟨hj,of_decide_eq_true h1⟩)]
 | none =>
  rw [List.findIdx?_eq_none_iff] at hf
  have:=hf s (List.mem_of_getElem? h)
  simp at this
theorem addS_none {K:List StP} {s:StP} (h:s ∉ K):addS K s=(K++[s],K.length):=by
 unfold addS
 cases hf:K.findIdx? (fun x=>decide (x=s)) with
 | none=>rfl
 | some j =>
  obtain ⟨hj,h1,_⟩:=List.findIdx?_eq_some_iff_getElem.1 hf
  have e:K[j]=s:=of_decide_eq_true h1
  exact absurd (e ▸ List.getElem_mem hj) h
theorem stateF_level {f:Nat} {k:KnP} {l m:Rs} (h:levelR l=levelR m):stateF f k l=stateF f k m:=by
 cases f with
 | zero=>rfl
 | succ f=>simp only [stateF,h]
theorem firsts_level (l:Rs) (hs:SortR l):firstsR (levelR l)=firstsR l:=by
 have h1:=firsts_sorted (sort_level hs)
 have h2:=firsts_sorted hs
 refine sorted_ext (lt:=(·<·)) (fun a=>Nat.lt_irrefl a) (fun a b h=>Nat.not_lt_of_lt h) h1 h2 fun c=>?_
 rw [mem_firsts,mem_firsts,level_shift,under_shift]
 unfold shiftR
 simp
theorem fin_level (l:Rs):finR (levelR l)=finR l:=by
 rw [Bool.eq_iff_iff,finR_iff,finR_iff]
 constructor
 ·rintro ⟨n,h⟩
  exact ⟨_,mem_level.1 h⟩
 ·rintro ⟨n,h⟩
  exact ⟨n-leastR l,mem_level.2 (by rw [Int.sub_add_cancel];exact h)⟩
theorem out_level (l:Rs) (hs:SortR l):outR (levelR l)=fstOut l:=by
 unfold fstOut
 by_cases h:finR l=true
 ·rw [if_pos h]
  obtain ⟨n,hn⟩:=finR_iff.1 h
  rw [outR_mem hs hn]
  exact outR_mem (sort_level hs) (mem_level.2 (by rw [Int.sub_add_cancel];exact hn))
 ·rw [if_neg h]
  exact outR_none (sort_level hs) (by rw [fin_level];simpa using h)
theorem under_level (l:Rs) (c:Nat):levelR (underR (levelR l) c)=levelR (underR l c):=by
 rw [level_shift l,under_shift,level_of_shift]
theorem leastu_level (l:Rs) {c:Nat} (h:underR l c≠[]):leastR (underR (levelR l) c)=leastR (underR l c)-leastR l:=by
 rw [level_shift l,under_shift,least_shift _ h]
def FstIs (f:Nat):Prop:=∀ (k:KnP) (R:Rs),Good k→SortR R→R≠[]→depR R<f→fstF f k.states R=((stateF f k R).1.states,(stateF f k R).2)
theorem arcs_new {f:Nat} (ih:FstIs f) {R:Rs} (hs:SortR R) (hd:depR R≤f):∀ (cs:List Nat) (k:KnP),Good k→(∀ c∈cs,underR R c≠[]) →
  fstArcs (fstF f) (leastR R) R k.states cs=((arcsF (stateF f) (levelR R) k cs).1.states,(arcsF (stateF f) (levelR R) k cs).2)
 | [],k,_,_=>rfl
 | c :: cs,k,hk,hc=>by
  have hc1:=hc c (List.mem_cons_self)
  have hdu:=depR_under hc1
  have h1:=ih k (underR R c) hk (sort_under c hs) hc1 (by omega)
  have h2:=stateF_ok f k (underR R c) hk (sort_under c hs) hc1 (by omega)
  have h3:=arcs_new ih hs hd cs (stateF f k (underR R c)).1 h2.1 (fun d hd=>hc d (List.mem_cons_of_mem _ hd))
  have h4:stateF f k (underR (levelR R) c)=stateF f k (underR R c):=stateF_level (under_level R c)
  simp only [fstArcs,arcsF,h1,h3,h4,leastu_level R hc1]
theorem arcs_old {f:Nat} (ih:FstIs f) {R:Rs} (hs:SortR R) (hd:depR R≤f) {k:KnP} (hk:Good k) {i:Nat} {s:StP} (hi:k.rests[i]? = some (levelR R)) (hc:Corr k.rests i (levelR R) s):∀ (xs:List (Nat × Int × Nat)),(∀ a∈xs,a∈s.arcs) →
  fstArcs (fstF f) (leastR R) R k.states (xs.map (·.1))=(k.states,xs)
 | [],_=>rfl
 | a :: xs,ha=>by
  have h0:=ha a (List.mem_cons_self)
  have hm:a.1∈firstsR (levelR R):=by rw [← hc.labels];exact List.mem_map_of_mem h0
  have hc1:underR R a.1≠[]:=by rw [firsts_level R hs] at hm;exact mem_firsts.1 hm
  have hdu:=depR_under hc1
  obtain ⟨g1,g2,g3⟩:=hc.arc a h0
  rw [under_level] at g3
  rw [leastu_level R hc1] at g1
  have h1:=ih k (underR R a.1) hk (sort_under a.1 hs) hc1 (by omega)
  have h2:stateF f k (underR R a.1)=(k,a.2.2):=by
   cases f with
   | zero=>omega
   | succ f =>
    have hx:idxR k.rests (levelR (underR R a.1))=some a.2.2:=by
     cases hx:idxR k.rests (levelR (underR R a.1)) with
     | none=>exact absurd (List.mem_of_getElem? g3) (idxR_none hx)
     | some j =>
      have hj:=idxR_some hx
      obtain ⟨l1,e1⟩:=List.getElem?_eq_some_iff.1 hj
      obtain ⟨l2,e2⟩:=List.getElem?_eq_some_iff.1 g3
      rw [(List.getElem_inj hk.nodup).1 (e1.trans e2.symm)]
    simp only [stateF,hx]
  rw [h2] at h1
  have h3:=arcs_old ih hs hd hk hi hc xs (fun d hd=>ha d (List.mem_cons_of_mem _ hd))
  simp only [List.map_cons,fstArcs,h1,h3,← g1]
theorem fst_is:∀ f,FstIs f
 | 0=>fun _ _ _ _ _ h=>absurd h (Nat.not_lt_zero _)
 | f+1=>fun k R hk hs hne hd=>by
  have hlf:=firsts_level R hs
  simp only [fstF,stateF]
  cases hi:idxR k.rests (levelR R) with
  | some i =>
   have hR:=idxR_some hi
   obtain ⟨s,hsi⟩:∃ s,k.states[i]? = some s:=by
    have:=(List.getElem?_eq_some_iff.1 hR).1
    rw [hk.len] at this
    exact ⟨_,List.getElem?_eq_getElem this⟩
   have hc:=hk.corr i _ _ hR hsi
   have ha:=arcs_old (fst_is f) hs (by omega) hk hR hc s.arcs (fun _ h=>h)
   rw [hc.labels,hlf] at ha
   rw [ha]
   have he:(⟨finR R,fstOut R,s.arcs⟩:StP)=s:=by
    obtain ⟨sf,so,sa⟩:=s
    have h1:=hc.fin
    have h2:=hc.out
    simp only at h1 h2
    rw [fin_level] at h1
    rw [out_level R hs] at h2
    rw [h1,h2]
   simp only
   rw [he]
   exact addS_some hsi (fun j hj=>hk.unalike hj hsi)
  | none =>
   have hsl:=sort_level hs
   have ha:=arcs_new (fst_is f) hs (by omega) (firstsR R) k hk (fun c hc=>mem_firsts.1 hc)
   rw [ha]
   obtain ⟨h1,h2,h3,h4⟩:=arcs_ok (stateF_ok f) hsl (by rw [depR_level];omega) (firstsR (levelR R)) k hk (fun c hc=>mem_firsts.1 hc)
   rw [hlf] at h1 h2 h3 h4 ⊢
   have hnew:=new_ok (idxR_none hi) hsl (level_ne hne) (least_level hne) h1 h2 (by rw [hlf];exact h3) h4
   simp only
   rw [← fin_level R,← out_level R hs]
   refine addS_none fun hm=>?_
   obtain ⟨j,hj,e⟩:=List.getElem_of_mem hm
   have e1:((arcsF (stateF f) (levelR R) k (firstsR R)).1.states++[(⟨finR (levelR R),outR (levelR R),(arcsF (stateF f) (levelR R) k (firstsR R)).2⟩:StP)])[j]? = some ⟨finR (levelR R),outR (levelR R),(arcsF (stateF f) (levelR R) k (firstsR R)).2⟩:=by
    rw [List.getElem?_append_left hj,List.getElem?_eq_getElem hj,e]
   have e2:((arcsF (stateF f) (levelR R) k (firstsR R)).1.states++[(⟨finR (levelR R),outR (levelR R),(arcsF (stateF f) (levelR R) k (firstsR R)).2⟩:StP)])[(arcsF (stateF f) (levelR R) k (firstsR R)).1.states.length]? = some ⟨finR (levelR R),outR (levelR R),(arcsF (stateF f) (levelR R) k (firstsR R)).2⟩:=by
    rw [List.getElem?_append_right (Nat.le_refl _),Nat.sub_self]
    rfl
   have:=hnew.unalike e1 e2
   omega
end Go.Proofs.YthockgmbooefpaaGreatDoor
namespace Go.Proofs.YthockgmbooefpaaGreatDoor
open Go.RowKit Go.WideMaps Go.WideElems Go.ChangeShapes Go.WideShapes Go.MapKept Go.ChangeMaps
theorem lnk_law:KeyLaw Tryz.prog 281 := deep_law (m:=2) (by decide) (by kernel_rfl) (by kernel_rfl) (by kernel_rfl)
theorem lnk_keyed:Maps.Keyed Tryz.prog 281 := Maps.Keyed.of_law lnk_law
theorem num_keyed:Maps.Keyed Tryz.prog 3 := Maps.int_keyed Tryz.underlying3
structure Itn (w:World) (b:Nat) (kt:TypeId) (ks:List Value):Prop where
 ex:∃ es clock,w.heap[b]? = some (.map es clock)∧Stamped es clock∧es.toList.map (·.key)=ks∧es.toList.map (·.val)=(List.range ks.length).map natV
 keys:∀ v∈ks,∃ l,keyOf Tryz.prog kt v=some l
 nodup:ks.Nodup
theorem Itn.lt {w:World} {b:Nat} {kt:TypeId} {ks:List Value} (h:Itn w b kt ks):b<w.heap.size:=by
 obtain ⟨es,clock,hb,_⟩:=h.ex
 exact map_lt hb
theorem Itn.far {w w':World} {b:Nat} {kt:TypeId} {ks:List Value} {S:Nat→Prop} (h:Itn w b kt ks) (T:Touch S w w') (hb:¬ S b):Itn w' b kt ks:=by
 obtain ⟨es,clock,e1,e2⟩:=h.ex
 exact ⟨⟨es,clock,(T.block b h.lt hb).trans e1,e2⟩,h.keys,h.nodup⟩
theorem Itn.quiet {w w':World} {b:Nat} {kt:TypeId} {ks:List Value} (h:Itn w b kt ks) (T:Touch (fun _=>False) w w'):Itn w' b kt ks:=h.far T (fun f=>f)
theorem Itn.ne {w:World} {g b:Nat} {kt t:TypeId} {ks:List Value} (h:Itn w b kt ks) (hg:TyAt w g t):g≠b:=by
 obtain ⟨es,clock,hb,_⟩:=h.ex
 exact map_ne hg hb
theorem Itn.new (w:World) (kt:TypeId):Itn (w.alloc (.map #[] 0)) w.heap.size kt []:=⟨⟨#[],0,heap_alloc_new w _,stamped_empty 0,rfl,rfl⟩,fun v hv=>(by cases hv),List.nodup_nil⟩
theorem Itn.look {w:World} {b:Nat} {mt kt:TypeId} {ks:List Value} (h:Itn w b kt ks) (K:Maps.Keyed Tryz.prog kt) (ht:Tryz.prog.underlying mt=some (.map kt 3)) {v:Value} {l:Lit} (hv:keyOf Tryz.prog kt v=some l) :
  (v ∉ ks∧(Instr.lookup mt (.map (some b)) v true).run Tryz.prog w=.ok (.tuple #[.int .i64 0,.bool false]) w) ∨
  ∃ i:Nat,ks[i]? = some v∧(Instr.lookup mt (.map (some b)) v true).run Tryz.prog w=.ok (.tuple #[.int .i64 i,.bool true]) w:=by
 obtain ⟨es,clock,hb,_,hk,hvl⟩:=h.ex
 have hz:(zeroValue 3).run Tryz.prog w=.ok (.int .i64 0) w:=by kernel_rfl
 have hkeys:∀ e∈es.toList,∃ l,keyOf Tryz.prog kt e.key=some l:=fun e he=>h.keys e.key (by rw [← hk];exact List.mem_map_of_mem he)
 rcases K.find w hv es.toList hkeys with ⟨h1,h2⟩ | ⟨j,e0,h1,h2,h3⟩
 ·refine .inl ⟨fun hm=>?_,by simp [Instr.lookup,run_underlying ht,MapKept.run_getObj_map hb,K.check w _ hv,h1,hz,Result.andThen]⟩
  rw [← hk] at hm
  obtain ⟨e,he,e2⟩:=List.mem_map.1 hm
  exact h2 e he e2
 ·have hkj:ks[j]? = some v:=by rw [← hk,List.getElem?_map,h2,← h3];rfl
  have hvj:e0.val=natV j:=by
   have e1:(es.toList.map (·.val))[j]? = some e0.val:=by rw [List.getElem?_map,h2];rfl
   rw [hvl,List.getElem?_map,List.getElem?_range (List.getElem?_eq_some_iff.1 hkj).1] at e1
   simp only [Option.map_some,Option.some.injEq] at e1
   exact e1.symm
  refine .inr ⟨j,hkj,?_⟩
  simp [Instr.lookup,run_underlying ht,MapKept.run_getObj_map hb,K.check w _ hv,h1,Result.andThen,hvj,natV]
theorem Itn.len {w:World} {b:Nat} {mt kt:TypeId} {ks:List Value} (h:Itn w b kt ks) (ht:Tryz.prog.underlying mt=some (.map kt 3)) (ty:TypeId):(Builtin.len_ #[mt] ty #[.map (some b)]).run Tryz.prog w=.ok (.int .i64 (ks.length:Int)) w:=by
 obtain ⟨es,clock,hb,_,hk,_⟩:=h.ex
 have hs:es.size=ks.length:=by rw [← hk,List.length_map,Array.length_toList]
 simp [Builtin.len_,run_underlying ht,MapKept.run_getObj_map hb,goInt,hs]
theorem Itn.no {w:World} {b:Nat} {mt kt:TypeId} {ks:List Value} (h:Itn w b kt ks) (K:Maps.Keyed Tryz.prog kt) (ht:Tryz.prog.underlying mt=some (.map kt 3)) {v:Value} {l:Lit} (hv:keyOf Tryz.prog kt v=some l) (hn:v ∉ ks) :
  (Instr.lookup mt (.map (some b)) v true).run Tryz.prog w=.ok (.tuple #[.int .i64 0,.bool false]) w:=by
 rcases h.look K ht hv with ⟨_,h1⟩ | ⟨i,h1,_⟩
 ·exact h1
 ·exact absurd (List.mem_of_getElem? h1) hn
theorem Itn.yes {w:World} {b:Nat} {mt kt:TypeId} {ks:List Value} (h:Itn w b kt ks) (K:Maps.Keyed Tryz.prog kt) (ht:Tryz.prog.underlying mt=some (.map kt 3)) {v:Value} {l:Lit} (hv:keyOf Tryz.prog kt v=some l) {i:Nat} (hi:ks[i]? = some v) :
  (Instr.lookup mt (.map (some b)) v true).run Tryz.prog w=.ok (.tuple #[.int .i64 i,.bool true]) w:=by
 rcases h.look K ht hv with ⟨h1,_⟩ | ⟨j,h1,h2⟩
 ·exact absurd (List.mem_of_getElem? hi) h1
 ·obtain ⟨l1,e1⟩:=List.getElem?_eq_some_iff.1 hi
  obtain ⟨l2,e2⟩:=List.getElem?_eq_some_iff.1 h1
  rw [(List.getElem_inj h.nodup).1 (e1.trans e2.symm)]
  exact h2
theorem Itn.put {w:World} {b:Nat} {mt kt:TypeId} {ks:List Value} (h:Itn w b kt ks) (K:Maps.Keyed Tryz.prog kt) (ht:Tryz.prog.underlying mt=some (.map kt 3)) {v:Value} {l:Lit} (hv:keyOf Tryz.prog kt v=some l) (hn:v ∉ ks) :
  ∃ o,(Instr.mapUpdate mt (.map (some b)) v (.int .i64 (ks.length:Int))).run Tryz.prog w=.ok () (setBlock w b o)∧Itn (setBlock w b o) b kt (ks++[v]):=by
 obtain ⟨es,clock,hb,hs,hk,hvl⟩:=h.ex
 have hkeys:∀ e∈es.toList,∃ l,keyOf Tryz.prog kt e.key=some l:=fun e he=>h.keys e.key (by rw [← hk];exact List.mem_map_of_mem he)
 rcases K.find w hv es.toList hkeys with ⟨h1,h2⟩ | ⟨j,e0,h1,h2,h3⟩
 ·refine ⟨.map (es.push ⟨v,.int .i64 (ks.length:Int),clock⟩) (clock+1),?_,⟨⟨_,_,heap_setBlock h.lt,stamped_push hs h2,?_,?_⟩,?_,?_⟩⟩
  ·simp [Instr.mapUpdate,run_underlying ht,MapKept.run_getObj_map hb,K.check w false hv,h1,MapKept.run_setObj_map _ hb,Result.andThen,setBlock]
  ·rw [Array.toList_push,List.map_append,hk];rfl
  ·rw [Array.toList_push,List.map_append,hvl,List.length_append,List.length_singleton,List.range_succ,List.map_append];rfl
  ·intro x hx
   rcases List.mem_append.1 hx with hx | hx
   ·exact h.keys x hx
   ·rw [List.mem_singleton.1 hx];exact ⟨l,hv⟩
  ·rw [List.nodup_append]
   refine ⟨h.nodup,by simp,?_⟩
   intro a ha c hc e
   rw [List.mem_singleton.1 hc] at e
   exact hn (e ▸ ha)
 ·exfalso
  apply hn
  rw [← hk,← h3]
  exact List.mem_map_of_mem (List.mem_of_getElem? h2)
def endKey (fin:Bool) (out:Int):Value:=.agg #[.bool fin,.int .i64 out,.int .i64 0,.int .i64 0,.int .i64 (-1),.int .i64 0]
def arcKey (a:Nat × Int × Nat) (k:Nat):Value:=.agg #[.bool false,.int .i64 0,.int .i64 (a.1:Int),.int .i64 a.2.1,.int .i64 (a.2.2:Int),.int .i64 ((k:Int)+1)]
theorem end_inj {f g:Bool} {o p:Int} (h:endKey f o=endKey g p):f=g∧o=p:=by
 unfold endKey at h
 simp only [Value.agg.injEq,Array.mk.injEq,List.cons.injEq,Value.bool.injEq,Value.int.injEq,true_and,and_true] at h
 exact h
theorem arc_inj {a b:Nat × Int × Nat} {k m:Nat} (h:arcKey a k=arcKey b m):a=b∧k=m:=by
 obtain ⟨a1,a2,a3⟩:=a
 obtain ⟨b1,b2,b3⟩:=b
 unfold arcKey at h
 simp only [Value.agg.injEq,Array.mk.injEq,List.cons.injEq,Value.int.injEq,true_and,and_true] at h
 obtain ⟨h1,h2,h3,h4⟩:=h
 exact ⟨by rw [show a1=b1 by omega,h2,show a3=b3 by omega],by omega⟩
theorem end_arc {f:Bool} {o:Int} {a:Nat × Int × Nat} {k:Nat} (h:endKey f o=arcKey a k):False:=by
 unfold endKey arcKey at h
 simp only [Value.agg.injEq,Array.mk.injEq,List.cons.injEq,Value.bool.injEq,Value.int.injEq,true_and,and_true] at h
 omega
theorem lnk_kt:Tryz.prog.keyType 281 = true:=by kernel_rfl
theorem lnk_size:Tryz.prog.cellsOf 281 = 6:=by kernel_rfl
theorem cells_bool:Tryz.prog.cellsOf 4 = 1:=by kernel_rfl
theorem lnk_key {b:Bool} {x1 x2 x3 x4 x5:Int} (h1:I64 x1) (h2:I64 x2) (h3:I64 x3) (h4:I64 x4) (h5:I64 x5):∃ l,keyOf Tryz.prog 281 (.agg #[.bool b,.int .i64 x1,.int .i64 x2,.int .i64 x3,.int .i64 x4,.int .i64 x5])=some l:=by
 have hs:∃ m,Tryz.prog.types.size=m+1:=⟨Tryz.prog.types.size-1,by kernel_rfl⟩
 obtain ⟨m,hm⟩:=hs
 refine ⟨.string (keyBytes [.bool b,.int .i64 x1,.int .i64 x2,.int .i64 x3,.int .i64 x4,.int .i64 x5]),?_⟩
 have e0:Tryz.prog.keyLits (m+1) 4 [.bool b]=some [.bool b]:=by
  unfold Program.keyLits
  simp [Tryz.underlying4]
 have e1:∀ x,I64 x→Tryz.prog.keyLits (m+1) 3 [.int .i64 x]=some [.int .i64 x]:=by
  intro x hx
  unfold Program.keyLits
  simp [Tryz.underlying3,lit_wf hx]
 unfold keyOf
 simp only [Tryz.underlying281,lnk_kt,Value.formed,lnk_size,Bool.true_and]
 rw [hm]
 unfold Program.keyLits
 simp only [Tryz.underlying281,lnk_size,Value.cells]
 simp [cells_int,cells_bool,e0,e1 _ h1,e1 _ h2,e1 _ h3,e1 _ h4,e1 _ h5]
def chainR (Lk:List Value) (fin:Bool) (out:Int):List (Nat × Int × Nat)→Nat→Prop
 | [],k=>Lk[k]? = some (endKey fin out)
 | a :: l,k=>∃ m,chainR Lk fin out l m∧Lk[k]? = some (arcKey a m)
theorem nodup_at {α:Type} {l:List α} (h:l.Nodup) {i j:Nat} {x:α} (hi:l[i]? = some x) (hj:l[j]? = some x):i=j:=by
 obtain ⟨l1,e1⟩:=List.getElem?_eq_some_iff.1 hi
 obtain ⟨l2,e2⟩:=List.getElem?_eq_some_iff.1 hj
 exact (List.getElem_inj h).1 (e1.trans e2.symm)
theorem chain_fun {Lk:List Value} (h:Lk.Nodup) {fin:Bool} {out:Int}:∀ (l:List (Nat × Int × Nat)) {k m:Nat},chainR Lk fin out l k→chainR Lk fin out l m→k=m
 | [],_,_,h1,h2=>nodup_at h h1 h2
 | a :: l,_,_,⟨x,h1,e1⟩,⟨y,h2,e2⟩=>by
  obtain rfl:=chain_fun h l h1 h2
  exact nodup_at h e1 e2
theorem chain_inj {Lk:List Value} {f g:Bool} {o p:Int}:∀ (l m:List (Nat × Int × Nat)) {k:Nat},chainR Lk f o l k→chainR Lk g p m k→f=g∧o=p∧l=m
 | [],[],k,h1,h2=>by
  have h1:Lk[k]? = some (endKey f o):=h1
  have h2:Lk[k]? = some (endKey g p):=h2
  rw [h1] at h2
  obtain ⟨e1,e2⟩:=end_inj (Option.some.inj h2)
  exact ⟨e1,e2,rfl⟩
 | [],b :: m,k,h1,⟨y,_,e2⟩=>by
  have h1:Lk[k]? = some (endKey f o):=h1
  rw [h1] at e2
  exact (end_arc (Option.some.inj e2)).elim
 | a :: l,[],k,⟨x,_,e1⟩,h2=>by
  have h2:Lk[k]? = some (endKey g p):=h2
  rw [h2] at e1
  exact (end_arc (Option.some.inj e1)).elim
 | a :: l,b :: m,_,⟨x,h1,e1⟩,⟨y,h2,e2⟩=>by
  rw [e1] at e2
  obtain ⟨rfl,rfl⟩:=arc_inj (Option.some.inj e2)
  obtain ⟨r1,r2,r3⟩:=chain_inj l m h1 h2
  exact ⟨r1,r2,by rw [r3]⟩
theorem chain_ext {Lk M:List Value} {fin:Bool} {out:Int}:∀ (l:List (Nat × Int × Nat)) {k:Nat},chainR Lk fin out l k→chainR (Lk++M) fin out l k
 | [],k,h=>by
  have h:Lk[k]? = _:=h
  show (Lk++M)[k]? = _
  rw [List.getElem?_append_left (List.getElem?_eq_some_iff.1 h).1]
  exact h
 | a :: l,k,⟨x,h1,e1⟩=>⟨x,chain_ext l h1,by rw [List.getElem?_append_left (List.getElem?_eq_some_iff.1 e1).1];exact e1⟩
theorem chain_lt {Lk:List Value} {fin:Bool} {out:Int}:∀ (l:List (Nat × Int × Nat)) {k:Nat},chainR Lk fin out l k→k<Lk.length
 | [],_,h=>(List.getElem?_eq_some_iff.1 h).1
 | _ :: _,_,⟨_,_,e⟩=>(List.getElem?_eq_some_iff.1 e).1
structure TabP (Lk:List Value) (K:List StP) (Bk:List Nat):Prop where
 len:Bk.length=K.length
 says:∀ (j:Nat) (s:StP) (k:Nat),K[j]? = some s→Bk[j]? = some k→chainR Lk s.fin s.out s.arcs k
theorem TabP.ext {Lk M:List Value} {K:List StP} {Bk:List Nat} (h:TabP Lk K Bk):TabP (Lk++M) K Bk:=⟨h.len,fun j s k h1 h2=>chain_ext _ (h.says j s k h1 h2)⟩
theorem TabP.old {Lk:List Value} {K:List StP} {Bk:List Nat} (h:TabP Lk K Bk) (hL:Lk.Nodup) (hB:Bk.Nodup) {s:StP} {k j:Nat} (hs:chainR Lk s.fin s.out s.arcs k) (hj:Bk[j]? = some k):addS K s=(K,j):=by
 obtain ⟨x,hx⟩:∃ x,K[j]? = some x:=by
  have:=(List.getElem?_eq_some_iff.1 hj).1
  rw [h.len] at this
  exact ⟨_,List.getElem?_eq_getElem this⟩
 obtain ⟨e1,e2,e3⟩:=chain_inj _ _ (h.says j x k hx hj) hs
 obtain rfl:x=s:=by
  obtain ⟨x1,x2,x3⟩:=x
  obtain ⟨s1,s2,s3⟩:=s
  simp only at e1 e2 e3
  rw [e1,e2,e3]
 refine addS_some hx fun i hi=>?_
 obtain ⟨m,hm⟩:∃ m,Bk[i]? = some m:=by
  have:=(List.getElem?_eq_some_iff.1 hi).1
  rw [← h.len] at this
  exact ⟨_,List.getElem?_eq_getElem this⟩
 obtain rfl:=chain_fun hL _ (h.says i x m hi hm) hs
 exact nodup_at hB hm hj
theorem TabP.new {Lk:List Value} {K:List StP} {Bk:List Nat} (h:TabP Lk K Bk) (hL:Lk.Nodup) {s:StP} {k:Nat} (hs:chainR Lk s.fin s.out s.arcs k) (hk:k ∉ Bk):addS K s=(K++[s],K.length)∧TabP Lk (K++[s]) (Bk++[k]):=by
 refine ⟨addS_none fun hm=>?_,by simp [h.len],fun j x m hx hm=>?_⟩
 ·obtain ⟨j,hj,e⟩:=List.getElem_of_mem hm
  have hjB:j<Bk.length:=by rw [h.len];exact hj
  have h1:=h.says j s Bk[j] (by rw [List.getElem?_eq_getElem hj,e]) (List.getElem?_eq_getElem hjB)
  rw [chain_fun hL _ hs h1] at hk
  exact hk (List.getElem_mem hjB)
 ·by_cases hj:j<K.length
  ·rw [List.getElem?_append_left hj] at hx
   rw [List.getElem?_append_left (by rw [h.len];exact hj)] at hm
   exact h.says j x m hx hm
  ·have hj2:j=K.length:=by
    have:=(List.getElem?_eq_some_iff.1 hx).1
    rw [List.length_append] at this
    simp at this
    omega
   subst hj2
   rw [List.getElem?_append_right (Nat.le_refl _),Nat.sub_self] at hx
   rw [← h.len,List.getElem?_append_right (Nat.le_refl _),Nat.sub_self] at hm
   simp only [List.getElem?_cons_zero,Option.some.injEq] at hx hm
   subst hx hm
   exact hs
end Go.Proofs.YthockgmbooefpaaGreatDoor
namespace Go.Proofs.YthockgmbooefpaaGreatDoor
open Go.RowKit Go.MapKept Go.ChangeMaps
structure FL where
 A:Option Addr
 n:Nat
 c:Nat
 V:List RV
def FL.val (s:FL):Value:=.slice s.A s.n s.c
def FL.p (s:FL):Rs:=s.V.map RV.p
structure FL.Ok (s:FL) (w:World):Prop where
 len:s.V.length=s.n
 rd:RdT w 158 2 s.A s.n (rCells s.V)
 el:∀ r∈s.V,r.Ok w
 le:s.n≤s.c
def FL.Bd (s:FL):Prop:=∀ r∈s.V,0≤r.wt∧r.wt≤1048576
theorem FL.Ok.touch {s:FL} {w w':World} {S:Nat→Prop} (h:s.Ok w) (T:Touch S w w') (h1:∀ g,TyAt w g 21 → ¬ S g) (h2:∀ g,TyAt w g 158 → ¬ S g):s.Ok w' :=
 ⟨h.len,h.rd.touch T h2,fun r hr=>(h.el r hr).touch T h1,h.le⟩
theorem FL.Ok.quiet {s:FL} {w w':World} (h:s.Ok w) (T:Touch (fun _=>False) w w'):s.Ok w':=h.touch T (fun _ _ f=>f) (fun _ _ f=>f)
theorem fleast_any (w:World) (s:FL) (hs:s.Ok w) (hn:0<s.n) (hm:s.n≤maxLen) :
  Calls Tryz.prog 84 #[s.val] w fun e w'=>e=.returned (.int .i64 (leastR s.p))∧Touch (fun _=>False) w w':=by
 obtain ⟨A,n,c,V⟩:=s
 have HR:=hide hs.rd.rd
 have HLN:=hide hs.len
 simp only [FL.val,FL.p]
 simp only at HR HLN hn hm
 clear hs
 unfold maxLen at hm
 obtain ⟨m,rfl⟩:∃ m,n=m+1:=⟨n-1,by omega⟩
 obtain ⟨g,o,hA,hg,_,z1⟩:=rest_at HR.out HLN.out 0 (by omega)
 subst hA
 simp only [Nat.zero_mul,Nat.add_zero] at z1
 obtain ⟨z,hz⟩:∃ z,(V.getD 0 RV.zero).wt=z:=⟨_,rfl⟩
 rw [hz] at z1
 have hl:leastR (V.map RV.p)=(V.map RV.p).foldl (fun n r=>min n r.2) z:=by
  cases V with
  | nil=>have:=HLN.out;simp at this
  | cons x V=>simp only [List.getD_cons_zero] at hz;subst hz;rfl
 have HL:=hide hl
 have HZ1:=hide z1
 have HG:=hide hg
 clear hl hz hg
 have y0:(0:Int)<((m:Int)+1):=by omega
 go_enter Tryz.func84,Tryz.ntmps84
 go_wp2
 go_loopw [3,12] (fun nv iv wr=>∃ (z':Int) (i:Nat),nv=.int .i64 z'∧iv=.int .i64 i∧i≤m+1∧Hid (z'=((V.map RV.p).take i).foldl (fun n r=>min n r.2) z)∧Hid (Touch (fun _=>False) w wr)) (fun _ iv _=>m+1-(intOf iv).toNat)
 case atStart=>exact ⟨z,0,rfl,rfl,by omega,hide (by simp),hide (Touch.refl _ _)⟩
 case round =>
  obtain ⟨z',i,rfl,rfl,hi,HZ,HT⟩:=hrel
  by_cases hin:i<m+1
  ·have y1:(i:Int)<(m:Int)+1:=by omega
   have y2:(0:Int)≤(i:Int):=by omega
   obtain ⟨g',o',hA,_,a0,a1⟩:=rest_at (HR.out.touch HT.out (fun _ _ f=>f)) HLN.out i hin
   injection hA with hA
   injection hA with hA1 hA2
   subst hA1 hA2
   obtain ⟨u,hu⟩:∃ u,(V.getD i RV.zero).wt=u:=⟨_,rfl⟩
   rw [hu] at a1
   have hst:((V.map RV.p).take (i+1)).foldl (fun n r=>min n r.2) z=min z' u:=by
    rw [take_snoc (V.map RV.p) RV.zero.p i (by rw [List.length_map,HLN.out];exact hin),List.foldl_append,← HZ.out]
    simp only [List.foldl_cons,List.foldl_nil]
    rw [← hu]
    simp [List.getD,RV.p,show i<V.length by rw [HLN.out];exact hin]
   have HST:=hide hst
   have j3:IntKind.i64.wrap ((i:Int)+1)=(i:Int)+1:=IntWalk.i64_in _ (by omega)
   clear hst hu
   go_wp2
   all_goals
    go_roundw
    ·exact ⟨_,i+1,rfl,by simp,by omega,hide (by rw [HST.out];first | done | (split<;>omega)),hide (HT.out.alloc _)⟩
    ·show m+1-(intOf (.int .i64 ((i:Int)+1))).toNat<m+1-(intOf (.int .i64 (i:Int))).toNat
     simp [intOf]
     omega
  ·have y1:¬ (i:Int)<(m:Int)+1:=by omega
   have ht:(V.map RV.p).take i=V.map RV.p:=List.take_of_length_le (by rw [List.length_map,HLN.out];omega)
   have hz:=HZ.out
   rw [ht,← HL.out] at hz
   have HE:=hide hz
   clear hz ht
   go_wp2
   go_ret
   exact ⟨by rw [← HE.out];rfl,HT.out⟩
theorem known_any (w:World) (B:Nat) (s bv:Value) (m1:Nat) (Lk:List Value) (hb:Blk w B 163 #[s,.map (some m1),bv]) (hI:Itn w m1 281 Lk) (hn:Lk.length≤1000000)
  (f:Bool) (x1 x2 x3 x4 x5:Int) (h1:I64 x1) (h2:I64 x2) (h3:I64 x3) (h4:I64 x4) (h5:I64 x5) (v:Value) (hv:v=.agg #[.bool f,.int .i64 x1,.int .i64 x2,.int .i64 x3,.int .i64 x4,.int .i64 x5]) :
  Calls Tryz.prog 172 #[.pointer (some ⟨B,0,none⟩),v] w fun e w'=>∃ (M:List Value) (k:Nat),e=.returned (.int .i64 k)∧(Lk++M)[k]? = some v∧M.length≤1∧Itn w' m1 281 (Lk++M)∧Touch (fun g=>g=m1) w w':=by
 obtain ⟨w1,hw1⟩:∃ y,y=w.alloc (.cells #[.bool f,.int .i64 x1,.int .i64 x2,.int .i64 x3,.int .i64 x4,.int .i64 x5] 281):=⟨_,rfl⟩
 have hT1:Touch (fun _=>False) w w1:=by rw [hw1];exact (Touch.refl _ _).alloc _
 obtain ⟨b0,b1,b2⟩:=hb.facts
 have hI1:=hI.quiet hT1
 obtain ⟨l,hl⟩:=lnk_key (b:=f) h1 h2 h3 h4 h5
 rw [← hv] at hl
 have hmu:Tryz.prog.underlying 160 = some (.map 281 3):=Tryz.underlying160
 by_cases hno:v ∉ Lk
 ·have hlk:∀ n,(Instr.lookup 160 (.map (some m1)) v true).run Tryz.prog (w1.drewN n)=.ok (.tuple #[.int .i64 0,.bool false]) (w1.drewN n):=fun n=>(hI1.quiet ((Touch.refl _ _).drewN n)).no lnk_keyed hmu hl hno
  have HI1:=hide hI1
  have HT1:=hide hT1
  have HV:=hide hv
  have HB:=hide hb
  have HL:=hide hl
  have HNO:=hide hno
  have HMU:=hide hmu
  have hnI:(Lk.length:Int)≤1000000:=by omega
  rw [hw1,hv] at hlk
  have HW1:=hide hw1
  clear hI hI1 hl hv hT1 hb hw1 hno h1 h2 h3 h4 h5 hmu hn
  rw [HV.out]
  go_enter Tryz.func172,Tryz.ntmps172
  go_wp2_with fail
  go_quiet (fail)
  rw [← HW1.out]
  obtain ⟨w2,hw2⟩:∃ y,y=w1.drewN nq:=⟨_,rfl⟩
  rw [← hw2]
  have hT2:Touch (fun _=>False) w w2:=by rw [hw2];exact HT1.out.drewN _
  have hI2:Itn w2 m1 281 Lk:=by rw [hw2];exact HI1.out.quiet ((Touch.refl _ _).drewN _)
  have hbx:Blk w2 w.heap.size 281 #[.bool f,.int .i64 x1,.int .i64 x2,.int .i64 x3,.int .i64 x4,.int .i64 x5]:=by rw [hw2,HW1.out];exact (Blk.new _ _ _).drewN _
  clear b0 b1 b2
  obtain ⟨b0,b1,b2⟩:=(HB.out.touch hT2 (fun f=>f)).facts
  obtain ⟨c0,c1,c2⟩:=hbx.facts
  have hlen:=hI2.len HMU.out 3
  obtain ⟨o,hup,hI3⟩:=(hI2.quiet (Touch.refl _ _).drew).put lnk_keyed HMU.out HL.out HNO.out
  rw [HV.out] at hup
  have hT3:Touch (fun g=>g=m1) w (setBlock w2.drew m1 o):=(hT2.drew.up _).then (touch_setBlock _ _ _)
  have HI3:=hide hI3
  have HT3:=hide hT3
  clear hw2 hT2 hI2 hbx hI3 hT3 hlk
  go_wp2_with fail
  go_region
  all_goals
   go_wp2_with fail
   go_ret
   exact ⟨[v],Lk.length,rfl,by simp [HV.out],by simp,HI3.out,HT3.out⟩
 ·obtain ⟨i,hi,hil⟩:=List.getElem_of_mem (Classical.not_not.1 hno)
  have hi2:Lk[i]? = some v:=by rw [List.getElem?_eq_getElem hi,hil]
  have hlk:∀ n,(Instr.lookup 160 (.map (some m1)) v true).run Tryz.prog (w1.drewN n)=.ok (.tuple #[.int .i64 i,.bool true]) (w1.drewN n):=fun n=>(hI1.quiet ((Touch.refl _ _).drewN n)).yes lnk_keyed hmu hl hi2
  have HI1:=hide hI1
  have HT1:=hide hT1
  have HV:=hide hv
  have HI2:=hide hi2
  rw [hw1,hv] at hlk
  have HW1:=hide hw1
  clear hI hI1 hl hv hT1 hb hw1 hno h1 h2 h3 h4 h5 hmu hn hi hil hi2
  rw [HV.out]
  go_enter Tryz.func172,Tryz.ntmps172
  go_wp2_with fail
  go_quiet (fail)
  rw [← HW1.out]
  have hT2:=HT1.out.drewN nq
  have hI2:=HI1.out.quiet ((Touch.refl _ _).drewN nq)
  have HT2:=hide hT2
  have HI3:=hide hI2
  clear hT2 hI2 hlk
  go_wp2_with fail
  go_ret
  exact ⟨[],i,rfl,by rw [List.append_nil,← HV.out];exact HI2.out,by simp,by rw [List.append_nil];exact HI3.out,HT2.out.up _⟩
end Go.Proofs.YthockgmbooefpaaGreatDoor
namespace Go.Proofs.YthockgmbooefpaaGreatDoor
open Go.RowKit Go.Shelf
attribute [local go_sem] Oper.semAt_some
structure KpP (p:TypeId→Prop) (w w':World):Prop where
 size:w.heap.size≤w'.heap.size
 ty:∀ (g:Nat) (t:TypeId),TyAt w g t→p t→w'.heap[g]? = w.heap[g]?
theorem KpP.refl (p:TypeId→Prop) (w:World):KpP p w w:=⟨Nat.le_refl _,fun _ _ _ _=>rfl⟩
theorem KpP.trans {p:TypeId→Prop} {a b c:World} (h:KpP p a b) (k:KpP p b c):KpP p a c :=
 ⟨Nat.le_trans h.size k.size,fun g t e h1=>by
  have e1:=h.ty g t e h1
  obtain ⟨cs,u,e2⟩:=e
  exact (k.ty g t ⟨cs,u,e1.trans e2⟩ h1).trans e1⟩
theorem KpP.touch {p:TypeId→Prop} {S:Nat→Prop} {w w':World} (h:Touch S w w') (hS:∀ g t,p t→TyAt w g t→¬ S g):KpP p w w' :=
 ⟨h.size,fun g t e h1=>h.block g e.lt (hS g t h1 e)⟩
theorem KpP.of {p:TypeId→Prop} {w w':World} (h:Touch (fun _=>False) w w'):KpP p w w':=⟨h.size,fun g _ e _=>h.block g e.lt (fun f=>f)⟩
theorem Blk.kpp {p:TypeId→Prop} {a b:World} {g:Nat} {t:TypeId} {cs:Array Value} (h:Blk a g t cs) (k:KpP p a b) (ht:p t):Blk b g t cs:=(k.ty g t ⟨cs,(),h⟩ ht).trans h
theorem TyAt.kpp {p:TypeId→Prop} {a b:World} {g:Nat} {t:TypeId} (h:TyAt a g t) (k:KpP p a b) (ht:p t):TyAt b g t:=by
 obtain ⟨cs,u,e⟩:=h
 exact ⟨cs,u,(k.ty g t ⟨cs,u,e⟩ ht).trans e⟩
theorem RdT.kpp {p:TypeId→Prop} {a b:World} {t:TypeId} {size:Nat} {A:Option Addr} {n:Nat} {xs:List Value} (h:RdT a t size A n xs) (k:KpP p a b) (ht:p t):RdT b t size A n xs:=by
 refine ⟨⟨h.rd.1,fun hn=>?_⟩,fun hn g hg=>(h.ty hn g hg).kpp k ht⟩
 obtain ⟨g,o,hA,hg,hc⟩:=h.rd.2 hn
 have e:=h.ty hn g (by rw [hA];rfl)
 exact ⟨g,o,hA,Nat.lt_of_lt_of_le hg k.size,fun j u hu=>(World.cell?_of_block (k.ty g t e ht)).trans (hc j u hu)⟩
theorem kpP_b {p:TypeId→Prop} {n:Nat} (W:World) (l:Nat) (o o':Obj) (_:n≤l) (h:W.heap[l]? = some o) (hc:o.isCells=false) (_:o.isWalk=false):KpP p W (W.putObj l o'):=by
 have hg:=grownBy_putObj' W l o'
 refine ⟨hg.size,fun g t e _=>hg.block g e.lt (fun e2=>?_)⟩
 obtain ⟨cs,u,e⟩:=e
 cases e2
 rw [h] at e
 cases e
 cases hc
def arcBack (L:List (Nat × Int × Nat)) (j:Nat):Int × (Nat × Int × Nat):=(((L.length-1-j:Nat):Int),L.getD (L.length-1-j) (0,0,0))
def arcEnc (x:Int × (Nat × Int × Nat)):Array Value:=#[.int .i64 x.1,.agg #[.int .i32 (x.2.1:Int),.int .i64 x.2.2.1,.int .i64 (x.2.2.2:Int)]]
def isArc (t:TypeId):Prop:=t = 173 ∨ t = 168
theorem backa1_in (l Bs:Nat) (w0:World) (A:Option Addr) (len cap:Nat) (L:List (Nat × Int × Nat)) (hL:L.length=len) (hR:RdT w0 173 3 A len (aCells L)) (hlen:len≤maxLen) (J Jx:List Nat→World→Prop)
  (hY:∀ pre x W,J pre W→pre.length<len→YieldAt Fence.wide 8 Tryz.prog l (arcEnc (arcBack L x)) W fun e W' =>
    (e=.returned (.bool true)∧J (pre++[x]) W'∧KpP isArc W W')∨(e=.returned (.bool false)∧Jx (pre++[x]) W'))
  (W:World) (hW:KpP isArc w0 W) (hBs:Blk W Bs 168 #[.slice A len cap]) (h0:J [] W) :
  CallsIn Fence.wide 9 Tryz.prog 149 #[.func (.yield l) #[] #[],.pointer (some ⟨Bs,0,none⟩)] W fun e W'=>(∃ v,e=.returned v) ∧
   ((∃ ys,ys=List.range len∧J ys W')∨(∃ pre,(∃ k,k≤len∧pre=List.range k)∧Jx pre W')):=by
 unfold maxLen at hlen
 have HR:=hide hR
 have HL:=hide hL
 have HW:=hide hW
 have HBs:=hide hBs
 have hw:IntKind.i64.wrap ((len:Int)-1)=(len:Int)-1:=IntWalk.i64_in _ (by omega)
 have HST:((len:Int)-1 = -1∧len=0)∨∃ i:Nat,(len:Int)-1=(i:Int)∧len=i+1:=by
  by_cases h:len=0
  ·exact .inl ⟨by omega,h⟩
  ·exact .inr ⟨len-1,by omega,by omega⟩
 have HST:=hide HST
 obtain ⟨c0,c1,c2⟩:=hBs.facts
 clear hR hL hW hBs
 refine callsIn_of_wp Tryz.func149 rfl trivial ?_ rfl
 simp only [Tryz.ntmps149,List.size_toArray,List.length_cons,List.length_nil,Nat.reduceAdd,Nat.reduceSub,Array.replicate_succ,Array.replicate_zero,List.push_toArray,List.append_toArray,List.nil_append,List.cons_append]
 gi_wp2
 gi_loopw [3] (fun iv wr=>∃ (z:Int) (k m:Nat),iv=.int .i64 z∧Hid (k+m=len)∧Hid ((z = -1∧m=0)∨∃ i:Nat,z=(i:Int)∧m=i+1)∧Hid (J (List.range k) wr)∧Hid (KpP isArc W wr)) (fun iv _=>(intOf iv+1).toNat)
 case atStart=>exact ⟨_,0,len,rfl,hide (Nat.zero_add _),HST,hide h0,hide (KpP.refl _ _)⟩
 case round =>
  clear c0 c1 c2
  obtain ⟨z,k,m,rfl,HK,HZ,HJ,HB⟩:=hrel
  obtain ⟨c0,c1,c2⟩:=(HBs.out.kpp HB.out (.inr rfl)).facts
  rcases HZ.out with ⟨rfl,rfl⟩ | ⟨i,rfl,rfl⟩
  ·clear HZ
   gi_wp2
   go_end0
   have hk:k=len:=by have:=HK.out;omega
   exact ⟨⟨_,rfl⟩,.inl ⟨_,rfl,by rw [← hk];exact HJ.out⟩⟩
  ·clear HZ
   have y0:¬ (i:Int)<0:=by omega
   have y1:(0:Int)≤(i:Int):=by omega
   have y2:i<len:=by have:=HK.out;omega
   have y3:(i:Int)<(len:Int):=by omega
   have y4:L.length-1-k=i:=by have:=HK.out;rw [HL.out];omega
   obtain ⟨g,o,hA,_,a0,a1,a2⟩:=arc_at (HR.out.kpp (HW.out.trans HB.out) (.inl rfl)).rd HL.out i y2
   subst hA
   have hbf:arcBack L k=((i:Int),L.getD i (0,0,0)):=by unfold arcBack;rw [y4]
   have hus:List.range (k+1)=List.range k++[k]:=List.range_succ
   obtain ⟨⟨xl,xo,xt⟩,hx⟩:∃ x,x=L.getD i (0,0,0):=⟨_,rfl⟩
   rw [← hx] at a0 a1 a2 hbf
   simp only at a0 a1 a2
   have HUS:=hide hus
   obtain ⟨fn,tmps,assign,body,hy,hR⟩:=hY _ k wr HJ.out (by rw [List.length_range];have:=HK.out;omega)
   rw [hbf] at hy
   simp only [arcEnc] at hy
   clear hx hus hbf
   obtain ⟨z2,hz2⟩:∃ z2:Int,(i:Int)-1=z2:=⟨_,rfl⟩
   have hw2:IntKind.i64.wrap z2=z2:=IntWalk.i64_in _ (by omega)
   have HZ2:=hide hz2
   gi_wp2
   refine hR.mono ?_
   rintro e W3 (⟨rfl,hJ3,hk3⟩ | ⟨rfl,hJx3⟩)
   ·have HJ3:=hide hJ3
    have HK3:=hide hk3
    clear hJ3 hk3
    gi_wp2
    go_roundw
    case rel =>
     have hz2:=HZ2.out
     refine ⟨z2,k+1,i,rfl,hide (by have:=HK.out;omega),hide ?_,hide (by rw [HUS.out];exact HJ3.out),hide (HB.out.trans HK3.out)⟩
     by_cases hi0:i=0
     ·exact .inl ⟨by omega,hi0⟩
     ·exact .inr ⟨i-1,by omega,by omega⟩
    case measure =>
     have hz2:=HZ2.out
     show (z2+1).toNat<((i:Int)+1).toNat
     omega
   ·gi_wp2
    refine bodyPost_ret (results_none rfl _ _ _) rfl ?_
    exact ⟨⟨_,rfl⟩,.inr ⟨_,⟨k+1,by have:=HK.out;omega,HUS.out.symm⟩,hJx3⟩⟩
theorem backwarda_any (w:World) (a:Option Addr) (len cap:Nat) :
  Calls Tryz.prog 94 #[.slice a len cap] w fun e w'=>∃ Bs,e=.returned (.func (.func 149) #[] #[.pointer (some ⟨Bs,0,none⟩)])∧Blk w' Bs 168 #[.slice a len cap]∧Touch (fun _=>False) w w':=by
 have hmf:∀ (fn:Fn) (first cap:Array Value) (w:World),(Instr.makeFunc fn first cap).run Tryz.prog w=.ok (.func fn first cap) w:=fun _ _ _ _=>rfl
 go_enter Tryz.func94,Tryz.ntmps94
 go_wp2_with fail
 go_ret
 exact ⟨w.heap.size,rfl,Blk.new _ _ _,(Touch.refl _ _).alloc _⟩
theorem backa_stops (Bs:Nat) (w0:World) (A:Option Addr) (len cap:Nat) (L:List (Nat × Int × Nat)) (hL:L.length=len) (hR:RdT w0 173 3 A len (aCells L)) (hlen:len≤maxLen) (hB:Blk w0 Bs 168 #[.slice A len cap]) :
  SeqStopsK Fence.wide 9 Tryz.prog 149 #[.pointer (some ⟨Bs,0,none⟩)] (fun j=>arcEnc (arcBack L j)) (KpP isArc) (fun ys=>ys=List.range len) (fun pre=>∃ k,k≤len∧pre=List.range k) len w0:=fun l J Jx W hW _ _ hY h0 =>
 have hk:KpP isArc w0 W:=KpP.of (Touch.of_below hW _)
 backa1_in l Bs w0 A len cap L hL hR hlen J Jx hY W hk (hB.kpp hk (.inr rfl)) h0
end Go.Proofs.YthockgmbooefpaaGreatDoor
