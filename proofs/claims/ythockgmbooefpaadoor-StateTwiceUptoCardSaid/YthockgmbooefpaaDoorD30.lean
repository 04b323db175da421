/- What the law rests on, part 30. No condition but those that each theorem names. -/
import Derived.Test.YthockgmbooefpaaDoorD05
import Derived.Test.YthockgmbooefpaaDoorD07
set_option linter.unusedSectionVars false
set_option linter.unusedSimpArgs false
set_option linter.unusedVariables false
namespace Go.Proofs.YthockgmbooefpaaDoor
def errAt (L:List PRow) (i:Nat):Int:=if wordU (L.getD i PRow.zero).word.toList=false then 71 else if (decide (1≤(L.getD i PRow.zero).weight) && decide ((L.getD i PRow.zero).weight≤1048576))=false then 72 else 73
theorem errAt_eq (L:List PRow) (i:Nat):errAt L i=if wordU (L.getD i PRow.zero).word.toList=false then 71 else if (decide (1≤(L.getD i PRow.zero).weight) && decide ((L.getD i PRow.zero).weight≤1048576))=false then 72 else 73:=rfl
def errU (L:List PRow):Int:=if L.length≤4096 then (match (List.range L.length).find? (fun i=>!fitP L i) with | some i=>errAt L i | none=>0) else 70
theorem errU_long {L:List PRow} (h:¬ L.length≤4096):errU L=70:=by unfold errU;rw [if_neg h]
theorem errU_at {L:List PRow} {i:Nat} (h4:L.length≤4096) (hi:i<L.length) (hF:∀ k,k<i→fitP L k=true) (hno:fitP L i=false):errU L=errAt L i:=by
 have h:(List.range L.length).find? (fun i=>!fitP L i)=some i:=by
  rw [List.find?_range_eq_some]
  exact ⟨by rw [hno];rfl,List.mem_range.2 hi,fun j hj=>by rw [hF j hj];rfl⟩
 unfold errU
 rw [if_pos h4,h]
theorem err71 {x:Int} {v:Bool} {t:Bool} (hx:x=if v=false then 71 else if t=false then 72 else 73) (h:v=false):x=71:=by rw [hx,if_pos h]
theorem err72 {x:Int} {v:Bool} {t:Bool} (hx:x=if v=false then 71 else if t=false then 72 else 73) (h:v=true) (h2:t=false):x=72:=by rw [hx,if_neg (by rw [h];decide),if_pos h2]
theorem err73 {x:Int} {v:Bool} {t:Bool} (hx:x=if v=false then 71 else if t=false then 72 else 73) (h:v=true) (h2:t=true):x=73:=by rw [hx,if_neg (by rw [h];decide),if_neg (by rw [h2];decide)]
end Go.Proofs.YthockgmbooefpaaDoor
namespace Go.Proofs.YthockgmbooefpaaDoor
deriving instance DecidableEq for StP
def addS (K:List StP) (s:StP):List StP × Nat:=match K.findIdx? (fun x=>decide (x=s)) with
 | some i=>(K,i)
 | none=>(K++[s],K.length)
def fstArcs (st:List StP→Rs→List StP × Nat) (low:Int) (R:Rs):List StP→List Nat→List StP × List (Nat × Int × Nat)
 | K,[]=>(K,[])
 | K,c :: cs=>((fstArcs st low R (st K (underR R c)).1 cs).1,(c,leastR (underR R c)-low,(st K (underR R c)).2) :: (fstArcs st low R (st K (underR R c)).1 cs).2)
def fstOut (R:Rs):Int:=if finR R=true then outR R-leastR R else 0
def fstF:Nat→List StP→Rs→List StP × Nat
 | 0,K,_=>(K,0)
 | f+1,K,R=>addS (fstArcs (fstF f) (leastR R) R K (firstsR R)).1 ⟨finR R,fstOut R,(fstArcs (fstF f) (leastR R) R K (firstsR R)).2⟩
theorem fstArcs_snoc (st:List StP→Rs→List StP × Nat) (low:Int) (R:Rs) (c:Nat):∀ (cs:List Nat) (K:List StP),fstArcs st low R K (cs++[c])=((st (fstArcs st low R K cs).1 (underR R c)).1,(fstArcs st low R K cs).2++[(c,leastR (underR R c)-low,(st (fstArcs st low R K cs).1 (underR R c)).2)])
 | [],K=>rfl
 | d :: cs,K=>by
  simp only [List.cons_append,fstArcs]
  rw [fstArcs_snoc st low R c cs]
theorem addS_some {K:List StP} {s:StP} {i:Nat} (h:K[i]? = some s) (hu:∀ j,K[j]? = some s→j=i):addS K s=(K,i):=by
 unfold addS
 cases hf:K.findIdx? (fun x=>decide (x=s)) with
 | some j =>
  obtain ⟨hj,h1,_⟩:=List.findIdx?_eq_some_iff_getElem.1 hf
  rw [hu j (List.getElem?_eq_some_iff.2 ⟨hj,of_decide_eq_true h1⟩)]
 | none =>
  rw [List.findIdx?_eq_none_iff] at hf
  have:=hf s (List.mem_of_getElem? h)
  simp at this
theorem addS_none {K:List StP} {s:StP} (h:s ∉ K):addS K s=(K++[s],K.length):=by
 unfold addS
 cases hf:K.findIdx? (fun x=>decide (x=s)) with
 | none=>rfl
 | some j =>
  obtain ⟨hj,h1,_⟩:=List.findIdx?_eq_some_iff_getElem.1 hf
  have e:K[j]=s:=of_decide_eq_true h1
  exact absurd (e ▸ List.getElem_mem hj) h
theorem stateF_level {f:Nat} {k:KnP} {l m:Rs} (h:levelR l=levelR m):stateF f k l=stateF f k m:=by
 cases f with
 | zero=>rfl
 | succ f=>simp only [stateF,h]
theorem firsts_level (l:Rs) (hs:SortR l):firstsR (levelR l)=firstsR l:=by
 have h1:=firsts_sorted (sort_level hs)
 have h2:=firsts_sorted hs
 refine sorted_ext (lt:=(·<·)) (fun a=>Nat.lt_irrefl a) (fun a b h=>Nat.not_lt_of_lt h) h1 h2 fun c=>?_
 rw [mem_firsts,mem_firsts,level_shift,under_shift]
 unfold shiftR
 simp
theorem fin_level (l:Rs):finR (levelR l)=finR l:=by
 rw [Bool.eq_iff_iff,finR_iff,finR_iff]
 constructor
 ·rintro ⟨n,h⟩
  exact ⟨_,mem_level.1 h⟩
 ·rintro ⟨n,h⟩
  exact ⟨n-leastR l,mem_level.2 (by rw [Int.sub_add_cancel];exact h)⟩
theorem out_level (l:Rs) (hs:SortR l):outR (levelR l)=fstOut l:=by
 unfold fstOut
 by_cases h:finR l=true
 ·rw [if_pos h]
  obtain ⟨n,hn⟩:=finR_iff.1 h
  rw [outR_mem hs hn]
  exact outR_mem (sort_level hs) (mem_level.2 (by rw [Int.sub_add_cancel];exact hn))
 ·rw [if_neg h]
  exact outR_none (sort_level hs) (by rw [fin_level];simpa using h)
theorem under_level (l:Rs) (c:Nat):levelR (underR (levelR l) c)=levelR (underR l c):=by
 rw [level_shift l,under_shift,level_of_shift]
theorem leastu_level (l:Rs) {c:Nat} (h:underR l c≠[]):leastR (underR (levelR l) c)=leastR (underR l c)-leastR l:=by
 rw [level_shift l,under_shift,least_shift _ h]
def FstIs (f:Nat):Prop:=∀ (k:KnP) (R:Rs),Good k→SortR R→R≠[]→depR R<f→fstF f k.states R=((stateF f k R).1.states,(stateF f k R).2)
theorem arcs_new {f:Nat} (ih:FstIs f) {R:Rs} (hs:SortR R) (hd:depR R≤f):∀ (cs:List Nat) (k:KnP),Good k→(∀ c∈cs,underR R c≠[]) →
  fstArcs (fstF f) (leastR R) R k.states cs=((arcsF (stateF f) (levelR R) k cs).1.states,(arcsF (stateF f) (levelR R) k cs).2)
 | [],k,_,_=>rfl
 | c :: cs,k,hk,hc=>by
  have hc1:=hc c (List.mem_cons_self)
  have hdu:=depR_under hc1
  have h1:=ih k (underR R c) hk (sort_under c hs) hc1 (by omega)
  have h2:=stateF_ok f k (underR R c) hk (sort_under c hs) hc1 (by omega)
  have h3:=arcs_new ih hs hd cs (stateF f k (underR R c)).1 h2.1 (fun d hd=>hc d (List.mem_cons_of_mem _ hd))
  have h4:stateF f k (underR (levelR R) c)=stateF f k (underR R c):=stateF_level (under_level R c)
  simp only [fstArcs,arcsF,h1,h3,h4,leastu_level R hc1]
theorem arcs_old {f:Nat} (ih:FstIs f) {R:Rs} (hs:SortR R) (hd:depR R≤f) {k:KnP} (hk:Good k) {i:Nat} {s:StP} (hi:k.rests[i]? = some (levelR R)) (hc:Corr k.rests i (levelR R) s):∀ (xs:List (Nat × Int × Nat)),(∀ a∈xs,a∈s.arcs) →
  fstArcs (fstF f) (leastR R) R k.states (xs.map (·.1))=(k.states,xs)
 | [],_=>rfl
 | a :: xs,ha=>by
  have h0:=ha a (List.mem_cons_self)
  have hm:a.1∈firstsR (levelR R):=by rw [← hc.labels];exact List.mem_map_of_mem h0
  have hc1:underR R a.1≠[]:=by rw [firsts_level R hs] at hm;exact mem_firsts.1 hm
  have hdu:=depR_under hc1
  obtain ⟨g1,g2,g3⟩:=hc.arc a h0
  rw [under_level] at g3
  rw [leastu_level R hc1] at g1
  have h1:=ih k (underR R a.1) hk (sort_under a.1 hs) hc1 (by omega)
  have h2:stateF f k (underR R a.1)=(k,a.2.2):=by
   cases f with
   | zero=>omega
   | succ f =>
    have hx:idxR k.rests (levelR (underR R a.1))=some a.2.2:=by
     cases hx:idxR k.rests (levelR (underR R a.1)) with
     | none=>exact absurd (List.mem_of_getElem? g3) (idxR_none hx)
     | some j =>
      have hj:=idxR_some hx
      obtain ⟨l1,e1⟩:=List.getElem?_eq_some_iff.1 hj
      obtain ⟨l2,e2⟩:=List.getElem?_eq_some_iff.1 g3
      rw [(List.getElem_inj hk.nodup).1 (e1.trans e2.symm)]
    simp only [stateF,hx]
  rw [h2] at h1
  have h3:=arcs_old ih hs hd hk hi hc xs (fun d hd=>ha d (List.mem_cons_of_mem _ hd))
  simp only [List.map_cons,fstArcs,h1,h3,← g1]
theorem fst_is:∀ f,FstIs f
 | 0=>fun _ _ _ _ _ h=>absurd h (Nat.not_lt_zero _)
 | f+1=>fun k R hk hs hne hd=>by
  have hlf:=firsts_level R hs
  simp only [fstF,stateF]
  cases hi:idxR k.rests (levelR R) with
  | some i =>
   have hR:=idxR_some hi
   obtain ⟨s,hsi⟩:∃ s,k.states[i]? = some s:=by
    have:=(List.getElem?_eq_some_iff.1 hR).1
    rw [hk.len] at this
    exact ⟨_,List.getElem?_eq_getElem this⟩
   have hc:=hk.corr i _ _ hR hsi
   have ha:=arcs_old (fst_is f) hs (by omega) hk hR hc s.arcs (fun _ h=>h)
   rw [hc.labels,hlf] at ha
   rw [ha]
   have he:(⟨finR R,fstOut R,s.arcs⟩:StP)=s:=by
    obtain ⟨sf,so,sa⟩:=s
    have h1:=hc.fin
    have h2:=hc.out
    simp only at h1 h2
    rw [fin_level] at h1
    rw [out_level R hs] at h2
    rw [h1,h2]
   simp only
   rw [he]
   exact addS_some hsi (fun j hj=>hk.unalike hj hsi)
  | none =>
   have hsl:=sort_level hs
   have ha:=arcs_new (fst_is f) hs (by omega) (firstsR R) k hk (fun c hc=>mem_firsts.1 hc)
   rw [ha]
   obtain ⟨h1,h2,h3,h4⟩:=arcs_ok (stateF_ok f) hsl (by rw [depR_level];omega) (firstsR (levelR R)) k hk (fun c hc=>mem_firsts.1 hc)
   rw [hlf] at h1 h2 h3 h4 ⊢
   have hnew:=new_ok (idxR_none hi) hsl (level_ne hne) (least_level hne) h1 h2 (by rw [hlf];exact h3) h4
   simp only
   rw [← fin_level R,← out_level R hs]
   refine addS_none fun hm=>?_
   obtain ⟨j,hj,e⟩:=List.getElem_of_mem hm
   have e1:((arcsF (stateF f) (levelR R) k (firstsR R)).1.states++[(⟨finR (levelR R),outR (levelR R),(arcsF (stateF f) (levelR R) k (firstsR R)).2⟩:StP)])[j]? = some ⟨finR (levelR R),outR (levelR R),(arcsF (stateF f) (levelR R) k (firstsR R)).2⟩:=by
    rw [List.getElem?_append_left hj,List.getElem?_eq_getElem hj,e]
   have e2:((arcsF (stateF f) (levelR R) k (firstsR R)).1.states++[(⟨finR (levelR R),outR (levelR R),(arcsF (stateF f) (levelR R) k (firstsR R)).2⟩:StP)])[(arcsF (stateF f) (levelR R) k (firstsR R)).1.states.length]? = some ⟨finR (levelR R),outR (levelR R),(arcsF (stateF f) (levelR R) k (firstsR R)).2⟩:=by
    rw [List.getElem?_append_right (Nat.le_refl _),Nat.sub_self]
    rfl
   have:=hnew.unalike e1 e2
   omega
end Go.Proofs.YthockgmbooefpaaDoor
