/- What the law rests on, part 25. No condition but those that each theorem names. -/
import Derived.Test.YtbijfoeaemceiaaGreatDoorA24
import Derived.Test.YtbijfoeaemceiaaGreatDoorA20
set_option linter.unusedSectionVars false
set_option linter.unusedSimpArgs false
set_option linter.unusedVariables false
namespace Go.Proofs.YtbijfoeaemceiaaGreatDoor
open Go.RowKit
instance zeroBase:Inhabited BaseT:=⟨⟨0⟩⟩
theorem find_mem {k:List UInt8} {L:List PRow} {n:Int} (h:findP k L=(n,true)):∃ p∈L,p.word.toList=k∧p.weight=n:=by
 unfold findP at h
 cases hl:(key k L).getLast? with
 | none=>rw [hl] at h;simp at h
 | some p =>
  rw [hl] at h
  simp only [Prod.mk.injEq,and_true] at h
  have hm:=List.mem_of_getLast? hl
  simp only [key,List.mem_filter,decide_eq_true_eq] at hm
  exact ⟨p,hm.1,hm.2,h⟩
theorem mach_sub {L M:List PRow} (hL:DictP L) (hM:DictP M) (h:mach L=mach M):∀ p∈L,p∈M:=by
 intro p hp
 have hne:L≠[]:=fun e=>by rw [e] at hp;cases hp
 have hlen:0<(mach L).states.length:=(right_made hL hne).pos
 have hne2:M≠[]:=fun e=>by
  rw [h,e] at hlen
  simp [mach] at hlen
 have h1:=mach_find hL hne _ _ (hL.word p hp).1
 have h2:=mach_find hM hne2 _ _ (hL.word p hp).1
 rw [h,h2,key_words hL hp] at h1
 obtain ⟨q,hq,e1,e2⟩:=find_mem h1
 have e:q=p:=by
  obtain ⟨qw,qn⟩:=q
  obtain ⟨pw,pn⟩:=p
  simp only at e1 e2
  rw [e2,toList_inj e1]
 rw [← e]
 exact hq
theorem mach_inj {L M:List PRow} (hL:DictP L) (hM:DictP M) (h:mach L=mach M):L=M:=by
 have sL:=hL.sort
 have sM:=hM.sort
 unfold SortR restsL at sL sM
 rw [List.pairwise_map] at sL sM
 exact sorted_ext (lt:=fun a b:PRow=>ltR (wordR a,a.weight) (wordR b,b.weight)) (fun a e=>by simp [ltR,lexN_irr] at e) (fun a b e f=>by
  simp only [ltR] at e f
  rw [lexN_asym _ _ e] at f
  cases f) sL sM (fun p=>⟨mach_sub hL hM h p,mach_sub hM hL h.symm p⟩)
def rowW (X text:List Nat):Nat:=(rowK X text).getD X.length 0
theorem foldD_last (X text:List Nat):(text.foldl (stepD X) (List.range (X.length+1))).getLastD 0=rowW X text:=by
 have h:=rowK_len X text
 unfold rowW
 unfold rowK at h ⊢
 rw [List.getLastD_eq_getLast?,List.getLast?_eq_getElem?,h]
 rfl
section
variable {L:List PRow}
theorem mach_form (hD:DictP L):∀ i,i<(mach L).states.length→FormP i ((mach L).states.getD i noSt):=by
 rcases right_mach hD with ⟨h,_⟩ | h
 ·intro i hi
  rw [h] at hi
  simp at hi
 ·exact h.form
theorem mach_rst (hD:DictP L) (hne:L≠[]):restsL L=(rst (mach L).states ((mach L).states.length-1)).map fun r=>(r.1,r.2+(mach L).base):=by
 have hf:=mach_form hD
 obtain ⟨h1,h2⟩:=rgt_words (right_mach hD)
 have h3:L=wordsG (mach L).states (mach L).base:=mach_inj hD h1 (by rw [h2])
 have hs:(mach L).states≠[]:=fun e=>by
  rw [e] at h3
  exact hne h3
 have hpos:0<(mach L).states.length:=List.length_pos_iff.2 hs
 have h4:wordsG (mach L).states (mach L).base=wordsM (mach L).states (mach L).base:=by
  unfold wordsG
  rw [if_neg hs]
 have h5:=run_rst hf (mach L).states.length ((mach L).states.length-1) (by omega) (by omega)
 obtain ⟨sts,hsts⟩:∃ y,y=(mach L).states:=⟨_,rfl⟩
 obtain ⟨base,hb⟩:∃ y,y=(mach L).base:=⟨_,rfl⟩
 rw [← hsts,← hb] at h3 h4
 rw [← hsts] at h5 ⊢
 rw [← hb,h3,h4]
 unfold restsL wordsM
 rw [List.map_map]
 apply List.map_congr_left
 intro r hr
 simp only [Function.comp,wordR]
 rw [show (⟨(r.1.flatMap writeU).toArray⟩:ByteArray).toList=r.1.flatMap writeU by rw [Go.ByteArray.toList_eq],runes_flat r.1 (fun c hc=>(h5 r hr c hc).1)]
 rfl
structure FzGd (L:List PRow) (m:Nat) (t:FzIt):Prop where
 i:t.i<(mach L).states.length
 row:t.row.length=m+1
 s0:0≤t.sum
 mem:∀ r∈rst (mach L).states t.i,(t.head++r.1,t.sum+r.2)∈restsL L
theorem FzGd.bnd (hD:DictP L) {m:Nat} {t:FzIt} (h:FzGd L m t):t.Bnd (mach L).states.length m:=by
 have hf:=mach_form hD
 have hr:=rs_ok hf (t.i+1) t.i (Nat.lt_succ_self _) h.i
 obtain ⟨r,hrm⟩:∃ r,r∈rst (mach L).states t.i:=List.exists_mem_of_ne_nil _ hr.ne
 have h1:=h.mem r hrm
 have h2:=leastR_le hrm
 rw [hr.least] at h2
 obtain ⟨p,hp,he⟩:=List.mem_map.1 h1
 simp only [Prod.mk.injEq] at he
 obtain ⟨w1,w2,w3,w4⟩:=hD.word p hp
 have hw:=hD.weight p hp
 have hsc:=(runesU_write _ _ _ (Nat.le_refl _) w1).2
 rw [he.1] at w4 hsc
 rw [List.length_append] at w4
 have h0:=h.s0
 exact ⟨h.i,h.row,fun c hc=>hsc c (List.mem_append_left _ hc),by omega,h0,by omega⟩
theorem FzGd.ok {m:Nat} {X:List Nat} (hX:X.length=m) {t:FzIt} (h:FzGd L m t):t.Ok (mach L).states X:=⟨h.i,by rw [hX];exact h.row⟩
theorem FzGd.kids (hD:DictP L) {m:Nat} {X:List Nat} (hX:X.length=m) {o:Nat} {t:FzIt} (h:FzGd L m t):∀ k∈fzKids (mach L).states X o t,FzGd L m k:=by
 have hf:=mach_form hD
 have hd:=form_down hf
 intro k hk
 unfold fzKids at hk
 split at hk
 ·cases hk
 ·obtain ⟨a,ha,rfl⟩:=List.mem_map.1 hk
  have hi:=hd t.i h.i a ha
  have h0:=((hf t.i h.i).arc a ha).1
  refine ⟨Nat.lt_trans hi h.i,by rw [stepD_len _ (by rw [hX];exact h.row),hX],by have:=h.s0;simp only;omega,fun r hr=>?_⟩
  have h1:=h.mem (a.1 :: r.1,r.2+a.2.1) ((mem_rst_cons hd h.i).2 ⟨a,ha,rfl,by simpa using hr⟩)
  simp only at h1 ⊢
  rw [List.append_assoc,List.singleton_append]
  have e:t.sum+a.2.1+r.2=t.sum+(r.2+a.2.1):=by omega
  rw [e]
  exact h1
theorem root_gd (hD:DictP L) (hne:L≠[]) (m:Nat):FzGd L m ⟨(mach L).states.length-1,[],(mach L).base,List.range (m+1)⟩:=by
 have hpos:0<(mach L).states.length:=(right_made hD hne).pos
 refine ⟨by simp only;omega,by simp,(base_mach hD).1,fun r hr=>?_⟩
 rw [mach_rst hD hne]
 simp only [List.nil_append]
 exact List.mem_map.2 ⟨r,hr,by rw [Int.add_comm]⟩
def fzAllP (L:List PRow) (X:List Nat) (o:Nat):List MRow:=L.filterMap fun p=>if rowW X (wordR p)<o then some ⟨p.word,p.weight,(rowW X (wordR p):Int)⟩ else none
theorem fz_total (hD:DictP L) (hne:L≠[]) (X:List Nat) (o:Nat):(fzI (mach L).states X o ⟨(mach L).states.length-1,[],(mach L).base,List.range (X.length+1)⟩).map hitM=fzAllP L X o:=by
 unfold fzI fzAllP
 have h1:=mach_rst hD hne
 have h2:(rst (mach L).states ((mach L).states.length-1)).filterMap (hitF X o (List.range (X.length+1)) [] (mach L).base)=(restsL L).filterMap fun r=>if rowW X r.1<o then some (r.1,r.2,rowW X r.1) else none:=by
  rw [h1,List.filterMap_map]
  apply filterMap_congr'
  intro r _
  unfold hitF
  simp only [Function.comp,foldD_last,List.nil_append]
  rw [Int.add_comm]
 rw [h2]
 unfold restsL
 rw [List.filterMap_map,List.map_filterMap]
 apply filterMap_congr'
 intro p hp
 simp only [Function.comp]
 split
 ·simp only [Option.map_some,hitM]
  obtain ⟨w1,_⟩:=hD.word p hp
  have hw:=(runesU_write _ _ _ (Nat.le_refl _) w1).1
  rw [← hw]
  have:(⟨p.word.toList.toArray⟩:ByteArray)=p.word:=by rw [Go.ByteArray.toList_eq]
  rw [this]
 ·rfl
theorem nz_le (hD:DictP L):∀ (k i:Nat),i<k→i<(mach L).states.length→nz (mach L).states i≤((rst (mach L).states i).map fun r=>r.1.length+1).sum
 | 0,_,h,_=>absurd h (Nat.not_lt_zero _)
 | k+1,i,hk,hi=>by
  have hf:=mach_form hD
  have hd:=form_down hf
  have hr:=rs_ok hf (i+1) i (Nat.lt_succ_self _) hi
  rw [nz_eq hd hi]
  have hne:=hr.ne
  rw [rst_eq hd hi] at hne ⊢
  rw [List.map_append,List.sum_append]
  have key:∀ ys:List (Nat × Int × Nat),(∀ a∈ys,a∈((mach L).states.getD i noSt).arcs) →
    (ys.map fun a=>nz (mach L).states a.2.2).sum+ys.length≤((ys.flatMap fun a=>(rst (mach L).states a.2.2).map fun r=>(a.1 :: r.1,r.2+a.2.1)).map fun r=>r.1.length+1).sum:=by
   intro ys
   induction ys with
   | nil=>intro _;simp
   | cons a ys ih =>
    intro has
    have h1:=ih (fun b hb=>has b (List.mem_cons_of_mem _ hb))
    have hai:=hd i hi a (has a List.mem_cons_self)
    have h2:=nz_le hD k a.2.2 (by omega) (by omega)
    have h3:=(rs_ok hf (a.2.2+1) a.2.2 (Nat.lt_succ_self _) (by omega)).ne
    rw [List.map_cons,List.sum_cons,List.flatMap_cons,List.map_append,List.sum_append,List.length_cons,List.map_map]
    have h4:((rst (mach L).states a.2.2).map ((fun r:List Nat × Int=>r.1.length+1) ∘ fun r=>(a.1 :: r.1,r.2+a.2.1))).sum=((rst (mach L).states a.2.2).map fun r=>r.1.length+1).sum+(rst (mach L).states a.2.2).length:=by
     generalize rst (mach L).states a.2.2=R
     induction R with
     | nil=>rfl
     | cons r R ih2=>simp only [List.map_cons,List.sum_cons,Function.comp,List.length_cons] at ih2 ⊢;omega
    have h5:0<(rst (mach L).states a.2.2).length:=List.length_pos_iff.2 h3
    omega
  have h6:=key _ (fun a h=>h)
  by_cases hfin:((mach L).states.getD i noSt).fin=true
  ·rw [if_pos hfin]
   simp only [List.map_cons,List.map_nil,List.sum_cons,List.sum_nil,List.length_nil]
   omega
  ·rw [if_neg hfin] at hne ⊢
   have h7:0<((mach L).states.getD i noSt).arcs.length:=by
    apply List.length_pos_iff.2
    rintro h
    rw [h] at hne
    exact hne rfl
   simp only [List.map_nil,List.sum_nil]
   omega
theorem sum_le_len {α:Type} (f:α→Nat) (B:Nat):∀ l:List α,(∀ a∈l,f a≤B)→(l.map f).sum≤B*l.length
 | [],_=>by simp
 | a :: l,h=>by
  have h1:=sum_le_len f B l (fun b hb=>h b (List.mem_cons_of_mem _ hb))
  have h2:=h a List.mem_cons_self
  rw [List.map_cons,List.sum_cons,List.length_cons,Nat.mul_add]
  omega
theorem nz_root (hD:DictP L) (hne:L≠[]):nz (mach L).states ((mach L).states.length-1)≤102400:=by
 have hpos:0<(mach L).states.length:=(right_made hD hne).pos
 have h1:=nz_le hD (mach L).states.length ((mach L).states.length-1) (by omega) (by omega)
 have h2:=mach_rst hD hne
 have h3:((rst (mach L).states ((mach L).states.length-1)).map fun r=>r.1.length+1).sum≤25*(rst (mach L).states ((mach L).states.length-1)).length:=by
  refine sum_le_len _ _ _ fun r hr=>?_
  have h4:(r.1,r.2+(mach L).base)∈restsL L:=by
   rw [h2]
   exact List.mem_map.2 ⟨r,hr,rfl⟩
  obtain ⟨p,hp,he⟩:=List.mem_map.1 h4
  simp only [Prod.mk.injEq] at he
  have:=(hD.word p hp).2.2.2
  rw [he.1] at this
  omega
 have h5:(rst (mach L).states ((mach L).states.length-1)).length=L.length:=by
  have:=congrArg List.length h2
  simp only [restsL,List.length_map] at this
  exact this.symm
 have:=hD.len
 omega
theorem nzL_len (hD:DictP L) {I:List FzIt}:(∀ t∈I,t.i<(mach L).states.length)→I.length≤nzL (mach L).states I:=by
 induction I with
 | nil=>intro _;simp [nzL]
 | cons t I ih =>
  intro h
  have h1:=ih (fun u hu=>h u (List.mem_cons_of_mem _ hu))
  have h2:0<nz (mach L).states t.i:=by
   rw [nz_eq (form_down (mach_form hD)) (h t List.mem_cons_self)]
   omega
  simp only [nzL,List.map_cons,List.sum_cons,List.length_cons] at h1 ⊢
  omega
structure FzJ (L:List PRow) (X:List Nat) (m o:Nat) (tot hs:List FzHit) (I:List FzIt):Prop where
 all:hs++I.reverse.flatMap (fzI (mach L).states X o)=tot
 gd:∀ t∈I,FzGd L m t
theorem FzJ.step (hD:DictP L) {X:List Nat} {m o:Nat} (hX:X.length=m) {tot hs:List FzHit} {I:List FzIt} {t:FzIt} (h:FzJ L X m o tot hs (I++[t])) :
  FzJ L X m o tot (hs++fzHit (mach L).states o t) (I++(fzKids (mach L).states X o t).reverse)∧FzGd L m t∧nzL (mach L).states (I++(fzKids (mach L).states X o t).reverse)<nzL (mach L).states (I++[t]):=by
 have hd:=form_down (mach_form hD)
 have ht:=h.gd t (by simp)
 have hok:=ht.ok hX
 refine ⟨⟨?_,?_⟩,ht,?_⟩
 ·rw [← h.all]
  simp only [List.reverse_append,List.reverse_reverse,List.flatMap_append,List.reverse_cons,List.reverse_nil,List.nil_append,List.flatMap_cons,List.flatMap_nil,List.append_nil]
  rw [fzI_eq hd hok]
  simp only [List.append_assoc]
 ·intro k hk
  rcases List.mem_append.1 hk with hk | hk
  ·exact h.gd k (List.mem_append_left _ hk)
  ·exact ht.kids hD hX k (List.mem_reverse.1 hk)
 ·rw [nzL_app,nzL_app,nzL_reverse]
  have:=nz_kids hd (o:=o) hok
  have e:nzL (mach L).states [t]=nz (mach L).states t.i:=by simp [nzL]
  rw [e]
  omega
end
end Go.Proofs.YtbijfoeaemceiaaGreatDoor
