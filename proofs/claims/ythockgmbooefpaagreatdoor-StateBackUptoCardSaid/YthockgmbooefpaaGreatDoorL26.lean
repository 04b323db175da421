/- What the law rests on, part 26. No condition but those that each theorem names. -/
import Derived.Test.YthockgmbooefpaaGreatDoorL25
set_option linter.unusedSectionVars false
set_option linter.unusedSimpArgs false
set_option linter.unusedVariables false
namespace Go.Proofs.YthockgmbooefpaaGreatDoor
open Go.RowKit
def nrmF (X:List PRow):List PRow:=X.foldl (fun o p=>putF p false o) []
theorem nrmF_snoc (X:List PRow) (p:PRow):nrmF (X++[p])=putF p false (nrmF X):=by simp [nrmF]
theorem nrmF_nrm (X:List PRow):Nrm X (nrmF X):=by
 obtain ⟨r,hr⟩:∃ r,r=X.reverse:=⟨_,rfl⟩
 have hl:X=r.reverse:=by rw [hr,List.reverse_reverse]
 rw [hl]
 clear hl hr
 induction r with
 | nil=>exact Nrm.nil
 | cons p r ih =>
  rw [List.reverse_cons,nrmF_snoc]
  exact ih.put p
def layP (B O:List PRow):List PRow:=(nrmF (B++O)).filter keepP
theorem lay_strict (B O:List PRow):Strict (layP B O):=(nrmF_nrm (B++O)).1.sublist List.filter_sublist
theorem keep_dict {B:List PRow} (hB:DictP B) (k:List UInt8):(key k B).filter keepP=key k B:=by
 rw [List.filter_eq_self]
 intro p hp
 have:=(hB.weight p (mem_key hp)).1
 unfold keepP
 have h0:(p.weight == 0)=false:=by simp;omega
 rw [h0];rfl
theorem lay_key {B:List PRow} (hB:DictP B) (O:List PRow) (k:List UInt8):key k (layP B O)=match (key k O).getLast? with
  | some p=>if keepP p=true then [p] else []
  | none=>key k B:=by
 unfold layP
 rw [key_filter,(nrmF_nrm (B++O)).2 k,key_app,List.getLast?_append]
 cases h:(key k O).getLast? with
 | some p =>
  simp only [Option.some_or,Option.toList_some]
  by_cases hk:keepP p=true
  ·rw [List.filter_cons_of_pos hk,List.filter_nil,if_pos hk]
  ·rw [List.filter_cons_of_neg hk,List.filter_nil,if_neg hk]
 | none =>
  simp only [Option.none_or]
  rw [← key_one (dict_strict hB) k,keep_dict hB]
theorem lay_nil {L:List PRow} (hL:DictP L):layP L []=L :=
 strict_unique (lay_strict L []) (dict_strict hL) fun k=>by rw [lay_key hL];rfl
theorem nrm_last {X Y:List PRow} (h:Nrm X Y) (k:List UInt8):(key k Y).getLast? = (key k X).getLast? := by
 rw [h.2 k]
 cases (key k X).getLast? <;> rfl
def dropP (w:List UInt8) (L:List PRow):List PRow:=L.filter (fun x=>decide (¬ x.word.toList=w))
theorem drop_key (w k:List UInt8) (L:List PRow):key k (dropP w L)=if w=k then [] else key k L:=by
 unfold dropP
 rw [key_filter]
 by_cases h:w=k
 ·subst h
  rw [if_pos rfl,List.filter_eq_nil_iff]
  intro p hp
  have:=of_decide_eq_true (List.mem_filter.1 hp).2
  simp [this]
 ·rw [if_neg h,List.filter_eq_self]
  intro p hp
  have h2:=of_decide_eq_true (List.mem_filter.1 hp).2
  simp only [decide_eq_true_eq]
  rw [h2]
  exact fun e=>h e.symm
theorem drop_strict {L:List PRow} (h:Strict L) (w:List UInt8):Strict (dropP w L):=List.Pairwise.sublist List.filter_sublist h
theorem key_snoc (k:List UInt8) (O:List PRow) (p:PRow):(key k (O++[p])).getLast? = if p.word.toList=k then some p else (key k O).getLast? := by
 rw [key_app]
 by_cases h:p.word.toList=k
 ·have e:key k [p]=[p]:=by simp [key,h]
  rw [e,if_pos h];simp
 ·have e:key k [p]=[]:=by simp [key,h]
  rw [e,if_neg h,List.append_nil]
theorem lay_put {B:List PRow} (hB:DictP B) {O Y:List PRow} {p:PRow} (h:Nrm (O++[p]) Y) (hp:keepP p=true):layP B Y=putF p false (layP B O):=by
 obtain ⟨h1,h2⟩:=putF_ok p (layP B O) (lay_strict B O)
 refine strict_unique (lay_strict B Y) h1 fun k=>?_
 rw [h2,lay_key hB,nrm_last h,key_snoc]
 by_cases e:p.word.toList=k
 ·rw [if_pos e,if_pos e]
  simp only
  rw [if_pos hp]
 ·rw [if_neg e,if_neg e,lay_key hB]
theorem lay_drop {B:List PRow} (hB:DictP B) {O Y:List PRow} {p:PRow} (h:Nrm (O++[p]) Y) (hp:¬ keepP p=true):layP B Y=dropP p.word.toList (layP B O):=by
 refine strict_unique (lay_strict B Y) (drop_strict (lay_strict B O) _) fun k=>?_
 rw [drop_key,lay_key hB,nrm_last h,key_snoc]
 by_cases e:p.word.toList=k
 ·rw [if_pos e,if_pos e]
  simp only
  rw [if_neg hp]
 ·rw [if_neg e,if_neg e,lay_key hB]
theorem find_key {A B:List PRow} {k:List UInt8} (h:key k A=key k B):findP k A=findP k B:=by unfold findP;rw [h]
theorem lay_find {B:List PRow} (hB:DictP B) {O:List PRow} (hO:∀ p∈O,0≤p.weight) (k:List UInt8) :
  findP k (layP B O)=if (findP k O).2=true then ((findP k O).1,decide (0<(findP k O).1)) else findP k B:=by
 have h:=lay_key hB O k
 cases hk:(key k O).getLast? with
 | none =>
  have e:findP k O=(0,false):=by unfold findP;rw [hk]
  rw [hk] at h
  rw [e,if_neg (by decide)]
  exact find_key h
 | some p =>
  have e:findP k O=(p.weight,true):=by unfold findP;rw [hk]
  rw [hk] at h
  simp only at h
  rw [e,if_pos rfl]
  have hp:p∈O:=mem_key (List.mem_of_getLast? hk)
  have h0:=hO p hp
  unfold findP
  rw [h]
  by_cases hz:p.weight=0
  ·have hn:¬ keepP p=true:=by unfold keepP;simp [hz]
   rw [if_neg hn]
   simp [hz]
  ·have hn:keepP p=true:=by unfold keepP;simp [hz]
   rw [if_pos hn]
   simp only [List.getLast?_singleton,Prod.mk.injEq,true_and]
   symm
   simp only [decide_eq_true_eq]
   omega
theorem sort_dict {L:List PRow} (hW:∀ p∈L,wordU p.word.toList=true) (hs:Strict L):SortR (restsL L):=by
 unfold SortR restsL
 rw [List.pairwise_map]
 refine List.Pairwise.imp_of_mem ?_ hs
 intro a b ha hb hab
 have ra:runesU a.word.toList=some (wordR a):=by obtain ⟨x,h,_⟩:=word_runes (hW a ha);unfold wordR;rw [h];rfl
 have rb:runesU b.word.toList=some (wordR b):=by obtain ⟨x,h,_⟩:=word_runes (hW b hb);unfold wordR;rw [h];rfl
 obtain ⟨a1,a2⟩:=runesU_write _ _ _ (Nat.le_refl _) ra
 obtain ⟨b1,b2⟩:=runesU_write _ _ _ (Nat.le_refl _) rb
 unfold plt at hab
 rw [a1,b1,less_runes _ _ (fun r hr=>scal_lt (a2 r hr)) (fun r hr=>scal_lt (b2 r hr))] at hab
 exact hab
theorem dict_mk {L:List PRow} (hl:L.length≤4096) (hW:∀ p∈L,wordU p.word.toList=true∧1≤p.weight∧p.weight≤1048576) (hs:Strict L):DictP L:=by
 refine ⟨hl,fun p hp=>?_,fun p hp=>(hW p hp).2,sort_dict (fun p hp=>(hW p hp).1) hs⟩
 obtain ⟨x,h1,h2,h3,h4⟩:=word_runes (hW p hp).1
 have e:wordR p=x:=by unfold wordR;rw [h1];rfl
 rw [e]
 exact ⟨h1,h2,h3,h4⟩
theorem findP_mem {L:List PRow} {w:List UInt8} (h:(findP w L).2=true):∃ p∈L,p.word.toList=w∧(findP w L).1=p.weight:=by
 unfold findP at h ⊢
 cases hk:(key w L).getLast? with
 | none=>rw [hk] at h;cases h
 | some p =>
  have hp:=List.mem_of_getLast? hk
  exact ⟨p,mem_key hp,of_decide_eq_true (List.mem_filter.1 hp).2,rfl⟩
theorem find_zero {L:List PRow} {w:List UInt8} (h:(findP w L).2=false):findP w L=(0,false):=by
 unfold findP at h ⊢
 cases hk:(key w L).getLast? with
 | none=>rfl
 | some p=>rw [hk] at h;cases h
theorem filter_two {α:Type} (q:α→Bool) (l:List α):l.length=(l.filter q).length+(l.filter fun x=>!q x).length:=by
 induction l with
 | nil=>rfl
 | cons x l ih =>
  cases h:q x with
  | true=>rw [List.filter_cons_of_pos h,List.filter_cons_of_neg (by simp [h])];simp only [List.length_cons];omega
  | false=>rw [List.filter_cons_of_neg (by simp [h]),List.filter_cons_of_pos (by simp [h])];simp only [List.length_cons];omega
theorem drop_len {L:List PRow} (hs:Strict L) (w:List UInt8):(dropP w L).length+(if (findP w L).2=true then 1 else 0)=L.length:=by
 have h:=filter_two (fun x:PRow=>decide (x.word.toList=w)) L
 have e:(L.filter fun x=>!decide (x.word.toList=w))=dropP w L:=by unfold dropP;congr 1;funext x;simp
 have k1:L.filter (fun x=>decide (x.word.toList=w))=key w L:=rfl
 rw [e,k1,key_one hs w] at h
 unfold findP
 cases hk:(key w L).getLast? with
 | none=>rw [hk] at h;simp only [Option.toList_none,List.length_nil] at h;simp;omega
 | some p=>rw [hk] at h;simp only [Option.toList_some,List.length_cons,List.length_nil] at h;simp;omega
theorem put_len {L:List PRow} (hs:Strict L) (p:PRow):(putF p false L).length=if (findP p.word.toList L).2=true then L.length else L.length+1:=by
 obtain ⟨h1,h2⟩:=putF_ok p L hs
 have a:=drop_len h1 p.word.toList
 have b:=drop_len hs p.word.toList
 have e:dropP p.word.toList (putF p false L)=dropP p.word.toList L:=strict_unique (drop_strict h1 _) (drop_strict hs _) fun k=>by
  rw [drop_key,drop_key]
  by_cases hk:p.word.toList=k
  ·rw [if_pos hk,if_pos hk]
  ·rw [if_neg hk,if_neg hk,h2,if_neg hk]
 have f:(findP p.word.toList (putF p false L)).2=true:=by
  have h3:=h2 p.word.toList
  rw [if_pos rfl] at h3
  unfold findP
  rw [h3]
  rfl
 rw [f,if_pos rfl,e] at a
 split at b
 ·rename_i h;rw [if_pos h];omega
 ·rename_i h;rw [if_neg h];omega
theorem dict_put {L:List PRow} (hL:DictP L) {p:PRow} (hw:wordU p.word.toList=true) (h1:1≤p.weight) (h2:p.weight≤1048576) (hf:(findP p.word.toList L).2=true∨L.length<4096):DictP (putF p false L):=by
 refine dict_mk ?_ ?_ (putF_ok p L (dict_strict hL)).1
 ·rw [put_len (dict_strict hL)]
  have:=hL.len
  split
  ·exact this
  ·rcases hf with hf | hf
   ·exact absurd hf ‹_›
   ·omega
 ·intro q hq
  rcases putF_mem p L q hq with rfl | hq
  ·exact ⟨hw,h1,h2⟩
  ·exact ⟨wordU_dict hL hq,hL.weight q hq⟩
theorem dict_drop {L:List PRow} (hL:DictP L) (w:List UInt8):DictP (dropP w L):=by
 have hs:(dropP w L).Sublist L:=List.filter_sublist
 refine dict_mk (Nat.le_trans hs.length_le hL.len) ?_ (drop_strict (dict_strict hL) w)
 intro q hq
 exact ⟨wordU_dict hL (hs.subset hq),hL.weight q (hs.subset hq)⟩
structure OvP (O:List PRow):Prop where
 strict:Strict O
 ok:∀ p∈O,wordU p.word.toList=true∧0≤p.weight∧p.weight≤1048576
structure LayP (B O L:List PRow):Prop where
 dB:DictP B
 ov:OvP O
 lay:L=layP B O
 dL:DictP L
theorem LayP.begin {L:List PRow} (h:DictP L):LayP L [] L:=⟨h,⟨List.Pairwise.nil,fun p hp=>by cases hp⟩,(lay_nil h).symm,h⟩
theorem OvP.add {O Y:List PRow} (h:OvP O) {p:PRow} (hn:Nrm (O++[p]) Y) (hw:wordU p.word.toList=true) (h0:0≤p.weight) (h1:p.weight≤1048576):OvP Y:=by
 refine ⟨hn.1,fun q hq=>?_⟩
 rcases List.mem_append.1 (hn.mem hq) with h2 | h2
 ·exact h.ok q h2
 ·rw [List.mem_singleton.1 h2]
  exact ⟨hw,h0,h1⟩
theorem LayP.find {B O L:List PRow} (h:LayP B O L) (k:List UInt8):findP k L=if (findP k O).2=true then ((findP k O).1,decide (0<(findP k O).1)) else findP k B:=by
 rw [h.lay]
 exact lay_find h.dB (fun p hp=>(h.ov.ok p hp).2.1) k
theorem keep_pos {p:PRow} (h:1≤p.weight):keepP p=true:=by unfold keepP;have h0:(p.weight == 0)=false:=(by simp;omega);rw [h0];rfl
theorem LayP.put {B O L Y:List PRow} (h:LayP B O L) {p:PRow} (hn:Nrm (O++[p]) Y) (hw:wordU p.word.toList=true) (h0:1≤p.weight) (h1:p.weight≤1048576) (hf:(findP p.word.toList L).2=true∨L.length<4096):LayP B Y (putF p false L) :=
 ⟨h.dB,h.ov.add hn hw (by omega) h1,by rw [lay_put h.dB hn (keep_pos h0),← h.lay],dict_put h.dL hw h0 h1 hf⟩
theorem LayP.drop {B O L Y:List PRow} (h:LayP B O L) {w:ByteArray} (hn:Nrm (O++[⟨w,0⟩]) Y) (hw:wordU w.toList=true):LayP B Y (dropP w.toList L) :=
 ⟨h.dB,h.ov.add hn hw (Int.le_refl 0) (by show (0:Int)≤1048576;omega),by rw [lay_drop h.dB hn (by simp [keepP]),← h.lay],dict_drop h.dL _⟩
def setE (L:List PRow) (w:List UInt8) (n:Int):Int:=if wordU w=false then 140 else if n<1∨1048576<n then 141 else if (findP w L).2=false∧4096≤L.length then 142 else 0
def setL (L:List PRow) (w:ByteArray) (n:Int):List PRow:=if setE L w.toList n=0 then putF ⟨w,n⟩ false L else L
def setH (L:List PRow) (w:ByteArray) (n:Int):Int:=if setE L w.toList n=0 then (findP w.toList L).1 else 0
def remE (L:List PRow) (w:List UInt8):Int:=if wordU w=false then 140 else if (findP w L).2=false then 143 else 0
def remL (L:List PRow) (w:ByteArray):List PRow:=if remE L w.toList=0 then dropP w.toList L else L
def remH (L:List PRow) (w:ByteArray):Int:=if remE L w.toList=0 then (findP w.toList L).1 else 0
theorem set_ok {L:List PRow} {w:List UInt8} {n:Int} (h:setE L w n=0):wordU w=true∧1≤n∧n≤1048576∧((findP w L).2=true∨L.length<4096):=by
 unfold setE at h
 split at h
 ·omega
 ·split at h
  ·omega
  ·split at h
   ·omega
   ·rename_i a b c
    refine ⟨by simpa using a,by omega,by omega,?_⟩
    by_cases hf:(findP w L).2=true
    ·exact .inl hf
    ·exact .inr (Nat.lt_of_not_le fun h4=>c ⟨by simpa using hf,h4⟩)
theorem set_dict {L:List PRow} (hL:DictP L) (w:ByteArray) (n:Int):DictP (setL L w n):=by
 unfold setL
 split
 ·rename_i h
  obtain ⟨h1,h2,h3,h4⟩:=set_ok h
  exact dict_put hL h1 h2 h3 h4
 ·exact hL
theorem rem_dict {L:List PRow} (hL:DictP L) (w:ByteArray):DictP (remL L w):=by
 unfold remL
 split
 ·exact dict_drop hL _
 ·exact hL
end Go.Proofs.YthockgmbooefpaaGreatDoor
