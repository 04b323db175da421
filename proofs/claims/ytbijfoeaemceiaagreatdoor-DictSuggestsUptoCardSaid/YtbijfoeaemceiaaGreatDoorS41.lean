/- What the law rests on, part 41. No condition but those that each theorem names. -/
import Derived.Test.YtbijfoeaemceiaaGreatDoorS40
set_option linter.unusedSectionVars false
set_option linter.unusedSimpArgs false
set_option linter.unusedVariables false
namespace Go.Proofs.YtbijfoeaemceiaaGreatDoor
open Go.RowKit
theorem pfp_fresh {w:World} {p:Nat} {v v1:Value} (hf:Fresh w v v1):∀ i,i<w.heap.size→pfp p v1 i→pfp p v i:=by
 rintro i hi (rfl | h)
 ·exact .inl rfl
 ·rcases hf with e | ⟨g,e,hg⟩
  ·exact .inr (by rw [← e];exact h)
  ·rw [e] at h
   injection h with h
   omega
def pushF (X:List MRow) (m:MRow):List MRow:=upF (X++[m]).length (X++[m]) X.length
def popF (X:List MRow) (n:Nat):List MRow:=(downF X.length (swp X 0 n) 0 n).take n
theorem pushF_spec (X:List MRow) (m:MRow) (h:Heap X X.length):(pushF X m).Perm (X++[m])∧Heap (pushF X m) (pushF X m).length∧(pushF X m).length=X.length+1:=by
 unfold pushF
 have hl:(X++[m]).length=X.length+1:=by simp
 have key:=upF_spec (X++[m]).length (X++[m]) X.length (by omega) (by omega) ?_ ?_
 ·refine ⟨key.1,?_,?_⟩
  ·rw [key.2.2];exact key.2.1
  ·rw [key.2.2];exact hl
 ·intro c h0 hc hne
  have hc':c<X.length:=by omega
  have e:∀ i,i<X.length→(X++[m]).getD i MRow.zero=X.getD i MRow.zero:=fun i hi=>by
   simp [List.getD,List.getElem?_append_left hi]
  rw [e _ (by omega),e _ hc']
  exact h c h0 hc'
 ·intro h0 c hc0 hc hp
  omega
theorem down_last (f:Nat) (X:List MRow) (n:Nat) (hn:n<X.length):(downF f X 0 n).getD n MRow.zero=X.getD n MRow.zero:=by
 have:∀ (f:Nat) (X:List MRow) (i:Nat),n<X.length→i≤n→(downF f X i n).getD n MRow.zero=X.getD n MRow.zero:=by
  intro f
  induction f with
  | zero=>intro X i _ _;rfl
  | succ f ih =>
   intro X i hX hi
   rw [downF_succ]
   split
   ·rfl
   ·rename_i h1
    have hk:kid X i n<n:=by
     unfold kid;split
     ·rename_i h;exact h.1
     ·omega
    split
    ·rw [ih _ _ (by rw [swp_len];exact hX) (by omega),swp_get X i _ n (by omega) (by omega),if_neg (by omega),if_neg (by omega)]
    ·rfl
 exact this f X 0 hn (by omega)
theorem downF_len (f:Nat):∀ (X:List MRow) (i n:Nat),(downF f X i n).length=X.length:=by
 induction f with
 | zero=>intro X i n;rfl
 | succ f ih =>
  intro X i n
  rw [downF_succ]
  split
  ·rfl
  ·split
   ·rw [ih,swp_len]
   ·rfl
theorem popF_spec (X:List MRow) (n:Nat) (hX:X.length=n+1) (h:Heap X X.length):(popF X n).length=n∧Heap (popF X n) (popF X n).length∧(X.getD 0 MRow.zero :: popF X n).Perm X:=by
 have hl:(popF X n).length=n:=by unfold popF;rw [List.length_take,downF_len,swp_len];omega
 have hlast:(downF X.length (swp X 0 n) 0 n).getD n MRow.zero=X.getD 0 MRow.zero:=by
  rw [down_last _ _ _ (by rw [swp_len];omega),swp_get X 0 n n (by omega) (by omega)]
  split
  ·rename_i e;rw [e]
  ·simp
 have hD:(downF X.length (swp X 0 n) 0 n).Perm X∧(0<n→Heap (downF X.length (swp X 0 n) 0 n) n):=by
  by_cases h0:0<n
  ·have key:=downF_spec X.length (swp X 0 n) 0 n h0 (by rw [swp_len];omega) (by omega) ?_ ?_
   ·exact ⟨key.1.trans (swp_perm X 0 n (by omega) (by omega)),fun _=>key.2.1⟩
   ·intro c hc0 hc hp
    rw [swp_get X 0 n _ (by omega) (by omega),swp_get X 0 n _ (by omega) (by omega),if_neg hp,if_neg (by omega),if_neg (by omega),if_neg (by omega)]
    exact h c hc0 (by omega)
   ·intro h;omega
  ·have:n=0:=by omega
   subst this
   have e:downF X.length (swp X 0 0) 0 0=swp X 0 0:=by
    cases X.length with
    | zero=>rfl
    | succ f=>rw [downF_succ,if_pos (by omega)]
   rw [e]
   exact ⟨swp_perm X 0 0 (by omega) (by omega),fun h=>absurd h (by omega)⟩
 refine ⟨hl,?_,?_⟩
 ·rw [hl]
  intro c hc0 hc
  have:=hD.2 (by omega) c hc0 hc
  unfold popF
  have e:∀ i,i<n→((downF X.length (swp X 0 n) 0 n).take n).getD i MRow.zero=(downF X.length (swp X 0 n) 0 n).getD i MRow.zero:=fun i hi=>by
   simp [hi]
  rw [e _ (by omega),e _ hc]
  exact this
 ·have hlen:(downF X.length (swp X 0 n) 0 n).length=n+1:=by rw [downF_len,swp_len,hX]
  have hsplit:downF X.length (swp X 0 n) 0 n=popF X n++[X.getD 0 MRow.zero]:=by
   unfold popF
   have hn:n<(downF X.length (swp X 0 n) 0 n).length:=by omega
   have e:=List.take_succ_eq_append_getElem hn
   rw [List.take_of_length_le (by omega)] at e
   have e2:(downF X.length (swp X 0 n) 0 n)[n]=X.getD 0 MRow.zero:=by
    rw [← hlast];simp [List.getD,hn]
   rw [e2] at e
   exact e
  have hp:=hD.1
  rw [hsplit] at hp
  exact (List.perm_append_comm (l₁:=[X.getD 0 MRow.zero])).trans hp
set_option maxRecDepth 100000 in
set_option maxHeartbeats 1000000 in
theorem hpush_any (w:World) (p:Nat) (most:Int) (v:Value) (X:List MRow) (h:Pil w p most v X) (hX:X.length≤64) (m:MRow) :
  Calls Tryz.prog 186 #[pth p,.iface 98 m.val] w fun e w' =>
   e=.returned (.tuple #[])∧∃ v',Pil w' p most v' (pushF X m)∧Touch (pfp p v) w w'∧Fresh w v v':=by
 have HP:=hide h
 obtain ⟨x,hx⟩:∃ x,x=m.val:=⟨_,rfl⟩
 rw [← hx]
 have HX:=hide hx
 clear hx h
 unfold pth
 have ml:(method 435 289 (.pointer (some ⟨p,1,none⟩)) "Push").run Tryz.prog w=.ok (238,.pointer (some ⟨p,1,none⟩)) w:=meth_push 434 _ w
 go_enter Tryz.func186,Tryz.ntmps186
 go_wp2_with fail
 rw [HX.out]
 refine (ppush_any w p most v X HP.out hX m).mono ?_
 rintro e w1 ⟨rfl,v1,P1,T1,F1⟩
 have HP1:=hide P1
 have HT1:=hide T1
 have HF1:=hide F1
 have c1:=P1.blk.cell 1
 simp at c1
 obtain ⟨A,c,hv,_,_⟩:=own_len P1.own
 have hlm:=own_le P1.own
 rw [hv] at c1
 have hl:(X++[m]).length=X.length+1:=by simp
 rw [hl] at c1 hlm
 have HV:=hide hv
 have HL:=hide hlm
 have ml:(method 435 289 (.pointer (some ⟨p,1,none⟩)) "Len").run Tryz.prog w1=.ok (234,.slice A (X.length+1) c) w1:=meth_len 434 _ w1 _ c1
 rw [← HX.out]
 clear P1 T1 F1 c1 hv hlm hl
 have q0:((X.length+1:Nat):Int)-1=(X.length:Int):=by omega
 have q1:((X.length:Int)+1)-1=(X.length:Int):=by omega
 have hX2:=hide hX
 clear hX
 have q2:(X.length:Int)≤64:=by have:=hX2.out;omega
 go_wp2_with (first
  | (go_at_call 234;refine (plen_any w1 A (X.length+1) c HL.out).mono ?_;rintro e w2 ⟨rfl,rfl⟩)
  | (go_at_call 203;refine (up_any w1 p most v1 (X++[m]) HP1.out (by have:=hX2.out;simp;omega) X.length (by simp)).mono ?_;rintro e w2 ⟨rfl,P2,T2⟩;have HP2:=hide P2;have HT2:=hide T2;clear P2 T2))
 go_end0
 exact ⟨rfl,v1,HP2.out,HT1.out.trans HT2.out (pfp_fresh HF1.out),HF1.out⟩
set_option maxRecDepth 100000 in
set_option maxHeartbeats 1000000 in
theorem hpop_any (w:World) (p:Nat) (most:Int) (v:Value) (X:List MRow) (n:Nat) (hX:X.length=n+1) (hn:n≤64) (h:Pil w p most v X) :
  Calls Tryz.prog 185 #[pth p] w fun e w' =>
   e=.returned (.iface 98 (X.getD 0 MRow.zero).val)∧∃ v',Pil w' p most v' (popF X n)∧Touch (pfp p v) w w'∧v'.ownBlock=v.ownBlock:=by
 have HP:=hide h
 have HX:=hide hX
 have HN:=hide hn
 have c1:=h.blk.cell 1
 simp at c1
 have ho:=h.own
 rw [hX] at ho
 obtain ⟨A,c,rfl,_,_⟩:=own_len ho
 have HO:=hide ho
 have HL:=hide (own_le ho)
 have q0:((n+1:Nat):Int)-1=(n:Int):=by omega
 have q1:((n:Int)+1)-1=(n:Int):=by omega
 have q2:(n:Int)≤64:=by omega
 clear h hX hn ho
 unfold pth
 have ml:(method 435 289 (.pointer (some ⟨p,1,none⟩)) "Len").run Tryz.prog w=.ok (234,.slice A (n+1) c) w:=meth_len 434 _ w _ c1
 have ms:(method 435 289 (.pointer (some ⟨p,1,none⟩)) "Swap").run Tryz.prog w=.ok (236,.slice A (n+1) c) w:=meth_swap 434 _ w _ c1
 go_enter Tryz.func185,Tryz.ntmps185
 go_wp2_with (first
  | (go_at_call 234;refine (plen_any w A (n+1) c HL.out).mono ?_;rintro e w2 ⟨rfl,rfl⟩)
  | (go_at_call 236;refine (pswap_any w A (n+1) c X HX.out.symm HO.out 0 n (Nat.succ_pos _) (Nat.lt_succ_self _)).mono ?_;rintro e w1 ⟨rfl,O1,T1⟩;have HO1:=hide O1;have HT1:=hide T1;clear O1 T1)
  | (go_at_call 202;refine (down_any w1 p most (.slice A (n+1) c) (swp X 0 n) ⟨HP.out.blk.touch HT1.out (fun e=>own_blk_ne HO.out HP.out.blk (by decide) (ad_own.1 e)),by rw [swp_len,HX.out];exact HO1.out⟩ (by rw [swp_len,HX.out];have:=HN.out;omega) n (by rw [swp_len,HX.out];omega)).mono ?_;rintro e w2 ⟨⟨bb,rfl⟩,P2,T2⟩;have HP2:=hide P2;have HT2:=hide T2;have mp:(method 435 289 (.pointer (some ⟨p,1,none⟩)) "Pop").run Tryz.prog w2=.ok (237,.pointer (some ⟨p,1,none⟩)) w2:=meth_pop 434 _ w2;clear P2 T2)
  | (go_at_call 237;refine (ppop_any w2 p most (.slice A (n+1) c) _ n (by rw [downF_len,swp_len,HX.out]) HP2.out).mono ?_;rintro e w3 ⟨rfl,v3,P3,T3,F3⟩;have HP3:=hide P3;have HT3:=hide T3;have HF3:=hide F3;clear P3 T3 F3))
 go_ret
 have e1:(downF (swp X 0 n).length (swp X 0 n) 0 n).getD n MRow.zero=X.getD 0 MRow.zero:=by
  rw [down_last _ _ _ (by rw [swp_len,HX.out];omega),swp_get X 0 n n (by rw [HX.out];omega) (by rw [HX.out];omega)]
  split
  ·rename_i e;rw [e]
  ·simp
 have e2:popF X n=(downF (swp X 0 n).length (swp X 0 n) 0 n).take n:=by rw [swp_len];rfl
 have e3:((downF (swp X 0 n).length (swp X 0 n) 0 n)[n]?.getD MRow.zero)=X.getD 0 MRow.zero:=by rw [← e1];simp [List.getD]
 have T13:Touch (pfp p (.slice A (n+1) c)) w w1:=HT1.out.mono (fun g _ hg=>.inr (ad_own.1 hg))
 refine ⟨?_,v3,by rw [e2];exact HP3.out,(T13.then HT2.out).then HT3.out,HF3.out⟩
 rw [← e3]
 rfl
end Go.Proofs.YtbijfoeaemceiaaGreatDoor
namespace Go.Proofs.YtbijfoeaemceiaaGreatDoor
open Go.RowKit
theorem srt_last (S:List MRow) (hs:Srt S) (n:Nat) (hn:S.length=n+1):∀ x∈S,wle (S.getD n MRow.zero) x:=by
 intro x hx
 obtain ⟨i,hi,rfl⟩:=List.getElem_of_mem hx
 have e:S.getD n MRow.zero=S[n]:=by simp [List.getD,hn]
 rw [e]
 by_cases h:i=n
 ·subst h;exact wle_refl _
 ·exact (List.pairwise_iff_getElem.1 hs) i n hi (by omega) (by omega)
theorem ins_behind (m:MRow) (S:List MRow) (h:∀ x∈S,better m x=false):ins m S=S++[m]:=by
 induction S with
 | nil=>rfl
 | cons x S ih =>
  unfold ins
  rw [if_neg (by rw [h x (by simp)];simp),ih (fun y hy=>h y (by simp [hy]))]
  rfl
theorem ins_front (m z:MRow) (S:List MRow) (h:better m z=true):ins m (S++[z])=ins m S++[z]:=by
 induction S with
 | nil=>simp [ins,h]
 | cons x S ih =>
  simp only [List.cons_append,ins]
  split
  ·rfl
  ·rw [ih];rfl
structure Kep (w:World) (p:Nat) (most:Nat) (v:Value) (S:List MRow):Prop where
 ex:∃ H,Pil w p (most:Int) v H∧H.Perm S∧Heap H H.length
 srt:Srt S
 len:S.length≤most
 m64:most≤64
theorem Kep.touch {w w':World} {p most:Nat} {v:Value} {S:List MRow} {T:Nat→Prop} (h:Kep w p most v S) (ht:Touch T w w') (hs:∀ g,g<w.heap.size→pfp p v g→¬ T g):Kep w' p most v S:=by
 obtain ⟨H,hp,h1,h2⟩:=h.ex
 exact ⟨⟨H,hp.touch ht hs,h1,h2⟩,h.srt,h.len,h.m64⟩
def addB (m:MRow) (S:List MRow) (most:Nat):Bool:=decide (S.length<most) || (decide (0<most) && better m (S.getD (most-1) MRow.zero))
theorem top_last {H S:List MRow} (hp:H.Perm S) (hh:Heap H H.length) (hs:Srt S) (n:Nat) (hn:S.length=n+1):H.getD 0 MRow.zero=S.getD n MRow.zero:=by
 have hl:=hp.length_eq
 have m1:H.getD 0 MRow.zero∈S:=hp.mem_iff.1 (by
  have e:H.getD 0 MRow.zero=H[0]'(by omega):=by simp [List.getD,show 0<H.length by omega]
  rw [e];exact List.getElem_mem _)
 have m2:S.getD n MRow.zero∈H:=hp.mem_iff.2 (by
  have e:S.getD n MRow.zero=S[n]'(by omega):=by simp [List.getD,hn]
  rw [e];exact List.getElem_mem _)
 refine wle_antisymm ?_ (srt_last S hs n hn _ m1)
 obtain ⟨i,hi,he⟩:=List.getElem_of_mem m2
 rw [← he]
 have:=heap_top hh i hi
 have e:H.getD i MRow.zero=H[i]:=by simp [List.getD,hi]
 rwa [e] at this
theorem add_room {H S:List MRow} (hp:H.Perm S) (hh:Heap H H.length) (m:MRow) (most:Nat) (hl:S.length<most):(pushF H m).Perm ((ins m S).take most)∧Heap (pushF H m) (pushF H m).length:=by
 obtain ⟨h1,h2,h3⟩:=pushF_spec H m hh
 refine ⟨?_,h2⟩
 rw [List.take_of_length_le (by rw [ins_len];omega)]
 exact h1.trans (((List.perm_append_comm (l₁:=H) (l₂:=[m])).trans (List.Perm.cons m hp)).trans (ins_perm m S).symm)
theorem drop_last (S:List MRow) (n:Nat) (hn:S.length=n+1):S=S.take n++[S.getD n MRow.zero]:=by
 have e:=List.take_succ_eq_append_getElem (show n<S.length by omega)
 rw [List.take_of_length_le (by omega)] at e
 have e2:S.getD n MRow.zero=S[n]:=by simp [List.getD,hn]
 rw [e2]
 exact e
theorem pop_take {H S:List MRow} (hp:H.Perm S) (hh:Heap H H.length) (hs:Srt S) (n:Nat) (hn:S.length=n+1):(popF H n).Perm (S.take n)∧Heap (popF H n) (popF H n).length∧(popF H n).length=n:=by
 have hl:=hp.length_eq
 obtain ⟨h1,h2,h3⟩:=popF_spec H n (by omega) hh
 refine ⟨?_,h2,h1⟩
 have e:=drop_last S n hn
 rw [top_last hp hh hs n hn] at h3
 have q:(S.getD n MRow.zero :: popF H n).Perm (S.getD n MRow.zero :: S.take n):=by
  refine (h3.trans hp).trans ?_
  exact (List.Perm.of_eq e).trans (List.perm_append_comm (l₁:=S.take n) (l₂:=[S.getD n MRow.zero]))
 exact q.cons_inv
theorem add_full {H S:List MRow} (hp:H.Perm S) (hh:Heap H H.length) (hs:Srt S) (m:MRow) (n:Nat) (hn:S.length=n+1) (hb:better m (S.getD n MRow.zero)=true) :
  (pushF (popF H n) m).Perm ((ins m S).take (n+1))∧Heap (pushF (popF H n) m) (pushF (popF H n) m).length:=by
 obtain ⟨h1,h2,h3⟩:=pop_take hp hh hs n hn
 have hl:(S.take n).length<n+1:=by rw [List.length_take];omega
 obtain ⟨q1,q2⟩:=add_room h1 h2 m (n+1) hl
 refine ⟨?_,q2⟩
 have e:(ins m S).take (n+1)=(ins m (S.take n)).take (n+1):=by
  have e0:=drop_last S n hn
  have e1:ins m S=ins m (S.take n)++[S.getD n MRow.zero]:=by
   conv=>lhs;rw [e0]
   exact ins_front m _ _ hb
  rw [e1,List.take_append_of_le_length (by rw [ins_len,List.length_take];omega)]
 rw [e]
 exact q1
theorem add_not {S:List MRow} (hs:Srt S) (m:MRow) (n:Nat) (hn:S.length=n+1) (hb:better m (S.getD n MRow.zero)=false):(ins m S).take (n+1)=S:=by
 rw [ins_behind m S (fun x hx=>wle_trans (show wle m (S.getD n MRow.zero) from hb) (srt_last S hs n hn x hx)),List.take_append_of_le_length (by omega),List.take_of_length_le (by omega)]
theorem ins_take_srt {S:List MRow} (hs:Srt S) (m:MRow) (k:Nat):Srt ((ins m S).take k):=(ins_srt m S hs).sublist (List.take_sublist _ _)
end Go.Proofs.YtbijfoeaemceiaaGreatDoor
namespace Go.Proofs.YtbijfoeaemceiaaGreatDoor
open Go.RowKit
def mostN (k:Int):Nat:=(min (max k 0) 64).toNat
theorem mostN_le (k:Int):mostN k≤64:=by unfold mostN;omega
theorem mostN_int (k:Int):((mostN k:Nat):Int)=min (max k 0) 64:=by unfold mostN;omega
theorem bnew_any (k:Int) (w:World):Calls Tryz.prog 136 #[.int .i64 k] w fun e w' =>
  e=.returned (.pointer (some ⟨w.heap.size,0,none⟩))∧Kep w' w.heap.size (mostN k) (.slice none 0 0) []∧Touch (fun _=>False) w w':=by
 go_enter Tryz.func136,Tryz.ntmps136
 have key:∀ x:Int,x=(mostN k:Int)→Kep (w.alloc (.cells #[.int .i64 x,.slice none 0 0] 287)) w.heap.size (mostN k) (.slice none 0 0) []:=fun x hx=>by
  subst hx
  exact ⟨⟨[],⟨Blk.new _ _ _,World.ownsRow_nil _ _ _ _⟩,List.Perm.refl _,fun c h0 hc=>absurd hc (by simp)⟩,List.Pairwise.nil,Nat.zero_le _,mostN_le k⟩
 have KEY:=hide key
 clear key
 go_wp2
 all_goals go_ret
 all_goals refine ⟨rfl,KEY.out _ ?_,(Touch.refl _ _).alloc _⟩
 all_goals first|(rw [mostN_int];done)|(rw [mostN_int];omega)
set_option maxRecDepth 100000 in
set_option maxHeartbeats 1000000 in
theorem add_zero (w:World) (p:Nat) (v:Value) (S:List MRow) (h:Kep w p 0 v S) (m:MRow) :
  Calls Tryz.prog 137 #[.pointer (some ⟨p,0,none⟩),m.val] w fun e w'=>e=.returned (.bool false)∧Touch (fun _=>False) w w':=by
 obtain ⟨H,hp,hperm,hh⟩:=h.ex
 have c0:=hp.blk.cell 0
 simp at c0
 have hpl:=hp.blk.lt
 obtain ⟨mw,mn,md⟩:=m
 rw [val_cells]
 simp only
 clear hp hperm hh h
 go_enter Tryz.func137,Tryz.ntmps137
 go_wp2
 go_ret
 exact ⟨rfl,(Touch.refl _ _).alloc _⟩
set_option maxRecDepth 100000 in
set_option maxHeartbeats 1000000 in
theorem add_less (w:World) (p most:Nat) (v:Value) (S:List MRow) (h:Kep w p most v S) (hl:S.length<most) (m:MRow) :
  Calls Tryz.prog 137 #[.pointer (some ⟨p,0,none⟩),m.val] w fun e w' =>
   e=.returned (.bool true)∧∃ v',Kep w' p most v' ((ins m S).take most)∧Touch (pfp p v) w w'∧Fresh w v v':=by
 obtain ⟨H,hp,hperm,hh⟩:=h.ex
 have hlen:=hperm.length_eq
 have ho:=hp.own
 rw [hlen] at ho
 obtain ⟨A,c,rfl,_,_⟩:=own_len ho
 have c0:=hp.blk.cell 0
 have c1:=hp.blk.cell 1
 simp at c0 c1
 have hpl:=hp.blk.lt
 have hm:=h.m64
 have HH:=hide h
 have HP:=hide hp
 have HE:=hide hperm
 have HQ:=hide hh
 have HLN:=hide hlen
 have HLT:=hide hl
 have HM:=hide hm
 have bX:=Blk.new w 98 #[.string m.word,.int .i64 m.weight,.int .i64 m.dist]
 obtain ⟨x1,x2,x3⟩:=bX.facts
 obtain ⟨mw,mn,md⟩:=m
 rw [val_cells]
 simp only at x1 x2 x3 ⊢
 have q0:((most:Int) == 0)=false:=by simp;omega
 have q1:((S.length:Int) == (most:Int))=false:=by simp;omega
 have q2:(most:Int)≤64:=by omega
 have q3:S.length≤9223372036854775807:=by omega
 clear ho hlen hperm hp hh h hl hm bX
 go_enter Tryz.func137,Tryz.ntmps137
 go_wp2
 go_quiet (fail)
 obtain ⟨w2,hw2⟩:∃ w2,w2=(w.alloc (.cells #[.string mw,.int .i64 mn,.int .i64 md] 98)).drewN nq:=⟨_,rfl⟩
 have hT:Touch (fun _=>False) w w2:=by rw [hw2];exact ((Touch.refl _ _).alloc _).drewN _
 have hB:Blk w2 w.heap.size 98 #[.string mw,.int .i64 mn,.int .i64 md]:=by rw [hw2];exact (Blk.new w _ _).drewN _
 rw [← hw2]
 clear hw2
 obtain ⟨y1,y2,y3⟩:=hB.facts
 have HT:=hide hT
 clear hB hT
 go_wp2
 go_still_tail 6,(by kernel_rfl)
 change wpList _ _ _ _ _ w2.drew
 have HT3:=hide (HT.out.drew)
 generalize w2.drew=w3 at HT3 ⊢
 go_wp2_with (go_at_call 186;refine (hpush_any w3 p most (.slice A S.length c) H (HP.out.quiet HT3.out) (by have:=HLN.out;have:=HLT.out;have:=HM.out;omega) ⟨mw,mn,md⟩).mono ?_;rintro e w4 ⟨rfl,v4,P4,T4,F4⟩;have HP4:=hide P4;have HT4:=hide T4;have HF4:=hide F4;clear P4 T4 F4)
 go_ret
 obtain ⟨r1,r2⟩:=add_room HE.out HQ.out ⟨mw,mn,md⟩ most HLT.out
 refine ⟨rfl,v4,⟨⟨_,HP4.out,r1,r2⟩,ins_take_srt HH.out.srt _ _,by rw [List.length_take];omega,HM.out⟩,(HT3.out.up _).then HT4.out,?_⟩
 rcases HF4.out with e | ⟨g,e,hg⟩
 ·exact .inl e
 ·exact .inr ⟨g,e,Nat.le_trans HT3.out.size hg⟩
end Go.Proofs.YtbijfoeaemceiaaGreatDoor
namespace Go.Proofs.YtbijfoeaemceiaaGreatDoor
open Go.RowKit
set_option maxRecDepth 100000 in
set_option maxHeartbeats 1000000 in
theorem add_atmost (w:World) (p:Nat) (v:Value) (S:List MRow) (k n:Nat) (hk:n+1=k) (h:Kep w p k v S) (hl:S.length=k) (m:MRow) :
  Calls Tryz.prog 137 #[.pointer (some ⟨p,0,none⟩),m.val] w fun e w' =>
   e=.returned (.bool (better m (S.getD n MRow.zero)))∧∃ v',Kep w' p k v' ((ins m S).take k)∧Touch (pfp p v) w w'∧Fresh w v v':=by
 obtain ⟨H,hp,hperm,hh⟩:=h.ex
 have htop:=top_last hperm hh h.srt n (hl.trans hk.symm)
 have hlen:H.length=k:=by rw [hperm.length_eq,hl]
 have ho:=hp.own
 rw [hlen] at ho
 obtain ⟨A,c,rfl,_,_⟩:=own_len ho
 have hle:=own_le ho
 obtain ⟨g,rfl,hg,a0,a1,a2,_,_,_⟩:=own_at ho hlen.symm 0 (by omega)
 rw [htop] at a0 a1 a2
 have c0:=hp.blk.cell 0
 have c1:=hp.blk.cell 1
 simp at c0 c1
 have hpl:=hp.blk.lt
 have hm:=h.m64
 have HH:=hide h
 have HP:=hide hp
 have HE:=hide hperm
 have HQ:=hide hh
 have HL:=hide hl
 have HLN:=hide hlen
 have HM:=hide hm
 have HOWN:=hide ho
 have HK:=hide hk
 have bX:=Blk.new w 98 #[.string m.word,.int .i64 m.weight,.int .i64 m.dist]
 obtain ⟨x1,x2,x3⟩:=bX.facts
 obtain ⟨mw,mn,md⟩:=m
 obtain ⟨⟨xw,xn,xd⟩,hx⟩:∃ x,x=S.getD n MRow.zero:=⟨_,rfl⟩
 rw [← hx] at a0 a1 a2 ⊢
 simp only [Nat.zero_mul,Nat.zero_add] at a0 a1 a2
 have EX:=hide hx
 rw [val_cells]
 simp only at x1 x2 x3 ⊢
 have q0:((k:Int) == 0)=false:=by simp;omega
 have q2:(k:Int)≤64:=by omega
 have q3:0<k:=by omega
 clear ho hlen hperm hp hh h hl hm bX htop hx hk hle
 cases hb:better ⟨mw,mn,md⟩ ⟨xw,xn,xd⟩ with
 | false =>
  have HB:=hide hb
  clear hb
  go_enter Tryz.func137,Tryz.ntmps137
  go_wp2
  go_quiet (fail)
  obtain ⟨w2,hw2⟩:∃ w2,w2=(w.alloc (.cells #[.string mw,.int .i64 mn,.int .i64 md] 98)).drewN nq:=⟨_,rfl⟩
  have hT:Touch (fun _=>False) w w2:=by rw [hw2];exact ((Touch.refl _ _).alloc _).drewN _
  have hB:Blk w2 w.heap.size 98 #[.string mw,.int .i64 mn,.int .i64 md]:=by rw [hw2];exact (Blk.new w _ _).drewN _
  rw [← hw2]
  clear hw2
  obtain ⟨y1,y2,y3⟩:=hB.facts
  have c2:=(HP.out.blk.touch hT (fun f=>f)).cell 1
  simp at c2
  have b0:=(hT.cell (a:=⟨g,0,none⟩) hg (fun f=>f)).trans a0
  have b1:=(hT.cell (a:=⟨g,1,none⟩) hg (fun f=>f)).trans a1
  have b2:=(hT.cell (a:=⟨g,2,none⟩) hg (fun f=>f)).trans a2
  have HT:=hide hT
  have HB2:=hide hB
  clear hB hT
  go_wp2
  go_still_tail 7,(by kernel_rfl)
  change wpList _ _ _ _ _ w2.drew
  have HT3:=hide (HT.out.drew)
  have HB3:=hide (HB2.out.drew)
  generalize w2.drew=w3 at HT3 HB3 ⊢
  go_wp2_with (go_at_call 184;refine (pbetter_any ⟨mw,mn,md⟩ ⟨xw,xn,xd⟩ w3).mono ?_;rintro e w4 ⟨rfl,T4⟩;have HT4:=hide (HT3.out.then T4);have HB4:=hide (HB3.out.touch T4 (fun f=>f));clear T4;rw [HB.out])
  go_ret
  refine ⟨rfl,_,?_,HT4.out.up _,.inl rfl⟩
  rw [← HK.out,add_not HH.out.srt ⟨mw,mn,md⟩ n (HL.out.trans HK.out.symm) (by rw [← EX.out];exact HB.out)]
  rw [HK.out]
  exact HH.out.touch HT4.out (fun _ _ _ f=>f)
 | true =>
  have HB:=hide hb
  clear hb
  go_enter Tryz.func137,Tryz.ntmps137
  go_wp2
  go_quiet (fail)
  obtain ⟨w2,hw2⟩:∃ w2,w2=(w.alloc (.cells #[.string mw,.int .i64 mn,.int .i64 md] 98)).drewN nq:=⟨_,rfl⟩
  have hT:Touch (fun _=>False) w w2:=by rw [hw2];exact ((Touch.refl _ _).alloc _).drewN _
  have hB:Blk w2 w.heap.size 98 #[.string mw,.int .i64 mn,.int .i64 md]:=by rw [hw2];exact (Blk.new w _ _).drewN _
  rw [← hw2]
  clear hw2
  obtain ⟨y1,y2,y3⟩:=hB.facts
  have c2:=(HP.out.blk.touch hT (fun f=>f)).cell 1
  simp at c2
  have b0:=(hT.cell (a:=⟨g,0,none⟩) hg (fun f=>f)).trans a0
  have b1:=(hT.cell (a:=⟨g,1,none⟩) hg (fun f=>f)).trans a1
  have b2:=(hT.cell (a:=⟨g,2,none⟩) hg (fun f=>f)).trans a2
  have HT:=hide hT
  have HB2:=hide hB
  clear hB hT
  go_wp2
  go_still_tail 7,(by kernel_rfl)
  change wpList _ _ _ _ _ w2.drew
  have HT3:=hide (HT.out.drew)
  have HB3:=hide (HB2.out.drew)
  generalize w2.drew=w3 at HT3 HB3 ⊢
  go_wp2_with (go_at_call 184;refine (pbetter_any ⟨mw,mn,md⟩ ⟨xw,xn,xd⟩ w3).mono ?_;rintro e w4 ⟨rfl,T4⟩;have HT4:=hide (HT3.out.then T4);have HB4:=hide (HB3.out.touch T4 (fun f=>f));clear T4;rw [HB.out])
  refine (hpop_any w4 p k (.slice (some ⟨g,0,none⟩) k c) H n (HLN.out.trans HK.out.symm) (by have:=HM.out;have:=HK.out;omega) (HP.out.quiet HT4.out)).mono ?_
  rintro e w5 ⟨rfl,v5,P5,T5,F5⟩
  have hne:¬ pfp p (.slice (some ⟨g,0,none⟩) k c) w.heap.size:=by
   rintro (e | e)
   ·omega
   ·simp [Value.ownBlock] at e
    omega
  have hB5:=HB4.out.touch T5 hne
  obtain ⟨z1,z2,z3⟩:=hB5.facts
  have HP5:=hide P5
  have HT5:=hide ((HT4.out.up _).then T5)
  have HF5:=hide F5
  clear P5 T5 F5 hB5 hne y1 y2 y3 c2 b0 b1 b2
  go_wp2
  go_still_tail 6,(by kernel_rfl)
  change wpList _ _ _ _ _ w5.drew
  have HT6:Hid (Touch (fun _=>False) w5 w5.drew):=hide (Touch.refl _ _).drew
  generalize w5.drew=w6 at HT6 ⊢
  obtain ⟨r1,r2,r3⟩:=pop_take HE.out HQ.out HH.out.srt n (HL.out.trans HK.out.symm)
  have HR:=hide r3
  clear r1 r2 r3
  go_wp2_with (go_at_call 186;refine (hpush_any w6 p k v5 (popF H n) (HP5.out.quiet HT6.out) (by have:=HR.out;have:=HM.out;have:=HK.out;omega) ⟨mw,mn,md⟩).mono ?_;rintro e w7 ⟨rfl,v7,P7,T7,F7⟩;have HP7:=hide P7;have HT7:=hide T7;have HF7:=hide F7;clear P7 T7 F7)
  go_ret
  obtain ⟨r1,r2⟩:=add_full HE.out HQ.out HH.out.srt ⟨mw,mn,md⟩ n (HL.out.trans HK.out.symm) (by rw [← EX.out];exact HB.out)
  rw [HK.out] at r1
  have hfr:Fresh w (.slice (some ⟨g,0,none⟩) k c) v7:=by
   rcases HF7.out with e | ⟨g',e,hg'⟩
   ·exact .inl (e.trans HF5.out)
   ·exact .inr ⟨g',e,Nat.le_trans (Nat.le_trans HT5.out.size HT6.out.size) hg'⟩
  have h57:Touch (pfp p v5) w5 w7:=(HT6.out.up _).then HT7.out
  refine ⟨rfl,v7,⟨⟨_,HP7.out,r1,r2⟩,ins_take_srt HH.out.srt _ _,by rw [List.length_take];omega,HM.out⟩,HT5.out.trans h57 ?_,hfr⟩
  rintro i hi (e | e)
  ·exact .inl e
  ·exact .inr (by rw [← HF5.out];exact e)
theorem add_any (w:World) (p most:Nat) (v:Value) (S:List MRow) (h:Kep w p most v S) (m:MRow) :
  Calls Tryz.prog 137 #[.pointer (some ⟨p,0,none⟩),m.val] w fun e w' =>
   e=.returned (.bool (addB m S most))∧∃ v',Kep w' p most v' ((ins m S).take most)∧Touch (pfp p v) w w'∧Fresh w v v':=by
 have hl:=h.len
 by_cases h0:most=0
 ·subst h0
  have hS:S=[]:=List.eq_nil_of_length_eq_zero (by omega)
  subst hS
  refine (add_zero w p v [] h m).mono ?_
  rintro e w1 ⟨rfl,T1⟩
  exact ⟨by simp [addB],v,by simpa using h.touch T1 (fun _ _ _ f=>f),T1.up _,.inl rfl⟩
 ·by_cases h1:S.length<most
  ·refine (add_less w p most v S h h1 m).mono ?_
   rintro e w1 ⟨rfl,r⟩
   exact ⟨by simp [addB,h1],r⟩
  ·refine (add_atmost w p v S most (most-1) (by omega) h (by omega) m).mono ?_
   rintro e w1 ⟨rfl,r⟩
   exact ⟨by simp [addB,h1];omega,r⟩
end Go.Proofs.YtbijfoeaemceiaaGreatDoor
