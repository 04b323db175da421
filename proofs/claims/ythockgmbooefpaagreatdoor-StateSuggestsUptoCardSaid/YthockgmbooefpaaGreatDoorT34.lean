/- What the law rests on, part 34. No condition but those that each theorem names. -/
import Derived.Test.YthockgmbooefpaaGreatDoorT33
import Derived.OwnWalk
import Derived.BigQuiet
set_option linter.unusedSectionVars false
set_option linter.unusedSimpArgs false
set_option linter.unusedVariables false
set_option maxRecDepth 100000
set_option maxHeartbeats 2000000
namespace Go.Proofs.YthockgmbooefpaaGreatDoor
open Go.RowKit
theorem add_atmost (w:World) (p:Nat) (v:Value) (S:List MRow) (k n:Nat) (hk:n+1=k) (h:Kep w p k v S) (hl:S.length=k) (m:MRow) :
  Calls Tryz.prog 108 #[.pointer (some ⟨p,0,none⟩),m.val] w fun e w' =>
   e=.returned (.bool (better m (S.getD n MRow.zero)))∧∃ v',Kep w' p k v' ((ins m S).take k)∧Touch (pfp p v) w w'∧Fresh w v v':=by
 obtain ⟨H,hp,hperm,hh⟩:=h.ex
 have htop:=top_last hperm hh h.srt n (hl.trans hk.symm)
 have hlen:H.length=k:=by rw [hperm.length_eq,hl]
 have ho:=hp.own
 rw [hlen] at ho
 obtain ⟨A,c,rfl,_,_⟩:=own_len ho
 have hle:=own_le ho
 obtain ⟨g,rfl,hg,a0,a1,a2,_,_,_⟩:=own_at ho hlen.symm 0 (by omega)
 rw [htop] at a0 a1 a2
 have c0:=hp.blk.cell 0
 have c1:=hp.blk.cell 1
 simp at c0 c1
 have hpl:=hp.blk.lt
 have hm:=h.m64
 have HH:=hide h
 have HP:=hide hp
 have HE:=hide hperm
 have HQ:=hide hh
 have HL:=hide hl
 have HLN:=hide hlen
 have HM:=hide hm
 have HOWN:=hide ho
 have HK:=hide hk
 have bX:=Blk.new w 43 #[.string m.word,.int .i64 m.weight,.int .i64 m.dist]
 obtain ⟨x1,x2,x3⟩:=bX.facts
 obtain ⟨mw,mn,md⟩:=m
 obtain ⟨⟨xw,xn,xd⟩,hx⟩:∃ x,x=S.getD n MRow.zero:=⟨_,rfl⟩
 rw [← hx] at a0 a1 a2 ⊢
 simp only [Nat.zero_mul,Nat.zero_add] at a0 a1 a2
 have EX:=hide hx
 rw [val_cells]
 simp only at x1 x2 x3 ⊢
 have q0:((k:Int) == 0)=false:=by simp;omega
 have q2:(k:Int)≤64:=by omega
 have q3:0<k:=by omega
 clear ho hlen hperm hp hh h hl hm bX htop hx hk hle
 cases hb:better ⟨mw,mn,md⟩ ⟨xw,xn,xd⟩ with
 | false =>
  have HB:=hide hb
  clear hb
  go_enter Tryz.func108,Tryz.ntmps108
  go_wp2
  go_quiet (fail)
  obtain ⟨w2,hw2⟩:∃ w2,w2=(w.alloc (.cells #[.string mw,.int .i64 mn,.int .i64 md] 43)).drewN nq:=⟨_,rfl⟩
  have hT:Touch (fun _=>False) w w2:=by rw [hw2];exact ((Touch.refl _ _).alloc _).drewN _
  have hB:Blk w2 w.heap.size 43 #[.string mw,.int .i64 mn,.int .i64 md]:=by rw [hw2];exact (Blk.new w _ _).drewN _
  rw [← hw2]
  clear hw2
  obtain ⟨y1,y2,y3⟩:=hB.facts
  have c2:=(HP.out.blk.touch hT (fun f=>f)).cell 1
  simp at c2
  have b0:=(hT.cell (a:=⟨g,0,none⟩) hg (fun f=>f)).trans a0
  have b1:=(hT.cell (a:=⟨g,1,none⟩) hg (fun f=>f)).trans a1
  have b2:=(hT.cell (a:=⟨g,2,none⟩) hg (fun f=>f)).trans a2
  have HT:=hide hT
  have HB2:=hide hB
  clear hB hT
  go_wp2
  go_still_tail 7,(by kernel_rfl)
  change wpList _ _ _ _ _ w2.drew
  have HT3:=hide (HT.out.drew)
  have HB3:=hide (HB2.out.drew)
  generalize w2.drew=w3 at HT3 HB3 ⊢
  go_wp2_with (go_at_call 154;refine (pbetter_any ⟨mw,mn,md⟩ ⟨xw,xn,xd⟩ w3).mono ?_;rintro e w4 ⟨rfl,T4⟩;have HT4:=hide (HT3.out.then T4);have HB4:=hide (HB3.out.touch T4 (fun f=>f));clear T4;rw [HB.out])
  go_ret
  refine ⟨rfl,_,?_,HT4.out.up _,.inl rfl⟩
  rw [← HK.out,add_not HH.out.srt ⟨mw,mn,md⟩ n (HL.out.trans HK.out.symm) (by rw [← EX.out];exact HB.out)]
  rw [HK.out]
  exact HH.out.touch HT4.out (fun _ _ _ f=>f)
 | true =>
  have HB:=hide hb
  clear hb
  go_enter Tryz.func108,Tryz.ntmps108
  go_wp2
  go_quiet (fail)
  obtain ⟨w2,hw2⟩:∃ w2,w2=(w.alloc (.cells #[.string mw,.int .i64 mn,.int .i64 md] 43)).drewN nq:=⟨_,rfl⟩
  have hT:Touch (fun _=>False) w w2:=by rw [hw2];exact ((Touch.refl _ _).alloc _).drewN _
  have hB:Blk w2 w.heap.size 43 #[.string mw,.int .i64 mn,.int .i64 md]:=by rw [hw2];exact (Blk.new w _ _).drewN _
  rw [← hw2]
  clear hw2
  obtain ⟨y1,y2,y3⟩:=hB.facts
  have c2:=(HP.out.blk.touch hT (fun f=>f)).cell 1
  simp at c2
  have b0:=(hT.cell (a:=⟨g,0,none⟩) hg (fun f=>f)).trans a0
  have b1:=(hT.cell (a:=⟨g,1,none⟩) hg (fun f=>f)).trans a1
  have b2:=(hT.cell (a:=⟨g,2,none⟩) hg (fun f=>f)).trans a2
  have HT:=hide hT
  have HB2:=hide hB
  clear hB hT
  go_wp2
  go_still_tail 7,(by kernel_rfl)
  change wpList _ _ _ _ _ w2.drew
  have HT3:=hide (HT.out.drew)
  have HB3:=hide (HB2.out.drew)
  generalize w2.drew=w3 at HT3 HB3 ⊢
  go_wp2_with (go_at_call 154;refine (pbetter_any ⟨mw,mn,md⟩ ⟨xw,xn,xd⟩ w3).mono ?_;rintro e w4 ⟨rfl,T4⟩;have HT4:=hide (HT3.out.then T4);have HB4:=hide (HB3.out.touch T4 (fun f=>f));clear T4;rw [HB.out])
  refine (hpop_any w4 p k (.slice (some ⟨g,0,none⟩) k c) H n (HLN.out.trans HK.out.symm) (by have:=HM.out;have:=HK.out;omega) (HP.out.quiet HT4.out)).mono ?_
  rintro e w5 ⟨rfl,v5,P5,T5,F5⟩
  have hne:¬ pfp p (.slice (some ⟨g,0,none⟩) k c) w.heap.size:=by
   rintro (e | e)
   ·omega
   ·simp [Value.ownBlock] at e
    omega
  have hB5:=HB4.out.touch T5 hne
  obtain ⟨z1,z2,z3⟩:=hB5.facts
  have HP5:=hide P5
  have HT5:=hide ((HT4.out.up _).then T5)
  have HF5:=hide F5
  clear P5 T5 F5 hB5 hne y1 y2 y3 c2 b0 b1 b2
  go_wp2
  go_still_tail 6,(by kernel_rfl)
  change wpList _ _ _ _ _ w5.drew
  have HT6:Hid (Touch (fun _=>False) w5 w5.drew):=hide (Touch.refl _ _).drew
  generalize w5.drew=w6 at HT6 ⊢
  obtain ⟨r1,r2,r3⟩:=pop_take HE.out HQ.out HH.out.srt n (HL.out.trans HK.out.symm)
  have HR:=hide r3
  clear r1 r2 r3
  go_wp2_with (go_at_call 156;refine (hpush_any w6 p k v5 (popF H n) (HP5.out.quiet HT6.out) (by have:=HR.out;have:=HM.out;have:=HK.out;omega) ⟨mw,mn,md⟩).mono ?_;rintro e w7 ⟨rfl,v7,P7,T7,F7⟩;have HP7:=hide P7;have HT7:=hide T7;have HF7:=hide F7;clear P7 T7 F7)
  go_ret
  obtain ⟨r1,r2⟩:=add_full HE.out HQ.out HH.out.srt ⟨mw,mn,md⟩ n (HL.out.trans HK.out.symm) (by rw [← EX.out];exact HB.out)
  rw [HK.out] at r1
  have hfr:Fresh w (.slice (some ⟨g,0,none⟩) k c) v7:=by
   rcases HF7.out with e | ⟨g',e,hg'⟩
   ·exact .inl (e.trans HF5.out)
   ·exact .inr ⟨g',e,Nat.le_trans (Nat.le_trans HT5.out.size HT6.out.size) hg'⟩
  have h57:Touch (pfp p v5) w5 w7:=(HT6.out.up _).then HT7.out
  refine ⟨rfl,v7,⟨⟨_,HP7.out,r1,r2⟩,ins_take_srt HH.out.srt _ _,by rw [List.length_take];omega,HM.out⟩,HT5.out.trans h57 ?_,hfr⟩
  rintro i hi (e | e)
  ·exact .inl e
  ·exact .inr (by rw [← HF5.out];exact e)
theorem add_any (w:World) (p most:Nat) (v:Value) (S:List MRow) (h:Kep w p most v S) (m:MRow) :
  Calls Tryz.prog 108 #[.pointer (some ⟨p,0,none⟩),m.val] w fun e w' =>
   e=.returned (.bool (addB m S most))∧∃ v',Kep w' p most v' ((ins m S).take most)∧Touch (pfp p v) w w'∧Fresh w v v':=by
 have hl:=h.len
 by_cases h0:most=0
 ·subst h0
  have hS:S=[]:=List.eq_nil_of_length_eq_zero (by omega)
  subst hS
  refine (add_zero w p v [] h m).mono ?_
  rintro e w1 ⟨rfl,T1⟩
  exact ⟨by simp [addB],v,by simpa using h.touch T1 (fun _ _ _ f=>f),T1.up _,.inl rfl⟩
 ·by_cases h1:S.length<most
  ·refine (add_less w p most v S h h1 m).mono ?_
   rintro e w1 ⟨rfl,r⟩
   exact ⟨by simp [addB,h1],r⟩
  ·refine (add_atmost w p v S most (most-1) (by omega) h (by omega) m).mono ?_
   rintro e w1 ⟨rfl,r⟩
   exact ⟨by simp [addB,h1];omega,r⟩
theorem made_cells (n:Nat):(madeCells #[.string ByteArray.empty,.int .i64 0,.int .i64 0] (n*3)).toList=mCells (List.replicate n MRow.zero):=by
 induction n with
 | zero=>simp [madeCells,mCells]
 | succ n ih =>
  rw [List.replicate_succ',mCells,List.flatMap_append,← mCells,← ih]
  simp only [madeCells,Array.toList_map,Array.toList_range,Nat.succ_mul,List.range_add,List.map_append]
  congr 1
  simp [List.range_succ,List.range_zero,MRow.cells,MRow.zero]
def fillL (S:List MRow) (n i:Nat):List MRow:=List.replicate (n-i) MRow.zero++S.drop (n-i)
theorem fill_step (S:List MRow) (n i q:Nat) (hS:S.length=n) (hq:n-i=q+1) (hi:i<n):(fillL S n i).set q (S.getD q MRow.zero)=fillL S n (i+1):=by
 unfold fillL
 have e:n-(i+1)=q:=by omega
 rw [hq,e,List.replicate_succ',List.append_assoc,List.set_append_right _ _ (by simp)]
 simp only [List.length_replicate,Nat.sub_self]
 have e2:S.drop q=S[q]'(by omega) :: S.drop (q+1):=List.drop_eq_getElem_cons (by omega)
 rw [e2]
 simp [List.getD,show q<S.length by omega]
theorem take_any (w:World) (p most:Nat) (v:Value) (S:List MRow) (n:Nat) (hn:S.length=n) (h:Kep w p most v S) :
  Calls Tryz.prog 109 #[.pointer (some ⟨p,0,none⟩)] w fun e w' =>
   e=.returned (.slice (some ⟨w.heap.size,0,none⟩) n n)∧w'.ownsRow 0 43 3 (.slice (some ⟨w.heap.size,0,none⟩) n n) n (mCells S) ∧
    ∃ v',Kep w' p most v' []∧Touch (pfp p v) w w'∧v'.ownBlock=v.ownBlock:=by
 obtain ⟨H,hp,hperm,hh⟩:=h.ex
 have hlen:H.length=n:=by rw [hperm.length_eq,hn]
 have ho:=hp.own
 rw [hlen] at ho
 obtain ⟨A,c,rfl,_,_⟩:=own_len ho
 have c1:=hp.blk.cell 1
 simp at c1
 have hpl:=hp.blk.lt
 have hvl:∀ g,(Value.slice A n c).ownBlock=some g→g<w.heap.size:=by
  intro g hg
  rcases ho.2 with ⟨e,_⟩ | ⟨g',cap,cur,e,_,hgg,_⟩
  ·rw [e] at hg;simp [Value.ownBlock] at hg
  ·rw [e] at hg
   simp [Value.ownBlock] at hg
   subst hg
   exact (Array.getElem?_eq_some_iff.1 hgg).1
 have hn64:n≤64:=by have:=h.len;have:=h.m64;omega
 have HVL:=hide hvl
 have HH:=hide h
 have HN:=hide hn
 obtain ⟨i0,hi,hz0,hz1,hz2⟩:=info_parts infoMatch
 clear ho hlen hperm hp hh h hn hvl
 obtain ⟨g,hg⟩:∃ g,g=w.heap.size:=⟨_,rfl⟩
 have HG:=hide hg
 rw [← hg]
 go_enter Tryz.func109,Tryz.ntmps109
 go_wp2_with (refine wpList_make_full _ rfl (.tmp 9) (.tmp 9) 39 rfl 0 43 i0 _ 3 Tryz.underlying39 hi hz0 hz1 .i64 .i64 (n:Int) (n:Int) n rfl rfl rfl rfl ?b2 ?b3 (Nat.zero_le _) ?_)
 case b2=>rw [hz2];omega
 case b3=>unfold maxLen;omega
 intro w1 O1 G1
 rw [made_cells] at O1
 rw [← hg] at O1 ⊢
 clear hg
 have HO1:=hide O1
 have HG1:=hide G1
 clear O1 G1 c1
 go_wp2
 go_loopw [13] (fun i wr=>∃ k:Nat,k≤n∧i=.int .i64 k∧Hid (wr.ownsRow 0 43 3 (.slice (some ⟨g,0,none⟩) n n) n (mCells (fillL S n k))) ∧
   Hid (∃ vr,Kep wr p most vr (S.take (n-k))∧Touch (pfp p (.slice A n c)) w wr∧vr.ownBlock=(Value.slice A n c).ownBlock)) (fun i _=>n-(intOf i).toNat)
 case atStart =>
  refine ⟨0,Nat.zero_le _,rfl,hide ?_,hide ⟨_,?_,(Touch.refl _ _).grown HG1.out (fun _ e=>by cases e),rfl⟩⟩
  ·have e:fillL S n 0=List.replicate n MRow.zero:=by
    unfold fillL
    rw [Nat.sub_zero,List.drop_of_length_le (by rw [HN.out];exact Nat.le_refl _),List.append_nil]
   rw [e]
   exact HO1.out
  ·rw [Nat.sub_zero,List.take_of_length_le (by rw [HN.out];exact Nat.le_refl _)]
   exact HH.out.touch ((Touch.refl (fun _=>False) _).grown HG1.out (fun _ e=>by cases e)) (fun _ _ _ f=>f)
 case round =>
  obtain ⟨k,hk,rfl,HO,HE⟩:=hrel
  by_cases hkn:k<n
  ·obtain ⟨q,hq⟩:∃ q,n=k+q+1:=⟨n-k-1,by omega⟩
   obtain ⟨vr,K1,T1,F1⟩:=HE.out
   obtain ⟨H1,P1,E1,Q1⟩:=K1.ex
   have hl:(S.take (n-k)).length=q+1:=by rw [List.length_take,HN.out];omega
   have htop:=top_last E1 Q1 K1.srt q hl
   have eq:(S.take (n-k)).getD q MRow.zero=S.getD q MRow.zero:=by
    simp only [List.getD_eq_getElem?_getD,List.getElem?_take]
    rw [if_pos (by omega)]
   rw [eq] at htop
   obtain ⟨⟨xw,xn,xd⟩,hx⟩:∃ x,x=S.getD q MRow.zero:=⟨_,rfl⟩
   have ta:=assert_match #[.string xw,.int .i64 xn,.int .i64 xd]
   have n0:(n:Int)-1-(k:Int)=(q:Int):=by omega
   have n1:(q:Int)<(n:Int):=by omega
   have n2:(k:Int)<(n:Int):=by omega
   have n3:q<n:=by omega
   have HQ:=hide hq
   have HP1:=hide P1
   have HE1:=hide E1
   have HQ1:=hide Q1
   have HK1:=hide K1
   have HT1:=hide T1
   have HF1:=hide F1
   have HL:=hide hl
   have HTOP:=hide htop
   have HX:=hide hx
   have hsm:q≤64:=by omega
   have hng:¬ pfp p vr g:=by
    rintro (e | e)
    ·have:=HG.out;omega
    ·rw [F1] at e
     have:=HVL.out _ e
     have:=HG.out
     omega
   have HNG:=hide hng
   have hfl:(fillL S n k).length=n:=by unfold fillL;rw [List.length_append,List.length_replicate,List.length_drop,HN.out];omega
   have HFL:=hide hfl
   clear hq P1 E1 Q1 K1 T1 F1 hl htop hx eq hng hfl
   go_wp2_with (go_at_call 155;refine (hpop_any wr p most vr H1 q (by rw [HE1.out.length_eq,HL.out]) hsm HP1.out).mono ?_;rintro e w2 ⟨rfl,v2,P2,T2,F2⟩;have O2:=own_touch HO.out T2 (fun g' hg'=>by cases hg';exact HNG.out);obtain ⟨g',hA,hg2,a0,a1,a2,f0,f1,f2⟩:=own_at O2 HFL.out.symm q n3;injection hA with hA;injection hA with hA _;subst hA;have HO2:=hide O2;have HP2:=hide P2;have HT2:=hide T2;have HF2:=hide F2;clear P2 T2 F2 O2;rw [HTOP.out,← HX.out,val_cells])
   go_roundw
   ·have hTT:Touch (fun g'=>g'=g) w2 (((w2.setCell ⟨g,q*3,none⟩ (.string xw)).setCell ⟨g,q*3+1,none⟩ (.int .i64 xn)).setCell ⟨g,q*3+2,none⟩ (.int .i64 xd)):=by
     iterate 3 refine Touch.setCell ?_ (fun _=>(rfl:g=g)) _
     exact Touch.refl _ _
    have hO3:=own_set3 HO2.out q ⟨xw,xn,xd⟩
    rw [HX.out,fill_step S n k q HN.out (by have:=HQ.out;omega) hkn,← HX.out] at hO3
    refine ⟨k+1,by omega,by simp,hide hO3,hide ⟨v2,?_,?_,HF2.out.trans HF1.out⟩⟩
    ·obtain ⟨r1,r2,_⟩:=pop_take HE1.out HQ1.out HK1.out.srt q HL.out
     have e:(S.take (n-k)).take q=S.take (n-(k+1)):=by
      rw [List.take_take];congr 1;have:=HQ.out;omega
     rw [e] at r1
     have K2:Kep w2 p most v2 (S.take (n-(k+1))):=⟨⟨_,HP2.out,r1,r2⟩,HH.out.srt.sublist (List.take_sublist _ _),Nat.le_trans (by rw [List.length_take];exact Nat.min_le_right _ _) HH.out.len,HH.out.m64⟩
     refine K2.touch hTT ?_
     rintro g' _ hg' rfl
     refine HNG.out ?_
     rcases hg' with e | e
     ·exact .inl e
     ·exact .inr (by rw [← HF2.out];exact e)
    ·have t1:Touch (pfp p (.slice A n c)) w w2:=HT1.out.trans HT2.out (fun i _ hi=>by
      rcases hi with e | e
      ·exact .inl e
      ·exact .inr (by rw [← HF1.out];exact e))
     refine t1.trans hTT ?_
     rintro i hi rfl
     have:=HG.out
     omega
   ·show n-(intOf (.int .i64 ((k:Int)+1))).toNat<n-(intOf (.int .i64 (k:Int))).toNat
    simp [intOf]
    omega
  ·go_wp2
   go_ret
   have hk':k=n:=by omega
   subst hk'
   obtain ⟨vr,K1,T1,F1⟩:=HE.out
   have e1:fillL S k k=S:=by unfold fillL;simp
   have e2:S.take (k-k)=[]:=by simp
   rw [e2] at K1
   have HOO:=HO.out
   rw [e1] at HOO
   exact ⟨rfl,HOO,vr,K1,T1,F1⟩
theorem bestL_take (L:List MRow) (i:Nat) (hi:i<L.length) (k:Nat):bestL (L.take (i+1)) k=(ins (L.getD i MRow.zero) (bestL (L.take i) k)).take k:=by
 have e:L.getD i MRow.zero=L[i]:=by simp [List.getD,hi]
 rw [List.take_succ_eq_append_getElem hi,bestL_snoc,e]
theorem select_any (w:World) (A:Option Addr) (n c:Nat) (L:List MRow) (hL:L.length=n) (hR:Reads w 3 A n (mCells L)) (hn:n≤maxLen) (kk:Int) :
  Calls Tryz.prog 43 #[.slice A n c,.int .i64 kk] w fun e w'=>∃ g m,m=(bestL L (mostN kk)).length ∧
   e=.returned (.slice (some ⟨g,0,none⟩) m m)∧w.heap.size≤g∧w'.ownsRow 0 43 3 (.slice (some ⟨g,0,none⟩) m m) m (mCells (bestL L (mostN kk)))∧Touch (fun _=>False) w w':=by
 obtain ⟨p,hp⟩:∃ p,p=w.heap.size:=⟨_,rfl⟩
 obtain ⟨most,hmo⟩:∃ x,x=mostN kk:=⟨_,rfl⟩
 rw [← hmo]
 unfold maxLen at hn
 have HR:=hide hR
 have HL:=hide hL
 have HMO:=hide hmo
 have HPP:=hide hp
 clear hR hL
 go_enter Tryz.func43,Tryz.ntmps43
 go_wp2_with (go_at_call 107;refine (bnew_any kk w).mono ?_;rintro e w1 ⟨rfl,K1,T1⟩;rw [← hmo,← hp] at K1;rw [← hp];have HK1:=hide K1;have HT1:=hide T1;clear K1 T1 hmo hp)
 go_loopw [15] (fun i wr=>∃ k:Nat,k≤n∧i=.int .i64 k∧Hid (∃ vr,Kep wr p most vr (bestL (L.take k) most)∧Touch (fun _=>False) w wr∧∀ g,pfp p vr g→w.heap.size≤g)) (fun i _=>n-(intOf i).toNat)
 case atStart =>
  refine ⟨0,Nat.zero_le _,rfl,hide ⟨.slice none 0 0,?_,HT1.out,?_⟩⟩
  ·have e:bestL (L.take 0) most=[]:=by simp [bestL,sortL]
   rw [e]
   exact HK1.out
  ·rintro g (e | e)
   ·rw [e,HPP.out];exact Nat.le_refl _
   ·simp [Value.ownBlock] at e
 case round =>
  obtain ⟨k,hk,rfl,HE⟩:=hrel
  obtain ⟨vr,K1,T1,F1⟩:=HE.out
  have HK:=hide K1
  have HT:=hide T1
  have HF:=hide F1
  by_cases hkn:k<n
  ·have hRr:=HR.out.touch T1 (fun _ _ f=>f)
   obtain ⟨g,off,rfl,hg,a0,a1,a2⟩:=reads_atB hRr HL.out.symm k hkn
   obtain ⟨⟨xw,xn,xd⟩,hx⟩:∃ x,x=L.getD k MRow.zero:=⟨_,rfl⟩
   rw [← hx] at a0 a1 a2
   simp only at a0 a1 a2
   have HX:=hide hx
   have n0:(k:Int)<(n:Int):=by omega
   have n1:(0:Int)≤(k:Int):=by omega
   clear hRr K1 T1 F1 hx
   have n2:k<n:=hkn
   go_wp2_with (go_at_call 108;refine (add_any _ p most vr _ (HK.out.touch ((Touch.refl (fun _=>False) _).alloc _) (fun _ _ _ f=>f)) ⟨xw,xn,xd⟩).mono ?_;rintro e w2 ⟨rfl,v2,K2,T2,F2⟩;have HK2:=hide K2;have HT2:=hide T2;have HF2:=hide F2;clear K2 T2 F2)
   go_roundw
   ·refine ⟨k+1,by omega,by simp,hide ⟨v2,?_,?_,?_⟩⟩
    ·rw [bestL_take L k (by rw [HL.out];exact hkn),← HX.out]
     exact HK2.out
    ·refine (HT.out.alloc _).trans HT2.out ?_
     intro i hi hp
     have:=HF.out i hp
     omega
    ·rintro g' (e | e)
     ·rw [e,HPP.out];exact Nat.le_refl _
     ·rcases HF2.out with q | ⟨g2,q,hq⟩
      ·rw [q] at e;exact HF.out g' (.inr e)
      ·rw [q] at e
       injection e with e
       have h1:=HT.out.size
       simp at hq
       omega
   ·show n-(intOf (.int .i64 ((k:Int)+1))).toNat<n-(intOf (.int .i64 (k:Int))).toNat
    simp [intOf]
    omega
  ·have hkn':k=n:=by omega
   subst hkn'
   have e:L.take k=L:=List.take_of_length_le (by rw [HL.out];exact Nat.le_refl _)
   rw [e] at K1
   have HK2:=hide K1
   clear K1 T1 F1 e HK
   go_wp2_with (go_at_call 109;refine (take_any wr p most vr _ _ rfl HK2.out).mono ?_;rintro e w2 ⟨rfl,O2,v2,K2,T2,F2⟩;have HO2:=hide O2;have HT2:=hide T2;clear K2 T2 F2 O2)
   go_ret
   refine ⟨_,_,rfl,rfl,HT.out.size,HO2.out,HT.out.trans HT2.out ?_⟩
   intro i hi hp
   have:=HF.out i hp
   omega
structure Nx (w0 w:World) (v:Value) (q:Nat) (N:List MRow):Prop where
 own:w.ownsRow 0 43 3 v q (mCells N)
 len:N.length=q
 touch:Touch (fun _=>False) w0 w
 fresh:∀ g,v.ownBlock=some g→w0.heap.size≤g
theorem Nx.to {w0 w w2:World} {v:Value} {q:Nat} {N:List MRow} (h:Nx w0 w v q N) (t:Touch (fun _=>False) w w2):Nx w0 w2 v q N :=
 ⟨own_touch h.own t (fun _ _ f=>f),h.len,h.touch.then t,h.fresh⟩
theorem mCells_snoc (N:List MRow) (m:MRow):mCells (N++[m])=mCells N++m.cells:=by simp [mCells]
theorem Nx.app {w0 w1 w3:World} {v v':Value} {q:Nat} {N:List MRow} {m:MRow} (h:Nx w0 w1 v q N) (ho:w3.ownsRow 0 43 3 v' (q+1) (mCells N++m.cells)) (hg:w1.grownBy w3 v.ownBlock) (hf:Fresh w1 v v') :
  Nx w0 w3 v' (q+1) (N++[m]):=by
 refine ⟨by rw [mCells_snoc];exact ho,by simp [h.len],?_,?_⟩
 ·exact h.touch.trans ((Touch.refl (fun g=>v.ownBlock=some g) w1).grown hg (fun k hk _=>hk)) (fun i hi e=>by have:=h.fresh i e;omega)
 ·intro g e
  rcases hf with k | ⟨g',k,hk⟩
  ·exact h.fresh g (by rw [← k];exact e)
  ·rw [k] at e
   injection e with e
   have:=h.touch.size
   omega
theorem ins_done (m x:MRow) (l:List MRow) (h:∃ y∈l,better m y=true):ins m (l++[x])=ins m l++[x]:=by
 induction l with
 | nil=>obtain ⟨y,hy,_⟩:=h;cases hy
 | cons a l ih =>
  simp only [List.cons_append,ins]
  split
  ·rfl
  ·rename_i hb
   rw [ih]
   ·rfl
   ·obtain ⟨y,hy,hyb⟩:=h
    rcases List.mem_cons.1 hy with rfl | hy
    ·exact absurd hyb hb
    ·exact ⟨y,hy,hyb⟩
theorem take_snocB (O:List MRow) (j:Nat) (hj:j<O.length):O.take (j+1)=O.take j++[O.getD j MRow.zero]:=by
 rw [List.take_succ_eq_append_getElem hj]
 simp [List.getD,hj]
def NxL (m:MRow) (O:List MRow) (j:Nat) (done:Bool):List MRow:=if done=true then ins m (O.take j) else O.take j
def NxOk (m:MRow) (O:List MRow) (j:Nat) (done:Bool):Prop:=if done=true then ∃ y∈O.take j,better m y=true else ∀ y∈O.take j,better m y=false
theorem nx_done (m:MRow) (O:List MRow) (j:Nat) (hj:j<O.length) (h:NxOk m O j true):NxL m O j true++[O.getD j MRow.zero]=NxL m O (j+1) true∧NxOk m O (j+1) true:=by
 simp only [NxOk,NxL,if_true] at *
 rw [take_snocB O j hj,ins_done _ _ _ h]
 refine ⟨rfl,?_⟩
 obtain ⟨y,hy,hb⟩:=h
 exact ⟨y,by simp [hy],hb⟩
theorem nx_turn (m:MRow) (O:List MRow) (j:Nat) (hj:j<O.length) (h:NxOk m O j false) (hb:better m (O.getD j MRow.zero)=true):(NxL m O j false++[m])++[O.getD j MRow.zero]=NxL m O (j+1) true∧NxOk m O (j+1) true:=by
 simp only [NxOk,NxL,Bool.false_eq_true,if_false,if_true] at *
 rw [take_snocB O j hj,ins_front _ _ _ hb,ins_behind _ _ h]
 exact ⟨rfl,O.getD j MRow.zero,by simp,hb⟩
theorem nx_no (m:MRow) (O:List MRow) (j:Nat) (hj:j<O.length) (h:NxOk m O j false) (hb:better m (O.getD j MRow.zero)=false):NxL m O j false++[O.getD j MRow.zero]=NxL m O (j+1) false∧NxOk m O (j+1) false:=by
 simp only [NxOk,NxL,Bool.false_eq_true,if_false] at *
 rw [take_snocB O j hj]
 refine ⟨rfl,fun y hy=>?_⟩
 rcases List.mem_append.1 hy with hy | hy
 ·exact h y hy
 ·rw [List.mem_singleton.1 hy];exact hb
theorem nx_end (m:MRow) (O:List MRow) (done:Bool) (h:NxOk m O O.length done):(if done=true then NxL m O O.length done else NxL m O O.length done++[m])=ins m O:=by
 cases done with
 | true=>simp [NxL]
 | false =>
  simp only [NxOk,NxL,Bool.false_eq_true,if_false,List.take_length] at *
  exact (ins_behind _ _ h).symm
theorem getD_memB (O:List MRow) (k:Nat) (hk:k<O.length):O.getD k MRow.zero∈O:=by
 have e:O.getD k MRow.zero=O[k]:=by simp [List.getD,hk]
 rw [e];exact List.getElem_mem _
theorem bestL_mem {L:List MRow} {i k:Nat} {x:MRow} (h:x∈bestL (L.take i) k):x∈L :=
 List.mem_of_mem_take (((sortL_both (L.take i)).2.mem_iff).1 (List.mem_of_mem_take h))
def RbPost (w:World) (L:List MRow) (most:Nat) (e:Ending) (w':World):Prop:=∃ A m c,m=(bestL L most).length∧m≤c∧c≤maxLen∧e=.returned (.slice A m c)∧Reads w' 3 A m (mCells (bestL L most))∧Touch (fun _=>False) w w'∧∀ g,adBlock A=some g→w.heap.size≤g
theorem rbest_mid (w:World) (A:Option Addr) (n c:Nat) (L:List MRow) (hL:L.length=n) (hR:Reads w 3 A n (mCells L)) (hn:n≤maxLen) (hW:∀ r∈L,r.WfB) (kk:Int) (most:Nat) (hm64:most≤64) (hc:max (min kk 64) 0=(most:Int)) :
  Calls Tryz.prog 64 #[.slice A n c,.int .i64 kk] w (RbPost w L most):=by
 unfold maxLen at hn
 have HR:=hide hR
 have HL:=hide hL
 have HW:=hide hW
 obtain ⟨i0,hi,hz0,hz1,hz2⟩:=info_parts infoMatch
 clear hR hL hW
 go_enter Tryz.func64,Tryz.ntmps64
 go_wp2
 go_loopw [5,6] (fun out iv wr=>∃ (i:Nat) (Ao:Option Addr) (mo co:Nat),i≤n∧out=.slice Ao mo co∧iv=.int .i64 i∧mo≤64∧mo≤co∧Hid (co≤maxLen)∧Hid (mo=(bestL (L.take i) most).length)∧Hid (Reads wr 3 Ao mo (mCells (bestL (L.take i) most)))∧Hid (Touch (fun _=>False) w wr)∧Hid (∀ g,adBlock Ao=some g→w.heap.size≤g)) (fun _ iv _=>n-(intOf iv).toNat)
 case atStart =>
  have e:bestL (L.take 0) most=[]:=by simp [bestL,sortL]
  refine ⟨0,none,0,0,Nat.zero_le _,rfl,rfl,by omega,Nat.le_refl _,hide (by unfold maxLen;omega),hide ?_,hide ?_,hide (Touch.refl _ _),hide (fun g h=>by simp [adBlock] at h)⟩
  ·rw [e];rfl
  ·rw [e];exact Reads.nil _ _ _
 case round =>
  obtain ⟨i,Ao,mo,co,hin',rfl,rfl,hmo,hmc,HCO,HMO',HRO',HTO,HFO⟩:=hrel
  by_cases hin:i<n
  ·obtain ⟨O,hO⟩:∃ O,O=bestL (L.take i) most:=⟨_,rfl⟩
   have HMO:Hid (mo=O.length):=by rw [hO];exact HMO'
   have HRO:Hid (Reads wr 3 Ao mo (mCells O)):=by rw [hO];exact HRO'
   have HO:=hide hO
   obtain ⟨⟨mw,mn,md⟩,hm⟩:∃ x,x=L.getD i MRow.zero:=⟨_,rfl⟩
   have HM:=hide hm
   have n0:(i:Int)<(n:Int):=by omega
   have HWM:Hid (MRow.WfB ⟨mw,mn,md⟩):=hide (by rw [hm];exact HW.out _ (getD_memB L i (by rw [HL.out];exact hin)))
   have HWO:Hid (∀ k,k<O.length→(O.getD k MRow.zero).WfB):=hide (fun k hk=>HW.out _ (bestL_mem (by rw [← hO];exact getD_memB O k hk)))
   clear hO hm HMO' HRO'
   go_wp2
   obtain ⟨wo,rfl⟩:∃ wo:World,wo=wr:=⟨_,rfl⟩
   go_loopw [7,8,9] (fun nx dn j wr=>∃ (q k:Nat) (done:Bool) (A7:Option Addr) (c7:Nat),k≤mo∧nx=.slice A7 q c7∧dn=.bool done∧j=.int .i64 k∧q=k+done.toNat∧Hid (Nx wo wr (.slice A7 q c7) q (NxL ⟨mw,mn,md⟩ O k done))∧Hid (NxOk ⟨mw,mn,md⟩ O k done)) (fun _ _ j _=>mo-(intOf j).toNat)
   case atStart =>
    refine ⟨0,0,false,none,0,Nat.zero_le _,rfl,rfl,rfl,rfl,hide ⟨World.ownsRow_nil _ _ _ _,rfl,Touch.refl _ _,?_⟩,hide ?_⟩
    ·intro g e;simp [Value.ownBlock] at e
    ·intro y hy;simp at hy
   case round =>
    obtain ⟨q,k,done,A7,c7,hk,rfl,rfl,rfl,hq,HN,HK⟩:=hrel
    have hq1:q≤65:=by cases done<;>simp at hq<;>omega
    have HQ:=hide hq
    clear hq
    have TN:=HN.out.touch
    have TNH:=hide (HTO.out.then TN)
    obtain ⟨gl,ol,hAl,_,l0,l1,l2⟩:=reads_atB ((HR.out.touch HTO.out (fun _ _ f=>f)).touch TN (fun _ _ f=>f)) HL.out.symm i hin
    subst hAl
    rw [← HM.out] at l0 l1 l2
    simp only at l0 l1 l2
    by_cases hkm:k<mo
    ·obtain ⟨go,oo,hAo,_,o0,o1,o2⟩:=reads_atB (HRO.out.touch TN (fun _ _ f=>f)) HMO.out k hkm
     subst hAo
     obtain ⟨⟨xw,xn,xd⟩,hx⟩:∃ x,x=O.getD k MRow.zero:=⟨_,rfl⟩
     rw [← hx] at o0 o1 o2
     simp only at o0 o1 o2
     have HX:=hide hx
     have k0:(k:Int)<(mo:Int):=by omega
     have hkO:k<O.length:=by rw [← HMO.out];exact hkm
     have HKO:=hide hkO
     clear hx TN hkO
     cases done with
     | true =>
      go_wp2_with fail
      go_quiet (fail)
      obtain ⟨w1,hw1⟩:∃ w1,w1=wr.drewN nq:=⟨_,rfl⟩
      have HN1:=hide (HN.out.to ((Touch.refl _ _).drewN nq))
      rw [← hw1] at HN1 ⊢
      clear hw1
      obtain ⟨go',oo',hAo,_,p0,p1',p2⟩:=reads_atB (HRO.out.touch HN1.out.touch (fun _ _ f=>f)) HMO.out k hkm
      injection hAo with hAo
      injection hAo with hA1 hA2
      subst hA1 hA2
      rw [← HX.out] at p0 p1' p2
      simp only at p0 p1' p2
      go_wp2_with (first | (at_builtin;refine wpList_app _ rfl (.tmp 44) (.tmp 49) 39 rfl 43 i0 _ 3 32 Tryz.underlying39 hi hz0 hz1 hz2 rfl (by decide) (.slice A7 q c7) q _ rfl (own_touch HN1.out.own ((Touch.refl _ _).alloc _) (fun _ _ f=>f)) (some ⟨_,0,none⟩) 1 1 (MRow.cells ⟨xw,xn,xd⟩) rfl ?s1a ?s1b ?s1c ?s1d ?s1e ?_))
      case s1a=>exact Reads.new _ _ _ _ rfl
      try (case s1b=>exact fun h=>by cases h)
      case s1c=>exact List.all_eq_true.1 rfl
      case s1d=>unfold maxLen;omega
      case s1e=>omega
      intro v2 w2 hown hgrow hfr _
      have N2:=(HN1.out.to ((Touch.refl _ _).alloc _)).app hown hgrow hfr
      obtain ⟨A2,c2,rfl,_,_⟩:=own_len hown
      have HN2:=hide N2
      clear N2 hown hgrow hfr
      go_wp2
      go_roundw
      ·obtain ⟨e1,e2⟩:=nx_done ⟨mw,mn,md⟩ O k HKO.out HK.out
       have HN3:=HN2.out
       rw [HX.out,e1] at HN3
       exact ⟨q+1,k+1,true,A2,c2,by omega,rfl,rfl,by simp,by have hq:=HQ.out;simp at hq ⊢;omega,hide HN3,hide e2⟩
      ·show mo-(intOf (.int .i64 ((k:Int)+1))).toNat<mo-(intOf (.int .i64 (k:Int))).toNat
       simp [intOf]
       omega
     | false =>
      cases hb:better ⟨mw,mn,md⟩ ⟨xw,xn,xd⟩ with
      | true =>
       have HB:=hide hb
       clear hb
       go_wp2_with fail
       go_still_tail 11,(by kernel_rfl)
       change wpList _ _ _ _ _ wr.drew
       have HD:Hid (Touch (fun _=>False) wr wr.drew):=hide (Touch.refl _ _).drew
       generalize wr.drew=wd at HD ⊢
       go_wp2_with (first | (go_at_call 16;refine (rbetter_any ⟨mw,mn,md⟩ ⟨xw,xn,xd⟩ HWM.out (by rw [HX.out];exact HWO.out k HKO.out) wd).mono ?_;rintro e w1 ⟨rfl,T1⟩;have HN1:=hide (HN.out.to (HD.out.then T1));clear T1;obtain ⟨go',oo',hAo,_,p0,p1',p2⟩:=reads_atB (HRO.out.touch HN1.out.touch (fun _ _ f=>f)) HMO.out k hkm;injection hAo with hAo;injection hAo with hA1 hA2;subst hA1 hA2;rw [← HX.out] at p0 p1' p2;simp only at p0 p1' p2;obtain ⟨gl',ol',hAl,_,l0',l1',l2'⟩:=reads_atB ((HR.out.touch HTO.out (fun _ _ f=>f)).touch HN1.out.touch (fun _ _ f=>f)) HL.out.symm i hin;injection hAl with hAl;injection hAl with hA1 hA2;subst hA1 hA2;rw [← HM.out] at l0' l1' l2';simp only at l0' l1' l2';rw [HB.out]) | (at_builtin;refine wpList_app _ rfl (.tmp 37) (.tmp 42) 39 rfl 43 i0 _ 3 32 Tryz.underlying39 hi hz0 hz1 hz2 rfl (by decide) (.slice A7 q c7) q _ rfl (own_touch HN1.out.own ((Touch.refl _ _).alloc _) (fun _ _ f=>f)) (some ⟨_,0,none⟩) 1 1 (MRow.cells ⟨mw,mn,md⟩) rfl ?s3a ?s3b ?s3c ?s3d ?s3e ?_))
       case s3a=>exact Reads.new _ _ _ _ rfl
       try (case s3b=>exact fun h=>by cases h)
       case s3c=>exact List.all_eq_true.1 rfl
       case s3d=>unfold maxLen;omega
       case s3e=>omega
       intro v2 w2 hown hgrow hfr _
       have N2:=(HN1.out.to ((Touch.refl _ _).alloc _)).app hown hgrow hfr
       obtain ⟨A2,c2,rfl,_,_⟩:=own_len hown
       have HN2:=hide N2
       clear N2 hown hgrow hfr
       obtain ⟨go',oo',hAo,_,z0,z1,z2⟩:=reads_atB (HRO.out.touch HN2.out.touch (fun _ _ f=>f)) HMO.out k hkm
       injection hAo with hAo
       injection hAo with hA1 hA2
       subst hA1 hA2
       rw [← HX.out] at z0 z1 z2
       simp only at z0 z1 z2
       go_wp2_with (at_builtin;refine wpList_app _ rfl (.tmp 44) (.tmp 49) 39 rfl 43 i0 _ 3 32 Tryz.underlying39 hi hz0 hz1 hz2 rfl (by decide) (.slice A2 (q+1) c2) (q+1) _ rfl (own_touch HN2.out.own ((Touch.refl _ _).alloc _) (fun _ _ f=>f)) (some ⟨_,0,none⟩) 1 1 (MRow.cells ⟨xw,xn,xd⟩) rfl ?s4a ?s4b ?s4c ?s4d ?s4e ?_)
       case s4a=>exact Reads.new _ _ _ _ rfl
       try (case s4b=>exact fun h=>by cases h)
       case s4c=>exact List.all_eq_true.1 rfl
       case s4d=>unfold maxLen;omega
       case s4e=>omega
       intro v3 w3 hown hgrow hfr _
       have N3:=(HN2.out.to ((Touch.refl _ _).alloc _)).app hown hgrow hfr
       obtain ⟨A3,c3,rfl,_,_⟩:=own_len hown
       have HN3':=hide N3
       clear N3 hown hgrow hfr
       go_wp2
       go_roundw
       ·obtain ⟨e1,e2⟩:=nx_turn ⟨mw,mn,md⟩ O k HKO.out HK.out (by rw [← HX.out];exact HB.out)
        have HN3:=HN3'.out
        rw [HX.out,e1] at HN3
        exact ⟨q+1+1,k+1,true,A3,c3,by omega,rfl,rfl,by simp,by have hq:=HQ.out;simp at hq ⊢;omega,hide HN3,hide e2⟩
       ·show mo-(intOf (.int .i64 ((k:Int)+1))).toNat<mo-(intOf (.int .i64 (k:Int))).toNat
        simp [intOf]
        omega
      | false =>
       have HB:=hide hb
       clear hb
       go_wp2_with fail
       go_still_tail 11,(by kernel_rfl)
       change wpList _ _ _ _ _ wr.drew
       have HD:Hid (Touch (fun _=>False) wr wr.drew):=hide (Touch.refl _ _).drew
       generalize wr.drew=wd at HD ⊢
       go_wp2_with (first | (go_at_call 16;refine (rbetter_any ⟨mw,mn,md⟩ ⟨xw,xn,xd⟩ HWM.out (by rw [HX.out];exact HWO.out k HKO.out) wd).mono ?_;rintro e w1 ⟨rfl,T1⟩;have HN1:=hide (HN.out.to (HD.out.then T1));clear T1;obtain ⟨go',oo',hAo,_,p0,p1',p2⟩:=reads_atB (HRO.out.touch HN1.out.touch (fun _ _ f=>f)) HMO.out k hkm;injection hAo with hAo;injection hAo with hA1 hA2;subst hA1 hA2;rw [← HX.out] at p0 p1' p2;simp only at p0 p1' p2;obtain ⟨gl',ol',hAl,_,l0',l1',l2'⟩:=reads_atB ((HR.out.touch HTO.out (fun _ _ f=>f)).touch HN1.out.touch (fun _ _ f=>f)) HL.out.symm i hin;injection hAl with hAl;injection hAl with hA1 hA2;subst hA1 hA2;rw [← HM.out] at l0' l1' l2';simp only at l0' l1' l2';rw [HB.out]) | (at_builtin;refine wpList_app _ rfl (.tmp 44) (.tmp 49) 39 rfl 43 i0 _ 3 32 Tryz.underlying39 hi hz0 hz1 hz2 rfl (by decide) (.slice A7 q c7) q _ rfl (own_touch HN1.out.own ((Touch.refl _ _).alloc _) (fun _ _ f=>f)) (some ⟨_,0,none⟩) 1 1 (MRow.cells ⟨xw,xn,xd⟩) rfl ?s2a ?s2b ?s2c ?s2d ?s2e ?_))
       case s2a=>exact Reads.new _ _ _ _ rfl
       try (case s2b=>exact fun h=>by cases h)
       case s2c=>exact List.all_eq_true.1 rfl
       case s2d=>unfold maxLen;omega
       case s2e=>omega
       intro v2 w2 hown hgrow hfr _
       have N2:=(HN1.out.to ((Touch.refl _ _).alloc _)).app hown hgrow hfr
       obtain ⟨A2,c2,rfl,_,_⟩:=own_len hown
       have HN2:=hide N2
       clear N2 hown hgrow hfr
       go_wp2
       go_roundw
       ·obtain ⟨e1,e2⟩:=nx_no ⟨mw,mn,md⟩ O k HKO.out HK.out (by rw [← HX.out];exact HB.out)
        have HN3:=HN2.out
        rw [HX.out,e1] at HN3
        exact ⟨q+1,k+1,false,A2,c2,by omega,rfl,rfl,by simp,by have hq:=HQ.out;simp at hq ⊢;omega,hide HN3,hide e2⟩
       ·show mo-(intOf (.int .i64 ((k:Int)+1))).toNat<mo-(intOf (.int .i64 (k:Int))).toNat
        simp [intOf]
        omega
    ·have hkm':k=mo:=by omega
     have HKM:=hide hkm'
     cases done with
     | true =>
      obtain ⟨qf,hqf⟩:∃ qf,qf=q:=⟨_,rfl⟩
      rw [← hqf] at HN HQ ⊢
      have HF:Hid (Nx wo wr (.slice A7 qf c7) qf (ins ⟨mw,mn,md⟩ O)):=by
       have e:=nx_end ⟨mw,mn,md⟩ O true (by rw [← HMO.out,← HKM.out];exact HK.out)
       simp only [if_true] at e
       rw [← HMO.out,← HKM.out] at e
       rw [← e]
       exact HN
      clear hqf
      have hqf:qf=mo+1:=by have:=HQ.out;simp at this;omega
      clear hkm' TN
      obtain ⟨g,cap,hv,hcl,hcm,hg,_,_⟩:=own_form HF.out.own (by omega)
      injection hv with hA _ hc
      subst hA hc
      have hFl:=HF.out.len
      have HCM:=hide hcm
      have HQF:=hide hqf
      have hbest:bestL (L.take (i+1)) most=(ins ⟨mw,mn,md⟩ O).take most:=by rw [bestL_take L i (by rw [HL.out];exact hin),← HM.out,← HO.out]
      have HBE:=hide hbest
      have HFL:=hide hFl
      have HTT:=hide (HTO.out.then HF.out.touch)
      have HFF:Hid (∀ g',adBlock (some ⟨g,0,none⟩)=some g'→w.heap.size≤g'):=hide (fun g' h=>by have h1:=HF.out.fresh g' (by rw [← h];rfl);have h2:=HTO.out.size;omega)
      have hcmI:c7≤9223372036854775807:=by unfold maxLen at hcm;omega
      clear hFl hbest hcm
      by_cases hbig:most<qf
      ·have z0:decide ((most:Int)<(qf:Int))=true:=by simp;omega
       have z1:(most:Int)≤(c7:Int):=by omega
       have z2:most≤c7:=by omega
       clear hqf
       go_wp2
       go_roundw
       ·have hr:=(Reads.of_own HF.out.own).take (k:=most) (by omega)
        rw [mCells_take] at hr
        refine ⟨i+1,some ⟨g,0,none⟩,most,c7,by omega,(by first | rfl | (congr 1;omega)),by simp,hm64,z2,HCM,hide ?_,hide ?_,HTT,HFF⟩
        ·rw [HBE.out,List.length_take,HFL.out];omega
        ·rw [HBE.out];exact hr
       ·show n-(intOf (.int .i64 ((i:Int)+1))).toNat<n-(intOf (.int .i64 (i:Int))).toNat
        simp [intOf]
        omega
      ·have z0:decide ((most:Int)<(qf:Int))=false:=by simp;omega
       have hq64:qf≤64:=by omega
       clear hqf
       go_wp2
       go_roundw
       ·have hr:=Reads.of_own HF.out.own
        refine ⟨i+1,_,qf,c7,by omega,rfl,by simp,hq64,hcl,HCM,hide ?_,hide ?_,HTT,HFF⟩
        ·rw [HBE.out,List.take_of_length_le (by rw [HFL.out];omega),HFL.out]
        ·rw [HBE.out,List.take_of_length_le (by rw [HFL.out];omega)];exact hr
       ·show n-(intOf (.int .i64 ((i:Int)+1))).toNat<n-(intOf (.int .i64 (i:Int))).toNat
        simp [intOf]
        omega
     | false =>
      clear hkm' TN
      have HN1:=HN
      go_wp2_with (first | (at_builtin;refine wpList_app _ rfl (.tmp 53) (.tmp 58) 39 rfl 43 i0 _ 3 32 Tryz.underlying39 hi hz0 hz1 hz2 rfl (by decide) (.slice A7 q c7) q _ rfl (own_touch HN1.out.own ((Touch.refl _ _).alloc _) (fun _ _ f=>f)) (some ⟨_,0,none⟩) 1 1 (MRow.cells ⟨mw,mn,md⟩) rfl ?s5a ?s5b ?s5c ?s5d ?s5e ?_))
      case s5a=>exact Reads.new _ _ _ _ rfl
      try (case s5b=>exact fun h=>by cases h)
      case s5c=>exact List.all_eq_true.1 rfl
      case s5d=>unfold maxLen;omega
      case s5e=>omega
      intro v2 w2 hown hgrow hfr _
      have N2:=(HN1.out.to ((Touch.refl _ _).alloc _)).app hown hgrow hfr
      obtain ⟨A2,c2,rfl,_,_⟩:=own_len hown
      have HN2:=hide N2
      clear N2 hown hgrow hfr
      obtain ⟨qf,hqf'⟩:∃ qf,qf=q+1:=⟨_,rfl⟩
      rw [← hqf'] at HN2 ⊢
      have hqf:qf=mo+1:=by have:=HQ.out;have:=HKM.out;simp at *;omega
      have HF:Hid (Nx wo w2 (.slice A2 qf c2) qf (ins ⟨mw,mn,md⟩ O)):=by
       have e:=nx_end ⟨mw,mn,md⟩ O false (by rw [← HMO.out,← HKM.out];exact HK.out)
       simp only [Bool.false_eq_true,if_false] at e
       rw [← HMO.out,← HKM.out] at e
       rw [← e]
       exact HN2
      clear hqf'
      obtain ⟨g,cap,hv,hcl,hcm,hg,_,_⟩:=own_form HF.out.own (by omega)
      injection hv with hA _ hc
      subst hA hc
      have hFl:=HF.out.len
      have HCM:=hide hcm
      have HQF:=hide hqf
      have hbest:bestL (L.take (i+1)) most=(ins ⟨mw,mn,md⟩ O).take most:=by rw [bestL_take L i (by rw [HL.out];exact hin),← HM.out,← HO.out]
      have HBE:=hide hbest
      have HFL:=hide hFl
      have HTT:=hide (HTO.out.then HF.out.touch)
      have HFF:Hid (∀ g',adBlock (some ⟨g,0,none⟩)=some g'→w.heap.size≤g'):=hide (fun g' h=>by have h1:=HF.out.fresh g' (by rw [← h];rfl);have h2:=HTO.out.size;omega)
      have hcmI:c2≤9223372036854775807:=by unfold maxLen at hcm;omega
      clear hFl hbest hcm
      by_cases hbig:most<qf
      ·have z0:decide ((most:Int)<(qf:Int))=true:=by simp;omega
       have z1:(most:Int)≤(c2:Int):=by omega
       have z2:most≤c2:=by omega
       clear hqf
       go_wp2
       go_roundw
       ·have hr:=(Reads.of_own HF.out.own).take (k:=most) (by omega)
        rw [mCells_take] at hr
        refine ⟨i+1,some ⟨g,0,none⟩,most,c2,by omega,(by first | rfl | (congr 1;omega)),by simp,hm64,z2,HCM,hide ?_,hide ?_,HTT,HFF⟩
        ·rw [HBE.out,List.length_take,HFL.out];omega
        ·rw [HBE.out];exact hr
       ·show n-(intOf (.int .i64 ((i:Int)+1))).toNat<n-(intOf (.int .i64 (i:Int))).toNat
        simp [intOf]
        omega
      ·have z0:decide ((most:Int)<(qf:Int))=false:=by simp;omega
       have hq64:qf≤64:=by omega
       clear hqf
       go_wp2
       go_roundw
       ·have hr:=Reads.of_own HF.out.own
        refine ⟨i+1,_,qf,c2,by omega,rfl,by simp,hq64,hcl,HCM,hide ?_,hide ?_,HTT,HFF⟩
        ·rw [HBE.out,List.take_of_length_le (by rw [HFL.out];omega),HFL.out]
        ·rw [HBE.out,List.take_of_length_le (by rw [HFL.out];omega)];exact hr
       ·show n-(intOf (.int .i64 ((i:Int)+1))).toNat<n-(intOf (.int .i64 (i:Int))).toNat
        simp [intOf]
        omega
  ·have hieq:i=n:=by omega
   have e:L.take i=L:=List.take_of_length_le (by rw [HL.out];omega)
   rw [e] at HMO' HRO'
   clear e
   subst hieq
   go_wp2
   go_ret
   exact ⟨_,_,_,HMO'.out,hmc,HCO.out,rfl,HRO'.out,HTO.out,HFO.out⟩
end Go.Proofs.YthockgmbooefpaaGreatDoor
