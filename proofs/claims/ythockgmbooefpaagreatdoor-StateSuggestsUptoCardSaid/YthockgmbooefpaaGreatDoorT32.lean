/- What the law rests on, part 32. No condition but those that each theorem names. -/
import Derived.Test.YthockgmbooefpaaGreatDoorT31
import Derived.Test.YthockgmbooefpaaGreatDoorT01
import Derived.Test.YthockgmbooefpaaGreatDoorT05
import Derived.BigQuiet
import Derived.Deep.QuietTactic
import Derived.StillTailTactics
import Derived.Deep.AppendLies
import Derived.Deep.RegionLaw
set_option linter.unusedSectionVars false
set_option linter.unusedSimpArgs false
set_option linter.unusedVariables false
set_option maxRecDepth 100000
set_option maxHeartbeats 4000000
namespace Go.Proofs.YthockgmbooefpaaGreatDoor
open Go.RowKit
structure RfL (B0:Nat) (w:World) (s:SL) (L:List PRow):Prop where
 ok:s.Ok w
 eq:s.L=L
 far:0<s.n→∀ g,adBlock s.A=some g→g<B0∨TyAt w g 125
theorem RfL.touch {B0:Nat} {w w':World} {s:SL} {L:List PRow} {S:Nat→Prop} (h:RfL B0 w s L) (T:Touch S w w') (h1:∀ g,g<B0→¬ S g) (h2:∀ g,TyAt w g 125 → ¬ S g):RfL B0 w' s L:=by
 have hS:0<s.n→∀ g,adBlock s.A=some g→¬ S g:=fun h0 g hg=>(h.far h0 g hg).elim (h1 g) (h2 g)
 refine ⟨⟨h.ok.len,?_,h.ok.nil⟩,h.eq,fun h0 g hg=>(h.far h0 g hg).imp id (fun ht=>ht.touch T (h2 g ht))⟩
 rcases Nat.eq_zero_or_pos s.n with e | e
 ·exact ⟨h.ok.reads.1,fun h0=>by omega⟩
 ·exact h.ok.reads.touch T (hS e)
theorem RfL.quiet {B0:Nat} {w w':World} {s:SL} {L:List PRow} (h:RfL B0 w s L) (T:Touch (fun _=>False) w w'):RfL B0 w' s L:=h.touch T (fun _ _ f=>f) (fun _ _ f=>f)
theorem RfL.dict {B0:Nat} {w w':World} {s:SL} {L:List PRow} {d:Nat} (h:RfL B0 w s L) (T:Touch (fun g=>g=d) w w') (hd:B0≤d) (ht:TyAt w d 96):RfL B0 w' s L :=
 h.touch T (fun g hg e=>by omega) (fun g hg=>dict_ne ht hg (.inr (.inr (.inr (.inr rfl)))))
theorem RfL.own {B0:Nat} {w:World} {A:Option Addr} {n c:Nat} {L:List PRow} (h:POwn w A n c L):RfL B0 w ⟨A,n,c,L⟩ L :=
 ⟨own_okD h,rfl,fun h0 g hg=>.inr ((RdT.of_own h).ty h0 g hg)⟩
theorem dict_wf {L:List PRow} (hD:DictP L):∀ r∈L,r.Wf:=fun r hr=>by have:=dict_sizes hD r hr;unfold PRow.Wf;omega
theorem rset_any (w:World) (B0:Nat) (s:SL) {L:List PRow} (hs:RfL B0 w s L) (hD:DictP L) (k:ByteArray) (hk:k.size≤1099511627776) (n:Int) :
  Calls Tryz.prog 122 #[s.val,.string k,.int .i64 n] w fun e w'=>∃ s':SL,e=.returned (.tuple #[s'.val,.int .i64 (setH L k n),.int .i64 (setE L k.toList n)])∧RfL B0 w' s' (setL L k n)∧Touch (fun _=>False) w w':=by
 have HRW:=hide (rword_any w k (by omega))
 have hdl:=hD.len
 have hsl:=hs.ok.len
 have heq:=hs.eq
 obtain ⟨sA,sn,sc,sL⟩:=s
 simp only at heq hsl
 subst heq
 have hsn:sn≤4096:=by omega
 have hsnI:(sn:Int)≤4096:=by omega
 have HRF:=hide (fun (wx:World) (T:Touch (fun _=>False) w wx)=>rfind_any wx sA sn sc sL hsl (hs.ok.reads.touch T (fun _ _ f=>f)) (by unfold maxLen;omega) k)
 have HPU:=hide (fun (wx:World) (T:Touch (fun _=>False) w wx)=>put_any wx sA sn sc sL hsl (hs.ok.reads.touch T (fun _ _ f=>f)) (by omega) (dict_wf hD) ⟨k,n⟩ (by show k.size≤9223372036854775807;omega))
 have HS:=hide hs
 obtain ⟨⟨x,t⟩,hxt⟩:∃ r,r=findP k.toList sL:=⟨_,rfl⟩
 simp only [← hxt] at HRF
 have HXT:=hide hxt
 obtain ⟨v,hv⟩:∃ v,v=wordU k.toList:=⟨_,rfl⟩
 rw [← hv] at HRW
 have HV:=hide hv
 have HSL:=hide hsl
 simp only [SL.val]
 clear hs hk hxt hv hD
 cases v with
 | false =>
  have hE:setE sL k.toList n=140:=by unfold setE;rw [if_pos HV.out.symm]
  obtain ⟨hH,hLl⟩:=set_err hE (by decide)
  rw [hE,hH,hLl]
  clear hE hH hLl
  go_enter Tryz.func122,Tryz.ntmps122
  go_wp2_with fail
  refine HRW.out.mono ?_
  rintro e w1 ⟨rfl,T1⟩
  have HT1:=hide T1
  clear T1
  go_wp2_with fail
  refine (HRF.out w1 HT1.out).mono ?_
  rintro e w2 ⟨rfl,T2⟩
  have HT2:=hide (HT1.out.then T2)
  clear T2
  go_wp2_with fail
  go_ret3
  exact ⟨⟨sA,sn,sc,sL⟩,rfl,HS.out.quiet HT2.out,HT2.out⟩
 | true =>
  have hvn:¬ wordU k.toList=false:=by rw [← HV.out];decide
  by_cases hn1:n<1
  ·have hE:setE sL k.toList n=141:=by unfold setE;rw [if_neg hvn,if_pos (.inl hn1)]
   obtain ⟨hH,hLl⟩:=set_err hE (by decide)
   rw [hE,hH,hLl]
   clear hE hH hLl hvn
   go_enter Tryz.func122,Tryz.ntmps122
   go_wp2_with fail
   refine HRW.out.mono ?_
   rintro e w1 ⟨rfl,T1⟩
   have HT1:=hide T1
   clear T1
   go_wp2_with fail
   refine (HRF.out w1 HT1.out).mono ?_
   rintro e w2 ⟨rfl,T2⟩
   have HT2:=hide (HT1.out.then T2)
   clear T2
   go_wp2_with fail
   go_ret3
   exact ⟨⟨sA,sn,sc,sL⟩,rfl,HS.out.quiet HT2.out,HT2.out⟩
  ·by_cases hn2:1048576<n
   ·have hE:setE sL k.toList n=141:=by unfold setE;rw [if_neg hvn,if_pos (.inr hn2)]
    obtain ⟨hH,hLl⟩:=set_err hE (by decide)
    rw [hE,hH,hLl]
    clear hE hH hLl hvn
    go_enter Tryz.func122,Tryz.ntmps122
    go_wp2_with fail
    refine HRW.out.mono ?_
    rintro e w1 ⟨rfl,T1⟩
    have HT1:=hide T1
    clear T1
    go_wp2_with fail
    refine (HRF.out w1 HT1.out).mono ?_
    rintro e w2 ⟨rfl,T2⟩
    have HT2:=hide (HT1.out.then T2)
    clear T2
    go_wp2_with fail
    go_ret3
    exact ⟨⟨sA,sn,sc,sL⟩,rfl,HS.out.quiet HT2.out,HT2.out⟩
   ·have hno:¬ (n<1∨1048576<n):=by omega
    by_cases hful:t=false∧sn=4096
    ·obtain ⟨ht,hs4⟩:=hful
     subst ht
     have hfd:(findP k.toList sL).2=false:=by rw [← HXT.out]
     have hE:setE sL k.toList n=142:=by unfold setE;rw [if_neg hvn,if_neg hno,if_pos ⟨hfd,by omega⟩]
     obtain ⟨hH,hLl⟩:=set_err hE (by decide)
     rw [hE,hH,hLl]
     have b1:(4096:Int)≤(sn:Int):=by omega
     clear hE hH hLl hvn hfd hno hs4
     go_enter Tryz.func122,Tryz.ntmps122
     go_wp2_with fail
     refine HRW.out.mono ?_
     rintro e w1 ⟨rfl,T1⟩
     have HT1:=hide T1
     clear T1
     go_wp2_with fail
     refine (HRF.out w1 HT1.out).mono ?_
     rintro e w2 ⟨rfl,T2⟩
     have HT2:=hide (HT1.out.then T2)
     clear T2
     go_wp2_with fail
     go_ret3
     exact ⟨⟨sA,sn,sc,sL⟩,rfl,HS.out.quiet HT2.out,HT2.out⟩
    ·have hE:setE sL k.toList n=0:=by
      unfold setE
      rw [if_neg hvn,if_neg hno,if_neg]
      rintro ⟨h1,h2⟩
      rw [← HXT.out] at h1
      exact hful ⟨h1,by omega⟩
     have hH:setH sL k n=x:=by unfold setH;rw [hE,if_pos rfl,← HXT.out]
     have hLl:setL sL k n=putF ⟨k,n⟩ false sL:=by unfold setL;rw [hE,if_pos rfl]
     rw [hE,hH,hLl]
     have hcase:t=true∨(t=false∧¬ (4096:Int)≤(sn:Int)):=by
      cases t with
      | true=>exact .inl rfl
      | false=>exact .inr ⟨rfl,fun h=>hful ⟨rfl,by omega⟩⟩
     simp only [PRow.val] at HPU
     clear hE hH hLl hvn hno hful
     rcases hcase with rfl | ⟨rfl,b1⟩
     all_goals
      go_enter Tryz.func122,Tryz.ntmps122
      go_wp2_with fail
      refine HRW.out.mono ?_
      rintro e w1 ⟨rfl,T1⟩
      have HT1:=hide T1
      clear T1
      go_wp2_with fail
      refine (HRF.out w1 HT1.out).mono ?_
      rintro e w2 ⟨rfl,T2⟩
      have HT2:=hide (HT1.out.then T2)
      clear T2
      go_wp2_with fail
      refine (HPU.out w2 HT2.out).mono ?_
      rintro e w3 ⟨A3,q3,c3,rfl,N3,_⟩
      have HN3:=hide N3
      have HT3:=hide (HT2.out.then N3.touch)
      clear N3
      go_wp2_with fail
      go_ret3
      exact ⟨⟨A3,q3,c3,putF ⟨k,n⟩ false sL⟩,rfl,RfL.own HN3.out.own,HT3.out⟩
theorem dropP_snoc (w:List UInt8) (O:List PRow) (p:PRow):dropP w (O++[p])=if p.word.toList=w then dropP w O else dropP w O++[p]:=by
 unfold dropP
 rw [List.filter_append]
 split
 ·rename_i h;simp [h]
 ·rename_i h;simp [h]
theorem rremove_any (w:World) (B0:Nat) (s:SL) {L:List PRow} (hs:RfL B0 w s L) (hD:DictP L) (k:ByteArray) (hk:k.size≤1099511627776) :
  Calls Tryz.prog 121 #[s.val,.string k] w fun e w'=>∃ s':SL,e=.returned (.tuple #[s'.val,.int .i64 (remH L k),.int .i64 (remE L k.toList)])∧RfL B0 w' s' (remL L k)∧Touch (fun _=>False) w w':=by
 have HRW:=hide (rword_any w k (by omega))
 have hdl:=hD.len
 have hsl:=hs.ok.len
 have heq:=hs.eq
 obtain ⟨sA,sn,sc,sL⟩:=s
 simp only at heq hsl
 subst heq
 have hsn:sn≤4096:=by omega
 have hsnI:(sn:Int)≤4096:=by omega
 have HRF:=hide (fun (wx:World) (T:Touch (fun _=>False) w wx)=>rfind_any wx sA sn sc sL hsl (hs.ok.reads.touch T (fun _ _ f=>f)) (by unfold maxLen;omega) k)
 have HS:=hide hs
 obtain ⟨⟨x,t⟩,hxt⟩:∃ r,r=findP k.toList sL:=⟨_,rfl⟩
 simp only [← hxt] at HRF
 have HXT:=hide hxt
 obtain ⟨v,hv⟩:∃ v,v=wordU k.toList:=⟨_,rfl⟩
 rw [← hv] at HRW
 have HV:=hide hv
 have HSL:=hide hsl
 simp only [SL.val]
 clear hs hk hxt hv hD
 cases v with
 | false =>
  have hE:remE sL k.toList=140:=by unfold remE;rw [if_pos HV.out.symm]
  obtain ⟨hH,hLl⟩:=rem_err hE (by decide)
  rw [hE,hH,hLl]
  clear hE hH hLl
  go_enter Tryz.func121,Tryz.ntmps121
  go_wp2_with fail
  refine HRW.out.mono ?_
  rintro e w1 ⟨rfl,T1⟩
  have HT1:=hide T1
  clear T1
  go_wp2_with fail
  refine (HRF.out w1 HT1.out).mono ?_
  rintro e w2 ⟨rfl,T2⟩
  have HT2:=hide (HT1.out.then T2)
  clear T2
  go_wp2_with fail
  go_ret3
  exact ⟨⟨sA,sn,sc,sL⟩,rfl,HS.out.quiet HT2.out,HT2.out⟩
 | true =>
  have hvn:¬ wordU k.toList=false:=by rw [← HV.out];decide
  cases t with
  | false =>
   have hfd:(findP k.toList sL).2=false:=by rw [← HXT.out]
   have hE:remE sL k.toList=143:=by unfold remE;rw [if_neg hvn,if_pos hfd]
   obtain ⟨hH,hLl⟩:=rem_err hE (by decide)
   rw [hE,hH,hLl]
   clear hE hH hLl hvn hfd
   go_enter Tryz.func121,Tryz.ntmps121
   go_wp2_with fail
   refine HRW.out.mono ?_
   rintro e w1 ⟨rfl,T1⟩
   have HT1:=hide T1
   clear T1
   go_wp2_with fail
   refine (HRF.out w1 HT1.out).mono ?_
   rintro e w2 ⟨rfl,T2⟩
   have HT2:=hide (HT1.out.then T2)
   clear T2
   go_wp2_with fail
   go_ret3
   exact ⟨⟨sA,sn,sc,sL⟩,rfl,HS.out.quiet HT2.out,HT2.out⟩
  | true =>
   have hfd:(findP k.toList sL).2=true:=by rw [← HXT.out]
   have hE:remE sL k.toList=0:=by unfold remE;rw [if_neg hvn,if_neg (by rw [hfd];decide)]
   have hH:remH sL k=x:=by unfold remH;rw [hE,if_pos rfl,← HXT.out]
   have hLl:remL sL k=dropP k.toList sL:=by unfold remL;rw [hE,if_pos rfl]
   rw [hE,hH,hLl]
   obtain ⟨i0,hi,hz0,hz1,hz2⟩:=info_parts infoPair
   clear hE hH hLl hvn hfd
   go_enter Tryz.func121,Tryz.ntmps121
   go_wp2_with fail
   refine HRW.out.mono ?_
   rintro e w1 ⟨rfl,T1⟩
   have HT1:=hide T1
   clear T1
   go_wp2_with fail
   refine (HRF.out w1 HT1.out).mono ?_
   rintro e w2 ⟨rfl,T2⟩
   have HT2:=hide (HT1.out.then T2)
   clear T2
   go_wp2_with fail
   go_loopw [10,11] (fun ov iv wr=>∃ (i q:Nat) (A5:Option Addr) (c5:Nat),iv=.int .i64 i∧ov=.slice A5 q c5∧i≤sn∧q≤i∧Hid (PNx w2 wr (.slice A5 q c5) q (dropP k.toList (sL.take i)))) (fun _ iv _=>sn-(intOf iv).toNat)
   case atStart=>exact ⟨0,0,none,0,rfl,rfl,Nat.zero_le _,Nat.le_refl _,hide ⟨World.ownsRow_nil _ _ _ _,rfl,Touch.refl _ _,fun g e=>by simp [Value.ownBlock] at e⟩⟩
   case round =>
    obtain ⟨i,q,A5,c5,rfl,rfl,hin',hqi,HP⟩:=hrel
    by_cases hin:i<sn
    ·have y0:(i:Int)<(sn:Int):=by omega
     have y1:(0:Int)≤(i:Int):=by omega
     have y2:IntKind.i64.wrap ((i:Int)+1)=(i:Int)+1:=IntWalk.i64_in _ (by omega)
     have hrr:=HS.out.ok.reads.touch (HT2.out.then HP.out.touch) (fun _ _ f=>f)
     simp only at hrr
     obtain ⟨gl,ol,hAl,hgl,l0,l1⟩:=preads_at hrr HSL.out.symm i hin
     subst hAl
     have hsn2:=psnoc sL i (by rw [HSL.out];exact hin)
     obtain ⟨⟨xw,xn⟩,hx⟩:∃ x,x=sL.getD i PRow.zero:=⟨_,rfl⟩
     rw [← hx] at l0 l1 hsn2
     simp only at l0 l1
     have hds:=dropP_snoc k.toList (sL.take i) ⟨xw,xn⟩
     rw [← hsn2] at hds
     have HDS:=hide hds
     have HIN:=hide hin
     clear hrr hx hsn2 hds
     by_cases q1:xw.toList=k.toList
     ·have q2:(xw.toList == k.toList)=true:=by simp [q1]
      have q3:xw=k:=toList_inj q1
      have HQ1:=hide q1
      subst q3
      clear hin
      go_wp2_with fail
      go_roundw
      ·exact ⟨i+1,q,A5,c5,by simp,rfl,by have:=HIN.out;omega,by omega,hide (by rw [HDS.out,if_pos HQ1.out];exact HP.out)⟩
      ·show sn-(intOf (.int .i64 ((i:Int)+1))).toNat<sn-(intOf (.int .i64 (i:Int))).toNat
       have:=HIN.out
       simp [intOf]
       omega
     ·have q2:(xw.toList == k.toList)=false:=by simp [q1]
      have q4:¬ xw=k:=fun e=>q1 (by rw [e])
      have HQ1:=hide q1
      obtain ⟨A5',c5',e5,_,hm5⟩:=own_len HP.out.own
      injection e5 with e51 e52 e53
      subst e51 e53
      clear hin e52
      go_wp2_with (at_builtin;refine wpList_app _ rfl (.tmp 39) (.tmp 44) 37 rfl 125 i0 _ 2 24 Tryz.underlying37 hi hz0 hz1 hz2 rfl (by decide) (.slice A5 q c5) q _ rfl (own_touch HP.out.own ((Touch.refl _ _).alloc _) (fun _ _ f=>f)) (some ⟨_,0,none⟩) 1 1 (PRow.cells ⟨xw,xn⟩) rfl ?s1a ?s1b ?s1c ?s1d ?s1e ?_)
      case s1a=>exact Reads.new _ _ _ _ rfl
      try (case s1b=>exact fun h=>by cases h)
      case s1c=>exact List.all_eq_true.1 rfl
      case s1d=>unfold maxLen;omega
      case s1e=>omega
      intro v3 w3 hown hgrow hfr _
      obtain ⟨A6,c6,hv6,_,_⟩:=own_len hown
      subst hv6
      have HN3:=hide ((HP.out.to ((Touch.refl _ _).alloc _)).app hown hgrow hfr)
      clear hown hgrow hfr
      go_wp2_with fail
      go_roundw
      ·exact ⟨i+1,q+1,A6,c6,by simp,rfl,by have:=HIN.out;omega,by omega,hide (by rw [HDS.out,if_neg HQ1.out];exact HN3.out)⟩
      ·show sn-(intOf (.int .i64 ((i:Int)+1))).toNat<sn-(intOf (.int .i64 (i:Int))).toNat
       have:=HIN.out
       simp [intOf]
       omega
    ·have y0:¬ (i:Int)<(sn:Int):=by omega
     have hie:sL.take i=sL:=List.take_of_length_le (by rw [HSL.out];omega)
     have HIE:=hide hie
     clear hie hin
     go_wp2_with fail
     go_ret3
     have hp:=HP.out
     rw [HIE.out] at hp
     exact ⟨⟨A5,q,c5,dropP k.toList sL⟩,rfl,RfL.own hp.own,HT2.out.then hp.touch⟩
end Go.Proofs.YthockgmbooefpaaGreatDoor
namespace Go.Proofs.YthockgmbooefpaaGreatDoor
open Go.RowKit
def MRow.val (r:MRow):Value:=.agg #[.string r.word,.int .i64 r.weight,.int .i64 r.dist]
structure MRow.WfB (r:MRow):Prop where
 word:r.word.size≤maxLen
 w1 : -9223372036854775808≤r.weight
 w2:r.weight≤9223372036854775807
 d1 : -9223372036854775808≤r.dist
 d2:r.dist≤9223372036854775807
theorem less_any (a b:ByteArray) (w:World) :
  Calls Tryz.prog 82 #[.string a,.string b] w fun e w'=>e=.returned (.bool (Op.bytesLess a.toList b.toList))∧w=w':=by
 go_enter Tryz.func82,Tryz.ntmps82
 go_wp2
 go_ret
 exact ⟨rfl,rfl⟩
theorem pbetter_any (a b:MRow) (w:World) :
  Calls Tryz.prog 154 #[a.val,b.val] w fun e w'=>e=.returned (.bool (better a b))∧Touch (fun _=>False) w w':=by
 obtain ⟨aw,an,ad⟩:=a
 obtain ⟨bw,bn,bd⟩:=b
 unfold MRow.val better
 have b1:=(Blk.new w 43 #[.string aw,.int .i64 an,.int .i64 ad]).alloc (.cells #[.string bw,.int .i64 bn,.int .i64 bd] 43)
 have b2:=blk_new1 w (.cells #[.string aw,.int .i64 an,.int .i64 ad] 43) 43 #[.string bw,.int .i64 bn,.int .i64 bd]
 obtain ⟨k1,k2,k3⟩:=b1.facts
 obtain ⟨l1,l2,l3⟩:=b2.facts
 clear b1 b2
 by_cases h1:ad=bd
 ·have g1:(ad != bd)=false:=by simp [h1]
  by_cases h2:an=bn
  ·have g2:(an != bn)=false:=by simp [h2]
   have H1:=hide h1
   have H2:=hide h2
   clear h1 h2
   go_enter Tryz.func154,Tryz.ntmps154
   go_wp2_with (go_at_call 82;refine (less_any aw bw _).mono ?_;rintro e w2 ⟨rfl,rfl⟩)
   go_ret
   exact ⟨by simp,((Touch.refl _ _).alloc _).alloc _⟩
  ·have g2:(an != bn)=true:=by simp [h2]
   have H1:=hide h1
   have H2:=hide h2
   clear h1 h2
   go_enter Tryz.func154,Tryz.ntmps154
   go_wp2
   go_ret
   exact ⟨by simp,((Touch.refl _ _).alloc _).alloc _⟩
 ·have g1:(ad != bd)=true:=by simp [h1]
  have H1:=hide h1
  clear h1
  go_enter Tryz.func154,Tryz.ntmps154
  go_wp2
  go_ret
  exact ⟨by simp,((Touch.refl _ _).alloc _).alloc _⟩
theorem rbetter_any (a b:MRow) (ha:a.WfB) (hb:b.WfB) (w:World) :
  Calls Tryz.prog 16 #[a.val,b.val] w fun e w'=>e=.returned (.bool (better a b))∧Touch (fun _=>False) w w':=by
 obtain ⟨aw,an,ad⟩:=a
 obtain ⟨bw,bn,bd⟩:=b
 unfold MRow.val better
 have b1:=(Blk.new w 43 #[.string aw,.int .i64 an,.int .i64 ad]).alloc (.cells #[.string bw,.int .i64 bn,.int .i64 bd] 43)
 have b2:=blk_new1 w (.cells #[.string aw,.int .i64 an,.int .i64 ad] 43) 43 #[.string bw,.int .i64 bn,.int .i64 bd]
 obtain ⟨k1,k2,k3⟩:=b1.facts
 obtain ⟨l1,l2,l3⟩:=b2.facts
 have HA:=hide ha.word
 have HB:=hide hb.word
 clear b1 b2 ha hb
 by_cases h1:ad=bd
 ·have g1:(ad != bd)=false:=by simp [h1]
  by_cases h2:an=bn
  ·have g2:(an != bn)=false:=by simp [h2]
   have H1:=hide h1
   have H2:=hide h2
   clear h1 h2
   go_enter Tryz.func16,Tryz.ntmps16
   go_wp2_with (go_at_call 46;refine (ahead_any aw bw HA.out HB.out _).mono ?_;rintro e w2 ⟨rfl,hc⟩;have HC:=hide hc;clear hc)
   go_ret
   exact ⟨by simp,(((Touch.refl _ _).alloc _).alloc _).then HC.out⟩
  ·have g2:(an != bn)=true:=by simp [h2]
   have H1:=hide h1
   have H2:=hide h2
   clear h1 h2
   go_enter Tryz.func16,Tryz.ntmps16
   go_wp2
   go_ret
   exact ⟨by simp,((Touch.refl _ _).alloc _).alloc _⟩
 ·have g1:(ad != bd)=true:=by simp [h1]
  have H1:=hide h1
  clear h1
  go_enter Tryz.func16,Tryz.ntmps16
  go_wp2
  go_ret
  exact ⟨by simp,((Touch.refl _ _).alloc _).alloc _⟩
theorem infoMatch:(Tryz.prog.info? 43).map (fun i=>(i.zero,i.size,i.bytes))=some (some (.agg #[.string ByteArray.empty,.int .i64 0,.int .i64 0]),3,32):=by kernel_rfl
theorem cells_lenB (r:MRow):(MRow.cells r).length=3:=rfl
theorem mCells_atB (X:List MRow) (k:Nat) (hk:k<X.length) (j:Nat) (hj:j<3):(mCells X)[k*3+j]? = (X.getD k MRow.zero).cells[j]? := by
 have e:X.getD k MRow.zero=X[k]:=by simp [List.getD,hk]
 rw [e]
 exact flat_at MRow.cells 3 cells_lenB X k j hk hj
theorem reads_atB {w:World} {A:Option Addr} {n:Nat} {X:List MRow} (h:Reads w 3 A n (mCells X)) (hn:n=X.length) (k:Nat) (hk:k<n) :
  ∃ g off,A=some ⟨g,off,none⟩∧g<w.heap.size∧w.cell? ⟨g,off+k*3,none⟩=some (.string (X.getD k MRow.zero).word)∧w.cell? ⟨g,off+k*3+1,none⟩=some (.int .i64 (X.getD k MRow.zero).weight) ∧
   w.cell? ⟨g,off+k*3+2,none⟩=some (.int .i64 (X.getD k MRow.zero).dist):=by
 subst hn
 obtain ⟨b,off,hA,hb,hc⟩:=h.2 (by omega)
 refine ⟨b,off,hA,hb,?_,?_,?_⟩
 ·exact hc (k*3) _ (mCells_atB X k hk 0 (by omega))
 ·rw [Nat.add_assoc];exact hc (k*3+1) _ (mCells_atB X k hk 1 (by omega))
 ·rw [Nat.add_assoc];exact hc (k*3+2) _ (mCells_atB X k hk 2 (by omega))
theorem plen_any (w:World) (A:Option Addr) (n c:Nat) (_hn:n≤maxLen) :
  Calls Tryz.prog 218 #[.slice A n c] w fun e w'=>e=.returned (.int .i64 n)∧w=w':=by
 unfold maxLen at _hn
 go_enter Tryz.func218,Tryz.ntmps218
 go_wp2
 go_ret
 exact ⟨rfl,rfl⟩
theorem pless_any (w:World) (A:Option Addr) (n c:Nat) (X:List MRow) (hX:n=X.length) (h:Reads w 3 A n (mCells X)) (_hn:n≤maxLen) (i j:Nat) (hi:i<n) (hj:j<n) :
  Calls Tryz.prog 219 #[.slice A n c,.int .i64 i,.int .i64 j] w fun e w'=>e=.returned (.bool (better (X.getD j MRow.zero) (X.getD i MRow.zero)))∧Touch (fun _=>False) w w':=by
 unfold maxLen at _hn
 obtain ⟨g,off,rfl,hg,a0,a1,a2⟩:=reads_atB h hX i hi
 obtain ⟨g',off',hA,_,b0,b1,b2⟩:=reads_atB h hX j hj
 injection hA with hA
 injection hA with h1 h2
 subst h1 h2
 obtain ⟨⟨xw,xn,xd⟩,hx⟩:∃ x,x=X.getD i MRow.zero:=⟨_,rfl⟩
 obtain ⟨⟨yw,yn,yd⟩,hy⟩:∃ x,x=X.getD j MRow.zero:=⟨_,rfl⟩
 rw [← hx] at a0 a1 a2 ⊢
 rw [← hy] at b0 b1 b2 ⊢
 simp only at a0 a1 a2 b0 b1 b2
 have HX:=hide h
 clear hx hy h hX
 have i0:(0:Int)≤(i:Int):=by omega
 have i1:(i:Int)<(n:Int):=by omega
 have j0:(0:Int)≤(j:Int):=by omega
 have j1:(j:Int)<(n:Int):=by omega
 go_enter Tryz.func219,Tryz.ntmps219
 go_wp2
 go_still_tail 8,(by kernel_rfl)
 change wpList _ _ _ _ _ w.drew
 have HT:Hid (Touch (fun _=>False) w w.drew):=hide (Touch.refl _ _).drew
 generalize w.drew=w2 at HT ⊢
 go_wp2_with (go_at_call 154;refine (pbetter_any ⟨yw,yn,yd⟩ ⟨xw,xn,xd⟩ _).mono ?_;rintro e w3 ⟨rfl,hc⟩;have HC:=hide hc;clear hc)
 go_ret
 exact ⟨rfl,HT.out.then HC.out⟩
theorem own_at {w:World} {A:Option Addr} {n c:Nat} {X:List MRow} (h:w.ownsRow 0 43 3 (.slice A n c) n (mCells X)) (hn:n=X.length) (k:Nat) (hk:k<n) :
  ∃ g,A=some ⟨g,0,none⟩∧g<w.heap.size∧w.cell? ⟨g,k*3,none⟩=some (.string (X.getD k MRow.zero).word)∧w.cell? ⟨g,k*3+1,none⟩=some (.int .i64 (X.getD k MRow.zero).weight) ∧
   w.cell? ⟨g,k*3+2,none⟩=some (.int .i64 (X.getD k MRow.zero).dist)∧w.frozen? ⟨g,k*3,none⟩=false∧w.frozen? ⟨g,k*3+1,none⟩=false∧w.frozen? ⟨g,k*3+2,none⟩=false:=by
 subst hn
 obtain ⟨g,cap,hv,_,_,hg,hc,hf⟩:=own_form h (by omega)
 injection hv with hA' _ _
 exact ⟨g,hA',hg,hc (k*3) _ (mCells_atB X k hk 0 (by omega)),hc (k*3+1) _ (mCells_atB X k hk 1 (by omega)),hc (k*3+2) _ (mCells_atB X k hk 2 (by omega)),hf _,hf _,hf _⟩
theorem set3 (X:List MRow) (k:Nat) (r:MRow):(((mCells X).set (k*3) (.string r.word)).set (k*3+1) (.int .i64 r.weight)).set (k*3+2) (.int .i64 r.dist)=mCells (X.set k r):=by
 induction X generalizing k with
 | nil=>simp [mCells]
 | cons x X ih =>
  cases k with
  | zero=>simp [mCells,MRow.cells]
  | succ k =>
   have:=ih k
   simp only [mCells,List.flatMap_cons,List.set_cons_succ] at this ⊢
   rw [← this]
   simp only [MRow.cells,List.cons_append,List.nil_append,Nat.succ_mul]
   rw [show k*3+3=(k*3)+1+1+1 by omega,show k*3+1+1+1+1=(k*3+1)+1+1+1 by omega,show k*3+1+1+1+2=(k*3+2)+1+1+1 by omega]
   simp only [List.set_cons_succ]
theorem own_set3 {w:World} {g n c:Nat} {X:List MRow} (h:w.ownsRow 0 43 3 (.slice (some ⟨g,0,none⟩) n c) n (mCells X)) (k:Nat) (r:MRow) :
  (((w.setCell ⟨g,k*3,none⟩ (.string r.word)).setCell ⟨g,k*3+1,none⟩ (.int .i64 r.weight)).setCell ⟨g,k*3+2,none⟩ (.int .i64 r.dist)).ownsRow 0 43 3 (.slice (some ⟨g,0,none⟩) n c) n (mCells (X.set k r)):=by
 rw [← set3]
 exact own_set (own_set (own_set h _ _) _ _) _ _
theorem pswap_any (w:World) (A:Option Addr) (n c:Nat) (X:List MRow) (hX:n=X.length) (h:w.ownsRow 0 43 3 (.slice A n c) n (mCells X)) (i j:Nat) (hi:i<n) (hj:j<n) :
  Calls Tryz.prog 220 #[.slice A n c,.int .i64 i,.int .i64 j] w fun e w'=>e=.returned (.tuple #[])∧w'.ownsRow 0 43 3 (.slice A n c) n (mCells (swp X i j))∧Touch (fun g=>adBlock A=some g) w w':=by
 obtain ⟨g,rfl,hg,a0,a1,a2,f0,f1,f2⟩:=own_at h hX i hi
 obtain ⟨g',hA,_,b0,b1,b2,f3,f4,f5⟩:=own_at h hX j hj
 have hn:=own_le h
 injection hA with hA
 injection hA with h1 h2
 subst h1
 have HX:=hide h
 obtain ⟨⟨xw,xn,xd⟩,hx⟩:∃ x,x=X.getD i MRow.zero:=⟨_,rfl⟩
 obtain ⟨⟨yw,yn,yd⟩,hy⟩:∃ x,x=X.getD j MRow.zero:=⟨_,rfl⟩
 rw [← hx] at a0 a1 a2
 rw [← hy] at b0 b1 b2
 simp only at a0 a1 a2 b0 b1 b2
 have EX:=hide hx
 have EY:=hide hy
 clear hx hy h hX
 unfold maxLen at hn
 have i0:(0:Int)≤(i:Int):=by omega
 have i1:(i:Int)<(n:Int):=by omega
 have j0:(0:Int)≤(j:Int):=by omega
 have j1:(j:Int)<(n:Int):=by omega
 go_enter Tryz.func220,Tryz.ntmps220
 obtain ⟨v0,s0⟩:=cell?_setCell_some (p:=⟨g,i*3,none⟩) (x:=.string yw) b0
 obtain ⟨v1,s1⟩:=cell?_setCell_some (p:=⟨g,i*3,none⟩) (x:=.string yw) b1
 obtain ⟨v1,s1⟩:=cell?_setCell_some (p:=⟨g,i*3+1,none⟩) (x:=.int .i64 yn) s1
 obtain ⟨v2,s2⟩:=cell?_setCell_some (p:=⟨g,i*3,none⟩) (x:=.string yw) b2
 obtain ⟨v2,s2⟩:=cell?_setCell_some (p:=⟨g,i*3+1,none⟩) (x:=.int .i64 yn) s2
 obtain ⟨v2,s2⟩:=cell?_setCell_some (p:=⟨g,i*3+2,none⟩) (x:=.int .i64 yd) s2
 go_region
 all_goals go_wp2
 go_end0
 have HS:=own_set3 (own_set3 HX.out i ⟨yw,yn,yd⟩) j ⟨xw,xn,xd⟩
 have e:swp X i j=(X.set i ⟨yw,yn,yd⟩).set j ⟨xw,xn,xd⟩:=by unfold swp;rw [← EX.out,← EY.out]
 rw [e]
 refine ⟨rfl,own_touch (S:=fun _=>False) HS (Touch.refl _ _).drew (fun _ _ f=>f),?_⟩
 refine Touch.drew ?_
 iterate 6 refine Touch.setCell ?_ (fun _=>(rfl:adBlock (some ⟨g,0,none⟩)=some g)) _
 exact Touch.refl _ _
structure Pil (w:World) (p:Nat) (most:Int) (v:Value) (X:List MRow):Prop where
 blk:Blk w p 264 #[.int .i64 most,v]
 own:w.ownsRow 0 43 3 v X.length (mCells X)
def pfp (p:Nat) (v:Value):Nat→Prop:=fun g=>g=p∨v.ownBlock=some g
theorem Pil.touch {w w':World} {p:Nat} {most:Int} {v:Value} {X:List MRow} {S:Nat→Prop} (h:Pil w p most v X) (ht:Touch S w w') (hs:∀ g,g<w.heap.size→pfp p v g→¬ S g):Pil w' p most v X:=by
 refine ⟨h.blk.touch ht (hs p h.blk.lt (.inl rfl)),own_touch h.own ht (fun g hg=>hs g ?_ (.inr hg))⟩
 rcases h.own.2 with ⟨rfl,_⟩ | ⟨g',cap,cur,rfl,_,hgg,_⟩
 ·simp [Value.ownBlock] at hg
 ·simp [Value.ownBlock] at hg
  subst hg
  exact (Array.getElem?_eq_some_iff.1 hgg).1
theorem Pil.quiet {w w':World} {p:Nat} {most:Int} {v:Value} {X:List MRow} (h:Pil w p most v X) (ht:Touch (fun _=>False) w w'):Pil w' p most v X:=h.touch ht (fun _ _ _ f=>f)
def pth (p:Nat):Value:=.iface 266 (.pointer (some ⟨p,1,none⟩))
theorem meth_push (n:Nat) (a:Addr) (w:World):(method (n+1) 266 (.pointer (some a)) "Push").run Tryz.prog w=.ok (222,.pointer (some a)) w:=by kernel_rfl
theorem meth_len0 (n:Nat) (a:Addr) (w:World):(method (n+1) 266 (.pointer (some a)) "Len").run Tryz.prog w=(loadVar 262 a >>= fun v=>pure (218,v)).run Tryz.prog w:=by
 unfold method
 kernel_rfl
theorem meth_swap0 (n:Nat) (a:Addr) (w:World):(method (n+1) 266 (.pointer (some a)) "Swap").run Tryz.prog w=(loadVar 262 a >>= fun v=>pure (220,v)).run Tryz.prog w:=by
 unfold method
 kernel_rfl
theorem meth_less0 (n:Nat) (a:Addr) (w:World):(method (n+1) 266 (.pointer (some a)) "Less").run Tryz.prog w=(loadVar 262 a >>= fun v=>pure (219,v)).run Tryz.prog w:=by
 unfold method
 kernel_rfl
theorem meth_pop (n:Nat) (a:Addr) (w:World):(method (n+1) 266 (.pointer (some a)) "Pop").run Tryz.prog w=.ok (221,.pointer (some a)) w:=by kernel_rfl
theorem load_pile (a:Addr) (w:World) (v:Value) (f:FuncId) (hc:w.cell? a=some v):(loadVar 262 a >>= fun v=>pure (f,v)).run Tryz.prog w=.ok (f,v) w:=by
 have h:(isAgg 262).run Tryz.prog w=.ok false w:=by kernel_rfl
 simp [loadVar,h,hc]
theorem meth_len (n:Nat) (a:Addr) (w:World) (v:Value) (hc:w.cell? a=some v):(method (n+1) 266 (.pointer (some a)) "Len").run Tryz.prog w=.ok (218,v) w:=(meth_len0 n a w).trans (load_pile a w v _ hc)
theorem meth_swap (n:Nat) (a:Addr) (w:World) (v:Value) (hc:w.cell? a=some v):(method (n+1) 266 (.pointer (some a)) "Swap").run Tryz.prog w=.ok (220,v) w:=(meth_swap0 n a w).trans (load_pile a w v _ hc)
theorem meth_less (n:Nat) (a:Addr) (w:World) (v:Value) (hc:w.cell? a=some v):(method (n+1) 266 (.pointer (some a)) "Less").run Tryz.prog w=.ok (219,v) w:=(meth_less0 n a w).trans (load_pile a w v _ hc)
theorem assert_match (cs:Array Value) (w:World):(Instr.typeAssert (.iface 43 (.agg cs)) 20 43 false).run Tryz.prog w=.ok (.agg cs) w:=by kernel_rfl
theorem val_cells (m:MRow):m.val=.agg #[.string m.word,.int .i64 m.weight,.int .i64 m.dist]:=rfl
theorem ppush_any (w:World) (p:Nat) (most:Int) (v:Value) (X:List MRow) (h:Pil w p most v X) (hX:X.length≤64) (m:MRow) :
  Calls Tryz.prog 222 #[.pointer (some ⟨p,1,none⟩),.iface 43 m.val] w fun e w' =>
   e=.returned (.tuple #[])∧∃ v',Pil w' p most v' (X++[m])∧Touch (pfp p v) w w'∧Fresh w v v':=by
 obtain ⟨hb,ho⟩:=h
 obtain ⟨A,c,hv,_,hc⟩:=own_len ho
 have c1:=hb.cell 1
 have f1:=hb.frozen 1
 simp at c1
 have hp:=hb.lt
 have HO:=hide ho
 have HB:=hide hb
 subst hv
 clear ho hb
 obtain ⟨i0,hi,hz0,hz1,hz2⟩:=info_parts infoMatch
 obtain ⟨mw,mn,md⟩:=m
 rw [val_cells]
 simp only
 have ta:=assert_match #[.string mw,.int .i64 mn,.int .i64 md]
 go_enter Tryz.func222,Tryz.ntmps222
 go_region_law (refine step_append_lies _ rfl (.tmp 7) (.tmp 10) 262 rfl 0 43 i0 _ 3 32 Tryz.underlying262 hi hz0 hz1 hz2 (by decide) (by decide) (.slice A X.length c) X.length (mCells X) (by simp [Act.eval]) ?own ⟨w.heap.size,0,none⟩ 1 1 (MRow.cells ⟨mw,mn,md⟩) (by simp [Act.eval]) rfl ?news ?one (by decide) ?b1 ?b2 (Nat.zero_le _) _ rfl ?_;(case own=>exact own_touch HO.out ((Touch.refl _ _).alloc _).drew (fun _ _ f=>f));(case news=>exact World.news_of_block (Blk.new w _ _));(case one=>exact List.all_eq_true.1 rfl);(case b1=>unfold maxLen;omega);(case b2=>omega);intro g cap w1 hown hgrow hlies hsz;have hgr:(w.alloc (.cells #[.string mw,.int .i64 mn,.int .i64 md] 43)).drew.grownBy w1 (Value.slice A X.length c).ownBlock:=hgrow;clear hgrow;have hb1:Blk w1 p 264 #[.int .i64 most,.slice A X.length c]:=(HB.out.alloc _).drew.grown hgr (fun e=>own_blk_ne HO.out HB.out (by decide) e.symm);obtain ⟨k1,k2,k3⟩:=hb1.facts;have HOW:=hide hown;have HG:=hide hgr;have HL:=hide hlies;have HB1:=hide hb1;clear hown hgr hlies hb1)
 all_goals go_end0
 all_goals refine ⟨rfl,.slice (some ⟨g,0,none⟩) (X.length+1) cap,⟨HB1.out.set_ 1 _,?_⟩,?_,?_⟩
 any_goals
  have e1:(X++[(⟨mw,mn,md⟩:MRow)]).length=X.length+1:=by simp
  have e2:mCells (X++[(⟨mw,mn,md⟩:MRow)])=mCells X++MRow.cells ⟨mw,mn,md⟩:=by simp [mCells]
  first
   | exact (by rw [e1,e2];exact own_setCell_far HOW.out (own_blk_ne HOW.out HB1.out (by decide)) _)
   | exact ((((Touch.refl _ _).alloc _).drew.app HG.out (fun g' hg' _=>.inr hg')).setCell (fun _=>.inl rfl) _)
   | exact (by
     rcases HL.out with e | e
     ·exact .inl e.symm
     ·exact .inr ⟨g,rfl,by rw [e];simp⟩)
theorem own_cut {w:World} {base:Nat} {e:TypeId} {size:Nat} {A:Option Addr} {n c:Nat} {xs:List Value} (h:w.ownsRow base e size (.slice A (n+1) c) (n+1) xs) :
  w.ownsRow base e size (.slice A n c) n (xs.take (n*size)):=by
 refine ⟨by rw [List.length_take,h.1];exact Nat.min_eq_left (Nat.mul_le_mul_right _ (by omega)),?_⟩
 rcases h.2 with ⟨h0,_⟩ | ⟨g',cap',cur,hv,hge,hgg,hle,hm,hsz,ht⟩
 ·cases h0
 ·injection hv with ha _ hc
  subst ha hc
  refine .inr ⟨g',c,cur,rfl,hge,hgg,by omega,hm,hsz,?_⟩
  rw [← ht,List.take_take,Nat.min_eq_left (Nat.mul_le_mul_right _ (by omega))]
theorem mCells_take (X:List MRow) (n:Nat):(mCells X).take (n*3)=mCells (X.take n):=by
 induction X generalizing n with
 | nil=>simp [mCells]
 | cons x X ih =>
  cases n with
  | zero=>simp [mCells]
  | succ n =>
   simp only [mCells,List.flatMap_cons,List.take_succ_cons] at ih ⊢
   rw [List.take_append,cells_lenB,List.take_of_length_le (by rw [cells_lenB];omega),show (n+1)*3-3=n*3 by omega,ih]
theorem ppop_any (w:World) (p:Nat) (most:Int) (v:Value) (X:List MRow) (n:Nat) (hX:X.length=n+1) (h:Pil w p most v X) :
  Calls Tryz.prog 221 #[.pointer (some ⟨p,1,none⟩)] w fun e w' =>
   e=.returned (.iface 43 (X.getD n MRow.zero).val)∧∃ v',Pil w' p most v' (X.take n)∧Touch (pfp p v) w w'∧v'.ownBlock=v.ownBlock:=by
 obtain ⟨hb,ho⟩:=h
 rw [hX] at ho
 obtain ⟨A,c,hv,_,hc⟩:=own_len ho
 subst hv
 have hlen:n+1≤maxLen:=own_le ho
 obtain ⟨g,rfl,hg,a0,a1,a2,_,_,_⟩:=own_at ho hX.symm n (by omega)
 have c1:=hb.cell 1
 have f1:=hb.frozen 1
 simp at c1
 have hp:=hb.lt
 have HO:=hide ho
 have HB:=hide hb
 have HX:=hide hX
 clear ho hb hX
 unfold maxLen at hc hlen
 obtain ⟨⟨xw,xn,xd⟩,hx⟩:∃ x,x=X.getD n MRow.zero:=⟨_,rfl⟩
 rw [← hx] at a0 a1 a2 ⊢
 simp only at a0 a1 a2
 rw [val_cells]
 simp only
 clear hx
 have i0:(0:Int)≤(n:Int):=by omega
 have i1:((n+1:Nat):Int)-1=(n:Int):=by omega
 have i2:(n:Int)<((n+1:Nat):Int):=by omega
 go_enter Tryz.func221,Tryz.ntmps221
 go_wp2
 go_ret
 refine ⟨rfl,.slice (some ⟨g,0,none⟩) n c,⟨(HB.out.set_ 1 _).alloc _,?_⟩,((Touch.refl _ _).setCell (fun _=>.inl rfl) _).alloc _,rfl⟩
 rw [← mCells_take,show (X.take n).length=n by rw [List.length_take,HX.out];omega]
 refine own_touch (S:=fun _=>False) ?_ ((Touch.refl _ _).alloc _) (fun _ _ f=>f)
 refine own_setCell_far (own_cut HO.out) ?_ _
 exact own_blk_ne HO.out HB.out (by decide)
end Go.Proofs.YthockgmbooefpaaGreatDoor
