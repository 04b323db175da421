/- What the law rests on, part 41. No condition but those that each theorem names. -/
import Derived.Test.YthockgmbooefpaaDoorD40
import Derived.Test.YthockgmbooefpaaDoorD02
import Derived.Test.YthockgmbooefpaaDoorD05
import Derived.BigQuiet
import Derived.Deep.QuietTactic
import Derived.StillTailTactics
import Derived.Deep.AppendLies
import Derived.Deep.RegionLaw
import Derived.OwnWalk
set_option linter.unusedSectionVars false
set_option linter.unusedSimpArgs false
set_option linter.unusedVariables false
namespace Go.Proofs.YthockgmbooefpaaDoor
open Go.RowKit
structure RfL (B0:Nat) (w:World) (s:SL) (L:List PRow):Prop where
 ok:s.Ok w
 eq:s.L=L
 far:0<s.n→∀ g,adBlock s.A=some g→g<B0∨TyAt w g 56
theorem RfL.touch {B0:Nat} {w w':World} {s:SL} {L:List PRow} {S:Nat→Prop} (h:RfL B0 w s L) (T:Touch S w w') (h1:∀ g,g<B0→¬ S g) (h2:∀ g,TyAt w g 56 → ¬ S g):RfL B0 w' s L:=by
 have hS:0<s.n→∀ g,adBlock s.A=some g→¬ S g:=fun h0 g hg=>(h.far h0 g hg).elim (h1 g) (h2 g)
 refine ⟨⟨h.ok.len,?_,h.ok.nil⟩,h.eq,fun h0 g hg=>(h.far h0 g hg).imp id (fun ht=>ht.touch T (h2 g ht))⟩
 rcases Nat.eq_zero_or_pos s.n with e | e
 ·exact ⟨h.ok.reads.1,fun h0=>by omega⟩
 ·exact h.ok.reads.touch T (hS e)
theorem RfL.quiet {B0:Nat} {w w':World} {s:SL} {L:List PRow} (h:RfL B0 w s L) (T:Touch (fun _=>False) w w'):RfL B0 w' s L:=h.touch T (fun _ _ f=>f) (fun _ _ f=>f)
theorem RfL.dict {B0:Nat} {w w':World} {s:SL} {L:List PRow} {d:Nat} (h:RfL B0 w s L) (T:Touch (fun g=>g=d) w w') (hd:B0≤d) (ht:TyAt w d 93):RfL B0 w' s L :=
 h.touch T (fun g hg e=>by omega) (fun g hg=>dict_ne ht hg (.inr (.inr (.inr (.inr rfl)))))
theorem RfL.own {B0:Nat} {w:World} {A:Option Addr} {n c:Nat} {L:List PRow} (h:POwn w A n c L):RfL B0 w ⟨A,n,c,L⟩ L :=
 ⟨own_okD h,rfl,fun h0 g hg=>.inr ((RdT.of_own h).ty h0 g hg)⟩
theorem dict_wf {L:List PRow} (hD:DictP L):∀ r∈L,r.Wf:=fun r hr=>by have:=dict_sizes hD r hr;unfold PRow.Wf;omega
set_option maxRecDepth 100000 in
set_option maxHeartbeats 4000000 in
theorem rset_any (w:World) (B0:Nat) (s:SL) {L:List PRow} (hs:RfL B0 w s L) (hD:DictP L) (k:ByteArray) (hk:k.size≤1099511627776) (n:Int) :
  Calls Tryd.prog 47 #[s.val,.string k,.int .i64 n] w fun e w'=>∃ s':SL,e=.returned (.tuple #[s'.val,.int .i64 (setH L k n),.int .i64 (setE L k.toList n)])∧RfL B0 w' s' (setL L k n)∧Touch (fun _=>False) w w':=by
 have HRW:=hide (rword_any w k (by omega))
 have hdl:=hD.len
 have hsl:=hs.ok.len
 have heq:=hs.eq
 obtain ⟨sA,sn,sc,sL⟩:=s
 simp only at heq hsl
 subst heq
 have hsn:sn≤4096:=by omega
 have hsnI:(sn:Int)≤4096:=by omega
 have HRF:=hide (fun (wx:World) (T:Touch (fun _=>False) w wx)=>rfind_any wx sA sn sc sL hsl (hs.ok.reads.touch T (fun _ _ f=>f)) (by unfold maxLen;omega) k)
 have HPU:=hide (fun (wx:World) (T:Touch (fun _=>False) w wx)=>put_any wx sA sn sc sL hsl (hs.ok.reads.touch T (fun _ _ f=>f)) (by omega) (dict_wf hD) ⟨k,n⟩ (by show k.size≤9223372036854775807;omega))
 have HS:=hide hs
 obtain ⟨⟨x,t⟩,hxt⟩:∃ r,r=findP k.toList sL:=⟨_,rfl⟩
 simp only [← hxt] at HRF
 have HXT:=hide hxt
 obtain ⟨v,hv⟩:∃ v,v=wordU k.toList:=⟨_,rfl⟩
 rw [← hv] at HRW
 have HV:=hide hv
 have HSL:=hide hsl
 simp only [SL.val]
 clear hs hk hxt hv hD
 cases v with
 | false =>
  have hE:setE sL k.toList n=140:=by unfold setE;rw [if_pos HV.out.symm]
  obtain ⟨hH,hLl⟩:=set_err hE (by decide)
  rw [hE,hH,hLl]
  clear hE hH hLl
  go_enter Tryd.func47,Tryd.ntmps47
  go_wp2_with fail
  refine HRW.out.mono ?_
  rintro e w1 ⟨rfl,T1⟩
  have HT1:=hide T1
  clear T1
  go_wp2_with fail
  refine (HRF.out w1 HT1.out).mono ?_
  rintro e w2 ⟨rfl,T2⟩
  have HT2:=hide (HT1.out.then T2)
  clear T2
  go_wp2_with fail
  go_ret3
  exact ⟨⟨sA,sn,sc,sL⟩,rfl,HS.out.quiet HT2.out,HT2.out⟩
 | true =>
  have hvn:¬ wordU k.toList=false:=by rw [← HV.out];decide
  by_cases hn1:n<1
  ·have hE:setE sL k.toList n=141:=by unfold setE;rw [if_neg hvn,if_pos (.inl hn1)]
   obtain ⟨hH,hLl⟩:=set_err hE (by decide)
   rw [hE,hH,hLl]
   clear hE hH hLl hvn
   go_enter Tryd.func47,Tryd.ntmps47
   go_wp2_with fail
   refine HRW.out.mono ?_
   rintro e w1 ⟨rfl,T1⟩
   have HT1:=hide T1
   clear T1
   go_wp2_with fail
   refine (HRF.out w1 HT1.out).mono ?_
   rintro e w2 ⟨rfl,T2⟩
   have HT2:=hide (HT1.out.then T2)
   clear T2
   go_wp2_with fail
   go_ret3
   exact ⟨⟨sA,sn,sc,sL⟩,rfl,HS.out.quiet HT2.out,HT2.out⟩
  ·by_cases hn2:1048576<n
   ·have hE:setE sL k.toList n=141:=by unfold setE;rw [if_neg hvn,if_pos (.inr hn2)]
    obtain ⟨hH,hLl⟩:=set_err hE (by decide)
    rw [hE,hH,hLl]
    clear hE hH hLl hvn
    go_enter Tryd.func47,Tryd.ntmps47
    go_wp2_with fail
    refine HRW.out.mono ?_
    rintro e w1 ⟨rfl,T1⟩
    have HT1:=hide T1
    clear T1
    go_wp2_with fail
    refine (HRF.out w1 HT1.out).mono ?_
    rintro e w2 ⟨rfl,T2⟩
    have HT2:=hide (HT1.out.then T2)
    clear T2
    go_wp2_with fail
    go_ret3
    exact ⟨⟨sA,sn,sc,sL⟩,rfl,HS.out.quiet HT2.out,HT2.out⟩
   ·have hno:¬ (n<1∨1048576<n):=by omega
    by_cases hful:t=false∧sn=4096
    ·obtain ⟨ht,hs4⟩:=hful
     subst ht
     have hfd:(findP k.toList sL).2=false:=by rw [← HXT.out]
     have hE:setE sL k.toList n=142:=by unfold setE;rw [if_neg hvn,if_neg hno,if_pos ⟨hfd,by omega⟩]
     obtain ⟨hH,hLl⟩:=set_err hE (by decide)
     rw [hE,hH,hLl]
     have b1:(4096:Int)≤(sn:Int):=by omega
     clear hE hH hLl hvn hfd hno hs4
     go_enter Tryd.func47,Tryd.ntmps47
     go_wp2_with fail
     refine HRW.out.mono ?_
     rintro e w1 ⟨rfl,T1⟩
     have HT1:=hide T1
     clear T1
     go_wp2_with fail
     refine (HRF.out w1 HT1.out).mono ?_
     rintro e w2 ⟨rfl,T2⟩
     have HT2:=hide (HT1.out.then T2)
     clear T2
     go_wp2_with fail
     go_ret3
     exact ⟨⟨sA,sn,sc,sL⟩,rfl,HS.out.quiet HT2.out,HT2.out⟩
    ·have hE:setE sL k.toList n=0:=by
      unfold setE
      rw [if_neg hvn,if_neg hno,if_neg]
      rintro ⟨h1,h2⟩
      rw [← HXT.out] at h1
      exact hful ⟨h1,by omega⟩
     have hH:setH sL k n=x:=by unfold setH;rw [hE,if_pos rfl,← HXT.out]
     have hLl:setL sL k n=putF ⟨k,n⟩ false sL:=by unfold setL;rw [hE,if_pos rfl]
     rw [hE,hH,hLl]
     have hcase:t=true∨(t=false∧¬ (4096:Int)≤(sn:Int)):=by
      cases t with
      | true=>exact .inl rfl
      | false=>exact .inr ⟨rfl,fun h=>hful ⟨rfl,by omega⟩⟩
     simp only [PRow.val] at HPU
     clear hE hH hLl hvn hno hful
     rcases hcase with rfl | ⟨rfl,b1⟩
     all_goals
      go_enter Tryd.func47,Tryd.ntmps47
      go_wp2_with fail
      refine HRW.out.mono ?_
      rintro e w1 ⟨rfl,T1⟩
      have HT1:=hide T1
      clear T1
      go_wp2_with fail
      refine (HRF.out w1 HT1.out).mono ?_
      rintro e w2 ⟨rfl,T2⟩
      have HT2:=hide (HT1.out.then T2)
      clear T2
      go_wp2_with fail
      refine (HPU.out w2 HT2.out).mono ?_
      rintro e w3 ⟨A3,q3,c3,rfl,N3,_⟩
      have HN3:=hide N3
      have HT3:=hide (HT2.out.then N3.touch)
      clear N3
      go_wp2_with fail
      go_ret3
      exact ⟨⟨A3,q3,c3,putF ⟨k,n⟩ false sL⟩,rfl,RfL.own HN3.out.own,HT3.out⟩
theorem dropP_snoc (w:List UInt8) (O:List PRow) (p:PRow):dropP w (O++[p])=if p.word.toList=w then dropP w O else dropP w O++[p]:=by
 unfold dropP
 rw [List.filter_append]
 split
 ·rename_i h;simp [h]
 ·rename_i h;simp [h]
set_option maxRecDepth 100000 in
set_option maxHeartbeats 4000000 in
theorem rremove_any (w:World) (B0:Nat) (s:SL) {L:List PRow} (hs:RfL B0 w s L) (hD:DictP L) (k:ByteArray) (hk:k.size≤1099511627776) :
  Calls Tryd.prog 46 #[s.val,.string k] w fun e w'=>∃ s':SL,e=.returned (.tuple #[s'.val,.int .i64 (remH L k),.int .i64 (remE L k.toList)])∧RfL B0 w' s' (remL L k)∧Touch (fun _=>False) w w':=by
 have HRW:=hide (rword_any w k (by omega))
 have hdl:=hD.len
 have hsl:=hs.ok.len
 have heq:=hs.eq
 obtain ⟨sA,sn,sc,sL⟩:=s
 simp only at heq hsl
 subst heq
 have hsn:sn≤4096:=by omega
 have hsnI:(sn:Int)≤4096:=by omega
 have HRF:=hide (fun (wx:World) (T:Touch (fun _=>False) w wx)=>rfind_any wx sA sn sc sL hsl (hs.ok.reads.touch T (fun _ _ f=>f)) (by unfold maxLen;omega) k)
 have HS:=hide hs
 obtain ⟨⟨x,t⟩,hxt⟩:∃ r,r=findP k.toList sL:=⟨_,rfl⟩
 simp only [← hxt] at HRF
 have HXT:=hide hxt
 obtain ⟨v,hv⟩:∃ v,v=wordU k.toList:=⟨_,rfl⟩
 rw [← hv] at HRW
 have HV:=hide hv
 have HSL:=hide hsl
 simp only [SL.val]
 clear hs hk hxt hv hD
 cases v with
 | false =>
  have hE:remE sL k.toList=140:=by unfold remE;rw [if_pos HV.out.symm]
  obtain ⟨hH,hLl⟩:=rem_err hE (by decide)
  rw [hE,hH,hLl]
  clear hE hH hLl
  go_enter Tryd.func46,Tryd.ntmps46
  go_wp2_with fail
  refine HRW.out.mono ?_
  rintro e w1 ⟨rfl,T1⟩
  have HT1:=hide T1
  clear T1
  go_wp2_with fail
  refine (HRF.out w1 HT1.out).mono ?_
  rintro e w2 ⟨rfl,T2⟩
  have HT2:=hide (HT1.out.then T2)
  clear T2
  go_wp2_with fail
  go_ret3
  exact ⟨⟨sA,sn,sc,sL⟩,rfl,HS.out.quiet HT2.out,HT2.out⟩
 | true =>
  have hvn:¬ wordU k.toList=false:=by rw [← HV.out];decide
  cases t with
  | false =>
   have hfd:(findP k.toList sL).2=false:=by rw [← HXT.out]
   have hE:remE sL k.toList=143:=by unfold remE;rw [if_neg hvn,if_pos hfd]
   obtain ⟨hH,hLl⟩:=rem_err hE (by decide)
   rw [hE,hH,hLl]
   clear hE hH hLl hvn hfd
   go_enter Tryd.func46,Tryd.ntmps46
   go_wp2_with fail
   refine HRW.out.mono ?_
   rintro e w1 ⟨rfl,T1⟩
   have HT1:=hide T1
   clear T1
   go_wp2_with fail
   refine (HRF.out w1 HT1.out).mono ?_
   rintro e w2 ⟨rfl,T2⟩
   have HT2:=hide (HT1.out.then T2)
   clear T2
   go_wp2_with fail
   go_ret3
   exact ⟨⟨sA,sn,sc,sL⟩,rfl,HS.out.quiet HT2.out,HT2.out⟩
  | true =>
   have hfd:(findP k.toList sL).2=true:=by rw [← HXT.out]
   have hE:remE sL k.toList=0:=by unfold remE;rw [if_neg hvn,if_neg (by rw [hfd];decide)]
   have hH:remH sL k=x:=by unfold remH;rw [hE,if_pos rfl,← HXT.out]
   have hLl:remL sL k=dropP k.toList sL:=by unfold remL;rw [hE,if_pos rfl]
   rw [hE,hH,hLl]
   obtain ⟨i0,hi,hz0,hz1,hz2⟩:=info_parts infoPair
   clear hE hH hLl hvn hfd
   go_enter Tryd.func46,Tryd.ntmps46
   go_wp2_with fail
   refine HRW.out.mono ?_
   rintro e w1 ⟨rfl,T1⟩
   have HT1:=hide T1
   clear T1
   go_wp2_with fail
   refine (HRF.out w1 HT1.out).mono ?_
   rintro e w2 ⟨rfl,T2⟩
   have HT2:=hide (HT1.out.then T2)
   clear T2
   go_wp2_with fail
   go_loopw [10,11] (fun ov iv wr=>∃ (i q:Nat) (A5:Option Addr) (c5:Nat),iv=.int .i64 i∧ov=.slice A5 q c5∧i≤sn∧q≤i∧Hid (PNx w2 wr (.slice A5 q c5) q (dropP k.toList (sL.take i)))) (fun _ iv _=>sn-(intOf iv).toNat)
   case atStart=>exact ⟨0,0,none,0,rfl,rfl,Nat.zero_le _,Nat.le_refl _,hide ⟨World.ownsRow_nil _ _ _ _,rfl,Touch.refl _ _,fun g e=>by simp [Value.ownBlock] at e⟩⟩
   case round =>
    obtain ⟨i,q,A5,c5,rfl,rfl,hin',hqi,HP⟩:=hrel
    by_cases hin:i<sn
    ·have y0:(i:Int)<(sn:Int):=by omega
     have y1:(0:Int)≤(i:Int):=by omega
     have y2:IntKind.i64.wrap ((i:Int)+1)=(i:Int)+1:=IntWalk.i64_in _ (by omega)
     have hrr:=HS.out.ok.reads.touch (HT2.out.then HP.out.touch) (fun _ _ f=>f)
     simp only at hrr
     obtain ⟨gl,ol,hAl,hgl,l0,l1⟩:=preads_at hrr HSL.out.symm i hin
     subst hAl
     have hsn2:=psnoc sL i (by rw [HSL.out];exact hin)
     obtain ⟨⟨xw,xn⟩,hx⟩:∃ x,x=sL.getD i PRow.zero:=⟨_,rfl⟩
     rw [← hx] at l0 l1 hsn2
     simp only at l0 l1
     have hds:=dropP_snoc k.toList (sL.take i) ⟨xw,xn⟩
     rw [← hsn2] at hds
     have HDS:=hide hds
     have HIN:=hide hin
     clear hrr hx hsn2 hds
     by_cases q1:xw.toList=k.toList
     ·have q2:(xw.toList == k.toList)=true:=by simp [q1]
      have q3:xw=k:=toList_inj q1
      have HQ1:=hide q1
      subst q3
      clear hin
      go_wp2_with fail
      go_roundw
      ·exact ⟨i+1,q,A5,c5,by simp,rfl,by have:=HIN.out;omega,by omega,hide (by rw [HDS.out,if_pos HQ1.out];exact HP.out)⟩
      ·show sn-(intOf (.int .i64 ((i:Int)+1))).toNat<sn-(intOf (.int .i64 (i:Int))).toNat
       have:=HIN.out
       simp [intOf]
       omega
     ·have q2:(xw.toList == k.toList)=false:=by simp [q1]
      have q4:¬ xw=k:=fun e=>q1 (by rw [e])
      have HQ1:=hide q1
      obtain ⟨A5',c5',e5,_,hm5⟩:=own_len HP.out.own
      injection e5 with e51 e52 e53
      subst e51 e53
      clear hin e52
      go_wp2_with (at_builtin;refine wpList_app _ rfl (.tmp 39) (.tmp 44) 30 rfl 56 i0 _ 2 24 Tryd.underlying30 hi hz0 hz1 hz2 rfl (by decide) (.slice A5 q c5) q _ rfl (own_touch HP.out.own ((Touch.refl _ _).alloc _) (fun _ _ f=>f)) (some ⟨_,0,none⟩) 1 1 (PRow.cells ⟨xw,xn⟩) rfl ?s1a ?s1b ?s1c ?s1d ?s1e ?_)
      case s1a=>exact Reads.new _ _ _ _ rfl
      try (case s1b=>exact fun h=>by cases h)
      case s1c=>exact List.all_eq_true.1 rfl
      case s1d=>unfold maxLen;omega
      case s1e=>omega
      intro v3 w3 hown hgrow hfr _
      obtain ⟨A6,c6,hv6,_,_⟩:=own_len hown
      subst hv6
      have HN3:=hide ((HP.out.to ((Touch.refl _ _).alloc _)).app hown hgrow hfr)
      clear hown hgrow hfr
      go_wp2_with fail
      go_roundw
      ·exact ⟨i+1,q+1,A6,c6,by simp,rfl,by have:=HIN.out;omega,by omega,hide (by rw [HDS.out,if_neg HQ1.out];exact HN3.out)⟩
      ·show sn-(intOf (.int .i64 ((i:Int)+1))).toNat<sn-(intOf (.int .i64 (i:Int))).toNat
       have:=HIN.out
       simp [intOf]
       omega
    ·have y0:¬ (i:Int)<(sn:Int):=by omega
     have hie:sL.take i=sL:=List.take_of_length_le (by rw [HSL.out];omega)
     have HIE:=hide hie
     clear hie hin
     go_wp2_with fail
     go_ret3
     have hp:=HP.out
     rw [HIE.out] at hp
     exact ⟨⟨A5,q,c5,dropP k.toList sL⟩,rfl,RfL.own hp.own,HT2.out.then hp.touch⟩
end Go.Proofs.YthockgmbooefpaaDoor
namespace Go.Proofs.YthockgmbooefpaaDoor
open Go.RowKit
def MRow.val (r:MRow):Value:=.agg #[.string r.word,.int .i64 r.weight,.int .i64 r.dist]
end Go.Proofs.YthockgmbooefpaaDoor
