/- What the law rests on, part 33. No condition but those that each theorem names. -/
import Derived.Test.YthockgmbooefpaaGreatDoorT32
set_option linter.unusedSectionVars false
set_option linter.unusedSimpArgs false
set_option linter.unusedVariables false
set_option maxRecDepth 100000
set_option maxHeartbeats 1000000
namespace Go.Proofs.YthockgmbooefpaaGreatDoor
open Go.RowKit
theorem upF_succ (f:Nat) (X:List MRow) (j:Nat):upF (f+1) X j=if j=0 then X else if better (X.getD ((j-1) / 2) MRow.zero) (X.getD j MRow.zero)=true then upF f (swp X ((j-1) / 2) j) ((j-1) / 2) else X:=rfl
theorem downF_succ (f:Nat) (X:List MRow) (i n:Nat):downF (f+1) X i n=if n≤2*i+1 then X else if better (X.getD i MRow.zero) (X.getD (kid X i n) MRow.zero)=true then downF f (swp X i (kid X i n)) (kid X i n) n else X:=rfl
theorem ad_own {A:Option Addr} {n c g:Nat}:adBlock A=some g↔(Value.slice A n c).ownBlock=some g:=by
 cases A<;>simp [adBlock,Value.ownBlock]
theorem up_any (w:World) (p:Nat) (most:Int) (v:Value) (X:List MRow) (h:Pil w p most v X) (hX:X.length≤65) (j:Nat) (hj:j<X.length) :
  Calls Tryz.prog 182 #[pth p,.int .i64 j] w fun e w'=>e=.returned (.tuple #[])∧Pil w' p most v (upF X.length X j)∧Touch (pfp p v) w w':=by
 unfold pth
 go_enter Tryz.func182,Tryz.ntmps182
 go_wp2
 go_loopw [1] (fun i wr=>∃ (k:Nat) (Y:List MRow),k<Y.length∧Y.length=X.length∧i=.int .i64 k∧Hid (∃ f,k≤f∧upF f Y k=upF X.length X j)∧Hid (Pil wr p most v Y∧Touch (pfp p v) w wr)) (fun i _=>(intOf i).toNat)
 case atStart=>exact ⟨j,X,hj,rfl,rfl,hide ⟨X.length,by omega,rfl⟩,hide ⟨h,Touch.refl _ _⟩⟩
 case round =>
  obtain ⟨k,Y,hk,hY,rfl,HU,HP⟩:=hrel
  have c1:=HP.out.1.blk.cell 1
  simp at c1
  by_cases h0:k=0
  ·subst h0
   have q0:Int.tdiv (((0:Nat):Int)-1) 2=0:=by decide
   go_wp2
   go_end0
   obtain ⟨f,_,hf⟩:=HU.out
   have e:upF f Y 0=Y:=by cases f<;>simp [upF]
   rw [← hf,e]
   exact ⟨rfl,HP.out⟩
  ·obtain ⟨m,hm⟩:∃ m,m=(k-1) / 2:=⟨_,rfl⟩
   have q0:Int.tdiv ((k:Int)-1) 2=(m:Int):=by rw [Int.tdiv_eq_ediv_of_nonneg (by omega)];omega
   have q1:((m:Int) == (k:Int))=false:=by simp;omega
   have HM:=hide hm
   have hmk:m<k:=by omega
   clear hm
   have ml:(method 422 266 (.pointer (some ⟨p,1,none⟩)) "Less").run Tryz.prog wr=.ok (219,v) wr:=meth_less 421 _ wr v c1
   obtain ⟨A,c,rfl,_,hc⟩:=own_len (hY ▸ HP.out.1.own)
   have O1:Hid (wr.ownsRow 0 43 3 (.slice A X.length c) X.length (mCells Y)):=hide (hY ▸ HP.out.1.own)
   have hkX:k<X.length:=by omega
   cases hb:better (Y.getD m MRow.zero) (Y.getD k MRow.zero) with
   | false =>
    have HB:=hide hb
    clear hb
    go_wp2_with (go_at_call 219;refine (pless_any wr A X.length c Y hY.symm (Reads.of_own O1.out) (own_le O1.out) k m hkX (Nat.lt_trans hmk hkX)).mono ?_;rintro e w2 ⟨rfl,hc2⟩;have C2:=hide hc2;clear hc2;rw [HB.out])
    go_end0
    obtain ⟨f,hkf,hf⟩:=HU.out
    have e:upF f Y k=Y:=by
     cases f with
     | zero=>omega
     | succ f=>unfold upF;rw [if_neg h0,← HM.out,HB.out];simp
    rw [← hf,e]
    exact ⟨rfl,HP.out.1.quiet C2.out,HP.out.2.then (C2.out.up _)⟩
   | true =>
    have HB:=hide hb
    clear hb
    go_wp2_with (first
     | (go_at_call 219;refine (pless_any wr A X.length c Y hY.symm (Reads.of_own O1.out) (own_le O1.out) k m hkX (Nat.lt_trans hmk hkX)).mono ?_;rintro e w2 ⟨rfl,hc2⟩;have C2:=hide hc2;have P2:=hide (HP.out.1.quiet hc2);have c2:=P2.out.blk.cell 1;simp at c2;have ms:(method 422 266 (.pointer (some ⟨p,1,none⟩)) "Swap").run Tryz.prog w2=.ok (220,.slice A X.length c) w2:=meth_swap 421 _ w2 _ c2;clear hc2;rw [HB.out])
     | (go_at_call 220;refine (pswap_any w2 A X.length c Y hY.symm (hY ▸ P2.out.own) m k (Nat.lt_trans hmk hkX) hkX).mono ?_;rintro e w3 ⟨rfl,ho3,hc3⟩;have C3:=hide hc3;have O3:=hide ho3;clear hc3 ho3))
    go_roundw
    ·refine ⟨m,swp Y m k,by rw [swp_len];exact Nat.lt_trans hmk hk,by rw [swp_len];exact hY,rfl,hide ?_,hide ⟨⟨P2.out.blk.touch C3.out (fun e=>?_),?_⟩,(HP.out.2.then (C2.out.up _)).then (C3.out.mono (fun g _ hg=>.inr ?_))⟩⟩
     ·obtain ⟨f,hkf,hf⟩:=HU.out
      cases f with
      | zero=>omega
      | succ f =>
       refine ⟨f,by omega,?_⟩
       rw [upF_succ] at hf
       rw [if_neg h0,← HM.out,if_pos HB.out] at hf
       exact hf
     ·exact own_blk_ne O1.out HP.out.1.blk (by decide) (ad_own.1 e)
     ·rw [swp_len,hY]
      exact O3.out
     ·exact ad_own.1 hg
    ·show (intOf (.int .i64 (m:Int))).toNat<(intOf (.int .i64 (k:Int))).toNat
     simp [intOf]
     exact hmk
theorem down_any (w:World) (p:Nat) (most:Int) (v:Value) (X:List MRow) (h:Pil w p most v X) (hX:X.length≤65) (n:Nat) (hn:n≤X.length) :
  Calls Tryz.prog 181 #[pth p,.int .i64 0,.int .i64 n] w fun e w'=>(∃ b,e=.returned (.bool b))∧Pil w' p most v (downF X.length X 0 n)∧Touch (pfp p v) w w':=by
 unfold pth
 go_enter Tryz.func181,Tryz.ntmps181
 go_wp2
 go_loopw [7] (fun i wr=>∃ (k:Nat) (Y:List MRow),k≤65∧Y.length=X.length∧i=.int .i64 k∧Hid (∃ f,n≤f+k∧downF f Y k n=downF X.length X 0 n)∧Hid (Pil wr p most v Y∧Touch (pfp p v) w wr)) (fun i _=>65-(intOf i).toNat)
 case atStart=>exact ⟨0,X,Nat.zero_le _,rfl,rfl,hide ⟨X.length,by omega,rfl⟩,hide ⟨h,Touch.refl _ _⟩⟩
 case round =>
  obtain ⟨k,Y,hk,hY,rfl,HU,HP⟩:=hrel
  have c1:=HP.out.1.blk.cell 1
  simp at c1
  obtain ⟨m,hm⟩:∃ m,m=2*k+1:=⟨_,rfl⟩
  have q0:(2:Int)*(k:Int)+1=(m:Int):=by omega
  have q1:(m:Int)≤200:=by omega
  by_cases h0:n≤m
  ·have HM:=hide hm
   clear hm
   have q2:decide ((n:Int)≤(m:Int))=true:=by simp;omega
   go_wp2
   go_ret
   obtain ⟨f,hkf,hf⟩:=HU.out
   have e:downF f Y k n=Y:=by
    cases f with
    | zero=>rfl
    | succ f=>rw [downF_succ,if_pos (by rw [← HM.out];exact h0)]
   rw [← hf,e]
   exact ⟨⟨_,rfl⟩,HP.out⟩
  ·have q2:decide ((n:Int)≤(m:Int))=false:=by simp;omega
   have hmX:m<X.length:=by omega
   have hkX:k<X.length:=by omega
   have hk65:k<65:=by omega
   have hmk:k<m:=by omega
   have hm65:m≤65:=by omega
   have HM:=hide hm
   clear hm
   have q3:decide ((m:Int)<0)=false:=by simp
   obtain ⟨A,c,rfl,_,hc⟩:=own_len (hY ▸ HP.out.1.own)
   have O1:Hid (wr.ownsRow 0 43 3 (.slice A X.length c) X.length (mCells Y)):=hide (hY ▸ HP.out.1.own)
   have P0:=hide HP.out.1
   have ml0:(method 422 266 (.pointer (some ⟨p,1,none⟩)) "Less").run Tryz.prog wr=.ok (219,.slice A X.length c) wr:=meth_less 421 _ wr _ c1
   obtain ⟨m2,hm2⟩:∃ m2,m2=m+1:=⟨_,rfl⟩
   have r0:(m:Int)+1=(m2:Int):=by omega
   have hmm:m<m2:=by omega
   have HM2:=hide hm2
   clear hm2
   by_cases h2:m2<n
   ·have q4:decide ((m2:Int)<(n:Int))=true:=by simp;omega
    have hm2X:m2<X.length:=by omega
    cases hb:better (Y.getD m MRow.zero) (Y.getD m2 MRow.zero) with
    | true =>
     have KD:Hid (kid Y k n=m2):=hide (by unfold kid;rw [show 2*k+2=m2 by rw [HM2.out,HM.out],← HM.out,if_pos ⟨h2,hb⟩])
     have B0:=hide hb
     clear hb
     go_wp2_with fail
     refine (pless_any wr A X.length c Y hY.symm (Reads.of_own (hY ▸ P0.out.own)) (own_le O1.out) m2 m hm2X hmX).mono ?_
     rintro e w1 ⟨rfl,hc⟩
     have C0:=hide hc
     have P1:=hide (P0.out.quiet hc)
     have c1:=P1.out.blk.cell 1
     simp at c1
     have ml1:(method 422 266 (.pointer (some ⟨p,1,none⟩)) "Less").run Tryz.prog w1=.ok (219,.slice A X.length c) w1:=meth_less 421 _ w1 _ c1
     have ms1:(method 422 266 (.pointer (some ⟨p,1,none⟩)) "Swap").run Tryz.prog w1=.ok (220,.slice A X.length c) w1:=meth_swap 421 _ w1 _ c1
     clear hc
     rw [B0.out]
     cases hd:better (Y.getD k MRow.zero) (Y.getD m2 MRow.zero) with
     | false =>
      have BD:=hide hd
      clear hd
      go_wp2_with fail
      refine (pless_any w1 A X.length c Y hY.symm (Reads.of_own (hY ▸ P1.out.own)) (own_le O1.out) m2 k hm2X hkX).mono ?_
      rintro e wd ⟨rfl,hc⟩
      have C1:=hide hc
      have P2:=hide (P1.out.quiet hc)
      have c2:=P2.out.blk.cell 1
      simp at c2
      have ml2:(method 422 266 (.pointer (some ⟨p,1,none⟩)) "Less").run Tryz.prog wd=.ok (219,.slice A X.length c) wd:=meth_less 421 _ wd _ c2
      have ms2:(method 422 266 (.pointer (some ⟨p,1,none⟩)) "Swap").run Tryz.prog wd=.ok (220,.slice A X.length c) wd:=meth_swap 421 _ wd _ c2
      clear hc
      rw [BD.out]
      go_wp2
      go_ret
      obtain ⟨f,hkf,hf⟩:=HU.out
      have e:downF f Y k n=Y:=by
       cases f with
       | zero=>omega
       | succ f=>rw [downF_succ,if_neg (by rw [← HM.out];omega),KD.out,BD.out];simp
      rw [← hf,e]
      exact ⟨⟨_,rfl⟩,P2.out,((HP.out.2.then (C0.out.up _)).then (C1.out.up _))⟩
     | true =>
      have BD:=hide hd
      clear hd
      go_wp2_with fail
      refine (pless_any w1 A X.length c Y hY.symm (Reads.of_own (hY ▸ P1.out.own)) (own_le O1.out) m2 k hm2X hkX).mono ?_
      rintro e wd ⟨rfl,hc⟩
      have C1:=hide hc
      have P2:=hide (P1.out.quiet hc)
      have c2:=P2.out.blk.cell 1
      simp at c2
      have ml2:(method 422 266 (.pointer (some ⟨p,1,none⟩)) "Less").run Tryz.prog wd=.ok (219,.slice A X.length c) wd:=meth_less 421 _ wd _ c2
      have ms2:(method 422 266 (.pointer (some ⟨p,1,none⟩)) "Swap").run Tryz.prog wd=.ok (220,.slice A X.length c) wd:=meth_swap 421 _ wd _ c2
      clear hc
      rw [BD.out]
      go_wp2_with (go_at_call 220;refine (pswap_any wd A X.length c Y hY.symm (hY ▸ P2.out.own) k m2 hkX hm2X).mono ?_;rintro e w3 ⟨rfl,ho3,hc3⟩;have C9:=hide hc3;have O3:=hide ho3;clear hc3 ho3)
      go_roundw
      ·refine ⟨m2,swp Y k m2,by omega,by rw [swp_len];exact hY,by simp,hide ?_,hide ⟨⟨P2.out.blk.touch C9.out (fun e=>?_),?_⟩,((HP.out.2.then (C0.out.up _)).then (C1.out.up _)).then (C9.out.mono (fun g _ hg=>.inr ?_))⟩⟩
       ·obtain ⟨f,hkf,hf⟩:=HU.out
        cases f with
        | zero=>omega
        | succ f =>
         refine ⟨f,by omega,?_⟩
         rw [downF_succ,if_neg (by rw [← HM.out];omega),KD.out,if_pos BD.out] at hf
         exact hf
       ·exact own_blk_ne O1.out HP.out.1.blk (by decide) (ad_own.1 e)
       ·rw [swp_len,hY]
        exact O3.out
       ·exact ad_own.1 hg
      ·show 65-(intOf (.int .i64 (m2:Int))).toNat<65-(intOf (.int .i64 (k:Int))).toNat
       simp [intOf]
       omega
    | false =>
     have KD:Hid (kid Y k n=m):=hide (by unfold kid;rw [show 2*k+2=m2 by rw [HM2.out,HM.out],← HM.out,if_neg (by rw [hb];simp)])
     have B0:=hide hb
     clear hb
     go_wp2_with fail
     refine (pless_any wr A X.length c Y hY.symm (Reads.of_own (hY ▸ P0.out.own)) (own_le O1.out) m2 m hm2X hmX).mono ?_
     rintro e w1 ⟨rfl,hc⟩
     have C0:=hide hc
     have P1:=hide (P0.out.quiet hc)
     have c1:=P1.out.blk.cell 1
     simp at c1
     have ml1:(method 422 266 (.pointer (some ⟨p,1,none⟩)) "Less").run Tryz.prog w1=.ok (219,.slice A X.length c) w1:=meth_less 421 _ w1 _ c1
     have ms1:(method 422 266 (.pointer (some ⟨p,1,none⟩)) "Swap").run Tryz.prog w1=.ok (220,.slice A X.length c) w1:=meth_swap 421 _ w1 _ c1
     clear hc
     rw [B0.out]
     cases hd:better (Y.getD k MRow.zero) (Y.getD m MRow.zero) with
     | false =>
      have BD:=hide hd
      clear hd
      go_wp2_with fail
      refine (pless_any w1 A X.length c Y hY.symm (Reads.of_own (hY ▸ P1.out.own)) (own_le O1.out) m k hmX hkX).mono ?_
      rintro e wd ⟨rfl,hc⟩
      have C1:=hide hc
      have P2:=hide (P1.out.quiet hc)
      have c2:=P2.out.blk.cell 1
      simp at c2
      have ml2:(method 422 266 (.pointer (some ⟨p,1,none⟩)) "Less").run Tryz.prog wd=.ok (219,.slice A X.length c) wd:=meth_less 421 _ wd _ c2
      have ms2:(method 422 266 (.pointer (some ⟨p,1,none⟩)) "Swap").run Tryz.prog wd=.ok (220,.slice A X.length c) wd:=meth_swap 421 _ wd _ c2
      clear hc
      rw [BD.out]
      go_wp2
      go_ret
      obtain ⟨f,hkf,hf⟩:=HU.out
      have e:downF f Y k n=Y:=by
       cases f with
       | zero=>omega
       | succ f=>rw [downF_succ,if_neg (by rw [← HM.out];omega),KD.out,BD.out];simp
      rw [← hf,e]
      exact ⟨⟨_,rfl⟩,P2.out,((HP.out.2.then (C0.out.up _)).then (C1.out.up _))⟩
     | true =>
      have BD:=hide hd
      clear hd
      go_wp2_with fail
      refine (pless_any w1 A X.length c Y hY.symm (Reads.of_own (hY ▸ P1.out.own)) (own_le O1.out) m k hmX hkX).mono ?_
      rintro e wd ⟨rfl,hc⟩
      have C1:=hide hc
      have P2:=hide (P1.out.quiet hc)
      have c2:=P2.out.blk.cell 1
      simp at c2
      have ml2:(method 422 266 (.pointer (some ⟨p,1,none⟩)) "Less").run Tryz.prog wd=.ok (219,.slice A X.length c) wd:=meth_less 421 _ wd _ c2
      have ms2:(method 422 266 (.pointer (some ⟨p,1,none⟩)) "Swap").run Tryz.prog wd=.ok (220,.slice A X.length c) wd:=meth_swap 421 _ wd _ c2
      clear hc
      rw [BD.out]
      go_wp2_with (go_at_call 220;refine (pswap_any wd A X.length c Y hY.symm (hY ▸ P2.out.own) k m hkX hmX).mono ?_;rintro e w3 ⟨rfl,ho3,hc3⟩;have C9:=hide hc3;have O3:=hide ho3;clear hc3 ho3)
      go_roundw
      ·refine ⟨m,swp Y k m,by omega,by rw [swp_len];exact hY,by simp,hide ?_,hide ⟨⟨P2.out.blk.touch C9.out (fun e=>?_),?_⟩,((HP.out.2.then (C0.out.up _)).then (C1.out.up _)).then (C9.out.mono (fun g _ hg=>.inr ?_))⟩⟩
       ·obtain ⟨f,hkf,hf⟩:=HU.out
        cases f with
        | zero=>omega
        | succ f =>
         refine ⟨f,by omega,?_⟩
         rw [downF_succ,if_neg (by rw [← HM.out];omega),KD.out,if_pos BD.out] at hf
         exact hf
       ·exact own_blk_ne O1.out HP.out.1.blk (by decide) (ad_own.1 e)
       ·rw [swp_len,hY]
        exact O3.out
       ·exact ad_own.1 hg
      ·show 65-(intOf (.int .i64 (m:Int))).toNat<65-(intOf (.int .i64 (k:Int))).toNat
       simp [intOf]
       omega
   ·have q4:decide ((m2:Int)<(n:Int))=false:=by simp;omega
    have KD:Hid (kid Y k n=m):=hide (by unfold kid;rw [show 2*k+2=m2 by rw [HM2.out,HM.out],← HM.out,if_neg (fun h=>h2 h.1)])
    cases hd:better (Y.getD k MRow.zero) (Y.getD m MRow.zero) with
    | false =>
     have BD:=hide hd
     clear hd
     go_wp2_with fail
     refine (pless_any wr A X.length c Y hY.symm (Reads.of_own (hY ▸ P0.out.own)) (own_le O1.out) m k hmX hkX).mono ?_
     rintro e wd ⟨rfl,hc⟩
     have C0:=hide hc
     have P1:=hide (P0.out.quiet hc)
     have c1:=P1.out.blk.cell 1
     simp at c1
     have ml1:(method 422 266 (.pointer (some ⟨p,1,none⟩)) "Less").run Tryz.prog wd=.ok (219,.slice A X.length c) wd:=meth_less 421 _ wd _ c1
     have ms1:(method 422 266 (.pointer (some ⟨p,1,none⟩)) "Swap").run Tryz.prog wd=.ok (220,.slice A X.length c) wd:=meth_swap 421 _ wd _ c1
     clear hc
     rw [BD.out]
     go_wp2
     go_ret
     obtain ⟨f,hkf,hf⟩:=HU.out
     have e:downF f Y k n=Y:=by
      cases f with
      | zero=>omega
      | succ f=>rw [downF_succ,if_neg (by rw [← HM.out];omega),KD.out,BD.out];simp
     rw [← hf,e]
     exact ⟨⟨_,rfl⟩,P1.out,(HP.out.2.then (C0.out.up _))⟩
    | true =>
     have BD:=hide hd
     clear hd
     go_wp2_with fail
     refine (pless_any wr A X.length c Y hY.symm (Reads.of_own (hY ▸ P0.out.own)) (own_le O1.out) m k hmX hkX).mono ?_
     rintro e wd ⟨rfl,hc⟩
     have C0:=hide hc
     have P1:=hide (P0.out.quiet hc)
     have c1:=P1.out.blk.cell 1
     simp at c1
     have ml1:(method 422 266 (.pointer (some ⟨p,1,none⟩)) "Less").run Tryz.prog wd=.ok (219,.slice A X.length c) wd:=meth_less 421 _ wd _ c1
     have ms1:(method 422 266 (.pointer (some ⟨p,1,none⟩)) "Swap").run Tryz.prog wd=.ok (220,.slice A X.length c) wd:=meth_swap 421 _ wd _ c1
     clear hc
     rw [BD.out]
     go_wp2_with (go_at_call 220;refine (pswap_any wd A X.length c Y hY.symm (hY ▸ P1.out.own) k m hkX hmX).mono ?_;rintro e w3 ⟨rfl,ho3,hc3⟩;have C9:=hide hc3;have O3:=hide ho3;clear hc3 ho3)
     go_roundw
     ·refine ⟨m,swp Y k m,by omega,by rw [swp_len];exact hY,by simp,hide ?_,hide ⟨⟨P1.out.blk.touch C9.out (fun e=>?_),?_⟩,(HP.out.2.then (C0.out.up _)).then (C9.out.mono (fun g _ hg=>.inr ?_))⟩⟩
      ·obtain ⟨f,hkf,hf⟩:=HU.out
       cases f with
       | zero=>omega
       | succ f =>
        refine ⟨f,by omega,?_⟩
        rw [downF_succ,if_neg (by rw [← HM.out];omega),KD.out,if_pos BD.out] at hf
        exact hf
      ·exact own_blk_ne O1.out HP.out.1.blk (by decide) (ad_own.1 e)
      ·rw [swp_len,hY]
       exact O3.out
      ·exact ad_own.1 hg
     ·show 65-(intOf (.int .i64 (m:Int))).toNat<65-(intOf (.int .i64 (k:Int))).toNat
      simp [intOf]
      omega
theorem pfp_fresh {w:World} {p:Nat} {v v1:Value} (hf:Fresh w v v1):∀ i,i<w.heap.size→pfp p v1 i→pfp p v i:=by
 rintro i hi (rfl | h)
 ·exact .inl rfl
 ·rcases hf with e | ⟨g,e,hg⟩
  ·exact .inr (by rw [← e];exact h)
  ·rw [e] at h
   injection h with h
   omega
def pushF (X:List MRow) (m:MRow):List MRow:=upF (X++[m]).length (X++[m]) X.length
def popF (X:List MRow) (n:Nat):List MRow:=(downF X.length (swp X 0 n) 0 n).take n
theorem pushF_spec (X:List MRow) (m:MRow) (h:Heap X X.length):(pushF X m).Perm (X++[m])∧Heap (pushF X m) (pushF X m).length∧(pushF X m).length=X.length+1:=by
 unfold pushF
 have hl:(X++[m]).length=X.length+1:=by simp
 have key:=upF_spec (X++[m]).length (X++[m]) X.length (by omega) (by omega) ?_ ?_
 ·refine ⟨key.1,?_,?_⟩
  ·rw [key.2.2];exact key.2.1
  ·rw [key.2.2];exact hl
 ·intro c h0 hc hne
  have hc':c<X.length:=by omega
  have e:∀ i,i<X.length→(X++[m]).getD i MRow.zero=X.getD i MRow.zero:=fun i hi=>by
   simp [List.getD,List.getElem?_append_left hi]
  rw [e _ (by omega),e _ hc']
  exact h c h0 hc'
 ·intro h0 c hc0 hc hp
  omega
theorem down_last (f:Nat) (X:List MRow) (n:Nat) (hn:n<X.length):(downF f X 0 n).getD n MRow.zero=X.getD n MRow.zero:=by
 have:∀ (f:Nat) (X:List MRow) (i:Nat),n<X.length→i≤n→(downF f X i n).getD n MRow.zero=X.getD n MRow.zero:=by
  intro f
  induction f with
  | zero=>intro X i _ _;rfl
  | succ f ih =>
   intro X i hX hi
   rw [downF_succ]
   split
   ·rfl
   ·rename_i h1
    have hk:kid X i n<n:=by
     unfold kid;split
     ·rename_i h;exact h.1
     ·omega
    split
    ·rw [ih _ _ (by rw [swp_len];exact hX) (by omega),swp_get X i _ n (by omega) (by omega),if_neg (by omega),if_neg (by omega)]
    ·rfl
 exact this f X 0 hn (by omega)
theorem downF_len (f:Nat):∀ (X:List MRow) (i n:Nat),(downF f X i n).length=X.length:=by
 induction f with
 | zero=>intro X i n;rfl
 | succ f ih =>
  intro X i n
  rw [downF_succ]
  split
  ·rfl
  ·split
   ·rw [ih,swp_len]
   ·rfl
theorem popF_spec (X:List MRow) (n:Nat) (hX:X.length=n+1) (h:Heap X X.length):(popF X n).length=n∧Heap (popF X n) (popF X n).length∧(X.getD 0 MRow.zero :: popF X n).Perm X:=by
 have hl:(popF X n).length=n:=by unfold popF;rw [List.length_take,downF_len,swp_len];omega
 have hlast:(downF X.length (swp X 0 n) 0 n).getD n MRow.zero=X.getD 0 MRow.zero:=by
  rw [down_last _ _ _ (by rw [swp_len];omega),swp_get X 0 n n (by omega) (by omega)]
  split
  ·rename_i e;rw [e]
  ·simp
 have hD:(downF X.length (swp X 0 n) 0 n).Perm X∧(0<n→Heap (downF X.length (swp X 0 n) 0 n) n):=by
  by_cases h0:0<n
  ·have key:=downF_spec X.length (swp X 0 n) 0 n h0 (by rw [swp_len];omega) (by omega) ?_ ?_
   ·exact ⟨key.1.trans (swp_perm X 0 n (by omega) (by omega)),fun _=>key.2.1⟩
   ·intro c hc0 hc hp
    rw [swp_get X 0 n _ (by omega) (by omega),swp_get X 0 n _ (by omega) (by omega),if_neg hp,if_neg (by omega),if_neg (by omega),if_neg (by omega)]
    exact h c hc0 (by omega)
   ·intro h;omega
  ·have:n=0:=by omega
   subst this
   have e:downF X.length (swp X 0 0) 0 0=swp X 0 0:=by
    cases X.length with
    | zero=>rfl
    | succ f=>rw [downF_succ,if_pos (by omega)]
   rw [e]
   exact ⟨swp_perm X 0 0 (by omega) (by omega),fun h=>absurd h (by omega)⟩
 refine ⟨hl,?_,?_⟩
 ·rw [hl]
  intro c hc0 hc
  have:=hD.2 (by omega) c hc0 hc
  unfold popF
  have e:∀ i,i<n→((downF X.length (swp X 0 n) 0 n).take n).getD i MRow.zero=(downF X.length (swp X 0 n) 0 n).getD i MRow.zero:=fun i hi=>by
   simp [hi]
  rw [e _ (by omega),e _ hc]
  exact this
 ·have hlen:(downF X.length (swp X 0 n) 0 n).length=n+1:=by rw [downF_len,swp_len,hX]
  have hsplit:downF X.length (swp X 0 n) 0 n=popF X n++[X.getD 0 MRow.zero]:=by
   unfold popF
   have hn:n<(downF X.length (swp X 0 n) 0 n).length:=by omega
   have e:=List.take_succ_eq_append_getElem hn
   rw [List.take_of_length_le (by omega)] at e
   have e2:(downF X.length (swp X 0 n) 0 n)[n]=X.getD 0 MRow.zero:=by
    rw [← hlast];simp [List.getD,hn]
   rw [e2] at e
   exact e
  have hp:=hD.1
  rw [hsplit] at hp
  exact (List.perm_append_comm (l₁:=[X.getD 0 MRow.zero])).trans hp
theorem hpush_any (w:World) (p:Nat) (most:Int) (v:Value) (X:List MRow) (h:Pil w p most v X) (hX:X.length≤64) (m:MRow) :
  Calls Tryz.prog 156 #[pth p,.iface 43 m.val] w fun e w' =>
   e=.returned (.tuple #[])∧∃ v',Pil w' p most v' (pushF X m)∧Touch (pfp p v) w w'∧Fresh w v v':=by
 have HP:=hide h
 obtain ⟨x,hx⟩:∃ x,x=m.val:=⟨_,rfl⟩
 rw [← hx]
 have HX:=hide hx
 clear hx h
 unfold pth
 have ml:(method 422 266 (.pointer (some ⟨p,1,none⟩)) "Push").run Tryz.prog w=.ok (222,.pointer (some ⟨p,1,none⟩)) w:=meth_push 421 _ w
 go_enter Tryz.func156,Tryz.ntmps156
 go_wp2_with fail
 rw [HX.out]
 refine (ppush_any w p most v X HP.out hX m).mono ?_
 rintro e w1 ⟨rfl,v1,P1,T1,F1⟩
 have HP1:=hide P1
 have HT1:=hide T1
 have HF1:=hide F1
 have c1:=P1.blk.cell 1
 simp at c1
 obtain ⟨A,c,hv,_,_⟩:=own_len P1.own
 have hlm:=own_le P1.own
 rw [hv] at c1
 have hl:(X++[m]).length=X.length+1:=by simp
 rw [hl] at c1 hlm
 have HV:=hide hv
 have HL:=hide hlm
 have ml:(method 422 266 (.pointer (some ⟨p,1,none⟩)) "Len").run Tryz.prog w1=.ok (218,.slice A (X.length+1) c) w1:=meth_len 421 _ w1 _ c1
 rw [← HX.out]
 clear P1 T1 F1 c1 hv hlm hl
 have q0:((X.length+1:Nat):Int)-1=(X.length:Int):=by omega
 have q1:((X.length:Int)+1)-1=(X.length:Int):=by omega
 have hX2:=hide hX
 clear hX
 have q2:(X.length:Int)≤64:=by have:=hX2.out;omega
 go_wp2_with (first
  | (go_at_call 218;refine (plen_any w1 A (X.length+1) c HL.out).mono ?_;rintro e w2 ⟨rfl,rfl⟩)
  | (go_at_call 182;refine (up_any w1 p most v1 (X++[m]) HP1.out (by have:=hX2.out;simp;omega) X.length (by simp)).mono ?_;rintro e w2 ⟨rfl,P2,T2⟩;have HP2:=hide P2;have HT2:=hide T2;clear P2 T2))
 go_end0
 exact ⟨rfl,v1,HP2.out,HT1.out.trans HT2.out (pfp_fresh HF1.out),HF1.out⟩
theorem hpop_any (w:World) (p:Nat) (most:Int) (v:Value) (X:List MRow) (n:Nat) (hX:X.length=n+1) (hn:n≤64) (h:Pil w p most v X) :
  Calls Tryz.prog 155 #[pth p] w fun e w' =>
   e=.returned (.iface 43 (X.getD 0 MRow.zero).val)∧∃ v',Pil w' p most v' (popF X n)∧Touch (pfp p v) w w'∧v'.ownBlock=v.ownBlock:=by
 have HP:=hide h
 have HX:=hide hX
 have HN:=hide hn
 have c1:=h.blk.cell 1
 simp at c1
 have ho:=h.own
 rw [hX] at ho
 obtain ⟨A,c,rfl,_,_⟩:=own_len ho
 have HO:=hide ho
 have HL:=hide (own_le ho)
 have q0:((n+1:Nat):Int)-1=(n:Int):=by omega
 have q1:((n:Int)+1)-1=(n:Int):=by omega
 have q2:(n:Int)≤64:=by omega
 clear h hX hn ho
 unfold pth
 have ml:(method 422 266 (.pointer (some ⟨p,1,none⟩)) "Len").run Tryz.prog w=.ok (218,.slice A (n+1) c) w:=meth_len 421 _ w _ c1
 have ms:(method 422 266 (.pointer (some ⟨p,1,none⟩)) "Swap").run Tryz.prog w=.ok (220,.slice A (n+1) c) w:=meth_swap 421 _ w _ c1
 go_enter Tryz.func155,Tryz.ntmps155
 go_wp2_with (first
  | (go_at_call 218;refine (plen_any w A (n+1) c HL.out).mono ?_;rintro e w2 ⟨rfl,rfl⟩)
  | (go_at_call 220;refine (pswap_any w A (n+1) c X HX.out.symm HO.out 0 n (Nat.succ_pos _) (Nat.lt_succ_self _)).mono ?_;rintro e w1 ⟨rfl,O1,T1⟩;have HO1:=hide O1;have HT1:=hide T1;clear O1 T1)
  | (go_at_call 181;refine (down_any w1 p most (.slice A (n+1) c) (swp X 0 n) ⟨HP.out.blk.touch HT1.out (fun e=>own_blk_ne HO.out HP.out.blk (by decide) (ad_own.1 e)),by rw [swp_len,HX.out];exact HO1.out⟩ (by rw [swp_len,HX.out];have:=HN.out;omega) n (by rw [swp_len,HX.out];omega)).mono ?_;rintro e w2 ⟨⟨bb,rfl⟩,P2,T2⟩;have HP2:=hide P2;have HT2:=hide T2;have mp:(method 422 266 (.pointer (some ⟨p,1,none⟩)) "Pop").run Tryz.prog w2=.ok (221,.pointer (some ⟨p,1,none⟩)) w2:=meth_pop 421 _ w2;clear P2 T2)
  | (go_at_call 221;refine (ppop_any w2 p most (.slice A (n+1) c) _ n (by rw [downF_len,swp_len,HX.out]) HP2.out).mono ?_;rintro e w3 ⟨rfl,v3,P3,T3,F3⟩;have HP3:=hide P3;have HT3:=hide T3;have HF3:=hide F3;clear P3 T3 F3))
 go_ret
 have e1:(downF (swp X 0 n).length (swp X 0 n) 0 n).getD n MRow.zero=X.getD 0 MRow.zero:=by
  rw [down_last _ _ _ (by rw [swp_len,HX.out];omega),swp_get X 0 n n (by rw [HX.out];omega) (by rw [HX.out];omega)]
  split
  ·rename_i e;rw [e]
  ·simp
 have e2:popF X n=(downF (swp X 0 n).length (swp X 0 n) 0 n).take n:=by rw [swp_len];rfl
 have e3:((downF (swp X 0 n).length (swp X 0 n) 0 n)[n]?.getD MRow.zero)=X.getD 0 MRow.zero:=by rw [← e1];simp [List.getD]
 have T13:Touch (pfp p (.slice A (n+1) c)) w w1:=HT1.out.mono (fun g _ hg=>.inr (ad_own.1 hg))
 refine ⟨?_,v3,by rw [e2];exact HP3.out,(T13.then HT2.out).then HT3.out,HF3.out⟩
 rw [← e3]
 rfl
theorem srt_last (S:List MRow) (hs:Srt S) (n:Nat) (hn:S.length=n+1):∀ x∈S,wle (S.getD n MRow.zero) x:=by
 intro x hx
 obtain ⟨i,hi,rfl⟩:=List.getElem_of_mem hx
 have e:S.getD n MRow.zero=S[n]:=by simp [List.getD,hn]
 rw [e]
 by_cases h:i=n
 ·subst h;exact wle_refl _
 ·exact (List.pairwise_iff_getElem.1 hs) i n hi (by omega) (by omega)
theorem ins_behind (m:MRow) (S:List MRow) (h:∀ x∈S,better m x=false):ins m S=S++[m]:=by
 induction S with
 | nil=>rfl
 | cons x S ih =>
  unfold ins
  rw [if_neg (by rw [h x (by simp)];simp),ih (fun y hy=>h y (by simp [hy]))]
  rfl
theorem ins_front (m z:MRow) (S:List MRow) (h:better m z=true):ins m (S++[z])=ins m S++[z]:=by
 induction S with
 | nil=>simp [ins,h]
 | cons x S ih =>
  simp only [List.cons_append,ins]
  split
  ·rfl
  ·rw [ih];rfl
structure Kep (w:World) (p:Nat) (most:Nat) (v:Value) (S:List MRow):Prop where
 ex:∃ H,Pil w p (most:Int) v H∧H.Perm S∧Heap H H.length
 srt:Srt S
 len:S.length≤most
 m64:most≤64
theorem Kep.touch {w w':World} {p most:Nat} {v:Value} {S:List MRow} {T:Nat→Prop} (h:Kep w p most v S) (ht:Touch T w w') (hs:∀ g,g<w.heap.size→pfp p v g→¬ T g):Kep w' p most v S:=by
 obtain ⟨H,hp,h1,h2⟩:=h.ex
 exact ⟨⟨H,hp.touch ht hs,h1,h2⟩,h.srt,h.len,h.m64⟩
def addB (m:MRow) (S:List MRow) (most:Nat):Bool:=decide (S.length<most) || (decide (0<most) && better m (S.getD (most-1) MRow.zero))
theorem top_last {H S:List MRow} (hp:H.Perm S) (hh:Heap H H.length) (hs:Srt S) (n:Nat) (hn:S.length=n+1):H.getD 0 MRow.zero=S.getD n MRow.zero:=by
 have hl:=hp.length_eq
 have m1:H.getD 0 MRow.zero∈S:=hp.mem_iff.1 (by
  have e:H.getD 0 MRow.zero=H[0]'(by omega):=by simp [List.getD,show 0<H.length by omega]
  rw [e];exact List.getElem_mem _)
 have m2:S.getD n MRow.zero∈H:=hp.mem_iff.2 (by
  have e:S.getD n MRow.zero=S[n]'(by omega):=by simp [List.getD,hn]
  rw [e];exact List.getElem_mem _)
 refine wle_antisymm ?_ (srt_last S hs n hn _ m1)
 obtain ⟨i,hi,he⟩:=List.getElem_of_mem m2
 rw [← he]
 have:=heap_top hh i hi
 have e:H.getD i MRow.zero=H[i]:=by simp [List.getD,hi]
 rwa [e] at this
theorem add_room {H S:List MRow} (hp:H.Perm S) (hh:Heap H H.length) (m:MRow) (most:Nat) (hl:S.length<most):(pushF H m).Perm ((ins m S).take most)∧Heap (pushF H m) (pushF H m).length:=by
 obtain ⟨h1,h2,h3⟩:=pushF_spec H m hh
 refine ⟨?_,h2⟩
 rw [List.take_of_length_le (by rw [ins_len];omega)]
 exact h1.trans (((List.perm_append_comm (l₁:=H) (l₂:=[m])).trans (List.Perm.cons m hp)).trans (ins_perm m S).symm)
theorem drop_last (S:List MRow) (n:Nat) (hn:S.length=n+1):S=S.take n++[S.getD n MRow.zero]:=by
 have e:=List.take_succ_eq_append_getElem (show n<S.length by omega)
 rw [List.take_of_length_le (by omega)] at e
 have e2:S.getD n MRow.zero=S[n]:=by simp [List.getD,hn]
 rw [e2]
 exact e
theorem pop_take {H S:List MRow} (hp:H.Perm S) (hh:Heap H H.length) (hs:Srt S) (n:Nat) (hn:S.length=n+1):(popF H n).Perm (S.take n)∧Heap (popF H n) (popF H n).length∧(popF H n).length=n:=by
 have hl:=hp.length_eq
 obtain ⟨h1,h2,h3⟩:=popF_spec H n (by omega) hh
 refine ⟨?_,h2,h1⟩
 have e:=drop_last S n hn
 rw [top_last hp hh hs n hn] at h3
 have q:(S.getD n MRow.zero :: popF H n).Perm (S.getD n MRow.zero :: S.take n):=by
  refine (h3.trans hp).trans ?_
  exact (List.Perm.of_eq e).trans (List.perm_append_comm (l₁:=S.take n) (l₂:=[S.getD n MRow.zero]))
 exact q.cons_inv
theorem add_full {H S:List MRow} (hp:H.Perm S) (hh:Heap H H.length) (hs:Srt S) (m:MRow) (n:Nat) (hn:S.length=n+1) (hb:better m (S.getD n MRow.zero)=true) :
  (pushF (popF H n) m).Perm ((ins m S).take (n+1))∧Heap (pushF (popF H n) m) (pushF (popF H n) m).length:=by
 obtain ⟨h1,h2,h3⟩:=pop_take hp hh hs n hn
 have hl:(S.take n).length<n+1:=by rw [List.length_take];omega
 obtain ⟨q1,q2⟩:=add_room h1 h2 m (n+1) hl
 refine ⟨?_,q2⟩
 have e:(ins m S).take (n+1)=(ins m (S.take n)).take (n+1):=by
  have e0:=drop_last S n hn
  have e1:ins m S=ins m (S.take n)++[S.getD n MRow.zero]:=by
   conv=>lhs;rw [e0]
   exact ins_front m _ _ hb
  rw [e1,List.take_append_of_le_length (by rw [ins_len,List.length_take];omega)]
 rw [e]
 exact q1
theorem add_not {S:List MRow} (hs:Srt S) (m:MRow) (n:Nat) (hn:S.length=n+1) (hb:better m (S.getD n MRow.zero)=false):(ins m S).take (n+1)=S:=by
 rw [ins_behind m S (fun x hx=>wle_trans (show wle m (S.getD n MRow.zero) from hb) (srt_last S hs n hn x hx)),List.take_append_of_le_length (by omega),List.take_of_length_le (by omega)]
theorem ins_take_srt {S:List MRow} (hs:Srt S) (m:MRow) (k:Nat):Srt ((ins m S).take k):=(ins_srt m S hs).sublist (List.take_sublist _ _)
def mostN (k:Int):Nat:=(min (max k 0) 64).toNat
theorem mostN_le (k:Int):mostN k≤64:=by unfold mostN;omega
theorem mostN_int (k:Int):((mostN k:Nat):Int)=min (max k 0) 64:=by unfold mostN;omega
theorem bnew_any (k:Int) (w:World):Calls Tryz.prog 107 #[.int .i64 k] w fun e w' =>
  e=.returned (.pointer (some ⟨w.heap.size,0,none⟩))∧Kep w' w.heap.size (mostN k) (.slice none 0 0) []∧Touch (fun _=>False) w w':=by
 go_enter Tryz.func107,Tryz.ntmps107
 have key:∀ x:Int,x=(mostN k:Int)→Kep (w.alloc (.cells #[.int .i64 x,.slice none 0 0] 264)) w.heap.size (mostN k) (.slice none 0 0) []:=fun x hx=>by
  subst hx
  exact ⟨⟨[],⟨Blk.new _ _ _,World.ownsRow_nil _ _ _ _⟩,List.Perm.refl _,fun c h0 hc=>absurd hc (by simp)⟩,List.Pairwise.nil,Nat.zero_le _,mostN_le k⟩
 have KEY:=hide key
 clear key
 go_wp2
 all_goals go_ret
 all_goals refine ⟨rfl,KEY.out _ ?_,(Touch.refl _ _).alloc _⟩
 all_goals first | (rw [mostN_int];done) | (rw [mostN_int];omega)
theorem add_zero (w:World) (p:Nat) (v:Value) (S:List MRow) (h:Kep w p 0 v S) (m:MRow) :
  Calls Tryz.prog 108 #[.pointer (some ⟨p,0,none⟩),m.val] w fun e w'=>e=.returned (.bool false)∧Touch (fun _=>False) w w':=by
 obtain ⟨H,hp,hperm,hh⟩:=h.ex
 have c0:=hp.blk.cell 0
 simp at c0
 have hpl:=hp.blk.lt
 obtain ⟨mw,mn,md⟩:=m
 rw [val_cells]
 simp only
 clear hp hperm hh h
 go_enter Tryz.func108,Tryz.ntmps108
 go_wp2
 go_ret
 exact ⟨rfl,(Touch.refl _ _).alloc _⟩
theorem add_less (w:World) (p most:Nat) (v:Value) (S:List MRow) (h:Kep w p most v S) (hl:S.length<most) (m:MRow) :
  Calls Tryz.prog 108 #[.pointer (some ⟨p,0,none⟩),m.val] w fun e w' =>
   e=.returned (.bool true)∧∃ v',Kep w' p most v' ((ins m S).take most)∧Touch (pfp p v) w w'∧Fresh w v v':=by
 obtain ⟨H,hp,hperm,hh⟩:=h.ex
 have hlen:=hperm.length_eq
 have ho:=hp.own
 rw [hlen] at ho
 obtain ⟨A,c,rfl,_,_⟩:=own_len ho
 have c0:=hp.blk.cell 0
 have c1:=hp.blk.cell 1
 simp at c0 c1
 have hpl:=hp.blk.lt
 have hm:=h.m64
 have HH:=hide h
 have HP:=hide hp
 have HE:=hide hperm
 have HQ:=hide hh
 have HLN:=hide hlen
 have HLT:=hide hl
 have HM:=hide hm
 have bX:=Blk.new w 43 #[.string m.word,.int .i64 m.weight,.int .i64 m.dist]
 obtain ⟨x1,x2,x3⟩:=bX.facts
 obtain ⟨mw,mn,md⟩:=m
 rw [val_cells]
 simp only at x1 x2 x3 ⊢
 have q0:((most:Int) == 0)=false:=by simp;omega
 have q1:((S.length:Int) == (most:Int))=false:=by simp;omega
 have q2:(most:Int)≤64:=by omega
 have q3:S.length≤9223372036854775807:=by omega
 clear ho hlen hperm hp hh h hl hm bX
 go_enter Tryz.func108,Tryz.ntmps108
 go_wp2
 go_quiet (fail)
 obtain ⟨w2,hw2⟩:∃ w2,w2=(w.alloc (.cells #[.string mw,.int .i64 mn,.int .i64 md] 43)).drewN nq:=⟨_,rfl⟩
 have hT:Touch (fun _=>False) w w2:=by rw [hw2];exact ((Touch.refl _ _).alloc _).drewN _
 have hB:Blk w2 w.heap.size 43 #[.string mw,.int .i64 mn,.int .i64 md]:=by rw [hw2];exact (Blk.new w _ _).drewN _
 rw [← hw2]
 clear hw2
 obtain ⟨y1,y2,y3⟩:=hB.facts
 have HT:=hide hT
 clear hB hT
 go_wp2
 go_still_tail 6,(by kernel_rfl)
 change wpList _ _ _ _ _ w2.drew
 have HT3:=hide (HT.out.drew)
 generalize w2.drew=w3 at HT3 ⊢
 go_wp2_with (go_at_call 156;refine (hpush_any w3 p most (.slice A S.length c) H (HP.out.quiet HT3.out) (by have:=HLN.out;have:=HLT.out;have:=HM.out;omega) ⟨mw,mn,md⟩).mono ?_;rintro e w4 ⟨rfl,v4,P4,T4,F4⟩;have HP4:=hide P4;have HT4:=hide T4;have HF4:=hide F4;clear P4 T4 F4)
 go_ret
 obtain ⟨r1,r2⟩:=add_room HE.out HQ.out ⟨mw,mn,md⟩ most HLT.out
 refine ⟨rfl,v4,⟨⟨_,HP4.out,r1,r2⟩,ins_take_srt HH.out.srt _ _,by rw [List.length_take];omega,HM.out⟩,(HT3.out.up _).then HT4.out,?_⟩
 rcases HF4.out with e | ⟨g,e,hg⟩
 ·exact .inl e
 ·exact .inr ⟨g,e,Nat.le_trans HT3.out.size hg⟩
end Go.Proofs.YthockgmbooefpaaGreatDoor
