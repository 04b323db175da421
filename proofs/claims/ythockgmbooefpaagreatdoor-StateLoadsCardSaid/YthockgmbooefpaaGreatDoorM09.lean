/- What the law rests on, part 9. No condition but those that each theorem names. -/
import Derived.Test.YthockgmbooefpaaGreatDoorM08
import Derived.Test.YthockgmbooefpaaGreatDoorM06
import Derived.Deep.RegionHeld3
import Derived.Deep.AppendLies
import Derived.Test.YthockgmbooefpaaGreatDoorM00
import Derived.Test.YthockgmbooefpaaGreatDoorRows
set_option linter.unusedSectionVars false
set_option linter.unusedSimpArgs false
set_option linter.unusedVariables false
set_option maxRecDepth 100000
set_option maxHeartbeats 8000000
namespace Go.Proofs.YthockgmbooefpaaGreatDoor
open IntWalk renaming i64_in → qXa
open List renaming length_append → qJa, append_nil → qQb, flatMap_cons → qZb
open Nat renaming le_refl → qQa, zero_le → qZa
variable{cs:Array Value}{fin:Bool}{k:Int}{acc:List (Int × Int × Int)}{bs t t' t2:List UInt8}{R S ac ai c c' cnt i n n' p:Nat}{A A' aA:Option Addr}{v:Value}{w wr wx:World}
open Go.RowKit
instance zeroBaseU:Inhabited eF:=⟨⟨0⟩⟩
theorem ot0{g:Nat}{t:TypeId}(h:OT w g t):bE w g t:=by
 rcases h with⟨_,h⟩ | h
 ·exact absurd h (Nat.not_lt_zero _)
 ·exact h
def Uh(p i:Nat)(bs:List UInt8)(w:World)(e:Ending)(w':World):Prop :=
 ∃ z:ZV,e=.returned (.agg #[.bool z.fin,.int .i64 z.out,.slice z.A z.n z.c])/\aC (λg=>g=p) w w' /\
  ((∃ t,zZ i bs=some (z.p,t)/\z.Ok w'/\∃ (A:Option Addr) (n c:Nat),lJ w' p A n c t 0)\/(zZ i bs=none/\∃ (A:Option Addr) (n c:Nat) (t:List UInt8) (k:Int),1<=k/\lJ w' p A n c t k))
theorem Bv{k:Nat}{l:Int}(h:dV i cnt 0 t2=(dV i (k+1) l bs).map λr=>(acc++r.1,r.2)){d o b:Nat}{s1 s2 s3:List UInt8}
  (h1:bU 1114111 bs=some (d,s1))(h2:bU 1048576 s1=some (o,s2))(h3:bU 98305 s2=some (b,s3)) :
  dV i cnt 0 t2=(dV i k (IntKind.i32.wrap (l+d)) s3).map λr=>((acc++[(IntKind.i32.wrap (l+d),(o:Int),(i:Int)-(b:Int))])++r.1,r.2):=by
 rw[h]
 simp only[dV,h1,h2,h3]
 cases dV i k (IntKind.i32.wrap (l+d)) s3 with
 | none=>rfl
 | some r=>simp
theorem kE{k:Nat}{l:Int}(h:dV i cnt 0 t2=(dV i (k+1) l bs).map λr=>(acc++r.1,r.2))
  (hf:bU 1114111 bs=none\/(∃ d s1,bU 1114111 bs=some (d,s1)/\(bU 1048576 s1=none\/∃ o s2,bU 1048576 s1=some (o,s2)/\bU 98305 s2=none))):dV i cnt 0 t2=none:=by
 rw[h]
 rcases hf with h1 | ⟨d,s1,h1,h2 | ⟨o,s2,h2,h3⟩⟩
 ·simp only[dV,h1];rfl
 ·simp only[dV,h1,h2];rfl
 ·simp only[dV,h1,h2,h3];rfl
theorem lP(h:n<9223372036854775808):IntKind.i64.wrap (n:Int)=(n:Int):=qXa _ (by omega)
theorem Oh(h:n<2147483648):IntKind.i32.wrap (n:Int)=(n:Int):=IntWalk.i32_in _ (by omega)
theorem Vs:(Tryz.prog.info? 173).map (λi=>(i.zero,i.size,i.bytes))=some (some (.agg #[.int .i32 0,.int .i64 0,.int .i64 0]),3,24):=by kernel_rfl
structure SI(w wr:World)(p S:Nat)(fin:Bool)(out:Int)(aA:Option Addr)(ai ac:Nat)(acc:List (Int × Int × Int))(A:Option Addr)(n c:Nat)(bs:List UInt8)(R:Nat):Prop where
 rdr:lJ wr p A n c bs 0
 blk:aL wr S 170 #[.bool fin,.int .i64 out,.slice aA ai ac]
 own:wr.ownsRow 0 173 3 (.slice aA ai ac) ai (fE acc)
 len:acc.length=ai
 res:aL wr R 170 #[.bool false,.int .i64 0,.slice none 0 0]
 touch:aC (λg=>g=p) w wr
 fresh:∀ g,(Value.slice aA ai ac).ownBlock=some g->w.heap.size<=g
 ne:R≠S
 sy:w.heap.size<=S
theorem SI.uint{out:Int}(h:SI w wr p S fin out aA ai ac acc A n c bs R)(T:aC (λg=>g=p) wr wx)(hr:lJ wx p A' n' c' t 0):SI w wx p S fin out aA ai ac acc A' n' c' t R:=by
 have hp:=aF h.rdr.blk
 exact⟨hr,h.blk.touch T (λe=>(aF h.blk).ne hp (by decide) e),aD h.own T (λg hg e=>(aH h.own hg).ne hp (by decide) e),h.len,h.res.touch T (λe=>(aF h.res).ne hp (by decide) e),h.touch.then T,h.fresh,h.ne,h.sy⟩
theorem SI.blk10{wy w10:World}{out:Int}(h:SI w wx p S fin out aA ai ac acc A n c bs R)(T:aC (λ_=>False) wx wy)(hg:wy.grownBy w10 (Value.slice aA ai ac).ownBlock) :
  aL w10 S 170 #[.bool fin,.int .i64 out,.slice aA ai ac]:=by
 have hown:=aD h.own T (λ_ _ f=>f)
 have T10:aC (λg=>(Value.slice aA ai ac).ownBlock=some g) wy w10:=(aC.refl _ _).grown hg (λk hk _=>hk)
 have hb:=h.blk.touch T (λf=>f)
 exact hb.touch T10 (λe=>(aF hb).ne (aH hown e) (by decide) rfl)
theorem SI.out{out:Int}(h:SI w wx p S fin out none 0 0 [] A n c bs R)(o:Int):SI w (wx.setCell ⟨S,1,none⟩ (.int .i64 o)) p S fin o none 0 0 [] A n c bs R:=by
 have T11:aC (λg=>g=S) wx (wx.setCell ⟨S,1,none⟩ (.int .i64 o)):=(aC.refl (λg=>g=S) _).setCell (λ_=>rfl) _
 have hS:=aF h.blk
 exact⟨h.rdr.touch T11 (λe=>(aF h.rdr.blk).ne hS (by decide) e) (λg hg e=>hg.ne hS (by decide) e),h.blk.set_ 1 _,World.ownsRow_nil _ _ _ _,rfl,h.res.touch T11 h.ne,h.touch.trans T11 (λk hk e=>by have:=h.sy;omega),λg hg=>(by cases hg),h.ne,h.sy⟩
theorem SI.app{wy w10:World}{out:Int}(h:SI w wx p S fin out aA ai ac acc A n c bs R)(T:aC (λ_=>False) wx wy){a':Option Addr}{cap:Nat}(l o b:Int)
  (ho:w10.ownsRow 0 173 3 (.slice a' (ai+1) cap) (ai+1) (fE acc++[.int .i32 l,.int .i64 o,.int .i64 b]))(hg:wy.grownBy w10 (Value.slice aA ai ac).ownBlock)(hf:bJ wy (.slice aA ai ac) (.slice a' (ai+1) cap)) :
  SI w (w10.setCell ⟨S,2,none⟩ (.slice a' (ai+1) cap)) p S fin out a' (ai+1) cap (acc++[(l,o,b)]) A n c bs R:=by
 have hown:=aD h.own T (λ_ _ f=>f)
 have T10:aC (λg=>(Value.slice aA ai ac).ownBlock=some g) wy w10:=(aC.refl _ _).grown hg (λk hk _=>hk)
 have hno:∀ {t:TypeId} {g:Nat},bE wy g t->t ≠ 173 -> ¬ (Value.slice aA ai ac).ownBlock=some g:=λhg ht e=>hg.ne (aH hown e) ht rfl
 have hb10:=(h.blk.touch T (λf=>f)).touch T10 (hno (aF (h.blk.touch T (λf=>f))) (by decide))
 have T11:aC (λg=>g=S) w10 (w10.setCell ⟨S,2,none⟩ (.slice a' (ai+1) cap)):=(aC.refl (λg=>g=S) _).setCell (λ_=>rfl) _
 have hS:=aF hb10
 have hr10:=(h.rdr.quiet T).touch T10 (hno (aF (h.rdr.quiet T).blk) (by decide)) (λg hg=>hno hg (by decide))
 have hR10:=(h.res.touch T (λf=>f)).touch T10 (hno (aF (h.res.touch T (λf=>f))) (by decide))
 refine⟨hr10.touch T11 (λe=>(aF hr10.blk).ne hS (by decide) e) (λg hg e=>hg.ne hS (by decide) e),hb10.set_ 2 _,?_,by rw[qJa,h.len];rfl,hR10.touch T11 h.ne,?_,?_,h.ne,h.sy⟩
 ·have e:fE (acc++[(l,o,b)])=fE acc++[.int .i32 l,.int .i64 o,.int .i64 b]:=by simp[fE]
  rw[e]
  exact aD ho T11 (λg hg e=>(aH ho hg).ne hS (by decide) e)
 ·have t1:aC (λg=>g=p) w w10:=(h.touch.trans T (λ_ _ f=>f.elim)).trans T10 (λk hk e=>absurd (h.fresh k e) (by omega))
  exact t1.trans T11 (λk hk e=>by have:=h.sy;omega)
 ·intro g hg'
  rcases hf with e | ⟨g2,e,hle⟩
  ·rw[e] at hg'
   exact h.fresh g hg'
  ·rw[e] at hg'
   injection hg' with hg'
   have:=h.touch.size
   have:=T.size
   omega
theorem eM(hR:w.heap.size<=R)(T:aC (λg=>g=p) w wr)(a b c:Value):aC (λg=>g=p) w (((wr.setCell ⟨R,0,none⟩ a).setCell ⟨R,1,none⟩ b).setCell ⟨R,2,none⟩ c):=by
 iterate 3 refine aC.setCell ?_ (λh=>by simp only at h;omega) _
 exact T
theorem fZ{e:Int}(h:lJ wr p A n c bs e)(hR:aL wr R 170 cs)(x y z:Value):lJ (((wr.setCell ⟨R,0,none⟩ x).setCell ⟨R,1,none⟩ y).setCell ⟨R,2,none⟩ z) p A n c bs e:=by
 have T:aC (λg=>g=R) wr (((wr.setCell ⟨R,0,none⟩ x).setCell ⟨R,1,none⟩ y).setCell ⟨R,2,none⟩ z):=by
  exact (((aC.refl (λg=>g=R) wr).setCell (p:=⟨R,0,none⟩) (λ_=>rfl) _).setCell (p:=⟨R,1,none⟩) (λ_=>rfl) _).setCell (p:=⟨R,2,none⟩) (λ_=>rfl) _
 exact h.touch T (λe=>(aF h.blk).ne (aF hR) (by decide) e) (λg hg e=>hg.ne (aF hR) (by decide) e)
theorem Oz{z:ZV}(h:z.Ok wr)(hR:aL wr R 170 cs)(a b c:Value):z.Ok (((wr.setCell ⟨R,0,none⟩ a).setCell ⟨R,1,none⟩ b).setCell ⟨R,2,none⟩ c):=by
 have T:aC (λg=>g=R) wr (((wr.setCell ⟨R,0,none⟩ a).setCell ⟨R,1,none⟩ b).setCell ⟨R,2,none⟩ c):=by
  exact (((aC.refl (λg=>g=R) wr).setCell (p:=⟨R,0,none⟩) (λ_=>rfl) _).setCell (p:=⟨R,1,none⟩) (λ_=>rfl) _).setCell (p:=⟨R,2,none⟩) (λ_=>rfl) _
 exact h.touch T (λg hg e=>hg.ne (aF hR) (by decide) (qZa _) e)
theorem SI.zv{out:Int}(h:SI w wr p S fin out aA ai ac acc A n c bs R):(⟨fin,out,aA,ai,ac,acc⟩:ZV).Ok wr :=
 ⟨h.len,Ar.of_own h.own,(cT h.own).1,(cT h.own).2⟩
theorem mH(w:World)(p:Nat)(A:Option Addr)(n c:Nat)(bs:List UInt8)(h:lJ w p A n c bs 0)(most:Nat)(m:Int)(hm:m=(most:Int)) :
  Calls Tryz.prog 57 #[.pointer (some ⟨p,0,none⟩),.int .u64 m] w λe w'=>Gi p most A n c bs w e w':=by
 subst hm
 exact Pg w p A n c bs h most
theorem uM(w:World)(p:Nat)(A:Option Addr)(n c:Nat)(bs:List UInt8)(k:Int)(h:lJ w p A n c bs k)(hk:1<=k)(m:Int)(hm:0<=m) :
  Calls Tryz.prog 57 #[.pointer (some ⟨p,0,none⟩),.int .u64 m] w λe w'=>e=.returned (.int .u64 0)/\w=w':=by
 obtain⟨q,rfl⟩:∃ q:Nat,m=(q:Int):=⟨m.toNat,by omega⟩
 exact (Pf w p A n c bs k h hk q).mono λe w' ⟨h1,h2⟩=>⟨h1,h2.symm⟩
structure SF(w wr:World)(p S:Nat)(fin:Bool)(out:Int)(aA:Option Addr)(ai ac:Nat)(R:Nat):Prop where
 blk:aL wr S 170 #[.bool fin,.int .i64 out,.slice aA ai ac]
 res:aL wr R 170 #[.bool false,.int .i64 0,.slice none 0 0]
 touch:aC (λg=>g=p) w wr
theorem SI.sf{out:Int}(h:SI w wr p S fin out aA ai ac acc A n c bs R):SF w wr p S fin out aA ai ac R:=⟨h.blk,h.res,h.touch⟩
theorem SF.then{out:Int}(h:SF w wr p S fin out aA ai ac R){t:TypeId}(hp:aL wr p t cs)(ht : 170 ≠ t)(T:aC (λg=>g=p) wr wx):SF w wx p S fin out aA ai ac R :=
 ⟨h.blk.touch T (λe=>(aF h.blk).ne (aF hp) ht e),h.res.touch T (λe=>(aF h.res).ne (aF hp) ht e),h.touch.then T⟩
theorem SF.out{out:Int}(h:SF w wx p S fin out aA ai ac R)(hne:R≠S)(hs:w.heap.size<=S)(o:Int):SF w (wx.setCell ⟨S,1,none⟩ (.int .i64 o)) p S fin o aA ai ac R:=by
 have T11:aC (λg=>g=S) wx (wx.setCell ⟨S,1,none⟩ (.int .i64 o)):=(aC.refl (λg=>g=S) _).setCell (λ_=>rfl) _
 exact⟨h.blk.set_ 1 _,h.res.touch T11 hne,h.touch.trans T11 (λk hk e=>by omega)⟩
theorem aBh(h:lJ wx p A n c bs k)(hS:aL wx S 170 cs)(o:Int):lJ (wx.setCell ⟨S,1,none⟩ (.int .i64 o)) p A n c bs k:=by
 have T11:aC (λg=>g=S) wx (wx.setCell ⟨S,1,none⟩ (.int .i64 o)):=(aC.refl (λg=>g=S) _).setCell (λ_=>rfl) _
 exact h.touch T11 (λe=>(aF h.blk).ne (aF hS) (by decide) e) (λg hg e=>hg.ne (aF hS) (by decide) e)
theorem Ni(w:World)(p:Nat)(A:Option Addr)(n c:Nat)(bs:List UInt8)(h:lJ w p A n c bs 0)(hn:n<=4398046511104)(i:Nat)(hi:i<=98305) :
  Calls Tryz.prog 116 #[.pointer (some ⟨p,0,none⟩),.int .i64 i] w λe w'=>Uh p i bs w e w':=by
 obtain⟨i1,hi1,hy0,hy1,hy2⟩:=aO Vs
 obtain⟨w0,hw0⟩:=eX (w.alloc (.cells #[.bool false,.int .i64 0,.slice none 0 0] 170))
 have hT0:aC (λ_=>False) w w0:=by rw[hw0];exact (aC.refl _ _).alloc _
 have hbR:aL w0 w.heap.size 170 #[.bool false,.int .i64 0,.slice none 0 0]:=by rw[hw0];exact aL.new _ _ _
 have h0:=h.quiet hT0
 have hp0:=h.blk.lt
 obtain⟨R,hR⟩:=eX w.heap.size
 rw[<-hR] at hbR
 have HP0:=aB hp0
 have HW0:=aB hw0
 have HT0:=aB hT0
 have HBR:=aB hbR
 have H0:=aB h0
 have HRR:=aB hR
 have HLN:=aB h.len
 have HLF:=aB (λwx (hx:lJ wx p A n c bs 0)=>Wd wx p A n c bs 0 hx)
 have y0:IntKind.u64.wrap (2*(n:Int)+1)=2*(n:Int)+1:=by rw[IntKind.wrap_u64];omega
 have y1:IntKind.i64.wrap (2*(n:Int)+1)=2*(n:Int)+1:=qXa _ (by omega)
 have y2:IntKind.i64.wrap (2*(n:Int))=2*(n:Int):=qXa _ (by omega)
 have y3:(0:Int)<=(n:Int):=by omega
 clear hw0 hT0 hbR h0 h hp0 hR
 go_in
 go_wp2_with fail
 rw[<-HW0.out,<-HRR.out]
 refine (HLF w0 H0).mono ?_
 rintro e wx ⟨rfl,hwx⟩
 subst hwx
 go_wp2_with fail
 refine (mH wx p A n c bs H0 (2*n+1) _ (by push_cast;rfl)).mono ?_
 rintro e w1 (⟨v,t1,A1,n1,c1,hu1,rfl,hr1,T1⟩ | ⟨hu1,rfl,k,hk,hr1,T1⟩)
 ·
  have hv:=(bN hu1).2
  have hbp:=H0.blk
  have hwp:R≠p:=λe=>(aF HBR).ne (aF hbp) (by decide) e
  have hb1:=HBR.touch T1 hwp
  obtain⟨cnt,hcnt⟩:=eX (v / 2)
  have HCB:=aB (show cnt<=4398046511104 by omega)
  have HIB:=aB hi
  have v0:IntKind.i64.wrap (v:Int)=(v:Int):=lP (by omega)
  have v1:(0:Int)<=(v:Int):=by omega
  have v2:(v:Int) / 2=(cnt:Int):=by omega
  have v4:(0:Int)<=(cnt:Int):=by omega
  have v5:(cnt:Int)<=4398046511104:=by omega
  obtain⟨fb,hfb⟩:∃ fb,decide (v % 2=1)=fb:=⟨_,rfl⟩
  have v3:((v:Int) % 2 == 1)=fb:=by rw[<-hfb,Bool.eq_iff_iff];simp;omega
  obtain⟨S,hS⟩:=eX w1.heap.size
  obtain⟨w2,hw2⟩:=eX (w1.alloc (.cells #[.bool fb,.int .i64 0,.slice none 0 0] 170))
  have hT2:aC (λ_=>False) w1 w2:=by rw[hw2];exact (aC.refl _ _).alloc _
  have hbS:aL w2 S 170 #[.bool fb,.int .i64 0,.slice none 0 0]:=by rw[hw2,hS];exact aL.new _ _ _
  have hsi:SI w w2 p S fb 0 none 0 0 [] A1 n1 c1 t1 R:=⟨hr1.quiet hT2,hbS,World.ownsRow_nil _ _ _ _,rfl,hb1.touch hT2 (λf=>f),((HT0.up _).then T1).then (hT2.up _),λg hg=>(by cases hg),by have:=hb1.lt;omega,by have:=T1.size;have:=HT0.size;omega⟩
  have hst:zZ i bs=(match iU fb t1 with
    | none=>none
    | some (o,t2)=>(dV i cnt 0 t2).map λr=>((⟨fb,(o:Int),r.1⟩:iS),r.2)):=by
   unfold zZ
   rw[<-HLN.out] at hu1
   rw[hu1]
   simp only
   rw[hfb,hcnt]
   cases iU fb t1 with
   | none=>rfl
   | some r =>
    simp only
    cases dV i (v / 2) 0 r.2 with
    | none=>rfl
    | some q=>rfl
  clear hv hbp hwp hb1 hcnt hfb hu1 hr1 T1 hi
  cases fb with
  | false =>
   simp only[iU,Bool.false_eq_true,if_false] at hst
   have HW2:=aB hw2
   have HS2:=aB hS
   clear hw2 hS hT2 hbS
   go_wp2_with fail
   rw[<-HW2.out,<-HS2.out]
   have HSI:=aB hsi
   have HST:=aB hst
   clear hsi hst
   go_wp2_with fail
   go_loopw [7,30] (λlv jv wr=>∃ (j:Nat) (lab:Int) (aA:Option Addr) (ai ac:Nat) (acc:List (Int × Int × Int)) (A3:Option Addr) (n3 c3:Nat) (t3:List UInt8),lv=.int .i32 lab/\jv=.int .i64 j/\j<=cnt/\Hid (SI w wr p S false 0 aA ai ac acc A3 n3 c3 t3 R)/\Hid (dV i cnt 0 t1=(dV i (cnt-j) lab t3).map λr=>(acc++r.1,r.2))/\Hid (ai<=j)) (λ_ jv _=>cnt-(intOf jv).toNat)
   case atStart=>exact⟨0,0,none,0,0,[],_,_,_,_,rfl,rfl,qZa _,HSI,aB (by simp),aB (qQa _)⟩
   case round =>
    obtain⟨j,lab,aA,ai,ac,acc,A3,n3,c3,t3,rfl,rfl,hj,HS,HE,HAI⟩:=hrel
    obtain⟨wq,hwq⟩:=eX wr
    subst hwq
    by_cases hjc:j<cnt
    ·have j0:(j:Int)<(cnt:Int):=by omega
     have j1:(0:Int)<=(j:Int):=by omega
     have j2:IntKind.i64.wrap ((j:Int)+1)=(j:Int)+1:=qXa _ (by have:=HCB.out;omega)
     have hcj:cnt-j=(cnt-(j+1))+1:=by omega
     have hee:=HE.out
     rw[hcj] at hee
     have HEE:=aB hee
     have HJC:=aB hjc
     clear hee hcj hjc hj
     go_wp2_with fail
     refine (mH wq p A3 n3 c3 t3 HS.rdr 1114111 _ rfl).mono ?_
     rintro e wa (⟨d,s1,Aa,na,ca,hu1,rfl,hra,Ta⟩ | ⟨hu1,rfl,k,hk,hra,Ta⟩)
     ·have hd:=(bN hu1).2
      have HSA:=aB (HS.uint Ta hra)
      have HU1:=aB hu1
      have d0:IntKind.i32.wrap (d:Int)=(d:Int):=Oh (by omega)
      obtain⟨lab2,hl2⟩:∃ x,IntKind.i32.wrap (lab+(d:Int))=x:=⟨_,rfl⟩
      have HL2:=aB hl2
      clear hu1 hra Ta hd
      go_wp2_with fail
      refine (mH wa p Aa na ca s1 HSA.rdr 1048576 _ rfl).mono ?_
      rintro e wb (⟨o,s2,Ab,nb,cb,hu2,rfl,hrb,Tb⟩ | ⟨hu2,rfl,k,hk,hrb,Tb⟩)
      ·have hd:=(bN hu2).2
       have HSB:=aB (HSA.uint Tb hrb)
       have HU2:=aB hu2
       have o0:IntKind.i64.wrap (o:Int)=(o:Int):=lP (by omega)
       have HOB:=aB hd
       clear hu2 hrb Tb hd
       go_wp2_with fail
       refine (mH wb p Ab nb cb s2 HSB.rdr 98305 _ rfl).mono ?_
       rintro e wc (⟨b,s3,Ac,nc,cc,hu3,rfl,hrc,Tc⟩ | ⟨hu3,rfl,k,hk,hrc,Tc⟩)
       ·have hd:=(bN hu3).2
        have HSC:=aB (HSB.uint Tc hrc)
        have hmore:=Bv HEE HU1 HU2 hu3
        rw[HL2.out] at hmore
        have HMORE:=aB hmore
        have b0:IntKind.i64.wrap (b:Int)=(b:Int):=lP (by omega)
        have b1:IntKind.i64.wrap ((i:Int)-(b:Int))=(i:Int)-(b:Int):=qXa _ (by have:=HIB.out;omega)
        have HER:=aB (gT wc p Ac nc cc s3 0 HSC.rdr)
        obtain⟨wd,hwd⟩:=eX (wc.alloc (.cells #[.int .i32 lab2,.int .i64 (o:Int),.int .i64 ((i:Int)-(b:Int))] 173))
        have hTd:aC (λ_=>False) wc wd:=by rw[hwd];exact (aC.refl _ _).alloc _
        have hrd:aI wd 3 (some ⟨wc.heap.size,0,none⟩) 1 [.int .i32 lab2,.int .i64 (o:Int),.int .i64 ((i:Int)-(b:Int))]:=by rw[hwd];exact aI.new wc _ _ 1 rfl
        have hone:∀ u∈([.int .i32 lab2,.int .i64 (o:Int),.int .i64 ((i:Int)-(b:Int))]:List Value),u.oneCell'=true:=by
         intro u hu
         simp only[List.mem_cons,List.not_mem_nil,or_false] at hu
         rcases hu with rfl | rfl | rfl<;>rfl
        have hbb1:ai+1<=maxLen:=by unfold maxLen;have:=HAI.out;have:=HJC.out;have:=HCB.out;omega
        have hbb2:(ai+1)*24<=140737488355328:=by have:=HAI.out;have:=HJC.out;have:=HCB.out;omega
        have HOWN:=aB (aD HSC.own hTd (λ_ _ f=>f))
        have HRD:=aB hrd
        have HONE:=aB hone
        have HBB:=aB (And.intro hbb1 hbb2)
        have HTD:=aB hTd
        have HWD:=aB hwd
        obtain⟨s0,s1',s2'⟩:=HSC.blk.facts
        clear hu3 hrc Tc hd hmore hwd hTd hrd hone hbb1 hbb2
        go_wp2_with fail
        refine HER.mono ?_
        rintro e wx ⟨rfl,hwx⟩
        subst hwx
        go_wp2_with (at_builtin;rw[<-HWD.out];refine aR _ rfl (.tmp 47) (.tmp 54) 168 rfl 173 i1 _ 3 24 Tryz.underlying168 hi1 hy0 hy1 hy2 rfl (by decide) (.slice aA ai ac) ai _ rfl HOWN (some ⟨wx.heap.size,0,none⟩) 1 1 [.int .i32 lab2,.int .i64 (o:Int),.int .i64 ((i:Int)-(b:Int))] rfl HRD (λh=>by cases h) HONE HBB.1 HBB.2 ?_;intro v1 w10 O10 G10 F10 _;obtain⟨A2x,c2x,hv,_,_⟩:=aX O10;subst hv;have HNX:=aB (HSC.app HTD _ _ _ O10 G10 F10);obtain⟨z0,z1,z2⟩:=(HSC.blk10 HTD G10).facts;clear O10 G10 F10)
        go_roundw
        ·exact⟨j+1,lab2,_,_,_,_,_,_,_,_,rfl,by simp,by have:=HJC.out;omega,HNX,HMORE,aB (by have:=HAI.out;omega)⟩
        ·have:=HJC.out
         simp only[intOf]
         omega
       ·have hno:=kE HEE (.inr ⟨d,s1,HU1,.inr ⟨o,s2,HU2,hu3⟩⟩)
        have hsx:zZ i bs=none:=by rw[HST.out,hno];rfl
        have HNO:=aB hsx
        have HK:=aB hk
        have HRC:=aB hrc
        have HSF:=aB (HSB.sf.then HSB.rdr.blk (by decide) Tc)
        have HER:=aB (gT wc p Ab nb cb s2 k hrc)
        have k0:(k == 0)=false:=by simp;omega
        have k1:¬ k=0:=by omega
        obtain⟨s0,s1',s2'⟩:=HSF.blk.facts
        obtain⟨r0,r1',r2'⟩:=HSF.res.facts
        clear hno hsx hk hrc Tc hu3
        go_wp2_with fail
        refine HER.mono ?_
        rintro e wx ⟨rfl,hwx⟩
        subst hwx
        go_wp2_with fail
        have hbF:=((HSF.res.set_ 0 (.bool false)).set_ 1 (.int .i64 0)).set_ 2 (.slice aA ai ac)
        have g0:=hbF.cell 0
        have g1:=hbF.cell 1
        have g2:=hbF.cell 2
        have hTF:=eM (show w.heap.size<=R by rw[HRR.out];exact qQa _) HSF.touch (.bool false) (.int .i64 0) (.slice aA ai ac)
        try rw[<-HRR.out]
        exact bodyPost_ret (v:=.agg #[.bool false,.int .i64 0,.slice aA ai ac]) (by simp[results,Tryz.results116,go_sem,g0,g1,g2]) rfl ⟨⟨false,0,aA,ai,ac,[]⟩,rfl,hTF,.inr ⟨HNO,_,_,_,_,_,HK,fZ HRC HSF.res _ _ _⟩⟩
      ·have hno:=kE HEE (.inr ⟨d,s1,HU1,.inl hu2⟩)
       have hsx:zZ i bs=none:=by rw[HST.out,hno];rfl
       have HNO:=aB hsx
       have HK:=aB hk
       have HRC:=aB hrb
       have HSF:=aB (HSA.sf.then HSA.rdr.blk (by decide) Tb)
       have HUN:=aB (uM wb p Aa na ca s1 k hrb hk 98305 (by decide))
       have HER:=aB (gT wb p Aa na ca s1 k hrb)
       have k0:(k == 0)=false:=by simp;omega
       have k1:¬ k=0:=by omega
       obtain⟨s0,s1',s2'⟩:=HSF.blk.facts
       obtain⟨r0,r1',r2'⟩:=HSF.res.facts
       clear hno hsx hk hrb Tb hu2
       go_wp2_with fail
       refine HUN.mono ?_
       rintro e wx ⟨rfl,hwx⟩
       subst hwx
       go_wp2_with fail
       refine HER.mono ?_
       rintro e wx ⟨rfl,hwx⟩
       subst hwx
       go_wp2_with fail
       have hbF:=((HSF.res.set_ 0 (.bool false)).set_ 1 (.int .i64 0)).set_ 2 (.slice aA ai ac)
       have g0:=hbF.cell 0
       have g1:=hbF.cell 1
       have g2:=hbF.cell 2
       have hTF:=eM (show w.heap.size<=R by rw[HRR.out];exact qQa _) HSF.touch (.bool false) (.int .i64 0) (.slice aA ai ac)
       try rw[<-HRR.out]
       exact bodyPost_ret (v:=.agg #[.bool false,.int .i64 0,.slice aA ai ac]) (by simp[results,Tryz.results116,go_sem,g0,g1,g2]) rfl ⟨⟨false,0,aA,ai,ac,[]⟩,rfl,hTF,.inr ⟨HNO,_,_,_,_,_,HK,fZ HRC HSF.res _ _ _⟩⟩
     ·have hno:=kE HEE (.inl hu1)
      have hsx:zZ i bs=none:=by rw[HST.out,hno];rfl
      have HNO:=aB hsx
      have HK:=aB hk
      have HRC:=aB hra
      have HSF:=aB (HS.sf.then HS.rdr.blk (by decide) Ta)
      have HUN:=aB (λm hm=>uM wa p A3 n3 c3 t3 k hra hk m hm)
      have HER:=aB (gT wa p A3 n3 c3 t3 k hra)
      have k0:(k == 0)=false:=by simp;omega
      have k1:¬ k=0:=by omega
      obtain⟨s0,s1',s2'⟩:=HSF.blk.facts
      obtain⟨r0,r1',r2'⟩:=HSF.res.facts
      clear hno hsx hk hra Ta hu1
      go_wp2_with fail
      refine (HUN 1048576 (by decide)).mono ?_
      rintro e wx ⟨rfl,hwx⟩
      subst hwx
      go_wp2_with fail
      refine (HUN 98305 (by decide)).mono ?_
      rintro e wx ⟨rfl,hwx⟩
      subst hwx
      go_wp2_with fail
      refine HER.mono ?_
      rintro e wx ⟨rfl,hwx⟩
      subst hwx
      go_wp2_with fail
      have hbF:=((HSF.res.set_ 0 (.bool false)).set_ 1 (.int .i64 0)).set_ 2 (.slice aA ai ac)
      have g0:=hbF.cell 0
      have g1:=hbF.cell 1
      have g2:=hbF.cell 2
      have hTF:=eM (show w.heap.size<=R by rw[HRR.out];exact qQa _) HSF.touch (.bool false) (.int .i64 0) (.slice aA ai ac)
      try rw[<-HRR.out]
      exact bodyPost_ret (v:=.agg #[.bool false,.int .i64 0,.slice aA ai ac]) (by simp[results,Tryz.results116,go_sem,g0,g1,g2]) rfl ⟨⟨false,0,aA,ai,ac,[]⟩,rfl,hTF,.inr ⟨HNO,_,_,_,_,_,HK,fZ HRC HSF.res _ _ _⟩⟩
    ·have j0:¬ (j:Int)<(cnt:Int):=by omega
     have hje:cnt-j=0:=by omega
     have hee:=HE.out
     rw[hje] at hee
     have hsx:zZ i bs=some ((⟨false,0,aA,ai,ac,acc⟩:ZV).p,t3):=by
      rw[HST.out,hee]
      simp[dV,ZV.p]
     have HNO:=aB hsx
     have HSF:=aB HS.sf
     obtain⟨s0,s1',s2'⟩:=HSF.blk.facts
     obtain⟨r0,r1',r2'⟩:=HSF.res.facts
     clear hsx hee hje hj
     go_wp2_with fail
     have hbF:=((HSF.res.set_ 0 (.bool false)).set_ 1 (.int .i64 0)).set_ 2 (.slice aA ai ac)
     have g0:=hbF.cell 0
     have g1:=hbF.cell 1
     have g2:=hbF.cell 2
     have hTF:=eM (show w.heap.size<=R by rw[HRR.out];exact qQa _) HSF.touch (.bool false) (.int .i64 0) (.slice aA ai ac)
     try rw[<-HRR.out]
     exact bodyPost_ret (v:=.agg #[.bool false,.int .i64 0,.slice aA ai ac]) (by simp[results,Tryz.results116,go_sem,g0,g1,g2]) rfl ⟨⟨false,0,aA,ai,ac,acc⟩,rfl,hTF,.inl ⟨t3,HNO,Oz HS.zv HSF.res _ _ _,_,_,_,fZ HS.rdr HSF.res _ _ _⟩⟩
  | true =>
   simp only[iU,if_true] at hst
   have HSI0:=aB hsi
   have HST0:=aB hst
   have HW2:=aB hw2
   have HS2:=aB hS
   obtain⟨s0,s1',s2'⟩:=hbS.facts
   clear hw2 hS hT2 hbS hsi hst
   go_wp2_with fail
   rw[<-HW2.out,<-HS2.out]
   refine (mH w2 p A1 n1 c1 t1 HSI0.rdr 1048576 _ rfl).mono ?_
   rintro e wa (⟨oo,t2,A2,n2,c2,hu2,rfl,hr2,T2⟩ | ⟨hu2,rfl,k,hk,hr2,T2⟩)
   ·have hob:=(bN hu2).2
    have hst:=HST0.out
    rw[hu2] at hst
    simp only at hst
    have o0:IntKind.i64.wrap (oo:Int)=(oo:Int):=lP (by omega)
    have hsi:=(HSI0.uint T2 hr2).out oo
    clear s0 s1' s2'
    obtain⟨s0,s1',s2'⟩:=(HSI0.uint T2 hr2).blk.facts
    clear hob hu2 hr2 T2 HST0
    have HSI:=aB hsi
    have HST:=aB hst
    clear hsi hst
    go_wp2_with fail
    go_loopw [7,30] (λlv jv wr=>∃ (j:Nat) (lab:Int) (aA:Option Addr) (ai ac:Nat) (acc:List (Int × Int × Int)) (A3:Option Addr) (n3 c3:Nat) (t3:List UInt8),lv=.int .i32 lab/\jv=.int .i64 j/\j<=cnt/\Hid (SI w wr p S true (oo:Int) aA ai ac acc A3 n3 c3 t3 R)/\Hid (dV i cnt 0 t2=(dV i (cnt-j) lab t3).map λr=>(acc++r.1,r.2))/\Hid (ai<=j)) (λ_ jv _=>cnt-(intOf jv).toNat)
    case atStart=>exact⟨0,0,none,0,0,[],_,_,_,_,rfl,rfl,qZa _,HSI,aB (by simp),aB (qQa _)⟩
    case round =>
     obtain⟨j,lab,aA,ai,ac,acc,A3,n3,c3,t3,rfl,rfl,hj,HS,HE,HAI⟩:=hrel
     obtain⟨wq,hwq⟩:=eX wr
     subst hwq
     by_cases hjc:j<cnt
     ·have j0:(j:Int)<(cnt:Int):=by omega
      have j1:(0:Int)<=(j:Int):=by omega
      have j2:IntKind.i64.wrap ((j:Int)+1)=(j:Int)+1:=qXa _ (by have:=HCB.out;omega)
      have hcj:cnt-j=(cnt-(j+1))+1:=by omega
      have hee:=HE.out
      rw[hcj] at hee
      have HEE:=aB hee
      have HJC:=aB hjc
      clear hee hcj hjc hj
      go_wp2_with fail
      refine (mH wq p A3 n3 c3 t3 HS.rdr 1114111 _ rfl).mono ?_
      rintro e wa (⟨d,s1,Aa,na,ca,hu1,rfl,hra,Ta⟩ | ⟨hu1,rfl,k,hk,hra,Ta⟩)
      ·have hd:=(bN hu1).2
       have HSA:=aB (HS.uint Ta hra)
       have HU1:=aB hu1
       have d0:IntKind.i32.wrap (d:Int)=(d:Int):=Oh (by omega)
       obtain⟨lab2,hl2⟩:∃ x,IntKind.i32.wrap (lab+(d:Int))=x:=⟨_,rfl⟩
       have HL2:=aB hl2
       clear hu1 hra Ta hd
       go_wp2_with fail
       refine (mH wa p Aa na ca s1 HSA.rdr 1048576 _ rfl).mono ?_
       rintro e wb (⟨o,s2,Ab,nb,cb,hu2,rfl,hrb,Tb⟩ | ⟨hu2,rfl,k,hk,hrb,Tb⟩)
       ·have hd:=(bN hu2).2
        have HSB:=aB (HSA.uint Tb hrb)
        have HU2:=aB hu2
        have o0:IntKind.i64.wrap (o:Int)=(o:Int):=lP (by omega)
        have HOB:=aB hd
        clear hu2 hrb Tb hd
        go_wp2_with fail
        refine (mH wb p Ab nb cb s2 HSB.rdr 98305 _ rfl).mono ?_
        rintro e wc (⟨b,s3,Ac,nc,cc,hu3,rfl,hrc,Tc⟩ | ⟨hu3,rfl,k,hk,hrc,Tc⟩)
        ·have hd:=(bN hu3).2
         have HSC:=aB (HSB.uint Tc hrc)
         have hmore:=Bv HEE HU1 HU2 hu3
         rw[HL2.out] at hmore
         have HMORE:=aB hmore
         have b0:IntKind.i64.wrap (b:Int)=(b:Int):=lP (by omega)
         have b1:IntKind.i64.wrap ((i:Int)-(b:Int))=(i:Int)-(b:Int):=qXa _ (by have:=HIB.out;omega)
         have HER:=aB (gT wc p Ac nc cc s3 0 HSC.rdr)
         obtain⟨wd,hwd⟩:=eX (wc.alloc (.cells #[.int .i32 lab2,.int .i64 (o:Int),.int .i64 ((i:Int)-(b:Int))] 173))
         have hTd:aC (λ_=>False) wc wd:=by rw[hwd];exact (aC.refl _ _).alloc _
         have hrd:aI wd 3 (some ⟨wc.heap.size,0,none⟩) 1 [.int .i32 lab2,.int .i64 (o:Int),.int .i64 ((i:Int)-(b:Int))]:=by rw[hwd];exact aI.new wc _ _ 1 rfl
         have hone:∀ u∈([.int .i32 lab2,.int .i64 (o:Int),.int .i64 ((i:Int)-(b:Int))]:List Value),u.oneCell'=true:=by
          intro u hu
          simp only[List.mem_cons,List.not_mem_nil,or_false] at hu
          rcases hu with rfl | rfl | rfl<;>rfl
         have hbb1:ai+1<=maxLen:=by unfold maxLen;have:=HAI.out;have:=HJC.out;have:=HCB.out;omega
         have hbb2:(ai+1)*24<=140737488355328:=by have:=HAI.out;have:=HJC.out;have:=HCB.out;omega
         have HOWN:=aB (aD HSC.own hTd (λ_ _ f=>f))
         have HRD:=aB hrd
         have HONE:=aB hone
         have HBB:=aB (And.intro hbb1 hbb2)
         have HTD:=aB hTd
         have HWD:=aB hwd
         obtain⟨s0,s1',s2'⟩:=HSC.blk.facts
         clear hu3 hrc Tc hd hmore hwd hTd hrd hone hbb1 hbb2
         go_wp2_with fail
         refine HER.mono ?_
         rintro e wx ⟨rfl,hwx⟩
         subst hwx
         go_wp2_with (at_builtin;rw[<-HWD.out];refine aR _ rfl (.tmp 47) (.tmp 54) 168 rfl 173 i1 _ 3 24 Tryz.underlying168 hi1 hy0 hy1 hy2 rfl (by decide) (.slice aA ai ac) ai _ rfl HOWN (some ⟨wx.heap.size,0,none⟩) 1 1 [.int .i32 lab2,.int .i64 (o:Int),.int .i64 ((i:Int)-(b:Int))] rfl HRD (λh=>by cases h) HONE HBB.1 HBB.2 ?_;intro v1 w10 O10 G10 F10 _;obtain⟨A2x,c2x,hv,_,_⟩:=aX O10;subst hv;have HNX:=aB (HSC.app HTD _ _ _ O10 G10 F10);obtain⟨z0,z1,z2⟩:=(HSC.blk10 HTD G10).facts;clear O10 G10 F10)
         go_roundw
         ·exact⟨j+1,lab2,_,_,_,_,_,_,_,_,rfl,by simp,by have:=HJC.out;omega,HNX,HMORE,aB (by have:=HAI.out;omega)⟩
         ·have:=HJC.out
          simp only[intOf]
          omega
        ·have hno:=kE HEE (.inr ⟨d,s1,HU1,.inr ⟨o,s2,HU2,hu3⟩⟩)
         have hsx:zZ i bs=none:=by rw[HST.out,hno];rfl
         have HNO:=aB hsx
         have HK:=aB hk
         have HRC:=aB hrc
         have HSF:=aB (HSB.sf.then HSB.rdr.blk (by decide) Tc)
         have HER:=aB (gT wc p Ab nb cb s2 k hrc)
         have k0:(k == 0)=false:=by simp;omega
         have k1:¬ k=0:=by omega
         obtain⟨s0,s1',s2'⟩:=HSF.blk.facts
         obtain⟨r0,r1',r2'⟩:=HSF.res.facts
         clear hno hsx hk hrc Tc hu3
         go_wp2_with fail
         refine HER.mono ?_
         rintro e wx ⟨rfl,hwx⟩
         subst hwx
         go_wp2_with fail
         have hbF:=((HSF.res.set_ 0 (.bool true)).set_ 1 (.int .i64 (oo:Int))).set_ 2 (.slice aA ai ac)
         have g0:=hbF.cell 0
         have g1:=hbF.cell 1
         have g2:=hbF.cell 2
         have hTF:=eM (show w.heap.size<=R by rw[HRR.out];exact qQa _) HSF.touch (.bool true) (.int .i64 (oo:Int)) (.slice aA ai ac)
         try rw[<-HRR.out]
         exact bodyPost_ret (v:=.agg #[.bool true,.int .i64 (oo:Int),.slice aA ai ac]) (by simp[results,Tryz.results116,go_sem,g0,g1,g2]) rfl ⟨⟨true,(oo:Int),aA,ai,ac,[]⟩,rfl,hTF,.inr ⟨HNO,_,_,_,_,_,HK,fZ HRC HSF.res _ _ _⟩⟩
       ·have hno:=kE HEE (.inr ⟨d,s1,HU1,.inl hu2⟩)
        have hsx:zZ i bs=none:=by rw[HST.out,hno];rfl
        have HNO:=aB hsx
        have HK:=aB hk
        have HRC:=aB hrb
        have HSF:=aB (HSA.sf.then HSA.rdr.blk (by decide) Tb)
        have HUN:=aB (uM wb p Aa na ca s1 k hrb hk 98305 (by decide))
        have HER:=aB (gT wb p Aa na ca s1 k hrb)
        have k0:(k == 0)=false:=by simp;omega
        have k1:¬ k=0:=by omega
        obtain⟨s0,s1',s2'⟩:=HSF.blk.facts
        obtain⟨r0,r1',r2'⟩:=HSF.res.facts
        clear hno hsx hk hrb Tb hu2
        go_wp2_with fail
        refine HUN.mono ?_
        rintro e wx ⟨rfl,hwx⟩
        subst hwx
        go_wp2_with fail
        refine HER.mono ?_
        rintro e wx ⟨rfl,hwx⟩
        subst hwx
        go_wp2_with fail
        have hbF:=((HSF.res.set_ 0 (.bool true)).set_ 1 (.int .i64 (oo:Int))).set_ 2 (.slice aA ai ac)
        have g0:=hbF.cell 0
        have g1:=hbF.cell 1
        have g2:=hbF.cell 2
        have hTF:=eM (show w.heap.size<=R by rw[HRR.out];exact qQa _) HSF.touch (.bool true) (.int .i64 (oo:Int)) (.slice aA ai ac)
        try rw[<-HRR.out]
        exact bodyPost_ret (v:=.agg #[.bool true,.int .i64 (oo:Int),.slice aA ai ac]) (by simp[results,Tryz.results116,go_sem,g0,g1,g2]) rfl ⟨⟨true,(oo:Int),aA,ai,ac,[]⟩,rfl,hTF,.inr ⟨HNO,_,_,_,_,_,HK,fZ HRC HSF.res _ _ _⟩⟩
      ·have hno:=kE HEE (.inl hu1)
       have hsx:zZ i bs=none:=by rw[HST.out,hno];rfl
       have HNO:=aB hsx
       have HK:=aB hk
       have HRC:=aB hra
       have HSF:=aB (HS.sf.then HS.rdr.blk (by decide) Ta)
       have HUN:=aB (λm hm=>uM wa p A3 n3 c3 t3 k hra hk m hm)
       have HER:=aB (gT wa p A3 n3 c3 t3 k hra)
       have k0:(k == 0)=false:=by simp;omega
       have k1:¬ k=0:=by omega
       obtain⟨s0,s1',s2'⟩:=HSF.blk.facts
       obtain⟨r0,r1',r2'⟩:=HSF.res.facts
       clear hno hsx hk hra Ta hu1
       go_wp2_with fail
       refine (HUN 1048576 (by decide)).mono ?_
       rintro e wx ⟨rfl,hwx⟩
       subst hwx
       go_wp2_with fail
       refine (HUN 98305 (by decide)).mono ?_
       rintro e wx ⟨rfl,hwx⟩
       subst hwx
       go_wp2_with fail
       refine HER.mono ?_
       rintro e wx ⟨rfl,hwx⟩
       subst hwx
       go_wp2_with fail
       have hbF:=((HSF.res.set_ 0 (.bool true)).set_ 1 (.int .i64 (oo:Int))).set_ 2 (.slice aA ai ac)
       have g0:=hbF.cell 0
       have g1:=hbF.cell 1
       have g2:=hbF.cell 2
       have hTF:=eM (show w.heap.size<=R by rw[HRR.out];exact qQa _) HSF.touch (.bool true) (.int .i64 (oo:Int)) (.slice aA ai ac)
       try rw[<-HRR.out]
       exact bodyPost_ret (v:=.agg #[.bool true,.int .i64 (oo:Int),.slice aA ai ac]) (by simp[results,Tryz.results116,go_sem,g0,g1,g2]) rfl ⟨⟨true,(oo:Int),aA,ai,ac,[]⟩,rfl,hTF,.inr ⟨HNO,_,_,_,_,_,HK,fZ HRC HSF.res _ _ _⟩⟩
     ·have j0:¬ (j:Int)<(cnt:Int):=by omega
      have hje:cnt-j=0:=by omega
      have hee:=HE.out
      rw[hje] at hee
      have hsx:zZ i bs=some ((⟨true,(oo:Int),aA,ai,ac,acc⟩:ZV).p,t3):=by
       rw[HST.out,hee]
       simp[dV,ZV.p]
      have HNO:=aB hsx
      have HSF:=aB HS.sf
      obtain⟨s0,s1',s2'⟩:=HSF.blk.facts
      obtain⟨r0,r1',r2'⟩:=HSF.res.facts
      clear hsx hee hje hj
      go_wp2_with fail
      have hbF:=((HSF.res.set_ 0 (.bool true)).set_ 1 (.int .i64 (oo:Int))).set_ 2 (.slice aA ai ac)
      have g0:=hbF.cell 0
      have g1:=hbF.cell 1
      have g2:=hbF.cell 2
      have hTF:=eM (show w.heap.size<=R by rw[HRR.out];exact qQa _) HSF.touch (.bool true) (.int .i64 (oo:Int)) (.slice aA ai ac)
      try rw[<-HRR.out]
      exact bodyPost_ret (v:=.agg #[.bool true,.int .i64 (oo:Int),.slice aA ai ac]) (by simp[results,Tryz.results116,go_sem,g0,g1,g2]) rfl ⟨⟨true,(oo:Int),aA,ai,ac,acc⟩,rfl,hTF,.inl ⟨t3,HNO,Oz HS.zv HSF.res _ _ _,_,_,_,fZ HS.rdr HSF.res _ _ _⟩⟩
   ·have hst:=HST0.out
    rw[hu2] at hst
    simp only at hst
    have HNO:=aB hst
    have HK:=aB hk
    have hsf:=HSI0.sf.then HSI0.rdr.blk (by decide) T2
    have HSF:=aB (hsf.out HSI0.ne HSI0.sy 0)
    have HRC:=aB (aBh hr2 hsf.blk 0)
    have k1:¬ k=0:=by omega
    have k2:(k == 0)=false:=by simp;omega
    clear s0 s1' s2'
    obtain⟨s0,s1',s2'⟩:=hsf.blk.facts
    clear hst hu2 hr2 hsf hk T2 HST0
    go_wp2_with fail
    clear s0 s1' s2'
    go_loopw [7,30] (λlv jv wr=>lv=.int .i32 0/\jv=.int .i64 0/\Hid (SF w wr p S true 0 none 0 0 R)/\Hid (lJ wr p A1 n1 c1 t1 k)) (λ_ _ _=>0)
    case atStart=>exact⟨rfl,rfl,HSF,HRC⟩
    case round =>
     obtain⟨rfl,rfl,HSF,HRC⟩:=hrel
     obtain⟨wq,hwq⟩:=eX wr
     subst hwq
     have HUN:=aB (λm hm=>uM wq p A1 n1 c1 t1 k HRC HK m hm)
     have HER:=aB (gT wq p A1 n1 c1 t1 k HRC)
     obtain⟨s0,s1',s2'⟩:=HSF.blk.facts
     obtain⟨r0,r1',r2'⟩:=HSF.res.facts
     by_cases hc0:cnt=0
     ·have j0:¬ (0:Int)<(cnt:Int):=by omega
      clear hc0
      go_wp2_with fail
      have hbF:=((HSF.res.set_ 0 (.bool true)).set_ 1 (.int .i64 0)).set_ 2 (.slice none 0 0)
      have g0:=hbF.cell 0
      have g1:=hbF.cell 1
      have g2:=hbF.cell 2
      have hTF:=eM (show w.heap.size<=R by rw[HRR.out];exact qQa _) HSF.touch (.bool true) (.int .i64 0) (.slice none 0 0)
      try rw[<-HRR.out]
      exact bodyPost_ret (v:=.agg #[.bool true,.int .i64 0,.slice none 0 0]) (by simp[results,Tryz.results116,go_sem,g0,g1,g2]) rfl ⟨⟨true,0,none,0,0,[]⟩,rfl,hTF,.inr ⟨HNO,_,_,_,_,_,HK,fZ HRC HSF.res _ _ _⟩⟩
     ·have j0:(0:Int)<(cnt:Int):=by omega
      clear hc0
      go_wp2_with fail
      refine (HUN 1114111 (by decide)).mono ?_
      rintro e wx ⟨rfl,hwx⟩
      subst hwx
      go_wp2_with fail
      refine (HUN 1048576 (by decide)).mono ?_
      rintro e wx ⟨rfl,hwx⟩
      subst hwx
      go_wp2_with fail
      refine (HUN 98305 (by decide)).mono ?_
      rintro e wx ⟨rfl,hwx⟩
      subst hwx
      go_wp2_with fail
      refine HER.mono ?_
      rintro e wx ⟨rfl,hwx⟩
      subst hwx
      go_wp2_with fail
      have hbF:=((HSF.res.set_ 0 (.bool true)).set_ 1 (.int .i64 0)).set_ 2 (.slice none 0 0)
      have g0:=hbF.cell 0
      have g1:=hbF.cell 1
      have g2:=hbF.cell 2
      have hTF:=eM (show w.heap.size<=R by rw[HRR.out];exact qQa _) HSF.touch (.bool true) (.int .i64 0) (.slice none 0 0)
      try rw[<-HRR.out]
      exact bodyPost_ret (v:=.agg #[.bool true,.int .i64 0,.slice none 0 0]) (by simp[results,Tryz.results116,go_sem,g0,g1,g2]) rfl ⟨⟨true,0,none,0,0,[]⟩,rfl,hTF,.inr ⟨HNO,_,_,_,_,_,HK,fZ HRC HSF.res _ _ _⟩⟩
 ·have hbp:=H0.blk
  have hwp:R≠p:=λe=>(aF HBR).ne (aF hbp) (by decide) e
  have hb1:=HBR.touch T1 hwp
  have hsx:zZ i bs=none:=by
   unfold zZ
   rw[<-HLN.out] at hu1
   rw[hu1]
  have HNO:=aB hsx
  have HK:=aB hk
  obtain⟨S,hS⟩:=eX w1.heap.size
  obtain⟨w2,hw2⟩:=eX (w1.alloc (.cells #[.bool false,.int .i64 0,.slice none 0 0] 170))
  have hT2:aC (λ_=>False) w1 w2:=by rw[hw2];exact (aC.refl _ _).alloc _
  have hbS:aL w2 S 170 #[.bool false,.int .i64 0,.slice none 0 0]:=by rw[hw2,hS];exact aL.new _ _ _
  have HSF:Hid (SF w w2 p S false 0 none 0 0 R):=aB ⟨hbS,hb1.touch hT2 (λf=>f),((HT0.up _).then T1).then (hT2.up _)⟩
  have HRC:=aB (hr1.quiet hT2)
  have HW2:=aB hw2
  have HS2:=aB hS
  clear hbp hwp hb1 hsx hk hw2 hS hT2 hbS hr1 T1 hu1
  go_wp2_with fail
  rw[<-HW2.out,<-HS2.out]
  go_loopw [7,30] (λlv jv wr=>lv=.int .i32 0/\jv=.int .i64 0/\Hid (wr=w2)) (λ_ _ _=>0)
  case atStart=>exact⟨rfl,rfl,aB rfl⟩
  case round =>
   obtain⟨rfl,rfl,hwr⟩:=hrel
   have hwr:=hwr.out
   subst hwr
   obtain⟨s0,s1',s2'⟩:=HSF.blk.facts
   obtain⟨r0,r1',r2'⟩:=HSF.res.facts
   go_wp2_with fail
   have hbF:=((HSF.res.set_ 0 (.bool false)).set_ 1 (.int .i64 0)).set_ 2 (.slice none 0 0)
   have g0:=hbF.cell 0
   have g1:=hbF.cell 1
   have g2:=hbF.cell 2
   have hTF:=eM (show w.heap.size<=R by rw[HRR.out];exact qQa _) HSF.touch (.bool false) (.int .i64 0) (.slice none 0 0)
   try rw[<-HRR.out]
   exact bodyPost_ret (v:=.agg #[.bool false,.int .i64 0,.slice none 0 0]) (by simp[results,Tryz.results116,go_sem,g0,g1,g2]) rfl ⟨⟨false,0,none,0,0,[]⟩,rfl,hTF,.inr ⟨HNO,_,_,_,_,_,HK,fZ HRC HSF.res _ _ _⟩⟩
def Zj(bs:List UInt8)(w:World)(e:Ending)(w':World):Prop:=aC (λ_=>False) w w' /\
 ((∃ (base:Nat) (sts:List bP),base<=1048576/\sts.length<=98305/\jZ sts base/\bs=eU base sts/\∃ (A:Option Addr) (n c:Nat) (Z:List SV),e=.returned (.tuple #[.agg #[.int .i64 base,.slice A n c],.int .i64 0])/\mN w' A n Z/\Z.map SV.p=sts/\n<=c) \/
   ((∀ (base:Nat) (sts:List bP),base<=1048576->jZ sts base->bs≠eU base sts)/\e=.returned (.tuple #[.agg #[.int .i64 0,.slice none 0 0],.int .i64 80])))
theorem Is{sts:List bP}{base:Int}(h:jZ sts base):sts.length<=98305:=by
 rcases h with⟨h,_⟩ | h
 ·rw[h];simp
 ·exact h.few
theorem pI{sts:List bP}{base:Int}(h:jZ sts base):∀ i,i<sts.length->dQ i (sts.getD i aS):=by
 rcases h with⟨h,_⟩ | h
 ·intro i hi
  rw[h] at hi
  simp at hi
 ·exact h.form
theorem oV(h:∀ (base:Nat) (zs:List iS),nQ bs=some ((base,zs),[])->¬ qK zs base):∀ (base:Nat) (sts:List bP),base<=1048576->jZ sts base->bs≠eU base sts:=by
 intro base sts hb hr e
 have h1:=qQ hb (Is hr) (pI hr) []
 rw[qQb,<-e] at h1
 exact h base _ h1 ⟨sts,rfl,hr⟩
theorem Yp{base:Nat}{sts:List bP}(h:nQ bs=some ((base,sts.map bP.z),[]))(hr:jZ sts base):bs=eU base sts:=by
 have:=Rj (pI hr) h
 rw[qQb] at this
 exact this
structure UI(w wr:World)(p M R:Nat)(base:Nat)(sA:Option Addr)(i sc:Nat)(Z:List ZV)(A:Option Addr)(n c:Nat)(t:List UInt8):Prop where
 rdr:lJ wr p A n c t 0
 blk:aL wr M 89 #[.int .i64 base,.slice sA i sc]
 own:wr.ownsRow 0 170 3 (.slice sA i sc) i (fL Z)
 len:Z.length=i
 el:∀ z∈Z,z.Ok wr
 res:aL wr R 89 #[.int .i64 0,.slice none 0 0]
 touch:aC (λ_=>False) w wr
 fresh:∀ g,(Value.slice sA i sc).ownBlock=some g->w.heap.size<=g
 py:w.heap.size<=p
 my:w.heap.size<=M
 ne:R≠M
structure UB(w wr:World)(p M R:Nat):Prop where
 rdr:∃ (A:Option Addr) (n c:Nat) (t:List UInt8) (k:Int),1<=k/\lJ wr p A n c t k
 res:aL wr R 89 #[.int .i64 0,.slice none 0 0]
 touch:aC (λ_=>False) w wr
 py:w.heap.size<=p
 my:w.heap.size<=M
 ne:R≠M
section
variable{w wr wx wS w10:World}{p M R base:Nat}{sA:Option Addr}{i sc:Nat}{Z:List ZV}{A:Option Addr}{n c:Nat}{t:List UInt8}
theorem UI.quiet(h:UI w wr p M R base sA i sc Z A n c t)(T:aC (λ_=>False) wr wx):UI w wx p M R base sA i sc Z A n c t :=
 ⟨h.rdr.quiet T,h.blk.touch T (λf=>f),aD h.own T (λ_ _ f=>f),h.len,λz hz=>(h.el z hz).quiet T,h.res.touch T (λf=>f),h.touch.then T,h.fresh,h.py,h.my,h.ne⟩
theorem UI.kept(h:UI w wr p M R base sA i sc Z A n c t)(T:aC (λg=>g=p) wr wx):aL wx M 89 #[.int .i64 base,.slice sA i sc]/\wx.ownsRow 0 170 3 (.slice sA i sc) i (fL Z)/\(∀ z∈Z,z.Ok wx)/\aL wx R 89 #[.int .i64 0,.slice none 0 0]/\aC (λ_=>False) w wx:=by
 have hp:=aF h.rdr.blk
 exact⟨h.blk.touch T (λe=>(aF h.blk).ne hp (by decide) e),aD h.own T (λg hg e=>(aH h.own hg).ne hp (by decide) e),λz hz=>(h.el z hz).touch T (λg hg e=>hg.ne hp (by decide) (qZa _) e),h.res.touch T (λe=>(aF h.res).ne hp (by decide) e),h.touch.trans T (λk hk e=>by have:=h.py;omega)⟩
theorem UI.blk10(h:UI w wr p M R base sA i sc Z A n c t)(T:aC (λg=>g=p) wr wS)(o:Obj)(hg:(wS.alloc o).grownBy w10 (Value.slice sA i sc).ownBlock):aL w10 M 89 #[.int .i64 base,.slice sA i sc]:=by
 obtain⟨k1,k2,k3,k4,k5⟩:=h.kept T
 have T1:aC (λ_=>False) wS (wS.alloc o):=(aC.refl _ _).alloc _
 have hb:=k1.touch T1 (λf=>f)
 have ho:=aD k2 T1 (λ_ _ f=>f)
 exact hb.grown hg (λe=>(aH ho e.symm).ne (aF hb) (by decide) rfl)
theorem UI.grow(h:UI w wr p M R base sA i sc Z A n c t)(T:aC (λg=>g=p) wr wS)(o:Obj)(hg:(wS.alloc o).grownBy w10 (Value.slice sA i sc).ownBlock)(v:Value)(hr:lJ wS p A' n' c' t' k) :
  lJ (w10.setCell ⟨M,1,none⟩ v) p A' n' c' t' k/\aL (w10.setCell ⟨M,1,none⟩ v) M 89 #[.int .i64 base,v]/\aL (w10.setCell ⟨M,1,none⟩ v) R 89 #[.int .i64 0,.slice none 0 0]/\aC (λ_=>False) w (w10.setCell ⟨M,1,none⟩ v)/\(∀ z:ZV,z.Ok wS->z.Ok (w10.setCell ⟨M,1,none⟩ v))/\aC (λg=>g=M\/(Value.slice sA i sc).ownBlock=some g) wS (w10.setCell ⟨M,1,none⟩ v):=by
 obtain⟨k1,k2,k3,k4,k5⟩:=h.kept T
 have T1:aC (λ_=>False) wS (wS.alloc o):=(aC.refl _ _).alloc _
 have ho:=aD k2 T1 (λ_ _ f=>f)
 have T10:aC (λg=>(Value.slice sA i sc).ownBlock=some g) (wS.alloc o) w10:=(aC.refl _ _).grown hg (λk hk _=>hk)
 have hno:∀ {ty:TypeId} {g:Nat},bE (wS.alloc o) g ty->ty ≠ 170 -> ¬ (Value.slice sA i sc).ownBlock=some g:=λhg ht e=>hg.ne (aH ho e) ht rfl
 have hbM:=h.blk10 T o hg
 have T11:aC (λg=>g=M) w10 (w10.setCell ⟨M,1,none⟩ v):=(aC.refl (λg=>g=M) _).setCell (λ_=>rfl) _
 have hM:=aF hbM
 have hr10:=(hr.quiet T1).touch T10 (hno (aF (hr.quiet T1).blk) (by decide)) (λg hg=>hno hg (by decide))
 have hR10:=(k4.touch T1 (λf=>f)).touch T10 (hno (aF (k4.touch T1 (λf=>f))) (by decide))
 refine⟨hr10.touch T11 (λe=>(aF hr10.blk).ne hM (by decide) e) (λg hg e=>hg.ne hM (by decide) e),hbM.set_ 1 v,hR10.touch T11 h.ne,?_,?_,?_⟩
 ·exact ((k5.then T1).trans T10 (λk hk e=>absurd (h.fresh k e) (by omega))).trans T11 (λk hk e=>by have:=h.my;omega)
 ·intro z hz
  exact ((hz.quiet T1).touch T10 (λg hg=>hno (ot0 hg) (by decide))).touch T11 (λg hg e=>hg.ne hM (by decide) (qZa _) e)
 ·exact ((T1.up _).trans T10 (λ_ _ e=>.inr e)).trans T11 (λ_ _ e=>.inl e)
theorem UI.step(h:UI w wr p M R base sA i sc Z A n c t)(T:aC (λg=>g=p) wr wS){z:ZV}(hz:z.Ok wS){o:Obj}{g4 cap4:Nat}(hg:(wS.alloc o).grownBy w10 (Value.slice sA i sc).ownBlock)(hl:(Value.slice sA i sc).ownBlock=some g4\/g4=(wS.alloc o).heap.size)(ho:w10.ownsRow 0 170 3 (.slice (some ⟨g4,0,none⟩) (i+1) cap4) (i+1) (fL Z++z.cells))(hr:lJ wS p A' n' c' t' 0) :
  UI w (w10.setCell ⟨M,1,none⟩ (.slice (some ⟨g4,0,none⟩) (i+1) cap4)) p M R base (some ⟨g4,0,none⟩) (i+1) cap4 (Z++[z]) A' n' c' t':=by
 obtain⟨r1,r2,r3,r4,r5,r6⟩:=h.grow T o hg (.slice (some ⟨g4,0,none⟩) (i+1) cap4) hr
 obtain⟨k1,k2,k3,k4,k5⟩:=h.kept T
 have hbM:=h.blk10 T o hg
 have T11:aC (λg=>g=M) w10 (w10.setCell ⟨M,1,none⟩ (.slice (some ⟨g4,0,none⟩) (i+1) cap4)):=(aC.refl (λg=>g=M) _).setCell (λ_=>rfl) _
 refine⟨r1,r2,?_,by rw[qJa,h.len];rfl,?_,r3,r4,?_,h.py,h.my,h.ne⟩
 ·have e:fL (Z++[z])=fL Z++z.cells:=by simp[fL]
  rw[e]
  exact aD ho T11 (λg hg e=>(aH ho hg).ne (aF hbM) (by decide) e)
 ·intro x hx
  rcases List.mem_append.1 hx with hx | hx
  ·exact r5 x (k3 x hx)
  ·rw[List.mem_singleton.1 hx]
   exact r5 z hz
 ·intro g hg'
  injection hg' with hg'
  rcases hl with e | e
  ·exact h.fresh g (hg' ▸ e)
  ·have:=k5.size
   simp only at hg'
   rw[<-hg',e]
   simp
   omega
theorem UI.fail(h:UI w wr p M R base sA i sc Z A n c t)(T:aC (λg=>g=p) wr wS){o:Obj}(hg:(wS.alloc o).grownBy w10 (Value.slice sA i sc).ownBlock)(v:Value)(hk:1<=k)(hr:lJ wS p A' n' c' t' k):UB w (w10.setCell ⟨M,1,none⟩ v) p M R:=by
 obtain⟨r1,r2,r3,r4,r5,r6⟩:=h.grow T o hg v hr
 exact⟨⟨_,_,_,_,_,hk,r1⟩,r3,r4,h.py,h.my,h.ne⟩
theorem UI.sts(h:UI w wr p M R base sA i sc Z A n c t):iT wr sA i Z:=⟨Ar.of_own h.own,h.len,h.el⟩
end
theorem Yf{acc:List iS}(hi:i<cnt)(h:jU cnt 0 t2=(jU (cnt-i) i t).map λr=>(acc++r.1,r.2)){z:iS}(hz:zZ i t=some (z,t')):jU cnt 0 t2=(jU (cnt-(i+1)) (i+1) t').map λr=>((acc++[z])++r.1,r.2):=by
 rw[h,show cnt-i=(cnt-(i+1))+1 by omega]
 simp only[jU,hz]
 cases jU (cnt-(i+1)) (i+1) t' with
 | none=>rfl
 | some r=>simp
theorem Yg{acc:List iS}(hi:i<cnt)(h:jU cnt 0 t2=(jU (cnt-i) i t).map λr=>(acc++r.1,r.2))(hz:zZ i t=none):jU cnt 0 t2=none:=by
 rw[h,show cnt-i=(cnt-(i+1))+1 by omega]
 simp only[jU,hz]
 rfl
theorem aAi:(Tryz.prog.info? 170).map (λi=>(i.zero,i.size,i.bytes))=some (some (.agg #[.bool false,.int .i64 0,.slice none 0 0]),3,40):=by kernel_rfl
def XN(k:Int)(n:Nat):Prop:=¬ (k=0/\n=0)
theorem mZ{m:Nat}(h:bU m bs=some (n,t)):t.length<=bs.length:=by
 rw[(bN h).1,qJa]
 omega
theorem xG(i:Nat):∀ (k:Nat) (l:Int) (bs:List UInt8) (ars:List (Int × Int × Int)) (t:List UInt8),dV i k l bs=some (ars,t)->t.length<=bs.length
 | 0,l,bs,ars,t,h=>by
  simp only[dV,Option.some.injEq,Prod.mk.injEq] at h
  rw[h.2]
  exact qQa _
 | k+1,l,bs,ars,t,h=>by
  simp only[dV] at h
  split at h
  ·cases h
  ·rename_i d t1 e1
   split at h
   ·cases h
   ·rename_i o t2 e2
    split at h
    ·cases h
    ·rename_i b t3 e3
     split at h
     ·cases h
     ·rename_i ars' t4 e4
      simp only[Option.some.injEq,Prod.mk.injEq] at h
      obtain⟨_,rfl⟩:=h
      have h1:=mZ e1
      have h2:=mZ e2
      have h3:=mZ e3
      have h4:=xG i k _ _ _ _ e4
      omega
theorem aBy{z:iS}(h:zZ i bs=some (z,t)):t.length<=bs.length:=by
 unfold zZ at h
 split at h
 ·cases h
 ·rename_i n t1 e1
  split at h
  ·cases h
  ·rename_i o t2 e2
   split at h
   ·cases h
   ·rename_i ars t3 e3
    simp only[Option.some.injEq,Prod.mk.injEq] at h
    obtain⟨_,rfl⟩:=h
    have h1:=mZ e1
    have h3:=xG _ _ _ _ _ _ e3
    have h2:t2.length<=t1.length:=by
     unfold iU at e2
     split at e2
     ·exact mZ e2
     ·simp only[Option.some.injEq,Prod.mk.injEq] at e2
      rw[e2.2]
      exact qQa _
    omega
theorem Nh(w:World)(hL:dN w)(A:Option Addr)(n c:Nat)(bs:List UInt8)(hr:aI w 1 A n (bs.map aP))(hl:bs.length=n)(hn:n<=4398046511104) :
  Calls Tryz.prog 55 #[.slice A n c] w λe w'=>Zj bs w e w':=by
 obtain⟨i1,hi1,hy0,hy1,hy2⟩:=aO aAi
 obtain⟨w0,hw0⟩:=eX (w.alloc (.cells #[.int .i64 0,.slice none 0 0] 89))
 have hT0:aC (λ_=>False) w w0:=by rw[hw0];exact (aC.refl _ _).alloc _
 have hbR:aL w0 w.heap.size 89 #[.int .i64 0,.slice none 0 0]:=by rw[hw0];exact aL.new _ _ _
 obtain⟨R,hR⟩:=eX w.heap.size
 rw[<-hR] at hbR
 have hrd:=Xa w0 A n c bs (hr.touch hT0 (λ_ _ f=>f)) hl (by omega)
 have HL:=aB hL
 have HLN:=aB hl
 have HN:=aB hn
 have HW0:=aB hw0
 have HT0:=aB hT0
 have HBR:=aB hbR
 have HRR:=aB hR
 have HRD:=aB hrd
 clear hL hr hl hn hw0 hT0 hbR hR hrd
 go_in
 go_wp2_with fail
 rw[<-HW0.out,<-HRR.out]
 refine HRD.mono ?_
 rintro e w1 ⟨p,A1,n1,c1,rfl,hr1,hp1,T1⟩
 have hb1:=HBR.touch T1 (λf=>f)
 have HP1:=aB (show w.heap.size<=p by have:=HT0.size;omega)
 have HR1:=aB hr1
 have HB1:=aB hb1
 have HT1:=aB (HT0.then T1)
 clear hr1 hb1 T1 hp1
 go_wp2_with fail
 refine (mH w1 p A1 n1 c1 bs HR1 1048576 _ rfl).mono ?_
 rintro e w2 (⟨base,t1,A2,n2,c2,hu1,rfl,hr2,T2⟩ | ⟨hu1,rfl,k,hk,hr2,T2⟩)
 ·have hbb:=(bN hu1).2
  have b0:IntKind.i64.wrap (base:Int)=(base:Int):=lP (by omega)
  have hT2:aC (λ_=>False) w w2:=HT1.trans T2 (λi hi e=>by have:=HP1.out;omega)
  have hb2:=HB1.touch T2 (λe=>(aF HB1).ne (aF HR1.blk) (by decide) e)
  obtain⟨M,hM⟩:=eX w2.heap.size
  obtain⟨w3,hw3⟩:=eX (w2.alloc (.cells #[.int .i64 base,.slice none 0 0] 89))
  have hT3:aC (λ_=>False) w2 w3:=by rw[hw3];exact (aC.refl _ _).alloc _
  have hbM:aL w3 M 89 #[.int .i64 base,.slice none 0 0]:=by rw[hw3,hM];exact aL.new _ _ _
  have hmw:w.heap.size<=M:=by have:=hT2.size;omega
  have hrm:R≠M:=by have:=hb2.lt;omega
  have hui:UI w w3 p M R base none 0 0 [] A2 n2 c2 t1:=⟨hr2.quiet hT3,hbM,World.ownsRow_nil _ _ _ _,rfl,λz hz=>(by cases hz),hb2.touch hT3 (λf=>f),hT2.then hT3,λg hg=>(by cases hg),HP1,hmw,hrm⟩
  have HUI:=aB hui
  have HU1:=aB hu1
  have HBB:=aB hbb
  have HW3:=aB hw3
  have HM:=aB hM
  clear hbb hT2 hb2 hM hw3 hT3 hbM hui hmw hrm hr2 T2 hu1
  go_wp2_with fail
  rw[<-HW3.out,<-HM.out]
  refine (mH w3 p A2 n2 c2 t1 HUI.rdr 98305 _ rfl).mono ?_
  rintro e w4 (⟨cnt,t2,A3,n3,c3,hu2,rfl,hr3,T3⟩ | ⟨hu2,rfl,k,hk,hr3,T3⟩)
  ·have hcb:=(bN hu2).2
   have c0:IntKind.i64.wrap (cnt:Int)=(cnt:Int):=lP (by omega)
   obtain⟨k1,k2,k3,k4,k5⟩:=HUI.kept T3
   have hui4:UI w w4 p M R base none 0 0 [] A3 n3 c3 t2:=⟨hr3,k1,k2,rfl,k3,k4,k5,HUI.fresh,HUI.py,HUI.my,HUI.ne⟩
   have hmach:nQ bs=(jU cnt 0 t2).map λr=>((base,r.1),r.2):=by
    unfold nQ
    rw[HU1.out]
    simp only
    rw[hu2]
    simp only
    cases jU cnt 0 t2 with
    | none=>rfl
    | some r=>rfl
   have HMC:=aB hmach
   have HUI4:=aB hui4
   have HCB:=aB hcb
   have HNL:Hid (t2.length<=4398046511104):=aB (by
    have h1:=congrArg List.length (bN HU1).1
    have h2:=congrArg List.length (bN hu2).1
    rw[qJa] at h1 h2
    have:=HLN.out
    have:=HN.out
    omega)
   clear hcb hu2 hr3 T3 k1 k2 k3 k4 k5 hui4 hmach HU1 HUI HR1 HB1
   go_wp2_with fail
   go_loopw [7] (λiv wr=>∃ i:Nat,iv=.int .i64 i/\i<=cnt/\Hid ((∃ (sA:Option Addr) (sc:Nat) (Z:List ZV) (A:Option Addr) (n c:Nat) (t:List UInt8),UI w wr p M R base sA i sc Z A n c t/\jU cnt 0 t2=(jU (cnt-i) i t).map (λr=>(Z.map ZV.p++r.1,r.2))/\t.length<=t2.length)\/(UB w wr p M R/\nQ bs=none))) (λiv _=>cnt-(intOf iv).toNat)
   case atStart=>exact⟨0,rfl,qZa _,aB (.inl ⟨none,0,[],_,_,_,t2,HUI4,by simp,qQa _⟩)⟩
   case round =>
    obtain⟨i,rfl,hi,HX⟩:=hrel
    obtain⟨wq,hwq⟩:=eX wr
    subst hwq
    have y0:(0:Int)<=(i:Int):=by omega
    have y1:IntKind.i64.wrap ((i:Int)+1)=(i:Int)+1:=qXa _ (by have:=HCB.out;omega)
    rcases HX.out with⟨sA,sc,Z,A5,n5,c5,t5,hUI,hst,htl⟩ | ⟨hUB,hnone⟩
    ·have HUI5:=aB hUI
     have HST:=aB hst
     have HTL:=aB htl
     have HER:=aB (gT wq p A5 n5 c5 t5 0 hUI.rdr)
     by_cases hic:i<cnt
     ·have j0:(i:Int)<(cnt:Int):=by omega
      have hst5:∀ wx,aC (λ_=>False) wq wx->Calls Tryz.prog 116 #[.pointer (some ⟨p,0,none⟩),.int .i64 i] wx λe w'=>Uh p i t5 wx e w':=λwx T =>
       Ni wx p A5 n5 c5 t5 (hUI.rdr.quiet T) (by have:=hUI.rdr.len;have:=HNL.out;omega) i (by have:=HCB.out;omega)
      have HS5:=aB hst5
      have HIC:=aB hic
      have hbb1:i+1<=maxLen:=by unfold maxLen;have:=HCB.out;omega
      have hbb2:(i+1)*40<=140737488355328:=by have:=HCB.out;omega
      have HBB2:=aB (And.intro hbb1 hbb2)
      obtain⟨m0,m1,m2⟩:=hUI.blk.facts
      clear hUI hst htl hst5 hic hi HX hbb1 hbb2
      go_wp2_with fail
      refine HER.mono ?_
      rintro e wx ⟨rfl,hwx⟩
      subst hwx
      go_wp2_with fail
      go_region_law (first
       | (go_simp;go_at_call 116;refine (HS5 _ (by first | exact aC.refl _ _ | exact (aC.refl _ _).drew)).mono ?_;rintro e wS ⟨z,rfl,TS,hS⟩;have HTS:=aB TS;have HSS:=aB hS;clear TS hS;obtain⟨f0,f1,f2⟩:=((HUI5.quiet (aC.refl (λ_=>False) wx).drew).kept HTS).1.facts)
       | (refine step_append_lies _ rfl (.tmp 28) (.tmp 32) 87 rfl 0 170 i1 _ 3 40 Tryz.underlying87 hi1 hy0 hy1 hy2 (by decide) (by decide) (.slice sA i sc) i _ (by simp[Act.eval]) (aD ((HUI5.quiet (aC.refl (λ_=>False) wx).drew).kept HTS).2.1 ((aC.refl _ _).alloc _) (λ_ _ f=>f)) ⟨wS.heap.size,0,none⟩ 1 1 [.bool z.fin,.int .i64 z.out,.slice z.A z.n z.c] (by simp[Act.eval]) rfl ?news ?one (by decide) HBB2.1 HBB2.2 (qZa _) _ rfl ?_;(case news=>exact World.news_of_block (aL.new wS _ _));(case one=>exact List.all_eq_true.1 rfl);intro g4 cap4 w9 hown hgrow hlies _;obtain⟨q1,q2,q3⟩:=((HUI5.quiet (aC.refl (λ_=>False) wx).drew).blk10 HTS _ hgrow).facts;have HO9:=aB hown;have HG9:=aB hgrow;have HLI:=aB hlies;clear hown hgrow hlies))
      all_goals go_wp2_with fail
      all_goals go_roundw
      all_goals first
       | (have:=HIC.out;simp only[intOf];omega)
       | (have hui6:=HUI5.quiet (aC.refl (λ_=>False) wx).drew
          rcases HSS.out with⟨t6,hz6,hzo,A6,n6,c6,hr6⟩ | ⟨hz6,A6,n6,c6,t6,k6,hk6,hr6⟩
          ·refine⟨i+1,by simp,by have:=HIC.out;omega,aB (.inl ⟨_,cap4,Z++[z],A6,n6,c6,t6,hui6.step HTS hzo HG9 HLI HO9 hr6,?_,?_⟩)⟩
           ·rw[List.map_append]
            exact Yf HIC HST hz6
           ·have h1:=aBy hz6
            have h2:=HTL.out
            omega
          ·refine⟨i+1,by simp,by have:=HIC.out;omega,aB (.inr ⟨hui6.fail HTS HG9 _ hk6 hr6,?_⟩)⟩
           rw[HMC.out,Yg HIC.out HST.out hz6]
           rfl)
     ·have hie:i=cnt:=by omega
      have j0:¬ (i:Int)<(cnt:Int):=by omega
      rw[hie,Nat.sub_self] at hst
      simp only[jU,Option.map_some,qQb] at hst
      have hm:nQ bs=some ((base,Z.map ZV.p),t5):=by rw[HMC.out,hst];rfl
      have HM5:=aB hm
      have HRDR:=aB hUI.rdr
      have HRES:=aB hUI.res
      have HTCH:=aB hUI.touch
      have HL5:=aB hUI.rdr.len
      clear hUI hst htl HX hie hi hic hm
      by_cases hn5:n5=0
      ·have ht5:t5=[]:=List.eq_nil_of_length_eq_zero (by rw[HL5.out];exact hn5)
       have HT5:=aB ht5
       have HN5:=aB hn5
       have HGR:=aB (yK wq (dN.touch HL HTCH) base sA i sc Z HUI5.sts (kT HUI5.own) (qZa _))
       have HEN:=aB (lO wq p _ _ _ _ _ HRDR)
       obtain⟨m0,m1,m2⟩:=HUI5.blk.facts
       clear ht5 hn5
       go_wp2_with fail
       refine HEN.mono ?_
       rintro e wx ⟨x,rfl,hx,hwx⟩
       subst hwx
       have hx0:x=0:=hx.2 ⟨rfl,HN5⟩
       subst hx0
       clear hx HEN
       go_wp2_with fail
       refine HGR.mono ?_
       rintro e wy ⟨⟨v,rfl,hv⟩,T9⟩
       obtain⟨rr0,rr1,rr2⟩:=(HRES.touch T9 (λf=>f)).facts
       have HRS:=aB (HRES.touch T9 (λf=>f))
       have HT9:=aB T9
       have HTC9:=aB (HTCH.then T9)
       clear m0 m1 m2
       obtain⟨m0,m1,m2⟩:=(HUI5.blk.touch T9 (λf=>f)).facts
       have hsz:=HUI5.sts.quiet T9
       have hsc:=(cT HUI5.own).1
       have HSZ:=aB hsz
       have HSC:=aB hsc
       cases v with
       | true =>
        obtain⟨sts,hzs,hrg⟩:=hv.1 rfl
        obtain⟨Y,hY,hsY⟩:=hsz.ok hzs
        have hbs:bs=eU base sts:=Yp (by rw[HM5.out,hzs,HT5.out]) hrg
        have HY:=aB hY
        have HSY:=aB hsY
        have HRG:=aB hrg
        have HBS:=aB hbs
        clear hv hzs hY hsY hrg hbs T9 hsz hsc HGR
        go_wp2_with fail
        have hbF:=(HRS.set_ 0 (.int .i64 base)).set_ 1 (.slice sA i sc)
        have g0:=hbF.cell 0
        have g1:=hbF.cell 1
        have hTF:aC (λ_=>False) w ((wy.setCell ⟨R,0,none⟩ (.int .i64 base)).setCell ⟨R,1,none⟩ (.slice sA i sc)):=by
         iterate 2 refine aC.setCell ?_ (λh=>by have:=HRR.out;simp only at h;omega) _
         exact HTC9
        have hTR:aC (λg=>g=R) wy ((wy.setCell ⟨R,0,none⟩ (.int .i64 base)).setCell ⟨R,1,none⟩ (.slice sA i sc)) :=
         ((aC.refl (λg=>g=R) wy).setCell (p:=⟨R,0,none⟩) (λ_=>rfl) _).setCell (p:=⟨R,1,none⟩) (λ_=>rfl) _
        have hfin:mN ((wy.setCell ⟨R,0,none⟩ (.int .i64 base)).setCell ⟨R,1,none⟩ (.slice sA i sc)) sA i Y :=
         ⟨HSY.rd.touch hTR (λg hg e=>hg.ne (aF HRS) (by decide) (qZa _) e),HSY.len,λz hz=>(HSY.el z hz).touch hTR (λg hg e=>hg.ne (aF HRS) (by decide) (qZa _) e)⟩
        exact bodyPost_ret (v:=.tuple #[.agg #[.int .i64 base,.slice sA i sc],.int .i64 0]) (by simp[results,Tryz.results55,go_sem,g0,g1]) rfl ⟨hTF,.inl ⟨base,sts,HBB,Is HRG,HRG,HBS,sA,i,sc,Y,rfl,hfin,HY,HSC⟩⟩
       | false =>
        have hno:=oV (bs:=bs) (λb2 z2 hm2 hr2=>by
         rw[HM5.out] at hm2
         simp only[Option.some.injEq,Prod.mk.injEq] at hm2
         obtain⟨⟨rfl,rfl⟩,_⟩:=hm2
         have:=hv.2 hr2
         cases this)
        have HNO:=aB hno
        clear hv T9 hsz hsc HGR hno
        go_wp2_with fail
        have hbF:=(HRS.set_ 0 (.int .i64 0)).set_ 1 (.slice none 0 0)
        have g0:=hbF.cell 0
        have g1:=hbF.cell 1
        have hTF:aC (λ_=>False) w ((wy.setCell ⟨R,0,none⟩ (.int .i64 0)).setCell ⟨R,1,none⟩ (.slice none 0 0)):=by
         iterate 2 refine aC.setCell ?_ (λh=>by have:=HRR.out;simp only at h;omega) _
         exact HTC9
        exact bodyPost_ret (v:=.tuple #[.agg #[.int .i64 0,.slice none 0 0],.int .i64 80]) (by simp[results,Tryz.results55,go_sem,g0,g1]) rfl ⟨hTF,.inr ⟨HNO,rfl⟩⟩
      ·have hno:=oV (bs:=bs) (λb2 z2 hm2 hr2=>by
        rw[HM5.out] at hm2
        simp only[Option.some.injEq,Prod.mk.injEq] at hm2
        have h1:=HL5.out
        rw[hm2.2] at h1
        simp only[List.length_nil] at h1
        omega)
       have HNO:=aB hno
       have HXN:=aB (show XN 0 n5 from λh=>hn5 h.2)
       clear hno hn5
       have HEN:=aB (lO wq p _ _ _ _ _ HRDR)
       obtain⟨rr0,rr1,rr2⟩:=HRES.facts
       go_wp2_with fail
       refine HEN.mono ?_
       rintro e wx ⟨x,rfl,hx,hwx⟩
       subst hwx
       have hx0:¬ x=0:=λe=>HXN.out (hx.1 e)
       have hx1:(x == 0)=false:=by simp;exact hx0
       have hx2:(x != 0)=true:=by simp;exact hx0
       clear hx HEN
       go_wp2_with fail
       have hbF:=(HRES.set_ 0 (.int .i64 0)).set_ 1 (.slice none 0 0)
       have g0:=hbF.cell 0
       have g1:=hbF.cell 1
       have hTF:aC (λ_=>False) w ((wx.setCell ⟨R,0,none⟩ (.int .i64 0)).setCell ⟨R,1,none⟩ (.slice none 0 0)):=by
        iterate 2 refine aC.setCell ?_ (λh=>by have:=HRR.out;simp only at h;omega) _
        exact HTCH
       exact bodyPost_ret (v:=.tuple #[.agg #[.int .i64 0,.slice none 0 0],.int .i64 80]) (by simp[results,Tryz.results55,go_sem,g0,g1]) rfl ⟨hTF,.inr ⟨HNO,rfl⟩⟩
    ·obtain⟨A5,n5,c5,t5,k5,hk5,hr5⟩:=hUB.rdr
     have HRDR:=aB hr5
     have HRES:=aB hUB.res
     have HTCH:=aB hUB.touch
     have HNO:=aB (oV (bs:=bs) (λb2 z2 hm2 hr2=>by rw[hnone] at hm2;cases hm2))
     have HXN:=aB (show XN k5 n5 from λh=>by have:=h.1;omega)
     have HER:=aB (gT wq p A5 n5 c5 t5 k5 hr5)
     have k1:(k5 == 0)=false:=by simp;omega
     have k2:¬ k5=0:=by omega
     clear hUB hnone hr5 hk5 HX
     by_cases hic:i<cnt
     ·have j0:(i:Int)<(cnt:Int):=by omega
      clear hic hi
      go_wp2_with fail
      refine HER.mono ?_
      rintro e wx ⟨rfl,hwx⟩
      subst hwx
      have HEN:=aB (lO wx p _ _ _ _ _ HRDR)
      obtain⟨rr0,rr1,rr2⟩:=HRES.facts
      go_wp2_with fail
      refine HEN.mono ?_
      rintro e wx ⟨x,rfl,hx,hwx⟩
      subst hwx
      have hx0:¬ x=0:=λe=>HXN.out (hx.1 e)
      have hx1:(x == 0)=false:=by simp;exact hx0
      have hx2:(x != 0)=true:=by simp;exact hx0
      clear hx HEN
      go_wp2_with fail
      have hbF:=(HRES.set_ 0 (.int .i64 0)).set_ 1 (.slice none 0 0)
      have g0:=hbF.cell 0
      have g1:=hbF.cell 1
      have hTF:aC (λ_=>False) w ((wx.setCell ⟨R,0,none⟩ (.int .i64 0)).setCell ⟨R,1,none⟩ (.slice none 0 0)):=by
       iterate 2 refine aC.setCell ?_ (λh=>by have:=HRR.out;simp only at h;omega) _
       exact HTCH
      exact bodyPost_ret (v:=.tuple #[.agg #[.int .i64 0,.slice none 0 0],.int .i64 80]) (by simp[results,Tryz.results55,go_sem,g0,g1]) rfl ⟨hTF,.inr ⟨HNO,rfl⟩⟩
     ·have j0:¬ (i:Int)<(cnt:Int):=by omega
      clear hic hi
      have HEN:=aB (lO wq p _ _ _ _ _ HRDR)
      obtain⟨rr0,rr1,rr2⟩:=HRES.facts
      go_wp2_with fail
      refine HEN.mono ?_
      rintro e wx ⟨x,rfl,hx,hwx⟩
      subst hwx
      have hx0:¬ x=0:=λe=>HXN.out (hx.1 e)
      have hx1:(x == 0)=false:=by simp;exact hx0
      have hx2:(x != 0)=true:=by simp;exact hx0
      clear hx HEN
      go_wp2_with fail
      have hbF:=(HRES.set_ 0 (.int .i64 0)).set_ 1 (.slice none 0 0)
      have g0:=hbF.cell 0
      have g1:=hbF.cell 1
      have hTF:aC (λ_=>False) w ((wx.setCell ⟨R,0,none⟩ (.int .i64 0)).setCell ⟨R,1,none⟩ (.slice none 0 0)):=by
       iterate 2 refine aC.setCell ?_ (λh=>by have:=HRR.out;simp only at h;omega) _
       exact HTCH
      exact bodyPost_ret (v:=.tuple #[.agg #[.int .i64 0,.slice none 0 0],.int .i64 80]) (by simp[results,Tryz.results55,go_sem,g0,g1]) rfl ⟨hTF,.inr ⟨HNO,rfl⟩⟩
  ·have HRDR:=aB hr3
   obtain⟨k1,k2,k3,k4,k5⟩:=HUI.kept T3
   have HRES:=aB k4
   have HTCH:=aB k5
   have HNO:=aB (oV (bs:=bs) (λb2 z2 hm2 hr2=>by
    unfold nQ at hm2
    rw[HU1.out] at hm2
    simp only at hm2
    rw[hu2] at hm2
    cases hm2))
   have HXN:=aB (show XN k n2 from λh=>by have:=h.1;omega)
   have HER:=aB (gT w4 p A2 n2 c2 t1 k hr3)
   clear hu2 hr3 T3 k1 k2 k3 k4 k5 hk
   go_wp2_with fail
   go_loopw [7] (λiv wr=>iv=.int .i64 0/\Hid (wr=w4)) (λ_ _=>0)
   case atStart=>exact⟨rfl,aB rfl⟩
   case round =>
    obtain⟨rfl,hwr⟩:=hrel
    have hwr:=hwr.out
    subst hwr
    have HEN:=aB (lO wr p _ _ _ _ _ HRDR)
    obtain⟨rr0,rr1,rr2⟩:=HRES.facts
    go_wp2_with fail
    refine HEN.mono ?_
    rintro e wx ⟨x,rfl,hx,hwx⟩
    subst hwx
    have hx0:¬ x=0:=λe=>HXN.out (hx.1 e)
    have hx1:(x == 0)=false:=by simp;exact hx0
    have hx2:(x != 0)=true:=by simp;exact hx0
    clear hx HEN
    go_wp2_with fail
    have hbF:=(HRES.set_ 0 (.int .i64 0)).set_ 1 (.slice none 0 0)
    have g0:=hbF.cell 0
    have g1:=hbF.cell 1
    have hTF:aC (λ_=>False) w ((wx.setCell ⟨R,0,none⟩ (.int .i64 0)).setCell ⟨R,1,none⟩ (.slice none 0 0)):=by
     iterate 2 refine aC.setCell ?_ (λh=>by have:=HRR.out;simp only at h;omega) _
     exact HTCH
    exact bodyPost_ret (v:=.tuple #[.agg #[.int .i64 0,.slice none 0 0],.int .i64 80]) (by simp[results,Tryz.results55,go_sem,g0,g1]) rfl ⟨hTF,.inr ⟨HNO,rfl⟩⟩
 ·have HRDR:=aB hr2
  have hT2:aC (λ_=>False) w w2:=HT1.trans T2 (λi hi e=>by have:=HP1.out;omega)
  have hb2:=HB1.touch T2 (λe=>(aF HB1).ne (aF HR1.blk) (by decide) e)
  obtain⟨w3,hw3⟩:=eX (w2.alloc (.cells #[.int .i64 0,.slice none 0 0] 89))
  have hT3:aC (λ_=>False) w2 w3:=by rw[hw3];exact (aC.refl _ _).alloc _
  have HRDR:=aB (hr2.quiet hT3)
  have HRES:=aB (hb2.touch hT3 (λf=>f))
  have HTCH:=aB (hT2.then hT3)
  have HNO:=aB (oV (bs:=bs) (λb2 z2 hm2 hr2=>by
   unfold nQ at hm2
   rw[hu1] at hm2
   cases hm2))
  have HXN:=aB (show XN k n1 from λh=>by have:=h.1;omega)
  have HUN:=aB (λm hm=>uM w3 p A1 n1 c1 bs k HRDR hk m hm)
  have HW3:=aB hw3
  clear hr2 hT2 hb2 hw3 hT3 hu1 hk T2
  go_wp2_with fail
  rw[<-HW3.out]
  refine (HUN 98305 (by decide)).mono ?_
  rintro e w4 ⟨rfl,hw4⟩
  subst hw4
  go_wp2_with fail
  go_loopw [7] (λiv wr=>iv=.int .i64 0/\Hid (wr=w3)) (λ_ _=>0)
  case atStart=>exact⟨rfl,aB rfl⟩
  case round =>
   obtain⟨rfl,hwr⟩:=hrel
   have hwr:=hwr.out
   subst hwr
   have HEN:=aB (lO wr p _ _ _ _ _ HRDR)
   obtain⟨rr0,rr1,rr2⟩:=HRES.facts
   go_wp2_with fail
   refine HEN.mono ?_
   rintro e wx ⟨x,rfl,hx,hwx⟩
   subst hwx
   have hx0:¬ x=0:=λe=>HXN.out (hx.1 e)
   have hx1:(x == 0)=false:=by simp;exact hx0
   have hx2:(x != 0)=true:=by simp;exact hx0
   clear hx HEN
   go_wp2_with fail
   have hbF:=(HRES.set_ 0 (.int .i64 0)).set_ 1 (.slice none 0 0)
   have g0:=hbF.cell 0
   have g1:=hbF.cell 1
   have hTF:aC (λ_=>False) w ((wx.setCell ⟨R,0,none⟩ (.int .i64 0)).setCell ⟨R,1,none⟩ (.slice none 0 0)):=by
    iterate 2 refine aC.setCell ?_ (λh=>by have:=HRR.out;simp only at h;omega) _
    exact HTCH
   exact bodyPost_ret (v:=.tuple #[.agg #[.int .i64 0,.slice none 0 0],.int .i64 80]) (by simp[results,Tryz.results55,go_sem,g0,g1]) rfl ⟨hTF,.inr ⟨HNO,rfl⟩⟩
structure aU where
 seq:Int
 code:Int
 sess:Int
 had:Int
deriving DecidableEq
def aU.zero:aU:=⟨0,0,0,0⟩
def aU.cells(r:aU):List Value:=[.int .u64 r.seq,.int .i64 r.code,.int .u64 r.sess,.int .i64 r.had]
def bQ(l:List aU):List Value:=l.flatMap aU.cells
def sW(w:World)(p:Nat)(v:Value)(l:List aU):Prop :=
 aL w p 149 #[v]/\w.ownsRow 0 110 4 v l.length (bQ l)
theorem Tryz.infoRow:(Tryz.prog.info? 110).map (λi=>(i.zero,i.size,i.bytes))=some (some (.agg #[.int .u64 0,.int .i64 0,.int .u64 0,.int .i64 0]),4,32):=by kernel_rfl
theorem aBt(w:World):Calls Tryz.prog 31 #[] w λe w' =>
  e=.returned (.pointer (some ⟨w.heap.size,0,none⟩))/\sW w' w.heap.size (.slice none 0 0) []/\aC (λ_=>False) w w':=by
 go_in
 go_wp2
 go_ret
 exact⟨rfl,⟨aL.new _ _ _,World.ownsRow_nil _ _ _ _⟩,(aC.refl _ _).alloc _⟩
def mF(l:List aU)(id:Int):Bool:=decide (1<=id) && decide (id<=(l.length:Int))
theorem kH(w:World)(p:Nat)(v:Value)(l:List aU)(h:sW w p v l)(id:Int) :
  Calls Tryz.prog 80 #[.pointer (some ⟨p,0,none⟩),.int .u64 id] w λe w' =>
   e=.returned (.bool (mF l id))/\w=w':=by
 obtain⟨hb,ho⟩:=h
 obtain⟨A,c,hv,_,hc⟩:=aX ho
 have hm:=kT ho
 unfold maxLen at hc hm
 subst hv
 have c0:=hb.cell 0
 simp at c0
 clear ho hb
 go_in
 go_wp2
 ·have h1:1<=id:=by assumption
  go_ret
  exact⟨by simp[mF,h1],rfl⟩
 ·have h1:id<1:=by assumption
  go_ret
  exact⟨by simp[mF,show ¬ 1<=id by omega],rfl⟩
theorem Dz(l:List aU)(id:Int)(h:mF l id=true):∃ k:Nat,id=(k:Int)+1/\k<l.length:=by
 unfold mF at h
 simp at h
 exact⟨(id-1).toNat,by omega,by omega⟩
theorem dH(l:List aU)(k:Nat)(hk:k<l.length)(j:Nat)(hj:j<4):(bQ l)[4*k+j]? = (l[k].cells)[j]? := by
 induction l generalizing k with
 | nil=>simp at hk
 | cons r l ih =>
  have hl:r.cells.length=4:=rfl
  cases k with
  | zero =>
   simp only[bQ,qZb,Nat.mul_zero,Nat.zero_add,List.getElem_cons_zero]
   rw[List.getElem?_append_left (by omega)]
  | succ k =>
   simp only[bQ,qZb,List.getElem_cons_succ]
   rw[List.getElem?_append_right (by omega),hl,show 4*(k+1)+j-4=4*k+j by omega]
   exact ih k (by simpa using hk)
theorem Pd{l:List aU}(h:sW w p v l)(k:Nat)(hk:k<l.length) :
  ∃ g cap,v=.slice (some ⟨g,0,none⟩) l.length cap/\l.length<=cap/\cap<=maxLen/\g<w.heap.size/\p<w.heap.size/\p≠g/\w.cell? ⟨p,0,none⟩=some (.slice (some ⟨g,0,none⟩) l.length cap) /\
   w.cell? ⟨g,k*4,none⟩=some (.int .u64 l[k].seq)/\w.cell? ⟨g,k*4+1,none⟩=some (.int .i64 l[k].code) /\
   w.cell? ⟨g,k*4+2,none⟩=some (.int .u64 l[k].sess)/\w.cell? ⟨g,k*4+3,none⟩=some (.int .i64 l[k].had):=by
 obtain⟨hb,ho⟩:=h
 obtain⟨g,cap,rfl,h1,h2,h3,h4,_⟩:=iM ho (by omega)
 have hc:=hb.cell 0
 simp at hc
 refine⟨g,cap,rfl,h1,h2,h3,hb.lt,?_,hc,?_,?_,?_,?_⟩
 ·rintro rfl
  exact jC ho hb (by decide) rfl
 ·exact h4 _ _ (by have:=dH l k hk 0 (by omega);rw[show k*4=4*k+0 by omega,this];rfl)
 ·exact h4 _ _ (by have:=dH l k hk 1 (by omega);rw[show k*4+1=4*k+1 by omega,this];rfl)
 ·exact h4 _ _ (by have:=dH l k hk 2 (by omega);rw[show k*4+2=4*k+2 by omega,this];rfl)
 ·exact h4 _ _ (by have:=dH l k hk 3 (by omega);rw[show k*4+3=4*k+3 by omega,this];rfl)
structure mK where
 c:Int
 s:Int
 h:Int
 b:Bool
 e:Int
def mK.val(R:mK):Value:=.tuple #[.agg #[.int .i64 R.c,.int .u64 R.s,.int .i64 R.h],.bool R.b,.int .i64 R.e]
def Zw(t:Bool)(r:aU)(seq:Int):mK :=
 if t=false then ⟨0,0,0,false,150⟩ else if seq=0\/seq<r.seq then ⟨0,0,0,false,151⟩ else if seq=r.seq then ⟨r.code,r.sess,r.had,true,0⟩ else ⟨0,0,0,false,0⟩
def Dj(l:List aU)(id:Int):aU:=l.getD (id-1).toNat aU.zero
theorem zL(l:List aU)(k:Nat)(hk:k<l.length):Dj l ((k:Int)+1)=l[k]:=by
 unfold Dj
 rw[show ((k:Int)+1-1).toNat=k by omega]
 simp[List.getD,hk]
theorem sW.touch{w':World}{l:List aU}{S:Nat->Prop}(h:sW w p v l)(ht:aC S w w')(hp:¬ S p)(hv:∀ g,v.ownBlock=some g->¬ S g):sW w' p v l :=
 ⟨h.1.touch ht hp,aD h.2 ht hv⟩
theorem sW.alloc{l:List aU}(h:sW w p v l)(o:Obj):sW (w.alloc o) p v l :=
 h.touch (S:=λ_=>False) ((aC.refl _ _).alloc o) (λf=>f) (λ_ _ f=>f)
theorem sW.len{l:List aU}(h:sW w p v l):l.length<=9223372036854775807:=by
 have:=kT h.2
 unfold maxLen at this
 omega
theorem Su(w:World)(p:Nat)(v:Value)(l:List aU)(h:sW w p v l)(id seq:Int)(R:mK)(hR:Zw (mF l id) (Dj l id) seq=R) :
  Calls Tryz.prog 36 #[.pointer (some ⟨p,0,none⟩),.int .u64 id,.int .u64 seq] w λe w' =>
   e=.returned R.val/\aC (λ_=>False) w w':=by
 subst hR
 cases ht:mF l id with
 | false =>
  have H:=aB (show Zw false (Dj l id) seq=⟨0,0,0,false,150⟩ from rfl)
  go_in
  go_wp2_with (go_at_call 80;refine (kH _ p v l (h.alloc _) id).mono ?_;rintro e w' ⟨rfl,rfl⟩)
  refine bodyPost_ret (v:=mK.val ⟨0,0,0,false,150⟩) (by simp[results,Tryz.results36,mK.val,go_sem]) rfl ⟨?_,(aC.refl _ _).alloc _⟩
  rw[H.out]
 | true =>
  obtain⟨k,rfl,hk⟩:=Dz l id ht
  have hl:=h.len
  rw[zL l k hk]
  obtain⟨g,cap,rfl,n1,n2,n3,n4,n5,c0,c1,c2,c3,c4⟩:=Pd h k hk
  unfold maxLen at n2
  obtain⟨⟨rs,rc,rr,rh⟩,hr⟩:∃ r,r=l[k]:=⟨_,rfl⟩
  rw[<-hr] at c1 c2 c3 c4 ⊢
  clear hr
  by_cases h0:seq=0
  ·subst h0
   go_in
   go_wp2_with (go_at_call 80;refine (kH _ p _ l (h.alloc _) _).mono ?_;rintro e w' ⟨rfl,rfl⟩)
   refine bodyPost_ret (v:=mK.val ⟨0,0,0,false,151⟩) (by simp[results,Tryz.results36,mK.val,go_sem]) rfl ⟨?_,((aC.refl _ _).alloc _).alloc _⟩
   simp[Zw]
  have b0:(seq == 0)=false:=by simpa using h0
  by_cases h1:seq<rs
  ·go_in
   go_wp2_with (go_at_call 80;refine (kH _ p _ l (h.alloc _) _).mono ?_;rintro e w' ⟨rfl,rfl⟩)
   refine bodyPost_ret (v:=mK.val ⟨0,0,0,false,151⟩) (by simp[results,Tryz.results36,mK.val,go_sem]) rfl ⟨?_,((aC.refl _ _).alloc _).alloc _⟩
   simp[Zw,h1]
  have b1:decide (seq<rs)=false:=by simpa using h1
  by_cases h2:seq=rs
  ·subst h2
   go_in
   go_wp2_with (go_at_call 80;refine (kH _ p _ l (h.alloc _) _).mono ?_;rintro e w' ⟨rfl,rfl⟩)
   refine bodyPost_ret (v:=mK.val ⟨rc,rr,rh,true,0⟩) (by simp[results,Tryz.results36,mK.val,go_sem]) rfl ⟨?_,((aC.refl _ _).alloc _).alloc _⟩
   simp[Zw,h0]
  ·have b2:(seq == rs)=false:=by simpa using h2
   go_in
   go_wp2_with (go_at_call 80;refine (kH _ p _ l (h.alloc _) _).mono ?_;rintro e w' ⟨rfl,rfl⟩)
   refine bodyPost_ret (v:=mK.val ⟨0,0,0,false,0⟩) (by simp[results,Tryz.results36,mK.val,go_sem]) rfl ⟨?_,((aC.refl _ _).alloc _).alloc _⟩
   simp[Zw,h0,h2,show ¬ seq<rs by omega]
def Hp(l:List aU)(id seq:Int):Bool:=mF l id && decide ((Dj l id).seq<seq)
theorem Fa(l:List aU)(k:Nat)(hk:k<l.length)(r:aU) :
  ((((bQ l).set (k*4) (.int .u64 r.seq)).set (k*4+1) (.int .i64 r.code)).set (k*4+2) (.int .u64 r.sess)).set (k*4+3) (.int .i64 r.had)=bQ (l.set k r):=by
 induction l generalizing k with
 | nil=>simp at hk
 | cons q l ih =>
  cases k with
  | zero=>simp[bQ,aU.cells]
  | succ k =>
   have:=ih k (by simpa using hk)
   simp only[bQ,qZb,List.set_cons_succ] at this ⊢
   rw[<-this]
   simp only[aU.cells,show (k+1)*4=k*4+4 by omega,List.cons_append,List.nil_append,List.set_cons_succ,show ∀ j,k*4+4+j=(k*4+j)+4 by omega]
theorem sW.set{g cap:Nat}{l:List aU}(h:sW w p (.slice (some ⟨g,0,none⟩) l.length cap) l)(k:Nat)(hk:k<l.length)(r:aU) :
  sW ((((w.setCell ⟨g,k*4,none⟩ (.int .u64 r.seq)).setCell ⟨g,k*4+1,none⟩ (.int .i64 r.code)).setCell ⟨g,k*4+2,none⟩ (.int .u64 r.sess)).setCell ⟨g,k*4+3,none⟩ (.int .i64 r.had))
   p (.slice (some ⟨g,0,none⟩) l.length cap) (l.set k r):=by
 obtain⟨hb,ho⟩:=h
 have hpg:p≠g:=by
  rintro rfl
  exact jC ho hb (by decide) rfl
 refine⟨(((hb.far (p:=⟨g,_,none⟩) hpg _).far (p:=⟨g,_,none⟩) hpg _).far (p:=⟨g,_,none⟩) hpg _).far (p:=⟨g,_,none⟩) hpg _,?_⟩
 rw[<-Fa l k hk r,List.length_set]
 exact kC (kC (kC (kC ho _ _) _ _) _ _) _ _
def fp(p:Nat)(v:Value):Nat->Prop:=λk=>k=p\/v.ownBlock=some k
theorem Fk(w:World)(p:Nat)(v:Value)(l:List aU)(h:sW w p v l)(id seq:Int)(a:aU)(hk:Hp l id seq=true) :
  Calls Tryz.prog 37 #[.pointer (some ⟨p,0,none⟩),.int .u64 id,.int .u64 seq,.agg #[.int .i64 a.code,.int .u64 a.sess,.int .i64 a.had]] w λe w' =>
   e=.returned (.bool true)/\sW w' p v (l.set (id-1).toNat { a with seq:=seq })/\aC (fp p v) w w':=by
 have ht:mF l id=true:=by unfold Hp at hk;simp at hk;exact hk.1
 obtain⟨k,rfl,hkl⟩:=Dz l id ht
 have hl:=h.len
 unfold Hp at hk
 rw[zL l k hkl,ht] at hk
 simp at hk
 have h1:=h.alloc (.cells #[.int .i64 a.code,.int .u64 a.sess,.int .i64 a.had] 32)
 obtain⟨g,cap,rfl,n1,n2,n3,n4,n5,c0,c1,c2,c3,c4⟩:=Pd h k hkl
 have hf:=(iM h.2 (by omega))
 obtain⟨g',cap',hv',_,_,_,_,hf⟩:=hf
 injection hv' with hg' _ _
 injection hg' with hg'
 injection hg' with hg'
 subst hg'
 have f0:=hf (k*4)
 have f1:=hf (k*4+1)
 have f2:=hf (k*4+2)
 have f3:=hf (k*4+3)
 clear hf
 unfold maxLen at n2
 obtain⟨⟨rs,rc,rr,rh⟩,hr⟩:∃ r,r=l[k]:=⟨_,rfl⟩
 rw[<-hr] at c1 c2 c3 c4 hk
 clear hr
 simp only at hk
 go_in
 go_wp2_with (go_at_call 80;refine (kH _ p _ l (h.alloc _) _).mono ?_;rintro e w' ⟨rfl,rfl⟩)
 go_region
 all_goals go_wp2
 go_ret
 refine⟨rfl,?_,?_⟩
 ·rw[show ((k:Int)+1-1).toNat=k by omega]
  exact (sW.set h k hkl { a with seq:=seq }).alloc _
 ·have hg:fp p (.slice (some ⟨g,0,none⟩) l.length cap) g:=.inr rfl
  exact ((((((aC.refl _ _).setCell (p:=⟨g,_,none⟩) (λ_=>hg) _).setCell (p:=⟨g,_,none⟩) (λ_=>hg) _).setCell (p:=⟨g,_,none⟩) (λ_=>hg) _).setCell (p:=⟨g,_,none⟩) (λ_=>hg) _).alloc _).drew
theorem Xv(w:World)(p:Nat)(v:Value)(l:List aU)(h:sW w p v l)(hl:l.length=4096) :
  Calls Tryz.prog 33 #[.pointer (some ⟨p,0,none⟩)] w λe w' =>
   e=.returned (.tuple #[.int .u64 0,.int .i64 152])/\w=w':=by
 obtain⟨hb,ho⟩:=h
 obtain⟨A,c,hv,_,hc⟩:=aX ho
 subst hv
 have c0:=hb.cell 0
 simp at c0
 rw[hl] at c0
 clear ho hb
 go_in
 go_wp2
 go_ret2
 exact⟨rfl,rfl⟩
theorem mD(l:List aU)(r:aU):bQ (l++[r])=bQ l++r.cells:=by simp[bQ]
theorem Xx(w:World)(p:Nat)(v:Value)(l:List aU)(h:sW w p v l)(hl:l.length<4096) :
  Calls Tryz.prog 33 #[.pointer (some ⟨p,0,none⟩)] w λe w' =>
   e=.returned (.tuple #[.int .u64 ((l.length:Int)+1),.int .i64 0])/\∃ v',sW w' p v' (l++[aU.zero])/\aC (fp p v) w w'/\bJ w v v':=by
 obtain⟨hb,ho⟩:=h
 obtain⟨A,c,hv,_,hc⟩:=aX ho
 have c0:=hb.cell 0
 have f0:=hb.frozen 0
 simp at c0
 have hp:=hb.lt
 have HO:=aB ho
 have HV:=aB hv
 have HB:=aB hb
 rw[hv] at c0
 clear hv ho hb
 obtain⟨i0,hi,hz0,hz1,hz2⟩:=aO Tryz.infoRow
 go_in
 go_wp2_with (at_builtin;refine aR _ rfl _ _ 106 rfl 110 i0 (.agg #[.int .u64 0,.int .i64 0,.int .u64 0,.int .i64 0]) 4 32 Tryz.underlying106 hi hz0 hz1 hz2 rfl (by decide) _ _ _ rfl (HV ▸ HO.alloc _) (some ⟨w.heap.size,0,none⟩) 1 1 aU.zero.cells rfl ?c1 ?c2 ?c3 ?c4 ?c5 ?_)
 case c1=>exact aI.new _ _ _ _ rfl
 case c2=>exact λh=>by cases h
 case c3=>exact List.all_eq_true.1 rfl
 case c4=>unfold maxLen;omega
 case c5=>omega
 intro v' w1 hown hgrow hfr _
 have hb1:aL w1 p 149 #[v]:=(HB.alloc _).grown hgrow (λe=>jC HO HB (by decide) (by rw[HV.out];exact e.symm))
 have hsz:w.heap.size+1<=w1.heap.size:=by simpa using hgrow.size
 have c1:=hb1.cell 0
 have f1:=hb1.frozen 0
 simp at c1
 have hex:∃ A' c',v'=.slice A' (l.length+1) c':=by
  obtain⟨A',c',h,_⟩:=aX hown
  exact⟨A',c',h⟩
 obtain⟨A',c',hv'⟩:=hex
 have HW:=aB (show l.length+1<=maxLen/\w1.ownsRow 0 110 4 v' (l.length+1) (bQ l++aU.zero.cells)/\(w.alloc (.cells aU.zero.cells.toArray 110)).grownBy w1 v.ownBlock/\bJ w v v'/\aL w1 p 149 #[v] from⟨by unfold maxLen;omega,hown,by rw[HV.out];exact hgrow,by
  rcases hfr with h | ⟨g,h,hg⟩
  ·exact .inl (by rw[h,HV.out])
  ·exact .inr ⟨g,h,by simp at hg;omega⟩,hb1⟩)
 clear hown hgrow hfr hb1
 have HV':=aB hv'
 rw[hv']
 clear hv'
 go_wp2
 go_ret2
 obtain⟨_,h1,h2,h3,h4⟩:=HW.out
 refine⟨rfl,v',⟨?_,?_⟩,?_,h3⟩
 ·rw[HV'.out]
  exact h4.set_ 0 _
 ·rw[mD]
  have:=eS (a:=⟨p,0,none⟩) h1 (jC h1 h4 (by decide)) (.slice A' (l.length+1) c')
  simpa using this
 ·exact (((aC.refl _ _).alloc _).app h2 (λg hg _=>.inr hg)).setCell (p:=⟨p,0,none⟩) (λ_=>.inl rfl) _
end Go.Proofs.YthockgmbooefpaaGreatDoor
