/- What the law rests on, part 12. No condition but those that each theorem names. -/
import Derived.Test.YthockgmbooefpaaGreatDoorV11
import Derived.Test.YthockgmbooefpaaGreatDoorV05
import Derived.Test.YthockgmbooefpaaGreatDoorV07
import Derived.Deep.RegionHeld3
import Derived.Deep.AppendLies
set_option linter.unusedSectionVars false
set_option linter.unusedSimpArgs false
set_option linter.unusedVariables false
set_option maxRecDepth 100000
set_option maxHeartbeats 8000000
namespace Go.Proofs.YthockgmbooefpaaGreatDoor
open IntWalk renaming i64_in → qZa
open List renaming length_append → qJa
open Nat renaming zero_le → qQa, le_refl → qXa
variable{cs:Array Value}{fin:Bool}{acc:List (Int × Int × Int)}{bs t t' t2:List UInt8}{R S ac ai c c' cnt i n n' p:Nat}{A A' aA:Option Addr}{w wr wx:World}
open Go.RowKit
instance zeroBaseU:Inhabited jP:=⟨⟨0⟩⟩
theorem ot0{g:Nat}{t:TypeId}(h:OT w g t):bQ w g t:=by
 rcases h with⟨_,h⟩ | h
 ·exact absurd h (Nat.not_lt_zero _)
 ·exact h
theorem Oj{Z:List SV}(h:Fl w A n Z):eW w A n Z :=
 ⟨⟨h.rd.rd,λhn g hg=>ot0 (h.rd.ty hn g hg)⟩,h.len,λz hz=>⟨(h.el z hz).len,⟨(h.el z hz).rd.rd,λhn g hg=>ot0 ((h.el z hz).rd.ty hn g hg)⟩,(h.el z hz).le,(h.el z hz).mx⟩⟩
def aAa(p i:Nat)(bs:List UInt8)(w:World)(e:Ending)(w':World):Prop :=
 ∃ z:ZV,e=.returned (.agg #[.bool z.fin,.int .i64 z.out,.slice z.A z.n z.c])/\aC (λg=>g=p) w w' /\
  ∃ t,Ek i bs=some (z.p,t)/\z.Ok w'/\∃ (A:Option Addr) (n c:Nat),pQ w' p A n c t 0
theorem Ft{k:Nat}{l:Int}(h:fK i cnt 0 t2=(fK i (k+1) l bs).map λr=>(acc++r.1,r.2)){d o b:Nat}{s1 s2 s3:List UInt8}
  (h1:fC 1114111 bs=some (d,s1))(h2:fC 1048576 s1=some (o,s2))(h3:fC 98305 s2=some (b,s3)) :
  fK i cnt 0 t2=(fK i k (IntKind.i32.wrap (l+d)) s3).map λr=>((acc++[(IntKind.i32.wrap (l+d),(o:Int),(i:Int)-(b:Int))])++r.1,r.2):=by
 rw[h]
 simp only[fK,h1,h2,h3]
 cases fK i k (IntKind.i32.wrap (l+d)) s3 with
 | none=>rfl
 | some r=>simp
theorem lF{k:Nat}{l:Int}(h:fK i cnt 0 t2=(fK i (k+1) l bs).map λr=>(acc++r.1,r.2))
  (hf:fC 1114111 bs=none\/(∃ d s1,fC 1114111 bs=some (d,s1)/\(fC 1048576 s1=none\/∃ o s2,fC 1048576 s1=some (o,s2)/\fC 98305 s2=none))):fK i cnt 0 t2=none:=by
 rw[h]
 rcases hf with h1 | ⟨d,s1,h1,h2 | ⟨o,s2,h2,h3⟩⟩
 ·simp only[fK,h1];rfl
 ·simp only[fK,h1,h2];rfl
 ·simp only[fK,h1,h2,h3];rfl
theorem mW(h:n<9223372036854775808):IntKind.i64.wrap (n:Int)=(n:Int):=qZa _ (by omega)
theorem Uf(h:n<2147483648):IntKind.i32.wrap (n:Int)=(n:Int):=IntWalk.i32_in _ (by omega)
theorem aBw:(Tryz.prog.info? 173).map (λi=>(i.zero,i.size,i.bytes))=some (some (.agg #[.int .i32 0,.int .i64 0,.int .i64 0]),3,24):=by kernel_rfl
structure SI(w wr:World)(p S:Nat)(fin:Bool)(out:Int)(aA:Option Addr)(ai ac:Nat)(acc:List (Int × Int × Int))(A:Option Addr)(n c:Nat)(bs:List UInt8)(R:Nat):Prop where
 rdr:pQ wr p A n c bs 0
 blk:aL wr S 170 #[.bool fin,.int .i64 out,.slice aA ai ac]
 own:wr.ownsRow 0 173 3 (.slice aA ai ac) ai (nK acc)
 len:acc.length=ai
 res:aL wr R 170 #[.bool false,.int .i64 0,.slice none 0 0]
 touch:aC (λg=>g=p) w wr
 fresh:∀ g,(Value.slice aA ai ac).ownBlock=some g->w.heap.size<=g
 ne:R≠S
 sy:w.heap.size<=S
theorem SI.uint{out:Int}(h:SI w wr p S fin out aA ai ac acc A n c bs R)(T:aC (λg=>g=p) wr wx)(hr:pQ wx p A' n' c' t 0):SI w wx p S fin out aA ai ac acc A' n' c' t R:=by
 have hp:=aG h.rdr.blk
 exact⟨hr,h.blk.touch T (λe=>(aG h.blk).ne hp (by decide) e),aF h.own T (λg hg e=>(aM h.own hg).ne hp (by decide) e),h.len,h.res.touch T (λe=>(aG h.res).ne hp (by decide) e),h.touch.then T,h.fresh,h.ne,h.sy⟩
theorem SI.blk10{wy w10:World}{out:Int}(h:SI w wx p S fin out aA ai ac acc A n c bs R)(T:aC (λ_=>False) wx wy)(hg:wy.grownBy w10 (Value.slice aA ai ac).ownBlock) :
  aL w10 S 170 #[.bool fin,.int .i64 out,.slice aA ai ac]:=by
 have hown:=aF h.own T (λ_ _ f=>f)
 have T10:aC (λg=>(Value.slice aA ai ac).ownBlock=some g) wy w10:=(aC.refl _ _).grown hg (λk hk _=>hk)
 have hb:=h.blk.touch T (λf=>f)
 exact hb.touch T10 (λe=>(aG hb).ne (aM hown e) (by decide) rfl)
theorem SI.out{out:Int}(h:SI w wx p S fin out none 0 0 [] A n c bs R)(o:Int):SI w (wx.setCell ⟨S,1,none⟩ (.int .i64 o)) p S fin o none 0 0 [] A n c bs R:=by
 have T11:aC (λg=>g=S) wx (wx.setCell ⟨S,1,none⟩ (.int .i64 o)):=(aC.refl (λg=>g=S) _).setCell (λ_=>rfl) _
 have hS:=aG h.blk
 exact⟨h.rdr.touch T11 (λe=>(aG h.rdr.blk).ne hS (by decide) e) (λg hg e=>hg.ne hS (by decide) e),h.blk.set_ 1 _,World.ownsRow_nil _ _ _ _,rfl,h.res.touch T11 h.ne,h.touch.trans T11 (λk hk e=>by have:=h.sy;omega),λg hg=>(by cases hg),h.ne,h.sy⟩
theorem SI.app{wy w10:World}{out:Int}(h:SI w wx p S fin out aA ai ac acc A n c bs R)(T:aC (λ_=>False) wx wy){a':Option Addr}{cap:Nat}(l o b:Int)
  (ho:w10.ownsRow 0 173 3 (.slice a' (ai+1) cap) (ai+1) (nK acc++[.int .i32 l,.int .i64 o,.int .i64 b]))(hg:wy.grownBy w10 (Value.slice aA ai ac).ownBlock)(hf:cK wy (.slice aA ai ac) (.slice a' (ai+1) cap)) :
  SI w (w10.setCell ⟨S,2,none⟩ (.slice a' (ai+1) cap)) p S fin out a' (ai+1) cap (acc++[(l,o,b)]) A n c bs R:=by
 have hown:=aF h.own T (λ_ _ f=>f)
 have T10:aC (λg=>(Value.slice aA ai ac).ownBlock=some g) wy w10:=(aC.refl _ _).grown hg (λk hk _=>hk)
 have hno:∀ {t:TypeId} {g:Nat},bQ wy g t->t ≠ 173 -> ¬ (Value.slice aA ai ac).ownBlock=some g:=λhg ht e=>hg.ne (aM hown e) ht rfl
 have hb10:=(h.blk.touch T (λf=>f)).touch T10 (hno (aG (h.blk.touch T (λf=>f))) (by decide))
 have T11:aC (λg=>g=S) w10 (w10.setCell ⟨S,2,none⟩ (.slice a' (ai+1) cap)):=(aC.refl (λg=>g=S) _).setCell (λ_=>rfl) _
 have hS:=aG hb10
 have hr10:=(h.rdr.quiet T).touch T10 (hno (aG (h.rdr.quiet T).blk) (by decide)) (λg hg=>hno hg (by decide))
 have hR10:=(h.res.touch T (λf=>f)).touch T10 (hno (aG (h.res.touch T (λf=>f))) (by decide))
 refine⟨hr10.touch T11 (λe=>(aG hr10.blk).ne hS (by decide) e) (λg hg e=>hg.ne hS (by decide) e),hb10.set_ 2 _,?_,by rw[qJa,h.len];rfl,hR10.touch T11 h.ne,?_,?_,h.ne,h.sy⟩
 ·have e:nK (acc++[(l,o,b)])=nK acc++[.int .i32 l,.int .i64 o,.int .i64 b]:=by simp[nK]
  rw[e]
  exact aF ho T11 (λg hg e=>(aM ho hg).ne hS (by decide) e)
 ·have t1:aC (λg=>g=p) w w10:=(h.touch.trans T (λ_ _ f=>f.elim)).trans T10 (λk hk e=>absurd (h.fresh k e) (by omega))
  exact t1.trans T11 (λk hk e=>by have:=h.sy;omega)
 ·intro g hg'
  rcases hf with e | ⟨g2,e,hle⟩
  ·rw[e] at hg'
   exact h.fresh g hg'
  ·rw[e] at hg'
   injection hg' with hg'
   have:=h.touch.size
   have:=T.size
   omega
theorem Dl(hR:w.heap.size<=R)(T:aC (λg=>g=p) w wr)(a b c:Value):aC (λg=>g=p) w (((wr.setCell ⟨R,0,none⟩ a).setCell ⟨R,1,none⟩ b).setCell ⟨R,2,none⟩ c):=by
 iterate 3 refine aC.setCell ?_ (λh=>by simp only at h;omega) _
 exact T
theorem Nw{e:Int}(h:pQ wr p A n c bs e)(hR:aL wr R 170 cs)(x y z:Value):pQ (((wr.setCell ⟨R,0,none⟩ x).setCell ⟨R,1,none⟩ y).setCell ⟨R,2,none⟩ z) p A n c bs e:=by
 have T:aC (λg=>g=R) wr (((wr.setCell ⟨R,0,none⟩ x).setCell ⟨R,1,none⟩ y).setCell ⟨R,2,none⟩ z):=by
  exact (((aC.refl (λg=>g=R) wr).setCell (p:=⟨R,0,none⟩) (λ_=>rfl) _).setCell (p:=⟨R,1,none⟩) (λ_=>rfl) _).setCell (p:=⟨R,2,none⟩) (λ_=>rfl) _
 exact h.touch T (λe=>(aG h.blk).ne (aG hR) (by decide) e) (λg hg e=>hg.ne (aG hR) (by decide) e)
theorem Ut{z:ZV}(h:z.Ok wr)(hR:aL wr R 170 cs)(a b c:Value):z.Ok (((wr.setCell ⟨R,0,none⟩ a).setCell ⟨R,1,none⟩ b).setCell ⟨R,2,none⟩ c):=by
 have T:aC (λg=>g=R) wr (((wr.setCell ⟨R,0,none⟩ a).setCell ⟨R,1,none⟩ b).setCell ⟨R,2,none⟩ c):=by
  exact (((aC.refl (λg=>g=R) wr).setCell (p:=⟨R,0,none⟩) (λ_=>rfl) _).setCell (p:=⟨R,1,none⟩) (λ_=>rfl) _).setCell (p:=⟨R,2,none⟩) (λ_=>rfl) _
 exact h.touch T (λg hg e=>hg.ne (aG hR) (by decide) (qQa _) e)
theorem SI.zv{out:Int}(h:SI w wr p S fin out aA ai ac acc A n c bs R):(⟨fin,out,aA,ai,ac,acc⟩:ZV).Ok wr :=
 ⟨h.len,Pq.of_own h.own,(fY h.own).1,(fY h.own).2⟩
theorem nV(w:World)(p:Nat)(A:Option Addr)(n c:Nat)(bs:List UInt8)(h:pQ w p A n c bs 0)(most:Nat)(m:Int)(hm:m=(most:Int)) :
  Calls Tryz.prog 57 #[.pointer (some ⟨p,0,none⟩),.int .u64 m] w λe w'=>Kr p most A n c bs w e w':=by
 subst hm
 exact Vc w p A n c bs h most
structure SF(w wr:World)(p S:Nat)(fin:Bool)(out:Int)(aA:Option Addr)(ai ac:Nat)(R:Nat):Prop where
 blk:aL wr S 170 #[.bool fin,.int .i64 out,.slice aA ai ac]
 res:aL wr R 170 #[.bool false,.int .i64 0,.slice none 0 0]
 touch:aC (λg=>g=p) w wr
theorem SI.sf{out:Int}(h:SI w wr p S fin out aA ai ac acc A n c bs R):SF w wr p S fin out aA ai ac R:=⟨h.blk,h.res,h.touch⟩
theorem SF.then{out:Int}(h:SF w wr p S fin out aA ai ac R){t:TypeId}(hp:aL wr p t cs)(ht : 170 ≠ t)(T:aC (λg=>g=p) wr wx):SF w wx p S fin out aA ai ac R :=
 ⟨h.blk.touch T (λe=>(aG h.blk).ne (aG hp) ht e),h.res.touch T (λe=>(aG h.res).ne (aG hp) ht e),h.touch.then T⟩
theorem SF.out{out:Int}(h:SF w wx p S fin out aA ai ac R)(hne:R≠S)(hs:w.heap.size<=S)(o:Int):SF w (wx.setCell ⟨S,1,none⟩ (.int .i64 o)) p S fin o aA ai ac R:=by
 have T11:aC (λg=>g=S) wx (wx.setCell ⟨S,1,none⟩ (.int .i64 o)):=(aC.refl (λg=>g=S) _).setCell (λ_=>rfl) _
 exact⟨h.blk.set_ 1 _,h.res.touch T11 hne,h.touch.trans T11 (λk hk e=>by omega)⟩
theorem Tj(w:World)(p:Nat)(A:Option Addr)(n c:Nat)(bs:List UInt8)(h:pQ w p A n c bs 0)(hn:n<=4398046511104)(i:Nat)(hi:i<=98305){z0:Fk}{t0:List UInt8}(hpos:Ek i bs=some (z0,t0)) :
  Calls Tryz.prog 116 #[.pointer (some ⟨p,0,none⟩),.int .i64 i] w λe w'=>aAa p i bs w e w':=by
 obtain⟨i1,hi1,hy0,hy1,hy2⟩:=aQ aBw
 obtain⟨w0,hw0⟩:=eX (w.alloc (.cells #[.bool false,.int .i64 0,.slice none 0 0] 170))
 have hT0:aC (λ_=>False) w w0:=by rw[hw0];exact (aC.refl _ _).alloc _
 have hbR:aL w0 w.heap.size 170 #[.bool false,.int .i64 0,.slice none 0 0]:=by rw[hw0];exact aL.new _ _ _
 have h0:=h.quiet hT0
 have hp0:=h.blk.lt
 obtain⟨R,hR⟩:=eX w.heap.size
 rw[<-hR] at hbR
 have HP0:=aB hp0
 have HPOS:=aB hpos
 have HW0:=aB hw0
 have HT0:=aB hT0
 have HBR:=aB hbR
 have H0:=aB h0
 have HRR:=aB hR
 have HLN:=aB h.len
 have HLF:=aB (λwx (hx:pQ wx p A n c bs 0)=>aCh wx p A n c bs 0 hx)
 have y0:IntKind.u64.wrap (2*(n:Int)+1)=2*(n:Int)+1:=by rw[IntKind.wrap_u64];omega
 have y1:IntKind.i64.wrap (2*(n:Int)+1)=2*(n:Int)+1:=qZa _ (by omega)
 have y2:IntKind.i64.wrap (2*(n:Int))=2*(n:Int):=qZa _ (by omega)
 have y3:(0:Int)<=(n:Int):=by omega
 clear hw0 hT0 hbR h0 h hp0 hR hpos
 go_in
 go_wp2_with fail
 rw[<-HW0.out,<-HRR.out]
 refine (HLF w0 H0).mono ?_
 rintro e wx ⟨rfl,hwx⟩
 subst hwx
 go_wp2_with fail
 refine (nV wx p A n c bs H0 (2*n+1) _ (by push_cast;rfl)).mono ?_
 rintro e w1 (⟨v,t1,A1,n1,c1,hu1,rfl,hr1,T1⟩ | ⟨hu1,rfl,k,hk,hr1,T1⟩)
 ·
  have hv:=(dW hu1).2
  have hbp:=H0.blk
  have hwp:R≠p:=λe=>(aG HBR).ne (aG hbp) (by decide) e
  have hb1:=HBR.touch T1 hwp
  obtain⟨cnt,hcnt⟩:=eX (v / 2)
  have HCB:=aB (show cnt<=4398046511104 by omega)
  have HIB:=aB hi
  have v0:IntKind.i64.wrap (v:Int)=(v:Int):=mW (by omega)
  have v1:(0:Int)<=(v:Int):=by omega
  have v2:(v:Int) / 2=(cnt:Int):=by omega
  have v4:(0:Int)<=(cnt:Int):=by omega
  have v5:(cnt:Int)<=4398046511104:=by omega
  obtain⟨fb,hfb⟩:∃ fb,decide (v % 2=1)=fb:=⟨_,rfl⟩
  have v3:((v:Int) % 2 == 1)=fb:=by rw[<-hfb,Bool.eq_iff_iff];simp;omega
  obtain⟨S,hS⟩:=eX w1.heap.size
  obtain⟨w2,hw2⟩:=eX (w1.alloc (.cells #[.bool fb,.int .i64 0,.slice none 0 0] 170))
  have hT2:aC (λ_=>False) w1 w2:=by rw[hw2];exact (aC.refl _ _).alloc _
  have hbS:aL w2 S 170 #[.bool fb,.int .i64 0,.slice none 0 0]:=by rw[hw2,hS];exact aL.new _ _ _
  have hsi:SI w w2 p S fb 0 none 0 0 [] A1 n1 c1 t1 R:=⟨hr1.quiet hT2,hbS,World.ownsRow_nil _ _ _ _,rfl,hb1.touch hT2 (λf=>f),((HT0.up _).then T1).then (hT2.up _),λg hg=>(by cases hg),by have:=hb1.lt;omega,by have:=T1.size;have:=HT0.size;omega⟩
  have hst:Ek i bs=(match yQ fb t1 with
    | none=>none
    | some (o,t2)=>(fK i cnt 0 t2).map λr=>((⟨fb,(o:Int),r.1⟩:Fk),r.2)):=by
   unfold Ek
   rw[<-HLN.out] at hu1
   rw[hu1]
   simp only
   rw[hfb,hcnt]
   cases yQ fb t1 with
   | none=>rfl
   | some r =>
    simp only
    cases fK i (v / 2) 0 r.2 with
    | none=>rfl
    | some q=>rfl
  clear hv hbp hwp hb1 hcnt hfb hu1 hr1 T1 hi
  cases fb with
  | false =>
   simp only[yQ,Bool.false_eq_true,if_false] at hst
   have HW2:=aB hw2
   have HS2:=aB hS
   clear hw2 hS hT2 hbS
   go_wp2_with fail
   rw[<-HW2.out,<-HS2.out]
   have HSI:=aB hsi
   have HST:=aB hst
   clear hsi hst
   go_wp2_with fail
   go_loopw [7,30] (λlv jv wr=>∃ (j:Nat) (lab:Int) (aA:Option Addr) (ai ac:Nat) (acc:List (Int × Int × Int)) (A3:Option Addr) (n3 c3:Nat) (t3:List UInt8),lv=.int .i32 lab/\jv=.int .i64 j/\j<=cnt/\Hid (SI w wr p S false 0 aA ai ac acc A3 n3 c3 t3 R)/\Hid (fK i cnt 0 t1=(fK i (cnt-j) lab t3).map λr=>(acc++r.1,r.2))/\Hid (ai<=j)) (λ_ jv _=>cnt-(intOf jv).toNat)
   case atStart=>exact⟨0,0,none,0,0,[],_,_,_,_,rfl,rfl,qQa _,HSI,aB (by simp),aB (qXa _)⟩
   case round =>
    obtain⟨j,lab,aA,ai,ac,acc,A3,n3,c3,t3,rfl,rfl,hj,HS,HE,HAI⟩:=hrel
    obtain⟨wq,hwq⟩:=eX wr
    subst hwq
    by_cases hjc:j<cnt
    ·have j0:(j:Int)<(cnt:Int):=by omega
     have j1:(0:Int)<=(j:Int):=by omega
     have j2:IntKind.i64.wrap ((j:Int)+1)=(j:Int)+1:=qZa _ (by have:=HCB.out;omega)
     have hcj:cnt-j=(cnt-(j+1))+1:=by omega
     have hee:=HE.out
     rw[hcj] at hee
     have HEE:=aB hee
     have HJC:=aB hjc
     clear hee hcj hjc hj
     go_wp2_with fail
     refine (nV wq p A3 n3 c3 t3 HS.rdr 1114111 _ rfl).mono ?_
     rintro e wa (⟨d,s1,Aa,na,ca,hu1,rfl,hra,Ta⟩ | ⟨hu1,rfl,k,hk,hra,Ta⟩)
     ·have hd:=(dW hu1).2
      have HSA:=aB (HS.uint Ta hra)
      have HU1:=aB hu1
      have d0:IntKind.i32.wrap (d:Int)=(d:Int):=Uf (by omega)
      obtain⟨lab2,hl2⟩:∃ x,IntKind.i32.wrap (lab+(d:Int))=x:=⟨_,rfl⟩
      have HL2:=aB hl2
      clear hu1 hra Ta hd
      go_wp2_with fail
      refine (nV wa p Aa na ca s1 HSA.rdr 1048576 _ rfl).mono ?_
      rintro e wb (⟨o,s2,Ab,nb,cb,hu2,rfl,hrb,Tb⟩ | ⟨hu2,rfl,k,hk,hrb,Tb⟩)
      ·have hd:=(dW hu2).2
       have HSB:=aB (HSA.uint Tb hrb)
       have HU2:=aB hu2
       have o0:IntKind.i64.wrap (o:Int)=(o:Int):=mW (by omega)
       have HOB:=aB hd
       clear hu2 hrb Tb hd
       go_wp2_with fail
       refine (nV wb p Ab nb cb s2 HSB.rdr 98305 _ rfl).mono ?_
       rintro e wc (⟨b,s3,Ac,nc,cc,hu3,rfl,hrc,Tc⟩ | ⟨hu3,rfl,k,hk,hrc,Tc⟩)
       ·have hd:=(dW hu3).2
        have HSC:=aB (HSB.uint Tc hrc)
        have hmore:=Ft HEE HU1 HU2 hu3
        rw[HL2.out] at hmore
        have HMORE:=aB hmore
        have b0:IntKind.i64.wrap (b:Int)=(b:Int):=mW (by omega)
        have b1:IntKind.i64.wrap ((i:Int)-(b:Int))=(i:Int)-(b:Int):=qZa _ (by have:=HIB.out;omega)
        have HER:=aB (Jf wc p Ac nc cc s3 0 HSC.rdr)
        obtain⟨wd,hwd⟩:=eX (wc.alloc (.cells #[.int .i32 lab2,.int .i64 (o:Int),.int .i64 ((i:Int)-(b:Int))] 173))
        have hTd:aC (λ_=>False) wc wd:=by rw[hwd];exact (aC.refl _ _).alloc _
        have hrd:aH wd 3 (some ⟨wc.heap.size,0,none⟩) 1 [.int .i32 lab2,.int .i64 (o:Int),.int .i64 ((i:Int)-(b:Int))]:=by rw[hwd];exact aH.new wc _ _ 1 rfl
        have hone:∀ u∈([.int .i32 lab2,.int .i64 (o:Int),.int .i64 ((i:Int)-(b:Int))]:List Value),u.oneCell'=true:=by
         intro u hu
         simp only[List.mem_cons,List.not_mem_nil,or_false] at hu
         rcases hu with rfl | rfl | rfl<;>rfl
        have hbb1:ai+1<=maxLen:=by unfold maxLen;have:=HAI.out;have:=HJC.out;have:=HCB.out;omega
        have hbb2:(ai+1)*24<=140737488355328:=by have:=HAI.out;have:=HJC.out;have:=HCB.out;omega
        have HOWN:=aB (aF HSC.own hTd (λ_ _ f=>f))
        have HRD:=aB hrd
        have HONE:=aB hone
        have HBB:=aB (And.intro hbb1 hbb2)
        have HTD:=aB hTd
        have HWD:=aB hwd
        obtain⟨s0,s1',s2'⟩:=HSC.blk.facts
        clear hu3 hrc Tc hd hmore hwd hTd hrd hone hbb1 hbb2
        go_wp2_with fail
        refine HER.mono ?_
        rintro e wx ⟨rfl,hwx⟩
        subst hwx
        go_wp2_with (at_builtin;rw[<-HWD.out];refine aP _ rfl (.tmp 47) (.tmp 54) 168 rfl 173 i1 _ 3 24 Tryz.underlying168 hi1 hy0 hy1 hy2 rfl (by decide) (.slice aA ai ac) ai _ rfl HOWN (some ⟨wx.heap.size,0,none⟩) 1 1 [.int .i32 lab2,.int .i64 (o:Int),.int .i64 ((i:Int)-(b:Int))] rfl HRD (λh=>by cases h) HONE HBB.1 HBB.2 ?_;intro v1 w10 O10 G10 F10 _;obtain⟨A2x,c2x,hv,_,_⟩:=aS O10;subst hv;have HNX:=aB (HSC.app HTD _ _ _ O10 G10 F10);obtain⟨z0,z1,z2⟩:=(HSC.blk10 HTD G10).facts;clear O10 G10 F10)
        go_roundw
        ·exact⟨j+1,lab2,_,_,_,_,_,_,_,_,rfl,by simp,by have:=HJC.out;omega,HNX,HMORE,aB (by have:=HAI.out;omega)⟩
        ·have:=HJC.out
         simp only[intOf]
         omega
       ·have hno:=lF HEE (.inr ⟨d,s1,HU1,.inr ⟨o,s2,HU2,hu3⟩⟩)
        have hsx:Ek i bs=none:=by rw[HST.out,hno];rfl
        rw[HPOS.out] at hsx
        cases hsx
      ·have hno:=lF HEE (.inr ⟨d,s1,HU1,.inl hu2⟩)
       have hsx:Ek i bs=none:=by rw[HST.out,hno];rfl
       rw[HPOS.out] at hsx
       cases hsx
     ·have hno:=lF HEE (.inl hu1)
      have hsx:Ek i bs=none:=by rw[HST.out,hno];rfl
      rw[HPOS.out] at hsx
      cases hsx
    ·have j0:¬ (j:Int)<(cnt:Int):=by omega
     have hje:cnt-j=0:=by omega
     have hee:=HE.out
     rw[hje] at hee
     have hsx:Ek i bs=some ((⟨false,0,aA,ai,ac,acc⟩:ZV).p,t3):=by
      rw[HST.out,hee]
      simp[fK,ZV.p]
     have HNO:=aB hsx
     have HSF:=aB HS.sf
     obtain⟨s0,s1',s2'⟩:=HSF.blk.facts
     obtain⟨r0,r1',r2'⟩:=HSF.res.facts
     clear hsx hee hje hj
     go_wp2_with fail
     have hbF:=((HSF.res.set_ 0 (.bool false)).set_ 1 (.int .i64 0)).set_ 2 (.slice aA ai ac)
     have g0:=hbF.cell 0
     have g1:=hbF.cell 1
     have g2:=hbF.cell 2
     have hTF:=Dl (show w.heap.size<=R by rw[HRR.out];exact qXa _) HSF.touch (.bool false) (.int .i64 0) (.slice aA ai ac)
     try rw[<-HRR.out]
     exact bodyPost_ret (v:=.agg #[.bool false,.int .i64 0,.slice aA ai ac]) (by simp[results,Tryz.results116,go_sem,g0,g1,g2]) rfl ⟨⟨false,0,aA,ai,ac,acc⟩,rfl,hTF,⟨t3,HNO,Ut HS.zv HSF.res _ _ _,_,_,_,Nw HS.rdr HSF.res _ _ _⟩⟩
  | true =>
   simp only[yQ,if_true] at hst
   have HSI0:=aB hsi
   have HST0:=aB hst
   have HW2:=aB hw2
   have HS2:=aB hS
   obtain⟨s0,s1',s2'⟩:=hbS.facts
   clear hw2 hS hT2 hbS hsi hst
   go_wp2_with fail
   rw[<-HW2.out,<-HS2.out]
   refine (nV w2 p A1 n1 c1 t1 HSI0.rdr 1048576 _ rfl).mono ?_
   rintro e wa (⟨oo,t2,A2,n2,c2,hu2,rfl,hr2,T2⟩ | ⟨hu2,rfl,k,hk,hr2,T2⟩)
   ·have hob:=(dW hu2).2
    have hst:=HST0.out
    rw[hu2] at hst
    simp only at hst
    have o0:IntKind.i64.wrap (oo:Int)=(oo:Int):=mW (by omega)
    have hsi:=(HSI0.uint T2 hr2).out oo
    clear s0 s1' s2'
    obtain⟨s0,s1',s2'⟩:=(HSI0.uint T2 hr2).blk.facts
    clear hob hu2 hr2 T2 HST0
    have HSI:=aB hsi
    have HST:=aB hst
    clear hsi hst
    go_wp2_with fail
    go_loopw [7,30] (λlv jv wr=>∃ (j:Nat) (lab:Int) (aA:Option Addr) (ai ac:Nat) (acc:List (Int × Int × Int)) (A3:Option Addr) (n3 c3:Nat) (t3:List UInt8),lv=.int .i32 lab/\jv=.int .i64 j/\j<=cnt/\Hid (SI w wr p S true (oo:Int) aA ai ac acc A3 n3 c3 t3 R)/\Hid (fK i cnt 0 t2=(fK i (cnt-j) lab t3).map λr=>(acc++r.1,r.2))/\Hid (ai<=j)) (λ_ jv _=>cnt-(intOf jv).toNat)
    case atStart=>exact⟨0,0,none,0,0,[],_,_,_,_,rfl,rfl,qQa _,HSI,aB (by simp),aB (qXa _)⟩
    case round =>
     obtain⟨j,lab,aA,ai,ac,acc,A3,n3,c3,t3,rfl,rfl,hj,HS,HE,HAI⟩:=hrel
     obtain⟨wq,hwq⟩:=eX wr
     subst hwq
     by_cases hjc:j<cnt
     ·have j0:(j:Int)<(cnt:Int):=by omega
      have j1:(0:Int)<=(j:Int):=by omega
      have j2:IntKind.i64.wrap ((j:Int)+1)=(j:Int)+1:=qZa _ (by have:=HCB.out;omega)
      have hcj:cnt-j=(cnt-(j+1))+1:=by omega
      have hee:=HE.out
      rw[hcj] at hee
      have HEE:=aB hee
      have HJC:=aB hjc
      clear hee hcj hjc hj
      go_wp2_with fail
      refine (nV wq p A3 n3 c3 t3 HS.rdr 1114111 _ rfl).mono ?_
      rintro e wa (⟨d,s1,Aa,na,ca,hu1,rfl,hra,Ta⟩ | ⟨hu1,rfl,k,hk,hra,Ta⟩)
      ·have hd:=(dW hu1).2
       have HSA:=aB (HS.uint Ta hra)
       have HU1:=aB hu1
       have d0:IntKind.i32.wrap (d:Int)=(d:Int):=Uf (by omega)
       obtain⟨lab2,hl2⟩:∃ x,IntKind.i32.wrap (lab+(d:Int))=x:=⟨_,rfl⟩
       have HL2:=aB hl2
       clear hu1 hra Ta hd
       go_wp2_with fail
       refine (nV wa p Aa na ca s1 HSA.rdr 1048576 _ rfl).mono ?_
       rintro e wb (⟨o,s2,Ab,nb,cb,hu2,rfl,hrb,Tb⟩ | ⟨hu2,rfl,k,hk,hrb,Tb⟩)
       ·have hd:=(dW hu2).2
        have HSB:=aB (HSA.uint Tb hrb)
        have HU2:=aB hu2
        have o0:IntKind.i64.wrap (o:Int)=(o:Int):=mW (by omega)
        have HOB:=aB hd
        clear hu2 hrb Tb hd
        go_wp2_with fail
        refine (nV wb p Ab nb cb s2 HSB.rdr 98305 _ rfl).mono ?_
        rintro e wc (⟨b,s3,Ac,nc,cc,hu3,rfl,hrc,Tc⟩ | ⟨hu3,rfl,k,hk,hrc,Tc⟩)
        ·have hd:=(dW hu3).2
         have HSC:=aB (HSB.uint Tc hrc)
         have hmore:=Ft HEE HU1 HU2 hu3
         rw[HL2.out] at hmore
         have HMORE:=aB hmore
         have b0:IntKind.i64.wrap (b:Int)=(b:Int):=mW (by omega)
         have b1:IntKind.i64.wrap ((i:Int)-(b:Int))=(i:Int)-(b:Int):=qZa _ (by have:=HIB.out;omega)
         have HER:=aB (Jf wc p Ac nc cc s3 0 HSC.rdr)
         obtain⟨wd,hwd⟩:=eX (wc.alloc (.cells #[.int .i32 lab2,.int .i64 (o:Int),.int .i64 ((i:Int)-(b:Int))] 173))
         have hTd:aC (λ_=>False) wc wd:=by rw[hwd];exact (aC.refl _ _).alloc _
         have hrd:aH wd 3 (some ⟨wc.heap.size,0,none⟩) 1 [.int .i32 lab2,.int .i64 (o:Int),.int .i64 ((i:Int)-(b:Int))]:=by rw[hwd];exact aH.new wc _ _ 1 rfl
         have hone:∀ u∈([.int .i32 lab2,.int .i64 (o:Int),.int .i64 ((i:Int)-(b:Int))]:List Value),u.oneCell'=true:=by
          intro u hu
          simp only[List.mem_cons,List.not_mem_nil,or_false] at hu
          rcases hu with rfl | rfl | rfl<;>rfl
         have hbb1:ai+1<=maxLen:=by unfold maxLen;have:=HAI.out;have:=HJC.out;have:=HCB.out;omega
         have hbb2:(ai+1)*24<=140737488355328:=by have:=HAI.out;have:=HJC.out;have:=HCB.out;omega
         have HOWN:=aB (aF HSC.own hTd (λ_ _ f=>f))
         have HRD:=aB hrd
         have HONE:=aB hone
         have HBB:=aB (And.intro hbb1 hbb2)
         have HTD:=aB hTd
         have HWD:=aB hwd
         obtain⟨s0,s1',s2'⟩:=HSC.blk.facts
         clear hu3 hrc Tc hd hmore hwd hTd hrd hone hbb1 hbb2
         go_wp2_with fail
         refine HER.mono ?_
         rintro e wx ⟨rfl,hwx⟩
         subst hwx
         go_wp2_with (at_builtin;rw[<-HWD.out];refine aP _ rfl (.tmp 47) (.tmp 54) 168 rfl 173 i1 _ 3 24 Tryz.underlying168 hi1 hy0 hy1 hy2 rfl (by decide) (.slice aA ai ac) ai _ rfl HOWN (some ⟨wx.heap.size,0,none⟩) 1 1 [.int .i32 lab2,.int .i64 (o:Int),.int .i64 ((i:Int)-(b:Int))] rfl HRD (λh=>by cases h) HONE HBB.1 HBB.2 ?_;intro v1 w10 O10 G10 F10 _;obtain⟨A2x,c2x,hv,_,_⟩:=aS O10;subst hv;have HNX:=aB (HSC.app HTD _ _ _ O10 G10 F10);obtain⟨z0,z1,z2⟩:=(HSC.blk10 HTD G10).facts;clear O10 G10 F10)
         go_roundw
         ·exact⟨j+1,lab2,_,_,_,_,_,_,_,_,rfl,by simp,by have:=HJC.out;omega,HNX,HMORE,aB (by have:=HAI.out;omega)⟩
         ·have:=HJC.out
          simp only[intOf]
          omega
        ·have hno:=lF HEE (.inr ⟨d,s1,HU1,.inr ⟨o,s2,HU2,hu3⟩⟩)
         have hsx:Ek i bs=none:=by rw[HST.out,hno];rfl
         rw[HPOS.out] at hsx
         cases hsx
       ·have hno:=lF HEE (.inr ⟨d,s1,HU1,.inl hu2⟩)
        have hsx:Ek i bs=none:=by rw[HST.out,hno];rfl
        rw[HPOS.out] at hsx
        cases hsx
      ·have hno:=lF HEE (.inl hu1)
       have hsx:Ek i bs=none:=by rw[HST.out,hno];rfl
       rw[HPOS.out] at hsx
       cases hsx
     ·have j0:¬ (j:Int)<(cnt:Int):=by omega
      have hje:cnt-j=0:=by omega
      have hee:=HE.out
      rw[hje] at hee
      have hsx:Ek i bs=some ((⟨true,(oo:Int),aA,ai,ac,acc⟩:ZV).p,t3):=by
       rw[HST.out,hee]
       simp[fK,ZV.p]
      have HNO:=aB hsx
      have HSF:=aB HS.sf
      obtain⟨s0,s1',s2'⟩:=HSF.blk.facts
      obtain⟨r0,r1',r2'⟩:=HSF.res.facts
      clear hsx hee hje hj
      go_wp2_with fail
      have hbF:=((HSF.res.set_ 0 (.bool true)).set_ 1 (.int .i64 (oo:Int))).set_ 2 (.slice aA ai ac)
      have g0:=hbF.cell 0
      have g1:=hbF.cell 1
      have g2:=hbF.cell 2
      have hTF:=Dl (show w.heap.size<=R by rw[HRR.out];exact qXa _) HSF.touch (.bool true) (.int .i64 (oo:Int)) (.slice aA ai ac)
      try rw[<-HRR.out]
      exact bodyPost_ret (v:=.agg #[.bool true,.int .i64 (oo:Int),.slice aA ai ac]) (by simp[results,Tryz.results116,go_sem,g0,g1,g2]) rfl ⟨⟨true,(oo:Int),aA,ai,ac,acc⟩,rfl,hTF,⟨t3,HNO,Ut HS.zv HSF.res _ _ _,_,_,_,Nw HS.rdr HSF.res _ _ _⟩⟩
   ·have hst:=HST0.out
    rw[hu2] at hst
    simp only at hst
    rw[HPOS.out] at hst
    cases hst
 ·have hbp:=H0.blk
  have hwp:R≠p:=λe=>(aG HBR).ne (aG hbp) (by decide) e
  have hb1:=HBR.touch T1 hwp
  have hsx:Ek i bs=none:=by
   unfold Ek
   rw[<-HLN.out] at hu1
   rw[hu1]
  rw[HPOS.out] at hsx
  cases hsx
def aFb(base:Nat)(sts:List cU)(w:World)(e:Ending)(w':World):Prop:=aC (λ_=>False) w w' /\
 ∃ (A:Option Addr) (n c:Nat) (Z:List SV),e=.returned (.tuple #[.agg #[.int .i64 base,.slice A n c],.int .i64 0])/\eW w' A n Z/\Z.map SV.p=sts/\n<=c
theorem aDn{sts:List cU}{base:Int}(h:Am sts base):sts.length<=98305:=by
 rcases h with⟨h,_⟩ | h
 ·rw[h];simp
 ·exact h.few
theorem Yq{sts:List cU}{base:Int}(h:Am sts base):∀ i,i<sts.length->gB i (sts.getD i aY):=by
 rcases h with⟨h,_⟩ | h
 ·intro i hi
  rw[h] at hi
  simp at hi
 ·exact h.form
structure UI(w wr:World)(p M R:Nat)(base:Nat)(sA:Option Addr)(i sc:Nat)(Z:List ZV)(A:Option Addr)(n c:Nat)(t:List UInt8):Prop where
 rdr:pQ wr p A n c t 0
 blk:aL wr M 89 #[.int .i64 base,.slice sA i sc]
 own:wr.ownsRow 0 170 3 (.slice sA i sc) i (pP Z)
 len:Z.length=i
 el:∀ z∈Z,z.Ok wr
 res:aL wr R 89 #[.int .i64 0,.slice none 0 0]
 touch:aC (λ_=>False) w wr
 fresh:∀ g,(Value.slice sA i sc).ownBlock=some g->w.heap.size<=g
 py:w.heap.size<=p
 my:w.heap.size<=M
 ne:R≠M
section
variable{w wr wx wS w10:World}{p M R base:Nat}{sA:Option Addr}{i sc:Nat}{Z:List ZV}{A:Option Addr}{n c:Nat}{t:List UInt8}
theorem UI.quiet(h:UI w wr p M R base sA i sc Z A n c t)(T:aC (λ_=>False) wr wx):UI w wx p M R base sA i sc Z A n c t :=
 ⟨h.rdr.quiet T,h.blk.touch T (λf=>f),aF h.own T (λ_ _ f=>f),h.len,λz hz=>(h.el z hz).quiet T,h.res.touch T (λf=>f),h.touch.then T,h.fresh,h.py,h.my,h.ne⟩
theorem UI.kept(h:UI w wr p M R base sA i sc Z A n c t)(T:aC (λg=>g=p) wr wx):aL wx M 89 #[.int .i64 base,.slice sA i sc]/\wx.ownsRow 0 170 3 (.slice sA i sc) i (pP Z)/\(∀ z∈Z,z.Ok wx)/\aL wx R 89 #[.int .i64 0,.slice none 0 0]/\aC (λ_=>False) w wx:=by
 have hp:=aG h.rdr.blk
 exact⟨h.blk.touch T (λe=>(aG h.blk).ne hp (by decide) e),aF h.own T (λg hg e=>(aM h.own hg).ne hp (by decide) e),λz hz=>(h.el z hz).touch T (λg hg e=>hg.ne hp (by decide) (qQa _) e),h.res.touch T (λe=>(aG h.res).ne hp (by decide) e),h.touch.trans T (λk hk e=>by have:=h.py;omega)⟩
theorem UI.blk10(h:UI w wr p M R base sA i sc Z A n c t)(T:aC (λg=>g=p) wr wS)(o:Obj)(hg:(wS.alloc o).grownBy w10 (Value.slice sA i sc).ownBlock):aL w10 M 89 #[.int .i64 base,.slice sA i sc]:=by
 obtain⟨k1,k2,k3,k4,k5⟩:=h.kept T
 have T1:aC (λ_=>False) wS (wS.alloc o):=(aC.refl _ _).alloc _
 have hb:=k1.touch T1 (λf=>f)
 have ho:=aF k2 T1 (λ_ _ f=>f)
 exact hb.grown hg (λe=>(aM ho e.symm).ne (aG hb) (by decide) rfl)
theorem UI.grow(h:UI w wr p M R base sA i sc Z A n c t)(T:aC (λg=>g=p) wr wS)(o:Obj)(hg:(wS.alloc o).grownBy w10 (Value.slice sA i sc).ownBlock)(v:Value){k:Int}(hr:pQ wS p A' n' c' t' k) :
  pQ (w10.setCell ⟨M,1,none⟩ v) p A' n' c' t' k/\aL (w10.setCell ⟨M,1,none⟩ v) M 89 #[.int .i64 base,v]/\aL (w10.setCell ⟨M,1,none⟩ v) R 89 #[.int .i64 0,.slice none 0 0]/\aC (λ_=>False) w (w10.setCell ⟨M,1,none⟩ v)/\(∀ z:ZV,z.Ok wS->z.Ok (w10.setCell ⟨M,1,none⟩ v))/\aC (λg=>g=M\/(Value.slice sA i sc).ownBlock=some g) wS (w10.setCell ⟨M,1,none⟩ v):=by
 obtain⟨k1,k2,k3,k4,k5⟩:=h.kept T
 have T1:aC (λ_=>False) wS (wS.alloc o):=(aC.refl _ _).alloc _
 have ho:=aF k2 T1 (λ_ _ f=>f)
 have T10:aC (λg=>(Value.slice sA i sc).ownBlock=some g) (wS.alloc o) w10:=(aC.refl _ _).grown hg (λk hk _=>hk)
 have hno:∀ {ty:TypeId} {g:Nat},bQ (wS.alloc o) g ty->ty ≠ 170 -> ¬ (Value.slice sA i sc).ownBlock=some g:=λhg ht e=>hg.ne (aM ho e) ht rfl
 have hbM:=h.blk10 T o hg
 have T11:aC (λg=>g=M) w10 (w10.setCell ⟨M,1,none⟩ v):=(aC.refl (λg=>g=M) _).setCell (λ_=>rfl) _
 have hM:=aG hbM
 have hr10:=(hr.quiet T1).touch T10 (hno (aG (hr.quiet T1).blk) (by decide)) (λg hg=>hno hg (by decide))
 have hR10:=(k4.touch T1 (λf=>f)).touch T10 (hno (aG (k4.touch T1 (λf=>f))) (by decide))
 refine⟨hr10.touch T11 (λe=>(aG hr10.blk).ne hM (by decide) e) (λg hg e=>hg.ne hM (by decide) e),hbM.set_ 1 v,hR10.touch T11 h.ne,?_,?_,?_⟩
 ·exact ((k5.then T1).trans T10 (λk hk e=>absurd (h.fresh k e) (by omega))).trans T11 (λk hk e=>by have:=h.my;omega)
 ·intro z hz
  exact ((hz.quiet T1).touch T10 (λg hg=>hno (ot0 hg) (by decide))).touch T11 (λg hg e=>hg.ne hM (by decide) (qQa _) e)
 ·exact ((T1.up _).trans T10 (λ_ _ e=>.inr e)).trans T11 (λ_ _ e=>.inl e)
theorem UI.step(h:UI w wr p M R base sA i sc Z A n c t)(T:aC (λg=>g=p) wr wS){z:ZV}(hz:z.Ok wS){o:Obj}{g4 cap4:Nat}(hg:(wS.alloc o).grownBy w10 (Value.slice sA i sc).ownBlock)(hl:(Value.slice sA i sc).ownBlock=some g4\/g4=(wS.alloc o).heap.size)(ho:w10.ownsRow 0 170 3 (.slice (some ⟨g4,0,none⟩) (i+1) cap4) (i+1) (pP Z++z.cells))(hr:pQ wS p A' n' c' t' 0) :
  UI w (w10.setCell ⟨M,1,none⟩ (.slice (some ⟨g4,0,none⟩) (i+1) cap4)) p M R base (some ⟨g4,0,none⟩) (i+1) cap4 (Z++[z]) A' n' c' t':=by
 obtain⟨r1,r2,r3,r4,r5,r6⟩:=h.grow T o hg (.slice (some ⟨g4,0,none⟩) (i+1) cap4) hr
 obtain⟨k1,k2,k3,k4,k5⟩:=h.kept T
 have hbM:=h.blk10 T o hg
 have T11:aC (λg=>g=M) w10 (w10.setCell ⟨M,1,none⟩ (.slice (some ⟨g4,0,none⟩) (i+1) cap4)):=(aC.refl (λg=>g=M) _).setCell (λ_=>rfl) _
 refine⟨r1,r2,?_,by rw[qJa,h.len];rfl,?_,r3,r4,?_,h.py,h.my,h.ne⟩
 ·have e:pP (Z++[z])=pP Z++z.cells:=by simp[pP]
  rw[e]
  exact aF ho T11 (λg hg e=>(aM ho hg).ne (aG hbM) (by decide) e)
 ·intro x hx
  rcases List.mem_append.1 hx with hx | hx
  ·exact r5 x (k3 x hx)
  ·rw[List.mem_singleton.1 hx]
   exact r5 z hz
 ·intro g hg'
  injection hg' with hg'
  rcases hl with e | e
  ·exact h.fresh g (hg' ▸ e)
  ·have:=k5.size
   simp only at hg'
   rw[<-hg',e]
   simp
   omega
theorem UI.sts(h:UI w wr p M R base sA i sc Z A n c t):Vn wr sA i Z:=⟨Pq.of_own h.own,h.len,h.el⟩
end
theorem aEm{acc:List Fk}(hi:i<cnt)(h:rZ cnt 0 t2=(rZ (cnt-i) i t).map λr=>(acc++r.1,r.2)){z:Fk}(hz:Ek i t=some (z,t')):rZ cnt 0 t2=(rZ (cnt-(i+1)) (i+1) t').map λr=>((acc++[z])++r.1,r.2):=by
 rw[h,show cnt-i=(cnt-(i+1))+1 by omega]
 simp only[rZ,hz]
 cases rZ (cnt-(i+1)) (i+1) t' with
 | none=>rfl
 | some r=>simp
theorem aGe:(Tryz.prog.info? 170).map (λi=>(i.zero,i.size,i.bytes))=some (some (.agg #[.bool false,.int .i64 0,.slice none 0 0]),3,40):=by kernel_rfl
theorem oS{m:Nat}(h:fC m bs=some (n,t)):t.length<=bs.length:=by
 rw[(dW h).1,qJa]
 omega
theorem Aw(i:Nat):∀ (k:Nat) (l:Int) (bs:List UInt8) (ars:List (Int × Int × Int)) (t:List UInt8),fK i k l bs=some (ars,t)->t.length<=bs.length
 | 0,l,bs,ars,t,h=>by
  simp only[fK,Option.some.injEq,Prod.mk.injEq] at h
  rw[h.2]
  exact qXa _
 | k+1,l,bs,ars,t,h=>by
  simp only[fK] at h
  split at h
  ·cases h
  ·rename_i d t1 e1
   split at h
   ·cases h
   ·rename_i o t2 e2
    split at h
    ·cases h
    ·rename_i b t3 e3
     split at h
     ·cases h
     ·rename_i ars' t4 e4
      simp only[Option.some.injEq,Prod.mk.injEq] at h
      obtain⟨_,rfl⟩:=h
      have h1:=oS e1
      have h2:=oS e2
      have h3:=oS e3
      have h4:=Aw i k _ _ _ _ e4
      omega
theorem aHw{z:Fk}(h:Ek i bs=some (z,t)):t.length<=bs.length:=by
 unfold Ek at h
 split at h
 ·cases h
 ·rename_i n t1 e1
  split at h
  ·cases h
  ·rename_i o t2 e2
   split at h
   ·cases h
   ·rename_i ars t3 e3
    simp only[Option.some.injEq,Prod.mk.injEq] at h
    obtain⟨_,rfl⟩:=h
    have h1:=oS e1
    have h3:=Aw _ _ _ _ _ _ e3
    have h2:t2.length<=t1.length:=by
     unfold yQ at e2
     split at e2
     ·exact oS e2
     ·simp only[Option.some.injEq,Prod.mk.injEq] at e2
      rw[e2.2]
      exact qXa _
    omega
theorem Sy(w:World)(hL:cV w)(base:Nat)(sts:List cU)(hb:base<=1048576)(hRg:Am sts (base:Int))(A:Option Addr)(n c:Nat)(bs:List UInt8)(hbs:bs=qX base sts)(hr:aH w 1 A n (bs.map bG))(hl:bs.length=n)(hn:n<=4398046511104) :
  Calls Tryz.prog 55 #[.slice A n c] w λe w'=>aFb base sts w e w':=by
 have hpos:uW bs=some ((base,sts.map cU.z),[]):=by
  have h1:=Rh hb (aDn hRg) (Yq hRg) []
  rw[List.append_nil,<-hbs] at h1
  exact h1
 have HPOS:=aB hpos
 have HRG:=aB hRg
 obtain⟨i1,hi1,hy0,hy1,hy2⟩:=aQ aGe
 obtain⟨w0,hw0⟩:=eX (w.alloc (.cells #[.int .i64 0,.slice none 0 0] 89))
 have hT0:aC (λ_=>False) w w0:=by rw[hw0];exact (aC.refl _ _).alloc _
 have hbR:aL w0 w.heap.size 89 #[.int .i64 0,.slice none 0 0]:=by rw[hw0];exact aL.new _ _ _
 obtain⟨R,hR⟩:=eX w.heap.size
 rw[<-hR] at hbR
 have hrd:=Nl w0 A n c bs (hr.touch hT0 (λ_ _ f=>f)) hl (by omega)
 have HL:=aB hL
 have HLN:=aB hl
 have HN:=aB hn
 have HW0:=aB hw0
 have HT0:=aB hT0
 have HBR:=aB hbR
 have HRR:=aB hR
 have HRD:=aB hrd
 clear hL hr hl hn hw0 hT0 hbR hR hrd hbs hpos hRg
 go_in
 go_wp2_with fail
 rw[<-HW0.out,<-HRR.out]
 refine HRD.mono ?_
 rintro e w1 ⟨p,A1,n1,c1,rfl,hr1,hp1,T1⟩
 have hb1:=HBR.touch T1 (λf=>f)
 have HP1:=aB (show w.heap.size<=p by have:=HT0.size;omega)
 have HR1:=aB hr1
 have HB1:=aB hb1
 have HT1:=aB (HT0.then T1)
 clear hr1 hb1 T1 hp1
 go_wp2_with fail
 refine (nV w1 p A1 n1 c1 bs HR1 1048576 _ rfl).mono ?_
 rintro e w2 (⟨base',t1,A2,n2,c2,hu1,rfl,hr2,T2⟩ | ⟨hu1,rfl,k,hk,hr2,T2⟩)
 ·have hbe:base=base':=by
   have h1:=HPOS.out
   unfold uW at h1
   rw[hu1] at h1
   simp only at h1
   split at h1
   ·cases h1
   ·split at h1
    ·cases h1
    ·simp only[Option.some.injEq,Prod.mk.injEq] at h1
     exact h1.1.1.symm
  subst hbe
  have hbb:=(dW hu1).2
  have b0:IntKind.i64.wrap (base:Int)=(base:Int):=mW (by omega)
  have hT2:aC (λ_=>False) w w2:=HT1.trans T2 (λi hi e=>by have:=HP1.out;omega)
  have hb2:=HB1.touch T2 (λe=>(aG HB1).ne (aG HR1.blk) (by decide) e)
  obtain⟨M,hM⟩:=eX w2.heap.size
  obtain⟨w3,hw3⟩:=eX (w2.alloc (.cells #[.int .i64 base,.slice none 0 0] 89))
  have hT3:aC (λ_=>False) w2 w3:=by rw[hw3];exact (aC.refl _ _).alloc _
  have hbM:aL w3 M 89 #[.int .i64 base,.slice none 0 0]:=by rw[hw3,hM];exact aL.new _ _ _
  have hmw:w.heap.size<=M:=by have:=hT2.size;omega
  have hrm:R≠M:=by have:=hb2.lt;omega
  have hui:UI w w3 p M R base none 0 0 [] A2 n2 c2 t1:=⟨hr2.quiet hT3,hbM,World.ownsRow_nil _ _ _ _,rfl,λz hz=>(by cases hz),hb2.touch hT3 (λf=>f),hT2.then hT3,λg hg=>(by cases hg),HP1,hmw,hrm⟩
  have HUI:=aB hui
  have HU1:=aB hu1
  have HBB:=aB hbb
  have HW3:=aB hw3
  have HM:=aB hM
  clear hbb hT2 hb2 hM hw3 hT3 hbM hui hmw hrm hr2 T2 hu1
  go_wp2_with fail
  rw[<-HW3.out,<-HM.out]
  refine (nV w3 p A2 n2 c2 t1 HUI.rdr 98305 _ rfl).mono ?_
  rintro e w4 (⟨cnt,t2,A3,n3,c3,hu2,rfl,hr3,T3⟩ | ⟨hu2,rfl,k,hk,hr3,T3⟩)
  ·have hcb:=(dW hu2).2
   have c0:IntKind.i64.wrap (cnt:Int)=(cnt:Int):=mW (by omega)
   obtain⟨k1,k2,k3,k4,k5⟩:=HUI.kept T3
   have hui4:UI w w4 p M R base none 0 0 [] A3 n3 c3 t2:=⟨hr3,k1,k2,rfl,k3,k4,k5,HUI.fresh,HUI.py,HUI.my,HUI.ne⟩
   have hmach:uW bs=(rZ cnt 0 t2).map λr=>((base,r.1),r.2):=by
    unfold uW
    rw[HU1.out]
    simp only
    rw[hu2]
    simp only
    cases rZ cnt 0 t2 with
    | none=>rfl
    | some r=>rfl
   have HMC:=aB hmach
   have HUI4:=aB hui4
   have HCB:=aB hcb
   have HNL:Hid (t2.length<=4398046511104):=aB (by
    have h1:=congrArg List.length (dW HU1).1
    have h2:=congrArg List.length (dW hu2).1
    rw[qJa] at h1 h2
    have:=HLN.out
    have:=HN.out
    omega)
   clear hcb hu2 hr3 T3 k1 k2 k3 k4 k5 hui4 hmach HU1 HUI HR1 HB1
   go_wp2_with fail
   go_loopw [7] (λiv wr=>∃ (i:Nat) (sA:Option Addr) (sc:Nat) (Z:List ZV) (A:Option Addr) (n c:Nat) (t:List UInt8),iv=.int .i64 i/\i<=cnt/\Hid (UI w wr p M R base sA i sc Z A n c t)/\Hid (rZ cnt 0 t2=(rZ (cnt-i) i t).map (λr=>(Z.map ZV.p++r.1,r.2)))/\Hid (t.length<=t2.length)) (λiv _=>cnt-(intOf iv).toNat)
   case atStart=>exact⟨0,none,0,[],_,_,_,t2,rfl,qQa _,HUI4,aB (by simp),aB (qXa _)⟩
   case round =>
    obtain⟨i,sA,sc,Z,A5,n5,c5,t5,rfl,hi,HUI5,HST,HTL⟩:=hrel
    obtain⟨wq,hwq⟩:=eX wr
    subst hwq
    have y0:(0:Int)<=(i:Int):=by omega
    have y1:IntKind.i64.wrap ((i:Int)+1)=(i:Int)+1:=qZa _ (by have:=HCB.out;omega)
    have hUI:=HUI5.out
    have hst:=HST.out
    have HER:=aB (Jf wq p A5 n5 c5 t5 0 hUI.rdr)
    by_cases hic:i<cnt
    ·have j0:(i:Int)<(cnt:Int):=by omega
     have hs5:∃ z0 t0,Ek i t5=some (z0,t0):=by
      have h1:=HPOS.out
      rw[HMC.out,hst,show cnt-i=(cnt-(i+1))+1 by omega] at h1
      simp only[rZ] at h1
      cases hs:Ek i t5 with
      | none=>rw[hs] at h1;cases h1
      | some r=>exact⟨r.1,r.2,rfl⟩
     obtain⟨z0,t0,hs5⟩:=hs5
     have hst5:∀ wx,aC (λ_=>False) wq wx->Calls Tryz.prog 116 #[.pointer (some ⟨p,0,none⟩),.int .i64 i] wx λe w'=>aAa p i t5 wx e w':=λwx T =>
      Tj wx p A5 n5 c5 t5 (hUI.rdr.quiet T) (by have:=HTL.out;have:=hUI.rdr.len;have:=HNL.out;omega) i (by have:=HCB.out;omega) hs5
     have HS5:=aB hst5
     have HIC:=aB hic
     have hbb1:i+1<=maxLen:=by unfold maxLen;have:=HCB.out;omega
     have hbb2:(i+1)*40<=140737488355328:=by have:=HCB.out;omega
     have HBB2:=aB (And.intro hbb1 hbb2)
     obtain⟨m0,m1,m2⟩:=hUI.blk.facts
     clear hUI hst hs5 hst5 hic hi hbb1 hbb2
     go_wp2_with fail
     refine HER.mono ?_
     rintro e wx ⟨rfl,hwx⟩
     subst hwx
     go_wp2_with fail
     go_region_law (first
      | (go_simp;go_at_call 116;refine (HS5 _ (by first | exact aC.refl _ _ | exact (aC.refl _ _).drew)).mono ?_;rintro e wS ⟨z,rfl,TS,hS⟩;have HTS:=aB TS;have HSS:=aB hS;clear TS hS;obtain⟨f0,f1,f2⟩:=((HUI5.quiet (aC.refl (λ_=>False) wx).drew).kept HTS).1.facts)
      | (refine step_append_lies _ rfl (.tmp 28) (.tmp 32) 87 rfl 0 170 i1 _ 3 40 Tryz.underlying87 hi1 hy0 hy1 hy2 (by decide) (by decide) (.slice sA i sc) i _ (by simp[Act.eval]) (aF ((HUI5.quiet (aC.refl (λ_=>False) wx).drew).kept HTS).2.1 ((aC.refl _ _).alloc _) (λ_ _ f=>f)) ⟨wS.heap.size,0,none⟩ 1 1 [.bool z.fin,.int .i64 z.out,.slice z.A z.n z.c] (by simp[Act.eval]) rfl ?news ?one (by decide) HBB2.1 HBB2.2 (qQa _) _ rfl ?_;(case news=>exact World.news_of_block (aL.new wS _ _));(case one=>exact List.all_eq_true.1 rfl);intro g4 cap4 w9 hown hgrow hlies _;obtain⟨q1,q2,q3⟩:=((HUI5.quiet (aC.refl (λ_=>False) wx).drew).blk10 HTS _ hgrow).facts;have HO9:=aB hown;have HG9:=aB hgrow;have HLI:=aB hlies;clear hown hgrow hlies))
     all_goals go_wp2_with fail
     all_goals go_roundw
     all_goals first
      | (have:=HIC.out;simp only[intOf];omega)
      | (have hui6:=HUI5.quiet (aC.refl (λ_=>False) wx).drew
         obtain⟨t6,hz6,hzo,A6,n6,c6,hr6⟩:=HSS.out
         refine⟨i+1,_,cap4,Z++[z],A6,n6,c6,t6,by simp,by have:=HIC.out;omega,aB (hui6.step HTS hzo HG9 HLI HO9 hr6),aB ?_,aB ?_⟩
         ·rw[List.map_append]
          exact aEm HIC HST hz6
         ·have h1:=aHw hz6
          have h2:=HTL.out
          omega)
    ·have hie:i=cnt:=by omega
     have j0:¬ (i:Int)<(cnt:Int):=by omega
     rw[hie,Nat.sub_self] at hst
     simp only[rZ,Option.map_some,List.append_nil] at hst
     have hm:uW bs=some ((base,Z.map ZV.p),t5):=by rw[HMC.out,hst];rfl
     rw[hm] at HPOS
     have hpos:=HPOS.out
     simp only[Option.some.injEq,Prod.mk.injEq,true_and] at hpos
     obtain⟨hzs,ht5⟩:=hpos
     obtain⟨Y,hY,hsY⟩:=hUI.sts.ok hzs
     have hn5:n5=0:=by rw[<-hUI.rdr.len,ht5];rfl
     have HRDR:=aB hUI.rdr
     have HRES:=aB hUI.res
     have HTCH:=aB hUI.touch
     have HGR:=aB (xJ wq (cV.touch HL HTCH) base sA i sc Y (Oj hsY) (by rw[hY];exact HRG))
     have HEN:=aB (Ub wq p _ _ _ _ _ HRDR)
     have HN5:=aB hn5
     have HY:=aB hY
     have HSY:=aB hsY
     have HSC:=aB (fY HUI5.own).1
     obtain⟨m0,m1,m2⟩:=HUI5.blk.facts
     clear hUI hst hie hi hic hm hzs ht5 hY hsY hn5
     go_wp2_with fail
     refine HEN.mono ?_
     rintro e wx ⟨x,rfl,hx,hwx⟩
     subst hwx
     have hx0:x=0:=hx.2 ⟨rfl,HN5⟩
     subst hx0
     clear hx HEN
     go_wp2_with fail
     refine HGR.mono ?_
     rintro e wy ⟨rfl,T9⟩
     obtain⟨rr0,rr1,rr2⟩:=(HRES.touch T9 (λf=>f)).facts
     have HRS:=aB (HRES.touch T9 (λf=>f))
     have HTC9:=aB (HTCH.then T9)
     clear m0 m1 m2
     obtain⟨m0,m1,m2⟩:=(HUI5.blk.touch T9 (λf=>f)).facts
     have HSZ:=aB (HSY.quiet T9)
     clear T9 HGR
     go_wp2_with fail
     have hbF:=(HRS.set_ 0 (.int .i64 base)).set_ 1 (.slice sA i sc)
     have g0:=hbF.cell 0
     have g1:=hbF.cell 1
     have hTF:aC (λ_=>False) w ((wy.setCell ⟨R,0,none⟩ (.int .i64 base)).setCell ⟨R,1,none⟩ (.slice sA i sc)):=by
      iterate 2 refine aC.setCell ?_ (λh=>by have:=HRR.out;simp only at h;omega) _
      exact HTC9
     have hTR:aC (λg=>g=R) wy ((wy.setCell ⟨R,0,none⟩ (.int .i64 base)).setCell ⟨R,1,none⟩ (.slice sA i sc)) :=
      ((aC.refl (λg=>g=R) wy).setCell (p:=⟨R,0,none⟩) (λ_=>rfl) _).setCell (p:=⟨R,1,none⟩) (λ_=>rfl) _
     have hfin:Fl ((wy.setCell ⟨R,0,none⟩ (.int .i64 base)).setCell ⟨R,1,none⟩ (.slice sA i sc)) sA i Y :=
      ⟨HSZ.rd.touch hTR (λg hg e=>hg.ne (aG HRS) (by decide) (qQa _) e),HSZ.len,λz hz=>(HSZ.el z hz).touch hTR (λg hg e=>hg.ne (aG HRS) (by decide) (qQa _) e)⟩
     exact bodyPost_ret (v:=.tuple #[.agg #[.int .i64 base,.slice sA i sc],.int .i64 0]) (by simp[results,Tryz.results55,go_sem,g0,g1]) rfl ⟨hTF,sA,i,sc,Y,rfl,Oj hfin,HY,HSC⟩
  ·have h1:=HPOS.out
   unfold uW at h1
   rw[HU1.out] at h1
   simp only at h1
   rw[hu2] at h1
   cases h1
 ·have h1:=HPOS.out
  unfold uW at h1
  rw[hu1] at h1
  cases h1
end Go.Proofs.YthockgmbooefpaaGreatDoor
