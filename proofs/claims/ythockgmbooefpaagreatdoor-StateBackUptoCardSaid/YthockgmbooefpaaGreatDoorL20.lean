/- What the law rests on, part 20. No condition but those that each theorem names. -/
import Derived.Test.YthockgmbooefpaaGreatDoorL16
import Derived.Test.YthockgmbooefpaaGreatDoorL19
import Derived.Deep.RegionHeld3
import Derived.Deep.AppendLies
set_option linter.unusedSectionVars false
set_option linter.unusedSimpArgs false
set_option linter.unusedVariables false
set_option maxRecDepth 100000
set_option maxHeartbeats 8000000
namespace Go.Proofs.YthockgmbooefpaaGreatDoor
open Go.RowKit
instance zeroBaseU:Inhabited BaseT:=⟨⟨0⟩⟩
theorem ot0 {w:World} {g:Nat} {t:TypeId} (h:OT w g t):TyAt w g t:=by
 rcases h with ⟨_,h⟩ | h
 ·exact absurd h (Nat.not_lt_zero _)
 ·exact h
def StPost (p i:Nat) (bs:List UInt8) (w:World) (e:Ending) (w':World):Prop :=
 ∃ z:ZV,e=.returned (.agg #[.bool z.fin,.int .i64 z.out,.slice z.A z.n z.c])∧Touch (fun g=>g=p) w w' ∧
  ((∃ t,stR i bs=some (z.p,t)∧z.Ok w'∧∃ (A:Option Addr) (n c:Nat),Rdr w' p A n c t 0)∨(stR i bs=none∧∃ (A:Option Addr) (n c:Nat) (t:List UInt8) (k:Int),1≤k∧Rdr w' p A n c t k))
theorem arcs_more {i k:Nat} {l:Int} {bs:List UInt8} {acc:List (Int × Int × Int)} {cnt:Nat} {t2:List UInt8} (h:arcsR i cnt 0 t2=(arcsR i (k+1) l bs).map fun r=>(acc++r.1,r.2)) {d o b:Nat} {s1 s2 s3:List UInt8}
  (h1:uintR 1114111 bs=some (d,s1)) (h2:uintR 1048576 s1=some (o,s2)) (h3:uintR 98305 s2=some (b,s3)) :
  arcsR i cnt 0 t2=(arcsR i k (IntKind.i32.wrap (l+d)) s3).map fun r=>((acc++[(IntKind.i32.wrap (l+d),(o:Int),(i:Int)-(b:Int))])++r.1,r.2):=by
 rw [h]
 simp only [arcsR,h1,h2,h3]
 cases arcsR i k (IntKind.i32.wrap (l+d)) s3 with
 | none=>rfl
 | some r=>simp
theorem arcs_stop {i k:Nat} {l:Int} {bs:List UInt8} {acc:List (Int × Int × Int)} {cnt:Nat} {t2:List UInt8} (h:arcsR i cnt 0 t2=(arcsR i (k+1) l bs).map fun r=>(acc++r.1,r.2))
  (hf:uintR 1114111 bs=none∨(∃ d s1,uintR 1114111 bs=some (d,s1)∧(uintR 1048576 s1=none∨∃ o s2,uintR 1048576 s1=some (o,s2)∧uintR 98305 s2=none))):arcsR i cnt 0 t2=none:=by
 rw [h]
 rcases hf with h1 | ⟨d,s1,h1,h2 | ⟨o,s2,h2,h3⟩⟩
 ·simp only [arcsR,h1];rfl
 ·simp only [arcsR,h1,h2];rfl
 ·simp only [arcsR,h1,h2,h3];rfl
theorem i64_nat {n:Nat} (h:n<9223372036854775808):IntKind.i64.wrap (n:Int)=(n:Int):=IntWalk.i64_in _ (by omega)
theorem i32_nat {n:Nat} (h:n<2147483648):IntKind.i32.wrap (n:Int)=(n:Int):=IntWalk.i32_in _ (by omega)
theorem infoArc8:(Tryz.prog.info? 173).map (fun i=>(i.zero,i.size,i.bytes))=some (some (.agg #[.int .i32 0,.int .i64 0,.int .i64 0]),3,24):=by kernel_rfl
structure SI (w wr:World) (p S:Nat) (fin:Bool) (out:Int) (aA:Option Addr) (ai ac:Nat) (acc:List (Int × Int × Int)) (A:Option Addr) (n c:Nat) (bs:List UInt8) (R:Nat):Prop where
 rdr:Rdr wr p A n c bs 0
 blk:Blk wr S 170 #[.bool fin,.int .i64 out,.slice aA ai ac]
 own:wr.ownsRow 0 173 3 (.slice aA ai ac) ai (zaCells acc)
 len:acc.length=ai
 res:Blk wr R 170 #[.bool false,.int .i64 0,.slice none 0 0]
 touch:Touch (fun g=>g=p) w wr
 fresh:∀ g,(Value.slice aA ai ac).ownBlock=some g→w.heap.size≤g
 ne:R≠S
 sy:w.heap.size≤S
theorem SI.uint {w wr wx:World} {p S R:Nat} {fin:Bool} {out:Int} {aA:Option Addr} {ai ac:Nat} {acc:List (Int × Int × Int)} {A A':Option Addr} {n c n' c':Nat} {bs t:List UInt8} (h:SI w wr p S fin out aA ai ac acc A n c bs R) (T:Touch (fun g=>g=p) wr wx) (hr:Rdr wx p A' n' c' t 0):SI w wx p S fin out aA ai ac acc A' n' c' t R:=by
 have hp:=blk_ty h.rdr.blk
 exact ⟨hr,h.blk.touch T (fun e=>(blk_ty h.blk).ne hp (by decide) e),own_touch h.own T (fun g hg e=>(own_ty h.own hg).ne hp (by decide) e),h.len,h.res.touch T (fun e=>(blk_ty h.res).ne hp (by decide) e),h.touch.then T,h.fresh,h.ne,h.sy⟩
theorem SI.blk10 {w wx wy w10:World} {p S R:Nat} {fin:Bool} {out:Int} {aA:Option Addr} {ai ac:Nat} {acc:List (Int × Int × Int)} {A:Option Addr} {n c:Nat} {bs:List UInt8} (h:SI w wx p S fin out aA ai ac acc A n c bs R) (T:Touch (fun _=>False) wx wy) (hg:wy.grownBy w10 (Value.slice aA ai ac).ownBlock) :
  Blk w10 S 170 #[.bool fin,.int .i64 out,.slice aA ai ac]:=by
 have hown:=own_touch h.own T (fun _ _ f=>f)
 have T10:Touch (fun g=>(Value.slice aA ai ac).ownBlock=some g) wy w10:=(Touch.refl _ _).grown hg (fun k hk _=>hk)
 have hb:=h.blk.touch T (fun f=>f)
 exact hb.touch T10 (fun e=>(blk_ty hb).ne (own_ty hown e) (by decide) rfl)
theorem SI.out {w wx:World} {p S R:Nat} {fin:Bool} {out:Int} {A:Option Addr} {n c:Nat} {bs:List UInt8} (h:SI w wx p S fin out none 0 0 [] A n c bs R) (o:Int):SI w (wx.setCell ⟨S,1,none⟩ (.int .i64 o)) p S fin o none 0 0 [] A n c bs R:=by
 have T11:Touch (fun g=>g=S) wx (wx.setCell ⟨S,1,none⟩ (.int .i64 o)):=(Touch.refl (fun g=>g=S) _).setCell (fun _=>rfl) _
 have hS:=blk_ty h.blk
 exact ⟨h.rdr.touch T11 (fun e=>(blk_ty h.rdr.blk).ne hS (by decide) e) (fun g hg e=>hg.ne hS (by decide) e),h.blk.set_ 1 _,World.ownsRow_nil _ _ _ _,rfl,h.res.touch T11 h.ne,h.touch.trans T11 (fun k hk e=>by have:=h.sy;omega),fun g hg=>(by cases hg),h.ne,h.sy⟩
theorem SI.app {w wx wy w10:World} {p S R:Nat} {fin:Bool} {out:Int} {aA:Option Addr} {ai ac:Nat} {acc:List (Int × Int × Int)} {A:Option Addr} {n c:Nat} {bs:List UInt8} (h:SI w wx p S fin out aA ai ac acc A n c bs R) (T:Touch (fun _=>False) wx wy) {a':Option Addr} {cap:Nat} (l o b:Int)
  (ho:w10.ownsRow 0 173 3 (.slice a' (ai+1) cap) (ai+1) (zaCells acc++[.int .i32 l,.int .i64 o,.int .i64 b])) (hg:wy.grownBy w10 (Value.slice aA ai ac).ownBlock) (hf:Fresh wy (.slice aA ai ac) (.slice a' (ai+1) cap)) :
  SI w (w10.setCell ⟨S,2,none⟩ (.slice a' (ai+1) cap)) p S fin out a' (ai+1) cap (acc++[(l,o,b)]) A n c bs R:=by
 have hown:=own_touch h.own T (fun _ _ f=>f)
 have T10:Touch (fun g=>(Value.slice aA ai ac).ownBlock=some g) wy w10:=(Touch.refl _ _).grown hg (fun k hk _=>hk)
 have hno:∀ {t:TypeId} {g:Nat},TyAt wy g t→t ≠ 173 → ¬ (Value.slice aA ai ac).ownBlock=some g:=fun hg ht e=>hg.ne (own_ty hown e) ht rfl
 have hb10:=(h.blk.touch T (fun f=>f)).touch T10 (hno (blk_ty (h.blk.touch T (fun f=>f))) (by decide))
 have T11:Touch (fun g=>g=S) w10 (w10.setCell ⟨S,2,none⟩ (.slice a' (ai+1) cap)):=(Touch.refl (fun g=>g=S) _).setCell (fun _=>rfl) _
 have hS:=blk_ty hb10
 have hr10:=(h.rdr.quiet T).touch T10 (hno (blk_ty (h.rdr.quiet T).blk) (by decide)) (fun g hg=>hno hg (by decide))
 have hR10:=(h.res.touch T (fun f=>f)).touch T10 (hno (blk_ty (h.res.touch T (fun f=>f))) (by decide))
 refine ⟨hr10.touch T11 (fun e=>(blk_ty hr10.blk).ne hS (by decide) e) (fun g hg e=>hg.ne hS (by decide) e),hb10.set_ 2 _,?_,by rw [List.length_append,h.len];rfl,hR10.touch T11 h.ne,?_,?_,h.ne,h.sy⟩
 ·have e:zaCells (acc++[(l,o,b)])=zaCells acc++[.int .i32 l,.int .i64 o,.int .i64 b]:=by simp [zaCells]
  rw [e]
  exact own_touch ho T11 (fun g hg e=>(own_ty ho hg).ne hS (by decide) e)
 ·have t1:Touch (fun g=>g=p) w w10:=(h.touch.trans T (fun _ _ f=>f.elim)).trans T10 (fun k hk e=>absurd (h.fresh k e) (by omega))
  exact t1.trans T11 (fun k hk e=>by have:=h.sy;omega)
 ·intro g hg'
  rcases hf with e | ⟨g2,e,hle⟩
  ·rw [e] at hg'
   exact h.fresh g hg'
  ·rw [e] at hg'
   injection hg' with hg'
   have:=h.touch.size
   have:=T.size
   omega
theorem set3_touch {w wr:World} {p R:Nat} (hR:w.heap.size≤R) (T:Touch (fun g=>g=p) w wr) (a b c:Value):Touch (fun g=>g=p) w (((wr.setCell ⟨R,0,none⟩ a).setCell ⟨R,1,none⟩ b).setCell ⟨R,2,none⟩ c):=by
 iterate 3 refine Touch.setCell ?_ (fun h=>by simp only at h;omega) _
 exact T
theorem set3_rdr {wr:World} {p R:Nat} {A:Option Addr} {n c:Nat} {bs:List UInt8} {e:Int} (h:Rdr wr p A n c bs e) {cs:Array Value} (hR:Blk wr R 170 cs) (x y z:Value):Rdr (((wr.setCell ⟨R,0,none⟩ x).setCell ⟨R,1,none⟩ y).setCell ⟨R,2,none⟩ z) p A n c bs e:=by
 have T:Touch (fun g=>g=R) wr (((wr.setCell ⟨R,0,none⟩ x).setCell ⟨R,1,none⟩ y).setCell ⟨R,2,none⟩ z):=by
  exact (((Touch.refl (fun g=>g=R) wr).setCell (p:=⟨R,0,none⟩) (fun _=>rfl) _).setCell (p:=⟨R,1,none⟩) (fun _=>rfl) _).setCell (p:=⟨R,2,none⟩) (fun _=>rfl) _
 exact h.touch T (fun e=>(blk_ty h.blk).ne (blk_ty hR) (by decide) e) (fun g hg e=>hg.ne (blk_ty hR) (by decide) e)
theorem set3_zv {wr:World} {R:Nat} {z:ZV} (h:z.Ok wr) {cs:Array Value} (hR:Blk wr R 170 cs) (a b c:Value):z.Ok (((wr.setCell ⟨R,0,none⟩ a).setCell ⟨R,1,none⟩ b).setCell ⟨R,2,none⟩ c):=by
 have T:Touch (fun g=>g=R) wr (((wr.setCell ⟨R,0,none⟩ a).setCell ⟨R,1,none⟩ b).setCell ⟨R,2,none⟩ c):=by
  exact (((Touch.refl (fun g=>g=R) wr).setCell (p:=⟨R,0,none⟩) (fun _=>rfl) _).setCell (p:=⟨R,1,none⟩) (fun _=>rfl) _).setCell (p:=⟨R,2,none⟩) (fun _=>rfl) _
 exact h.touch T (fun g hg e=>hg.ne (blk_ty hR) (by decide) (Nat.zero_le _) e)
theorem SI.zv {w wr:World} {p S R:Nat} {fin:Bool} {out:Int} {aA:Option Addr} {ai ac:Nat} {acc:List (Int × Int × Int)} {A:Option Addr} {n c:Nat} {bs:List UInt8} (h:SI w wr p S fin out aA ai ac acc A n c bs R):(⟨fin,out,aA,ai,ac,acc⟩:ZV).Ok wr :=
 ⟨h.len,RdO.of_own h.own,(own_slice h.own).1,(own_slice h.own).2⟩
end Go.Proofs.YthockgmbooefpaaGreatDoor
namespace Go.Proofs.YthockgmbooefpaaGreatDoor
open Go.RowKit
theorem uint_c (w:World) (p:Nat) (A:Option Addr) (n c:Nat) (bs:List UInt8) (h:Rdr w p A n c bs 0) (most:Nat) (m:Int) (hm:m=(most:Int)) :
  Calls Tryz.prog 57 #[.pointer (some ⟨p,0,none⟩),.int .u64 m] w fun e w'=>UintPost p most A n c bs w e w':=by
 subst hm
 exact uint_ok w p A n c bs h most
theorem uint_n (w:World) (p:Nat) (A:Option Addr) (n c:Nat) (bs:List UInt8) (k:Int) (h:Rdr w p A n c bs k) (hk:1≤k) (m:Int) (hm:0≤m) :
  Calls Tryz.prog 57 #[.pointer (some ⟨p,0,none⟩),.int .u64 m] w fun e w'=>e=.returned (.int .u64 0)∧w=w':=by
 obtain ⟨q,rfl⟩:∃ q:Nat,m=(q:Int):=⟨m.toNat,by omega⟩
 exact (uint_no w p A n c bs k h hk q).mono fun e w' ⟨h1,h2⟩=>⟨h1,h2.symm⟩
structure SF (w wr:World) (p S:Nat) (fin:Bool) (out:Int) (aA:Option Addr) (ai ac:Nat) (R:Nat):Prop where
 blk:Blk wr S 170 #[.bool fin,.int .i64 out,.slice aA ai ac]
 res:Blk wr R 170 #[.bool false,.int .i64 0,.slice none 0 0]
 touch:Touch (fun g=>g=p) w wr
theorem SI.sf {w wr:World} {p S R:Nat} {fin:Bool} {out:Int} {aA:Option Addr} {ai ac:Nat} {acc:List (Int × Int × Int)} {A:Option Addr} {n c:Nat} {bs:List UInt8} (h:SI w wr p S fin out aA ai ac acc A n c bs R):SF w wr p S fin out aA ai ac R:=⟨h.blk,h.res,h.touch⟩
theorem SF.then {w wr wx:World} {p S R:Nat} {fin:Bool} {out:Int} {aA:Option Addr} {ai ac:Nat} (h:SF w wr p S fin out aA ai ac R) {t:TypeId} {cs:Array Value} (hp:Blk wr p t cs) (ht : 170 ≠ t) (T:Touch (fun g=>g=p) wr wx):SF w wx p S fin out aA ai ac R :=
 ⟨h.blk.touch T (fun e=>(blk_ty h.blk).ne (blk_ty hp) ht e),h.res.touch T (fun e=>(blk_ty h.res).ne (blk_ty hp) ht e),h.touch.then T⟩
theorem SF.out {w wx:World} {p S R:Nat} {fin:Bool} {out:Int} {aA:Option Addr} {ai ac:Nat} (h:SF w wx p S fin out aA ai ac R) (hne:R≠S) (hs:w.heap.size≤S) (o:Int):SF w (wx.setCell ⟨S,1,none⟩ (.int .i64 o)) p S fin o aA ai ac R:=by
 have T11:Touch (fun g=>g=S) wx (wx.setCell ⟨S,1,none⟩ (.int .i64 o)):=(Touch.refl (fun g=>g=S) _).setCell (fun _=>rfl) _
 exact ⟨h.blk.set_ 1 _,h.res.touch T11 hne,h.touch.trans T11 (fun k hk e=>by omega)⟩
theorem rdr_set {wx:World} {p S:Nat} {A:Option Addr} {n c:Nat} {bs:List UInt8} {k:Int} {cs:Array Value} (h:Rdr wx p A n c bs k) (hS:Blk wx S 170 cs) (o:Int):Rdr (wx.setCell ⟨S,1,none⟩ (.int .i64 o)) p A n c bs k:=by
 have T11:Touch (fun g=>g=S) wx (wx.setCell ⟨S,1,none⟩ (.int .i64 o)):=(Touch.refl (fun g=>g=S) _).setCell (fun _=>rfl) _
 exact h.touch T11 (fun e=>(blk_ty h.blk).ne (blk_ty hS) (by decide) e) (fun g hg e=>hg.ne (blk_ty hS) (by decide) e)
theorem ustate_any (w:World) (p:Nat) (A:Option Addr) (n c:Nat) (bs:List UInt8) (h:Rdr w p A n c bs 0) (hn:n≤4398046511104) (i:Nat) (hi:i≤98305) :
  Calls Tryz.prog 116 #[.pointer (some ⟨p,0,none⟩),.int .i64 i] w fun e w'=>StPost p i bs w e w':=by
 obtain ⟨i1,hi1,hy0,hy1,hy2⟩:=info_parts infoArc8
 obtain ⟨w0,hw0⟩:∃ x,x=w.alloc (.cells #[.bool false,.int .i64 0,.slice none 0 0] 170):=⟨_,rfl⟩
 have hT0:Touch (fun _=>False) w w0:=by rw [hw0];exact (Touch.refl _ _).alloc _
 have hbR:Blk w0 w.heap.size 170 #[.bool false,.int .i64 0,.slice none 0 0]:=by rw [hw0];exact Blk.new _ _ _
 have h0:=h.quiet hT0
 have hp0:=h.blk.lt
 obtain ⟨R,hR⟩:∃ R,R=w.heap.size:=⟨_,rfl⟩
 rw [← hR] at hbR
 have HP0:=hide hp0
 have HW0:=hide hw0
 have HT0:=hide hT0
 have HBR:=hide hbR
 have H0:=hide h0
 have HRR:=hide hR
 have HLN:=hide h.len
 have HLF:=hide (fun wx (hx:Rdr wx p A n c bs 0)=>left_any wx p A n c bs 0 hx)
 have y0:IntKind.u64.wrap (2*(n:Int)+1)=2*(n:Int)+1:=by rw [IntKind.wrap_u64];omega
 have y1:IntKind.i64.wrap (2*(n:Int)+1)=2*(n:Int)+1:=IntWalk.i64_in _ (by omega)
 have y2:IntKind.i64.wrap (2*(n:Int))=2*(n:Int):=IntWalk.i64_in _ (by omega)
 have y3:(0:Int)≤(n:Int):=by omega
 clear hw0 hT0 hbR h0 h hp0 hR
 go_enter Tryz.func116,Tryz.ntmps116
 go_wp2_with fail
 rw [← HW0.out,← HRR.out]
 refine (HLF.out w0 H0.out).mono ?_
 rintro e wx ⟨rfl,hwx⟩
 subst hwx
 go_wp2_with fail
 refine (uint_c wx p A n c bs H0.out (2*n+1) _ (by push_cast;rfl)).mono ?_
 rintro e w1 (⟨v,t1,A1,n1,c1,hu1,rfl,hr1,T1⟩ | ⟨hu1,rfl,k,hk,hr1,T1⟩)
 ·
  have hv:=(uintR_read hu1).2
  have hbp:=H0.out.blk
  have hwp:R≠p:=fun e=>(blk_ty HBR.out).ne (blk_ty hbp) (by decide) e
  have hb1:=HBR.out.touch T1 hwp
  obtain ⟨cnt,hcnt⟩:∃ cnt,cnt=v / 2:=⟨_,rfl⟩
  have HCB:=hide (show cnt≤4398046511104 by omega)
  have HIB:=hide hi
  have v0:IntKind.i64.wrap (v:Int)=(v:Int):=i64_nat (by omega)
  have v1:(0:Int)≤(v:Int):=by omega
  have v2:(v:Int) / 2=(cnt:Int):=by omega
  have v4:(0:Int)≤(cnt:Int):=by omega
  have v5:(cnt:Int)≤4398046511104:=by omega
  obtain ⟨fb,hfb⟩:∃ fb,decide (v % 2=1)=fb:=⟨_,rfl⟩
  have v3:((v:Int) % 2 == 1)=fb:=by rw [← hfb,Bool.eq_iff_iff];simp;omega
  obtain ⟨S,hS⟩:∃ S,S=w1.heap.size:=⟨_,rfl⟩
  obtain ⟨w2,hw2⟩:∃ x,x=w1.alloc (.cells #[.bool fb,.int .i64 0,.slice none 0 0] 170):=⟨_,rfl⟩
  have hT2:Touch (fun _=>False) w1 w2:=by rw [hw2];exact (Touch.refl _ _).alloc _
  have hbS:Blk w2 S 170 #[.bool fb,.int .i64 0,.slice none 0 0]:=by rw [hw2,hS];exact Blk.new _ _ _
  have hsi:SI w w2 p S fb 0 none 0 0 [] A1 n1 c1 t1 R:=⟨hr1.quiet hT2,hbS,World.ownsRow_nil _ _ _ _,rfl,hb1.touch hT2 (fun f=>f),((HT0.out.up _).then T1).then (hT2.up _),fun g hg=>(by cases hg),by have:=hb1.lt;omega,by have:=T1.size;have:=HT0.out.size;omega⟩
  have hst:stR i bs=(match outR8 fb t1 with
    | none=>none
    | some (o,t2)=>(arcsR i cnt 0 t2).map fun r=>((⟨fb,(o:Int),r.1⟩:StZ),r.2)):=by
   unfold stR
   rw [← HLN.out] at hu1
   rw [hu1]
   simp only
   rw [hfb,hcnt]
   cases outR8 fb t1 with
   | none=>rfl
   | some r =>
    simp only
    cases arcsR i (v / 2) 0 r.2 with
    | none=>rfl
    | some q=>rfl
  clear hv hbp hwp hb1 hcnt hfb hu1 hr1 T1 hi
  cases fb with
  | false =>
   simp only [outR8,Bool.false_eq_true,if_false] at hst
   have HW2:=hide hw2
   have HS2:=hide hS
   clear hw2 hS hT2 hbS
   go_wp2_with fail
   rw [← HW2.out,← HS2.out]
   have HSI:=hide hsi
   have HST:=hide hst
   clear hsi hst
   go_wp2_with fail
   go_loopw [7,30] (fun lv jv wr=>∃ (j:Nat) (lab:Int) (aA:Option Addr) (ai ac:Nat) (acc:List (Int × Int × Int)) (A3:Option Addr) (n3 c3:Nat) (t3:List UInt8),lv=.int .i32 lab∧jv=.int .i64 j∧j≤cnt∧Hid (SI w wr p S false 0 aA ai ac acc A3 n3 c3 t3 R)∧Hid (arcsR i cnt 0 t1=(arcsR i (cnt-j) lab t3).map fun r=>(acc++r.1,r.2))∧Hid (ai≤j)) (fun _ jv _=>cnt-(intOf jv).toNat)
   case atStart=>exact ⟨0,0,none,0,0,[],_,_,_,_,rfl,rfl,Nat.zero_le _,HSI,hide (by simp),hide (Nat.le_refl _)⟩
   case round =>
    obtain ⟨j,lab,aA,ai,ac,acc,A3,n3,c3,t3,rfl,rfl,hj,HS,HE,HAI⟩:=hrel
    obtain ⟨wq,hwq⟩:∃ x,x=wr:=⟨_,rfl⟩
    subst hwq
    by_cases hjc:j<cnt
    ·have j0:(j:Int)<(cnt:Int):=by omega
     have j1:(0:Int)≤(j:Int):=by omega
     have j2:IntKind.i64.wrap ((j:Int)+1)=(j:Int)+1:=IntWalk.i64_in _ (by have:=HCB.out;omega)
     have hcj:cnt-j=(cnt-(j+1))+1:=by omega
     have hee:=HE.out
     rw [hcj] at hee
     have HEE:=hide hee
     have HJC:=hide hjc
     clear hee hcj hjc hj
     go_wp2_with fail
     refine (uint_c wq p A3 n3 c3 t3 HS.out.rdr 1114111 _ rfl).mono ?_
     rintro e wa (⟨d,s1,Aa,na,ca,hu1,rfl,hra,Ta⟩ | ⟨hu1,rfl,k,hk,hra,Ta⟩)
     ·have hd:=(uintR_read hu1).2
      have HSA:=hide (HS.out.uint Ta hra)
      have HU1:=hide hu1
      have d0:IntKind.i32.wrap (d:Int)=(d:Int):=i32_nat (by omega)
      obtain ⟨lab2,hl2⟩:∃ x,IntKind.i32.wrap (lab+(d:Int))=x:=⟨_,rfl⟩
      have HL2:=hide hl2
      clear hu1 hra Ta hd
      go_wp2_with fail
      refine (uint_c wa p Aa na ca s1 HSA.out.rdr 1048576 _ rfl).mono ?_
      rintro e wb (⟨o,s2,Ab,nb,cb,hu2,rfl,hrb,Tb⟩ | ⟨hu2,rfl,k,hk,hrb,Tb⟩)
      ·have hd:=(uintR_read hu2).2
       have HSB:=hide (HSA.out.uint Tb hrb)
       have HU2:=hide hu2
       have o0:IntKind.i64.wrap (o:Int)=(o:Int):=i64_nat (by omega)
       have HOB:=hide hd
       clear hu2 hrb Tb hd
       go_wp2_with fail
       refine (uint_c wb p Ab nb cb s2 HSB.out.rdr 98305 _ rfl).mono ?_
       rintro e wc (⟨b,s3,Ac,nc,cc,hu3,rfl,hrc,Tc⟩ | ⟨hu3,rfl,k,hk,hrc,Tc⟩)
       ·have hd:=(uintR_read hu3).2
        have HSC:=hide (HSB.out.uint Tc hrc)
        have hmore:=arcs_more HEE.out HU1.out HU2.out hu3
        rw [HL2.out] at hmore
        have HMORE:=hide hmore
        have b0:IntKind.i64.wrap (b:Int)=(b:Int):=i64_nat (by omega)
        have b1:IntKind.i64.wrap ((i:Int)-(b:Int))=(i:Int)-(b:Int):=IntWalk.i64_in _ (by have:=HIB.out;omega)
        have HER:=hide (err_any wc p Ac nc cc s3 0 HSC.out.rdr)
        obtain ⟨wd,hwd⟩:∃ x,x=wc.alloc (.cells #[.int .i32 lab2,.int .i64 (o:Int),.int .i64 ((i:Int)-(b:Int))] 173):=⟨_,rfl⟩
        have hTd:Touch (fun _=>False) wc wd:=by rw [hwd];exact (Touch.refl _ _).alloc _
        have hrd:Reads wd 3 (some ⟨wc.heap.size,0,none⟩) 1 [.int .i32 lab2,.int .i64 (o:Int),.int .i64 ((i:Int)-(b:Int))]:=by rw [hwd];exact Reads.new wc _ _ 1 rfl
        have hone:∀ u∈([.int .i32 lab2,.int .i64 (o:Int),.int .i64 ((i:Int)-(b:Int))]:List Value),u.oneCell'=true:=by
         intro u hu
         simp only [List.mem_cons,List.not_mem_nil,or_false] at hu
         rcases hu with rfl | rfl | rfl<;>rfl
        have hbb1:ai+1≤maxLen:=by unfold maxLen;have:=HAI.out;have:=HJC.out;have:=HCB.out;omega
        have hbb2:(ai+1)*24≤140737488355328:=by have:=HAI.out;have:=HJC.out;have:=HCB.out;omega
        have HOWN:=hide (own_touch HSC.out.own hTd (fun _ _ f=>f))
        have HRD:=hide hrd
        have HONE:=hide hone
        have HBB:=hide (And.intro hbb1 hbb2)
        have HTD:=hide hTd
        have HWD:=hide hwd
        obtain ⟨s0,s1',s2'⟩:=HSC.out.blk.facts
        clear hu3 hrc Tc hd hmore hwd hTd hrd hone hbb1 hbb2
        go_wp2_with fail
        refine HER.out.mono ?_
        rintro e wx ⟨rfl,hwx⟩
        subst hwx
        go_wp2_with (at_builtin;rw [← HWD.out];refine wpList_app _ rfl (.tmp 47) (.tmp 54) 168 rfl 173 i1 _ 3 24 Tryz.underlying168 hi1 hy0 hy1 hy2 rfl (by decide) (.slice aA ai ac) ai _ rfl HOWN.out (some ⟨wx.heap.size,0,none⟩) 1 1 [.int .i32 lab2,.int .i64 (o:Int),.int .i64 ((i:Int)-(b:Int))] rfl HRD.out (fun h=>by cases h) HONE.out HBB.out.1 HBB.out.2 ?_;intro v1 w10 O10 G10 F10 _;obtain ⟨A2x,c2x,hv,_,_⟩:=own_len O10;subst hv;have HNX:=hide (HSC.out.app HTD.out _ _ _ O10 G10 F10);obtain ⟨z0,z1,z2⟩:=(HSC.out.blk10 HTD.out G10).facts;clear O10 G10 F10)
        go_roundw
        ·exact ⟨j+1,lab2,_,_,_,_,_,_,_,_,rfl,by simp,by have:=HJC.out;omega,HNX,HMORE,hide (by have:=HAI.out;omega)⟩
        ·have:=HJC.out
         simp only [intOf]
         omega
       ·have hno:=arcs_stop HEE.out (.inr ⟨d,s1,HU1.out,.inr ⟨o,s2,HU2.out,hu3⟩⟩)
        have hsx:stR i bs=none:=by rw [HST.out,hno];rfl
        have HNO:=hide hsx
        have HK:=hide hk
        have HRC:=hide hrc
        have HSF:=hide (HSB.out.sf.then HSB.out.rdr.blk (by decide) Tc)
        have HER:=hide (err_any wc p Ab nb cb s2 k hrc)
        have k0:(k == 0)=false:=by simp;omega
        have k1:¬ k=0:=by omega
        obtain ⟨s0,s1',s2'⟩:=HSF.out.blk.facts
        obtain ⟨r0,r1',r2'⟩:=HSF.out.res.facts
        clear hno hsx hk hrc Tc hu3
        go_wp2_with fail
        refine HER.out.mono ?_
        rintro e wx ⟨rfl,hwx⟩
        subst hwx
        go_wp2_with fail
        have hbF:=((HSF.out.res.set_ 0 (.bool false)).set_ 1 (.int .i64 0)).set_ 2 (.slice aA ai ac)
        have g0:=hbF.cell 0
        have g1:=hbF.cell 1
        have g2:=hbF.cell 2
        have hTF:=set3_touch (show w.heap.size≤R by rw [HRR.out];exact Nat.le_refl _) HSF.out.touch (.bool false) (.int .i64 0) (.slice aA ai ac)
        try rw [← HRR.out]
        exact bodyPost_ret (v:=.agg #[.bool false,.int .i64 0,.slice aA ai ac]) (by simp [results,Tryz.results116,go_sem,g0,g1,g2]) rfl ⟨⟨false,0,aA,ai,ac,[]⟩,rfl,hTF,.inr ⟨HNO.out,_,_,_,_,_,HK.out,set3_rdr HRC.out HSF.out.res _ _ _⟩⟩
      ·have hno:=arcs_stop HEE.out (.inr ⟨d,s1,HU1.out,.inl hu2⟩)
       have hsx:stR i bs=none:=by rw [HST.out,hno];rfl
       have HNO:=hide hsx
       have HK:=hide hk
       have HRC:=hide hrb
       have HSF:=hide (HSA.out.sf.then HSA.out.rdr.blk (by decide) Tb)
       have HUN:=hide (uint_n wb p Aa na ca s1 k hrb hk 98305 (by decide))
       have HER:=hide (err_any wb p Aa na ca s1 k hrb)
       have k0:(k == 0)=false:=by simp;omega
       have k1:¬ k=0:=by omega
       obtain ⟨s0,s1',s2'⟩:=HSF.out.blk.facts
       obtain ⟨r0,r1',r2'⟩:=HSF.out.res.facts
       clear hno hsx hk hrb Tb hu2
       go_wp2_with fail
       refine HUN.out.mono ?_
       rintro e wx ⟨rfl,hwx⟩
       subst hwx
       go_wp2_with fail
       refine HER.out.mono ?_
       rintro e wx ⟨rfl,hwx⟩
       subst hwx
       go_wp2_with fail
       have hbF:=((HSF.out.res.set_ 0 (.bool false)).set_ 1 (.int .i64 0)).set_ 2 (.slice aA ai ac)
       have g0:=hbF.cell 0
       have g1:=hbF.cell 1
       have g2:=hbF.cell 2
       have hTF:=set3_touch (show w.heap.size≤R by rw [HRR.out];exact Nat.le_refl _) HSF.out.touch (.bool false) (.int .i64 0) (.slice aA ai ac)
       try rw [← HRR.out]
       exact bodyPost_ret (v:=.agg #[.bool false,.int .i64 0,.slice aA ai ac]) (by simp [results,Tryz.results116,go_sem,g0,g1,g2]) rfl ⟨⟨false,0,aA,ai,ac,[]⟩,rfl,hTF,.inr ⟨HNO.out,_,_,_,_,_,HK.out,set3_rdr HRC.out HSF.out.res _ _ _⟩⟩
     ·have hno:=arcs_stop HEE.out (.inl hu1)
      have hsx:stR i bs=none:=by rw [HST.out,hno];rfl
      have HNO:=hide hsx
      have HK:=hide hk
      have HRC:=hide hra
      have HSF:=hide (HS.out.sf.then HS.out.rdr.blk (by decide) Ta)
      have HUN:=hide (fun m hm=>uint_n wa p A3 n3 c3 t3 k hra hk m hm)
      have HER:=hide (err_any wa p A3 n3 c3 t3 k hra)
      have k0:(k == 0)=false:=by simp;omega
      have k1:¬ k=0:=by omega
      obtain ⟨s0,s1',s2'⟩:=HSF.out.blk.facts
      obtain ⟨r0,r1',r2'⟩:=HSF.out.res.facts
      clear hno hsx hk hra Ta hu1
      go_wp2_with fail
      refine (HUN.out 1048576 (by decide)).mono ?_
      rintro e wx ⟨rfl,hwx⟩
      subst hwx
      go_wp2_with fail
      refine (HUN.out 98305 (by decide)).mono ?_
      rintro e wx ⟨rfl,hwx⟩
      subst hwx
      go_wp2_with fail
      refine HER.out.mono ?_
      rintro e wx ⟨rfl,hwx⟩
      subst hwx
      go_wp2_with fail
      have hbF:=((HSF.out.res.set_ 0 (.bool false)).set_ 1 (.int .i64 0)).set_ 2 (.slice aA ai ac)
      have g0:=hbF.cell 0
      have g1:=hbF.cell 1
      have g2:=hbF.cell 2
      have hTF:=set3_touch (show w.heap.size≤R by rw [HRR.out];exact Nat.le_refl _) HSF.out.touch (.bool false) (.int .i64 0) (.slice aA ai ac)
      try rw [← HRR.out]
      exact bodyPost_ret (v:=.agg #[.bool false,.int .i64 0,.slice aA ai ac]) (by simp [results,Tryz.results116,go_sem,g0,g1,g2]) rfl ⟨⟨false,0,aA,ai,ac,[]⟩,rfl,hTF,.inr ⟨HNO.out,_,_,_,_,_,HK.out,set3_rdr HRC.out HSF.out.res _ _ _⟩⟩
    ·have j0:¬ (j:Int)<(cnt:Int):=by omega
     have hje:cnt-j=0:=by omega
     have hee:=HE.out
     rw [hje] at hee
     have hsx:stR i bs=some ((⟨false,0,aA,ai,ac,acc⟩:ZV).p,t3):=by
      rw [HST.out,hee]
      simp [arcsR,ZV.p]
     have HNO:=hide hsx
     have HSF:=hide HS.out.sf
     obtain ⟨s0,s1',s2'⟩:=HSF.out.blk.facts
     obtain ⟨r0,r1',r2'⟩:=HSF.out.res.facts
     clear hsx hee hje hj
     go_wp2_with fail
     have hbF:=((HSF.out.res.set_ 0 (.bool false)).set_ 1 (.int .i64 0)).set_ 2 (.slice aA ai ac)
     have g0:=hbF.cell 0
     have g1:=hbF.cell 1
     have g2:=hbF.cell 2
     have hTF:=set3_touch (show w.heap.size≤R by rw [HRR.out];exact Nat.le_refl _) HSF.out.touch (.bool false) (.int .i64 0) (.slice aA ai ac)
     try rw [← HRR.out]
     exact bodyPost_ret (v:=.agg #[.bool false,.int .i64 0,.slice aA ai ac]) (by simp [results,Tryz.results116,go_sem,g0,g1,g2]) rfl ⟨⟨false,0,aA,ai,ac,acc⟩,rfl,hTF,.inl ⟨t3,HNO.out,set3_zv HS.out.zv HSF.out.res _ _ _,_,_,_,set3_rdr HS.out.rdr HSF.out.res _ _ _⟩⟩
  | true =>
   simp only [outR8,if_true] at hst
   have HSI0:=hide hsi
   have HST0:=hide hst
   have HW2:=hide hw2
   have HS2:=hide hS
   obtain ⟨s0,s1',s2'⟩:=hbS.facts
   clear hw2 hS hT2 hbS hsi hst
   go_wp2_with fail
   rw [← HW2.out,← HS2.out]
   refine (uint_c w2 p A1 n1 c1 t1 HSI0.out.rdr 1048576 _ rfl).mono ?_
   rintro e wa (⟨oo,t2,A2,n2,c2,hu2,rfl,hr2,T2⟩ | ⟨hu2,rfl,k,hk,hr2,T2⟩)
   ·have hob:=(uintR_read hu2).2
    have hst:=HST0.out
    rw [hu2] at hst
    simp only at hst
    have o0:IntKind.i64.wrap (oo:Int)=(oo:Int):=i64_nat (by omega)
    have hsi:=(HSI0.out.uint T2 hr2).out oo
    clear s0 s1' s2'
    obtain ⟨s0,s1',s2'⟩:=(HSI0.out.uint T2 hr2).blk.facts
    clear hob hu2 hr2 T2 HST0
    have HSI:=hide hsi
    have HST:=hide hst
    clear hsi hst
    go_wp2_with fail
    go_loopw [7,30] (fun lv jv wr=>∃ (j:Nat) (lab:Int) (aA:Option Addr) (ai ac:Nat) (acc:List (Int × Int × Int)) (A3:Option Addr) (n3 c3:Nat) (t3:List UInt8),lv=.int .i32 lab∧jv=.int .i64 j∧j≤cnt∧Hid (SI w wr p S true (oo:Int) aA ai ac acc A3 n3 c3 t3 R)∧Hid (arcsR i cnt 0 t2=(arcsR i (cnt-j) lab t3).map fun r=>(acc++r.1,r.2))∧Hid (ai≤j)) (fun _ jv _=>cnt-(intOf jv).toNat)
    case atStart=>exact ⟨0,0,none,0,0,[],_,_,_,_,rfl,rfl,Nat.zero_le _,HSI,hide (by simp),hide (Nat.le_refl _)⟩
    case round =>
     obtain ⟨j,lab,aA,ai,ac,acc,A3,n3,c3,t3,rfl,rfl,hj,HS,HE,HAI⟩:=hrel
     obtain ⟨wq,hwq⟩:∃ x,x=wr:=⟨_,rfl⟩
     subst hwq
     by_cases hjc:j<cnt
     ·have j0:(j:Int)<(cnt:Int):=by omega
      have j1:(0:Int)≤(j:Int):=by omega
      have j2:IntKind.i64.wrap ((j:Int)+1)=(j:Int)+1:=IntWalk.i64_in _ (by have:=HCB.out;omega)
      have hcj:cnt-j=(cnt-(j+1))+1:=by omega
      have hee:=HE.out
      rw [hcj] at hee
      have HEE:=hide hee
      have HJC:=hide hjc
      clear hee hcj hjc hj
      go_wp2_with fail
      refine (uint_c wq p A3 n3 c3 t3 HS.out.rdr 1114111 _ rfl).mono ?_
      rintro e wa (⟨d,s1,Aa,na,ca,hu1,rfl,hra,Ta⟩ | ⟨hu1,rfl,k,hk,hra,Ta⟩)
      ·have hd:=(uintR_read hu1).2
       have HSA:=hide (HS.out.uint Ta hra)
       have HU1:=hide hu1
       have d0:IntKind.i32.wrap (d:Int)=(d:Int):=i32_nat (by omega)
       obtain ⟨lab2,hl2⟩:∃ x,IntKind.i32.wrap (lab+(d:Int))=x:=⟨_,rfl⟩
       have HL2:=hide hl2
       clear hu1 hra Ta hd
       go_wp2_with fail
       refine (uint_c wa p Aa na ca s1 HSA.out.rdr 1048576 _ rfl).mono ?_
       rintro e wb (⟨o,s2,Ab,nb,cb,hu2,rfl,hrb,Tb⟩ | ⟨hu2,rfl,k,hk,hrb,Tb⟩)
       ·have hd:=(uintR_read hu2).2
        have HSB:=hide (HSA.out.uint Tb hrb)
        have HU2:=hide hu2
        have o0:IntKind.i64.wrap (o:Int)=(o:Int):=i64_nat (by omega)
        have HOB:=hide hd
        clear hu2 hrb Tb hd
        go_wp2_with fail
        refine (uint_c wb p Ab nb cb s2 HSB.out.rdr 98305 _ rfl).mono ?_
        rintro e wc (⟨b,s3,Ac,nc,cc,hu3,rfl,hrc,Tc⟩ | ⟨hu3,rfl,k,hk,hrc,Tc⟩)
        ·have hd:=(uintR_read hu3).2
         have HSC:=hide (HSB.out.uint Tc hrc)
         have hmore:=arcs_more HEE.out HU1.out HU2.out hu3
         rw [HL2.out] at hmore
         have HMORE:=hide hmore
         have b0:IntKind.i64.wrap (b:Int)=(b:Int):=i64_nat (by omega)
         have b1:IntKind.i64.wrap ((i:Int)-(b:Int))=(i:Int)-(b:Int):=IntWalk.i64_in _ (by have:=HIB.out;omega)
         have HER:=hide (err_any wc p Ac nc cc s3 0 HSC.out.rdr)
         obtain ⟨wd,hwd⟩:∃ x,x=wc.alloc (.cells #[.int .i32 lab2,.int .i64 (o:Int),.int .i64 ((i:Int)-(b:Int))] 173):=⟨_,rfl⟩
         have hTd:Touch (fun _=>False) wc wd:=by rw [hwd];exact (Touch.refl _ _).alloc _
         have hrd:Reads wd 3 (some ⟨wc.heap.size,0,none⟩) 1 [.int .i32 lab2,.int .i64 (o:Int),.int .i64 ((i:Int)-(b:Int))]:=by rw [hwd];exact Reads.new wc _ _ 1 rfl
         have hone:∀ u∈([.int .i32 lab2,.int .i64 (o:Int),.int .i64 ((i:Int)-(b:Int))]:List Value),u.oneCell'=true:=by
          intro u hu
          simp only [List.mem_cons,List.not_mem_nil,or_false] at hu
          rcases hu with rfl | rfl | rfl<;>rfl
         have hbb1:ai+1≤maxLen:=by unfold maxLen;have:=HAI.out;have:=HJC.out;have:=HCB.out;omega
         have hbb2:(ai+1)*24≤140737488355328:=by have:=HAI.out;have:=HJC.out;have:=HCB.out;omega
         have HOWN:=hide (own_touch HSC.out.own hTd (fun _ _ f=>f))
         have HRD:=hide hrd
         have HONE:=hide hone
         have HBB:=hide (And.intro hbb1 hbb2)
         have HTD:=hide hTd
         have HWD:=hide hwd
         obtain ⟨s0,s1',s2'⟩:=HSC.out.blk.facts
         clear hu3 hrc Tc hd hmore hwd hTd hrd hone hbb1 hbb2
         go_wp2_with fail
         refine HER.out.mono ?_
         rintro e wx ⟨rfl,hwx⟩
         subst hwx
         go_wp2_with (at_builtin;rw [← HWD.out];refine wpList_app _ rfl (.tmp 47) (.tmp 54) 168 rfl 173 i1 _ 3 24 Tryz.underlying168 hi1 hy0 hy1 hy2 rfl (by decide) (.slice aA ai ac) ai _ rfl HOWN.out (some ⟨wx.heap.size,0,none⟩) 1 1 [.int .i32 lab2,.int .i64 (o:Int),.int .i64 ((i:Int)-(b:Int))] rfl HRD.out (fun h=>by cases h) HONE.out HBB.out.1 HBB.out.2 ?_;intro v1 w10 O10 G10 F10 _;obtain ⟨A2x,c2x,hv,_,_⟩:=own_len O10;subst hv;have HNX:=hide (HSC.out.app HTD.out _ _ _ O10 G10 F10);obtain ⟨z0,z1,z2⟩:=(HSC.out.blk10 HTD.out G10).facts;clear O10 G10 F10)
         go_roundw
         ·exact ⟨j+1,lab2,_,_,_,_,_,_,_,_,rfl,by simp,by have:=HJC.out;omega,HNX,HMORE,hide (by have:=HAI.out;omega)⟩
         ·have:=HJC.out
          simp only [intOf]
          omega
        ·have hno:=arcs_stop HEE.out (.inr ⟨d,s1,HU1.out,.inr ⟨o,s2,HU2.out,hu3⟩⟩)
         have hsx:stR i bs=none:=by rw [HST.out,hno];rfl
         have HNO:=hide hsx
         have HK:=hide hk
         have HRC:=hide hrc
         have HSF:=hide (HSB.out.sf.then HSB.out.rdr.blk (by decide) Tc)
         have HER:=hide (err_any wc p Ab nb cb s2 k hrc)
         have k0:(k == 0)=false:=by simp;omega
         have k1:¬ k=0:=by omega
         obtain ⟨s0,s1',s2'⟩:=HSF.out.blk.facts
         obtain ⟨r0,r1',r2'⟩:=HSF.out.res.facts
         clear hno hsx hk hrc Tc hu3
         go_wp2_with fail
         refine HER.out.mono ?_
         rintro e wx ⟨rfl,hwx⟩
         subst hwx
         go_wp2_with fail
         have hbF:=((HSF.out.res.set_ 0 (.bool true)).set_ 1 (.int .i64 (oo:Int))).set_ 2 (.slice aA ai ac)
         have g0:=hbF.cell 0
         have g1:=hbF.cell 1
         have g2:=hbF.cell 2
         have hTF:=set3_touch (show w.heap.size≤R by rw [HRR.out];exact Nat.le_refl _) HSF.out.touch (.bool true) (.int .i64 (oo:Int)) (.slice aA ai ac)
         try rw [← HRR.out]
         exact bodyPost_ret (v:=.agg #[.bool true,.int .i64 (oo:Int),.slice aA ai ac]) (by simp [results,Tryz.results116,go_sem,g0,g1,g2]) rfl ⟨⟨true,(oo:Int),aA,ai,ac,[]⟩,rfl,hTF,.inr ⟨HNO.out,_,_,_,_,_,HK.out,set3_rdr HRC.out HSF.out.res _ _ _⟩⟩
       ·have hno:=arcs_stop HEE.out (.inr ⟨d,s1,HU1.out,.inl hu2⟩)
        have hsx:stR i bs=none:=by rw [HST.out,hno];rfl
        have HNO:=hide hsx
        have HK:=hide hk
        have HRC:=hide hrb
        have HSF:=hide (HSA.out.sf.then HSA.out.rdr.blk (by decide) Tb)
        have HUN:=hide (uint_n wb p Aa na ca s1 k hrb hk 98305 (by decide))
        have HER:=hide (err_any wb p Aa na ca s1 k hrb)
        have k0:(k == 0)=false:=by simp;omega
        have k1:¬ k=0:=by omega
        obtain ⟨s0,s1',s2'⟩:=HSF.out.blk.facts
        obtain ⟨r0,r1',r2'⟩:=HSF.out.res.facts
        clear hno hsx hk hrb Tb hu2
        go_wp2_with fail
        refine HUN.out.mono ?_
        rintro e wx ⟨rfl,hwx⟩
        subst hwx
        go_wp2_with fail
        refine HER.out.mono ?_
        rintro e wx ⟨rfl,hwx⟩
        subst hwx
        go_wp2_with fail
        have hbF:=((HSF.out.res.set_ 0 (.bool true)).set_ 1 (.int .i64 (oo:Int))).set_ 2 (.slice aA ai ac)
        have g0:=hbF.cell 0
        have g1:=hbF.cell 1
        have g2:=hbF.cell 2
        have hTF:=set3_touch (show w.heap.size≤R by rw [HRR.out];exact Nat.le_refl _) HSF.out.touch (.bool true) (.int .i64 (oo:Int)) (.slice aA ai ac)
        try rw [← HRR.out]
        exact bodyPost_ret (v:=.agg #[.bool true,.int .i64 (oo:Int),.slice aA ai ac]) (by simp [results,Tryz.results116,go_sem,g0,g1,g2]) rfl ⟨⟨true,(oo:Int),aA,ai,ac,[]⟩,rfl,hTF,.inr ⟨HNO.out,_,_,_,_,_,HK.out,set3_rdr HRC.out HSF.out.res _ _ _⟩⟩
      ·have hno:=arcs_stop HEE.out (.inl hu1)
       have hsx:stR i bs=none:=by rw [HST.out,hno];rfl
       have HNO:=hide hsx
       have HK:=hide hk
       have HRC:=hide hra
       have HSF:=hide (HS.out.sf.then HS.out.rdr.blk (by decide) Ta)
       have HUN:=hide (fun m hm=>uint_n wa p A3 n3 c3 t3 k hra hk m hm)
       have HER:=hide (err_any wa p A3 n3 c3 t3 k hra)
       have k0:(k == 0)=false:=by simp;omega
       have k1:¬ k=0:=by omega
       obtain ⟨s0,s1',s2'⟩:=HSF.out.blk.facts
       obtain ⟨r0,r1',r2'⟩:=HSF.out.res.facts
       clear hno hsx hk hra Ta hu1
       go_wp2_with fail
       refine (HUN.out 1048576 (by decide)).mono ?_
       rintro e wx ⟨rfl,hwx⟩
       subst hwx
       go_wp2_with fail
       refine (HUN.out 98305 (by decide)).mono ?_
       rintro e wx ⟨rfl,hwx⟩
       subst hwx
       go_wp2_with fail
       refine HER.out.mono ?_
       rintro e wx ⟨rfl,hwx⟩
       subst hwx
       go_wp2_with fail
       have hbF:=((HSF.out.res.set_ 0 (.bool true)).set_ 1 (.int .i64 (oo:Int))).set_ 2 (.slice aA ai ac)
       have g0:=hbF.cell 0
       have g1:=hbF.cell 1
       have g2:=hbF.cell 2
       have hTF:=set3_touch (show w.heap.size≤R by rw [HRR.out];exact Nat.le_refl _) HSF.out.touch (.bool true) (.int .i64 (oo:Int)) (.slice aA ai ac)
       try rw [← HRR.out]
       exact bodyPost_ret (v:=.agg #[.bool true,.int .i64 (oo:Int),.slice aA ai ac]) (by simp [results,Tryz.results116,go_sem,g0,g1,g2]) rfl ⟨⟨true,(oo:Int),aA,ai,ac,[]⟩,rfl,hTF,.inr ⟨HNO.out,_,_,_,_,_,HK.out,set3_rdr HRC.out HSF.out.res _ _ _⟩⟩
     ·have j0:¬ (j:Int)<(cnt:Int):=by omega
      have hje:cnt-j=0:=by omega
      have hee:=HE.out
      rw [hje] at hee
      have hsx:stR i bs=some ((⟨true,(oo:Int),aA,ai,ac,acc⟩:ZV).p,t3):=by
       rw [HST.out,hee]
       simp [arcsR,ZV.p]
      have HNO:=hide hsx
      have HSF:=hide HS.out.sf
      obtain ⟨s0,s1',s2'⟩:=HSF.out.blk.facts
      obtain ⟨r0,r1',r2'⟩:=HSF.out.res.facts
      clear hsx hee hje hj
      go_wp2_with fail
      have hbF:=((HSF.out.res.set_ 0 (.bool true)).set_ 1 (.int .i64 (oo:Int))).set_ 2 (.slice aA ai ac)
      have g0:=hbF.cell 0
      have g1:=hbF.cell 1
      have g2:=hbF.cell 2
      have hTF:=set3_touch (show w.heap.size≤R by rw [HRR.out];exact Nat.le_refl _) HSF.out.touch (.bool true) (.int .i64 (oo:Int)) (.slice aA ai ac)
      try rw [← HRR.out]
      exact bodyPost_ret (v:=.agg #[.bool true,.int .i64 (oo:Int),.slice aA ai ac]) (by simp [results,Tryz.results116,go_sem,g0,g1,g2]) rfl ⟨⟨true,(oo:Int),aA,ai,ac,acc⟩,rfl,hTF,.inl ⟨t3,HNO.out,set3_zv HS.out.zv HSF.out.res _ _ _,_,_,_,set3_rdr HS.out.rdr HSF.out.res _ _ _⟩⟩
   ·have hst:=HST0.out
    rw [hu2] at hst
    simp only at hst
    have HNO:=hide hst
    have HK:=hide hk
    have hsf:=HSI0.out.sf.then HSI0.out.rdr.blk (by decide) T2
    have HSF:=hide (hsf.out HSI0.out.ne HSI0.out.sy 0)
    have HRC:=hide (rdr_set hr2 hsf.blk 0)
    have k1:¬ k=0:=by omega
    have k2:(k == 0)=false:=by simp;omega
    clear s0 s1' s2'
    obtain ⟨s0,s1',s2'⟩:=hsf.blk.facts
    clear hst hu2 hr2 hsf hk T2 HST0
    go_wp2_with fail
    clear s0 s1' s2'
    go_loopw [7,30] (fun lv jv wr=>lv=.int .i32 0∧jv=.int .i64 0∧Hid (SF w wr p S true 0 none 0 0 R)∧Hid (Rdr wr p A1 n1 c1 t1 k)) (fun _ _ _=>0)
    case atStart=>exact ⟨rfl,rfl,HSF,HRC⟩
    case round =>
     obtain ⟨rfl,rfl,HSF,HRC⟩:=hrel
     obtain ⟨wq,hwq⟩:∃ x,x=wr:=⟨_,rfl⟩
     subst hwq
     have HUN:=hide (fun m hm=>uint_n wq p A1 n1 c1 t1 k HRC.out HK.out m hm)
     have HER:=hide (err_any wq p A1 n1 c1 t1 k HRC.out)
     obtain ⟨s0,s1',s2'⟩:=HSF.out.blk.facts
     obtain ⟨r0,r1',r2'⟩:=HSF.out.res.facts
     by_cases hc0:cnt=0
     ·have j0:¬ (0:Int)<(cnt:Int):=by omega
      clear hc0
      go_wp2_with fail
      have hbF:=((HSF.out.res.set_ 0 (.bool true)).set_ 1 (.int .i64 0)).set_ 2 (.slice none 0 0)
      have g0:=hbF.cell 0
      have g1:=hbF.cell 1
      have g2:=hbF.cell 2
      have hTF:=set3_touch (show w.heap.size≤R by rw [HRR.out];exact Nat.le_refl _) HSF.out.touch (.bool true) (.int .i64 0) (.slice none 0 0)
      try rw [← HRR.out]
      exact bodyPost_ret (v:=.agg #[.bool true,.int .i64 0,.slice none 0 0]) (by simp [results,Tryz.results116,go_sem,g0,g1,g2]) rfl ⟨⟨true,0,none,0,0,[]⟩,rfl,hTF,.inr ⟨HNO.out,_,_,_,_,_,HK.out,set3_rdr HRC.out HSF.out.res _ _ _⟩⟩
     ·have j0:(0:Int)<(cnt:Int):=by omega
      clear hc0
      go_wp2_with fail
      refine (HUN.out 1114111 (by decide)).mono ?_
      rintro e wx ⟨rfl,hwx⟩
      subst hwx
      go_wp2_with fail
      refine (HUN.out 1048576 (by decide)).mono ?_
      rintro e wx ⟨rfl,hwx⟩
      subst hwx
      go_wp2_with fail
      refine (HUN.out 98305 (by decide)).mono ?_
      rintro e wx ⟨rfl,hwx⟩
      subst hwx
      go_wp2_with fail
      refine HER.out.mono ?_
      rintro e wx ⟨rfl,hwx⟩
      subst hwx
      go_wp2_with fail
      have hbF:=((HSF.out.res.set_ 0 (.bool true)).set_ 1 (.int .i64 0)).set_ 2 (.slice none 0 0)
      have g0:=hbF.cell 0
      have g1:=hbF.cell 1
      have g2:=hbF.cell 2
      have hTF:=set3_touch (show w.heap.size≤R by rw [HRR.out];exact Nat.le_refl _) HSF.out.touch (.bool true) (.int .i64 0) (.slice none 0 0)
      try rw [← HRR.out]
      exact bodyPost_ret (v:=.agg #[.bool true,.int .i64 0,.slice none 0 0]) (by simp [results,Tryz.results116,go_sem,g0,g1,g2]) rfl ⟨⟨true,0,none,0,0,[]⟩,rfl,hTF,.inr ⟨HNO.out,_,_,_,_,_,HK.out,set3_rdr HRC.out HSF.out.res _ _ _⟩⟩
 ·have hbp:=H0.out.blk
  have hwp:R≠p:=fun e=>(blk_ty HBR.out).ne (blk_ty hbp) (by decide) e
  have hb1:=HBR.out.touch T1 hwp
  have hsx:stR i bs=none:=by
   unfold stR
   rw [← HLN.out] at hu1
   rw [hu1]
  have HNO:=hide hsx
  have HK:=hide hk
  obtain ⟨S,hS⟩:∃ S,S=w1.heap.size:=⟨_,rfl⟩
  obtain ⟨w2,hw2⟩:∃ x,x=w1.alloc (.cells #[.bool false,.int .i64 0,.slice none 0 0] 170):=⟨_,rfl⟩
  have hT2:Touch (fun _=>False) w1 w2:=by rw [hw2];exact (Touch.refl _ _).alloc _
  have hbS:Blk w2 S 170 #[.bool false,.int .i64 0,.slice none 0 0]:=by rw [hw2,hS];exact Blk.new _ _ _
  have HSF:Hid (SF w w2 p S false 0 none 0 0 R):=hide ⟨hbS,hb1.touch hT2 (fun f=>f),((HT0.out.up _).then T1).then (hT2.up _)⟩
  have HRC:=hide (hr1.quiet hT2)
  have HW2:=hide hw2
  have HS2:=hide hS
  clear hbp hwp hb1 hsx hk hw2 hS hT2 hbS hr1 T1 hu1
  go_wp2_with fail
  rw [← HW2.out,← HS2.out]
  go_loopw [7,30] (fun lv jv wr=>lv=.int .i32 0∧jv=.int .i64 0∧Hid (wr=w2)) (fun _ _ _=>0)
  case atStart=>exact ⟨rfl,rfl,hide rfl⟩
  case round =>
   obtain ⟨rfl,rfl,hwr⟩:=hrel
   have hwr:=hwr.out
   subst hwr
   obtain ⟨s0,s1',s2'⟩:=HSF.out.blk.facts
   obtain ⟨r0,r1',r2'⟩:=HSF.out.res.facts
   go_wp2_with fail
   have hbF:=((HSF.out.res.set_ 0 (.bool false)).set_ 1 (.int .i64 0)).set_ 2 (.slice none 0 0)
   have g0:=hbF.cell 0
   have g1:=hbF.cell 1
   have g2:=hbF.cell 2
   have hTF:=set3_touch (show w.heap.size≤R by rw [HRR.out];exact Nat.le_refl _) HSF.out.touch (.bool false) (.int .i64 0) (.slice none 0 0)
   try rw [← HRR.out]
   exact bodyPost_ret (v:=.agg #[.bool false,.int .i64 0,.slice none 0 0]) (by simp [results,Tryz.results116,go_sem,g0,g1,g2]) rfl ⟨⟨false,0,none,0,0,[]⟩,rfl,hTF,.inr ⟨HNO.out,_,_,_,_,_,HK.out,set3_rdr HRC.out HSF.out.res _ _ _⟩⟩
def UnpPost (bs:List UInt8) (w:World) (e:Ending) (w':World):Prop:=Touch (fun _=>False) w w' ∧
 ((∃ (base:Nat) (sts:List StP),base≤1048576∧sts.length≤98305∧RgtP sts base∧bs=packB base sts∧∃ (A:Option Addr) (n c:Nat) (Z:List SV),e=.returned (.tuple #[.agg #[.int .i64 base,.slice A n c],.int .i64 0])∧StsOd w' A n Z∧Z.map SV.p=sts∧n≤c) ∨
   ((∀ (base:Nat) (sts:List StP),base≤1048576→RgtP sts base→bs≠packB base sts)∧e=.returned (.tuple #[.agg #[.int .i64 0,.slice none 0 0],.int .i64 80])))
theorem rgtP_few {sts:List StP} {base:Int} (h:RgtP sts base):sts.length≤98305:=by
 rcases h with ⟨h,_⟩ | h
 ·rw [h];simp
 ·exact h.few
theorem rgtP_form {sts:List StP} {base:Int} (h:RgtP sts base):∀ i,i<sts.length→FormP i (sts.getD i noSt):=by
 rcases h with ⟨h,_⟩ | h
 ·intro i hi
  rw [h] at hi
  simp at hi
 ·exact h.form
theorem unp_none {bs:List UInt8} (h:∀ (base:Nat) (zs:List StZ),machR bs=some ((base,zs),[])→¬ RgtZ zs base):∀ (base:Nat) (sts:List StP),base≤1048576→RgtP sts base→bs≠packB base sts:=by
 intro base sts hb hr e
 have h1:=mach_write hb (rgtP_few hr) (rgtP_form hr) []
 rw [List.append_nil,← e] at h1
 exact h base _ h1 ⟨sts,rfl,hr⟩
theorem unp_some {bs:List UInt8} {base:Nat} {sts:List StP} (h:machR bs=some ((base,sts.map StP.z),[])) (hr:RgtP sts base):bs=packB base sts:=by
 have:=mach_read (rgtP_form hr) h
 rw [List.append_nil] at this
 exact this
structure UI (w wr:World) (p M R:Nat) (base:Nat) (sA:Option Addr) (i sc:Nat) (Z:List ZV) (A:Option Addr) (n c:Nat) (t:List UInt8):Prop where
 rdr:Rdr wr p A n c t 0
 blk:Blk wr M 89 #[.int .i64 base,.slice sA i sc]
 own:wr.ownsRow 0 170 3 (.slice sA i sc) i (zCells Z)
 len:Z.length=i
 el:∀ z∈Z,z.Ok wr
 res:Blk wr R 89 #[.int .i64 0,.slice none 0 0]
 touch:Touch (fun _=>False) w wr
 fresh:∀ g,(Value.slice sA i sc).ownBlock=some g→w.heap.size≤g
 py:w.heap.size≤p
 my:w.heap.size≤M
 ne:R≠M
structure UB (w wr:World) (p M R:Nat):Prop where
 rdr:∃ (A:Option Addr) (n c:Nat) (t:List UInt8) (k:Int),1≤k∧Rdr wr p A n c t k
 res:Blk wr R 89 #[.int .i64 0,.slice none 0 0]
 touch:Touch (fun _=>False) w wr
 py:w.heap.size≤p
 my:w.heap.size≤M
 ne:R≠M
section
variable {w wr wx wS w10:World} {p M R base:Nat} {sA:Option Addr} {i sc:Nat} {Z:List ZV} {A:Option Addr} {n c:Nat} {t:List UInt8}
theorem UI.quiet (h:UI w wr p M R base sA i sc Z A n c t) (T:Touch (fun _=>False) wr wx):UI w wx p M R base sA i sc Z A n c t :=
 ⟨h.rdr.quiet T,h.blk.touch T (fun f=>f),own_touch h.own T (fun _ _ f=>f),h.len,fun z hz=>(h.el z hz).quiet T,h.res.touch T (fun f=>f),h.touch.then T,h.fresh,h.py,h.my,h.ne⟩
theorem UI.kept (h:UI w wr p M R base sA i sc Z A n c t) (T:Touch (fun g=>g=p) wr wx):Blk wx M 89 #[.int .i64 base,.slice sA i sc]∧wx.ownsRow 0 170 3 (.slice sA i sc) i (zCells Z)∧(∀ z∈Z,z.Ok wx)∧Blk wx R 89 #[.int .i64 0,.slice none 0 0]∧Touch (fun _=>False) w wx:=by
 have hp:=blk_ty h.rdr.blk
 exact ⟨h.blk.touch T (fun e=>(blk_ty h.blk).ne hp (by decide) e),own_touch h.own T (fun g hg e=>(own_ty h.own hg).ne hp (by decide) e),fun z hz=>(h.el z hz).touch T (fun g hg e=>hg.ne hp (by decide) (Nat.zero_le _) e),h.res.touch T (fun e=>(blk_ty h.res).ne hp (by decide) e),h.touch.trans T (fun k hk e=>by have:=h.py;omega)⟩
theorem UI.blk10 (h:UI w wr p M R base sA i sc Z A n c t) (T:Touch (fun g=>g=p) wr wS) (o:Obj) (hg:(wS.alloc o).grownBy w10 (Value.slice sA i sc).ownBlock):Blk w10 M 89 #[.int .i64 base,.slice sA i sc]:=by
 obtain ⟨k1,k2,k3,k4,k5⟩:=h.kept T
 have T1:Touch (fun _=>False) wS (wS.alloc o):=(Touch.refl _ _).alloc _
 have hb:=k1.touch T1 (fun f=>f)
 have ho:=own_touch k2 T1 (fun _ _ f=>f)
 exact hb.grown hg (fun e=>(own_ty ho e.symm).ne (blk_ty hb) (by decide) rfl)
theorem UI.grow (h:UI w wr p M R base sA i sc Z A n c t) (T:Touch (fun g=>g=p) wr wS) (o:Obj) (hg:(wS.alloc o).grownBy w10 (Value.slice sA i sc).ownBlock) (v:Value) {A':Option Addr} {n' c':Nat} {t':List UInt8} {k:Int} (hr:Rdr wS p A' n' c' t' k) :
  Rdr (w10.setCell ⟨M,1,none⟩ v) p A' n' c' t' k∧Blk (w10.setCell ⟨M,1,none⟩ v) M 89 #[.int .i64 base,v]∧Blk (w10.setCell ⟨M,1,none⟩ v) R 89 #[.int .i64 0,.slice none 0 0]∧Touch (fun _=>False) w (w10.setCell ⟨M,1,none⟩ v)∧(∀ z:ZV,z.Ok wS→z.Ok (w10.setCell ⟨M,1,none⟩ v))∧Touch (fun g=>g=M∨(Value.slice sA i sc).ownBlock=some g) wS (w10.setCell ⟨M,1,none⟩ v):=by
 obtain ⟨k1,k2,k3,k4,k5⟩:=h.kept T
 have T1:Touch (fun _=>False) wS (wS.alloc o):=(Touch.refl _ _).alloc _
 have ho:=own_touch k2 T1 (fun _ _ f=>f)
 have T10:Touch (fun g=>(Value.slice sA i sc).ownBlock=some g) (wS.alloc o) w10:=(Touch.refl _ _).grown hg (fun k hk _=>hk)
 have hno:∀ {ty:TypeId} {g:Nat},TyAt (wS.alloc o) g ty→ty ≠ 170 → ¬ (Value.slice sA i sc).ownBlock=some g:=fun hg ht e=>hg.ne (own_ty ho e) ht rfl
 have hbM:=h.blk10 T o hg
 have T11:Touch (fun g=>g=M) w10 (w10.setCell ⟨M,1,none⟩ v):=(Touch.refl (fun g=>g=M) _).setCell (fun _=>rfl) _
 have hM:=blk_ty hbM
 have hr10:=(hr.quiet T1).touch T10 (hno (blk_ty (hr.quiet T1).blk) (by decide)) (fun g hg=>hno hg (by decide))
 have hR10:=(k4.touch T1 (fun f=>f)).touch T10 (hno (blk_ty (k4.touch T1 (fun f=>f))) (by decide))
 refine ⟨hr10.touch T11 (fun e=>(blk_ty hr10.blk).ne hM (by decide) e) (fun g hg e=>hg.ne hM (by decide) e),hbM.set_ 1 v,hR10.touch T11 h.ne,?_,?_,?_⟩
 ·exact ((k5.then T1).trans T10 (fun k hk e=>absurd (h.fresh k e) (by omega))).trans T11 (fun k hk e=>by have:=h.my;omega)
 ·intro z hz
  exact ((hz.quiet T1).touch T10 (fun g hg=>hno (ot0 hg) (by decide))).touch T11 (fun g hg e=>hg.ne hM (by decide) (Nat.zero_le _) e)
 ·exact ((T1.up _).trans T10 (fun _ _ e=>.inr e)).trans T11 (fun _ _ e=>.inl e)
theorem UI.step (h:UI w wr p M R base sA i sc Z A n c t) (T:Touch (fun g=>g=p) wr wS) {z:ZV} (hz:z.Ok wS) {o:Obj} {g4 cap4:Nat} (hg:(wS.alloc o).grownBy w10 (Value.slice sA i sc).ownBlock) (hl:(Value.slice sA i sc).ownBlock=some g4∨g4=(wS.alloc o).heap.size) (ho:w10.ownsRow 0 170 3 (.slice (some ⟨g4,0,none⟩) (i+1) cap4) (i+1) (zCells Z++z.cells)) {A':Option Addr} {n' c':Nat} {t':List UInt8} (hr:Rdr wS p A' n' c' t' 0) :
  UI w (w10.setCell ⟨M,1,none⟩ (.slice (some ⟨g4,0,none⟩) (i+1) cap4)) p M R base (some ⟨g4,0,none⟩) (i+1) cap4 (Z++[z]) A' n' c' t':=by
 obtain ⟨r1,r2,r3,r4,r5,r6⟩:=h.grow T o hg (.slice (some ⟨g4,0,none⟩) (i+1) cap4) hr
 obtain ⟨k1,k2,k3,k4,k5⟩:=h.kept T
 have hbM:=h.blk10 T o hg
 have T11:Touch (fun g=>g=M) w10 (w10.setCell ⟨M,1,none⟩ (.slice (some ⟨g4,0,none⟩) (i+1) cap4)):=(Touch.refl (fun g=>g=M) _).setCell (fun _=>rfl) _
 refine ⟨r1,r2,?_,by rw [List.length_append,h.len];rfl,?_,r3,r4,?_,h.py,h.my,h.ne⟩
 ·have e:zCells (Z++[z])=zCells Z++z.cells:=by simp [zCells]
  rw [e]
  exact own_touch ho T11 (fun g hg e=>(own_ty ho hg).ne (blk_ty hbM) (by decide) e)
 ·intro x hx
  rcases List.mem_append.1 hx with hx | hx
  ·exact r5 x (k3 x hx)
  ·rw [List.mem_singleton.1 hx]
   exact r5 z hz
 ·intro g hg'
  injection hg' with hg'
  rcases hl with e | e
  ·exact h.fresh g (hg' ▸ e)
  ·have:=k5.size
   simp only at hg'
   rw [← hg',e]
   simp
   omega
theorem UI.fail (h:UI w wr p M R base sA i sc Z A n c t) (T:Touch (fun g=>g=p) wr wS) {o:Obj} (hg:(wS.alloc o).grownBy w10 (Value.slice sA i sc).ownBlock) (v:Value) {A':Option Addr} {n' c':Nat} {t':List UInt8} {k:Int} (hk:1≤k) (hr:Rdr wS p A' n' c' t' k):UB w (w10.setCell ⟨M,1,none⟩ v) p M R:=by
 obtain ⟨r1,r2,r3,r4,r5,r6⟩:=h.grow T o hg v hr
 exact ⟨⟨_,_,_,_,_,hk,r1⟩,r3,r4,h.py,h.my,h.ne⟩
theorem UI.sts (h:UI w wr p M R base sA i sc Z A n c t):StsZ wr sA i Z:=⟨RdO.of_own h.own,h.len,h.el⟩
end
theorem sts_more {cnt i:Nat} {t2 t t':List UInt8} {acc:List StZ} (hi:i<cnt) (h:stsR cnt 0 t2=(stsR (cnt-i) i t).map fun r=>(acc++r.1,r.2)) {z:StZ} (hz:stR i t=some (z,t')):stsR cnt 0 t2=(stsR (cnt-(i+1)) (i+1) t').map fun r=>((acc++[z])++r.1,r.2):=by
 rw [h,show cnt-i=(cnt-(i+1))+1 by omega]
 simp only [stsR,hz]
 cases stsR (cnt-(i+1)) (i+1) t' with
 | none=>rfl
 | some r=>simp
theorem sts_stop {cnt i:Nat} {t2 t:List UInt8} {acc:List StZ} (hi:i<cnt) (h:stsR cnt 0 t2=(stsR (cnt-i) i t).map fun r=>(acc++r.1,r.2)) (hz:stR i t=none):stsR cnt 0 t2=none:=by
 rw [h,show cnt-i=(cnt-(i+1))+1 by omega]
 simp only [stsR,hz]
 rfl
theorem infoSt8:(Tryz.prog.info? 170).map (fun i=>(i.zero,i.size,i.bytes))=some (some (.agg #[.bool false,.int .i64 0,.slice none 0 0]),3,40):=by kernel_rfl
def XN (k:Int) (n:Nat):Prop:=¬ (k=0∧n=0)
theorem uintR_len {m n:Nat} {bs t:List UInt8} (h:uintR m bs=some (n,t)):t.length≤bs.length:=by
 rw [(uintR_read h).1,List.length_append]
 omega
theorem arcsR_len2 (i:Nat):∀ (k:Nat) (l:Int) (bs:List UInt8) (ars:List (Int × Int × Int)) (t:List UInt8),arcsR i k l bs=some (ars,t)→t.length≤bs.length
 | 0,l,bs,ars,t,h=>by
  simp only [arcsR,Option.some.injEq,Prod.mk.injEq] at h
  rw [h.2]
  exact Nat.le_refl _
 | k+1,l,bs,ars,t,h=>by
  simp only [arcsR] at h
  split at h
  ·cases h
  ·rename_i d t1 e1
   split at h
   ·cases h
   ·rename_i o t2 e2
    split at h
    ·cases h
    ·rename_i b t3 e3
     split at h
     ·cases h
     ·rename_i ars' t4 e4
      simp only [Option.some.injEq,Prod.mk.injEq] at h
      obtain ⟨_,rfl⟩:=h
      have h1:=uintR_len e1
      have h2:=uintR_len e2
      have h3:=uintR_len e3
      have h4:=arcsR_len2 i k _ _ _ _ e4
      omega
theorem stR_len {i:Nat} {bs t:List UInt8} {z:StZ} (h:stR i bs=some (z,t)):t.length≤bs.length:=by
 unfold stR at h
 split at h
 ·cases h
 ·rename_i n t1 e1
  split at h
  ·cases h
  ·rename_i o t2 e2
   split at h
   ·cases h
   ·rename_i ars t3 e3
    simp only [Option.some.injEq,Prod.mk.injEq] at h
    obtain ⟨_,rfl⟩:=h
    have h1:=uintR_len e1
    have h3:=arcsR_len2 _ _ _ _ _ _ e3
    have h2:t2.length≤t1.length:=by
     unfold outR8 at e2
     split at e2
     ·exact uintR_len e2
     ·simp only [Option.some.injEq,Prod.mk.injEq] at e2
      rw [e2.2]
      exact Nat.le_refl _
    omega
theorem unpack_any (w:World) (hL:Lst w) (A:Option Addr) (n c:Nat) (bs:List UInt8) (hr:Reads w 1 A n (bs.map byteV)) (hl:bs.length=n) (hn:n≤4398046511104) :
  Calls Tryz.prog 55 #[.slice A n c] w fun e w'=>UnpPost bs w e w':=by
 obtain ⟨i1,hi1,hy0,hy1,hy2⟩:=info_parts infoSt8
 obtain ⟨w0,hw0⟩:∃ x,x=w.alloc (.cells #[.int .i64 0,.slice none 0 0] 89):=⟨_,rfl⟩
 have hT0:Touch (fun _=>False) w w0:=by rw [hw0];exact (Touch.refl _ _).alloc _
 have hbR:Blk w0 w.heap.size 89 #[.int .i64 0,.slice none 0 0]:=by rw [hw0];exact Blk.new _ _ _
 obtain ⟨R,hR⟩:∃ R,R=w.heap.size:=⟨_,rfl⟩
 rw [← hR] at hbR
 have hrd:=read_any w0 A n c bs (hr.touch hT0 (fun _ _ f=>f)) hl (by omega)
 have HL:=hide hL
 have HLN:=hide hl
 have HN:=hide hn
 have HW0:=hide hw0
 have HT0:=hide hT0
 have HBR:=hide hbR
 have HRR:=hide hR
 have HRD:=hide hrd
 clear hL hr hl hn hw0 hT0 hbR hR hrd
 go_enter Tryz.func55,Tryz.ntmps55
 go_wp2_with fail
 rw [← HW0.out,← HRR.out]
 refine HRD.out.mono ?_
 rintro e w1 ⟨p,A1,n1,c1,rfl,hr1,hp1,T1⟩
 have hb1:=HBR.out.touch T1 (fun f=>f)
 have HP1:=hide (show w.heap.size≤p by have:=HT0.out.size;omega)
 have HR1:=hide hr1
 have HB1:=hide hb1
 have HT1:=hide (HT0.out.then T1)
 clear hr1 hb1 T1 hp1
 go_wp2_with fail
 refine (uint_c w1 p A1 n1 c1 bs HR1.out 1048576 _ rfl).mono ?_
 rintro e w2 (⟨base,t1,A2,n2,c2,hu1,rfl,hr2,T2⟩ | ⟨hu1,rfl,k,hk,hr2,T2⟩)
 ·have hbb:=(uintR_read hu1).2
  have b0:IntKind.i64.wrap (base:Int)=(base:Int):=i64_nat (by omega)
  have hT2:Touch (fun _=>False) w w2:=HT1.out.trans T2 (fun i hi e=>by have:=HP1.out;omega)
  have hb2:=HB1.out.touch T2 (fun e=>(blk_ty HB1.out).ne (blk_ty HR1.out.blk) (by decide) e)
  obtain ⟨M,hM⟩:∃ M,M=w2.heap.size:=⟨_,rfl⟩
  obtain ⟨w3,hw3⟩:∃ x,x=w2.alloc (.cells #[.int .i64 base,.slice none 0 0] 89):=⟨_,rfl⟩
  have hT3:Touch (fun _=>False) w2 w3:=by rw [hw3];exact (Touch.refl _ _).alloc _
  have hbM:Blk w3 M 89 #[.int .i64 base,.slice none 0 0]:=by rw [hw3,hM];exact Blk.new _ _ _
  have hmw:w.heap.size≤M:=by have:=hT2.size;omega
  have hrm:R≠M:=by have:=hb2.lt;omega
  have hui:UI w w3 p M R base none 0 0 [] A2 n2 c2 t1:=⟨hr2.quiet hT3,hbM,World.ownsRow_nil _ _ _ _,rfl,fun z hz=>(by cases hz),hb2.touch hT3 (fun f=>f),hT2.then hT3,fun g hg=>(by cases hg),HP1.out,hmw,hrm⟩
  have HUI:=hide hui
  have HU1:=hide hu1
  have HBB:=hide hbb
  have HW3:=hide hw3
  have HM:=hide hM
  clear hbb hT2 hb2 hM hw3 hT3 hbM hui hmw hrm hr2 T2 hu1
  go_wp2_with fail
  rw [← HW3.out,← HM.out]
  refine (uint_c w3 p A2 n2 c2 t1 HUI.out.rdr 98305 _ rfl).mono ?_
  rintro e w4 (⟨cnt,t2,A3,n3,c3,hu2,rfl,hr3,T3⟩ | ⟨hu2,rfl,k,hk,hr3,T3⟩)
  ·have hcb:=(uintR_read hu2).2
   have c0:IntKind.i64.wrap (cnt:Int)=(cnt:Int):=i64_nat (by omega)
   obtain ⟨k1,k2,k3,k4,k5⟩:=HUI.out.kept T3
   have hui4:UI w w4 p M R base none 0 0 [] A3 n3 c3 t2:=⟨hr3,k1,k2,rfl,k3,k4,k5,HUI.out.fresh,HUI.out.py,HUI.out.my,HUI.out.ne⟩
   have hmach:machR bs=(stsR cnt 0 t2).map fun r=>((base,r.1),r.2):=by
    unfold machR
    rw [HU1.out]
    simp only
    rw [hu2]
    simp only
    cases stsR cnt 0 t2 with
    | none=>rfl
    | some r=>rfl
   have HMC:=hide hmach
   have HUI4:=hide hui4
   have HCB:=hide hcb
   have HNL:Hid (t2.length≤4398046511104):=hide (by
    have h1:=congrArg List.length (uintR_read HU1.out).1
    have h2:=congrArg List.length (uintR_read hu2).1
    rw [List.length_append] at h1 h2
    have:=HLN.out
    have:=HN.out
    omega)
   clear hcb hu2 hr3 T3 k1 k2 k3 k4 k5 hui4 hmach HU1 HUI HR1 HB1
   go_wp2_with fail
   go_loopw [7] (fun iv wr=>∃ i:Nat,iv=.int .i64 i∧i≤cnt∧Hid ((∃ (sA:Option Addr) (sc:Nat) (Z:List ZV) (A:Option Addr) (n c:Nat) (t:List UInt8),UI w wr p M R base sA i sc Z A n c t∧stsR cnt 0 t2=(stsR (cnt-i) i t).map (fun r=>(Z.map ZV.p++r.1,r.2))∧t.length≤t2.length)∨(UB w wr p M R∧machR bs=none))) (fun iv _=>cnt-(intOf iv).toNat)
   case atStart=>exact ⟨0,rfl,Nat.zero_le _,hide (.inl ⟨none,0,[],_,_,_,t2,HUI4.out,by simp,Nat.le_refl _⟩)⟩
   case round =>
    obtain ⟨i,rfl,hi,HX⟩:=hrel
    obtain ⟨wq,hwq⟩:∃ x,x=wr:=⟨_,rfl⟩
    subst hwq
    have y0:(0:Int)≤(i:Int):=by omega
    have y1:IntKind.i64.wrap ((i:Int)+1)=(i:Int)+1:=IntWalk.i64_in _ (by have:=HCB.out;omega)
    rcases HX.out with ⟨sA,sc,Z,A5,n5,c5,t5,hUI,hst,htl⟩ | ⟨hUB,hnone⟩
    ·have HUI5:=hide hUI
     have HST:=hide hst
     have HTL:=hide htl
     have HER:=hide (err_any wq p A5 n5 c5 t5 0 hUI.rdr)
     by_cases hic:i<cnt
     ·have j0:(i:Int)<(cnt:Int):=by omega
      have hst5:∀ wx,Touch (fun _=>False) wq wx→Calls Tryz.prog 116 #[.pointer (some ⟨p,0,none⟩),.int .i64 i] wx fun e w'=>StPost p i t5 wx e w':=fun wx T =>
       ustate_any wx p A5 n5 c5 t5 (hUI.rdr.quiet T) (by have:=hUI.rdr.len;have:=HNL.out;omega) i (by have:=HCB.out;omega)
      have HS5:=hide hst5
      have HIC:=hide hic
      have hbb1:i+1≤maxLen:=by unfold maxLen;have:=HCB.out;omega
      have hbb2:(i+1)*40≤140737488355328:=by have:=HCB.out;omega
      have HBB2:=hide (And.intro hbb1 hbb2)
      obtain ⟨m0,m1,m2⟩:=hUI.blk.facts
      clear hUI hst htl hst5 hic hi HX hbb1 hbb2
      go_wp2_with fail
      refine HER.out.mono ?_
      rintro e wx ⟨rfl,hwx⟩
      subst hwx
      go_wp2_with fail
      go_region_law (first
       | (go_simp;go_at_call 116;refine (HS5.out _ (by first | exact Touch.refl _ _ | exact (Touch.refl _ _).drew)).mono ?_;rintro e wS ⟨z,rfl,TS,hS⟩;have HTS:=hide TS;have HSS:=hide hS;clear TS hS;obtain ⟨f0,f1,f2⟩:=((HUI5.out.quiet (Touch.refl (fun _=>False) wx).drew).kept HTS.out).1.facts)
       | (refine step_append_lies _ rfl (.tmp 28) (.tmp 32) 87 rfl 0 170 i1 _ 3 40 Tryz.underlying87 hi1 hy0 hy1 hy2 (by decide) (by decide) (.slice sA i sc) i _ (by simp [Act.eval]) (own_touch ((HUI5.out.quiet (Touch.refl (fun _=>False) wx).drew).kept HTS.out).2.1 ((Touch.refl _ _).alloc _) (fun _ _ f=>f)) ⟨wS.heap.size,0,none⟩ 1 1 [.bool z.fin,.int .i64 z.out,.slice z.A z.n z.c] (by simp [Act.eval]) rfl ?news ?one (by decide) HBB2.out.1 HBB2.out.2 (Nat.zero_le _) _ rfl ?_;(case news=>exact World.news_of_block (Blk.new wS _ _));(case one=>exact List.all_eq_true.1 rfl);intro g4 cap4 w9 hown hgrow hlies _;obtain ⟨q1,q2,q3⟩:=((HUI5.out.quiet (Touch.refl (fun _=>False) wx).drew).blk10 HTS.out _ hgrow).facts;have HO9:=hide hown;have HG9:=hide hgrow;have HLI:=hide hlies;clear hown hgrow hlies))
      all_goals go_wp2_with fail
      all_goals go_roundw
      all_goals first
       | (have:=HIC.out;simp only [intOf];omega)
       | (have hui6:=HUI5.out.quiet (Touch.refl (fun _=>False) wx).drew
          rcases HSS.out with ⟨t6,hz6,hzo,A6,n6,c6,hr6⟩ | ⟨hz6,A6,n6,c6,t6,k6,hk6,hr6⟩
          ·refine ⟨i+1,by simp,by have:=HIC.out;omega,hide (.inl ⟨_,cap4,Z++[z],A6,n6,c6,t6,hui6.step HTS.out hzo HG9.out HLI.out HO9.out hr6,?_,?_⟩)⟩
           ·rw [List.map_append]
            exact sts_more HIC.out HST.out hz6
           ·have h1:=stR_len hz6
            have h2:=HTL.out
            omega
          ·refine ⟨i+1,by simp,by have:=HIC.out;omega,hide (.inr ⟨hui6.fail HTS.out HG9.out _ hk6 hr6,?_⟩)⟩
           rw [HMC.out,sts_stop HIC.out HST.out hz6]
           rfl)
     ·have hie:i=cnt:=by omega
      have j0:¬ (i:Int)<(cnt:Int):=by omega
      rw [hie,Nat.sub_self] at hst
      simp only [stsR,Option.map_some,List.append_nil] at hst
      have hm:machR bs=some ((base,Z.map ZV.p),t5):=by rw [HMC.out,hst];rfl
      have HM5:=hide hm
      have HRDR:=hide hUI.rdr
      have HRES:=hide hUI.res
      have HTCH:=hide hUI.touch
      have HL5:=hide hUI.rdr.len
      clear hUI hst htl HX hie hi hic hm
      by_cases hn5:n5=0
      ·have ht5:t5=[]:=List.eq_nil_of_length_eq_zero (by rw [HL5.out];exact hn5)
       have HT5:=hide ht5
       have HN5:=hide hn5
       have HGR:=hide (gright_any wq (Lst.touch HL.out HTCH.out) base sA i sc Z HUI5.out.sts (own_le HUI5.out.own) (Nat.zero_le _))
       have HEN:=hide (end_any wq p _ _ _ _ _ HRDR.out)
       obtain ⟨m0,m1,m2⟩:=HUI5.out.blk.facts
       clear ht5 hn5
       go_wp2_with fail
       refine HEN.out.mono ?_
       rintro e wx ⟨x,rfl,hx,hwx⟩
       subst hwx
       have hx0:x=0:=hx.2 ⟨rfl,HN5.out⟩
       subst hx0
       clear hx HEN
       go_wp2_with fail
       refine HGR.out.mono ?_
       rintro e wy ⟨⟨v,rfl,hv⟩,T9⟩
       obtain ⟨rr0,rr1,rr2⟩:=(HRES.out.touch T9 (fun f=>f)).facts
       have HRS:=hide (HRES.out.touch T9 (fun f=>f))
       have HT9:=hide T9
       have HTC9:=hide (HTCH.out.then T9)
       clear m0 m1 m2
       obtain ⟨m0,m1,m2⟩:=(HUI5.out.blk.touch T9 (fun f=>f)).facts
       have hsz:=HUI5.out.sts.quiet T9
       have hsc:=(own_slice HUI5.out.own).1
       have HSZ:=hide hsz
       have HSC:=hide hsc
       cases v with
       | true =>
        obtain ⟨sts,hzs,hrg⟩:=hv.1 rfl
        obtain ⟨Y,hY,hsY⟩:=hsz.ok hzs
        have hbs:bs=packB base sts:=unp_some (by rw [HM5.out,hzs,HT5.out]) hrg
        have HY:=hide hY
        have HSY:=hide hsY
        have HRG:=hide hrg
        have HBS:=hide hbs
        clear hv hzs hY hsY hrg hbs T9 hsz hsc HGR
        go_wp2_with fail
        have hbF:=(HRS.out.set_ 0 (.int .i64 base)).set_ 1 (.slice sA i sc)
        have g0:=hbF.cell 0
        have g1:=hbF.cell 1
        have hTF:Touch (fun _=>False) w ((wy.setCell ⟨R,0,none⟩ (.int .i64 base)).setCell ⟨R,1,none⟩ (.slice sA i sc)):=by
         iterate 2 refine Touch.setCell ?_ (fun h=>by have:=HRR.out;simp only at h;omega) _
         exact HTC9.out
        have hTR:Touch (fun g=>g=R) wy ((wy.setCell ⟨R,0,none⟩ (.int .i64 base)).setCell ⟨R,1,none⟩ (.slice sA i sc)) :=
         ((Touch.refl (fun g=>g=R) wy).setCell (p:=⟨R,0,none⟩) (fun _=>rfl) _).setCell (p:=⟨R,1,none⟩) (fun _=>rfl) _
        have hfin:StsOd ((wy.setCell ⟨R,0,none⟩ (.int .i64 base)).setCell ⟨R,1,none⟩ (.slice sA i sc)) sA i Y :=
         ⟨HSY.out.rd.touch hTR (fun g hg e=>hg.ne (blk_ty HRS.out) (by decide) (Nat.zero_le _) e),HSY.out.len,fun z hz=>(HSY.out.el z hz).touch hTR (fun g hg e=>hg.ne (blk_ty HRS.out) (by decide) (Nat.zero_le _) e)⟩
        exact bodyPost_ret (v:=.tuple #[.agg #[.int .i64 base,.slice sA i sc],.int .i64 0]) (by simp [results,Tryz.results55,go_sem,g0,g1]) rfl ⟨hTF,.inl ⟨base,sts,HBB.out,rgtP_few HRG.out,HRG.out,HBS.out,sA,i,sc,Y,rfl,hfin,HY.out,HSC.out⟩⟩
       | false =>
        have hno:=unp_none (bs:=bs) (fun b2 z2 hm2 hr2=>by
         rw [HM5.out] at hm2
         simp only [Option.some.injEq,Prod.mk.injEq] at hm2
         obtain ⟨⟨rfl,rfl⟩,_⟩:=hm2
         have:=hv.2 hr2
         cases this)
        have HNO:=hide hno
        clear hv T9 hsz hsc HGR hno
        go_wp2_with fail
        have hbF:=(HRS.out.set_ 0 (.int .i64 0)).set_ 1 (.slice none 0 0)
        have g0:=hbF.cell 0
        have g1:=hbF.cell 1
        have hTF:Touch (fun _=>False) w ((wy.setCell ⟨R,0,none⟩ (.int .i64 0)).setCell ⟨R,1,none⟩ (.slice none 0 0)):=by
         iterate 2 refine Touch.setCell ?_ (fun h=>by have:=HRR.out;simp only at h;omega) _
         exact HTC9.out
        exact bodyPost_ret (v:=.tuple #[.agg #[.int .i64 0,.slice none 0 0],.int .i64 80]) (by simp [results,Tryz.results55,go_sem,g0,g1]) rfl ⟨hTF,.inr ⟨HNO.out,rfl⟩⟩
      ·have hno:=unp_none (bs:=bs) (fun b2 z2 hm2 hr2=>by
        rw [HM5.out] at hm2
        simp only [Option.some.injEq,Prod.mk.injEq] at hm2
        have h1:=HL5.out
        rw [hm2.2] at h1
        simp only [List.length_nil] at h1
        omega)
       have HNO:=hide hno
       have HXN:=hide (show XN 0 n5 from fun h=>hn5 h.2)
       clear hno hn5
       have HEN:=hide (end_any wq p _ _ _ _ _ HRDR.out)
       obtain ⟨rr0,rr1,rr2⟩:=HRES.out.facts
       go_wp2_with fail
       refine HEN.out.mono ?_
       rintro e wx ⟨x,rfl,hx,hwx⟩
       subst hwx
       have hx0:¬ x=0:=fun e=>HXN.out (hx.1 e)
       have hx1:(x == 0)=false:=by simp;exact hx0
       have hx2:(x != 0)=true:=by simp;exact hx0
       clear hx HEN
       go_wp2_with fail
       have hbF:=(HRES.out.set_ 0 (.int .i64 0)).set_ 1 (.slice none 0 0)
       have g0:=hbF.cell 0
       have g1:=hbF.cell 1
       have hTF:Touch (fun _=>False) w ((wx.setCell ⟨R,0,none⟩ (.int .i64 0)).setCell ⟨R,1,none⟩ (.slice none 0 0)):=by
        iterate 2 refine Touch.setCell ?_ (fun h=>by have:=HRR.out;simp only at h;omega) _
        exact HTCH.out
       exact bodyPost_ret (v:=.tuple #[.agg #[.int .i64 0,.slice none 0 0],.int .i64 80]) (by simp [results,Tryz.results55,go_sem,g0,g1]) rfl ⟨hTF,.inr ⟨HNO.out,rfl⟩⟩
    ·obtain ⟨A5,n5,c5,t5,k5,hk5,hr5⟩:=hUB.rdr
     have HRDR:=hide hr5
     have HRES:=hide hUB.res
     have HTCH:=hide hUB.touch
     have HNO:=hide (unp_none (bs:=bs) (fun b2 z2 hm2 hr2=>by rw [hnone] at hm2;cases hm2))
     have HXN:=hide (show XN k5 n5 from fun h=>by have:=h.1;omega)
     have HER:=hide (err_any wq p A5 n5 c5 t5 k5 hr5)
     have k1:(k5 == 0)=false:=by simp;omega
     have k2:¬ k5=0:=by omega
     clear hUB hnone hr5 hk5 HX
     by_cases hic:i<cnt
     ·have j0:(i:Int)<(cnt:Int):=by omega
      clear hic hi
      go_wp2_with fail
      refine HER.out.mono ?_
      rintro e wx ⟨rfl,hwx⟩
      subst hwx
      have HEN:=hide (end_any wx p _ _ _ _ _ HRDR.out)
      obtain ⟨rr0,rr1,rr2⟩:=HRES.out.facts
      go_wp2_with fail
      refine HEN.out.mono ?_
      rintro e wx ⟨x,rfl,hx,hwx⟩
      subst hwx
      have hx0:¬ x=0:=fun e=>HXN.out (hx.1 e)
      have hx1:(x == 0)=false:=by simp;exact hx0
      have hx2:(x != 0)=true:=by simp;exact hx0
      clear hx HEN
      go_wp2_with fail
      have hbF:=(HRES.out.set_ 0 (.int .i64 0)).set_ 1 (.slice none 0 0)
      have g0:=hbF.cell 0
      have g1:=hbF.cell 1
      have hTF:Touch (fun _=>False) w ((wx.setCell ⟨R,0,none⟩ (.int .i64 0)).setCell ⟨R,1,none⟩ (.slice none 0 0)):=by
       iterate 2 refine Touch.setCell ?_ (fun h=>by have:=HRR.out;simp only at h;omega) _
       exact HTCH.out
      exact bodyPost_ret (v:=.tuple #[.agg #[.int .i64 0,.slice none 0 0],.int .i64 80]) (by simp [results,Tryz.results55,go_sem,g0,g1]) rfl ⟨hTF,.inr ⟨HNO.out,rfl⟩⟩
     ·have j0:¬ (i:Int)<(cnt:Int):=by omega
      clear hic hi
      have HEN:=hide (end_any wq p _ _ _ _ _ HRDR.out)
      obtain ⟨rr0,rr1,rr2⟩:=HRES.out.facts
      go_wp2_with fail
      refine HEN.out.mono ?_
      rintro e wx ⟨x,rfl,hx,hwx⟩
      subst hwx
      have hx0:¬ x=0:=fun e=>HXN.out (hx.1 e)
      have hx1:(x == 0)=false:=by simp;exact hx0
      have hx2:(x != 0)=true:=by simp;exact hx0
      clear hx HEN
      go_wp2_with fail
      have hbF:=(HRES.out.set_ 0 (.int .i64 0)).set_ 1 (.slice none 0 0)
      have g0:=hbF.cell 0
      have g1:=hbF.cell 1
      have hTF:Touch (fun _=>False) w ((wx.setCell ⟨R,0,none⟩ (.int .i64 0)).setCell ⟨R,1,none⟩ (.slice none 0 0)):=by
       iterate 2 refine Touch.setCell ?_ (fun h=>by have:=HRR.out;simp only at h;omega) _
       exact HTCH.out
      exact bodyPost_ret (v:=.tuple #[.agg #[.int .i64 0,.slice none 0 0],.int .i64 80]) (by simp [results,Tryz.results55,go_sem,g0,g1]) rfl ⟨hTF,.inr ⟨HNO.out,rfl⟩⟩
  ·have HRDR:=hide hr3
   obtain ⟨k1,k2,k3,k4,k5⟩:=HUI.out.kept T3
   have HRES:=hide k4
   have HTCH:=hide k5
   have HNO:=hide (unp_none (bs:=bs) (fun b2 z2 hm2 hr2=>by
    unfold machR at hm2
    rw [HU1.out] at hm2
    simp only at hm2
    rw [hu2] at hm2
    cases hm2))
   have HXN:=hide (show XN k n2 from fun h=>by have:=h.1;omega)
   have HER:=hide (err_any w4 p A2 n2 c2 t1 k hr3)
   clear hu2 hr3 T3 k1 k2 k3 k4 k5 hk
   go_wp2_with fail
   go_loopw [7] (fun iv wr=>iv=.int .i64 0∧Hid (wr=w4)) (fun _ _=>0)
   case atStart=>exact ⟨rfl,hide rfl⟩
   case round =>
    obtain ⟨rfl,hwr⟩:=hrel
    have hwr:=hwr.out
    subst hwr
    have HEN:=hide (end_any wr p _ _ _ _ _ HRDR.out)
    obtain ⟨rr0,rr1,rr2⟩:=HRES.out.facts
    go_wp2_with fail
    refine HEN.out.mono ?_
    rintro e wx ⟨x,rfl,hx,hwx⟩
    subst hwx
    have hx0:¬ x=0:=fun e=>HXN.out (hx.1 e)
    have hx1:(x == 0)=false:=by simp;exact hx0
    have hx2:(x != 0)=true:=by simp;exact hx0
    clear hx HEN
    go_wp2_with fail
    have hbF:=(HRES.out.set_ 0 (.int .i64 0)).set_ 1 (.slice none 0 0)
    have g0:=hbF.cell 0
    have g1:=hbF.cell 1
    have hTF:Touch (fun _=>False) w ((wx.setCell ⟨R,0,none⟩ (.int .i64 0)).setCell ⟨R,1,none⟩ (.slice none 0 0)):=by
     iterate 2 refine Touch.setCell ?_ (fun h=>by have:=HRR.out;simp only at h;omega) _
     exact HTCH.out
    exact bodyPost_ret (v:=.tuple #[.agg #[.int .i64 0,.slice none 0 0],.int .i64 80]) (by simp [results,Tryz.results55,go_sem,g0,g1]) rfl ⟨hTF,.inr ⟨HNO.out,rfl⟩⟩
 ·have HRDR:=hide hr2
  have hT2:Touch (fun _=>False) w w2:=HT1.out.trans T2 (fun i hi e=>by have:=HP1.out;omega)
  have hb2:=HB1.out.touch T2 (fun e=>(blk_ty HB1.out).ne (blk_ty HR1.out.blk) (by decide) e)
  obtain ⟨w3,hw3⟩:∃ x,x=w2.alloc (.cells #[.int .i64 0,.slice none 0 0] 89):=⟨_,rfl⟩
  have hT3:Touch (fun _=>False) w2 w3:=by rw [hw3];exact (Touch.refl _ _).alloc _
  have HRDR:=hide (hr2.quiet hT3)
  have HRES:=hide (hb2.touch hT3 (fun f=>f))
  have HTCH:=hide (hT2.then hT3)
  have HNO:=hide (unp_none (bs:=bs) (fun b2 z2 hm2 hr2=>by
   unfold machR at hm2
   rw [hu1] at hm2
   cases hm2))
  have HXN:=hide (show XN k n1 from fun h=>by have:=h.1;omega)
  have HUN:=hide (fun m hm=>uint_n w3 p A1 n1 c1 bs k HRDR.out hk m hm)
  have HW3:=hide hw3
  clear hr2 hT2 hb2 hw3 hT3 hu1 hk T2
  go_wp2_with fail
  rw [← HW3.out]
  refine (HUN.out 98305 (by decide)).mono ?_
  rintro e w4 ⟨rfl,hw4⟩
  subst hw4
  go_wp2_with fail
  go_loopw [7] (fun iv wr=>iv=.int .i64 0∧Hid (wr=w3)) (fun _ _=>0)
  case atStart=>exact ⟨rfl,hide rfl⟩
  case round =>
   obtain ⟨rfl,hwr⟩:=hrel
   have hwr:=hwr.out
   subst hwr
   have HEN:=hide (end_any wr p _ _ _ _ _ HRDR.out)
   obtain ⟨rr0,rr1,rr2⟩:=HRES.out.facts
   go_wp2_with fail
   refine HEN.out.mono ?_
   rintro e wx ⟨x,rfl,hx,hwx⟩
   subst hwx
   have hx0:¬ x=0:=fun e=>HXN.out (hx.1 e)
   have hx1:(x == 0)=false:=by simp;exact hx0
   have hx2:(x != 0)=true:=by simp;exact hx0
   clear hx HEN
   go_wp2_with fail
   have hbF:=(HRES.out.set_ 0 (.int .i64 0)).set_ 1 (.slice none 0 0)
   have g0:=hbF.cell 0
   have g1:=hbF.cell 1
   have hTF:Touch (fun _=>False) w ((wx.setCell ⟨R,0,none⟩ (.int .i64 0)).setCell ⟨R,1,none⟩ (.slice none 0 0)):=by
    iterate 2 refine Touch.setCell ?_ (fun h=>by have:=HRR.out;simp only at h;omega) _
    exact HTCH.out
   exact bodyPost_ret (v:=.tuple #[.agg #[.int .i64 0,.slice none 0 0],.int .i64 80]) (by simp [results,Tryz.results55,go_sem,g0,g1]) rfl ⟨hTF,.inr ⟨HNO.out,rfl⟩⟩
end Go.Proofs.YthockgmbooefpaaGreatDoor
