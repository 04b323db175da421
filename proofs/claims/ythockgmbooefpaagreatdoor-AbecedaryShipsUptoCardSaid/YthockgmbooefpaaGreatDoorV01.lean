/- What the law rests on, part 1. No condition but those that each theorem names. -/
import Derived.Lib.ConvBytes
import Derived.Laws.BitsLemmas
import Derived.Deep.RegionHeld3
import Derived.Deep.CutRange
import Derived.Test.YthockgmbooefpaaGreatDoorV00
set_option linter.unusedSectionVars false
set_option linter.unusedSimpArgs false
set_option linter.unusedVariables false
set_option maxRecDepth 100000
set_option maxHeartbeats 2000000
namespace Go.Proofs.YthockgmbooefpaaGreatDoor
open List renaming take_succ_cons → qQa, take_zero → qZa, length_drop → qXa, getD → qJa, drop_of_length_le → qQb, length_take → qZb, all_eq_true → qXb, drop_eq_getElem_cons → qQc, length_cons → qZc, map_cons → qXc, map_nil → qJc, getD_eq_getElem?_getD → qZd, getElem?_take → qXd, take_of_length_le → qJd, eq_nil_of_length_eq_zero → qZe, extract_eq_take_drop → qXe
open Nat renaming le_refl → qJb, zero_le → qQd
variable{bs t:List UInt8}{L:List aD}{k least n q r r0:Nat}{b c:UInt8}{w:World}
open Go.RowKit
theorem qK(w:World)(e:TypeId)(s:ByteArray):aC (λ_=>False) w (Lib.bytesWorld w e s):=by
 refine⟨?_,?_,?_,?_,λk hk _=>Lib.bytesWorld_at_old w e s k hk⟩
 ·simp[Lib.bytesWorld,World.freeze,World.alloc,World.drew,-World.alloc_eq,-World.drew_eq]
 ·simp[Lib.bytesWorld,World.freeze,World.alloc,World.drew,-World.alloc_eq,-World.drew_eq]
 ·simp[Lib.bytesWorld,World.freeze,World.alloc,World.drew,-World.alloc_eq,-World.drew_eq]
 ·rw[Lib.bytesWorld_size];omega
def scal(r:Nat):Bool:=decide (r<=1114111) && (decide (r<55296) || decide (57343<r))
def vW:Nat->List UInt8->Option Nat
 | r,[]=>some r
 | r,c :: t=>if c.toNat / 64=2 then vW (r*64+c.toNat % 64) t else none
def mM(r0 k least:Nat)(t:List UInt8):Nat × Nat :=
 if t.length<k then (0,0) else match vW r0 (t.take k) with
  | none=>(0,0)
  | some r=>if r<least then (0,0) else if scal r=true then (r,k+1) else (0,0)
def fT:List UInt8->Nat × Nat
 | []=>(0,0)
 | b :: t=>if b.toNat<128 then (b.toNat,1) else if b.toNat / 32=6 then mM (b.toNat % 32) 1 128 t else if b.toNat / 16=14 then mM (b.toNat % 16) 2 2048 t else if b.toNat / 8=30 then mM (b.toNat % 8) 3 65536 t else (0,0)
def cV(w:World):Prop:=0<w.heap.size/\w.cell? ⟨0,2,none⟩=some (.int .i32 128)/\w.cell? ⟨0,3,none⟩=some (.int .i32 2048)/\w.cell? ⟨0,4,none⟩=some (.int .i32 65536)
theorem cV.touch{w':World}(h:cV w)(T:aC (λ_=>False) w w'):cV w' :=
 ⟨Nat.lt_of_lt_of_le h.1 T.size,(T.cell (a:=⟨0,2,none⟩) h.1 (λf=>f)).trans h.2.1,(T.cell (a:=⟨0,3,none⟩) h.1 (λf=>f)).trans h.2.2.1,(T.cell (a:=⟨0,4,none⟩) h.1 (λf=>f)).trans h.2.2.2⟩
theorem oF(s:ByteArray)(h:0<s.size):s.toList=s[0] :: s.toList.drop 1:=by
 have h1:0<s.toList.length:=by rw[aX];exact h
 have h2:=mT s 0 h
 cases hs:s.toList with
 | nil=>rw[hs] at h1;simp at h1
 | cons x l=>rw[hs] at h2;simp at h2;subst h2;rfl
theorem jN(r:Nat)(w:World) :
  Calls Tryz.prog 147 #[.int .i32 r] w λe w'=>e=.returned (.bool (scal r))/\w'=w:=by
 go_in
 have h0:(0:Int)<=(r:Int):=by omega
 by_cases h1:r<=1114111
 ·have i1:(r:Int)<=1114111:=by omega
  by_cases h2:r<55296
  ·have i2:(r:Int)<55296:=by omega
   go_wp2
   go_ret
   exact⟨by simp[scal,h1,h2],rfl⟩
  ·have i2:¬ (r:Int)<55296:=by omega
   by_cases h3:57343<r
   ·have i3:(57343:Int)<(r:Int):=by omega
    go_wp2
    go_ret
    exact⟨by simp[scal,h1,h3],rfl⟩
   ·have i3:¬ (57343:Int)<(r:Int):=by omega
    go_wp2
    go_ret
    exact⟨by simp[scal,h1,h2,h3],rfl⟩
 ·have i1:¬ (r:Int)<=1114111:=by omega
  go_wp2
  go_ret
  exact⟨by simp[scal,h1],rfl⟩
theorem zT(i:Nat)(hi:i<=31)(r:Nat)(h:r<2147483648):bits .and .i32 (r:Int) (2 ^ i-1)=((r % 2 ^ i:Nat):Int):=by
 rw[bits_mask .i32 31 (by decide) (λn h0 h1=>IntWalk.i32_in _ (by omega)) i hi (r:Int) (by omega) (by omega)]
 simp
theorem Pu(r:Nat)(h:r<256):bits .and .u8 (r:Int) 63=((r % 64:Nat):Int):=by
 have:=bits_mask .u8 8 (by decide) (λn h0 h1=>IntWalk.u8_in _ (by omega)) 6 (by decide) (r:Int) (by omega) (by omega)
 simpa using this
theorem Rw(r m:Nat)(hr:r*64+m<2147483648)(hm:m<64):bits .or .i32 ((r:Int)*64) (m:Int)=((r*64+m:Nat):Int):=by
 rw[bits_join .i32 31 (by decide) (λn h0 h1=>IntWalk.i32_in _ (by omega)) 6 ((r:Int)*64) (m:Int) (by omega) (by omega) (by omega) (by omega) (by omega) (by omega)]
 simp
theorem wN(s:ByteArray)(k:Nat)(_:k+1<=s.size):(s.extract 1 (k+1)).data.toList=(s.toList.drop 1).take k:=by
 rw[Go.ByteArray.toList_eq]
 simp[ByteArray.data_extract]
theorem Wr(w:World)(s:ByteArray)(hs:2<=s.size)(hm:s.size<=9223372036854775807)(h1:192<=s[0].toNat)(h2:s[0].toNat<224)(hL:cV w)(x:Nat × Nat)(hx:mM (s[0].toNat % 32) 1 128 (s.toList.drop 1)=x) :
  Calls Tryz.prog 136 #[.string s] w λe w'=>e=.returned (.tuple #[.int .i32 x.1,.int .i64 x.2])/\aC (λ_=>False) w w':=by
 have y0:(0:Int)<(s.size:Int):=by omega
 have kc:=λ(w:World) (s:ByteArray)=>Lib.run_convert_string_bytes (P:=Tryz.prog) w 9 50 5 s Tryz.underlying9 Tryz.underlying50 Tryz.underlying5
 have hsz:(s.extract 1 2).size=1:=by simp;omega
 have ha:bits .and .i32 (s[0].toNat:Int) (31)=((s[0].toNat % 32:Nat):Int):=zT 5 (by decide) _ (by have:=s[0].toNat_lt;omega)
 obtain⟨r0,hr0⟩:∃ r0,s[0].toNat % 32=r0:=⟨_,rfl⟩
 have hrb:r0<32:=by omega
 rw[hr0] at ha hx
 obtain⟨D,hD⟩:∃ D,(s.toList.drop 1).take 1=D:=⟨_,rfl⟩
 have hlen:D.length=1:=by rw[<-hD,qZb,qXa,aX];omega
 have hX:(match vW r0 D with | none=>(0,0) | some r=>if r<128 then (0,0) else if scal r=true then (r,1+1) else (0,0))=x:=by
  rw[<-hx,<-hD]
  unfold mM
  rw[if_neg (by rw[qXa,aX];omega)]
 have HX:=aB hX
 obtain⟨w1,hw1⟩:=eX (Lib.bytesWorld w 5 (s.extract 1 2))
 have hT1:aC (λ_=>False) w w1:=by rw[hw1];exact qK _ _ _
 have hsz1:w.heap.size<w1.heap.size:=by rw[hw1,Lib.bytesWorld_size];omega
 have hcell:∀ j,j<1->w1.cell? ⟨w.heap.size,j,none⟩=some (.int .u8 (D.getD j 0).toNat):=by
  intro j hj
  rw[hw1,Lib.bytesWorld_cell _ _ _ _ (by rw[hsz];exact hj),show (s.extract 1 2).data.toList=D from (wN s 1 hs).trans hD]
 have HCELL:=aB hcell
 have HT1:=aB hT1
 have HLEN:=aB hlen
 have HL:=aB hL
 have HS1:=aB hsz1
 have HW1:=aB hw1
 clear hX hx hD hT1 hsz1 hcell hw1 hlen hL hr0
 go_in
 go_wp2
 rw[<-HW1.out]
 go_loopw [5,44] (λrv iv wr=>∃ (r j:Nat),rv=.int .i32 r/\iv=.int .i64 j/\Hid ((j=1/\r<8388608)\/(j+1=1/\r<131072)\/(j+2=1/\r<2048)\/(j+3=1/\r<32))/\Hid (vW r0 D=vW r (D.drop j))/\Hid (aC (λ_=>False) w1 wr)) (λ_ iv _=>1-(intOf iv).toNat)
 case atStart=>exact⟨r0,0,rfl,rfl,aB (by omega),aB rfl,aB (aC.refl _ _)⟩
 case round =>
  obtain⟨r,j,rfl,rfl,HB,HE,HT⟩:=hrel
  have hLw:=HL.touch (HT1.then HT)
  have g1:wr.cell? ⟨0,2,none⟩=some (.int .i32 128):=hLw.2.1
  by_cases hj:j<1
  ·have hr:r*64+63<8388608:=by rcases HB.out with h | h | h | h<;>omega
   have c0:=(HT.cell (a:=⟨w.heap.size,j,none⟩) HS1 (λf=>f)).trans (HCELL j hj)
   have hdr:D.drop j=D.getD j 0 :: D.drop (j+1):=by
    rw[qQc (by rw[HLEN.out];exact hj)]
    simp[qJa,HLEN.out,hj]
   have hstep:=HE.out
   rw[hdr,vW] at hstep
   have hv:=(D.getD j 0).toNat_lt
   obtain⟨v,hvv⟩:∃ v,(D.getD j 0).toNat=v:=⟨_,rfl⟩
   rw[hvv] at c0 hstep hv
   have HV:=aB hvv
   clear hvv hdr
   have i0:(j:Int)<1:=by omega
   have hvb:v<256:=by omega
   by_cases hc:v / 64=2
   ·rw[if_pos hc] at hstep
    have hand:=Pu v hvb
    obtain⟨m,hmm⟩:∃ m,v % 64=m:=⟨_,rfl⟩
    rw[hmm] at hand hstep
    have hmb:m<64:=by omega
    have hor:=Rw r m (by omega) hmb
    obtain⟨q,hq⟩:∃ q,r*64+m=q:=⟨_,rfl⟩
    rw[hq] at hor hstep
    have HST:=aB hstep
    have HQ:=aB (And.intro hq hmb)
    clear hstep hq hmm
    go_wp2
    go_roundw
    ·exact⟨q,j+1,rfl,by simp,aB (by have h1:=HQ.out;rcases HB.out with h | h | h | h<;>omega),HST,HT⟩
    ·show 1-(intOf (.int .i64 ((j:Int)+1))).toNat<1-(intOf (.int .i64 (j:Int))).toNat
     simp[intOf]
     omega
   ·rw[if_neg hc] at hstep
    have hxx:=HX.out
    rw[hstep] at hxx
    simp only at hxx
    subst hxx
    clear hstep
    go_wp2
    exact bodyPost_ret (v:=.tuple #[.int .i32 0,.int .i64 0]) (by simp[results,Tryz.results136,go_sem]) rfl ⟨rfl,HT1.then HT⟩
  ·have hjk:j=1:=by rcases HB.out with h | h | h | h<;>omega
   subst hjk
   have hend:=HE.out
   rw[qQb (by rw[HLEN.out];exact qJb _),vW] at hend
   have hxx:=HX.out
   rw[hend] at hxx
   simp only at hxx
   have hrb2:r<8388608:=by rcases HB.out with h | h | h | h<;>omega
   clear hend
   by_cases hl:r<128
   ·rw[if_pos hl] at hxx
    subst hxx
    have i1:(r:Int)<128:=by omega
    go_wp2
    exact bodyPost_ret (v:=.tuple #[.int .i32 0,.int .i64 0]) (by simp[results,Tryz.results136,go_sem]) rfl ⟨rfl,HT1.then HT⟩
   ·rw[if_neg hl] at hxx
    have i1:¬ (r:Int)<128:=by omega
    have HXX:=aB hxx
    clear hxx
    cases hsc:scal r with
    | true =>
     have hxx:=HXX.out
     rw[if_pos hsc] at hxx
     subst hxx
     go_wp2_with fail
     refine (jN r _).mono ?_
     rintro e w2 ⟨rfl,rfl⟩
     rw[hsc]
     go_wp2_with fail
     exact bodyPost_ret (v:=.tuple #[.int .i32 r,.int .i64 2]) (by simp[results,Tryz.results136,go_sem]) rfl ⟨rfl,HT1.then HT⟩
    | false =>
     have hxx:=HXX.out
     rw[if_neg (by rw[hsc];decide)] at hxx
     subst hxx
     go_wp2_with fail
     refine (jN r _).mono ?_
     rintro e w2 ⟨rfl,rfl⟩
     rw[hsc]
     go_wp2_with fail
     exact bodyPost_ret (v:=.tuple #[.int .i32 0,.int .i64 0]) (by simp[results,Tryz.results136,go_sem]) rfl ⟨rfl,HT1.then HT⟩
theorem Ma(w:World)(s:ByteArray)(hs:3<=s.size)(hm:s.size<=9223372036854775807)(h1:224<=s[0].toNat)(h2:s[0].toNat<240)(hL:cV w)(x:Nat × Nat)(hx:mM (s[0].toNat % 16) 2 2048 (s.toList.drop 1)=x) :
  Calls Tryz.prog 136 #[.string s] w λe w'=>e=.returned (.tuple #[.int .i32 x.1,.int .i64 x.2])/\aC (λ_=>False) w w':=by
 have y0:(0:Int)<(s.size:Int):=by omega
 have kc:=λ(w:World) (s:ByteArray)=>Lib.run_convert_string_bytes (P:=Tryz.prog) w 9 50 5 s Tryz.underlying9 Tryz.underlying50 Tryz.underlying5
 have hsz:(s.extract 1 3).size=2:=by simp;omega
 have ha:bits .and .i32 (s[0].toNat:Int) (15)=((s[0].toNat % 16:Nat):Int):=zT 4 (by decide) _ (by have:=s[0].toNat_lt;omega)
 obtain⟨r0,hr0⟩:∃ r0,s[0].toNat % 16=r0:=⟨_,rfl⟩
 have hrb:r0<32:=by omega
 rw[hr0] at ha hx
 obtain⟨D,hD⟩:∃ D,(s.toList.drop 1).take 2=D:=⟨_,rfl⟩
 have hlen:D.length=2:=by rw[<-hD,qZb,qXa,aX];omega
 have hX:(match vW r0 D with | none=>(0,0) | some r=>if r<2048 then (0,0) else if scal r=true then (r,2+1) else (0,0))=x:=by
  rw[<-hx,<-hD]
  unfold mM
  rw[if_neg (by rw[qXa,aX];omega)]
 have HX:=aB hX
 obtain⟨w1,hw1⟩:=eX (Lib.bytesWorld w 5 (s.extract 1 3))
 have hT1:aC (λ_=>False) w w1:=by rw[hw1];exact qK _ _ _
 have hsz1:w.heap.size<w1.heap.size:=by rw[hw1,Lib.bytesWorld_size];omega
 have hcell:∀ j,j<2->w1.cell? ⟨w.heap.size,j,none⟩=some (.int .u8 (D.getD j 0).toNat):=by
  intro j hj
  rw[hw1,Lib.bytesWorld_cell _ _ _ _ (by rw[hsz];exact hj),show (s.extract 1 3).data.toList=D from (wN s 2 hs).trans hD]
 have HCELL:=aB hcell
 have HT1:=aB hT1
 have HLEN:=aB hlen
 have HL:=aB hL
 have HS1:=aB hsz1
 have HW1:=aB hw1
 clear hX hx hD hT1 hsz1 hcell hw1 hlen hL hr0
 go_in
 go_wp2
 rw[<-HW1.out]
 go_loopw [5,44] (λrv iv wr=>∃ (r j:Nat),rv=.int .i32 r/\iv=.int .i64 j/\Hid ((j=2/\r<8388608)\/(j+1=2/\r<131072)\/(j+2=2/\r<2048)\/(j+3=2/\r<32))/\Hid (vW r0 D=vW r (D.drop j))/\Hid (aC (λ_=>False) w1 wr)) (λ_ iv _=>2-(intOf iv).toNat)
 case atStart=>exact⟨r0,0,rfl,rfl,aB (by omega),aB rfl,aB (aC.refl _ _)⟩
 case round =>
  obtain⟨r,j,rfl,rfl,HB,HE,HT⟩:=hrel
  have hLw:=HL.touch (HT1.then HT)
  have g1:wr.cell? ⟨0,3,none⟩=some (.int .i32 2048):=hLw.2.2.1
  by_cases hj:j<2
  ·have hr:r*64+63<8388608:=by rcases HB.out with h | h | h | h<;>omega
   have c0:=(HT.cell (a:=⟨w.heap.size,j,none⟩) HS1 (λf=>f)).trans (HCELL j hj)
   have hdr:D.drop j=D.getD j 0 :: D.drop (j+1):=by
    rw[qQc (by rw[HLEN.out];exact hj)]
    simp[qJa,HLEN.out,hj]
   have hstep:=HE.out
   rw[hdr,vW] at hstep
   have hv:=(D.getD j 0).toNat_lt
   obtain⟨v,hvv⟩:∃ v,(D.getD j 0).toNat=v:=⟨_,rfl⟩
   rw[hvv] at c0 hstep hv
   have HV:=aB hvv
   clear hvv hdr
   have i0:(j:Int)<2:=by omega
   have hvb:v<256:=by omega
   by_cases hc:v / 64=2
   ·rw[if_pos hc] at hstep
    have hand:=Pu v hvb
    obtain⟨m,hmm⟩:∃ m,v % 64=m:=⟨_,rfl⟩
    rw[hmm] at hand hstep
    have hmb:m<64:=by omega
    have hor:=Rw r m (by omega) hmb
    obtain⟨q,hq⟩:∃ q,r*64+m=q:=⟨_,rfl⟩
    rw[hq] at hor hstep
    have HST:=aB hstep
    have HQ:=aB (And.intro hq hmb)
    clear hstep hq hmm
    go_wp2
    go_roundw
    ·exact⟨q,j+1,rfl,by simp,aB (by have h1:=HQ.out;rcases HB.out with h | h | h | h<;>omega),HST,HT⟩
    ·show 2-(intOf (.int .i64 ((j:Int)+1))).toNat<2-(intOf (.int .i64 (j:Int))).toNat
     simp[intOf]
     omega
   ·rw[if_neg hc] at hstep
    have hxx:=HX.out
    rw[hstep] at hxx
    simp only at hxx
    subst hxx
    clear hstep
    go_wp2
    exact bodyPost_ret (v:=.tuple #[.int .i32 0,.int .i64 0]) (by simp[results,Tryz.results136,go_sem]) rfl ⟨rfl,HT1.then HT⟩
  ·have hjk:j=2:=by rcases HB.out with h | h | h | h<;>omega
   subst hjk
   have hend:=HE.out
   rw[qQb (by rw[HLEN.out];exact qJb _),vW] at hend
   have hxx:=HX.out
   rw[hend] at hxx
   simp only at hxx
   have hrb2:r<8388608:=by rcases HB.out with h | h | h | h<;>omega
   clear hend
   by_cases hl:r<2048
   ·rw[if_pos hl] at hxx
    subst hxx
    have i1:(r:Int)<2048:=by omega
    go_wp2
    exact bodyPost_ret (v:=.tuple #[.int .i32 0,.int .i64 0]) (by simp[results,Tryz.results136,go_sem]) rfl ⟨rfl,HT1.then HT⟩
   ·rw[if_neg hl] at hxx
    have i1:¬ (r:Int)<2048:=by omega
    have HXX:=aB hxx
    clear hxx
    cases hsc:scal r with
    | true =>
     have hxx:=HXX.out
     rw[if_pos hsc] at hxx
     subst hxx
     go_wp2_with fail
     refine (jN r _).mono ?_
     rintro e w2 ⟨rfl,rfl⟩
     rw[hsc]
     go_wp2_with fail
     exact bodyPost_ret (v:=.tuple #[.int .i32 r,.int .i64 3]) (by simp[results,Tryz.results136,go_sem]) rfl ⟨rfl,HT1.then HT⟩
    | false =>
     have hxx:=HXX.out
     rw[if_neg (by rw[hsc];decide)] at hxx
     subst hxx
     go_wp2_with fail
     refine (jN r _).mono ?_
     rintro e w2 ⟨rfl,rfl⟩
     rw[hsc]
     go_wp2_with fail
     exact bodyPost_ret (v:=.tuple #[.int .i32 0,.int .i64 0]) (by simp[results,Tryz.results136,go_sem]) rfl ⟨rfl,HT1.then HT⟩
theorem Qr(w:World)(s:ByteArray)(hs:4<=s.size)(hm:s.size<=9223372036854775807)(h1:240<=s[0].toNat)(h2:s[0].toNat<248)(hL:cV w)(x:Nat × Nat)(hx:mM (s[0].toNat % 8) 3 65536 (s.toList.drop 1)=x) :
  Calls Tryz.prog 136 #[.string s] w λe w'=>e=.returned (.tuple #[.int .i32 x.1,.int .i64 x.2])/\aC (λ_=>False) w w':=by
 have y0:(0:Int)<(s.size:Int):=by omega
 have kc:=λ(w:World) (s:ByteArray)=>Lib.run_convert_string_bytes (P:=Tryz.prog) w 9 50 5 s Tryz.underlying9 Tryz.underlying50 Tryz.underlying5
 have hsz:(s.extract 1 4).size=3:=by simp;omega
 have ha:bits .and .i32 (s[0].toNat:Int) (7)=((s[0].toNat % 8:Nat):Int):=zT 3 (by decide) _ (by have:=s[0].toNat_lt;omega)
 obtain⟨r0,hr0⟩:∃ r0,s[0].toNat % 8=r0:=⟨_,rfl⟩
 have hrb:r0<32:=by omega
 rw[hr0] at ha hx
 obtain⟨D,hD⟩:∃ D,(s.toList.drop 1).take 3=D:=⟨_,rfl⟩
 have hlen:D.length=3:=by rw[<-hD,qZb,qXa,aX];omega
 have hX:(match vW r0 D with | none=>(0,0) | some r=>if r<65536 then (0,0) else if scal r=true then (r,3+1) else (0,0))=x:=by
  rw[<-hx,<-hD]
  unfold mM
  rw[if_neg (by rw[qXa,aX];omega)]
 have HX:=aB hX
 obtain⟨w1,hw1⟩:=eX (Lib.bytesWorld w 5 (s.extract 1 4))
 have hT1:aC (λ_=>False) w w1:=by rw[hw1];exact qK _ _ _
 have hsz1:w.heap.size<w1.heap.size:=by rw[hw1,Lib.bytesWorld_size];omega
 have hcell:∀ j,j<3->w1.cell? ⟨w.heap.size,j,none⟩=some (.int .u8 (D.getD j 0).toNat):=by
  intro j hj
  rw[hw1,Lib.bytesWorld_cell _ _ _ _ (by rw[hsz];exact hj),show (s.extract 1 4).data.toList=D from (wN s 3 hs).trans hD]
 have HCELL:=aB hcell
 have HT1:=aB hT1
 have HLEN:=aB hlen
 have HL:=aB hL
 have HS1:=aB hsz1
 have HW1:=aB hw1
 clear hX hx hD hT1 hsz1 hcell hw1 hlen hL hr0
 go_in
 go_wp2
 rw[<-HW1.out]
 go_loopw [5,44] (λrv iv wr=>∃ (r j:Nat),rv=.int .i32 r/\iv=.int .i64 j/\Hid ((j=3/\r<8388608)\/(j+1=3/\r<131072)\/(j+2=3/\r<2048)\/(j+3=3/\r<32))/\Hid (vW r0 D=vW r (D.drop j))/\Hid (aC (λ_=>False) w1 wr)) (λ_ iv _=>3-(intOf iv).toNat)
 case atStart=>exact⟨r0,0,rfl,rfl,aB (by omega),aB rfl,aB (aC.refl _ _)⟩
 case round =>
  obtain⟨r,j,rfl,rfl,HB,HE,HT⟩:=hrel
  have hLw:=HL.touch (HT1.then HT)
  have g1:wr.cell? ⟨0,4,none⟩=some (.int .i32 65536):=hLw.2.2.2
  by_cases hj:j<3
  ·have hr:r*64+63<8388608:=by rcases HB.out with h | h | h | h<;>omega
   have c0:=(HT.cell (a:=⟨w.heap.size,j,none⟩) HS1 (λf=>f)).trans (HCELL j hj)
   have hdr:D.drop j=D.getD j 0 :: D.drop (j+1):=by
    rw[qQc (by rw[HLEN.out];exact hj)]
    simp[qJa,HLEN.out,hj]
   have hstep:=HE.out
   rw[hdr,vW] at hstep
   have hv:=(D.getD j 0).toNat_lt
   obtain⟨v,hvv⟩:∃ v,(D.getD j 0).toNat=v:=⟨_,rfl⟩
   rw[hvv] at c0 hstep hv
   have HV:=aB hvv
   clear hvv hdr
   have i0:(j:Int)<3:=by omega
   have hvb:v<256:=by omega
   by_cases hc:v / 64=2
   ·rw[if_pos hc] at hstep
    have hand:=Pu v hvb
    obtain⟨m,hmm⟩:∃ m,v % 64=m:=⟨_,rfl⟩
    rw[hmm] at hand hstep
    have hmb:m<64:=by omega
    have hor:=Rw r m (by omega) hmb
    obtain⟨q,hq⟩:∃ q,r*64+m=q:=⟨_,rfl⟩
    rw[hq] at hor hstep
    have HST:=aB hstep
    have HQ:=aB (And.intro hq hmb)
    clear hstep hq hmm
    go_wp2
    go_roundw
    ·exact⟨q,j+1,rfl,by simp,aB (by have h1:=HQ.out;rcases HB.out with h | h | h | h<;>omega),HST,HT⟩
    ·show 3-(intOf (.int .i64 ((j:Int)+1))).toNat<3-(intOf (.int .i64 (j:Int))).toNat
     simp[intOf]
     omega
   ·rw[if_neg hc] at hstep
    have hxx:=HX.out
    rw[hstep] at hxx
    simp only at hxx
    subst hxx
    clear hstep
    go_wp2
    exact bodyPost_ret (v:=.tuple #[.int .i32 0,.int .i64 0]) (by simp[results,Tryz.results136,go_sem]) rfl ⟨rfl,HT1.then HT⟩
  ·have hjk:j=3:=by rcases HB.out with h | h | h | h<;>omega
   subst hjk
   have hend:=HE.out
   rw[qQb (by rw[HLEN.out];exact qJb _),vW] at hend
   have hxx:=HX.out
   rw[hend] at hxx
   simp only at hxx
   have hrb2:r<8388608:=by rcases HB.out with h | h | h | h<;>omega
   clear hend
   by_cases hl:r<65536
   ·rw[if_pos hl] at hxx
    subst hxx
    have i1:(r:Int)<65536:=by omega
    go_wp2
    exact bodyPost_ret (v:=.tuple #[.int .i32 0,.int .i64 0]) (by simp[results,Tryz.results136,go_sem]) rfl ⟨rfl,HT1.then HT⟩
   ·rw[if_neg hl] at hxx
    have i1:¬ (r:Int)<65536:=by omega
    have HXX:=aB hxx
    clear hxx
    cases hsc:scal r with
    | true =>
     have hxx:=HXX.out
     rw[if_pos hsc] at hxx
     subst hxx
     go_wp2_with fail
     refine (jN r _).mono ?_
     rintro e w2 ⟨rfl,rfl⟩
     rw[hsc]
     go_wp2_with fail
     exact bodyPost_ret (v:=.tuple #[.int .i32 r,.int .i64 4]) (by simp[results,Tryz.results136,go_sem]) rfl ⟨rfl,HT1.then HT⟩
    | false =>
     have hxx:=HXX.out
     rw[if_neg (by rw[hsc];decide)] at hxx
     subst hxx
     go_wp2_with fail
     refine (jN r _).mono ?_
     rintro e w2 ⟨rfl,rfl⟩
     rw[hsc]
     go_wp2_with fail
     exact bodyPost_ret (v:=.tuple #[.int .i32 0,.int .i64 0]) (by simp[results,Tryz.results136,go_sem]) rfl ⟨rfl,HT1.then HT⟩
theorem Wq(w:World)(s:ByteArray)(hs:0<s.size)(hm:s.size<=9223372036854775807)(hL:cV w) :
  Calls Tryz.prog 136 #[.string s] w λe w'=>e=.returned (.tuple #[.int .i32 (fT s.toList).1,.int .i64 (fT s.toList).2])/\aC (λ_=>False) w w':=by
 have hlc:=oF s hs
 obtain⟨x,hx⟩:∃ x,fT s.toList=x:=⟨_,rfl⟩
 rw[hx]
 rw[hlc,fT] at hx
 have hb:=s[0].toNat_lt
 have y0:(0:Int)<(s.size:Int):=by omega
 by_cases c1:s[0].toNat<128
 ·rw[if_pos c1] at hx
  subst hx
  clear hlc
  go_in
  go_wp2
  exact bodyPost_ret (v:=.tuple #[.int .i32 (s[0].toNat:Int),.int .i64 1]) (by simp[results,Tryz.results136,go_sem]) rfl ⟨rfl,aC.refl _ _⟩
 ·rw[if_neg c1] at hx
  by_cases c2:s[0].toNat / 32=6
  ·rw[if_pos c2] at hx
   by_cases hz:2<=s.size
   ·exact Wr w s hz hm (by omega) (by omega) hL x hx
   ·unfold mM at hx
    rw[if_pos (by rw[qXa,aX];omega)] at hx
    subst hx
    clear hlc
    go_in
    go_wp2
    exact bodyPost_ret (v:=.tuple #[.int .i32 0,.int .i64 0]) (by simp[results,Tryz.results136,go_sem]) rfl ⟨rfl,aC.refl _ _⟩
  ·rw[if_neg c2] at hx
   by_cases c3:s[0].toNat / 16=14
   ·rw[if_pos c3] at hx
    by_cases hz:3<=s.size
    ·exact Ma w s hz hm (by omega) (by omega) hL x hx
    ·unfold mM at hx
     rw[if_pos (by rw[qXa,aX];omega)] at hx
     subst hx
     clear hlc
     go_in
     go_wp2
     exact bodyPost_ret (v:=.tuple #[.int .i32 0,.int .i64 0]) (by simp[results,Tryz.results136,go_sem]) rfl ⟨rfl,aC.refl _ _⟩
   ·rw[if_neg c3] at hx
    by_cases c4:s[0].toNat / 8=30
    ·rw[if_pos c4] at hx
     by_cases hz:4<=s.size
     ·exact Qr w s hz hm (by omega) (by omega) hL x hx
     ·unfold mM at hx
      rw[if_pos (by rw[qXa,aX];omega)] at hx
      subst hx
      clear hlc
      go_in
      go_wp2
      exact bodyPost_ret (v:=.tuple #[.int .i32 0,.int .i64 0]) (by simp[results,Tryz.results136,go_sem]) rfl ⟨rfl,aC.refl _ _⟩
    ·rw[if_neg c4] at hx
     subst hx
     clear hlc
     go_in
     go_wp2
     exact bodyPost_ret (v:=.tuple #[.int .i32 0,.int .i64 0]) (by simp[results,Tryz.results136,go_sem]) rfl ⟨rfl,aC.refl _ _⟩
structure fS(e size:Nat)(w0 w:World)(v:Value)(q:Nat)(xs:List Value):Prop where
 own:w.ownsRow 0 e size v q xs
 touch:aC (λ_=>False) w0 w
 fresh:∀ g,v.ownBlock=some g->w0.heap.size<=g
theorem fS.nil(e size:Nat)(w:World):fS e size w w (.slice none 0 0) 0 []:=⟨World.ownsRow_nil _ _ _ _,aC.refl _ _,λg h=>by simp[Value.ownBlock] at h⟩
theorem fS.to{e size:Nat}{w0 w2:World}{v:Value}{xs:List Value}(h:fS e size w0 w v q xs)(t:aC (λ_=>False) w w2):fS e size w0 w2 v q xs :=
 ⟨aF h.own t (λ_ _ f=>f),h.touch.then t,h.fresh⟩
theorem fS.app{e size m:Nat}{w0 w1 w3:World}{v v':Value}{xs ys:List Value}(h:fS e size w0 w1 v q xs)(ho:w3.ownsRow 0 e size v' (q+m) (xs++ys))(hg:w1.grownBy w3 v.ownBlock)(hf:cK w1 v v'):fS e size w0 w3 v' (q+m) (xs++ys):=by
 refine⟨ho,h.touch.app hg (λg hg hlt=>by have:=h.fresh g hg;omega),?_⟩
 intro g hg
 rcases hf with e | ⟨g',e,hg'⟩
 ·rw[e] at hg;exact h.fresh g hg
 ·rw[hg] at e
  injection e with e
  have:=h.touch.size
  omega
def fF(r:Nat):Value:=.int .i32 (r:Int)
def tN:Nat->List UInt8->Option (List Nat)
 | _,[]=>some []
 | 0,_ :: _=>none
 | f+1,b :: t=>if (fT (b :: t)).2=0 then none else (tN f ((b :: t).drop (fT (b :: t)).2)).map ((fT (b :: t)).1 :: ·)
def bZ(bs:List UInt8):Option (List Nat):=tN bs.length bs
theorem Nt(f:Nat):∀ bs:List UInt8,bs.length<=f->∀ g,bs.length<=g->tN f bs=tN g bs:=by
 induction f with
 | zero=>intro bs h g _;cases bs with
  | nil=>cases g<;>rfl
  | cons b t=>simp at h
 | succ f ih =>
  intro bs h g hg
  cases bs with
  | nil=>cases g<;>rfl
  | cons b t =>
   cases g with
   | zero=>simp at hg
   | succ g =>
    simp only[tN]
    by_cases hn:(fT (b :: t)).2=0
    ·rw[if_pos hn,if_pos hn]
    ·rw[if_neg hn,if_neg hn]
     congr 1
     have hl:((b :: t).drop (fT (b :: t)).2).length<=t.length:=by
      rw[qXa,qZc]
      omega
     simp only[qZc] at h hg
     exact ih _ (by omega) g (by omega)
theorem kN:bZ []=some []:=rfl
theorem kT(h:0<bs.length):bZ bs=if (fT bs).2=0 then none else (bZ (bs.drop (fT bs).2)).map ((fT bs).1 :: ·):=by
 cases bs with
 | nil=>simp at h
 | cons b t =>
  show tN (t.length+1) (b :: t)=_
  simp only[tN]
  by_cases hn:(fT (b :: t)).2=0
  ·rw[if_pos hn,if_pos hn]
  ·rw[if_neg hn,if_neg hn]
   congr 1
   refine Nt _ _ ?_ _ (qJb _)
   rw[qXa,qZc]
   omega
theorem Jy(r0 k least:Nat)(t:List UInt8):(mM r0 k least t).2<=t.length+1:=by
 unfold mM
 split
 ·simp
 ·split
  ·simp
  ·split
   ·simp
   ·split
    ·simp only;omega
    ·simp
theorem Vd(bs:List UInt8):(fT bs).2<=bs.length:=by
 cases bs with
 | nil=>simp[fT]
 | cons b t =>
  simp only[fT,qZc]
  split
  ·simp only;omega
  ·split
   ·exact Jy _ _ _ _
   ·split
    ·exact Jy _ _ _ _
    ·split
     ·exact Jy _ _ _ _
     ·simp
theorem Ce:(Tryz.prog.info? 21).map (λi=>(i.zero,i.size,i.bytes))=some (some (.int .i32 0),1,4):=by kernel_rfl
theorem uK(s:ByteArray)(n:Nat)(_:n<=s.size):(s.extract n s.size).toList=s.toList.drop n:=by
 rw[Go.ByteArray.toList_eq,Go.ByteArray.toList_eq,ByteArray.data_extract]
 simp only[Array.toList_extract,qXe]
 refine qJd ?_
 rw[qXa,Array.length_toList]
 exact qJb _
theorem lK(w:World)(S:ByteArray)(hm:S.size<=1099511627776)(hL:cV w) :
  Calls Tryz.prog 81 #[.string S] w λe w'=>∃ A q c O ok,e=.returned (.tuple #[.slice A q c,.bool ok])/\fS 21 1 w w' (.slice A q c) q (O.map fF)/\O.length=q/\q<=S.size/\bZ S.toList=(if ok=true then some O else none):=by
 obtain⟨i0,hi,hz0,hz1,hz2⟩:=aQ Ce
 have HL:=aB hL
 clear hL
 go_in
 go_wp2
 go_loopw [0,4] (λsv ov wr=>∃ (s:ByteArray) (q:Nat) (A3:Option Addr) (c3:Nat) (O:List Nat),sv=.string s/\ov=.slice A3 q c3/\q+s.size<=S.size/\s.size<=1099511627776/\Hid (fS 21 1 w wr (.slice A3 q c3) q (O.map fF)/\O.length=q)/\Hid (bZ S.toList=(bZ s.toList).map (O++·))) (λsv _ _=>match sv with | .string s=>s.size | _=>0)
 case atStart=>exact⟨S,0,none,0,[],rfl,rfl,by omega,hm,aB ⟨fS.nil _ _ _,rfl⟩,aB (by cases bZ S.toList<;>rfl)⟩
 case round =>
  obtain⟨s,q,A3,c3,O,rfl,rfl,hqs,hsb,HO,HR⟩:=hrel
  by_cases hz:0<s.size
  ·have y0:(0:Int)<(s.size:Int):=by omega
   have hst:=kT (bs:=s.toList) (by rw[aX];exact hz)
   have hle:=Vd s.toList
   rw[aX] at hle
   have HF:=aB (Wq wr s hz (by omega) (HL.touch HO.1.touch))
   obtain⟨⟨r,n⟩,hx⟩:∃ x,fT s.toList=x:=⟨_,rfl⟩
   rw[hx] at hst hle HF
   simp only at hst hle HF
   have HST:=aB hst
   clear hst hx
   by_cases hn:n=0
   ·subst hn
    go_wp2_with fail
    refine HF.mono ?_
    rintro e w1 ⟨rfl,T1⟩
    have HT1:=aB T1
    clear T1
    go_wp2_with fail
    have hres:bZ S.toList=none:=by rw[HR.out,HST.out];rfl
    exact bodyPost_ret (v:=.tuple #[.slice none 0 0,.bool false]) (by simp[results,Tryz.results81,go_sem]) rfl ⟨none,0,0,[],false,rfl,(fS.nil _ _ _).to (HO.1.touch.then HT1),rfl,qQd _,hres⟩
   ·have n1:((n:Int) == 0)=false:=by simp[hn]
    have n2:(0:Int)<=(n:Int):=by omega
    have n3:(n:Int)<=(s.size:Int):=by omega
    go_wp2_with fail
    refine HF.mono ?_
    rintro e w1 ⟨rfl,T1⟩
    have HO1:=aB (HO.1.to T1)
    clear T1
    go_wp2_with (at_builtin;refine aP _ rfl (.tmp 17) (.tmp 19) 154 rfl 21 i0 _ 1 4 Tryz.underlying154 hi hz0 hz1 hz2 rfl (by decide) (.slice A3 q c3) q _ rfl (aF HO1.own ((aC.refl _ _).alloc _) (λ_ _ f=>f)) (some ⟨_,0,none⟩) 1 1 [fF r] rfl ?sa ?sb ?sc ?sd ?se ?_)
    case sa=>exact aH.new _ _ _ _ rfl
    try (case sb=>exact λh=>by cases h)
    case sc=>exact List.all_eq_true.1 rfl
    case sd=>unfold maxLen;omega
    case se=>omega
    intro v4 w4 hown hgrow hfr _
    have N4:=(HO1.to ((aC.refl _ _).alloc _)).app hown hgrow hfr
    obtain⟨A4,c4,rfl,_,_⟩:=aS hown
    have HN4:=aB N4
    clear N4 hown hgrow hfr
    go_wp2_with fail
    go_roundw
    ·refine⟨s.extract n s.size,q+1,A4,c4,O++[r],rfl,rfl,?_,?_,aB ⟨?_,?_⟩,aB ?_⟩
     ·simp;omega
     ·simp;omega
     ·have:=HN4.out
      rw[List.map_append]
      exact this
     ·rw[List.length_append,HO.2];rfl
     ·rw[HR.out,HST.out,if_neg hn,uK s n hle,Option.map_map]
      congr 1
      funext l
      simp
    ·show (s.extract n s.size).size<s.size
     simp
     omega
  ·have hz0:s.toList=[]:=qZe (by rw[aX];omega)
   have y0:¬ (0:Int)<(s.size:Int):=by omega
   have hres:bZ S.toList=some O:=by rw[HR.out,hz0,kN];simp
   have HRES:=aB hres
   clear hres hz0
   go_wp2_with fail
   exact bodyPost_ret (v:=.tuple #[.slice A3 q c3,.bool true]) (by simp[results,Tryz.results81,go_sem]) rfl ⟨A3,q,c3,O,.inr ⟨rfl,HO.1,HO.2,by omega,HRES⟩⟩
def aN(r:Nat):List UInt8 :=
 if r<128 then [UInt8.ofNat r] else if r<2048 then [UInt8.ofNat (192+r / 64),UInt8.ofNat (128+r % 64)]
 else if r<65536 then [UInt8.ofNat (224+r / 4096),UInt8.ofNat (128+r / 64 % 64),UInt8.ofNat (128+r % 64)]
 else [UInt8.ofNat (240+r / 262144),UInt8.ofNat (128+r / 4096 % 64),UInt8.ofNat (128+r / 64 % 64),UInt8.ofNat (128+r % 64)]
def dD(n:Nat)(bs:List UInt8):Nat:=match n,bs with
 | 1,b :: _=>b.toNat
 | 2,b :: c :: _=>b.toNat % 32*64+c.toNat % 64
 | 3,b :: c :: d :: _=>(b.toNat % 16*64+c.toNat % 64)*64+d.toNat % 64
 | 4,b :: c :: d :: e :: _=>((b.toNat % 8*64+c.toNat % 64)*64+d.toNat % 64)*64+e.toNat % 64
 | _,_=>0
def Hit(n:Nat)(bs:List UInt8):Prop:=scal (dD n bs)=true/\aN (dD n bs)=bs.take n
theorem sJ{x:Nat}(hx:x<256):UInt8.ofNat x=b↔x=b.toNat:=by
 constructor
 ·intro h;rw[<-h,UInt8.toNat_ofNat'];omega
 ·intro h;rw[h];simp
theorem Ve(hr:r<1114112):aN r=[b]↔r<128/\r=b.toNat:=by
 unfold aN
 split
 ·simp[sJ (show r<256 by omega), *]
 ·split
  ·simp[*]
  ·split<;>simp[*]
theorem Vf(hr:r<1114112):aN r=[b,c]↔(128<=r/\r<2048)/\192+r / 64=b.toNat/\128+r % 64=c.toNat:=by
 unfold aN
 split
 ·simp;omega
 ·split
  ·simp only[List.cons.injEq,and_true,sJ (show 192+r / 64<256 by omega),sJ (show 128+r % 64<256 by omega)];omega
  ·split<;>(simp;omega)
theorem Vg{d:UInt8}(hr:r<1114112):aN r=[b,c,d]↔(2048<=r/\r<65536)/\224+r / 4096=b.toNat/\128+r / 64 % 64=c.toNat/\128+r % 64=d.toNat:=by
 unfold aN
 split
 ·simp;omega
 ·split
  ·simp;omega
  ·split
   ·simp only[List.cons.injEq,and_true,sJ (show 224+r / 4096<256 by omega),sJ (show 128+r / 64 % 64<256 by omega),sJ (show 128+r % 64<256 by omega)];omega
   ·simp;omega
theorem Vh{d e:UInt8}(hr:r<1114112):aN r=[b,c,d,e]↔65536<=r/\240+r / 262144=b.toNat/\128+r / 4096 % 64=c.toNat/\128+r / 64 % 64=d.toNat/\128+r % 64=e.toNat:=by
 unfold aN
 split
 ·simp;omega
 ·split
  ·simp;omega
  ·split
   ·simp;omega
   ·simp only[List.cons.injEq,and_true,sJ (show 240+r / 262144<256 by omega),sJ (show 128+r / 4096 % 64<256 by omega),sJ (show 128+r / 64 % 64<256 by omega),sJ (show 128+r % 64<256 by omega)];omega
theorem fD(h:scal r=true):r<1114112:=by
 unfold scal at h
 simp at h
 omega
theorem Ka(hk:k<=t.length)(h:vW r0 (t.take k)=some r)(hl:¬ r<least)(hs:scal r=true):mM r0 k least t=(r,k+1):=by
 unfold mM
 rw[if_neg (by omega),h]
 simp only
 rw[if_neg hl,if_pos hs]
theorem vR(h1:1<=n)(h4:n<=4)(hl:n<=bs.length)(h:Hit n bs):fT bs=(dD n bs,n):=by
 obtain⟨hs,hw⟩:=h
 have hr:=fD hs
 obtain rfl | rfl | rfl | rfl:n=1\/n=2\/n=3\/n=4:=by omega
 ·match bs,hl with
  | b :: t,_ =>
   simp only[dD] at hs hw hr ⊢
   rw[qQa,qZa,Ve hr] at hw
   rw[fT,if_pos hw.1]
 ·match bs,hl with
  | b :: c :: t,_ =>
   simp only[dD] at hs hw hr ⊢
   rw[qQa,qQa,qZa,Vf hr] at hw
   obtain⟨⟨a1,a2⟩,a3,a4⟩:=hw
   rw[fT,if_neg (by omega),if_pos (by omega)]
   exact Ka (by simp) (by simp only[qQa,qZa,vW];rw[if_pos (by omega)]) (by omega) hs
 ·match bs,hl with
  | b :: c :: d :: t,_ =>
   simp only[dD] at hs hw hr ⊢
   rw[qQa,qQa,qQa,qZa,Vg hr] at hw
   obtain⟨⟨a1,a2⟩,a3,a4,a5⟩:=hw
   rw[fT,if_neg (by omega),if_neg (by omega),if_pos (by omega)]
   exact Ka (by simp) (by simp only[qQa,qZa,vW];rw[if_pos (by omega),if_pos (by omega)]) (by omega) hs
 ·match bs,hl with
  | b :: c :: d :: e :: t,_ =>
   simp only[dD] at hs hw hr ⊢
   rw[qQa,qQa,qQa,qQa,qZa,Vh hr] at hw
   obtain⟨a1,a3,a4,a5,a6⟩:=hw
   rw[fT,if_neg (by omega),if_neg (by omega),if_neg (by omega),if_pos (by omega)]
   exact Ka (by simp) (by simp only[qQa,qZa,vW];rw[if_pos (by omega),if_pos (by omega),if_pos (by omega)]) (by omega) hs
theorem xT(h:(mM r0 k least t).2≠0):k<=t.length/\∃ r,vW r0 (t.take k)=some r/\¬ r<least/\scal r=true:=by
 unfold mM at h
 split at h
 ·simp at h
 ·refine⟨by omega,?_⟩
  split at h
  ·simp at h
  ·rename_i r hr
   refine⟨r,hr,?_⟩
   split at h
   ·simp at h
   ·rename_i h1
    split at h
    ·rename_i h2;exact⟨h1,h2⟩
    ·simp at h
theorem oR(h:vW r (c :: t)=some q):c.toNat / 64=2/\vW (r*64+c.toNat % 64) t=some q:=by
 simp only[vW] at h
 split at h
 ·rename_i hc;exact⟨hc,h⟩
 ·cases h
theorem xU(h:(mM r0 k least t).2=0):mM r0 k least t=(0,0):=by
 unfold mM at h ⊢
 split
 ·rfl
 ·rename_i h1
  rw[if_neg h1] at h
  split
  ·rfl
  ·rename_i r hr
   rw[hr] at h
   simp only at h
   split
   ·rfl
   ·rename_i h2
    rw[if_neg h2] at h
    split
    ·rename_i h3;rw[if_pos h3] at h;simp at h
    ·rfl
theorem Ze(h:(fT bs).2=0):fT bs=(0,0):=by
 cases bs with
 | nil=>rfl
 | cons b t =>
  simp only[fT] at h ⊢
  split
  ·rename_i h1;rw[if_pos h1] at h;simp at h
  ·rename_i h1
   rw[if_neg h1] at h
   split
   ·rename_i h2;rw[if_pos h2] at h;exact xU h
   ·rename_i h2
    rw[if_neg h2] at h
    split
    ·rename_i h3;rw[if_pos h3] at h;exact xU h
    ·rename_i h3
     rw[if_neg h3] at h
     split
     ·rename_i h4;rw[if_pos h4] at h;exact xU h
     ·rfl
theorem Il(h:∀ n,1<=n->n<=4->n<=bs.length->¬ Hit n bs):fT bs=(0,0):=by
 refine Classical.byContradiction λhne=>?_
 have h0:(fT bs).2≠0:=λe=>hne (Ze e)
 cases bs with
 | nil=>exact h0 rfl
 | cons b t =>
  have hb:=b.toNat_lt
  simp only[fT] at h0
  by_cases h1:b.toNat<128
  ·refine h 1 (by omega) (by omega) (by simp) ⟨?_,?_⟩
   ·simp only[dD,scal];simp;omega
   ·simp only[dD];rw[qQa,qZa,Ve (by omega)];exact⟨h1,rfl⟩
  ·rw[if_neg h1] at h0
   by_cases h2:b.toNat / 32=6
   ·rw[if_pos h2] at h0
    obtain⟨hk,r,ht,hl,hs⟩:=xT h0
    match t,hk with
    | c :: t,_ =>
     rw[qQa,qZa] at ht
     obtain⟨c1,ht⟩:=oR ht
     simp only[vW,Option.some.injEq] at ht
     subst ht
     refine h 2 (by omega) (by omega) (by simp) ⟨hs,?_⟩
     simp only[dD]
     rw[qQa,qQa,qZa,Vf (by omega)]
     omega
   ·rw[if_neg h2] at h0
    by_cases h3:b.toNat / 16=14
    ·rw[if_pos h3] at h0
     obtain⟨hk,r,ht,hl,hs⟩:=xT h0
     match t,hk with
     | c :: d :: t,_ =>
      rw[qQa,qQa,qZa] at ht
      obtain⟨c1,ht⟩:=oR ht
      obtain⟨c2,ht⟩:=oR ht
      simp only[vW,Option.some.injEq] at ht
      subst ht
      refine h 3 (by omega) (by omega) (by simp) ⟨hs,?_⟩
      simp only[dD]
      rw[qQa,qQa,qQa,qZa,Vg (by omega)]
      omega
    ·rw[if_neg h3] at h0
     by_cases h4:b.toNat / 8=30
     ·rw[if_pos h4] at h0
      obtain⟨hk,r,ht,hl,hs⟩:=xT h0
      match t,hk with
      | c :: d :: e :: t,_ =>
       rw[qQa,qQa,qQa,qZa] at ht
       obtain⟨c1,ht⟩:=oR ht
       obtain⟨c2,ht⟩:=oR ht
       obtain⟨c3,ht⟩:=oR ht
       simp only[vW,Option.some.injEq] at ht
       subst ht
       refine h 4 (by omega) (by omega) (by simp) ⟨hs,?_⟩
       simp only[dD]
       rw[qQa,qQa,qQa,qQa,qZa,Vh (fD hs)]
       omega
     ·rw[if_neg h4] at h0
      simp at h0
theorem aDt(r:Nat)(w:World) :
  Calls Tryz.prog 170 #[.int .i64 r] w λe w'=>e=.returned (.bool (scal r))/\w'=w:=by
 go_in
 have h0:(0:Int)<=(r:Int):=by omega
 by_cases h1:r<=1114111
 ·have i1:(r:Int)<=1114111:=by omega
  by_cases h2:r<55296
  ·have i2:(r:Int)<55296:=by omega
   go_wp2
   go_ret
   exact⟨by simp[scal,h1,h2],rfl⟩
  ·have i2:¬ (r:Int)<55296:=by omega
   by_cases h3:57343<r
   ·have i3:(57343:Int)<(r:Int):=by omega
    go_wp2
    go_ret
    exact⟨by simp[scal,h1,h3],rfl⟩
   ·have i3:¬ (57343:Int)<(r:Int):=by omega
    go_wp2
    go_ret
    exact⟨by simp[scal,h1,h2,h3],rfl⟩
 ·have i1:¬ (r:Int)<=1114111:=by omega
  go_wp2
  go_ret
  exact⟨by simp[scal,h1],rfl⟩
theorem uH(w:World)(l:List UInt8)(cs:Array Value)(n:Nat)(hn:n=l.length)(hcs:cs.toList=l.map (λb=>.int .u8 (b.toNat:Int))) :
  (convert 50 9 (.slice (some ⟨w.heap.size,0,none⟩) n n)).run Tryz.prog (w.alloc (.cells cs 5))=.ok (.string ⟨l.toArray⟩) (w.alloc (.cells cs 5)):=by
 subst hn
 refine run_convert_bytes_back _ _ _ _ _ _ l Tryz.underlying50 Tryz.underlying5 Tryz.underlying9 λj hj=>?_
 rw[Addr.add_lit,Nat.zero_add,World.cell?_alloc_new,<-Array.getElem?_toList,hcs]
 simp[hj]
theorem kQ{x:Nat}(h:n+x<256):Value.int .u8 (((UInt8.ofNat (n+x)).toNat:Nat):Int)=.int .u8 ((n:Int)+(x:Int)):=by
 rw[UInt8.toNat_ofNat',Nat.mod_eq_of_lt (by omega)]
 congr 1
theorem Zk(w:World)(r:Nat)(h1:128<=r)(h2:r<2048) :
  Calls Tryz.prog 171 #[.int .i64 r] w λe w'=>e=.returned (.string ⟨(aN r).toArray⟩)/\aC (λ_=>False) w w':=by
 have h0:(0:Int)<=(r:Int):=by omega
 obtain⟨l,hl⟩:∃ l,r % 64=l:=⟨_,rfl⟩
 obtain⟨a,ha⟩:∃ a,r / 64=a:=⟨_,rfl⟩
 have hwr:aN r=[UInt8.ofNat (192+a),UInt8.ofNat (128+l)]:=by
  unfold aN
  rw[if_neg (by omega),if_pos h2,hl,ha]
 have e1:(r:Int) % 64=(l:Int):=by omega
 have e2:(r:Int) / 64=(a:Int):=by omega
 have b1:l<64:=by omega
 have b2:a<32:=by omega
 obtain⟨S,hS⟩:=eX ((⟨(aN r).toArray⟩:ByteArray))
 rw[<-hS]
 rw[hwr] at hS
 have kc0:=λ(w:World)=>uH w [UInt8.ofNat (192+a),UInt8.ofNat (128+l)] #[.int .u8 ((192:Int)+(a:Int)),.int .u8 ((128:Int)+(l:Int))] 2 rfl (by simp only[qXc,qJc,kQ (n:=192) (x:=a) (by omega),kQ (n:=128) (x:=l) (by omega)];rfl)
 rw[<-hS] at kc0
 have HYS:=aB (show True from trivial)
 clear HYS hl ha hwr hS
 go_in
 go_wp2
 go_ret
 exact⟨rfl,(aC.refl _ _).alloc _⟩
theorem Pk(w:World)(r:Nat)(h1:2048<=r)(h2:(r:Int)<65536) :
  Calls Tryz.prog 171 #[.int .i64 r] w λe w'=>e=.returned (.string ⟨(aN r).toArray⟩)/\aC (λ_=>False) w w':=by
 have h0:(0:Int)<=(r:Int):=by omega
 obtain⟨l,hl⟩:∃ l,r % 64=l:=⟨_,rfl⟩
 obtain⟨a,ha⟩:∃ a,r / 64=a:=⟨_,rfl⟩
 obtain⟨m,hm⟩:∃ m,a % 64=m:=⟨_,rfl⟩
 obtain⟨c,hc⟩:∃ c,r / 4096=c:=⟨_,rfl⟩
 have hwr:aN r=[UInt8.ofNat (224+c),UInt8.ofNat (128+m),UInt8.ofNat (128+l)]:=by
  unfold aN
  rw[if_neg (by omega),if_neg (by omega),if_pos (by omega),hl,ha,hm,hc]
 have e1:(r:Int) % 64=(l:Int):=by omega
 have e2:(r:Int) / 64=(a:Int):=by omega
 have e3:(a:Int) % 64=(m:Int):=by omega
 have e4:(r:Int) / 4096=(c:Int):=by omega
 have i0:¬ (r:Int)<128:=by omega
 have i1:¬ (r:Int)<2048:=by omega
 have b1:l<64:=by omega
 have b2:m<64:=by omega
 have b3:c<16:=by omega
 obtain⟨S,hS⟩:=eX ((⟨(aN r).toArray⟩:ByteArray))
 rw[<-hS]
 rw[hwr] at hS
 have kc0:=λ(w:World)=>uH w [UInt8.ofNat (224+c),UInt8.ofNat (128+m),UInt8.ofNat (128+l)] #[.int .u8 ((224:Int)+(c:Int)),.int .u8 ((128:Int)+(m:Int)),.int .u8 ((128:Int)+(l:Int))] 3 rfl (by simp only[qXc,qJc,kQ (n:=224) (x:=c) (by omega),kQ (n:=128) (x:=m) (by omega),kQ (n:=128) (x:=l) (by omega)];rfl)
 rw[<-hS] at kc0
 have HYS:=aB (show True from trivial)
 clear HYS hl ha hm hc hwr hS
 go_in
 go_wp2
 go_ret
 exact⟨rfl,(aC.refl _ _).alloc _⟩
theorem Tp(w:World)(r:Nat)(h1:(65536:Int)<=(r:Int))(h2:(r:Int)<1114112) :
  Calls Tryz.prog 171 #[.int .i64 r] w λe w'=>e=.returned (.string ⟨(aN r).toArray⟩)/\aC (λ_=>False) w w':=by
 have h0:(0:Int)<=(r:Int):=by omega
 obtain⟨l,hl⟩:∃ l,r % 64=l:=⟨_,rfl⟩
 obtain⟨a,ha⟩:∃ a,r / 64=a:=⟨_,rfl⟩
 obtain⟨m,hm⟩:∃ m,a % 64=m:=⟨_,rfl⟩
 obtain⟨c,hc⟩:∃ c,r / 4096=c:=⟨_,rfl⟩
 obtain⟨d,hd⟩:∃ d,c % 64=d:=⟨_,rfl⟩
 obtain⟨f,hf⟩:∃ f,r / 262144=f:=⟨_,rfl⟩
 have hwr:aN r=[UInt8.ofNat (240+f),UInt8.ofNat (128+d),UInt8.ofNat (128+m),UInt8.ofNat (128+l)]:=by
  unfold aN
  rw[if_neg (by omega),if_neg (by omega),if_neg (by omega),hl,ha,hm,hc,hd,hf]
 have e1:(r:Int) % 64=(l:Int):=by omega
 have e2:(r:Int) / 64=(a:Int):=by omega
 have e3:(a:Int) % 64=(m:Int):=by omega
 have e4:(r:Int) / 4096=(c:Int):=by omega
 have e5:(c:Int) % 64=(d:Int):=by omega
 have e6:(r:Int) / 262144=(f:Int):=by omega
 have i0:¬ (r:Int)<128:=by omega
 have i1:¬ (r:Int)<2048:=by omega
 have i2:¬ (r:Int)<65536:=by omega
 have b1:l<64:=by omega
 have b2:m<64:=by omega
 have b3:d<64:=by omega
 have b4:f<8:=by omega
 obtain⟨S,hS⟩:=eX ((⟨(aN r).toArray⟩:ByteArray))
 rw[<-hS]
 rw[hwr] at hS
 have kc0:=λ(w:World)=>uH w [UInt8.ofNat (240+f),UInt8.ofNat (128+d),UInt8.ofNat (128+m),UInt8.ofNat (128+l)] #[.int .u8 ((240:Int)+(f:Int)),.int .u8 ((128:Int)+(d:Int)),.int .u8 ((128:Int)+(m:Int)),.int .u8 ((128:Int)+(l:Int))] 4 rfl (by simp only[qXc,qJc,kQ (n:=240) (x:=f) (by omega),kQ (n:=128) (x:=d) (by omega),kQ (n:=128) (x:=m) (by omega),kQ (n:=128) (x:=l) (by omega)];rfl)
 rw[<-hS] at kc0
 have HYS:=aB (show True from trivial)
 clear HYS hl ha hm hc hd hf hwr hS
 go_in
 go_wp2
 go_ret
 exact⟨rfl,(aC.refl _ _).alloc _⟩
theorem Zj(w:World)(r:Nat)(hr:(r:Int)<1114112) :
  Calls Tryz.prog 171 #[.int .i64 r] w λe w'=>e=.returned (.string ⟨(aN r).toArray⟩)/\aC (λ_=>False) w w':=by
 by_cases h1:r<128
 ·have i1:(r:Int)<128:=by omega
  have hwr:aN r=[UInt8.ofNat r]:=by unfold aN;rw[if_pos h1]
  rw[hwr]
  have kc:=λ(w:World)=>uH w [UInt8.ofNat r] #[.int .u8 (r:Int)] 1 rfl (by simp only[qXc,qJc];rw[UInt8.toNat_ofNat',Nat.mod_eq_of_lt (by omega)])
  clear hwr hr
  go_in
  go_wp2
  go_ret
  exact⟨rfl,(aC.refl _ _).alloc _⟩
 ·by_cases h2:r<2048
  ·exact Zk w r (by omega) h2
  ·by_cases h3:(r:Int)<65536
   ·exact Pk w r (by omega) h3
   ·exact Tp w r (by omega) hr
def Jw:Nat->List UInt8->Nat
 | r,[]=>r
 | r,c :: t=>Jw (r*64+c.toNat % 64) t
theorem Dj{i:Nat}{E:List UInt8}(hn:E.length=n)(hi:i<n):Jw r (E.drop i)=Jw (r*64+(E.getD i 0).toNat % 64) (E.drop (i+1)):=by
 rw[qQc (by omega)]
 simp[Jw,qJa,show i<E.length by omega]
theorem aJl(b c:UInt8)(t:List UInt8):dD 2 (b :: c :: t)=Jw (b.toNat % 32) ((b :: c :: t).take 2 |>.drop 1):=by simp[dD,Jw]
theorem aJm(b c d:UInt8)(t:List UInt8):dD 3 (b :: c :: d :: t)=Jw (b.toNat % 16) ((b :: c :: d :: t).take 3 |>.drop 1):=by simp[dD,Jw]
theorem aJn(b c d e:UInt8)(t:List UInt8):dD 4 (b :: c :: d :: e :: t)=Jw (b.toNat % 8) ((b :: c :: d :: e :: t).take 4 |>.drop 1):=by simp[dD,Jw]
theorem aDu(n:Nat)(bs:List UInt8):dD n bs<2097152:=by
 unfold dD
 split
 ·rename_i b _;have:=b.toNat_lt;omega
 ·omega
 ·omega
 ·omega
 ·omega
theorem aDw(w:World)(s:ByteArray)(hs:1<=s.size) :
  Calls Tryz.prog 189 #[.string s,.int .i64 1] w λe w'=>e=.returned (.int .i64 (dD 1 s.toList))/\aC (λ_=>False) w w':=by
 have hlc:=oF s hs
 have hx:dD 1 s.toList=s[0].toNat:=by rw[hlc];rfl
 rw[hx]
 clear hlc hx
 have v0:((s[0].toNat:Nat):Int)<256:=by have:=s[0].toNat_lt;omega
 have y0:(0:Int)<(s.size:Int):=by omega
 go_in
 go_wp2
 go_ret
 exact⟨rfl,aC.refl _ _⟩
theorem Di(s:ByteArray)(hs:2<=s.size):dD 2 s.toList=Jw (s[0].toNat % 32) ((s.toList.take 2).drop 1):=by
 have h:=oF s (by omega)
 have hl:2<=s.toList.length:=by rw[aX];exact hs
 rw[h] at hl ⊢
 match hd:s.toList.drop 1,hl with
 | c :: t,_=>exact aJl _ c t
theorem aDx(w:World)(s:ByteArray)(hs:2<=s.size)(hm:s.size<=9223372036854775807) :
  Calls Tryz.prog 189 #[.string s,.int .i64 2] w λe w'=>e=.returned (.int .i64 (dD 2 s.toList))/\aC (λ_=>False) w w':=by
 have hx:=Di s hs
 obtain⟨x,hxx⟩:∃ x,dD 2 s.toList=x:=⟨_,rfl⟩
 rw[hxx] at hx ⊢
 have y0:(0:Int)<(s.size:Int):=by omega
 obtain⟨b,hb⟩:∃ b,s[0].toNat % 32=b:=⟨_,rfl⟩
 have e1:((s[0].toNat:Nat):Int) % 32=(b:Int):=by omega
 have bb:b<32:=by omega
 have v0:((s[0].toNat:Nat):Int)<256:=by have:=s[0].toNat_lt;omega
 rw[hb] at hx
 obtain⟨E,hE⟩:∃ E,s.toList.take 2=E:=⟨_,rfl⟩
 have hlen:E.length=2:=by rw[<-hE,qZb,aX];omega
 have hbyte:∀ j (h:j<2),(E.getD j 0)=s[j]'(by omega):=by
  intro j h
  have h1:=mT s j (by omega)
  have h2:E[j]? = some (s[j]'(by omega)):=by rw[<-hE,qXd,if_pos h,h1]
  rw[qZd,h2]
  rfl
 rw[hE] at hx
 have HX:=aB hx
 have HB:=aB hbyte
 have HLEN:=aB hlen
 clear hx hxx hb hE hbyte hlen
 go_in
 go_wp2
 go_loopw [5,6] (λrv iv wr=>∃ (r i:Nat),rv=.int .i64 r/\iv=.int .i64 i/\Hid ((i=2/\r<8388608)\/(i+1=2/\r<131072)\/(i+2=2/\r<2048)\/(i+3=2/\r<32))/\Hid (x=Jw r (E.drop i))/\Hid (aC (λ_=>False) w wr)) (λ_ iv _=>2-(intOf iv).toNat)
 case atStart=>exact⟨b,1,by rw[e1],rfl,aB (by omega),HX,aB (aC.refl _ _)⟩
 case round =>
  obtain⟨r,i,rfl,rfl,HBD,HE,HT⟩:=hrel
  by_cases hi:i<2
  ·have h1:i<s.size:=by omega
   have i0:(i:Int)<2:=by omega
   have i1:(i:Int)<(s.size:Int):=by omega
   have i2:(0:Int)<=(i:Int):=by omega
   have v1:(((s[i]'h1).toNat:Nat):Int)<256:=by have:=(s[i]'h1).toNat_lt;omega
   have hst:=HE.out
   rw[Dj HLEN.out hi,HB.out i hi] at hst
   obtain⟨m,hmm⟩:∃ m,(s[i]'h1).toNat % 64=m:=⟨_,rfl⟩
   rw[hmm] at hst
   have e2:(((s[i]'h1).toNat:Nat):Int) % 64=(m:Int):=by omega
   obtain⟨q,hq⟩:∃ q,r*64+m=q:=⟨_,rfl⟩
   rw[hq] at hst
   have e3:(r:Int)*64+(m:Int)=(q:Int):=by omega
   have i4:(r:Int)<8388608:=by rcases HBD.out with h | h | h | h<;>omega
   have i5:(q:Int)<1000000000:=by omega
   have i6:(m:Int)<64:=by omega
   have HST:=aB hst
   have HQ:=aB (And.intro hq i6)
   clear hst hq hmm
   go_wp2
   go_roundw
   ·exact⟨q,i+1,rfl,by simp,aB (by have h1:=HQ.out;rcases HBD.out with h | h | h | h<;>omega),HST,HT⟩
   ·show 2-(intOf (.int .i64 ((i:Int)+1))).toNat<2-(intOf (.int .i64 (i:Int))).toNat
    simp[intOf]
    omega
  ·have i0:¬ (i:Int)<2:=by omega
   have hend:=HE.out
   rw[qQb (by rw[HLEN.out];omega),Jw] at hend
   subst hend
   go_wp2
   go_ret
   exact⟨rfl,HT⟩
theorem xS(s:ByteArray)(hs:3<=s.size):dD 3 s.toList=Jw (s[0].toNat % 16) ((s.toList.take 3).drop 1):=by
 have h:=oF s (by omega)
 have hl:3<=s.toList.length:=by rw[aX];exact hs
 rw[h] at hl ⊢
 match hd:s.toList.drop 1,hl with
 | c :: d :: t,_=>exact aJm _ c d t
theorem Sk(w:World)(s:ByteArray)(hs:3<=s.size)(hm:s.size<=9223372036854775807) :
  Calls Tryz.prog 189 #[.string s,.int .i64 3] w λe w'=>e=.returned (.int .i64 (dD 3 s.toList))/\aC (λ_=>False) w w':=by
 have hx:=xS s hs
 obtain⟨x,hxx⟩:∃ x,dD 3 s.toList=x:=⟨_,rfl⟩
 rw[hxx] at hx ⊢
 have y0:(0:Int)<(s.size:Int):=by omega
 obtain⟨b,hb⟩:∃ b,s[0].toNat % 16=b:=⟨_,rfl⟩
 have e1:((s[0].toNat:Nat):Int) % 16=(b:Int):=by omega
 have bb:b<32:=by omega
 have v0:((s[0].toNat:Nat):Int)<256:=by have:=s[0].toNat_lt;omega
 rw[hb] at hx
 obtain⟨E,hE⟩:∃ E,s.toList.take 3=E:=⟨_,rfl⟩
 have hlen:E.length=3:=by rw[<-hE,qZb,aX];omega
 have hbyte:∀ j (h:j<3),(E.getD j 0)=s[j]'(by omega):=by
  intro j h
  have h1:=mT s j (by omega)
  have h2:E[j]? = some (s[j]'(by omega)):=by rw[<-hE,qXd,if_pos h,h1]
  rw[qZd,h2]
  rfl
 rw[hE] at hx
 have HX:=aB hx
 have HB:=aB hbyte
 have HLEN:=aB hlen
 clear hx hxx hb hE hbyte hlen
 go_in
 go_wp2
 go_loopw [5,6] (λrv iv wr=>∃ (r i:Nat),rv=.int .i64 r/\iv=.int .i64 i/\Hid ((i=3/\r<8388608)\/(i+1=3/\r<131072)\/(i+2=3/\r<2048)\/(i+3=3/\r<32))/\Hid (x=Jw r (E.drop i))/\Hid (aC (λ_=>False) w wr)) (λ_ iv _=>3-(intOf iv).toNat)
 case atStart=>exact⟨b,1,by rw[e1],rfl,aB (by omega),HX,aB (aC.refl _ _)⟩
 case round =>
  obtain⟨r,i,rfl,rfl,HBD,HE,HT⟩:=hrel
  by_cases hi:i<3
  ·have h1:i<s.size:=by omega
   have i0:(i:Int)<3:=by omega
   have i1:(i:Int)<(s.size:Int):=by omega
   have i2:(0:Int)<=(i:Int):=by omega
   have v1:(((s[i]'h1).toNat:Nat):Int)<256:=by have:=(s[i]'h1).toNat_lt;omega
   have hst:=HE.out
   rw[Dj HLEN.out hi,HB.out i hi] at hst
   obtain⟨m,hmm⟩:∃ m,(s[i]'h1).toNat % 64=m:=⟨_,rfl⟩
   rw[hmm] at hst
   have e2:(((s[i]'h1).toNat:Nat):Int) % 64=(m:Int):=by omega
   obtain⟨q,hq⟩:∃ q,r*64+m=q:=⟨_,rfl⟩
   rw[hq] at hst
   have e3:(r:Int)*64+(m:Int)=(q:Int):=by omega
   have i4:(r:Int)<8388608:=by rcases HBD.out with h | h | h | h<;>omega
   have i5:(q:Int)<1000000000:=by omega
   have i6:(m:Int)<64:=by omega
   have HST:=aB hst
   have HQ:=aB (And.intro hq i6)
   clear hst hq hmm
   go_wp2
   go_roundw
   ·exact⟨q,i+1,rfl,by simp,aB (by have h1:=HQ.out;rcases HBD.out with h | h | h | h<;>omega),HST,HT⟩
   ·show 3-(intOf (.int .i64 ((i:Int)+1))).toNat<3-(intOf (.int .i64 (i:Int))).toNat
    simp[intOf]
    omega
  ·have i0:¬ (i:Int)<3:=by omega
   have hend:=HE.out
   rw[qQb (by rw[HLEN.out];omega),Jw] at hend
   subst hend
   go_wp2
   go_ret
   exact⟨rfl,HT⟩
theorem zP(s:ByteArray)(hs:4<=s.size):dD 4 s.toList=Jw (s[0].toNat % 8) ((s.toList.take 4).drop 1):=by
 have h:=oF s (by omega)
 have hl:4<=s.toList.length:=by rw[aX];exact hs
 rw[h] at hl ⊢
 match hd:s.toList.drop 1,hl with
 | c :: d :: e :: t,_=>exact aJn _ c d e t
theorem Yv(w:World)(s:ByteArray)(hs:4<=s.size)(hm:s.size<=9223372036854775807) :
  Calls Tryz.prog 189 #[.string s,.int .i64 4] w λe w'=>e=.returned (.int .i64 (dD 4 s.toList))/\aC (λ_=>False) w w':=by
 have hx:=zP s hs
 obtain⟨x,hxx⟩:∃ x,dD 4 s.toList=x:=⟨_,rfl⟩
 rw[hxx] at hx ⊢
 have y0:(0:Int)<(s.size:Int):=by omega
 obtain⟨b,hb⟩:∃ b,s[0].toNat % 8=b:=⟨_,rfl⟩
 have e1:((s[0].toNat:Nat):Int) % 8=(b:Int):=by omega
 have bb:b<32:=by omega
 have v0:((s[0].toNat:Nat):Int)<256:=by have:=s[0].toNat_lt;omega
 rw[hb] at hx
 obtain⟨E,hE⟩:∃ E,s.toList.take 4=E:=⟨_,rfl⟩
 have hlen:E.length=4:=by rw[<-hE,qZb,aX];omega
 have hbyte:∀ j (h:j<4),(E.getD j 0)=s[j]'(by omega):=by
  intro j h
  have h1:=mT s j (by omega)
  have h2:E[j]? = some (s[j]'(by omega)):=by rw[<-hE,qXd,if_pos h,h1]
  rw[qZd,h2]
  rfl
 rw[hE] at hx
 have HX:=aB hx
 have HB:=aB hbyte
 have HLEN:=aB hlen
 clear hx hxx hb hE hbyte hlen
 go_in
 go_wp2
 go_loopw [5,6] (λrv iv wr=>∃ (r i:Nat),rv=.int .i64 r/\iv=.int .i64 i/\Hid ((i=4/\r<8388608)\/(i+1=4/\r<131072)\/(i+2=4/\r<2048)\/(i+3=4/\r<32))/\Hid (x=Jw r (E.drop i))/\Hid (aC (λ_=>False) w wr)) (λ_ iv _=>4-(intOf iv).toNat)
 case atStart=>exact⟨b,1,by rw[e1],rfl,aB (by omega),HX,aB (aC.refl _ _)⟩
 case round =>
  obtain⟨r,i,rfl,rfl,HBD,HE,HT⟩:=hrel
  by_cases hi:i<4
  ·have h1:i<s.size:=by omega
   have i0:(i:Int)<4:=by omega
   have i1:(i:Int)<(s.size:Int):=by omega
   have i2:(0:Int)<=(i:Int):=by omega
   have v1:(((s[i]'h1).toNat:Nat):Int)<256:=by have:=(s[i]'h1).toNat_lt;omega
   have hst:=HE.out
   rw[Dj HLEN.out hi,HB.out i hi] at hst
   obtain⟨m,hmm⟩:∃ m,(s[i]'h1).toNat % 64=m:=⟨_,rfl⟩
   rw[hmm] at hst
   have e2:(((s[i]'h1).toNat:Nat):Int) % 64=(m:Int):=by omega
   obtain⟨q,hq⟩:∃ q,r*64+m=q:=⟨_,rfl⟩
   rw[hq] at hst
   have e3:(r:Int)*64+(m:Int)=(q:Int):=by omega
   have i4:(r:Int)<8388608:=by rcases HBD.out with h | h | h | h<;>omega
   have i5:(q:Int)<1000000000:=by omega
   have i6:(m:Int)<64:=by omega
   have HST:=aB hst
   have HQ:=aB (And.intro hq i6)
   clear hst hq hmm
   go_wp2
   go_roundw
   ·exact⟨q,i+1,rfl,by simp,aB (by have h1:=HQ.out;rcases HBD.out with h | h | h | h<;>omega),HST,HT⟩
   ·show 4-(intOf (.int .i64 ((i:Int)+1))).toNat<4-(intOf (.int .i64 (i:Int))).toNat
    simp[intOf]
    omega
  ·have i0:¬ (i:Int)<4:=by omega
   have hend:=HE.out
   rw[qQb (by rw[HLEN.out];omega),Jw] at hend
   subst hend
   go_wp2
   go_ret
   exact⟨rfl,HT⟩
theorem aDv(w:World)(s:ByteArray)(n:Nat)(h1:1<=n)(h4:n<=4)(hs:n<=s.size)(hm:s.size<=9223372036854775807) :
  Calls Tryz.prog 189 #[.string s,.int .i64 n] w λe w'=>e=.returned (.int .i64 (dD n s.toList))/\aC (λ_=>False) w w':=by
 obtain rfl | rfl | rfl | rfl:n=1\/n=2\/n=3\/n=4:=by omega
 ·exact aDw w s hs
 ·exact aDx w s hs hm
 ·exact Sk w s hs hm
 ·exact Yv w s hs hm
theorem Jv(r:Nat)(v:Bool)(h:scal r=v)(w:World) :
  Calls Tryz.prog 170 #[.int .i64 r] w λe w'=>e=.returned (.bool v)/\w'=w:=by
 subst h
 exact aDt r w
theorem pA(s:ByteArray)(n:Nat):(s.extract 0 n).toList=s.toList.take n:=by
 rw[Go.ByteArray.toList_eq,Go.ByteArray.toList_eq,ByteArray.data_extract]
 simp only[Array.toList_extract,qXe]
 simp
theorem Se(w:World)(s:ByteArray)(hm:s.size<=9223372036854775807) :
  Calls Tryz.prog 183 #[.string s] w λe w'=>e=.returned (.tuple #[.int .i64 (fT s.toList).1,.int .i64 (fT s.toList).2])/\aC (λ_=>False) w w':=by
 go_in
 go_wp2
 go_loopw [4] (λiv wr=>∃ (n:Nat),iv=.int .i64 n/\1<=n/\n<=5/\Hid (∀ k,1<=k->k<n->k<=s.size->¬ Hit k s.toList)/\Hid (aC (λ_=>False) w wr)) (λiv _=>5-(intOf iv).toNat)
 case atStart=>exact⟨1,rfl,by omega,by omega,aB (λk h1 h2=>by omega),aB (aC.refl _ _)⟩
 case round =>
  obtain⟨n,rfl,hn1,hn5,HM,HT⟩:=hrel
  by_cases hin:n<=4/\n<=s.size
  ·obtain⟨h4,hs⟩:=hin
   have i0:(n:Int)<=4:=by omega
   have i1:(n:Int)<=(s.size:Int):=by omega
   have i2:(0:Int)<=(n:Int):=by omega
   have hhit:=λh=>vR (n:=n) (bs:=s.toList) hn1 h4 (by rw[aX];exact hs) h
   have hSA:=aDv wr s n hn1 h4 hs hm
   have hlt:=aDu n s.toList
   unfold Hit at hhit
   have hmiss:¬ (scal (dD n s.toList)=true/\aN (dD n s.toList)=s.toList.take n)->∀ k,1<=k->k<n+1->k<=s.size->¬ Hit k s.toList:=by
    intro hno k h1 h2 h3
    by_cases hk:k=n
    ·subst hk;exact hno
    ·exact HM k h1 (by omega) h3
   obtain⟨r,hr⟩:∃ r,dD n s.toList=r:=⟨_,rfl⟩
   rw[hr] at hhit hSA hlt hmiss
   have HSA:=aB hSA
   have HHIT:=aB hhit
   have HMISS:=aB hmiss
   have HLT:=aB hlt
   clear hr hhit hSA hlt hmiss
   cases hsc:scal r with
   | false =>
    have HSC:=aB hsc
    clear hsc
    go_wp2_with fail
    refine HSA.mono ?_
    rintro e w1 ⟨rfl,T1⟩
    have HT1:=aB (HT.then T1)
    clear T1
    go_wp2_with fail
    go_quiet ((go_at_call 170;exact Calls.quiet_of_same (Jv r false HSC _)))
    go_wp2_with fail
    go_roundw
    ·exact⟨n+1,by simp,by omega,by omega,aB (HMISS (λh=>by rw[HSC.out] at h;cases h.1)),aB (HT1.drewN _)⟩
    ·show 5-(intOf (.int .i64 ((n:Int)+1))).toNat<5-(intOf (.int .i64 (n:Int))).toNat
     simp[intOf]
     omega
   | true =>
    have HSC:=aB hsc
    clear hsc
    have hlt2:(r:Int)<1114112:=by have:=fD HSC.out;omega
    have hWR:=λw=>Zj w r hlt2
    obtain⟨U,hU⟩:∃ U,(⟨(aN r).toArray⟩:ByteArray)=U:=⟨_,rfl⟩
    simp only[hU] at hWR
    have hUl:U.toList=aN r:=by rw[<-hU,Go.ByteArray.toList_eq]
    have HWR:=aB hWR
    clear hWR hU
    by_cases heq:aN r=s.toList.take n
    ·have q2:(U.toList == (s.extract 0 n).toList)=true:=by rw[hUl,pA,heq];simp
     have hres:=HHIT.out ⟨HSC,heq⟩
     have HRES:=aB hres
     clear hUl hres heq
     go_wp2_with fail
     refine HSA.mono ?_
     rintro e w1 ⟨rfl,T1⟩
     have HT1:=aB (HT.then T1)
     clear T1
     go_wp2_with fail
     go_region_held3 (λw'=>aC (λ_=>False) w w')
      (first
        | exact HT1
        | exact aC.drew (by assumption)
        | exact aC.then (by assumption) (by assumption))
      (first
        | (go_at_call 170;refine (Jv r true HSC _).mono ?_;rintro e w2 ⟨rfl,rfl⟩)
        | (go_at_call 171;refine (HWR _).mono ?_;rintro e w3 ⟨rfl,T3⟩))
     all_goals
      go_wp2_with fail
      exact bodyPost_ret (v:=.tuple #[.int .i64 r,.int .i64 n]) (by simp[results,Tryz.results183,go_sem]) rfl ⟨by rw[HRES.out],by assumption⟩
    ·have q2:(U.toList == (s.extract 0 n).toList)=false:=by rw[hUl,pA];simp[heq]
     have q3:decide (U.toList=(s.extract 0 n).toList)=false:=by rw[hUl,pA];simp[heq]
     have HEQ:=aB heq
     clear hUl heq
     go_wp2_with fail
     refine HSA.mono ?_
     rintro e w1 ⟨rfl,T1⟩
     have HT1:=aB (HT.then T1)
     clear T1
     go_wp2_with fail
     go_region_held3 (λw'=>aC (λ_=>False) w w')
      (first
        | exact HT1
        | exact aC.drew (by assumption)
        | exact aC.then (by assumption) (by assumption))
      (first
        | (go_at_call 170;refine (Jv r true HSC _).mono ?_;rintro e w2 ⟨rfl,rfl⟩)
        | (go_at_call 171;refine (HWR _).mono ?_;rintro e w3 ⟨rfl,T3⟩))
     all_goals
      go_wp2_with fail
      go_roundw
      ·exact⟨n+1,by simp,by omega,by omega,aB (HMISS (λh=>HEQ.out h.2)),aB (by assumption)⟩
      ·show 5-(intOf (.int .i64 ((n:Int)+1))).toNat<5-(intOf (.int .i64 (n:Int))).toNat
       simp[intOf]
       omega
  ·have hz:fT s.toList=(0,0):=Il λk h1 h4 hl=>by
    rw[aX] at hl
    exact HM k h1 (by omega) hl
   have HZ:=aB hz
   clear hz
   by_cases h4:n<=4
   ·have i0:(n:Int)<=4:=by omega
    have i1:¬ (n:Int)<=(s.size:Int):=by omega
    go_wp2_with fail
    exact bodyPost_ret (v:=.tuple #[.int .i64 0,.int .i64 0]) (by simp[results,Tryz.results183,go_sem]) rfl ⟨by rw[HZ.out];rfl,HT⟩
   ·have i0:¬ (n:Int)<=4:=by omega
    go_wp2_with fail
    exact bodyPost_ret (v:=.tuple #[.int .i64 0,.int .i64 0]) (by simp[results,Tryz.results183,go_sem]) rfl ⟨by rw[HZ.out];rfl,HT⟩
theorem Jz(r0 k least:Nat)(t:List UInt8):(mM r0 k least t).1<1114112:=by
 unfold mM
 split
 ·simp
 ·split
  ·simp
  ·split
   ·simp
   ·split
    ·rename_i h;exact fD h
    ·simp
theorem aIb(bs:List UInt8):(fT bs).1<1114112:=by
 cases bs with
 | nil=>simp[fT]
 | cons b t =>
  simp only[fT]
  split
  ·simp only;omega
  ·split
   ·exact Jz _ _ _ _
   ·split
    ·exact Jz _ _ _ _
    ·split
     ·exact Jz _ _ _ _
     ·simp
theorem tK(w:World)(S:ByteArray)(hm:S.size<=1099511627776) :
  Calls Tryz.prog 162 #[.string S] w λe w'=>∃ A q c O ok,e=.returned (.tuple #[.slice A q c,.bool ok])/\fS 21 1 w w' (.slice A q c) q (O.map fF)/\O.length=q/\q<=S.size/\bZ S.toList=(if ok=true then some O else none):=by
 obtain⟨i0,hi,hz0,hz1,hz2⟩:=aQ Ce
 go_in
 go_wp2
 go_loopw [0,4] (λsv ov wr=>∃ (s:ByteArray) (q:Nat) (A3:Option Addr) (c3:Nat) (O:List Nat),sv=.string s/\ov=.slice A3 q c3/\q+s.size<=S.size/\s.size<=1099511627776/\Hid (fS 21 1 w wr (.slice A3 q c3) q (O.map fF)/\O.length=q)/\Hid (bZ S.toList=(bZ s.toList).map (O++·))) (λsv _ _=>match sv with | .string s=>s.size | _=>0)
 case atStart=>exact⟨S,0,none,0,[],rfl,rfl,by omega,hm,aB ⟨fS.nil _ _ _,rfl⟩,aB (by cases bZ S.toList<;>rfl)⟩
 case round =>
  obtain⟨s,q,A3,c3,O,rfl,rfl,hqs,hsb,HO,HR⟩:=hrel
  by_cases hz:0<s.size
  ·have y0:(0:Int)<(s.size:Int):=by omega
   have hst:=kT (bs:=s.toList) (by rw[aX];exact hz)
   have hle:=Vd s.toList
   have hlt:=aIb s.toList
   rw[aX] at hle
   have HF:=aB (Se wr s (by omega))
   obtain⟨⟨r,n⟩,hx⟩:∃ x,fT s.toList=x:=⟨_,rfl⟩
   rw[hx] at hst hle HF hlt
   simp only at hst hle HF hlt
   have HST:=aB hst
   have hr2:(r:Int)<1114112:=by omega
   clear hst hx hlt
   by_cases hn:n=0
   ·subst hn
    go_wp2_with fail
    refine HF.mono ?_
    rintro e w1 ⟨rfl,T1⟩
    have HT1:=aB T1
    clear T1
    go_wp2_with fail
    have hres:bZ S.toList=none:=by rw[HR.out,HST.out];rfl
    exact bodyPost_ret (v:=.tuple #[.slice none 0 0,.bool false]) (by simp[results,Tryz.results162,go_sem]) rfl ⟨none,0,0,[],false,rfl,(fS.nil _ _ _).to (HO.1.touch.then HT1),rfl,qQd _,hres⟩
   ·have n1:((n:Int) == 0)=false:=by simp[hn]
    have n2:(0:Int)<=(n:Int):=by omega
    have n3:(n:Int)<=(s.size:Int):=by omega
    go_wp2_with fail
    refine HF.mono ?_
    rintro e w1 ⟨rfl,T1⟩
    have HO1:=aB (HO.1.to T1)
    clear T1
    go_wp2_with (at_builtin;refine aP _ rfl (.tmp 17) (.tmp 20) 154 rfl 21 i0 _ 1 4 Tryz.underlying154 hi hz0 hz1 hz2 rfl (by decide) (.slice A3 q c3) q _ rfl (aF HO1.own ((aC.refl _ _).alloc _) (λ_ _ f=>f)) (some ⟨_,0,none⟩) 1 1 [fF r] rfl ?sa ?sb ?sc ?sd ?se ?_)
    case sa=>exact aH.new _ _ _ _ rfl
    try (case sb=>exact λh=>by cases h)
    case sc=>exact List.all_eq_true.1 rfl
    case sd=>unfold maxLen;omega
    case se=>omega
    intro v4 w4 hown hgrow hfr _
    have N4:=(HO1.to ((aC.refl _ _).alloc _)).app hown hgrow hfr
    obtain⟨A4,c4,rfl,_,_⟩:=aS hown
    have HN4:=aB N4
    clear N4 hown hgrow hfr
    go_wp2_with fail
    go_roundw
    ·refine⟨s.extract n s.size,q+1,A4,c4,O++[r],rfl,rfl,?_,?_,aB ⟨?_,?_⟩,aB ?_⟩
     ·simp;omega
     ·simp;omega
     ·have:=HN4.out
      rw[List.map_append]
      exact this
     ·rw[List.length_append,HO.2];rfl
     ·rw[HR.out,HST.out,if_neg hn,uK s n hle,Option.map_map]
      congr 1
      funext l
      simp
    ·show (s.extract n s.size).size<s.size
     simp
     omega
  ·have hz0:s.toList=[]:=qZe (by rw[aX];omega)
   have y0:¬ (0:Int)<(s.size:Int):=by omega
   have hres:bZ S.toList=some O:=by rw[HR.out,hz0,kN];simp
   have HRES:=aB hres
   clear hres hz0
   go_wp2_with fail
   exact bodyPost_ret (v:=.tuple #[.slice A3 q c3,.bool true]) (by simp[results,Tryz.results162,go_sem]) rfl ⟨A3,q,c3,O,.inr ⟨rfl,HO.1,HO.2,by omega,HRES⟩⟩
def lU(r:Nat):Bool:=decide (32<r) && !(r == 127)
def cF(bs:List UInt8):Bool:=decide (bs.length<=96) && match bZ bs with
 | none=>false
 | some l=>l.all lU && (decide (0<l.length) && decide (l.length<=24))
theorem pI{A:Option Addr}{O:List Nat}(h:aH w 1 A q (O.map fF))(hl:O.length=q)(j:Nat)(hj:j<q) :
  ∃ g off,A=some ⟨g,off,none⟩/\w.cell? ⟨g,off+j,none⟩=some (.int .i32 (O.getD j 0:Int)):=by
 obtain⟨g,off,hA,_,hc⟩:=h.2 (by omega)
 refine⟨g,off,hA,hc j _ ?_⟩
 simp[qJa,fF,show j<O.length by omega]
theorem Oy(O:List Nat)(j:Nat)(hj:j<O.length):(O.take (j+1)).all lU=((O.take j).all lU && lU (O.getD j 0)):=by
 rw[List.take_succ_eq_append_getElem hj,List.all_append]
 simp[qJa,hj]
theorem mQ(w:World)(s:ByteArray)(hm:s.size<=9223372036854775807)(hL:cV w) :
  Calls Tryz.prog 78 #[.string s] w λe w'=>e=.returned (.bool (cF s.toList))/\aC (λ_=>False) w w':=by
 by_cases hs:s.size<=96
 ·have i0:¬ (96:Int)<(s.size:Int):=by omega
  have HRA:=aB (lK w s (by omega) hL)
  have hlen:s.toList.length<=96:=by rw[aX];exact hs
  have HLEN:=aB hlen
  clear hL hlen
  go_in
  go_wp2_with fail
  refine HRA.mono ?_
  rintro e w1 ⟨A,q,c,O,ok,rfl,N1,hl,hq,hru⟩
  have HN:=aB N1
  have HL1:=aB hl
  have HRU:=aB hru
  clear N1 hl hru HRA
  go_wp2_with fail
  go_loopw [4,17] (λbv iv wr=>∃ (b:Bool) (j:Nat),bv=.bool b/\iv=.int .i64 j/\j<=q/\Hid (b=(ok && (O.take j).all lU))/\Hid (aC (λ_=>False) w1 wr)) (λ_ iv _=>q-(intOf iv).toNat)
  case atStart=>exact⟨ok,0,rfl,rfl,qQd _,aB (by simp),aB (aC.refl _ _)⟩
  case round =>
   obtain⟨b,j,rfl,rfl,hjq,HB,HT⟩:=hrel
   by_cases hj:j<q
   ·have y0:(j:Int)<(q:Int):=by omega
    obtain⟨g,off,hA,hc⟩:=pI (aH.of_own (aF HN.own HT (λ_ _ f=>f))) HL1 j hj
    subst hA
    have hta:=Oy O j (by rw[HL1.out];exact hj)
    obtain⟨r,hr⟩:∃ r,O.getD j 0=r:=⟨_,rfl⟩
    rw[hr] at hc hta
    have HTA:=aB hta
    clear hr hta
    cases b with
    | false =>
     go_wp2_with fail
     go_roundw
     ·exact⟨false,j+1,rfl,by simp,by omega,aB (by rw[HTA.out,<-Bool.and_assoc,<-HB.out];rfl),HT⟩
     ·show q-(intOf (.int .i64 ((j:Int)+1))).toNat<q-(intOf (.int .i64 (j:Int))).toNat
      simp[intOf]
      omega
    | true =>
     by_cases h1:32<r
     ·have i1:(32:Int)<(r:Int):=by omega
      by_cases h2:r=127
      ·subst h2
       go_wp2_with fail
       go_roundw
       ·exact⟨false,j+1,rfl,by simp,by omega,aB (by rw[HTA.out,<-Bool.and_assoc,<-HB.out];rfl),HT⟩
       ·show q-(intOf (.int .i64 ((j:Int)+1))).toNat<q-(intOf (.int .i64 (j:Int))).toNat
        simp[intOf]
        omega
      ·have i2:¬ (r:Int)=127:=by omega
       have i3:((r:Int) != 127)=true:=by simp[i2]
       have HH:=aB (And.intro h1 h2)
       clear h2
       go_wp2_with fail
       go_roundw
       ·exact⟨true,j+1,rfl,by simp,by omega,aB (by rw[HTA.out,<-Bool.and_assoc,<-HB.out];simp[lU,HH.1,HH.2]),HT⟩
       ·show q-(intOf (.int .i64 ((j:Int)+1))).toNat<q-(intOf (.int .i64 (j:Int))).toNat
        simp[intOf]
        omega
     ·have i1:¬ (32:Int)<(r:Int):=by omega
      have HH:=aB h1
      go_wp2_with fail
      go_roundw
      ·exact⟨false,j+1,rfl,by simp,by omega,aB (by rw[HTA.out,<-Bool.and_assoc,<-HB.out];simp[lU,HH.out]),HT⟩
      ·show q-(intOf (.int .i64 ((j:Int)+1))).toNat<q-(intOf (.int .i64 (j:Int))).toNat
       simp[intOf]
       omega
   ·have hO:O.take j=O:=qJd (by rw[HL1.out];omega)
    have hb:=HB.out
    rw[hO] at hb
    have hW:cF s.toList=(b && (decide (0<q) && decide (q<=24))):=by
     unfold cF
     rw[HRU.out,hb]
     cases ok with
     | false=>simp
     | true=>simp[HLEN.out,HL1.out]
    have HWW:=aB hW
    have y0:¬ (j:Int)<(q:Int):=by omega
    clear hW hb hO
    cases b with
    | false =>
     go_wp2_with fail
     go_ret
     exact⟨by rw[HWW.out];rfl,HN.touch.then HT⟩
    | true =>
     by_cases h1:0<q
     ·have i1:(0:Int)<(q:Int):=by omega
      by_cases h2:q<=24
      ·have i2:(q:Int)<=24:=by omega
       have hW2:cF s.toList=true:=by rw[HWW.out];simp[h1,h2]
       have HW2:=aB hW2
       clear hW2
       go_wp2_with fail
       go_ret
       exact⟨by rw[HW2.out];rfl,HN.touch.then HT⟩
      ·have i2:¬ (q:Int)<=24:=by omega
       have hW2:cF s.toList=false:=by rw[HWW.out];simp[h2]
       have HW2:=aB hW2
       clear hW2
       go_wp2_with fail
       go_ret
       exact⟨by rw[HW2.out];rfl,HN.touch.then HT⟩
     ·have i1:¬ (0:Int)<(q:Int):=by omega
      have hW2:cF s.toList=false:=by rw[HWW.out];simp[h1]
      have HW2:=aB hW2
      clear hW2
      go_wp2_with fail
      go_ret
      exact⟨by rw[HW2.out];rfl,HN.touch.then HT⟩
 ·have i0:(96:Int)<(s.size:Int):=by omega
  have hW:cF s.toList=false:=by unfold cF;rw[aX];simp[hs]
  rw[hW]
  clear hW
  go_in
  go_wp2
  go_ret
  exact⟨rfl,aC.refl _ _⟩
theorem aFg(O:List Nat)(j:Nat)(hj:j<O.length)(h:lU (O.getD j 0)=false):O.all lU=false:=by
 refine Bool.eq_false_iff.2 λe=>?_
 have h1:=List.all_eq_true.1 e (O.getD j 0) (by
  have e:O.getD j 0=O[j]:=by simp[qJa,hj]
  rw[e]
  exact List.getElem_mem _)
 rw[h] at h1
 cases h1
theorem xP(w:World)(s:ByteArray)(hm:s.size<=9223372036854775807) :
  Calls Tryz.prog 159 #[.string s] w λe w'=>e=.returned (.bool (cF s.toList))/\aC (λ_=>False) w w':=by
 by_cases hs:s.size<=96
 ·have i0:¬ (96:Int)<(s.size:Int):=by omega
  have HRA:=aB (tK w s (by omega))
  have hlen:s.toList.length<=96:=by rw[aX];exact hs
  have HLEN:=aB hlen
  clear hlen
  go_in
  go_wp2_with fail
  refine HRA.mono ?_
  rintro e w1 ⟨A,q,c,O,ok,rfl,N1,hl,hq,hru⟩
  have HN:=aB N1
  have HL1:=aB hl
  have HRU:=aB hru
  clear N1 hl hru HRA
  have hWD:cF s.toList=(ok && (O.all lU && (decide (0<q) && decide (q<=24)))):=by
   unfold cF
   rw[HRU.out]
   cases ok with
   | false=>simp
   | true=>simp[HLEN.out,HL1.out]
  have HWD:=aB hWD
  clear hWD
  go_wp2_with fail
  go_loopw [5] (λiv wr=>∃ (j:Nat),iv=.int .i64 j/\j<=q/\Hid ((O.take j).all lU=true)/\Hid (aC (λ_=>False) w1 wr)) (λiv _=>q-(intOf iv).toNat)
  case atStart=>exact⟨0,rfl,qQd _,aB (by simp),aB (aC.refl _ _)⟩
  case round =>
   obtain⟨j,rfl,hjq,HB,HT⟩:=hrel
   by_cases hj:j<q
   ·have y0:(j:Int)<(q:Int):=by omega
    have y1:(0:Int)<=(j:Int):=by omega
    obtain⟨g,off,hA,hc⟩:=pI (aH.of_own (aF HN.own HT (λ_ _ f=>f))) HL1 j hj
    subst hA
    have hta:=Oy O j (by rw[HL1.out];exact hj)
    have hno:=aFg O j (by rw[HL1.out];exact hj)
    obtain⟨r,hr⟩:∃ r,O.getD j 0=r:=⟨_,rfl⟩
    rw[hr] at hc hta hno
    have HTA:=aB hta
    have HNO:=aB hno
    clear hr hta hno
    by_cases h1:32<r
    ·have i1:¬ (r:Int)<=32:=by omega
     by_cases h2:r=127
     ·subst h2
      have hW2:cF s.toList=false:=by rw[HWD.out,HNO.out rfl];simp
      have HW2:=aB hW2
      clear hW2
      go_wp2_with fail
      go_ret
      exact⟨by rw[HW2.out];rfl,HN.touch.then HT⟩
     ·have i2:¬ (r:Int)=127:=by omega
      have i3:((r:Int) == 127)=false:=by simp[i2]
      have HH:=aB (And.intro h1 h2)
      clear h2
      go_wp2_with fail
      go_roundw
      ·exact⟨j+1,by simp,by omega,aB (by rw[HTA.out,HB.out];simp[lU,HH.1,HH.2]),HT⟩
      ·show q-(intOf (.int .i64 ((j:Int)+1))).toNat<q-(intOf (.int .i64 (j:Int))).toNat
       simp[intOf]
       omega
    ·have i1:(r:Int)<=32:=by omega
     have hW2:cF s.toList=false:=by rw[HWD.out,HNO.out (by simp[lU,h1])];simp
     have HW2:=aB hW2
     clear hW2
     go_wp2_with fail
     go_ret
     exact⟨by rw[HW2.out];rfl,HN.touch.then HT⟩
   ·have hO:O.take j=O:=qJd (by rw[HL1.out];omega)
    have hb:=HB.out
    rw[hO] at hb
    have hW:cF s.toList=(ok && (decide (0<q) && decide (q<=24))):=by rw[HWD.out,hb];simp
    have HWW:=aB hW
    have y0:¬ (j:Int)<(q:Int):=by omega
    clear hW hb hO
    cases ok with
    | false =>
     go_wp2_with fail
     go_ret
     exact⟨by rw[HWW.out];rfl,HN.touch.then HT⟩
    | true =>
     by_cases h1:0<q
     ·have i1:(1:Int)<=(q:Int):=by omega
      by_cases h2:q<=24
      ·have i2:(q:Int)<=24:=by omega
       have hW2:cF s.toList=true:=by rw[HWW.out];simp[h1,h2]
       have HW2:=aB hW2
       clear hW2
       go_wp2_with fail
       go_ret
       exact⟨by rw[HW2.out];rfl,HN.touch.then HT⟩
      ·have i2:¬ (q:Int)<=24:=by omega
       have hW2:cF s.toList=false:=by rw[HWW.out];simp[h2]
       have HW2:=aB hW2
       clear hW2
       go_wp2_with fail
       go_ret
       exact⟨by rw[HW2.out];rfl,HN.touch.then HT⟩
     ·have i1:¬ (1:Int)<=(q:Int):=by omega
      have hW2:cF s.toList=false:=by rw[HWW.out];simp[h1]
      have HW2:=aB hW2
      clear hW2
      go_wp2_with fail
      go_ret
      exact⟨by rw[HW2.out];rfl,HN.touch.then HT⟩
 ·have i0:(96:Int)<(s.size:Int):=by omega
  have hW:cF s.toList=false:=by unfold cF;rw[aX];simp[hs]
  rw[hW]
  clear hW
  go_in
  go_wp2
  go_ret
  exact⟨rfl,aC.refl _ _⟩
def Qt(L:List aD)(i:Nat):Bool:=(decide (1<=(L.getD i aD.zero).weight) && decide ((L.getD i aD.zero).weight<=1048576)) && (cF (L.getD i aD.zero).word.toList && (decide (i=0) || Op.bytesLess (L.getD (i-1) aD.zero).word.toList (L.getD i aD.zero).word.toList))
theorem Jh(L:List aD)(i:Nat):Qt L i=((decide (1<=(L.getD i aD.zero).weight) && decide ((L.getD i aD.zero).weight<=1048576)) && (cF (L.getD i aD.zero).word.toList && (decide (i=0) || Op.bytesLess (L.getD (i-1) aD.zero).word.toList (L.getD i aD.zero).word.toList))):=rfl
def gF(L:List aD):Bool:=decide (L.length<=4096) && (List.range L.length).all (Qt L)
theorem Np(h:¬ L.length<=4096):gF L=false:=by simp[gF,h]
theorem Dc(h:L.length<=4096)(ha:∀ j,j<L.length->Qt L j=true):gF L=true:=by
 simp only[gF,h,decide_true,Bool.true_and,qXb,List.mem_range]
 exact ha
theorem xI{i:Nat}(hi:i<L.length)(hf:Qt L i=false):gF L=false:=by
 refine Bool.eq_false_iff.2 λe=>?_
 simp only[gF,Bool.and_eq_true,qXb,List.mem_range] at e
 have:=e.2 i hi
 rw[hf] at this
 cases this
end Go.Proofs.YthockgmbooefpaaGreatDoor
