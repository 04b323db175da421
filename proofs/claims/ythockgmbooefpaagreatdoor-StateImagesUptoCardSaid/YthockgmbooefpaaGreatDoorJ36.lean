/- What the law rests on, part 36. No condition but those that each theorem names. -/
import Derived.Test.YthockgmbooefpaaGreatDoorJ35
import Derived.Test.YthockgmbooefpaaGreatDoorJ17
import Derived.Deep.RegionHeld3
import Derived.Test.YthockgmbooefpaaGreatDoorJ05
set_option linter.unusedSectionVars false
set_option linter.unusedSimpArgs false
set_option linter.unusedVariables false
namespace Go.Proofs.YthockgmbooefpaaGreatDoor
open Go.RowKit
variable [Inhabited BaseT]
structure KpO (p:TypeId→Prop) (w w':World):Prop where
 kp:KpP p w w'
 old:∀ g:Nat,g<w.heap.size→g<bs→w'.heap[g]? = w.heap[g]?
theorem KpO.refl (p:TypeId→Prop) (w:World):KpO p w w:=⟨KpP.refl p w,fun _ _ _=>rfl⟩
theorem KpO.trans {p:TypeId→Prop} {a b c:World} (h:KpO p a b) (k:KpO p b c):KpO p a c :=
 ⟨h.kp.trans k.kp,fun g h1 h2=>(k.old g (Nat.lt_of_lt_of_le h1 h.kp.size) h2).trans (h.old g h1 h2)⟩
theorem KpO.touch {p:TypeId→Prop} {S:Nat→Prop} {w w':World} (h:Touch S w w') (hS:∀ g t,p t→TyAt w g t→¬ S g) (hO:∀ g,g<w.heap.size→g<bs→¬ S g):KpO p w w' :=
 ⟨KpP.touch h hS,fun g h1 h2=>h.block g h1 (hO g h1 h2)⟩
theorem KpO.of {p:TypeId→Prop} {w w':World} (h:Touch (fun _=>False) w w'):KpO p w w':=⟨KpP.of h,fun g h1 _=>h.block g h1 (fun f=>f)⟩
theorem KpO.size {p:TypeId→Prop} {w w':World} (h:KpO p w w'):w.heap.size≤w'.heap.size:=h.kp.size
theorem Blk.kpo {p:TypeId→Prop} {a b:World} {g:Nat} {t:TypeId} {cs:Array Value} (h:Blk a g t cs) (k:KpO p a b) (ht:p t):Blk b g t cs:=h.kpp k.kp ht
theorem OT.kpo {p:TypeId→Prop} {a b:World} {g:Nat} {t:TypeId} (h:OT a g t) (k:KpO p a b) (ht:p t):OT b g t∧b.heap[g]? = a.heap[g]? := by
 rcases h with ⟨h1,h2⟩ | h
 ·exact ⟨.inl ⟨Nat.lt_of_lt_of_le h1 k.size,h2⟩,k.old g h1 h2⟩
 ·exact ⟨.inr (h.kpp k.kp ht),k.kp.ty g t h ht⟩
theorem RdO.kpo {p:TypeId→Prop} {a b:World} {t:TypeId} {size:Nat} {A:Option Addr} {n:Nat} {xs:List Value} (h:RdO a t size A n xs) (k:KpO p a b) (ht:p t):RdO b t size A n xs:=by
 refine ⟨⟨h.rd.1,fun hn=>?_⟩,fun hn g hg=>((h.ty hn g hg).kpo k ht).1⟩
 obtain ⟨g,o,hA,hg,hc⟩:=h.rd.2 hn
 have e:=h.ty hn g (by rw [hA];rfl)
 exact ⟨g,o,hA,Nat.lt_of_lt_of_le hg k.size,fun j u hu=>(World.cell?_of_block (e.kpo k ht).2).trans (hc j u hu)⟩
end Go.Proofs.YthockgmbooefpaaGreatDoor
namespace Go.Proofs.YthockgmbooefpaaGreatDoor
open Go.RowKit
theorem own_byte (w:World) (b:UInt8):ONx 5 1 w (w.alloc (.cells #[byteV b] 5)) (.slice (some ⟨w.heap.size,0,none⟩) 1 1) 1 [byteV b] :=
 ⟨⟨by simp,.inr ⟨w.heap.size,1,#[byteV b],rfl,Nat.zero_le _,heap_alloc_new _ _,Nat.le_refl _,by decide,by simp,rfl⟩⟩,(Touch.refl _ _).alloc _,fun g h=>by
   simp [Value.ownBlock] at h
   omega⟩
theorem own_nilz {w:World} {base:Nat} {e:TypeId} {size n c:Nat} {A:Option Addr} {xs:List Value} (h:w.ownsRow base e size (.slice A n c) n xs):A=none→n=0∧c=0:=by
 intro e
 subst e
 rcases h.2 with ⟨e,e2⟩ | ⟨g',cap,cur,e,_⟩
 ·injection e with _ e3 e4
  exact ⟨e3,e4⟩
 ·injection e with e
  cases e
def UintC (f:Nat):Prop:=∀ (w:World) (n:Nat),n<2*128 ^ f→n<18446744073709551616 →
 Calls Tryz.prog 68 #[.int .u64 n] w fun e w'=>∃ (A:Option Addr) (q c:Nat),e=.returned (.slice A q c)∧ONx 5 1 w w' (.slice A q c) q ((varF f n).map byteV)∧q≤f+1
theorem varF_small {f n:Nat} (h:n<128):varF f n=[UInt8.ofNat n]:=by
 cases f with
 | zero=>rfl
 | succ f=>unfold varF;rw [if_pos h]
set_option maxRecDepth 100000 in
set_option maxHeartbeats 4000000 in
theorem ruint_step (f:Nat) (hf:f≤9) (ih:∀ g,f=g+1→UintC g):UintC f:=by
 intro w n hn hb
 obtain ⟨i0,hi0,hz0,hz1,hz2⟩:=info_parts infoByte
 by_cases h128:n<128
 ·have y0:(n:Int)<128:=by omega
  have hvf:=varF_small (f:=f) h128
  have hbv:=byteV_nat (m:=n) (by omega)
  have z0:IntKind.u8.wrap (n:Int)=(n:Int):=IntWalk.u8_in _ (by omega)
  have ho:=own_byte w (UInt8.ofNat n)
  rw [hbv] at ho
  have HO:=hide ho
  have HV:=hide hvf
  have HB:=hide hbv
  clear ho hvf hbv h128 ih hn hb
  go_enter Tryz.func68,Tryz.ntmps68
  go_wp2_with fail
  go_ret
  refine ⟨_,1,1,rfl,?_,by omega⟩
  rw [HV.out,List.map_cons,List.map_nil,HB.out]
  exact HO.out
 ·have hf0:∃ g,f=g+1:=by
   cases f with
   | zero=>simp at hn;omega
   | succ g=>exact ⟨g,rfl⟩
  obtain ⟨g,rfl⟩:=hf0
  have y0:¬ (n:Int)<128:=by omega
  have hvf:varF (g+1) n=UInt8.ofNat (n % 128+128) :: varF g (n / 128):=by
   conv=>lhs;unfold varF
   rw [if_neg h128]
  have hcall:=ih g rfl
  obtain ⟨m,hm⟩:∃ m,m=n % 128:=⟨_,rfl⟩
  obtain ⟨d,hd⟩:∃ d,d=n / 128:=⟨_,rfl⟩
  have hm128:m<128:=by omega
  have hd2:d<2*128 ^ g:=by
   rw [Nat.pow_succ] at hn
   omega
  have e1:(n:Int) % 128=(m:Int):=by omega
  have e2:(n:Int) / 128=(d:Int):=by omega
  have e3:Int.tmod (n:Int) 128=(m:Int):=by rw [Int.tmod_eq_emod_of_nonneg (by omega)];exact e1
  have e4:Int.tdiv (n:Int) 128=(d:Int):=by rw [Int.tdiv_eq_ediv_of_nonneg (by omega)];exact e2
  have z0:IntKind.u8.wrap (m:Int)=(m:Int):=IntWalk.u8_in _ (by omega)
  have z1:IntKind.u8.wrap ((m:Int)+128)=(m:Int)+128:=IntWalk.u8_in _ (by omega)
  have z2:IntKind.u64.wrap (m:Int)=(m:Int):=IntWalk.u64_in _ (by omega)
  have z3:IntKind.u64.wrap (d:Int)=(d:Int):=IntWalk.u64_in _ (by omega)
  have hbv:byteV (UInt8.ofNat (m+128))=.int .u8 ((m:Int)+128):=by
   rw [byteV_nat (by omega)]
   simp
  have ho:=own_byte w (UInt8.ofNat (m+128))
  rw [hbv] at ho
  rw [← hm,← hd] at hvf
  have HO:=hide ho
  have HV:=hide hvf
  have HB:=hide hbv
  have HC:=hide (fun wx=>hcall wx d hd2 (by omega))
  have HF:=hide hf
  obtain ⟨w1,hw1⟩:∃ x,x=w.alloc (.cells #[.int .u8 ((m:Int)+128)] 5):=⟨_,rfl⟩
  rw [← hw1] at HO
  have HW1:=hide hw1
  clear ho hvf hbv h128 ih hn hb hcall hm hd hd2 hm128 e1 e2 hf hw1
  go_enter Tryz.func68,Tryz.ntmps68
  go_wp2_with (first
   | (go_at_call 68;rw [← HW1.out];refine (HC.out w1).mono ?_;rintro e w2 ⟨A2,q2,c2,rfl,ho2,hq2⟩;have HO2:=hide ho2;have HQ2:=hide hq2;have HX:=hide (HO.out.to ho2.touch);have HR:=hide (Reads.of_own ho2.own);have HN2:=hide (own_nilz ho2.own);have HB2:Hid (1+q2≤maxLen∧(1+q2)*1≤140737488355328):=hide (by have:=HF.out;unfold maxLen;omega);clear ho2 hq2)
   | (at_builtin;refine wpList_app _ rfl (.tmp 14) (.tmp 17) 50 rfl 5 i0 _ 1 1 Tryz.underlying50 hi0 hz0 hz1 hz2 rfl (by decide) (.slice (some ⟨w.heap.size,0,none⟩) 1 1) 1 _ rfl HX.out.own A2 q2 c2 ((varF g d).map byteV) rfl HR.out HN2.out (onecell_bytes _) HB2.out.1 HB2.out.2 ?_;intro v1 w5 O5 G5 F5 _;obtain ⟨A5,c5,hv,_,_⟩:=own_len O5;subst hv;have HON5:=hide (HX.out.app O5 G5 F5);clear O5 G5 F5))
  go_ret
  refine ⟨A5,1+q2,c5,rfl,?_,by have:=HQ2.out;omega⟩
  have h:=HON5.out
  rw [HV.out,List.map_cons,HB.out]
  exact h
theorem ruint_any:∀ f,f≤9→UintC f
 | 0,h=>ruint_step 0 h (fun g e=>by cases e)
 | f+1,h=>ruint_step (f+1) h (fun g e=>by
   have:g=f:=by omega
   rw [this]
   exact ruint_any f (by omega))
set_option maxRecDepth 100000 in
set_option maxHeartbeats 4000000 in
theorem rput_any (w0 w:World) (A:Option Addr) (q c:Nat) (xs:List Value) (h:ONx 5 1 w0 w (.slice A q c) q xs) (n:Nat) (hn:n<9223372036854775808) (hq:q≤35184372088832) :
  Calls Tryz.prog 125 #[.slice A q c,.int .i64 n] w fun e w'=>∃ (A':Option Addr) (q' c':Nat),e=.returned (.slice A' q' c')∧ONx 5 1 w0 w' (.slice A' q' c') q' (xs++(varN n).map byteV)∧q'≤q+10∧Touch (fun g=>(Value.slice A q c).ownBlock=some g) w w':=by
 obtain ⟨i0,hi0,hz0,hz1,hz2⟩:=info_parts infoByte
 have z0:IntKind.u64.wrap (n:Int)=(n:Int):=IntWalk.u64_in _ (by omega)
 have HC:=hide (fun wx=>ruint_any 9 (Nat.le_refl _) wx n (by omega) (by omega))
 have HX:=hide h
 have HQ:=hide hq
 clear h hn hq
 go_enter Tryz.func125,Tryz.ntmps125
 go_wp2_with fail
 refine (HC.out w).mono ?_
 rintro e w2 ⟨A2,q2,c2,rfl,ho2,hq2⟩
 have HO2:=hide ho2
 have HQ2:=hide hq2
 have HX2:=hide (HX.out.to ho2.touch)
 have HR:=hide (Reads.of_own ho2.own)
 have HN2:=hide (own_nilz ho2.own)
 have HB2:Hid (q+q2≤maxLen∧(q+q2)*1≤140737488355328):=hide (by have:=HQ.out;unfold maxLen;omega)
 clear ho2 hq2
 go_wp2_with (at_builtin;refine wpList_app _ rfl (.tmp 9) (.tmp 10) 50 rfl 5 i0 _ 1 1 Tryz.underlying50 hi0 hz0 hz1 hz2 rfl (by decide) (.slice A q c) q _ rfl HX2.out.own A2 q2 c2 ((varF 9 n).map byteV) rfl HR.out HN2.out (onecell_bytes _) HB2.out.1 HB2.out.2 ?_;intro v1 w5 O5 G5 F5 _;obtain ⟨A5,c5,hv,_,_⟩:=own_len O5;subst hv;have HON5:=hide (HX2.out.app O5 G5 F5);have HT5:=hide ((HO2.out.touch.up (fun g=>(Value.slice A q c).ownBlock=some g)).grown G5 (fun k hk _=>hk));clear O5 G5 F5)
 go_ret
 exact ⟨A5,q+q2,c5,rfl,HON5.out,by have:=HQ2.out;omega,HT5.out⟩
end Go.Proofs.YthockgmbooefpaaGreatDoor
namespace Go.Proofs.YthockgmbooefpaaGreatDoor
open Go.RowKit
variable [Inhabited BaseT]
theorem rput_ko {w0 wx:World} (hbw:bs≤w0.heap.size) {A:Option Addr} {q c:Nat} {xs:List UInt8} (h:ONx 5 1 w0 wx (.slice A q c) q (xs.map byteV)) {z:Int} {n:Nat} (hz:z=(n:Int)∧n<9223372036854775808) (hq:q≤35184372088832) :
  Calls Tryz.prog 125 #[.slice A q c,.int .i64 z] wx fun e w'=>∃ (A':Option Addr) (q' c':Nat),e=.returned (.slice A' q' c')∧Hid (ONx 5 1 w0 w' (.slice A' q' c') q' ((xs++varN n).map byteV))∧Hid (q'≤q+10)∧Hid (KpO nbT wx w'):=by
 obtain ⟨rfl,hn⟩:=hz
 refine (rput_any w0 wx A q c _ h n hn hq).mono ?_
 rintro e w' ⟨A',q',c',rfl,h2,hq2,T⟩
 exact ⟨A',q',c',rfl,hide (by rw [List.map_append];exact h2),hide hq2,hide (KpO.touch T (fun g t ht hg e=>(own_ty h.own e).ne hg (fun e=>ht e.symm) rfl) (fun g h1 h2 e=>by have:=h.fresh g e;omega))⟩
theorem nbS:nbT 170 := by unfold nbT;decide
theorem nbA:nbT 173 := by unfold nbT;decide
theorem nbM:nbT 89 := by unfold nbT;decide
set_option maxRecDepth 100000 in
set_option maxHeartbeats 8000000 in
theorem rbytes_any (w:World) (bn:Nat) (A:Option Addr) (n c:Nat) (Z:List SV) (hst:StsOd w A n Z) (hbn:bn≤1048576) (hn:n≤98305) (hf:∀ i,i<n→FormP i (Z.getD i svZero).p) (hbs:bs≤w.heap.size) :
  Calls Tryz.prog 65 #[.agg #[.int .i64 bn,.slice A n c]] w fun e w'=>∃ (A':Option Addr) (q c':Nat),e=.returned (.slice A' q c')∧ONx 5 1 w w' (.slice A' q c') q ((packB bn (Z.map SV.p)).map byteV):=by
 obtain ⟨w1,hw1⟩:∃ x,x=w.alloc (.cells #[.int .i64 bn,.slice A n c] 89):=⟨_,rfl⟩
 have hT1:Touch (fun _=>False) w w1:=by rw [hw1];exact (Touch.refl _ _).alloc _
 have hb1:Blk w1 w.heap.size 89 #[.int .i64 bn,.slice A n c]:=by rw [hw1];exact Blk.new _ _ _
 have hc0:=rput_ko (w0:=w1) (wx:=w1) (by have:=hT1.size;omega) (A:=none) (q:=0) (c:=0) (xs:=[]) (ONx.nil _ _ _) (z:=(bn:Int)) (n:=bn) ⟨rfl,by omega⟩ (Nat.zero_le _)
 have hst1:=hst.quiet hT1
 have HT1:=hide hT1
 have HB1:=hide hb1
 have HW1:=hide hw1
 have HST:=hide hst1
 have HBN:=hide hbn
 have HN:=hide hn
 have HF:=hide hf
 have HBW:=hide (show bs≤w1.heap.size by have:=hT1.size;omega)
 have HC0:=hide hc0
 clear hT1 hb1 hw1 hst hst1 hbn hn hf hbs hc0
 go_enter Tryz.func65,Tryz.ntmps65
 go_wp2_with fail
 rw [← HW1.out]
 refine HC0.out.mono ?_
 rintro e w2 ⟨A2,q2,c2,rfl,HX2,HQ2,HK2⟩
 clear HC0
 have hc1:=rput_ko HBW.out HX2.out (z:=(n:Int)) (n:=n) ⟨rfl,by have:=HN.out;omega⟩ (by have:=HQ2.out;omega)
 have HC1:=hide hc1
 obtain ⟨m0,m1,m2⟩:=(HB1.out.kpo HK2.out nbM).facts
 clear hc1
 go_wp2_with fail
 refine HC1.out.mono ?_
 rintro e w3 ⟨A3,q3,c3,rfl,HX3,HQ3,HK3⟩
 clear HC1 m0 m1 m2
 have HK13:=hide (HK2.out.trans HK3.out)
 have HX3':Hid (ONx 5 1 w1 w3 (.slice A3 q3 c3) q3 ((topB bn n).map byteV)):=hide (by
  have h:=HX3.out
  simpa [topB] using h)
 have HQ3':Hid (q3≤40):=hide (by have h1:=HQ2.out;have h2:=HQ3.out;omega)
 go_wp2_with fail
 go_loopw [3,4] (fun bv iv wr=>∃ (A4:Option Addr) (q c4 i:Nat),bv=.slice A4 q c4∧iv=.int .i64 i∧i≤n∧Hid (ONx 5 1 w1 wr (.slice A4 q c4) q ((topB bn n++stsB 0 ((Z.map SV.p).take i)).map byteV))∧Hid (q≤40+i*62914600)∧Hid (KpO nbT w1 wr)) (fun _ iv _=>n-(intOf iv).toNat)
 case atStart=>exact ⟨A3,q3,c3,0,rfl,rfl,Nat.zero_le _,hide (by rw [List.take_zero];simpa [stsB] using HX3'.out),hide (by have:=HQ3'.out;omega),HK13⟩
 case round =>
  obtain ⟨A4,q,c4,i,rfl,rfl,hi,HX,HQ,HK⟩:=hrel
  obtain ⟨m0,m1,m2⟩:=(HB1.out.kpo HK.out nbM).facts
  by_cases hin:i<n
  ·have hrs:=HST.out.rd.kpo HK.out nbS
   have hzl:Z.length=n:=HST.out.len
   obtain ⟨g,o,hA,_,d0,d1,d2⟩:=state_at hrs.rd hzl i hin
   subst hA
   have hzm:=getD_mem Z svZero i (by rw [hzl];exact hin)
   have hfm:=HF.out i hin
   have hzo:=HST.out.el _ hzm
   have htk:(Z.map SV.p).take (i+1)=(Z.map SV.p).take i++[(Z.getD i svZero).p]:=by
    rw [List.take_succ_eq_append_getElem (by rw [List.length_map,hzl];exact hin)]
    simp [List.getD,show i<Z.length by rw [hzl];exact hin]
   obtain ⟨z,hz⟩:∃ z,Z.getD i svZero=z:=⟨_,rfl⟩
   rw [hz] at d0 d1 d2 hzm hfm hzo htk
   obtain ⟨fin,out,zA,zn,zc,arcs⟩:=z
   simp only at d0 d1 d2
   have hzal:=hzo.len
   simp only at hzal
   obtain ⟨on,hon⟩:∃ on:Nat,out=(on:Int):=⟨out.toNat,by have:=hfm.out0;simp only [SV.p] at this;omega⟩
   subst hon
   have honb:on≤1048576:=by have:=hfm.out1;simp only [SV.p] at this;omega
   have hfew:=form_few hfm
   simp only [SV.p] at hfew
   have hznb:zn≤2097152:=by omega
   have htl:((Z.map SV.p).take i).length=i:=by rw [List.length_take,List.length_map,hzl];omega
   obtain ⟨w4,hw4⟩:∃ y,y=wr.alloc (.cells #[.bool fin,.int .i64 on,.slice zA zn zc] 170):=⟨_,rfl⟩
   have hT4:Touch (fun _=>False) wr w4:=by rw [hw4];exact (Touch.refl _ _).alloc _
   have hbS:Blk w4 wr.heap.size 170 #[.bool fin,.int .i64 on,.slice zA zn zc]:=by rw [hw4];exact Blk.new _ _ _
   have y0:(i:Int)<(n:Int):=by omega
   have y1:(0:Int)≤(i:Int):=by omega
   have y2:IntKind.i64.wrap ((i:Int)+1)=(i:Int)+1:=IntWalk.i64_in _ (by have:=HN.out;omega)
   have y3:IntKind.i64.wrap (2*(zn:Int))=2*(zn:Int):=IntWalk.i64_in _ (by omega)
   have y4:IntKind.i64.wrap (2*(zn:Int)+1)=2*(zn:Int)+1:=IntWalk.i64_in _ (by omega)
   obtain ⟨xs,hxs⟩:∃ xs,xs=topB bn n++stsB 0 ((Z.map SV.p).take i):=⟨_,rfl⟩
   have hx4:=HX.out.to hT4
   rw [← hxs] at hx4
   have hq4:q≤35184372088832-1000:=by have h1:=HQ.out;have h2:=HN.out;omega
   have HX4:=hide hx4
   have HQ4:=hide hq4
   have HBS:=hide hbS
   have HW4:=hide hw4
   have HT4:=hide hT4
   have HFM:=hide hfm
   have HTK:=hide htk
   have HZAL:=hide hzal
   have HZO:=hide hzo
   have HXS:=hide hxs
   have HTL:=hide htl
   have HIN:=hide hin
   have HZN:=hide hznb
   have HON:=hide honb
   obtain ⟨s0,s1,s2⟩:=hbS.facts
   clear hxs hx4 hbS hw4 hT4 hfm htk hzal hzm hq4 htl hin hfew hrs hzl hz hzo honb hznb hi
   cases fin with
   | true =>
    have HC5:=hide (rput_ko HBW.out HX4.out (z:=2*(zn:Int)+1) (n:=2*zn+1) ⟨by omega,by have:=HZN.out;omega⟩ (by have:=HQ4.out;omega))
    go_wp2_with fail
    rw [← HW4.out]
    refine HC5.out.mono ?_
    rintro e w5 ⟨A5,q5,c5,rfl,HX5,HQ5,HK5⟩
    clear HC5 s0 s1 s2
    obtain ⟨s0,s1,s2⟩:=(HBS.out.kpo HK5.out nbS).facts
    have HC6:=hide (rput_ko HBW.out HX5.out (z:=(on:Int)) (n:=on) ⟨rfl,by have:=HON.out;omega⟩ (by have:=HQ4.out;have:=HQ5.out;omega))
    go_wp2_with fail
    refine HC6.out.mono ?_
    rintro e w6 ⟨A6,q6,c6,rfl,HX6,HQ6,HK6⟩
    clear HC6 s0 s1 s2
    have HK7:=hide (HK5.out.trans HK6.out)
    obtain ⟨xs2,hxs2⟩:∃ ys,ys=xs++headB ⟨true,(on:Int),arcs⟩:=⟨_,rfl⟩
    have HX7:Hid (ONx 5 1 w1 w6 (.slice A6 q6 c6) q6 (xs2.map byteV)):=hide (by
     have h:=HX6.out
     rw [hxs2]
     simpa [headB,HZAL.out,List.append_assoc] using h)
    have HXS2:=hide hxs2
    have HQ7:Hid (q6≤q+20):=hide (by have h1:=HQ5.out;have h2:=HQ6.out;omega)
    clear hxs2 HX5 HX6 HQ5 HQ6 HK5 HK6
    obtain ⟨s0,s1,s2⟩:=(HBS.out.kpo HK7.out nbS).facts
    go_wp2_with fail
    obtain ⟨wo,hwo⟩:∃ y,y=wr:=⟨_,rfl⟩
    subst hwo
    go_loopw [3,6,7] (fun bv lv jv wx=>∃ (A8:Option Addr) (q8 c8 j lab:Nat),bv=.slice A8 q8 c8∧lv=.int .i64 (lab:Int)∧jv=.int .i64 j∧j≤zn∧Hid (lab=lastL 0 (arcs.take j))∧Hid (ONx 5 1 w1 wx (.slice A8 q8 c8) q8 ((xs2++arcsB i 0 (arcs.take j)).map byteV))∧Hid (q8≤q+20+j*30)∧Hid (KpO nbT w4 wx)) (fun _ _ jv _=>zn-(intOf jv).toNat)
    case atStart=>exact ⟨A6,q6,c6,0,0,rfl,rfl,rfl,Nat.zero_le _,hide rfl,hide (by rw [List.take_zero];simpa [arcsB] using HX7.out),hide (by have:=HQ7.out;omega),HK7⟩
    case round =>
     clear s0 s1 s2 m0 m1 m2
     obtain ⟨A8,q8,c8,j,lab,rfl,rfl,rfl,hj,HLA,HX8,HQ8,HK8⟩:=hrel
     obtain ⟨s0,s1,s2⟩:=(HBS.out.kpo HK8.out nbS).facts
     by_cases hjn:j<zn
     ·have HRA:=hide ((((HZO.out.rd.kpo HK.out nbA).quiet HT4.out)).kpo HK8.out nbA)
      obtain ⟨g2,o2,hA2,_,e0,e1,e2⟩:=arc_at HRA.out.rd HZAL.out j hjn
      simp only at hA2 e0 e1 e2
      subst hA2
      have hcell:∀ wy,KpO nbT wr wy→wy.cell? ⟨g2,o2+j*3,none⟩=some (.int .i32 ((arcs.getD j (0,0,0)).1:Int))∧wy.cell? ⟨g2,o2+j*3+1,none⟩=some (.int .i64 (arcs.getD j (0,0,0)).2.1)∧wy.cell? ⟨g2,o2+j*3+2,none⟩=some (.int .i64 ((arcs.getD j (0,0,0)).2.2:Int)):=fun wy K=>by
       obtain ⟨gb,ob,hB,_,b0,b1,b2⟩:=arc_at (HRA.out.kpo K nbA).rd HZAL.out j hjn
       injection hB with hB
       injection hB with e1 e2
       subst e1
       subst e2
       exact ⟨b0,b1,b2⟩
      have ham:=getD_mem arcs (0,0,0) j (by rw [HZAL.out];exact hjn)
      have htj:arcs.take (j+1)=arcs.take j++[arcs.getD j (0,0,0)]:=take_snoc arcs (0,0,0) j (by rw [HZAL.out];exact hjn)
      have hlt:∀ x∈arcs.take j,x.1<(arcs.getD j (0,0,0)).1:=by
       intro x hx
       have h1:=HFM.out.lab
       simp only [SV.p] at h1
       have h2:=h1.sublist ((List.take_sublist (j+1) arcs).map _)
       rw [htj,List.map_append,List.pairwise_append] at h2
       exact h2.2.2 _ (List.mem_map_of_mem hx) _ (List.mem_singleton.2 rfl)
      have har:=HFM.out.arc _ ham
      have hrn:=(HFM.out.run _ ham).1
      obtain ⟨⟨la,ua,tt⟩,hz⟩:∃ z,arcs.getD j (0,0,0)=z:=⟨_,rfl⟩
      rw [hz] at e0 e1 e2 htj hlt har hrn hcell
      simp only at e0 e1 e2 hlt har hrn hcell
      have hlab:lab≤la:=by
       rw [HLA.out]
       unfold lastL
       cases hg:(arcs.take j).getLast? with
       | none=>simp
       | some x=>exact Nat.le_of_lt (hlt x (List.mem_of_getLast? hg))
      have hla:la<1114112:=scal_lt hrn
      obtain ⟨un,hun⟩:∃ un:Nat,ua=(un:Int):=⟨ua.toNat,by omega⟩
      subst hun
      have y5:(j:Int)<(zn:Int):=by omega
      have y6:(0:Int)≤(j:Int):=by omega
      have y7:IntKind.i64.wrap ((j:Int)+1)=(j:Int)+1:=IntWalk.i64_in _ (by have:=HZN.out;omega)
      have y8:IntKind.i64.wrap (la:Int)=(la:Int):=IntWalk.i64_in _ (by omega)
      have y9:IntKind.i64.wrap ((la:Int)-(lab:Int))=(la:Int)-(lab:Int):=IntWalk.i64_in _ (by omega)
      have y10:IntKind.i64.wrap ((i:Int)-(tt:Int))=(i:Int)-(tt:Int):=IntWalk.i64_in _ (by have:=HN.out;have:=HIN.out;omega)
      obtain ⟨ys,hys⟩:∃ ys,ys=xs2++arcsB i 0 (arcs.take j):=⟨_,rfl⟩
      have hx5:ONx 5 1 w1 wr (.slice A8 q8 c8) q8 (ys.map byteV):=by rw [hys];exact HX8.out
      have hq8:q8≤35184372088832-100:=by
       have h1:=HQ.out
       have h2:=HN.out
       have h3:=HQ8.out
       have h4:=HZN.out
       have h5:=HIN.out
       omega
      have HQ88:=hide hq8
      have HP1:=hide (rput_ko HBW.out hx5 (z:=(la:Int)-(lab:Int)) (n:=la-lab) ⟨by omega,by omega⟩ (by omega))
      have HN2:=hide (show un<9223372036854775808 by omega)
      have HN3:=hide (show (i:Int)-(tt:Int)=((i-tt:Nat):Int)∧i-tt<9223372036854775808 by have:=HN.out;have:=HIN.out;omega)
      have HYS:=hide hys
      have HTJ:=hide htj
      have HJN:=hide hjn
      have HCELL:=hide hcell
      clear hcell ham hlt har hrn hz hlab hla hys hx5 hq8 htj hjn hj
      go_wp2_with fail
      refine HP1.out.mono ?_
      rintro e wa ⟨Aa,qa,ca,rfl,HXA,HQA,HKA⟩
      clear s0 s1 s2 e0 e1 e2 HP1
      obtain ⟨s0,s1,s2⟩:=(HBS.out.kpo (HK8.out.trans HKA.out) nbS).facts
      obtain ⟨e0,e1,e2⟩:=HCELL.out wa HKA.out
      have HP2:=hide (rput_ko HBW.out HXA.out (z:=(un:Int)) (n:=un) ⟨rfl,HN2.out⟩ (by have:=HQA.out;have:=HQ88.out;omega))
      go_wp2_with fail
      refine HP2.out.mono ?_
      rintro e wb ⟨Ab,qb,cb,rfl,HXB,HQB,HKB⟩
      clear s0 s1 s2 e0 e1 e2 HP2
      have HKAB:=hide (HKA.out.trans HKB.out)
      obtain ⟨s0,s1,s2⟩:=(HBS.out.kpo (HK8.out.trans HKAB.out) nbS).facts
      obtain ⟨e0,e1,e2⟩:=HCELL.out wb HKAB.out
      have HP3:=hide (rput_ko HBW.out HXB.out (z:=(i:Int)-(tt:Int)) (n:=i-tt) HN3.out (by have:=HQA.out;have:=HQB.out;have:=HQ88.out;omega))
      go_wp2_with fail
      refine HP3.out.mono ?_
      rintro e wz ⟨Ac,qc,cc,rfl,HXC,HQC,HKC⟩
      clear s0 s1 s2 e0 e1 e2 HP3
      have HKABC:=hide (HKAB.out.trans HKC.out)
      obtain ⟨s0,s1,s2⟩:=(HBS.out.kpo (HK8.out.trans HKABC.out) nbS).facts
      obtain ⟨e0,e1,e2⟩:=HCELL.out wz HKABC.out
      go_wp2_with fail
      go_roundw
      case rel =>
       refine ⟨Ac,qc,cc,j+1,la,rfl,rfl,by simp,by have:=HJN.out;omega,hide (by rw [HTJ.out];simp [lastL]),hide ?_,hide (by have:=HQ8.out;have:=HQA.out;have:=HQB.out;have:=HQC.out;omega),hide (HK8.out.trans HKABC.out)⟩
       have h:=HXC.out
       rw [HYS.out] at h
       rw [HTJ.out,arcsB_snoc,← HLA.out]
       simp only [arcB,Int.toNat_natCast]
       simpa only [List.append_assoc] using h
      case measure =>
       have:=HJN.out
       simp only [intOf]
       omega
     ·have hje:j=zn:=by omega
      have hat:arcs.take j=arcs:=List.take_of_length_le (by rw [HZAL.out];omega)
      rw [hat] at HX8
      have y5:¬ (j:Int)<(zn:Int):=by omega
      have HJE:=hide hje
      clear hje hat hjn hj
      go_wp2_with fail
      go_roundw
      case rel =>
       refine ⟨A8,q8,c8,i+1,rfl,by simp,by have:=HIN.out;omega,hide ?_,hide ?_,hide (HK.out.trans ((KpO.of HT4.out).trans HK8.out))⟩
       ·have h:=HX8.out
        rw [HXS2.out,HXS.out] at h
        rw [HTK.out,stsB_snoc,HTL.out,Nat.zero_add]
        simp only [stB,SV.p]
        simpa only [List.append_assoc] using h
       ·have h1:=HQ8.out
        have h2:=HQ.out
        have h3:=HZN.out
        have h4:=HJE.out
        omega
      case measure =>
       have:=HIN.out
       simp only [intOf]
       omega
   | false =>
    have HC5:=hide (rput_ko HBW.out HX4.out (z:=2*(zn:Int)) (n:=2*zn) ⟨by omega,by have:=HZN.out;omega⟩ (by have:=HQ4.out;omega))
    go_wp2_with fail
    rw [← HW4.out]
    refine HC5.out.mono ?_
    rintro e w6 ⟨A6,q6,c6,rfl,HX5,HQ5,HK7⟩
    clear HC5 s0 s1 s2
    obtain ⟨xs2,hxs2⟩:∃ ys,ys=xs++headB ⟨false,(on:Int),arcs⟩:=⟨_,rfl⟩
    have HX7:Hid (ONx 5 1 w1 w6 (.slice A6 q6 c6) q6 (xs2.map byteV)):=hide (by
     have h:=HX5.out
     rw [hxs2]
     simpa [headB,HZAL.out,List.append_assoc] using h)
    have HXS2:=hide hxs2
    have HQ7:Hid (q6≤q+20):=hide (by have h1:=HQ5.out;omega)
    clear hxs2 HX5 HQ5
    obtain ⟨s0,s1,s2⟩:=(HBS.out.kpo HK7.out nbS).facts
    go_wp2_with fail
    obtain ⟨wo,hwo⟩:∃ y,y=wr:=⟨_,rfl⟩
    subst hwo
    go_loopw [3,6,7] (fun bv lv jv wx=>∃ (A8:Option Addr) (q8 c8 j lab:Nat),bv=.slice A8 q8 c8∧lv=.int .i64 (lab:Int)∧jv=.int .i64 j∧j≤zn∧Hid (lab=lastL 0 (arcs.take j))∧Hid (ONx 5 1 w1 wx (.slice A8 q8 c8) q8 ((xs2++arcsB i 0 (arcs.take j)).map byteV))∧Hid (q8≤q+20+j*30)∧Hid (KpO nbT w4 wx)) (fun _ _ jv _=>zn-(intOf jv).toNat)
    case atStart=>exact ⟨A6,q6,c6,0,0,rfl,rfl,rfl,Nat.zero_le _,hide rfl,hide (by rw [List.take_zero];simpa [arcsB] using HX7.out),hide (by have:=HQ7.out;omega),HK7⟩
    case round =>
     clear s0 s1 s2 m0 m1 m2
     obtain ⟨A8,q8,c8,j,lab,rfl,rfl,rfl,hj,HLA,HX8,HQ8,HK8⟩:=hrel
     obtain ⟨s0,s1,s2⟩:=(HBS.out.kpo HK8.out nbS).facts
     by_cases hjn:j<zn
     ·have HRA:=hide ((((HZO.out.rd.kpo HK.out nbA).quiet HT4.out)).kpo HK8.out nbA)
      obtain ⟨g2,o2,hA2,_,e0,e1,e2⟩:=arc_at HRA.out.rd HZAL.out j hjn
      simp only at hA2 e0 e1 e2
      subst hA2
      have hcell:∀ wy,KpO nbT wr wy→wy.cell? ⟨g2,o2+j*3,none⟩=some (.int .i32 ((arcs.getD j (0,0,0)).1:Int))∧wy.cell? ⟨g2,o2+j*3+1,none⟩=some (.int .i64 (arcs.getD j (0,0,0)).2.1)∧wy.cell? ⟨g2,o2+j*3+2,none⟩=some (.int .i64 ((arcs.getD j (0,0,0)).2.2:Int)):=fun wy K=>by
       obtain ⟨gb,ob,hB,_,b0,b1,b2⟩:=arc_at (HRA.out.kpo K nbA).rd HZAL.out j hjn
       injection hB with hB
       injection hB with e1 e2
       subst e1
       subst e2
       exact ⟨b0,b1,b2⟩
      have ham:=getD_mem arcs (0,0,0) j (by rw [HZAL.out];exact hjn)
      have htj:arcs.take (j+1)=arcs.take j++[arcs.getD j (0,0,0)]:=take_snoc arcs (0,0,0) j (by rw [HZAL.out];exact hjn)
      have hlt:∀ x∈arcs.take j,x.1<(arcs.getD j (0,0,0)).1:=by
       intro x hx
       have h1:=HFM.out.lab
       simp only [SV.p] at h1
       have h2:=h1.sublist ((List.take_sublist (j+1) arcs).map _)
       rw [htj,List.map_append,List.pairwise_append] at h2
       exact h2.2.2 _ (List.mem_map_of_mem hx) _ (List.mem_singleton.2 rfl)
      have har:=HFM.out.arc _ ham
      have hrn:=(HFM.out.run _ ham).1
      obtain ⟨⟨la,ua,tt⟩,hz⟩:∃ z,arcs.getD j (0,0,0)=z:=⟨_,rfl⟩
      rw [hz] at e0 e1 e2 htj hlt har hrn hcell
      simp only at e0 e1 e2 hlt har hrn hcell
      have hlab:lab≤la:=by
       rw [HLA.out]
       unfold lastL
       cases hg:(arcs.take j).getLast? with
       | none=>simp
       | some x=>exact Nat.le_of_lt (hlt x (List.mem_of_getLast? hg))
      have hla:la<1114112:=scal_lt hrn
      obtain ⟨un,hun⟩:∃ un:Nat,ua=(un:Int):=⟨ua.toNat,by omega⟩
      subst hun
      have y5:(j:Int)<(zn:Int):=by omega
      have y6:(0:Int)≤(j:Int):=by omega
      have y7:IntKind.i64.wrap ((j:Int)+1)=(j:Int)+1:=IntWalk.i64_in _ (by have:=HZN.out;omega)
      have y8:IntKind.i64.wrap (la:Int)=(la:Int):=IntWalk.i64_in _ (by omega)
      have y9:IntKind.i64.wrap ((la:Int)-(lab:Int))=(la:Int)-(lab:Int):=IntWalk.i64_in _ (by omega)
      have y10:IntKind.i64.wrap ((i:Int)-(tt:Int))=(i:Int)-(tt:Int):=IntWalk.i64_in _ (by have:=HN.out;have:=HIN.out;omega)
      obtain ⟨ys,hys⟩:∃ ys,ys=xs2++arcsB i 0 (arcs.take j):=⟨_,rfl⟩
      have hx5:ONx 5 1 w1 wr (.slice A8 q8 c8) q8 (ys.map byteV):=by rw [hys];exact HX8.out
      have hq8:q8≤35184372088832-100:=by
       have h1:=HQ.out
       have h2:=HN.out
       have h3:=HQ8.out
       have h4:=HZN.out
       have h5:=HIN.out
       omega
      have HQ88:=hide hq8
      have HP1:=hide (rput_ko HBW.out hx5 (z:=(la:Int)-(lab:Int)) (n:=la-lab) ⟨by omega,by omega⟩ (by omega))
      have HN2:=hide (show un<9223372036854775808 by omega)
      have HN3:=hide (show (i:Int)-(tt:Int)=((i-tt:Nat):Int)∧i-tt<9223372036854775808 by have:=HN.out;have:=HIN.out;omega)
      have HYS:=hide hys
      have HTJ:=hide htj
      have HJN:=hide hjn
      have HCELL:=hide hcell
      clear hcell ham hlt har hrn hz hlab hla hys hx5 hq8 htj hjn hj
      go_wp2_with fail
      refine HP1.out.mono ?_
      rintro e wa ⟨Aa,qa,ca,rfl,HXA,HQA,HKA⟩
      clear s0 s1 s2 e0 e1 e2 HP1
      obtain ⟨s0,s1,s2⟩:=(HBS.out.kpo (HK8.out.trans HKA.out) nbS).facts
      obtain ⟨e0,e1,e2⟩:=HCELL.out wa HKA.out
      have HP2:=hide (rput_ko HBW.out HXA.out (z:=(un:Int)) (n:=un) ⟨rfl,HN2.out⟩ (by have:=HQA.out;have:=HQ88.out;omega))
      go_wp2_with fail
      refine HP2.out.mono ?_
      rintro e wb ⟨Ab,qb,cb,rfl,HXB,HQB,HKB⟩
      clear s0 s1 s2 e0 e1 e2 HP2
      have HKAB:=hide (HKA.out.trans HKB.out)
      obtain ⟨s0,s1,s2⟩:=(HBS.out.kpo (HK8.out.trans HKAB.out) nbS).facts
      obtain ⟨e0,e1,e2⟩:=HCELL.out wb HKAB.out
      have HP3:=hide (rput_ko HBW.out HXB.out (z:=(i:Int)-(tt:Int)) (n:=i-tt) HN3.out (by have:=HQA.out;have:=HQB.out;have:=HQ88.out;omega))
      go_wp2_with fail
      refine HP3.out.mono ?_
      rintro e wz ⟨Ac,qc,cc,rfl,HXC,HQC,HKC⟩
      clear s0 s1 s2 e0 e1 e2 HP3
      have HKABC:=hide (HKAB.out.trans HKC.out)
      obtain ⟨s0,s1,s2⟩:=(HBS.out.kpo (HK8.out.trans HKABC.out) nbS).facts
      obtain ⟨e0,e1,e2⟩:=HCELL.out wz HKABC.out
      go_wp2_with fail
      go_roundw
      case rel =>
       refine ⟨Ac,qc,cc,j+1,la,rfl,rfl,by simp,by have:=HJN.out;omega,hide (by rw [HTJ.out];simp [lastL]),hide ?_,hide (by have:=HQ8.out;have:=HQA.out;have:=HQB.out;have:=HQC.out;omega),hide (HK8.out.trans HKABC.out)⟩
       have h:=HXC.out
       rw [HYS.out] at h
       rw [HTJ.out,arcsB_snoc,← HLA.out]
       simp only [arcB,Int.toNat_natCast]
       simpa only [List.append_assoc] using h
      case measure =>
       have:=HJN.out
       simp only [intOf]
       omega
     ·have hje:j=zn:=by omega
      have hat:arcs.take j=arcs:=List.take_of_length_le (by rw [HZAL.out];omega)
      rw [hat] at HX8
      have y5:¬ (j:Int)<(zn:Int):=by omega
      have HJE:=hide hje
      clear hje hat hjn hj
      go_wp2_with fail
      go_roundw
      case rel =>
       refine ⟨A8,q8,c8,i+1,rfl,by simp,by have:=HIN.out;omega,hide ?_,hide ?_,hide (HK.out.trans ((KpO.of HT4.out).trans HK8.out))⟩
       ·have h:=HX8.out
        rw [HXS2.out,HXS.out] at h
        rw [HTK.out,stsB_snoc,HTL.out,Nat.zero_add]
        simp only [stB,SV.p]
        simpa only [List.append_assoc] using h
       ·have h1:=HQ8.out
        have h2:=HQ.out
        have h3:=HZN.out
        have h4:=HJE.out
        omega
      case measure =>
       have:=HIN.out
       simp only [intOf]
       omega
  ·have hie:i=n:=by omega
   have hat:(Z.map SV.p).take i=Z.map SV.p:=List.take_of_length_le (by rw [List.length_map,HST.out.len];omega)
   rw [hat] at HX
   have y0:¬ (i:Int)<(n:Int):=by omega
   have HZL:Hid ((Z.map SV.p).length=n):=hide (by rw [List.length_map];exact HST.out.len)
   clear hie hat hin hi
   go_wp2_with fail
   go_ret
   refine ⟨A4,q,c4,rfl,?_⟩
   unfold packB
   rw [HZL.out]
   exact HX.out.from HT1.out
end Go.Proofs.YthockgmbooefpaaGreatDoor
