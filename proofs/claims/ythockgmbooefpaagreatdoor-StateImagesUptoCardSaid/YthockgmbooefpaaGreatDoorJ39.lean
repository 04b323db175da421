/- What the law rests on, part 39. No condition but those that each theorem names. -/
import Derived.Test.YthockgmbooefpaaGreatDoorJ38
import Derived.Laws.IdiomStrings
import Derived.Test.YthockgmbooefpaaGreatDoorJ32
import Derived.Test.YthockgmbooefpaaGreatDoorJ19
import Derived.Test.YthockgmbooefpaaGreatDoorRows
import Derived.Test.YthockgmbooefpaaGreatDoorCards
import Derived.Test.YthockgmbooefpaaGreatDoorTie
import Derived.Deep.DeepHandedRow
import Derived.ProofKit
import Derived.OpenShut
import Derived.SevenTiedAt
set_option linter.unusedSectionVars false
set_option linter.unusedSimpArgs false
set_option linter.unusedVariables false
namespace Go.Proofs.YthockgmbooefpaaGreatDoor
open Go.RowKit
theorem byte_atB {w:World} {A:Option Addr} {n:Nat} {bs:List UInt8} (h:Reads w 1 A n (bs.map byteV)) (k:Nat) (hk:k<n) (hn:bs.length=n) :
  ∃ g off,A=some ⟨g,off,none⟩∧g<w.heap.size∧w.cell? ⟨g,off+k,none⟩=some (.int .u8 ((bs.getD k 0).toNat:Int)):=by
 obtain ⟨b,off,hA,hb,hc⟩:=h.2 (by omega)
 have hk':k<bs.length:=by omega
 have e:bs.getD k 0=bs[k]:=by simp [List.getD,hk']
 rw [e]
 exact ⟨b,off,hA,hb,hc k _ (by simp [hk',byteV])⟩
theorem btake_succ (bs:List UInt8) (i:Nat) (h:i<bs.length):bs.take (i+1)=bs.take i++[bs.getD i 0]:=by
 rw [List.take_succ_eq_append_getElem h]
 have e:bs.getD i 0=bs[i]:=by simp [List.getD,h]
 rw [e]
set_option maxRecDepth 100000 in
set_option maxHeartbeats 2000000 in
theorem csum_any (w:World) (A:Option Addr) (n c:Nat) (bs:List UInt8) (hR:Reads w 1 A n (bs.map byteV)) (hl:bs.length=n) (hn:n≤35184372088832) :
  Calls Tryz.prog 113 #[.slice A n c] w fun e w'=>e=.returned (.int .u32 ((sumB bs:Nat):Int))∧Touch (fun _=>False) w w':=by
 have HR:=hide hR
 have HL:=hide hl
 have HN:=hide hn
 clear hR hl hn
 go_enter Tryz.func113,Tryz.ntmps113
 go_wp2_with fail
 go_loopw [3,8] (fun sv iv wr=>∃ (i:Nat),sv=.int .u32 ((crcF (bs.take i):Nat):Int)∧iv=.int .i64 i∧i≤n∧wr=w) (fun _ iv _=>n-(intOf iv).toNat)
 case atStart=>exact ⟨0,rfl,rfl,Nat.zero_le _,rfl⟩
 case round =>
  obtain ⟨i,rfl,rfl,hin',rfl⟩:=hrel
  obtain ⟨wo,hwo⟩:∃ y,y=wr:=⟨_,rfl⟩
  subst hwo
  by_cases hin:i<n
  ·have y0:(i:Int)<(n:Int):=by omega
   have y1:(0:Int)≤(i:Int):=by omega
   have y2:IntKind.i64.wrap ((i:Int)+1)=(i:Int)+1:=IntWalk.i64_in _ (by have:=HN.out;omega)
   obtain ⟨gl,ol,hAl,hgl,l0⟩:=byte_atB HR.out i hin HL.out
   subst hAl
   obtain ⟨b,hb⟩:∃ b,b=bs.getD i 0:=⟨_,rfl⟩
   have hsn:crcF (bs.take (i+1))=crcRep 8 (crcF (bs.take i) ^^^ b.toNat):=by rw [btake_succ bs i (by rw [HL.out];exact hin),crcF_snoc,hb];rfl
   rw [← hb] at l0
   obtain ⟨s,hs⟩:∃ s,s=crcF (bs.take i):=⟨_,rfl⟩
   rw [← hs] at hsn
   have hslt:s<4294967296:=by rw [hs];exact crcF_lt _
   obtain ⟨v,hv⟩:∃ v:Nat,v=b.toNat:=⟨_,rfl⟩
   have hvlt:v<256:=by rw [hv];exact b.toNat_lt
   rw [← hv] at l0 hsn
   have m0:IntKind.u32.wrap (v:Int)=(v:Int):=by rw [IntKind.wrap_u32];omega
   have m1:bits .xor .u32 (s:Int) (v:Int)=((s ^^^ v:Nat):Int):=u32_xor_nat s v hslt (by omega)
   obtain ⟨x,hx⟩:∃ x,x=s ^^^ v:=⟨_,rfl⟩
   have hxlt:x<4294967296:=by rw [hx];exact Nat.xor_lt_two_pow (n:=32) hslt (by omega)
   rw [← hx] at m1 hsn
   have HSN:=hide hsn
   have HXL:=hide hxlt
   have HIN:=hide hin
   have HS:=hide hs
   rw [← hs]
   clear hb hs hsn hv hx hxlt hin hin' hslt hvlt
   go_wp2_with fail
   go_loopw [3,16] (fun sv kv wr=>∃ (k:Nat),sv=.int .u32 ((crcRep k x:Nat):Int)∧kv=.int .i64 k∧k≤8∧wr=wo) (fun _ kv _=>8-(intOf kv).toNat)
   case atStart=>exact ⟨0,rfl,rfl,by omega,rfl⟩
   case round =>
    obtain ⟨k,rfl,rfl,hk',hwr⟩:=hrel
    subst hwr
    by_cases hk:k<8
    ·have k0:(k:Int)<8:=by omega
     have k1:(0:Int)≤(k:Int):=by omega
     have k2:IntKind.i64.wrap ((k:Int)+1)=(k:Int)+1:=IntWalk.i64_in _ (by omega)
     have m2:=crc_stepN (crcRep_lt HXL.out k)
     have e3:crcBit (crcRep k x)=crcRep (k+1) x:=rfl
     rw [e3] at m2
     obtain ⟨r,hr⟩:∃ r,r=crcRep k x:=⟨_,rfl⟩
     obtain ⟨r2,hr2⟩:∃ r,r=crcRep (k+1) x:=⟨_,rfl⟩
     rw [← hr,← hr2] at m2
     rw [← hr]
     have HR2:=hide hr2
     have HK:=hide hk
     clear hr hr2 hk hk'
     go_wp2_with fail
     go_roundw
     ·exact ⟨k+1,by rw [← HR2.out],by simp,by have:=HK.out;omega,trivial⟩
     ·have:=HK.out
      simp only [intOf]
      omega
    ·have k0:¬ (k:Int)<8:=by omega
     have hk8:k=8:=by omega
     subst hk8
     clear hk hk' k0
     go_wp2_with fail
     go_roundw
     ·exact ⟨i+1,by rw [HSN.out],by simp,by have:=HIN.out;omega,trivial⟩
     ·have:=HIN.out
      simp only [intOf]
      omega
  ·have y0:¬ (i:Int)<(n:Int):=by omega
   have hie:bs.take i=bs:=List.take_of_length_le (by rw [HL.out];omega)
   rw [hie]
   have m3:=crc_notN (crcF_lt bs)
   have hsu:(4294967295-crcF bs:Nat)=sumB bs:=rfl
   rw [hsu] at m3
   obtain ⟨s,hs⟩:∃ s,s=crcF bs:=⟨_,rfl⟩
   obtain ⟨t,ht⟩:∃ t,t=sumB bs:=⟨_,rfl⟩
   rw [← hs,← ht] at m3
   rw [← hs]
   have HTT:=hide ht
   clear hs ht hie hsu hin hin'
   go_wp2_with fail
   go_ret
   exact ⟨by rw [← HTT.out];rfl,Touch.refl _ _⟩
set_option maxRecDepth 100000 in
set_option maxHeartbeats 2000000 in
theorem putbytes_nil (w:World) (A:Option Addr) (n c:Nat) (bs:List UInt8) (hR:Reads w 1 A n (bs.map byteV)) (hA:A=none→n=0∧c=0) (hl:bs.length=n) (hn:n≤17592186044416) :
  Calls Tryz.prog 49 #[.slice none 0 0,.slice A n c] w fun e w'=>∃ (A':Option Addr) (q' c':Nat),e=.returned (.slice A' q' c')∧ONx 5 1 w w' (.slice A' q' c') q' ((varN n++bs).map byteV)∧q'≤n+10:=by
 obtain ⟨i0,hi0,hz0,hz1,hz2⟩:=info_parts infoByte
 have HP:=hide (putuint_any w w none 0 0 [] (ONx.nil _ _ _) n (by omega) (by omega))
 have HR:=hide hR
 have HN:=hide hn
 have HA:=hide hA
 have z1:IntKind.u64.wrap (n:Int)=(n:Int):=IntWalk.u64_in _ (by omega)
 clear hR hn hA hl
 go_enter Tryz.func49,Tryz.ntmps49
 go_wp2_with fail
 refine HP.out.mono ?_
 rintro e w1 ⟨A1,q1,c1,rfl,h1,hq1,T1⟩
 have hT1:Touch (fun _=>False) w w1:=T1.mono (fun i hi e=>by simp [Value.ownBlock] at e)
 have HO:=hide h1
 have HQ:=hide hq1
 have HRD:=hide (HR.out.touch hT1 (fun _ _ f=>f))
 have hone:∀ u∈bs.map byteV,u.oneCell'=true:=by
  intro u hu
  obtain ⟨b,_,rfl⟩:=List.mem_map.1 hu
  rfl
 have HONE:=hide hone
 have HBB:Hid (q1+n≤maxLen∧(q1+n)*1≤140737488355328):=hide (by have:=HN.out;unfold maxLen;omega)
 clear h1 hq1 T1 hT1 HP hone
 go_wp2_with (at_builtin;refine wpList_app _ rfl (.tmp 9) (.tmp 10) 50 rfl 5 i0 _ 1 1 Tryz.underlying50 hi0 hz0 hz1 hz2 rfl (by decide) (.slice A1 q1 c1) q1 _ rfl HO.out.own A n c (bs.map byteV) rfl HRD.out HA.out HONE.out HBB.out.1 HBB.out.2 ?_;intro v2 w2 O2 G2 F2 _;obtain ⟨A2,c2,hv,_,_⟩:=own_len O2;subst hv;have HO2:=hide (HO.out.app O2 G2 F2);clear O2 G2 F2)
 go_ret
 refine ⟨A2,q1+n,c2,rfl,?_,by have:=HQ.out;omega⟩
 have h:=HO2.out
 rw [List.map_append]
 simpa using h
def sum4 (s:Nat):List UInt8:=[UInt8.ofNat (s % 256),UInt8.ofNat (s / 256 % 256),UInt8.ofNat (s / 65536 % 256),UInt8.ofNat (s / 16777216 % 256)]
def sealB (bs:List UInt8):List UInt8:=varN bs.length++bs++sum4 (sumB bs)
set_option maxRecDepth 100000 in
set_option maxHeartbeats 2000000 in
theorem seal_any (w:World) (A:Option Addr) (n c:Nat) (bs:List UInt8) (hR:Reads w 1 A n (bs.map byteV)) (hA:A=none→n=0∧c=0) (hl:bs.length=n) (hn:n≤17592186044416) :
  Calls Tryz.prog 52 #[.slice A n c] w fun e w'=>∃ (A':Option Addr) (q' c':Nat) (k:Int),e=.returned (.tuple #[.slice A' q' c',.int .i64 k])∧ONx 5 1 w w' (.slice A' q' c') q' ((if n≤2097152 then sealB bs else []).map byteV)∧k=(if n≤2097152 then 0 else 22):=by
 obtain ⟨i0,hi0,hz0,hz1,hz2⟩:=info_parts infoByte
 by_cases hb:n≤2097152
 ·have k0:¬ (2097152:Int)<(n:Int):=by omega
  simp only [hb,if_true]
  have HS:=hide (csum_any w A n c bs hR hl (by omega))
  have HP:=hide (fun (wx:World) (T:Touch (fun _=>False) w wx)=>putbytes_nil wx A n c bs (hR.touch T (fun _ _ f=>f)) hA hl hn)
  have HB:=hide hb
  have HL:=hide hl
  obtain ⟨s,hs⟩:∃ s,s=sumB bs:=⟨_,rfl⟩
  have hslt:s<4294967296:=by rw [hs];unfold sumB;omega
  rw [← hs] at HS
  have m1:(s:Int).fdiv (2 ^ min (Int.toNat 8) IntKind.u32.bits)=((s / 256:Nat):Int):=by
   have h:min (Int.toNat 8) IntKind.u32.bits=8:=by decide
   rw [h,Int.fdiv_eq_ediv_of_nonneg _ (by decide)]
   omega
  have m2:(s:Int).fdiv (2 ^ min (Int.toNat 16) IntKind.u32.bits)=((s / 65536:Nat):Int):=by
   have h:min (Int.toNat 16) IntKind.u32.bits=16:=by decide
   rw [h,Int.fdiv_eq_ediv_of_nonneg _ (by decide)]
   omega
  have m3:(s:Int).fdiv (2 ^ min (Int.toNat 24) IntKind.u32.bits)=((s / 16777216:Nat):Int):=by
   have h:min (Int.toNat 24) IntKind.u32.bits=24:=by decide
   rw [h,Int.fdiv_eq_ediv_of_nonneg _ (by decide)]
   omega
  have HSS:=hide hs
  have HSL:=hide hslt
  clear hb hl hR hA hn hs hslt
  go_enter Tryz.func52,Tryz.ntmps52
  go_wp2_with fail
  refine HS.out.mono ?_
  rintro e w1 ⟨rfl,T1⟩
  have HT1:=hide T1
  have HP1:=hide (HP.out w1 T1)
  clear T1 HS HP
  go_wp2_with fail
  refine HP1.out.mono ?_
  rintro e w2 ⟨A2,q2,c2,rfl,h2,hq2⟩
  have HO:=hide h2
  have HQ:=hide hq2
  clear h2 hq2 HP1
  obtain ⟨wa,hwa⟩:∃ y,y=w2.alloc (.cells #[.int .u8 ((s:Int) % 256),.int .u8 ((s:Int) / 256 % 256),.int .u8 ((s:Int) / 65536 % 256),.int .u8 ((s:Int) / 16777216 % 256)] 5):=⟨_,rfl⟩
  have hTa:Touch (fun _=>False) w2 wa:=by rw [hwa];exact (Touch.refl _ _).alloc _
  have hrd:Reads wa 1 (some ⟨w2.heap.size,0,none⟩) 4 [.int .u8 ((s:Int) % 256),.int .u8 ((s:Int) / 256 % 256),.int .u8 ((s:Int) / 65536 % 256),.int .u8 ((s:Int) / 16777216 % 256)]:=by
   rw [hwa]
   have h:=Reads.new (size:=1) w2 5 [.int .u8 ((s:Int) % 256),.int .u8 ((s:Int) / 256 % 256),.int .u8 ((s:Int) / 65536 % 256),.int .u8 ((s:Int) / 16777216 % 256)] 4 rfl
   simpa using h
  have hone:∀ u∈([.int .u8 ((s:Int) % 256),.int .u8 ((s:Int) / 256 % 256),.int .u8 ((s:Int) / 65536 % 256),.int .u8 ((s:Int) / 16777216 % 256)]:List Value),u.oneCell'=true:=by
   intro u hu
   simp only [List.mem_cons,List.not_mem_nil,or_false] at hu
   rcases hu with rfl | rfl | rfl | rfl<;>rfl
  have HXA:=hide (HO.out.to hTa)
  have HWA:=hide hwa
  have HRD:=hide hrd
  have HONE:=hide hone
  have HBB:Hid (q2+4≤maxLen∧(q2+4)*1≤140737488355328):=hide (by have:=HQ.out;have:=HB.out;unfold maxLen;omega)
  clear hwa hTa hrd hone
  go_wp2_with (at_builtin;rw [← HWA.out];refine wpList_app _ rfl (.tmp 11) (.tmp 23) 50 rfl 5 i0 _ 1 1 Tryz.underlying50 hi0 hz0 hz1 hz2 rfl (by decide) (.slice A2 q2 c2) q2 _ rfl HXA.out.own (some ⟨w2.heap.size,0,none⟩) 4 4 [.int .u8 ((s:Int) % 256),.int .u8 ((s:Int) / 256 % 256),.int .u8 ((s:Int) / 65536 % 256),.int .u8 ((s:Int) / 16777216 % 256)] rfl HRD.out (fun h=>by cases h) HONE.out HBB.out.1 HBB.out.2 ?_;intro v3 w3 O3 G3 F3 _;obtain ⟨A3,c3,hv,_,_⟩:=own_len O3;subst hv;have HO3:=hide (HXA.out.app O3 G3 F3);clear O3 G3 F3)
  go_ret2
  refine ⟨A3,q2+4,c3,0,rfl,?_,rfl⟩
  have h:=HO3.out
  have e4:(sum4 s).map byteV=[.int .u8 ((s:Int) % 256),.int .u8 ((s:Int) / 256 % 256),.int .u8 ((s:Int) / 65536 % 256),.int .u8 ((s:Int) / 16777216 % 256)]:=by
   unfold sum4
   simp only [List.map_cons,List.map_nil]
   rw [byteV_nat (by omega),byteV_nat (by omega),byteV_nat (by omega),byteV_nat (by omega)]
   simp only [Int.natCast_emod,Int.natCast_ediv]
   rfl
  unfold sealB
  rw [← HSS.out,HL.out,List.map_append,e4]
  exact h.from HT1.out
 ·have k0:(2097152:Int)<(n:Int):=by omega
  simp only [hb,if_false]
  clear hR hA hl hn hb
  go_enter Tryz.func52,Tryz.ntmps52
  go_wp2_with fail
  go_ret2
  exact ⟨none,0,0,22,rfl,ONx.nil _ _ _,rfl⟩
end Go.Proofs.YthockgmbooefpaaGreatDoor
namespace Go.Proofs.YthockgmbooefpaaGreatDoor
open Go.RowKit
theorem mach_few {L:List PRow} (hD:DictP L):(mach L).states.length≤98305:=by
 rcases right_mach hD with ⟨h,_⟩ | h
 ·rw [h];exact Nat.zero_le _
 ·exact h.few
theorem dpack_any (w:World) (hL:Lst w) (L:List PRow) (hD:DictP L) (A:Option Addr) (n c:Nat) (Z:List SV) (hst:StsOk w A n Z) (hz:Z.map SV.p=(mach L).states) :
  Calls Tryz.prog 47 #[.agg #[.int .i64 (mach L).base,.slice A n c]] w fun e w'=>∃ (A':Option Addr) (q c':Nat),e=.returned (.tuple #[.slice A' q c',.int .i64 0])∧ONx 5 1 w w' (.slice A' q c') q ((packB (mach L).base (mach L).states).map byteV):=by
 have hb:=base_mach hD
 obtain ⟨bn,hbn⟩:∃ bn:Nat,(mach L).base=(bn:Int):=⟨(mach L).base.toNat,by omega⟩
 have hn:n=(mach L).states.length:=by rw [← hz,List.length_map];exact hst.len.symm
 have hr:=right_mach hD
 rw [← hz] at hr ⊢
 rw [hbn] at hr ⊢
 refine pack_any w hL bn A n c Z hst hr (by omega) (by rw [hn];exact mach_few hD) (fun i hi=>?_)
 rcases hr with ⟨h,_⟩ | h
 ·have:Z=[]:=by simpa using h
  rw [this] at hst
  have:=hst.len
  simp at this
  omega
 ·have hf:=h.form i (by rw [List.length_map,hst.len];exact hi)
  have e:(Z.map SV.p).getD i noSt=(Z.getD i svZero).p:=by simp [List.getD,show i<Z.length by rw [hst.len];exact hi]
  rw [e] at hf
  exact hf
theorem conv_bytes (w:World) (A:Option Addr) (q c:Nat) (l:List UInt8) (h:w.ownsRow 0 5 1 (.slice A q c) q (l.map byteV)) (h0:0<l.length):l.length=q∧(convert 50 9 (.slice A q c)).run Tryz.prog w=.ok (.string ⟨l.toArray⟩) w:=by
 have hr:=Reads.of_own h
 have hl:l.length=q:=by
  have:=hr.1
  rw [List.length_map] at this
  omega
 obtain ⟨b,off,hA,_,hc⟩:=hr.2 (by omega)
 subst hA
 refine ⟨hl,?_⟩
 rw [← hl]
 refine run_convert_bytes_back _ _ _ _ _ _ l Tryz.underlying50 Tryz.underlying5 Tryz.underlying9 fun j hj=>?_
 have:=hc j (byteV l[j]) (by rw [List.getElem?_map,List.getElem?_eq_getElem hj];rfl)
 rw [Addr.add_lit]
 exact this
structure SRow.In (r:SRow):Prop where
 s0:0≤r.seq
 s1:r.seq<18446744073709551616
 c0:0≤r.code
 c1:r.code≤65535
 i0:0≤r.sess
 i1:r.sess<18446744073709551616
 h0:0≤r.had
 h1:r.had≤1048576
def rowNs (r:SRow):List Nat:=[r.seq.toNat,r.code.toNat,r.sess.toNat,r.had.toNat]
def rowB (r:SRow):List UInt8:=(rowNs r).flatMap varN
def mB (L:List PRow):List UInt8:=packB (mach L).base (mach L).states
def headI (L:List PRow) (n:Nat):List UInt8:=varN (mB L).length++mB L++varN n
def bodyI (L:List PRow) (R:List SRow):List UInt8:=headI L R.length++R.flatMap rowB
def imgB (L:List PRow) (R:List SRow):List UInt8:=if (bodyI L R).length≤2097152 then sealB (bodyI L R) else []
theorem varN_len (n:Nat):(varN n).length≤10:=varF_len 9 n
theorem arcB_len (i p:Nat) (a:Nat × Int × Nat):(arcB i p a).length≤30:=by
 unfold arcB
 have h1:=varN_len (a.1-p)
 have h2:=varN_len a.2.1.toNat
 have h3:=varN_len (i-a.2.2)
 simp only [List.length_append]
 omega
theorem arcsB_len (i:Nat):∀ (l:List (Nat × Int × Nat)) (p:Nat),(arcsB i p l).length≤30*l.length
 | [],p=>by simp [arcsB]
 | a :: l,p=>by
  have h1:=arcsB_len i l a.1
  have h2:=arcB_len i p a
  simp only [arcsB,List.length_append,List.length_cons]
  omega
theorem stB_len (i:Nat) (s:StP):(stB i s).length≤20+30*s.arcs.length:=by
 unfold stB headB
 have h1:=arcsB_len i s.arcs 0
 have h2:=varN_len (2*s.arcs.length+1)
 have h3:=varN_len s.out.toNat
 have h4:=varN_len (2*s.arcs.length)
 split<;>simp only [List.length_append]<;>omega
theorem stsB_len:∀ (l:List StP) (i:Nat),(∀ s∈l,s.arcs.length≤2097152)→(stsB i l).length≤62914580*l.length
 | [],i,_=>by simp [stsB]
 | s :: l,i,h=>by
  have h1:=stsB_len l (i+1) (fun x hx=>h x (List.mem_cons_of_mem _ hx))
  have h2:=stB_len i s
  have h3:=h s List.mem_cons_self
  simp only [stsB,List.length_append,List.length_cons]
  omega
theorem mB_len {L:List PRow} (hD:DictP L):(mB L).length≤8796093022208:=by
 unfold mB packB topB
 have h1:=varN_len (mach L).base.toNat
 have h2:=varN_len (mach L).states.length
 have hn:=mach_few hD
 have h3:=stsB_len (mach L).states 0 (fun s hs=>by
  rcases right_mach hD with ⟨h,_⟩ | h
  ·rw [h] at hs;cases hs
  ·obtain ⟨i,hi,he⟩:=List.getElem_of_mem hs
   have hf:=h.form i hi
   have e:(mach L).states.getD i noSt=s:=by rw [← he];simp [List.getD,hi]
   rw [e] at hf
   exact form_few hf)
 simp only [List.length_append]
 omega
theorem rowB_len (r:SRow):(rowB r).length≤40:=by
 unfold rowB rowNs
 have h1:=varN_len r.seq.toNat
 have h2:=varN_len r.code.toNat
 have h3:=varN_len r.sess.toNat
 have h4:=varN_len r.had.toNat
 simp only [List.flatMap_cons,List.flatMap_nil,List.length_append,List.length_nil]
 omega
theorem rowsB_len:∀ (R:List SRow),(R.flatMap rowB).length≤40*R.length
 | []=>by simp
 | r :: R=>by
  have h1:=rowsB_len R
  have h2:=rowB_len r
  simp only [List.flatMap_cons,List.length_append,List.length_cons]
  omega
theorem own_u8 {w:World} {A:Option Addr} {n c:Nat} {bs:List UInt8} (h:w.ownsRow 0 5 1 (.slice A n c) n (bs.map byteV)):bs.length=n:=by
 have hr:=Reads.of_own h
 have:=hr.1
 rw [List.length_map] at this
 omega
set_option maxRecDepth 100000 in
set_option maxHeartbeats 4000000 in
theorem image_any (w:World) (hL:Lst w) {s d tb:Nat} {v:Value} {L:List PRow} {q:Nat} {R:List SRow} (h:StX w s d tb v L q R) (hIn:∀ r∈R,r.In) :
  Calls Tryz.prog 18 #[ptrV s] w fun e w'=>∃ (A':Option Addr) (q' c':Nat),e=.returned (.slice A' q' c')∧ONx 5 1 w w' (.slice A' q' c') q' ((imgB L R).map byteV):=by
 have hD:=h.dct.dict
 have HML:=hide (mB_len hD)
 have HRF:=hide h.few
 have HH:=hide h
 have HMA:=hide (machine_any w hL h.dct)
 have HPK:=hide (fun (wx:World) (T:Touch (fun _=>False) w wx) (A:Option Addr) (n c:Nat) (Z:List SV) (hst:StsOk wx A n Z) (hz:Z.map SV.p=(mach L).states)=>dpack_any wx (Lst.touch hL T) L hD A n c Z hst hz)
 have HRW:=hide (fun (wx:World) (T:Touch (fun _=>False) w wx)=>ses_rows wx tb v R (h.quiet T).tab h.few)
 have HIN:=hide hIn
 obtain ⟨m,hm⟩:∃ m,m=mB L:=⟨_,rfl⟩
 have hm2:packB (mach L).base (mach L).states=m:=hm.symm
 simp only [hm2] at HPK
 rw [← hm] at HML
 obtain ⟨ba,hba⟩:∃ b,b=(mach L).base:=⟨_,rfl⟩
 rw [← hba] at HMA HPK
 have HM:=hide hm
 obtain ⟨s0,s1,s2⟩:=h.blk.facts
 clear hL h hIn hD hm hm2 hba
 go_enter Tryz.func18,Tryz.ntmps18
 go_wp2_with fail
 refine HMA.out.mono ?_
 rintro e w1 ⟨A1,n1,c1,Z1,rfl,hst1,hz1,_,T1⟩
 have HT1:=hide T1
 have HP1:=hide (HPK.out w1 T1 A1 n1 c1 Z1 hst1 hz1)
 clear hst1 hz1 T1 HMA HPK
 go_wp2_with fail
 refine HP1.out.mono ?_
 rintro e w2 ⟨A2,q2,c2,rfl,h2⟩
 have HO2:=hide h2
 have HQ2:=hide (own_u8 h2.own)
 have HT2:=hide (HT1.out.then h2.touch)
 have HP2:=hide (putbytes_nil w2 A2 q2 c2 m (Reads.of_own h2.own) (own_nilOk h2.own) (own_u8 h2.own) (by have:=own_u8 h2.own;have:=HML.out;omega))
 clear h2 HP1
 go_wp2_with fail
 refine HP2.out.mono ?_
 rintro e w3 ⟨A3,q3,c3,rfl,h3,hq3⟩
 have HO3:=hide h3
 have HQ3:=hide hq3
 have HT3:=hide (HT2.out.then h3.touch)
 have HR3:=hide (HRW.out w3 HT3.out)
 have HB3:=hide (HH.out.blk.touch HT3.out (fun f=>f))
 clear h3 hq3 HP2 s0 s1 s2
 obtain ⟨s0,s1,s2⟩:=HB3.out.facts
 go_wp2_with fail
 refine HR3.out.mono ?_
 rintro e w4 ⟨v4,rfl,ho4,T4,hfr4⟩
 obtain ⟨A4,c4,hv4,_,_⟩:=own_len ho4
 subst hv4
 have HO4:=hide ho4
 have HT4:=hide (HT3.out.then T4)
 have HX4:Hid (ONx 5 1 w w4 (.slice A3 q3 c3) q3 ((varN m.length++m).map byteV)):=hide (by
  have h:=HO3.out.to T4
  rw [← HQ2.out] at h
  exact h.from HT2.out)
 have HX4b:=hide (putuint_any w w4 A3 q3 c3 _ HX4.out R.length (by have:=HRF.out;omega) (by have:=HQ3.out;have:=HQ2.out;have:=HML.out;omega))
 have z1:IntKind.u64.wrap (R.length:Int)=(R.length:Int):=IntWalk.u64_in _ (by have:=HRF.out;omega)
 clear ho4 T4 hfr4 HR3 s0 s1 s2
 go_wp2_with fail
 refine HX4b.out.mono ?_
 rintro e w5 ⟨A5,q5,c5,rfl,h5,hq5,T5⟩
 have HO5:Hid (w5.ownsRow 0 110 4 (.slice A4 R.length c4) R.length (rowCells R)):=hide (own_touch HO4.out T5 (fun g hg e=>(own_ty HO4.out hg).ne (own_ty HX4.out.own e) (by decide) rfl))
 have HX5:Hid (ONx 5 1 w w5 (.slice A5 q5 c5) q5 ((headI L R.length).map byteV)):=hide (by
  have h:=h5
  rw [← List.map_append] at h
  unfold headI
  rw [← HM.out]
  exact h)
 have HHL:Hid ((headI L R.length).length≤8796093022228):=hide (by
  unfold headI
  have h1:=varN_len (mB L).length
  have h2:=varN_len R.length
  have h3:=HML.out
  rw [HM.out] at h3
  simp only [List.length_append]
  omega)
 clear h5 hq5 T5 HX4b
 go_wp2_with fail
 go_loopw [5,36] (fun bv iv wr=>∃ (i:Nat) (A':Option Addr) (q' c':Nat),bv=.slice A' q' c'∧iv=.int .i64 i∧i≤R.length∧Hid (ONx 5 1 w wr (.slice A' q' c') q' ((headI L R.length++(R.take i).flatMap rowB).map byteV))∧Hid (wr.ownsRow 0 110 4 (.slice A4 R.length c4) R.length (rowCells R))) (fun _ iv _=>R.length-(intOf iv).toNat)
 case atStart=>exact ⟨0,A5,q5,c5,rfl,rfl,Nat.zero_le _,hide (by simpa using HX5.out),HO5⟩
 case round =>
  obtain ⟨i,A6,q6,c6,rfl,rfl,hi',HX,HO⟩:=hrel
  obtain ⟨wo,hwo⟩:∃ y,y=wr:=⟨_,rfl⟩
  subst hwo
  by_cases hi:i<R.length
  ·have y0:(i:Int)<(R.length:Int):=by omega
   have y1:(0:Int)≤(i:Int):=by omega
   have y2:IntKind.i64.wrap ((i:Int)+1)=(i:Int)+1:=IntWalk.i64_in _ (by have:=HRF.out;omega)
   obtain ⟨g1,hA1,hg1,d0,d1,d2,d3⟩:=rows_at HO.out i hi
   subst hA1
   have hrm:R.getD i SRow.zero∈R:=by
    have e2:R.getD i SRow.zero=R[i]:=by simp [List.getD,hi]
    rw [e2];exact List.getElem_mem _
   have hri:=HIN.out _ hrm
   have htk:(R.take (i+1)).flatMap rowB=(R.take i).flatMap rowB++rowB (R.getD i SRow.zero):=by
    rw [List.take_succ_eq_append_getElem hi,List.flatMap_append]
    have e2:R.getD i SRow.zero=R[i]:=by simp [List.getD,hi]
    rw [e2]
    simp
   obtain ⟨⟨rs,rc,rr,rh⟩,hr⟩:∃ r,r=R.getD i SRow.zero:=⟨_,rfl⟩
   rw [← hr] at d0 d1 d2 d3 hri htk
   obtain ⟨i1,i2,i3,i4,i5,i6,i7,i8⟩:=hri
   simp only at d0 d1 d2 d3 i1 i2 i3 i4 i5 i6 i7 i8
   obtain ⟨sn,hsn⟩:∃ n:Nat,rs=(n:Int):=⟨rs.toNat,by omega⟩
   obtain ⟨cn,hcn⟩:∃ n:Nat,rc=(n:Int):=⟨rc.toNat,by omega⟩
   obtain ⟨an,han⟩:∃ n:Nat,rr=(n:Int):=⟨rr.toNat,by omega⟩
   obtain ⟨hn,hhn⟩:∃ n:Nat,rh=(n:Int):=⟨rh.toNat,by omega⟩
   subst hsn hcn han hhn
   have z2:IntKind.u64.wrap (cn:Int)=(cn:Int):=IntWalk.u64_in _ (by omega)
   have z3:IntKind.u64.wrap (hn:Int)=(hn:Int):=IntWalk.u64_in _ (by omega)
   have hrb:rowB ⟨(sn:Int),(cn:Int),(an:Int),(hn:Int)⟩=[sn,cn,an,hn].flatMap varN:=by unfold rowB rowNs;simp
   obtain ⟨ns,hns⟩:∃ ns,ns=[sn,cn,an,hn]:=⟨_,rfl⟩
   rw [hrb,← hns] at htk
   have hnl:ns.length=4:=by rw [hns];rfl
   have hnb:∀ k,k<4→ns.getD k 0<18446744073709551616:=by
    intro k hk
    rw [hns]
    rcases k with _ | _ | _ | _ | k
    ·simp;omega
    ·simp;omega
    ·simp;omega
    ·simp;omega
    ·omega
   obtain ⟨wa,hwa⟩:∃ y,y=(wo.alloc (.cells #[.int .u64 (sn:Int),.int .i64 (cn:Int),.int .u64 (an:Int),.int .i64 (hn:Int)] 110)).alloc (.cells #[.int .u64 (sn:Int),.int .u64 (cn:Int),.int .u64 (an:Int),.int .u64 (hn:Int)] 27):=⟨_,rfl⟩
   obtain ⟨gu,hgu⟩:∃ y,y=wo.heap.size+1:=⟨_,rfl⟩
   have hTa:Touch (fun _=>False) wo wa:=by rw [hwa];exact ((Touch.refl _ _).alloc _).alloc _
   have HUB:Hid (Blk wa gu 27 #[.int .u64 (sn:Int),.int .u64 (cn:Int),.int .u64 (an:Int),.int .u64 (hn:Int)]):=hide (by
    have h1:=Blk.new (wo.alloc (.cells #[.int .u64 (sn:Int),.int .i64 (cn:Int),.int .u64 (an:Int),.int .i64 (hn:Int)] 110)) 27 #[.int .u64 (sn:Int),.int .u64 (cn:Int),.int .u64 (an:Int),.int .u64 (hn:Int)]
    rw [hwa,hgu]
    simpa using h1)
   have HXA:=hide (HX.out.to hTa)
   have HOA:=hide (own_touch HO.out hTa (fun _ _ f=>f))
   have HWA:=hide hwa
   have HGU:=hide hgu
   have HTK:=hide htk
   have HNS:=hide hns
   have HNL:=hide hnl
   have HNB:=hide hnb
   have HI:=hide hi
   clear hr hrm i1 i2 i3 i4 i5 i6 i7 i8 hrb hns hnl hnb hwa hgu hTa htk hi hi' hg1
   go_upto_region 9 with fail
   rw [← HWA.out,← HGU.out]
   clear d0 d1 d2 d3
   go_loopw [5,55] (fun bv iv wr=>∃ (k:Nat) (A':Option Addr) (q' c':Nat),bv=.slice A' q' c'∧iv=.int .i64 k∧k≤4∧Hid (ONx 5 1 w wr (.slice A' q' c') q' ((headI L R.length++(R.take i).flatMap rowB++(ns.take k).flatMap varN).map byteV))∧Hid (wr.ownsRow 0 110 4 (.slice (some ⟨g1,0,none⟩) R.length c4) R.length (rowCells R))∧Hid (Blk wr gu 27 #[.int .u64 (sn:Int),.int .u64 (cn:Int),.int .u64 (an:Int),.int .u64 (hn:Int)])) (fun _ iv _=>4-(intOf iv).toNat)
   case atStart=>exact ⟨0,A6,q6,c6,rfl,rfl,by omega,hide (by simpa using HXA.out),HOA,HUB⟩
   case round =>
    obtain ⟨k,A7,q7,c7,rfl,rfl,hk',HX7,HO7,HU7⟩:=hrel
    obtain ⟨wk,hwk⟩:∃ y,y=wr:=⟨_,rfl⟩
    subst hwk
    by_cases hk:k<4
    ·have k0:(k:Int)<4:=by omega
     have k1:(0:Int)≤(k:Int):=by omega
     have k2:IntKind.i64.wrap ((k:Int)+1)=(k:Int)+1:=IntWalk.i64_in _ (by omega)
     have hcell:wk.cell? ⟨gu,k,none⟩=some (.int .u64 ((ns.getD k 0:Nat):Int)):=by
      rw [HU7.out.cell k,HNS.out]
      rcases k with _ | _ | _ | _ | k
      ·rfl
      ·rfl
      ·rfl
      ·rfl
      ·omega
     have hnk:=HNB.out k hk
     have htk:(ns.take (k+1)).flatMap varN=(ns.take k).flatMap varN++varN (ns.getD k 0):=by
      have hk2:k<ns.length:=by rw [HNL.out];exact hk
      rw [List.take_succ_eq_append_getElem hk2,List.flatMap_append]
      have e2:ns.getD k 0=ns[k]:=by simp [List.getD,hk2]
      rw [e2]
      simp
     obtain ⟨x,hx⟩:∃ x,x=ns.getD k 0:=⟨_,rfl⟩
     rw [← hx] at hcell hnk htk
     have hql:q7≤8796093193229:=by
      have h1:=own_u8 HX7.out.own
      rw [← h1]
      have h2:=rowsB_len (R.take i)
      have h3:=HHL.out
      have h4:=HRF.out
      have h5:(R.take i).length≤R.length:=by rw [List.length_take];omega
      have h6:((ns.take k).flatMap varN).length≤40:=by
       have h7:∀ l:List Nat,(l.flatMap varN).length≤10*l.length:=by
        intro l
        induction l with
        | nil=>simp
        | cons a l ih=>have:=varN_len a;simp only [List.flatMap_cons,List.length_append,List.length_cons];omega
       have h8:=h7 (ns.take k)
       have h9:(ns.take k).length≤4:=by rw [List.length_take,HNL.out];omega
       omega
      simp only [List.length_append]
      omega
     have HPU:=hide (putuint_any w wk A7 q7 c7 _ HX7.out x hnk (by omega))
     have HKK:=hide hk
     have HTK2:=hide htk
     have hgu2:gu<wk.heap.size:=HU7.out.lt
     clear hx hnk htk hql hk hk'
     go_wp2_with fail
     refine HPU.out.mono ?_
     rintro e w8 ⟨A8,q8,c8,rfl,h8,hq8,T8⟩
     have HX8:Hid (ONx 5 1 w w8 (.slice A8 q8 c8) q8 ((headI L R.length++(R.take i).flatMap rowB++(ns.take (k+1)).flatMap varN).map byteV)):=hide (by
      rw [HTK2.out,← List.append_assoc,List.map_append]
      exact h8)
     have HO8:=hide (own_touch HO7.out T8 (fun g hg e=>(own_ty HO7.out hg).ne (own_ty HX7.out.own e) (by decide) rfl))
     have HU8:=hide (HU7.out.touch T8 (fun e=>(blk_ty HU7.out).ne (own_ty HX7.out.own e) (by decide) rfl))
     clear h8 hq8 T8 HPU hcell hgu2
     go_wp2_with fail
     go_roundw
     ·exact ⟨k+1,A8,q8,c8,rfl,by simp,by have:=HKK.out;omega,HX8,HO8,HU8⟩
     ·have:=HKK.out
      simp only [intOf]
      omega
    ·have k0:¬ (k:Int)<4:=by omega
     have hke:ns.take k=ns:=List.take_of_length_le (by rw [HNL.out];omega)
     rw [hke] at HX7
     clear hk hk' hke
     go_wp2_with fail
     go_roundw
     ·exact ⟨i+1,A7,q7,c7,rfl,by simp,by have:=HI.out;omega,hide (by rw [HTK.out,← List.append_assoc];exact HX7.out),HO7⟩
     ·have:=HI.out
      simp only [intOf]
      omega
  ·have y0:¬ (i:Int)<(R.length:Int):=by omega
   have hie:R.take i=R:=List.take_of_length_le (by omega)
   have hx:=HX.out
   rw [hie] at hx
   have hbl:(bodyI L R).length=q6:=own_u8 hx.own
   have hbd:q6≤8796093186068:=by
    rw [← hbl]
    unfold bodyI
    have h1:=rowsB_len R
    have h2:=HRF.out
    have h3:=HHL.out
    simp only [List.length_append]
    omega
   have hse:=seal_any wo A6 q6 c6 (bodyI L R) (Reads.of_own hx.own) (own_nilOk hx.own) hbl (by omega)
   rw [← hbl] at hse
   have HSE:=hide hse
   have HTX:=hide hx.touch
   have HBL:=hide hbl
   rw [← hbl]
   clear hie hx hbl hbd hse hi hi'
   go_wp2_with fail
   refine HSE.out.mono ?_
   rintro e w9 ⟨A9,q9,c9,k9,rfl,h9,hk9⟩
   have HO9:=hide (h9.from HTX.out)
   clear h9 hk9 HSE
   go_wp2_with fail
   go_ret
   exact ⟨A9,q9,c9,rfl,HO9.out⟩
end Go.Proofs.YthockgmbooefpaaGreatDoor
namespace Go.Proofs.YthockgmbooefpaaGreatDoor
open Go.RowKit
theorem find_inW {L:List PRow} (hD:DictP L) (w:List UInt8):0≤(findP w L).1∧(findP w L).1≤1048576:=by
 cases hf:(findP w L).2 with
 | true =>
  obtain ⟨p,hp,_,he⟩:=findP_mem hf
  have:=hD.weight p hp
  rw [he]
  omega
 | false =>
  rw [find_zero hf]
  simp
theorem do_in {L:List PRow} (hD:DictP L) (c:CmdP):0≤doE c L∧doE c L≤65535∧0≤doH c L∧doH c L≤1048576:=by
 have hf:=find_inW hD c.word.toList
 unfold doE doH setH remH setE remE
 split
 ·refine ⟨?_,?_,?_,?_⟩<;>(repeat' split)<;>first | omega | exact hf.1 | exact hf.2
 ·refine ⟨?_,?_,?_,?_⟩<;>(repeat' split)<;>first | omega | exact hf.1 | exact hf.2
theorem doR_in {L:List PRow} (hD:DictP L) {R:List SRow} (h:∀ r∈R,r.In) {c:CmdP} (hc:c.In):∀ r∈doR c L R,r.In:=by
 intro r hr
 unfold doR at hr
 split at hr
 ·split at hr
  ·rcases List.mem_append.1 hr with hr | hr
   ·exact h r hr
   ·have e:r=SRow.zero:=by simpa using hr
    subst e
    exact ⟨by decide,by decide,by decide,by decide,by decide,by decide,by decide,by decide⟩
  ·exact h r hr
 ·split at hr
  ·rcases List.mem_or_eq_of_mem_set hr with hr | rfl
   ·exact h r hr
   ·obtain ⟨e0,e1,h0,h1⟩:=do_in hD c
    obtain ⟨_,_,s0,s1⟩:=hc
    exact ⟨s0,s1,e0,e1,Int.le_refl _,by simp only;omega,h0,h1⟩
  ·exact h r hr
theorem runS_in {L:List PRow} (hD:DictP L) {R:List SRow} (h:∀ r∈R,r.In) (T:List CmdP) (hT:∀ c∈T,c.In):∀ r∈(runS T (L,R)).2,r.In:=by
 induction T generalizing L R with
 | nil=>exact h
 | cons c T ih=>exact ih (doL_dict hD c R) (doR_in hD h (hT c List.mem_cons_self)) (fun x hx=>hT x (List.mem_cons_of_mem _ hx))
end Go.Proofs.YthockgmbooefpaaGreatDoor
namespace Go.Proofs.YthockgmbooefpaaGreatDoor
open Go.RowKit
theorem dict_nil:DictP ([]:List PRow):=dict_mk (by simp) (fun p hp=>by cases hp) List.Pairwise.nil
theorem conv_nil (w:World):(convert 50 9 (.slice none 0 0)).run Tryz.prog w=.ok (.string ⟨#[]⟩) w:=by kernel_rfl
theorem conv_img (w:World) (A:Option Addr) (q c:Nat) (l:List UInt8) (h:w.ownsRow 0 5 1 (.slice A q c) q (l.map byteV)):(convert 50 9 (.slice A q c)).run Tryz.prog w=.ok (.string ⟨l.toArray⟩) w:=by
 have hl:=own_u8 h
 by_cases h0:0<l.length
 ·exact (conv_bytes w A q c l h h0).2
 ·have e:l=[]:=List.eq_nil_of_length_eq_zero (by omega)
  subst e
  have hq:q=0:=hl.symm
  subst hq
  cases A with
  | none =>
   obtain ⟨_,rfl⟩:=own_nilOk h rfl
   exact conv_nil w
  | some ad=>exact run_convert_bytes_back _ _ _ _ ad c [] Tryz.underlying50 Tryz.underlying5 Tryz.underlying9 (fun j hj=>absurd hj (by simp))
theorem wp_conv_run {P:Program} {o:Oper} {a:Act} {w:World} {K:Act→World→Prop} {Q:Exit→Act→World→Prop} (t1 t2:TypeId) (x:Operand) (hop:o.op=Op.convert t1 t2 x) (v v':Value) (hx:a.eval x=v) (hrun:(convert t1 t2 v).run P w=.ok v' w) (h:K (a.put o.dst v') w):o.wp P a w K Q:=by
 unfold Oper.wp
 simp [execOp,hop,hx,hrun,Result.andThen]
 exact h
end Go.Proofs.YthockgmbooefpaaGreatDoor
namespace Go.Proofs.YthockgmbooefpaaGreatDoor
open Go.RowKit Go.ChangeShapes Go.WideShapes Go.ChangeAt
theorem Tryz.own:ownKnob Tryz.prog.godebug=none:=by kernel_rfl
theorem Tryz.laidOut:laidOutB Tryz.prog=true:=by kernel_rfl
theorem ret_below {P:Program} {f:FuncId} {args:Array Value} {W:World} (h:Calls P f args W fun e W'=>e=.returned (.bool true)∧Touch (fun _=>False) W W'):Calls P f args W fun e W'=>e=.returned (.bool true)∧Below W.heap.size W W' :=
 h.mono (by rintro e W' ⟨rfl,T⟩;exact ⟨rfl,T.below (Nat.le_refl _) (fun _ _ f=>f)⟩)
end Go.Proofs.YthockgmbooefpaaGreatDoor
namespace Go.Proofs.YthockgmbooefpaaGreatDoor
theorem and2 {a b:Bool} (ha:a=true) (hb:b=true):(a && b)=true:=by rw [ha,hb];rfl
theorem g_main:Tryz.pinned.checked.prog.mainIs=some (true,"b77970bafad3625c7a6c41321677aa064966117ab5676fe04803710f66b42c4f".toList):=by kernel_rfl
theorem g_looks:true=Tryz.pinned.checked.prog.looks []:=by kernel_rfl
end Go.Proofs.YthockgmbooefpaaGreatDoor
