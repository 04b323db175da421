/- What the law rests on, part 33. No condition but those that each theorem names. -/
import Derived.Test.YthockgmbooefpaaGreatDoorL32
import Derived.Laws.BitsAllLaws
import Derived.Test.YthockgmbooefpaaGreatDoorL08
import Derived.Test.YthockgmbooefpaaGreatDoorL14
set_option linter.unusedSectionVars false
set_option linter.unusedSimpArgs false
set_option linter.unusedVariables false
set_option maxRecDepth 100000
set_option maxHeartbeats 4000000
namespace Go.Proofs.YthockgmbooefpaaGreatDoor
open Go.RowKit
def crcBit (s:Nat):Nat:=if s % 2=1 then (s / 2) ^^^ 2197175160 else s / 2
def crcRep:Nat→Nat→Nat
 | 0,s=>s
 | n+1,s=>crcBit (crcRep n s)
def crcByte (s c:Nat):Nat:=crcRep 8 (s ^^^ c)
def crcF (bs:List UInt8):Nat:=bs.foldl (fun s c=>crcByte s c.toNat) 4294967295
def sumB (bs:List UInt8):Nat:=4294967295-crcF bs
theorem crcBit_lt {s:Nat} (h:s<4294967296):crcBit s<4294967296:=by
 unfold crcBit
 split
 ·exact Nat.xor_lt_two_pow (n:=32) (by omega) (by decide)
 ·omega
theorem crcRep_lt {s:Nat} (h:s<4294967296):∀ n,crcRep n s<4294967296
 | 0=>h
 | n+1=>crcBit_lt (crcRep_lt h n)
theorem crcByte_lt {s c:Nat} (h:s<4294967296) (hc:c<256):crcByte s c<4294967296 :=
 crcRep_lt (Nat.xor_lt_two_pow (n:=32) h (by omega)) 8
theorem crcF_lt (bs:List UInt8):crcF bs<4294967296:=by
 unfold crcF
 have key:∀ (l:List UInt8) (s:Nat),s<4294967296→l.foldl (fun s c=>crcByte s c.toNat) s<4294967296:=by
  intro l
  induction l with
  | nil=>exact fun s h=>h
  | cons b l ih=>exact fun s h=>ih _ (crcByte_lt h b.toNat_lt)
 exact key bs _ (by decide)
theorem crcF_snoc (bs:List UInt8) (b:UInt8):crcF (bs++[b])=crcByte (crcF bs) b.toNat:=by simp [crcF]
theorem crc_step {s:Nat} (h:s<4294967296) :
  bits .xor .u32 ((s:Int).fdiv (2 ^ min (Int.toNat 1) IntKind.u32.bits)) (bits .and .u32 2197175160 (IntKind.u32.wrap (-(bits .and .u32 (s:Int) 1))))=((crcBit s:Nat):Int):=by
 have e1:min (Int.toNat 1) IntKind.u32.bits=1:=by decide
 have e2:bits .and .u32 (s:Int) 1=((s % 2:Nat):Int):=by
  have:=u32_and_nat s 1 h (by decide)
  rw [Nat.and_one_is_mod] at this
  exact this
 have e3:(s:Int).fdiv (2 ^ 1)=((s / 2:Nat):Int):=by
  rw [Int.fdiv_eq_ediv_of_nonneg _ (by decide)]
  omega
 rw [e1,e2,e3]
 unfold crcBit
 rcases Nat.mod_two_eq_zero_or_one s with h2 | h2
 ·rw [h2,if_neg (by decide)]
  have e4:bits .and .u32 2197175160 (IntKind.u32.wrap (-((0:Nat):Int)))=((0:Nat):Int):=by decide
  rw [e4,u32_xor_nat _ _ (by omega) (by decide),Nat.xor_zero]
 ·rw [h2,if_pos rfl]
  have e4:bits .and .u32 2197175160 (IntKind.u32.wrap (-((1:Nat):Int)))=((2197175160:Nat):Int):=by decide
  rw [e4,u32_xor_nat _ _ (by omega) (by decide)]
theorem crc_stepN {s:Nat} (h:s<4294967296) :
  bits .xor .u32 ((s:Int) / 2) (bits .and .u32 2197175160 (-bits .and .u32 (s:Int) 1 % 4294967296))=((crcBit s:Nat):Int):=by
 rw [← crc_step h,IntKind.wrap_u32]
 have e1:min (Int.toNat 1) IntKind.u32.bits=1:=by decide
 rw [e1,Int.fdiv_eq_ediv_of_nonneg _ (by decide)]
 rfl
theorem xor_max {s:Nat} (h:s<4294967296):4294967295 ^^^ s=4294967295-s:=by
 have h1:=congrArg BitVec.toNat (BitVec.allOnes_xor (x:=BitVec.ofNat 32 s))
 rw [BitVec.toNat_xor,BitVec.toNat_not,BitVec.toNat_allOnes,BitVec.toNat_ofNat,Nat.mod_eq_of_lt h] at h1
 exact h1
theorem crc_notN {s:Nat} (h:s<4294967296):bits .xor .u32 IntKind.u32.max (s:Int)=((4294967295-s:Nat):Int):=by
 have e:IntKind.u32.max=((4294967295:Nat):Int):=by decide
 rw [e,u32_xor_nat _ _ (by decide) h,xor_max h]
end Go.Proofs.YthockgmbooefpaaGreatDoor
namespace Go.Proofs.YthockgmbooefpaaGreatDoor
open Go.RowKit
theorem byte_atB {w:World} {A:Option Addr} {n:Nat} {bs:List UInt8} (h:Reads w 1 A n (bs.map byteV)) (k:Nat) (hk:k<n) (hn:bs.length=n) :
  ∃ g off,A=some ⟨g,off,none⟩∧g<w.heap.size∧w.cell? ⟨g,off+k,none⟩=some (.int .u8 ((bs.getD k 0).toNat:Int)):=by
 obtain ⟨b,off,hA,hb,hc⟩:=h.2 (by omega)
 have hk':k<bs.length:=by omega
 have e:bs.getD k 0=bs[k]:=by simp [List.getD,hk']
 rw [e]
 exact ⟨b,off,hA,hb,hc k _ (by simp [hk',byteV])⟩
theorem btake_succ (bs:List UInt8) (i:Nat) (h:i<bs.length):bs.take (i+1)=bs.take i++[bs.getD i 0]:=by
 rw [List.take_succ_eq_append_getElem h]
 have e:bs.getD i 0=bs[i]:=by simp [List.getD,h]
 rw [e]
theorem csum_any (w:World) (A:Option Addr) (n c:Nat) (bs:List UInt8) (hR:Reads w 1 A n (bs.map byteV)) (hl:bs.length=n) (hn:n≤35184372088832) :
  Calls Tryz.prog 113 #[.slice A n c] w fun e w'=>e=.returned (.int .u32 ((sumB bs:Nat):Int))∧Touch (fun _=>False) w w':=by
 have HR:=hide hR
 have HL:=hide hl
 have HN:=hide hn
 clear hR hl hn
 go_enter Tryz.func113,Tryz.ntmps113
 go_wp2_with fail
 go_loopw [3,8] (fun sv iv wr=>∃ (i:Nat),sv=.int .u32 ((crcF (bs.take i):Nat):Int)∧iv=.int .i64 i∧i≤n∧wr=w) (fun _ iv _=>n-(intOf iv).toNat)
 case atStart=>exact ⟨0,rfl,rfl,Nat.zero_le _,rfl⟩
 case round =>
  obtain ⟨i,rfl,rfl,hin',rfl⟩:=hrel
  obtain ⟨wo,hwo⟩:∃ y,y=wr:=⟨_,rfl⟩
  subst hwo
  by_cases hin:i<n
  ·have y0:(i:Int)<(n:Int):=by omega
   have y1:(0:Int)≤(i:Int):=by omega
   have y2:IntKind.i64.wrap ((i:Int)+1)=(i:Int)+1:=IntWalk.i64_in _ (by have:=HN.out;omega)
   obtain ⟨gl,ol,hAl,hgl,l0⟩:=byte_atB HR.out i hin HL.out
   subst hAl
   obtain ⟨b,hb⟩:∃ b,b=bs.getD i 0:=⟨_,rfl⟩
   have hsn:crcF (bs.take (i+1))=crcRep 8 (crcF (bs.take i) ^^^ b.toNat):=by rw [btake_succ bs i (by rw [HL.out];exact hin),crcF_snoc,hb];rfl
   rw [← hb] at l0
   obtain ⟨s,hs⟩:∃ s,s=crcF (bs.take i):=⟨_,rfl⟩
   rw [← hs] at hsn
   have hslt:s<4294967296:=by rw [hs];exact crcF_lt _
   obtain ⟨v,hv⟩:∃ v:Nat,v=b.toNat:=⟨_,rfl⟩
   have hvlt:v<256:=by rw [hv];exact b.toNat_lt
   rw [← hv] at l0 hsn
   have m0:IntKind.u32.wrap (v:Int)=(v:Int):=by rw [IntKind.wrap_u32];omega
   have m1:bits .xor .u32 (s:Int) (v:Int)=((s ^^^ v:Nat):Int):=u32_xor_nat s v hslt (by omega)
   obtain ⟨x,hx⟩:∃ x,x=s ^^^ v:=⟨_,rfl⟩
   have hxlt:x<4294967296:=by rw [hx];exact Nat.xor_lt_two_pow (n:=32) hslt (by omega)
   rw [← hx] at m1 hsn
   have HSN:=hide hsn
   have HXL:=hide hxlt
   have HIN:=hide hin
   have HS:=hide hs
   rw [← hs]
   clear hb hs hsn hv hx hxlt hin hin' hslt hvlt
   go_wp2_with fail
   go_loopw [3,16] (fun sv kv wr=>∃ (k:Nat),sv=.int .u32 ((crcRep k x:Nat):Int)∧kv=.int .i64 k∧k≤8∧wr=wo) (fun _ kv _=>8-(intOf kv).toNat)
   case atStart=>exact ⟨0,rfl,rfl,by omega,rfl⟩
   case round =>
    obtain ⟨k,rfl,rfl,hk',hwr⟩:=hrel
    subst hwr
    by_cases hk:k<8
    ·have k0:(k:Int)<8:=by omega
     have k1:(0:Int)≤(k:Int):=by omega
     have k2:IntKind.i64.wrap ((k:Int)+1)=(k:Int)+1:=IntWalk.i64_in _ (by omega)
     have m2:=crc_stepN (crcRep_lt HXL.out k)
     have e3:crcBit (crcRep k x)=crcRep (k+1) x:=rfl
     rw [e3] at m2
     obtain ⟨r,hr⟩:∃ r,r=crcRep k x:=⟨_,rfl⟩
     obtain ⟨r2,hr2⟩:∃ r,r=crcRep (k+1) x:=⟨_,rfl⟩
     rw [← hr,← hr2] at m2
     rw [← hr]
     have HR2:=hide hr2
     have HK:=hide hk
     clear hr hr2 hk hk'
     go_wp2_with fail
     go_roundw
     ·exact ⟨k+1,by rw [← HR2.out],by simp,by have:=HK.out;omega,trivial⟩
     ·have:=HK.out
      simp only [intOf]
      omega
    ·have k0:¬ (k:Int)<8:=by omega
     have hk8:k=8:=by omega
     subst hk8
     clear hk hk' k0
     go_wp2_with fail
     go_roundw
     ·exact ⟨i+1,by rw [HSN.out],by simp,by have:=HIN.out;omega,trivial⟩
     ·have:=HIN.out
      simp only [intOf]
      omega
  ·have y0:¬ (i:Int)<(n:Int):=by omega
   have hie:bs.take i=bs:=List.take_of_length_le (by rw [HL.out];omega)
   rw [hie]
   have m3:=crc_notN (crcF_lt bs)
   have hsu:(4294967295-crcF bs:Nat)=sumB bs:=rfl
   rw [hsu] at m3
   obtain ⟨s,hs⟩:∃ s,s=crcF bs:=⟨_,rfl⟩
   obtain ⟨t,ht⟩:∃ t,t=sumB bs:=⟨_,rfl⟩
   rw [← hs,← ht] at m3
   rw [← hs]
   have HTT:=hide ht
   clear hs ht hie hsu hin hin'
   go_wp2_with fail
   go_ret
   exact ⟨by rw [← HTT.out];rfl,Touch.refl _ _⟩
theorem putbytes_nil (w:World) (A:Option Addr) (n c:Nat) (bs:List UInt8) (hR:Reads w 1 A n (bs.map byteV)) (hA:A=none→n=0∧c=0) (hl:bs.length=n) (hn:n≤17592186044416) :
  Calls Tryz.prog 49 #[.slice none 0 0,.slice A n c] w fun e w'=>∃ (A':Option Addr) (q' c':Nat),e=.returned (.slice A' q' c')∧ONx 5 1 w w' (.slice A' q' c') q' ((varN n++bs).map byteV)∧q'≤n+10:=by
 obtain ⟨i0,hi0,hz0,hz1,hz2⟩:=info_parts infoByte
 have HP:=hide (putuint_any w w none 0 0 [] (ONx.nil _ _ _) n (by omega) (by omega))
 have HR:=hide hR
 have HN:=hide hn
 have HA:=hide hA
 have z1:IntKind.u64.wrap (n:Int)=(n:Int):=IntWalk.u64_in _ (by omega)
 clear hR hn hA hl
 go_enter Tryz.func49,Tryz.ntmps49
 go_wp2_with fail
 refine HP.out.mono ?_
 rintro e w1 ⟨A1,q1,c1,rfl,h1,hq1,T1⟩
 have hT1:Touch (fun _=>False) w w1:=T1.mono (fun i hi e=>by simp [Value.ownBlock] at e)
 have HO:=hide h1
 have HQ:=hide hq1
 have HRD:=hide (HR.out.touch hT1 (fun _ _ f=>f))
 have hone:∀ u∈bs.map byteV,u.oneCell'=true:=by
  intro u hu
  obtain ⟨b,_,rfl⟩:=List.mem_map.1 hu
  rfl
 have HONE:=hide hone
 have HBB:Hid (q1+n≤maxLen∧(q1+n)*1≤140737488355328):=hide (by have:=HN.out;unfold maxLen;omega)
 clear h1 hq1 T1 hT1 HP hone
 go_wp2_with (at_builtin;refine wpList_app _ rfl (.tmp 9) (.tmp 10) 50 rfl 5 i0 _ 1 1 Tryz.underlying50 hi0 hz0 hz1 hz2 rfl (by decide) (.slice A1 q1 c1) q1 _ rfl HO.out.own A n c (bs.map byteV) rfl HRD.out HA.out HONE.out HBB.out.1 HBB.out.2 ?_;intro v2 w2 O2 G2 F2 _;obtain ⟨A2,c2,hv,_,_⟩:=own_len O2;subst hv;have HO2:=hide (HO.out.app O2 G2 F2);clear O2 G2 F2)
 go_ret
 refine ⟨A2,q1+n,c2,rfl,?_,by have:=HQ.out;omega⟩
 have h:=HO2.out
 rw [List.map_append]
 simpa using h
def sum4 (s:Nat):List UInt8:=[UInt8.ofNat (s % 256),UInt8.ofNat (s / 256 % 256),UInt8.ofNat (s / 65536 % 256),UInt8.ofNat (s / 16777216 % 256)]
def sealB (bs:List UInt8):List UInt8:=varN bs.length++bs++sum4 (sumB bs)
theorem seal_any (w:World) (A:Option Addr) (n c:Nat) (bs:List UInt8) (hR:Reads w 1 A n (bs.map byteV)) (hA:A=none→n=0∧c=0) (hl:bs.length=n) (hn:n≤17592186044416) :
  Calls Tryz.prog 52 #[.slice A n c] w fun e w'=>∃ (A':Option Addr) (q' c':Nat) (k:Int),e=.returned (.tuple #[.slice A' q' c',.int .i64 k])∧ONx 5 1 w w' (.slice A' q' c') q' ((if n≤2097152 then sealB bs else []).map byteV)∧k=(if n≤2097152 then 0 else 22):=by
 obtain ⟨i0,hi0,hz0,hz1,hz2⟩:=info_parts infoByte
 by_cases hb:n≤2097152
 ·have k0:¬ (2097152:Int)<(n:Int):=by omega
  simp only [hb,if_true]
  have HS:=hide (csum_any w A n c bs hR hl (by omega))
  have HP:=hide (fun (wx:World) (T:Touch (fun _=>False) w wx)=>putbytes_nil wx A n c bs (hR.touch T (fun _ _ f=>f)) hA hl hn)
  have HB:=hide hb
  have HL:=hide hl
  obtain ⟨s,hs⟩:∃ s,s=sumB bs:=⟨_,rfl⟩
  have hslt:s<4294967296:=by rw [hs];unfold sumB;omega
  rw [← hs] at HS
  have m1:(s:Int).fdiv (2 ^ min (Int.toNat 8) IntKind.u32.bits)=((s / 256:Nat):Int):=by
   have h:min (Int.toNat 8) IntKind.u32.bits=8:=by decide
   rw [h,Int.fdiv_eq_ediv_of_nonneg _ (by decide)]
   omega
  have m2:(s:Int).fdiv (2 ^ min (Int.toNat 16) IntKind.u32.bits)=((s / 65536:Nat):Int):=by
   have h:min (Int.toNat 16) IntKind.u32.bits=16:=by decide
   rw [h,Int.fdiv_eq_ediv_of_nonneg _ (by decide)]
   omega
  have m3:(s:Int).fdiv (2 ^ min (Int.toNat 24) IntKind.u32.bits)=((s / 16777216:Nat):Int):=by
   have h:min (Int.toNat 24) IntKind.u32.bits=24:=by decide
   rw [h,Int.fdiv_eq_ediv_of_nonneg _ (by decide)]
   omega
  have HSS:=hide hs
  have HSL:=hide hslt
  clear hb hl hR hA hn hs hslt
  go_enter Tryz.func52,Tryz.ntmps52
  go_wp2_with fail
  refine HS.out.mono ?_
  rintro e w1 ⟨rfl,T1⟩
  have HT1:=hide T1
  have HP1:=hide (HP.out w1 T1)
  clear T1 HS HP
  go_wp2_with fail
  refine HP1.out.mono ?_
  rintro e w2 ⟨A2,q2,c2,rfl,h2,hq2⟩
  have HO:=hide h2
  have HQ:=hide hq2
  clear h2 hq2 HP1
  obtain ⟨wa,hwa⟩:∃ y,y=w2.alloc (.cells #[.int .u8 ((s:Int) % 256),.int .u8 ((s:Int) / 256 % 256),.int .u8 ((s:Int) / 65536 % 256),.int .u8 ((s:Int) / 16777216 % 256)] 5):=⟨_,rfl⟩
  have hTa:Touch (fun _=>False) w2 wa:=by rw [hwa];exact (Touch.refl _ _).alloc _
  have hrd:Reads wa 1 (some ⟨w2.heap.size,0,none⟩) 4 [.int .u8 ((s:Int) % 256),.int .u8 ((s:Int) / 256 % 256),.int .u8 ((s:Int) / 65536 % 256),.int .u8 ((s:Int) / 16777216 % 256)]:=by
   rw [hwa]
   have h:=Reads.new (size:=1) w2 5 [.int .u8 ((s:Int) % 256),.int .u8 ((s:Int) / 256 % 256),.int .u8 ((s:Int) / 65536 % 256),.int .u8 ((s:Int) / 16777216 % 256)] 4 rfl
   simpa using h
  have hone:∀ u∈([.int .u8 ((s:Int) % 256),.int .u8 ((s:Int) / 256 % 256),.int .u8 ((s:Int) / 65536 % 256),.int .u8 ((s:Int) / 16777216 % 256)]:List Value),u.oneCell'=true:=by
   intro u hu
   simp only [List.mem_cons,List.not_mem_nil,or_false] at hu
   rcases hu with rfl | rfl | rfl | rfl<;>rfl
  have HXA:=hide (HO.out.to hTa)
  have HWA:=hide hwa
  have HRD:=hide hrd
  have HONE:=hide hone
  have HBB:Hid (q2+4≤maxLen∧(q2+4)*1≤140737488355328):=hide (by have:=HQ.out;have:=HB.out;unfold maxLen;omega)
  clear hwa hTa hrd hone
  go_wp2_with (at_builtin;rw [← HWA.out];refine wpList_app _ rfl (.tmp 11) (.tmp 23) 50 rfl 5 i0 _ 1 1 Tryz.underlying50 hi0 hz0 hz1 hz2 rfl (by decide) (.slice A2 q2 c2) q2 _ rfl HXA.out.own (some ⟨w2.heap.size,0,none⟩) 4 4 [.int .u8 ((s:Int) % 256),.int .u8 ((s:Int) / 256 % 256),.int .u8 ((s:Int) / 65536 % 256),.int .u8 ((s:Int) / 16777216 % 256)] rfl HRD.out (fun h=>by cases h) HONE.out HBB.out.1 HBB.out.2 ?_;intro v3 w3 O3 G3 F3 _;obtain ⟨A3,c3,hv,_,_⟩:=own_len O3;subst hv;have HO3:=hide (HXA.out.app O3 G3 F3);clear O3 G3 F3)
  go_ret2
  refine ⟨A3,q2+4,c3,0,rfl,?_,rfl⟩
  have h:=HO3.out
  have e4:(sum4 s).map byteV=[.int .u8 ((s:Int) % 256),.int .u8 ((s:Int) / 256 % 256),.int .u8 ((s:Int) / 65536 % 256),.int .u8 ((s:Int) / 16777216 % 256)]:=by
   unfold sum4
   simp only [List.map_cons,List.map_nil]
   rw [byteV_nat (by omega),byteV_nat (by omega),byteV_nat (by omega),byteV_nat (by omega)]
   simp only [Int.natCast_emod,Int.natCast_ediv]
   rfl
  unfold sealB
  rw [← HSS.out,HL.out,List.map_append,e4]
  exact h.from HT1.out
 ·have k0:(2097152:Int)<(n:Int):=by omega
  simp only [hb,if_false]
  clear hR hA hl hn hb
  go_enter Tryz.func52,Tryz.ntmps52
  go_wp2_with fail
  go_ret2
  exact ⟨none,0,0,22,rfl,ONx.nil _ _ _,rfl⟩
end Go.Proofs.YthockgmbooefpaaGreatDoor
namespace Go.Proofs.YthockgmbooefpaaGreatDoor
open Go.RowKit
def cCells (l:List CmdP):List Value:=l.flatMap CmdP.cells
theorem cmd_at {w:World} {A:Option Addr} {n:Nat} {X:List CmdP} (h:Reads w 5 A n (cCells X)) (hn:n=X.length) (k:Nat) (hk:k<n) :
  ∃ g off,A=some ⟨g,off,none⟩∧g<w.heap.size∧w.cell? ⟨g,off+k*5,none⟩=some (.int .i64 (X.getD k CmdP.zero).kind)∧w.cell? ⟨g,off+k*5+1,none⟩=some (.int .u64 (X.getD k CmdP.zero).sess) ∧
   w.cell? ⟨g,off+k*5+2,none⟩=some (.int .u64 (X.getD k CmdP.zero).seq)∧w.cell? ⟨g,off+k*5+3,none⟩=some (.string (X.getD k CmdP.zero).word)∧w.cell? ⟨g,off+k*5+4,none⟩=some (.int .i64 (X.getD k CmdP.zero).n):=by
 subst hn
 obtain ⟨b,off,hA,hb,hc⟩:=h.2 (by omega)
 have key:∀ j,j<5→(cCells X)[k*5+j]? = (X.getD k CmdP.zero).cells[j]? := fun j hj=>by
  have e:X.getD k CmdP.zero=X[k]:=by simp [List.getD,hk]
  rw [e]
  exact flat_at CmdP.cells 5 (fun _=>rfl) X k j hk hj
 refine ⟨b,off,hA,hb,?_,?_,?_,?_,?_⟩
 ·exact hc (k*5) _ (key 0 (by omega))
 ·rw [Nat.add_assoc];exact hc (k*5+1) _ (key 1 (by omega))
 ·rw [Nat.add_assoc];exact hc (k*5+2) _ (key 2 (by omega))
 ·rw [Nat.add_assoc];exact hc (k*5+3) _ (key 3 (by omega))
 ·rw [Nat.add_assoc];exact hc (k*5+4) _ (key 4 (by omega))
def CmdP.In (c:CmdP):Prop:=0≤c.sess∧c.sess<18446744073709551616∧0≤c.seq∧c.seq<18446744073709551616
def stepS (S:List PRow × List SRow) (c:CmdP):List PRow × List SRow:=(doL c S.1 S.2,doR c S.1 S.2)
def runS (T:List CmdP) (S:List PRow × List SRow):List PRow × List SRow:=T.foldl stepS S
theorem runS_snoc (T:List CmdP) (c:CmdP) (S:List PRow × List SRow):runS (T++[c]) S=stepS (runS T S) c:=by simp [runS]
theorem ctake_succ (T:List CmdP) (i:Nat) (h:i<T.length):T.take (i+1)=T.take i++[T.getD i CmdP.zero]:=by
 rw [List.take_succ_eq_append_getElem h]
 have e:T.getD i CmdP.zero=T[i]:=by simp [List.getD,h]
 rw [e]
theorem doL_dict {L:List PRow} (hL:DictP L) (c:CmdP) (R:List SRow):DictP (doL c L R):=by
 unfold doL
 split
 ·unfold doW
  split
  ·exact set_dict hL _ _
  ·exact rem_dict hL _
 ·exact hL
theorem runS_dict {L:List PRow} (hL:DictP L) (R:List SRow) (T:List CmdP):DictP (runS T (L,R)).1:=by
 induction T generalizing L R with
 | nil=>exact hL
 | cons c T ih=>exact ih (doL_dict hL c R) _
end Go.Proofs.YthockgmbooefpaaGreatDoor
namespace Go.Proofs.YthockgmbooefpaaGreatDoor
open Go.RowKit
def cOp:CmdP:=⟨1,0,0,ByteArray.empty,0⟩
def cSe:CmdP:=⟨2,1,1,⟨#[97,98]⟩,5⟩
def aL1:List PRow:=[⟨⟨#[97,98]⟩,5⟩]
def aR1:List SRow:=[⟨0,0,0,0⟩]
def aR2:List SRow:=[⟨1,0,0,0⟩]
theorem as_a1:doA cOp [] []=⟨0,0,1,0⟩:=by kernel_rfl
theorem as_l1:doL cOp [] []=[]:=by kernel_rfl
theorem as_r1:doR cOp [] []=aR1:=by kernel_rfl
theorem as_a2:doA cSe [] aR1=⟨0,0,0,0⟩:=by kernel_rfl
theorem as_l2:doL cSe [] aR1=aL1:=by kernel_rfl
theorem as_r2:doR cSe [] aR1=aR2:=by kernel_rfl
theorem as_a3:doA cSe aL1 aR2=⟨0,0,0,0⟩:=by kernel_rfl
theorem as_l3:doL cSe aL1 aR2=aL1:=by kernel_rfl
theorem as_r3:doR cSe aL1 aR2=aR2:=by kernel_rfl
structure StY (W w:World) (s d tb:Nat) (v:Value) (L:List PRow) (q:Nat) (R:List SRow):Prop where
 st:StX w s d tb v L q R
 y:W.heap.size≤d∧W.heap.size≤tb∧∀ g,v.ownBlock=some g→W.heap.size≤g
 t:Touch (fun _=>False) W w
 lw:Lst W
theorem StY.l {W w:World} {s d tb:Nat} {v:Value} {L:List PRow} {q:Nat} {R:List SRow} (h:StY W w s d tb v L q R):Lst w:=Lst.touch h.lw h.t
theorem StY.quiet {W w w':World} {s d tb:Nat} {v:Value} {L:List PRow} {q:Nat} {R:List SRow} (h:StY W w s d tb v L q R) (T:Touch (fun _=>False) w w'):StY W w' s d tb v L q R :=
 ⟨h.st.quiet T,h.y,h.t.then T,h.lw⟩
theorem StY.stF {W w:World} {s d tb:Nat} {v:Value} {L:List PRow} {q:Nat} {R:List SRow} (h:StY W w s d tb v L q R):∀ g,stF d tb v g→W.heap.size≤g:=by
 rintro g (rfl | rfl | hg)
 ·exact h.y.1
 ·exact h.y.2.1
 ·exact h.y.2.2 g hg
theorem StY.step {W w w':World} {s d tb:Nat} {v v':Value} {L L':List PRow} {q q':Nat} {R R':List SRow} (h:StY W w s d tb v L q R) (hs:StX w' s d tb v' L' q' R') (hf:Fresh w v v') (T:Touch (Go.Proofs.YthockgmbooefpaaGreatDoor.stF d tb v) w w'):StY W w' s d tb v' L' q' R':=by
 have ht:Touch (fun _=>False) W w':=h.t.trans T (fun g hg e=>by have:=h.stF g e;omega)
 refine ⟨hs,⟨h.y.1,h.y.2.1,fun g hg=>?_⟩,ht,h.lw⟩
 ·rcases hf with e | ⟨g',e,hg'⟩
  ·exact h.y.2.2 g (by rw [← e];exact hg)
  ·rw [e] at hg
   injection hg with hg
   have:=h.t.size
   omega
theorem snew_y (w:World) (hL:Lst w):Calls Tryz.prog 9 #[] w fun e w'=>∃ s d tb,e=.returned (ptrV s)∧StY w w' s d tb (.slice none 0 0) [] 0 [] :=
 (snew_any w hL).mono (by
   rintro e w' ⟨s,d,tb,rfl,hs,h1,h2,h3,T⟩
   exact ⟨s,d,tb,rfl,hs,⟨h2,h3,fun g hg=>by simp [Value.ownBlock] at hg⟩,T,hL⟩)
theorem StX.keep {w w':World} {s d tb:Nat} {v:Value} {L:List PRow} {q:Nat} {R:List SRow} (h:StX w s d tb v L q R) (T:Touch (Go.Proofs.YthockgmbooefpaaGreatDoor.stF d tb v) w w') {g:Nat} {t:TypeId} {cs:Array Value} (hb:Blk w g t cs) (ht:offT t):Blk w' g t cs :=
 hb.touch T (fun e=>by
  obtain ⟨o1,o2,o3,o4,o5⟩:=ht
  rcases e with rfl | e
  ·exact (blk_ty hb).ne h.dct.ty o2 rfl
  ·rcases fp_ty h.tab e with k | k
   ·exact (blk_ty hb).ne k o3 rfl
   ·exact (blk_ty hb).ne k o4 rfl)
theorem off_cmd:offT 29 := by unfold offT dctT;decide
theorem sdo_y {W:World} (w:World) {s d tb:Nat} {v:Value} {L:List PRow} {q:Nat} {R:List SRow} (h:StY W w s d tb v L q R) (c:CmdP) (hc:c.Wf) :
  Calls Tryz.prog 10 #[ptrV s,c.val] w fun e w'=>e=.returned (ansV (doA c L R))∧(∃ v' q',StY W w' s d tb v' (doL c L R) q' (doR c L R))∧Touch (stF d tb v) w w' :=
 (sdo_any w h.l h.st c hc).mono (by
   rintro e w' ⟨rfl,⟨v',⟨q',hs⟩,hf⟩,T⟩
   exact ⟨rfl,⟨v',q',h.step hs hf T⟩,T⟩)
theorem sdo_yf {W:World} (w:World) {s d tb:Nat} {v:Value} {L:List PRow} {q:Nat} {R:List SRow} (h:StY W w s d tb v L q R) (c:CmdP) (hc:c.Wf) :
  Calls Tryz.prog 10 #[ptrV s,c.val] w fun e w'=>e=.returned (ansV (doA c L R))∧(∃ v' q',StY W w' s d tb v' (doL c L R) q' (doR c L R)∧Fresh w v v')∧Touch (stF d tb v) w w' :=
 (sdo_any w h.l h.st c hc).mono (by
   rintro e w' ⟨rfl,⟨v',⟨q',hs⟩,hf⟩,T⟩
   exact ⟨rfl,⟨v',q',h.step hs hf T,hf⟩,T⟩)
theorem fresh_next {w w2:World} {v v' v3:Value} (h:Fresh w v v') (h2:Fresh w2 v' v3) (hs:w.heap.size≤w2.heap.size):Fresh w v v3:=by
 rcases h2 with e | ⟨g,e,hg⟩
 ·rcases h with e1 | ⟨g1,e1,hg1⟩
  ·exact .inl (e.trans e1)
  ·exact .inr ⟨g1,e.trans e1,hg1⟩
 ·exact .inr ⟨g,e,Nat.le_trans hs hg⟩
theorem stF_back {w:World} {d tb g:Nat} {v v':Value} (h:Fresh w v v') (hg:g<w.heap.size) (e:stF d tb v' g):stF d tb v g:=by
 rcases e with e | e | e
 ·exact .inl e
 ·exact .inr (.inl e)
 ·rcases h with e1 | ⟨g1,e1,hg1⟩
  ·exact .inr (.inr (by rw [← e1];exact e))
  ·rw [e] at e1
   injection e1 with e1
   omega
theorem alive16_any (w:World) (hL:Lst w):Calls Tryz.prog 24 #[] w fun e w'=>e=.returned (.bool true)∧Touch (fun _=>False) w w':=by
 have HN:=hide (snew_y w hL)
 clear hL
 go_enter Tryz.func24,Tryz.ntmps24
 go_wp2_with fail
 refine HN.out.mono ?_
 rintro e w1 ⟨s,d,tb,rfl,hy⟩
 have HC1:=hide (sdo_y w1 hy cOp (by unfold CmdP.Wf;decide))
 rw [as_a1,as_l1,as_r1] at HC1
 simp only [ansV,CmdP.val,cOp] at HC1
 clear hy HN
 go_wp2_with fail
 refine HC1.out.mono ?_
 rintro e w2 ⟨rfl,⟨v2,q2,hy2⟩,-⟩
 have HC2:=hide (fun (wx:World) (T:Touch (fun _=>False) w2 wx)=>sdo_y wx (hy2.quiet T) cSe (by unfold CmdP.Wf;decide))
 rw [as_a2,as_l2,as_r2] at HC2
 simp only [ansV,CmdP.val,cSe] at HC2
 obtain ⟨wa,hwa⟩:∃ y,y=(w2.alloc (.cells #[.int .i64 0,.int .u64 1,.int .i64 0] 32)).alloc (.cells #[.int .i64 2,.int .u64 1,.int .u64 1,.string ⟨#[97,98]⟩,.int .i64 5] 29):=⟨_,rfl⟩
 obtain ⟨ga,hga⟩:∃ y,y=w2.heap.size:=⟨_,rfl⟩
 obtain ⟨gc,hgc⟩:∃ y,y=w2.heap.size+1:=⟨_,rfl⟩
 have hTa:Touch (fun _=>False) w2 wa:=by rw [hwa];exact ((Touch.refl _ _).alloc _).alloc _
 have haB:Blk wa ga 32 #[.int .i64 0,.int .u64 1,.int .i64 0]:=by rw [hwa,hga];exact (Blk.new _ _ _).alloc _
 have hcB:Blk wa gc 29 #[.int .i64 2,.int .u64 1,.int .u64 1,.string ⟨#[97,98]⟩,.int .i64 5]:=by
  have h1:=Blk.new (w2.alloc (.cells #[.int .i64 0,.int .u64 1,.int .i64 0] 32)) 29 #[.int .i64 2,.int .u64 1,.int .u64 1,.string ⟨#[97,98]⟩,.int .i64 5]
  rw [hwa,hgc];simpa using h1
 have HYA:=hide (hy2.quiet hTa)
 have HC2:=hide (sdo_y wa HYA.out cSe (by unfold CmdP.Wf;decide))
 rw [as_a2,as_l2,as_r2] at HC2
 simp only [ansV,CmdP.val,cSe] at HC2
 have HWA:=hide hwa
 have HGA:=hide hga
 have HGC:=hide hgc
 have HAB:=hide haB
 have HCB:=hide hcB
 clear hy2 HC1 hwa hga hgc hTa haB hcB
 go_upto_region 6 with fail
 rw [← HWA.out,← HGC.out,← HGA.out]
 obtain ⟨c0,c1,c2⟩:=HCB.out.facts
 go_wp2_with fail
 refine HC2.out.mono ?_
 rintro e w3 ⟨rfl,⟨v3,q3,hy3⟩,T3⟩
 obtain ⟨wb,hwb⟩:∃ y,y=w3.alloc (.cells #[.int .i64 0,.int .u64 0,.int .i64 0] 32):=⟨_,rfl⟩
 obtain ⟨gb,hgb⟩:∃ y,y=w3.heap.size:=⟨_,rfl⟩
 have hTb:Touch (fun _=>False) w3 wb:=by rw [hwb];exact (Touch.refl _ _).alloc _
 have hbB:Blk wb gb 32 #[.int .i64 0,.int .u64 0,.int .i64 0]:=by rw [hwb,hgb];exact Blk.new _ _ _
 have HAB3:=hide ((HYA.out.st.keep T3 HAB.out off_ans).touch hTb (fun f=>f))
 have HCB3:=hide ((HYA.out.st.keep T3 HCB.out off_cmd).touch hTb (fun f=>f))
 have HYB:=hide (hy3.quiet hTb)
 have HC3:=hide (sdo_y wb HYB.out cSe (by unfold CmdP.Wf;decide))
 rw [as_a3,as_l3,as_r3] at HC3
 simp only [ansV,CmdP.val,cSe] at HC3
 have HWB:=hide hwb
 have HGB:=hide hgb
 have HBB:=hide hbB
 clear hy3 T3 HC2 hwb hgb hTb hbB c0 c1 c2
 go_upto_region 7 with fail
 rw [← HWB.out,← HGB.out]
 obtain ⟨c0,c1,c2⟩:=HCB3.out.facts
 go_wp2_with fail
 refine HC3.out.mono ?_
 rintro e w4 ⟨rfl,⟨v4,q4,hy4⟩,T4⟩
 obtain ⟨wd,hwd⟩:∃ y,y=w4.alloc (.cells #[.int .i64 0,.int .u64 0,.int .i64 0] 32):=⟨_,rfl⟩
 obtain ⟨gd,hgd⟩:∃ y,y=w4.heap.size:=⟨_,rfl⟩
 have hTd:Touch (fun _=>False) w4 wd:=by rw [hwd];exact (Touch.refl _ _).alloc _
 have hdB:Blk wd gd 32 #[.int .i64 0,.int .u64 0,.int .i64 0]:=by rw [hwd,hgd];exact Blk.new _ _ _
 have HAB4:=hide ((HYB.out.st.keep T4 HAB3.out off_ans).touch hTd (fun f=>f))
 have HBB4:=hide ((HYB.out.st.keep T4 HBB.out off_ans).touch hTd (fun f=>f))
 have HYD:=hide (hy4.quiet hTd)
 have HWR:=hide (words_st wd HYD.out.l HYD.out.st)
 have HWD:=hide hwd
 have HGD:=hide hgd
 have HDB:=hide hdB
 clear hy4 T4 HC3 hwd hgd hTd hdB c0 c1 c2
 go_upto_region 8 with fail
 rw [← HWD.out,← HGD.out]
 go_wp2_with fail
 refine HWR.out.mono ?_
 rintro e w5 ⟨A5,c5,rfl,hp5,T5⟩
 obtain ⟨x0,x1,x2⟩:=(HAB4.out.touch T5 (fun f=>f)).facts
 obtain ⟨x3,x4,x5⟩:=(HBB4.out.touch T5 (fun f=>f)).facts
 obtain ⟨x6,x7,x8⟩:=(HDB.out.touch T5 (fun f=>f)).facts
 obtain ⟨g5,hA5,hg5,p0,p1,_,_⟩:=pown_at hp5 rfl 0 (by decide)
 subst hA5
 simp only [aL1,List.getD_cons_zero,Nat.zero_mul,Nat.zero_add,List.length_cons,List.length_nil] at p0 p1 ⊢
 have HT5:=hide (HYD.out.t.then T5)
 clear hp5 T5 HWR
 go_wp2_with fail
 go_ret
 exact ⟨by simp,HT5.out⟩
end Go.Proofs.YthockgmbooefpaaGreatDoor
namespace Go.Proofs.YthockgmbooefpaaGreatDoor
open Go.RowKit
theorem few_any (w:World) (A:Option Addr) (n c:Nat):Calls Tryz.prog 23 #[.slice A n c] w fun e w'=>e=.returned (.bool (decide ((n:Int)≤400)))∧w=w':=by
 go_enter Tryz.func23,Tryz.ntmps23
 go_wp2
 go_ret
 exact ⟨rfl,rfl⟩
end Go.Proofs.YthockgmbooefpaaGreatDoor
