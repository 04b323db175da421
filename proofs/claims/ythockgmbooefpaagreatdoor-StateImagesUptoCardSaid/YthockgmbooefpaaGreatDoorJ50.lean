/- What the laws of states rest on. Conditions: those that each theorem names. -/
import Derived.Test.YthockgmbooefpaaGreatDoorJ36
import Derived.Test.YthockgmbooefpaaGreatDoorJ39
set_option linter.unusedSectionVars false
set_option linter.unusedSimpArgs false
set_option linter.unusedVariables false
namespace Go.Proofs.YthockgmbooefpaaGreatDoor
open Go.RowKit
set_option maxRecDepth 100000 in
set_option maxHeartbeats 2000000 in
theorem rsum2_any (w:World) (A:Option Addr) (n c:Nat) (bs:List UInt8) (hR:Reads w 1 A n (bs.map byteV)) (hl:bs.length=n) (hn:n≤35184372088832) :
  Calls Tryz.prog 129 #[.slice A n c] w fun e w'=>e=.returned (.int .u32 ((sumB bs:Nat):Int))∧Touch (fun _=>False) w w':=by
 have HR:=hide hR
 have HL:=hide hl
 have HN:=hide hn
 clear hR hl hn
 go_enter Tryz.func129,Tryz.ntmps129
 go_wp2_with fail
 go_loopw [3,4] (fun sv iv wr=>∃ (i:Nat),sv=.int .u32 ((crcF (bs.take i):Nat):Int)∧iv=.int .i64 i∧i≤n∧wr=w) (fun _ iv _=>n-(intOf iv).toNat)
 case atStart=>exact ⟨0,rfl,rfl,Nat.zero_le _,rfl⟩
 case round =>
  obtain ⟨i,rfl,rfl,hin',rfl⟩:=hrel
  obtain ⟨wo,hwo⟩:∃ y,y=wr:=⟨_,rfl⟩
  subst hwo
  by_cases hin:i<n
  ·have y0:(i:Int)<(n:Int):=by omega
   have y1:(0:Int)≤(i:Int):=by omega
   have y2:IntKind.i64.wrap ((i:Int)+1)=(i:Int)+1:=IntWalk.i64_in _ (by have:=HN.out;omega)
   obtain ⟨gl,ol,hAl,hgl,l0⟩:=byte_atB HR.out i hin HL.out
   subst hAl
   obtain ⟨b,hb⟩:∃ b,b=bs.getD i 0:=⟨_,rfl⟩
   have hsn:crcF (bs.take (i+1))=crcRep 8 (crcF (bs.take i) ^^^ b.toNat):=by rw [btake_succ bs i (by rw [HL.out];exact hin),crcF_snoc,hb];rfl
   rw [← hb] at l0
   obtain ⟨s,hs⟩:∃ s,s=crcF (bs.take i):=⟨_,rfl⟩
   rw [← hs] at hsn
   have hslt:s<4294967296:=by rw [hs];exact crcF_lt _
   obtain ⟨v,hv⟩:∃ v:Nat,v=b.toNat:=⟨_,rfl⟩
   have hvlt:v<256:=by rw [hv];exact b.toNat_lt
   rw [← hv] at l0 hsn
   have m0:IntKind.u32.wrap (v:Int)=(v:Int):=by rw [IntKind.wrap_u32];omega
   have m1:bits .xor .u32 (s:Int) (v:Int)=((s ^^^ v:Nat):Int):=u32_xor_nat s v hslt (by omega)
   obtain ⟨x,hx⟩:∃ x,x=s ^^^ v:=⟨_,rfl⟩
   have hxlt:x<4294967296:=by rw [hx];exact Nat.xor_lt_two_pow (n:=32) hslt (by omega)
   rw [← hx] at m1 hsn
   have HSN:=hide hsn
   have HXL:=hide hxlt
   have HIN:=hide hin
   have HS:=hide hs
   rw [← hs]
   clear hb hs hsn hv hx hxlt hin hin' hslt hvlt
   go_wp2_with fail
   go_loopw [3,5] (fun sv kv wr=>∃ (k:Nat),sv=.int .u32 ((crcRep k x:Nat):Int)∧kv=.int .i64 k∧k≤8∧wr=wo) (fun _ kv _=>8-(intOf kv).toNat)
   case atStart=>exact ⟨0,rfl,rfl,by omega,rfl⟩
   case round =>
    obtain ⟨k,rfl,rfl,hk',hwr⟩:=hrel
    subst hwr
    by_cases hk:k<8
    ·have k0:(k:Int)<8:=by omega
     have k1:(0:Int)≤(k:Int):=by omega
     have k2:IntKind.i64.wrap ((k:Int)+1)=(k:Int)+1:=IntWalk.i64_in _ (by omega)
     obtain ⟨r,hr⟩:∃ r,r=crcRep k x:=⟨_,rfl⟩
     have hrlt:r<4294967296:=by rw [hr];exact crcRep_lt HXL.out k
     have hnx:crcRep (k+1) x=crcBit r:=by rw [hr];rfl
     rw [← hr]
     have hq:(r:Int) / 2=((r / 2:Nat):Int):=by omega
     have q2:(r:Int) / 2 % 4294967296=(r:Int) / 2:=by omega
     have HNX:=hide hnx
     have HK:=hide hk
     rcases Nat.mod_two_eq_zero_or_one r with h2 | h2
     ·have p0:(r:Int) % 2=0:=by omega
      have HB:Hid (crcBit r=r / 2):=hide (by unfold crcBit;rw [if_neg (by omega)])
      clear hr hrlt hnx hk hk' h2 hq
      go_wp2_with fail
      go_roundw
      ·exact ⟨k+1,by rw [HNX.out,HB.out];simp,by simp,by have:=HK.out;omega,trivial⟩
      ·have:=HK.out
       simp only [intOf]
       omega
     ·have p0:(r:Int) % 2=1:=by omega
      have HB:Hid (crcBit r=(r / 2) ^^^ 2197175160):=hide (by unfold crcBit;rw [if_pos h2])
      have m2:bits .xor .u32 ((r / 2:Nat):Int) 2197175160=(((r / 2) ^^^ 2197175160:Nat):Int):=u32_xor_nat (r / 2) 2197175160 (by omega) (by decide)
      rw [← hq] at m2
      obtain ⟨y,hy⟩:∃ y,y=(r / 2) ^^^ 2197175160:=⟨_,rfl⟩
      rw [← hy] at m2 HB
      clear hr hrlt hnx hk hk' h2 hy hq
      go_wp2_with fail
      go_roundw
      ·exact ⟨k+1,by rw [HNX.out,HB.out],by simp,by have:=HK.out;omega,trivial⟩
      ·have:=HK.out
       simp only [intOf]
       omega
    ·have k0:¬ (k:Int)<8:=by omega
     have hk8:k=8:=by omega
     subst hk8
     clear hk hk' k0
     go_wp2_with fail
     go_roundw
     ·exact ⟨i+1,by rw [HSN.out],by simp,by have:=HIN.out;omega,trivial⟩
     ·have:=HIN.out
      simp only [intOf]
      omega
  ·have y0:¬ (i:Int)<(n:Int):=by omega
   have hie:bs.take i=bs:=List.take_of_length_le (by rw [HL.out];omega)
   rw [hie]
   have hlt:=crcF_lt bs
   obtain ⟨s,hs⟩:∃ s,s=crcF bs:=⟨_,rfl⟩
   have m3:IntKind.u32.wrap (4294967295-(s:Int))=4294967295-(s:Int):=by rw [IntKind.wrap_u32];omega
   have HTT:Hid (((sumB bs:Nat):Int)=4294967295-(s:Int)):=hide (by unfold sumB;omega)
   rw [← hs]
   clear hs hie hlt hin hin'
   go_wp2_with fail
   go_ret
   exact ⟨by rw [HTT.out];rfl,Touch.refl _ _⟩
end Go.Proofs.YthockgmbooefpaaGreatDoor
namespace Go.Proofs.YthockgmbooefpaaGreatDoor
open Go.RowKit
theorem one_bytes (bs:List UInt8):∀ u∈bs.map byteV,u.oneCell'=true:=by
 intro u hu
 obtain ⟨b,_,rfl⟩:=List.mem_map.1 hu
 rfl
theorem ruint9 (w:World) (n:Nat) (hn:n<18446744073709551616) :
  Calls Tryz.prog 68 #[.int .u64 n] w fun e w'=>∃ (A:Option Addr) (q c:Nat),e=.returned (.slice A q c)∧ONx 5 1 w w' (.slice A q c) q ((varN n).map byteV)∧q≤10 :=
 ruint_any 9 (Nat.le_refl _) w n (Nat.lt_of_lt_of_le hn (by decide)) hn
set_option maxRecDepth 100000 in
set_option maxHeartbeats 2000000 in
theorem rputb_any (w:World) (A:Option Addr) (n c:Nat) (bs:List UInt8) (hR:Reads w 1 A n (bs.map byteV)) (hA:A=none→n=0∧c=0) (hl:bs.length=n) (hn:n≤17592186044416) :
  Calls Tryz.prog 67 #[.slice A n c] w fun e w'=>∃ (A':Option Addr) (q' c':Nat),e=.returned (.slice A' q' c')∧ONx 5 1 w w' (.slice A' q' c') q' ((varN n++bs).map byteV)∧q'≤n+10:=by
 obtain ⟨i0,hi0,hz0,hz1,hz2⟩:=info_parts infoByte
 have HP:=hide (ruint9 w n (by omega))
 have HR:=hide hR
 have HN:=hide hn
 have HA:=hide hA
 have z1:IntKind.u64.wrap (n:Int)=(n:Int):=IntWalk.u64_in _ (by omega)
 clear hR hn hA hl
 go_enter Tryz.func67,Tryz.ntmps67
 go_wp2_with fail
 refine HP.out.mono ?_
 rintro e w1 ⟨A1,q1,c1,rfl,h1,hq1⟩
 have HO:=hide h1
 have HQ:=hide hq1
 have HRD:=hide (HR.out.touch h1.touch (fun _ _ f=>f))
 have HONE:=hide (one_bytes bs)
 have HBB:Hid (q1+n≤maxLen∧(q1+n)*1≤140737488355328):=hide (by have:=HN.out;unfold maxLen;omega)
 clear h1 hq1 HP
 go_wp2_with (at_builtin;refine wpList_app _ rfl (.tmp 8) (.tmp 9) 50 rfl 5 i0 _ 1 1 Tryz.underlying50 hi0 hz0 hz1 hz2 rfl (by decide) (.slice A1 q1 c1) q1 _ rfl HO.out.own A n c (bs.map byteV) rfl HRD.out HA.out HONE.out HBB.out.1 HBB.out.2 ?_;intro v2 w2 O2 G2 F2 _;obtain ⟨A2,c2,hv,_,_⟩:=own_len O2;subst hv;have HO2:=hide (HO.out.app O2 G2 F2);clear O2 G2 F2)
 go_ret
 refine ⟨A2,q1+n,c2,rfl,?_,by have:=HQ.out;omega⟩
 have h:=HO2.out
 rw [List.map_append]
 exact h
theorem sum4_take (s:Nat) (k:Nat) (hk:k<4):(sum4 s).take (k+1)=(sum4 s).take k++[UInt8.ofNat (s / 256 ^ k % 256)]:=by
 unfold sum4
 rcases k with _ | _ | _ | _ | k
 ·simp
 ·simp
 ·simp
 ·simp
 ·omega
set_option maxRecDepth 100000 in
set_option maxHeartbeats 2000000 in
theorem rseal_any (w:World) (A:Option Addr) (n c:Nat) (bs:List UInt8) (hR:Reads w 1 A n (bs.map byteV)) (hA:A=none→n=0∧c=0) (hl:bs.length=n) (hn:n≤17592186044416) :
  Calls Tryz.prog 69 #[.slice A n c] w fun e w'=>∃ (A':Option Addr) (q' c':Nat) (k:Int),e=.returned (.tuple #[.slice A' q' c',.int .i64 k])∧ONx 5 1 w w' (.slice A' q' c') q' ((if n≤2097152 then sealB bs else []).map byteV)∧k=(if n≤2097152 then 0 else 22):=by
 obtain ⟨i0,hi0,hz0,hz1,hz2⟩:=info_parts infoByte
 by_cases hb:n≤2097152
 ·have k0:¬ (2097152:Int)<(n:Int):=by omega
  simp only [hb,if_true]
  have HS:=hide (rsum2_any w A n c bs hR hl (by omega))
  have HP:=hide (fun (wx:World) (T:Touch (fun _=>False) w wx)=>rputb_any wx A n c bs (hR.touch T (fun _ _ f=>f)) hA hl hn)
  have HB:=hide hb
  have HL:=hide hl
  obtain ⟨s,hs⟩:∃ s,s=sumB bs:=⟨_,rfl⟩
  have hslt:s<4294967296:=by rw [hs];unfold sumB;omega
  rw [← hs] at HS
  have HSS:=hide hs
  have HSL:=hide hslt
  clear hb hl hR hA hn hs hslt
  go_enter Tryz.func69,Tryz.ntmps69
  go_wp2_with fail
  refine HS.out.mono ?_
  rintro e w1 ⟨rfl,T1⟩
  have HT1:=hide T1
  have HP1:=hide (HP.out w1 T1)
  clear T1 HS HP
  go_wp2_with fail
  refine HP1.out.mono ?_
  rintro e w2 ⟨A2,q2,c2,rfl,h2,hq2⟩
  have HO:=hide h2
  have HQ:=hide hq2
  clear h2 hq2 HP1
  go_wp2_with fail
  go_loopw [5,4,6] (fun bv sv kv wr=>∃ (k:Nat) (A3:Option Addr) (c3:Nat),bv=.slice A3 (q2+k) c3∧sv=.int .u32 ((s / 256 ^ k:Nat):Int)∧kv=.int .i64 k∧k≤4∧Hid (ONx 5 1 w1 wr (.slice A3 (q2+k) c3) (q2+k) ((varN n++bs++(sum4 s).take k).map byteV))) (fun _ _ kv _=>4-(intOf kv).toNat)
  case atStart=>exact ⟨0,A2,c2,rfl,by simp,rfl,by omega,hide (by simpa using HO.out)⟩
  case round =>
   obtain ⟨k,A3,c3,rfl,rfl,rfl,hk',HX⟩:=hrel
   obtain ⟨wo,hwo⟩:∃ y,y=wr:=⟨_,rfl⟩
   subst hwo
   by_cases hk:k<4
   ·have y0:(k:Int)<4:=by omega
    have y1:(0:Int)≤(k:Int):=by omega
    have y2:IntKind.i64.wrap ((k:Int)+1)=(k:Int)+1:=IntWalk.i64_in _ (by omega)
    have htk:=sum4_take s k hk
    have hnx:s / 256 ^ (k+1)=s / 256 ^ k / 256:=by rw [Nat.pow_succ,Nat.div_div_eq_div_mul]
    obtain ⟨r,hr⟩:∃ r,r=s / 256 ^ k:=⟨_,rfl⟩
    have hrlt:r<4294967296:=by rw [hr];exact Nat.lt_of_le_of_lt (Nat.div_le_self _ _) HSL.out
    rw [← hr] at htk hnx
    rw [← hr]
    have m1:(r:Int) % 256 % 256=(r:Int) % 256:=by omega
    have m2:(r:Int) / 256 % 4294967296=(r:Int) / 256:=by omega
    have m4:(r:Int) % 256 % 4294967296=(r:Int) % 256:=by omega
    obtain ⟨wa,hwa⟩:∃ y,y=wo.alloc (.cells #[.int .u8 ((r:Int) % 256)] 5):=⟨_,rfl⟩
    have hTa:Touch (fun _=>False) wo wa:=by rw [hwa];exact (Touch.refl _ _).alloc _
    have hrd:Reads wa 1 (some ⟨wo.heap.size,0,none⟩) 1 [.int .u8 ((r:Int) % 256)]:=by
     rw [hwa]
     have h:=Reads.new (size:=1) wo 5 [.int .u8 ((r:Int) % 256)] 1 rfl
     simpa using h
    have hone:∀ u∈([.int .u8 ((r:Int) % 256)]:List Value),u.oneCell'=true:=by
     intro u hu
     rw [List.mem_singleton] at hu
     subst hu
     rfl
    have HXA:=hide (HX.out.to hTa)
    have HWA:=hide hwa
    have HRD:=hide hrd
    have HONE:=hide hone
    have HBB:Hid (q2+k+1≤maxLen∧(q2+k+1)*1≤140737488355328):=hide (by have:=HQ.out;have:=HB.out;unfold maxLen;omega)
    have HTK:=hide htk
    have HNX:=hide hnx
    have HK:=hide hk
    clear hr hrlt hwa hTa hrd hone htk hnx hk hk'
    go_wp2_with (at_builtin;rw [← HWA.out];refine wpList_app _ rfl (.tmp 18) (.tmp 22) 50 rfl 5 i0 _ 1 1 Tryz.underlying50 hi0 hz0 hz1 hz2 rfl (by decide) (.slice A3 (q2+k) c3) (q2+k) _ rfl HXA.out.own (some ⟨wo.heap.size,0,none⟩) 1 1 [.int .u8 ((r:Int) % 256)] rfl HRD.out (fun h=>by cases h) HONE.out HBB.out.1 HBB.out.2 ?_;intro v3 w3 O3 G3 F3 _;obtain ⟨A4,c4,hv,_,_⟩:=own_len O3;subst hv;have HO3:=hide (HXA.out.app O3 G3 F3);clear O3 G3 F3)
    go_roundw
    ·refine ⟨k+1,A4,c4,rfl,by rw [HNX.out];simp,by simp,by have:=HK.out;omega,hide ?_⟩
     rw [HTK.out,← List.append_assoc,List.map_append]
     simp only [List.map_cons,List.map_nil]
     rw [byteV_nat (by omega)]
     have h:=HO3.out
     rw [Nat.add_assoc] at h
     simpa using h
    ·have:=HK.out
     simp only [intOf]
     omega
   ·have y0:¬ (k:Int)<4:=by omega
    have hk4:k=4:=by omega
    subst hk4
    clear hk hk'
    go_wp2_with fail
    go_ret2
    refine ⟨A3,q2+4,c3,rfl,?_⟩
    unfold sealB
    rw [← HSS.out,HL.out]
    exact HX.out.from HT1.out
 ·have k0:(2097152:Int)<(n:Int):=by omega
  simp only [hb,if_false]
  clear hR hA hl hn hb
  go_enter Tryz.func69,Tryz.ntmps69
  go_wp2_with fail
  go_ret2
  exact ⟨none,0,0,22,rfl,ONx.nil _ _ _,rfl⟩
end Go.Proofs.YthockgmbooefpaaGreatDoor
namespace Go.Proofs.YthockgmbooefpaaGreatDoor
open Go.RowKit
theorem stsOk_od {w:World} {A:Option Addr} {n:Nat} {Z:List SV} (h:StsOk w A n Z):StsOd w A n Z :=
 ⟨⟨h.rd.rd,fun hn g hg=>.inr (h.rd.ty hn g hg)⟩,h.len,fun z hz=>⟨(h.el z hz).len,⟨(h.el z hz).rd.rd,fun hn g hg=>.inr ((h.el z hz).rd.ty hn g hg)⟩,(h.el z hz).le,(h.el z hz).mx⟩⟩
theorem rdbytes_any (w:World) (L:List PRow) (hD:DictP L) (A:Option Addr) (n c:Nat) (Z:List SV) (hst:StsOk w A n Z) (hz:Z.map SV.p=(mach L).states) :
  Calls Tryz.prog 65 #[.agg #[.int .i64 (mach L).base,.slice A n c]] w fun e w'=>∃ (A':Option Addr) (q c':Nat),e=.returned (.slice A' q c')∧ONx 5 1 w w' (.slice A' q c') q ((mB L).map byteV):=by
 have hb:=base_mach hD
 obtain ⟨bn,hbn⟩:∃ bn:Nat,(mach L).base=(bn:Int):=⟨(mach L).base.toNat,by omega⟩
 have hn:n=(mach L).states.length:=by rw [← hz,List.length_map];exact hst.len.symm
 have hr:=right_mach hD
 unfold mB
 rw [← hz] at hr ⊢
 rw [hbn] at hr ⊢
 refine rbytes_any w bn A n c Z (stsOk_od hst) (by omega) (by rw [hn];exact mach_few hD) (fun i hi=>?_) (Nat.zero_le _)
 rcases hr with ⟨h,_⟩ | h
 ·have:Z=[]:=by simpa using h
  rw [this] at hst
  have:=hst.len
  simp at this
  omega
 ·have hf:=h.form i (by rw [List.length_map,hst.len];exact hi)
  have e:(Z.map SV.p).getD i noSt=(Z.getD i svZero).p:=by simp [List.getD,show i<Z.length by rw [hst.len];exact hi]
  rw [e] at hf
  exact hf
set_option maxRecDepth 100000 in
set_option maxHeartbeats 4000000 in
theorem rimage_any (w:World) (B0:Nat) {sl:SL} {L:List PRow} (hs:RfL B0 w sl L) (hD:DictP L) {A:Option Addr} {n c:Nat} {R:List SRow} (hr:RwL w A n c R) (hIn:∀ r∈R,r.In) :
  Calls Tryz.prog 26 #[.agg #[sl.val,.slice A n c]] w fun e w'=>∃ (A':Option Addr) (q' c':Nat),e=.returned (.slice A' q' c')∧ONx 5 1 w w' (.slice A' q' c') q' ((imgB L R).map byteV):=by
 have heq:=hs.eq
 obtain ⟨sA,sn,sc,sL⟩:=sl
 simp only at heq
 subst heq
 have hrl:=hr.len
 subst hrl
 obtain ⟨i0,hi0,hz0,hz1,hz2⟩:=info_parts infoByte
 obtain ⟨wa,hwa⟩:∃ z,z=w.alloc (.cells #[.slice sA sn sc,.slice A R.length c] 56):=⟨_,rfl⟩
 obtain ⟨rb,hrb⟩:∃ z,z=w.heap.size:=⟨_,rfl⟩
 have hTa:Touch (fun _=>False) w wa:=by rw [hwa];exact (Touch.refl _ _).alloc _
 have HBB:Hid (Blk wa rb 56 #[.slice sA sn sc,.slice A R.length c]):=hide (by rw [hwa,hrb];exact Blk.new _ _ _)
 have HMK:=hide (make_any wa ⟨sA,sn,sc,sL⟩ (hs.quiet hTa).ok hD (dict_sizes hD))
 have HBY:=hide (fun (wx:World) (A:Option Addr) (n c:Nat) (Z:List SV) (hst:StsOk wx A n Z) (hz:Z.map SV.p=(mach sL).states)=>rdbytes_any wx sL hD A n c Z hst hz)
 have HML:=hide (mB_len hD)
 have HRA:=hide (hr.quiet hTa)
 have HRF:=hide hr.few
 have HIN:=hide hIn
 have HTA:=hide hTa
 have HWA:=hide hwa
 have HRB0:=hide hrb
 obtain ⟨m,hm⟩:∃ m,m=mB sL:=⟨_,rfl⟩
 rw [← hm] at HBY HML
 obtain ⟨ba,hba⟩:∃ b,b=(mach sL).base:=⟨_,rfl⟩
 simp only [SL.val] at HMK ⊢
 rw [← hba] at HMK HBY
 have HM:=hide hm
 obtain ⟨b0,b1,b2⟩:=HBB.out.facts
 clear hs hD hr hIn hwa hrb hTa hm hba
 go_enter Tryz.func26,Tryz.ntmps26
 go_upto_region 1 with fail
 rw [← HWA.out,← HRB0.out]
 go_wp2_with fail
 refine HMK.out.mono ?_
 rintro e w1 ⟨A1,n1,c1,Z1,rfl,hst1,hz1,_,_,T1⟩
 have HT1:=hide T1
 have HB1:=hide (HBY.out w1 A1 n1 c1 Z1 hst1 hz1)
 clear hst1 hz1 T1 HMK HBY
 go_wp2_with fail
 refine HB1.out.mono ?_
 rintro e w2 ⟨A2,q2,c2,rfl,h2⟩
 have HO2:=hide h2
 have HQ2:=hide (own_u8 h2.own)
 have HT2:=hide (HT1.out.then h2.touch)
 have HP2:=hide (rputb_any w2 A2 q2 c2 m (Reads.of_own h2.own) (own_nilOk h2.own) (own_u8 h2.own) (by have:=own_u8 h2.own;have:=HML.out;omega))
 clear h2 HB1
 go_wp2_with fail
 refine HP2.out.mono ?_
 rintro e w3 ⟨A3,q3,c3,rfl,h3,hq3⟩
 have HO3:Hid (ONx 5 1 w w3 (.slice A3 q3 c3) q3 ((varN m.length++m).map byteV)):=hide (by rw [HQ2.out];exact h3.from (HTA.out.then HT2.out))
 have HQ3:=hide hq3
 have HT3:=hide (HT2.out.then h3.touch)
 have HB3:=hide (HBB.out.touch HT3.out (fun f=>f))
 have HU3:=hide (ruint9 w3 R.length (by have:=HRF.out;omega))
 have z1:IntKind.u64.wrap (R.length:Int)=(R.length:Int):=IntWalk.u64_in _ (by have:=HRF.out;omega)
 clear h3 hq3 HP2 b0 b1 b2
 obtain ⟨b0,b1,b2⟩:=HB3.out.facts
 go_wp2_with fail
 refine HU3.out.mono ?_
 rintro e w4 ⟨A4,q4,c4,rfl,h4,hq4⟩
 have HO4:=hide (HO3.out.to h4.touch)
 have HR4:=hide (Reads.of_own h4.own)
 have HN4:=hide (own_nilOk h4.own)
 have HONE4:=hide (one_bytes (varN R.length))
 have HBB4:Hid (q3+q4≤maxLen∧(q3+q4)*1≤140737488355328):=hide (by have:=HQ3.out;have:=HQ2.out;have:=HML.out;unfold maxLen;omega)
 have HT4:=hide (HT3.out.then h4.touch)
 clear h4 hq4 HU3 b0 b1 b2
 go_wp2_with (at_builtin;refine wpList_app _ rfl (.tmp 24) (.tmp 25) 50 rfl 5 i0 _ 1 1 Tryz.underlying50 hi0 hz0 hz1 hz2 rfl (by decide) (.slice A3 q3 c3) q3 _ rfl HO4.out.own A4 q4 c4 ((varN R.length).map byteV) rfl HR4.out HN4.out HONE4.out HBB4.out.1 HBB4.out.2 ?_;intro v5 w5 O5 G5 F5 _;obtain ⟨A5,c5,hv,_,_⟩:=own_len O5;subst hv;have HO5:=hide (HO4.out.app O5 G5 F5);have hT5:Touch (fun g=>(Value.slice A3 q3 c3).ownBlock=some g) w4 w5:=(Touch.refl _ _).grown G5 (fun k hk _=>hk);have HB5:=hide ((HBB.out.touch HT4.out (fun f=>f)).touch hT5 (fun e=>(blk_ty (HBB.out.touch HT4.out (fun f=>f))).ne (own_ty HO4.out.own e) (by decide) rfl));have HR5:=hide ((HRA.out.quiet HT4.out).touch hT5 (fun g hg e=>hg.ne (own_ty HO4.out.own e) (by decide) rfl));clear O5 G5 F5 hT5)
 have HX5:Hid (ONx 5 1 w w5 (.slice A5 (q3+q4) c5) (q3+q4) ((headI sL R.length).map byteV)):=hide (by
  have h:=HO5.out
  rw [← List.map_append] at h
  unfold headI
  rw [← HM.out]
  exact h)
 have HHL:Hid ((headI sL R.length).length≤8796093022228):=hide (by
  unfold headI
  have h1:=varN_len (mB sL).length
  have h2:=varN_len R.length
  have h3:=HML.out
  rw [HM.out] at h3
  simp only [List.length_append]
  omega)
 clear HO5
 go_loopw [4,6] (fun bv iv wr=>∃ (i:Nat) (A':Option Addr) (q' c':Nat),bv=.slice A' q' c'∧iv=.int .i64 i∧i≤R.length∧Hid (ONx 5 1 w wr (.slice A' q' c') q' ((headI sL R.length++(R.take i).flatMap rowB).map byteV))∧Hid (RwL wr A R.length c R)∧Hid (Blk wr rb 56 #[.slice sA sn sc,.slice A R.length c])) (fun _ iv _=>R.length-(intOf iv).toNat)
 case atStart=>exact ⟨0,A5,q3+q4,c5,rfl,rfl,Nat.zero_le _,hide (by simpa using HX5.out),HR5,HB5⟩
 case round =>
  obtain ⟨i,A6,q6,c6,rfl,rfl,hi',HX,HRo,HBo⟩:=hrel
  obtain ⟨wo,hwo⟩:∃ y,y=wr:=⟨_,rfl⟩
  subst hwo
  obtain ⟨b0,b1,b2⟩:=HBo.out.facts
  by_cases hi:i<R.length
  ·have y0:(i:Int)<(R.length:Int):=by omega
   have y1:(0:Int)≤(i:Int):=by omega
   have y2:IntKind.i64.wrap ((i:Int)+1)=(i:Int)+1:=IntWalk.i64_in _ (by have:=HRF.out;omega)
   obtain ⟨g1,hA1,hg1,hnc,d0,d1,d2,d3⟩:=rw_at HRo.out i hi
   subst hA1
   have hrm:R.getD i SRow.zero∈R:=by
    have e2:R.getD i SRow.zero=R[i]:=by simp [List.getD,hi]
    rw [e2];exact List.getElem_mem _
   have hri:=HIN.out _ hrm
   have htk:(R.take (i+1)).flatMap rowB=(R.take i).flatMap rowB++rowB (R.getD i SRow.zero):=by
    rw [List.take_succ_eq_append_getElem hi,List.flatMap_append]
    have e2:R.getD i SRow.zero=R[i]:=by simp [List.getD,hi]
    rw [e2]
    simp
   obtain ⟨⟨rs,rc,rr,rh⟩,hr⟩:∃ r,r=R.getD i SRow.zero:=⟨_,rfl⟩
   rw [← hr] at d0 d1 d2 d3 hri htk
   obtain ⟨i1,i2,i3,i4,i5,i6,i7,i8⟩:=hri
   simp only at d0 d1 d2 d3 i1 i2 i3 i4 i5 i6 i7 i8
   obtain ⟨sn',hsn⟩:∃ n:Nat,rs=(n:Int):=⟨rs.toNat,by omega⟩
   obtain ⟨cn,hcn⟩:∃ n:Nat,rc=(n:Int):=⟨rc.toNat,by omega⟩
   obtain ⟨an,han⟩:∃ n:Nat,rr=(n:Int):=⟨rr.toNat,by omega⟩
   obtain ⟨hn,hhn⟩:∃ n:Nat,rh=(n:Int):=⟨rh.toNat,by omega⟩
   subst hsn hcn han hhn
   have z2:IntKind.u64.wrap (cn:Int)=(cn:Int):=IntWalk.u64_in _ (by omega)
   have z3:IntKind.u64.wrap (hn:Int)=(hn:Int):=IntWalk.u64_in _ (by omega)
   have hrb:rowB ⟨(sn':Int),(cn:Int),(an:Int),(hn:Int)⟩=[sn',cn,an,hn].flatMap varN:=by unfold rowB rowNs;simp
   obtain ⟨ns,hns⟩:∃ ns,ns=[sn',cn,an,hn]:=⟨_,rfl⟩
   rw [hrb,← hns] at htk
   have hnl:ns.length=4:=by rw [hns];rfl
   have hnb:∀ k,k<4→ns.getD k 0<18446744073709551616:=by
    intro k hk
    rw [hns]
    rcases k with _ | _ | _ | _ | k
    ·simp;omega
    ·simp;omega
    ·simp;omega
    ·simp;omega
    ·omega
   obtain ⟨wb,hwb⟩:∃ y,y=(wo.alloc (.cells #[.int .u64 (sn':Int),.int .i64 (cn:Int),.int .u64 (an:Int),.int .i64 (hn:Int)] 136)).alloc (.cells #[.int .u64 (sn':Int),.int .u64 (cn:Int),.int .u64 (an:Int),.int .u64 (hn:Int)] 27):=⟨_,rfl⟩
   obtain ⟨gu,hgu⟩:∃ y,y=wo.heap.size+1:=⟨_,rfl⟩
   have hTb:Touch (fun _=>False) wo wb:=by rw [hwb];exact ((Touch.refl _ _).alloc _).alloc _
   have HUB:Hid (Blk wb gu 27 #[.int .u64 (sn':Int),.int .u64 (cn:Int),.int .u64 (an:Int),.int .u64 (hn:Int)]):=hide (by
    have h1:=Blk.new (wo.alloc (.cells #[.int .u64 (sn':Int),.int .i64 (cn:Int),.int .u64 (an:Int),.int .i64 (hn:Int)] 136)) 27 #[.int .u64 (sn':Int),.int .u64 (cn:Int),.int .u64 (an:Int),.int .u64 (hn:Int)]
    rw [hwb,hgu]
    simpa using h1)
   have HXA:=hide (HX.out.to hTb)
   have HRb:=hide (HRo.out.quiet hTb)
   have HBb:=hide (HBo.out.touch hTb (fun f=>f))
   have HWB:=hide hwb
   have HGU:=hide hgu
   have HTK:=hide htk
   have HNS:=hide hns
   have HNL:=hide hnl
   have HNB:=hide hnb
   have HI:=hide hi
   clear hr hrm i1 i2 i3 i4 i5 i6 i7 i8 hrb hns hnl hnb hwb hgu hTb htk hi hi' hg1 hnc
   go_upto_region 10 with fail
   rw [← HWB.out,← HGU.out]
   clear d0 d1 d2 d3 b0 b1 b2
   go_wp2_with fail
   go_loopw [4,9] (fun bv iv wr=>∃ (k:Nat) (A':Option Addr) (q' c':Nat),bv=.slice A' q' c'∧iv=.int .i64 k∧k≤4∧Hid (ONx 5 1 w wr (.slice A' q' c') q' ((headI sL R.length++(R.take i).flatMap rowB++(ns.take k).flatMap varN).map byteV))∧Hid (RwL wr (some ⟨g1,0,none⟩) R.length c R)∧Hid (Blk wr rb 56 #[.slice sA sn sc,.slice (some ⟨g1,0,none⟩) R.length c])∧Hid (Blk wr gu 27 #[.int .u64 (sn':Int),.int .u64 (cn:Int),.int .u64 (an:Int),.int .u64 (hn:Int)])) (fun _ iv _=>4-(intOf iv).toNat)
   case atStart=>exact ⟨0,A6,q6,c6,rfl,rfl,by omega,hide (by simpa using HXA.out),HRb,HBb,HUB⟩
   case round =>
    obtain ⟨k,A7,q7,c7,rfl,rfl,hk',HX7,HR7,HB7,HU7⟩:=hrel
    obtain ⟨wk,hwk⟩:∃ y,y=wr:=⟨_,rfl⟩
    subst hwk
    by_cases hk:k<4
    ·have k0:(k:Int)<4:=by omega
     have k1:(0:Int)≤(k:Int):=by omega
     have k2:IntKind.i64.wrap ((k:Int)+1)=(k:Int)+1:=IntWalk.i64_in _ (by omega)
     have hcell:wk.cell? ⟨gu,k,none⟩=some (.int .u64 ((ns.getD k 0:Nat):Int)):=by
      rw [HU7.out.cell k,HNS.out]
      rcases k with _ | _ | _ | _ | k
      ·rfl
      ·rfl
      ·rfl
      ·rfl
      ·omega
     have hnk:=HNB.out k hk
     have htk:(ns.take (k+1)).flatMap varN=(ns.take k).flatMap varN++varN (ns.getD k 0):=by
      have hk2:k<ns.length:=by rw [HNL.out];exact hk
      rw [List.take_succ_eq_append_getElem hk2,List.flatMap_append]
      have e2:ns.getD k 0=ns[k]:=by simp [List.getD,hk2]
      rw [e2]
      simp
     obtain ⟨x,hx⟩:∃ x,x=ns.getD k 0:=⟨_,rfl⟩
     rw [← hx] at hcell hnk htk
     have hql:q7≤8796093193229:=by
      have h1:=own_u8 HX7.out.own
      rw [← h1]
      have h2:=rowsB_len (R.take i)
      have h3:=HHL.out
      have h4:=HRF.out
      have h5:(R.take i).length≤R.length:=by rw [List.length_take];omega
      have h6:((ns.take k).flatMap varN).length≤40:=by
       have h7:∀ l:List Nat,(l.flatMap varN).length≤10*l.length:=by
        intro l
        induction l with
        | nil=>simp
        | cons a l ih=>have:=varN_len a;simp only [List.flatMap_cons,List.length_append,List.length_cons];omega
       have h8:=h7 (ns.take k)
       have h9:(ns.take k).length≤4:=by rw [List.length_take,HNL.out];omega
       omega
      simp only [List.length_append]
      omega
     have HPU:=hide (ruint9 wk x hnk)
     have HKK:=hide hk
     have HTK2:=hide htk
     have HQL:=hide hql
     have hgu2:gu<wk.heap.size:=HU7.out.lt
     clear hx hnk htk hql hk hk'
     go_wp2_with fail
     refine HPU.out.mono ?_
     rintro e w8 ⟨A8,q8,c8,rfl,h8,hq8⟩
     have HX8:=hide (HX7.out.to h8.touch)
     have HR8:=hide (HR7.out.quiet h8.touch)
     have HB8:=hide (HB7.out.touch h8.touch (fun f=>f))
     have HU8:=hide (HU7.out.touch h8.touch (fun f=>f))
     have HRD8:=hide (Reads.of_own h8.own)
     have HN8:=hide (own_nilOk h8.own)
     have HONE8:=hide (one_bytes (varN x))
     have HBB8:Hid (q7+q8≤maxLen∧(q7+q8)*1≤140737488355328):=hide (by have:=HQL.out;unfold maxLen;omega)
     clear h8 hq8 HPU hcell hgu2
     go_wp2_with (at_builtin;refine wpList_app _ rfl (.tmp 64) (.tmp 65) 50 rfl 5 i0 _ 1 1 Tryz.underlying50 hi0 hz0 hz1 hz2 rfl (by decide) (.slice A7 q7 c7) q7 _ rfl HX8.out.own A8 q8 c8 ((varN x).map byteV) rfl HRD8.out HN8.out HONE8.out HBB8.out.1 HBB8.out.2 ?_;intro v9 w9 O9 G9 F9 _;obtain ⟨A9,c9,hv,_,_⟩:=own_len O9;subst hv;have HO9:=hide (HX8.out.app O9 G9 F9);have hT9:Touch (fun g=>(Value.slice A7 q7 c7).ownBlock=some g) w8 w9:=(Touch.refl _ _).grown G9 (fun k hk _=>hk);have HB9:=hide (HB8.out.touch hT9 (fun e=>(blk_ty HB8.out).ne (own_ty HX8.out.own e) (by decide) rfl));have HU9:=hide (HU8.out.touch hT9 (fun e=>(blk_ty HU8.out).ne (own_ty HX8.out.own e) (by decide) rfl));have HR9:=hide (HR8.out.touch hT9 (fun g hg e=>hg.ne (own_ty HX8.out.own e) (by decide) rfl));clear O9 G9 F9 hT9)
     go_roundw
     ·exact ⟨k+1,A9,q7+q8,c9,rfl,by simp,by have:=HKK.out;omega,hide (by rw [HTK2.out,← List.append_assoc,List.map_append];exact HO9.out),HR9,HB9,HU9⟩
     ·have:=HKK.out
      simp only [intOf]
      omega
    ·have k0:¬ (k:Int)<4:=by omega
     have hke:ns.take k=ns:=List.take_of_length_le (by rw [HNL.out];omega)
     rw [hke] at HX7
     clear hk hk' hke
     go_wp2_with fail
     go_roundw
     ·exact ⟨i+1,A7,q7,c7,rfl,by simp,by have:=HI.out;omega,hide (by rw [HTK.out,← List.append_assoc];exact HX7.out),HR7,HB7⟩
     ·have:=HI.out
      simp only [intOf]
      omega
  ·have y0:¬ (i:Int)<(R.length:Int):=by omega
   have hie:R.take i=R:=List.take_of_length_le (by omega)
   have hx:=HX.out
   rw [hie] at hx
   have hbl:(bodyI sL R).length=q6:=own_u8 hx.own
   have hbd:q6≤8796093186068:=by
    rw [← hbl]
    unfold bodyI
    have h1:=rowsB_len R
    have h2:=HRF.out
    have h3:=HHL.out
    simp only [List.length_append]
    omega
   have hse:=rseal_any wo A6 q6 c6 (bodyI sL R) (Reads.of_own hx.own) (own_nilOk hx.own) hbl (by omega)
   rw [← hbl] at hse
   have HSE:=hide hse
   have HTX:=hide hx.touch
   rw [← hbl]
   clear hie hx hbl hbd hse hi hi'
   go_wp2_with fail
   refine HSE.out.mono ?_
   rintro e w9 ⟨A9,q9,c9,k9,rfl,h9,hk9⟩
   have HO9:=hide (h9.from HTX.out)
   clear h9 hk9 HSE
   go_wp2_with fail
   go_ret
   exact ⟨A9,q9,c9,rfl,HO9.out⟩
end Go.Proofs.YthockgmbooefpaaGreatDoor
