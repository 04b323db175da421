/- What the law rests on, part 16. No condition but those that each theorem names. -/
import Derived.Test.YthockgmbooefpaaGreatDoorL15
import Derived.Laws.Bits64b
import Derived.Laws.Cover3
import Derived.Test.YthockgmbooefpaaGreatDoorL04
set_option linter.unusedSectionVars false
set_option linter.unusedSimpArgs false
set_option linter.unusedVariables false
set_option maxRecDepth 100000
set_option maxHeartbeats 4000000
namespace Go.Proofs.YthockgmbooefpaaGreatDoor
open Go.RowKit
theorem u64_in (x:Nat) (h:x<18446744073709551616):IntKind.u64.wrap (x:Int)=(x:Int):=by rw [IntKind.wrap_u64];omega
theorem and127 (b:UInt8):bits .and .u8 (b.toNat:Int) 127=((b.toNat % 128:Nat):Int):=by
 have h:=bits_mask .u8 8 (by decide) (fun n h0 h1=>wraps_u8 n h0 h1) 7 (by decide) (b.toNat:Int) (by omega) (by have:=b.toNat_lt;omega)
 have e:(2:Int) ^ 7-1=127:=by decide
 rw [e] at h
 rw [h]
 omega
theorem p128 (k:Nat):(2:Nat) ^ (7*k)=128 ^ k:=by rw [Nat.pow_mul]
theorem or_num (acc x k:Nat) (hk:k≤9) (ha:acc<128 ^ k) (hx:x*128 ^ k<18446744073709551616):bits .or .u64 (acc:Int) ((x*128 ^ k:Nat):Int)=((acc+x*128 ^ k:Nat):Int):=by
 have h9:128 ^ k≤128 ^ 9:=Nat.pow_le_pow_right (by decide) hk
 have e9:(128:Nat) ^ 9=9223372036854775808:=by decide
 rw [bits_or_u64_nat acc _ (by omega) hx]
 congr 1
 rw [Nat.or_comm,Nat.mul_comm x,← p128,← Nat.two_pow_add_eq_or_of_lt (by rw [p128];exact ha),Nat.add_comm]
theorem byte_rd {w:World} {A:Option Addr} {n:Nat} {bs:List UInt8} (h:Reads w 1 A n (bs.map byteV)) (hl:bs.length=n) (j:Nat) (hj:j<n) :
  ∃ g off,A=some ⟨g,off,none⟩∧g<w.heap.size∧w.cell? ⟨g,off+j,none⟩=some (.int .u8 ((bs.getD j 0).toNat:Int)):=by
 obtain ⟨g,off,hA,hg,hc⟩:=h.2 (by omega)
 refine ⟨g,off,hA,hg,hc j _ ?_⟩
 simp [List.getD,byteV,show j<bs.length by omega]
def NumV (bs:List UInt8) (e:Ending):Prop:=(∃ (v k:Nat) (t:List UInt8),numR bs=some (v,t)∧t=bs.drop k∧0<k∧k≤bs.length∧e=.returned (.tuple #[.int .u64 v,.int .i64 k,.int .i64 0])) ∨
 (numR bs=none∧∃ c:Int,20≤c∧e=.returned (.tuple #[.int .u64 0,.int .i64 0,.int .i64 c]))
theorem number_any (w:World) (A:Option Addr) (n c:Nat) (bs:List UInt8) (hr:Reads w 1 A n (bs.map byteV)) (hl:bs.length=n) (hm:n≤maxLen) :
  Calls Tryz.prog 117 #[.slice A n c] w fun e w'=>NumV bs e∧w'=w:=by
 unfold maxLen at hm
 have HR:=hide hr
 have HL:=hide hl
 clear hr hl
 go_enter Tryz.func117,Tryz.ntmps117
 go_wp2_with fail
 go_loop [5,10] (fun nv iv=>∃ acc i:Nat,nv=.int .u64 acc∧iv=.int .i64 i∧i≤n∧i≤9∧Hid (acc<128 ^ i∧numR bs=numG i acc (bs.drop i))) (fun _ iv=>n-(intOf iv).toNat)
 case atStart=>exact ⟨0,0,rfl,rfl,Nat.zero_le _,Nat.zero_le _,hide ⟨by decide,rfl⟩⟩
 case round =>
  obtain ⟨acc,i,rfl,rfl,hi,hi9,HN⟩:=hrel
  by_cases hin:i<n
  ·obtain ⟨g,o,hA,_,b0⟩:=byte_rd HR.out HL.out i hin
   subst hA
   have hdr:bs.drop i=bs.getD i 0 :: bs.drop (i+1):=by
    have h1:i<bs.length:=by rw [HL.out];exact hin
    rw [List.drop_eq_getElem_cons h1]
    simp [List.getD,h1]
   obtain ⟨b,hb⟩:∃ b,bs.getD i 0=b:=⟨_,rfl⟩
   rw [hb] at b0 hdr
   have hb255:=b.toNat_lt
   have f1:=and127 b
   have hstep:numR bs=if i=9∧1<b.toNat then none else if 128≤b.toNat then numG (i+1) (acc+(b.toNat-128)*128 ^ i) (bs.drop (i+1)) else if b.toNat=0∧0<i then none else some (acc+b.toNat*128 ^ i,bs.drop (i+1)):=by
    rw [HN.out.2,hdr]
    rfl
   have HA:=hide HN.out.1
   obtain ⟨bn,hbn⟩:∃ m,b.toNat=m:=⟨_,rfl⟩
   rw [hbn] at hstep b0 f1 hb255
   clear hdr hb hbn HN
   have hbig:¬ (i=9∧1<bn)→bn % 128*128 ^ i<18446744073709551616:=by
    intro h
    have e9:(128:Nat) ^ 9=9223372036854775808:=by decide
    by_cases h9:i=9
    ·subst h9
     rw [e9]
     omega
    ·have h1:bn % 128*128 ^ i<128*128 ^ i:=Nat.mul_lt_mul_of_pos_right (by omega) (Nat.pow_pos (by decide))
     have h2:128*128 ^ i=128 ^ (i+1):=by rw [Nat.pow_succ,Nat.mul_comm]
     have h3:128 ^ (i+1)≤128 ^ 9:=Nat.pow_le_pow_right (by decide) (by omega)
     omega
   have y0:(i:Int)<(n:Int):=by omega
   have y8:(0:Int)≤(i:Int):=by omega
   have y9:(i:Int)≤9:=by omega
   have HIN:=hide hin
   have HI9:=hide hi9
   by_cases h9:i=9∧1<bn
   ·rw [if_pos h9] at hstep
    obtain ⟨h9a,h9b⟩:=h9
    have q9:((i:Int) == 9)=true:=by simp;omega
    have y1:(1:Int)<(bn:Int):=by omega
    have HS:=hide hstep
    clear hstep hbig h9b h9a f1 hb255 hin
    go_wp2_with fail
    refine bodyPost_ret (v:=.tuple #[.int .u64 0,.int .i64 0,.int .i64 21]) (by simp [results,Tryz.results117,go_sem]) rfl ⟨.inr ⟨HS.out,21,by decide,rfl⟩,rfl⟩
   ·rw [if_neg h9] at hstep
    have hbg:=hbig h9
    have s1:=or_num acc (bn % 128) i hi9 HA.out hbg
    have hacc:acc+bn % 128*128 ^ i<128 ^ (i+1):=by
     have h1:bn % 128*128 ^ i≤127*128 ^ i:=Nat.mul_le_mul_right _ (by omega)
     have h2:=HA.out
     rw [Nat.pow_succ]
     omega
    have f3:IntKind.u64.wrap (((bn % 128:Nat):Int)*2 ^ (7*i))=((bn % 128*128 ^ i:Nat):Int):=by
     have e:((bn % 128:Nat):Int)*2 ^ (7*i)=((bn % 128*128 ^ i:Nat):Int):=by rw [← p128];push_cast;rfl
     rw [e,u64_in _ hbg]
    have f2:IntKind.u64.wrap ((bn % 128:Nat):Int)=((bn % 128:Nat):Int):=u64_in _ (by omega)
    have hx1:128≤bn→(bn-128)*128 ^ i=bn % 128*128 ^ i:=fun h=>by rw [show bn % 128=bn-128 by omega]
    have hx2:¬ 128≤bn→bn*128 ^ i=bn % 128*128 ^ i:=fun h=>by rw [show bn % 128=bn by omega]
    obtain ⟨x,hx⟩:∃ x,bn % 128*128 ^ i=x:=⟨_,rfl⟩
    obtain ⟨m,hmm⟩:∃ m,bn % 128=m:=⟨_,rfl⟩
    rw [hx] at s1 f3 hx1 hx2 hacc
    rw [hmm] at f1 f2 f3
    obtain ⟨ac,hac⟩:∃ y,acc+x=y:=⟨_,rfl⟩
    rw [hac] at s1 hacc
    have HAC:=hide hacc
    have h91:i=9→bn≤1:=by omega
    have y1:i=9→¬ (1:Int)<(bn:Int):=by omega
    have HA2:=hide hac
    clear hbig hbg hacc hx hmm hac HA
    by_cases hb8:128≤bn
    ·rw [if_pos hb8,hx1 hb8,HA2.out] at hstep
     have y1:(128:Int)≤(bn:Int):=by omega
     have q9:((i:Int) == 9)=false:=by simp;omega
     have hi8:i≤8:=by omega
     have HI8:=hide hi8
     have HS:=hide hstep
     clear hstep hx1 hx2 h91 h9 hb8 hb255 hi8 hi hi9 hin
     go_wp2_with fail
     go_round
     case rel=>exact ⟨ac,i+1,rfl,by simp,by have:=HIN.out;omega,by have:=HI8.out;omega,hide ⟨HAC.out,HS.out⟩⟩
     case measure =>
      have:=HIN.out
      simp only [intOf]
      omega
    ·rw [if_neg hb8,hx2 hb8,HA2.out] at hstep
     have y2:¬ (128:Int)≤(bn:Int):=by omega
     by_cases hz:bn=0∧0<i
     ·rw [if_pos hz] at hstep
      obtain ⟨hz0,hzi⟩:=hz
      have z0:((bn:Int) == 0)=true:=by simp;omega
      have z1:(0:Int)<(i:Int):=by omega
      have HS:=hide hstep
      by_cases h9i:i=9
      ·have q9:((i:Int) == 9)=true:=by simp;omega
       have q1:=y1 h9i
       clear hstep hx1 hx2 h91 h9 hb8 hb255 hi hi9 hin hz0 hzi y1 h9i
       go_wp2_with fail
       refine bodyPost_ret (v:=.tuple #[.int .u64 0,.int .i64 0,.int .i64 21]) (by simp [results,Tryz.results117,go_sem]) rfl ⟨.inr ⟨HS.out,21,by decide,rfl⟩,rfl⟩
      ·have q9:((i:Int) == 9)=false:=by simp;omega
       clear hstep hx1 hx2 h91 h9 hb8 hb255 hi hi9 hin hz0 hzi y1 h9i
       go_wp2_with fail
       refine bodyPost_ret (v:=.tuple #[.int .u64 0,.int .i64 0,.int .i64 21]) (by simp [results,Tryz.results117,go_sem]) rfl ⟨.inr ⟨HS.out,21,by decide,rfl⟩,rfl⟩
     ·rw [if_neg hz] at hstep
      have HS:=hide hstep
      have HL2:=HL.out
      have hok:∃ (v k:Nat) (t:List UInt8),numR bs=some (v,t)∧t=bs.drop k∧0<k∧k≤bs.length∧Ending.returned (.tuple #[.int .u64 ac,.int .i64 ((i:Int)+1),.int .i64 0])=.returned (.tuple #[.int .u64 v,.int .i64 k,.int .i64 0]) :=
       ⟨ac,i+1,_,hstep,rfl,by omega,by omega,by simp⟩
      have HOK:=hide hok
      clear HL2 hok
      by_cases hb0:bn=0
      ·have z0:((bn:Int) == 0)=true:=by simp;omega
       have z1:¬ (0:Int)<(i:Int):=by omega
       have q9:((i:Int) == 9)=false:=by simp;omega
       clear hstep hx1 hx2 h91 h9 hb8 hb255 hi hi9 hin hz y1 hb0
       go_wp2_with fail
       refine bodyPost_ret (v:=.tuple #[.int .u64 ac,.int .i64 ((i:Int)+1),.int .i64 0]) (by simp [results,Tryz.results117,go_sem]) rfl ⟨.inl HOK.out,rfl⟩
      ·have z0:((bn:Int) == 0)=false:=by simp;omega
       by_cases h9i:i=9
       ·have q9:((i:Int) == 9)=true:=by simp;omega
        have q1:=y1 h9i
        clear hstep hx1 hx2 h91 h9 hb8 hb255 hi hi9 hin hz y1 h9i hb0
        go_wp2_with fail
        refine bodyPost_ret (v:=.tuple #[.int .u64 ac,.int .i64 ((i:Int)+1),.int .i64 0]) (by simp [results,Tryz.results117,go_sem]) rfl ⟨.inl HOK.out,rfl⟩
       ·have q9:((i:Int) == 9)=false:=by simp;omega
        clear hstep hx1 hx2 h91 h9 hb8 hb255 hi hi9 hin hz y1 h9i hb0
        go_wp2_with fail
        refine bodyPost_ret (v:=.tuple #[.int .u64 ac,.int .i64 ((i:Int)+1),.int .i64 0]) (by simp [results,Tryz.results117,go_sem]) rfl ⟨.inl HOK.out,rfl⟩
  ·have hie:i=n:=by omega
   have y0:¬ (i:Int)<(n:Int):=by omega
   have hno:numR bs=none:=by
    rw [HN.out.2,List.drop_of_length_le (by rw [HL.out];omega)]
    rfl
   have HNO:=hide hno
   clear hno hie hin hi
   go_wp2_with fail
   refine bodyPost_ret (v:=.tuple #[.int .u64 0,.int .i64 0,.int .i64 20]) (by simp [results,Tryz.results117,go_sem]) rfl ⟨.inr ⟨HNO.out,20,by decide,rfl⟩,rfl⟩
structure Rdr (w:World) (p:Nat) (A:Option Addr) (n c:Nat) (bs:List UInt8) (e:Int):Prop where
 blk:Blk w p 214 #[.slice A n c,.int .i64 e]
 rd:RdT w 5 1 A n (bs.map byteV)
 len:bs.length=n
 le:n≤c
 mx:c≤maxLen
theorem Rdr.touch {w w':World} {p:Nat} {A:Option Addr} {n c:Nat} {bs:List UInt8} {e:Int} {S:Nat→Prop} (h:Rdr w p A n c bs e) (T:Touch S w w') (h1:¬ S p) (h2:∀ g,TyAt w g 5 → ¬ S g):Rdr w' p A n c bs e :=
 ⟨h.blk.touch T h1,h.rd.touch T h2,h.len,h.le,h.mx⟩
theorem Rdr.quiet {w w':World} {p:Nat} {A:Option Addr} {n c:Nat} {bs:List UInt8} {e:Int} (h:Rdr w p A n c bs e) (T:Touch (fun _=>False) w w'):Rdr w' p A n c bs e:=h.touch T (fun f=>f) (fun _ _ f=>f)
theorem Rdr.fail {w:World} {p:Nat} {A:Option Addr} {n c:Nat} {bs:List UInt8} {e:Int} (h:Rdr w p A n c bs e) (k:Int):Rdr (w.setCell ⟨p,1,none⟩ (.int .i64 k)) p A n c bs k :=
 ⟨h.blk.set_ 1 _,h.rd.touch ((Touch.refl (fun g=>g=p) w).setCell (fun _=>rfl) _) (fun _ hg e=>hg.ne (blk_ty h.blk) (by decide) e),h.len,h.le,h.mx⟩
theorem Rdr.step {w:World} {p:Nat} {A:Option Addr} {n c:Nat} {bs:List UInt8} {e:Int} (h:Rdr w p A n c bs e) {k:Nat} (hk:k≤n) :
  Rdr (w.setCell ⟨p,0,none⟩ (.slice (if c=k then A else A.map (·.add k)) (n-k) (c-k))) p (if c=k then A else A.map (·.add k)) (n-k) (c-k) (bs.drop k) e:=by
 have T:Touch (fun g=>g=p) w (w.setCell ⟨p,0,none⟩ (.slice (if c=k then A else A.map (·.add k)) (n-k) (c-k))):=(Touch.refl (fun g=>g=p) w).setCell (fun _=>rfl) _
 have hr:=h.rd.touch T (fun _ hg e=>hg.ne (blk_ty h.blk) (by decide) e)
 refine ⟨h.blk.set_ 0 _,⟨?_,?_⟩,by rw [List.length_drop,h.len],by have:=h.le;omega,by have:=h.mx;omega⟩
 ·have:=hr.rd.cut hk h.le
  rw [Nat.mul_one] at this
  rw [List.map_drop]
  exact this
 ·intro hn g hg
  refine hr.ty (by omega) g ?_
  split at hg
  ·exact hg
  ·cases A with
   | none=>cases hg
   | some a =>
    simp only [adBlock,Option.map_some,Option.some.injEq] at hg ⊢
    rw [← hg]
    unfold Addr.add
    split<;>rfl
def UintPost (p most:Nat) (A:Option Addr) (n c:Nat) (bs:List UInt8) (w:World) (e:Ending) (w':World):Prop :=
 (∃ (v:Nat) (t:List UInt8) (A':Option Addr) (n' c':Nat),uintR most bs=some (v,t)∧e=.returned (.int .u64 v)∧Rdr w' p A' n' c' t 0∧Touch (fun g=>g=p) w w') ∨
 (uintR most bs=none∧e=.returned (.int .u64 0)∧∃ k:Int,1≤k∧Rdr w' p A n c bs k∧Touch (fun g=>g=p) w w')
theorem uint_ok (w:World) (p:Nat) (A:Option Addr) (n c:Nat) (bs:List UInt8) (h:Rdr w p A n c bs 0) (most:Nat) :
  Calls Tryz.prog 57 #[.pointer (some ⟨p,0,none⟩),.int .u64 most] w fun e w'=>UintPost p most A n c bs w e w':=by
 have HR:=hide h
 have hnm:n≤maxLen:=Nat.le_trans h.le h.mx
 have HN:=hide (number_any w A n c bs h.rd.rd h.len hnm)
 obtain ⟨f0,f1,f2⟩:=h.blk.facts
 have hle:=h.le
 have hmx:=h.mx
 unfold maxLen at hmx
 clear h hnm
 go_enter Tryz.func57,Tryz.ntmps57
 go_wp2_with fail
 refine HN.out.mono ?_
 rintro e w1 ⟨hnv,rfl⟩
 rcases hnv with ⟨v,k,t,h1,h2,hk0,hk,rfl⟩ | ⟨h1,c',hc',rfl⟩
 ·rw [HR.out.len] at hk
  by_cases hm:v≤most
  ·have hu:uintR most bs=some (v,t):=by
    unfold uintR
    rw [h1]
    simp only
    rw [if_pos hm]
   have y0:¬ (most:Int)<(v:Int):=by omega
   have hst:=HR.out.step hk
   rw [← h2] at hst
   have HST:=hide hst
   have HU:=hide hu
   obtain ⟨g,o,hA,_,_⟩:=HR.out.rd.rd.form (by omega)
   subst hA
   clear h1 h2 hst hu hm
   by_cases hck:c=k
   ·rw [if_pos hck] at HST
    subst hck
    have hnc:n=c:=by omega
    subst hnc
    simp only [Nat.sub_self] at HST
    go_wp2_with fail
    go_ret
    exact .inl ⟨v,t,_,_,_,HU.out,rfl,HST.out,(Touch.refl (fun g=>g=p) w1).setCell (fun _=>rfl) _⟩
   ·rw [if_neg hck] at HST
    simp only [Option.map_some,Addr.add_lit] at HST
    have hck1:¬ (c:Int)=(k:Int):=by omega
    go_wp2_with fail
    go_ret
    exact .inl ⟨v,t,_,_,_,HU.out,rfl,HST.out,(Touch.refl (fun g=>g=p) w1).setCell (fun _=>rfl) _⟩
  ·have hu:uintR most bs=none:=by
    unfold uintR
    rw [h1]
    simp only
    rw [if_neg hm]
   have y0:(most:Int)<(v:Int):=by omega
   have HU:=hide hu
   clear h1 h2 hu hm
   go_wp2_with fail
   go_ret
   exact .inr ⟨HU.out,rfl,22,by decide,HR.out.fail 22,(Touch.refl (fun g=>g=p) w1).setCell (fun _=>rfl) _⟩
 ·have hu:uintR most bs=none:=by
   unfold uintR
   rw [h1]
  have HU:=hide hu
  have y0:(c' == 0)=false:=by simp;omega
  have y1:¬ c'=0:=by omega
  clear h1 hu
  go_wp2_with fail
  go_ret
  exact .inr ⟨HU.out,rfl,c',by omega,HR.out.fail c',(Touch.refl (fun g=>g=p) w1).setCell (fun _=>rfl) _⟩
theorem uint_no (w:World) (p:Nat) (A:Option Addr) (n c:Nat) (bs:List UInt8) (k:Int) (h:Rdr w p A n c bs k) (hk:1≤k) (most:Nat) :
  Calls Tryz.prog 57 #[.pointer (some ⟨p,0,none⟩),.int .u64 most] w fun e w'=>e=.returned (.int .u64 0)∧w'=w:=by
 obtain ⟨f0,f1,f2⟩:=h.blk.facts
 have y0:(k == 0)=false:=by simp;omega
 have y1:¬ k=0:=by omega
 clear h
 go_enter Tryz.func57,Tryz.ntmps57
 go_wp2_with fail
 go_ret
 exact ⟨rfl,rfl⟩
theorem err_any (w:World) (p:Nat) (A:Option Addr) (n c:Nat) (bs:List UInt8) (k:Int) (h:Rdr w p A n c bs k) :
  Calls Tryz.prog 115 #[.pointer (some ⟨p,0,none⟩)] w fun e w'=>e=.returned (.int .i64 k)∧w'=w:=by
 obtain ⟨f0,f1,f2⟩:=h.blk.facts
 clear h
 go_enter Tryz.func115,Tryz.ntmps115
 go_wp2_with fail
 go_ret
 exact ⟨rfl,rfl⟩
theorem left_any (w:World) (p:Nat) (A:Option Addr) (n c:Nat) (bs:List UInt8) (k:Int) (h:Rdr w p A n c bs k) :
  Calls Tryz.prog 158 #[.pointer (some ⟨p,0,none⟩)] w fun e w'=>e=.returned (.int .i64 n)∧w'=w:=by
 obtain ⟨f0,f1,f2⟩:=h.blk.facts
 clear h
 go_enter Tryz.func158,Tryz.ntmps158
 go_wp2_with fail
 go_ret
 exact ⟨rfl,rfl⟩
def EndV (n:Nat) (k x:Int):Prop:=(x=0↔k=0∧n=0)
theorem end_any (w:World) (p:Nat) (A:Option Addr) (n c:Nat) (bs:List UInt8) (k:Int) (h:Rdr w p A n c bs k) :
  Calls Tryz.prog 59 #[.pointer (some ⟨p,0,none⟩)] w fun e w'=>∃ x:Int,e=.returned (.int .i64 x)∧EndV n k x∧w'=w:=by
 obtain ⟨f0,f1,f2⟩:=h.blk.facts
 clear h
 have hc:(k=0∧0<n)∨(k=0∧n=0)∨k≠0:=by omega
 go_enter Tryz.func59,Tryz.ntmps59
 rcases hc with ⟨rfl,hn⟩ | ⟨rfl,rfl⟩ | hk
 ·have y0:(0:Int)<(n:Int):=by omega
  go_wp2_with fail
  go_ret
  exact ⟨23,rfl,by unfold EndV;omega,rfl⟩
 ·go_wp2_with fail
  go_ret
  exact ⟨0,rfl,by unfold EndV;omega,rfl⟩
 ·have y0:(k == 0)=false:=by simp;omega
  go_wp2_with fail
  go_ret
  exact ⟨k,rfl,by unfold EndV;omega,rfl⟩
theorem own_nought8 (w:World) (e:TypeId) (size:Nat):(w.alloc (.cells #[] e)).ownsRow 0 e size (.slice (some ⟨w.heap.size,0,none⟩) 0 0) 0 [] :=
 ⟨by simp,.inr ⟨w.heap.size,0,#[],rfl,Nat.zero_le _,heap_alloc_new _ _,Nat.le_refl _,Nat.zero_le _,by simp,by simp⟩⟩
theorem run_eql_bytes (w:World) (a:Option Addr) (l c:Nat):(binOp .eql 50 (.slice a l c) (.slice none 0 0)).run Tryz.prog w=.ok (.bool a.isNone) w:=by
 simp only [binOp]
 simp [run_equal_slice_nil (P:=Tryz.prog) w 50 5 a l c Tryz.underlying50]
theorem clone8_any (w:World) (A:Option Addr) (n c:Nat) (bs:List UInt8) (hr:Reads w 1 A n (bs.map byteV)) (hl:bs.length=n) (hn:n≤35184372088832) :
  Calls Tryz.prog 114 #[.slice A n c] w fun e w'=>∃ (A':Option Addr) (n' c':Nat),e=.returned (.slice A' n' c')∧n'=n∧ONx 5 1 w w' (.slice A' n' c') n' (bs.map byteV):=by
 cases A with
 | none =>
  have h0:n=0:=by
   rcases Nat.eq_zero_or_pos n with h | h
   ·exact h
   ·obtain ⟨b,o,hA,_⟩:=hr.2 h
    cases hA
  subst h0
  have:bs=[]:=List.length_eq_zero_iff.1 hl
  subst this
  have hmn:=fun wx=>run_eql_bytes wx none 0 c
  clear hl hr hn
  go_enter Tryz.func114,Tryz.ntmps114
  go_wp2_with fail
  go_ret
  exact ⟨none,0,0,rfl,rfl,ONx.nil _ _ _⟩
 | some a =>
  obtain ⟨i1,hi1,hy0,hy1,hy2⟩:=info_parts infoByte
  have HC:=hide (onecell_bytes bs)
  have hO:=own_nought8 w 5 1
  have HO:=hide hO
  have hT:Touch (fun _=>False) w (w.alloc (.cells #[] 5)):=(Touch.refl _ _).alloc _
  have HT:=hide hT
  have hb1:0+n≤maxLen:=by unfold maxLen;omega
  have hb2:(0+n)*1≤140737488355328:=by omega
  have HB:=hide (And.intro hb1 hb2)
  have HRD:=hide (hr.touch hT (fun _ _ f=>f))
  have hmn:=fun wx=>run_eql_bytes wx (some a) n c
  clear hr hO hT hb1 hb2 hn hl
  go_enter Tryz.func114,Tryz.ntmps114
  go_wp2_with (at_builtin;refine wpList_app _ rfl (.tmp 5) (.tmp 6) 50 rfl 5 i1 _ 1 1 Tryz.underlying50 hi1 hy0 hy1 hy2 rfl (by decide) (.slice (some ⟨w.heap.size,0,none⟩) 0 0) 0 _ rfl HO.out (some a) n c (bs.map byteV) rfl HRD.out (fun h=>by cases h) HC.out HB.out.1 HB.out.2 ?_;intro v1 w10 O10 G10 F10 _;rw [Nat.zero_add,List.nil_append] at O10;obtain ⟨A2,c2,hv,_,_⟩:=own_len O10;subst hv;have HO10:=hide O10;have HG:=hide G10;have HF:=hide F10;clear O10 G10 F10)
  go_ret
  refine ⟨A2,n,c2,rfl,rfl,HO10.out,HT.out.trans ((Touch.refl (fun y=>y=w.heap.size) _).grown HG.out (fun k hk _=>by injection hk with hk;exact hk.symm)) (fun i hi e=>by omega),fun g hg2=>?_⟩
  rcases HF.out with h | ⟨g2,h,hle⟩
  ·rw [hg2] at h
   injection h with h
   have h2:g=w.heap.size:=h
   omega
  ·rw [hg2] at h
   injection h with h
   have:=HT.out.size
   omega
theorem read_any (w:World) (A:Option Addr) (n c:Nat) (bs:List UInt8) (hr:Reads w 1 A n (bs.map byteV)) (hl:bs.length=n) (hn:n≤35184372088832) :
  Calls Tryz.prog 54 #[.slice A n c] w fun e w'=>∃ (p:Nat) (A':Option Addr) (n' c':Nat),e=.returned (.pointer (some ⟨p,0,none⟩))∧Rdr w' p A' n' c' bs 0∧w.heap.size≤p∧Touch (fun _=>False) w w':=by
 have HC:=hide (clone8_any w A n c bs hr hl hn)
 have HL:=hide hl
 clear hr hl
 go_enter Tryz.func54,Tryz.ntmps54
 go_wp2_with fail
 refine HC.out.mono ?_
 rintro e w1 ⟨A',n',c',rfl,hn',hx⟩
 subst hn'
 have HX:=hide hx
 have HXT:=hide hx.touch
 clear hx
 go_wp2_with fail
 go_ret
 refine ⟨_,A',_,c',rfl,⟨Blk.new _ _ _,(RdT.of_own HX.out.own).quiet ((Touch.refl _ _).alloc _),HL.out,?_,?_⟩,HXT.out.size,HXT.out.alloc _⟩
 ·have:=own_slice HX.out.own;omega
 ·have:=own_slice HX.out.own;omega
def okJ (num:Nat) (out:Int) (arcs:List (Int × Int × Int)) (j:Nat):Prop :=
 (0≤out∧out≤1048576)∧∃ l:List (Nat × Int × Nat),arcs.take j=l.map arcZ∧(l.map (·.1)).Pairwise (·<·)∧(∀ a∈l,scal a.1=true∧fitU a.1=true)∧∀ a∈l,0≤a.2.1∧a.2.1≤1048576∧a.2.2<num
def labZ (arcs:List (Int × Int × Int)):Nat→Int
 | 0=>32
 | j+1=>(arcs.getD j (0,0,0)).1
def lowZ (l0:Int) (arcs:List (Int × Int × Int)) (j:Nat):Int:=(arcs.take j).foldl (fun m a=>min m a.2.1) l0
theorem lowZ_succ (l0:Int) (arcs:List (Int × Int × Int)) (j:Nat) (hj:j<arcs.length):lowZ l0 arcs (j+1)=min (lowZ l0 arcs j) (arcs.getD j (0,0,0)).2.1:=by
 unfold lowZ
 rw [List.take_succ_eq_append_getElem hj,List.foldl_append]
 simp [List.getD,hj]
theorem fold_low (l:List (Nat × Int × Nat)):∀ m:Int,(l.map arcZ).foldl (fun m a=>min m a.2.1) m=l.foldl (fun m a=>min m a.2.1) m:=by
 induction l with
 | nil=>intro m;rfl
 | cons a l ih=>intro m;simp only [List.map_cons,List.foldl_cons,ih,arcZ]
theorem okJ_zero (num:Nat) (out:Int) (arcs:List (Int × Int × Int)):okJ num out arcs 0↔0≤out∧out≤1048576 :=
 ⟨fun h=>h.1,fun h=>⟨h,[],by simp,by simp,by simp,by simp⟩⟩
def letZ (x:Int):Prop:=∃ r:Nat,x=(r:Int)∧scal r=true∧fitU r=true
theorem okJ_succ {num:Nat} {out:Int} {arcs:List (Int × Int × Int)} {j:Nat} (hj:j<arcs.length) {la ao tt:Int} (ha:arcs.getD j (0,0,0)=(la,ao,tt)) :
  okJ num out arcs (j+1)↔okJ num out arcs j∧labZ arcs j<la∧letZ la∧0≤tt∧tt<(num:Int)∧0≤ao∧ao≤1048576:=by
 have htk:=take_snoc arcs (0,0,0) j hj
 rw [ha] at htk
 constructor
 ·rintro ⟨ho,l,h1,h2,h3,h4⟩
  rw [htk] at h1
  obtain ⟨l1,l2,rfl,e1,e2⟩:=List.map_eq_append_iff.1 h1.symm
  have hl2:l2.length=1:=by
   have:=congrArg List.length e2
   simpa using this
  obtain ⟨b,rfl⟩:=List.length_eq_one_iff.1 hl2
  simp only [List.map_cons,List.map_nil,List.cons.injEq,and_true,arcZ,Prod.mk.injEq] at e2
  obtain ⟨r1,r2,r3⟩:=e2
  have hb3:=h3 b (by simp)
  have hb4:=h4 b (by simp)
  rw [List.map_append,List.pairwise_append] at h2
  refine ⟨⟨ho,l1,e1.symm,h2.1,fun a h=>h3 a (by simp [h]),fun a h=>h4 a (by simp [h])⟩,?_,⟨b.1,r1.symm,hb3⟩,by omega,by omega,by omega,by omega⟩
  cases j with
  | zero =>
   simp only [labZ]
   have:=hb3.2
   unfold fitU at this
   simp only [Bool.and_eq_true,decide_eq_true_eq] at this
   omega
  | succ j =>
   simp only [labZ]
   have hjl:j<arcs.length:=by omega
   have hlast:=take_snoc arcs (0,0,0) j hjl
   have hmem:arcs.getD j (0,0,0)∈l1.map arcZ:=by rw [e1,hlast];simp
   obtain ⟨c,hc,hc2⟩:=List.mem_map.1 hmem
   have:=h2.2.2 c.1 (List.mem_map_of_mem hc) b.1 (by simp)
   rw [← hc2]
   simp only [arcZ]
   omega
 ·rintro ⟨⟨ho,l,h1,h2,h3,h4⟩,g1,⟨r,rfl,g2⟩,g3,g4,g5,g6⟩
  refine ⟨ho,l++[(r,ao,tt.toNat)],?_,?_,?_,?_⟩
  ·rw [htk,h1]
   simp only [List.map_append,List.map_cons,List.map_nil,arcZ]
   rw [show ((tt.toNat:Nat):Int)=tt by omega]
  ·rw [List.map_append,List.pairwise_append]
   refine ⟨h2,by simp,?_⟩
   intro x hx y hy
   simp only [List.map_cons,List.map_nil,List.mem_singleton] at hy
   subst hy
   obtain ⟨c,hc,rfl⟩:=List.mem_map.1 hx
   cases j with
   | zero =>
    have hnil:l=[]:=by
     rw [List.take_zero] at h1
     exact List.map_eq_nil_iff.1 h1.symm
    rw [hnil] at hc
    cases hc
   | succ j =>
    simp only [labZ] at g1
    have hjl:j<arcs.length:=by omega
    have hlast:=take_snoc arcs (0,0,0) j hjl
    rw [hlast] at h1
    obtain ⟨l1,l2,rfl,e1,e2⟩:=List.map_eq_append_iff.1 h1.symm
    have hl2:l2.length=1:=by
     have:=congrArg List.length e2
     simpa using this
    obtain ⟨b,rfl⟩:=List.length_eq_one_iff.1 hl2
    simp only [List.map_cons,List.map_nil,List.cons.injEq,and_true] at e2
    rw [← e2] at g1
    simp only [arcZ] at g1
    rw [List.map_append,List.pairwise_append] at h2
    rcases List.mem_append.1 hc with hc | hc
    ·have:=h2.2.2 c.1 (List.mem_map_of_mem hc) b.1 (by simp)
     omega
    ·simp only [List.mem_singleton] at hc
     subst hc
     omega
  ·intro a h
   rcases List.mem_append.1 h with h | h
   ·exact h3 a h
   ·simp only [List.mem_singleton] at h
    subst h
    exact g2
  ·intro a h
   rcases List.mem_append.1 h with h | h
   ·exact h4 a h
   ·simp only [List.mem_singleton] at h
    subst h
    simp only
    omega
def FormZ (num:Nat) (z:StZ):Prop:=∃ s:StP,s.z=z∧FormP num s
theorem formZ_iff (num:Nat) (z:StZ):FormZ num z↔(z.fin=false→z.out=0)∧okJ num z.out z.arcs z.arcs.length∧lowZ (if z.fin=true then z.out else 1048577) z.arcs z.arcs.length=0:=by
 constructor
 ·rintro ⟨s,rfl,h⟩
  refine ⟨h.fin0,⟨⟨h.out0,h.out1⟩,s.arcs,by simp only [StP.z];rw [List.take_of_length_le (by simp)],h.lab,h.run,h.arc⟩,?_⟩
  have hl:=h.low
  unfold lowP at hl
  unfold lowZ
  simp only [StP.z,List.take_length,fold_low]
  exact hl
 ·rintro ⟨h1,⟨h2,l,h3,h4,h5,h6⟩,h7⟩
  rw [List.take_length] at h3
  refine ⟨⟨z.fin,z.out,l⟩,?_,h2.1,h2.2,h1,h4,h5,h6,?_⟩
  ·obtain ⟨f,o,a⟩:=z
   simp only at h3
   simp only [StP.z]
   rw [h3]
  ·unfold lowZ at h7
   rw [List.take_length,h3,fold_low] at h7
   exact h7
structure BaseT where
 b:Nat
def bs [Inhabited BaseT]:Nat:=(default:BaseT).b
section
variable [Inhabited BaseT]
def OT (w:World) (g:Nat) (t:TypeId):Prop:=(g<w.heap.size∧g<bs)∨TyAt w g t
theorem OT.ne {w:World} {b b':Nat} {t t':TypeId} (h:OT w b t) (h':TyAt w b' t') (ht:t≠t') (hb:bs≤b'):b≠b':=by
 rcases h with ⟨_,h⟩ | h
 ·omega
 ·exact h.ne h' ht
theorem OT.lt {w:World} {b:Nat} {t:TypeId} (h:OT w b t):b<w.heap.size:=by
 rcases h with h | h
 ·exact h.1
 ·exact h.lt
theorem OT.touch {w w':World} {S:Nat→Prop} {b:Nat} {t:TypeId} (h:OT w b t) (T:Touch S w w') (hS:¬ S b):OT w' b t:=by
 rcases h with h | h
 ·exact .inl ⟨Nat.lt_of_lt_of_le h.1 T.size,h.2⟩
 ·exact .inr (h.touch T hS)
structure RdO (w:World) (t:TypeId) (size:Nat) (A:Option Addr) (n:Nat) (xs:List Value):Prop where
 rd:Reads w size A n xs
 ty:0<n→∀ g,adBlock A=some g→OT w g t
theorem RdO.touch {w w':World} {S:Nat→Prop} {t:TypeId} {size:Nat} {A:Option Addr} {n:Nat} {xs:List Value} (h:RdO w t size A n xs) (T:Touch S w w') (hS:∀ g,OT w g t→¬ S g):RdO w' t size A n xs:=by
 by_cases hn:0<n
 ·exact ⟨h.rd.touch T fun g hg=>hS g (h.ty hn g hg),fun _ g hg=>(h.ty hn g hg).touch T (hS g (h.ty hn g hg))⟩
 ·exact ⟨⟨h.rd.1,fun h=>absurd h hn⟩,fun h=>absurd h hn⟩
theorem RdO.quiet {w w':World} {t:TypeId} {size:Nat} {A:Option Addr} {n:Nat} {xs:List Value} (h:RdO w t size A n xs) (T:Touch (fun _=>False) w w'):RdO w' t size A n xs:=h.touch T fun _ _ f=>f
theorem RdT.o {w:World} {t:TypeId} {size:Nat} {A:Option Addr} {n:Nat} {xs:List Value} (h:RdT w t size A n xs):RdO w t size A n xs:=⟨h.rd,fun hn g hg=>.inr (h.ty hn g hg)⟩
theorem RdO.of_own {w:World} {base:Nat} {t:TypeId} {size:Nat} {A:Option Addr} {n c:Nat} {xs:List Value} (h:w.ownsRow base t size (.slice A n c) n xs):RdO w t size A n xs:=(RdT.of_own h).o
structure SV.Od (s:SV) (w:World):Prop where
 len:s.arcs.length=s.n
 rd:RdO w 173 3 s.A s.n (aCells s.arcs)
 le:s.n≤s.c
 mx:s.c≤maxLen
theorem SV.Od.touch {s:SV} {w w':World} {S:Nat→Prop} (h:s.Od w) (T:Touch S w w') (hS:∀ g,OT w g 173 → ¬ S g):s.Od w':=⟨h.len,h.rd.touch T hS,h.le,h.mx⟩
structure StsOd (w:World) (A:Option Addr) (n:Nat) (Z:List SV):Prop where
 rd:RdO w 170 3 A n (sCells Z)
 len:Z.length=n
 el:∀ z∈Z,z.Od w
theorem StsOd.quiet {w w':World} {A:Option Addr} {n:Nat} {Z:List SV} (h:StsOd w A n Z) (T:Touch (fun _=>False) w w'):StsOd w' A n Z:=⟨h.rd.quiet T,h.len,fun z hz=>(h.el z hz).touch T (fun _ _ f=>f)⟩
structure ZV where
 fin:Bool
 out:Int
 A:Option Addr
 n:Nat
 c:Nat
 arcs:List (Int × Int × Int)
def zaCells (l:List (Int × Int × Int)):List Value:=l.flatMap fun a=>[.int .i32 a.1,.int .i64 a.2.1,.int .i64 a.2.2]
def ZV.cells (s:ZV):List Value:=[.bool s.fin,.int .i64 s.out,.slice s.A s.n s.c]
def ZV.p (s:ZV):StZ:=⟨s.fin,s.out,s.arcs⟩
structure ZV.Ok (s:ZV) (w:World):Prop where
 len:s.arcs.length=s.n
 rd:RdO w 173 3 s.A s.n (zaCells s.arcs)
 le:s.n≤s.c
 mx:s.c≤maxLen
def zCells (Z:List ZV):List Value:=Z.flatMap ZV.cells
end
section
variable [Inhabited BaseT]
theorem ZV.Ok.touch {s:ZV} {w w':World} {S:Nat→Prop} (h:s.Ok w) (T:Touch S w w') (hS:∀ g,OT w g 173 → ¬ S g):s.Ok w':=⟨h.len,h.rd.touch T hS,h.le,h.mx⟩
theorem ZV.Ok.quiet {s:ZV} {w w':World} (h:s.Ok w) (T:Touch (fun _=>False) w w'):s.Ok w':=h.touch T (fun _ _ f=>f)
structure StsZ (w:World) (A:Option Addr) (n:Nat) (Z:List ZV):Prop where
 rd:RdO w 170 3 A n (zCells Z)
 len:Z.length=n
 el:∀ z∈Z,z.Ok w
theorem StsZ.quiet {w w':World} {A:Option Addr} {n:Nat} {Z:List ZV} (h:StsZ w A n Z) (T:Touch (fun _=>False) w w'):StsZ w' A n Z:=⟨h.rd.quiet T,h.len,fun z hz=>(h.el z hz).quiet T⟩
end
theorem zaCells_map (l:List (Nat × Int × Nat)):zaCells (l.map arcZ)=aCells l:=by
 unfold zaCells aCells
 rw [List.flatMap_map]
 rfl
section
variable [Inhabited BaseT]
def ZV.sv (z:ZV) (s:StP):SV:=⟨z.fin,z.out,z.A,z.n,z.c,s.arcs⟩
theorem ZV.sv_ok {z:ZV} {w:World} {s:StP} (h:z.Ok w) (hs:s.z=z.p):(z.sv s).Od w∧(z.sv s).p=s∧(z.sv s).cells=z.cells:=by
 obtain ⟨f,o,A,n,c,a⟩:=z
 obtain ⟨f',o',a'⟩:=s
 simp only [StP.z,ZV.p,StZ.mk.injEq] at hs
 obtain ⟨rfl,rfl,rfl⟩:=hs
 refine ⟨⟨?_,?_,h.le,h.mx⟩,rfl,rfl⟩
 ·have:=h.len
  simpa [ZV.sv] using this
 ·have:=h.rd
  rw [zaCells_map] at this
  exact this
def SV.zv (s:SV):ZV:=⟨s.fin,s.out,s.A,s.n,s.c,s.arcs.map arcZ⟩
theorem stsOk_of {w:World} {A:Option Addr} {n:Nat}:∀ (Z:List ZV) (sts:List StP),Z.map ZV.p=sts.map StP.z→(∀ z∈Z,z.Ok w)→∃ Y:List SV,Y.map SV.p=sts∧sCells Y=zCells Z∧Y.length=Z.length∧∀ y∈Y,y.Od w
 | [],[],_,_=>⟨[],rfl,rfl,rfl,fun y hy=>by cases hy⟩
 | [],_ :: _,h,_=>by simp at h
 | _ :: _,[],h,_=>by simp at h
 | z :: Z,s :: sts,h,hz=>by
  simp only [List.map_cons,List.cons.injEq] at h
  obtain ⟨Y,h1,h2,h3,h4⟩:=stsOk_of (A:=A) (n:=n) Z sts h.2 (fun x hx=>hz x (List.mem_cons_of_mem _ hx))
  obtain ⟨g1,g2,g3⟩:=ZV.sv_ok (hz z List.mem_cons_self) h.1.symm
  refine ⟨z.sv s :: Y,by rw [List.map_cons,h1,g2],?_,by rw [List.length_cons,List.length_cons,h3],?_⟩
  ·unfold sCells zCells at *
   rw [List.flatMap_cons,List.flatMap_cons,h2,g3]
  ·intro y hy
   rcases List.mem_cons.1 hy with rfl | hy
   ·exact g1
   ·exact h4 y hy
theorem StsZ.ok {w:World} {A:Option Addr} {n:Nat} {Z:List ZV} (h:StsZ w A n Z) {sts:List StP} (hs:Z.map ZV.p=sts.map StP.z):∃ Y:List SV,Y.map SV.p=sts∧StsOd w A n Y:=by
 obtain ⟨Y,h1,h2,h3,h4⟩:=stsOk_of (A:=A) (n:=n) Z sts hs h.el
 exact ⟨Y,h1,by rw [h2];exact h.rd,by rw [h3];exact h.len,h4⟩
def zvZero:ZV:=⟨false,0,none,0,0,[]⟩
end
theorem zCells_at (X:List ZV) (k:Nat) (hk:k<X.length) (j:Nat) (hj:j<3):(zCells X)[k*3+j]? = some ((X.getD k zvZero).cells.getD j undef):=by
 have h:=flat_at ZV.cells 3 (fun _=>rfl) X k j hk hj
 unfold zCells
 rw [h]
 have e:X.getD k zvZero=X[k]:=by simp [List.getD,hk]
 rw [e]
 have hl:(X[k].cells).length=3:=rfl
 rw [List.getD_eq_getElem?_getD,List.getElem?_eq_getElem (by rw [hl];exact hj)]
 rfl
theorem zaCells_at (X:List (Int × Int × Int)) (k:Nat) (hk:k<X.length) (j:Nat) (hj:j<3):(zaCells X)[k*3+j]? = some ([.int .i32 (X.getD k (0,0,0)).1,.int .i64 (X.getD k (0,0,0)).2.1,.int .i64 (X.getD k (0,0,0)).2.2].getD j undef):=by
 have h:=flat_at (fun a:Int × Int × Int=>[Value.int .i32 a.1,.int .i64 a.2.1,.int .i64 a.2.2]) 3 (fun _=>rfl) X k j hk hj
 unfold zaCells
 rw [h]
 have e:X.getD k (0,0,0)=X[k]:=by simp [List.getD,hk]
 rw [e,List.getD_eq_getElem?_getD,List.getElem?_eq_getElem (by simpa using hj)]
 rfl
theorem zstate_at {w:World} {A:Option Addr} {n:Nat} {X:List ZV} (h:Reads w 3 A n (zCells X)) (hn:X.length=n) (k:Nat) (hk:k<n) :
  ∃ g off,A=some ⟨g,off,none⟩∧g<w.heap.size∧w.cell? ⟨g,off+k*3,none⟩=some (.bool (X.getD k zvZero).fin)∧w.cell? ⟨g,off+k*3+1,none⟩=some (.int .i64 (X.getD k zvZero).out)∧w.cell? ⟨g,off+k*3+2,none⟩=some (.slice (X.getD k zvZero).A (X.getD k zvZero).n (X.getD k zvZero).c):=by
 obtain ⟨g,off,hA,hg,hc⟩:=h.2 (by omega)
 refine ⟨g,off,hA,hg,?_,?_,?_⟩
 ·exact hc _ _ (zCells_at X k (by omega) 0 (by omega))
 ·exact hc _ _ (zCells_at X k (by omega) 1 (by omega))
 ·exact hc _ _ (zCells_at X k (by omega) 2 (by omega))
theorem zarc_at {w:World} {A:Option Addr} {n:Nat} {X:List (Int × Int × Int)} (h:Reads w 3 A n (zaCells X)) (hn:X.length=n) (k:Nat) (hk:k<n) :
  ∃ g off,A=some ⟨g,off,none⟩∧g<w.heap.size∧w.cell? ⟨g,off+k*3,none⟩=some (.int .i32 (X.getD k (0,0,0)).1)∧w.cell? ⟨g,off+k*3+1,none⟩=some (.int .i64 (X.getD k (0,0,0)).2.1)∧w.cell? ⟨g,off+k*3+2,none⟩=some (.int .i64 (X.getD k (0,0,0)).2.2):=by
 obtain ⟨g,off,hA,hg,hc⟩:=h.2 (by omega)
 refine ⟨g,off,hA,hg,?_,?_,?_⟩
 ·exact hc _ _ (zaCells_at X k (by omega) 0 (by omega))
 ·exact hc _ _ (zaCells_at X k (by omega) 1 (by omega))
 ·exact hc _ _ (zaCells_at X k (by omega) 2 (by omega))
section
variable [Inhabited BaseT]
end
end Go.Proofs.YthockgmbooefpaaGreatDoor
