/- What the law rests on, part 28. No condition but those that each theorem names. -/
import Derived.Test.YthockgmbooefpaaDoorD12
import Derived.BigQuiet
import Derived.Deep.QuietTactic
import Derived.Test.YthockgmbooefpaaDoorD23
import Derived.Test.YthockgmbooefpaaDoorD00
set_option linter.unusedSectionVars false
set_option linter.unusedSimpArgs false
set_option linter.unusedVariables false
namespace Go.Proofs.YthockgmbooefpaaDoor
open Go.RowKit
def findW (sts:List StP) (root:Int) (base:Int) (s:List UInt8):Int × Bool:=match runesU s with
 | none=>(0,false)
 | some x=>endF sts (followF sts x root base)
set_option maxRecDepth 100000 in
set_option maxHeartbeats 4000000 in
theorem wfind_any (w:World) (b:Nat) (base:Int) (A:Option Addr) (n c:Nat) (Z:List SV) (wv:Value) (hblk:Blk w b 124 #[.int .i64 base,.slice A n c,wv]) (hst:StsOk w A n Z) (hL:Lst w) (s:ByteArray) (hs:s.size≤1099511627776) (hn:n≤1000000) (hb0:0≤base) (hb1:base≤1048576) (hsm:Small n Z) :
  Calls Tryd.prog 61 #[.pointer (some ⟨b,0,none⟩),.string s] w fun e w'=>e=.returned (.tuple #[.int .i64 (findW (Z.map SV.p) ((n:Int)-1) base s.toList).1,.bool (findW (Z.map SV.p) ((n:Int)-1) base s.toList).2])∧Touch (fun _=>False) w w':=by
 have HBK:=hide hblk
 have HST:=hide hst
 have HSM:=hide hsm
 have HRN:=hide (runes_any w s hs hL)
 clear hblk hst hsm hL
 obtain ⟨R,hR⟩:∃ R,findW (Z.map SV.p) ((n:Int)-1) base s.toList=R:=⟨_,rfl⟩
 rw [hR]
 have HR:=hide hR
 clear hR
 go_enter Tryd.func61,Tryd.ntmps61
 go_wp2_with fail
 refine HRN.out.mono ?_
 rintro e w1 ⟨lA,lq,lc,O,ok,rfl,N1,hl,hq,hru⟩
 have HN:=hide N1
 have HOL:=hide hl
 have HRU:=hide hru
 have hb:=HBK.out.touch N1.touch (fun f=>f)
 obtain ⟨x0,x1,x2⟩:=hb.facts
 have HB1:=hide hb
 clear N1 hl hru HRN hb
 go_wp2_with fail
 go_quiet ((go_at_call 59;exact Calls.quiet_of_same (root_any _ b base A n c wv HB1.out hn)))
 obtain ⟨w2,hw2⟩:∃ x,x=w1.drewN nq:=⟨_,rfl⟩
 have hT2:Touch (fun _=>False) w1 w2:=by rw [hw2];exact (Touch.refl _ _).drewN _
 rw [← hw2]
 have HT2:=hide (HN.out.touch.then hT2)
 have HB2:=hide (HB1.out.touch hT2 (fun f=>f))
 have HF2:=hide ((RdT.of_own HN.out.own).quiet hT2)
 have HS2:=hide (HST.out.quiet (HN.out.touch.then hT2))
 clear hw2 hT2
 go_wp2_with fail
 go_loopw [8,9,28] (fun av sv iv wr=>∃ (i:Nat) (a u:Int),av=.int .i64 a∧sv=.int .i64 u∧iv=.int .i64 i∧i≤lq∧-1≤a∧a<n∧Hid (0≤u∧u≤1048576+1048576*(i:Int))∧Hid (followF (Z.map SV.p) O ((n:Int)-1) base=followF (Z.map SV.p) (O.drop i) a u)∧Hid (Touch (fun _=>False) w2 wr)) (fun _ _ iv _=>lq-(intOf iv).toNat)
 case atStart=>exact ⟨0,(n:Int)-1,base,rfl,rfl,rfl,by omega,by omega,by omega,hide ⟨hb0,by omega⟩,hide rfl,hide (Touch.refl _ _)⟩
 case round =>
  obtain ⟨i,a,u,rfl,rfl,rfl,hi,ha1,ha2,HU,HE,HT⟩:=hrel
  by_cases hin:i<lq
  ·have y1:(i:Int)<(lq:Int):=by omega
   have y2:(0:Int)≤(i:Int):=by omega
   obtain ⟨g,o,hlA,c0⟩:=rune_at (HF2.out.quiet HT.out).rd HOL.out i hin
   subst hlA
   have hdr:O.drop i=O.getD i 0 :: O.drop (i+1):=by
    rw [List.drop_eq_getElem_cons (by rw [HOL.out];exact hin)]
    simp [List.getD,HOL.out,hin]
   obtain ⟨r,hr⟩:∃ r,O.getD i 0=r:=⟨_,rfl⟩
   rw [hr] at c0 hdr
   have HDR:=hide hdr
   clear hr hdr
   by_cases hneg:a<0
   ·have hres:R=(0,false):=by
     rw [← HR.out]
     unfold findW
     rw [HRU.out]
     cases ok with
     | false=>rfl
     | true=>simp only [if_true];rw [HE.out];exact follow_neg _ _ hneg
    subst hres
    go_wp2_with fail
    exact bodyPost_ret (v:=.tuple #[.int .i64 0,.bool false]) (by simp [results,Tryd.results61,go_sem]) rfl ⟨rfl,HT2.out.then HT.out⟩
   ·obtain ⟨k,rfl⟩:∃ k:Nat,a=(k:Int):=⟨a.toNat,by omega⟩
    have hk:k<n:=by omega
    have n0:¬ (k:Int)<0:=by omega
    have n1:(0:Int)≤(k:Int):=by omega
    have hb:=HB2.out.touch HT.out (fun f=>f)
    obtain ⟨x3,x4,x5⟩:=hb.facts
    have hsr:=HS2.out.quiet HT.out
    obtain ⟨g2,o2,hA2,hg2,s0,s1,s2⟩:=state_at hsr.rd.rd hsr.len k hk
    have hA3:A=some ⟨g2,o2,none⟩:=hA2
    subst hA3
    have hzm:=getD_mem Z svZero k (by rw [hsr.len];exact hk)
    have hzo:=hsr.el _ hzm
    have hlab:=HSM.out.lab _ hzm
    have harc:=HSM.out.arc _ hzm
    have hgp:((Z.map SV.p).getD ((k:Nat):Int).toNat noSt).arcs=(Z.getD k svZero).arcs:=by simp [List.getD,show k<Z.length by rw [hsr.len];exact hk,SV.p]
    obtain ⟨⟨fin,out,aA,an,ac,arcs⟩,hz⟩:∃ z,Z.getD k svZero=z:=⟨_,rfl⟩
    rw [hz] at s0 s1 s2 hzo hlab harc hgp
    simp only at s0 s1 s2 hlab harc hgp
    have hstep:followF (Z.map SV.p) (O.drop i) k u=followF (Z.map SV.p) (O.drop (i+1)) (stepA arcs r (-1,u)).1 (stepA arcs r (-1,u)).2:=by
     rw [HDR.out]
     simp only [followF]
     rw [if_neg n0,hgp]
    have HSTP:=hide hstep
    have HAR:=hide (And.intro hzo.rd hzo.len)
    have han:an≤maxLen:=Nat.le_trans hzo.le hzo.mx
    have HLAB:=hide hlab
    have HARC:=hide harc
    have hu:=HU.out
    clear hstep hgp hz hzo hlab harc hzm hsr hb
    go_wp2_with fail
    obtain ⟨w4,hw4⟩:∃ x,x=wr.alloc (.cells #[.bool fin,.int .i64 out,.slice aA an ac] 108):=⟨_,rfl⟩
    have hT4:Touch (fun _=>False) wr w4:=by rw [hw4];exact (Touch.refl _ _).alloc _
    rw [← hw4]
    have HT4:=hide hT4
    have HA4:=hide (And.intro (HAR.out.1.quiet hT4) HAR.out.2)
    clear hw4 hT4 s0 s1 s2 c0 x0 x1 x3 x4 HAR
    go_loopw [8,9,44] (fun av sv jv ws=>∃ (j:Nat) (a' u':Int),av=.int .i64 a'∧sv=.int .i64 u'∧jv=.int .i64 j∧j≤an∧Hid ((a',u')=stepA (arcs.take j) r (-1,u))∧Hid (Touch (fun _=>False) w4 ws)) (fun _ _ jv _=>an-(intOf jv).toNat)
    case atStart=>exact ⟨0,-1,u,rfl,rfl,rfl,by omega,hide rfl,hide (Touch.refl _ _)⟩
    case round =>
     obtain ⟨j,a',u',rfl,rfl,rfl,hj,HP,HT5⟩:=hrel
     have hsm:=stepA_small (l:=arcs.take j) (n:=n) (r:=r) ((((List.take_sublist j arcs).map (·.1)).nodup HLAB.out)) (fun a ha=>HARC.out a (List.mem_of_mem_take ha)) u
     rw [← HP.out] at hsm
     simp only at hsm
     by_cases hjn:j<an
     ·have y3:(j:Int)<(an:Int):=by omega
      have y4:(0:Int)≤(j:Int):=by omega
      obtain ⟨g3,o3,hA3,hg3,c1,c2,c3⟩:=arc_at (HA4.out.1.quiet HT5.out).rd HA4.out.2 j hjn
      subst hA3
      have hab:=HARC.out _ (getD_mem arcs (0,0,0) j (by rw [HA4.out.2];exact hjn))
      have hsn:=stepA_snoc (arcs.take j) (arcs.getD j (0,0,0)) r (-1,u)
      rw [← take_snoc arcs (0,0,0) j (by rw [HA4.out.2];exact hjn),← HP.out] at hsn
      obtain ⟨⟨la,ao,tt⟩,hz⟩:∃ z,arcs.getD j (0,0,0)=z:=⟨_,rfl⟩
      rw [hz] at c1 c2 c3 hab hsn
      simp only at c1 c2 c3 hab hsn
      have HSN:=hide hsn
      have z1:IntKind.i64.wrap (u'+ao)=u'+ao:=IntWalk.i64_in _ (by omega)
      have z2:IntKind.i64.wrap ((j:Int)+1)=(j:Int)+1:=IntWalk.i64_in _ (by unfold maxLen at han;omega)
      clear hsn hz hab hsm
      by_cases hla:la=r
      ·subst hla
       go_wp2_with fail
       go_roundw
       ·exact ⟨j+1,(tt:Int),u'+ao,rfl,rfl,by simp,by omega,hide (by rw [HSN.out,if_pos rfl]),hide ((HT5.out).alloc _)⟩
       ·simp only [intOf];omega
      ·have hla2:(la:Int)≠(r:Int):=by omega
       go_wp2_with fail
       go_roundw
       ·exact ⟨j+1,a',u',rfl,rfl,by simp,by omega,hide (by rw [HSN.out,if_neg hla]),hide ((HT5.out).alloc _)⟩
       ·simp only [intOf];omega
     ·have hje:j=an:=by omega
      subst hje
      have hfull:stepA arcs r (-1,u)=(a',u'):=by
       rw [HP.out,List.take_of_length_le (by rw [HA4.out.2];exact Nat.le_refl _)]
      have hst:=HSTP.out
      rw [hfull] at hst
      have HST2:=hide (HE.out.trans hst)
      clear hfull hst
      have z3:IntKind.i64.wrap ((i:Int)+1)=(i:Int)+1:=IntWalk.i64_in _ (by omega)
      go_wp2_with fail
      go_roundw
      ·exact ⟨i+1,a',u',rfl,rfl,by simp,by omega,by omega,by omega,hide (by omega),hide HST2.out,hide (HT.out.then (HT4.out.then HT5.out))⟩
      ·simp only [intOf];omega
  ·have hie:i=lq:=by omega
   subst hie
   have hE:=HE.out
   rw [List.drop_of_length_le (by rw [HOL.out];exact Nat.le_refl _)] at hE
   have hR:=HR.out
   unfold findW at hR
   rw [HRU.out] at hR
   cases ok with
   | false =>
    have hres:R=(0,false):=by rw [← hR];rfl
    subst hres
    go_wp2_with fail
    exact bodyPost_ret (v:=.tuple #[.int .i64 0,.bool false]) (by simp [results,Tryd.results61,go_sem]) rfl ⟨rfl,HT2.out.then HT.out⟩
   | true =>
    simp only [if_true] at hR
    rw [hE] at hR
    simp only [followF,endF] at hR
    by_cases hneg:a<0
    ·have hres:R=(0,false):=by rw [← hR,if_pos hneg]
     subst hres
     clear hR hE
     go_wp2_with fail
     exact bodyPost_ret (v:=.tuple #[.int .i64 0,.bool false]) (by simp [results,Tryd.results61,go_sem]) rfl ⟨rfl,HT2.out.then HT.out⟩
    ·obtain ⟨k,rfl⟩:∃ k:Nat,a=(k:Int):=⟨a.toNat,by omega⟩
     have hk:k<n:=by omega
     have n0:¬ (k:Int)<0:=by omega
     have n1:(0:Int)≤(k:Int):=by omega
     have hb:=HB2.out.touch HT.out (fun f=>f)
     obtain ⟨x3,x4,x5⟩:=hb.facts
     have hsr:=HS2.out.quiet HT.out
     obtain ⟨g2,o2,hA2,hg2,s0,s1,s2⟩:=state_at hsr.rd.rd hsr.len k hk
     have hA3:A=some ⟨g2,o2,none⟩:=hA2
     subst hA3
     have hzm:=getD_mem Z svZero k (by rw [hsr.len];exact hk)
     have hzout:=HSM.out.out _ hzm
     have hgp:(Z.map SV.p).getD ((k:Nat):Int).toNat noSt=(Z.getD k svZero).p:=by simp [List.getD,show k<Z.length by rw [hsr.len];exact hk]
     rw [if_neg n0,hgp] at hR
     obtain ⟨⟨fin,out,aA,an,ac,arcs⟩,hz⟩:∃ z,Z.getD k svZero=z:=⟨_,rfl⟩
     rw [hz] at s0 s1 s2 hzout hR
     simp only [SV.p] at s0 s1 s2 hzout hR
     have hu:=HU.out
     have z1:IntKind.i64.wrap (u+out)=u+out:=IntWalk.i64_in _ (by omega)
     clear hgp hz hzm hsr hb x0 x1
     cases fin with
     | false =>
      have hres:R=(0,false):=by rw [← hR];rfl
      subst hres
      clear hR hE
      go_wp2_with fail
      exact bodyPost_ret (v:=.tuple #[.int .i64 0,.bool false]) (by simp [results,Tryd.results61,go_sem]) rfl ⟨rfl,HT2.out.then HT.out⟩
     | true =>
      have hres:R=(u+out,true):=by rw [← hR];rfl
      subst hres
      clear hR hE
      go_wp2_with fail
      exact bodyPost_ret (v:=.tuple #[.int .i64 (u+out),.bool true]) (by simp [results,Tryd.results61,go_sem]) rfl ⟨rfl,HT2.out.then HT.out⟩
end Go.Proofs.YthockgmbooefpaaDoor
namespace Go.Proofs.YthockgmbooefpaaDoor
open Go.RowKit
section
variable {w:World} {b:Nat} {L:List PRow} {n:Nat} {A:Option Addr} {c:Nat} {Z:List SV} {wA:Option Addr} {wc:Nat}
theorem findW_mach (hD:DictP L) (bs:List UInt8):findW (mach L).states (((mach L).states.length:Int)-1) (mach L).base bs=findP bs L:=by
 unfold findW
 by_cases he:L=[]
 ·subst he
  cases hr:runesU bs with
  | none=>rfl
  | some x =>
   cases x with
   | nil=>rfl
   | cons r x=>rfl
 ·cases hr:runesU bs with
  | none =>
   have hno:∀ p∈L,p.word.toList≠bs:=fun p hp e=>by
    have h1:=(hD.word p hp).1
    rw [e,hr] at h1
    cases h1
   rw [key_none hno]
  | some x =>
   have hpos:0<(mach L).states.length:=by rw [mach_ne he];exact (made hD he).pos
   rw [← mach_find hD he bs x hr]
   simp only
   rw [show (((mach L).states.length-1:Nat):Int)=((mach L).states.length:Int)-1 by omega]
theorem dfind_any (h:DWk w b L n A c Z wA wc) (hD:DictP L) (hL:Lst w) (s:ByteArray) (hs:s.size≤1099511627776) :
  Calls Tryd.prog 61 #[.pointer (some ⟨b,0,none⟩),.string s] w fun e w'=>e=.returned (.tuple #[.int .i64 (findP s.toList L).1,.bool (findP s.toList L).2])∧Touch (fun _=>False) w w':=by
 have hn:=h.n_len
 have hsm:=small_right (right_mach hD) h.st
 rw [hn] at hsm
 have:=wfind_any w b (mach L).base A n c Z _ h.wk.blk h.wk.sts hL s hs h.few (base_mach hD).1 (base_mach hD).2 hsm
 rw [h.st] at this
 have e:=findW_mach hD s.toList
 rw [hn] at e
 rw [e] at this
 exact this
end
end Go.Proofs.YthockgmbooefpaaDoor
