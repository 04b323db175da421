/- What the law rests on, part 37. No condition but those that each theorem names. -/
import Derived.Test.YthockgmbooefpaaGreatDoorL33
import Derived.Test.YthockgmbooefpaaGreatDoorL36
import Derived.Laws.IdiomStrings
import Derived.Test.YthockgmbooefpaaGreatDoorL20
set_option linter.unusedSectionVars false
set_option linter.unusedSimpArgs false
set_option linter.unusedVariables false
set_option maxRecDepth 100000
set_option maxHeartbeats 4000000
namespace Go.Proofs.YthockgmbooefpaaGreatDoor
open Go.RowKit
theorem mach_few {L:List PRow} (hD:DictP L):(mach L).states.length≤98305:=by
 rcases right_mach hD with ⟨h,_⟩ | h
 ·rw [h];exact Nat.zero_le _
 ·exact h.few
theorem dpack_any (w:World) (hL:Lst w) (L:List PRow) (hD:DictP L) (A:Option Addr) (n c:Nat) (Z:List SV) (hst:StsOk w A n Z) (hz:Z.map SV.p=(mach L).states) :
  Calls Tryz.prog 47 #[.agg #[.int .i64 (mach L).base,.slice A n c]] w fun e w'=>∃ (A':Option Addr) (q c':Nat),e=.returned (.tuple #[.slice A' q c',.int .i64 0])∧ONx 5 1 w w' (.slice A' q c') q ((packB (mach L).base (mach L).states).map byteV):=by
 have hb:=base_mach hD
 obtain ⟨bn,hbn⟩:∃ bn:Nat,(mach L).base=(bn:Int):=⟨(mach L).base.toNat,by omega⟩
 have hn:n=(mach L).states.length:=by rw [← hz,List.length_map];exact hst.len.symm
 have hr:=right_mach hD
 rw [← hz] at hr ⊢
 rw [hbn] at hr ⊢
 refine pack_any w hL bn A n c Z hst hr (by omega) (by rw [hn];exact mach_few hD) (fun i hi=>?_)
 rcases hr with ⟨h,_⟩ | h
 ·have:Z=[]:=by simpa using h
  rw [this] at hst
  have:=hst.len
  simp at this
  omega
 ·have hf:=h.form i (by rw [List.length_map,hst.len];exact hi)
  have e:(Z.map SV.p).getD i noSt=(Z.getD i svZero).p:=by simp [List.getD,show i<Z.length by rw [hst.len];exact hi]
  rw [e] at hf
  exact hf
theorem conv_bytes (w:World) (A:Option Addr) (q c:Nat) (l:List UInt8) (h:w.ownsRow 0 5 1 (.slice A q c) q (l.map byteV)) (h0:0<l.length):l.length=q∧(convert 50 9 (.slice A q c)).run Tryz.prog w=.ok (.string ⟨l.toArray⟩) w:=by
 have hr:=Reads.of_own h
 have hl:l.length=q:=by
  have:=hr.1
  rw [List.length_map] at this
  omega
 obtain ⟨b,off,hA,_,hc⟩:=hr.2 (by omega)
 subst hA
 refine ⟨hl,?_⟩
 rw [← hl]
 refine run_convert_bytes_back _ _ _ _ _ _ l Tryz.underlying50 Tryz.underlying5 Tryz.underlying9 fun j hj=>?_
 have:=hc j (byteV l[j]) (by rw [List.getElem?_map,List.getElem?_eq_getElem hj];rfl)
 rw [Addr.add_lit]
 exact this
structure SRow.In (r:SRow):Prop where
 s0:0≤r.seq
 s1:r.seq<18446744073709551616
 c0:0≤r.code
 c1:r.code≤65535
 i0:0≤r.sess
 i1:r.sess<18446744073709551616
 h0:0≤r.had
 h1:r.had≤1048576
def rowNs (r:SRow):List Nat:=[r.seq.toNat,r.code.toNat,r.sess.toNat,r.had.toNat]
def rowB (r:SRow):List UInt8:=(rowNs r).flatMap varN
def mB (L:List PRow):List UInt8:=packB (mach L).base (mach L).states
def headI (L:List PRow) (n:Nat):List UInt8:=varN (mB L).length++mB L++varN n
def bodyI (L:List PRow) (R:List SRow):List UInt8:=headI L R.length++R.flatMap rowB
def imgB (L:List PRow) (R:List SRow):List UInt8:=if (bodyI L R).length≤2097152 then sealB (bodyI L R) else []
theorem varN_len (n:Nat):(varN n).length≤10:=varF_len 9 n
theorem arcB_len (i p:Nat) (a:Nat × Int × Nat):(arcB i p a).length≤30:=by
 unfold arcB
 have h1:=varN_len (a.1-p)
 have h2:=varN_len a.2.1.toNat
 have h3:=varN_len (i-a.2.2)
 simp only [List.length_append]
 omega
theorem arcsB_most (i:Nat):∀ (l:List (Nat × Int × Nat)) (p:Nat),(arcsB i p l).length≤30*l.length
 | [],p=>by simp [arcsB]
 | a :: l,p=>by
  have h1:=arcsB_most i l a.1
  have h2:=arcB_len i p a
  simp only [arcsB,List.length_append,List.length_cons]
  omega
theorem stB_len (i:Nat) (s:StP):(stB i s).length≤20+30*s.arcs.length:=by
 unfold stB headB
 have h1:=arcsB_most i s.arcs 0
 have h2:=varN_len (2*s.arcs.length+1)
 have h3:=varN_len s.out.toNat
 have h4:=varN_len (2*s.arcs.length)
 split<;>simp only [List.length_append]<;>omega
theorem stsB_len:∀ (l:List StP) (i:Nat),(∀ s∈l,s.arcs.length≤2097152)→(stsB i l).length≤62914580*l.length
 | [],i,_=>by simp [stsB]
 | s :: l,i,h=>by
  have h1:=stsB_len l (i+1) (fun x hx=>h x (List.mem_cons_of_mem _ hx))
  have h2:=stB_len i s
  have h3:=h s List.mem_cons_self
  simp only [stsB,List.length_append,List.length_cons]
  omega
theorem mB_len {L:List PRow} (hD:DictP L):(mB L).length≤8796093022208:=by
 unfold mB packB topB
 have h1:=varN_len (mach L).base.toNat
 have h2:=varN_len (mach L).states.length
 have hn:=mach_few hD
 have h3:=stsB_len (mach L).states 0 (fun s hs=>by
  rcases right_mach hD with ⟨h,_⟩ | h
  ·rw [h] at hs;cases hs
  ·obtain ⟨i,hi,he⟩:=List.getElem_of_mem hs
   have hf:=h.form i hi
   have e:(mach L).states.getD i noSt=s:=by rw [← he];simp [List.getD,hi]
   rw [e] at hf
   exact form_few hf)
 simp only [List.length_append]
 omega
theorem rowB_len (r:SRow):(rowB r).length≤40:=by
 unfold rowB rowNs
 have h1:=varN_len r.seq.toNat
 have h2:=varN_len r.code.toNat
 have h3:=varN_len r.sess.toNat
 have h4:=varN_len r.had.toNat
 simp only [List.flatMap_cons,List.flatMap_nil,List.length_append,List.length_nil]
 omega
theorem rowsB_len:∀ (R:List SRow),(R.flatMap rowB).length≤40*R.length
 | []=>by simp
 | r :: R=>by
  have h1:=rowsB_len R
  have h2:=rowB_len r
  simp only [List.flatMap_cons,List.length_append,List.length_cons]
  omega
theorem own_u8 {w:World} {A:Option Addr} {n c:Nat} {bs:List UInt8} (h:w.ownsRow 0 5 1 (.slice A n c) n (bs.map byteV)):bs.length=n:=by
 have hr:=Reads.of_own h
 have:=hr.1
 rw [List.length_map] at this
 omega
theorem image_any (w:World) (hL:Lst w) {s d tb:Nat} {v:Value} {L:List PRow} {q:Nat} {R:List SRow} (h:StX w s d tb v L q R) (hIn:∀ r∈R,r.In) :
  Calls Tryz.prog 18 #[ptrV s] w fun e w'=>∃ (A':Option Addr) (q' c':Nat),e=.returned (.slice A' q' c')∧ONx 5 1 w w' (.slice A' q' c') q' ((imgB L R).map byteV):=by
 have hD:=h.dct.dict
 have HML:=hide (mB_len hD)
 have HRF:=hide h.few
 have HH:=hide h
 have HMA:=hide (machine_any w hL h.dct)
 have HPK:=hide (fun (wx:World) (T:Touch (fun _=>False) w wx) (A:Option Addr) (n c:Nat) (Z:List SV) (hst:StsOk wx A n Z) (hz:Z.map SV.p=(mach L).states)=>dpack_any wx (Lst.touch hL T) L hD A n c Z hst hz)
 have HRW:=hide (fun (wx:World) (T:Touch (fun _=>False) w wx)=>ses_rows wx tb v R (h.quiet T).tab h.few)
 have HIN:=hide hIn
 obtain ⟨m,hm⟩:∃ m,m=mB L:=⟨_,rfl⟩
 have hm2:packB (mach L).base (mach L).states=m:=hm.symm
 simp only [hm2] at HPK
 rw [← hm] at HML
 obtain ⟨ba,hba⟩:∃ b,b=(mach L).base:=⟨_,rfl⟩
 rw [← hba] at HMA HPK
 have HM:=hide hm
 obtain ⟨s0,s1,s2⟩:=h.blk.facts
 clear hL h hIn hD hm hm2 hba
 go_enter Tryz.func18,Tryz.ntmps18
 go_wp2_with fail
 refine HMA.out.mono ?_
 rintro e w1 ⟨A1,n1,c1,Z1,rfl,hst1,hz1,_,T1⟩
 have HT1:=hide T1
 have HP1:=hide (HPK.out w1 T1 A1 n1 c1 Z1 hst1 hz1)
 clear hst1 hz1 T1 HMA HPK
 go_wp2_with fail
 refine HP1.out.mono ?_
 rintro e w2 ⟨A2,q2,c2,rfl,h2⟩
 have HO2:=hide h2
 have HQ2:=hide (own_u8 h2.own)
 have HT2:=hide (HT1.out.then h2.touch)
 have HP2:=hide (putbytes_nil w2 A2 q2 c2 m (Reads.of_own h2.own) (own_nilOk h2.own) (own_u8 h2.own) (by have:=own_u8 h2.own;have:=HML.out;omega))
 clear h2 HP1
 go_wp2_with fail
 refine HP2.out.mono ?_
 rintro e w3 ⟨A3,q3,c3,rfl,h3,hq3⟩
 have HO3:=hide h3
 have HQ3:=hide hq3
 have HT3:=hide (HT2.out.then h3.touch)
 have HR3:=hide (HRW.out w3 HT3.out)
 have HB3:=hide (HH.out.blk.touch HT3.out (fun f=>f))
 clear h3 hq3 HP2 s0 s1 s2
 obtain ⟨s0,s1,s2⟩:=HB3.out.facts
 go_wp2_with fail
 refine HR3.out.mono ?_
 rintro e w4 ⟨v4,rfl,ho4,T4,hfr4⟩
 obtain ⟨A4,c4,hv4,_,_⟩:=own_len ho4
 subst hv4
 have HO4:=hide ho4
 have HT4:=hide (HT3.out.then T4)
 have HX4:Hid (ONx 5 1 w w4 (.slice A3 q3 c3) q3 ((varN m.length++m).map byteV)):=hide (by
  have h:=HO3.out.to T4
  rw [← HQ2.out] at h
  exact h.from HT2.out)
 have HX4b:=hide (putuint_any w w4 A3 q3 c3 _ HX4.out R.length (by have:=HRF.out;omega) (by have:=HQ3.out;have:=HQ2.out;have:=HML.out;omega))
 have z1:IntKind.u64.wrap (R.length:Int)=(R.length:Int):=IntWalk.u64_in _ (by have:=HRF.out;omega)
 clear ho4 T4 hfr4 HR3 s0 s1 s2
 go_wp2_with fail
 refine HX4b.out.mono ?_
 rintro e w5 ⟨A5,q5,c5,rfl,h5,hq5,T5⟩
 have HO5:Hid (w5.ownsRow 0 110 4 (.slice A4 R.length c4) R.length (rowCells R)):=hide (own_touch HO4.out T5 (fun g hg e=>(own_ty HO4.out hg).ne (own_ty HX4.out.own e) (by decide) rfl))
 have HX5:Hid (ONx 5 1 w w5 (.slice A5 q5 c5) q5 ((headI L R.length).map byteV)):=hide (by
  have h:=h5
  rw [← List.map_append] at h
  unfold headI
  rw [← HM.out]
  exact h)
 have HHL:Hid ((headI L R.length).length≤8796093022228):=hide (by
  unfold headI
  have h1:=varN_len (mB L).length
  have h2:=varN_len R.length
  have h3:=HML.out
  rw [HM.out] at h3
  simp only [List.length_append]
  omega)
 clear h5 hq5 T5 HX4b
 go_wp2_with fail
 go_loopw [5,36] (fun bv iv wr=>∃ (i:Nat) (A':Option Addr) (q' c':Nat),bv=.slice A' q' c'∧iv=.int .i64 i∧i≤R.length∧Hid (ONx 5 1 w wr (.slice A' q' c') q' ((headI L R.length++(R.take i).flatMap rowB).map byteV))∧Hid (wr.ownsRow 0 110 4 (.slice A4 R.length c4) R.length (rowCells R))) (fun _ iv _=>R.length-(intOf iv).toNat)
 case atStart=>exact ⟨0,A5,q5,c5,rfl,rfl,Nat.zero_le _,hide (by simpa using HX5.out),HO5⟩
 case round =>
  obtain ⟨i,A6,q6,c6,rfl,rfl,hi',HX,HO⟩:=hrel
  obtain ⟨wo,hwo⟩:∃ y,y=wr:=⟨_,rfl⟩
  subst hwo
  by_cases hi:i<R.length
  ·have y0:(i:Int)<(R.length:Int):=by omega
   have y1:(0:Int)≤(i:Int):=by omega
   have y2:IntKind.i64.wrap ((i:Int)+1)=(i:Int)+1:=IntWalk.i64_in _ (by have:=HRF.out;omega)
   obtain ⟨g1,hA1,hg1,d0,d1,d2,d3⟩:=rows_at HO.out i hi
   subst hA1
   have hrm:R.getD i SRow.zero∈R:=by
    have e2:R.getD i SRow.zero=R[i]:=by simp [List.getD,hi]
    rw [e2];exact List.getElem_mem _
   have hri:=HIN.out _ hrm
   have htk:(R.take (i+1)).flatMap rowB=(R.take i).flatMap rowB++rowB (R.getD i SRow.zero):=by
    rw [List.take_succ_eq_append_getElem hi,List.flatMap_append]
    have e2:R.getD i SRow.zero=R[i]:=by simp [List.getD,hi]
    rw [e2]
    simp
   obtain ⟨⟨rs,rc,rr,rh⟩,hr⟩:∃ r,r=R.getD i SRow.zero:=⟨_,rfl⟩
   rw [← hr] at d0 d1 d2 d3 hri htk
   obtain ⟨i1,i2,i3,i4,i5,i6,i7,i8⟩:=hri
   simp only at d0 d1 d2 d3 i1 i2 i3 i4 i5 i6 i7 i8
   obtain ⟨sn,hsn⟩:∃ n:Nat,rs=(n:Int):=⟨rs.toNat,by omega⟩
   obtain ⟨cn,hcn⟩:∃ n:Nat,rc=(n:Int):=⟨rc.toNat,by omega⟩
   obtain ⟨an,han⟩:∃ n:Nat,rr=(n:Int):=⟨rr.toNat,by omega⟩
   obtain ⟨hn,hhn⟩:∃ n:Nat,rh=(n:Int):=⟨rh.toNat,by omega⟩
   subst hsn hcn han hhn
   have z2:IntKind.u64.wrap (cn:Int)=(cn:Int):=IntWalk.u64_in _ (by omega)
   have z3:IntKind.u64.wrap (hn:Int)=(hn:Int):=IntWalk.u64_in _ (by omega)
   have hrb:rowB ⟨(sn:Int),(cn:Int),(an:Int),(hn:Int)⟩=[sn,cn,an,hn].flatMap varN:=by unfold rowB rowNs;simp
   obtain ⟨ns,hns⟩:∃ ns,ns=[sn,cn,an,hn]:=⟨_,rfl⟩
   rw [hrb,← hns] at htk
   have hnl:ns.length=4:=by rw [hns];rfl
   have hnb:∀ k,k<4→ns.getD k 0<18446744073709551616:=by
    intro k hk
    rw [hns]
    rcases k with _ | _ | _ | _ | k
    ·simp;omega
    ·simp;omega
    ·simp;omega
    ·simp;omega
    ·omega
   obtain ⟨wa,hwa⟩:∃ y,y=(wo.alloc (.cells #[.int .u64 (sn:Int),.int .i64 (cn:Int),.int .u64 (an:Int),.int .i64 (hn:Int)] 110)).alloc (.cells #[.int .u64 (sn:Int),.int .u64 (cn:Int),.int .u64 (an:Int),.int .u64 (hn:Int)] 27):=⟨_,rfl⟩
   obtain ⟨gu,hgu⟩:∃ y,y=wo.heap.size+1:=⟨_,rfl⟩
   have hTa:Touch (fun _=>False) wo wa:=by rw [hwa];exact ((Touch.refl _ _).alloc _).alloc _
   have HUB:Hid (Blk wa gu 27 #[.int .u64 (sn:Int),.int .u64 (cn:Int),.int .u64 (an:Int),.int .u64 (hn:Int)]):=hide (by
    have h1:=Blk.new (wo.alloc (.cells #[.int .u64 (sn:Int),.int .i64 (cn:Int),.int .u64 (an:Int),.int .i64 (hn:Int)] 110)) 27 #[.int .u64 (sn:Int),.int .u64 (cn:Int),.int .u64 (an:Int),.int .u64 (hn:Int)]
    rw [hwa,hgu]
    simpa using h1)
   have HXA:=hide (HX.out.to hTa)
   have HOA:=hide (own_touch HO.out hTa (fun _ _ f=>f))
   have HWA:=hide hwa
   have HGU:=hide hgu
   have HTK:=hide htk
   have HNS:=hide hns
   have HNL:=hide hnl
   have HNB:=hide hnb
   have HI:=hide hi
   clear hr hrm i1 i2 i3 i4 i5 i6 i7 i8 hrb hns hnl hnb hwa hgu hTa htk hi hi' hg1
   go_upto_region 9 with fail
   rw [← HWA.out,← HGU.out]
   clear d0 d1 d2 d3
   go_loopw [5,55] (fun bv iv wr=>∃ (k:Nat) (A':Option Addr) (q' c':Nat),bv=.slice A' q' c'∧iv=.int .i64 k∧k≤4∧Hid (ONx 5 1 w wr (.slice A' q' c') q' ((headI L R.length++(R.take i).flatMap rowB++(ns.take k).flatMap varN).map byteV))∧Hid (wr.ownsRow 0 110 4 (.slice (some ⟨g1,0,none⟩) R.length c4) R.length (rowCells R))∧Hid (Blk wr gu 27 #[.int .u64 (sn:Int),.int .u64 (cn:Int),.int .u64 (an:Int),.int .u64 (hn:Int)])) (fun _ iv _=>4-(intOf iv).toNat)
   case atStart=>exact ⟨0,A6,q6,c6,rfl,rfl,by omega,hide (by simpa using HXA.out),HOA,HUB⟩
   case round =>
    obtain ⟨k,A7,q7,c7,rfl,rfl,hk',HX7,HO7,HU7⟩:=hrel
    obtain ⟨wk,hwk⟩:∃ y,y=wr:=⟨_,rfl⟩
    subst hwk
    by_cases hk:k<4
    ·have k0:(k:Int)<4:=by omega
     have k1:(0:Int)≤(k:Int):=by omega
     have k2:IntKind.i64.wrap ((k:Int)+1)=(k:Int)+1:=IntWalk.i64_in _ (by omega)
     have hcell:wk.cell? ⟨gu,k,none⟩=some (.int .u64 ((ns.getD k 0:Nat):Int)):=by
      rw [HU7.out.cell k,HNS.out]
      rcases k with _ | _ | _ | _ | k
      ·rfl
      ·rfl
      ·rfl
      ·rfl
      ·omega
     have hnk:=HNB.out k hk
     have htk:(ns.take (k+1)).flatMap varN=(ns.take k).flatMap varN++varN (ns.getD k 0):=by
      have hk2:k<ns.length:=by rw [HNL.out];exact hk
      rw [List.take_succ_eq_append_getElem hk2,List.flatMap_append]
      have e2:ns.getD k 0=ns[k]:=by simp [List.getD,hk2]
      rw [e2]
      simp
     obtain ⟨x,hx⟩:∃ x,x=ns.getD k 0:=⟨_,rfl⟩
     rw [← hx] at hcell hnk htk
     have hql:q7≤8796093193229:=by
      have h1:=own_u8 HX7.out.own
      rw [← h1]
      have h2:=rowsB_len (R.take i)
      have h3:=HHL.out
      have h4:=HRF.out
      have h5:(R.take i).length≤R.length:=by rw [List.length_take];omega
      have h6:((ns.take k).flatMap varN).length≤40:=by
       have h7:∀ l:List Nat,(l.flatMap varN).length≤10*l.length:=by
        intro l
        induction l with
        | nil=>simp
        | cons a l ih=>have:=varN_len a;simp only [List.flatMap_cons,List.length_append,List.length_cons];omega
       have h8:=h7 (ns.take k)
       have h9:(ns.take k).length≤4:=by rw [List.length_take,HNL.out];omega
       omega
      simp only [List.length_append]
      omega
     have HPU:=hide (putuint_any w wk A7 q7 c7 _ HX7.out x hnk (by omega))
     have HKK:=hide hk
     have HTK2:=hide htk
     have hgu2:gu<wk.heap.size:=HU7.out.lt
     clear hx hnk htk hql hk hk'
     go_wp2_with fail
     refine HPU.out.mono ?_
     rintro e w8 ⟨A8,q8,c8,rfl,h8,hq8,T8⟩
     have HX8:Hid (ONx 5 1 w w8 (.slice A8 q8 c8) q8 ((headI L R.length++(R.take i).flatMap rowB++(ns.take (k+1)).flatMap varN).map byteV)):=hide (by
      rw [HTK2.out,← List.append_assoc,List.map_append]
      exact h8)
     have HO8:=hide (own_touch HO7.out T8 (fun g hg e=>(own_ty HO7.out hg).ne (own_ty HX7.out.own e) (by decide) rfl))
     have HU8:=hide (HU7.out.touch T8 (fun e=>(blk_ty HU7.out).ne (own_ty HX7.out.own e) (by decide) rfl))
     clear h8 hq8 T8 HPU hcell hgu2
     go_wp2_with fail
     go_roundw
     ·exact ⟨k+1,A8,q8,c8,rfl,by simp,by have:=HKK.out;omega,HX8,HO8,HU8⟩
     ·have:=HKK.out
      simp only [intOf]
      omega
    ·have k0:¬ (k:Int)<4:=by omega
     have hke:ns.take k=ns:=List.take_of_length_le (by rw [HNL.out];omega)
     rw [hke] at HX7
     clear hk hk' hke
     go_wp2_with fail
     go_roundw
     ·exact ⟨i+1,A7,q7,c7,rfl,by simp,by have:=HI.out;omega,hide (by rw [HTK.out,← List.append_assoc];exact HX7.out),HO7⟩
     ·have:=HI.out
      simp only [intOf]
      omega
  ·have y0:¬ (i:Int)<(R.length:Int):=by omega
   have hie:R.take i=R:=List.take_of_length_le (by omega)
   have hx:=HX.out
   rw [hie] at hx
   have hbl:(bodyI L R).length=q6:=own_u8 hx.own
   have hbd:q6≤8796093186068:=by
    rw [← hbl]
    unfold bodyI
    have h1:=rowsB_len R
    have h2:=HRF.out
    have h3:=HHL.out
    simp only [List.length_append]
    omega
   have hse:=seal_any wo A6 q6 c6 (bodyI L R) (Reads.of_own hx.own) (own_nilOk hx.own) hbl (by omega)
   rw [← hbl] at hse
   have HSE:=hide hse
   have HTX:=hide hx.touch
   have HBL:=hide hbl
   rw [← hbl]
   clear hie hx hbl hbd hse hi hi'
   go_wp2_with fail
   refine HSE.out.mono ?_
   rintro e w9 ⟨A9,q9,c9,k9,rfl,h9,hk9⟩
   have HO9:=hide (h9.from HTX.out)
   clear h9 hk9 HSE
   go_wp2_with fail
   go_ret
   exact ⟨A9,q9,c9,rfl,HO9.out⟩
end Go.Proofs.YthockgmbooefpaaGreatDoor
namespace Go.Proofs.YthockgmbooefpaaGreatDoor
open Go.RowKit
theorem find_inW {L:List PRow} (hD:DictP L) (w:List UInt8):0≤(findP w L).1∧(findP w L).1≤1048576:=by
 cases hf:(findP w L).2 with
 | true =>
  obtain ⟨p,hp,_,he⟩:=findP_mem hf
  have:=hD.weight p hp
  rw [he]
  omega
 | false =>
  rw [find_zero hf]
  simp
theorem do_in {L:List PRow} (hD:DictP L) (c:CmdP):0≤doE c L∧doE c L≤65535∧0≤doH c L∧doH c L≤1048576:=by
 have hf:=find_inW hD c.word.toList
 unfold doE doH setH remH setE remE
 split
 ·refine ⟨?_,?_,?_,?_⟩<;>(repeat' split)<;>first | omega | exact hf.1 | exact hf.2
 ·refine ⟨?_,?_,?_,?_⟩<;>(repeat' split)<;>first | omega | exact hf.1 | exact hf.2
theorem doR_in {L:List PRow} (hD:DictP L) {R:List SRow} (h:∀ r∈R,r.In) {c:CmdP} (hc:c.In):∀ r∈doR c L R,r.In:=by
 intro r hr
 unfold doR at hr
 split at hr
 ·split at hr
  ·rcases List.mem_append.1 hr with hr | hr
   ·exact h r hr
   ·have e:r=SRow.zero:=by simpa using hr
    subst e
    exact ⟨by decide,by decide,by decide,by decide,by decide,by decide,by decide,by decide⟩
  ·exact h r hr
 ·split at hr
  ·rcases List.mem_or_eq_of_mem_set hr with hr | rfl
   ·exact h r hr
   ·obtain ⟨e0,e1,h0,h1⟩:=do_in hD c
    obtain ⟨_,_,s0,s1⟩:=hc
    exact ⟨s0,s1,e0,e1,Int.le_refl _,by simp only;omega,h0,h1⟩
  ·exact h r hr
theorem runS_in {L:List PRow} (hD:DictP L) {R:List SRow} (h:∀ r∈R,r.In) (T:List CmdP) (hT:∀ c∈T,c.In):∀ r∈(runS T (L,R)).2,r.In:=by
 induction T generalizing L R with
 | nil=>exact h
 | cons c T ih=>exact ih (doL_dict hD c R) (doR_in hD h (hT c List.mem_cons_self)) (fun x hx=>hT x (List.mem_cons_of_mem _ hx))
end Go.Proofs.YthockgmbooefpaaGreatDoor
namespace Go.Proofs.YthockgmbooefpaaGreatDoor
open Go.RowKit
structure RdG (w:World) (p:Nat) (A:Option Addr) (n c:Nat) (bs:List UInt8) (e:Int):Prop where
 blk:Blk w p 214 #[.slice A n c,.int .i64 e]
 rd:Reads w 1 A n (bs.map byteV)
 ne:∀ g,adBlock A=some g→¬ g=p
 len:bs.length=n
 le:n≤c
 mx:c≤maxLen
theorem RdG.touch {w w':World} {p:Nat} {A:Option Addr} {n c:Nat} {bs:List UInt8} {e:Int} {S:Nat→Prop} (h:RdG w p A n c bs e) (T:Touch S w w') (h1:¬ S p) (h2:∀ g,adBlock A=some g→¬ S g):RdG w' p A n c bs e :=
 ⟨h.blk.touch T h1,h.rd.touch T h2,h.ne,h.len,h.le,h.mx⟩
theorem RdG.quiet {w w':World} {p:Nat} {A:Option Addr} {n c:Nat} {bs:List UInt8} {e:Int} (h:RdG w p A n c bs e) (T:Touch (fun _=>False) w w'):RdG w' p A n c bs e:=h.touch T (fun f=>f) (fun _ _ f=>f)
theorem RdG.fail {w:World} {p:Nat} {A:Option Addr} {n c:Nat} {bs:List UInt8} {e:Int} (h:RdG w p A n c bs e) (k:Int):RdG (w.setCell ⟨p,1,none⟩ (.int .i64 k)) p A n c bs k:=by
 have T:Touch (fun g=>g=p) w (w.setCell ⟨p,1,none⟩ (.int .i64 k)):=(Touch.refl (fun g=>g=p) w).setCell (fun _=>rfl) _
 exact ⟨h.blk.set_ 1 _,h.rd.touch T (fun g hg e=>h.ne g hg e),h.ne,h.len,h.le,h.mx⟩
theorem RdG.step {w:World} {p:Nat} {A:Option Addr} {n c:Nat} {bs:List UInt8} {e:Int} (h:RdG w p A n c bs e) {k:Nat} (hk:k≤n) :
  RdG (w.setCell ⟨p,0,none⟩ (.slice (if c=k then A else A.map (·.add k)) (n-k) (c-k))) p (if c=k then A else A.map (·.add k)) (n-k) (c-k) (bs.drop k) e:=by
 have T:Touch (fun g=>g=p) w (w.setCell ⟨p,0,none⟩ (.slice (if c=k then A else A.map (·.add k)) (n-k) (c-k))):=(Touch.refl (fun g=>g=p) w).setCell (fun _=>rfl) _
 have hr:=h.rd.touch T (fun g hg e=>h.ne g hg e)
 refine ⟨h.blk.set_ 0 _,?_,?_,by rw [List.length_drop,h.len],by have:=h.le;omega,by have:=h.mx;omega⟩
 ·have:=hr.cut hk h.le
  rw [Nat.mul_one] at this
  rw [List.map_drop]
  exact this
 ·intro g hg
  refine h.ne g ?_
  split at hg
  ·exact hg
  ·cases A with
   | none=>cases hg
   | some a =>
    simp only [adBlock,Option.map_some,Option.some.injEq] at hg ⊢
    rw [← hg]
    unfold Addr.add
    split<;>rfl
def SameB (A A':Option Addr):Prop:=∀ g,adBlock A'=some g→adBlock A=some g
theorem RdG.same {A:Option Addr} {c k:Nat}:SameB A (if c=k then A else A.map (·.add k)):=by
 intro g hg
 split at hg
 ·exact hg
 ·cases A with
  | none=>cases hg
  | some a =>
   simp only [adBlock,Option.map_some,Option.some.injEq] at hg ⊢
   rw [← hg]
   unfold Addr.add
   split<;>rfl
theorem uint_g (w:World) (p:Nat) (A:Option Addr) (n c:Nat) (bs:List UInt8) (h:RdG w p A n c bs 0) (most v:Nat) (t:List UInt8) (hu:uintR most bs=some (v,t)) :
  Calls Tryz.prog 57 #[.pointer (some ⟨p,0,none⟩),.int .u64 most] w fun e w'=>∃ (A':Option Addr) (n' c':Nat),e=.returned (.int .u64 v)∧RdG w' p A' n' c' t 0∧SameB A A'∧Touch (fun g=>g=p) w w':=by
 have HR:=hide h
 have hnm:n≤maxLen:=Nat.le_trans h.le h.mx
 have HN:=hide (number_any w A n c bs h.rd h.len hnm)
 obtain ⟨f0,f1,f2⟩:=h.blk.facts
 have hle:=h.le
 have hmx:=h.mx
 unfold maxLen at hmx
 have HU:=hide hu
 clear h hnm hu
 go_enter Tryz.func57,Tryz.ntmps57
 go_wp2_with fail
 refine HN.out.mono ?_
 rintro e w1 ⟨hnv,rfl⟩
 rcases hnv with ⟨v',k,t',h1,h2,hk0,hk,rfl⟩ | ⟨h1,c',hc',rfl⟩
 ·rw [HR.out.len] at hk
  have hu:=HU.out
  unfold uintR at hu
  rw [h1] at hu
  simp only at hu
  split at hu
  ·rename_i hm
   simp only [Option.some.injEq,Prod.mk.injEq] at hu
   obtain ⟨e1,e2⟩:=hu
   subst e1 e2
   have y0:¬ (most:Int)<(v':Int):=by omega
   have hst:=HR.out.step hk
   rw [← h2] at hst
   have HST:=hide hst
   obtain ⟨g,o,hA,_,_⟩:=HR.out.rd.form (by omega)
   have HSB:Hid (SameB A (if c=k then A else A.map (·.add k))):=hide RdG.same
   subst hA
   clear h1 h2 hst hm
   by_cases hck:c=k
   ·rw [if_pos hck] at HST HSB
    subst hck
    have hnc:n=c:=by omega
    subst hnc
    simp only [Nat.sub_self] at HST
    go_wp2_with fail
    go_ret
    exact ⟨_,_,_,rfl,HST.out,HSB.out,(Touch.refl (fun g=>g=p) w1).setCell (fun _=>rfl) _⟩
   ·rw [if_neg hck] at HST HSB
    simp only [Option.map_some,Addr.add_lit] at HST HSB
    have hck1:¬ (c:Int)=(k:Int):=by omega
    go_wp2_with fail
    go_ret
    exact ⟨_,_,_,rfl,HST.out,HSB.out,(Touch.refl (fun g=>g=p) w1).setCell (fun _=>rfl) _⟩
  ·cases hu
 ·have hu:=HU.out
  unfold uintR at hu
  rw [h1] at hu
  cases hu
theorem bytes_g (w:World) (p:Nat) (A:Option Addr) (n c:Nat) (bs:List UInt8) (h:RdG w p A n c bs 0) (hn:n≤35184372088832) (v:Nat) (t:List UInt8) (hu:uintR 2097152 bs=some (v,t)) (hv0:0<v) (hvt:v≤t.length) :
  Calls Tryz.prog 56 #[.pointer (some ⟨p,0,none⟩),.int .i64 2097152] w fun e w'=>∃ (A':Option Addr) (n' c':Nat) (AX:Option Addr) (cX:Nat),e=.returned (.slice AX v cX)∧w'.ownsRow 0 5 1 (.slice AX v cX) v ((t.take v).map byteV)∧(∀ g,(Value.slice AX v cX).ownBlock=some g→w.heap.size≤g) ∧
   RdG w' p A' n' c' (t.drop v) 0∧SameB A A'∧Touch (fun g=>g=p) w w':=by
 have HR:=hide h
 have HU:=hide (uint_g w p A n c bs h 2097152 v t hu)
 obtain ⟨f0,f1,f2⟩:=h.blk.facts
 have hvs:v≤2097152:=(uintR_read hu).2
 have HVT:=hide hvt
 clear h hu hvt
 go_enter Tryz.func56,Tryz.ntmps56
 go_wp2_with fail
 refine HU.out.mono ?_
 rintro e w1 ⟨A1,n1,c1,rfl,h1,hsb,T1⟩
 have HR1:=hide h1
 have HSB:=hide hsb
 have HT1:=hide T1
 have hlen:=h1.len
 have hle:=h1.le
 have hmx:=h1.mx
 have hv1:v≤n1:=by rw [← hlen];exact HVT.out
 unfold maxLen at hmx
 have z2:IntKind.u64.wrap (n1:Int)=(n1:Int):=IntWalk.u64_in _ (by omega)
 have y0:¬ (n1:Int)<(v:Int):=by omega
 have y1:(v:Int)≤(c1:Int):=by omega
 have y2:(0:Int)≤(v:Int):=by omega
 have hrd:=h1.rd.take (k:=v) hv1
 rw [Nat.mul_one,← List.map_take] at hrd
 have HCL:=hide (clone8_any w1 A1 v c1 (t.take v) hrd (by rw [List.length_take,hlen];omega) (by omega))
 have HLEN:=hide hlen
 have HLE:=hide (And.intro hle hv1)
 have hv0I:(0:Int)<(v:Int):=by omega
 have HV0:=hide hv0
 clear h1 hsb T1 HU hrd hlen hv1 f0 f1 f2
 obtain ⟨f0,f1,f2⟩:=HR1.out.blk.facts
 obtain ⟨g,o,hA,_,_⟩:=HR1.out.rd.form (by have:=HLE.out;have:=HV0.out;omega)
 subst hA
 go_wp2_with fail
 refine HCL.out.mono ?_
 rintro e w2 ⟨A2,n2,c2,rfl,hn2,h2⟩
 subst hn2
 have HO2:=hide h2
 have HR2:=hide (HR1.out.quiet h2.touch)
 have hst:=HR2.out.step (k:=n2) HLE.out.2
 have HST:=hide hst
 have HSB2:Hid (SameB A (if c1=n2 then some ⟨g,o,none⟩ else (some (⟨g,o,none⟩:Addr)).map (·.add n2))):=hide (fun g' hg'=>HSB.out g' (RdG.same g' hg'))
 have HT2:=hide (HT1.out.then (h2.touch.up _))
 clear h2 hst HCL f0 f1 f2
 obtain ⟨f0,f1,f2⟩:=HR2.out.blk.facts
 have own2:∀ u,(w2.setCell ⟨p,0,none⟩ u).ownsRow 0 5 1 (.slice A2 n2 c2) n2 ((t.take n2).map byteV):=fun u=>own_touch HO2.out.own ((Touch.refl (fun g=>g=p) w2).setCell (p:=⟨p,0,none⟩) (fun _=>rfl) u) (fun g' hg' e=>(own_ty HO2.out.own hg').ne (blk_ty HR2.out.blk) (by decide) e)
 have HOW:=hide own2
 have HFR:Hid (∀ g',(Value.slice A2 n2 c2).ownBlock=some g'→w.heap.size≤g'):=hide (fun g' hg'=>Nat.le_trans HT1.out.size (HO2.out.fresh g' hg'))
 clear own2
 by_cases hck:c1=n2
 ·rw [if_pos hck] at HST HSB2
  subst hck
  have hnc:n1=c1:=by have:=HLE.out;omega
  subst hnc
  simp only [Nat.sub_self] at HST
  go_wp2_with fail
  go_ret
  exact ⟨_,_,_,_,_,rfl,HOW.out _,HFR.out,HST.out,HSB2.out,HT2.out.setCell (fun _=>rfl) _⟩
 ·rw [if_neg hck] at HST HSB2
  simp only [Option.map_some,Addr.add_lit] at HST HSB2
  have hck1:¬ (c1:Int)=(n2:Int):=by omega
  go_wp2_with fail
  go_ret
  exact ⟨_,_,_,_,_,rfl,HOW.out _,HFR.out,HST.out,HSB2.out,HT2.out.setCell (fun _=>rfl) _⟩
end Go.Proofs.YthockgmbooefpaaGreatDoor
namespace Go.Proofs.YthockgmbooefpaaGreatDoor
open Go.RowKit
theorem sum4_len (s:Nat):(sum4 s).length=4:=rfl
theorem or_byte (r d i:Nat) (hi:i≤24) (hr:r<2 ^ i) (hd:d*2 ^ i<4294967296):bits .or .u32 (r:Int) ((d*2 ^ i:Nat):Int)=((r+d*2 ^ i:Nat):Int):=by
 have hr2:r<4294967296:=by
  rcases Nat.eq_zero_or_pos d with h | h
  ·subst h
   exact Nat.lt_of_lt_of_le hr (Nat.le_trans (Nat.pow_le_pow_right (by decide) (show i≤32 by omega)) (by decide))
  ·have:=Nat.le_mul_of_pos_left (2 ^ i) h
   omega
 rw [u32_or_nat r (d*2 ^ i) hr2 hd,Nat.or_comm,nat_join i (d*2 ^ i) r (Nat.mul_mod_left _ _) hr,Nat.add_comm]
theorem mod_next (s k:Nat):s % 256 ^ (k+1)=s % 256 ^ k+s / 256 ^ k % 256*256 ^ k:=by
 rw [Nat.pow_succ,Nat.mod_mul,Nat.mul_comm (256 ^ k)]
theorem sum4_at (s k:Nat) (hk:k<4):((sum4 s).getD k 0).toNat=s / 256 ^ k % 256:=by
 unfold sum4
 have hm:∀ x:Nat,(UInt8.ofNat (x % 256)).toNat=x % 256:=fun x=>by rw [UInt8.toNat_ofNat'];omega
 rcases k with _ | _ | _ | _ | k
 ·simp [hm]
 ·simp [hm]
 ·simp [hm]
 ·simp [hm]
 ·omega
theorem unseal_pos (w:World) (A:Option Addr) (n c:Nat) (x:List UInt8) (hR:Reads w 1 A n ((sealB x).map byteV)) (hl:(sealB x).length=n) (hnc:n≤c) (hcm:c≤maxLen) (h0:0<x.length) (h1:x.length≤2097152) :
  Calls Tryz.prog 53 #[.slice A n c] w fun e w'=>∃ A' c',e=.returned (.tuple #[.slice A' x.length c',.int .i64 (n:Int),.int .i64 0])∧ONx 5 1 w w' (.slice A' x.length c') x.length (x.map byteV):=by
 obtain ⟨s,hs⟩:∃ s,s=sumB x:=⟨_,rfl⟩
 have hslt:s<4294967296:=by rw [hs];unfold sumB;omega
 have hsl:sealB x=varN x.length++(x++sum4 s):=by unfold sealB;rw [hs,List.append_assoc]
 have hlen:n=(varN x.length).length+(x.length+4):=by rw [← hl,hsl,List.length_append,List.length_append,sum4_len]
 have hvl:=varN_len x.length
 obtain ⟨wa,hwa⟩:∃ z,z=w.alloc (.cells #[.slice A n c,.int .i64 0] 214):=⟨_,rfl⟩
 obtain ⟨p,hp⟩:∃ z,z=w.heap.size:=⟨_,rfl⟩
 have hTa:Touch (fun _=>False) w wa:=by rw [hwa];exact (Touch.refl _ _).alloc _
 have hblk:Blk wa p 214 #[.slice A n c,.int .i64 0]:=by rw [hwa,hp];exact Blk.new _ _ _
 have hne:∀ g,adBlock A=some g→¬ g=p:=by
  intro g hg e
  obtain ⟨b,off,hA,hb,_⟩:=hR.2 (by omega)
  rw [hA] at hg
  simp [adBlock] at hg
  omega
 have hrg:RdG wa p A n c (sealB x) 0:=⟨hblk,hR.touch hTa (fun _ _ f=>f),hne,hl,hnc,hcm⟩
 have hur:uintR 2097152 (sealB x)=some (x.length,x++sum4 s):=by rw [hsl];exact uintR_write h1 (by omega) _
 have hby:=bytes_g wa p A n c (sealB x) hrg (by omega) x.length (x++sum4 s) hur h0 (by rw [List.length_append];omega)
 have e1:(x++sum4 s).take x.length=x:=List.take_left' rfl
 have e2:(x++sum4 s).drop x.length=sum4 s:=List.drop_left' rfl
 rw [e1,e2] at hby
 have HBY:=hide hby
 have HTA:=hide hTa
 have HWA:=hide hwa
 have HP:=hide hp
 have HSL:=hide hslt
 have HS:=hide hs
 have HXL:=hide (And.intro h0 h1)
 have hnb:n≤2097166:=by omega
 have HNB:=hide hnb
 have hn4:4≤n:=by omega
 have HN4:=hide hn4
 have HPW:Hid (w.heap.size≤p):=hide (by omega)
 clear hsl hlen hvl hwa hp hTa hblk hne hrg hur hby e1 e2 hR hl hnc hcm h0 h1 hs hslt hnb hn4
 go_enter Tryz.func53,Tryz.ntmps53
 go_upto_region 2 with fail
 rw [← HWA.out,← HP.out]
 go_wp2_with fail
 refine HBY.out.mono ?_
 rintro e w1 ⟨A1,n1,c1,AX,cX,rfl,hox,hfx,hr1,_,T1⟩
 have hn1:n1=4:=by rw [← hr1.len];rfl
 subst hn1
 have HR1:=hide hr1
 have HT1:=hide (HTA.out.trans T1 (fun i hi e=>by have:=HPW.out;omega))
 have HOX:Hid (ONx 5 1 w w1 (.slice AX x.length cX) x.length (x.map byteV)):=hide ⟨hox,HT1.out,fun g hg=>Nat.le_trans HTA.out.size (hfx g hg)⟩
 have HSM:=hide (csum_any w1 AX x.length cX x (Reads.of_own hox) rfl (by have:=HXL.out;omega))
 rw [← HS.out] at HSM
 have hle:=hr1.le
 have k4:(4:Int)≤(c1:Int):=by omega
 obtain ⟨f0,f1,f2⟩:=hr1.blk.facts
 obtain ⟨g,o,hA,_,_⟩:=hr1.rd.form (by omega)
 subst hA
 clear hox hfx hr1 T1 HBY hle
 go_wp2_with fail
 go_loopw [7,32] (fun sv kv wr=>∃ k:Nat,sv=.int .u32 ((s % 256 ^ k:Nat):Int)∧kv=.int .i64 k∧k≤4∧wr=w1) (fun _ kv _=>4-(intOf kv).toNat)
 case atStart=>exact ⟨0,by simp [Nat.mod_one],rfl,by omega,rfl⟩
 case round =>
  obtain ⟨k,rfl,rfl,hk',hwr⟩:=hrel
  subst hwr
  by_cases hk:k<4
  ·obtain ⟨g',o',hA',_,l0⟩:=byte_atB HR1.out.rd k hk HR1.out.len
   injection hA' with hA'
   injection hA' with hA1 hA2
   subst hA1 hA2
   rw [sum4_at s k hk] at l0
   have hnx:=mod_next s k
   have hor:=or_byte (s % 256 ^ k) (s / 256 ^ k % 256) (8*k) (by omega) (by rw [Nat.pow_mul];exact Nat.mod_lt _ (Nat.pow_pos (by decide))) (by
    rw [Nat.pow_mul]
    have h1:s / 256 ^ k % 256<256:=Nat.mod_lt _ (by decide)
    rcases k with _ | _ | _ | _ | k
    ·simp at h1 ⊢;omega
    ·simp at h1 ⊢;omega
    ·simp at h1 ⊢;omega
    ·simp at h1 ⊢;omega
    ·omega)
   rw [show (2:Nat) ^ (8*k)=256 ^ k by rw [Nat.pow_mul]] at hor
   rw [← hnx] at hor
   obtain ⟨r,hr⟩:∃ r,r=s % 256 ^ k:=⟨_,rfl⟩
   obtain ⟨d,hd⟩:∃ d,d=s / 256 ^ k % 256:=⟨_,rfl⟩
   obtain ⟨r2,hr2⟩:∃ r2,r2=s % 256 ^ (k+1):=⟨_,rfl⟩
   have hdl:d<256:=by rw [hd];exact Nat.mod_lt _ (by decide)
   rw [← hr,← hd,← hr2] at hor
   rw [← hd] at l0
   rw [← hr]
   have HR2:=hide hr2
   have m0:IntKind.u32.wrap (d:Int)=(d:Int):=by rw [IntKind.wrap_u32];omega
   have HDL:=hide hdl
   clear hnx hr hd hr2 hdl
   have hkk:k=0∨k=1∨k=2∨k=3:=by omega
   clear hk hk'
   rcases hkk with rfl | rfl | rfl | rfl
   ·have hr2:=HR2.out
    simp only [Nat.zero_add,Nat.reduceAdd,Nat.reducePow,Nat.mul_one] at hor hr2
    rw [Nat.add_zero] at l0
    have HOR:=hide hor
    have HRR:=hide hr2
    clear hor hr2
    go_wp2_with fail
    refine ⟨⟨1,?_,rfl,by omega,trivial⟩,by simp [intOf]⟩
    simp only [Nat.reducePow]
    rw [HOR.out,HRR.out]
   ·have hr2:=HR2.out
    simp only [Nat.zero_add,Nat.reduceAdd,Nat.reducePow,Nat.mul_one] at hor hr2
    have e:(d:Int)*256 % 4294967296=((d*256:Nat):Int):=by have:=HDL.out;omega
    have HE:=hide e
    have HOR:=hide hor
    have HRR:=hide hr2
    clear hor hr2 e
    go_wp2_with fail
    refine ⟨⟨2,?_,rfl,by omega,trivial⟩,by simp [intOf]⟩
    simp only [Nat.reducePow]
    rw [HE.out,HOR.out,HRR.out]
   ·have hr2:=HR2.out
    simp only [Nat.zero_add,Nat.reduceAdd,Nat.reducePow,Nat.mul_one] at hor hr2
    have e:(d:Int)*65536 % 4294967296=((d*65536:Nat):Int):=by have:=HDL.out;omega
    have HE:=hide e
    have HOR:=hide hor
    have HRR:=hide hr2
    clear hor hr2 e
    go_wp2_with fail
    refine ⟨⟨3,?_,rfl,by omega,trivial⟩,by simp [intOf]⟩
    simp only [Nat.reducePow]
    rw [HE.out,HOR.out,HRR.out]
   ·have hr2:=HR2.out
    simp only [Nat.zero_add,Nat.reduceAdd,Nat.reducePow,Nat.mul_one] at hor hr2
    have e:(d:Int)*16777216 % 4294967296=((d*16777216:Nat):Int):=by have:=HDL.out;omega
    have HE:=hide e
    have HOR:=hide hor
    have HRR:=hide hr2
    clear hor hr2 e
    go_wp2_with fail
    refine ⟨⟨4,?_,rfl,by omega,trivial⟩,by simp [intOf]⟩
    simp only [Nat.reducePow]
    rw [HE.out,HOR.out,HRR.out]
  ·have k0:¬ (k:Int)<4:=by omega
   have hk4:k=4:=by omega
   subst hk4
   have e:s % 256 ^ 4=s:=Nat.mod_eq_of_lt (by have:=HSL.out;omega)
   rw [e]
   clear hk hk' e k0
   go_wp2_with fail
   refine HSM.out.mono ?_
   rintro e w2 ⟨rfl,T2⟩
   have HT2:=hide T2
   have hr2:=HR1.out.quiet T2
   have hn4:4≤n:=HN4.out
   have z1:IntKind.i64.wrap ((n:Int)-4)=(n:Int)-4:=IntWalk.i64_in _ (by have:=HNB.out;omega)
   have z2:IntKind.i64.wrap (n:Int)=(n:Int):=IntWalk.i64_in _ (by have:=HNB.out;omega)
   have z3:(n:Int)-4+4=(n:Int):=by omega
   obtain ⟨f0,f1,f2⟩:=hr2.blk.facts
   clear T2 HSM hr2 hn4
   go_wp2_with fail
   go_region
   go_wp2_with fail
   go_ret3
   exact ⟨AX,cX,rfl,HOX.out.to (HT2.out.then (Touch.refl _ _).drew)⟩
end Go.Proofs.YthockgmbooefpaaGreatDoor
