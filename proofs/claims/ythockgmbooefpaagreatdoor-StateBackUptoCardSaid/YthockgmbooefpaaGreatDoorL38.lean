/- What the law rests on, part 38. No condition but those that each theorem names. -/
import Derived.Test.YthockgmbooefpaaGreatDoorL37
import Derived.Test.YthockgmbooefpaaGreatDoorL36
set_option linter.unusedSectionVars false
set_option linter.unusedSimpArgs false
set_option linter.unusedVariables false
set_option maxRecDepth 100000
set_option maxHeartbeats 8000000
namespace Go.Proofs.YthockgmbooefpaaGreatDoor
open Go.RowKit
def arcT:List StP→Nat
 | []=>0
 | s :: l=>s.arcs.length+arcT l
theorem arcT_app (a b:List StP):arcT (a++b)=arcT a+arcT b:=by
 induction a with
 | nil=>simp [arcT]
 | cons s a ih=>simp only [List.cons_append,arcT,ih];omega
theorem arcsF_len (st:KnP→Rs→KnP × Nat) (R:Rs):∀ (cs:List Nat) (k:KnP),(arcsF st R k cs).2.length=cs.length
 | [],k=>by simp [arcsF]
 | c :: cs,k=>by
  have:=arcsF_len st R cs (st k (underR R c)).1
  simp only [arcsF,List.length_cons,this]
def StFewA (st:KnP→Rs→KnP × Nat):Prop:=∀ k l,SortR l→arcT (st k l).1.states≤arcT k.states+totR l
theorem arcs_fewA {st:KnP→Rs→KnP × Nat} (hst:StFewA st) {R:Rs} (hR:SortR R):∀ (cs:List Nat) (k:KnP),(∀ c∈cs,underR R c≠[])→arcT (arcsF st R k cs).1.states+cs.length≤arcT k.states+(cs.map fun c=>totC c R).sum
 | [],k,_=>by simp [arcsF]
 | c :: cs,k,hc=>by
  have h1:=hst k (underR R c) (sort_under c hR)
  have h2:=arcs_fewA hst hR cs (st k (underR R c)).1 (fun x hx=>hc x (List.mem_cons_of_mem _ hx))
  have h3:=totC_under R c
  have h4:0<(underR R c).length:=List.length_pos_iff.2 (hc c List.mem_cons_self)
  simp only [arcsF,List.map_cons,List.sum_cons,List.length_cons]
  omega
theorem stateF_fewA:∀ f,StFewA (stateF f)
 | 0=>fun k l _=>by simp only [stateF];omega
 | f+1=>fun k l hs=>by
  simp only [stateF]
  cases hi:idxR k.rests (levelR l) with
  | some i=>simp only;omega
  | none =>
   have h1:=arcs_fewA (stateF_fewA f) (sort_level hs) (firstsR (levelR l)) k (fun c hc=>mem_firsts.1 hc)
   have h2:=totC_sum (levelR l) (firstsR (levelR l)) ((firsts_sorted (sort_level hs)).imp fun h=>Nat.ne_of_lt h)
   have h3:=arcsF_len (stateF f) (levelR l) (firstsR (levelR l)) k
   rw [totR_level] at h2
   simp only [arcT_app,arcT,h3]
   omega
theorem totR_le (B:Nat):∀ l:Rs,(∀ r∈l,r.1.length≤B)→totR l≤B*l.length
 | [],_=>by simp [totR]
 | r :: l,h=>by
  have h1:=totR_le B l (fun x hx=>h x (List.mem_cons_of_mem _ hx))
  have h2:=h r List.mem_cons_self
  simp only [totR,List.length_cons,Nat.mul_succ]
  omega
theorem stsB_lenT:∀ (l:List StP) (i:Nat),(stsB i l).length≤20*l.length+30*arcT l
 | [],i=>by simp [stsB,arcT]
 | s :: l,i=>by
  have h1:=stsB_lenT l (i+1)
  have h2:=stB_len i s
  simp only [stsB,List.length_append,List.length_cons,arcT]
  omega
theorem mach_tot {L:List PRow} (hD:DictP L):(mach L).states.length≤24*L.length+1∧arcT (mach L).states≤24*L.length:=by
 by_cases hne:L=[]
 ·subst hne
  have e:(mach []).states=[]:=by simp [mach]
  rw [e]
  simp [arcT]
 ·have ht:totR (restsL L)≤24*L.length:=by
   have h1:=totR_le 24 (restsL L) (fun r hr=>by
    unfold restsL at hr
    obtain ⟨p,hp,rfl⟩:=List.mem_map.1 hr
    exact (hD.word p hp).2.2.2)
   have h2:(restsL L).length=L.length:=by unfold restsL;rw [List.length_map]
   rw [h2] at h1
   exact h1
  have h3:=stateF_few 25 ⟨[],[]⟩ (restsL L) hD.sort
  have h4:=stateF_fewA 25 ⟨[],[]⟩ (restsL L) hD.sort
  have e:(mach L).states=(stateF 25 ⟨[],[]⟩ (restsL L)).1.states:=by unfold mach;rw [if_neg hne]
  rw [e]
  simp only [List.length_nil,arcT] at h3 h4
  omega
theorem body_short {L:List PRow} (hD:DictP L) {R:List SRow} (h1:L.length≤801) (h2:R.length≤801):(bodyI L R).length≤2097152:=by
 have h3:=mach_tot hD
 have h4:=stsB_lenT (mach L).states 0
 have h5:=rowsB_len R
 unfold bodyI headI
 have h6:=varN_len (mB L).length
 have h7:=varN_len R.length
 have h8:(mB L).length≤20+(stsB 0 (mach L).states).length:=by
  unfold mB packB topB
  have a1:=varN_len (mach L).base.toNat
  have a2:=varN_len (mach L).states.length
  simp only [List.length_append]
  omega
 simp only [List.length_append]
 omega
theorem runS_short (T:List CmdP):∀ (L:List PRow) (R:List SRow),DictP L→(runS T (L,R)).1.length≤L.length+T.length∧(runS T (L,R)).2.length≤R.length+T.length:=by
 induction T with
 | nil=>intro L R _;simp [runS]
 | cons c T ih =>
  intro L R hD
  have h1:=ih (doL c L R) (doR c L R) (doL_dict hD c R)
  have h2:(doL c L R).length≤L.length+1:=by
   unfold doL
   split
   ·unfold doW
    split
    ·unfold setL
     split
     ·rw [put_len (dict_strict hD)]
      split<;>omega
     ·omega
    ·unfold remL
     split
     ·have:=drop_len (dict_strict hD) c.word.toList
      omega
     ·omega
   ·omega
  have h3:(doR c L R).length≤R.length+1:=by
   unfold doR
   split
   ·split
    ·simp
    ·omega
   ·split
    ·simp
    ·omega
  have e:runS (c :: T) (L,R)=runS T (doL c L R,doR c L R):=rfl
  rw [e]
  simp only [List.length_cons]
  omega
end Go.Proofs.YthockgmbooefpaaGreatDoor
namespace Go.Proofs.YthockgmbooefpaaGreatDoor
open Go.RowKit
theorem stsOd_ok {w:World} {A:Option Addr} {n:Nat} {Z:List SV} (h:StsOd w A n Z):StsOk w A n Z:=by
 have ot:∀ {g:Nat} {t:TypeId},OT w g t→TyAt w g t:=fun {g t} h=>by
  rcases h with ⟨_,h⟩ | h
  ·exact absurd h (Nat.not_lt_zero _)
  ·exact h
 exact ⟨⟨h.rd.rd,fun hn g hg=>ot (h.rd.ty hn g hg)⟩,h.len,fun z hz=>⟨(h.el z hz).len,⟨(h.el z hz).rd.rd,fun hn g hg=>ot ((h.el z hz).rd.ty hn g hg)⟩,(h.el z hz).le,(h.el z hz).mx⟩⟩
theorem pack_inj {L:List PRow} (hD:DictP L) {base:Nat} {sts:List StP} (hb:base≤1048576) (hn:sts.length≤98305) (hR:RgtP sts base) (h:mB L=packB base sts):(mach L).base=(base:Int)∧sts=(mach L).states:=by
 have hbm:=base_mach hD
 obtain ⟨bn,hbn⟩:∃ bn:Nat,(mach L).base=(bn:Int):=⟨(mach L).base.toNat,by omega⟩
 have h1:=mach_write (sts:=sts) hb hn (rgtP_form hR) []
 have h2:=mach_write (sts:=(mach L).states) (base:=bn) (by omega) (mach_few hD) (rgtP_form (right_mach hD)) []
 unfold mB at h
 rw [hbn] at h
 rw [h] at h2
 rw [h1] at h2
 simp only [Option.some.injEq,Prod.mk.injEq,and_true] at h2
 rw [hbn,h2.1]
 exact ⟨rfl,map_inj (fun a b e=>StP.z_inj e) h2.2⟩
theorem uint_r (w:World) (p:Nat) (A:Option Addr) (n c:Nat) (x:Nat) (t:List UInt8) (h:Rdr w p A n c (varN x++t) 0) (most:Nat) (hx:x≤most) (hx64:x<18446744073709551616) :
  Calls Tryz.prog 57 #[.pointer (some ⟨p,0,none⟩),.int .u64 most] w fun e w'=>∃ (A':Option Addr) (n' c':Nat),e=.returned (.int .u64 x)∧Rdr w' p A' n' c' t 0∧Touch (fun g=>g=p) w w' :=
 (uint_ok w p A n c (varN x++t) h most).mono (by
   rintro e w' (⟨v,t',A',n',c',hu,rfl,hr,T⟩ | ⟨hu,_⟩)
   ·rw [uintR_write hx hx64] at hu
    simp only [Option.some.injEq,Prod.mk.injEq] at hu
    obtain ⟨rfl,rfl⟩:=hu
    exact ⟨A',n',c',rfl,hr,T⟩
   ·rw [uintR_write hx hx64] at hu
    cases hu)
structure LdJ (w wx:World) (p gm:Nat) (base:Int) (A4:Option Addr) (n4 c4:Nat) (Z:List SV) (A':Option Addr) (i c':Nat) (Rt:List SRow):Prop where
 own:wx.ownsRow 0 110 4 (.slice A' i c') i (rowCells Rt)
 fr:∀ g,(Value.slice A' i c').ownBlock=some g→w.heap.size≤g
 mb:Blk wx gm 89 #[.int .i64 base,.slice A4 n4 c4]
 z:StsOk wx A4 n4 Z
 t:Touch (fun _=>False) w wx
 py:w.heap.size≤p
section
variable {w wx wy:World} {p gm:Nat} {base:Int} {A4:Option Addr} {n4 c4:Nat} {Z:List SV} {A':Option Addr} {i c':Nat} {Rt:List SRow}
theorem LdJ.quiet (h:LdJ w wx p gm base A4 n4 c4 Z A' i c' Rt) (T:Touch (fun _=>False) wx wy):LdJ w wy p gm base A4 n4 c4 Z A' i c' Rt :=
 ⟨own_touch h.own T (fun _ _ f=>f),h.fr,h.mb.touch T (fun f=>f),h.z.quiet T,h.t.then T,h.py⟩
theorem LdJ.rd (h:LdJ w wx p gm base A4 n4 c4 Z A' i c' Rt) (hp:TyAt wx p 214) (T:Touch (fun g=>g=p) wx wy):LdJ w wy p gm base A4 n4 c4 Z A' i c' Rt :=
 ⟨own_touch h.own T (fun g hg e=>(own_ty h.own hg).ne hp (by decide) e),h.fr,h.mb.touch T (fun e=>(blk_ty h.mb).ne hp (by decide) e),h.z.far T (fun g t hg ht e=>hg.ne hp (by rcases ht with rfl | rfl | rfl | rfl | rfl<;>decide) e),h.t.trans T (fun g hg e=>by have:=h.py;omega),h.py⟩
theorem LdJ.row (h:LdJ w wx p gm base A4 n4 c4 Z A' i c' Rt) {g1:Nat} (hg1:TyAt wx g1 110) (hy:w.heap.size≤g1) (hne:∀ g,(Value.slice A' i c').ownBlock=some g→¬ g=g1) (T:Touch (fun g=>g=g1) wx wy):LdJ w wy p gm base A4 n4 c4 Z A' i c' Rt :=
 ⟨own_touch h.own T (fun g hg e=>hne g hg e),h.fr,h.mb.touch T (fun e=>(blk_ty h.mb).ne hg1 (by decide) e),h.z.far T (fun g t hg ht e=>hg.ne hg1 (by rcases ht with rfl | rfl | rfl | rfl | rfl<;>decide) e),h.t.trans T (fun g hg e=>by omega),h.py⟩
end
theorem Rdr.row {w w':World} {p:Nat} {A:Option Addr} {n c:Nat} {bs:List UInt8} {e:Int} (h:Rdr w p A n c bs e) {g1:Nat} (hg1:TyAt w g1 110) (T:Touch (fun g=>g=g1) w w'):Rdr w' p A n c bs e :=
 h.touch T (fun e=>(blk_ty h.blk).ne hg1 (by decide) e) (fun g hg e=>hg.ne hg1 (by decide) e)
def rowsT (R:List SRow) (i:Nat):List UInt8:=(R.drop i).flatMap rowB
theorem rowsT_step {R:List SRow} {i:Nat} (hi:i<R.length) {sn cn an hn:Nat} (hr:R.getD i SRow.zero=⟨(sn:Int),(cn:Int),(an:Int),(hn:Int)⟩):rowsT R i=varN sn++(varN cn++(varN an++(varN hn++rowsT R (i+1)))):=by
 unfold rowsT
 rw [List.drop_eq_getElem_cons hi]
 have e2:R[i]=⟨(sn:Int),(cn:Int),(an:Int),(hn:Int)⟩:=by rw [← hr];simp [List.getD,hi]
 rw [e2]
 simp [rowB,rowNs]
end Go.Proofs.YthockgmbooefpaaGreatDoor
namespace Go.Proofs.YthockgmbooefpaaGreatDoor
open Go.RowKit
theorem load_pos (w:World) (hL:Lst w) {L:List PRow} (hD:DictP L) {R:List SRow} (hIn:∀ r∈R,r.In) (hg:R.all goodRow=true) (hRn:R.length≤4096) (hb:(bodyI L R).length≤2097152) (A:Option Addr) (n c:Nat) (hrd:Reads w 1 A n ((imgB L R).map byteV)) (hl:(imgB L R).length=n) (hnc:n≤c) (hcm:c≤maxLen) :
  Calls Tryz.prog 19 #[.slice A n c] w fun e w'=>∃ s d tb v,e=.returned (.tuple #[ptrV s,.int .i64 0])∧StX w' s d tb v L 0 R∧w.heap.size≤d∧w.heap.size≤tb∧(∀ g,v.ownBlock=some g→w.heap.size≤g)∧Touch (fun _=>False) w w':=by
 obtain ⟨i0,hi0,hz0,hz1,hz2⟩:=info_parts Tryz.infoRow
 have him:imgB L R=sealB (bodyI L R):=by unfold imgB;rw [if_pos hb]
 rw [him] at hrd hl
 have hpos:0<(bodyI L R).length:=by
  unfold bodyI headI
  have:=varN_pos (mB L).length
  simp only [List.length_append]
  omega
 have HUS:=hide (unseal_pos w A n c (bodyI L R) hrd hl hnc hcm hpos hb)
 obtain ⟨x,hx⟩:∃ x,x=bodyI L R:=⟨_,rfl⟩
 obtain ⟨m,hm⟩:∃ m,m=mB L:=⟨_,rfl⟩
 have hxs:x=varN m.length++(m++(varN R.length++rowsT R 0)):=by
  rw [hx,hm]
  unfold bodyI headI rowsT
  simp
 have hmpos:0<m.length:=by
  rw [hm]
  unfold mB packB topB
  have:=varN_pos (mach L).base.toNat
  simp only [List.length_append]
  omega
 have hml:m.length≤2097152:=by
  rw [← hx,hxs] at hb
  simp only [List.length_append] at hb
  omega
 rw [← hx] at HUS hb
 have HXS:=hide hxs
 have HM:=hide hm
 have HML:=hide (And.intro hmpos hml)
 have HBL:=hide hb
 have HL:=hide hL
 have HD:=hide hD
 have HIN:=hide hIn
 have HG:=hide hg
 have HRN:=hide hRn
 clear hx hm hxs hmpos hml hb hL hD hIn hg hRn him hpos hrd hl hnc hcm
 go_enter Tryz.func19,Tryz.ntmps19
 go_wp2_with fail
 refine HUS.out.mono ?_
 rintro e w1 ⟨A1,c1,rfl,h1⟩
 have HT1:=hide h1.touch
 have HRE:=hide (read_any w1 A1 x.length c1 x (Reads.of_own h1.own) rfl (by have:=HBL.out;omega))
 clear h1 HUS
 go_wp2_with fail
 refine HRE.out.mono ?_
 rintro e w2 ⟨p,A2,n2,c2,rfl,h2,hp2,T2⟩
 have hrg:RdG w2 p A2 n2 c2 x 0:=⟨h2.blk,h2.rd.rd,fun g hg e=>by
  by_cases hn:0<n2
  ·exact (h2.rd.ty hn g hg).ne (blk_ty h2.blk) (by decide) e
  ·have h3:=h2.len
   have h4:=HXS.out
   have h5:=HML.out.1
   rw [h4] at h3
   simp only [List.length_append] at h3
   omega,h2.len,h2.le,h2.mx⟩
 have hn2:n2≤2097152:=by rw [← h2.len];exact HBL.out
 have hby:=bytes_g w2 p A2 n2 c2 x hrg (by omega) m.length (m++(varN R.length++rowsT R 0)) (by rw [HXS.out];exact uintR_write HML.out.2 (by have:=HML.out.2;omega) _) HML.out.1 (by rw [List.length_append];omega)
 have e1:(m++(varN R.length++rowsT R 0)).take m.length=m:=List.take_left' rfl
 have e2:(m++(varN R.length++rowsT R 0)).drop m.length=varN R.length++rowsT R 0:=List.drop_left' rfl
 rw [e1,e2] at hby
 have HBY:=hide hby
 have HT2:=hide (HT1.out.then T2)
 have HPY:Hid (w.heap.size≤p):=hide (Nat.le_trans HT1.out.size hp2)
 have HTY:Hid (∀ g,adBlock A2=some g→TyAt w2 g 5):=hide (h2.rd.ty (by
  have h3:=h2.len
  have h4:=HXS.out
  have h5:=HML.out.1
  rw [h4] at h3
  simp only [List.length_append] at h3
  omega))
 have HPT:=hide (blk_ty h2.blk)
 clear h2 hp2 T2 hrg hn2 hby e1 e2 HRE
 go_wp2_with fail
 refine HBY.out.mono ?_
 rintro e w3 ⟨A3,n3,c3,AX,cX,rfl,hox,hfx,hr3,hsb,T3⟩
 have hrdr:Rdr w3 p A3 n3 c3 (varN R.length++rowsT R 0) 0:=⟨hr3.blk,⟨hr3.rd,fun _ g hg=>(HTY.out g (hsb g hg)).touch T3 (fun e=>(HTY.out g (hsb g hg)).ne HPT.out (by decide) e)⟩,hr3.len,hr3.le,hr3.mx⟩
 have HR3:=hide hrdr
 have HT3:=hide (HT2.out.trans T3 (fun i hi e=>by have:=HPY.out;omega))
 have HUN:=hide (unpack_any w3 (Lst.touch HL.out (HT2.out.trans T3 (fun i hi e=>by have:=HPY.out;omega))) AX m.length cX m (Reads.of_own hox) rfl (by have:=HML.out.2;omega))
 clear hox hfx hr3 hsb T3 hrdr HBY
 go_wp2_with fail
 refine HUN.out.mono ?_
 rintro e w4 ⟨T4,hun⟩
 rcases hun with ⟨base,sts,hbase,hsn,hRg,hpk,A4,n4,c4,Z,rfl,hst,hzs,hnc4⟩ | ⟨hno,_⟩
 ·obtain ⟨eb,es⟩:=pack_inj HD.out hbase hsn hRg (by rw [← HM.out];exact hpk)
  have HEB:=hide eb
  have hz4:Z.map SV.p=(mach L).states:=by rw [hzs,es]
  have HZ4:=hide hz4
  obtain ⟨w5,hw5⟩:∃ y,y=w4.alloc (.cells #[.int .i64 (base:Int),.slice A4 n4 c4] 89):=⟨_,rfl⟩
  obtain ⟨gm,hgm⟩:∃ y,y=w4.heap.size:=⟨_,rfl⟩
  have T5:Touch (fun _=>False) w4 w5:=by rw [hw5];exact (Touch.refl _ _).alloc _
  have HJ5:Hid (LdJ w w5 p gm base A4 n4 c4 Z none 0 0 []):=hide ⟨World.ownsRow_nil _ _ _ _,fun g hg=>by simp [Value.ownBlock] at hg,by rw [hw5,hgm];exact Blk.new _ _ _,(stsOd_ok hst).quiet T5,HT3.out.then (T4.then T5),HPY.out⟩
  have HR5:=hide ((HR3.out.quiet T4).quiet T5)
  have HW5:=hide hw5
  have HGM:=hide hgm
  have HU5:=hide (uint_r w5 p A3 n3 c3 R.length (rowsT R 0) HR5.out 4096 HRN.out (by have:=HRN.out;omega))
  clear T4 hbase hsn hRg hpk hst hzs hnc4 eb es hz4 hw5 hgm T5 HUN
  go_upto_region 6 with fail
  rw [← HW5.out,← HGM.out]
  go_wp2_with fail
  refine HU5.out.mono ?_
  rintro e w6 ⟨A6,n6,c6,rfl,h6,T6⟩
  have HR6:=hide h6
  have HJ6:=hide (HJ5.out.rd (blk_ty HR5.out.blk) T6)
  clear h6 T6 HU5
  go_wp2_with fail
  go_loopw [10,42] (fun rv iv wr=>∃ (i:Nat) (A':Option Addr) (c':Nat) (AR:Option Addr) (nR cR:Nat),rv=.slice A' i c'∧iv=.int .u64 i∧i≤R.length∧Hid (LdJ w wr p gm base A4 n4 c4 Z A' i c' (R.take i))∧Hid (Rdr wr p AR nR cR (rowsT R i) 0)) (fun _ iv _=>R.length-(intOf iv).toNat)
  case atStart=>exact ⟨0,none,0,A6,n6,c6,rfl,rfl,Nat.zero_le _,HJ6,HR6⟩
  case round =>
   obtain ⟨i,A',c',AR,nR,cR,rfl,rfl,hi',HJ,HR⟩:=hrel
   obtain ⟨wo,hwo⟩:∃ y,y=wr:=⟨_,rfl⟩
   subst hwo
   by_cases hi:i<R.length
   ·have y0:(i:Int)<(R.length:Int):=by omega
    have y1:(0:Int)≤(i:Int):=by omega
    have y2:IntKind.u64.wrap ((i:Int)+1)=(i:Int)+1:=IntWalk.u64_in _ (by have:=HRN.out;omega)
    have hrm:R.getD i SRow.zero∈R:=by
     have e2:R.getD i SRow.zero=R[i]:=by simp [List.getD,hi]
     rw [e2];exact List.getElem_mem _
    have hri:=HIN.out _ hrm
    obtain ⟨⟨rs,rc,rr,rh⟩,hr⟩:∃ r,r=R.getD i SRow.zero:=⟨_,rfl⟩
    rw [← hr] at hri
    obtain ⟨i1,i2,i3,i4,i5,i6,i7,i8⟩:=hri
    simp only at i1 i2 i3 i4 i5 i6 i7 i8
    obtain ⟨sn,hsn⟩:∃ n:Nat,rs=(n:Int):=⟨rs.toNat,by omega⟩
    obtain ⟨cn,hcn⟩:∃ n:Nat,rc=(n:Int):=⟨rc.toNat,by omega⟩
    obtain ⟨an,han⟩:∃ n:Nat,rr=(n:Int):=⟨rr.toNat,by omega⟩
    obtain ⟨hn,hhn⟩:∃ n:Nat,rh=(n:Int):=⟨rh.toNat,by omega⟩
    subst hsn hcn han hhn
    have z2:IntKind.i64.wrap (cn:Int)=(cn:Int):=IntWalk.i64_in _ (by omega)
    have z3:IntKind.i64.wrap (hn:Int)=(hn:Int):=IntWalk.i64_in _ (by omega)
    have hst:=rowsT_step hi hr.symm
    have htk:R.take (i+1)=R.take i++[⟨(sn:Int),(cn:Int),(an:Int),(hn:Int)⟩]:=by
     rw [List.take_succ_eq_append_getElem hi]
     have e2:R[i]=⟨(sn:Int),(cn:Int),(an:Int),(hn:Int)⟩:=by rw [hr];simp [List.getD,hi]
     rw [e2]
    have HB4:Hid (sn<18446744073709551616∧cn≤65535∧an<18446744073709551616∧hn≤1048576):=hide (by omega)
    have hRr:=HR.out
    rw [hst] at hRr
    have HU1:=hide (uint_r wo p AR nR cR sn _ hRr 18446744073709551615 (by have:=HB4.out;omega) HB4.out.1)
    have HPT1:=hide (blk_ty hRr.blk)
    have HTK:=hide htk
    have HI:=hide hi
    clear hrm hr i1 i2 i3 i4 i5 i6 i7 i8 hst htk hRr hi hi'
    go_wp2_with fail
    refine HU1.out.mono ?_
    rintro e w7 ⟨A7,n7,c7,rfl,h7,T7⟩
    obtain ⟨w8,hw8⟩:∃ y,y=w7.alloc (.cells #[.int .u64 (sn:Int),.int .i64 0,.int .u64 0,.int .i64 0] 110):=⟨_,rfl⟩
    obtain ⟨gr,hgr⟩:∃ y,y=w7.heap.size:=⟨_,rfl⟩
    have T8:Touch (fun _=>False) w7 w8:=by rw [hw8];exact (Touch.refl _ _).alloc _
    have HRW8:Hid (Blk w8 gr 110 #[.int .u64 (sn:Int),.int .i64 0,.int .u64 0,.int .i64 0]):=hide (by rw [hw8,hgr];exact Blk.new _ _ _)
    have HJ7:=hide (HJ.out.rd HPT1.out T7)
    have HJ8:=hide (HJ7.out.quiet T8)
    have HR8:=hide (h7.quiet T8)
    have HGY:Hid (w.heap.size≤gr∧∀ g,(Value.slice A' i c').ownBlock=some g→¬ g=gr):=hide ⟨by rw [hgr];exact HJ7.out.t.size,fun g hg e=>by have:=(own_ty HJ7.out.own hg).lt;omega⟩
    have HU2:=hide (uint_r w8 p A7 n7 c7 cn _ HR8.out 65535 HB4.out.2.1 (by have:=HB4.out;omega))
    have HW8:=hide hw8
    have HGR:=hide hgr
    clear h7 T7 T8 hw8 hgr HU1
    go_upto_region 10 with fail
    rw [← HW8.out,← HGR.out]
    go_wp2_with fail
    refine HU2.out.mono ?_
    rintro e w9 ⟨A9,n9,c9,rfl,h9,T9⟩
    have HRW9:=hide (HRW8.out.touch T9 (fun e=>(blk_ty HRW8.out).ne (blk_ty HR8.out.blk) (by decide) e))
    have HJ9:=hide (HJ8.out.rd (blk_ty HR8.out.blk) T9)
    have HR9:=hide h9
    clear h9 T9 HU2
    obtain ⟨f0,f1,f2⟩:=HRW9.out.facts
    go_upto_region 11 with fail
    obtain ⟨wb,hwb⟩:∃ y,y=w9.setCell ⟨gr,1,none⟩ (.int .i64 (cn:Int)):=⟨_,rfl⟩
    have Tb:Touch (fun g=>g=gr) w9 wb:=by rw [hwb];exact (Touch.refl (fun g=>g=gr) w9).setCell (p:=⟨gr,1,none⟩) (fun _=>rfl) _
    have HRWb:Hid (Blk wb gr 110 #[.int .u64 (sn:Int),.int .i64 (cn:Int),.int .u64 0,.int .i64 0]):=hide (by rw [hwb];simpa using HRW9.out.set_ 1 (.int .i64 (cn:Int)))
    have HJb:=hide (HJ9.out.row (blk_ty HRW9.out) HGY.out.1 HGY.out.2 Tb)
    have HRb:=hide (HR9.out.row (blk_ty HRW9.out) Tb)
    have HU3:=hide (uint_r wb p A9 n9 c9 an _ HRb.out 18446744073709551615 (by have:=HB4.out;omega) HB4.out.2.2.1)
    rw [← hwb]
    clear hwb Tb f0 f1 f2
    go_wp2_with fail
    refine HU3.out.mono ?_
    rintro e wc ⟨AC,nC,cC,rfl,hc,Tc⟩
    have HRWc:=hide (HRWb.out.touch Tc (fun e=>(blk_ty HRWb.out).ne (blk_ty HRb.out.blk) (by decide) e))
    have HJc:=hide (HJb.out.rd (blk_ty HRb.out.blk) Tc)
    have HRc:=hide hc
    clear hc Tc HU3
    obtain ⟨f0,f1,f2⟩:=HRWc.out.facts
    go_upto_region 12 with fail
    obtain ⟨wd,hwd⟩:∃ y,y=wc.setCell ⟨gr,2,none⟩ (.int .u64 (an:Int)):=⟨_,rfl⟩
    have Td:Touch (fun g=>g=gr) wc wd:=by rw [hwd];exact (Touch.refl (fun g=>g=gr) wc).setCell (p:=⟨gr,2,none⟩) (fun _=>rfl) _
    have HRWd:Hid (Blk wd gr 110 #[.int .u64 (sn:Int),.int .i64 (cn:Int),.int .u64 (an:Int),.int .i64 0]):=hide (by rw [hwd];simpa using HRWc.out.set_ 2 (.int .u64 (an:Int)))
    have HJd:=hide (HJc.out.row (blk_ty HRWc.out) HGY.out.1 HGY.out.2 Td)
    have HRd:=hide (HRc.out.row (blk_ty HRWc.out) Td)
    have HU4:=hide (uint_r wd p AC nC cC hn _ HRd.out 1048576 HB4.out.2.2.2 (by have:=HB4.out;omega))
    rw [← hwd]
    clear hwd Td f0 f1 f2
    go_wp2_with fail
    refine HU4.out.mono ?_
    rintro e we ⟨AE,nE,cE,rfl,he,Te⟩
    have HRWe:=hide (HRWd.out.touch Te (fun e=>(blk_ty HRWd.out).ne (blk_ty HRd.out.blk) (by decide) e))
    have HJe:=hide (HJd.out.rd (blk_ty HRd.out.blk) Te)
    have HRe:=hide he
    clear he Te HU4
    obtain ⟨f0,f1,f2⟩:=HRWe.out.facts
    go_upto_region 13 with fail
    obtain ⟨wf,hwf⟩:∃ y,y=we.setCell ⟨gr,3,none⟩ (.int .i64 (hn:Int)):=⟨_,rfl⟩
    have Tf:Touch (fun g=>g=gr) we wf:=by rw [hwf];exact (Touch.refl (fun g=>g=gr) we).setCell (p:=⟨gr,3,none⟩) (fun _=>rfl) _
    have HRWf:Hid (Blk wf gr 110 #[.int .u64 (sn:Int),.int .i64 (cn:Int),.int .u64 (an:Int),.int .i64 (hn:Int)]):=hide (by rw [hwf];simpa using HRWe.out.set_ 3 (.int .i64 (hn:Int)))
    have HJf:=hide (HJe.out.row (blk_ty HRWe.out) HGY.out.1 HGY.out.2 Tf)
    have HRf:=hide (HRe.out.row (blk_ty HRWe.out) Tf)
    rw [← hwf]
    clear hwf Tf f0 f1 f2
    obtain ⟨f0,f1,f2⟩:=HRWf.out.facts
    go_wp2_with (at_builtin;refine wpList_app _ rfl (.tmp 61) (.tmp 63) 106 rfl 110 i0 _ 4 32 Tryz.underlying106 hi0 hz0 hz1 hz2 rfl (by decide) (.slice A' i c') i _ rfl (own_touch HJf.out.own ((Touch.refl _ _).alloc _) (fun _ _ f=>f)) (some ⟨_,0,none⟩) 1 1 (SRow.cells ⟨(sn:Int),(cn:Int),(an:Int),(hn:Int)⟩) rfl ?s1a ?s1b ?s1c ?s1d ?s1e ?_)
    case s1a =>
     have h:=Reads.new (size:=4) wf 110 [.int .u64 (sn:Int),.int .i64 (cn:Int),.int .u64 (an:Int),.int .i64 (hn:Int)] 1 rfl
     simpa [SRow.cells] using h
    try (case s1b=>exact fun h=>by cases h)
    case s1c=>exact List.all_eq_true.1 rfl
    case s1d=>have:=HI.out;have:=HRN.out;unfold maxLen;omega
    case s1e=>have:=HI.out;have:=HRN.out;omega
    intro vg wg hown hgrow hfr _
    obtain ⟨AG,cG,hvg,_,_⟩:=own_len hown
    subst hvg
    have Tg:Touch (fun g=>(Value.slice A' i c').ownBlock=some g) wf wg:=((Touch.refl (fun g=>(Value.slice A' i c').ownBlock=some g) wf).alloc _).grown hgrow (fun k hk _=>hk)
    have HJg:Hid (LdJ w wg p gm base A4 n4 c4 Z AG (i+1) cG (R.take (i+1))):=hide (by
     refine ⟨by rw [HTK.out,rowCells_snoc];exact hown,fun g hg=>?_,HJf.out.mb.touch Tg (own_blk_ne HJf.out.own HJf.out.mb (by decide)),HJf.out.z.far Tg (fun g t hg ht e=>hg.ne (own_ty HJf.out.own e) (by rcases ht with rfl | rfl | rfl | rfl | rfl<;>decide) rfl),HJf.out.t.trans Tg (fun g hg e=>by have:=HJf.out.fr g e;omega),HJf.out.py⟩
     rcases hfr with e | ⟨g',e,hg'⟩
     ·exact HJf.out.fr g (by rw [← e];exact hg)
     ·rw [hg] at e
      injection e with e
      have:=HJf.out.t.size
      simp at hg'
      omega)
    have HRg:=hide (HRf.out.touch Tg (own_blk_ne HJf.out.own HRf.out.blk (by decide)) (fun g hg e=>hg.ne (own_ty HJf.out.own e) (by decide) rfl))
    clear hown hgrow hfr Tg
    go_wp2_with fail
    go_roundw
    ·exact ⟨i+1,AG,cG,AE,nE,cE,rfl,by simp,by have:=HI.out;omega,HJg,HRg⟩
    ·have:=HI.out
     simp only [intOf]
     omega
   ·have y0:¬ (i:Int)<(R.length:Int):=by omega
    have hie:i=R.length:=by omega
    subst hie
    have e1:R.take R.length=R:=List.take_length
    have e2:rowsT R R.length=[]:=by unfold rowsT;rw [List.drop_length];rfl
    rw [e1] at HJ
    rw [e2] at HR
    have HSL:=hide (ses_load wo A' R.length c' R rfl (Reads.of_own HJ.out.own) (own_nilOk HJ.out.own) HRN.out)
    clear hi hi' e1 e2
    go_wp2_with fail
    refine HSL.out.mono ?_
    rintro e w7 ⟨T7,hsl⟩
    rcases hsl with ⟨hbad,_⟩ | ⟨_,tb,v,rfl,htb,hty,hvy⟩
    ·rw [HG.out] at hbad
     cases hbad
    ·have HTB:=hide htb
     have HYB:Hid (w.heap.size≤tb∧∀ g,v.ownBlock=some g→w.heap.size≤g):=hide ⟨Nat.le_trans HJ.out.t.size hty,fun g hg=>Nat.le_trans HJ.out.t.size (hvy g hg)⟩
     have HJ7:=hide (HJ.out.quiet T7)
     have hen:=end_any w7 p AR nR cR [] 0 (HR.out.quiet T7)
     have hn0:nR=0:=by rw [← HR.out.len];rfl
     have HEN:=hide hen
     have HN0:=hide hn0
     clear T7 htb hty hvy hen hn0 HSL
     go_wp2_with fail
     refine HEN.out.mono ?_
     rintro e w8 ⟨x8,rfl,hx8,rfl⟩
     have hx0:x8=0:=by
      unfold EndV at hx8
      exact hx8.2 ⟨rfl,HN0.out⟩
     subst hx0
     have HM7:=hide (HJ7.out.mb)
     have hdn:=dnew_any w8 (Lst.touch HL.out HJ7.out.t) L HD.out A4 n4 c4 Z HJ7.out.z HZ4.out
     rw [HEB.out] at hdn
     have HDN:=hide hdn
     clear hx8 hdn HEN
     obtain ⟨f0,f1,f2⟩:=HM7.out.facts
     go_wp2_with fail
     refine HDN.out.mono ?_
     rintro e w9 ⟨b,A9,c9,Z9,wA9,wc9,rfl,hdw,hni⟩
     have T9:=hni.touch
     have HDW:=hide hdw
     have HT9:=hide (HJ7.out.t.then T9)
     have HTB9:=hide (HTB.out.touch T9 (fun f=>f) (fun _ _ f=>f))
     have HAA:=hide (all_any w9 b)
     clear hdw hni T9 HDN f0 f1 f2
     go_wp2_with fail
     refine HAA.out.mono ?_
     rintro e wa ⟨B,rfl,hB,Ta⟩
     have HCO:=hide (collect_any (Lst.touch HL.out (HT9.out.then Ta)) (HDW.out.quiet Ta) HD.out B hB)
     have HTa:=hide (HT9.out.then Ta)
     have HTBa:=hide (HTB9.out.touch Ta (fun f=>f) (fun _ _ f=>f))
     clear hB Ta HAA
     go_wp2_with fail
     refine HCO.out.mono ?_
     rintro e wb ⟨AP,cP,rfl,hP⟩
     have HTb:=hide (HTa.out.then hP.touch)
     have HTBb:=hide (HTBa.out.touch hP.touch (fun f=>f) (fun _ _ f=>f))
     have hld:=dload_any wb (Lst.touch HL.out HTb.out) ⟨AP,L.length,cP,L⟩ (own_okD hP.own) (fun r hr=>dict_sizes HD.out r hr) (by have:=HD.out.len;unfold maxLen;simp only;omega)
     simp only [SL.val] at hld
     have HLD:=hide hld
     clear hP hld HCO
     go_wp2_with fail
     refine HLD.out.mono ?_
     rintro e wd (⟨hr,_⟩ | ⟨_,d,rfl,hd,hdl,Td⟩)
     ·rw [right_dict HD.out] at hr
      cases hr
     ·have HDD:=hide hd
      have HTd:=hide (HTb.out.then Td)
      have HTBd:=hide (HTBb.out.touch Td (fun f=>f) (fun _ _ f=>f))
      have HDL:Hid (w.heap.size≤d):=hide (Nat.le_trans HTb.out.size hdl)
      clear hd hdl Td HLD
      go_wp2_with fail
      go_ret2
      exact ⟨wd.heap.size,d,tb,v,rfl,⟨Blk.new _ _ _,HDD.out.quiet ((Touch.refl _ _).alloc _),HTBd.out.alloc _,HRN.out⟩,HDL.out,HYB.out.1,HYB.out.2,HTd.out.alloc _⟩
 ·exfalso
  have hb:=base_mach HD.out
  obtain ⟨bn,hbn⟩:∃ bn:Nat,(mach L).base=(bn:Int):=⟨(mach L).base.toNat,by omega⟩
  refine hno bn (mach L).states (by omega) (by rw [← hbn];exact right_mach HD.out) ?_
  rw [HM.out]
  unfold mB
  rw [hbn]
end Go.Proofs.YthockgmbooefpaaGreatDoor
namespace Go.Proofs.YthockgmbooefpaaGreatDoor
open Go.RowKit
theorem dict_nil:DictP ([]:List PRow):=dict_mk (by simp) (fun p hp=>by cases hp) List.Pairwise.nil
theorem conv_nil (w:World):(convert 50 9 (.slice none 0 0)).run Tryz.prog w=.ok (.string ⟨#[]⟩) w:=by kernel_rfl
theorem conv_img (w:World) (A:Option Addr) (q c:Nat) (l:List UInt8) (h:w.ownsRow 0 5 1 (.slice A q c) q (l.map byteV)):(convert 50 9 (.slice A q c)).run Tryz.prog w=.ok (.string ⟨l.toArray⟩) w:=by
 have hl:=own_u8 h
 by_cases h0:0<l.length
 ·exact (conv_bytes w A q c l h h0).2
 ·have e:l=[]:=List.eq_nil_of_length_eq_zero (by omega)
  subst e
  have hq:q=0:=hl.symm
  subst hq
  cases A with
  | none =>
   obtain ⟨_,rfl⟩:=own_nilOk h rfl
   exact conv_nil w
  | some ad=>exact run_convert_bytes_back _ _ _ _ ad c [] Tryz.underlying50 Tryz.underlying5 Tryz.underlying9 (fun j hj=>absurd hj (by simp))
theorem wp_conv_run {P:Program} {o:Oper} {a:Act} {w:World} {K:Act→World→Prop} {Q:Exit→Act→World→Prop} (t1 t2:TypeId) (x:Operand) (hop:o.op=Op.convert t1 t2 x) (v v':Value) (hx:a.eval x=v) (hrun:(convert t1 t2 v).run P w=.ok v' w) (h:K (a.put o.dst v') w):o.wp P a w K Q:=by
 unfold Oper.wp
 simp [execOp,hop,hx,hrun,Result.andThen]
 exact h
theorem tab_lt {w:World} {tb:Nat} {v:Value} {R:List SRow} (h:Tab w tb v R) {g:Nat} (hg:v.ownBlock=some g):g<w.heap.size:=(own_ty h.2 hg).lt
theorem StY.other {W w w':World} {s d tb:Nat} {v:Value} {L:List PRow} {q:Nat} {R:List SRow} {s' d' tb':Nat} {v':Value} {L':List PRow} {q':Nat} {R':List SRow} (h:StY W w s d tb v L q R) (k:StY W w s' d' tb' v' L' q' R') (hd:¬ d=d') (ht:¬ tb=tb') (hv:∀ g,v.ownBlock=some g→¬ v'.ownBlock=some g)
  (T:Touch (Go.Proofs.YthockgmbooefpaaGreatDoor.stF d' tb' v') w w'):StY W w' s d tb v L q R:=by
 have hk:=k.st
 have hh:=h.st
 refine ⟨⟨hh.blk.touch T (fun e=>?_),hh.dct.far T (fun e=>?_) (fun g t hg ht2 e=>?_),hh.tab.touch T (fun e=>?_) (fun g hg e=>?_),hh.few⟩,h.y,h.t.trans T (fun g hg e=>by have:=k.stF g e;omega),h.lw⟩
 ·rcases e with e | e
  ·exact (blk_ty hh.blk).ne hk.dct.ty (by decide) e
  ·exact fp_no hk.tab (blk_ty hh.blk) (by decide) (by decide) e
 ·rcases e with e | e
  ·exact hd e
  ·exact fp_no hk.tab hh.dct.ty (by decide) (by decide) e
 ·rcases e with e | e
  ·exact hg.ne hk.dct.ty (by rcases ht2 with rfl | rfl | rfl | rfl | rfl<;>decide) e
  ·exact fp_no hk.tab hg (by rcases ht2 with rfl | rfl | rfl | rfl | rfl<;>decide) (by rcases ht2 with rfl | rfl | rfl | rfl | rfl<;>decide) e
 ·rcases e with e | e | e
  ·exact (blk_ty hh.tab.1).ne hk.dct.ty (by decide) e
  ·exact ht e
  ·exact (blk_ty hh.tab.1).ne (own_ty hk.tab.2 e) (by decide) rfl
 ·have hgt:=own_ty hh.tab.2 hg
  rcases e with e | e | e
  ·exact hgt.ne hk.dct.ty (by decide) e
  ·exact hgt.ne (blk_ty hk.tab.1) (by decide) e
  ·exact hv g hg e
theorem own_cap {w:World} {A:Option Addr} {n c:Nat} {l:List UInt8} (h:w.ownsRow 0 5 1 (.slice A n c) n (l.map byteV)):n≤c∧c≤maxLen:=by
 obtain ⟨A',c',hv,h1,h2⟩:=own_len h
 injection hv with e1 e2 e3
 subst e3
 exact ⟨by omega,h2⟩
theorem goes_seq {c:CmdP} {R:List SRow} (h:goesB c R=true):¬ c.seq=0:=by
 intro h0
 unfold goesB at h
 simp only [Bool.and_eq_true,decide_eq_true_eq] at h
 have h2:=h.1.2
 unfold doC chk at h2
 rw [h0] at h2
 split at h2
 ·simp at h2
 ·simp at h2
theorem doR_good {L:List PRow} {R:List SRow} (h:R.all goodRow=true) (c:CmdP):(doR c L R).all goodRow=true:=by
 unfold doR
 split
 ·split
  ·rw [List.all_append,h]
   simp [goodRow,SRow.zero]
  ·exact h
 ·split
  ·rename_i hg
   have hs:=goes_seq hg
   rw [List.all_eq_true] at h ⊢
   intro r hr
   rcases List.mem_or_eq_of_mem_set hr with e | e
   ·exact h r e
   ·subst e
    simp [goodRow,hs]
  ·exact h
theorem runS_good {R:List SRow} (h:R.all goodRow=true) (T:List CmdP) (L:List PRow):(runS T (L,R)).2.all goodRow=true:=by
 induction T generalizing L R with
 | nil=>exact h
 | cons c T ih=>exact ih (doR_good h c) (doL c L R)
end Go.Proofs.YthockgmbooefpaaGreatDoor
