/- What the law rests on, part 27. No condition but those that each theorem names. -/
import Derived.Test.YthockgmbooefpaaGreatDoorL10
import Derived.Test.YthockgmbooefpaaGreatDoorL25
import Derived.Laws.EntriesVeiled
import Derived.Laws.Concat
import Derived.StillTailTactics
import Derived.RangeFuncNested
import Derived.RangeFuncBound
import Derived.RangeFuncCalls
import Derived.RangeFuncLeaves
import Derived.Shelf.Abstract
import Derived.Shelf.RegionOpen
import Derived.OwnWalkIn
import Derived.TacticsInMore
import Derived.LoopNIn
import Derived.LoopIn
set_option linter.unusedSectionVars false
set_option linter.unusedSimpArgs false
set_option linter.unusedVariables false
set_option maxRecDepth 100000
set_option maxHeartbeats 8000000
namespace Go.Proofs.YthockgmbooefpaaGreatDoor
def mkW (l:List Nat) (u:Int) (r:List Nat × Int):PRow:=⟨⟨((l++r.1).flatMap writeU).toArray⟩,u+r.2⟩
def wordsOf (l:List Nat) (u:Int) (R:Rs):List PRow:=R.map (mkW l u)
theorem wordsOf_len (l:List Nat) (u:Int) (R:Rs):(wordsOf l u R).length=R.length:=by simp [wordsOf]
theorem words_beh (l:List Nat) (u:Int) (R:Rs) (c:Nat):wordsOf l u (behR R c)=wordsOf (l++[c]) (u+leastR (underR R c)) (levelR (underR R c)):=by
 unfold wordsOf behR levelR
 rw [List.map_map,List.map_map]
 refine List.map_congr_left fun r _=>?_
 simp only [Function.comp,mkW,List.append_assoc,List.singleton_append,PRow.mk.injEq,true_and]
 omega
def preW (l:List Nat) (u:Int) (R:Rs) (j:Nat):List PRow:=wordsOf l u ((if finR R=true then [([],outR R)] else [])++((firstsR R).take j).flatMap (behR R))
theorem preW_zero (l:List Nat) (u:Int) (R:Rs):preW l u R 0=if finR R=true then [⟨⟨(l.flatMap writeU).toArray⟩,u+outR R⟩] else []:=by
 unfold preW wordsOf
 simp only [List.take_zero,List.flatMap_nil,List.append_nil]
 split
 ·simp [mkW]
 ·rfl
theorem preW_succ (l:List Nat) (u:Int) (R:Rs) (j:Nat) (c:Nat) (h:(firstsR R)[j]? = some c):preW l u R (j+1)=preW l u R j++wordsOf (l++[c]) (u+leastR (underR R c)) (levelR (underR R c)):=by
 rw [← words_beh]
 obtain ⟨hj,e⟩:=List.getElem?_eq_some_iff.1 h
 unfold preW wordsOf
 rw [List.take_succ_eq_append_getElem hj,e]
 simp
theorem preW_all {R:Rs} (h:SortR R) (l:List Nat) (u:Int) (j:Nat) (hj:(firstsR R).length≤j):preW l u R j=wordsOf l u R:=by
 unfold preW
 rw [List.take_of_length_le hj,← split_sorted h]
theorem preW_prefix {R:Rs} (h:SortR R) (l:List Nat) (u:Int) (j:Nat):preW l u R j <+: wordsOf l u R:=by
 have hs:wordsOf l u R=preW l u R j++wordsOf l u (((firstsR R).drop j).flatMap (behR R)):=by
  conv=>lhs;rw [split_sorted h]
  unfold preW wordsOf
  rw [← List.map_append,List.append_assoc,← List.flatMap_append,List.take_append_drop]
 rw [hs]
 exact List.prefix_append _ _
end Go.Proofs.YthockgmbooefpaaGreatDoor
namespace Go.Proofs.YthockgmbooefpaaGreatDoor
open Go.RowKit
theorem toArr (s:ByteArray):(⟨s.toList.toArray⟩:ByteArray)=s:=by
 rw [Go.ByteArray.toList_eq]
theorem bytes_app (a b:ByteArray):(a++b).toList=a.toList++b.toList:=by
 rw [Go.ByteArray.toList_eq,Go.ByteArray.toList_eq,Go.ByteArray.toList_eq]
 simp
theorem mk_of_list {a:ByteArray} {l:List UInt8} (h:a.toList=l):a=⟨l.toArray⟩:=by rw [← h,toArr]
theorem size_list (a:ByteArray):a.size=a.toList.length:=by
 rw [Go.ByteArray.toList_eq,Array.length_toList]
 rfl
theorem words_dict {L:List PRow} (hD:DictP L):wordsOf [] (leastR (restsL L)) (levelR (restsL L))=L:=by
 unfold wordsOf levelR restsL
 rw [List.map_map,List.map_map]
 conv=>rhs;rw [← List.map_id L]
 refine List.map_congr_left fun p hp=>?_
 have h:=(runesU_write _ _ _ (Nat.le_refl _) (hD.word p hp).1).1
 obtain ⟨pw,pn⟩:=p
 simp only [Function.comp,mkW,List.nil_append,id,PRow.mk.injEq]
 refine ⟨?_,by omega⟩
 rw [← h,toArr]
theorem all_any (w:World) (b:Nat) :
  Calls Tryz.prog 61 #[.pointer (some ⟨b,0,none⟩)] w fun e w'=>∃ B,e=.returned (.func (.func 119) #[] #[.pointer (some ⟨B,0,none⟩)])∧Blk w' B 92 #[.pointer (some ⟨b,0,none⟩)]∧Touch (fun _=>False) w w':=by
 have hmf:∀ (fn:Fn) (first cap:Array Value) (w:World),(Instr.makeFunc fn first cap).run Tryz.prog w=.ok (.func fn first cap) w:=fun _ _ _ _=>rfl
 go_enter Tryz.func61,Tryz.ntmps61
 go_wp2_with fail
 go_ret
 exact ⟨w.heap.size,rfl,Blk.new _ _ _,(Touch.refl _ _).alloc _⟩
structure KpT (B0:Nat) (w w':World):Prop where
 os:w'.os=w.os
 tape:w'.tape=w.tape
 output:w'.output=w.output
 size:w.heap.size≤w'.heap.size
 low:∀ g:Nat,g<w.heap.size→g<B0→w'.heap[g]? = w.heap[g]?
 ty:∀ (g:Nat) (t:TypeId) (cs:Array Value) (fr:Nat × Nat),w.heap[g]? = some (Obj.cells cs t fr)→t ≠ 125 → t ≠ 37 → w'.heap[g]? = w.heap[g]?
theorem KpT.refl (B0:Nat) (w:World):KpT B0 w w:=⟨rfl,rfl,rfl,Nat.le_refl _,fun _ _ _=>rfl,fun _ _ _ _ _ _ _=>rfl⟩
theorem KpT.trans {B0:Nat} {a b c:World} (h:KpT B0 a b) (k:KpT B0 b c):KpT B0 a c :=
 ⟨k.os.trans h.os,k.tape.trans h.tape,k.output.trans h.output,Nat.le_trans h.size k.size,fun g h1 h2=>(k.low g (Nat.lt_of_lt_of_le h1 h.size) h2).trans (h.low g h1 h2),fun g t cs fr e h1 h2=>by
  have e1:=h.ty g t cs fr e h1 h2
  exact (k.ty g t cs fr (e1.trans e) h1 h2).trans e1⟩
theorem KpT.of {B0:Nat} {a b:World} (h:Touch (fun _=>False) a b):KpT B0 a b :=
 ⟨h.os,h.tape,h.output,h.size,fun g h1 _=>h.block g h1 (fun f=>f),fun g _ _ _ e _ _=>h.block g (Array.getElem?_eq_some_iff.1 e).1 (fun f=>f)⟩
theorem Blk.kpt {B0:Nat} {a b:World} {g:Nat} {t:TypeId} {cs:Array Value} (h:Blk a g t cs) (k:KpT B0 a b) (h1:t ≠ 125) (h2:t ≠ 37):Blk b g t cs:=(k.ty g t cs _ h h1 h2).trans h
theorem TyAt.kpt {B0:Nat} {a b:World} {g:Nat} {t:TypeId} (h:TyAt a g t) (k:KpT B0 a b) (h1:t ≠ 125) (h2:t ≠ 37):TyAt b g t:=by
 obtain ⟨cs,u,e⟩:=h
 exact ⟨cs,u,(k.ty g t cs _ e h1 h2).trans e⟩
theorem TyAt.cell_kp {B0:Nat} {a b:World} {g:Nat} {t:TypeId} (h:TyAt a g t) (k:KpT B0 a b) (h1:t ≠ 125) (h2:t ≠ 37) (j:Nat):b.cell? ⟨g,j,none⟩=a.cell? ⟨g,j,none⟩:=by
 obtain ⟨cs,u,e⟩:=h
 exact World.cell?_of_block (k.ty g t cs _ e h1 h2)
theorem RdT.kpt {B0:Nat} {a b:World} {t:TypeId} {size:Nat} {A:Option Addr} {n:Nat} {xs:List Value} (h:RdT a t size A n xs) (k:KpT B0 a b) (h1:t ≠ 125) (h2:t ≠ 37):RdT b t size A n xs:=by
 refine ⟨⟨h.rd.1,fun hn=>?_⟩,fun hn g hg=>(h.ty hn g hg).kpt k h1 h2⟩
 obtain ⟨g,o,hA,hg,hc⟩:=h.rd.2 hn
 have ht:=h.ty hn g (by rw [hA];rfl)
 exact ⟨g,o,hA,Nat.lt_of_lt_of_le hg k.size,fun j u hu=>(ht.cell_kp k h1 h2 _).trans (hc j u hu)⟩
theorem StsOk.kpt {B0:Nat} {a b:World} {A:Option Addr} {n:Nat} {Z:List SV} (h:StsOk a A n Z) (k:KpT B0 a b):StsOk b A n Z :=
 ⟨h.rd.kpt k (by decide) (by decide),h.len,fun z hz=>⟨(h.el z hz).len,(h.el z hz).rd.kpt k (by decide) (by decide),(h.el z hz).le,(h.el z hz).mx⟩⟩
theorem WkM.kpt {B0:Nat} {a w:World} {b:Nat} {base:Int} {A:Option Addr} {n c:Nat} {Z:List SV} {wA:Option Addr} {wc:Nat} {W:List Int} (h:WkM a b base A n c Z wA wc W) (k:KpT B0 a w):WkM w b base A n c Z wA wc W :=
 ⟨h.blk.kpt k (by decide) (by decide),h.sts.kpt k,h.wds.kpt k (by decide) (by decide),h.len⟩
theorem Lst.kpt {B0:Nat} {a b:World} (h:Lst a) (k:KpT B0 a b) (hB:0<B0):Lst b:=by
 have e:∀ j,b.cell? ⟨0,j,none⟩=a.cell? ⟨0,j,none⟩:=fun j=>World.cell?_of_block (k.low 0 h.1 hB)
 exact ⟨Nat.lt_of_lt_of_le h.1 k.size,(e 2).trans h.2.1,(e 3).trans h.2.2.1,(e 4).trans h.2.2.2⟩
end Go.Proofs.YthockgmbooefpaaGreatDoor
namespace Go.Proofs.YthockgmbooefpaaGreatDoor
open Go.RowKit Go.Shelf
attribute [local go_sem] Oper.semAt_some
def pEnc (x:PRow):Array Value:=#[.agg #[.string x.word,.int .i64 x.weight]]
def YieldsJ (lp B0:Nat) (J Jx:List PRow→World→Prop) (N:Nat):Prop:=∀ pre x W1,J pre W1→pre.length<N→YieldAt Fence.wide 0 Tryz.prog lp (pEnc x) W1 fun e W'=>(e=.returned (.bool true)∧J (pre++[x]) W'∧KpT B0 W1 W')∨(e=.returned (.bool false)∧Jx (pre++[x]) W')
theorem round_wideA {P:Program} {l:Nat} {f:FuncId} {tmps:Array Value} {assign body:Code} {w:World} {R:Ending→World→Prop} {n:Nat} (m:Nat) (h:RoundIn Fence.wide n P l f tmps assign body w R):RoundIn Fence.wide m P l f tmps assign body w R:=⟨h.1,fun c cs _=>h.2 c cs (room_wide _)⟩
def FromI (w0:World) (b n:Nat) (k:KnP) (lp B0:Nat) (J Jx:List PRow→World→Prop) (N:Nat) (f:Nat):Prop :=
 ∀ (w:World) (s:Nat) (R:Rs) (head:ByteArray) (l:List Nat) (u:Int) (pre:List PRow),s<n→k.rests[s]? = some R→depR R<f→head.toList=l.flatMap writeU→l.length+depR R≤24→KpT B0 w0 w→J pre w→pre.length+R.length≤N→0≤u→(∀ r∈R,u+r.2≤2097152) →
  Calls Tryz.prog 120 #[.pointer (some ⟨b,0,none⟩),.int .i64 s,.string head,.int .i64 u,.func (.yield lp) #[] #[]] w fun e w'=>(e=.returned (.bool true)∧J (pre++wordsOf l u R) w'∧KpT B0 w0 w')∨(e=.returned (.bool false)∧∃ q,q <+: wordsOf l u R∧Jx (pre++q) w')
theorem fromI_step (w0:World) (hL:Lst w0) (b:Nat) (base:Int) (A:Option Addr) (n c:Nat) (Z:List SV) (wA:Option Addr) (wc:Nat) (W:List Int) (hM:WkM w0 b base A n c Z wA wc W) (k:KnP) (hk:Good k) (hh:∀ X∈k.rests,Her X) (hZ:Z.map SV.p=k.states) (lp B0:Nat) (hB0:0<B0) (J Jx:List PRow→World→Prop) (N:Nat)
  (hJ:∀ pre W W',J pre W→Touch (fun _=>False) W W'→J pre W') (hJx:∀ pre W W',Jx pre W→Touch (fun _=>False) W W'→Jx pre W') (hY:YieldsJ lp B0 J Jx N) (f:Nat) (ih:FromI w0 b n k lp B0 J Jx N f):FromI w0 b n k lp B0 J Jx N (f+1):=by
 intro w s R head l u pre hs hR hd hhead hlen hKw hJw hN hu0 hub
 have hMw:=hM.kpt hKw
 obtain ⟨x0,x1,x2⟩:=hMw.blk.facts
 have y1:(0:Int)≤(s:Int):=by omega
 have y2:(s:Int)<(n:Int):=by omega
 obtain ⟨g,o,hA,hgl,d0,d1,d2⟩:=state_at hMw.sts.rd.rd hMw.sts.len s hs
 subst hA
 have hzm:=getD_mem Z svZero s (by rw [hMw.sts.len];exact hs)
 have hzo:=hM.sts.el _ hzm
 have hzk:k.states[s]? = some (Z.getD s svZero).p:=by
  rw [← hZ,List.getElem?_map,getD_get? (d:=svZero) (by rw [hMw.sts.len];exact hs)]
  rfl
 have hc:=hk.corr s R _ hR hzk
 have hher:=hh R (List.mem_of_getElem? hR)
 have hsl:k.states.length=n:=by rw [← hZ,List.length_map];exact hM.sts.len
 obtain ⟨⟨fin,out,zA,zn,zc,arcs⟩,hz⟩:∃ z,Z.getD s svZero=z:=⟨_,rfl⟩
 rw [hz] at d0 d1 d2 hzo hzk hc
 simp only [SV.p] at d0 d1 d2 hzk hc
 have hzq:zn≤2097152:=by
  have h1:=form_few (form_corr hc hher)
  have h2:=hzo.len
  simp only at h1 h2
  omega
 have hznI:(zn:Int)≤2097152:=by omega
 have HHER:=hide hher
 have HC:=hide hc
 have HZO:=hide hzo
 have HUB:=hide hub
 have HL:=hide hL
 have HIH:=hide ih
 have HHD:=hide hhead
 have HLEN:=hide hlen
 have HD:=hide hd
 have HN:=hide hsl
 have HNN:=hide hN
 have HY:=hide hY
 have HJ:=hide hJ
 have HJX:=hide hJx
 obtain ⟨wD,hwD⟩:∃ x,x=w.alloc (.cells #[.bool fin,.int .i64 out,.slice zA zn zc] 170):=⟨_,rfl⟩
 obtain ⟨D,hDD⟩:∃ D,D=w.heap.size:=⟨_,rfl⟩
 have hTD:Touch (fun _=>False) w wD:=by rw [hwD];exact (Touch.refl _ _).alloc _
 have hbD:Blk wD D 170 #[.bool fin,.int .i64 out,.slice zA zn zc]:=by rw [hwD,hDD];exact Blk.new _ _ _
 have HKD:=hide (hKw.trans (KpT.of hTD))
 have HJD:=hide (hJ _ _ _ hJw hTD)
 have HWD:=hide hwD
 have HDD:=hide hDD
 have HBD:=hide hbD
 have hpz:=preW_zero l u R
 rw [← hc.fin,← hc.out] at hpz
 simp only at hpz
 have hhm:=mk_of_list hhead
 obtain ⟨s0,s1,s2⟩:=hbD.facts
 clear hM hMw hzm hzo hzk hz hher hzq hub ih hhead hlen hd hsl hwD hDD hTD hbD hL hZ hKw hJw hY hN hJ hJx
 cases fin with
 | true =>
  have hrm:([],out)∈R:=by
   obtain ⟨m,hm⟩:=finR_iff.1 (show finR R=true from hc.fin.symm)
   have:=outR_mem hc.sort hm
   rw [← hc.out] at this
   simp only at this
   rw [this]
   exact hm
  have hb1:=HUB.out _ hrm
  have hb2:=(HHER.out.wt _ hrm).1
  simp only at hb1 hb2
  have z1:IntKind.i64.wrap (u+out)=u+out:=IntWalk.i64_in _ (by omega)
  rw [if_pos rfl,← hhm] at hpz
  obtain ⟨fn,tmps,assign,body,hy,hRR⟩:=HY.out pre ⟨head,u+out⟩ wD HJD.out (by have h1:=HNN.out;have h2:0<R.length:=List.length_pos_iff.2 hc.ne;omega)
  simp only [pEnc] at hy
  have HPZ:=hide hpz
  have HRR:=hide (round_wideA 8 hRR)
  clear hc hrm hb1 hb2 hpz hhm hRR
  rw [HWD.out] at hy
  refine (callsIn_wide (n:=9)).1 ?_
  refine callsIn_of_wp Tryz.func120 rfl trivial ?_ rfl
  simp only [Tryz.ntmps120,List.size_toArray,List.length_cons,List.length_nil,Nat.reduceAdd,Nat.reduceSub,Array.replicate_succ,Array.replicate_zero,List.push_toArray,List.append_toArray,List.nil_append,List.cons_append]
  gi_wp2
  rw [← HWD.out]
  refine HRR.out.mono ?_
  rintro e wS (⟨rfl,hJ1,hk1⟩ | ⟨rfl,hx1⟩)
  ·have hbS:=HBD.out.kpt hk1 (by decide) (by decide)
   rw [HDD.out] at hbS
   clear s0 s1 s2
   obtain ⟨s0,s1,s2⟩:=hbS.facts
   have HJ0:Hid (J (pre++preW l u R 0) wS):=hide (by rw [HPZ.out];exact hJ1)
   have HK0:=hide (HKD.out.trans hk1)
   clear hJ1 hk1 hbS HRR hy
   gi_wp2
   gi_loopw [39] (fun jv wr=>∃ (j:Nat),jv=.int .i64 j∧j≤zn∧Hid (J (pre++preW l u R j) wr)∧Hid (KpT B0 w0 wr)) (fun jv _=>zn-(intOf jv).toNat)
   case atStart=>exact ⟨0,rfl,by omega,HJ0,HK0⟩
   case round =>
    clear HJ0 HK0 s0 s1 s2 x0 x1 x2 d0 d1 d2
    obtain ⟨j,rfl,hjz,HJj,HKj⟩:=hrel
    by_cases hjz2:j<zn
    ·have j1:(j:Int)<(zn:Int):=by omega
     have j2:(0:Int)≤(j:Int):=by omega
     have j3:IntKind.i64.wrap ((j:Int)+1)=(j:Int)+1:=IntWalk.i64_in _ (by omega)
     obtain ⟨ag,ao,hA2,_,e0,e1,e2⟩:=arc_at (HZO.out.rd.kpt HKj.out (by decide) (by decide)).rd HZO.out.len j hjz2
     subst hA2
     have ham:=getD_mem arcs (0,0,0) j (by rw [HZO.out.len];exact hjz2)
     have harc:=HC.out.arc _ ham
     have hawt:=arc_wt HC.out HHER.out ham
     have hlab:(firstsR R)[j]? = some (arcs.getD j (0,0,0)).1:=by
      rw [← HC.out.labels,List.getElem?_map,getD_get? (d:=(0,0,0)) (by rw [HZO.out.len];exact hjz2)]
      rfl
     obtain ⟨⟨la,ua,tt⟩,hz⟩:∃ z,arcs.getD j (0,0,0)=z:=⟨_,rfl⟩
     rw [hz] at e0 e1 e2 harc hawt hlab
     simp only at e0 e1 e2 harc hawt hlab
     obtain ⟨q1,q2,q3⟩:=harc
     obtain ⟨w1,w2,w3⟩:=hawt
     obtain ⟨r0,hr0⟩:=List.exists_mem_of_ne_nil _ w3
     have hr1:=mem_under.1 (show (r0.1,r0.2)∈underR R la from hr0)
     have hsc:scal la=true:=(HHER.out.run _ hr1 la (List.mem_cons_self)).1
     have hdu:=depR_under w3
     have hpn:=preW_succ l u R j la hlab
     have hpf:=preW_prefix HC.out.sort l u (j+1)
     rw [← q1] at hpn
     have hb3:=HUB.out _ hr1
     have hb4:=leastR_le hr0
     rw [← q1] at hb4
     simp only at hb3
     have z2:IntKind.i64.wrap (u+ua)=u+ua:=IntWalk.i64_in _ (by omega)
     obtain ⟨more,hmore2⟩:∃ m:ByteArray,m=⟨([la].flatMap writeU).toArray⟩:=⟨_,rfl⟩
     have hml:more.toList=[la].flatMap writeU:=by rw [hmore2,toList_mk]
     have hsz1:head.size≤96:=by
      have h1:=flat_size l
      have h2:=HLEN.out
      rw [size_list,HHD.out]
      omega
     have hsz2:more.size≤4:=by
      have h1:=flat_size [la]
      rw [size_list,hml]
      simpa using h1
     have hadd:∀ wx,(Op.stringOp .add head more).run Tryz.prog wx=.ok (.string (head++more)) wx:=fun wx=>run_string_add_sum (P:=Tryz.prog) wx head more (by omega)
     have hhd2:(head++more).toList=(l++[la]).flatMap writeU:=by rw [bytes_app,HHD.out,hml,List.flatMap_append]
     obtain ⟨wo,hwo⟩:∃ y,y=wr:=⟨_,rfl⟩
     subst hwo
     obtain ⟨wF,hwF⟩:∃ x,x=(wo.alloc (.cells #[.int .i32 la,.int .i64 ua,.int .i64 tt] 173)).alloc (.cells #[.int .i32 la] 21):=⟨_,rfl⟩
     obtain ⟨E,hE⟩:∃ E,E=wo.heap.size:=⟨_,rfl⟩
     have hTF:Touch (fun _=>False) wo wF:=by rw [hwF];exact ((Touch.refl _ _).alloc _).alloc _
     have hbE:Blk wF E 173 #[.int .i32 la,.int .i64 ua,.int .i64 tt]:=by rw [hwF,hE];exact (Blk.new _ _ _).alloc _
     have hrdF:Reads wF 1 (some ⟨wo.heap.size+1,0,none⟩) 1 ([la].map runeV):=by
      rw [hwF]
      have h:=Reads.new (size:=1) (wo.alloc (.cells #[.int .i32 la,.int .i64 ua,.int .i64 tt] 173)) 21 [.int .i32 la] 1 rfl
      simpa [runeV] using h
     have hKF:=HKj.out.trans (KpT.of hTF)
     have htx:=text_any wF (Lst.kpt HL.out hKF hB0) (some ⟨wo.heap.size+1,0,none⟩) 1 1 [la] hrdF rfl (by omega) (by intro r hr;rw [List.mem_singleton] at hr;rw [hr];exact hsc)
     rw [← hmore2] at htx
     have hdl:=depR_level (underR R la)
     have hlnn:(pre++preW l u R j).length+(levelR (underR R la)).length≤N:=by
      have h1:=hpf.length_le
      rw [hpn,List.length_append,wordsOf_len,wordsOf_len] at h1
      have h2:=HNN.out
      rw [List.length_append]
      omega
     have hrec:∀ w7,Touch (fun _=>False) wF w7→Calls Tryz.prog 120 _ w7 _:=fun w7 T7=>HIH.out w7 tt (levelR (underR R la)) (head++more) (l++[la]) (u+ua) (pre++preW l u R j) (by have:=(List.getElem?_eq_some_iff.1 q3).1;rw [hk.len,HN.out] at this;exact this) q3 (by have:=HD.out;omega) hhd2 (by have:=HLEN.out;rw [List.length_append,List.length_singleton];omega) (hKF.trans (KpT.of T7)) (HJ.out _ _ _ HJj.out (hTF.then T7)) hlnn (by omega) (by
      intro r hr
      have h1:=mem_level.1 (show (r.1,r.2)∈levelR (underR R la) from hr)
      have h2:=HUB.out _ (mem_under.1 h1)
      simp only at h2
      rw [q1]
      omega)
     have HWF:=hide hwF
     have HEE:=hide hE
     have HBE:=hide hbE
     have HTX:=hide (callsIn_wide (n:=8).2 htx)
     have HREC:=hide hrec
     have HPN:=hide hpn
     have HPF:=hide hpf
     clear ham hz q1 q2 q3 w1 w2 w3 hr0 hr1 hsc hdu hpn hpf hb3 hb4 hlab hmore2 hml hsz1 hsz2 hhd2 hwF hE hTF hbE hrdF htx hdl hrec hKF hlnn
     gi_wp2
     rw [← HWF.out]
     refine ⟨trivial,HTX.out.mono ?_⟩
     rintro e w7 ⟨rfl,T7⟩
     have hb7:=HBE.out.touch T7 (fun f=>f)
     rw [HEE.out] at hb7
     obtain ⟨t0,t1,t2⟩:=hb7.facts
     have HR7:=hide (callsIn_wide (n:=8).2 (HREC.out w7 T7))
     clear T7 hb7 HTX HREC
     gi_wp2
     refine ⟨trivial,HR7.out.mono ?_⟩
     rintro e w8 (⟨rfl,hJ8,hK8⟩ | ⟨rfl,q,hq,hX8⟩)
     ·have HJ8:=hide hJ8
      have HK8:=hide hK8
      clear hJ8 hK8 HR7
      gi_wp2
      go_roundw
      case rel=>exact ⟨j+1,by simp,by omega,hide (by rw [HPN.out,← List.append_assoc];exact HJ8.out),HK8⟩
      case measure=>simp only [intOf];omega
     ·have hq2:preW l u R j++q <+: wordsOf l u R:=by
       refine List.IsPrefix.trans ?_ HPF.out
       rw [HPN.out]
       exact (List.prefix_append_right_inj _).2 hq
      have HQ2:=hide hq2
      have HX8:=hide hX8
      clear hq hq2 hX8 HR7
      gi_wp2
      go_ret
      exact .inr ⟨rfl,_,HQ2.out,by rw [← List.append_assoc];exact HX8.out⟩
    ·have hje:j=zn:=by omega
     have j4:¬ (j:Int)<(zn:Int):=by omega
     have hall:=preW_all HC.out.sort l u j (by rw [← HC.out.labels,List.length_map];have:=HZO.out.len;simp only at this ⊢;omega)
     have HALL:=hide hall
     clear hje hall
     gi_wp2
     go_ret
     exact .inl ⟨rfl,by rw [← HALL.out];exact HJj.out,HKj.out⟩
  ·have HX:=hide hx1
   have hpf:=preW_prefix HC.out.sort l u 0
   rw [HPZ.out] at hpf
   have HPF:=hide hpf
   clear hx1 hpf hy HRR
   gi_wp2
   go_ret
   exact .inr ⟨rfl,_,HPF.out,HX.out⟩
 | false =>
  rw [if_neg (by decide)] at hpz
  have HJ0:Hid (J (pre++preW l u R 0) wD):=hide (by rw [hpz,List.append_nil];exact HJD.out)
  have HK0:=HKD
  clear hc hpz hhm
  refine (callsIn_wide (n:=9)).1 ?_
  refine callsIn_of_wp Tryz.func120 rfl trivial ?_ rfl
  simp only [Tryz.ntmps120,List.size_toArray,List.length_cons,List.length_nil,Nat.reduceAdd,Nat.reduceSub,Array.replicate_succ,Array.replicate_zero,List.push_toArray,List.append_toArray,List.nil_append,List.cons_append]
  gi_wp2
  refine ⟨fun _ h=>(by cases h),?_⟩
  rename_i Q3 K2 a2 K1 a1 K0 a0 xx hhh ww heqq
  clear heqq xx hhh ww
  refine a0 _ _ ?_
  clear a0 K0
  gi_wp2
  rw [← HWD.out]
  gi_loopw [39] (fun jv wr=>∃ (j:Nat),jv=.int .i64 j∧j≤zn∧Hid (J (pre++preW l u R j) wr)∧Hid (KpT B0 w0 wr)) (fun jv _=>zn-(intOf jv).toNat)
  case atStart=>exact ⟨0,rfl,by omega,HJ0,HK0⟩
  case round =>
   clear HJ0 HK0 s0 s1 s2 x0 x1 x2 d0 d1 d2
   obtain ⟨j,rfl,hjz,HJj,HKj⟩:=hrel
   by_cases hjz2:j<zn
   ·have j1:(j:Int)<(zn:Int):=by omega
    have j2:(0:Int)≤(j:Int):=by omega
    have j3:IntKind.i64.wrap ((j:Int)+1)=(j:Int)+1:=IntWalk.i64_in _ (by omega)
    obtain ⟨ag,ao,hA2,_,e0,e1,e2⟩:=arc_at (HZO.out.rd.kpt HKj.out (by decide) (by decide)).rd HZO.out.len j hjz2
    subst hA2
    have ham:=getD_mem arcs (0,0,0) j (by rw [HZO.out.len];exact hjz2)
    have harc:=HC.out.arc _ ham
    have hawt:=arc_wt HC.out HHER.out ham
    have hlab:(firstsR R)[j]? = some (arcs.getD j (0,0,0)).1:=by
     rw [← HC.out.labels,List.getElem?_map,getD_get? (d:=(0,0,0)) (by rw [HZO.out.len];exact hjz2)]
     rfl
    obtain ⟨⟨la,ua,tt⟩,hz⟩:∃ z,arcs.getD j (0,0,0)=z:=⟨_,rfl⟩
    rw [hz] at e0 e1 e2 harc hawt hlab
    simp only at e0 e1 e2 harc hawt hlab
    obtain ⟨q1,q2,q3⟩:=harc
    obtain ⟨w1,w2,w3⟩:=hawt
    obtain ⟨r0,hr0⟩:=List.exists_mem_of_ne_nil _ w3
    have hr1:=mem_under.1 (show (r0.1,r0.2)∈underR R la from hr0)
    have hsc:scal la=true:=(HHER.out.run _ hr1 la (List.mem_cons_self)).1
    have hdu:=depR_under w3
    have hpn:=preW_succ l u R j la hlab
    have hpf:=preW_prefix HC.out.sort l u (j+1)
    rw [← q1] at hpn
    have hb3:=HUB.out _ hr1
    have hb4:=leastR_le hr0
    rw [← q1] at hb4
    simp only at hb3
    have z2:IntKind.i64.wrap (u+ua)=u+ua:=IntWalk.i64_in _ (by omega)
    obtain ⟨more,hmore2⟩:∃ m:ByteArray,m=⟨([la].flatMap writeU).toArray⟩:=⟨_,rfl⟩
    have hml:more.toList=[la].flatMap writeU:=by rw [hmore2,toList_mk]
    have hsz1:head.size≤96:=by
     have h1:=flat_size l
     have h2:=HLEN.out
     rw [size_list,HHD.out]
     omega
    have hsz2:more.size≤4:=by
     have h1:=flat_size [la]
     rw [size_list,hml]
     simpa using h1
    have hadd:∀ wx,(Op.stringOp .add head more).run Tryz.prog wx=.ok (.string (head++more)) wx:=fun wx=>run_string_add_sum (P:=Tryz.prog) wx head more (by omega)
    have hhd2:(head++more).toList=(l++[la]).flatMap writeU:=by rw [bytes_app,HHD.out,hml,List.flatMap_append]
    obtain ⟨wo,hwo⟩:∃ y,y=wr:=⟨_,rfl⟩
    subst hwo
    obtain ⟨wF,hwF⟩:∃ x,x=(wo.alloc (.cells #[.int .i32 la,.int .i64 ua,.int .i64 tt] 173)).alloc (.cells #[.int .i32 la] 21):=⟨_,rfl⟩
    obtain ⟨E,hE⟩:∃ E,E=wo.heap.size:=⟨_,rfl⟩
    have hTF:Touch (fun _=>False) wo wF:=by rw [hwF];exact ((Touch.refl _ _).alloc _).alloc _
    have hbE:Blk wF E 173 #[.int .i32 la,.int .i64 ua,.int .i64 tt]:=by rw [hwF,hE];exact (Blk.new _ _ _).alloc _
    have hrdF:Reads wF 1 (some ⟨wo.heap.size+1,0,none⟩) 1 ([la].map runeV):=by
     rw [hwF]
     have h:=Reads.new (size:=1) (wo.alloc (.cells #[.int .i32 la,.int .i64 ua,.int .i64 tt] 173)) 21 [.int .i32 la] 1 rfl
     simpa [runeV] using h
    have hKF:=HKj.out.trans (KpT.of hTF)
    have htx:=text_any wF (Lst.kpt HL.out hKF hB0) (some ⟨wo.heap.size+1,0,none⟩) 1 1 [la] hrdF rfl (by omega) (by intro r hr;rw [List.mem_singleton] at hr;rw [hr];exact hsc)
    rw [← hmore2] at htx
    have hdl:=depR_level (underR R la)
    have hlnn:(pre++preW l u R j).length+(levelR (underR R la)).length≤N:=by
     have h1:=hpf.length_le
     rw [hpn,List.length_append,wordsOf_len,wordsOf_len] at h1
     have h2:=HNN.out
     rw [List.length_append]
     omega
    have hrec:∀ w7,Touch (fun _=>False) wF w7→Calls Tryz.prog 120 _ w7 _:=fun w7 T7=>HIH.out w7 tt (levelR (underR R la)) (head++more) (l++[la]) (u+ua) (pre++preW l u R j) (by have:=(List.getElem?_eq_some_iff.1 q3).1;rw [hk.len,HN.out] at this;exact this) q3 (by have:=HD.out;omega) hhd2 (by have:=HLEN.out;rw [List.length_append,List.length_singleton];omega) (hKF.trans (KpT.of T7)) (HJ.out _ _ _ HJj.out (hTF.then T7)) hlnn (by omega) (by
     intro r hr
     have h1:=mem_level.1 (show (r.1,r.2)∈levelR (underR R la) from hr)
     have h2:=HUB.out _ (mem_under.1 h1)
     simp only at h2
     rw [q1]
     omega)
    have HWF:=hide hwF
    have HEE:=hide hE
    have HBE:=hide hbE
    have HTX:=hide (callsIn_wide (n:=8).2 htx)
    have HREC:=hide hrec
    have HPN:=hide hpn
    have HPF:=hide hpf
    clear ham hz q1 q2 q3 w1 w2 w3 hr0 hr1 hsc hdu hpn hpf hb3 hb4 hlab hmore2 hml hsz1 hsz2 hhd2 hwF hE hTF hbE hrdF htx hdl hrec hKF hlnn
    gi_wp2
    rw [← HWF.out]
    refine ⟨trivial,HTX.out.mono ?_⟩
    rintro e w7 ⟨rfl,T7⟩
    have hb7:=HBE.out.touch T7 (fun f=>f)
    rw [HEE.out] at hb7
    obtain ⟨t0,t1,t2⟩:=hb7.facts
    have HR7:=hide (callsIn_wide (n:=8).2 (HREC.out w7 T7))
    clear T7 hb7 HTX HREC
    gi_wp2
    refine ⟨trivial,HR7.out.mono ?_⟩
    rintro e w8 (⟨rfl,hJ8,hK8⟩ | ⟨rfl,q,hq,hX8⟩)
    ·have HJ8:=hide hJ8
     have HK8:=hide hK8
     clear hJ8 hK8 HR7
     gi_wp2
     go_roundw
     case rel=>exact ⟨j+1,by simp,by omega,hide (by rw [HPN.out,← List.append_assoc];exact HJ8.out),HK8⟩
     case measure=>simp only [intOf];omega
    ·have hq2:preW l u R j++q <+: wordsOf l u R:=by
      refine List.IsPrefix.trans ?_ HPF.out
      rw [HPN.out]
      exact (List.prefix_append_right_inj _).2 hq
     have HQ2:=hide hq2
     have HX8:=hide hX8
     clear hq hq2 hX8 HR7
     gi_wp2
     go_ret
     exact .inr ⟨rfl,_,HQ2.out,by rw [← List.append_assoc];exact HX8.out⟩
   ·have hje:j=zn:=by omega
    have j4:¬ (j:Int)<(zn:Int):=by omega
    have hall:=preW_all HC.out.sort l u j (by rw [← HC.out.labels,List.length_map];have:=HZO.out.len;simp only at this ⊢;omega)
    have HALL:=hide hall
    clear hje hall
    gi_wp2
    go_ret
    exact .inl ⟨rfl,by rw [← HALL.out];exact HJj.out,HKj.out⟩
end Go.Proofs.YthockgmbooefpaaGreatDoor
namespace Go.Proofs.YthockgmbooefpaaGreatDoor
open Go.RowKit
theorem fromI_any (w0:World) (hL:Lst w0) (b:Nat) (base:Int) (A:Option Addr) (n c:Nat) (Z:List SV) (wA:Option Addr) (wc:Nat) (W:List Int) (hM:WkM w0 b base A n c Z wA wc W) (k:KnP) (hk:Good k) (hh:∀ X∈k.rests,Her X) (hZ:Z.map SV.p=k.states) (lp B0:Nat) (hB0:0<B0) (J Jx:List PRow→World→Prop) (N:Nat)
  (hJ:∀ pre W W',J pre W→Touch (fun _=>False) W W'→J pre W') (hJx:∀ pre W W',Jx pre W→Touch (fun _=>False) W W'→Jx pre W') (hY:YieldsJ lp B0 J Jx N):∀ f,FromI w0 b n k lp B0 J Jx N f
 | 0=>fun _ _ _ _ _ _ _ _ _ hd=>absurd hd (Nat.not_lt_zero _)
 | f+1=>fromI_step w0 hL b base A n c Z wA wc W hM k hk hh hZ lp B0 hB0 J Jx N hJ hJx hY f (fromI_any w0 hL b base A n c Z wA wc W hM k hk hh hZ lp B0 hB0 J Jx N hJ hJx hY f)
theorem all1_yield {w0:World} (hL:Lst w0) {b:Nat} {L:List PRow} {n:Nat} {A:Option Addr} {c:Nat} {Z:List SV} {wA:Option Addr} {wc:Nat} (h:DWk w0 b L n A c Z wA wc) (hD:DictP L) (B:Nat) (hB:Blk w0 B 92 #[.pointer (some ⟨b,0,none⟩)]) (w:World) (lp B0:Nat) (hB0:0<B0) (J Jx:List PRow→World→Prop)
  (hJ:∀ pre W W',J pre W→Touch (fun _=>False) W W'→J pre W') (hJx:∀ pre W W',Jx pre W→Touch (fun _=>False) W W'→Jx pre W') (hY:YieldsJ lp B0 J Jx L.length) (hK:KpT B0 w0 w) (h0:J [] w) :
  Calls Tryz.prog 119 #[.func (.yield lp) #[] #[],.pointer (some ⟨B,0,none⟩)] w fun e w'=>e=.returned (.tuple #[])∧(J L w'∨∃ q,q <+: L∧Jx q w'):=by
 obtain ⟨x0,x1,x2⟩:=(h.wk.kpt hK).blk.facts
 obtain ⟨b0,b1,b2⟩:=(hB.kpt hK (by decide) (by decide)).facts
 by_cases he:L=[]
 ·subst he
  have hn:n=0:=by rw [← h.n_len];rfl
  subst hn
  have HC:=hide h0
  clear h hD hL hB h0 hJ hJx hY hK
  go_enter Tryz.func119,Tryz.ntmps119
  go_wp2_with fail
  go_end0
  exact ⟨rfl,.inl HC.out⟩
 ·have hm:=mach_ne he
  have M:=made hD he
  have hher:=stateF_her 25 ⟨[],[]⟩ (restsL L) (fun X hX=>(by cases hX)) (her_dict hD)
  have hn:=h.n_len
  have hst:=h.st
  have hwk:=h.wk
  rw [hm] at hn hst hwk
  simp only at hn hst hwk
  have hbase:=base_mach hD
  have hpos:=M.pos
  have hroot:=M.root
  rw [hn] at hroot
  have hfa:=fromI_any w0 hL b _ A n c Z wA wc _ hwk _ M.good hher hst lp B0 hB0 J Jx L.length hJ hJx hY 25
  have hdep:=dep_dict hD
  have hwl:=words_dict hD
  have hbm:(mach L).base=leastR (restsL L):=by rw [hm]
  rw [hbm] at x0 hbase
  obtain ⟨base,hb⟩:∃ x,x=leastR (restsL L):=⟨_,rfl⟩
  rw [← hb] at x0 hbase hwl hwk
  have hll:(levelR (restsL L)).length=L.length:=by unfold levelR restsL;rw [List.length_map,List.length_map]
  have hcall:∀ wx,Touch (fun _=>False) w wx→Calls Tryz.prog 120 #[.pointer (some ⟨b,0,none⟩),.int .i64 ((n-1:Nat):Int),.string ⟨#[]⟩,.int .i64 base,.func (.yield lp) #[] #[]] wx (fun e w5=>∃ v,e=.returned (.bool v)∧(J L w5∨∃ q,q <+: L∧Jx q w5)):=fun wx T=>(hfa wx (n-1) (levelR (restsL L)) ⟨#[]⟩ [] base [] (by omega) hroot (by rw [depR_level];exact hdep) (toList_mk []) (by rw [depR_level];simp only [List.length_nil];omega) (hK.trans (KpT.of T)) (hJ _ _ _ h0 T) (by rw [hll];simp) hbase.1 (by
   intro r hr
   have h1:=mem_level.1 (show (r.1,r.2)∈levelR (restsL L) from hr)
   obtain ⟨p,hp,e⟩:=List.mem_map.1 h1
   have:=(hD.weight p hp).2
   simp only [Prod.mk.injEq] at e
   omega)).mono (by
   intro e w5 hC5
   rw [hwl] at hC5
   rcases hC5 with ⟨rfl,h1,_⟩ | ⟨rfl,h1⟩
   ·exact ⟨_,rfl,.inl (by simpa using h1)⟩
   ·exact ⟨_,rfl,.inr (by simpa using h1)⟩)
  have hfew:=h.few
  have HWK:=hide (h.wk.kpt hK).blk
  rw [hbm,← hb] at HWK
  have HN:=hide hfew
  have HCALL:=hide hcall
  have hn1:((n-1:Nat):Int)=(n:Int)-1:=by omega
  rw [hn1] at HCALL
  have y0:(0:Int)<(n:Int):=by omega
  clear h hD hL hB h0 hJ hJx hY hK hll hm M hher hn hst hwk hbase hpos hroot hfa hdep hwl hbm hb hcall hfew hn1
  go_enter Tryz.func119,Tryz.ntmps119
  go_wp2_with fail
  refine wp_region_still_tail 8 (by kernel_rfl) (by kernel_rfl) ?_
  simp only [List.take_succ_cons,List.take_zero,List.drop_succ_cons,List.drop_zero]
  still_step
  still_step
  still_call (root_any w.drew b base A n c _ HWK.out.drew HN.out)
  repeat still_step
  refine wpStill_nil ?_
  change wpList _ _ _ _ _ w.drew
  have HDR:=hide (show Touch (fun _=>False) w w.drew from (Touch.refl _ _).drew)
  generalize w.drew=wd at HDR ⊢
  go_wp2_with ((go_at_call 120;refine (HCALL.out wd HDR.out).mono ?_;rintro e w5 ⟨v,rfl,h5⟩;have H5:=hide h5;clear h5))
  go_end0
  exact ⟨rfl,H5.out⟩
end Go.Proofs.YthockgmbooefpaaGreatDoor
namespace Go.Proofs.YthockgmbooefpaaGreatDoor
open Go.RowKit Go.Shelf
attribute [local go_sem] Oper.semAt_some
theorem blk_rowA {w:World} {row:Option Nat} (hr:∀ r,row=some r→∃ o:Obj,w.heap[r]? = some o∧o.isCells=false) {g:Nat} {t:TypeId} (h:TyAt w g t):some g≠row:=by
 intro e
 obtain ⟨cs,_,h⟩:=h
 obtain ⟨o,ho,hc⟩:=hr g e.symm
 rw [h] at ho
 cases ho
 cases hc
theorem KpT.touch {S:Nat→Prop} {B0:Nat} {w w':World} (h:Touch S w w') (hS:∀ g,S g→B0≤g∧(TyAt w g 125 ∨ TyAt w g 37)):KpT B0 w w':=by
 refine ⟨h.os,h.tape,h.output,h.size,fun g h1 h2=>h.block g h1 (fun s=>by have:=(hS g s).1;omega),fun g t cs fr e h1 h2=>h.block g (Array.getElem?_eq_some_iff.1 e).1 (fun s=>?_)⟩
 rcases (hS g s).2 with ⟨cs2,_,e2⟩ | ⟨cs2,_,e2⟩
 ·rw [e] at e2
  cases e2
  exact h1 rfl
 ·rw [e] at e2
  cases e2
  exact h2 rfl
theorem keeps_touch {S:Nat→Prop} {B:Nat} {w w':World} (h:Touch S w w') (hS:∀ g,S g→∃ t,TyAt w g t):KeepsFrom B w w' :=
 ⟨h.size,fun k o _ hk ho=>(h.block k (Array.getElem?_eq_some_iff.1 hk).1 (fun s=>by
  obtain ⟨t,cs,_,e⟩:=hS k s
  rw [e] at hk
  cases hk
  cases ho)).trans hk⟩
theorem kpT_b {B0 n:Nat} (hB:B0≤n) (W:World) (l:Nat) (o o':Obj) (hl:n≤l) (h:W.heap[l]? = some o) (hc:o.isCells=false) (_:o.isWalk=false):KpT B0 W (W.putObj l o'):=by
 have hg:=grownBy_putObj' W l o'
 refine ⟨hg.os,hg.tape,hg.output,hg.size,fun g h1 h2=>hg.block g h1 (fun e=>by cases e;omega),fun g t cs fr e _ _=>hg.block g (Array.getElem?_eq_some_iff.1 e).1 (fun e2=>?_)⟩
 cases e2
 rw [h] at e
 cases e
 cases hc
theorem yield_wide {m m':Nat} {P:Program} {l:Nat} {args:Array Value} {W:World} {R:Ending→World→Prop} (h:YieldAt Fence.wide m P l args W R):YieldAt Fence.wide m' P l args W R:=by
 obtain ⟨fn,tmps,assign,body,h1,h2⟩:=h
 exact ⟨fn,tmps,assign,body,h1,round_wideA m' h2⟩
theorem all_stops {w0:World} (hL:Lst w0) {b:Nat} {L:List PRow} {n:Nat} {A:Option Addr} {c:Nat} {Z:List SV} {wA:Option Addr} {wc:Nat} (h:DWk w0 b L n A c Z wA wc) (hD:DictP L) (B:Nat) (hB:Blk w0 B 92 #[.pointer (some ⟨b,0,none⟩)]) (B0:Nat) (hB0:0<B0) :
  SeqStopsK Fence.wide 8 Tryz.prog 119 #[.pointer (some ⟨B,0,none⟩)] pEnc (KpT B0) (fun xs=>xs=L) (fun pre=>pre <+: L) L.length w0:=by
 intro l J Jx W hW hJ hJx hY h0
 refine callsIn_wide.2 ((all1_yield hL h hD B hB W l B0 hB0 J Jx (fun pre X Y hs ht=>hJ pre X Y none hs (ht.grownBy_none none) (fun r e=>by cases e)) (fun pre X Y hs ht=>hJx pre X Y none hs (ht.grownBy_none none) (fun r e=>by cases e)) (fun pre x W1 h1 h2=>yield_wide (hY pre x W1 h1 h2)) (KpT.of (Touch.of_below hW _)) h0).mono ?_)
 rintro e W' ⟨rfl,h1 | ⟨q,hq,h1⟩⟩
 ·exact ⟨⟨_,rfl⟩,.inl ⟨_,rfl,h1⟩⟩
 ·exact ⟨⟨_,rfl⟩,.inr ⟨q,hq,h1⟩⟩
end Go.Proofs.YthockgmbooefpaaGreatDoor
