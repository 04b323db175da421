/- What the law rests on, part 10. No condition but those that each theorem names. -/
import Derived.Test.YthockgmbooefpaaGreatDoorV06
import Derived.Test.YthockgmbooefpaaGreatDoorV08
import Derived.Laws.EntriesVeiled
import Derived.Laws.Concat
import Derived.StillTailTactics
import Derived.RangeFuncNested
import Derived.RangeFuncBound
import Derived.RangeFuncCalls
import Derived.RangeFuncLeaves
import Derived.Shelf.Abstract
import Derived.Shelf.RegionOpen
import Derived.OwnWalkIn
import Derived.TacticsInMore
import Derived.LoopNIn
import Derived.LoopIn
import Derived.Test.YthockgmbooefpaaGreatDoorV04
import Derived.BigQuiet
import Derived.Deep.QuietTactic
import Derived.Test.YthockgmbooefpaaGreatDoorV00
import Derived.Test.YthockgmbooefpaaGreatDoorV01
import Derived.Deep.AppendLies
import Derived.Deep.RegionLaw
set_option linter.unusedSectionVars false
set_option linter.unusedSimpArgs false
set_option linter.unusedVariables false
set_option maxRecDepth 100000
set_option maxHeartbeats 8000000
namespace Go.Proofs.YthockgmbooefpaaGreatDoor
open IntWalk renaming i64_in → qQa
open List renaming length_append → qZa, append_assoc → qXa, length_map → qJa, nil_append → qQb, cons_append → qZb, getD → qXb, length_nil → qJb, map_map → qQc, append_toArray → qQd, flatMap_append → qZd, getElem?_eq_some_iff → qXd, getElem?_map → qJd, length_cons → qQe, push_toArray → qZe, size_toArray → qXe, take_of_length_le → qJe, exists_mem_of_ne_nil → qZg, length_singleton → qJg, prefix_append_right_inj → qQi
open Nat renaming le_refl → qZc, le_trans → qXc, lt_trans → qJc, lt_of_lt_of_le → qQf, reduceAdd → qZf, reduceSub → qXf
variable{Z:List SV}{L:List aD}{B0 c g n wc:Nat}{S:Nat->Prop}{A wA:Option Addr}{t:TypeId}{a b w w' w0:World}
open Go.RowKit
def mkW(l:List Nat)(u:Int)(r:List Nat × Int):aD:=⟨⟨((l++r.1).flatMap aN).toArray⟩,u+r.2⟩
def eO(l:List Nat)(u:Int)(R:Rs):List aD:=R.map (mkW l u)
theorem nJ(l:List Nat)(u:Int)(R:Rs):(eO l u R).length=R.length:=by simp[eO]
theorem Zh(l:List Nat)(u:Int)(R:Rs)(c:Nat):eO l u (kW R c)=eO (l++[c]) (u+bE (aI R c)) (aK (aI R c)):=by
 unfold eO kW aK
 rw[qQc,qQc]
 refine List.map_congr_left λr _=>?_
 simp only[Function.comp,mkW,qXa,List.singleton_append,aD.mk.injEq,true_and]
 omega
def oM(l:List Nat)(u:Int)(R:Rs)(j:Nat):List aD:=eO l u ((if gY R=true then [([],rX R)] else [])++((aO R).take j).flatMap (kW R))
theorem Yj(l:List Nat)(u:Int)(R:Rs):oM l u R 0=if gY R=true then [⟨⟨(l.flatMap aN).toArray⟩,u+rX R⟩] else []:=by
 unfold oM eO
 simp only[List.take_zero,List.flatMap_nil,List.append_nil]
 split
 ·simp[mkW]
 ·rfl
theorem Ho(l:List Nat)(u:Int)(R:Rs)(j:Nat)(c:Nat)(h:(aO R)[j]? = some c):oM l u R (j+1)=oM l u R j++eO (l++[c]) (u+bE (aI R c)) (aK (aI R c)):=by
 rw[<-Zh]
 obtain⟨hj,e⟩:=List.getElem?_eq_some_iff.1 h
 unfold oM eO
 rw[List.take_succ_eq_append_getElem hj,e]
 simp
theorem Nj{R:Rs}(h:bU R)(l:List Nat)(u:Int)(j:Nat)(hj:(aO R).length<=j):oM l u R j=eO l u R:=by
 unfold oM
 rw[qJe hj,<-pK h]
theorem rB{R:Rs}(h:bU R)(l:List Nat)(u:Int)(j:Nat):oM l u R j <+: eO l u R:=by
 have hs:eO l u R=oM l u R j++eO l u (((aO R).drop j).flatMap (kW R)):=by
  conv=>lhs;rw[pK h]
  unfold oM eO
  rw[<-List.map_append,qXa,<-qZd,List.take_append_drop]
 rw[hs]
 exact List.prefix_append _ _
theorem aIp(s:ByteArray):(⟨s.toList.toArray⟩:ByteArray)=s:=by
 rw[Go.ByteArray.toList_eq]
theorem Fw(a b:ByteArray):(a++b).toList=a.toList++b.toList:=by
 rw[Go.ByteArray.toList_eq,Go.ByteArray.toList_eq,Go.ByteArray.toList_eq]
 simp
theorem Rn{a:ByteArray}{l:List UInt8}(h:a.toList=l):a=⟨l.toArray⟩:=by rw[<-h,aIp]
theorem rP(a:ByteArray):a.size=a.toList.length:=by
 rw[Go.ByteArray.toList_eq,Array.length_toList]
 rfl
theorem To(hD:aZ L):eO [] (bE (aV L)) (aK (aV L))=L:=by
 unfold eO aK aV
 rw[qQc,qQc]
 conv=>rhs;rw[<-List.map_id L]
 refine List.map_congr_left λp hp=>?_
 have h:=(cL _ _ _ (qZc _) (hD.word p hp).1).1
 obtain⟨pw,pn⟩:=p
 simp only[Function.comp,mkW,qQb,id,aD.mk.injEq]
 refine⟨?_,by omega⟩
 rw[<-h,aIp]
theorem Tv(w:World)(b:Nat) :
  Calls Tryz.prog 61 #[.pointer (some ⟨b,0,none⟩)] w λe w'=>∃ B,e=.returned (.func (.func 119) #[] #[.pointer (some ⟨B,0,none⟩)])/\aL w' B 92 #[.pointer (some ⟨b,0,none⟩)]/\aC (λ_=>False) w w':=by
 have hmf:∀ (fn:Fn) (first cap:Array Value) (w:World),(Instr.makeFunc fn first cap).run Tryz.prog w=.ok (.func fn first cap) w:=λ_ _ _ _=>rfl
 go_in
 go_wp2_with fail
 go_ret
 exact⟨w.heap.size,rfl,aL.new _ _ _,(aC.refl _ _).alloc _⟩
structure qC(B0:Nat)(w w':World):Prop where
 os:w'.os=w.os
 tape:w'.tape=w.tape
 output:w'.output=w.output
 size:w.heap.size<=w'.heap.size
 low:∀ g:Nat,g<w.heap.size->g<B0->w'.heap[g]? = w.heap[g]?
 ty:∀ (g:Nat) (t:TypeId) (cs:Array Value) (fr:Nat × Nat),w.heap[g]? = some (Obj.cells cs t fr)->t ≠ 125 -> t ≠ 37 -> w'.heap[g]? = w.heap[g]?
theorem qC.refl(B0:Nat)(w:World):qC B0 w w:=⟨rfl,rfl,rfl,qZc _,λ_ _ _=>rfl,λ_ _ _ _ _ _ _=>rfl⟩
theorem qC.trans{c:World}(h:qC B0 a b)(k:qC B0 b c):qC B0 a c :=
 ⟨k.os.trans h.os,k.tape.trans h.tape,k.output.trans h.output,qXc h.size k.size,λg h1 h2=>(k.low g (qQf h1 h.size) h2).trans (h.low g h1 h2),λg t cs fr e h1 h2=>by
  have e1:=h.ty g t cs fr e h1 h2
  exact (k.ty g t cs fr (e1.trans e) h1 h2).trans e1⟩
theorem qC.of(h:aC (λ_=>False) a b):qC B0 a b :=
 ⟨h.os,h.tape,h.output,h.size,λg h1 _=>h.block g h1 (λf=>f),λg _ _ _ e _ _=>h.block g (Array.getElem?_eq_some_iff.1 e).1 (λf=>f)⟩
theorem aL.kpt{cs:Array Value}(h:aL a g t cs)(k:qC B0 a b)(h1:t ≠ 125)(h2:t ≠ 37):aL b g t cs:=(k.ty g t cs _ h h1 h2).trans h
theorem bQ.kpt(h:bQ a g t)(k:qC B0 a b)(h1:t ≠ 125)(h2:t ≠ 37):bQ b g t:=by
 obtain⟨cs,u,e⟩:=h
 exact⟨cs,u,(k.ty g t cs _ e h1 h2).trans e⟩
theorem bQ.cell_kp(h:bQ a g t)(k:qC B0 a b)(h1:t ≠ 125)(h2:t ≠ 37)(j:Nat):b.cell? ⟨g,j,none⟩=a.cell? ⟨g,j,none⟩:=by
 obtain⟨cs,u,e⟩:=h
 exact World.cell?_of_block (k.ty g t cs _ e h1 h2)
theorem gL.kpt{size:Nat}{xs:List Value}(h:gL a t size A n xs)(k:qC B0 a b)(h1:t ≠ 125)(h2:t ≠ 37):gL b t size A n xs:=by
 refine⟨⟨h.rd.1,λhn=>?_⟩,λhn g hg=>(h.ty hn g hg).kpt k h1 h2⟩
 obtain⟨g,o,hA,hg,hc⟩:=h.rd.2 hn
 have ht:=h.ty hn g (by rw[hA];rfl)
 exact⟨g,o,hA,qQf hg k.size,λj u hu=>(ht.cell_kp k h1 h2 _).trans (hc j u hu)⟩
theorem eW.kpt(h:eW a A n Z)(k:qC B0 a b):eW b A n Z :=
 ⟨h.rd.kpt k (by decide) (by decide),h.len,λz hz=>⟨(h.el z hz).len,(h.el z hz).rd.kpt k (by decide) (by decide),(h.el z hz).le,(h.el z hz).mx⟩⟩
theorem Vo.kpt{b:Nat}{base:Int}{W:List Int}(h:Vo a b base A n c Z wA wc W)(k:qC B0 a w):Vo w b base A n c Z wA wc W :=
 ⟨h.blk.kpt k (by decide) (by decide),h.sts.kpt k,h.wds.kpt k (by decide) (by decide),h.len⟩
theorem cV.kpt(h:cV a)(k:qC B0 a b)(hB:0<B0):cV b:=by
 have e:∀ j,b.cell? ⟨0,j,none⟩=a.cell? ⟨0,j,none⟩:=λj=>World.cell?_of_block (k.low 0 h.1 hB)
 exact⟨qQf h.1 k.size,(e 2).trans h.2.1,(e 3).trans h.2.2.1,(e 4).trans h.2.2.2⟩
section
open Go.RowKit Go.Shelf
attribute [local go_sem] Oper.semAt_some
def aHf(x:aD):Array Value:=#[.agg #[.string x.word,.int .i64 x.weight]]
def Iv(lp B0:Nat)(J Jx:List aD->World->Prop)(N:Nat):Prop:=∀ pre x W1,J pre W1->pre.length<N->YieldAt Fence.wide 0 Tryz.prog lp (aHf x) W1 λe W'=>(e=.returned (.bool true)/\J (pre++[x]) W'/\qC B0 W1 W')\/(e=.returned (.bool false)/\Jx (pre++[x]) W')
theorem yU{P:Program}{l:Nat}{f:FuncId}{tmps:Array Value}{assign body:Code}{R:Ending->World->Prop}(m:Nat)(h:RoundIn Fence.wide n P l f tmps assign body w R):RoundIn Fence.wide m P l f tmps assign body w R:=⟨h.1,λc cs _=>h.2 c cs (room_wide _)⟩
def Zr(w0:World)(b n:Nat)(k:kG)(lp B0:Nat)(J Jx:List aD->World->Prop)(N:Nat)(f:Nat):Prop :=
 ∀ (w:World) (s:Nat) (R:Rs) (head:ByteArray) (l:List Nat) (u:Int) (pre:List aD),s<n->k.rests[s]? = some R->gT R<f->head.toList=l.flatMap aN->l.length+gT R<=24->qC B0 w0 w->J pre w->pre.length+R.length<=N->0<=u->(∀ r∈R,u+r.2<=2097152) ->
  Calls Tryz.prog 120 #[.pointer (some ⟨b,0,none⟩),.int .i64 s,.string head,.int .i64 u,.func (.yield lp) #[] #[]] w λe w'=>(e=.returned (.bool true)/\J (pre++eO l u R) w'/\qC B0 w0 w')\/(e=.returned (.bool false)/\∃ q,q <+: eO l u R/\Jx (pre++q) w')
theorem Qw(w0:World)(hL:cV w0)(b:Nat)(base:Int)(A:Option Addr)(n c:Nat)(Z:List SV)(wA:Option Addr)(wc:Nat)(W:List Int)(hM:Vo w0 b base A n c Z wA wc W)(k:kG)(hk:nY k)(hh:∀ X∈k.rests,yF X)(hZ:Z.map SV.p=k.states)(lp B0:Nat)(hB0:0<B0)(J Jx:List aD->World->Prop)(N:Nat)
  (hJ:∀ pre W W',J pre W->aC (λ_=>False) W W'->J pre W')(hJx:∀ pre W W',Jx pre W->aC (λ_=>False) W W'->Jx pre W')(hY:Iv lp B0 J Jx N)(f:Nat)(ih:Zr w0 b n k lp B0 J Jx N f):Zr w0 b n k lp B0 J Jx N (f+1):=by
 intro w s R head l u pre hs hR hd hhead hlen hKw hJw hN hu0 hub
 have hMw:=hM.kpt hKw
 obtain⟨x0,x1,x2⟩:=hMw.blk.facts
 have y1:(0:Int)<=(s:Int):=by omega
 have y2:(s:Int)<(n:Int):=by omega
 obtain⟨g,o,hA,hgl,d0,d1,d2⟩:=jE hMw.sts.rd.rd hMw.sts.len s hs
 subst hA
 have hzm:=cJ Z cH s (by rw[hMw.sts.len];exact hs)
 have hzo:=hM.sts.el _ hzm
 have hzk:k.states[s]? = some (Z.getD s cH).p:=by
  rw[<-hZ,qJd,lX? (d:=cH) (by rw[hMw.sts.len];exact hs)]
  rfl
 have hc:=hk.corr s R _ hR hzk
 have hher:=hh R (List.mem_of_getElem? hR)
 have hsl:k.states.length=n:=by rw[<-hZ,qJa];exact hM.sts.len
 obtain⟨⟨fin,out,zA,zn,zc,arcs⟩,hz⟩:∃ z,Z.getD s cH=z:=⟨_,rfl⟩
 rw[hz] at d0 d1 d2 hzo hzk hc
 simp only[SV.p] at d0 d1 d2 hzk hc
 have hzq:zn<=2097152:=by
  have h1:=oD (wP hc hher)
  have h2:=hzo.len
  simp only at h1 h2
  omega
 have hznI:(zn:Int)<=2097152:=by omega
 have HHER:=aB hher
 have HC:=aB hc
 have HZO:=aB hzo
 have HUB:=aB hub
 have HL:=aB hL
 have HIH:=aB ih
 have HHD:=aB hhead
 have HLEN:=aB hlen
 have HD:=aB hd
 have HN:=aB hsl
 have HNN:=aB hN
 have HY:=aB hY
 have HJ:=aB hJ
 have HJX:=aB hJx
 obtain⟨wD,hwD⟩:=eX (w.alloc (.cells #[.bool fin,.int .i64 out,.slice zA zn zc] 170))
 obtain⟨D,hDD⟩:=eX w.heap.size
 have hTD:aC (λ_=>False) w wD:=by rw[hwD];exact (aC.refl _ _).alloc _
 have hbD:aL wD D 170 #[.bool fin,.int .i64 out,.slice zA zn zc]:=by rw[hwD,hDD];exact aL.new _ _ _
 have HKD:=aB (hKw.trans (qC.of hTD))
 have HJD:=aB (hJ _ _ _ hJw hTD)
 have HWD:=aB hwD
 have HDD:=aB hDD
 have HBD:=aB hbD
 have hpz:=Yj l u R
 rw[<-hc.fin,<-hc.out] at hpz
 simp only at hpz
 have hhm:=Rn hhead
 obtain⟨s0,s1,s2⟩:=hbD.facts
 clear hM hMw hzm hzo hzk hz hher hzq hub ih hhead hlen hd hsl hwD hDD hTD hbD hL hZ hKw hJw hY hN hJ hJx
 cases fin with
 | true =>
  have hrm:([],out)∈R:=by
   obtain⟨m,hm⟩:=eY.1 (show gY R=true from hc.fin.symm)
   have:=iF hc.sort hm
   rw[<-hc.out] at this
   simp only at this
   rw[this]
   exact hm
  have hb1:=HUB.out _ hrm
  have hb2:=(HHER.wt _ hrm).1
  simp only at hb1 hb2
  have z1:IntKind.i64.wrap (u+out)=u+out:=qQa _ (by omega)
  rw[if_pos rfl,<-hhm] at hpz
  obtain⟨fn,tmps,assign,body,hy,hRR⟩:=HY.out pre ⟨head,u+out⟩ wD HJD (by have h1:=HNN.out;have h2:0<R.length:=List.length_pos_iff.2 hc.ne;omega)
  simp only[aHf] at hy
  have HPZ:=aB hpz
  have HRR:=aB (yU 8 hRR)
  clear hc hrm hb1 hb2 hpz hhm hRR
  rw[HWD.out] at hy
  refine (callsIn_wide (n:=9)).1 ?_
  refine callsIn_of_wp Tryz.func120 rfl trivial ?_ rfl
  simp only[Tryz.ntmps120,qXe,qQe,qJb,qZf,qXf,Array.replicate_succ,Array.replicate_zero,qZe,qQd,qQb,qZb]
  gi_wp2
  rw[<-HWD.out]
  refine HRR.mono ?_
  rintro e wS (⟨rfl,hJ1,hk1⟩ | ⟨rfl,hx1⟩)
  ·have hbS:=HBD.kpt hk1 (by decide) (by decide)
   rw[HDD.out] at hbS
   clear s0 s1 s2
   obtain⟨s0,s1,s2⟩:=hbS.facts
   have HJ0:Hid (J (pre++oM l u R 0) wS):=aB (by rw[HPZ.out];exact hJ1)
   have HK0:=aB (HKD.trans hk1)
   clear hJ1 hk1 hbS HRR hy
   gi_wp2
   gi_loopw [39] (λjv wr=>∃ (j:Nat),jv=.int .i64 j/\j<=zn/\Hid (J (pre++oM l u R j) wr)/\Hid (qC B0 w0 wr)) (λjv _=>zn-(intOf jv).toNat)
   case atStart=>exact⟨0,rfl,by omega,HJ0,HK0⟩
   case round =>
    clear HJ0 HK0 s0 s1 s2 x0 x1 x2 d0 d1 d2
    obtain⟨j,rfl,hjz,HJj,HKj⟩:=hrel
    by_cases hjz2:j<zn
    ·have j1:(j:Int)<(zn:Int):=by omega
     have j2:(0:Int)<=(j:Int):=by omega
     have j3:IntKind.i64.wrap ((j:Int)+1)=(j:Int)+1:=qQa _ (by omega)
     obtain⟨ag,ao,hA2,_,e0,e1,e2⟩:=iY (HZO.rd.kpt HKj (by decide) (by decide)).rd HZO.len j hjz2
     subst hA2
     have ham:=cJ arcs (0,0,0) j (by rw[HZO.len];exact hjz2)
     have harc:=HC.arc _ ham
     have hawt:=At HC HHER ham
     have hlab:(aO R)[j]? = some (arcs.getD j (0,0,0)).1:=by
      rw[<-HC.labels,qJd,lX? (d:=(0,0,0)) (by rw[HZO.len];exact hjz2)]
      rfl
     obtain⟨⟨la,ua,tt⟩,hz⟩:∃ z,arcs.getD j (0,0,0)=z:=⟨_,rfl⟩
     rw[hz] at e0 e1 e2 harc hawt hlab
     simp only at e0 e1 e2 harc hawt hlab
     obtain⟨q1,q2,q3⟩:=harc
     obtain⟨w1,w2,w3⟩:=hawt
     obtain⟨r0,hr0⟩:=qZg _ w3
     have hr1:=cA.1 (show (r0.1,r0.2)∈aI R la from hr0)
     have hsc:scal la=true:=(HHER.run _ hr1 la (List.mem_cons_self)).1
     have hdu:=gD w3
     have hpn:=Ho l u R j la hlab
     have hpf:=rB HC.sort l u (j+1)
     rw[<-q1] at hpn
     have hb3:=HUB.out _ hr1
     have hb4:=dX hr0
     rw[<-q1] at hb4
     simp only at hb3
     have z2:IntKind.i64.wrap (u+ua)=u+ua:=qQa _ (by omega)
     obtain⟨more,hmore2⟩:∃ m:ByteArray,m=⟨([la].flatMap aN).toArray⟩:=⟨_,rfl⟩
     have hml:more.toList=[la].flatMap aN:=by rw[hmore2,lN]
     have hsz1:head.size<=96:=by
      have h1:=iP l
      have h2:=HLEN.out
      rw[rP,HHD.out]
      omega
     have hsz2:more.size<=4:=by
      have h1:=iP [la]
      rw[rP,hml]
      simpa using h1
     have hadd:∀ wx,(Op.stringOp .add head more).run Tryz.prog wx=.ok (.string (head++more)) wx:=λwx=>run_string_add_sum (P:=Tryz.prog) wx head more (by omega)
     have hhd2:(head++more).toList=(l++[la]).flatMap aN:=by rw[Fw,HHD.out,hml,qZd]
     obtain⟨wo,hwo⟩:=eX wr
     subst hwo
     obtain⟨wF,hwF⟩:=eX ((wo.alloc (.cells #[.int .i32 la,.int .i64 ua,.int .i64 tt] 173)).alloc (.cells #[.int .i32 la] 21))
     obtain⟨E,hE⟩:=eX wo.heap.size
     have hTF:aC (λ_=>False) wo wF:=by rw[hwF];exact ((aC.refl _ _).alloc _).alloc _
     have hbE:aL wF E 173 #[.int .i32 la,.int .i64 ua,.int .i64 tt]:=by rw[hwF,hE];exact (aL.new _ _ _).alloc _
     have hrdF:aH wF 1 (some ⟨wo.heap.size+1,0,none⟩) 1 ([la].map fF):=by
      rw[hwF]
      have h:=aH.new (size:=1) (wo.alloc (.cells #[.int .i32 la,.int .i64 ua,.int .i64 tt] 173)) 21 [.int .i32 la] 1 rfl
      simpa [fF] using h
     have hKF:=HKj.trans (qC.of hTF)
     have htx:=rF wF (cV.kpt HL hKF hB0) (some ⟨wo.heap.size+1,0,none⟩) 1 1 [la] hrdF rfl (by omega) (by intro r hr;rw[List.mem_singleton] at hr;rw[hr];exact hsc)
     rw[<-hmore2] at htx
     have hdl:=gC (aI R la)
     have hlnn:(pre++oM l u R j).length+(aK (aI R la)).length<=N:=by
      have h1:=hpf.length_le
      rw[hpn,qZa,nJ,nJ] at h1
      have h2:=HNN.out
      rw[qZa]
      omega
     have hrec:∀ w7,aC (λ_=>False) wF w7->Calls Tryz.prog 120 _ w7 _:=λw7 T7=>HIH.out w7 tt (aK (aI R la)) (head++more) (l++[la]) (u+ua) (pre++oM l u R j) (by have:=(List.getElem?_eq_some_iff.1 q3).1;rw[hk.len,HN.out] at this;exact this) q3 (by have:=HD.out;omega) hhd2 (by have:=HLEN.out;rw[qZa,qJg];omega) (hKF.trans (qC.of T7)) (HJ _ _ _ HJj (hTF.then T7)) hlnn (by omega) (by
      intro r hr
      have h1:=dY.1 (show (r.1,r.2)∈aK (aI R la) from hr)
      have h2:=HUB.out _ (cA.1 h1)
      simp only at h2
      rw[q1]
      omega)
     have HWF:=aB hwF
     have HEE:=aB hE
     have HBE:=aB hbE
     have HTX:=aB (callsIn_wide (n:=8).2 htx)
     have HREC:=aB hrec
     have HPN:=aB hpn
     have HPF:=aB hpf
     clear ham hz q1 q2 q3 w1 w2 w3 hr0 hr1 hsc hdu hpn hpf hb3 hb4 hlab hmore2 hml hsz1 hsz2 hhd2 hwF hE hTF hbE hrdF htx hdl hrec hKF hlnn
     gi_wp2
     rw[<-HWF.out]
     refine⟨trivial,HTX.mono ?_⟩
     rintro e w7 ⟨rfl,T7⟩
     have hb7:=HBE.touch T7 (λf=>f)
     rw[HEE.out] at hb7
     obtain⟨t0,t1,t2⟩:=hb7.facts
     have HR7:=aB (callsIn_wide (n:=8).2 (HREC w7 T7))
     clear T7 hb7 HTX HREC
     gi_wp2
     refine⟨trivial,HR7.mono ?_⟩
     rintro e w8 (⟨rfl,hJ8,hK8⟩ | ⟨rfl,q,hq,hX8⟩)
     ·have HJ8:=aB hJ8
      have HK8:=aB hK8
      clear hJ8 hK8 HR7
      gi_wp2
      go_roundw
      case rel=>exact⟨j+1,by simp,by omega,aB (by rw[HPN.out,<-qXa];exact HJ8),HK8⟩
      case measure=>simp only[intOf];omega
     ·have hq2:oM l u R j++q <+: eO l u R:=by
       refine List.IsPrefix.trans ?_ HPF
       rw[HPN.out]
       exact (qQi _).2 hq
      have HQ2:=aB hq2
      have HX8:=aB hX8
      clear hq hq2 hX8 HR7
      gi_wp2
      go_ret
      exact .inr ⟨rfl,_,HQ2,by rw[<-qXa];exact HX8⟩
    ·have hje:j=zn:=by omega
     have j4:¬ (j:Int)<(zn:Int):=by omega
     have hall:=Nj HC.sort l u j (by rw[<-HC.labels,qJa];have:=HZO.len;simp only at this ⊢;omega)
     have HALL:=aB hall
     clear hje hall
     gi_wp2
     go_ret
     exact .inl ⟨rfl,by rw[<-HALL.out];exact HJj,HKj⟩
  ·have HX:=aB hx1
   have hpf:=rB HC.sort l u 0
   rw[HPZ.out] at hpf
   have HPF:=aB hpf
   clear hx1 hpf hy HRR
   gi_wp2
   go_ret
   exact .inr ⟨rfl,_,HPF,HX⟩
 | false =>
  rw[if_neg (by decide)] at hpz
  have HJ0:Hid (J (pre++oM l u R 0) wD):=aB (by rw[hpz,List.append_nil];exact HJD)
  have HK0:=HKD
  clear hc hpz hhm
  refine (callsIn_wide (n:=9)).1 ?_
  refine callsIn_of_wp Tryz.func120 rfl trivial ?_ rfl
  simp only[Tryz.ntmps120,qXe,qQe,qJb,qZf,qXf,Array.replicate_succ,Array.replicate_zero,qZe,qQd,qQb,qZb]
  gi_wp2
  refine⟨λ_ h=>(by cases h),?_⟩
  rename_i Q3 K2 a2 K1 a1 K0 a0 xx hhh ww heqq
  clear heqq xx hhh ww
  refine a0 _ _ ?_
  clear a0 K0
  gi_wp2
  rw[<-HWD.out]
  gi_loopw [39] (λjv wr=>∃ (j:Nat),jv=.int .i64 j/\j<=zn/\Hid (J (pre++oM l u R j) wr)/\Hid (qC B0 w0 wr)) (λjv _=>zn-(intOf jv).toNat)
  case atStart=>exact⟨0,rfl,by omega,HJ0,HK0⟩
  case round =>
   clear HJ0 HK0 s0 s1 s2 x0 x1 x2 d0 d1 d2
   obtain⟨j,rfl,hjz,HJj,HKj⟩:=hrel
   by_cases hjz2:j<zn
   ·have j1:(j:Int)<(zn:Int):=by omega
    have j2:(0:Int)<=(j:Int):=by omega
    have j3:IntKind.i64.wrap ((j:Int)+1)=(j:Int)+1:=qQa _ (by omega)
    obtain⟨ag,ao,hA2,_,e0,e1,e2⟩:=iY (HZO.rd.kpt HKj (by decide) (by decide)).rd HZO.len j hjz2
    subst hA2
    have ham:=cJ arcs (0,0,0) j (by rw[HZO.len];exact hjz2)
    have harc:=HC.arc _ ham
    have hawt:=At HC HHER ham
    have hlab:(aO R)[j]? = some (arcs.getD j (0,0,0)).1:=by
     rw[<-HC.labels,qJd,lX? (d:=(0,0,0)) (by rw[HZO.len];exact hjz2)]
     rfl
    obtain⟨⟨la,ua,tt⟩,hz⟩:∃ z,arcs.getD j (0,0,0)=z:=⟨_,rfl⟩
    rw[hz] at e0 e1 e2 harc hawt hlab
    simp only at e0 e1 e2 harc hawt hlab
    obtain⟨q1,q2,q3⟩:=harc
    obtain⟨w1,w2,w3⟩:=hawt
    obtain⟨r0,hr0⟩:=qZg _ w3
    have hr1:=cA.1 (show (r0.1,r0.2)∈aI R la from hr0)
    have hsc:scal la=true:=(HHER.run _ hr1 la (List.mem_cons_self)).1
    have hdu:=gD w3
    have hpn:=Ho l u R j la hlab
    have hpf:=rB HC.sort l u (j+1)
    rw[<-q1] at hpn
    have hb3:=HUB.out _ hr1
    have hb4:=dX hr0
    rw[<-q1] at hb4
    simp only at hb3
    have z2:IntKind.i64.wrap (u+ua)=u+ua:=qQa _ (by omega)
    obtain⟨more,hmore2⟩:∃ m:ByteArray,m=⟨([la].flatMap aN).toArray⟩:=⟨_,rfl⟩
    have hml:more.toList=[la].flatMap aN:=by rw[hmore2,lN]
    have hsz1:head.size<=96:=by
     have h1:=iP l
     have h2:=HLEN.out
     rw[rP,HHD.out]
     omega
    have hsz2:more.size<=4:=by
     have h1:=iP [la]
     rw[rP,hml]
     simpa using h1
    have hadd:∀ wx,(Op.stringOp .add head more).run Tryz.prog wx=.ok (.string (head++more)) wx:=λwx=>run_string_add_sum (P:=Tryz.prog) wx head more (by omega)
    have hhd2:(head++more).toList=(l++[la]).flatMap aN:=by rw[Fw,HHD.out,hml,qZd]
    obtain⟨wo,hwo⟩:=eX wr
    subst hwo
    obtain⟨wF,hwF⟩:=eX ((wo.alloc (.cells #[.int .i32 la,.int .i64 ua,.int .i64 tt] 173)).alloc (.cells #[.int .i32 la] 21))
    obtain⟨E,hE⟩:=eX wo.heap.size
    have hTF:aC (λ_=>False) wo wF:=by rw[hwF];exact ((aC.refl _ _).alloc _).alloc _
    have hbE:aL wF E 173 #[.int .i32 la,.int .i64 ua,.int .i64 tt]:=by rw[hwF,hE];exact (aL.new _ _ _).alloc _
    have hrdF:aH wF 1 (some ⟨wo.heap.size+1,0,none⟩) 1 ([la].map fF):=by
     rw[hwF]
     have h:=aH.new (size:=1) (wo.alloc (.cells #[.int .i32 la,.int .i64 ua,.int .i64 tt] 173)) 21 [.int .i32 la] 1 rfl
     simpa [fF] using h
    have hKF:=HKj.trans (qC.of hTF)
    have htx:=rF wF (cV.kpt HL hKF hB0) (some ⟨wo.heap.size+1,0,none⟩) 1 1 [la] hrdF rfl (by omega) (by intro r hr;rw[List.mem_singleton] at hr;rw[hr];exact hsc)
    rw[<-hmore2] at htx
    have hdl:=gC (aI R la)
    have hlnn:(pre++oM l u R j).length+(aK (aI R la)).length<=N:=by
     have h1:=hpf.length_le
     rw[hpn,qZa,nJ,nJ] at h1
     have h2:=HNN.out
     rw[qZa]
     omega
    have hrec:∀ w7,aC (λ_=>False) wF w7->Calls Tryz.prog 120 _ w7 _:=λw7 T7=>HIH.out w7 tt (aK (aI R la)) (head++more) (l++[la]) (u+ua) (pre++oM l u R j) (by have:=(List.getElem?_eq_some_iff.1 q3).1;rw[hk.len,HN.out] at this;exact this) q3 (by have:=HD.out;omega) hhd2 (by have:=HLEN.out;rw[qZa,qJg];omega) (hKF.trans (qC.of T7)) (HJ _ _ _ HJj (hTF.then T7)) hlnn (by omega) (by
     intro r hr
     have h1:=dY.1 (show (r.1,r.2)∈aK (aI R la) from hr)
     have h2:=HUB.out _ (cA.1 h1)
     simp only at h2
     rw[q1]
     omega)
    have HWF:=aB hwF
    have HEE:=aB hE
    have HBE:=aB hbE
    have HTX:=aB (callsIn_wide (n:=8).2 htx)
    have HREC:=aB hrec
    have HPN:=aB hpn
    have HPF:=aB hpf
    clear ham hz q1 q2 q3 w1 w2 w3 hr0 hr1 hsc hdu hpn hpf hb3 hb4 hlab hmore2 hml hsz1 hsz2 hhd2 hwF hE hTF hbE hrdF htx hdl hrec hKF hlnn
    gi_wp2
    rw[<-HWF.out]
    refine⟨trivial,HTX.mono ?_⟩
    rintro e w7 ⟨rfl,T7⟩
    have hb7:=HBE.touch T7 (λf=>f)
    rw[HEE.out] at hb7
    obtain⟨t0,t1,t2⟩:=hb7.facts
    have HR7:=aB (callsIn_wide (n:=8).2 (HREC w7 T7))
    clear T7 hb7 HTX HREC
    gi_wp2
    refine⟨trivial,HR7.mono ?_⟩
    rintro e w8 (⟨rfl,hJ8,hK8⟩ | ⟨rfl,q,hq,hX8⟩)
    ·have HJ8:=aB hJ8
     have HK8:=aB hK8
     clear hJ8 hK8 HR7
     gi_wp2
     go_roundw
     case rel=>exact⟨j+1,by simp,by omega,aB (by rw[HPN.out,<-qXa];exact HJ8),HK8⟩
     case measure=>simp only[intOf];omega
    ·have hq2:oM l u R j++q <+: eO l u R:=by
      refine List.IsPrefix.trans ?_ HPF
      rw[HPN.out]
      exact (qQi _).2 hq
     have HQ2:=aB hq2
     have HX8:=aB hX8
     clear hq hq2 hX8 HR7
     gi_wp2
     go_ret
     exact .inr ⟨rfl,_,HQ2,by rw[<-qXa];exact HX8⟩
   ·have hje:j=zn:=by omega
    have j4:¬ (j:Int)<(zn:Int):=by omega
    have hall:=Nj HC.sort l u j (by rw[<-HC.labels,qJa];have:=HZO.len;simp only at this ⊢;omega)
    have HALL:=aB hall
    clear hje hall
    gi_wp2
    go_ret
    exact .inl ⟨rfl,by rw[<-HALL.out];exact HJj,HKj⟩
end
theorem Gn(w0:World)(hL:cV w0)(b:Nat)(base:Int)(A:Option Addr)(n c:Nat)(Z:List SV)(wA:Option Addr)(wc:Nat)(W:List Int)(hM:Vo w0 b base A n c Z wA wc W)(k:kG)(hk:nY k)(hh:∀ X∈k.rests,yF X)(hZ:Z.map SV.p=k.states)(lp B0:Nat)(hB0:0<B0)(J Jx:List aD->World->Prop)(N:Nat)
  (hJ:∀ pre W W',J pre W->aC (λ_=>False) W W'->J pre W')(hJx:∀ pre W W',Jx pre W->aC (λ_=>False) W W'->Jx pre W')(hY:Iv lp B0 J Jx N):∀ f,Zr w0 b n k lp B0 J Jx N f
 | 0=>λ_ _ _ _ _ _ _ _ _ hd=>absurd hd (Nat.not_lt_zero _)
 | f+1=>Qw w0 hL b base A n c Z wA wc W hM k hk hh hZ lp B0 hB0 J Jx N hJ hJx hY f (Gn w0 hL b base A n c Z wA wc W hM k hk hh hZ lp B0 hB0 J Jx N hJ hJx hY f)
theorem Pt(hL:cV w0){b:Nat}(h:It w0 b L n A c Z wA wc)(hD:aZ L)(B:Nat)(hB:aL w0 B 92 #[.pointer (some ⟨b,0,none⟩)])(w:World)(lp B0:Nat)(hB0:0<B0)(J Jx:List aD->World->Prop)
  (hJ:∀ pre W W',J pre W->aC (λ_=>False) W W'->J pre W')(hJx:∀ pre W W',Jx pre W->aC (λ_=>False) W W'->Jx pre W')(hY:Iv lp B0 J Jx L.length)(hK:qC B0 w0 w)(h0:J [] w) :
  Calls Tryz.prog 119 #[.func (.yield lp) #[] #[],.pointer (some ⟨B,0,none⟩)] w λe w'=>e=.returned (.tuple #[])/\(J L w'\/∃ q,q <+: L/\Jx q w'):=by
 obtain⟨x0,x1,x2⟩:=(h.wk.kpt hK).blk.facts
 obtain⟨b0,b1,b2⟩:=(hB.kpt hK (by decide) (by decide)).facts
 by_cases he:L=[]
 ·subst he
  have hn:n=0:=by rw[<-h.n_len];rfl
  subst hn
  have HC:=aB h0
  clear h hD hL hB h0 hJ hJx hY hK
  go_in
  go_wp2_with fail
  go_end0
  exact⟨rfl,.inl HC⟩
 ·have hm:=Uk he
  have M:=aGq hD he
  have hher:=tS 25 ⟨[],[]⟩ (aV L) (λX hX=>(by cases hX)) (Cb hD)
  have hn:=h.n_len
  have hst:=h.st
  have hwk:=h.wk
  rw[hm] at hn hst hwk
  simp only at hn hst hwk
  have hbase:=lG hD
  have hpos:=M.pos
  have hroot:=M.root
  rw[hn] at hroot
  have hfa:=Gn w0 hL b _ A n c Z wA wc _ hwk _ M.good hher hst lp B0 hB0 J Jx L.length hJ hJx hY 25
  have hdep:=qL hD
  have hwl:=To hD
  have hbm:(aR L).base=bE (aV L):=by rw[hm]
  rw[hbm] at x0 hbase
  obtain⟨base,hb⟩:=eX (bE (aV L))
  rw[<-hb] at x0 hbase hwl hwk
  have hll:(aK (aV L)).length=L.length:=by unfold aK aV;rw[qJa,qJa]
  have hcall:∀ wx,aC (λ_=>False) w wx->Calls Tryz.prog 120 #[.pointer (some ⟨b,0,none⟩),.int .i64 ((n-1:Nat):Int),.string ⟨#[]⟩,.int .i64 base,.func (.yield lp) #[] #[]] wx (λe w5=>∃ v,e=.returned (.bool v)/\(J L w5\/∃ q,q <+: L/\Jx q w5)):=λwx T=>(hfa wx (n-1) (aK (aV L)) ⟨#[]⟩ [] base [] (by omega) hroot (by rw[gC];exact hdep) (lN []) (by rw[gC];simp only[qJb];omega) (hK.trans (qC.of T)) (hJ _ _ _ h0 T) (by rw[hll];simp) hbase.1 (by
   intro r hr
   have h1:=dY.1 (show (r.1,r.2)∈aK (aV L) from hr)
   obtain⟨p,hp,e⟩:=List.mem_map.1 h1
   have:=(hD.weight p hp).2
   simp only[Prod.mk.injEq] at e
   omega)).mono (by
   intro e w5 hC5
   rw[hwl] at hC5
   rcases hC5 with⟨rfl,h1,_⟩ | ⟨rfl,h1⟩
   ·exact⟨_,rfl,.inl (by simpa using h1)⟩
   ·exact⟨_,rfl,.inr (by simpa using h1)⟩)
  have hfew:=h.few
  have HWK:=aB (h.wk.kpt hK).blk
  rw[hbm,<-hb] at HWK
  have HN:=aB hfew
  have HCALL:=aB hcall
  have hn1:((n-1:Nat):Int)=(n:Int)-1:=by omega
  rw[hn1] at HCALL
  have y0:(0:Int)<(n:Int):=by omega
  clear h hD hL hB h0 hJ hJx hY hK hll hm M hher hn hst hwk hbase hpos hroot hfa hdep hwl hbm hb hcall hfew hn1
  go_in
  go_wp2_with fail
  refine wp_region_still_tail 8 (by kernel_rfl) (by kernel_rfl) ?_
  simp only[List.take_succ_cons,List.take_zero,List.drop_succ_cons,List.drop_zero]
  still_step
  still_step
  still_call (De w.drew b base A n c _ HWK.drew HN)
  repeat still_step
  refine wpStill_nil ?_
  change wpList _ _ _ _ _ w.drew
  have HDR:=aB (show aC (λ_=>False) w w.drew from (aC.refl _ _).drew)
  generalize w.drew=wd at HDR ⊢
  go_wp2_with ((go_at_call 120;refine (HCALL wd HDR).mono ?_;rintro e w5 ⟨v,rfl,h5⟩;have H5:=aB h5;clear h5))
  go_end0
  exact⟨rfl,H5⟩
section
open Go.RowKit Go.Shelf
attribute [local go_sem] Oper.semAt_some
theorem Bc{row:Option Nat}(hr:∀ r,row=some r->∃ o:Obj,w.heap[r]? = some o/\o.isCells=false)(h:bQ w g t):some g≠row:=by
 intro e
 obtain⟨cs,_,h⟩:=h
 obtain⟨o,ho,hc⟩:=hr g e.symm
 rw[h] at ho
 cases ho
 cases hc
theorem qC.touch(h:aC S w w')(hS:∀ g,S g->B0<=g/\(bQ w g 125 \/ bQ w g 37)):qC B0 w w':=by
 refine⟨h.os,h.tape,h.output,h.size,λg h1 h2=>h.block g h1 (λs=>by have:=(hS g s).1;omega),λg t cs fr e h1 h2=>h.block g (Array.getElem?_eq_some_iff.1 e).1 (λs=>?_)⟩
 rcases (hS g s).2 with⟨cs2,_,e2⟩ | ⟨cs2,_,e2⟩
 ·rw[e] at e2
  cases e2
  exact h1 rfl
 ·rw[e] at e2
  cases e2
  exact h2 rfl
theorem yK{B:Nat}(h:aC S w w')(hS:∀ g,S g->∃ t,bQ w g t):KeepsFrom B w w' :=
 ⟨h.size,λk o _ hk ho=>(h.block k (Array.getElem?_eq_some_iff.1 hk).1 (λs=>by
  obtain⟨t,cs,_,e⟩:=hS k s
  rw[e] at hk
  cases hk
  cases ho)).trans hk⟩
theorem aKr(hB:B0<=n)(W:World)(l:Nat)(o o':Obj)(hl:n<=l)(h:W.heap[l]? = some o)(hc:o.isCells=false)(_:o.isWalk=false):qC B0 W (W.putObj l o'):=by
 have hg:=grownBy_putObj' W l o'
 refine⟨hg.os,hg.tape,hg.output,hg.size,λg h1 h2=>hg.block g h1 (λe=>by cases e;omega),λg t cs fr e _ _=>hg.block g (Array.getElem?_eq_some_iff.1 e).1 (λe2=>?_)⟩
 cases e2
 rw[h] at e
 cases e
 cases hc
theorem Tr{m m':Nat}{P:Program}{l:Nat}{args:Array Value}{W:World}{R:Ending->World->Prop}(h:YieldAt Fence.wide m P l args W R):YieldAt Fence.wide m' P l args W R:=by
 obtain⟨fn,tmps,assign,body,h1,h2⟩:=h
 exact⟨fn,tmps,assign,body,h1,yU m' h2⟩
theorem Vr(hL:cV w0){b:Nat}(h:It w0 b L n A c Z wA wc)(hD:aZ L)(B:Nat)(hB:aL w0 B 92 #[.pointer (some ⟨b,0,none⟩)])(B0:Nat)(hB0:0<B0) :
  SeqStopsK Fence.wide 8 Tryz.prog 119 #[.pointer (some ⟨B,0,none⟩)] aHf (qC B0) (λxs=>xs=L) (λpre=>pre <+: L) L.length w0:=by
 intro l J Jx W hW hJ hJx hY h0
 refine callsIn_wide.2 ((Pt hL h hD B hB W l B0 hB0 J Jx (λpre X Y hs ht=>hJ pre X Y none hs (ht.grownBy_none none) (λr e=>by cases e)) (λpre X Y hs ht=>hJx pre X Y none hs (ht.grownBy_none none) (λr e=>by cases e)) (λpre x W1 h1 h2=>Tr (hY pre x W1 h1 h2)) (qC.of (aC.of_below hW _)) h0).mono ?_)
 rintro e W' ⟨rfl,h1 | ⟨q,hq,h1⟩⟩
 ·exact⟨⟨_,rfl⟩,.inl ⟨_,rfl,h1⟩⟩
 ·exact⟨⟨_,rfl⟩,.inr ⟨q,hq,h1⟩⟩
end
section
open Go.RowKit Go.Shelf
attribute [local go_sem] Oper.semAt_some
structure yD(w0 w:World)(sb:Nat)(A:Option Addr)(c:Nat)(T:List aD):Prop where
 l:aL w sb 37 #[.slice A T.length c]
 own:w.ownsRow 0 125 2 (.slice A T.length c) T.length (bK T)
 young:∀ g,(Value.slice A T.length c).ownBlock=some g->w0.heap.size<=g
 sb0:w0.heap.size<=sb
 touch:aC (λ_=>False) w0 w
theorem yD.quiet{sb:Nat}{T:List aD}(h:yD w0 w sb A c T)(t:aC (λ_=>False) w w'):yD w0 w' sb A c T :=
 ⟨h.l.touch t (λf=>f),aF h.own t (λ_ _ f=>f),h.young,h.sb0,h.touch.then t⟩
theorem yD.row{sb:Nat}{T:List aD}{row:Option Nat}(h:yD w0 w sb A c T)(hg:w.grownBy w' row)(hr:∀ r,row=some r->w0.heap.size<=r/\∃ o:Obj,w.heap[r]? = some o/\o.isCells=false):yD w0 w' sb A c T:=by
 have hr2:∀ r,row=some r->∃ o:Obj,w.heap[r]? = some o/\o.isCells=false:=λr e=>(hr r e).2
 have hT:aC (λk=>row=some k) w w':=(aC.refl _ _).grown hg (λk e _=>e)
 exact⟨h.l.grown hg (Bc hr2 (aG h.l)),aF h.own hT (λg e1 e2=>Bc hr2 (aM h.own e1) e2.symm),h.young,h.sb0,h.touch.grown hg (λk e hk=>by have:=(hr k e).1;omega)⟩
theorem Et(hL:cV w0){b:Nat}(h:It w0 b L n A c Z wA wc)(hD:aZ L)(B:Nat)(hB:aL w0 B 92 #[.pointer (some ⟨b,0,none⟩)]) :
  Calls Tryz.prog 118 #[.slice none 0 0,.func (.func 119) #[] #[.pointer (some ⟨B,0,none⟩)]] w0 λe w'=>∃ A' c',e=.returned (.slice A' L.length c')/\fS 125 2 w0 w' (.slice A' L.length c') L.length (bK L):=by
 have hmf:∀ (fn:Fn) (first cap:Array Value) (w:World),(Instr.makeFunc fn first cap).run Tryz.prog w=.ok (.func fn first cap) w:=λ_ _ _ _=>rfl
 obtain⟨w2,hw2⟩:=eX (w0.alloc (.cells #[.slice none 0 0] 37))
 obtain⟨sb,hsb⟩:=eX w0.heap.size
 have hT2:aC (λ_=>False) w0 w2:=by rw[hw2];exact (aC.refl _ _).alloc _
 have hbl:aL w2 sb 37 #[.slice none 0 0]:=by rw[hw2,hsb];exact aL.new _ _ _
 have hC:yD w0 w2 sb none 0 []:=⟨hbl,World.ownsRow_nil _ _ _ _,λg hg=>(by cases hg),by omega,hT2⟩
 have hst:=Vr (cV.touch hL hT2) (h.quiet hT2) hD B (hB.touch hT2 (λf=>f)) w0.heap.size hL.1
 have hpos:w0.heap.size<=w2.heap.size:=hT2.size
 have hlen:=hD.len
 have HC:=aB hC
 have HW2:=aB hw2
 have HSB:=aB hsb
 obtain⟨i1,hi1,hy0,hy1,hy2⟩:=aQ kE
 clear hbl hC hsb hw2 hT2 hL h hD hB
 refine (callsIn_wide (n:=9)).1 ?_
 refine callsIn_of_wp_marks Tryz.func118 rfl trivial ?_ rfl
 simp only[Tryz.ntmps118,qXe,qQe,qJb,qZf,qXf,Array.replicate_succ,Array.replicate_zero,qZe,qQd,qQb,qZb]
 gi_wp2
 rw[<-HW2.out,<-HSB.out]
 refine wpIn_rangeFunc_ownH rfl (by decide) (gf := 119) (lb:=#[.pointer (some ⟨B,0,none⟩)]) rfl trivial (enters_of Tryz.func119 (by kernel_rfl) rfl)
  hst (λh k=>qC.trans h k) (aKr hpos) (Below.refl _ _) (λ_=>rfl)
  (λpre W=>∃ A c,yD w0 W sb A c pre)
  (λ_ _ _=>False)
  (λpre X Y row hs hg hr=>by
    obtain⟨A,c,h1⟩:=hs
    exact⟨A,c,h1.row hg (λr e=>⟨qXc hpos (hr r e).1,(hr r e).2⟩)⟩)
  (λ_ _ _ _ _ hs _ _=>hs)
  ⟨none,0,HC⟩
  (λx a' W=>∃ Bx,aL W Bx 125 #[.string x.word,.int .i64 x.weight]/\a'={ tmps:=#[.slice none 0 0,.func (.func 119) #[] #[.pointer (some ⟨B,0,none⟩)],.pointer (some ⟨sb,0,none⟩),undef,.slice none 0 0,.pointer (some ⟨Bx,0,none⟩),.func (.func 119) #[] #[.pointer (some ⟨B,0,none⟩)],.agg #[.string x.word,.int .i64 x.weight],undef,undef,undef,undef,undef],defers:=[] })
  (λx a' _ X Y row hs hg hr=>by
    obtain⟨Bx,e1,e2⟩:=hs
    exact⟨Bx,e1.grown hg (Bc (λr e=>(hr r e).2) (aG e1)),e2⟩)
  ?assign ?body ?done ?stop
 case assign =>
  rintro l pre ⟨xw,xn⟩ W K ⟨A2,c2,h1⟩ hK
  simp only[aHf]
  gi_wp2
  exact hK _ _ ((KeepsOthers.alloc _ _).from _) (qC.of ((aC.refl _ _).alloc _)) ⟨A2,c2,h1.quiet ((aC.refl _ _).alloc _)⟩ ⟨W.heap.size,aL.new _ _ _,rfl⟩
 case body =>
  rintro l pre ⟨xw,xn⟩ a' W _ _ ⟨A2,c2,h1⟩ ⟨Bx,hbx,rfl⟩ hlt
  obtain⟨p0,p1,p2⟩:=hbx.facts
  obtain⟨l0,l1,l2⟩:=h1.l.facts
  obtain⟨q,hq⟩:∃ q,pre.length=q:=⟨_,rfl⟩
  have HQ:=aB hq
  obtain⟨wa,hwa⟩:=eX (W.alloc (.cells #[.string xw,.int .i64 xn] 125))
  have hTa:aC (λ_=>False) W wa:=by rw[hwa];exact (aC.refl _ _).alloc _
  have hca:=h1.quiet hTa
  have hown:=hca.own
  rw[hq] at hown
  have hrd:aH wa 2 (some ⟨W.heap.size,0,none⟩) 1 [.string xw,.int .i64 xn]:=by
   rw[hwa]
   have h:=aH.new (size:=2) W 125 [.string xw,.int .i64 xn] 1 rfl
   simpa using h
  have hone:∀ u∈[Value.string xw,.int .i64 xn],u.oneCell'=true:=by
   intro u hu
   simp only[List.mem_cons,List.not_mem_nil,or_false] at hu
   rcases hu with rfl | rfl<;>rfl
  have hqs:q+1<=4096:=by omega
  rw[hq] at l0
  have HWA:=aB hwa
  have HCA:=aB hca
  have HOW:=aB hown
  have HRD:=aB hrd
  have HONE:=aB hone
  have HBB:Hid (q+1<=maxLen/\(q+1)*24<=140737488355328):=aB (by unfold maxLen;omega)
  have HLV:Hid (some sb≠(Value.slice A2 q c2).ownBlock):=aB (λe=>(aM hown e.symm).ne (aG hca.l) (by decide) rfl)
  have HTA:=aB hTa
  clear h1 hbx hwa hTa hca hown hrd hone hqs hq hlt hst hlen
  gi_wp2_with (gi_at_builtin;rw[<-HWA.out];refine vT _ rfl (.tmp 8) (.tmp 10) 37 rfl 125 i1 _ 2 24 Tryz.underlying37 hi1 hy0 hy1 hy2 rfl (by decide) (.slice A2 q c2) q _ rfl HOW (some ⟨W.heap.size,0,none⟩) 1 1 [.string xw,.int .i64 xn] rfl HRD (λh=>by cases h) HONE HBB.1 HBB.2 ?_;intro v6 w6 O6 G6 F6 _;obtain⟨A6,c6,hv,_,_⟩:=aS O6;subst hv;have hb6:=HCA.l.grown G6 HLV.out;have HE6:=aB (And.intro O6 (And.intro G6 F6));have HB6:=aB hb6;clear O6 G6 F6 l0 l1 l2;obtain⟨l0,l1,l2⟩:=hb6.facts;clear hb6)
  obtain⟨O6,G6,F6⟩:=HE6.out
  have hpc:bK (pre++[(⟨xw,xn⟩:aD)])=bK pre++[.string xw,.int .i64 xn]:=by simp[bK,aD.cells]
  have hl1:(pre++[(⟨xw,xn⟩:aD)]).length=q+1:=by rw[qZa,HQ.out];rfl
  have hTg:aC (λg=>g=sb\/(Value.slice A2 q c2).ownBlock=some g) wa (w6.setCell ⟨sb,0,none⟩ (.slice A6 (q+1) c6)):=(((aC.refl _ _).grown G6 (λk hk _=>.inr hk))).setCell (p:=⟨sb,0,none⟩) (λ_=>.inl rfl) _
  have hS:∀ g,(g=sb\/(Value.slice A2 q c2).ownBlock=some g)->w0.heap.size<=g/\(bQ wa g 125 \/ bQ wa g 37):=by
   rintro g (rfl | e)
   ·exact⟨HCA.sb0,.inr (aG HCA.l)⟩
   ·have hy:=HCA.young g
    rw[HQ.out] at hy
    exact⟨hy e,.inl (aM HOW e)⟩
  refine⟨(yK HTA (λg f=>f.elim)).trans (yK hTg (λg e=>(hS g e).2.elim (λh=>⟨_,h⟩) (λh=>⟨_,h⟩))),(qC.of HTA).trans (qC.touch hTg hS),A6,c6,⟨?_,?_,?_,HCA.sb0,?_⟩⟩
  ·rw[hl1]
   have:=HB6.set_ 0 (.slice A6 (q+1) c6)
   simpa using this
  ·rw[hl1,hpc]
   exact cO O6 (λe=>(aM O6 e).ne (aG HB6) (by decide) rfl) _
  ·rw[hl1]
   intro g hg
   rcases F6 with e | ⟨g2,e,hle⟩
   ·rw[e] at hg
    have h1:=HCA.young g
    rw[HQ.out] at h1
    exact h1 hg
   ·rw[e] at hg
    injection hg with hg
    have:=HCA.touch.size
    omega
  ·refine HCA.touch.trans hTg λg hg e=>?_
   rcases e with e | e
   ·have:=HCA.sb0;omega
   ·have h1:=HCA.young g
    rw[HQ.out] at h1
    have:=h1 e
    omega
 case done =>
  rintro D ys W hD rfl ⟨A2,c2,h1⟩ hK
  obtain⟨l0,l1,l2⟩:=h1.l.facts
  have H1:=aB h1
  clear h1
  gi_wp2
  refine⟨by simp,.inl ⟨_,_,rfl,run_takeDeferred hK,?_⟩⟩
  have h2:=H1.row (grownBy_putObj' W D (.deferred none)) (λr e=>by cases e;exact⟨qXc hpos hD,_,hK,rfl⟩)
  exact⟨.slice A2 _ c2,by simp[results,Tryz.f118,go_sem],A2,c2,rfl,h2.own,h2.touch,h2.young⟩
 case stop =>
  rintro D c pre W _ _ hf
  exact hf.elim
theorem yG(hL:cV w0){b:Nat}(h:It w0 b L n A c Z wA wc)(hD:aZ L)(B:Nat)(hB:aL w0 B 92 #[.pointer (some ⟨b,0,none⟩)]) :
  Calls Tryz.prog 60 #[.func (.func 119) #[] #[.pointer (some ⟨B,0,none⟩)]] w0 λe w'=>∃ A' c',e=.returned (.slice A' L.length c')/\fS 125 2 w0 w' (.slice A' L.length c') L.length (bK L):=by
 have HA:=aB (Et hL h hD B hB)
 clear hL h hD hB
 go_in
 go_wp2_with fail
 refine HA.mono ?_
 rintro e w1 ⟨A1,c1,rfl,ho⟩
 have HO:=aB ho
 clear ho HA
 go_wp2_with fail
 go_ret
 exact⟨A1,c1,rfl,HO⟩
end
def Br(sts:List cU)(root:Int)(base:Int)(s:List UInt8):Int × Bool:=match bZ s with
 | none=>(0,false)
 | some x=>Jd sts (fU sts x root base)
theorem Zg(w:World)(b:Nat)(base:Int)(A:Option Addr)(n c:Nat)(Z:List SV)(wv:Value)(hblk:aL w b 167 #[.int .i64 base,.slice A n c,wv])(hst:eW w A n Z)(hL:cV w)(s:ByteArray)(hs:s.size<=1099511627776)(hn:n<=1000000)(hb0:0<=base)(hb1:base<=1048576)(hsm:aIg n Z) :
  Calls Tryz.prog 45 #[.pointer (some ⟨b,0,none⟩),.string s] w λe w'=>e=.returned (.tuple #[.int .i64 (Br (Z.map SV.p) ((n:Int)-1) base s.toList).1,.bool (Br (Z.map SV.p) ((n:Int)-1) base s.toList).2])/\aC (λ_=>False) w w':=by
 have HBK:=aB hblk
 have HST:=aB hst
 have HSM:=aB hsm
 have HRN:=aB (lK w s hs hL)
 clear hblk hst hsm hL
 obtain⟨R,hR⟩:∃ R,Br (Z.map SV.p) ((n:Int)-1) base s.toList=R:=⟨_,rfl⟩
 rw[hR]
 have HR:=aB hR
 clear hR
 go_in
 go_wp2_with fail
 refine HRN.mono ?_
 rintro e w1 ⟨lA,lq,lc,O,ok,rfl,N1,hl,hq,hru⟩
 have HN:=aB N1
 have HOL:=aB hl
 have HRU:=aB hru
 have hb:=HBK.touch N1.touch (λf=>f)
 obtain⟨x0,x1,x2⟩:=hb.facts
 have HB1:=aB hb
 clear N1 hl hru HRN hb
 go_wp2_with fail
 go_quiet ((go_at_call 98;exact Calls.quiet_of_same (De _ b base A n c wv HB1 hn)))
 obtain⟨w2,hw2⟩:=eX (w1.drewN nq)
 have hT2:aC (λ_=>False) w1 w2:=by rw[hw2];exact (aC.refl _ _).drewN _
 rw[<-hw2]
 have HT2:=aB (HN.touch.then hT2)
 have HB2:=aB (HB1.touch hT2 (λf=>f))
 have HF2:=aB ((gL.of_own HN.own).quiet hT2)
 have HS2:=aB (HST.quiet (HN.touch.then hT2))
 clear hw2 hT2
 go_wp2_with fail
 go_loopw [8,9,28] (λav sv iv wr=>∃ (i:Nat) (a u:Int),av=.int .i64 a/\sv=.int .i64 u/\iv=.int .i64 i/\i<=lq/\-1<=a/\a<n/\Hid (0<=u/\u<=1048576+1048576*(i:Int))/\Hid (fU (Z.map SV.p) O ((n:Int)-1) base=fU (Z.map SV.p) (O.drop i) a u)/\Hid (aC (λ_=>False) w2 wr)) (λ_ _ iv _=>lq-(intOf iv).toNat)
 case atStart=>exact⟨0,(n:Int)-1,base,rfl,rfl,rfl,by omega,by omega,by omega,aB ⟨hb0,by omega⟩,aB rfl,aB (aC.refl _ _)⟩
 case round =>
  obtain⟨i,a,u,rfl,rfl,rfl,hi,ha1,ha2,HU,HE,HT⟩:=hrel
  by_cases hin:i<lq
  ·have y1:(i:Int)<(lq:Int):=by omega
   have y2:(0:Int)<=(i:Int):=by omega
   obtain⟨g,o,hlA,c0⟩:=pI (HF2.quiet HT).rd HOL i hin
   subst hlA
   have hdr:O.drop i=O.getD i 0 :: O.drop (i+1):=by
    rw[List.drop_eq_getElem_cons (by rw[HOL.out];exact hin)]
    simp[qXb,HOL.out,hin]
   obtain⟨r,hr⟩:∃ r,O.getD i 0=r:=⟨_,rfl⟩
   rw[hr] at c0 hdr
   have HDR:=aB hdr
   clear hr hdr
   by_cases hneg:a<0
   ·have hres:R=(0,false):=by
     rw[<-HR.out]
     unfold Br
     rw[HRU.out]
     cases ok with
     | false=>rfl
     | true=>simp only[if_true];rw[HE.out];exact Bv _ _ hneg
    subst hres
    go_wp2_with fail
    exact bodyPost_ret (v:=.tuple #[.int .i64 0,.bool false]) (by simp[results,Tryz.results45,go_sem]) rfl ⟨rfl,HT2.then HT⟩
   ·obtain⟨k,rfl⟩:∃ k:Nat,a=(k:Int):=⟨a.toNat,by omega⟩
    have hk:k<n:=by omega
    have n0:¬ (k:Int)<0:=by omega
    have n1:(0:Int)<=(k:Int):=by omega
    have hb:=HB2.touch HT (λf=>f)
    obtain⟨x3,x4,x5⟩:=hb.facts
    have hsr:=HS2.quiet HT
    obtain⟨g2,o2,hA2,hg2,s0,s1,s2⟩:=jE hsr.rd.rd hsr.len k hk
    have hA3:A=some ⟨g2,o2,none⟩:=hA2
    subst hA3
    have hzm:=cJ Z cH k (by rw[hsr.len];exact hk)
    have hzo:=hsr.el _ hzm
    have hlab:=HSM.lab _ hzm
    have harc:=HSM.arc _ hzm
    have hgp:((Z.map SV.p).getD ((k:Nat):Int).toNat aY).arcs=(Z.getD k cH).arcs:=by simp[qXb,show k<Z.length by rw[hsr.len];exact hk,SV.p]
    obtain⟨⟨fin,out,aA,an,ac,arcs⟩,hz⟩:∃ z,Z.getD k cH=z:=⟨_,rfl⟩
    rw[hz] at s0 s1 s2 hzo hlab harc hgp
    simp only at s0 s1 s2 hlab harc hgp
    have hstep:fU (Z.map SV.p) (O.drop i) k u=fU (Z.map SV.p) (O.drop (i+1)) (kI arcs r (-1,u)).1 (kI arcs r (-1,u)).2:=by
     rw[HDR.out]
     simp only[fU]
     rw[if_neg n0,hgp]
    have HSTP:=aB hstep
    have HAR:=aB (And.intro hzo.rd hzo.len)
    have han:an<=maxLen:=qXc hzo.le hzo.mx
    have HLAB:=aB hlab
    have HARC:=aB harc
    have hu:=HU.out
    clear hstep hgp hz hzo hlab harc hzm hsr hb
    go_wp2_with fail
    obtain⟨w4,hw4⟩:=eX (wr.alloc (.cells #[.bool fin,.int .i64 out,.slice aA an ac] 170))
    have hT4:aC (λ_=>False) wr w4:=by rw[hw4];exact (aC.refl _ _).alloc _
    rw[<-hw4]
    have HT4:=aB hT4
    have HA4:=aB (And.intro (HAR.1.quiet hT4) HAR.2)
    clear hw4 hT4 s0 s1 s2 c0 x0 x1 x3 x4 HAR
    go_loopw [8,9,44] (λav sv jv ws=>∃ (j:Nat) (a' u':Int),av=.int .i64 a'/\sv=.int .i64 u'/\jv=.int .i64 j/\j<=an/\Hid ((a',u')=kI (arcs.take j) r (-1,u))/\Hid (aC (λ_=>False) w4 ws)) (λ_ _ jv _=>an-(intOf jv).toNat)
    case atStart=>exact⟨0,-1,u,rfl,rfl,rfl,by omega,aB rfl,aB (aC.refl _ _)⟩
    case round =>
     obtain⟨j,a',u',rfl,rfl,rfl,hj,HP,HT5⟩:=hrel
     have hsm:=Oe (l:=arcs.take j) (n:=n) (r:=r) ((((List.take_sublist j arcs).map (·.1)).nodup HLAB.out)) (λa ha=>HARC.out a (List.mem_of_mem_take ha)) u
     rw[<-HP.out] at hsm
     simp only at hsm
     by_cases hjn:j<an
     ·have y3:(j:Int)<(an:Int):=by omega
      have y4:(0:Int)<=(j:Int):=by omega
      obtain⟨g3,o3,hA3,hg3,c1,c2,c3⟩:=iY (HA4.1.quiet HT5).rd HA4.2 j hjn
      subst hA3
      have hab:=HARC.out _ (cJ arcs (0,0,0) j (by rw[HA4.2];exact hjn))
      have hsn:=Sr (arcs.take j) (arcs.getD j (0,0,0)) r (-1,u)
      rw[<-kO arcs (0,0,0) j (by rw[HA4.2];exact hjn),<-HP.out] at hsn
      obtain⟨⟨la,ao,tt⟩,hz⟩:∃ z,arcs.getD j (0,0,0)=z:=⟨_,rfl⟩
      rw[hz] at c1 c2 c3 hab hsn
      simp only at c1 c2 c3 hab hsn
      have HSN:=aB hsn
      have z1:IntKind.i64.wrap (u'+ao)=u'+ao:=qQa _ (by omega)
      have z2:IntKind.i64.wrap ((j:Int)+1)=(j:Int)+1:=qQa _ (by unfold maxLen at han;omega)
      clear hsn hz hab hsm
      by_cases hla:la=r
      ·subst hla
       go_wp2_with fail
       go_roundw
       ·exact⟨j+1,(tt:Int),u'+ao,rfl,rfl,by simp,by omega,aB (by rw[HSN.out,if_pos rfl]),aB ((HT5).alloc _)⟩
       ·simp only[intOf];omega
      ·have hla2:(la:Int)≠(r:Int):=by omega
       go_wp2_with fail
       go_roundw
       ·exact⟨j+1,a',u',rfl,rfl,by simp,by omega,aB (by rw[HSN.out,if_neg hla]),aB ((HT5).alloc _)⟩
       ·simp only[intOf];omega
     ·have hje:j=an:=by omega
      subst hje
      have hfull:kI arcs r (-1,u)=(a',u'):=by
       rw[HP.out,qJe (by rw[HA4.2];exact qZc _)]
      have hst:=HSTP.out
      rw[hfull] at hst
      have HST2:=aB (HE.trans hst)
      clear hfull hst
      have z3:IntKind.i64.wrap ((i:Int)+1)=(i:Int)+1:=qQa _ (by omega)
      go_wp2_with fail
      go_roundw
      ·exact⟨i+1,a',u',rfl,rfl,by simp,by omega,by omega,by omega,aB (by omega),aB HST2,aB (HT.then (HT4.then HT5))⟩
      ·simp only[intOf];omega
  ·have hie:i=lq:=by omega
   subst hie
   have hE:=HE.out
   rw[List.drop_of_length_le (by rw[HOL.out];exact qZc _)] at hE
   have hR:=HR.out
   unfold Br at hR
   rw[HRU.out] at hR
   cases ok with
   | false =>
    have hres:R=(0,false):=by rw[<-hR];rfl
    subst hres
    go_wp2_with fail
    exact bodyPost_ret (v:=.tuple #[.int .i64 0,.bool false]) (by simp[results,Tryz.results45,go_sem]) rfl ⟨rfl,HT2.then HT⟩
   | true =>
    simp only[if_true] at hR
    rw[hE] at hR
    simp only[fU,Jd] at hR
    by_cases hneg:a<0
    ·have hres:R=(0,false):=by rw[<-hR,if_pos hneg]
     subst hres
     clear hR hE
     go_wp2_with fail
     exact bodyPost_ret (v:=.tuple #[.int .i64 0,.bool false]) (by simp[results,Tryz.results45,go_sem]) rfl ⟨rfl,HT2.then HT⟩
    ·obtain⟨k,rfl⟩:∃ k:Nat,a=(k:Int):=⟨a.toNat,by omega⟩
     have hk:k<n:=by omega
     have n0:¬ (k:Int)<0:=by omega
     have n1:(0:Int)<=(k:Int):=by omega
     have hb:=HB2.touch HT (λf=>f)
     obtain⟨x3,x4,x5⟩:=hb.facts
     have hsr:=HS2.quiet HT
     obtain⟨g2,o2,hA2,hg2,s0,s1,s2⟩:=jE hsr.rd.rd hsr.len k hk
     have hA3:A=some ⟨g2,o2,none⟩:=hA2
     subst hA3
     have hzm:=cJ Z cH k (by rw[hsr.len];exact hk)
     have hzout:=HSM.out.out _ hzm
     have hgp:(Z.map SV.p).getD ((k:Nat):Int).toNat aY=(Z.getD k cH).p:=by simp[qXb,show k<Z.length by rw[hsr.len];exact hk]
     rw[if_neg n0,hgp] at hR
     obtain⟨⟨fin,out,aA,an,ac,arcs⟩,hz⟩:∃ z,Z.getD k cH=z:=⟨_,rfl⟩
     rw[hz] at s0 s1 s2 hzout hR
     simp only[SV.p] at s0 s1 s2 hzout hR
     have hu:=HU.out
     have z1:IntKind.i64.wrap (u+out)=u+out:=qQa _ (by omega)
     clear hgp hz hzm hsr hb x0 x1
     cases fin with
     | false =>
      have hres:R=(0,false):=by rw[<-hR];rfl
      subst hres
      clear hR hE
      go_wp2_with fail
      exact bodyPost_ret (v:=.tuple #[.int .i64 0,.bool false]) (by simp[results,Tryz.results45,go_sem]) rfl ⟨rfl,HT2.then HT⟩
     | true =>
      have hres:R=(u+out,true):=by rw[<-hR];rfl
      subst hres
      clear hR hE
      go_wp2_with fail
      exact bodyPost_ret (v:=.tuple #[.int .i64 (u+out),.bool true]) (by simp[results,Tryz.results45,go_sem]) rfl ⟨rfl,HT2.then HT⟩
section
variable{w:World}{b:Nat}{L:List aD}{n:Nat}{A:Option Addr}{c:Nat}{Z:List SV}{wA:Option Addr}{wc:Nat}
theorem Qq(hD:aZ L)(bs:List UInt8):Br (aR L).states (((aR L).states.length:Int)-1) (aR L).base bs=bC bs L:=by
 unfold Br
 by_cases he:L=[]
 ·subst he
  cases hr:bZ bs with
  | none=>rfl
  | some x =>
   cases x with
   | nil=>rfl
   | cons r x=>rfl
 ·cases hr:bZ bs with
  | none =>
   have hno:∀ p∈L,p.word.toList≠bs:=λp hp e=>by
    have h1:=(hD.word p hp).1
    rw[e,hr] at h1
    cases h1
   rw[Mg hno]
  | some x =>
   have hpos:0<(aR L).states.length:=by rw[Uk he];exact (aGq hD he).pos
   rw[<-xD hD he bs x hr]
   simp only
   rw[show (((aR L).states.length-1:Nat):Int)=((aR L).states.length:Int)-1 by omega]
theorem Wi(h:It w b L n A c Z wA wc)(hD:aZ L)(hL:cV w)(s:ByteArray)(hs:s.size<=1099511627776) :
  Calls Tryz.prog 45 #[.pointer (some ⟨b,0,none⟩),.string s] w λe w'=>e=.returned (.tuple #[.int .i64 (bC s.toList L).1,.bool (bC s.toList L).2])/\aC (λ_=>False) w w':=by
 have hn:=h.n_len
 have hsm:=yY (eP hD) h.st
 rw[hn] at hsm
 have:=Zg w b (aR L).base A n c Z _ h.wk.blk h.wk.sts hL s hs h.few (lG hD).1 (lG hD).2 hsm
 rw[h.st] at this
 have e:=Qq hD s.toList
 rw[hn] at e
 rw[e] at this
 exact this
end
def aE.val(r:aE):Value:=.agg #[.string r.word,.int .i64 r.weight,.int .i64 r.dist]
structure aE.WfB(r:aE):Prop where
 word:r.word.size<=maxLen
 w1 : -9223372036854775808<=r.weight
 w2:r.weight<=9223372036854775807
 d1 : -9223372036854775808<=r.dist
 d2:r.dist<=9223372036854775807
theorem aCi(a b:ByteArray)(w:World) :
  Calls Tryz.prog 82 #[.string a,.string b] w λe w'=>e=.returned (.bool (Op.bytesLess a.toList b.toList))/\w=w':=by
 go_in
 go_wp2
 go_ret
 exact⟨rfl,rfl⟩
theorem qY(a b:aE)(w:World) :
  Calls Tryz.prog 154 #[a.val,b.val] w λe w'=>e=.returned (.bool (cD a b))/\aC (λ_=>False) w w':=by
 obtain⟨aw,an,ad⟩:=a
 obtain⟨bw,bn,bd⟩:=b
 unfold aE.val cD
 have b1:=(aL.new w 43 #[.string aw,.int .i64 an,.int .i64 ad]).alloc (.cells #[.string bw,.int .i64 bn,.int .i64 bd] 43)
 have b2:=iA w (.cells #[.string aw,.int .i64 an,.int .i64 ad] 43) 43 #[.string bw,.int .i64 bn,.int .i64 bd]
 obtain⟨k1,k2,k3⟩:=b1.facts
 obtain⟨l1,l2,l3⟩:=b2.facts
 clear b1 b2
 by_cases h1:ad=bd
 ·have g1:(ad != bd)=false:=by simp[h1]
  by_cases h2:an=bn
  ·have g2:(an != bn)=false:=by simp[h2]
   have H1:=aB h1
   have H2:=aB h2
   clear h1 h2
   go_in
   go_wp2_with (go_at_call 82;refine (aCi aw bw _).mono ?_;rintro e w2 ⟨rfl,rfl⟩)
   go_ret
   exact⟨by simp,((aC.refl _ _).alloc _).alloc _⟩
  ·have g2:(an != bn)=true:=by simp[h2]
   have H1:=aB h1
   have H2:=aB h2
   clear h1 h2
   go_in
   go_wp2
   go_ret
   exact⟨by simp,((aC.refl _ _).alloc _).alloc _⟩
 ·have g1:(ad != bd)=true:=by simp[h1]
  have H1:=aB h1
  clear h1
  go_in
  go_wp2
  go_ret
  exact⟨by simp,((aC.refl _ _).alloc _).alloc _⟩
theorem yT(a b:aE)(ha:a.WfB)(hb:b.WfB)(w:World) :
  Calls Tryz.prog 16 #[a.val,b.val] w λe w'=>e=.returned (.bool (cD a b))/\aC (λ_=>False) w w':=by
 obtain⟨aw,an,ad⟩:=a
 obtain⟨bw,bn,bd⟩:=b
 unfold aE.val cD
 have b1:=(aL.new w 43 #[.string aw,.int .i64 an,.int .i64 ad]).alloc (.cells #[.string bw,.int .i64 bn,.int .i64 bd] 43)
 have b2:=iA w (.cells #[.string aw,.int .i64 an,.int .i64 ad] 43) 43 #[.string bw,.int .i64 bn,.int .i64 bd]
 obtain⟨k1,k2,k3⟩:=b1.facts
 obtain⟨l1,l2,l3⟩:=b2.facts
 have HA:=aB ha.word
 have HB:=aB hb.word
 clear b1 b2 ha hb
 by_cases h1:ad=bd
 ·have g1:(ad != bd)=false:=by simp[h1]
  by_cases h2:an=bn
  ·have g2:(an != bn)=false:=by simp[h2]
   have H1:=aB h1
   have H2:=aB h2
   clear h1 h2
   go_in
   go_wp2_with (go_at_call 46;refine (vZ aw bw HA HB _).mono ?_;rintro e w2 ⟨rfl,hc⟩;have HC:=aB hc;clear hc)
   go_ret
   exact⟨by simp,(((aC.refl _ _).alloc _).alloc _).then HC⟩
  ·have g2:(an != bn)=true:=by simp[h2]
   have H1:=aB h1
   have H2:=aB h2
   clear h1 h2
   go_in
   go_wp2
   go_ret
   exact⟨by simp,((aC.refl _ _).alloc _).alloc _⟩
 ·have g1:(ad != bd)=true:=by simp[h1]
  have H1:=aB h1
  clear h1
  go_in
  go_wp2
  go_ret
  exact⟨by simp,((aC.refl _ _).alloc _).alloc _⟩
theorem wR:(Tryz.prog.info? 43).map (λi=>(i.zero,i.size,i.bytes))=some (some (.agg #[.string ByteArray.empty,.int .i64 0,.int .i64 0]),3,32):=by kernel_rfl
theorem sO(r:aE):(aE.cells r).length=3:=rfl
theorem kL(X:List aE)(k:Nat)(hk:k<X.length)(j:Nat)(hj:j<3):(aW X)[k*3+j]? = (X.getD k aE.zero).cells[j]? := by
 have e:X.getD k aE.zero=X[k]:=by simp[qXb,hk]
 rw[e]
 exact pB aE.cells 3 sO X k j hk hj
theorem fZ{X:List aE}(h:aH w 3 A n (aW X))(hn:n=X.length)(k:Nat)(hk:k<n) :
  ∃ g off,A=some ⟨g,off,none⟩/\g<w.heap.size/\w.cell? ⟨g,off+k*3,none⟩=some (.string (X.getD k aE.zero).word)/\w.cell? ⟨g,off+k*3+1,none⟩=some (.int .i64 (X.getD k aE.zero).weight) /\
   w.cell? ⟨g,off+k*3+2,none⟩=some (.int .i64 (X.getD k aE.zero).dist):=by
 subst hn
 obtain⟨b,off,hA,hb,hc⟩:=h.2 (by omega)
 refine⟨b,off,hA,hb,?_,?_,?_⟩
 ·exact hc (k*3) _ (kL X k hk 0 (by omega))
 ·rw[Nat.add_assoc];exact hc (k*3+1) _ (kL X k hk 1 (by omega))
 ·rw[Nat.add_assoc];exact hc (k*3+2) _ (kL X k hk 2 (by omega))
theorem Ni(w:World)(A:Option Addr)(n c:Nat)(_hn:n<=maxLen) :
  Calls Tryz.prog 218 #[.slice A n c] w λe w'=>e=.returned (.int .i64 n)/\w=w':=by
 unfold maxLen at _hn
 go_in
 go_wp2
 go_ret
 exact⟨rfl,rfl⟩
theorem gQ(w:World)(A:Option Addr)(n c:Nat)(X:List aE)(hX:n=X.length)(h:aH w 3 A n (aW X))(_hn:n<=maxLen)(i j:Nat)(hi:i<n)(hj:j<n) :
  Calls Tryz.prog 219 #[.slice A n c,.int .i64 i,.int .i64 j] w λe w'=>e=.returned (.bool (cD (X.getD j aE.zero) (X.getD i aE.zero)))/\aC (λ_=>False) w w':=by
 unfold maxLen at _hn
 obtain⟨g,off,rfl,hg,a0,a1,a2⟩:=fZ h hX i hi
 obtain⟨g',off',hA,_,b0,b1,b2⟩:=fZ h hX j hj
 injection hA with hA
 injection hA with h1 h2
 subst h1 h2
 obtain⟨⟨xw,xn,xd⟩,hx⟩:∃ x,x=X.getD i aE.zero:=⟨_,rfl⟩
 obtain⟨⟨yw,yn,yd⟩,hy⟩:∃ x,x=X.getD j aE.zero:=⟨_,rfl⟩
 rw[<-hx] at a0 a1 a2 ⊢
 rw[<-hy] at b0 b1 b2 ⊢
 simp only at a0 a1 a2 b0 b1 b2
 have HX:=aB h
 clear hx hy h hX
 have i0:(0:Int)<=(i:Int):=by omega
 have i1:(i:Int)<(n:Int):=by omega
 have j0:(0:Int)<=(j:Int):=by omega
 have j1:(j:Int)<(n:Int):=by omega
 go_in
 go_wp2
 go_still_tail 8,(by kernel_rfl)
 change wpList _ _ _ _ _ w.drew
 have HT:Hid (aC (λ_=>False) w w.drew):=aB (aC.refl _ _).drew
 generalize w.drew=w2 at HT ⊢
 go_wp2_with (go_at_call 154;refine (qY ⟨yw,yn,yd⟩ ⟨xw,xn,xd⟩ _).mono ?_;rintro e w3 ⟨rfl,hc⟩;have HC:=aB hc;clear hc)
 go_ret
 exact⟨rfl,HT.then HC⟩
theorem Cu{X:List aE}(h:w.ownsRow 0 43 3 (.slice A n c) n (aW X))(hn:n=X.length)(k:Nat)(hk:k<n) :
  ∃ g,A=some ⟨g,0,none⟩/\g<w.heap.size/\w.cell? ⟨g,k*3,none⟩=some (.string (X.getD k aE.zero).word)/\w.cell? ⟨g,k*3+1,none⟩=some (.int .i64 (X.getD k aE.zero).weight) /\
   w.cell? ⟨g,k*3+2,none⟩=some (.int .i64 (X.getD k aE.zero).dist)/\w.frozen? ⟨g,k*3,none⟩=false/\w.frozen? ⟨g,k*3+1,none⟩=false/\w.frozen? ⟨g,k*3+2,none⟩=false:=by
 subst hn
 obtain⟨g,cap,hv,_,_,hg,hc,hf⟩:=eZ h (by omega)
 injection hv with hA' _ _
 exact⟨g,hA',hg,hc (k*3) _ (kL X k hk 0 (by omega)),hc (k*3+1) _ (kL X k hk 1 (by omega)),hc (k*3+2) _ (kL X k hk 2 (by omega)),hf _,hf _,hf _⟩
theorem aLk(X:List aE)(k:Nat)(r:aE):(((aW X).set (k*3) (.string r.word)).set (k*3+1) (.int .i64 r.weight)).set (k*3+2) (.int .i64 r.dist)=aW (X.set k r):=by
 induction X generalizing k with
 | nil=>simp[aW]
 | cons x X ih =>
  cases k with
  | zero=>simp[aW,aE.cells]
  | succ k =>
   have:=ih k
   simp only[aW,List.flatMap_cons,List.set_cons_succ] at this ⊢
   rw[<-this]
   simp only[aE.cells,qZb,qQb,Nat.succ_mul]
   rw[show k*3+3=(k*3)+1+1+1 by omega,show k*3+1+1+1+1=(k*3+1)+1+1+1 by omega,show k*3+1+1+1+2=(k*3+2)+1+1+1 by omega]
   simp only[List.set_cons_succ]
theorem Cv{X:List aE}(h:w.ownsRow 0 43 3 (.slice (some ⟨g,0,none⟩) n c) n (aW X))(k:Nat)(r:aE) :
  (((w.setCell ⟨g,k*3,none⟩ (.string r.word)).setCell ⟨g,k*3+1,none⟩ (.int .i64 r.weight)).setCell ⟨g,k*3+2,none⟩ (.int .i64 r.dist)).ownsRow 0 43 3 (.slice (some ⟨g,0,none⟩) n c) n (aW (X.set k r)):=by
 rw[<-aLk]
 exact dS (dS (dS h _ _) _ _) _ _
theorem oN(w:World)(A:Option Addr)(n c:Nat)(X:List aE)(hX:n=X.length)(h:w.ownsRow 0 43 3 (.slice A n c) n (aW X))(i j:Nat)(hi:i<n)(hj:j<n) :
  Calls Tryz.prog 220 #[.slice A n c,.int .i64 i,.int .i64 j] w λe w'=>e=.returned (.tuple #[])/\w'.ownsRow 0 43 3 (.slice A n c) n (aW (pL X i j))/\aC (λg=>aJ A=some g) w w':=by
 obtain⟨g,rfl,hg,a0,a1,a2,f0,f1,f2⟩:=Cu h hX i hi
 obtain⟨g',hA,_,b0,b1,b2,f3,f4,f5⟩:=Cu h hX j hj
 have hn:=dR h
 injection hA with hA
 injection hA with h1 h2
 subst h1
 have HX:=aB h
 obtain⟨⟨xw,xn,xd⟩,hx⟩:∃ x,x=X.getD i aE.zero:=⟨_,rfl⟩
 obtain⟨⟨yw,yn,yd⟩,hy⟩:∃ x,x=X.getD j aE.zero:=⟨_,rfl⟩
 rw[<-hx] at a0 a1 a2
 rw[<-hy] at b0 b1 b2
 simp only at a0 a1 a2 b0 b1 b2
 have EX:=aB hx
 have EY:=aB hy
 clear hx hy h hX
 unfold maxLen at hn
 have i0:(0:Int)<=(i:Int):=by omega
 have i1:(i:Int)<(n:Int):=by omega
 have j0:(0:Int)<=(j:Int):=by omega
 have j1:(j:Int)<(n:Int):=by omega
 go_in
 obtain⟨v0,s0⟩:=cell?_setCell_some (p:=⟨g,i*3,none⟩) (x:=.string yw) b0
 obtain⟨v1,s1⟩:=cell?_setCell_some (p:=⟨g,i*3,none⟩) (x:=.string yw) b1
 obtain⟨v1,s1⟩:=cell?_setCell_some (p:=⟨g,i*3+1,none⟩) (x:=.int .i64 yn) s1
 obtain⟨v2,s2⟩:=cell?_setCell_some (p:=⟨g,i*3,none⟩) (x:=.string yw) b2
 obtain⟨v2,s2⟩:=cell?_setCell_some (p:=⟨g,i*3+1,none⟩) (x:=.int .i64 yn) s2
 obtain⟨v2,s2⟩:=cell?_setCell_some (p:=⟨g,i*3+2,none⟩) (x:=.int .i64 yd) s2
 go_region
 all_goals go_wp2
 go_end0
 have HS:=Cv (Cv HX i ⟨yw,yn,yd⟩) j ⟨xw,xn,xd⟩
 have e:pL X i j=(X.set i ⟨yw,yn,yd⟩).set j ⟨xw,xn,xd⟩:=by unfold pL;rw[<-EX.out,<-EY.out]
 rw[e]
 refine⟨rfl,aF (S:=λ_=>False) HS (aC.refl _ _).drew (λ_ _ f=>f),?_⟩
 refine aC.drew ?_
 iterate 6 refine aC.setCell ?_ (λ_=>(rfl:aJ (some ⟨g,0,none⟩)=some g)) _
 exact aC.refl _ _
structure Ep(w:World)(p:Nat)(most:Int)(v:Value)(X:List aE):Prop where
 blk:aL w p 264 #[.int .i64 most,v]
 own:w.ownsRow 0 43 3 v X.length (aW X)
def Cx(p:Nat)(v:Value):Nat->Prop:=λg=>g=p\/v.ownBlock=some g
theorem Ep.touch{p:Nat}{most:Int}{v:Value}{X:List aE}(h:Ep w p most v X)(ht:aC S w w')(hs:∀ g,g<w.heap.size->Cx p v g->¬ S g):Ep w' p most v X:=by
 refine⟨h.blk.touch ht (hs p h.blk.lt (.inl rfl)),aF h.own ht (λg hg=>hs g ?_ (.inr hg))⟩
 rcases h.own.2 with⟨rfl,_⟩ | ⟨g',cap,cur,rfl,_,hgg,_⟩
 ·simp[Value.ownBlock] at hg
 ·simp[Value.ownBlock] at hg
  subst hg
  exact (Array.getElem?_eq_some_iff.1 hgg).1
theorem Ep.quiet{p:Nat}{most:Int}{v:Value}{X:List aE}(h:Ep w p most v X)(ht:aC (λ_=>False) w w'):Ep w' p most v X:=h.touch ht (λ_ _ _ f=>f)
def pth(p:Nat):Value:=.iface 266 (.pointer (some ⟨p,1,none⟩))
theorem Xq(n:Nat)(a:Addr)(w:World):(method (n+1) 266 (.pointer (some a)) "Push").run Tryz.prog w=.ok (222,.pointer (some a)) w:=by kernel_rfl
theorem Xp(n:Nat)(a:Addr)(w:World):(method (n+1) 266 (.pointer (some a)) "Len").run Tryz.prog w=(loadVar 262 a >>= λv=>pure (218,v)).run Tryz.prog w:=by
 unfold method
 kernel_rfl
theorem Rm(n:Nat)(a:Addr)(w:World):(method (n+1) 266 (.pointer (some a)) "Swap").run Tryz.prog w=(loadVar 262 a >>= λv=>pure (220,v)).run Tryz.prog w:=by
 unfold method
 kernel_rfl
theorem Rl(n:Nat)(a:Addr)(w:World):(method (n+1) 266 (.pointer (some a)) "Less").run Tryz.prog w=(loadVar 262 a >>= λv=>pure (219,v)).run Tryz.prog w:=by
 unfold method
 kernel_rfl
theorem aCr(n:Nat)(a:Addr)(w:World):(method (n+1) 266 (.pointer (some a)) "Pop").run Tryz.prog w=.ok (221,.pointer (some a)) w:=by kernel_rfl
theorem wW(a:Addr)(w:World)(v:Value)(f:FuncId)(hc:w.cell? a=some v):(loadVar 262 a >>= λv=>pure (f,v)).run Tryz.prog w=.ok (f,v) w:=by
 have h:(isAgg 262).run Tryz.prog w=.ok false w:=by kernel_rfl
 simp[loadVar,h,hc]
theorem Mx(n:Nat)(a:Addr)(w:World)(v:Value)(hc:w.cell? a=some v):(method (n+1) 266 (.pointer (some a)) "Len").run Tryz.prog w=.ok (218,v) w:=(Xp n a w).trans (wW a w v _ hc)
theorem gP(n:Nat)(a:Addr)(w:World)(v:Value)(hc:w.cell? a=some v):(method (n+1) 266 (.pointer (some a)) "Swap").run Tryz.prog w=.ok (220,v) w:=(Rm n a w).trans (wW a w v _ hc)
theorem gO(n:Nat)(a:Addr)(w:World)(v:Value)(hc:w.cell? a=some v):(method (n+1) 266 (.pointer (some a)) "Less").run Tryz.prog w=.ok (219,v) w:=(Rl n a w).trans (wW a w v _ hc)
theorem uB(cs:Array Value)(w:World):(Instr.typeAssert (.iface 43 (.agg cs)) 20 43 false).run Tryz.prog w=.ok (.agg cs) w:=by kernel_rfl
theorem lO(m:aE):m.val=.agg #[.string m.word,.int .i64 m.weight,.int .i64 m.dist]:=rfl
theorem Yi(w:World)(p:Nat)(most:Int)(v:Value)(X:List aE)(h:Ep w p most v X)(hX:X.length<=64)(m:aE) :
  Calls Tryz.prog 222 #[.pointer (some ⟨p,1,none⟩),.iface 43 m.val] w λe w' =>
   e=.returned (.tuple #[])/\∃ v',Ep w' p most v' (X++[m])/\aC (Cx p v) w w'/\cK w v v':=by
 obtain⟨hb,ho⟩:=h
 obtain⟨A,c,hv,_,hc⟩:=aS ho
 have c1:=hb.cell 1
 have f1:=hb.frozen 1
 simp at c1
 have hp:=hb.lt
 have HO:=aB ho
 have HB:=aB hb
 subst hv
 clear ho hb
 obtain⟨i0,hi,hz0,hz1,hz2⟩:=aQ wR
 obtain⟨mw,mn,md⟩:=m
 rw[lO]
 simp only
 have ta:=uB #[.string mw,.int .i64 mn,.int .i64 md]
 go_in
 go_region_law (refine step_append_lies _ rfl (.tmp 7) (.tmp 10) 262 rfl 0 43 i0 _ 3 32 Tryz.underlying262 hi hz0 hz1 hz2 (by decide) (by decide) (.slice A X.length c) X.length (aW X) (by simp[Act.eval]) ?own ⟨w.heap.size,0,none⟩ 1 1 (aE.cells ⟨mw,mn,md⟩) (by simp[Act.eval]) rfl ?news ?one (by decide) ?b1 ?b2 (Nat.zero_le _) _ rfl ?_;(case own=>exact aF HO ((aC.refl _ _).alloc _).drew (λ_ _ f=>f));(case news=>exact World.news_of_block (aL.new w _ _));(case one=>exact List.all_eq_true.1 rfl);(case b1=>unfold maxLen;omega);(case b2=>omega);intro g cap w1 hown hgrow hlies hsz;have hgr:(w.alloc (.cells #[.string mw,.int .i64 mn,.int .i64 md] 43)).drew.grownBy w1 (Value.slice A X.length c).ownBlock:=hgrow;clear hgrow;have hb1:aL w1 p 264 #[.int .i64 most,.slice A X.length c]:=(HB.alloc _).drew.grown hgr (λe=>bY HO HB (by decide) e.symm);obtain⟨k1,k2,k3⟩:=hb1.facts;have HOW:=aB hown;have HG:=aB hgr;have HL:=aB hlies;have HB1:=aB hb1;clear hown hgr hlies hb1)
 all_goals go_end0
 all_goals refine⟨rfl,.slice (some ⟨g,0,none⟩) (X.length+1) cap,⟨HB1.set_ 1 _,?_⟩,?_,?_⟩
 any_goals
  have e1:(X++[(⟨mw,mn,md⟩:aE)]).length=X.length+1:=by simp
  have e2:aW (X++[(⟨mw,mn,md⟩:aE)])=aW X++aE.cells ⟨mw,mn,md⟩:=by simp[aW]
  first
   | exact (by rw[e1,e2];exact cO (Hid.out HOW) (bY (Hid.out HOW) (Hid.out HB1) (by decide)) _)
   | exact ((((aC.refl _ _).alloc _).drew.app HG (λg' hg' _=>.inr hg')).setCell (λ_=>.inl rfl) _)
   | exact (by
     rcases HL.out with e | e
     ·exact .inl e.symm
     ·exact .inr ⟨g,rfl,by rw[e];simp⟩)
theorem aHd{base:Nat}{e:TypeId}{size:Nat}{xs:List Value}(h:w.ownsRow base e size (.slice A (n+1) c) (n+1) xs) :
  w.ownsRow base e size (.slice A n c) n (xs.take (n*size)):=by
 refine⟨by rw[List.length_take,h.1];exact Nat.min_eq_left (Nat.mul_le_mul_right _ (by omega)),?_⟩
 rcases h.2 with⟨h0,_⟩ | ⟨g',cap',cur,hv,hge,hgg,hle,hm,hsz,ht⟩
 ·cases h0
 ·injection hv with ha _ hc
  subst ha hc
  refine .inr ⟨g',c,cur,rfl,hge,hgg,by omega,hm,hsz,?_⟩
  rw[<-ht,List.take_take,Nat.min_eq_left (Nat.mul_le_mul_right _ (by omega))]
theorem qQ(X:List aE)(n:Nat):(aW X).take (n*3)=aW (X.take n):=by
 induction X generalizing n with
 | nil=>simp[aW]
 | cons x X ih =>
  cases n with
  | zero=>simp[aW]
  | succ n =>
   simp only[aW,List.flatMap_cons,List.take_succ_cons] at ih ⊢
   rw[List.take_append,sO,qJe (by rw[sO];omega),show (n+1)*3-3=n*3 by omega,ih]
theorem aDe(w:World)(p:Nat)(most:Int)(v:Value)(X:List aE)(n:Nat)(hX:X.length=n+1)(h:Ep w p most v X) :
  Calls Tryz.prog 221 #[.pointer (some ⟨p,1,none⟩)] w λe w' =>
   e=.returned (.iface 43 (X.getD n aE.zero).val)/\∃ v',Ep w' p most v' (X.take n)/\aC (Cx p v) w w'/\v'.ownBlock=v.ownBlock:=by
 obtain⟨hb,ho⟩:=h
 rw[hX] at ho
 obtain⟨A,c,hv,_,hc⟩:=aS ho
 subst hv
 have hlen:n+1<=maxLen:=dR ho
 obtain⟨g,rfl,hg,a0,a1,a2,_,_,_⟩:=Cu ho hX.symm n (by omega)
 have c1:=hb.cell 1
 have f1:=hb.frozen 1
 simp at c1
 have hp:=hb.lt
 have HO:=aB ho
 have HB:=aB hb
 have HX:=aB hX
 clear ho hb hX
 unfold maxLen at hc hlen
 obtain⟨⟨xw,xn,xd⟩,hx⟩:∃ x,x=X.getD n aE.zero:=⟨_,rfl⟩
 rw[<-hx] at a0 a1 a2 ⊢
 simp only at a0 a1 a2
 rw[lO]
 simp only
 clear hx
 have i0:(0:Int)<=(n:Int):=by omega
 have i1:((n+1:Nat):Int)-1=(n:Int):=by omega
 have i2:(n:Int)<((n+1:Nat):Int):=by omega
 go_in
 go_wp2
 go_ret
 refine⟨rfl,.slice (some ⟨g,0,none⟩) n c,⟨(HB.set_ 1 _).alloc _,?_⟩,((aC.refl _ _).setCell (λ_=>.inl rfl) _).alloc _,rfl⟩
 rw[<-qQ,show (X.take n).length=n by rw[List.length_take,HX.out];omega]
 refine aF (S:=λ_=>False) ?_ ((aC.refl _ _).alloc _) (λ_ _ f=>f)
 refine cO (aHd HO) ?_ _
 have h:=bY (Hid.out HO) (Hid.out HB) (by decide)
 exact h
theorem aEu(f:Nat)(X:List aE)(j:Nat):Th (f+1) X j=if j=0 then X else if cD (X.getD ((j-1) / 2) aE.zero) (X.getD j aE.zero)=true then Th f (pL X ((j-1) / 2) j) ((j-1) / 2) else X:=rfl
theorem fN(f:Nat)(X:List aE)(i n:Nat):fE (f+1) X i n=if n<=2*i+1 then X else if cD (X.getD i aE.zero) (X.getD (Ci X i n) aE.zero)=true then fE f (pL X i (Ci X i n)) (Ci X i n) n else X:=rfl
theorem nM:aJ A=some g↔(Value.slice A n c).ownBlock=some g:=by
 cases A<;>simp[aJ,Value.ownBlock]
theorem aJu(w:World)(p:Nat)(most:Int)(v:Value)(X:List aE)(h:Ep w p most v X)(hX:X.length<=65)(j:Nat)(hj:j<X.length) :
  Calls Tryz.prog 182 #[pth p,.int .i64 j] w λe w'=>e=.returned (.tuple #[])/\Ep w' p most v (Th X.length X j)/\aC (Cx p v) w w':=by
 unfold pth
 go_in
 go_wp2
 go_loopw [1] (λi wr=>∃ (k:Nat) (Y:List aE),k<Y.length/\Y.length=X.length/\i=.int .i64 k/\Hid (∃ f,k<=f/\Th f Y k=Th X.length X j)/\Hid (Ep wr p most v Y/\aC (Cx p v) w wr)) (λi _=>(intOf i).toNat)
 case atStart=>exact⟨j,X,hj,rfl,rfl,aB ⟨X.length,by omega,rfl⟩,aB ⟨h,aC.refl _ _⟩⟩
 case round =>
  obtain⟨k,Y,hk,hY,rfl,HU,HP⟩:=hrel
  have c1:=HP.1.blk.cell 1
  simp at c1
  by_cases h0:k=0
  ·subst h0
   have q0:Int.tdiv (((0:Nat):Int)-1) 2=0:=by decide
   go_wp2
   go_end0
   obtain⟨f,_,hf⟩:=HU.out
   have e:Th f Y 0=Y:=by cases f<;>simp[Th]
   rw[<-hf,e]
   exact⟨rfl,HP⟩
  ·obtain⟨m,hm⟩:=eX ((k-1) / 2)
   have q0:Int.tdiv ((k:Int)-1) 2=(m:Int):=by rw[Int.tdiv_eq_ediv_of_nonneg (by omega)];omega
   have q1:((m:Int) == (k:Int))=false:=by simp;omega
   have HM:=aB hm
   have hmk:m<k:=by omega
   clear hm
   have ml:(method 422 266 (.pointer (some ⟨p,1,none⟩)) "Less").run Tryz.prog wr=.ok (219,v) wr:=gO 421 _ wr v c1
   obtain⟨A,c,rfl,_,hc⟩:=aS (hY ▸ HP.1.own)
   have O1:Hid (wr.ownsRow 0 43 3 (.slice A X.length c) X.length (aW Y)):=aB (hY ▸ HP.1.own)
   have hkX:k<X.length:=by omega
   cases hb:cD (Y.getD m aE.zero) (Y.getD k aE.zero) with
   | false =>
    have HB:=aB hb
    clear hb
    go_wp2_with (go_at_call 219;refine (gQ wr A X.length c Y hY.symm (aH.of_own O1.out) (dR O1.out) k m hkX (qJc hmk hkX)).mono ?_;rintro e w2 ⟨rfl,hc2⟩;have C2:=aB hc2;clear hc2;rw[HB.out])
    go_end0
    obtain⟨f,hkf,hf⟩:=HU.out
    have e:Th f Y k=Y:=by
     cases f with
     | zero=>omega
     | succ f=>unfold Th;rw[if_neg h0,<-HM.out,HB.out];simp
    rw[<-hf,e]
    exact⟨rfl,HP.1.quiet C2.out,HP.2.then (C2.out.up _)⟩
   | true =>
    have HB:=aB hb
    clear hb
    go_wp2_with (first
     | (go_at_call 219;refine (gQ wr A X.length c Y hY.symm (aH.of_own O1.out) (dR O1.out) k m hkX (qJc hmk hkX)).mono ?_;rintro e w2 ⟨rfl,hc2⟩;have C2:=aB hc2;have P2:=aB (HP.1.quiet hc2);have c2:=P2.out.blk.cell 1;simp at c2;have ms:(method 422 266 (.pointer (some ⟨p,1,none⟩)) "Swap").run Tryz.prog w2=.ok (220,.slice A X.length c) w2:=gP 421 _ w2 _ c2;clear hc2;rw[HB.out])
     | (go_at_call 220;refine (oN w2 A X.length c Y hY.symm (hY ▸ P2.out.own) m k (qJc hmk hkX) hkX).mono ?_;rintro e w3 ⟨rfl,ho3,hc3⟩;have C3:=aB hc3;have O3:=aB ho3;clear hc3 ho3))
    go_roundw
    ·refine⟨m,pL Y m k,by rw[dC];exact qJc hmk hk,by rw[dC];exact hY,rfl,aB ?_,aB ⟨⟨P2.out.blk.touch C3.out (λe=>?_),?_⟩,(HP.2.then (C2.out.up _)).then (C3.out.mono (λg _ hg=>.inr ?_))⟩⟩
     ·obtain⟨f,hkf,hf⟩:=HU.out
      cases f with
      | zero=>omega
      | succ f =>
       refine⟨f,by omega,?_⟩
       rw[aEu] at hf
       rw[if_neg h0,<-HM.out,if_pos HB.out] at hf
       exact hf
     ·exact bY O1.out HP.1.blk (by decide) (nM.1 e)
     ·rw[dC,hY]
      exact O3.out
     ·exact nM.1 hg
    ·show (intOf (.int .i64 (m:Int))).toNat<(intOf (.int .i64 (k:Int))).toNat
     simp[intOf]
     exact hmk
theorem aBb(w:World)(p:Nat)(most:Int)(v:Value)(X:List aE)(h:Ep w p most v X)(hX:X.length<=65)(n:Nat)(hn:n<=X.length) :
  Calls Tryz.prog 181 #[pth p,.int .i64 0,.int .i64 n] w λe w'=>(∃ b,e=.returned (.bool b))/\Ep w' p most v (fE X.length X 0 n)/\aC (Cx p v) w w':=by
 unfold pth
 go_in
 go_wp2
 go_loopw [7] (λi wr=>∃ (k:Nat) (Y:List aE),k<=65/\Y.length=X.length/\i=.int .i64 k/\Hid (∃ f,n<=f+k/\fE f Y k n=fE X.length X 0 n)/\Hid (Ep wr p most v Y/\aC (Cx p v) w wr)) (λi _=>65-(intOf i).toNat)
 case atStart=>exact⟨0,X,Nat.zero_le _,rfl,rfl,aB ⟨X.length,by omega,rfl⟩,aB ⟨h,aC.refl _ _⟩⟩
 case round =>
  obtain⟨k,Y,hk,hY,rfl,HU,HP⟩:=hrel
  have c1:=HP.1.blk.cell 1
  simp at c1
  obtain⟨m,hm⟩:=eX (2*k+1)
  have q0:(2:Int)*(k:Int)+1=(m:Int):=by omega
  have q1:(m:Int)<=200:=by omega
  by_cases h0:n<=m
  ·have HM:=aB hm
   clear hm
   have q2:decide ((n:Int)<=(m:Int))=true:=by simp;omega
   go_wp2
   go_ret
   obtain⟨f,hkf,hf⟩:=HU.out
   have e:fE f Y k n=Y:=by
    cases f with
    | zero=>rfl
    | succ f=>rw[fN,if_pos (by rw[<-HM.out];exact h0)]
   rw[<-hf,e]
   exact⟨⟨_,rfl⟩,HP⟩
  ·have q2:decide ((n:Int)<=(m:Int))=false:=by simp;omega
   have hmX:m<X.length:=by omega
   have hkX:k<X.length:=by omega
   have hk65:k<65:=by omega
   have hmk:k<m:=by omega
   have hm65:m<=65:=by omega
   have HM:=aB hm
   clear hm
   have q3:decide ((m:Int)<0)=false:=by simp
   obtain⟨A,c,rfl,_,hc⟩:=aS (hY ▸ HP.1.own)
   have O1:Hid (wr.ownsRow 0 43 3 (.slice A X.length c) X.length (aW Y)):=aB (hY ▸ HP.1.own)
   have P0:=aB HP.1
   have ml0:(method 422 266 (.pointer (some ⟨p,1,none⟩)) "Less").run Tryz.prog wr=.ok (219,.slice A X.length c) wr:=gO 421 _ wr _ c1
   obtain⟨m2,hm2⟩:=eX (m+1)
   have r0:(m:Int)+1=(m2:Int):=by omega
   have hmm:m<m2:=by omega
   have HM2:=aB hm2
   clear hm2
   by_cases h2:m2<n
   ·have q4:decide ((m2:Int)<(n:Int))=true:=by simp;omega
    have hm2X:m2<X.length:=by omega
    cases hb:cD (Y.getD m aE.zero) (Y.getD m2 aE.zero) with
    | true =>
     have KD:Hid (Ci Y k n=m2):=aB (by unfold Ci;rw[show 2*k+2=m2 by rw[HM2.out,HM.out],<-HM.out,if_pos ⟨h2,hb⟩])
     have B0:=aB hb
     clear hb
     go_wp2_with fail
     refine (gQ wr A X.length c Y hY.symm (aH.of_own (hY ▸ P0.out.own)) (dR O1.out) m2 m hm2X hmX).mono ?_
     rintro e w1 ⟨rfl,hc⟩
     have C0:=aB hc
     have P1:=aB (P0.out.quiet hc)
     have c1:=P1.out.blk.cell 1
     simp at c1
     have ml1:(method 422 266 (.pointer (some ⟨p,1,none⟩)) "Less").run Tryz.prog w1=.ok (219,.slice A X.length c) w1:=gO 421 _ w1 _ c1
     have ms1:(method 422 266 (.pointer (some ⟨p,1,none⟩)) "Swap").run Tryz.prog w1=.ok (220,.slice A X.length c) w1:=gP 421 _ w1 _ c1
     clear hc
     rw[B0.out]
     cases hd:cD (Y.getD k aE.zero) (Y.getD m2 aE.zero) with
     | false =>
      have BD:=aB hd
      clear hd
      go_wp2_with fail
      refine (gQ w1 A X.length c Y hY.symm (aH.of_own (hY ▸ P1.out.own)) (dR O1.out) m2 k hm2X hkX).mono ?_
      rintro e wd ⟨rfl,hc⟩
      have C1:=aB hc
      have P2:=aB (P1.out.quiet hc)
      have c2:=P2.out.blk.cell 1
      simp at c2
      have ml2:(method 422 266 (.pointer (some ⟨p,1,none⟩)) "Less").run Tryz.prog wd=.ok (219,.slice A X.length c) wd:=gO 421 _ wd _ c2
      have ms2:(method 422 266 (.pointer (some ⟨p,1,none⟩)) "Swap").run Tryz.prog wd=.ok (220,.slice A X.length c) wd:=gP 421 _ wd _ c2
      clear hc
      rw[BD.out]
      go_wp2
      go_ret
      obtain⟨f,hkf,hf⟩:=HU.out
      have e:fE f Y k n=Y:=by
       cases f with
       | zero=>omega
       | succ f=>rw[fN,if_neg (by rw[<-HM.out];omega),KD.out,BD.out];simp
      rw[<-hf,e]
      exact⟨⟨_,rfl⟩,P2.out,((HP.2.then (C0.out.up _)).then (C1.out.up _))⟩
     | true =>
      have BD:=aB hd
      clear hd
      go_wp2_with fail
      refine (gQ w1 A X.length c Y hY.symm (aH.of_own (hY ▸ P1.out.own)) (dR O1.out) m2 k hm2X hkX).mono ?_
      rintro e wd ⟨rfl,hc⟩
      have C1:=aB hc
      have P2:=aB (P1.out.quiet hc)
      have c2:=P2.out.blk.cell 1
      simp at c2
      have ml2:(method 422 266 (.pointer (some ⟨p,1,none⟩)) "Less").run Tryz.prog wd=.ok (219,.slice A X.length c) wd:=gO 421 _ wd _ c2
      have ms2:(method 422 266 (.pointer (some ⟨p,1,none⟩)) "Swap").run Tryz.prog wd=.ok (220,.slice A X.length c) wd:=gP 421 _ wd _ c2
      clear hc
      rw[BD.out]
      go_wp2_with (go_at_call 220;refine (oN wd A X.length c Y hY.symm (hY ▸ P2.out.own) k m2 hkX hm2X).mono ?_;rintro e w3 ⟨rfl,ho3,hc3⟩;have C9:=aB hc3;have O3:=aB ho3;clear hc3 ho3)
      go_roundw
      ·refine⟨m2,pL Y k m2,by omega,by rw[dC];exact hY,by simp,aB ?_,aB ⟨⟨P2.out.blk.touch C9.out (λe=>?_),?_⟩,((HP.2.then (C0.out.up _)).then (C1.out.up _)).then (C9.out.mono (λg _ hg=>.inr ?_))⟩⟩
       ·obtain⟨f,hkf,hf⟩:=HU.out
        cases f with
        | zero=>omega
        | succ f =>
         refine⟨f,by omega,?_⟩
         rw[fN,if_neg (by rw[<-HM.out];omega),KD.out,if_pos BD.out] at hf
         exact hf
       ·exact bY O1.out HP.1.blk (by decide) (nM.1 e)
       ·rw[dC,hY]
        exact O3.out
       ·exact nM.1 hg
      ·show 65-(intOf (.int .i64 (m2:Int))).toNat<65-(intOf (.int .i64 (k:Int))).toNat
       simp[intOf]
       omega
    | false =>
     have KD:Hid (Ci Y k n=m):=aB (by unfold Ci;rw[show 2*k+2=m2 by rw[HM2.out,HM.out],<-HM.out,if_neg (by rw[hb];simp)])
     have B0:=aB hb
     clear hb
     go_wp2_with fail
     refine (gQ wr A X.length c Y hY.symm (aH.of_own (hY ▸ P0.out.own)) (dR O1.out) m2 m hm2X hmX).mono ?_
     rintro e w1 ⟨rfl,hc⟩
     have C0:=aB hc
     have P1:=aB (P0.out.quiet hc)
     have c1:=P1.out.blk.cell 1
     simp at c1
     have ml1:(method 422 266 (.pointer (some ⟨p,1,none⟩)) "Less").run Tryz.prog w1=.ok (219,.slice A X.length c) w1:=gO 421 _ w1 _ c1
     have ms1:(method 422 266 (.pointer (some ⟨p,1,none⟩)) "Swap").run Tryz.prog w1=.ok (220,.slice A X.length c) w1:=gP 421 _ w1 _ c1
     clear hc
     rw[B0.out]
     cases hd:cD (Y.getD k aE.zero) (Y.getD m aE.zero) with
     | false =>
      have BD:=aB hd
      clear hd
      go_wp2_with fail
      refine (gQ w1 A X.length c Y hY.symm (aH.of_own (hY ▸ P1.out.own)) (dR O1.out) m k hmX hkX).mono ?_
      rintro e wd ⟨rfl,hc⟩
      have C1:=aB hc
      have P2:=aB (P1.out.quiet hc)
      have c2:=P2.out.blk.cell 1
      simp at c2
      have ml2:(method 422 266 (.pointer (some ⟨p,1,none⟩)) "Less").run Tryz.prog wd=.ok (219,.slice A X.length c) wd:=gO 421 _ wd _ c2
      have ms2:(method 422 266 (.pointer (some ⟨p,1,none⟩)) "Swap").run Tryz.prog wd=.ok (220,.slice A X.length c) wd:=gP 421 _ wd _ c2
      clear hc
      rw[BD.out]
      go_wp2
      go_ret
      obtain⟨f,hkf,hf⟩:=HU.out
      have e:fE f Y k n=Y:=by
       cases f with
       | zero=>omega
       | succ f=>rw[fN,if_neg (by rw[<-HM.out];omega),KD.out,BD.out];simp
      rw[<-hf,e]
      exact⟨⟨_,rfl⟩,P2.out,((HP.2.then (C0.out.up _)).then (C1.out.up _))⟩
     | true =>
      have BD:=aB hd
      clear hd
      go_wp2_with fail
      refine (gQ w1 A X.length c Y hY.symm (aH.of_own (hY ▸ P1.out.own)) (dR O1.out) m k hmX hkX).mono ?_
      rintro e wd ⟨rfl,hc⟩
      have C1:=aB hc
      have P2:=aB (P1.out.quiet hc)
      have c2:=P2.out.blk.cell 1
      simp at c2
      have ml2:(method 422 266 (.pointer (some ⟨p,1,none⟩)) "Less").run Tryz.prog wd=.ok (219,.slice A X.length c) wd:=gO 421 _ wd _ c2
      have ms2:(method 422 266 (.pointer (some ⟨p,1,none⟩)) "Swap").run Tryz.prog wd=.ok (220,.slice A X.length c) wd:=gP 421 _ wd _ c2
      clear hc
      rw[BD.out]
      go_wp2_with (go_at_call 220;refine (oN wd A X.length c Y hY.symm (hY ▸ P2.out.own) k m hkX hmX).mono ?_;rintro e w3 ⟨rfl,ho3,hc3⟩;have C9:=aB hc3;have O3:=aB ho3;clear hc3 ho3)
      go_roundw
      ·refine⟨m,pL Y k m,by omega,by rw[dC];exact hY,by simp,aB ?_,aB ⟨⟨P2.out.blk.touch C9.out (λe=>?_),?_⟩,((HP.2.then (C0.out.up _)).then (C1.out.up _)).then (C9.out.mono (λg _ hg=>.inr ?_))⟩⟩
       ·obtain⟨f,hkf,hf⟩:=HU.out
        cases f with
        | zero=>omega
        | succ f =>
         refine⟨f,by omega,?_⟩
         rw[fN,if_neg (by rw[<-HM.out];omega),KD.out,if_pos BD.out] at hf
         exact hf
       ·exact bY O1.out HP.1.blk (by decide) (nM.1 e)
       ·rw[dC,hY]
        exact O3.out
       ·exact nM.1 hg
      ·show 65-(intOf (.int .i64 (m:Int))).toNat<65-(intOf (.int .i64 (k:Int))).toNat
       simp[intOf]
       omega
   ·have q4:decide ((m2:Int)<(n:Int))=false:=by simp;omega
    have KD:Hid (Ci Y k n=m):=aB (by unfold Ci;rw[show 2*k+2=m2 by rw[HM2.out,HM.out],<-HM.out,if_neg (λh=>h2 h.1)])
    cases hd:cD (Y.getD k aE.zero) (Y.getD m aE.zero) with
    | false =>
     have BD:=aB hd
     clear hd
     go_wp2_with fail
     refine (gQ wr A X.length c Y hY.symm (aH.of_own (hY ▸ P0.out.own)) (dR O1.out) m k hmX hkX).mono ?_
     rintro e wd ⟨rfl,hc⟩
     have C0:=aB hc
     have P1:=aB (P0.out.quiet hc)
     have c1:=P1.out.blk.cell 1
     simp at c1
     have ml1:(method 422 266 (.pointer (some ⟨p,1,none⟩)) "Less").run Tryz.prog wd=.ok (219,.slice A X.length c) wd:=gO 421 _ wd _ c1
     have ms1:(method 422 266 (.pointer (some ⟨p,1,none⟩)) "Swap").run Tryz.prog wd=.ok (220,.slice A X.length c) wd:=gP 421 _ wd _ c1
     clear hc
     rw[BD.out]
     go_wp2
     go_ret
     obtain⟨f,hkf,hf⟩:=HU.out
     have e:fE f Y k n=Y:=by
      cases f with
      | zero=>omega
      | succ f=>rw[fN,if_neg (by rw[<-HM.out];omega),KD.out,BD.out];simp
     rw[<-hf,e]
     exact⟨⟨_,rfl⟩,P1.out,(HP.2.then (C0.out.up _))⟩
    | true =>
     have BD:=aB hd
     clear hd
     go_wp2_with fail
     refine (gQ wr A X.length c Y hY.symm (aH.of_own (hY ▸ P0.out.own)) (dR O1.out) m k hmX hkX).mono ?_
     rintro e wd ⟨rfl,hc⟩
     have C0:=aB hc
     have P1:=aB (P0.out.quiet hc)
     have c1:=P1.out.blk.cell 1
     simp at c1
     have ml1:(method 422 266 (.pointer (some ⟨p,1,none⟩)) "Less").run Tryz.prog wd=.ok (219,.slice A X.length c) wd:=gO 421 _ wd _ c1
     have ms1:(method 422 266 (.pointer (some ⟨p,1,none⟩)) "Swap").run Tryz.prog wd=.ok (220,.slice A X.length c) wd:=gP 421 _ wd _ c1
     clear hc
     rw[BD.out]
     go_wp2_with (go_at_call 220;refine (oN wd A X.length c Y hY.symm (hY ▸ P1.out.own) k m hkX hmX).mono ?_;rintro e w3 ⟨rfl,ho3,hc3⟩;have C9:=aB hc3;have O3:=aB ho3;clear hc3 ho3)
     go_roundw
     ·refine⟨m,pL Y k m,by omega,by rw[dC];exact hY,by simp,aB ?_,aB ⟨⟨P1.out.blk.touch C9.out (λe=>?_),?_⟩,(HP.2.then (C0.out.up _)).then (C9.out.mono (λg _ hg=>.inr ?_))⟩⟩
      ·obtain⟨f,hkf,hf⟩:=HU.out
       cases f with
       | zero=>omega
       | succ f =>
        refine⟨f,by omega,?_⟩
        rw[fN,if_neg (by rw[<-HM.out];omega),KD.out,if_pos BD.out] at hf
        exact hf
      ·exact bY O1.out HP.1.blk (by decide) (nM.1 e)
      ·rw[dC,hY]
       exact O3.out
      ·exact nM.1 hg
     ·show 65-(intOf (.int .i64 (m:Int))).toNat<65-(intOf (.int .i64 (k:Int))).toNat
      simp[intOf]
      omega
end Go.Proofs.YthockgmbooefpaaGreatDoor
