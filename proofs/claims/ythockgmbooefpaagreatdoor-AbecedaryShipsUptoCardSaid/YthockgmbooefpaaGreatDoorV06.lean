/- What the law rests on, part 6. No condition but those that each theorem names. -/
import Derived.Test.YthockgmbooefpaaGreatDoorV05
import Derived.RangeFuncNested
import Derived.RangeFuncBound
import Derived.RangeFuncCalls
import Derived.RangeFuncLeaves
import Derived.Shelf.Abstract
import Derived.Shelf.RegionOpen
import Derived.OwnWalkIn
import Derived.TacticsInMore
import Derived.LoopNIn
import Derived.LoopIn
import Derived.Deep.CutRange
import Derived.Deep.CutBlock
import Derived.Deep.RegionLaw
set_option linter.unusedSectionVars false
set_option linter.unusedSimpArgs false
set_option linter.unusedVariables false
set_option maxRecDepth 100000
set_option maxHeartbeats 8000000
namespace Go.Proofs.YthockgmbooefpaaGreatDoor
open IntWalk renaming i64_in → qXb
open List renaming length_append → qQa, mem_cons_self → qZa, range → qXa, length_map → qJa, mem_singleton → qQb, map_cons → qJb, map_append → qZc, mem_append → qXc, mem_cons_of_mem → qJc, mem_map → qQd, cons_append → qZd, length_cons → qXd, length_range → qJd, nil_append → qQe, all_eq_true → qJe, append_assoc → qQf, drop_eq_nil_iff → qZf, length_nil → qXf, length_pos_iff → qJf, mem_flatMap → qQg, take_length → qZg, take_succ_eq_append_getElem → qXg, eq_nil_of_length_eq_zero → qZh, getElem?_eq_some_iff → qQi, singleton_append → qZj, take_of_length_le → qZk
open Nat renaming zero_le → qZb, le_trans → qQc, le_refl → qZe, succ_pos → qXe
variable{Bk:List Nat}{Z:List SV}{Lk:List Value}{B c g m1 m2 n sc sn:Nat}{A sA:Option Addr}{R:Rs}{t:TypeId}{p:TypeId->Prop}{a b u w w':World}
open Go.RowKit
section
open Go.RowKit Go.Shelf
attribute [local go_sem] Oper.semAt_some
structure jX(p:TypeId->Prop)(w w':World):Prop where
 size:w.heap.size<=w'.heap.size
 ty:∀ (g:Nat) (t:TypeId),bQ w g t->p t->w'.heap[g]? = w.heap[g]?
theorem jX.refl(p:TypeId->Prop)(w:World):jX p w w:=⟨qZe _,λ_ _ _ _=>rfl⟩
theorem jX.trans{c:World}(h:jX p a b)(k:jX p b c):jX p a c :=
 ⟨qQc h.size k.size,λg t e h1=>by
  have e1:=h.ty g t e h1
  obtain⟨cs,u,e2⟩:=e
  exact (k.ty g t ⟨cs,u,e1.trans e2⟩ h1).trans e1⟩
theorem jX.touch{S:Nat->Prop}(h:aC S w w')(hS:∀ g t,p t->bQ w g t->¬ S g):jX p w w' :=
 ⟨h.size,λg t e h1=>h.block g e.lt (hS g t h1 e)⟩
theorem jX.of(h:aC (λ_=>False) w w'):jX p w w':=⟨h.size,λg _ e _=>h.block g e.lt (λf=>f)⟩
theorem aL.kpp{cs:Array Value}(h:aL a g t cs)(k:jX p a b)(ht:p t):aL b g t cs:=(k.ty g t ⟨cs,(),h⟩ ht).trans h
theorem bQ.kpp(h:bQ a g t)(k:jX p a b)(ht:p t):bQ b g t:=by
 obtain⟨cs,u,e⟩:=h
 exact⟨cs,u,(k.ty g t ⟨cs,u,e⟩ ht).trans e⟩
theorem gL.kpp{size:Nat}{xs:List Value}(h:gL a t size A n xs)(k:jX p a b)(ht:p t):gL b t size A n xs:=by
 refine⟨⟨h.rd.1,λhn=>?_⟩,λhn g hg=>(h.ty hn g hg).kpp k ht⟩
 obtain⟨g,o,hA,hg,hc⟩:=h.rd.2 hn
 have e:=h.ty hn g (by rw[hA];rfl)
 exact⟨g,o,hA,Nat.lt_of_lt_of_le hg k.size,λj u hu=>(World.cell?_of_block (k.ty g t e ht)).trans (hc j u hu)⟩
theorem aKq(W:World)(l:Nat)(o o':Obj)(_:n<=l)(h:W.heap[l]? = some o)(hc:o.isCells=false)(_:o.isWalk=false):jX p W (W.putObj l o'):=by
 have hg:=grownBy_putObj' W l o'
 refine⟨hg.size,λg t e _=>hg.block g e.lt (λe2=>?_)⟩
 obtain⟨cs,u,e⟩:=e
 cases e2
 rw[h] at e
 cases e
 cases hc
def eM(L:List (Nat × Int × Nat))(j:Nat):Int × (Nat × Int × Nat):=(((L.length-1-j:Nat):Int),L.getD (L.length-1-j) (0,0,0))
def Iw(x:Int × (Nat × Int × Nat)):Array Value:=#[.int .i64 x.1,.agg #[.int .i32 (x.2.1:Int),.int .i64 x.2.2.1,.int .i64 (x.2.2.2:Int)]]
def Me(t:TypeId):Prop:=t = 173 \/ t = 168
theorem Vx(l Bs:Nat)(w0:World)(A:Option Addr)(len cap:Nat)(L:List (Nat × Int × Nat))(hL:L.length=len)(hR:gL w0 173 3 A len (dQ L))(hlen:len<=maxLen)(J Jx:List Nat->World->Prop)
  (hY:∀ pre x W,J pre W->pre.length<len->YieldAt Fence.wide 8 Tryz.prog l (Iw (eM L x)) W λe W' =>
    (e=.returned (.bool true)/\J (pre++[x]) W'/\jX Me W W')\/(e=.returned (.bool false)/\Jx (pre++[x]) W'))
  (W:World)(hW:jX Me w0 W)(hBs:aL W Bs 168 #[.slice A len cap])(h0:J [] W) :
  CallsIn Fence.wide 9 Tryz.prog 149 #[.func (.yield l) #[] #[],.pointer (some ⟨Bs,0,none⟩)] W λe W'=>(∃ v,e=.returned v) /\
   ((∃ ys,ys=qXa len/\J ys W')\/(∃ pre,(∃ k,k<=len/\pre=qXa k)/\Jx pre W')):=by
 unfold maxLen at hlen
 have HR:=aB hR
 have HL:=aB hL
 have HW:=aB hW
 have HBs:=aB hBs
 have hw:IntKind.i64.wrap ((len:Int)-1)=(len:Int)-1:=qXb _ (by omega)
 have HST:((len:Int)-1 = -1/\len=0)\/∃ i:Nat,(len:Int)-1=(i:Int)/\len=i+1:=by
  by_cases h:len=0
  ·exact .inl ⟨by omega,h⟩
  ·exact .inr ⟨len-1,by omega,by omega⟩
 have HST:=aB HST
 obtain⟨c0,c1,c2⟩:=hBs.facts
 clear hR hL hW hBs
 refine callsIn_of_wp Tryz.func149 rfl trivial ?_ rfl
 simp only[Tryz.ntmps149,List.size_toArray,qXd,qXf,Nat.reduceAdd,Nat.reduceSub,Array.replicate_succ,Array.replicate_zero,List.push_toArray,List.append_toArray,qQe,qZd]
 gi_wp2
 gi_loopw [3] (λiv wr=>∃ (z:Int) (k m:Nat),iv=.int .i64 z/\Hid (k+m=len)/\Hid ((z = -1/\m=0)\/∃ i:Nat,z=(i:Int)/\m=i+1)/\Hid (J (qXa k) wr)/\Hid (jX Me W wr)) (λiv _=>(intOf iv+1).toNat)
 case atStart=>exact⟨_,0,len,rfl,aB (Nat.zero_add _),HST,aB h0,aB (jX.refl _ _)⟩
 case round =>
  clear c0 c1 c2
  obtain⟨z,k,m,rfl,HK,HZ,HJ,HB⟩:=hrel
  obtain⟨c0,c1,c2⟩:=(HBs.kpp HB (.inr rfl)).facts
  rcases HZ.out with⟨rfl,rfl⟩ | ⟨i,rfl,rfl⟩
  ·clear HZ
   gi_wp2
   go_end0
   have hk:k=len:=by have:=HK.out;omega
   exact⟨⟨_,rfl⟩,.inl ⟨_,rfl,by rw[<-hk];exact HJ⟩⟩
  ·clear HZ
   have y0:¬ (i:Int)<0:=by omega
   have y1:(0:Int)<=(i:Int):=by omega
   have y2:i<len:=by have:=HK.out;omega
   have y3:(i:Int)<(len:Int):=by omega
   have y4:L.length-1-k=i:=by have:=HK.out;rw[HL.out];omega
   obtain⟨g,o,hA,_,a0,a1,a2⟩:=iY (HR.kpp (HW.trans HB) (.inl rfl)).rd HL i y2
   subst hA
   have hbf:eM L k=((i:Int),L.getD i (0,0,0)):=by unfold eM;rw[y4]
   have hus:qXa (k+1)=qXa k++[k]:=List.range_succ
   obtain⟨⟨xl,xo,xt⟩,hx⟩:∃ x,x=L.getD i (0,0,0):=⟨_,rfl⟩
   rw[<-hx] at a0 a1 a2 hbf
   simp only at a0 a1 a2
   have HUS:=aB hus
   obtain⟨fn,tmps,assign,body,hy,hR⟩:=hY _ k wr HJ (by rw[qJd];have:=HK.out;omega)
   rw[hbf] at hy
   simp only[Iw] at hy
   clear hx hus hbf
   obtain⟨z2,hz2⟩:∃ z2:Int,(i:Int)-1=z2:=⟨_,rfl⟩
   have hw2:IntKind.i64.wrap z2=z2:=qXb _ (by omega)
   have HZ2:=aB hz2
   gi_wp2
   refine hR.mono ?_
   rintro e W3 (⟨rfl,hJ3,hk3⟩ | ⟨rfl,hJx3⟩)
   ·have HJ3:=aB hJ3
    have HK3:=aB hk3
    clear hJ3 hk3
    gi_wp2
    go_roundw
    case rel =>
     have hz2:=HZ2.out
     refine⟨z2,k+1,i,rfl,aB (by have:=HK.out;omega),aB ?_,aB (by rw[HUS.out];exact HJ3),aB (HB.trans HK3)⟩
     by_cases hi0:i=0
     ·exact .inl ⟨by omega,hi0⟩
     ·exact .inr ⟨i-1,by omega,by omega⟩
    case measure =>
     have hz2:=HZ2.out
     show (z2+1).toNat<((i:Int)+1).toNat
     omega
   ·gi_wp2
    refine bodyPost_ret (results_none rfl _ _ _) rfl ?_
    exact⟨⟨_,rfl⟩,.inr ⟨_,⟨k+1,by have:=HK.out;omega,HUS.symm⟩,hJx3⟩⟩
theorem Ex(w:World)(a:Option Addr)(len cap:Nat) :
  Calls Tryz.prog 94 #[.slice a len cap] w λe w'=>∃ Bs,e=.returned (.func (.func 149) #[] #[.pointer (some ⟨Bs,0,none⟩)])/\aL w' Bs 168 #[.slice a len cap]/\aC (λ_=>False) w w':=by
 have hmf:∀ (fn:Fn) (first cap:Array Value) (w:World),(Instr.makeFunc fn first cap).run Tryz.prog w=.ok (.func fn first cap) w:=λ_ _ _ _=>rfl
 go_in
 go_wp2_with fail
 go_ret
 exact⟨w.heap.size,rfl,aL.new _ _ _,(aC.refl _ _).alloc _⟩
theorem Le(Bs:Nat)(w0:World)(A:Option Addr)(len cap:Nat)(L:List (Nat × Int × Nat))(hL:L.length=len)(hR:gL w0 173 3 A len (dQ L))(hlen:len<=maxLen)(hB:aL w0 Bs 168 #[.slice A len cap]) :
  SeqStopsK Fence.wide 9 Tryz.prog 149 #[.pointer (some ⟨Bs,0,none⟩)] (λj=>Iw (eM L j)) (jX Me) (λys=>ys=qXa len) (λpre=>∃ k,k<=len/\pre=qXa k) len w0:=λl J Jx W hW _ _ hY h0 =>
 have hk:jX Me w0 W:=jX.of (aC.of_below hW _)
 Vx l Bs w0 A len cap L hL hR hlen J Jx hY W hk (hB.kpp hk (.inr rfl)) h0
end
section
open Go.RowKit Go.Shelf Go.MapKept Go.ChangeMaps
attribute [local go_sem] Oper.semAt_some
theorem aGf{S:Nat->Prop}(h:aC S w w')(hS:∀ g,S g->g<B\/∃ t,bQ w g t):KeepsFrom B w w' :=
 ⟨h.size,λk o hk0 hk ho=>(h.block k (Array.getElem?_eq_some_iff.1 hk).1 (λs=>by
  rcases hS k s with h1 | ⟨t,cs,_,e⟩
  ·omega
  ·rw[e] at hk
   cases hk
   cases ho)).trans hk⟩
theorem oY{row:Option Nat}(hr:∀ r,row=some r->∃ o:Obj,w.heap[r]? = some o/\o.isCells=false)(h:bQ w g t):some g≠row:=by
 intro e
 obtain⟨cs,_,h⟩:=h
 obtain⟨o,ho,hc⟩:=hr g e.symm
 rw[h] at ho
 cases ho
 cases hc
structure Kn(w:World)(B:Nat)(sA:Option Addr)(sn sc:Nat)(Z:List SV)(m1 m2:Nat)(Lk:List Value)(Bk:List Nat):Prop where
 blk:aL w B 163 #[.slice sA sn sc,.map (some m1),.map (some m2)]
 own:w.ownsRow 0 170 3 (.slice sA sn sc) sn (gA Z)
 len:Z.length=sn
 el:∀ z∈Z,z.Ok w
 lk:rI w m1 281 Lk
 bk:rI w m2 3 (Bk.map qV)
 ne:m1≠m2
 tab:Es Lk (Z.map SV.p) Bk
theorem Kn.quiet(h:Kn w B sA sn sc Z m1 m2 Lk Bk)(T:aC (λ_=>False) w w'):Kn w' B sA sn sc Z m1 m2 Lk Bk :=
 ⟨h.blk.touch T (λf=>f),aF h.own T (λ_ _ f=>f),h.len,λz hz=>(h.el z hz).touch T (λ_ _ f=>f),h.lk.quiet T,h.bk.quiet T,h.ne,h.tab⟩
theorem Jm{α β:Type}(f:α->β){l:List α}(h:(l.map f).Nodup):l.Nodup:=by
 unfold List.Nodup at h ⊢
 rw[List.pairwise_map] at h
 exact h.imp (λhne e=>hne (by rw[e]))
structure Vj(a:Nat × Int × Nat):Prop where
 lab:a.1<1114112
 out:0<=a.2.1/\a.2.1<=1048576
 tgt:a.2.2<=1000000
theorem Vt(L:List (Nat × Int × Nat)):((qXa L.length).map λj=>(eM L j).2).reverse=L:=by
 apply List.ext_getElem
 ·simp
 ·intro i h1 h2
  simp only[List.length_reverse,qJa,qJd] at h1
  rw[List.getElem_reverse]
  simp only[qJa,qJd,List.getElem_map,List.getElem_range,eM]
  rw[show L.length-1-(L.length-1-i)=i by omega]
  simp[List.getD,h1]
theorem Vs{L:List (Nat × Int × Nat)}(h:∀ a∈L,Vj a)(j:Nat):Vj (eM L j).2:=by
 unfold eM
 by_cases hL:L.length-1-j<L.length
 ·exact h _ (cJ L (0,0,0) _ hL)
 ·simp only[List.getD,List.getElem?_eq_none (Nat.le_of_not_lt hL),Option.getD_none]
  exact⟨by decide,by decide,by decide⟩
theorem Kn.row{row:Option Nat}(h:Kn w B sA sn sc Z m1 m2 Lk Bk)(hg:w.grownBy w' row)(hr:∀ r,row=some r->∃ o:Obj,w.heap[r]? = some o/\o.isCells=false)(h1:row≠some m1)(h2:row≠some m2):Kn w' B sA sn sc Z m1 m2 Lk Bk:=by
 have hT:aC (λk=>row=some k) w w':=(aC.refl _ _).grown hg (λk e _=>e)
 exact⟨h.blk.grown hg (oY hr (aG h.blk)),aF h.own hT (λg e1 e2=>oY hr (aM h.own e1) e2.symm),h.len,λz hz=>(h.el z hz).touch hT (λg hg e=>oY hr hg e.symm),h.lk.far hT h1,h.bk.far hT h2,h.ne,h.tab⟩
theorem aBh(w:World)(B:Nat)(sA:Option Addr)(sn sc:Nat)(Z:List SV)(m1 m2:Nat)(Lk:List Value)(Bk:List Nat)(hB:Kn w B sA sn sc Z m1 m2 Lk Bk)(s:SV)(hs:s.Ok w)(hb:∀ a∈s.arcs,Vj a)(ho:0<=s.out/\s.out<=1048576)(hLn:Lk.length+s.n<=900000)(hsn:sn<=900000) :
  Calls Tryz.prog 137 #[.pointer (some ⟨B,0,none⟩),.agg #[.bool s.fin,.int .i64 s.out,.slice s.A s.n s.c]] w λe w'=>∃ (i:Nat) (sA':Option Addr) (sn' sc':Nat) (Z':List SV) (Lk':List Value) (Bk':List Nat),e=.returned (.int .i64 i)/\Kn w' B sA' sn' sc' Z' m1 m2 Lk' Bk'/\(Z'.map SV.p,i)=vY (Z.map SV.p) s.p/\(∀ z∈Z',z∈Z\/z=s)/\Lk'.length<=Lk.length+s.n+1/\cK w (.slice sA sn sc) (.slice sA' sn' sc')/\aC (λg=>g=B\/g=m1\/g=m2\/(Value.slice sA sn sc).ownBlock=some g) w w':=by
 obtain⟨i1,hi1,hz0,hz1,hz2⟩:=aQ aBz
 obtain⟨fin,out,A,n,c,arcs⟩:=s
 simp only at ho hb hLn ⊢
 have hal:=hs.len
 have hard:=hs.rd
 simp only at hal hard
 have HB:=aB hB
 have HS:=aB hs
 have HAL:=aB hal
 have HARD:=aB hard
 have HAB:=aB hb
 have HLN:=aB hLn
 have HSN:=aB hsn
 have HO:=aB ho
 obtain⟨w1,hw1⟩:=eX ((w.alloc (.cells #[.pointer (some ⟨B,0,none⟩)] 159)).alloc (.cells #[.bool fin,.int .i64 out,.slice A n c] 170))
 have hT1:aC (λ_=>False) w w1:=by rw[hw1];exact ((aC.refl _ _).alloc _).alloc _
 have hbB:aL w1 w.heap.size 159 #[.pointer (some ⟨B,0,none⟩)]:=by rw[hw1];exact (aL.new _ _ _).alloc _
 have hbS:aL w1 (w.heap.size+1) 170 #[.bool fin,.int .i64 out,.slice A n c]:=by rw[hw1];exact iA _ _ _ _
 have hB1:=hB.quiet hT1
 have hkn:=Gz w1 B _ _ m1 Lk hB1.blk hB1.lk (by omega) fin out 0 0 (-1) 0 (by unfold oW;omega) (by unfold oW;omega) (by unfold oW;omega) (by unfold oW;omega) (by unfold oW;omega) (kY fin out) rfl
 unfold kY at hkn
 have HT1:=aB hT1
 have HBB:=aB hbB
 have HBS:=aB hbS
 have HKN:=aB hkn
 have HW1:=aB hw1
 clear hB hs hal hard hb ho hLn hsn hw1 hT1 hbB hbS hB1 hkn
 refine (callsIn_wide (n:=10)).1 ?_
 refine callsIn_of_wp_marks Tryz.func137 rfl trivial ?_ rfl
 simp only[Tryz.ntmps137,List.size_toArray,qXd,qXf,Nat.reduceAdd,Nat.reduceSub,Array.replicate_succ,Array.replicate_zero,List.push_toArray,List.append_toArray,qQe,qZd]
 refine wpIn_wide.2 ?_
 go_wp2_with fail
 rw[<-HW1.out]
 refine HKN.mono ?_
 rintro e w2 ⟨M0,k0,rfl,hk,hM,hI2,T2⟩
 obtain⟨w3,hw3⟩:=eX (w2.alloc (.cells #[.int .i64 k0] 3))
 have hT23:aC (λ_=>False) w2 w3:=by rw[hw3];exact (aC.refl _ _).alloc _
 have hw12:w1.heap.size<=w2.heap.size:=T2.size
 have T3:aC (λg=>g=m1) w1 w3:=T2.then (hT23.up _)
 have hkB:aL w3 w2.heap.size 3 #[.int .i64 k0]:=by rw[hw3];exact aL.new _ _ _
 have hbB3:=HBB.touch T3 (HB.lk.quiet HT1 |>.ne (aG HBB))
 have hbS3:=HBS.touch T3 (HB.lk.quiet HT1 |>.ne (aG HBS))
 have hb3b:=hbB3
 have hb3s:=hbS3
 rw[hw3] at hb3b hb3s
 obtain⟨b0,b1,b2⟩:=hb3b.facts
 obtain⟨s0,s1,s2⟩:=hb3s.facts
 have HW3:=aB hw3
 have HT3:=aB T3
 have HI3:=aB (hI2.quiet hT23)
 have HK:=aB hk
 have HM:=aB hM
 have HBB3:=aB hbB3
 have HBS3:=aB hbS3
 have HKBL:=aB hkB
 clear hk hM hI2 T2 hw3 hT23 T3 hkB hbB3 hbS3 hb3b hb3s
 go_wp2_with fail
 refine (Ex _ A n c).mono ?_
 rintro e w4 ⟨Bs,rfl,hBs,T4⟩
 go_wp2_with fail
 refine (wpIn_wide (n:=10)).1 ?_
 have hT4:aC (λg=>g=m1) w1 w4:=by rw[<-HW3.out] at T4;exact HT3.then (T4.up _)
 have hT34:aC (λ_=>False) w3 w4:=by rw[HW3.out];exact T4
 have hI4:=HI3.quiet hT34
 have hBB4:=HBB3.touch hT34 (λf=>f)
 have hBS4:=HBS3.touch hT34 (λf=>f)
 have hKB4:=HKBL.touch hT34 (λf=>f)
 have hAD4:gL w4 173 3 A n (dQ arcs):=(HARD.quiet HT1).touch hT4 (λg hg e=>(HB.lk.quiet HT1).ne hg e)
 have hm14:m1<w4.heap.size:=Nat.lt_of_lt_of_le (HB.lk.quiet HT1).lt hT4.size
 have hst:=Le Bs w4 A n c arcs HAL hAD4 (by have:=HLN.out;unfold maxLen;omega) hBs
 have hw14:w1.heap.size<=w4.heap.size:=hT4.size
 have HT4:=aB hT4
 have HI4:=aB hI4
 have HBB4:=aB hBB4
 have HBS4:=aB hBS4
 have HKB4:=aB hKB4
 clear T4 hT4 hT34 hI4 hBB4 hBS4 hKB4 hAD4 b0 b1 b2 s0 s1 s2 HI3 HBB3 HBS3 HKBL
 refine wpIn_rangeFunc_ownH rfl (by decide) (gf := 149) (lb:=#[.pointer (some ⟨Bs,0,none⟩)]) rfl trivial (enters_of Tryz.func149 (by kernel_rfl) rfl)
  hst (λh k=>jX.trans h k) aKq (Below.refl _ _) (λ_=>rfl)
  (λpre W=>∃ (M:List Value) (k:Nat),kX (Lk++M) fin out (pre.map λj=>(eM arcs j).2).reverse k/\M.length<=pre.length+1/\rI W m1 281 (Lk++M)/\aL W w2.heap.size 3 #[.int .i64 k]/\aL W w.heap.size 159 #[.pointer (some ⟨B,0,none⟩)]/\aL W (w.heap.size+1) 170 #[.bool fin,.int .i64 out,.slice A n c]/\aC (λg=>g=m1) w W)
  (λ_ _ _=>False)
  (λpre X Y row hs hg hr=>by
    obtain⟨M,k,h1,h2,h3,h4,h5,h6,h7⟩:=hs
    have hr2:∀ r,row=some r->∃ o:Obj,X.heap[r]? = some o/\o.isCells=false:=λr e=>(hr r e).2
    have hT:aC (λk=>row=some k) X Y:=(aC.refl _ _).grown hg (λk e _=>e)
    refine⟨M,k,h1,h2,h3.far hT (λe=>by have:=(hr m1 e).1;omega),h4.grown hg (oY hr2 (aG h4)),h5.grown hg (oY hr2 (aG h5)),h6.grown hg (oY hr2 (aG h6)),h7.grown hg (λk e hk=>?_)⟩
    have h8:=(hr k e).1
    have h9:=HT1.size
    omega)
  (λ_ _ _ _ _ hs _ _=>hs)
  ?start
  (λx a' W=>∃ Bx,aL W Bx 173 #[.int .i32 ((eM arcs x).2.1:Int),.int .i64 (eM arcs x).2.2.1,.int .i64 ((eM arcs x).2.2.2:Int)]/\a'={ tmps:=#[.pointer (some ⟨B,0,none⟩),.agg #[.bool fin,.int .i64 out,.slice A n c],.pointer (some ⟨w.heap.size,0,none⟩),.pointer (some ⟨w.heap.size+1,0,none⟩),.int .i64 0,.pointer (some ⟨w2.heap.size,0,none⟩),undef,.pointer (some ⟨Bx,0,none⟩),undef,undef,.pointer (some ⟨B,0,none⟩),.pointer (some ⟨w.heap.size+1,0,none⟩),.bool fin,.pointer (some ⟨w.heap.size+1,1,none⟩),.int .i64 out,.agg #[.bool fin,.int .i64 out,.int .i64 0,.int .i64 0,.int .i64 (-1),.int .i64 0],.int .i64 k0,.pointer (some ⟨w.heap.size+1,2,none⟩),.slice A n c,.func (.func 149) #[] #[.pointer (some ⟨Bs,0,none⟩)],.int .i64 (eM arcs x).1,.agg #[.int .i32 ((eM arcs x).2.1:Int),.int .i64 (eM arcs x).2.2.1,.int .i64 ((eM arcs x).2.2.2:Int)],undef,undef,undef,undef,undef,undef,undef,undef,undef,undef,undef,undef,undef,undef,undef,undef,undef,undef,undef,undef,undef,undef,undef,undef,undef,undef,undef,undef,undef,undef,undef,undef,undef,undef,undef,undef,undef,undef,undef,undef,undef,undef,undef,undef,undef],defers:=[] })
  (λx a' _ X Y row hs hg hr=>by
    obtain⟨Bx,e1,e2⟩:=hs
    exact⟨Bx,e1.grown hg (oY (λr e=>(hr r e).2) (aG e1)),e2⟩)
  ?assign ?body ?done ?stop
 case start =>
  refine⟨M0,k0,HK,by have:=HM.out;simpa using this,HI4,HKB4,HBB4,HBS4,?_⟩
  exact (HT1.up _).then HT4
 case assign =>
  rintro l pre x W K ⟨M,k,h1,h2,h3,h4,h5,h6,h7⟩ hK
  simp only[Iw]
  gi_wp2
  have hT:=(aC.refl (λ_=>False) W).alloc (.cells #[.int .i32 ((eM arcs x).2.1:Int),.int .i64 (eM arcs x).2.2.1,.int .i64 ((eM arcs x).2.2.2:Int)] 173)
  exact hK _ _ ((KeepsOthers.alloc _ _).from _) (jX.of hT) ⟨M,k,h1,h2,h3.quiet hT,h4.alloc _,h5.alloc _,h6.alloc _,h7.then (hT.up _)⟩ ⟨W.heap.size,aL.new _ _ _,rfl⟩
 case body =>
  rintro l pre x a' W _ _ ⟨M,k,h1,h2,h3,h4,h5,h6,h7⟩ ⟨Bx,hbx,rfl⟩ hlt
  have hab:=Vs HAB x
  obtain⟨⟨la,ua,tt⟩,hz⟩:∃ z,(eM arcs x).2=z:=⟨_,rfl⟩
  rw[hz] at hbx hab
  obtain⟨q1,q2,q3⟩:=hab
  simp only at hbx q1 q2 q3
  have hkl:=Lm _ h1
  have hkb:k<=900001:=by
   rw[qQa] at hkl
   have:=HLN.out
   omega
  have hkI:(k:Int)<=900001:=by omega
  have hbW:aL W B 163 #[.slice sA sn sc,.map (some m1),.map (some m2)]:=HB.blk.touch h7 (HB.lk.ne (aG HB.blk))
  have z1:IntKind.i64.wrap (la:Int)=(la:Int):=qXb _ (by omega)
  have z2:IntKind.i64.wrap ((k:Int)+1)=(k:Int)+1:=qXb _ (by omega)
  have hkn:=Gz W B _ _ m1 (Lk++M) hbW h3 (by rw[qQa];have:=HLN.out;omega) false 0 (la:Int) ua (tt:Int) ((k:Int)+1) (by unfold oW;omega) (by unfold oW;omega) (by unfold oW;omega) (by unfold oW;omega) (by unfold oW;omega) (qH (la,ua,tt) k) rfl
  unfold qH at hkn
  obtain⟨p0,p1,p2⟩:=hbx.facts
  obtain⟨y0,y1,y2⟩:=h4.facts
  obtain⟨b0,b1,b2⟩:=h5.facts
  have HKN:=aB (CallsIn.inRound l ((callsIn_wide (n:=7)).2 hkn))
  have H1:=aB h1
  have H2:=aB h2
  have H3:=aB h3
  have H4:=aB h4
  have H5:=aB h5
  have H6:=aB h6
  have H7:=aB h7
  have HZ:=aB hz
  clear h1 h2 h3 h4 h5 h6 h7 hz hkl hkb hbW hbx hkn
  rw[HZ.out]
  gi_wp2
  refine⟨trivial,HKN.mono ?_⟩
  rintro e W2 ⟨M2,k2,rfl,hk2,hM2,hI2,T2⟩
  have h42:=H4.touch T2 (H3.ne (aG H4))
  have h52:=H5.touch T2 (H3.ne (aG H5))
  have h62:=H6.touch T2 (H3.ne (aG H6))
  obtain⟨r0,r1,r2⟩:=h42.facts
  have HK2:=aB hk2
  have HM2:=aB hM2
  have HI2:=aB hI2
  have HT2:=aB T2
  have H42:=aB h42
  have H52:=aB h52
  have H62:=aB h62
  clear hk2 hM2 hI2 T2 h42 h52 h62 HKN y0 y1 y2
  gi_wp2
  have hne:∀ g,bQ W g 173 \/ bQ W g 168 -> ¬ (g=m1\/g=w2.heap.size):=by
   rintro g (hg | hg) (e | e)
   ·exact H3.ne hg e
   ·exact hg.ne (aG H4) (by decide) e
   ·exact H3.ne hg e
   ·exact hg.ne (aG H4) (by decide) e
  have hTT:aC (λg=>g=m1\/g=w2.heap.size) W (W2.setCell ⟨w2.heap.size,0,none⟩ (.int .i64 k2)):=(HT2.mono (λ_ _ e=>.inl e)).setCell (p:=⟨w2.heap.size,0,none⟩) (λ_=>.inr rfl) _
  have hTs:aC (λg=>g=w2.heap.size) W2 (W2.setCell ⟨w2.heap.size,0,none⟩ (.int .i64 k2)):=(aC.refl (λg=>g=w2.heap.size) W2).setCell (p:=⟨w2.heap.size,0,none⟩) (λ_=>rfl) _
  refine⟨aGf hTT ?_,jX.touch hTT ?_,M++M2,k2,?_,?_,?_,?_,?_,?_,?_⟩
  ·rintro g (rfl | rfl)
   ·exact .inl hm14
   ·exact .inr ⟨_,aG H4⟩
  ·rintro g t (rfl | rfl) hg
   ·exact hne g (.inl hg)
   ·exact hne g (.inr hg)
  ·rw[qZc,List.reverse_append]
   simp only[qJb,List.map_nil,List.reverse_singleton,qZj,HZ.out]
   refine⟨k,?_,?_⟩
   ·rw[<-qQf]
    exact wG _ H1
   ·rw[<-qQf]
    exact HK2
  ·have:=H2.out
   have:=HM2.out
   simp only[qQa,List.length_singleton]
   omega
  ·rw[<-qQf]
   exact HI2.far hTs (λe=>HI2.ne (aG H42) e.symm)
  ·have:=H42.set_ 0 (.int .i64 k2)
   simpa using this
  ·exact H52.far (λe=>(aG H52).ne (aG H42) (by decide) e) _
  ·exact H62.far (λe=>(aG H62).ne (aG H42) (by decide) e) _
  ·refine H7.trans hTT λg hg e=>?_
   rcases e with e | e
   ·exact e
   ·have:=HT1.size
    omega
 case done =>
  rintro D ys W hD rfl ⟨M,k,h1,h2,h3,h4,h5,h6,h7⟩ hK
  rw[<-HAL.out,Vt] at h1
  rw[qJd] at h2
  have hkl:=Lm _ h1
  have hkb:k<=900001:=by
   rw[qQa] at hkl
   have:=HLN.out
   omega
  have hbW:aL W B 163 #[.slice sA sn sc,.map (some m1),.map (some m2)]:=HB.blk.touch h7 (HB.lk.ne (aG HB.blk))
  have hm2:rI W m2 3 (Bk.map qV):=HB.bk.far h7 (λe=>HB.ne e.symm)
  have hbk:Bk.Nodup:=Jm qV HB.bk.nodup
  have htab:Es (Lk++M) (Z.map SV.p) Bk:=HB.tab.ext
  have hbl:Bk.length=sn:=by rw[HB.tab.len,qJa,HB.len]
  have hkey:keyOf Tryz.prog 3 (.int .i64 (k:Int))=some (.int .i64 (k:Int)):=Maps.keyOf_int_mk Tryz.underlying3 (Rd (by unfold oW;omega))
  have hmu:Tryz.prog.underlying 161 = some (.map 3 3):=Tryz.underlying161
  obtain⟨y0,y1,y2⟩:=h4.facts
  obtain⟨b0,b1,b2⟩:=h5.facts
  obtain⟨d0,d1,d2⟩:=hbW.facts
  have hbld:∀ W',aC (λ_=>False) W W'->Kn W' B sA sn sc Z m1 m2 (Lk++M) Bk:=λW' T =>
   ⟨hbW.touch T (λf=>f),aF (aF HB.own h7 (λg hg e=>HB.lk.ne (aM HB.own hg) e)) T (λ_ _ f=>f),HB.len,λz hz=>((HB.el z hz).touch h7 (λg hg e=>HB.lk.ne hg e)).touch T (λ_ _ f=>f),h3.quiet T,hm2.quiet T,HB.ne,htab⟩
  have HBLD:=aB hbld
  have H2:=aB h2
  have H7:=aB h7
  have HK:=aB hK
  by_cases hno:k∈Bk
  ·obtain⟨i,hi,hil⟩:=List.getElem_of_mem hno
   have hi2:Bk[i]? = some k:=by rw[List.getElem?_eq_getElem hi,hil]
   have hi3:(Bk.map qV)[i]? = some (.int .i64 (k:Int)):=by rw[List.getElem?_map,hi2];rfl
   have hlk:∀ n,(Instr.lookup 161 (.map (some m2)) (.int .i64 (k:Int)) true).run Tryz.prog (W.drewN n)=.ok (.tuple #[.int .i64 i,.bool true]) (W.drewN n):=λn=>(hm2.quiet ((aC.refl _ _).drewN n)).yes xF hmu hkey hi3
   have hadd:=htab.old h3.nodup hbk (s:=⟨fin,out,arcs⟩) h1 hi2
   have HADD:=aB hadd
   clear h1 h2 h3 h4 h5 h6 h7 hkl hkb hbW hm2 hbk htab hbl hkey hmu hbld hno hi hil hi2 hi3 hadd hK hst HKN
   go_wp2_with fail
   go_quiet (fail)
   go_wp2_with fail
   refine⟨by simp,.inl ⟨_,_,rfl,run_takeDeferred (show (W.drewN nq).heap[D]? = _ from HK),?_⟩⟩
   have hT:=(aC.refl (λ_=>False) W).drewN nq
   have hg:=grownBy_putObj' (W.drewN nq) D (.deferred none)
   have hlt2:m2<w4.heap.size:=by
    have h1:=HB.bk.lt
    have h2:=HT1.size
    omega
   refine⟨.int .i64 i,by simp[results,Tryz.f137,go_sem],i,sA,sn,sc,Z,Lk++M,Bk,rfl,(HBLD _ hT).row hg (λr e=>by cases e;exact⟨_,HK,rfl⟩) (λe=>by cases e;omega) (λe=>by cases e;omega),HADD.symm,λz hz=>.inl hz,by rw[qQa];have:=H2.out;omega,.inl rfl,?_⟩
   refine ((H7.mono (λg _ e=>.inr (.inl e))).then (hT.up _)).grown hg (λg e hlt=>?_)
   cases e
   have:=HT1.size
   omega
  ·have hlk:∀ n,(Instr.lookup 161 (.map (some m2)) (.int .i64 (k:Int)) true).run Tryz.prog (W.drewN n)=.ok (.tuple #[.int .i64 0,.bool false]) (W.drewN n):=λn=>(hm2.quiet ((aC.refl _ _).drewN n)).no xF hmu hkey (λhm=>by
    obtain⟨x,hx,e⟩:=List.mem_map.1 hm
    unfold qV at e
    injection e with _ e
    exact hno (by rw[show k=x by omega];exact hx))
   have hadd:=htab.new h3.nodup (s:=⟨fin,out,arcs⟩) h1 hno
   have HADD:=aB hadd
   have HNO:=aB hno
   have HKEY:=aB hkey
   have HMU:=aB hmu
   have HBL:=aB hbl
   have hS6:=h6
   have H6:=aB h6
   have H4:=aB h4
   have H5:=aB h5
   clear h1 h2 h3 h4 h5 h6 h7 hkl hkb hbW hm2 hbk htab hbl hkey hmu hbld hno hadd hK hst HKN hS6
   go_wp2_with fail
   go_quiet (fail)
   obtain⟨W5,hW5⟩:=eX (W.drewN nq)
   rw[<-hW5]
   have hT5:aC (λ_=>False) W W5:=by rw[hW5];exact (aC.refl _ _).drewN _
   have hB5:=HBLD.out W5 hT5
   have hS5:=H6.touch hT5 (λf=>f)
   have hK5:=H4.touch hT5 (λf=>f)
   have hBB5:=H5.touch hT5 (λf=>f)
   clear y0 y1 y2 b0 b1 b2 d0 d1 d2 hlk hW5
   obtain⟨y0,y1,y2⟩:=hK5.facts
   obtain⟨b0,b1,b2⟩:=hBB5.facts
   obtain⟨d0,d1,d2⟩:=hB5.blk.facts
   obtain⟨s0,s1,s2⟩:=hS5.facts
   have HT5:=aB hT5
   have HB5:=aB hB5
   have HS5:=aB hS5
   have HK5:=aB hK5
   have HBB5:=aB hBB5
   have hsnI:(sn:Int)<=900000:=by have:=HSN.out;omega
   clear hT5 hB5 hS5 hK5 hBB5
   have hib1:sn+1<=maxLen:=by unfold maxLen;omega
   have hib2:(sn+1)*40<=140737488355328:=by omega
   have HIB:=aB (And.intro hib1 hib2)
   have hnB:some B≠(Value.slice sA sn sc).ownBlock:=λe=>(aM HB5.own e.symm).ne (aG HB5.blk) (by decide) rfl
   have HNB:=aB hnB
   have hnX:some w.heap.size≠(Value.slice sA sn sc).ownBlock:=λe=>(aM HB5.own e.symm).ne (aG HBB5) (by decide) rfl
   have HNX:=aB hnX
   clear hib1 hib2 hnB hnX
   go_wp2_with fail
   refine wp_mono (Q:=Exit.then (λa w'=>∃ (g4 cap4:Nat) (w9:World) (v56:Value),w'=w9.setCell ⟨B,0,none⟩ (.slice (some ⟨g4,0,none⟩) (sn+1) cap4)/\w9.ownsRow 0 170 3 (.slice (some ⟨g4,0,none⟩) (sn+1) cap4) (sn+1) (gA Z++[.bool fin,.int .i64 out,.slice A n c])/\((W5.alloc (.cells #[.bool fin,.int .i64 out,.slice A n c] 170)).drew.grownBy w9 (Value.slice sA sn sc).ownBlock)/\cK W5 (.slice sA sn sc) (.slice (some ⟨g4,0,none⟩) (sn+1) cap4)/\a={ tmps:=#[.pointer (some ⟨B,0,none⟩),.agg #[.bool fin,.int .i64 out,.slice A n c],.pointer (some ⟨w.heap.size,0,none⟩),.pointer (some ⟨w.heap.size+1,0,none⟩),.int .i64 0,.pointer (some ⟨w2.heap.size,0,none⟩),undef,undef,.int .i64 sn,.bool false,.pointer (some ⟨B,0,none⟩),.pointer (some ⟨w.heap.size+1,0,none⟩),.bool fin,.pointer (some ⟨w.heap.size+1,1,none⟩),.int .i64 out,.agg #[.bool fin,.int .i64 out,.int .i64 0,.int .i64 0,.int .i64 (-1),.int .i64 0],.int .i64 k0,.pointer (some ⟨w.heap.size+1,2,none⟩),.slice A n c,.func (.func 149) #[] #[.pointer (some ⟨Bs,0,none⟩)],undef,undef,undef,undef,undef,undef,undef,undef,undef,undef,undef,undef,undef,undef,.tuple #[.int .i64 0,.bool false],.pointer (some ⟨B,0,none⟩),.pointer (some ⟨B,0,none⟩),.pointer (some ⟨B,2,none⟩),.map (some m2),.int .i64 k,.tuple #[.int .i64 0,.bool false],.int .i64 0,.bool false,.bool false,.bool true,.pointer (some ⟨B,0,none⟩),.pointer (some ⟨B,0,none⟩),.pointer (some ⟨B,0,none⟩),.slice sA sn sc,.int .i64 sn,.pointer (some ⟨B,0,none⟩),.pointer (some ⟨B,0,none⟩),.pointer (some ⟨B,0,none⟩),.pointer (some ⟨B,0,none⟩),.slice sA sn sc,.agg #[.bool fin,.int .i64 out,.slice A n c],v56,.slice (some ⟨g4,0,none⟩) (sn+1) cap4,.pointer (some ⟨B,0,none⟩),.pointer (some ⟨B,0,none⟩),undef,undef,undef,undef,undef,undef,undef],defers:=[{ target:=.collected D,args:=#[] }] }) (λ_ _ _=>False)) ?region ?after
   case region =>
    go_region_law (refine step_append_lies _ rfl (.tmp 54) (.tmp 56) 87 rfl 0 170 i1 _ 3 40 Tryz.underlying87 hi1 hz0 hz1 hz2 (by decide) (by decide) (.slice sA sn sc) sn _ (by simp[Act.eval]) (aF HB5.own ((aC.refl _ _).alloc _).drew (λ_ _ f=>f)) ⟨W5.heap.size,0,none⟩ 1 1 [.bool fin,.int .i64 out,.slice A n c] (by simp[Act.eval]) rfl ?news ?one (by decide) HIB.1 HIB.2 (qZb _) _ rfl ?_;(case news=>exact World.news_of_block (aL.new W5 _ _));(case one=>exact List.all_eq_true.1 rfl);intro g4 cap4 w9 hown hgrow hlies _;have hbC:=((HB5.blk.alloc (.cells #[.bool fin,.int .i64 out,.slice A n c] 170)).drew).grown hgrow HNB.out;obtain⟨q1,q2,q3⟩:=hbC.facts;have hbD:=((HBB5.alloc (.cells #[.bool fin,.int .i64 out,.slice A n c] 170)).drew).grown hgrow HNX.out;obtain⟨r1,r2,r3⟩:=hbD.facts;have HBD:=aB hbD;have HBC:=aB hbC;have HOWN:=aB hown;have HGR:=aB hgrow;have HLI:=aB hlies;clear hbC hbD hown hgrow hlies)
    all_goals
     exact⟨g4,cap4,w9,_,rfl,HOWN,HGR,(by
      rcases HLI.out with e | e
      ·exact .inl e.symm
      ·exact .inr ⟨g4,rfl,by rw[e];simp⟩),rfl⟩
   intro e a w10 hq
   cases e<;>first | exact hq.elim | skip
   obtain⟨g4,cap4,w9,v56,rfl,hown,hgr,hfr,rfl⟩:=hq
   have hT59:aC (λg=>(Value.slice sA sn sc).ownBlock=some g) W5 w9:=(((aC.refl _ W5).alloc _).drew).grown hgr (λk e _=>e)
   have hT510:aC (λg=>g=B\/(Value.slice sA sn sc).ownBlock=some g) W5 (w9.setCell ⟨B,0,none⟩ (.slice (some ⟨g4,0,none⟩) (sn+1) cap4)):=(hT59.mono (λ_ _ e=>.inr e)).setCell (p:=⟨B,0,none⟩) (λ_=>.inl rfl) _
   have hb9:=HB5.blk.touch hT59 (λe=>HNB.out e.symm)
   have hb10:aL (w9.setCell ⟨B,0,none⟩ (.slice (some ⟨g4,0,none⟩) (sn+1) cap4)) B 163 #[.slice (some ⟨g4,0,none⟩) (sn+1) cap4,.map (some m1),.map (some m2)]:=by
    have:=hb9.set_ 0 (.slice (some ⟨g4,0,none⟩) (sn+1) cap4)
    simpa using this
   have hnot:∀ {g:Nat} {t:TypeId},bQ W5 g t->t ≠ 163 -> t ≠ 170 -> ¬ (g=B\/(Value.slice sA sn sc).ownBlock=some g):=by
    rintro g t hg h1 h2 (e | e)
    ·exact hg.ne (aG HB5.blk) h1 e
    ·exact (aM HB5.own e).ne hg (λe=>h2 e.symm) rfl
   have hbb10:=HBB5.touch hT510 (hnot (aG HBB5) (by decide) (by decide))
   have hk10:=HK5.touch hT510 (hnot (aG HK5) (by decide) (by decide))
   have hi1:=HB5.lk.far hT510 (by
    rintro (e | e)
    ·exact HB5.lk.ne (aG HB5.blk) e.symm
    ·exact HB5.lk.ne (aM HB5.own e) rfl)
   have hi2:=HB5.bk.far hT510 (by
    rintro (e | e)
    ·exact HB5.bk.ne (aG HB5.blk) e.symm
    ·exact HB5.bk.ne (aM HB5.own e) rfl)
   have hown10:=cO hown (a:=⟨B,0,none⟩) (λe=>by
    rcases hfr with e2 | ⟨g,e2,hle⟩
    ·exact HNB (e.symm.trans e2)
    ·rw[e2] at e
     have h1:=HB5.blk.lt
     injection e with e
     simp only at e
     omega) (.slice (some ⟨g4,0,none⟩) (sn+1) cap4)
   obtain⟨W10,hW10⟩:=eX (w9.setCell ⟨B,0,none⟩ (.slice (some ⟨g4,0,none⟩) (sn+1) cap4))
   rw[<-hW10] at hT510 hb10 hbb10 hk10 hi1 hi2 hown10 ⊢
   obtain⟨o,hup,hi3⟩:=(hi2.quiet (aC.refl _ _).drew).put xF HMU HKEY (λhm=>by
    obtain⟨x,hx,e⟩:=List.mem_map.1 hm
    unfold qV at e
    injection e with _ e
    exact HNO (by rw[show k=x by omega];exact hx))
   rw[qJa,HBL.out] at hup
   clear y0 y1 y2 b0 b1 b2 d0 d1 d2 s0 s1 s2
   obtain⟨y0,y1,y2⟩:=hk10.facts
   obtain⟨b0,b1,b2⟩:=hbb10.facts
   obtain⟨d0,d1,d2⟩:=hb10.facts
   have HHT:=aB hT510
   have HHB:=aB hb10
   have HHO:=aB hown10
   have HH1:=aB hi1
   have HH3:=aB hi3
   have HHF:=aB hfr
   have HHN:Hid (∀ {g:Nat} {t:TypeId},bQ W5 g t->t ≠ 163 -> t ≠ 170 -> ¬ (g=B\/(Value.slice sA sn sc).ownBlock=some g)):=aB hnot
   clear hT59 hT510 hb9 hb10 hnot hbb10 hk10 hi1 hi2 hown10 hW10 hfr hgr hi3 hown
   go_wp2_with fail
   refine wp_mono (Q:=Exit.then (λa w'=>w'=setBlock W10.drew m2 o/\a={ tmps:=#[.pointer (some ⟨B,0,none⟩),.agg #[.bool fin,.int .i64 out,.slice A n c],.pointer (some ⟨w.heap.size,0,none⟩),.pointer (some ⟨w.heap.size+1,0,none⟩),.int .i64 0,.pointer (some ⟨w2.heap.size,0,none⟩),undef,undef,.int .i64 sn,.bool false,.pointer (some ⟨B,0,none⟩),.pointer (some ⟨w.heap.size+1,0,none⟩),.bool fin,.pointer (some ⟨w.heap.size+1,1,none⟩),.int .i64 out,.agg #[.bool fin,.int .i64 out,.int .i64 0,.int .i64 0,.int .i64 (-1),.int .i64 0],.int .i64 k0,.pointer (some ⟨w.heap.size+1,2,none⟩),.slice A n c,.func (.func 149) #[] #[.pointer (some ⟨Bs,0,none⟩)],undef,undef,undef,undef,undef,undef,undef,undef,undef,undef,undef,undef,undef,undef,.tuple #[.int .i64 0,.bool false],.pointer (some ⟨B,0,none⟩),.pointer (some ⟨B,0,none⟩),.pointer (some ⟨B,2,none⟩),.map (some m2),.int .i64 k,.tuple #[.int .i64 0,.bool false],.int .i64 0,.bool false,.bool false,.bool true,.pointer (some ⟨B,0,none⟩),.pointer (some ⟨B,0,none⟩),.pointer (some ⟨B,0,none⟩),.slice sA sn sc,.int .i64 sn,.pointer (some ⟨B,0,none⟩),.pointer (some ⟨B,0,none⟩),.pointer (some ⟨B,0,none⟩),.pointer (some ⟨B,0,none⟩),.slice sA sn sc,.agg #[.bool fin,.int .i64 out,.slice A n c],v56,.slice (some ⟨g4,0,none⟩) (sn+1) cap4,.pointer (some ⟨B,0,none⟩),.pointer (some ⟨B,0,none⟩),.pointer (some ⟨B,0,none⟩),.pointer (some ⟨B,0,none⟩),.pointer (some ⟨B,2,none⟩),.map (some m2),.int .i64 k,.int .i64 sn,undef],defers:=[{ target:=.collected D,args:=#[] }] }) (λ_ _ _=>False)) ?region2 ?after2
   case region2 =>
    go_region
    all_goals
     exact⟨rfl,rfl⟩
   intro e a w11 hq
   cases e<;>first | exact hq.elim | skip
   obtain⟨rfl,rfl⟩:=hq
   clear y0 y1 y2 b0 b1 b2 d0 d1 d2 hup
   go_wp2_with fail
   have hTw:aC (λg=>g=m1) w W5:=H7.then (HT5.up _)
   have hT3:aC (λg=>g=m2) W10 (setBlock W10.drew m2 o):=((aC.refl _ _).drew).then (dV _ _ _)
   have hT5e:aC (λg=>(g=B\/(Value.slice sA sn sc).ownBlock=some g)\/g=m2) W5 (setBlock W10.drew m2 o):=(HHT.mono (λ_ _ e=>.inl e)).then (hT3.mono (λ_ _ e=>.inr e))
   have hBlt:=HB.blk.lt
   have hm2lt:=HB.bk.lt
   have h1s:=HT1.size
   have hD5:W5.heap[D]? = some (.deferred (some [])):=(HT5.block D (Array.getElem?_eq_some_iff.1 HK).1 (λf=>f)).trans HK
   have hDe:(setBlock W10.drew m2 o).heap[D]? = some (.deferred (some [])):=(hT5e.block D (Array.getElem?_eq_some_iff.1 hD5).1 (by
    rintro ((e | e) | e)
    ·omega
    ·obtain⟨cs,_,e2⟩:=aM HB5.own e
     rw[hD5] at e2
     cases e2
    ·omega)).trans hD5
   have hnA:∀ g,bQ W5 g 173 -> ¬ ((g=B\/(Value.slice sA sn sc).ownBlock=some g)\/g=m2):=by
    rintro g hg (e | e)
    ·exact HHN hg (by decide) (by decide) e
    ·exact HB5.bk.ne hg e
   have hbld:Kn (setBlock W10.drew m2 o) B (some ⟨g4,0,none⟩) (sn+1) cap4 (Z++[⟨fin,out,A,n,c,arcs⟩]) m1 m2 (Lk++M) (Bk++[k]):=by
    refine⟨HHB.touch hT3 (λe=>?_),?_,by rw[qQa,HB.len];rfl,?_,HH1.far hT3 HB.ne,?_,HB.ne,?_⟩
    ·exact HB.bk.ne (aG HB.blk) e
    ·rw[Sj]
     refine aF HHO hT3 (λg hg e=>?_)
     have h1:=HHT.size
     rcases HHF.out with e2 | ⟨g',e2,hle⟩
     ·exact HB5.bk.ne (aM HB5.own (e2.symm.trans hg)) e
     ·rw[e2] at hg
      injection hg with hg
      have:=HB5.bk.lt
      omega
    ·intro z hz
     rcases List.mem_append.1 hz with hz | hz
     ·exact (HB5.el z hz).touch hT5e hnA
     ·rw[List.mem_singleton.1 hz]
      exact (HS.touch hTw (λg hg e=>HB.lk.ne hg e)).touch hT5e hnA
    ·rw[qZc]
     exact HH3
    ·rw[qZc]
     exact HADD.2
   refine⟨by simp,.inl ⟨_,_,rfl,run_takeDeferred hDe,?_⟩⟩
   have hg:=grownBy_putObj' (setBlock W10.drew m2 o) D (.deferred none)
   refine⟨.int .i64 sn,by simp[results,Tryz.f137,go_sem],sn,some ⟨g4,0,none⟩,sn+1,cap4,Z++[⟨fin,out,A,n,c,arcs⟩],Lk++M,Bk++[k],rfl,hbld.row hg (λr e=>by cases e;exact⟨_,hDe,rfl⟩) (λe=>by cases e;omega) (λe=>by cases e;omega),?_,λz hz=>(List.mem_append.1 hz).elim .inl (λh=>.inr (List.mem_singleton.1 h)),by rw[qQa];have:=H2.out;omega,?_,?_⟩
   ·show _=vY (Z.map SV.p) ⟨fin,out,arcs⟩
    rw[HADD.1,qZc,qJa,HB.len]
    rfl
   ·rcases HHF.out with e2 | ⟨g',e2,hle⟩
    ·exact .inl e2
    ·exact .inr ⟨g',e2,qQc hTw.size hle⟩
   ·refine ((hTw.mono (T:=λg=>g=B\/g=m1\/g=m2\/(Value.slice sA sn sc).ownBlock=some g) (λg _ e=>.inr (.inl e))).then (hT5e.mono (λg _ e=>?_))).grown hg (λg e hlt=>?_)
    ·rcases e with (e | e) | e
     ·exact .inl e
     ·exact .inr (.inr (.inr e))
     ·exact .inr (.inr (.inl e))
    ·cases e
     omega
 case stop =>
  rintro D c pre W _ _ hf
  exact hf.elim
end
def kW(R:Rs)(c:Nat):Rs:=(aI R c).map λr=>(c :: r.1,r.2)
theorem uC(R:Rs)(c:Nat):(kW R c).length=(aI R c).length:=by simp[kW]
theorem rL{x:List Nat}{n:Int}:(x,n)∈kW R c↔∃ t,x=c :: t/\(t,n)∈aI R c:=by
 unfold kW
 rw[qQd]
 constructor
 ·rintro⟨⟨t,m⟩,hr,e⟩
  simp only[Prod.mk.injEq] at e
  obtain⟨rfl,rfl⟩:=e
  exact⟨t,rfl,hr⟩
 ·rintro⟨t,rfl,h⟩
  exact⟨(t,n),h,rfl⟩
theorem Py(h:bU R)(c:Nat):bU (kW R c):=by
 unfold kW bU
 rw[List.pairwise_map]
 have:=eQ c h
 unfold bU at this
 refine this.imp λ{a b} hab=>?_
 unfold Zo at hab ⊢
 simp only
 rw[wU]
 exact hab
theorem pK(h:bU R):R=(if gY R=true then [([],rX R)] else [])++(aO R).flatMap (kW R):=by
 refine Dn h ?_ ?_
 ·unfold bU
  rw[List.pairwise_append]
  refine⟨?_,?_,?_⟩
  ·split
   ·exact List.pairwise_singleton _ _
   ·exact List.Pairwise.nil
  ·rw[List.pairwise_flatMap]
   refine⟨λc _=>Py h c,(dG h).imp λ{a b} hab x hx y hy=>?_⟩
   obtain⟨x,n⟩:=x
   obtain⟨y,m⟩:=y
   obtain⟨t,rfl,_⟩:=rL.1 hx
   obtain⟨t',rfl,_⟩:=rL.1 hy
   unfold Zo
   simp only[rW]
   rw[if_neg (by omega)]
   simpa using hab
  ·intro x hx y hy
   split at hx
   ·rw[qQb] at hx
    subst hx
    obtain⟨c,_,hc⟩:=List.mem_flatMap.1 hy
    obtain⟨y,m⟩:=y
    obtain⟨t,rfl,_⟩:=rL.1 hc
    rfl
   ·cases hx
 ·rintro⟨x,n⟩
  rw[qXc,qQg]
  constructor
  ·intro hx
   cases x with
   | nil =>
    left
    rw[if_pos (eY.2 ⟨n,hx⟩),iF h hx]
    exact List.mem_singleton.2 rfl
   | cons c t =>
    right
    have h1:=cA.2 hx
    exact⟨c,bO.2 (List.ne_nil_of_mem h1),rL.2 ⟨t,rfl,h1⟩⟩
  ·rintro (hx | ⟨c,_,hc⟩)
   ·split at hx
    ·rename_i hf
     rw[qQb] at hx
     simp only[Prod.mk.injEq] at hx
     obtain⟨rfl,rfl⟩:=hx
     obtain⟨m,hm⟩:=eY.1 hf
     rw[iF h hm]
     exact hm
    ·cases hx
   ·obtain⟨t,rfl,h1⟩:=rL.1 hc
    exact cA.1 h1
section
variable{k:kG}(hk:nY k){s:Nat}{z:cU}(hz:k.states[s]? = some z)
include hk hz
end
theorem Gs:(Tryz.prog.info? 158).map (λi=>(i.zero,i.size,i.bytes))=some (some (.agg #[.slice none 0 0,.int .i64 0]),2,32):=by kernel_rfl
def FL.tl(s:FL):FL:=⟨if s.c=1 then s.A else s.A.map (·.add 2),s.n-1,s.c-1,s.V.tail⟩
theorem FL.Ok.tl{s:FL}(h:s.Ok w)(hn:0<s.n):s.tl.Ok w:=by
 obtain⟨A,n,c,V⟩:=s
 have hl:=h.len
 have hle:=h.le
 simp only at hn hl hle
 cases V with
 | nil=>simp at hl;omega
 | cons x V =>
  simp only[qXd] at hl
  refine⟨by simp only[FL.tl,List.tail_cons];omega,⟨?_,?_⟩,?_,by simp only[FL.tl];omega⟩
  ·have:=h.rd.rd.cut (k:=1) (cap:=c) hn hle
   simp only[FL.tl,List.tail_cons]
   simpa [kF,RV.cells] using this
  ·intro hn2 g hg
   refine h.rd.ty hn g ?_
   simp only[FL.tl] at hg
   split at hg
   ·exact hg
   ·cases hA:A with
    | none=>rw[hA] at hg;cases hg
    | some a =>
     rw[hA] at hg
     simp only[Option.map_some,aJ,Option.some.injEq] at hg ⊢
     rw[<-hg]
     unfold Addr.add
     split<;>rfl
  ·intro r hr
   exact h.el r (qJc _ hr)
def Kj(R:Rs)(cs:List Nat):Nat:=(cs.map λc=>gJ (aI R c)+1).sum
theorem xZ(R:Rs)(cs:List Nat)(c:Nat):Kj R (cs++[c])=Kj R cs+(gJ (aI R c)+1):=by simp[Kj]
theorem Vb(h:bU R):∀ j,Kj R ((aO R).take j)<=gJ R:=by
 intro j
 have hn:((aO R).take j).Nodup:=((dG h).imp (λh=>Nat.ne_of_lt h)).sublist (List.take_sublist _ _)
 refine qQc ?_ (Ea R _ hn)
 have hm:∀ c∈(aO R).take j,aI R c≠[]:=λc hc=>bO.1 (List.mem_of_mem_take hc)
 unfold Kj
 generalize (aO R).take j=cs at hm
 clear hn
 induction cs with
 | nil=>exact qZe _
 | cons c cs ih =>
  simp only[qJb,List.sum_cons]
  have h1:=tV R c
  have h2:=List.length_pos_iff.2 (hm c qZa)
  have h3:=ih (λd hd=>hm d (qJc _ hd))
  omega
theorem Qs(R:Rs)(_:bU R)(j:Nat):((aO R).take j).length<=Kj R ((aO R).take j):=by
 unfold Kj
 generalize (aO R).take j=cs
 induction cs with
 | nil=>exact qZe _
 | cons c cs ih=>simp only[qJb,List.sum_cons,qXd];omega
theorem aFd(K:List cU)(s:cU):(vY K s).2<(vY K s).1.length/\(vY K s).1.length<=K.length+1:=by
 unfold vY
 cases hf:K.findIdx? (λx=>decide (x=s)) with
 | some i =>
  obtain⟨hi,_,_⟩:=List.findIdx?_eq_some_iff_getElem.1 hf
  exact⟨hi,Nat.le_succ _⟩
 | none=>simp
def SB(B m1 m2:Nat)(v:Value)(g:Nat):Prop:=g=B\/g=m1\/g=m2\/v.ownBlock=some g
theorem Kn.noS(h:Kn w B sA sn sc Z m1 m2 Lk Bk)(h1:t ≠ 163)(h2:t ≠ 170):∀ g,bQ w g t->¬ SB B m1 m2 (.slice sA sn sc) g:=by
 rintro g hg (e | e | e | e)
 ·exact hg.ne (aG h.blk) h1 e
 ·exact h.lk.ne hg e
 ·exact h.bk.ne hg e
 ·exact (aM h.own e).ne hg (λe=>h2 e.symm) rfl
def aFa(f:Nat):Prop:=∀ (w:World) (B:Nat) (sA:Option Addr) (sn sc:Nat) (Z:List SV) (m1 m2:Nat) (Lk:List Value) (Bk:List Nat) (l:FL),Kn w B sA sn sc Z m1 m2 Lk Bk->l.Ok w->l.Bd->(∀ r∈l.p,∀ c∈r.1,c<1114112)->bU l.p->0<l.n->l.n<=4096->gT l.p<f->Lk.length+2*gJ l.p<=800000->sn+gJ l.p<=800000 ->
 Calls Tryz.prog 83 #[.pointer (some ⟨B,0,none⟩),l.val] w λe w'=>∃ (i:Nat) (sA':Option Addr) (sn' sc':Nat) (Z':List SV) (Lk':List Value) (Bk':List Nat),e=.returned (.int .i64 i)/\Kn w' B sA' sn' sc' Z' m1 m2 Lk' Bk'/\(Z'.map SV.p,i)=zL f (Z.map SV.p) l.p/\Lk'.length<=Lk.length+2*gJ l.p+1/\sn'<=sn+gJ l.p+1/\i<sn'/\cK w (.slice sA sn sc) (.slice sA' sn' sc')/\(∀ z∈Z',z∈Z\/(0<z.n->∀ g,aJ z.A=some g->w.heap.size<=g))/\aC (SB B m1 m2 (.slice sA sn sc)) w w'
structure Vl(w wr:World)(B C m1 m2:Nat)(v0:Value)(Z0:List SV)(sA:Option Addr)(sn sc:Nat)(Z:List SV)(Lk:List Value)(Bk:List Nat)(fin:Bool)(out:Int)(aA:Option Addr)(ai ac:Nat)(arcs:List (Nat × Int × Nat)):Prop where
 bld:Kn wr B sA sn sc Z m1 m2 Lk Bk
 b2:aL wr C 170 #[.bool fin,.int .i64 out,.slice aA ai ac]
 own:wr.ownsRow 0 173 3 (.slice aA ai ac) ai (dQ arcs)
 al:arcs.length=ai
 ab:∀ a∈arcs,Vj a
 af:∀ g,(Value.slice aA ai ac).ownBlock=some g->w.heap.size<=g
 touch:aC (SB B m1 m2 v0) w wr
 fr:cK w v0 (.slice sA sn sc)
 nb:(Value.slice sA sn sc).ownBlock≠some C
 zs:∀ z∈Z,z∈Z0\/(0<z.n->∀ g,aJ z.A=some g->w.heap.size<=g)
 za:∀ z∈Z,0<z.n->∀ g,aJ z.A=some g->(Value.slice aA ai ac).ownBlock≠some g
 cw:w.heap.size<=C
structure L3P(R:Rs)(f:Nat)(K0:List cU)(ln0 sn0:Nat)(K:List cU)(ln sn:Nat)(arcs:List (Nat × Int × Nat))(j:Nat):Prop where
 pl:(K,arcs)=gV (zL f) (bE R) R K0 ((aO R).take j)
 lb:ln+j<=ln0+2*Kj R ((aO R).take j)
 sb:sn<=sn0+Kj R ((aO R).take j)
 le:j<=(aO R).length
section
variable{w wr:World}{B C m1 m2:Nat}{v0:Value}{Z0:List SV}{sA:Option Addr}{sn sc:Nat}{Z:List SV}{Lk:List Value}{Bk:List Nat}{fin:Bool}{out:Int}{aA:Option Addr}{ai ac:Nat}{arcs:List (Nat × Int × Nat)}
theorem Vl.quiet(h:Vl w wr B C m1 m2 v0 Z0 sA sn sc Z Lk Bk fin out aA ai ac arcs)(T:aC (λ_=>False) wr u):Vl w u B C m1 m2 v0 Z0 sA sn sc Z Lk Bk fin out aA ai ac arcs :=
 ⟨h.bld.quiet T,h.b2.touch T (λf=>f),aF h.own T (λ_ _ f=>f),h.al,h.ab,h.af,h.touch.then (T.up _),h.fr,h.nb,h.zs,h.za,h.cw⟩
theorem Vl.call(h:Vl w wr B C m1 m2 v0 Z0 sA sn sc Z Lk Bk fin out aA ai ac arcs){sA':Option Addr}{sn' sc':Nat}{Z':List SV}{Lk':List Value}{Bk':List Nat}(hb:Kn u B sA' sn' sc' Z' m1 m2 Lk' Bk')(T:aC (SB B m1 m2 (.slice sA sn sc)) wr u)(hf:cK wr (.slice sA sn sc) (.slice sA' sn' sc'))
  (hz:∀ z∈Z',z∈Z\/(0<z.n->∀ g,aJ z.A=some g->wr.heap.size<=g)):Vl w u B C m1 m2 v0 Z0 sA' sn' sc' Z' Lk' Bk' fin out aA ai ac arcs:=by
 have hs:w.heap.size<=wr.heap.size:=h.touch.size
 have hlt:=h.b2.lt
 have hC:¬ SB B m1 m2 (.slice sA sn sc) C:=by
  rintro (e | e | e | e)
  ·exact (aG h.b2).ne (aG h.bld.blk) (by decide) e
  ·exact h.bld.lk.ne (aG h.b2) e
  ·exact h.bld.bk.ne (aG h.b2) e
  ·exact h.nb e
 refine⟨hb,h.b2.touch T hC,aF h.own T (λg hg=>h.bld.noS (t := 173) (by decide) (by decide) g (aM h.own hg)),h.al,h.ab,h.af,h.touch.trans T ?_,h.fr.up hf hs,?_,?_,?_,h.cw⟩
 ·rintro g hg (e | e | e | e)
  ·exact .inl e
  ·exact .inr (.inl e)
  ·exact .inr (.inr (.inl e))
  ·rcases h.fr with e2 | ⟨g',e2,hg'⟩
   ·exact .inr (.inr (.inr (e2.symm.trans e)))
   ·rw[e2] at e
    injection e with e
    omega
 ·rcases hf with e2 | ⟨g',e2,hg'⟩
  ·rw[e2];exact h.nb
  ·rw[e2]
   intro e
   injection e with e
   omega
 ·intro z hzz
  rcases hz z hzz with h1 | h1
  ·exact h.zs z h1
  ·exact .inr λhn g hg=>qQc hs (h1 hn g hg)
 ·intro z hzz hn g hg e
  rcases hz z hzz with h1 | h1
  ·exact h.za z h1 hn g hg e
  ·have:=(aM h.own e).lt
   have:=h1 hn g hg
   omega
theorem Vl.arc(h:Vl w wr B C m1 m2 v0 Z0 sA sn sc Z Lk Bk fin out aA ai ac arcs){v4:World}{g' cap:Nat}{a:Nat × Int × Nat}(ha:Vj a)
  (hown:v4.ownsRow 0 173 3 (.slice (some ⟨g',0,none⟩) (ai+1) cap) (ai+1) (dQ arcs++[.int .i32 (a.1:Int),.int .i64 a.2.1,.int .i64 (a.2.2:Int)]))(hg:wr.grownBy v4 (Value.slice aA ai ac).ownBlock)(hf:cK wr (.slice aA ai ac) (.slice (some ⟨g',0,none⟩) (ai+1) cap)) :
  Vl w (v4.setCell ⟨C,2,none⟩ (.slice (some ⟨g',0,none⟩) (ai+1) cap)) B C m1 m2 v0 Z0 sA sn sc Z Lk Bk fin out (some ⟨g',0,none⟩) (ai+1) cap (arcs++[a]):=by
 have hs:w.heap.size<=wr.heap.size:=h.touch.size
 have hlt:=h.b2.lt
 have Tg:aC (λg=>(Value.slice aA ai ac).ownBlock=some g\/g=C) wr v4:=((aC.refl (λg=>(Value.slice aA ai ac).ownBlock=some g) wr).grown hg (λk e _=>e)).mono (λ_ _ e=>.inl e)
 have T5:aC (λg=>(Value.slice aA ai ac).ownBlock=some g\/g=C) wr (v4.setCell ⟨C,2,none⟩ (.slice (some ⟨g',0,none⟩) (ai+1) cap)):=Tg.setCell (p:=⟨C,2,none⟩) (λ_=>.inr rfl) _
 have hnT:∀ {g:Nat} {t:TypeId},bQ wr g t->t ≠ 173 -> t ≠ 170 -> ¬ ((Value.slice aA ai ac).ownBlock=some g\/g=C):=by
  rintro g t hg h1 h2 (e | e)
  ·exact (aM h.own e).ne hg (λe=>h1 e.symm) rfl
  ·exact hg.ne (aG h.b2) h2 e
 have hb2:aL v4 C 170 #[.bool fin,.int .i64 out,.slice aA ai ac]:=h.b2.grown hg (λe=>(aM h.own e.symm).ne (aG h.b2) (by decide) rfl)
 have hgw:w.heap.size<=g':=by
  rcases hf with e | ⟨g2,e,h2⟩
  ·exact h.af g' (by rw[<-e];rfl)
  ·have e:g'=g2:=Option.some.inj e
   omega
 have hgC:g'≠C:=by
  rcases hf with e | ⟨g2,e,h2⟩
  ·have e:(Value.slice aA ai ac).ownBlock=some g':=by rw[<-e];rfl
   exact (aM h.own e).ne (aG h.b2) (by decide)
  ·have e:g'=g2:=Option.some.inj e
   omega
 have hZ:∀ z∈Z,0<z.n->∀ g,aJ z.A=some g->¬ ((Value.slice aA ai ac).ownBlock=some g\/g=C):=by
  rintro z hz hn g hg (e | e)
  ·exact h.za z hz hn g hg e
  ·exact ((h.bld.el z hz).rd.ty hn g hg).ne (aG h.b2) (by decide) e
 have hbld:=h.bld
 refine⟨⟨hbld.blk.touch T5 (hnT (aG hbld.blk) (by decide) (by decide)),?_,hbld.len,λz hz=>⟨(hbld.el z hz).len,(hbld.el z hz).rd.touch' T5 (hZ z hz),(hbld.el z hz).le,(hbld.el z hz).mx⟩,hbld.lk.far T5 ?_,hbld.bk.far T5 ?_,hbld.ne,hbld.tab⟩,?_,?_,by rw[qQa,h.al];rfl,?_,?_,?_,h.fr,h.nb,h.zs,?_,h.cw⟩
 ·refine aF hbld.own T5 (λg hg=>?_)
  rintro (e | e)
  ·exact (aM h.own e).ne (aM hbld.own hg) (by decide) rfl
  ·exact h.nb (by rw[<-e];exact hg)
 ·rintro (e | e)
  ·exact hbld.lk.ne (aM h.own e) rfl
  ·exact hbld.lk.ne (aG h.b2) e.symm
 ·rintro (e | e)
  ·exact hbld.bk.ne (aM h.own e) rfl
  ·exact hbld.bk.ne (aG h.b2) e.symm
 ·have:=hb2.set_ 2 (.slice (some ⟨g',0,none⟩) (ai+1) cap)
  simpa using this
 ·rw[Pr]
  refine cO hown (a:=⟨C,2,none⟩) (λe=>?_) _
  have e:some g'=some C:=e
  exact hgC (Option.some.inj e)
 ·intro x hx
  rcases List.mem_append.1 hx with hx | hx
  ·exact h.ab x hx
  ·rw[List.mem_singleton.1 hx];exact ha
 ·intro g hg
  have e:some g'=some g:=hg
  rw[<-Option.some.inj e]
  exact hgw
 ·refine h.touch.trans T5 ?_
  rintro g hg (e | e)
  ·have:=h.af g e
   omega
  ·have:=h.cw
   omega
 ·intro z hz hn g hg e
  have e:some g'=some g:=e
  have e:=Option.some.inj e
  subst e
  rcases hf with e2 | ⟨g2,e2,h2⟩
  ·exact h.za z hz hn g' hg (by rw[<-e2];rfl)
  ·have e3:g'=g2:=Option.some.inj e2
   have:=((hbld.el z hz).rd.ty hn g' hg).lt
   omega
end
structure KC(w:World)(B C m1 m2:Nat)(v0:Value)(Z0:List SV)(fin:Bool)(out:Int)(aA:Option Addr)(ai ac:Nat)(arcs:List (Nat × Int × Nat))(U M:FL)(sA:Option Addr)(sn sc:Nat)(Z:List SV)(Lk:List Value)(Bk:List Nat)(wx:World):Prop where
 l3:Vl w wx B C m1 m2 v0 Z0 sA sn sc Z Lk Bk fin out aA ai ac arcs
 u:U.Ok wx
 m:M.Ok wx
section
variable{w wx:World}{B C m1 m2:Nat}{v0:Value}{Z0:List SV}{sA:Option Addr}{sn sc:Nat}{Z:List SV}{Lk:List Value}{Bk:List Nat}{fin:Bool}{out:Int}{aA:Option Addr}{ai ac:Nat}{arcs:List (Nat × Int × Nat)}{U M:FL}
theorem KC.quiet(h:KC w B C m1 m2 v0 Z0 fin out aA ai ac arcs U M sA sn sc Z Lk Bk wx)(T:aC (λ_=>False) wx u):KC w B C m1 m2 v0 Z0 fin out aA ai ac arcs U M sA sn sc Z Lk Bk u :=
 ⟨h.l3.quiet T,h.u.quiet T,h.m.quiet T⟩
theorem KC.least(h:KC w B C m1 m2 v0 Z0 fin out aA ai ac arcs U M sA sn sc Z Lk Bk wx)(hn:0<U.n)(hm:U.n<=4096) :
  Calls Tryz.prog 84 #[U.val] wx λe w'=>e=.returned (.int .i64 (bE U.p))/\Hid (KC w B C m1 m2 v0 Z0 fin out aA ai ac arcs U M sA sn sc Z Lk Bk w') :=
 (sS wx U h.u hn (qQc hm (by unfold maxLen;omega))).mono λ_ _ ⟨e,T⟩=>⟨e,aB (h.quiet T)⟩
theorem KC.state{f:Nat}(ih:aFa f)(h:KC w B C m1 m2 v0 Z0 fin out aA ai ac arcs U M sA sn sc Z Lk Bk wx)(hbd:U.Bd)(hlb:∀ r∈U.p,∀ c∈r.1,c<1114112)(hs:bU U.p)(hn:0<U.n)(hm:U.n<=4096)(hd:gT U.p<f)(h1:Lk.length+2*gJ U.p<=800000)(h2:sn+gJ U.p<=800000) :
  Calls Tryz.prog 83 #[.pointer (some ⟨B,0,none⟩),U.val] wx λe w'=>∃ (i:Nat) (sA':Option Addr) (sn' sc':Nat) (Z':List SV) (Lk':List Value) (Bk':List Nat),e=.returned (.int .i64 i)/\Hid (KC w B C m1 m2 v0 Z0 fin out aA ai ac arcs U M sA' sn' sc' Z' Lk' Bk' w')/\Hid ((Z'.map SV.p,i)=zL f (Z.map SV.p) U.p/\Lk'.length<=Lk.length+2*gJ U.p+1/\sn'<=sn+gJ U.p+1/\i<sn'):=by
 refine (ih wx B sA sn sc Z m1 m2 Lk Bk U h.l3.bld h.u hbd hlb hs hn hm hd h1 h2).mono ?_
 rintro e w' ⟨i,sA',sn',sc',Z',Lk',Bk',rfl,hb,hp,hlk,hsn,hi,hf,hz,T⟩
 have n1:∀ g,bQ wx g 21 -> ¬ SB B m1 m2 (.slice sA sn sc) g:=h.l3.bld.noS (by decide) (by decide)
 have n2:∀ g,bQ wx g 158 -> ¬ SB B m1 m2 (.slice sA sn sc) g:=h.l3.bld.noS (by decide) (by decide)
 exact⟨i,sA',sn',sc',Z',Lk',Bk',rfl,aB ⟨h.l3.call hb T hf hz,h.u.touch T n1 n2,h.m.touch T n1 n2⟩,aB ⟨hp,hlk,hsn,hi⟩⟩
theorem KC.own(h:KC w B C m1 m2 v0 Z0 fin out aA ai ac arcs U M sA sn sc Z Lk Bk wx):wx.ownsRow 0 173 3 (.slice aA ai ac) ai (dQ arcs):=h.l3.own
theorem KC.arc(h:KC w B C m1 m2 v0 Z0 fin out aA ai ac arcs U M sA sn sc Z Lk Bk wx)(o:Obj){v4:World}{g' cap:Nat}{a:Nat × Int × Nat}(ha:Vj a)
  (hown:v4.ownsRow 0 173 3 (.slice (some ⟨g',0,none⟩) (ai+1) cap) (ai+1) (dQ arcs++[.int .i32 (a.1:Int),.int .i64 a.2.1,.int .i64 (a.2.2:Int)]))(hg:(wx.alloc o).grownBy v4 (Value.slice aA ai ac).ownBlock)(hl:(Value.slice aA ai ac).ownBlock=some g'\/g'=(wx.alloc o).heap.size) :
  Vl w (v4.setCell ⟨C,2,none⟩ (.slice (some ⟨g',0,none⟩) (ai+1) cap)) B C m1 m2 v0 Z0 sA sn sc Z Lk Bk fin out (some ⟨g',0,none⟩) (ai+1) cap (arcs++[a])/\M.Ok (v4.setCell ⟨C,2,none⟩ (.slice (some ⟨g',0,none⟩) (ai+1) cap))/\aL v4 C 170 #[.bool fin,.int .i64 out,.slice aA ai ac]:=by
 have hq:=h.l3.quiet ((aC.refl (λ_=>False) wx).alloc o)
 have T5:aC (λg=>(Value.slice aA ai ac).ownBlock=some g\/g=C) (wx.alloc o) (v4.setCell ⟨C,2,none⟩ (.slice (some ⟨g',0,none⟩) (ai+1) cap)):=(((aC.refl (λg=>(Value.slice aA ai ac).ownBlock=some g) (wx.alloc o)).grown hg (λk e _=>e)).mono (λ_ _ e=>.inl e)).setCell (p:=⟨C,2,none⟩) (λ_=>.inr rfl) _
 have hf:cK (wx.alloc o) (.slice aA ai ac) (.slice (some ⟨g',0,none⟩) (ai+1) cap):=by
  rcases hl with e | e
  ·exact .inl e.symm
  ·exact .inr ⟨g',rfl,by rw[e];exact qZe _⟩
 have hn:∀ t,t ≠ 173 -> t ≠ 170 -> ∀ g,bQ (wx.alloc o) g t->¬ ((Value.slice aA ai ac).ownBlock=some g\/g=C):=by
  rintro t h1 h2 g hgt (e | e)
  ·exact (aM hq.own e).ne hgt (λe=>h1 e.symm) rfl
  ·exact hgt.ne (aG hq.b2) h2 e
 exact⟨hq.arc ha hown hg hf,(h.m.quiet ((aC.refl _ _).alloc o)).touch T5 (hn _ (by decide) (by decide)) (hn _ (by decide) (by decide)),hq.b2.grown hg (λe=>(aM hq.own e.symm).ne (aG hq.b2) (by decide) rfl)⟩
theorem L3P.step{f:Nat}{K0:List cU}{ln0 sn0:Nat}{K K':List cU}{ln ln' sn':Nat}{arcs:List (Nat × Int × Nat)}{j i:Nat}(h:L3P R f K0 ln0 sn0 K ln sn arcs j)(hc:(aO R)[j]? = some c)(hp:(K',i)=zL f K (aI R c))(hl:ln'<=ln+2*gJ (aI R c)+1)(hs:sn'<=sn+gJ (aI R c)+1) :
  L3P R f K0 ln0 sn0 K' ln' sn' (arcs++[(c,bE (aI R c)-bE R,i)]) (j+1):=by
 obtain⟨hj,e⟩:=List.getElem?_eq_some_iff.1 hc
 have ht:(aO R).take (j+1)=(aO R).take j++[c]:=by rw[qXg hj,e]
 refine⟨?_,?_,?_,hj⟩
 ·rw[ht,uM,<-h.pl]
  simp only
  rw[<-hp]
 ·rw[ht,xZ]
  have:=h.lb
  omega
 ·rw[ht,xZ]
  have:=h.sb
  omega
end
def kV:Value->Nat
 | .slice _ n _=>n
 | _=>0
theorem aJj{V:List RV}(hb:∀ r∈V,0<=r.wt/\r.wt<=1048576)(hne:V.map RV.p≠[]):0<=bE (V.map RV.p)/\bE (V.map RV.p)<=1048576:=by
 obtain⟨r,hr,e⟩:=dE hne
 obtain⟨v,hv,rfl⟩:=List.mem_map.1 hr
 have:=hb v hv
 rw[<-e]
 exact this
theorem Lh{cs:List Nat}{x:List Nat × Int}{l:Rs}(h:cs.flatMap (kW R)=x :: l):∃ d t,x.1=d :: t/\d∈cs:=by
 have hm:x∈cs.flatMap (kW R):=by rw[h];exact qZa
 obtain⟨c,hcs,hc⟩:=List.mem_flatMap.1 hm
 obtain⟨y,n⟩:=x
 obtain⟨t,e,_⟩:=rL.1 hc
 exact⟨c,t,e,hcs⟩
theorem Wt(hb:∀ r∈R,0<=r.2/\r.2<=1048576)(hs:bU R)(hne:R≠[]):0<=lW R/\lW R<=1048576:=by
 unfold lW
 by_cases h:gY R=true
 ·rw[if_pos h]
  obtain⟨m,hm⟩:=eY.1 h
  rw[iF hs hm]
  have h1:=dX hm
  have h2:=hb _ hm
  obtain⟨r,hr,e⟩:=dE hne
  have h3:=hb r hr
  simp only at h1 h2
  omega
 ·rw[if_neg h]
  omega
theorem Lg(R:Rs)(c k:Nat)(hk:k<(aI R c).length):(kW R c).drop k=(c :: ((aI R c)[k]).1,((aI R c)[k]).2) :: (kW R c).drop (k+1):=by
 rw[List.drop_eq_getElem_cons (by rw[uC];exact hk)]
 simp[kW]
theorem xH{x:RV}{V:List RV}(h:gL w 158 2 A n (kF (x :: V)))(hn:0<n) :
  ∃ g o,A=some ⟨g,o,none⟩/\g<w.heap.size/\w.cell? ⟨g,o,none⟩=some (.slice x.A x.q x.c)/\w.cell? ⟨g,o+1,none⟩=some (.int .i64 x.wt):=by
 obtain⟨b,off,hA,hb,hc⟩:=h.rd.2 hn
 refine⟨b,off,hA,hb,?_,?_⟩
 ·have:=hc 0 (.slice x.A x.q x.c) rfl
  rwa [Nat.add_zero] at this
 ·exact hc 1 (.int .i64 x.wt) rfl
theorem aDy{wr:World}{v0 v:Value}(h:aC (SB B m1 m2 v0) w wr)(fr:cK w v0 v)(T:aC (SB B m1 m2 v) wr u):aC (SB B m1 m2 v0) w u:=by
 refine h.trans T ?_
 rintro g hg (e | e | e | e)
 ·exact .inl e
 ·exact .inr (.inl e)
 ·exact .inr (.inr (.inl e))
 ·rcases fr with e2 | ⟨g',e2,hg'⟩
  ·exact .inr (.inr (.inr (e2.symm.trans e)))
  ·rw[e2] at e
   injection e with e
   omega
theorem Jp{base:Nat}{e:TypeId}{size:Nat}{xs:List Value}(h:w.ownsRow base e size (.slice A n c) n xs)(hn:0<n)(hg:aJ A=some g):(Value.slice A n c).ownBlock=some g:=by
 obtain⟨g',cap,hv,_⟩:=eZ h hn
 injection hv with hA _ _
 subst hA
 exact hg
theorem aBp(f:Nat)(ih:aFa f):aFa (f+1):=by
 intro w B sA0 sn0 sc0 Z0 m1 m2 Lk0 Bk0 l hB hl hbd hlb hs hn hm hd hLk hsn
 obtain⟨i0,hi0,hz0,hz1,hz2⟩:=aQ Gs
 obtain⟨i9,hi9,ha0,ha1,ha2⟩:=aQ Ug
 obtain⟨A,n,c,V⟩:=l
 have hle:=sS w ⟨A,n,c,V⟩ hl hn (qQc hm (by unfold maxLen;omega))
 simp only[FL.val,FL.p] at hle ⊢
 simp only[FL.p] at hlb hs hd hLk hsn
 simp only at hn hm
 have hlen:=hl.len
 simp only at hlen
 have hne:V.map RV.p≠[]:=by
  intro e
  rw[List.map_eq_nil_iff] at e
  rw[e] at hlen
  simp at hlen
  omega
 have hlo:=aJj hbd hne
 have hsp:=pK hs
 obtain⟨R,hR⟩:∃ R,V.map RV.p=R:=⟨_,rfl⟩
 rw[hR] at hle hlb hs hd hLk hsn hne hlo hsp ⊢
 obtain⟨lo,hlow⟩:∃ lo,bE R=lo:=⟨_,rfl⟩
 rw[hlow] at hle hlo
 have HB:=aB hB
 have HL:=aB hl
 have HBD:=aB hbd
 have HLB:=aB hlb
 have HS:=aB hs
 have HD:=aB hd
 have HLK:=aB hLk
 have HSN:=aB hsn
 have HSP:=aB hsp
 have HR:=aB hR
 have HLO:=aB hlow
 have HLE:=aB hle
 have HIH:=aB ih
 have HLEN:=aB hlen
 have HNE:=aB hne
 have HRB:Hid (∀ r∈R,0<=r.2/\r.2<=1048576):=aB (by
  intro r hr
  rw[<-hR] at hr
  obtain⟨v,hv,rfl⟩:=List.mem_map.1 hr
  exact hbd v hv)
 have hnI:(n:Int)<=4096:=by omega
 have hn0:(0:Int)<(n:Int):=by omega
 have HM:=aB hm
 have HN:=aB hn
 clear hB hl hbd hlb hs hd hLk hsn hne hsp hR hlow hle ih hlen hm hn
 go_in
 go_wp2_with fail
 refine HLE.mono ?_
 rintro e w1 ⟨rfl,T1⟩
 obtain⟨w2,hw2⟩:=eX (w1.alloc (.cells #[.bool false,.int .i64 0,.slice none 0 0] 170))
 have hT12:aC (λ_=>False) w1 w2:=by rw[hw2];exact (aC.refl _ _).alloc _
 have hT2:=T1.then hT12
 have hbC:aL w2 w1.heap.size 170 #[.bool false,.int .i64 0,.slice none 0 0]:=by rw[hw2];exact aL.new _ _ _
 have hl2:=HL.quiet hT2
 have h1s:=T1.size
 obtain⟨c0,c1,c2⟩:=hbC.facts
 have HT2:=aB hT2
 have HBC:=aB hbC
 have HL2:=aB hl2
 have HW2:=aB hw2
 have HX:Hid (∃ x V',V=x :: V'):=aB (by
  cases V with
  | nil=>have h1:=HLEN.out;have h2:=HN.out;simp at h1;omega
  | cons x V'=>exact⟨x,V',rfl⟩)
 obtain⟨x,V',hV⟩:=HX.out
 subst hV
 obtain⟨g,o,hA,hg,x0,x1⟩:=xH hl2.rd HN
 simp only at hA
 subst hA
 have hxok:=HL2.el x qZa
 have hxl:=hxok.len
 have hgC:¬ g=w1.heap.size:=λe=>(HL2.rd.ty HN g rfl).ne (aG HBC) (by decide) e
 have hgC2:¬ w1.heap.size=g:=λe=>hgC e.symm
 have x0':=x0
 have x1':=x1
 rw[hw2] at x0' x1'
 obtain⟨⟨xA,xq,xc,xO,xw⟩,hx⟩:∃ y,y=x:=⟨_,rfl⟩
 subst hx
 simp only at x0 x1 x0' x1' hxl
 clear T1 hT12 hT2 hbC hl2 hw2 hg hxok HX
 go_upto_if 16 with fail
 rw[<-HW2.out]
 clear x0' x1'
 go_cut [1] from 9 to 26 (λlv wx=>∃ (fin:Bool) (out:Int) (M:FL),lv=M.val/\Hid (M.Ok wx)/\Hid (M.p=(aO R).flatMap (kW R))/\Hid (gY R=fin)/\Hid (lW R=out)/\M.n<=4096/\Hid (∀ r∈M.V,0<=r.wt/\r.wt<=1048576)/\Hid (aC (λg=>g=w1.heap.size) w2 wx)/\Hid (aL wx w1.heap.size 170 #[.bool fin,.int .i64 out,.slice none 0 0]))
 case first =>
  by_cases hfin:gY R=true
  ·have h1:=HSP.out
   rw[if_pos hfin] at h1
   have h1:=HR.trans h1
   simp only[qJb,RV.p,qZj,List.cons.injEq,Prod.mk.injEq] at h1
   obtain⟨⟨rfl,hout⟩,hrest⟩:=h1
   simp only[qXf] at hxl
   subst hxl
   obtain⟨m,rfl⟩:∃ m,n=m+1:=⟨n-1,by have:=HN.out;omega⟩
   have hwb:=HBD.out _ qZa
   simp only at hwb
   have z1:IntKind.i64.wrap (xw-lo)=xw-lo:=qXb _ (by omega)
   have hcle:=HL2.le
   simp only at hcle
   have z2:(1:Int)<=(m:Int)+1:=by omega
   have z3:(m:Int)+1<=(c:Int):=by omega
   have z4:(1:Int)<=(c:Int):=by omega
   have HFIN:=aB hfin
   have HREST:=aB hrest
   have HOUT:Hid (lW R=xw-lo):=aB (by unfold lW;rw[if_pos hfin,HLO.out,hout])
   clear hfin hrest hout hwb hcle
   go_wp2_with fail
   go_region
   all_goals go_wp2_with fail
   all_goals go_meet
   all_goals
    have ht:=HL2.tl (qXe m)
    have hbC:=(HBC.set_ 0 (.bool true)).set_ 1 (.int .i64 (xw-lo))
    have hTC:aC (λg=>g=w1.heap.size) w2 (((w2.setCell ⟨w1.heap.size,0,none⟩ (.bool true)).setCell ⟨w1.heap.size,1,none⟩ (.int .i64 (xw-lo))).drew):=(((aC.refl (λg=>g=w1.heap.size) w2).setCell (p:=⟨w1.heap.size,0,none⟩) (λ_=>rfl) _).setCell (p:=⟨w1.heap.size,1,none⟩) (λ_=>rfl) _).drew
    refine⟨true,xw-lo,_,?_,aB (ht.touch hTC (λg hg e=>hg.ne (aG HBC) (by decide) e) (λg hg e=>hg.ne (aG HBC) (by decide) e)),aB HREST,HFIN,HOUT,?_,aB (λr hr=>HBD.out r (qJc _ hr)),aB hTC,aB (aL.drew (by simpa using hbC))⟩
    ·simp[FL.tl,FL.val,Addr.add_lit, *]
    ·have:=HM.out
     show m+1-1<=4096
     omega
  ·have h1:=HSP.out
   rw[if_neg hfin,qQe] at h1
   obtain⟨d,t,hdt,_⟩:=Lh (by rw[<-h1,<-HR.out,qJb])
   simp only[RV.p] at hdt
   subst hdt
   obtain⟨q,rfl⟩:∃ q,xq=q+1:=⟨t.length,by simpa using hxl.symm⟩
   have z1:((q:Int)+1 == 0)=false:=by simp;omega
   have z2:¬ ((q:Int)+1=0):=by omega
   have HFIN:=aB hfin
   have H1:=aB h1
   clear hfin h1 hxl
   go_wp2_with fail
   go_meet
   exact⟨false,0,⟨some ⟨g,o,none⟩,n,c,_⟩,rfl,HL2,aB (HR.trans H1),aB (by simpa using HFIN.out),aB (by unfold lW;rw[if_neg HFIN.out]),HM,aB HBD,aB (aC.refl _ _),HBC⟩
 case rest =>
  obtain⟨fin,out,⟨lA,lm,lc,lV⟩,rfl,HMOK,HMP,HF,HO,hlm,HBD2,HTC,HC⟩:=hcut
  obtain⟨C,hC⟩:=eX w1.heap.size
  rw[<-hC] at HTC HC h1s ⊢
  have hT0:aC (λ_=>False) w wc:=HT2.trans HTC (λi hi e=>by omega)
  have h3m:Vl w wc B C m1 m2 (.slice sA0 sn0 sc0) Z0 sA0 sn0 sc0 Z0 Lk0 Bk0 fin out none 0 0 []:=by
   refine⟨HB.quiet hT0,HC,World.ownsRow_nil _ _ _ _,rfl,λa ha=>(by cases ha),λg hg=>(by cases hg),hT0.up _,.inl rfl,λe=>?_,λz hz=>.inl hz,λz _ _ g _ e=>(by cases e),h1s⟩
   have:=(aM HB.own e).lt
   omega
  have h3p:L3P R f (Z0.map SV.p) Lk0.length sn0 (Z0.map SV.p) Lk0.length sn0 [] 0:=⟨rfl,Nat.le_add_right _ _,Nat.le_add_right _ _,qZb _⟩
  have H3M:=aB h3m
  have H3P:=aB h3p
  clear hT0 h3m h3p hC x0 x1 c0 c1 c2 hgC hgC2 HBC HL2 HW2 HTC HC hxl HLE HLEN HL HBD HR HT2
  go_wp2_with fail
  go_loopw [1] (λlv wr=>∃ (M:FL) (j:Nat) (sA:Option Addr) (sn sc:Nat) (Z:List SV) (Lk:List Value) (Bk:List Nat) (aA:Option Addr) (ac:Nat) (arcs:List (Nat × Int × Nat)),lv=M.val/\M.n<=4096/\Hid (M.Ok wr)/\Hid (M.p=((aO R).drop j).flatMap (kW R))/\Hid (∀ r∈M.V,0<=r.wt/\r.wt<=1048576)/\Hid (Vl w wr B C m1 m2 (.slice sA0 sn0 sc0) Z0 sA sn sc Z Lk Bk fin out aA j ac arcs)/\Hid (L3P R f (Z0.map SV.p) Lk0.length sn0 (Z.map SV.p) Lk.length sn arcs j)) (λlv _=>kV lv)
  case atStart=>exact⟨⟨lA,lm,lc,lV⟩,0,sA0,sn0,sc0,Z0,Lk0,Bk0,none,0,[],rfl,hlm,HMOK,HMP,HBD2,H3M,H3P⟩
  case round =>
   clear H3M H3P HMOK HMP HBD2 hlm
   obtain⟨⟨lA,lm,lc,lV⟩,j,sA,sn,sc,Z,Lk,Bk,aA,ac,arcs,rfl,hlm,HMOK,HMP,HBD,H3M,H3P⟩:=hrel
   simp only[FL.val] at hlm ⊢
   have hlV:lV.length=lm:=HMOK.len
   obtain⟨b0,b1,b2⟩:=H3M.b2.facts
   by_cases h0:lm=0
   ·subst h0
    have hV0:lV=[]:=qZh hlV
    have hdr:(aO R).drop j=[]:=by
     have h1:=HMP.out
     simp only[FL.p,hV0,List.map_nil] at h1
     cases hd:(aO R).drop j with
     | nil=>rfl
     | cons d ds =>
      rw[hd,List.flatMap_cons] at h1
      have h2:aI R d≠[]:=bO.1 (List.mem_of_mem_drop (by rw[hd];exact qZa))
      have h3:=congrArg List.length h1
      rw[qQa,uC] at h3
      have h4:=List.length_pos_iff.2 h2
      simp at h3
      omega
    have hjl:(aO R).length<=j:=List.drop_eq_nil_iff.1 hdr
    have htk:(aO R).take j=aO R:=qZk hjl
    have hpl:=H3P.pl
    have hlb:=H3P.lb
    have hsb:=H3P.sb
    rw[htk] at hpl hlb hsb
    have htu:=Vb HS (aO R).length
    rw[qZg] at htu
    have hfew:=Qs R HS (aO R).length
    rw[qZg] at hfew
    have hob:=H3M.own
    have hos:=fY hob
    have hsok:(⟨fin,out,aA,j,ac,arcs⟩:SV).Ok wr:=⟨H3M.al,gL.of_own hob,hos.1,hos.2⟩
    have hjf:=H3P.le
    have hlk:=HLK.out
    have hsnb:=HSN.out
    have hout:0<=out/\out<=1048576:=by rw[<-HO.out];exact Wt HRB HS HNE
    have hadd:=aBh wr B sA sn sc Z m1 m2 Lk Bk H3M.bld ⟨fin,out,aA,j,ac,arcs⟩ hsok H3M.ab hout (by simp only;omega) (by omega)
    simp only[SV.p] at hadd
    have HADD:=aB hadd
    have HPL:=aB hpl
    have hb1:Lk.length+j<=Lk0.length+2*gJ R:=by omega
    have hb2:sn<=sn0+gJ R:=by omega
    have HBB:=aB (And.intro hb1 hb2)
    clear hlV hV0 hdr hjl htk hpl hlb hsb htu hfew hob hos hsok hjf hlk hsnb hout hadd hb1 hb2
    go_wp2_with fail
    refine HADD.mono ?_
    rintro e w8 ⟨i,sA',sn',sc',Z',Lk',Bk',rfl,hbld,hadd,hz,hlk',hfr,hT⟩
    have HADD2:=aB hadd
    have HBLD:=aB hbld
    have HZ:=aB hz
    have HLK2:=aB hlk'
    have HFR:=aB hfr
    have HTT:=aB hT
    clear hadd hbld hz hlk' hfr hT HADD
    go_wp2_with fail
    go_ret
    have hpl:=HPL.out
    have hlt:=aFd (Z.map SV.p) ⟨fin,out,arcs⟩
    rw[<-HADD2.out] at hlt
    simp only[qJa,HBLD.len,H3M.bld.len] at hlt
    have hws:w.heap.size<=wr.heap.size:=H3M.touch.size
    refine⟨i,sA',sn',sc',Z',Lk',Bk',rfl,HBLD,?_,?_,?_,hlt.1,H3M.fr.up HFR hws,?_,aDy H3M.touch H3M.fr HTT⟩
    ·rw[HADD2.out]
     simp only[zL]
     rw[<-hpl,HF.out,HO.out]
    ·have h1:=HLK2.out
     have h2:=HBB.1
     omega
    ·have h2:=HBB.2
     omega
    ·intro z hzz
     rcases HZ.out z hzz with h1 | rfl
     ·exact H3M.zs z h1
     ·refine .inr λhn g hg=>H3M.af g ?_
      exact Jp H3M.own hn hg
   ·obtain⟨q,rfl⟩:∃ q,lm=q+1:=⟨lm-1,by omega⟩
    cases lV with
    | nil=>simp at hlV
    | cons y lV =>
    obtain⟨cc,hcc⟩:∃ cc,(aO R).drop j=cc :: (aO R).drop (j+1):=by
     have h1:=HMP.out
     cases hd:(aO R).drop j with
     | nil =>
      simp only[FL.p,hd,List.flatMap_nil,qJb] at h1
      cases h1
     | cons d ds =>
      refine⟨d,?_⟩
      have h2:(aO R).drop (j+1)=ds:=by
       rw[<-List.drop_drop,hd]
       rfl
      rw[h2]
    have hmp:=HMP.out
    rw[hcc,List.flatMap_cons] at hmp
    have hcm:cc∈aO R:=List.mem_of_mem_drop (by rw[hcc];exact qZa)
    have hune:aI R cc≠[]:=bO.1 hcm
    have hul:0<(aI R cc).length:=List.length_pos_iff.2 hune
    obtain⟨T,hT⟩:=eX (((aO R).drop (j+1)).flatMap (kW R))
    rw[<-hT] at hmp
    have hgt:∀ d∈(aO R).drop (j+1),cc<d:=by
     intro d hd
     have h1:=dG HS
     have h2:=h1.sublist (List.drop_sublist j _)
     rw[hcc,List.pairwise_cons] at h2
     exact h2.1 d hd
    have hyp:∃ t,y.O=cc :: t:=by
     have h1:=Lg R cc 0 hul
     rw[List.drop_zero] at h1
     have h2:y.p :: lV.map RV.p=kW R cc++T:=hmp
     rw[h1,qZd] at h2
     injection h2 with e1 _
     exact⟨_,congrArg Prod.fst e1⟩
    obtain⟨yt,hyt⟩:=hyp
    obtain⟨g,o,hA,hg,y0,y1⟩:=xH HMOK.rd (qXe q)
    simp only at hA
    subst hA
    have hyok:=HMOK.el y qZa
    have hyl:=hyok.len
    have hyr:=hyok.rd.rd
    rw[hyt] at hyl hyr
    obtain⟨yq,hyq⟩:∃ yq,y.q=yq+1:=⟨yt.length,by simpa using hyl.symm⟩
    rw[hyq] at y0 hyr
    obtain⟨b,off,hyA,_,d0⟩:=tM hyr
    rw[hyA] at y0
    have n0:(0:Int)<(q:Int)+1:=by omega
    have n1:(0:Int)<(yq:Int)+1:=by omega
    have HT:=aB hT
    have HMP2:=aB hmp
    have HCC:=aB hcc
    have HCM:=aB hcm
    have HUL:=aB hul
    have HGT:=aB hgt
    have HQ:=aB hlm
    clear hlV h0 hcc hmp hcm hune hul hT hgt hyt hg hyok hyl hyr hyq hyA hlm
    go_upto_block 2 with fail
    go_cut [1,8] from 36 to 63 (λlv uv wx=>∃ (M':FL) (uA:Option Addr) (uq uc:Nat) (U:List RV),lv=M'.val/\uv=.slice uA uq uc/\M'.n<=q/\uq<=4096/\Hid (M'.Ok wr)/\Hid (M'.p=T)/\Hid (∀ r∈M'.V,0<=r.wt/\r.wt<=1048576)/\Hid (fS 158 2 wr wx (.slice uA uq uc) uq (kF U))/\Hid (U.length=uq/\U.map RV.p=aI R cc/\∀ r∈U,r.Ok wr/\0<=r.wt/\r.wt<=1048576))
    case first =>
     go_wp2_with fail
     obtain⟨wo,hwo⟩:=eX wr
     subst hwo
     go_loopw [1,8] (λlv uv wi=>∃ (M':FL) (k:Nat) (uA:Option Addr) (uc:Nat) (U:List RV),lv=M'.val/\uv=.slice uA k uc/\M'.n+k=q+1/\k<=(aI R cc).length/\Hid (M'.Ok wo)/\Hid (M'.p=(kW R cc).drop k++T)/\Hid (∀ r∈M'.V,0<=r.wt/\r.wt<=1048576)/\Hid (fS 158 2 wo wi (.slice uA k uc) k (kF U))/\Hid (U.length=k/\U.map RV.p=(aI R cc).take k/\∀ r∈U,r.Ok wo/\0<=r.wt/\r.wt<=1048576)) (λlv _ _=>kV lv)
     case atStart=>exact⟨_,0,none,0,[],rfl,rfl,rfl,qZb _,HMOK,aB (by rw[List.drop_zero];exact HMP2),HBD,aB (fS.nil _ _ _),aB ⟨rfl,rfl,λr hr=>(by cases hr)⟩⟩
     case round =>
      clear y0 y1 d0 b0 b1 b2
      obtain⟨⟨lA,lm,lc,lV⟩,k,uA,uc,U,rfl,rfl,hmk,hku,HMO,HMT,HMB,HUO,HUU⟩:=hrel
      simp only[FL.val] at hmk ⊢
      have hlV:lV.length=lm:=HMO.len
      have hlu:=HUL.out
      by_cases h0:lm=0
      ·subst h0
       have hV0:lV=[]:=qZh hlV
       subst hV0
       have hmt:[]=(kW R cc).drop k++T:=HMT.out
       obtain⟨e1,e2⟩:=List.append_eq_nil_iff.1 hmt.symm
       have hk:(aI R cc).length<=k:=by
        have:=List.drop_eq_nil_iff.1 e1
        rwa [uC] at this
       have HK:=aB hk
       have HE2:=aB e2
       clear hmt e1 e2 hk hlV
       go_wp2_with fail
       go_meet
       exact⟨⟨lA,0,lc,[]⟩,uA,k,uc,U,rfl,rfl,qZb _,(by have:=HQ.out;omega),HMO,aB HE2.symm,HMB,HUO,aB ⟨HUU.1,by rw[HUU.2.1,qZk HK.out],HUU.2.2⟩⟩
      ·obtain⟨m,rfl⟩:∃ m,lm=m+1:=⟨lm-1,by omega⟩
       cases lV with
       | nil=>simp at hlV
       | cons z lV =>
       have hz:=HMO.el z qZa
       have hzb:=HMB.out z qZa
       obtain⟨g,o,hA,hg,y0,y1⟩:=xH (HMO.quiet HUO.touch).rd (qXe m)
       simp only at hA
       subst hA
       have hzl:=hz.len
       have hzr:=(hz.touch HUO.touch (λ_ _ f=>f)).rd.rd
       have hzle:=hz.le
       have hmle:=HMO.le
       simp only at hmle
       by_cases hk:k<(aI R cc).length
       ·have hmt:z.p :: lV.map RV.p=(kW R cc).drop k++T:=HMT.out
        rw[Lg R cc k hk,qZd] at hmt
        injection hmt with e1 e2
        have hzO:z.O=cc :: ((aI R cc)[k]).1:=congrArg Prod.fst e1
        have hzw:z.wt=((aI R cc)[k]).2:=congrArg Prod.snd e1
        obtain⟨t,ht⟩:=eX (((aI R cc)[k]).1)
        rw[<-ht] at hzO
        obtain⟨zA,zq,zc,zO,zw⟩:=z
        simp only at hzO hzw hzl hzr hzle hzb y0 y1
        subst hzO
        obtain⟨zp,rfl⟩:∃ zp,zq=zp+1:=⟨t.length,by simpa using hzl.symm⟩
        obtain⟨b,off,hyA,_,d0⟩:=tM hzr
        subst hyA
        have hsn:(aI R cc).take (k+1)=(aI R cc).take k++[(t,zw)]:=by
         rw[qXg hk,ht,hzw]
        have n0:(0:Int)<(m:Int)+1:=by omega
        have n1:(0:Int)<(zp:Int)+1:=by omega
        have n2:(1:Int)<=(zp:Int)+1:=by omega
        have n3:(zp:Int)+1<=(zc:Int):=by omega
        have n4:(1:Int)<=(zc:Int):=by omega
        have n5:(1:Int)<=(m:Int)+1:=by omega
        have n6:(m:Int)+1<=(lc:Int):=by omega
        have n7:(1:Int)<=(lc:Int):=by omega
        have hkm:k<=4096:=by have:=HQ.out;omega
        have hkI:(k:Int)<=4096:=by omega
        have HZ:=aB hz
        have HSN2:=aB hsn
        have HE2:=aB e2
        have HZB:=aB hzb
        have HKK:=aB hk
        have HKM:=aB hkm
        clear hz e1 e2 hzw ht hzl hzr hzle hmle hsn hzb hlV h0 hg hlu hku hkm
        go_wp2_with fail
        go_region_law (refine step_append_lies _ rfl (.tmp 49) (.tmp 60) 153 rfl 0 158 i0 _ 2 32 Tryz.underlying153 hi0 hz0 hz1 hz2 (by decide) (by decide) (.slice uA k uc) k _ (by simp[Act.eval]) (aF HUO.own ((aC.refl _ _).alloc _).drew (λ_ _ f=>f)) ⟨wr.heap.size,0,none⟩ 1 1 [.slice (if zc=1 then some ⟨b,off,none⟩ else some ⟨b,off+1,none⟩) zp (zc-1),.int .i64 zw] (by simp[Act.eval]) rfl ?news ?one (by decide) ?b1 ?b2 (qZb _) _ rfl ?_;(case news=>exact World.news_of_block (aL.new wr _ _));(case one=>exact vC _ _ _ _);(case b1=>have:=HKM.out;unfold maxLen;omega);(case b2=>have:=HKM.out;omega);intro g4 cap4 w4 hown hgrow hlies _;have N4:=(HUO.to ((aC.refl _ _).alloc _).drew).app2 hown hgrow hlies;have HN4:=aB N4;clear N4 hown hgrow hlies)
        all_goals go_wp2_with fail
        all_goals go_roundw
        all_goals first
         | (show kV _<kV _;simp only[kV];omega)
         | (have hcut:(⟨if zc=1 then some ⟨b,off,none⟩ else some ⟨b,off+1,none⟩,zp,zc-1,t,zw⟩:RV).Ok wo:=by
             have:=HZ.cut (d:=cc) (t:=t) rfl
             simpa [RV.cut,Addr.add_lit] using this
            have hml:=HMO.tl (qXe m)
            refine⟨_,k+1,some ⟨g4,0,none⟩,cap4,U++[⟨if zc=1 then some ⟨b,off,none⟩ else some ⟨b,off+1,none⟩,zp,zc-1,t,zw⟩],?_,rfl,?_,HKK,aB hml,aB HE2,aB (λr hr=>HMB.out r (qJc _ hr)),aB ?_,aB ⟨?_,?_,?_⟩⟩
            ·simp[FL.tl,Addr.add_lit, *]
            ·simp only[FL.tl];omega
            ·rw[Db]
             exact HN4
            ·rw[qQa,HUU.1];rfl
            ·rw[qZc,HUU.2.1,HSN2.out];rfl
            ·intro r hr
             rcases List.mem_append.1 hr with h | h
             ·exact HUU.2.2 r h
             ·rw[List.mem_singleton.1 h]
              exact⟨hcut,HZB⟩)
       ·have hmt:z.p :: lV.map RV.p=(kW R cc).drop k++T:=HMT.out
        have hdn:(kW R cc).drop k=[]:=List.drop_eq_nil_iff.2 (by rw[uC];omega)
        rw[hdn,qQe] at hmt
        obtain⟨d,t,hdt,hdm⟩:=Lh (by rw[<-HT.out,<-hmt])
        have hdg:=HGT.out d hdm
        obtain⟨zA,zq,zc,zO,zw⟩:=z
        simp only[RV.p] at hdt
        simp only at hzl hzr hzle hzb y0 y1
        subst hdt
        obtain⟨zp,rfl⟩:∃ zp,zq=zp+1:=⟨t.length,by simpa using hzl.symm⟩
        obtain⟨b,off,hyA,_,d0⟩:=tM hzr
        subst hyA
        have n0:(0:Int)<(m:Int)+1:=by omega
        have n1:(0:Int)<(zp:Int)+1:=by omega
        have n2:((d:Int) == (cc:Int))=false:=by simp;omega
        have n3:¬ (d:Int)=(cc:Int):=by omega
        have n4:decide ((d:Int)=(cc:Int))=false:=by simp;omega
        have hkk:k=(aI R cc).length:=by omega
        have hmm:m+1<=q:=by omega
        have hkm:k<=4096:=by have:=HQ.out;omega
        have HK:=aB (And.intro hkk (And.intro hmm hkm))
        have HMT2:=aB hmt
        clear hz hmt hdn hdm hdg hzl hzr hzle hzb hmle hlV h0 hg hlu hku hk hkk hmm hkm
        go_wp2_with fail
        go_meet
        exact⟨_,uA,k,uc,U,rfl,rfl,HK.2.1,HK.2.2,HMO,aB HMT2,HMB,HUO,aB ⟨HUU.1,by rw[HUU.2.1,HK.1,qZg],HUU.2.2⟩⟩
    case rest =>
     obtain⟨M',uA,uq,uc,U,rfl,rfl,hmq,huq,HMO,HMT,HMB,HUO,HUU⟩:=hcut
     have hup:=HUU.2.1
     have hul:=HUU.1
     have hos:=fY HUO.own
     have huok:(⟨uA,uq,uc,U⟩:FL).Ok wc:=⟨hul,gL.of_own HUO.own,λr hr=>(HUU.2.2 r hr).1.touch HUO.touch (λ_ _ f=>f),hos.1⟩
     have hkc:KC w B C m1 m2 (.slice sA0 sn0 sc0) Z0 fin out aA j ac arcs ⟨uA,uq,uc,U⟩ M' sA sn sc Z Lk Bk wc.drew:=⟨(H3M.quiet HUO.touch).quiet (aC.refl _ _).drew,huok.quiet (aC.refl _ _).drew,(HMO.quiet HUO.touch).quiet (aC.refl _ _).drew⟩
     have huq0:0<uq:=by
      have h1:=HUL.out
      rw[<-hup,qJa,hul] at h1
      exact h1
     have hbd:(⟨uA,uq,uc,U⟩:FL).Bd:=λr hr=>(HUU.2.2 r hr).2
     have hlb:∀ r∈(⟨uA,uq,uc,U⟩:FL).p,∀ d∈r.1,d<1114112:=by
      intro r hr d hd
      have hr:r∈U.map RV.p:=hr
      rw[hup] at hr
      obtain⟨t,n⟩:=r
      exact HLB _ (cA.1 hr) d (qJc _ hd)
     have hup2:(⟨uA,uq,uc,U⟩:FL).p=aI R cc:=hup
     have hus:bU (aI R cc):=eQ cc HS
     have hud:gT (aI R cc)<f:=by
      have h1:=gD (bO.1 HCM)
      have h2:=HD.out
      omega
     have hcj:(aO R)[j]? = some cc:=by
      have h1:((aO R).drop j)[0]? = some cc:=by rw[HCC.out];rfl
      rwa [List.getElem?_drop,Nat.add_zero] at h1
     have hct:(aO R).take (j+1)=(aO R).take j++[cc]:=by
      obtain⟨hj,e⟩:=List.getElem?_eq_some_iff.1 hcj
      rw[qXg hj,e]
     have htu:=Vb HS (j+1)
     rw[hct,xZ] at htu
     have hlk1:Lk.length+2*gJ (aI R cc)<=800000:=by
      have h1:=H3P.lb
      have h2:=HLK.out
      omega
     have hsn1:sn+gJ (aI R cc)<=800000:=by
      have h1:=H3P.sb
      have h2:=HSN.out
      omega
     have hclt:cc<1114112:=by
      obtain⟨r,hr⟩:=List.exists_mem_of_ne_nil _ (bO.1 HCM)
      obtain⟨t,n⟩:=r
      exact HLB _ (cA.1 hr) cc qZa
     obtain⟨lu,hlu⟩:=eX (bE (aI R cc))
     have hlub:lo<=lu/\lu<=1048576:=by
      obtain⟨r,hr,e⟩:=dE (bO.1 HCM)
      obtain⟨t,n⟩:=r
      have h1:=dX (cA.1 hr)
      have h2:=HRB.out _ (cA.1 hr)
      rw[HLO.out] at h1
      simp only at e h1 h2
      omega
     have z1:IntKind.i64.wrap (lu-lo)=lu-lo:=qXb _ (by omega)
     have hleast:∀ (sA:Option Addr) (sn sc:Nat) (Z:List SV) (Lk:List Value) (Bk:List Nat) (wx:World),Hid (KC w B C m1 m2 (.slice sA0 sn0 sc0) Z0 fin out aA j ac arcs ⟨uA,uq,uc,U⟩ M' sA sn sc Z Lk Bk wx)->Calls Tryz.prog 84 #[.slice uA uq uc] wx λe w'=>e=.returned (.int .i64 lu)/\Hid (KC w B C m1 m2 (.slice sA0 sn0 sc0) Z0 fin out aA j ac arcs ⟨uA,uq,uc,U⟩ M' sA sn sc Z Lk Bk w'):=by
      intro sA sn sc Z Lk Bk wx h
      have:=h.out.least huq0 huq
      rw[hup2,<-hlu] at this
      exact this
     have hstate:∀ (wx:World),Hid (KC w B C m1 m2 (.slice sA0 sn0 sc0) Z0 fin out aA j ac arcs ⟨uA,uq,uc,U⟩ M' sA sn sc Z Lk Bk wx)->Calls Tryz.prog 83 #[.pointer (some ⟨B,0,none⟩),.slice uA uq uc] wx λe w'=>∃ (i:Nat) (sA':Option Addr) (sn' sc':Nat) (Z':List SV) (Lk':List Value) (Bk':List Nat),e=.returned (.int .i64 i)/\Hid (KC w B C m1 m2 (.slice sA0 sn0 sc0) Z0 fin out aA j ac arcs ⟨uA,uq,uc,U⟩ M' sA' sn' sc' Z' Lk' Bk' w')/\Hid ((Z'.map SV.p,i)=zL f (Z.map SV.p) (aI R cc)/\Lk'.length<=Lk.length+2*gJ (aI R cc)+1/\sn'<=sn+gJ (aI R cc)+1/\i<sn'):=by
      intro wx h
      have:=h.out.state HIH hbd hlb (by rw[hup2];exact hus) huq0 huq (by rw[hup2];exact hud) (by rw[hup2];exact hlk1) (by rw[hup2];exact hsn1)
      rw[hup2] at this
      exact this
     have hjb:j<=900000:=by
      have h1:=H3P.lb
      have h2:=HLK.out
      omega
     have HKC:=aB hkc
     have HLEAST:=aB hleast
     have HSTATE:=aB hstate
     have HCJ:=aB hcj
     have HCLT:=aB hclt
     have HLU:=aB hlu
     have HLUB:=aB hlub
     have HSN1:=aB hsn1
     have HJB:=aB hjb
     clear y0 y1 d0 b0 b1 b2
     obtain⟨b0,b1,b2⟩:=hkc.l3.b2.facts
     clear hup hul hos huok hkc huq0 hbd hlb hup2 hus hud hcj hct htu hlk1 hsn1 hclt hlu hlub hleast hstate hjb
     go_wp2_with fail
     go_region_law (first
      | (go_simp;go_at_call 84;refine (HLEAST _ _ _ _ _ _ _ (by assumption)).mono ?_;rintro e wL ⟨rfl,HKL⟩;obtain⟨e0,e1,e2⟩:=HKL.l3.b2.facts)
      | (go_simp;go_at_call 83;refine (HSTATE _ (by assumption)).mono ?_;rintro e wS ⟨i,sA',sn',sc',Z',Lk',Bk',rfl,HKS,HPS⟩;obtain⟨f0,f1,f2⟩:=HKS.l3.b2.facts)
      | (refine step_append_lies _ rfl (.tmp 65) (.tmp 75) 168 rfl 0 173 i9 _ 3 24 Tryz.underlying168 hi9 ha0 ha1 ha2 (by decide) (by decide) (.slice aA j ac) j _ (by simp[Act.eval]) (aF (KC.own (Hid.out HKL)) ((aC.refl _ _).alloc _) (λ_ _ f=>f)) ⟨wL.heap.size,0,none⟩ 1 1 [.int .i32 (cc:Int),.int .i64 (lu-lo),.int .i64 (i:Int)] (by simp[Act.eval]) rfl ?news ?one (by decide) ?b1 ?b2 (qZb _) _ rfl ?_;(case news=>exact World.news_of_block (aL.new wL _ _));(case one=>exact List.all_eq_true.1 rfl);(case b1=>have:=HJB.out;unfold maxLen;omega);(case b2=>have:=HJB.out;omega);intro g4 cap4 w9 hown hgrow hlies _;have hfin:=HKL.arc _ (a:=(cc,lu-lo,i)) ⟨HCLT,by have:=HLUB.out;simp only;omega,by have h1:=HPS.2.2;have h2:=HSN1.out;simp only;omega⟩ hown hgrow hlies;obtain⟨q1,q2,q3⟩:=hfin.2.2.facts;have HFIN:=aB hfin;clear hfin hown hgrow hlies)
      | (refine step_append_lies _ rfl (.tmp 65) (.tmp 75) 168 rfl 0 173 i9 _ 3 24 Tryz.underlying168 hi9 ha0 ha1 ha2 (by decide) (by decide) (.slice aA j ac) j _ (by simp[Act.eval]) (aF (KC.own (Hid.out HKS)) ((aC.refl _ _).alloc _) (λ_ _ f=>f)) ⟨wS.heap.size,0,none⟩ 1 1 [.int .i32 (cc:Int),.int .i64 (lu-lo),.int .i64 (i:Int)] (by simp[Act.eval]) rfl ?news ?one (by decide) ?b1 ?b2 (qZb _) _ rfl ?_;(case news=>exact World.news_of_block (aL.new wS _ _));(case one=>exact List.all_eq_true.1 rfl);(case b1=>have:=HJB.out;unfold maxLen;omega);(case b2=>have:=HJB.out;omega);intro g4 cap4 w9 hown hgrow hlies _;have hfin:=HKS.arc _ (a:=(cc,lu-lo,i)) ⟨HCLT,by have:=HLUB.out;simp only;omega,by have h1:=HPS.2.2;have h2:=HSN1.out;simp only;omega⟩ hown hgrow hlies;obtain⟨q1,q2,q3⟩:=hfin.2.2.facts;have HFIN:=aB hfin;clear hfin hown hgrow hlies))
     all_goals go_wp2_with fail
     all_goals go_roundw
     all_goals first
      | (show kV _<kV _;simp only[FL.val,kV];omega)
      | exact⟨M',j+1,sA',sn',sc',Z',Lk',Bk',some ⟨g4,0,none⟩,cap4,arcs++[(cc,lu-lo,i)],rfl,(by have:=HQ.out;omega),aB HFIN.2.1,aB (HMT.trans HT),HMB,aB HFIN.1,aB (by
        have h:=H3P.step HCJ HPS.1 HPS.2.1 HPS.2.2.1
        rw[<-HLU.out,HLO.out] at h
        exact h)⟩
theorem Ue:∀ f,aFa f
 | 0=>λ_ _ _ _ _ _ _ _ _ _ _ _ _ _ _ _ _ _ h=>absurd h (Nat.not_lt_zero _)
 | f+1=>aBp f (Ue f)
end Go.Proofs.YthockgmbooefpaaGreatDoor
