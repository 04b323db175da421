/- What the law rests on, part 32. No condition but those that each theorem names. -/
import Derived.Test.YthockgmbooefpaaDoorD31
import Derived.BigQuiet
import Derived.RangeFuncNested
import Derived.RangeFuncBound
import Derived.RangeFuncCalls
import Derived.RangeFuncLeaves
import Derived.Shelf.Abstract
import Derived.Shelf.RegionOpen
import Derived.OwnWalkIn
import Derived.TacticsInMore
import Derived.LoopNIn
import Derived.LoopIn
set_option linter.unusedSectionVars false
set_option linter.unusedSimpArgs false
set_option linter.unusedVariables false
namespace Go.Proofs.YthockgmbooefpaaDoor
open Go.RowKit Go.MapKept Go.ChangeMaps
structure FL where
 A:Option Addr
 n:Nat
 c:Nat
 V:List RV
def FL.val (s:FL):Value:=.slice s.A s.n s.c
def FL.p (s:FL):Rs:=s.V.map RV.p
structure FL.Ok (s:FL) (w:World):Prop where
 len:s.V.length=s.n
 rd:RdT w 146 2 s.A s.n (rCells s.V)
 el:∀ r∈s.V,r.Ok w
 le:s.n≤s.c
def FL.Bd (s:FL):Prop:=∀ r∈s.V,0≤r.wt∧r.wt≤1048576
theorem FL.Ok.touch {s:FL} {w w':World} {S:Nat→Prop} (h:s.Ok w) (T:Touch S w w') (h1:∀ g,TyAt w g 21 → ¬ S g) (h2:∀ g,TyAt w g 146 → ¬ S g):s.Ok w' :=
 ⟨h.len,h.rd.touch T h2,fun r hr=>(h.el r hr).touch T h1,h.le⟩
theorem FL.Ok.quiet {s:FL} {w w':World} (h:s.Ok w) (T:Touch (fun _=>False) w w'):s.Ok w':=h.touch T (fun _ _ f=>f) (fun _ _ f=>f)
set_option maxRecDepth 100000 in
theorem fleast_any (w:World) (s:FL) (hs:s.Ok w) (hn:0<s.n) (hm:s.n≤maxLen) :
  Calls Tryd.prog 75 #[s.val] w fun e w'=>e=.returned (.int .i64 (leastR s.p))∧Touch (fun _=>False) w w':=by
 obtain ⟨A,n,c,V⟩:=s
 have HR:=hide hs.rd.rd
 have HLN:=hide hs.len
 simp only [FL.val,FL.p]
 simp only at HR HLN hn hm
 clear hs
 unfold maxLen at hm
 obtain ⟨m,rfl⟩:∃ m,n=m+1:=⟨n-1,by omega⟩
 obtain ⟨g,o,hA,hg,_,z1⟩:=rest_at HR.out HLN.out 0 (by omega)
 subst hA
 simp only [Nat.zero_mul,Nat.add_zero] at z1
 obtain ⟨z,hz⟩:∃ z,(V.getD 0 RV.zero).wt=z:=⟨_,rfl⟩
 rw [hz] at z1
 have hl:leastR (V.map RV.p)=(V.map RV.p).foldl (fun n r=>min n r.2) z:=by
  cases V with
  | nil=>have:=HLN.out;simp at this
  | cons x V=>simp only [List.getD_cons_zero] at hz;subst hz;rfl
 have HL:=hide hl
 have HZ1:=hide z1
 have HG:=hide hg
 clear hl hz hg
 have y0:(0:Int)<((m:Int)+1):=by omega
 go_enter Tryd.func75,Tryd.ntmps75
 go_wp2
 go_loopw [3,12] (fun nv iv wr=>∃ (z':Int) (i:Nat),nv=.int .i64 z'∧iv=.int .i64 i∧i≤m+1∧Hid (z'=((V.map RV.p).take i).foldl (fun n r=>min n r.2) z)∧Hid (Touch (fun _=>False) w wr)) (fun _ iv _=>m+1-(intOf iv).toNat)
 case atStart=>exact ⟨z,0,rfl,rfl,by omega,hide (by simp),hide (Touch.refl _ _)⟩
 case round =>
  obtain ⟨z',i,rfl,rfl,hi,HZ,HT⟩:=hrel
  by_cases hin:i<m+1
  ·have y1:(i:Int)<(m:Int)+1:=by omega
   have y2:(0:Int)≤(i:Int):=by omega
   obtain ⟨g',o',hA,_,a0,a1⟩:=rest_at (HR.out.touch HT.out (fun _ _ f=>f)) HLN.out i hin
   injection hA with hA
   injection hA with hA1 hA2
   subst hA1 hA2
   obtain ⟨u,hu⟩:∃ u,(V.getD i RV.zero).wt=u:=⟨_,rfl⟩
   rw [hu] at a1
   have hst:((V.map RV.p).take (i+1)).foldl (fun n r=>min n r.2) z=min z' u:=by
    rw [take_snoc (V.map RV.p) RV.zero.p i (by rw [List.length_map,HLN.out];exact hin),List.foldl_append,← HZ.out]
    simp only [List.foldl_cons,List.foldl_nil]
    rw [← hu]
    simp [List.getD,RV.p,show i<V.length by rw [HLN.out];exact hin]
   have HST:=hide hst
   have j3:IntKind.i64.wrap ((i:Int)+1)=(i:Int)+1:=IntWalk.i64_in _ (by omega)
   clear hst hu
   go_wp2
   all_goals
    go_roundw
    ·exact ⟨_,i+1,rfl,by simp,by omega,hide (by rw [HST.out];first | done | (split<;>omega)),hide (HT.out.alloc _)⟩
    ·show m+1-(intOf (.int .i64 ((i:Int)+1))).toNat<m+1-(intOf (.int .i64 (i:Int))).toNat
     simp [intOf]
     omega
  ·have y1:¬ (i:Int)<(m:Int)+1:=by omega
   have ht:(V.map RV.p).take i=V.map RV.p:=List.take_of_length_le (by rw [List.length_map,HLN.out];omega)
   have hz:=HZ.out
   rw [ht,← HL.out] at hz
   have HE:=hide hz
   clear hz ht
   go_wp2
   go_ret
   exact ⟨by rw [← HE.out];rfl,HT.out⟩
set_option maxRecDepth 100000 in
set_option maxHeartbeats 1000000 in
theorem known_any (w:World) (B:Nat) (s bv:Value) (m1:Nat) (Lk:List Value) (hb:Blk w B 151 #[s,.map (some m1),bv]) (hI:Itn w m1 179 Lk) (hn:Lk.length≤1000000)
  (f:Bool) (x1 x2 x3 x4 x5:Int) (h1:I64 x1) (h2:I64 x2) (h3:I64 x3) (h4:I64 x4) (h5:I64 x5) (v:Value) (hv:v=.agg #[.bool f,.int .i64 x1,.int .i64 x2,.int .i64 x3,.int .i64 x4,.int .i64 x5]) :
  Calls Tryd.prog 96 #[.pointer (some ⟨B,0,none⟩),v] w fun e w'=>∃ (M:List Value) (k:Nat),e=.returned (.int .i64 k)∧(Lk++M)[k]? = some v∧M.length≤1∧Itn w' m1 179 (Lk++M)∧Touch (fun g=>g=m1) w w':=by
 obtain ⟨w1,hw1⟩:∃ y,y=w.alloc (.cells #[.bool f,.int .i64 x1,.int .i64 x2,.int .i64 x3,.int .i64 x4,.int .i64 x5] 179):=⟨_,rfl⟩
 have hT1:Touch (fun _=>False) w w1:=by rw [hw1];exact (Touch.refl _ _).alloc _
 obtain ⟨b0,b1,b2⟩:=hb.facts
 have hI1:=hI.quiet hT1
 obtain ⟨l,hl⟩:=lnk_key (b:=f) h1 h2 h3 h4 h5
 rw [← hv] at hl
 have hmu:Tryd.prog.underlying 148 = some (.map 179 3):=Tryd.underlying148
 by_cases hno:v ∉ Lk
 ·have hlk:∀ n,(Instr.lookup 148 (.map (some m1)) v true).run Tryd.prog (w1.drewN n)=.ok (.tuple #[.int .i64 0,.bool false]) (w1.drewN n):=fun n=>(hI1.quiet ((Touch.refl _ _).drewN n)).no lnk_keyed hmu hl hno
  have HI1:=hide hI1
  have HT1:=hide hT1
  have HV:=hide hv
  have HB:=hide hb
  have HL:=hide hl
  have HNO:=hide hno
  have HMU:=hide hmu
  have hnI:(Lk.length:Int)≤1000000:=by omega
  rw [hw1,hv] at hlk
  have HW1:=hide hw1
  clear hI hI1 hl hv hT1 hb hw1 hno h1 h2 h3 h4 h5 hmu hn
  rw [HV.out]
  go_enter Tryd.func96,Tryd.ntmps96
  go_wp2_with fail
  go_quiet (fail)
  rw [← HW1.out]
  obtain ⟨w2,hw2⟩:∃ y,y=w1.drewN nq:=⟨_,rfl⟩
  rw [← hw2]
  have hT2:Touch (fun _=>False) w w2:=by rw [hw2];exact HT1.out.drewN _
  have hI2:Itn w2 m1 179 Lk:=by rw [hw2];exact HI1.out.quiet ((Touch.refl _ _).drewN _)
  have hbx:Blk w2 w.heap.size 179 #[.bool f,.int .i64 x1,.int .i64 x2,.int .i64 x3,.int .i64 x4,.int .i64 x5]:=by rw [hw2,HW1.out];exact (Blk.new _ _ _).drewN _
  clear b0 b1 b2
  obtain ⟨b0,b1,b2⟩:=(HB.out.touch hT2 (fun f=>f)).facts
  obtain ⟨c0,c1,c2⟩:=hbx.facts
  have hlen:=hI2.len HMU.out 3
  obtain ⟨o,hup,hI3⟩:=(hI2.quiet (Touch.refl _ _).drew).put lnk_keyed HMU.out HL.out HNO.out
  rw [HV.out] at hup
  have hT3:Touch (fun g=>g=m1) w (setBlock w2.drew m1 o):=(hT2.drew.up _).then (touch_setBlock _ _ _)
  have HI3:=hide hI3
  have HT3:=hide hT3
  clear hw2 hT2 hI2 hbx hI3 hT3 hlk
  go_wp2_with fail
  go_region
  all_goals
   go_wp2_with fail
   go_ret
   exact ⟨[v],Lk.length,rfl,by simp [HV.out],by simp,HI3.out,HT3.out⟩
 ·obtain ⟨i,hi,hil⟩:=List.getElem_of_mem (Classical.not_not.1 hno)
  have hi2:Lk[i]? = some v:=by rw [List.getElem?_eq_getElem hi,hil]
  have hlk:∀ n,(Instr.lookup 148 (.map (some m1)) v true).run Tryd.prog (w1.drewN n)=.ok (.tuple #[.int .i64 i,.bool true]) (w1.drewN n):=fun n=>(hI1.quiet ((Touch.refl _ _).drewN n)).yes lnk_keyed hmu hl hi2
  have HI1:=hide hI1
  have HT1:=hide hT1
  have HV:=hide hv
  have HI2:=hide hi2
  rw [hw1,hv] at hlk
  have HW1:=hide hw1
  clear hI hI1 hl hv hT1 hb hw1 hno h1 h2 h3 h4 h5 hmu hn hi hil hi2
  rw [HV.out]
  go_enter Tryd.func96,Tryd.ntmps96
  go_wp2_with fail
  go_quiet (fail)
  rw [← HW1.out]
  have hT2:=HT1.out.drewN nq
  have hI2:=HI1.out.quiet ((Touch.refl _ _).drewN nq)
  have HT2:=hide hT2
  have HI3:=hide hI2
  clear hT2 hI2 hlk
  go_wp2_with fail
  go_ret
  exact ⟨[],i,rfl,by rw [List.append_nil,← HV.out];exact HI2.out,by simp,by rw [List.append_nil];exact HI3.out,HT2.out.up _⟩
end Go.Proofs.YthockgmbooefpaaDoor
namespace Go.Proofs.YthockgmbooefpaaDoor
open Go.RowKit Go.Shelf
attribute [local go_sem] Oper.semAt_some
structure KpP (p:TypeId→Prop) (w w':World):Prop where
 size:w.heap.size≤w'.heap.size
 ty:∀ (g:Nat) (t:TypeId),TyAt w g t→p t→w'.heap[g]? = w.heap[g]?
theorem KpP.refl (p:TypeId→Prop) (w:World):KpP p w w:=⟨Nat.le_refl _,fun _ _ _ _=>rfl⟩
theorem KpP.trans {p:TypeId→Prop} {a b c:World} (h:KpP p a b) (k:KpP p b c):KpP p a c :=
 ⟨Nat.le_trans h.size k.size,fun g t e h1=>by
  have e1:=h.ty g t e h1
  obtain ⟨cs,u,e2⟩:=e
  exact (k.ty g t ⟨cs,u,e1.trans e2⟩ h1).trans e1⟩
theorem KpP.touch {p:TypeId→Prop} {S:Nat→Prop} {w w':World} (h:Touch S w w') (hS:∀ g t,p t→TyAt w g t→¬ S g):KpP p w w' :=
 ⟨h.size,fun g t e h1=>h.block g e.lt (hS g t h1 e)⟩
theorem KpP.of {p:TypeId→Prop} {w w':World} (h:Touch (fun _=>False) w w'):KpP p w w':=⟨h.size,fun g _ e _=>h.block g e.lt (fun f=>f)⟩
theorem Blk.kpp {p:TypeId→Prop} {a b:World} {g:Nat} {t:TypeId} {cs:Array Value} (h:Blk a g t cs) (k:KpP p a b) (ht:p t):Blk b g t cs:=(k.ty g t ⟨cs,(),h⟩ ht).trans h
theorem TyAt.kpp {p:TypeId→Prop} {a b:World} {g:Nat} {t:TypeId} (h:TyAt a g t) (k:KpP p a b) (ht:p t):TyAt b g t:=by
 obtain ⟨cs,u,e⟩:=h
 exact ⟨cs,u,(k.ty g t ⟨cs,u,e⟩ ht).trans e⟩
theorem RdT.kpp {p:TypeId→Prop} {a b:World} {t:TypeId} {size:Nat} {A:Option Addr} {n:Nat} {xs:List Value} (h:RdT a t size A n xs) (k:KpP p a b) (ht:p t):RdT b t size A n xs:=by
 refine ⟨⟨h.rd.1,fun hn=>?_⟩,fun hn g hg=>(h.ty hn g hg).kpp k ht⟩
 obtain ⟨g,o,hA,hg,hc⟩:=h.rd.2 hn
 have e:=h.ty hn g (by rw [hA];rfl)
 exact ⟨g,o,hA,Nat.lt_of_lt_of_le hg k.size,fun j u hu=>(World.cell?_of_block (k.ty g t e ht)).trans (hc j u hu)⟩
theorem kpP_b {p:TypeId→Prop} {n:Nat} (W:World) (l:Nat) (o o':Obj) (_:n≤l) (h:W.heap[l]? = some o) (hc:o.isCells=false) (_:o.isWalk=false):KpP p W (W.putObj l o'):=by
 have hg:=grownBy_putObj' W l o'
 refine ⟨hg.size,fun g t e _=>hg.block g e.lt (fun e2=>?_)⟩
 obtain ⟨cs,u,e⟩:=e
 cases e2
 rw [h] at e
 cases e
 cases hc
def arcBack (L:List (Nat × Int × Nat)) (j:Nat):Int × (Nat × Int × Nat):=(((L.length-1-j:Nat):Int),L.getD (L.length-1-j) (0,0,0))
def arcEnc (x:Int × (Nat × Int × Nat)):Array Value:=#[.int .i64 x.1,.agg #[.int .i32 (x.2.1:Int),.int .i64 x.2.2.1,.int .i64 (x.2.2.2:Int)]]
def isArc (t:TypeId):Prop:=t = 110 ∨ t = 106
set_option maxRecDepth 100000 in
set_option maxHeartbeats 2000000 in
theorem backa1_in (l Bs:Nat) (w0:World) (A:Option Addr) (len cap:Nat) (L:List (Nat × Int × Nat)) (hL:L.length=len) (hR:RdT w0 110 3 A len (aCells L)) (hlen:len≤maxLen) (J Jx:List Nat→World→Prop)
  (hY:∀ pre x W,J pre W→pre.length<len→YieldAt Fence.wide 8 Tryd.prog l (arcEnc (arcBack L x)) W fun e W' =>
    (e=.returned (.bool true)∧J (pre++[x]) W'∧KpP isArc W W')∨(e=.returned (.bool false)∧Jx (pre++[x]) W'))
  (W:World) (hW:KpP isArc w0 W) (hBs:Blk W Bs 106 #[.slice A len cap]) (h0:J [] W) :
  CallsIn Fence.wide 9 Tryd.prog 104 #[.func (.yield l) #[] #[],.pointer (some ⟨Bs,0,none⟩)] W fun e W'=>(∃ v,e=.returned v) ∧
   ((∃ ys,ys=List.range len∧J ys W')∨(∃ pre,(∃ k,k≤len∧pre=List.range k)∧Jx pre W')):=by
 unfold maxLen at hlen
 have HR:=hide hR
 have HL:=hide hL
 have HW:=hide hW
 have HBs:=hide hBs
 have hw:IntKind.i64.wrap ((len:Int)-1)=(len:Int)-1:=IntWalk.i64_in _ (by omega)
 have HST:((len:Int)-1 = -1∧len=0)∨∃ i:Nat,(len:Int)-1=(i:Int)∧len=i+1:=by
  by_cases h:len=0
  ·exact .inl ⟨by omega,h⟩
  ·exact .inr ⟨len-1,by omega,by omega⟩
 have HST:=hide HST
 obtain ⟨c0,c1,c2⟩:=hBs.facts
 clear hR hL hW hBs
 refine callsIn_of_wp Tryd.func104 rfl trivial ?_ rfl
 simp only [Tryd.ntmps104,List.size_toArray,List.length_cons,List.length_nil,Nat.reduceAdd,Nat.reduceSub,Array.replicate_succ,Array.replicate_zero,List.push_toArray,List.append_toArray,List.nil_append,List.cons_append]
 gi_wp2
 gi_loopw [3] (fun iv wr=>∃ (z:Int) (k m:Nat),iv=.int .i64 z∧Hid (k+m=len)∧Hid ((z = -1∧m=0)∨∃ i:Nat,z=(i:Int)∧m=i+1)∧Hid (J (List.range k) wr)∧Hid (KpP isArc W wr)) (fun iv _=>(intOf iv+1).toNat)
 case atStart=>exact ⟨_,0,len,rfl,hide (Nat.zero_add _),HST,hide h0,hide (KpP.refl _ _)⟩
 case round =>
  clear c0 c1 c2
  obtain ⟨z,k,m,rfl,HK,HZ,HJ,HB⟩:=hrel
  obtain ⟨c0,c1,c2⟩:=(HBs.out.kpp HB.out (.inr rfl)).facts
  rcases HZ.out with ⟨rfl,rfl⟩ | ⟨i,rfl,rfl⟩
  ·clear HZ
   gi_wp2
   go_end0
   have hk:k=len:=by have:=HK.out;omega
   exact ⟨⟨_,rfl⟩,.inl ⟨_,rfl,by rw [← hk];exact HJ.out⟩⟩
  ·clear HZ
   have y0:¬ (i:Int)<0:=by omega
   have y1:(0:Int)≤(i:Int):=by omega
   have y2:i<len:=by have:=HK.out;omega
   have y3:(i:Int)<(len:Int):=by omega
   have y4:L.length-1-k=i:=by have:=HK.out;rw [HL.out];omega
   obtain ⟨g,o,hA,_,a0,a1,a2⟩:=arc_at (HR.out.kpp (HW.out.trans HB.out) (.inl rfl)).rd HL.out i y2
   subst hA
   have hbf:arcBack L k=((i:Int),L.getD i (0,0,0)):=by unfold arcBack;rw [y4]
   have hus:List.range (k+1)=List.range k++[k]:=List.range_succ
   obtain ⟨⟨xl,xo,xt⟩,hx⟩:∃ x,x=L.getD i (0,0,0):=⟨_,rfl⟩
   rw [← hx] at a0 a1 a2 hbf
   simp only at a0 a1 a2
   have HUS:=hide hus
   obtain ⟨fn,tmps,assign,body,hy,hR⟩:=hY _ k wr HJ.out (by rw [List.length_range];have:=HK.out;omega)
   rw [hbf] at hy
   simp only [arcEnc] at hy
   clear hx hus hbf
   obtain ⟨z2,hz2⟩:∃ z2:Int,(i:Int)-1=z2:=⟨_,rfl⟩
   have hw2:IntKind.i64.wrap z2=z2:=IntWalk.i64_in _ (by omega)
   have HZ2:=hide hz2
   gi_wp2
   refine hR.mono ?_
   rintro e W3 (⟨rfl,hJ3,hk3⟩ | ⟨rfl,hJx3⟩)
   ·have HJ3:=hide hJ3
    have HK3:=hide hk3
    clear hJ3 hk3
    gi_wp2
    go_roundw
    case rel =>
     have hz2:=HZ2.out
     refine ⟨z2,k+1,i,rfl,hide (by have:=HK.out;omega),hide ?_,hide (by rw [HUS.out];exact HJ3.out),hide (HB.out.trans HK3.out)⟩
     by_cases hi0:i=0
     ·exact .inl ⟨by omega,hi0⟩
     ·exact .inr ⟨i-1,by omega,by omega⟩
    case measure =>
     have hz2:=HZ2.out
     show (z2+1).toNat<((i:Int)+1).toNat
     omega
   ·gi_wp2
    refine bodyPost_ret (results_none rfl _ _ _) rfl ?_
    exact ⟨⟨_,rfl⟩,.inr ⟨_,⟨k+1,by have:=HK.out;omega,HUS.out.symm⟩,hJx3⟩⟩
theorem backwarda_any (w:World) (a:Option Addr) (len cap:Nat) :
  Calls Tryd.prog 97 #[.slice a len cap] w fun e w'=>∃ Bs,e=.returned (.func (.func 104) #[] #[.pointer (some ⟨Bs,0,none⟩)])∧Blk w' Bs 106 #[.slice a len cap]∧Touch (fun _=>False) w w':=by
 have hmf:∀ (fn:Fn) (first cap:Array Value) (w:World),(Instr.makeFunc fn first cap).run Tryd.prog w=.ok (.func fn first cap) w:=fun _ _ _ _=>rfl
 go_enter Tryd.func97,Tryd.ntmps97
 go_wp2_with fail
 go_ret
 exact ⟨w.heap.size,rfl,Blk.new _ _ _,(Touch.refl _ _).alloc _⟩
theorem backa_stops (Bs:Nat) (w0:World) (A:Option Addr) (len cap:Nat) (L:List (Nat × Int × Nat)) (hL:L.length=len) (hR:RdT w0 110 3 A len (aCells L)) (hlen:len≤maxLen) (hB:Blk w0 Bs 106 #[.slice A len cap]) :
  SeqStopsK Fence.wide 9 Tryd.prog 104 #[.pointer (some ⟨Bs,0,none⟩)] (fun j=>arcEnc (arcBack L j)) (KpP isArc) (fun ys=>ys=List.range len) (fun pre=>∃ k,k≤len∧pre=List.range k) len w0:=fun l J Jx W hW _ _ hY h0 =>
 have hk:KpP isArc w0 W:=KpP.of (Touch.of_below hW _)
 backa1_in l Bs w0 A len cap L hL hR hlen J Jx hY W hk (hB.kpp hk (.inr rfl)) h0
end Go.Proofs.YthockgmbooefpaaDoor
