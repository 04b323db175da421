/- What the law rests on, part 7. No condition but those that each theorem names. -/
import Derived.Test.YthockgmbooefpaaGreatDoorJ06
import Derived.Test.YthockgmbooefpaaGreatDoorJ04
import Derived.Deep.AppendLies
import Derived.Deep.RegionLaw
set_option linter.unusedSectionVars false
set_option linter.unusedSimpArgs false
set_option linter.unusedVariables false
namespace Go.Proofs.YthockgmbooefpaaGreatDoor
open Go.RowKit
def TyAt (w:World) (b:Nat) (t:TypeId):Prop:=∃ cs,∃ _:Unit,w.heap[b]? = some (.cells cs t (0,0))
theorem TyAt.ne {w:World} {b b':Nat} {t t':TypeId} (h:TyAt w b t) (h':TyAt w b' t') (ht:t≠t'):b≠b':=by
 rintro rfl
 obtain ⟨_,_,e⟩:=h
 obtain ⟨_,_,e'⟩:=h'
 rw [e] at e'
 injection e' with e'
 injection e' with _ e'
 exact ht e'
theorem TyAt.lt {w:World} {b:Nat} {t:TypeId} (h:TyAt w b t):b<w.heap.size:=by
 obtain ⟨_,_,e⟩:=h
 exact (Array.getElem?_eq_some_iff.1 e).1
theorem TyAt.touch {w w':World} {S:Nat→Prop} {b:Nat} {t:TypeId} (h:TyAt w b t) (T:Touch S w w') (hS:¬ S b):TyAt w' b t:=by
 have hl:=h.lt
 obtain ⟨cs,fr,e⟩:=h
 exact ⟨cs,fr,(T.block b hl hS).trans e⟩
structure RdT (w:World) (t:TypeId) (size:Nat) (A:Option Addr) (n:Nat) (xs:List Value):Prop where
 rd:Reads w size A n xs
 ty:0<n→∀ g,adBlock A=some g→TyAt w g t
theorem RdT.touch {w w':World} {S:Nat→Prop} {t:TypeId} {size:Nat} {A:Option Addr} {n:Nat} {xs:List Value} (h:RdT w t size A n xs) (T:Touch S w w') (hS:∀ g,TyAt w g t→¬ S g):RdT w' t size A n xs:=by
 by_cases hn:0<n
 ·exact ⟨h.rd.touch T fun g hg=>hS g (h.ty hn g hg),fun _ g hg=>(h.ty hn g hg).touch T (hS g (h.ty hn g hg))⟩
 ·exact ⟨⟨h.rd.1,fun h=>absurd h hn⟩,fun h=>absurd h hn⟩
theorem RdT.quiet {w w':World} {t:TypeId} {size:Nat} {A:Option Addr} {n:Nat} {xs:List Value} (h:RdT w t size A n xs) (T:Touch (fun _=>False) w w'):RdT w' t size A n xs:=h.touch T fun _ _ f=>f
theorem RdT.of_own {w:World} {base:Nat} {t:TypeId} {size:Nat} {A:Option Addr} {n c:Nat} {xs:List Value} (h:w.ownsRow base t size (.slice A n c) n xs):RdT w t size A n xs:=by
 refine ⟨Reads.of_own h,fun hn g hg=>?_⟩
 rcases h.2 with ⟨e,e2⟩ | ⟨g',cap,cur,e,_,hb,_⟩
 ·omega
 ·injection e with e _ _
  subst e
  simp only [adBlock,Option.map_some,Option.some.injEq] at hg
  subst hg
  exact ⟨cur,(),hb⟩
theorem own_ty {w:World} {base:Nat} {t:TypeId} {size:Nat} {v:Value} {n:Nat} {xs:List Value} (h:w.ownsRow base t size v n xs) {g:Nat} (hg:v.ownBlock=some g):TyAt w g t:=by
 rcases h.2 with ⟨e,_⟩ | ⟨g',cap,cur,e,_,hb,_⟩
 ·rw [e] at hg;simp [Value.ownBlock] at hg
 ·rw [e] at hg
  simp [Value.ownBlock] at hg
  subst hg
  exact ⟨cur,(),hb⟩
structure RV where
 A:Option Addr
 q:Nat
 c:Nat
 O:List Nat
 wt:Int
def RV.zero:RV:=⟨none,0,0,[],0⟩
def RV.cells (r:RV):List Value:=[.slice r.A r.q r.c,.int .i64 r.wt]
def RV.p (r:RV):List Nat × Int:=(r.O,r.wt)
structure RV.Ok (r:RV) (w:World):Prop where
 len:r.O.length=r.q
 rd:RdT w 21 1 r.A r.q (r.O.map runeV)
 le:r.q≤r.c
 mx:r.c≤maxLen
def rCells (V:List RV):List Value:=V.flatMap RV.cells
theorem rCells_app (V W:List RV):rCells (V++W)=rCells V++rCells W:=List.flatMap_append
theorem rCells_at (X:List RV) (k:Nat) (hk:k<X.length) (j:Nat) (hj:j<2):(rCells X)[k*2+j]? = some ((X.getD k RV.zero).cells.getD j undef):=by
 induction X generalizing k with
 | nil=>simp at hk
 | cons x X ih =>
  have e:rCells (x :: X)=x.cells++rCells X:=rfl
  cases k with
  | zero =>
   rw [e,Nat.zero_mul,Nat.zero_add]
   obtain rfl | rfl:j=0∨j=1:=by omega
   ·rfl
   ·rfl
  | succ k =>
   rw [e,List.getElem?_append_right (by simp [RV.cells];omega)]
   have:(k+1)*2+j-x.cells.length=k*2+j:=by simp [RV.cells];omega
   rw [this,ih k (by simp at hk;omega)]
   simp [List.getD]
structure RL where
 A:Option Addr
 n:Nat
 c:Nat
 V:List RV
def RL.val (s:RL):Value:=.slice s.A s.n s.c
def RL.p (s:RL):Rs:=s.V.map RV.p
structure RL.Ok (s:RL) (w:World):Prop where
 len:s.V.length=s.n
 rd:RdT w 236 2 s.A s.n (rCells s.V)
 el:∀ r∈s.V,r.Ok w
theorem RV.Ok.touch {r:RV} {w w':World} {S:Nat→Prop} (h:r.Ok w) (T:Touch S w w') (hS:∀ g,TyAt w g 21 → ¬ S g):r.Ok w':=⟨h.len,h.rd.touch T hS,h.le,h.mx⟩
theorem RL.Ok.touch {s:RL} {w w':World} {S:Nat→Prop} (h:s.Ok w) (T:Touch S w w') (h1:∀ g,TyAt w g 21 → ¬ S g) (h2:∀ g,TyAt w g 236 → ¬ S g):s.Ok w' :=
 ⟨h.len,h.rd.touch T h2,fun r hr=>(h.el r hr).touch T h1⟩
theorem RL.Ok.quiet {s:RL} {w w':World} (h:s.Ok w) (T:Touch (fun _=>False) w w'):s.Ok w':=h.touch T (fun _ _ f=>f) (fun _ _ f=>f)
theorem rest_at {w:World} {A:Option Addr} {n:Nat} {X:List RV} (h:Reads w 2 A n (rCells X)) (hn:X.length=n) (k:Nat) (hk:k<n) :
  ∃ g off,A=some ⟨g,off,none⟩∧g<w.heap.size∧w.cell? ⟨g,off+k*2,none⟩=some (.slice (X.getD k RV.zero).A (X.getD k RV.zero).q (X.getD k RV.zero).c)∧w.cell? ⟨g,off+k*2+1,none⟩=some (.int .i64 (X.getD k RV.zero).wt):=by
 obtain ⟨b,off,hA,hb,hc⟩:=h.2 (by omega)
 refine ⟨b,off,hA,hb,?_,?_⟩
 ·exact hc (k*2) _ (rCells_at X k (by omega) 0 (by omega))
 ·rw [Nat.add_assoc];exact hc (k*2+1) _ (rCells_at X k (by omega) 1 (by omega))
theorem getD_mem {α:Type} (X:List α) (d:α) (k:Nat) (hk:k<X.length):X.getD k d∈X:=by
 have e:X.getD k d=X[k]:=by simp [List.getD,hk]
 rw [e];exact List.getElem_mem _
theorem take_snoc {α:Type} (X:List α) (d:α) (k:Nat) (hk:k<X.length):X.take (k+1)=X.take k++[X.getD k d]:=by
 have e:X.getD k d=X[k]:=by simp [List.getD,hk]
 rw [List.take_succ_eq_append_getElem hk,e]
set_option maxRecDepth 100000 in
theorem least_any (w:World) (s:RL) (hs:s.Ok w) (hn:0<s.n) (hm:s.n≤maxLen) :
  Calls Tryz.prog 128 #[s.val] w fun e w'=>e=.returned (.int .i64 (leastR s.p))∧Touch (fun _=>False) w w':=by
 obtain ⟨A,n,c,V⟩:=s
 have HR:=hide hs.rd.rd
 have HLN:=hide hs.len
 simp only [RL.val,RL.p]
 simp only at HR HLN hn hm
 clear hs
 unfold maxLen at hm
 obtain ⟨m,rfl⟩:∃ m,n=m+1:=⟨n-1,by omega⟩
 obtain ⟨g,o,hA,hg,_,z1⟩:=rest_at HR.out HLN.out 0 (by omega)
 subst hA
 simp only [Nat.zero_mul,Nat.add_zero] at z1
 obtain ⟨z,hz⟩:∃ z,(V.getD 0 RV.zero).wt=z:=⟨_,rfl⟩
 rw [hz] at z1
 have hl:leastR (V.map RV.p)=(V.map RV.p).foldl (fun n r=>min n r.2) z:=by
  cases V with
  | nil=>have:=HLN.out;simp at this
  | cons x V=>simp only [List.getD_cons_zero] at hz;subst hz;rfl
 have HL:=hide hl
 have HZ1:=hide z1
 have HG:=hide hg
 clear hl hz hg
 have y0:(0:Int)<((m:Int)+1):=by omega
 go_enter Tryz.func128,Tryz.ntmps128
 go_wp2
 go_loopw [3,4] (fun nv iv wr=>∃ (z':Int) (i:Nat),nv=.int .i64 z'∧iv=.int .i64 i∧i≤m+1∧Hid (z'=((V.map RV.p).take i).foldl (fun n r=>min n r.2) z)∧Hid (Touch (fun _=>False) w wr)) (fun _ iv _=>m+1-(intOf iv).toNat)
 case atStart=>exact ⟨z,0,rfl,rfl,by omega,hide (by simp),hide (Touch.refl _ _)⟩
 case round =>
  obtain ⟨z',i,rfl,rfl,hi,HZ,HT⟩:=hrel
  by_cases hin:i<m+1
  ·have y1:(i:Int)<(m:Int)+1:=by omega
   have y2:(0:Int)≤(i:Int):=by omega
   obtain ⟨g',o',hA,_,_,a1⟩:=rest_at (HR.out.touch HT.out (fun _ _ f=>f)) HLN.out i hin
   injection hA with hA
   injection hA with hA1 hA2
   subst hA1 hA2
   obtain ⟨u,hu⟩:∃ u,(V.getD i RV.zero).wt=u:=⟨_,rfl⟩
   rw [hu] at a1
   have hst:((V.map RV.p).take (i+1)).foldl (fun n r=>min n r.2) z=min z' u:=by
    rw [take_snoc (V.map RV.p) RV.zero.p i (by rw [List.length_map,HLN.out];exact hin),List.foldl_append,← HZ.out]
    simp only [List.foldl_cons,List.foldl_nil]
    rw [← hu]
    simp [List.getD,RV.p,show i<V.length by rw [HLN.out];exact hin]
   have HST:=hide hst
   clear hst hu
   go_wp2
   all_goals
    go_roundw
    ·exact ⟨_,i+1,rfl,by simp,by omega,hide (by rw [HST.out];first | done | (split<;>omega)),HT⟩
    ·show m+1-(intOf (.int .i64 ((i:Int)+1))).toNat<m+1-(intOf (.int .i64 (i:Int))).toNat
     simp [intOf]
     omega
  ·have y1:¬ (i:Int)<(m:Int)+1:=by omega
   have ht:(V.map RV.p).take i=V.map RV.p:=List.take_of_length_le (by rw [List.length_map,HLN.out];omega)
   have hz:=HZ.out
   rw [ht,← HL.out] at hz
   have HE:=hide hz
   clear hz ht
   go_wp2
   go_ret
   exact ⟨by rw [← HE.out];rfl,HT.out⟩
end Go.Proofs.YthockgmbooefpaaGreatDoor
namespace Go.Proofs.YthockgmbooefpaaGreatDoor
open Go.RowKit
theorem infoRest:(Tryz.prog.info? 236).map (fun i=>(i.zero,i.size,i.bytes))=some (some (.agg #[.slice none 0 0,.int .i64 0]),2,32):=by kernel_rfl
def RL.Bd (s:RL):Prop:=∀ r∈s.V,0≤r.wt∧r.wt≤1048576
theorem onecell_rest (A:Option Addr) (q c:Nat) (z:Int):∀ u∈([.slice A q c,.int .i64 z]:List Value),u.oneCell'=true:=by
 intro u hu
 simp at hu
 rcases hu with e | e<;>subst e<;>rfl
theorem ONx.app2 {e size m:Nat} {w0 w1 w3:World} {v:Value} {g cap q:Nat} {xs ys:List Value} (h:ONx e size w0 w1 v q xs) (ho:w3.ownsRow 0 e size (.slice (some ⟨g,0,none⟩) (q+m) cap) (q+m) (xs++ys)) (hg:w1.grownBy w3 v.ownBlock) (hl:v.ownBlock=some g∨g=w1.heap.size):ONx e size w0 w3 (.slice (some ⟨g,0,none⟩) (q+m) cap) (q+m) (xs++ys):=by
 refine h.app ho hg ?_
 rcases hl with e | e
 ·exact .inl e.symm
 ·exact .inr ⟨g,rfl,by rw [e];exact Nat.le_refl _⟩
theorem rl_of_own {w0 w:World} {A:Option Addr} {n c:Nat} {V:List RV} (h:ONx 236 2 w0 w (.slice A n c) n (rCells V)) (hl:V.length=n) (he:∀ r∈V,r.Ok w0):RL.Ok ⟨A,n,c,V⟩ w :=
 ⟨hl,RdT.of_own h.own,fun r hr=>(he r hr).touch h.touch fun _ _ f=>f⟩
def lvlV (z:Int) (V:List RV):List RV:=V.map fun r=>{ r with wt:=r.wt-z }
theorem lvlV_p (z:Int) (V:List RV):(lvlV z V).map RV.p=shiftR z (V.map RV.p):=by
 unfold lvlV shiftR
 rw [List.map_map,List.map_map]
 rfl
set_option maxRecDepth 100000 in
set_option maxHeartbeats 1000000 in
theorem level_any (w:World) (s:RL) (hs:s.Ok w) (hn:0<s.n) (hm:s.n≤4096) (hb:s.Bd) :
  Calls Tryz.prog 164 #[s.val] w fun e w'=>∃ s':RL,e=.returned s'.val∧s'.Ok w'∧s'.p=levelR s.p∧s'.n=s.n∧s'.Bd∧Touch (fun _=>False) w w':=by
 have HLE:=hide (fun w1 T=>least_any w1 s (hs.quiet (w':=w1) T) hn (by unfold maxLen;omega))
 obtain ⟨i0,hi,hz0,hz1,hz2⟩:=info_parts infoRest
 obtain ⟨A,n,c,V⟩:=s
 have HR:=hide hs.rd.rd
 have HLN:=hide hs.len
 have HEL:=hide hs.el
 have HB:=hide hb
 simp only [RL.val,RL.p] at HLE ⊢
 simp only at HR HLN HEL hn hm
 simp only [RL.Bd] at HB
 obtain ⟨z,hz⟩:∃ z,leastR (V.map RV.p)=z:=⟨_,rfl⟩
 have hzb:0≤z∧z≤1048576:=by
  obtain ⟨r,hr,e⟩:=leastR_mem (l:=V.map RV.p) (by intro e;have:=congrArg List.length e;rw [List.length_map,HLN.out] at this;simp at this;omega)
  obtain ⟨x,hx,rfl⟩:=List.mem_map.1 hr
  rw [← hz,← e]
  exact HB.out x hx
 have hlv:levelR (V.map RV.p)=(lvlV z V).map RV.p:=by rw [lvlV_p,← hz];rfl
 have HLV:=hide hlv
 rw [hz] at HLE
 clear hs hb hz hlv
 go_enter Tryz.func164,Tryz.ntmps164
 go_wp2_with fail
 refine (HLE.out w (Touch.refl _ _)).mono ?_
 rintro e w1 ⟨rfl,T1⟩
 have HT1:=hide T1
 clear T1 HLE
 go_wp2_with fail
 go_loopw [3,5] (fun ov iv wr=>∃ (i:Nat) (A3:Option Addr) (c3:Nat),ov=.slice A3 i c3∧iv=.int .i64 i∧i≤n∧Hid (ONx 236 2 w wr (.slice A3 i c3) i (rCells (lvlV z (V.take i))))) (fun _ iv _=>n-(intOf iv).toNat)
 case atStart=>exact ⟨0,none,0,rfl,rfl,by omega,hide ((ONx.nil _ _ _).to HT1.out)⟩
 case round =>
  obtain ⟨i,A3,c3,rfl,rfl,hi',HO⟩:=hrel
  by_cases hin:i<n
  ·have y1:(i:Int)<(n:Int):=by omega
   have y2:(0:Int)≤(i:Int):=by omega
   obtain ⟨g,o,hA,_,a0,a1⟩:=rest_at (HR.out.touch HO.out.touch (fun _ _ f=>f)) HLN.out i hin
   subst hA
   have hbi:=HB.out _ (getD_mem V RV.zero i (by rw [HLN.out];exact hin))
   have hsn:=take_snoc V RV.zero i (by rw [HLN.out];exact hin)
   obtain ⟨⟨rA,rq,rc,rO,u⟩,hu⟩:∃ r,V.getD i RV.zero=r:=⟨_,rfl⟩
   rw [hu] at a0 a1 hbi hsn
   simp only at a0 a1 hbi
   have hcs:rCells (lvlV z (V.take (i+1)))=rCells (lvlV z (V.take i))++[.slice rA rq rc,.int .i64 (u-z)]:=by
    rw [hsn]
    unfold lvlV
    rw [List.map_append,rCells_app]
    rfl
   have HCS:=hide hcs
   obtain ⟨hb1,hb2⟩:=hbi
   obtain ⟨hz1',hz2'⟩:=hzb
   have HWR:Hid (IntKind.i64.wrap (u-z)=u-z):=hide (IntWalk.i64_in _ (by omega))
   clear hu hsn hcs
   go_wp2_with fail
   go_region_law (refine step_append_lies _ rfl (.tmp 14) (.tmp 28) 225 rfl 0 236 i0 _ 2 32 Tryz.underlying225 hi hz0 hz1 hz2 (by decide) (by decide) (.slice A3 i c3) i _ (by simp [Act.eval]) (own_touch HO.out.own ((Touch.refl _ _).alloc _).drew (fun _ _ f=>f)) ⟨wr.heap.size,0,none⟩ 1 1 [.slice rA rq rc,.int .i64 (IntKind.i64.wrap (u-z))] (by simp [Act.eval]) rfl ?news ?one (by decide) ?b1 ?b2 (Nat.zero_le _) _ rfl ?_;(case news=>exact World.news_of_block (Blk.new wr _ _));(case one=>exact onecell_rest _ _ _ _);(case b1=>unfold maxLen;omega);(case b2=>omega);intro g4 cap4 w4 hown hgrow hlies _;have N4:=(HO.out.to ((Touch.refl _ _).alloc _).drew).app2 hown hgrow hlies;have HN4:=hide N4;clear N4 hown hgrow hlies)
   all_goals
    go_wp2_with fail
    go_roundw
    ·exact ⟨i+1,some ⟨g4,0,none⟩,cap4,rfl,by simp,by omega,hide (by
      have h4:=HN4.out
      rw [HWR.out] at h4
      rw [HCS.out]
      exact h4)⟩
    ·show n-(intOf (.int .i64 ((i:Int)+1))).toNat<n-(intOf (.int .i64 (i:Int))).toNat
     simp [intOf]
     omega
  ·have hin2:i=n:=by omega
   subst hin2
   have ht:V.take i=V:=List.take_of_length_le (by rw [HLN.out];exact Nat.le_refl _)
   have hO:=HO.out
   rw [ht] at hO
   have HOO:=hide hO
   have y1:¬ (i:Int)<(i:Int):=by omega
   clear hO ht
   go_wp2_with fail
   go_ret
   have hOO:=HOO.out
   refine ⟨⟨A3,i,c3,lvlV z V⟩,rfl,rl_of_own hOO (by unfold lvlV;rw [List.length_map];exact HLN.out) ?_,HLV.out.symm,rfl,?_,hOO.touch⟩
   ·intro r hr
    obtain ⟨x,hx,rfl⟩:=List.mem_map.1 hr
    have:=HEL.out x hx
    exact ⟨this.len,this.rd,this.le,this.mx⟩
   ·intro r hr
    simp only at hr
    have h1:(r.O,r.wt)∈(lvlV z V).map RV.p:=List.mem_map.2 ⟨r,hr,rfl⟩
    rw [← HLV.out] at h1
    have h2:=mem_level.1 h1
    have h3:=leastR_le h2
    obtain ⟨x,hx,rfl⟩:=List.mem_map.1 hr
    have:=HB.out x hx
    simp only at h3 ⊢
    constructor
    ·omega
    ·have:=hzb.1;omega
end Go.Proofs.YthockgmbooefpaaGreatDoor
namespace Go.Proofs.YthockgmbooefpaaGreatDoor
open Go.RowKit
def RV.cut (r:RV) (t:List Nat):RV:=⟨if r.c=1 then r.A else r.A.map (·.add 1),r.q-1,r.c-1,t,r.wt⟩
def undV (c:Nat) (V:List RV):List RV:=V.filterMap fun r=>match r.O with
 | []=>none
 | d :: t=>if d=c then some (r.cut t) else none
theorem undV_p (c:Nat) (V:List RV):(undV c V).map RV.p=underR (V.map RV.p) c:=by
 unfold undV underR
 rw [List.map_filterMap,List.filterMap_map]
 congr 1
 funext r
 obtain ⟨A,q,rc,O,wt⟩:=r
 cases O with
 | nil=>rfl
 | cons d t =>
  simp only [Function.comp,RV.p]
  split<;>rfl
theorem RV.Ok.cut {r:RV} {w:World} (h:r.Ok w) {d:Nat} {t:List Nat} (hO:r.O=d :: t):(r.cut t).Ok w:=by
 have hl:=h.len
 rw [hO,List.length_cons] at hl
 have hle:=h.le
 have hmx:=h.mx
 refine ⟨by simp only [RV.cut];omega,⟨?_,?_⟩,by simp only [RV.cut];omega,by simp only [RV.cut];unfold maxLen at hmx ⊢;omega⟩
 ·have:=h.rd.rd.cut (k:=1) (cap:=r.c) (by omega) hle
  rw [hO] at this
  simp only [RV.cut]
  by_cases e:r.c=1
  ·rw [if_pos e] at this ⊢
   exact this
  ·rw [if_neg e] at this ⊢
   exact this
 ·intro hn g hg
  simp only [RV.cut] at hg hn
  have hq:0<r.q:=by omega
  refine h.rd.ty hq g ?_
  split at hg
  ·exact hg
  ·cases hA:r.A with
   | none=>rw [hA] at hg;cases hg
   | some a =>
    rw [hA] at hg
    simp only [Option.map_some,adBlock,Option.some.injEq] at hg ⊢
    rw [← hg]
    unfold Addr.add
    split<;>rfl
theorem rune_first {w:World} {A:Option Addr} {q:Nat} {d:Nat} {t:List Nat} (h:Reads w 1 A (q+1) ((d :: t).map runeV)):∃ b off,A=some ⟨b,off,none⟩∧b<w.heap.size∧w.cell? ⟨b,off,none⟩=some (.int .i32 (d:Int)):=by
 obtain ⟨b,off,hA,hb,hc⟩:=h.2 (by omega)
 refine ⟨b,off,hA,hb,?_⟩
 have:=hc 0 (runeV d) rfl
 rw [Nat.add_zero] at this
 exact this
set_option maxRecDepth 100000 in
set_option maxHeartbeats 2000000 in
theorem under_any (w:World) (s:RL) (hs:s.Ok w) (hm:s.n≤4096) (x:Nat) :
  Calls Tryz.prog 167 #[s.val,.int .i32 x] w fun e w'=>∃ s':RL,e=.returned s'.val∧s'.Ok w'∧s'.p=underR s.p x∧s'.n≤s.n∧(s.Bd→s'.Bd)∧Touch (fun _=>False) w w':=by
 obtain ⟨i0,hi,hz0,hz1,hz2⟩:=info_parts infoRest
 obtain ⟨A,n,c,V⟩:=s
 have HR:=hide hs.rd.rd
 have HLN:=hide hs.len
 have HEL:=hide hs.el
 simp only [RL.val,RL.p]
 simp only at HR HLN HEL hm
 clear hs
 go_enter Tryz.func167,Tryz.ntmps167
 go_wp2_with fail
 go_loopw [5,6] (fun ov iv wr=>∃ (i k:Nat) (A3:Option Addr) (c3:Nat),ov=.slice A3 k c3∧iv=.int .i64 i∧i≤n∧k≤i∧Hid (ONx 236 2 w wr (.slice A3 k c3) k (rCells (undV x (V.take i)))∧(undV x (V.take i)).length=k)) (fun _ iv _=>n-(intOf iv).toNat)
 case atStart=>exact ⟨0,0,none,0,rfl,rfl,by omega,by omega,hide ⟨ONx.nil _ _ _,rfl⟩⟩
 case round =>
  obtain ⟨i,k,A3,c3,rfl,rfl,hi',hk',HO⟩:=hrel
  by_cases hin:i<n
  ·have y1:(i:Int)<(n:Int):=by omega
   have y2:(0:Int)≤(i:Int):=by omega
   obtain ⟨g,o,hA,_,a0,a1⟩:=rest_at (HR.out.touch HO.out.1.touch (fun _ _ f=>f)) HLN.out i hin
   subst hA
   have hel:=(HEL.out _ (getD_mem V RV.zero i (by rw [HLN.out];exact hin))).touch HO.out.1.touch (fun _ _ f=>f)
   have hsn:=take_snoc V RV.zero i (by rw [HLN.out];exact hin)
   obtain ⟨⟨rA,rq,rc,rO,u⟩,hu⟩:∃ r,V.getD i RV.zero=r:=⟨_,rfl⟩
   rw [hu] at a0 a1 hel hsn
   simp only at a0 a1
   have hl:=hel.len
   have hle:=hel.le
   have hmx:=hel.mx
   have hrd:=hel.rd.rd
   unfold maxLen at hmx
   simp only at hl hle hmx hrd
   cases rO with
   | nil =>
    simp only [List.length_nil] at hl
    subst hl
    have hcs:undV x (V.take (i+1))=undV x (V.take i):=by
     rw [hsn]
     unfold undV
     rw [List.filterMap_append]
     simp
    have HCS:=hide hcs
    clear hu hsn hcs hel hrd
    go_wp2_with fail
    go_roundw
    ·exact ⟨i+1,k,A3,c3,rfl,by simp,by omega,by omega,hide (by rw [HCS.out];exact HO.out)⟩
    ·show n-(intOf (.int .i64 ((i:Int)+1))).toNat<n-(intOf (.int .i64 (i:Int))).toNat
     simp [intOf]
     omega
   | cons d t =>
    obtain ⟨q,rfl⟩:∃ q,rq=q+1:=⟨t.length,by simpa using hl.symm⟩
    obtain ⟨b,off,hA,_,d0⟩:=rune_first hrd
    subst hA
    have z0:(0:Int)<(q:Int)+1:=by omega
    have z1:(1:Int)≤(q:Int)+1:=by omega
    have z2:(q:Int)+1≤(rc:Int):=by omega
    have z3:(1:Int)≤(rc:Int):=by omega
    by_cases hd:d=x
    ·have w1:((d:Int) == (x:Int))=true:=by simp [hd]
     have hcs:undV x (V.take (i+1))=undV x (V.take i)++[(⟨if rc=1 then some ⟨b,off,none⟩ else some ⟨b,off+1,none⟩,q,rc-1,t,u⟩:RV)]:=by
      rw [hsn]
      unfold undV
      rw [List.filterMap_append]
      congr 1
      simp [hd,RV.cut,Addr.add_lit]
     have HCS:=hide hcs
     have HLQ:=hide hl
     clear hu hsn hcs hel hrd hl
     go_wp2_with fail
     go_region_law (refine step_append_lies _ rfl (.tmp 31) (.tmp 44) 225 rfl 0 236 i0 _ 2 32 Tryz.underlying225 hi hz0 hz1 hz2 (by decide) (by decide) (.slice A3 k c3) k _ (by simp [Act.eval]) (own_touch HO.out.1.own ((Touch.refl _ _).alloc _).drew (fun _ _ f=>f)) ⟨wr.heap.size,0,none⟩ 1 1 [.slice (if rc=1 then some ⟨b,off,none⟩ else some ⟨b,off+1,none⟩) q (rc-1),.int .i64 u] (by simp [Act.eval]) rfl ?news ?one (by decide) ?b1 ?b2 (Nat.zero_le _) _ rfl ?_;(case news=>exact World.news_of_block (Blk.new wr _ _));(case one=>exact onecell_rest _ _ _ _);(case b1=>unfold maxLen;omega);(case b2=>omega);intro g4 cap4 w4 hown hgrow hlies _;have N4:=(HO.out.1.to ((Touch.refl _ _).alloc _).drew).app2 hown hgrow hlies;have HN4:=hide N4;clear N4 hown hgrow hlies)
     all_goals
      go_wp2_with fail
      go_roundw
      ·refine ⟨i+1,k+1,some ⟨g4,0,none⟩,cap4,rfl,by simp,by omega,by omega,hide ⟨?_,?_⟩⟩
       ·rw [HCS.out,rCells_app]
        exact HN4.out
       ·rw [HCS.out,List.length_append,HO.out.2]
        rfl
      ·show n-(intOf (.int .i64 ((i:Int)+1))).toNat<n-(intOf (.int .i64 (i:Int))).toNat
       simp [intOf]
       omega
    ·have w1:((d:Int) == (x:Int))=false:=by simp;omega
     have w2:¬ (d:Int)=(x:Int):=by omega
     have hcs:undV x (V.take (i+1))=undV x (V.take i):=by
      rw [hsn]
      unfold undV
      rw [List.filterMap_append]
      simp [hd]
     have HCS:=hide hcs
     clear hu hsn hcs hel hrd hl
     go_wp2_with fail
     go_roundw
     ·exact ⟨i+1,k,A3,c3,rfl,by simp,by omega,by omega,hide (by rw [HCS.out];exact HO.out)⟩
     ·show n-(intOf (.int .i64 ((i:Int)+1))).toNat<n-(intOf (.int .i64 (i:Int))).toNat
      simp [intOf]
      omega
  ·have ht:V.take i=V:=List.take_of_length_le (by rw [HLN.out];omega)
   have hO:=HO.out
   rw [ht] at hO
   have HOO:=hide hO
   have y1:¬ (i:Int)<(n:Int):=by omega
   clear hO ht
   go_wp2_with fail
   go_ret
   have hOO:=HOO.out
   refine ⟨⟨A3,k,c3,undV x V⟩,rfl,rl_of_own hOO.1 hOO.2 ?_,undV_p x V,by show k≤n;omega,?_,hOO.1.touch⟩
   ·intro r hr
    unfold undV at hr
    obtain ⟨y,hy,e⟩:=List.mem_filterMap.1 hr
    split at e
    ·cases e
    ·rename_i d t hO
     split at e
     ·injection e with e
      subst e
      exact (HEL.out y hy).cut hO
     ·cases e
   ·intro hb r hr
    simp only at hr
    unfold undV at hr
    obtain ⟨y,hy,e⟩:=List.mem_filterMap.1 hr
    split at e
    ·cases e
    ·split at e
     ·injection e with e
      subst e
      exact hb y hy
     ·cases e
end Go.Proofs.YthockgmbooefpaaGreatDoor
namespace Go.Proofs.YthockgmbooefpaaGreatDoor
open Go.RowKit
theorem wpQuiet_skip {P:Program} {ops:Array Oper} {C:World→Prop} {Q:Act→Prop} {o:Oper} {l:List Oper} {a:Act} (h:Region.wanted o (yielded ops a.tmps)=false):wpQuiet P ops C Q (o :: l) a=wpQuiet P ops C Q l (a.put o.dst undef):=by
 show (if Region.wanted o (yielded ops a.tmps)=true then _ else _)=_
 rw [if_neg (by rw [h];decide)]
theorem firsts_snoc (l:Rs) (r:List Nat × Int):firstsR (l++[r])=firstStep (firstsR l) r:=by
 unfold firstsR
 rw [List.foldl_append]
 rfl
set_option maxRecDepth 100000 in
set_option maxHeartbeats 2000000 in
theorem firsts_any (w:World) (s:RL) (hs:s.Ok w) (hm:s.n≤4096) :
  Calls Tryz.prog 166 #[s.val] w fun e w'=>∃ A' q c',e=.returned (.slice A' q c')∧ONx 21 1 w w' (.slice A' q c') q ((firstsR s.p).map runeV)∧(firstsR s.p).length=q∧q≤s.n:=by
 obtain ⟨i0,hi,hz0,hz1,hz2⟩:=info_parts infoRune
 obtain ⟨A,n,c,V⟩:=s
 have HR:=hide hs.rd.rd
 have HLN:=hide hs.len
 have HEL:=hide hs.el
 simp only [RL.val,RL.p]
 simp only at HR HLN HEL hm
 clear hs
 go_enter Tryz.func166,Tryz.ntmps166
 go_wp2_with fail
 go_loopw [3,4] (fun ov iv wr=>∃ (i k:Nat) (A3:Option Addr) (c3:Nat) (O:List Nat),ov=.slice A3 k c3∧iv=.int .i64 i∧i≤n∧k≤i∧Hid (ONx 21 1 w wr (.slice A3 k c3) k (O.map runeV)∧O.length=k)∧Hid (O=firstsR ((V.take i).map RV.p))) (fun _ iv _=>n-(intOf iv).toNat)
 case atStart=>exact ⟨0,0,none,0,[],rfl,rfl,by omega,by omega,hide ⟨ONx.nil _ _ _,rfl⟩,hide rfl⟩
 case round =>
  obtain ⟨i,k,A3,c3,O,rfl,rfl,hi',hk',HO,HF⟩:=hrel
  by_cases hin:i<n
  ·have y1:(i:Int)<(n:Int):=by omega
   have y2:(0:Int)≤(i:Int):=by omega
   obtain ⟨g,o,hA,hgl,a0,a1⟩:=rest_at (HR.out.touch HO.out.1.touch (fun _ _ f=>f)) HLN.out i hin
   subst hA
   have hel:=(HEL.out _ (getD_mem V RV.zero i (by rw [HLN.out];exact hin))).touch HO.out.1.touch (fun _ _ f=>f)
   have hsn:=take_snoc V RV.zero i (by rw [HLN.out];exact hin)
   obtain ⟨⟨rA,rq,rc,rO,u⟩,hu⟩:∃ r,V.getD i RV.zero=r:=⟨_,rfl⟩
   rw [hu] at a0 a1 hel hsn
   simp only at a0 a1
   have hst:firstsR ((V.take (i+1)).map RV.p)=firstStep O (rO,u):=by
    rw [hsn,List.map_append,HF.out]
    exact firsts_snoc _ _
   have HST:=hide hst
   have HGL:=hide hgl
   have hl:=hel.len
   have hrd:=hel.rd.rd
   simp only at hl hrd
   clear hu hsn hel hst hgl
   cases rO with
   | nil =>
    simp only [List.length_nil] at hl
    subst hl
    clear hrd
    go_wp2_with fail
    refine wp_region_quiet_lit (by kernel_rfl) (by kernel_rfl) ?_
    quiet_step (fail)
    quiet_step (fail)
    quiet_step (fail)
    quiet_step (fail)
    quiet_step (fail)
    quiet_step (fail)
    quiet_step (fail)
    quiet_step (fail)
    rw [wpQuiet_skip]
    rotate_left;· kernel_rfl
    go_simp
    rw [wpQuiet_skip]
    rotate_left;· kernel_rfl
    go_simp
    rw [wpQuiet_skip]
    rotate_left;· kernel_rfl
    go_simp
    rw [wpQuiet_skip]
    rotate_left;· kernel_rfl
    go_simp
    rw [wpQuiet_skip]
    rotate_left;· kernel_rfl
    go_simp
    rw [wpQuiet_skip]
    rotate_left;· kernel_rfl
    go_simp
    rw [wpQuiet_skip]
    rotate_left;· kernel_rfl
    go_simp
    rw [wpQuiet_skip]
    rotate_left;· kernel_rfl
    go_simp
    rw [wpQuiet_skip]
    rotate_left;· kernel_rfl
    go_simp
    rw [wpQuiet_skip]
    rotate_left;· kernel_rfl
    go_simp
    rw [wpQuiet_skip]
    rotate_left;· kernel_rfl
    go_simp
    rw [wpQuiet_skip]
    rotate_left;· kernel_rfl
    go_simp
    rw [wpQuiet_skip]
    rotate_left;· kernel_rfl
    go_simp
    rw [wpQuiet_skip]
    rotate_left;· kernel_rfl
    go_simp
    rw [wpQuiet_skip]
    rotate_left;· kernel_rfl
    go_simp
    rw [wpQuiet_skip]
    rotate_left;· kernel_rfl
    go_simp
    rw [wpQuiet_skip]
    rotate_left;· kernel_rfl
    go_simp
    rw [wpQuiet_skip]
    rotate_left;· kernel_rfl
    go_simp
    rw [wpQuiet_skip]
    rotate_left;· kernel_rfl
    go_simp
    quiet_step (fail)
    refine wpQuiet_nil ?_
    intro nq
    go_wp2_with fail
    go_roundw
    ·exact ⟨i+1,k,A3,c3,O,rfl,by simp,by omega,by omega,hide ⟨HO.out.1.to ((Touch.refl _ _).drewN _),HO.out.2⟩,hide (by rw [HST.out];rfl)⟩
    ·show n-(intOf (.int .i64 ((i:Int)+1))).toNat<n-(intOf (.int .i64 (i:Int))).toNat
     simp [intOf]
     omega
   | cons d t =>
    obtain ⟨q,rfl⟩:∃ q,rq=q+1:=⟨t.length,by simpa using hl.symm⟩
    obtain ⟨b,off,hA,hb,d0⟩:=rune_first hrd
    subst hA
    have HD0:=hide (And.intro d0 (And.intro a0 hb))
    have z0:(0:Int)<(q:Int)+1:=by omega
    clear hl hrd
    cases k with
    | zero =>
     have hO0:O=[]:=List.eq_nil_of_length_eq_zero HO.out.2
     subst hO0
     go_wp2_with fail
     refine wp_region_quiet_lit (by kernel_rfl) (by kernel_rfl) ?_
     quiet_step (fail)
     quiet_step (fail)
     quiet_step (fail)
     quiet_step (fail)
     quiet_step (fail)
     quiet_step (fail)
     quiet_step (fail)
     quiet_step (fail)
     quiet_step (fail)
     quiet_step (fail)
     quiet_step (fail)
     quiet_step (fail)
     rw [wpQuiet_skip]
     rotate_left;· kernel_rfl
     go_simp
     rw [wpQuiet_skip]
     rotate_left;· kernel_rfl
     go_simp
     rw [wpQuiet_skip]
     rotate_left;· kernel_rfl
     go_simp
     rw [wpQuiet_skip]
     rotate_left;· kernel_rfl
     go_simp
     rw [wpQuiet_skip]
     rotate_left;· kernel_rfl
     go_simp
     rw [wpQuiet_skip]
     rotate_left;· kernel_rfl
     go_simp
     rw [wpQuiet_skip]
     rotate_left;· kernel_rfl
     go_simp
     rw [wpQuiet_skip]
     rotate_left;· kernel_rfl
     go_simp
     rw [wpQuiet_skip]
     rotate_left;· kernel_rfl
     go_simp
     rw [wpQuiet_skip]
     rotate_left;· kernel_rfl
     go_simp
     rw [wpQuiet_skip]
     rotate_left;· kernel_rfl
     go_simp
     rw [wpQuiet_skip]
     rotate_left;· kernel_rfl
     go_simp
     rw [wpQuiet_skip]
     rotate_left;· kernel_rfl
     go_simp
     rw [wpQuiet_skip]
     rotate_left;· kernel_rfl
     go_simp
     quiet_step (fail)
     quiet_step (fail)
     refine wpQuiet_nil ?_
     intro nq
     obtain ⟨wd,hwd⟩:∃ x,x=wr.drewN nq:=⟨_,rfl⟩
     have hTd:Touch (fun _=>False) wr wd:=by rw [hwd];exact (Touch.refl _ _).drewN _
     have HO1:=hide (HO.out.1.to hTd)
     rw [← hwd]
     have b0:=(hTd.cell (a:=⟨b,off,none⟩) HD0.out.2.2 (fun f=>f)).trans HD0.out.1
     obtain ⟨g',o',hA,_,c0,_⟩:=rest_at (HR.out.touch HO1.out.touch (fun _ _ f=>f)) HLN.out i hin
     injection hA with hA
     injection hA with hA1 hA2
     subst hA1 hA2
     have e0:wd.cell? ⟨g,o+i*2,none⟩=some (.slice (some ⟨b,off,none⟩) (q+1) rc):=by
      rw [← HD0.out.2.1]
      exact hTd.cell (a:=⟨g,o+i*2,none⟩) HGL.out (fun f=>f)
     clear hwd hTd c0
     go_wp2_with (at_builtin;refine wpList_app _ rfl (.tmp 39) (.tmp 47) 154 rfl 21 i0 _ 1 4 Tryz.underlying154 hi hz0 hz1 hz2 rfl (by decide) (.slice A3 0 c3) (0) _ rfl (own_touch HO1.out.own ((Touch.refl _ _).alloc _) (fun _ _ f=>f)) (some ⟨_,0,none⟩) 1 1 [runeV d] rfl ?sa10 ?sb10 ?sc10 ?sd10 ?se10 ?_)
     case sa10=>exact Reads.new _ _ _ _ rfl
     try (case sb10=>exact fun h=>by cases h)
     case sc10=>first | exact onecell_runes [d] | rfl
     case sd10=>unfold maxLen;omega
     try (case se10=>omega)
     intro v4 w4 hown hgrow hfr _
     have N4:=(HO1.out.to ((Touch.refl _ _).alloc _)).app (m:=1) (ys:=[runeV d]) hown hgrow hfr
     obtain ⟨A4,c4,rfl,_,_⟩:=own_len hown
     have HN4:=hide N4
     clear N4 hown hgrow hfr
     go_wp2_with fail
     go_roundw
     ·refine ⟨i+1,0+1,A4,c4,[]++[d],rfl,by simp,by omega,by omega,hide ⟨?_,?_⟩,hide ?_⟩
      ·rw [List.map_append]
       exact HN4.out
      ·rw [List.length_append,HO.out.2];rfl
      ·rw [HST.out]
       unfold firstStep
       simp only
       rw [if_neg (by simp)]
     ·show n-(intOf (.int .i64 ((i:Int)+1))).toNat<n-(intOf (.int .i64 (i:Int))).toNat
      simp [intOf]
      omega
    | succ m =>
     obtain ⟨g3,cap3,hv3,_,_,hg3,hc3,_⟩:=own_form HO.out.1.own (by omega)
     injection hv3 with hv3 _ hv5
     subst hv3 hv5
     have hlast:O.getLast? = some (O.getD m 0):=by
      rw [List.getLast?_eq_getElem?,HO.out.2,Nat.add_sub_cancel,List.getD_eq_getElem?_getD]
      rw [List.getElem?_eq_getElem (by rw [HO.out.2];omega)]
      rfl
     obtain ⟨e,he⟩:∃ e,O.getD m 0=e:=⟨_,rfl⟩
     have c3m:wr.cell? ⟨g3,m,none⟩=some (.int .i32 (e:Int)):=by
      refine hc3 m _ ?_
      rw [List.getElem?_map,List.getElem?_eq_getElem (by rw [HO.out.2];omega)]
      rw [List.getD_eq_getElem?_getD,List.getElem?_eq_getElem (by rw [HO.out.2];omega)] at he
      simp only [Option.getD_some] at he
      rw [he]
      rfl
     rw [he] at hlast
     have HLAST:=hide hlast
     clear hc3 hlast he
     have z1:(0:Int)≤(m:Int):=by omega
     have z2:(m:Int)<(m:Int)+1:=by omega
     have z3:¬ (m:Int)+1=0:=by omega
     have z4:((m:Int)+1 == 0)=false:=by simp [z3]
     have z5:IntKind.i64.wrap ((m:Int)+1-1)=(m:Int):=IntWalk.i64_in _ (by omega) |>.trans (by omega)
     have z6:IntKind.i64.wrap (m:Int)=(m:Int):=IntWalk.i64_in _ (by omega)
     by_cases hd:e=d
     ·have w1:((e:Int) != (d:Int))=false:=by simp [hd]
      have HDD:=hide hd
      go_wp2_with fail
      go_quiet (fail)
      go_wp2_with fail
      go_roundw
      ·exact ⟨i+1,m+1,some ⟨g3,0,none⟩,c3,O,rfl,by simp,by omega,by omega,hide ⟨HO.out.1.to ((Touch.refl _ _).drewN _),HO.out.2⟩,hide (by rw [HST.out];unfold firstStep;simp only;rw [if_pos (by rw [HLAST.out,HDD.out])])⟩
      ·show n-(intOf (.int .i64 ((i:Int)+1))).toNat<n-(intOf (.int .i64 (i:Int))).toNat
       simp [intOf]
       omega
     ·have w1:((e:Int) != (d:Int))=true:=by simp;omega
      have HDD:=hide hd
      go_wp2_with fail
      go_quiet (fail)
      obtain ⟨wd,hwd⟩:∃ x,x=wr.drewN nq:=⟨_,rfl⟩
      have hTd:Touch (fun _=>False) wr wd:=by rw [hwd];exact (Touch.refl _ _).drewN _
      have HO1:=hide (HO.out.1.to hTd)
      rw [← hwd]
      have b0:=(hTd.cell (a:=⟨b,off,none⟩) HD0.out.2.2 (fun f=>f)).trans HD0.out.1
      obtain ⟨g',o',hA,_,c0,_⟩:=rest_at (HR.out.touch HO1.out.touch (fun _ _ f=>f)) HLN.out i hin
      injection hA with hA
      injection hA with hA1 hA2
      subst hA1 hA2
      have e0:wd.cell? ⟨g,o+i*2,none⟩=some (.slice (some ⟨b,off,none⟩) (q+1) rc):=by
       rw [← HD0.out.2.1]
       exact hTd.cell (a:=⟨g,o+i*2,none⟩) HGL.out (fun f=>f)
      clear hwd hTd c0
      go_wp2_with (at_builtin;refine wpList_app _ rfl (.tmp 39) (.tmp 47) 154 rfl 21 i0 _ 1 4 Tryz.underlying154 hi hz0 hz1 hz2 rfl (by decide) (.slice (some ⟨g3,0,none⟩) (m+1) c3) (m+1) _ rfl (own_touch HO1.out.own ((Touch.refl _ _).alloc _) (fun _ _ f=>f)) (some ⟨_,0,none⟩) 1 1 [runeV d] rfl ?sa12 ?sb12 ?sc12 ?sd12 ?se12 ?_)
      case sa12=>exact Reads.new _ _ _ _ rfl
      try (case sb12=>exact fun h=>by cases h)
      case sc12=>first | exact onecell_runes [d] | rfl
      case sd12=>unfold maxLen;omega
      try (case se12=>omega)
      intro v4 w4 hown hgrow hfr _
      have N4:=(HO1.out.to ((Touch.refl _ _).alloc _)).app (m:=1) (ys:=[runeV d]) hown hgrow hfr
      obtain ⟨A4,c4,rfl,_,_⟩:=own_len hown
      have HN4:=hide N4
      clear N4 hown hgrow hfr
      go_wp2_with fail
      go_roundw
      ·refine ⟨i+1,m+1+1,A4,c4,O++[d],rfl,by simp,by omega,by omega,hide ⟨?_,?_⟩,hide ?_⟩
       ·rw [List.map_append]
        exact HN4.out
       ·rw [List.length_append,HO.out.2];rfl
       ·rw [HST.out]
        unfold firstStep
        simp only
        rw [if_neg (by rw [HLAST.out];intro e;injection e with e;exact HDD.out e)]
      ·show n-(intOf (.int .i64 ((i:Int)+1))).toNat<n-(intOf (.int .i64 (i:Int))).toNat
       simp [intOf]
       omega
  ·have ht:V.take i=V:=List.take_of_length_le (by rw [HLN.out];omega)
   have hF:=HF.out
   rw [ht] at hF
   have HFF:=hide hF
   have y1:¬ (i:Int)<(n:Int):=by omega
   clear hF ht
   go_wp2_with fail
   go_ret
   have hF:=HFF.out
   have hO:=HO.out
   rw [hF] at hO
   exact ⟨A3,k,c3,rfl,hO.1,hO.2,by omega⟩
end Go.Proofs.YthockgmbooefpaaGreatDoor
