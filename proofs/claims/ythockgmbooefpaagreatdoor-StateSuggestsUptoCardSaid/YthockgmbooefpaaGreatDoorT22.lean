/- What the law rests on, part 22. No condition but those that each theorem names. -/
import Derived.Test.YthockgmbooefpaaGreatDoorT06
import Derived.Test.YthockgmbooefpaaGreatDoorT13
import Derived.Test.YthockgmbooefpaaGreatDoorT17
import Derived.BigRegion
import Derived.BigQuiet
import Derived.Deep.QuietTactic
import Derived.Test.YthockgmbooefpaaGreatDoorT21
set_option linter.unusedSectionVars false
set_option linter.unusedSimpArgs false
set_option linter.unusedVariables false
set_option maxRecDepth 100000
set_option maxHeartbeats 8000000
namespace Go.Proofs.YthockgmbooefpaaGreatDoor
open Go.RowKit
def nCells (s:List Nat):Array Value:=(s.map natF).toArray
theorem nCells_get (s:List Nat) (i:Nat) (h:i<s.length):(nCells s)[i]? = some (.int .i64 ((s.getD i 0:Nat):Int)):=by
 simp [nCells,List.getD,h,natF]
theorem nCells_set (s:List Nat) (i x:Nat):(nCells s).setIfInBounds i (.int .i64 (x:Int))=nCells (s.set i x):=by
 simp [nCells,List.map_set,natF]
def tabRow (X Y:List Nat) (i:Nat):List Nat:=(X.take i).foldl (tabD Y) (List.range (Y.length+1))
def tabAt (X Y:List Nat) (i j:Nat):Nat:=(tabRow X Y i).getD j 0
theorem tabG_get (r:Nat):∀ (wd:List Nat) (t:Nat) (s:List Nat) (j:Nat),s.length=wd.length+1→j<wd.length →
  (tabG r t wd s).getD j 0=(if wd.getD j 0=r then s.getD j 0 else 1+min (min (s.getD j 0) (s.getD (j+1) 0)) ((t :: tabG r t wd s).getD j 0))
 | [],t,s,j,h,hj=>by simp at hj
 | c :: wd,t,[],j,h,hj=>by simp at h
 | c :: wd,t,[a],j,h,hj=>by simp at h
 | c :: wd,t,a :: b :: s,0,h,hj=>by simp [tabG]
 | c :: wd,t,a :: b :: s,j+1,h,hj=>by
  have ih:=tabG_get r wd (if c=r then a else 1+min (min a b) t) (b :: s) j (by simpa using h) (by simpa using hj)
  simp only [tabG,List.getD_cons_succ] at ih ⊢
  exact ih
theorem tabRow_eq (X Y:List Nat) (i:Nat):tabRow X Y i=rowK Y (X.take i):=by
 unfold tabRow rowK
 exact tab_fold _ _ (by simp) (lip_range _)
theorem tabRow_len (X Y:List Nat) (i:Nat):(tabRow X Y i).length=Y.length+1:=by rw [tabRow_eq,rowK_len]
theorem tabAt_zero (X Y:List Nat) (j:Nat) (hj:j≤Y.length):tabAt X Y 0 j=j:=by
 unfold tabAt tabRow
 rw [List.take_zero,List.foldl_nil]
 simp [List.getD,show j<Y.length+1 by omega]
theorem tabRow_succ (X Y:List Nat) (i:Nat) (hi:i<X.length):tabRow X Y (i+1)=tabD Y (tabRow X Y i) (X.getD i 0):=by
 unfold tabRow
 rw [takeN_snoc X i hi,List.foldl_append]
 rfl
theorem tabAt_left (X Y:List Nat) (i:Nat) (hi:i≤X.length):tabAt X Y i 0=i:=by
 have h:=rowK_head Y i (X.take i) (by rw [List.length_take];omega)
 have hl:=tabRow_len X Y i
 unfold tabAt
 rw [← tabRow_eq] at h
 cases hr:tabRow X Y i with
 | nil=>rw [hr] at hl;simp at hl
 | cons x l=>rw [hr] at h;simpa using h
theorem tabAt_succ (X Y:List Nat) (i j:Nat) (hi:i<X.length) (hj:j<Y.length) :
  tabAt X Y (i+1) (j+1)=if Y.getD j 0=X.getD i 0 then tabAt X Y i j else 1+min (min (tabAt X Y i j) (tabAt X Y i (j+1))) (tabAt X Y (i+1) j):=by
 unfold tabAt
 rw [tabRow_succ X Y i hi]
 unfold tabD
 rw [List.getD_cons_succ,tabG_get _ Y _ _ j (tabRow_len X Y i) hj]
theorem tabAt_le (X Y:List Nat) (i j:Nat) (hi:i≤X.length) (hj:j≤Y.length):tabAt X Y i j≤Y.length+i:=by
 unfold tabAt
 rw [tabRow_eq]
 refine rowK_le Y i (X.take i) (by rw [List.length_take];omega) _ (memD _ _ ?_)
 rw [rowK_len]
 omega
def rowsV (ga m k:Nat):List Value:=(List.range k).map fun i=>.slice (some ⟨ga,i*(m+1),none⟩) (m+1) (m+1)
theorem rowsV_succ (ga m k:Nat):rowsV ga m (k+1)=rowsV ga m k++[.slice (some ⟨ga,k*(m+1),none⟩) (m+1) (m+1)]:=by
 unfold rowsV
 rw [List.range_succ,List.map_append]
 rfl
theorem rowsV_get (ga m k i:Nat) (h:i<k):(rowsV ga m k)[i]? = some (.slice (some ⟨ga,i*(m+1),none⟩) (m+1) (m+1)):=by simp [rowsV,h]
def TabE (X Y:List Nat) (m i j:Nat) (V:List Nat):Prop:=∀ i' j',j'≤m→(i'<i∨(i'=i∧j'<j))→V.getD (i'*(m+1)+j') 0=tabAt X Y i' j'
theorem cell_ne {m i j i' j':Nat} (hj:j≤m) (hj':j'≤m) (h:i'<i∨(i'=i∧j'<j)):i'*(m+1)+j'<i*(m+1)+j:=by
 rcases h with h | ⟨h,h2⟩
 ·have:=Nat.mul_le_mul_right (m+1) (show i'+1≤i from h)
  rw [Nat.add_mul,Nat.one_mul] at this
  omega
 ·subst h
  omega
theorem TabE.set {X Y:List Nat} {m i j:Nat} {V:List Nat} (h:TabE X Y m i j V) (hj:j≤m) (hl:i*(m+1)+j<V.length) {x:Nat} (hx:x=tabAt X Y i j):TabE X Y m i (j+1) (V.set (i*(m+1)+j) x):=by
 intro i' j' hj' hor
 by_cases he:i'=i∧j'=j
 ·obtain ⟨rfl,rfl⟩:=he
  simp [List.getD,hl,hx]
 ·have h2:i'<i∨(i'=i∧j'<j):=by omega
  have h3:=cell_ne hj hj' h2
  have h4:(V.set (i*(m+1)+j) x).getD (i'*(m+1)+j') 0=V.getD (i'*(m+1)+j') 0:=by
   simp only [List.getD]
   rw [List.getElem?_set_ne (by omega)]
  rw [h4]
  exact h i' j' hj' h2
theorem TabE.next {X Y:List Nat} {m i:Nat} {V:List Nat} (h:TabE X Y m i (m+1) V):TabE X Y m (i+1) 0 V:=fun i' j' hj' hor=>h i' j' hj' (by omega)
def TabRes (w:World) (X Y:List Nat) (n m:Nat) (e:Ending) (w':World):Prop :=
 ∃ ga RA rc V,e=.returned (.slice RA (n+1) rc)∧Touch (fun _=>False) w w'∧Reads w' 1 RA (n+1) (rowsV ga m (n+1))∧Blk w' ga 3 (nCells V)∧V.length=(n+1)*(m+1)∧TabE X Y m (n+1) 0 V
theorem infoRow12:(Tryz.prog.info? 49).map (fun i=>(i.zero,i.size,i.bytes))=some (some (.slice none 0 0),1,24):=by kernel_rfl
theorem table_any (w:World) (A:Option Addr) (n c:Nat) (X:List Nat) (hX:Reads w 1 A n (X.map runeV)) (hXl:X.length=n) (B:Option Addr) (m d:Nat) (Y:List Nat) (hY:Reads w 1 B m (Y.map runeV)) (hYl:Y.length=m) (hn:n≤1024) (hm:m≤1024) :
  Calls Tryz.prog 151 #[.slice A n c,.slice B m d] w (TabRes w X Y n m):=by
 obtain ⟨i1,hi1,hy0,hy1,hy2⟩:=info_parts infoInt12
 obtain ⟨i2,hi2,hx0,hx1,hx2⟩:=info_parts infoRow12
 obtain ⟨N,hN⟩:∃ N,N=(n+1)*(m+1):=⟨_,rfl⟩
 have hNle:N≤1050625:=by rw [hN];exact Nat.mul_le_mul (show n+1≤1025 by omega) (show m+1≤1025 by omega)
 have z1:IntKind.i64.wrap (((n:Int)+1)*((m:Int)+1))=(N:Int):=by
  have:((n:Int)+1)*((m:Int)+1)=(N:Int):=by rw [hN];push_cast;rfl
  rw [this]
  exact IntWalk.i64_in _ (by omega)
 have hnI:(n:Int)≤1024:=by omega
 have hmI:(m:Int)≤1024:=by omega
 have HX:=hide hX
 have HXL:=hide hXl
 have HY:=hide hY
 have HYL:=hide hYl
 have HN:=hide hN
 have HNL:=hide hNle
 clear hX hXl hY hYl hn hm hN hNle
 go_enter Tryz.func151,Tryz.ntmps151
 go_wp2_with (refine wpList_make_full _ rfl (.tmp 17) (.tmp 17) 49 rfl 0 3 i1 _ 1 Tryz.underlying49 hi1 hy0 hy1 .i64 .i64 (N:Int) (N:Int) N rfl rfl rfl rfl ?b2 ?b3 (Nat.zero_le _) ?_)
 case b2=>rw [hy2];have:=HNL.out;omega
 case b3=>have:=HNL.out;unfold maxLen;omega
 intro w1 O1 G1
 have hmc:(madeCells #[Value.int .i64 0] N).toList=(List.replicate N 0).map natF:=by
  unfold madeCells
  apply List.ext_getElem
  ·simp
  ·intro i h1 h2
   simp [Nat.mod_one,natF]
 rw [hmc] at O1
 obtain ⟨ga,hga⟩:∃ g,g=w.heap.size:=⟨_,rfl⟩
 rw [← hga] at O1
 have hba:Blk w1 ga 3 (nCells (List.replicate N 0)):=own_full O1
 have hT1:Touch (fun _=>False) w w1:=(Touch.refl _ _).grown G1 (fun k h=>by cases h)
 rw [← hga]
 have HBA:=hide hba
 have HT1:=hide hT1
 have HGA:=hide hga
 clear hba hT1 hga hmc O1 G1
 go_wp2_with fail
 go_loopw [6,22] (fun rv iv wr=>∃ (i:Nat) (RA:Option Addr) (rc:Nat) (V:List Nat),rv=.slice RA i rc∧iv=.int .i64 (i:Int)∧i≤n+1∧Hid (wr.ownsRow 0 49 1 (.slice RA i rc) i (rowsV ga m i)∧∀ g,(Value.slice RA i rc).ownBlock=some g→w1.heap.size≤g)∧Hid (Blk wr ga 3 (nCells V)∧V.length=N∧TabE X Y m i 0 V)∧Hid (Touch (fun g=>g=ga) w1 wr)) (fun _ iv _=>n+1-(intOf iv).toNat)
 case atStart=>exact ⟨0,none,0,List.replicate N 0,rfl,rfl,Nat.zero_le _,hide ⟨World.ownsRow_nil _ _ _ _,fun g h=>by simp [Value.ownBlock] at h⟩,hide ⟨HBA.out,by simp,fun i' j' _ h=>by omega⟩,hide (Touch.refl _ _)⟩
 case round =>
  obtain ⟨i,RA,rc,V,rfl,rfl,hi,HO,HB,HT⟩:=hrel
  obtain ⟨wo,hwo⟩:∃ y,y=wr:=⟨_,rfl⟩
  subst hwo
  by_cases hin:i≤n
  ·obtain ⟨K,hK⟩:∃ K,K=i*(m+1):=⟨_,rfl⟩
   have hKN:K+m+1≤N:=by
    have:=Nat.mul_le_mul_right (m+1) (show i+1≤n+1 by omega)
    rw [← HN.out,Nat.add_mul,Nat.one_mul,← hK] at this
    omega
   have hNb:=HNL.out
   have y1:(i:Int)<(n:Int)+1:=by omega
   have y2:IntKind.i64.wrap ((i:Int)+1)=(i:Int)+1:=IntWalk.i64_in _ (by omega)
   have y3:IntKind.i64.wrap ((i:Int)*((m:Int)+1))=(K:Int):=by
    have:(i:Int)*((m:Int)+1)=(K:Int):=by rw [hK];push_cast;rfl
    rw [this]
    exact IntWalk.i64_in _ (by omega)
   have y4:(0:Int)≤(K:Int):=by omega
   have y5:(K:Int)≤(K:Int)+(m:Int)+1:=by omega
   have y6:(K:Int)+(m:Int)+1≤(N:Int):=by omega
   have HK:=hide hK
   have HKN:=hide hKN
   have HI:=hide hin
   have hNI:(N:Int)≤1050625:=by omega
   clear hi hin hK hKN hNb
   have y7:K+m+1-K=m+1:=by omega
   go_wp2_with fail
   clear y7
   go_loopw [10,45] (fun _ jv wx=>∃ (j:Nat) (V':List Nat),jv=.int .i64 (j:Int)∧j≤m+1∧Hid (Blk wx ga 3 (nCells V')∧V'.length=N∧TabE X Y m i j V')∧Hid (Touch (fun g=>g=ga) wo wx)) (fun _ jv _=>m+1-(intOf jv).toNat)
   case atStart=>exact ⟨0,V,rfl,Nat.zero_le _,HB,hide (Touch.refl _ _)⟩
   case round =>
    obtain ⟨j,V',rfl,hj,HB2,HT2⟩:=hrel
    by_cases hjm:j≤m
    ·have k1:(j:Int)<(m:Int)+1:=by omega
     have k2:IntKind.i64.wrap ((j:Int)+1)=(j:Int)+1:=IntWalk.i64_in _ (by omega)
     have k3:(0:Int)≤(j:Int):=by omega
     have hKl:K+j<V'.length:=by have h1:=HKN.out;have h2:=HB2.out.2.1;omega
     have c0:wr.cell? ⟨ga,K+j,none⟩=some (.int .i64 ((V'.getD (K+j) 0:Nat):Int)):=by rw [HB2.out.1.cell];exact nCells_get _ _ hKl
     have f0:wr.frozen? ⟨ga,K+j,none⟩=false:=HB2.out.1.frozen _
     have l0:=HB2.out.1.lt
     obtain ⟨v0,hv0⟩:∃ v,v=V'.getD (K+j) 0:=⟨_,rfl⟩
     rw [← hv0] at c0
     have HJ:=hide hjm
     have HEND:Hid (∀ x:Nat,x=tabAt X Y i j→Blk (wr.setCell ⟨ga,K+j,none⟩ (.int .i64 (x:Int))) ga 3 (nCells (V'.set (K+j) x))∧(V'.set (K+j) x).length=N∧TabE X Y m i (j+1) (V'.set (K+j) x)):=hide (by
      intro x hx
      obtain ⟨b1,b2,b3⟩:=HB2.out
      have h1:=b1.set_ (K+j) (.int .i64 (x:Int))
      rw [nCells_set] at h1
      refine ⟨h1,by rw [List.length_set,b2],?_⟩
      have hK:=HK.out
      rw [hK] at hKl ⊢
      exact b3.set hjm hKl hx)
     have HTE:Hid (∀ v:Value,Touch (fun g=>g=ga) wo (wr.setCell ⟨ga,K+j,none⟩ v)):=hide (fun v=>HT2.out.setCell (p:=⟨ga,K+j,none⟩) (fun _=>rfl) v)
     have HKL:=hide hKl
     clear hv0 hjm hj hKl
     by_cases hi0:i=0
     ·have q1:((i:Int) == 0)=true:=by simp [hi0]
      have HI0:=hide hi0
      clear hi0
      go_wp2_with fail
      go_roundw
      ·obtain ⟨e1,e2,e3⟩:=HEND.out j (by rw [HI0.out,tabAt_zero X Y j (by rw [HYL.out];exact HJ.out)])
       exact ⟨j+1,_,by simp,by have:=HJ.out;omega,hide ⟨e1,e2,e3⟩,hide (HTE.out _)⟩
      ·have:=HJ.out
       simp only [intOf]
       omega
     ·obtain ⟨p,hp⟩:∃ p,i=p+1:=⟨i-1,by omega⟩
      have q1:((i:Int) == 0)=false:=by simp;omega
      have HP:=hide hp
      by_cases hj0:j=0
      ·have q2:((j:Int) == 0)=true:=by simp [hj0]
       have HJ0:=hide hj0
       clear hi0 hj0 hp
       go_wp2_with fail
       go_roundw
       ·obtain ⟨e1,e2,e3⟩:=HEND.out i (by rw [HJ0.out,tabAt_left X Y i (by rw [HXL.out];exact HI.out)])
        exact ⟨j+1,_,by simp,by have:=HJ.out;omega,hide ⟨e1,e2,e3⟩,hide (HTE.out _)⟩
       ·have:=HJ.out
        simp only [intOf]
        omega
      ·obtain ⟨q,hq⟩:∃ q,j=q+1:=⟨j-1,by omega⟩
       have q2:((j:Int) == 0)=false:=by simp;omega
       have HQ:=hide hq
       have hpn:p<n:=by have:=HI.out;omega
       have hqm:q<m:=by have:=HJ.out;omega
       obtain ⟨gx,ox,hA,hgx,hcx⟩:=HX.out.2 (by omega)
       obtain ⟨gy,oy,hB,hgy,hcy⟩:=HY.out.2 (by omega)
       subst hA
       subst hB
       have hga:=HGA.out
       have hTw:Touch (fun g=>g=ga) w wr:=((HT1.out.up _).then HT.out).then HT2.out
       have cx:wr.cell? ⟨gx,ox+p,none⟩=some (.int .i32 ((X.getD p 0:Nat):Int)):=(hTw.cell (a:=⟨gx,ox+p,none⟩) hgx (by simp only;omega)).trans (hcx p _ (by simp [List.getD,runeV,show p<X.length by rw [HXL.out];exact hpn]))
       have cy:wr.cell? ⟨gy,oy+q,none⟩=some (.int .i32 ((Y.getD q 0:Nat):Int)):=(hTw.cell (a:=⟨gy,oy+q,none⟩) hgy (by simp only;omega)).trans (hcy q _ (by simp [List.getD,runeV,show q<Y.length by rw [HYL.out];exact hqm]))
       have hrow:=own_touch HO.out.1 HT2.out (fun g hg e=>(own_ty HO.out.1 hg).ne (blk_ty HB.out.1) (by decide) e)
       obtain ⟨gr,cap,hRA,hle,hcm,hgr,hcr,_⟩:=own_form hrow (by omega)
       injection hRA with hRA1 _ hRA3
       subst hRA1
       subst hRA3
       obtain ⟨P,hP⟩:∃ P,P=p*(m+1):=⟨_,rfl⟩
       have cr:=hcr p _ (rowsV_get ga m i p (by omega))
       rw [← hP] at cr
       have hPK:P+m+1=K:=by rw [HK.out,hp,hP,Nat.add_mul,Nat.one_mul];omega
       have hVl:=HB2.out.2.1
       have hKN:=HKN.out
       have tb:=HB2.out.2.2
       have t1:V'.getD (P+q) 0=tabAt X Y p q:=by rw [hP];exact tb p q (by omega) (by omega)
       have t2:V'.getD (P+j) 0=tabAt X Y p j:=by rw [hP];exact tb p j (by have:=HJ.out;omega) (by omega)
       have t3:V'.getD (K+q) 0=tabAt X Y i q:=by rw [HK.out];exact tb i q (by omega) (by omega)
       have d1:wr.cell? ⟨ga,P+q,none⟩=some (.int .i64 ((tabAt X Y p q:Nat):Int)):=by rw [HB2.out.1.cell,← t1];exact nCells_get _ _ (by omega)
       have d2:wr.cell? ⟨ga,P+j,none⟩=some (.int .i64 ((tabAt X Y p j:Nat):Int)):=by rw [HB2.out.1.cell,← t2];exact nCells_get _ _ (by omega)
       have d3:wr.cell? ⟨ga,K+q,none⟩=some (.int .i64 ((tabAt X Y i q:Nat):Int)):=by rw [HB2.out.1.cell,← t3];exact nCells_get _ _ (by omega)
       have b1:=tabAt_le X Y p q (by rw [HXL.out];omega) (by rw [HYL.out];omega)
       have b2:=tabAt_le X Y p j (by rw [HXL.out];omega) (by rw [HYL.out];omega)
       have b3:=tabAt_le X Y i q (by rw [HXL.out];omega) (by rw [HYL.out];omega)
       have hst:=tabAt_succ X Y p q (by rw [HXL.out];exact hpn) (by rw [HYL.out];exact hqm)
       rw [← hp,← hq] at hst
       rw [HYL.out] at b1 b2 b3
       obtain ⟨ta,hta⟩:∃ x,x=tabAt X Y p q:=⟨_,rfl⟩
       obtain ⟨tb',htb⟩:∃ x,x=tabAt X Y p j:=⟨_,rfl⟩
       obtain ⟨tc,htc⟩:∃ x,x=tabAt X Y i q:=⟨_,rfl⟩
       obtain ⟨rx,hrx⟩:∃ x,x=X.getD p 0:=⟨_,rfl⟩
       obtain ⟨ry,hry⟩:∃ x,x=Y.getD q 0:=⟨_,rfl⟩
       rw [← hta] at d1 b1 hst
       rw [← htb] at d2 b2 hst
       rw [← htc] at d3 b3 hst
       rw [← hrx] at cx hst
       rw [← hry] at cy hst
       have u1:IntKind.i64.wrap ((i:Int)-1)=(p:Int):=by rw [IntWalk.i64_in _ (by omega)];omega
       have u2:IntKind.i64.wrap ((j:Int)-1)=(q:Int):=by rw [IntWalk.i64_in _ (by omega)];omega
       have u3:(0:Int)≤(p:Int):=by omega
       have u4:(p:Int)<(n:Int):=by omega
       have u5:(0:Int)≤(q:Int):=by omega
       have u6:(q:Int)<(m:Int):=by omega
       have u7:(p:Int)<(i:Int):=by omega
       have u8:(q:Int)<(m:Int)+1:=by omega
       have w1':(ta:Int)≤2100:=by omega
       have w2':(tb':Int)≤2100:=by omega
       have w3':(tc:Int)≤2100:=by omega
       have HST:=hide hst
       clear hi0 hj0 hp hq hpn hqm hgx hgy hcx hcy hga hTw hrow hle hcm hcr hP hPK hVl hKN tb t1 t2 t3 b1 b2 b3 hst hta htb htc hrx hry
       by_cases hc:rx=ry
       ·have q3:((rx:Int) == (ry:Int))=true:=by simp;omega
        have HC:=hide hc
        clear hc
        go_wp2_with fail
        go_quiet (fail)
        go_wp2_with fail
        go_roundw
        ·obtain ⟨e1,e2,e3⟩:=HEND.out ta (by rw [HST.out,if_pos HC.out.symm])
         exact ⟨j+1,_,by simp,by have:=HJ.out;omega,hide ⟨e1.drewN _,e2,e3⟩,hide ((HTE.out _).drewN _)⟩
        ·have:=HJ.out
         simp only [intOf]
         omega
       ·have q3:((rx:Int) == (ry:Int))=false:=by simp;omega
        have HC:=hide hc
        clear hc
        go_wp2_with fail
        go_quiet (fail)
        go_wp2_with fail
        go_region
        go_wp2_with fail
        go_roundw
        ·have hs:=HST.out
         rw [if_neg (fun e=>HC.out e.symm)] at hs
         obtain ⟨e1,e2,e3⟩:=HEND.out (1+min (min ta tb') tc) hs.symm
         have key:∀ (v:Int) (k:Nat),v=((1+min (min ta tb') tc:Nat):Int)→Blk ((wr.drewN k).setCell ⟨ga,K+j,none⟩ (.int .i64 v)) ga 3 (nCells (V'.set (K+j) (1+min (min ta tb') tc)))∧Touch (fun g=>g=ga) wo ((wr.drewN k).setCell ⟨ga,K+j,none⟩ (.int .i64 v)):=fun v k hv=>by
          subst hv
          exact ⟨e1.drewN k,(HTE.out _).drewN k⟩
         obtain ⟨k1',k2'⟩:=key (1+if (tc:Int)<(if tb'<ta then (tb':Int) else (ta:Int)) then (tc:Int) else if tb'<ta then (tb':Int) else (ta:Int)) (nq+1) (by split<;>split<;>omega)
         exact ⟨j+1,_,by simp,by have:=HJ.out;omega,hide ⟨k1',e2,e3⟩,hide k2'⟩
        ·have:=HJ.out
         simp only [intOf]
         omega
    ·have hje:j=m+1:=by omega
     subst hje
     have k1:¬ ((m+1:Nat):Int)<(m:Int)+1:=by omega
     have hrow:=own_touch HO.out.1 HT2.out (fun g hg e=>(own_ty HO.out.1 hg).ne (blk_ty HB.out.1) (by decide) e)
     have HROW:=hide hrow
     clear hjm hj hrow
     go_wp2_with (at_builtin;refine wpList_app _ rfl (.tmp 114) (.tmp 116) 259 rfl 49 i2 _ 1 24 Tryz.underlying259 hi2 hx0 hx1 hx2 rfl (by decide) (.slice RA i rc) i _ rfl (own_touch HROW.out ((Touch.refl _ _).alloc _) (fun _ _ f=>f)) (some ⟨_,0,none⟩) 1 1 [.slice (some ⟨ga,K,none⟩) (K+m+1-K) (K+m+1-K)] rfl (Reads.new _ _ _ 1 rfl) (fun h=>by cases h) (List.all_eq_true.1 rfl) (by have:=HI.out;unfold maxLen;omega) (by have:=HI.out;omega) ?_;intro v6 w6 O6 G6 F6 _;obtain ⟨A6,c6,hv,_,_⟩:=own_len O6;subst hv;have HE6:=hide (And.intro O6 (And.intro G6 F6));clear O6 G6 F6)
     go_roundw
     ·obtain ⟨O6,G6,F6⟩:=HE6.out
      obtain ⟨b1,b2,b3⟩:=HB2.out
      have hTg:Touch (fun g=>(Value.slice RA i rc).ownBlock=some g) wr w6:=((Touch.refl _ wr).alloc _).grown G6 (fun _ e _=>e)
      have hnb:¬ (Value.slice RA i rc).ownBlock=some ga:=fun e=>(own_ty HO.out.1 e).ne (blk_ty HB.out.1) (by decide) rfl
      refine ⟨i+1,A6,c6,V',rfl,by simp,by have:=HI.out;omega,hide ⟨?_,?_⟩,hide ⟨b1.touch hTg hnb,b2,b3.next⟩,hide ?_⟩
      ·rw [show K+m+1-K=m+1 by omega] at O6
       rw [rowsV_succ,← HK.out]
       exact O6
      ·intro g hg
       rcases F6 with e | ⟨g2,e,hle⟩
       ·rw [e] at hg
        exact HO.out.2 g hg
       ·rw [e] at hg
        injection hg with hg
        have h1:=HT.out.size
        have h2:=HT2.out.size
        have h3:wr.heap.size≤(wr.alloc (.cells #[.slice (some ⟨ga,K,none⟩) (K+m+1-K) (K+m+1-K)] 49)).heap.size:=by simp
        simp only [World.size_alloc] at hle
        omega
      ·refine (HT.out.then HT2.out).trans hTg (fun g hg e=>?_)
       have:=HO.out.2 g e
       omega
     ·have:=HI.out
      simp only [intOf]
      omega
  ·have hie:i=n+1:=by omega
   subst hie
   have k1:¬ ((n+1:Nat):Int)<(n:Int)+1:=by omega
   clear hi hin
   go_wp2_with fail
   go_ret
   have hga:=HGA.out
   refine ⟨ga,RA,rc,V,rfl,HT1.out.trans HT.out (fun g hg e=>by omega),Reads.of_own HO.out.1,HB.out.1,by rw [HB.out.2.1,HN.out],HB.out.2.2⟩
end Go.Proofs.YthockgmbooefpaaGreatDoor
namespace Go.Proofs.YthockgmbooefpaaGreatDoor
open Go.RowKit
theorem dist_long {a b:List UInt8} (h:4096<a.length∨4096<b.length):distU a b=none:=by
 unfold distU
 cases ha:runesU a with
 | none=>rfl
 | some x =>
  cases hb:runesU b with
  | none=>rfl
  | some y =>
   simp only
   rw [if_neg]
   rintro ⟨h1,h2⟩
   have e1:=(runesU_write _ _ _ (Nat.le_refl _) ha).1
   have e2:=(runesU_write _ _ _ (Nat.le_refl _) hb).1
   have f1:=flat_size x
   have f2:=flat_size y
   rw [← e1] at f1
   rw [← e2] at f2
   omega
def BothR (w:World) (a b:List UInt8) (e:Ending) (w':World):Prop :=
 ((∃ s1 s2,e=.returned (.tuple #[s1,s2,.bool false])∧distU a b=none) ∨
   (∃ A1 n1 c1 X A2 n2 c2 Y,e=.returned (.tuple #[.slice A1 n1 c1,.slice A2 n2 c2,.bool true])∧Reads w' 1 A1 n1 (X.map runeV)∧X.length=n1∧n1≤1024∧Reads w' 1 A2 n2 (Y.map runeV)∧Y.length=n2∧n2≤1024∧distU a b=some (tabAt X Y n1 n2)))∧Touch (fun _=>False) w w'
theorem dist_both {a b:List UInt8} {X Y:List Nat} (ha:runesU a=some X) (hb:runesU b=some Y) (h1:X.length≤1024) (h2:Y.length≤1024):distU a b=some (tabAt X Y X.length Y.length):=by
 unfold distU
 rw [ha,hb]
 simp only
 rw [if_pos ⟨h1,h2⟩]
 unfold tabAt
 rw [tabRow_eq,List.take_length]
theorem both_any (w:World) (hL:Lst w) (a b:ByteArray) (ha:a.size≤9223372036854775807) (hb:b.size≤9223372036854775807) :
  Calls Tryz.prog 150 #[.string a,.string b] w (BothR w a.toList b.toList):=by
 by_cases hlong:4096<a.size∨4096<b.size
 ·have hd:distU a.toList b.toList=none:=dist_long (by rw [size_toList,size_toList];exact hlong)
  have HD:=hide hd
  have haI:(a.size:Int)≤9223372036854775807:=by omega
  have hbI:(b.size:Int)≤9223372036854775807:=by omega
  by_cases h1:4096<a.size
  ·have y1:(4096:Int)<(a.size:Int):=by omega
   clear hlong hd h1 ha hb
   go_enter Tryz.func150,Tryz.ntmps150
   go_wp2_with fail
   go_ret3
   exact ⟨.inl ⟨_,_,rfl,HD.out⟩,Touch.refl _ _⟩
  ·have y1:¬ (4096:Int)<(a.size:Int):=by omega
   have y2:(4096:Int)<(b.size:Int):=by omega
   clear hlong hd h1 ha hb
   go_enter Tryz.func150,Tryz.ntmps150
   go_wp2_with fail
   go_ret3
   exact ⟨.inl ⟨_,_,rfl,HD.out⟩,Touch.refl _ _⟩
 ·have y1:¬ (4096:Int)<(a.size:Int):=by omega
  have y2:¬ (4096:Int)<(b.size:Int):=by omega
  have HRA:=hide (runes_any w a (by omega) hL)
  have HRB:=hide (fun wx T=>runes_any wx b (by omega) (Lst.touch (w':=wx) hL T))
  clear hlong ha hb hL
  go_enter Tryz.func150,Tryz.ntmps150
  go_wp2_with fail
  refine HRA.out.mono ?_
  rintro e w1 ⟨A1,n1,c1,X,k1,rfl,ho1,hl1,hs1,hx1⟩
  have HO1:=hide ho1
  have HX1:=hide (And.intro hl1 hx1)
  clear ho1 hl1 hs1 hx1
  go_wp2_with fail
  refine (HRB.out _ HO1.out.touch).mono ?_
  rintro e w2 ⟨A2,n2,c2,Y,k2,rfl,ho2,hl2,hs2,hx2⟩
  have HO2:=hide ho2
  have HX2:=hide (And.intro hl2 hx2)
  have HO12:=hide (HO1.out.to ho2.touch)
  clear ho2 hl2 hs2 hx2
  have HT:=hide (HO1.out.touch.then HO2.out.touch)
  cases k1 with
  | false =>
   have hd:distU a.toList b.toList=none:=by
    unfold distU
    rw [HX1.out.2]
    rfl
   have HD:=hide hd
   clear hd
   go_wp2_with fail
   go_ret3
   exact ⟨.inl ⟨_,_,rfl,HD.out⟩,HT.out⟩
  | true =>
   cases k2 with
   | false =>
    have hd:distU a.toList b.toList=none:=by
     unfold distU
     rw [HX1.out.2,HX2.out.2]
     rfl
    have HD:=hide hd
    clear hd
    go_wp2_with fail
    go_ret3
    exact ⟨.inl ⟨_,_,rfl,HD.out⟩,HT.out⟩
   | true =>
    by_cases h1:n1≤1024
    ·have y3:(n1:Int)≤1024:=by omega
     by_cases h2:n2≤1024
     ·have y4:(n2:Int)≤1024:=by omega
      have hd:distU a.toList b.toList=some (tabAt X Y n1 n2):=by
       have e1:=HX1.out.1
       have e2:=HX2.out.1
       rw [← e1,← e2]
       exact dist_both (by rw [HX1.out.2];rfl) (by rw [HX2.out.2];rfl) (by omega) (by omega)
      have HD:=hide hd
      have HH:=hide (And.intro h1 h2)
      clear hd h1 h2
      go_wp2_with fail
      go_ret3
      exact ⟨.inr ⟨A1,n1,c1,X,A2,n2,c2,Y,rfl,Reads.of_own HO12.out.own,HX1.out.1,HH.out.1,Reads.of_own HO2.out.own,HX2.out.1,HH.out.2,HD.out⟩,HT.out⟩
     ·have y4:¬ (n2:Int)≤1024:=by omega
      have y5:decide ((n2:Int)≤1024)=false:=by simp;omega
      have hd:distU a.toList b.toList=none:=by
       unfold distU
       rw [HX1.out.2,HX2.out.2]
       simp only [if_true]
       rw [if_neg (by have:=HX2.out.1;omega)]
      have HD:=hide hd
      clear hd h1 h2
      go_wp2_with fail
      go_ret3
      exact ⟨.inl ⟨_,_,rfl,HD.out⟩,HT.out⟩
    ·have y3:¬ (n1:Int)≤1024:=by omega
     have hd:distU a.toList b.toList=none:=by
      unfold distU
      rw [HX1.out.2,HX2.out.2]
      simp only [if_true]
      rw [if_neg (by have:=HX1.out.1;omega)]
     have HD:=hide hd
     clear hd h1
     go_wp2_with fail
     go_ret3
     exact ⟨.inl ⟨_,_,rfl,HD.out⟩,HT.out⟩
theorem dist_any (w:World) (hL:Lst w) (a b:ByteArray) (ha:a.size≤9223372036854775807) (hb:b.size≤9223372036854775807) :
  Calls Tryz.prog 103 #[.string a,.string b] w fun e w'=>e=distE (distU a.toList b.toList)∧Touch (fun _=>False) w w':=by
 have HB:=hide (both_any w hL a b ha hb)
 clear ha hb hL
 go_enter Tryz.func103,Tryz.ntmps103
 go_wp2_with fail
 refine HB.out.mono ?_
 rintro e w1 ⟨h,T1⟩
 have HT1:=hide T1
 rcases h with ⟨s1,s2,rfl,hd⟩ | ⟨A1,n1,c1,X,A2,n2,c2,Y,rfl,hr1,hl1,hn1,hr2,hl2,hn2,hd⟩
 ·have HD:=hide hd
  clear T1 HB hd
  go_wp2_with fail
  go_ret2
  exact ⟨by rw [HD.out];rfl,HT1.out⟩
 ·have HD:=hide hd
  have HTB:=hide (table_any w1 A1 n1 c1 X hr1 hl1 A2 n2 c2 Y hr2 hl2 hn1 hn2)
  have y1:(n1:Int)≤1024:=by omega
  have y2:(n2:Int)≤1024:=by omega
  have HN:=hide (And.intro hn1 hn2)
  clear T1 HB hd hr1 hl1 hn1 hr2 hl2 hn2
  go_wp2_with fail
  refine HTB.out.mono ?_
  rintro e w2 ⟨ga,RA,rc,V,rfl,T2,hrr,hbl,hvl,htp⟩
  obtain ⟨gr,orr,hRA,hgr,hcr⟩:=hrr.2 (by omega)
  subst hRA
  have cr:=hcr n1 _ (rowsV_get ga n2 (n1+1) n1 (by omega))
  obtain ⟨K,hK⟩:∃ K,K=n1*(n2+1):=⟨_,rfl⟩
  rw [← hK] at cr
  have hlt:K+n2<V.length:=by
   rw [hvl,hK,Nat.add_mul,Nat.one_mul]
   omega
  have ht:V.getD (K+n2) 0=tabAt X Y n1 n2:=by rw [hK];exact htp n1 n2 (Nat.le_refl _) (.inl (by omega))
  have cv:w2.cell? ⟨ga,K+n2,none⟩=some (.int .i64 ((tabAt X Y n1 n2:Nat):Int)):=by rw [hbl.cell,← ht];exact nCells_get _ _ hlt
  have HT2:=hide (HT1.out.then T2)
  have lg:=hbl.lt
  have y3:(0:Int)≤(n1:Int):=by omega
  have y4:(n1:Int)<(n1:Int)+1:=by omega
  have y5:(0:Int)≤(n2:Int):=by omega
  have y6:(n2:Int)<(n2:Int)+1:=by omega
  clear T2 hrr hbl hvl htp hcr hK hlt ht HTB
  go_wp2_with fail
  go_ret2
  exact ⟨by rw [HD.out];rfl,HT2.out⟩
def withinB (o:Option Nat) (k:Int):Bool:=match o with
 | some d=>decide ((d:Int)≤k)
 | none=>false
theorem within_any (w:World) (hL:Lst w) (a b:ByteArray) (ha:a.size≤9223372036854775807) (hb:b.size≤9223372036854775807) (k:Int) :
  Calls Tryz.prog 102 #[.string a,.string b,.int .i64 k] w fun e w'=>e=.returned (.bool (withinB (distU a.toList b.toList) k))∧Touch (fun _=>False) w w':=by
 have hD:=dist_any w hL a b ha hb
 obtain ⟨o,ho⟩:∃ o,o=distU a.toList b.toList:=⟨_,rfl⟩
 rw [← ho] at hD ⊢
 cases o with
 | none =>
  simp only [distE] at hD
  have HD:=hide hD
  clear ha hb hL hD ho
  go_enter Tryz.func102,Tryz.ntmps102
  go_wp2_with fail
  refine HD.out.mono ?_
  rintro e w1 ⟨rfl,T1⟩
  have HT1:=hide T1
  clear T1
  go_wp2_with fail
  go_ret
  exact ⟨rfl,HT1.out⟩
 | some d =>
  simp only [distE] at hD
  have HD:=hide hD
  clear ha hb hL hD ho
  by_cases hk:(d:Int)≤k
  all_goals
   go_enter Tryz.func102,Tryz.ntmps102
   go_wp2_with fail
   refine HD.out.mono ?_
   rintro e w1 ⟨rfl,T1⟩
   have HT1:=hide T1
   clear T1
   go_wp2_with fail
   go_ret
   exact ⟨by simp [withinB,hk],HT1.out⟩
end Go.Proofs.YthockgmbooefpaaGreatDoor
