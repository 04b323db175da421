/- What the law rests on, part 6. No condition but those that each theorem names. -/
import Derived.Test.YthockgmbooefpaaGreatDoorT05
import Derived.BigQuiet
import Derived.Deep.QuietTactic
set_option linter.unusedSectionVars false
set_option linter.unusedSimpArgs false
set_option linter.unusedVariables false
set_option maxRecDepth 100000
set_option maxHeartbeats 8000000
namespace Go.Proofs.YthockgmbooefpaaGreatDoor
open Go.RowKit
def stepG (r:Nat):Nat→List Nat→List Nat→List Nat
 | t,c :: wd,a :: b :: s=>min (min (a+if c=r then 0 else 1) (b+1)) (t+1) :: stepG r (min (min (a+if c=r then 0 else 1) (b+1)) (t+1)) wd (b :: s)
 | _,_,_=>[]
def stepD (wd:List Nat) (s:List Nat) (r:Nat):List Nat:=(s.headD 0+1) :: stepG r (s.headD 0+1) wd s
theorem stepG_len (r:Nat):∀ (wd:List Nat) (t:Nat) (s:List Nat),s.length=wd.length+1→(stepG r t wd s).length=wd.length
 | [],t,s,h=>by
  cases s with
  | nil=>rfl
  | cons a s=>cases s<;>rfl
 | c :: wd,t,[],h=>by simp at h
 | c :: wd,t,[a],h=>by simp at h
 | c :: wd,t,a :: b :: s,h=>by
  simp only [stepG,List.length_cons]
  rw [stepG_len r wd _ (b :: s) (by simpa using h)]
theorem stepD_len {wd s:List Nat} (r:Nat) (h:s.length=wd.length+1):(stepD wd s r).length=wd.length+1:=by
 unfold stepD
 rw [List.length_cons,stepG_len r wd _ s h]
theorem fold_len {wd:List Nat}:∀ (text s:List Nat),s.length=wd.length+1→(text.foldl (stepD wd) s).length=wd.length+1
 | [],s,h=>h
 | r :: text,s,h=>fold_len text _ (stepD_len r h)
theorem stepG_get (r:Nat):∀ (wd:List Nat) (t:Nat) (s:List Nat) (j:Nat),s.length=wd.length+1→j<wd.length →
  (stepG r t wd s).getD j 0=min (min (s.getD j 0+if wd.getD j 0=r then 0 else 1) (s.getD (j+1) 0+1)) ((t :: stepG r t wd s).getD j 0+1)
 | [],t,s,j,h,hj=>by simp at hj
 | c :: wd,t,[],j,h,hj=>by simp at h
 | c :: wd,t,[a],j,h,hj=>by simp at h
 | c :: wd,t,a :: b :: s,0,h,hj=>by simp [stepG]
 | c :: wd,t,a :: b :: s,j+1,h,hj=>by
  have ih:=stepG_get r wd (min (min (a+if c=r then 0 else 1) (b+1)) (t+1)) (b :: s) j (by simpa using h) (by simpa using hj)
  simp only [stepG,List.getD_cons_succ] at ih ⊢
  exact ih
theorem stepD_get {wd s:List Nat} (r:Nat) (h:s.length=wd.length+1) {j:Nat} (hj:j<wd.length) :
  (stepD wd s r).getD (j+1) 0=min (min (s.getD j 0+if wd.getD j 0=r then 0 else 1) (s.getD (j+1) 0+1)) ((stepD wd s r).getD j 0+1):=by
 unfold stepD
 rw [List.getD_cons_succ]
 exact stepG_get r wd _ s j h hj
theorem stepG_le (r B:Nat):∀ (wd:List Nat) (t:Nat) (s:List Nat),(∀ x∈s,x≤B)→∀ x∈stepG r t wd s,x≤B+1
 | [],t,s,_,x,hx=>by
  cases s with
  | nil=>cases hx
  | cons a s=>cases s<;>cases hx
 | c :: wd,t,[],_,x,hx=>by cases hx
 | c :: wd,t,[a],_,x,hx=>by cases hx
 | c :: wd,t,a :: b :: s,h,x,hx=>by
  have hb:=h b (List.mem_cons_of_mem _ List.mem_cons_self)
  simp only [stepG,List.mem_cons] at hx
  rcases hx with rfl | hx
  ·omega
  ·exact stepG_le r B wd _ (b :: s) (fun y hy=>h y (List.mem_cons_of_mem _ hy)) x hx
theorem stepD_le {wd s:List Nat} {B:Nat} (r:Nat) (h:∀ x∈s,x≤B):∀ x∈stepD wd s r,x≤B+1:=by
 intro x hx
 simp only [stepD,List.mem_cons] at hx
 rcases hx with rfl | hx
 ·cases s with
  | nil=>simp
  | cons a s=>have:=h a List.mem_cons_self;simp;omega
 ·exact stepG_le r B wd _ s h x hx
theorem head_step (wd s:List Nat) (r:Nat):(stepD wd s r).headD 0=s.headD 0+1:=rfl
def rowK (wd text:List Nat):List Nat:=text.foldl (stepD wd) (List.range (wd.length+1))
theorem rowK_snoc (wd text:List Nat) (r:Nat):rowK wd (text++[r])=stepD wd (rowK wd text) r:=by
 unfold rowK
 rw [List.foldl_append]
 rfl
theorem rowK_len (wd text:List Nat):(rowK wd text).length=wd.length+1:=fold_len text _ (by simp)
theorem takeN_snoc (X:List Nat) (k:Nat) (hk:k<X.length):X.take (k+1)=X.take k++[X.getD k 0]:=by
 rw [List.take_succ_eq_append_getElem hk]
 simp [List.getD,hk]
theorem last_snoc {X:List Nat} {k:Nat} (h:X.length=k+1):X=X.take k++[X.getD k 0]:=by
 rw [← takeN_snoc X k (by omega),List.take_of_length_le (by omega)]
theorem rowK_head (wd:List Nat):∀ (k:Nat) (text:List Nat),text.length=k→(rowK wd text).headD 0=k
 | 0,text,h=>by
  rw [List.eq_nil_of_length_eq_zero h]
  unfold rowK
  rw [List.foldl_nil,List.range_succ_eq_map]
  rfl
 | k+1,text,h=>by
  have ih:=rowK_head wd k (text.take k) (by rw [List.length_take];omega)
  rw [last_snoc h,rowK_snoc,head_step,ih]
theorem rowK_le (wd:List Nat):∀ (k:Nat) (text:List Nat),text.length=k→∀ x∈rowK wd text,x≤wd.length+k
 | 0,text,h=>by
  rw [List.eq_nil_of_length_eq_zero h]
  intro x hx
  unfold rowK at hx
  rw [List.foldl_nil,List.mem_range] at hx
  omega
 | k+1,text,h=>by
  have ih:=rowK_le wd k (text.take k) (by rw [List.length_take];omega)
  rw [last_snoc h,rowK_snoc]
  exact stepD_le _ ih
end Go.Proofs.YthockgmbooefpaaGreatDoor
namespace Go.Proofs.YthockgmbooefpaaGreatDoor
open Go.RowKit
def natF (x:Nat):Value:=.int .i64 (x:Int)
theorem infoInt12:(Tryz.prog.info? 3).map (fun i=>(i.zero,i.size,i.bytes))=some (some (.int .i64 0),1,8):=by kernel_rfl
theorem natF_at {w:World} {A:Option Addr} {n:Nat} {X:List Nat} (h:Reads w 1 A n (X.map natF)) (hl:X.length=n) (j:Nat) (hj:j<n) :
  ∃ g off,A=some ⟨g,off,none⟩∧w.cell? ⟨g,off+j,none⟩=some (.int .i64 (X.getD j 0:Int)):=by
 obtain ⟨g,off,hA,_,hc⟩:=h.2 (by omega)
 refine ⟨g,off,hA,hc j _ ?_⟩
 simp [List.getD,natF,show j<X.length by omega]
theorem own_natF (w:World) (x:Nat):ONx 3 1 w (w.alloc (.cells #[natF x] 3)) (.slice (some ⟨w.heap.size,0,none⟩) 1 1) 1 [natF x] :=
 ⟨⟨by simp,.inr ⟨w.heap.size,1,#[natF x],rfl,Nat.zero_le _,heap_alloc_new _ _,Nat.le_refl _,by decide,by simp,rfl⟩⟩,(Touch.refl _ _).alloc _,fun g h=>by
   simp [Value.ownBlock] at h
   omega⟩
theorem ONx.from {e size:Nat} {w w0 w1:World} {v:Value} {q:Nat} {xs:List Value} (h:ONx e size w0 w1 v q xs) (T:Touch (fun _=>False) w w0):ONx e size w w1 v q xs :=
 ⟨h.own,T.then h.touch,fun g hg=>Nat.le_trans T.size (h.fresh g hg)⟩
theorem memD (X:List Nat) (k:Nat) (hk:k<X.length):X.getD k 0∈X:=by
 have e:X.getD k 0=X[k]:=by simp [List.getD,hk]
 rw [e]
 exact List.getElem_mem hk
theorem far_any (w:World) (A:Option Addr) (n c:Nat) (X:List Nat) (hX:Reads w 1 A n (X.map runeV)) (hXl:X.length=n) (B:Option Addr) (m d:Nat) (Y:List Nat) (hY:Reads w 1 B m (Y.map runeV)) (hYl:Y.length=m) (hn:n≤1048576) (hm:m≤1048576) :
  Calls Tryz.prog 163 #[.slice A n c,.slice B m d] w fun e w'=>e=.returned (.int .i64 ((rowK Y X).getD m 0:Int))∧Touch (fun _=>False) w w':=by
 obtain ⟨i1,hi1,hy0,hy1,hy2⟩:=info_parts infoInt12
 have HX:=hide hX
 have HXL:=hide hXl
 have HY:=hide hY
 have HYL:=hide hYl
 have HN:=hide hn
 have HM:=hide hm
 clear hX hXl hY hYl hn hm
 go_enter Tryz.func163,Tryz.ntmps163
 go_wp2_with fail
 go_loopw [5,6] (fun rv iv wr=>∃ (j:Nat) (Ar:Option Addr) (cr:Nat),rv=.slice Ar j cr∧iv=.int .i64 j∧j≤m+1∧Hid (ONx 3 1 w wr (.slice Ar j cr) j ((List.range j).map natF))) (fun _ iv _=>m+1-(intOf iv).toNat)
 case atStart=>exact ⟨0,none,0,rfl,rfl,Nat.zero_le _,hide (ONx.nil _ _ _)⟩
 case round =>
  obtain ⟨j,Ar,cr,rfl,rfl,hj,HO⟩:=hrel
  by_cases hjm:j≤m
  ·have y0:(j:Int)≤(m:Int):=by omega
   have y1:IntKind.i64.wrap ((j:Int)+1)=(j:Int)+1:=IntWalk.i64_in _ (by have:=HM.out;omega)
   have HJ:=hide hjm
   have HB:Hid (j+1≤maxLen∧(j+1)*8≤140737488355328):=hide (by have:=HM.out;unfold maxLen;omega)
   clear hj hjm
   go_wp2_with (at_builtin;refine wpList_app _ rfl (.tmp 19) (.tmp 21) 49 rfl 3 i1 _ 1 8 Tryz.underlying49 hi1 hy0 hy1 hy2 rfl (by decide) (.slice Ar j cr) j _ rfl (own_touch HO.out.own ((Touch.refl _ _).alloc _) (fun _ _ f=>f)) (some ⟨wr.heap.size,0,none⟩) 1 1 [.int .i64 (j:Int)] rfl (Reads.new wr _ _ 1 rfl) (fun h=>by cases h) (List.all_eq_true.1 rfl) HB.out.1 HB.out.2 ?_;intro v1 w5 O5 G5 F5 _;obtain ⟨A5,c5,hv,_,_⟩:=own_len O5;subst hv;have HO5:=hide ((HO.out.to ((Touch.refl _ _).alloc _)).app O5 G5 F5);clear O5 G5 F5)
   go_roundw
   ·refine ⟨j+1,A5,c5,rfl,by simp,by have:=HJ.out;omega,hide ?_⟩
    rw [List.range_succ,List.map_append]
    exact HO5.out
   ·have:=HJ.out
    simp only [intOf]
    omega
  ·have hje:j=m+1:=by omega
   subst hje
   have y0:¬ ((m:Int)+1)≤(m:Int):=by omega
   have y0':¬ ((m+1:Nat):Int)≤(m:Int):=by omega
   clear hj hjm
   go_wp2_with fail
   go_loopw [5,7] (fun rv iv wr=>∃ (k i:Nat) (Ar:Option Addr) (cr:Nat),rv=.slice Ar (m+1) cr∧iv=.int .i64 (i:Int)∧Hid (i=k+1)∧k≤n∧Hid (ONx 3 1 w wr (.slice Ar (m+1) cr) (m+1) ((rowK Y (X.take k)).map natF))) (fun _ iv _=>n+1-(intOf iv).toNat)
   case atStart=>exact ⟨0,1,Ar,cr,rfl,rfl,hide rfl,Nat.zero_le _,hide (by have h:=HO.out;have e:rowK Y (X.take 0)=List.range (m+1):=(by unfold rowK;rw [List.take_zero,List.foldl_nil,HYL.out]);rw [e];exact h)⟩
   case round =>
    obtain ⟨k,i,Ar2,cr2,rfl,rfl,HI,hk,HR⟩:=hrel
    obtain ⟨wo,hwo⟩:∃ y,y=wr:=⟨_,rfl⟩
    subst hwo
    by_cases hkn:k<n
    ·have y2:(i:Int)≤(n:Int):=by have:=HI.out;omega
     have y3:IntKind.i64.wrap ((i:Int)+1)=(i:Int)+1:=IntWalk.i64_in _ (by have:=HI.out;have:=HN.out;omega)
     have y4:IntKind.i64.wrap ((i:Int)-1)=(k:Int):=by rw [IntWalk.i64_in _ (by have:=HI.out;have:=HN.out;omega)];have:=HI.out;omega
     have HK:=hide hkn
     obtain ⟨s,hs⟩:∃ s,s=rowK Y (X.take k):=⟨_,rfl⟩
     obtain ⟨r,hr⟩:∃ r,r=X.getD k 0:=⟨_,rfl⟩
     obtain ⟨t,ht⟩:∃ t,t=stepD Y s r:=⟨_,rfl⟩
     have htk:rowK Y (X.take (k+1))=t:=by rw [takeN_snoc X k (by rw [HXL.out];exact hkn),rowK_snoc,ht,hs,hr]
     have hsl:s.length=m+1:=by rw [hs,rowK_len,HYL.out]
     have htl:t.length=m+1:=by rw [ht,stepD_len _ (by rw [hsl,HYL.out]),HYL.out]
     have hth:t.headD 0=i:=by rw [ht,head_step,hs,rowK_head Y k (X.take k) (by rw [List.length_take,HXL.out];omega)];exact HI.out.symm
     have hsb:∀ x∈s,x≤m+k:=by rw [hs];have:=rowK_le Y k (X.take k) (by rw [List.length_take,HXL.out];omega);rw [HYL.out] at this;exact this
     have htb:∀ x∈t,x≤m+k+1:=by rw [ht];exact stepD_le _ hsb
     have hget:∀ j,j<m→t.getD (j+1) 0=min (min (s.getD j 0+if Y.getD j 0=r then 0 else 1) (s.getD (j+1) 0+1)) (t.getD j 0+1):=fun j hj=>by
      rw [ht]
      exact stepD_get r (by rw [hsl,HYL.out]) (by rw [HYL.out];exact hj)
     have ht1:t.take 1=[i]:=by
      cases t with
      | nil=>simp at htl
      | cons x t=>simp at hth;simp [hth]
     rw [← hs] at HR
     have HS:=hide hs
     have HTK:=hide htk
     have HSL:=hide hsl
     have HTL:=hide htl
     have HSB:=hide hsb
     have HTB:=hide htb
     have HGET:=hide hget
     have HT1:=hide ht1
     have HRR:=hide hr
     obtain ⟨w2,hw2⟩:∃ x,x=wo.alloc (.cells #[.int .i64 (i:Int)] 3):=⟨_,rfl⟩
     have ho2:ONx 3 1 wo w2 (.slice (some ⟨wo.heap.size,0,none⟩) 1 1) 1 ((t.take 1).map natF):=by
      rw [hw2,ht1]
      exact own_natF wo i
     have HO2:=hide ho2
     have HW2:=hide hw2
     clear hs hr ht htk hsl htl hth hsb htb hget ht1 hkn hk hw2 ho2
     go_wp2_with fail
     rw [← HW2.out]
     go_loopw [8,9] (fun nv jv wx=>∃ (j l:Nat) (An:Option Addr) (cn:Nat),nv=.slice An j cn∧jv=.int .i64 (j:Int)∧Hid (j=l+1)∧l≤m∧Hid (ONx 3 1 wo wx (.slice An j cn) j ((t.take j).map natF))) (fun _ jv _=>m+1-(intOf jv).toNat)
     case atStart=>exact ⟨1,0,_,1,rfl,rfl,hide rfl,Nat.zero_le _,HO2⟩
     case round =>
      obtain ⟨j,l,An,cn,rfl,rfl,HJ,hl,HNX⟩:=hrel
      by_cases hlm:l<m
      ·have a0:(j:Int)≤(m:Int):=by have:=HJ.out;omega
       have a1:IntKind.i64.wrap ((j:Int)+1)=(j:Int)+1:=IntWalk.i64_in _ (by have:=HJ.out;have:=HM.out;omega)
       have a2:IntKind.i64.wrap ((j:Int)-1)=(l:Int):=by rw [IntWalk.i64_in _ (by have:=HJ.out;have:=HM.out;omega)];have:=HJ.out;omega
       have b0:(0:Int)≤(l:Int):=by omega
       have b1:(l:Int)<(j:Int):=by have:=HJ.out;omega
       have b2:(l:Int)<(m:Int):=by omega
       have b3:(0:Int)≤(k:Int):=by omega
       have b4:(k:Int)<(n:Int):=by have:=HK.out;omega
       have b5:(0:Int)≤(j:Int):=by omega
       have b6:(j:Int)<(m:Int)+1:=by omega
       have b7:(l:Int)<(m:Int)+1:=by omega
       have htj:(t.take j).length=j:=by rw [List.length_take,HTL.out];have:=HJ.out;omega
       obtain ⟨g1,o1,hA1,c1⟩:=natF_at (Reads.of_own HNX.out.own) htj l (by have:=HJ.out;omega)
       have hrow:=own_touch HR.out.own HNX.out.touch (fun _ _ f=>f)
       obtain ⟨g2,o2,hA2,c2⟩:=natF_at (Reads.of_own hrow) HSL.out l (by omega)
       obtain ⟨g3,o3,hA3,c3⟩:=natF_at (Reads.of_own hrow) HSL.out j (by have:=HJ.out;omega)
       have hTw:Touch (fun _=>False) w wr:=HR.out.touch.then HNX.out.touch
       obtain ⟨g4,o4,hA4,c4⟩:=rune_at (HX.out.touch hTw (fun _ _ f=>f)) HXL.out k HK.out
       obtain ⟨g5,o5,hA5,c5⟩:=rune_at (HY.out.touch hTw (fun _ _ f=>f)) HYL.out l hlm
       subst hA1
       subst hA2
       injection hA3 with hA3
       injection hA3 with e1 e2
       subst e1
       subst e2
       subst hA4
       subst hA5
       rw [← HRR.out] at c4
       have hgt:=HGET.out l hlm
       have e1:(t.take j).getD l 0=t.getD l 0:=by
        have hlj:l<j:=by have:=HJ.out;omega
        simp [List.getD,List.getElem?_take,hlj]
       rw [e1] at c1
       have hjj:j=l+1:=HJ.out
       rw [hjj] at c3
       rw [← hjj] at hgt
       have hb1:=HTB.out _ (memD t l (by rw [HTL.out];omega))
       have hb2:=HSB.out _ (memD s l (by rw [HSL.out];omega))
       have hb3:=HSB.out _ (memD s (l+1) (by rw [HSL.out];omega))
       rw [hjj] at hgt
       obtain ⟨tv,htv⟩:∃ x,x=t.getD l 0:=⟨_,rfl⟩
       obtain ⟨sa,hsa⟩:∃ x,x=s.getD l 0:=⟨_,rfl⟩
       obtain ⟨sb,hsb⟩:∃ x,x=s.getD (l+1) 0:=⟨_,rfl⟩
       obtain ⟨cc,hcc⟩:∃ x,x=Y.getD l 0:=⟨_,rfl⟩
       rw [← htv] at c1 hgt hb1
       rw [← hsa] at c2 hgt hb2
       rw [← hsb] at c3 hgt hb3
       rw [← hcc] at c5 hgt
       rw [← hjj] at c3
       have HGT:=hide hgt
       have HLM:=hide hlm
       have z1:IntKind.i64.wrap ((tv:Int)+1)=(tv:Int)+1:=IntWalk.i64_in _ (by have:=HN.out;have:=HM.out;have:=HK.out;omega)
       have z2:IntKind.i64.wrap ((sa:Int)+1)=(sa:Int)+1:=IntWalk.i64_in _ (by have:=HN.out;have:=HM.out;have:=HK.out;omega)
       have z3:IntKind.i64.wrap ((sb:Int)+1)=(sb:Int)+1:=IntWalk.i64_in _ (by have:=HN.out;have:=HM.out;have:=HK.out;omega)
       have HB:=hide (show j+1≤maxLen∧(j+1)*8≤140737488355328 by have:=HM.out;have:=HLM.out;have:=HJ.out;unfold maxLen;omega)
       clear hgt htv hsa hsb hcc hjj hrow hTw htj e1 hb1 hb2 hb3 hlm hl
       by_cases hc:r=cc
       ·have q1:((r:Int) == (cc:Int))=true:=by simp;omega
        have HC:=hide hc
        clear hc
        go_wp2_with fail
        go_quiet (fail)
        go_wp2_with (at_builtin;refine wpList_app _ rfl (.tmp 70) (.tmp 75) 49 rfl 3 i1 _ 1 8 Tryz.underlying49 hi1 hy0 hy1 hy2 rfl (by decide) (.slice (some ⟨g1,o1,none⟩) j cn) j _ rfl (own_touch HNX.out.own (((Touch.refl _ _).drewN _).alloc _) (fun _ _ f=>f)) (some ⟨_,0,none⟩) 1 1 [_] rfl (Reads.new _ _ [_] 1 rfl) (fun h=>by cases h) (List.all_eq_true.1 rfl) HB.out.1 HB.out.2 ?_;intro v1 w5 O5 G5 F5 _;obtain ⟨A5,c5,hv,_,_⟩:=own_len O5;subst hv;have HO5:=hide ((HNX.out.to (((Touch.refl _ _).drewN _).alloc _)).app O5 G5 F5);clear O5 G5 F5)
        all_goals
         go_roundw
         ·refine ⟨j+1,l+1,A5,c5,rfl,by simp,hide (by have:=HJ.out;omega),by have:=HLM.out;omega,hide ?_⟩
          have h:=HO5.out
          rw [takeN_snoc t j (by rw [HTL.out];have:=HJ.out;have:=HLM.out;omega),List.map_append]
          have hg:=HGT.out
          rw [← HJ.out] at hg
          have hcv:=HC.out
          have key:∀ x:Int,x=((t.getD j 0:Nat):Int)→ONx 3 1 wo w5 (.slice A5 (j+1) c5) (j+1) (List.map natF (List.take j t)++[.int .i64 x])→ONx 3 1 wo w5 (.slice A5 (j+1) c5) (j+1) (List.map natF (List.take j t)++List.map natF [t.getD j 0]):=fun x hx h=>by
           rw [hx] at h
           exact h
          refine key _ ?_ h
          rw [hg]
          first
           | rw [show (if cc=r then 0 else 1:Nat)=0 from if_pos hcv.symm]
           | rw [show (if cc=r then 0 else 1:Nat)=1 from if_neg (fun e=>hcv e.symm)]
          split<;>split<;>omega
         ·have:=HJ.out
          have:=HLM.out
          simp only [intOf]
          omega
       ·have q1:((r:Int) == (cc:Int))=false:=by simp;omega
        have HC:=hide hc
        clear hc
        go_wp2_with fail
        go_quiet (fail)
        go_wp2_with (at_builtin;refine wpList_app _ rfl (.tmp 70) (.tmp 75) 49 rfl 3 i1 _ 1 8 Tryz.underlying49 hi1 hy0 hy1 hy2 rfl (by decide) (.slice (some ⟨g1,o1,none⟩) j cn) j _ rfl (own_touch HNX.out.own (((Touch.refl _ _).drewN _).alloc _) (fun _ _ f=>f)) (some ⟨_,0,none⟩) 1 1 [_] rfl (Reads.new _ _ [_] 1 rfl) (fun h=>by cases h) (List.all_eq_true.1 rfl) HB.out.1 HB.out.2 ?_;intro v1 w5 O5 G5 F5 _;obtain ⟨A5,c5,hv,_,_⟩:=own_len O5;subst hv;have HO5:=hide ((HNX.out.to (((Touch.refl _ _).drewN _).alloc _)).app O5 G5 F5);clear O5 G5 F5)
        all_goals
         go_roundw
         ·refine ⟨j+1,l+1,A5,c5,rfl,by simp,hide (by have:=HJ.out;omega),by have:=HLM.out;omega,hide ?_⟩
          have h:=HO5.out
          rw [takeN_snoc t j (by rw [HTL.out];have:=HJ.out;have:=HLM.out;omega),List.map_append]
          have hg:=HGT.out
          rw [← HJ.out] at hg
          have hcv:=HC.out
          have key:∀ x:Int,x=((t.getD j 0:Nat):Int)→ONx 3 1 wo w5 (.slice A5 (j+1) c5) (j+1) (List.map natF (List.take j t)++[.int .i64 x])→ONx 3 1 wo w5 (.slice A5 (j+1) c5) (j+1) (List.map natF (List.take j t)++List.map natF [t.getD j 0]):=fun x hx h=>by
           rw [hx] at h
           exact h
          refine key _ ?_ h
          rw [hg]
          first
           | rw [show (if cc=r then 0 else 1:Nat)=0 from if_pos hcv.symm]
           | rw [show (if cc=r then 0 else 1:Nat)=1 from if_neg (fun e=>hcv e.symm)]
          split<;>split<;>omega
         ·have:=HJ.out
          have:=HLM.out
          simp only [intOf]
          omega
      ·have hlm2:l=m:=by omega
       have a0:¬ (j:Int)≤(m:Int):=by have:=HJ.out;omega
       have hjm:j=m+1:=by have:=HJ.out;omega
       have htf:t.take j=t:=List.take_of_length_le (by rw [HTL.out];omega)
       have hox:=HNX.out
       rw [htf,hjm] at hox
       have HOX:=hide hox
       have HJM:=hide hjm
       clear hlm2 hjm htf hox hlm hl
       go_wp2_with fail
       go_roundw
       ·refine ⟨k+1,i+1,An,cn,by rw [HJM.out],by simp,hide (by have:=HI.out;omega),by have:=HK.out;omega,hide ?_⟩
        rw [HTK.out]
        exact HOX.out.from HR.out.touch
       ·have:=HI.out
        have:=HK.out
        simp only [intOf]
        omega
    ·have hkn2:k=n:=by omega
     have y2:¬ (i:Int)≤(n:Int):=by have:=HI.out;omega
     have hxt:X.take k=X:=List.take_of_length_le (by rw [HXL.out];omega)
     have hr2:=HR.out
     rw [hxt] at hr2
     obtain ⟨g1,o1,hA1,c1⟩:=natF_at (Reads.of_own hr2.own) (by rw [rowK_len,HYL.out]) m (by omega)
     subst hA1
     have y3:(0:Int)≤(m:Int):=by omega
     have y4:(m:Int)<(m:Int)+1:=by omega
     have HT:=hide hr2.touch
     clear hr2 hxt hkn2 hkn hk
     go_wp2_with fail
     go_ret
     exact ⟨rfl,HT.out⟩
end Go.Proofs.YthockgmbooefpaaGreatDoor
namespace Go.Proofs.YthockgmbooefpaaGreatDoor
open Go.RowKit
def distU (a b:List UInt8):Option Nat:=match runesU a,runesU b with
 | some x,some y=>if x.length≤1024∧y.length≤1024 then some ((rowK y x).getD y.length 0) else none
 | _,_=>none
def distE (o:Option Nat):Ending:=match o with
 | some d=>.returned (.tuple #[.int .i64 (d:Int),.bool true])
 | none=>.returned (.tuple #[.int .i64 0,.bool false])
theorem rdist_any (w:World) (a b:ByteArray) (ha:a.size≤1099511627776) (hb:b.size≤1099511627776) :
  Calls Tryz.prog 124 #[.string a,.string b] w fun e w'=>e=distE (distU a.toList b.toList)∧Touch (fun _=>False) w w':=by
 have HRA:=hide (fun wx=>rrunes_any wx a ha)
 have HRB:=hide (fun wx=>rrunes_any wx b hb)
 clear ha hb
 go_enter Tryz.func124,Tryz.ntmps124
 go_wp2_with fail
 refine (HRA.out w).mono ?_
 rintro e w1 ⟨A1,n1,c1,X,k1,rfl,ho1,hl1,hs1,hx1⟩
 have HO1:=hide ho1
 have HL1:=hide hl1
 have HX1:=hide hx1
 clear ho1 hl1 hs1 hx1
 go_wp2_with fail
 refine (HRB.out w1).mono ?_
 rintro e w2 ⟨A2,n2,c2,Y,k2,rfl,ho2,hl2,hs2,hx2⟩
 have HO2:=hide ho2
 have HO12:=hide (HO1.out.to ho2.touch)
 have HL2:=hide hl2
 have HX2:=hide hx2
 have HT2:=hide (HO1.out.touch.then ho2.touch)
 clear ho2 hl2 hs2 hx2
 cases k1 with
 | false =>
  have hd:distU a.toList b.toList=none:=by
   unfold distU
   rw [HX1.out]
   rfl
  have HD:=hide hd
  clear hd
  go_wp2_with fail
  go_ret2
  exact ⟨by rw [HD.out];rfl,HT2.out⟩
 | true =>
  cases k2 with
  | false =>
   have hd:distU a.toList b.toList=none:=by
    unfold distU
    rw [HX1.out,HX2.out]
    rfl
   have HD:=hide hd
   clear hd
   go_wp2_with fail
   go_ret2
   exact ⟨by rw [HD.out];rfl,HT2.out⟩
  | true =>
   by_cases h1:1024<n1
   ·have y0:(1024:Int)<(n1:Int):=by omega
    have hd:distU a.toList b.toList=none:=by
     unfold distU
     rw [HX1.out,HX2.out]
     simp only [if_true]
     rw [if_neg (by have:=HL1.out;omega)]
    have HD:=hide hd
    clear hd h1
    go_wp2_with fail
    go_ret2
    exact ⟨by rw [HD.out];rfl,HT2.out⟩
   ·have y0:¬ (1024:Int)<(n1:Int):=by omega
    by_cases h2:1024<n2
    ·have y1:(1024:Int)<(n2:Int):=by omega
     have hd:distU a.toList b.toList=none:=by
      unfold distU
      rw [HX1.out,HX2.out]
      simp only [if_true]
      rw [if_neg (by have:=HL2.out;omega)]
     have HD:=hide hd
     clear hd h1 h2
     go_wp2_with fail
     go_ret2
     exact ⟨by rw [HD.out];rfl,HT2.out⟩
    ·have y1:¬ (1024:Int)<(n2:Int):=by omega
     have hd:distU a.toList b.toList=some ((rowK Y X).getD n2 0):=by
      unfold distU
      rw [HX1.out,HX2.out]
      simp only [if_true]
      rw [if_pos (by have:=HL1.out;have:=HL2.out;omega),HL2.out]
     have hfar:=far_any w2 A1 n1 c1 X (Reads.of_own HO12.out.own) HL1.out A2 n2 c2 Y (Reads.of_own HO2.out.own) HL2.out (by omega) (by omega)
     have HD:=hide hd
     have HF:=hide hfar
     clear hd hfar h1 h2
     go_wp2_with fail
     refine HF.out.mono ?_
     rintro e w3 ⟨rfl,T3⟩
     have HT3:=hide (HT2.out.then T3)
     clear T3
     go_wp2_with fail
     go_ret2
     exact ⟨by rw [HD.out];rfl,HT3.out⟩
end Go.Proofs.YthockgmbooefpaaGreatDoor
