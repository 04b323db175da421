/- What the law rests on, part 15. No condition but those that each theorem names. -/
import Derived.Test.YthockgmbooefpaaGreatDoorL14
set_option linter.unusedSectionVars false
set_option linter.unusedSimpArgs false
set_option linter.unusedVariables false
namespace Go.Proofs.YthockgmbooefpaaGreatDoor
open Go.RowKit
def numG:Nat→Nat→List UInt8→Option (Nat × List UInt8)
 | _,_,[]=>none
 | i,acc,c :: t=>if i=9∧1<c.toNat then none else if 128≤c.toNat then numG (i+1) (acc+(c.toNat-128)*128 ^ i) t else if c.toNat=0∧0<i then none else some (acc+c.toNat*128 ^ i,t)
def numR (bs:List UInt8):Option (Nat × List UInt8):=numG 0 0 bs
theorem toNat_of {m:Nat} (h:m<256):(UInt8.ofNat m).toNat=m:=by rw [UInt8.toNat_ofNat',Nat.mod_eq_of_lt h]
theorem num_write:∀ (f i acc n:Nat) (t:List UInt8),f+i=9→n*128 ^ i<18446744073709551616→(0<i→0<n)→numG i acc (varF f n++t)=some (acc+n*128 ^ i,t)
 | 0,i,acc,n,t,hi,hn,hp=>by
  have hi':i=9:=by omega
  subst hi'
  have h1:n≤1:=by
   have e:(128:Nat) ^ 9=9223372036854775808:=by decide
   rw [e] at hn
   omega
  have h2:=hp (by omega)
  have h3:n=1:=by omega
  subst h3
  simp [varF,numG]
 | f+1,i,acc,n,t,hi,hn,hp=>by
  unfold varF
  by_cases hlt:n<128
  ·rw [if_pos hlt]
   simp only [List.cons_append,List.nil_append,numG]
   rw [toNat_of (by omega),if_neg (by omega),if_neg (by omega),if_neg (by omega)]
  ·rw [if_neg hlt]
   simp only [List.cons_append,numG]
   rw [toNat_of (by omega),if_neg (by omega),if_pos (by omega)]
   have h0:n % 128+128*(n / 128)=n:=Nat.mod_add_div n 128
   have e:n / 128*128 ^ (i+1)+n % 128*128 ^ i=n*128 ^ i:=by
    rw [Nat.pow_succ,Nat.mul_comm (128 ^ i) 128,← Nat.mul_assoc,← Nat.add_mul]
    congr 1
    omega
   rw [num_write f (i+1) _ (n / 128) t (by omega) (by omega) (by omega)]
   rw [Nat.add_sub_cancel,← e,Nat.add_comm (n / 128*128 ^ (i+1)),Nat.add_assoc]
theorem numR_write {n:Nat} (hn:n<18446744073709551616) (t:List UInt8):numR (varN n++t)=some (n,t):=by
 have h:=num_write 9 0 0 n t rfl (by omega) (by omega)
 simpa [numR,varN] using h
theorem num_read:∀ (bs:List UInt8) (i acc m:Nat) (t:List UInt8),i≤9→numG i acc bs=some (m,t)→∃ n,m=acc+n*128 ^ i∧bs=varF (9-i) n++t∧n*128 ^ i<18446744073709551616∧(0<i→0<n)
 | [],_,_,_,_,_,h=>by simp [numG] at h
 | c :: bs,i,acc,m,t,hi,h=>by
  have hc:=c.toNat_lt
  have he:c=UInt8.ofNat c.toNat:=by simp
  simp only [numG] at h
  by_cases h9:i=9∧1<c.toNat
  ·rw [if_pos h9] at h
   cases h
  ·rw [if_neg h9] at h
   by_cases hb:128≤c.toNat
   ·rw [if_pos hb] at h
    obtain ⟨n,h1,h2,h3,h4⟩:=num_read bs (i+1) _ m t (by omega) h
    have hn:=h4 (by omega)
    have e:(c.toNat-128+128*n)*128 ^ i=(c.toNat-128)*128 ^ i+n*128 ^ (i+1):=by
     rw [Nat.pow_succ,Nat.mul_comm (128 ^ i) 128,← Nat.mul_assoc,← Nat.add_mul,Nat.mul_comm 128 n]
    refine ⟨c.toNat-128+128*n,by omega,?_,?_,by omega⟩
    ·obtain ⟨f,hf⟩:∃ f,9-i=f+1:=⟨8-i,by omega⟩
     rw [hf,h2,show 9-(i+1)=f by omega]
     conv=>rhs;unfold varF
     rw [if_neg (by omega),show (c.toNat-128+128*n) % 128+128=c.toNat by omega,show (c.toNat-128+128*n) / 128=n by omega,← he]
     rfl
    ·have hp:128 ^ (i+1)≤n*128 ^ (i+1):=Nat.le_mul_of_pos_left _ hn
     have h5:(c.toNat-128)*128 ^ i<128*128 ^ i:=Nat.mul_lt_mul_of_pos_right (by omega) (Nat.pow_pos (by decide))
     have hi8:i≤8:=by omega
     have e2:128*128 ^ i=128 ^ (i+1):=by rw [Nat.pow_succ,Nat.mul_comm]
     obtain ⟨k,hk⟩:∃ k,18446744073709551616=k*128 ^ (i+1):=by
      refine ⟨2*128 ^ (8-i),?_⟩
      rw [Nat.mul_assoc,← Nat.pow_add,show 8-i+(i+1)=9 by omega]
     rw [hk] at h3 ⊢
     have h6:n<k:=Nat.lt_of_mul_lt_mul_right h3
     have h7:(n+1)*128 ^ (i+1)≤k*128 ^ (i+1):=Nat.mul_le_mul_right _ h6
     rw [Nat.add_mul] at h7
     omega
   ·rw [if_neg hb] at h
    by_cases hz:c.toNat=0∧0<i
    ·rw [if_pos hz] at h
     cases h
    ·rw [if_neg hz] at h
     simp only [Option.some.injEq,Prod.mk.injEq] at h
     obtain ⟨h1,rfl⟩:=h
     refine ⟨c.toNat,h1.symm,?_,?_,by omega⟩
     ·by_cases h9':i=9
      ·subst h9'
       simp [varF]
      ·obtain ⟨f,hf⟩:∃ f,9-i=f+1:=⟨8-i,by omega⟩
       rw [hf]
       unfold varF
       rw [if_pos (by omega),← he]
       rfl
     ·by_cases h9':i=9
      ·subst h9'
       have h1:c.toNat≤1:=by omega
       have e:(128:Nat) ^ 9=9223372036854775808:=by decide
       rw [e]
       omega
      ·have h1:c.toNat*128 ^ i<128*128 ^ i:=Nat.mul_lt_mul_of_pos_right (by omega) (Nat.pow_pos (by decide))
       have h2:128*128 ^ i=128 ^ (i+1):=by rw [Nat.pow_succ,Nat.mul_comm]
       have h3:128 ^ (i+1)≤128 ^ 9:=Nat.pow_le_pow_right (by decide) (by omega)
       have e:(128:Nat) ^ 9=9223372036854775808:=by decide
       omega
theorem numR_read {bs:List UInt8} {n:Nat} {t:List UInt8} (h:numR bs=some (n,t)):bs=varN n++t∧n<18446744073709551616:=by
 obtain ⟨m,h1,h2,h3,_⟩:=num_read bs 0 0 n t (by omega) h
 have e:m=n:=by omega
 subst e
 exact ⟨h2,by omega⟩
theorem varN_pos (n:Nat):0<(varN n).length:=by
 unfold varN varF
 split<;>simp
def uintR (most:Nat) (bs:List UInt8):Option (Nat × List UInt8):=match numR bs with
 | none=>none
 | some (n,t)=>if n≤most then some (n,t) else none
theorem uintR_write {most n:Nat} (h:n≤most) (hm:n<18446744073709551616) (t:List UInt8):uintR most (varN n++t)=some (n,t):=by
 unfold uintR
 rw [numR_write hm]
 simp only
 rw [if_pos h]
theorem uintR_read {most n:Nat} {bs t:List UInt8} (h:uintR most bs=some (n,t)):bs=varN n++t∧n≤most:=by
 unfold uintR at h
 split at h
 ·cases h
 ·rename_i m u hm
  split at h
  ·simp only [Option.some.injEq,Prod.mk.injEq] at h
   obtain ⟨rfl,rfl⟩:=h
   exact ⟨(numR_read hm).1,by assumption⟩
  ·cases h
structure StZ where
 fin:Bool
 out:Int
 arcs:List (Int × Int × Int)
def arcZ (a:Nat × Int × Nat):Int × Int × Int:=((a.1:Int),a.2.1,(a.2.2:Int))
def StP.z (s:StP):StZ:=⟨s.fin,s.out,s.arcs.map arcZ⟩
theorem arcZ_inj {a b:Nat × Int × Nat} (h:arcZ a=arcZ b):a=b:=by
 obtain ⟨a1,a2,a3⟩:=a
 obtain ⟨b1,b2,b3⟩:=b
 simp only [arcZ,Prod.mk.injEq] at h ⊢
 omega
theorem map_inj {α β:Type} {f:α→β} (hf:∀ a b,f a=f b→a=b):∀ {l m:List α},l.map f=m.map f→l=m
 | [],[],_=>rfl
 | [],_ :: _,h=>by simp at h
 | _ :: _,[],h=>by simp at h
 | a :: l,b :: m,h=>by
  simp only [List.map_cons,List.cons.injEq] at h
  rw [hf _ _ h.1,map_inj hf h.2]
theorem StP.z_inj {s t:StP} (h:s.z=t.z):s=t:=by
 obtain ⟨a,b,c⟩:=s
 obtain ⟨a',b',c'⟩:=t
 simp only [StP.z,StZ.mk.injEq] at h
 obtain ⟨rfl,rfl,h⟩:=h
 rw [map_inj (fun _ _=>arcZ_inj) h]
def arcsR (i:Nat):Nat→Int→List UInt8→Option (List (Int × Int × Int) × List UInt8)
 | 0,_,bs=>some ([],bs)
 | k+1,l,bs=>match uintR 1114111 bs with
  | none=>none
  | some (d,t1)=>match uintR 1048576 t1 with
   | none=>none
   | some (o,t2)=>match uintR 98305 t2 with
    | none=>none
    | some (b,t3)=>match arcsR i k (IntKind.i32.wrap (l+d)) t3 with
     | none=>none
     | some (ars,t4)=>some ((IntKind.i32.wrap (l+d),(o:Int),(i:Int)-(b:Int)) :: ars,t4)
def outR8 (fin:Bool) (bs:List UInt8):Option (Nat × List UInt8):=if fin=true then uintR 1048576 bs else some (0,bs)
def stR (i:Nat) (bs:List UInt8):Option (StZ × List UInt8):=match uintR (2*bs.length+1) bs with
 | none=>none
 | some (n,t1)=>match outR8 (decide (n % 2=1)) t1 with
  | none=>none
  | some (o,t2)=>match arcsR i (n / 2) 0 t2 with
   | none=>none
   | some (ars,t3)=>some (⟨decide (n % 2=1),(o:Int),ars⟩,t3)
def stsR:Nat→Nat→List UInt8→Option (List StZ × List UInt8)
 | 0,_,bs=>some ([],bs)
 | k+1,i,bs=>match stR i bs with
  | none=>none
  | some (s,t1)=>match stsR k (i+1) t1 with
   | none=>none
   | some (l,t2)=>some (s :: l,t2)
def machR (bs:List UInt8):Option ((Nat × List StZ) × List UInt8):=match uintR 1048576 bs with
 | none=>none
 | some (base,t1)=>match uintR 98305 t1 with
  | none=>none
  | some (n,t2)=>match stsR n 0 t2 with
   | none=>none
   | some (l,t3)=>some ((base,l),t3)
theorem wrap32_in {x:Int} (h0:0≤x) (h1:x<2147483648):IntKind.i32.wrap x=x:=IntWalk.i32_in _ (by omega)
theorem arcs_write (i:Nat) (hi:i≤98305):∀ (l:List (Nat × Int × Nat)) (p:Nat) (t:List UInt8),(∀ a∈l,p≤a.1)→(l.map (·.1)).Pairwise (·<·)→(∀ a∈l,a.1<1114112∧0≤a.2.1∧a.2.1≤1048576∧a.2.2<i) →
  arcsR i l.length p (arcsB i p l++t)=some (l.map arcZ,t)
 | [],p,t,_,_,_=>rfl
 | a :: l,p,t,hp,hs,hb=>by
  obtain ⟨h1,h2,h3,h4⟩:=hb a List.mem_cons_self
  have h5:=hp a List.mem_cons_self
  rw [List.map_cons,List.pairwise_cons] at hs
  have ih:=arcs_write i hi l a.1 t (fun b hb'=>Nat.le_of_lt (hs.1 _ (List.mem_map_of_mem hb'))) hs.2 (fun b hb'=>hb b (List.mem_cons_of_mem _ hb'))
  simp only [arcsB,arcB,List.length_cons,arcsR,List.append_assoc]
  rw [uintR_write (by omega) (by omega)]
  simp only
  rw [uintR_write (by omega) (by omega)]
  simp only
  rw [uintR_write (by omega) (by omega)]
  simp only
  have e:IntKind.i32.wrap ((p:Int)+((a.1-p:Nat):Int))=(a.1:Int):=by rw [wrap32_in (by omega) (by omega)];omega
  rw [e,ih]
  simp only [List.map_cons,arcZ]
  rw [show ((a.2.1.toNat:Nat):Int)=a.2.1 by omega,show (i:Int)-((i-a.2.2:Nat):Int)=(a.2.2:Int) by omega]
theorem arcsB_len (i:Nat):∀ (l:List (Nat × Int × Nat)) (p:Nat),l.length≤(arcsB i p l).length
 | [],_=>Nat.zero_le _
 | a :: l,p=>by
  have h1:=arcsB_len i l a.1
  have h2:=varN_pos (a.1-p)
  simp only [arcsB,arcB,List.length_append,List.length_cons]
  omega
theorem st_write (i:Nat) (hi:i≤98305) {s:StP} (hf:FormP i s) (hlen:s.arcs.length≤2097152) (t:List UInt8):stR i (stB i s++t)=some (s.z,t):=by
 have ha:=arcs_write i hi s.arcs 0 t (fun _ _=>Nat.zero_le _) hf.lab (fun a h=>by
  have h1:=(hf.run a h).1
  have h2:=hf.arc a h
  refine ⟨?_,h2⟩
  unfold scal at h1
  simp at h1
  omega)
 have hl:=arcsB_len i s.arcs 0
 have ho0:=hf.out0
 have ho1:=hf.out1
 unfold stR stB headB
 by_cases hfin:s.fin=true
 ·rw [if_pos hfin]
  simp only [List.append_assoc]
  rw [uintR_write (by simp only [List.length_append];omega) (by omega)]
  simp only [outR8]
  rw [if_pos (by simp),uintR_write (by omega) (by omega)]
  simp only
  rw [show (2*s.arcs.length+1) / 2=s.arcs.length by omega]
  have ha':arcsR i s.arcs.length 0 (arcsB i 0 s.arcs++t)=some (s.arcs.map arcZ,t):=ha
  rw [ha']
  simp only [StP.z,hfin]
  rw [show decide ((2*s.arcs.length+1) % 2=1)=true by simp,show ((s.out.toNat:Nat):Int)=s.out by omega]
 ·have hff:s.fin=false:=by simpa using hfin
  rw [if_neg hfin]
  simp only [List.append_assoc]
  rw [uintR_write (by simp only [List.length_append];omega) (by omega)]
  simp only [outR8]
  rw [if_neg (by simp)]
  simp only
  rw [show (2*s.arcs.length) / 2=s.arcs.length by omega]
  have ha':arcsR i s.arcs.length 0 (arcsB i 0 s.arcs++t)=some (s.arcs.map arcZ,t):=ha
  rw [ha']
  simp only [StP.z,hff]
  rw [show decide ((2*s.arcs.length) % 2=1)=false by simp,hf.fin0 hff]
  rfl
theorem sts_write:∀ (l:List StP) (i:Nat) (t:List UInt8),i+l.length≤98305→(∀ j,j<l.length→FormP (i+j) (l.getD j noSt))→stsR l.length i (stsB i l++t)=some (l.map StP.z,t)
 | [],_,_,_,_=>rfl
 | s :: l,i,t,hi,hf=>by
  have h0:=hf 0 (by simp)
  simp only [Nat.add_zero,List.getD_cons_zero] at h0
  have hl:(s :: l).length=l.length+1:=rfl
  rw [hl] at hi
  have ih:=sts_write l (i+1) t (by omega) (fun j hj=>by
   have h:=hf (j+1) (by rw [hl];omega)
   rw [List.getD_cons_succ,show i+(j+1)=i+1+j by omega] at h
   exact h)
  simp only [stsB,List.length_cons,stsR,List.append_assoc]
  rw [st_write i (by omega) h0 (form_few h0)]
  simp only
  rw [ih]
  rfl
theorem mach_write {sts:List StP} {base:Nat} (hb:base≤1048576) (hn:sts.length≤98305) (hf:∀ i,i<sts.length→FormP i (sts.getD i noSt)) (t:List UInt8):machR (packB base sts++t)=some ((base,sts.map StP.z),t):=by
 unfold machR packB topB
 simp only [List.append_assoc,Int.toNat_natCast]
 rw [uintR_write hb (by omega)]
 simp only
 rw [uintR_write hn (by omega)]
 simp only
 rw [sts_write sts 0 t (by omega) (fun j hj=>by rw [Nat.zero_add];exact hf j hj)]
theorem arcs_read (i:Nat):∀ (l:List (Nat × Int × Nat)) (p:Nat) (bs t:List UInt8),arcsR i l.length p bs=some (l.map arcZ,t)→(∀ a∈l,a.1<1114112∧a.2.2<i)→p<1114112→bs=arcsB i p l++t
 | [],p,bs,t,h,_,_=>by
  simp only [List.length_nil,arcsR,Option.some.injEq,Prod.mk.injEq] at h
  exact h.2
 | a :: l,p,bs,t,h,hb,hp=>by
  obtain ⟨ha1,ha2⟩:=hb a List.mem_cons_self
  simp only [List.length_cons,arcsR] at h
  split at h
  ·cases h
  ·rename_i d t1 e1
   split at h
   ·cases h
   ·rename_i o t2 e2
    split at h
    ·cases h
    ·rename_i b t3 e3
     split at h
     ·cases h
     ·rename_i ars t4 e4
      simp only [Option.some.injEq,Prod.mk.injEq,List.map_cons,List.cons.injEq,arcZ] at h
      obtain ⟨⟨⟨h1,h2,h3⟩,h4⟩,h5⟩:=h
      subst h5
      obtain ⟨r1,b1⟩:=uintR_read e1
      obtain ⟨r2,b2⟩:=uintR_read e2
      obtain ⟨r3,b3⟩:=uintR_read e3
      have hw:IntKind.i32.wrap ((p:Int)+(d:Int))=(p:Int)+(d:Int):=wrap32_in (by omega) (by omega)
      rw [hw] at h1 e4
      rw [h4,h1] at e4
      have ih:=arcs_read i l a.1 t3 t4 e4 (fun c hc=>hb c (List.mem_cons_of_mem _ hc)) ha1
      rw [r1,r2,r3,ih]
      simp only [arcsB,arcB,List.append_assoc]
      rw [show a.1-p=d by omega,show a.2.1.toNat=o by omega,show i-a.2.2=b by omega]
theorem arcsR_len (i:Nat):∀ (k:Nat) (l:Int) (bs:List UInt8) (ars:List (Int × Int × Int)) (t:List UInt8),arcsR i k l bs=some (ars,t)→ars.length=k
 | 0,_,_,ars,_,h=>by
  simp only [arcsR,Option.some.injEq,Prod.mk.injEq] at h
  rw [← h.1]
  rfl
 | k+1,l,bs,ars,t,h=>by
  simp only [arcsR] at h
  split at h
  ·cases h
  ·split at h
   ·cases h
   ·split at h
    ·cases h
    ·split at h
     ·cases h
     ·rename_i ars' t4 e4
      simp only [Option.some.injEq,Prod.mk.injEq] at h
      rw [← h.1,List.length_cons,arcsR_len i k _ _ _ _ e4]
theorem st_read (i:Nat) {s:StP} (hf:FormP i s) {bs t:List UInt8} (h:stR i bs=some (s.z,t)):bs=stB i s++t:=by
 unfold stR at h
 split at h
 ·cases h
 ·rename_i n t1 e1
  split at h
  ·cases h
  ·rename_i o t2 e2
   split at h
   ·cases h
   ·rename_i ars t3 e3
    simp only [Option.some.injEq,Prod.mk.injEq,StP.z,StZ.mk.injEq] at h
    obtain ⟨⟨h1,h2,h3⟩,rfl⟩:=h
    subst h3
    have hl:=arcsR_len _ _ _ _ _ _ e3
    rw [List.length_map] at hl
    rw [← hl] at e3
    have r3:=arcs_read i s.arcs 0 t2 t3 e3 (fun a ha=>by
     have h1:=(hf.run a ha).1
     have h2:=hf.arc a ha
     unfold scal at h1
     simp at h1
     omega) (by omega)
    obtain ⟨r1,_⟩:=uintR_read e1
    unfold stB headB
    by_cases hn:n % 2=1
    ·have hd:decide (n % 2=1)=true:=by simp [hn]
     rw [hd] at h1 e2
     simp only [outR8,if_pos] at e2
     obtain ⟨r2,_⟩:=uintR_read e2
     rw [if_pos h1.symm,r1,r2,r3,show 2*s.arcs.length+1=n by omega,show s.out.toNat=o by omega]
     simp only [List.append_assoc]
    ·have hd:decide (n % 2=1)=false:=by simp;omega
     rw [hd] at h1 e2
     simp only [outR8,Bool.false_eq_true,if_false,Option.some.injEq,Prod.mk.injEq] at e2
     rw [if_neg (by rw [← h1];simp),r1,e2.2,r3,show 2*s.arcs.length=n by omega]
     simp only [List.append_assoc]
theorem sts_read:∀ (l:List StP) (i:Nat) (bs t:List UInt8),(∀ j,j<l.length→FormP (i+j) (l.getD j noSt))→stsR l.length i bs=some (l.map StP.z,t)→bs=stsB i l++t
 | [],_,_,_,_,h=>by
  simp only [List.length_nil,stsR,Option.some.injEq,Prod.mk.injEq] at h
  exact h.2
 | s :: l,i,bs,t,hf,h=>by
  have h0:=hf 0 (by simp)
  simp only [Nat.add_zero,List.getD_cons_zero] at h0
  simp only [List.length_cons,stsR] at h
  split at h
  ·cases h
  ·rename_i z t1 e1
   split at h
   ·cases h
   ·rename_i zs t2 e2
    simp only [Option.some.injEq,Prod.mk.injEq,List.map_cons,List.cons.injEq] at h
    obtain ⟨⟨h1,h2⟩,rfl⟩:=h
    rw [h1] at e1
    rw [h2] at e2
    rw [st_read i h0 e1,sts_read l (i+1) t1 t2 (fun j hj=>by
     have h:=hf (j+1) (by simp only [List.length_cons];omega)
     rw [List.getD_cons_succ,show i+(j+1)=i+1+j by omega] at h
     exact h) e2]
    simp only [stsB,List.append_assoc]
theorem stsR_len:∀ (k i:Nat) (bs:List UInt8) (l:List StZ) (t:List UInt8),stsR k i bs=some (l,t)→l.length=k
 | 0,_,_,l,_,h=>by
  simp only [stsR,Option.some.injEq,Prod.mk.injEq] at h
  rw [← h.1]
  rfl
 | k+1,i,bs,l,t,h=>by
  simp only [stsR] at h
  split at h
  ·cases h
  ·split at h
   ·cases h
   ·rename_i zs t2 e2
    simp only [Option.some.injEq,Prod.mk.injEq] at h
    rw [← h.1,List.length_cons,stsR_len k _ _ _ _ e2]
theorem mach_read {sts:List StP} {base:Nat} (hf:∀ i,i<sts.length→FormP i (sts.getD i noSt)) {bs t:List UInt8} (h:machR bs=some ((base,sts.map StP.z),t)):bs=packB base sts++t:=by
 unfold machR at h
 split at h
 ·cases h
 ·rename_i b t1 e1
  split at h
  ·cases h
  ·rename_i n t2 e2
   split at h
   ·cases h
   ·rename_i l t3 e3
    simp only [Option.some.injEq,Prod.mk.injEq] at h
    obtain ⟨⟨rfl,rfl⟩,rfl⟩:=h
    have hl:=stsR_len _ _ _ _ _ e3
    rw [List.length_map] at hl
    obtain ⟨r1,_⟩:=uintR_read e1
    obtain ⟨r2,_⟩:=uintR_read e2
    rw [← hl] at e3 r2
    rw [r1,r2,sts_read sts 0 t2 t3 (fun j hj=>by rw [Nat.zero_add];exact hf j hj) e3]
    unfold packB topB
    simp only [List.append_assoc,Int.toNat_natCast]
end Go.Proofs.YthockgmbooefpaaGreatDoor
