/- What the law rests on, part 11. No condition but those that each theorem names. -/
import Derived.Test.YthockgmbooefpaaGreatDoorV10
import Derived.OwnWalk
import Derived.BigQuiet
import Derived.Test.YthockgmbooefpaaGreatDoorV07
import Derived.Laws.Bits64b
import Derived.Laws.Cover3
set_option linter.unusedSectionVars false
set_option linter.unusedSimpArgs false
set_option linter.unusedVariables false
set_option maxRecDepth 100000
set_option maxHeartbeats 4000000
namespace Go.Proofs.YthockgmbooefpaaGreatDoor
open List renaming getD → qQa, length_take → qXa, take_of_length_le → qJa, take_succ_eq_append_getElem → qXb, perm_append_comm → qJb, replicate → qQc, drop_eq_getElem_cons → qXc, drop_of_length_le → qJc, length_replicate → qJd, take_append_of_le_length → qZe
open Nat renaming zero_le → qZa, le_refl → qQb, le_trans → qZb
variable{e:Int}{bs:List UInt8}{H S:List aE}{c n p:Nat}{A:Option Addr}{v:Value}{w w':World}
open Go.RowKit
theorem Yf{v1:Value}(hf:cK w v v1):∀ i,i<w.heap.size->Cx p v1 i->Cx p v i:=by
 rintro i hi (rfl | h)
 ·exact .inl rfl
 ·rcases hf with e | ⟨g,e,hg⟩
  ·exact .inr (by rw[<-e];exact h)
  ·rw[e] at h
   injection h with h
   omega
def pV(X:List aE)(m:aE):List aE:=Th (X++[m]).length (X++[m]) X.length
def oL(X:List aE)(n:Nat):List aE:=(fE X.length (pL X 0 n) 0 n).take n
theorem Sd(X:List aE)(m:aE)(h:rU X X.length):(pV X m).Perm (X++[m])/\rU (pV X m) (pV X m).length/\(pV X m).length=X.length+1:=by
 unfold pV
 have hl:(X++[m]).length=X.length+1:=by simp
 have key:=aEt (X++[m]).length (X++[m]) X.length (by omega) (by omega) ?_ ?_
 ·refine⟨key.1,?_,?_⟩
  ·rw[key.2.2];exact key.2.1
  ·rw[key.2.2];exact hl
 ·intro c h0 hc hne
  have hc':c<X.length:=by omega
  have e:∀ i,i<X.length->(X++[m]).getD i aE.zero=X.getD i aE.zero:=λi hi=>by
   simp[qQa,List.getElem?_append_left hi]
  rw[e _ (by omega),e _ hc']
  exact h c h0 hc'
 ·intro h0 c hc0 hc hp
  omega
theorem Gf(f:Nat)(X:List aE)(n:Nat)(hn:n<X.length):(fE f X 0 n).getD n aE.zero=X.getD n aE.zero:=by
 have:∀ (f:Nat) (X:List aE) (i:Nat),n<X.length->i<=n->(fE f X i n).getD n aE.zero=X.getD n aE.zero:=by
  intro f
  induction f with
  | zero=>intro X i _ _;rfl
  | succ f ih =>
   intro X i hX hi
   rw[fN]
   split
   ·rfl
   ·rename_i h1
    have hk:Ci X i n<n:=by
     unfold Ci;split
     ·rename_i h;exact h.1
     ·omega
    split
    ·rw[ih _ _ (by rw[dC];exact hX) (by omega),gX X i _ n (by omega) (by omega),if_neg (by omega),if_neg (by omega)]
    ·rfl
 exact this f X 0 hn (by omega)
theorem wJ(f:Nat):∀ (X:List aE) (i n:Nat),(fE f X i n).length=X.length:=by
 induction f with
 | zero=>intro X i n;rfl
 | succ f ih =>
  intro X i n
  rw[fN]
  split
  ·rfl
  ·split
   ·rw[ih,dC]
   ·rfl
theorem Yg(X:List aE)(n:Nat)(hX:X.length=n+1)(h:rU X X.length):(oL X n).length=n/\rU (oL X n) (oL X n).length/\(X.getD 0 aE.zero :: oL X n).Perm X:=by
 have hl:(oL X n).length=n:=by unfold oL;rw[qXa,wJ,dC];omega
 have hlast:(fE X.length (pL X 0 n) 0 n).getD n aE.zero=X.getD 0 aE.zero:=by
  rw[Gf _ _ _ (by rw[dC];omega),gX X 0 n n (by omega) (by omega)]
  split
  ·rename_i e;rw[e]
  ·simp
 have hD:(fE X.length (pL X 0 n) 0 n).Perm X/\(0<n->rU (fE X.length (pL X 0 n) 0 n) n):=by
  by_cases h0:0<n
  ·have key:=Qk X.length (pL X 0 n) 0 n h0 (by rw[dC];omega) (by omega) ?_ ?_
   ·exact⟨key.1.trans (vQ X 0 n (by omega) (by omega)),λ_=>key.2.1⟩
   ·intro c hc0 hc hp
    rw[gX X 0 n _ (by omega) (by omega),gX X 0 n _ (by omega) (by omega),if_neg hp,if_neg (by omega),if_neg (by omega),if_neg (by omega)]
    exact h c hc0 (by omega)
   ·intro h;omega
  ·have:n=0:=by omega
   subst this
   have e:fE X.length (pL X 0 0) 0 0=pL X 0 0:=by
    cases X.length with
    | zero=>rfl
    | succ f=>rw[fN,if_pos (by omega)]
   rw[e]
   exact⟨vQ X 0 0 (by omega) (by omega),λh=>absurd h (by omega)⟩
 refine⟨hl,?_,?_⟩
 ·rw[hl]
  intro c hc0 hc
  have:=hD.2 (by omega) c hc0 hc
  unfold oL
  have e:∀ i,i<n->((fE X.length (pL X 0 n) 0 n).take n).getD i aE.zero=(fE X.length (pL X 0 n) 0 n).getD i aE.zero:=λi hi=>by
   simp[hi]
  rw[e _ (by omega),e _ hc]
  exact this
 ·have hlen:(fE X.length (pL X 0 n) 0 n).length=n+1:=by rw[wJ,dC,hX]
  have hsplit:fE X.length (pL X 0 n) 0 n=oL X n++[X.getD 0 aE.zero]:=by
   unfold oL
   have hn:n<(fE X.length (pL X 0 n) 0 n).length:=by omega
   have e:=qXb hn
   rw[qJa (by omega)] at e
   have e2:(fE X.length (pL X 0 n) 0 n)[n]=X.getD 0 aE.zero:=by
    rw[<-hlast];simp[qQa,hn]
   rw[e2] at e
   exact e
  have hp:=hD.1
  rw[hsplit] at hp
  exact (qJb (l₁:=[X.getD 0 aE.zero])).trans hp
theorem Gr(w:World)(p:Nat)(most:Int)(v:Value)(X:List aE)(h:Ep w p most v X)(hX:X.length<=64)(m:aE) :
  Calls Tryz.prog 156 #[pth p,.iface 43 m.val] w λe w' =>
   e=.returned (.tuple #[])/\∃ v',Ep w' p most v' (pV X m)/\aC (Cx p v) w w'/\cK w v v':=by
 have HP:=aB h
 obtain⟨x,hx⟩:=eX m.val
 rw[<-hx]
 have HX:=aB hx
 clear hx h
 unfold pth
 have ml:(method 422 266 (.pointer (some ⟨p,1,none⟩)) "Push").run Tryz.prog w=.ok (222,.pointer (some ⟨p,1,none⟩)) w:=Xq 421 _ w
 go_in
 go_wp2_with fail
 rw[HX.out]
 refine (Yi w p most v X HP hX m).mono ?_
 rintro e w1 ⟨rfl,v1,P1,T1,F1⟩
 have HP1:=aB P1
 have HT1:=aB T1
 have HF1:=aB F1
 have c1:=P1.blk.cell 1
 simp at c1
 obtain⟨A,c,hv,_,_⟩:=aS P1.own
 have hlm:=dR P1.own
 rw[hv] at c1
 have hl:(X++[m]).length=X.length+1:=by simp
 rw[hl] at c1 hlm
 have HV:=aB hv
 have HL:=aB hlm
 have ml:(method 422 266 (.pointer (some ⟨p,1,none⟩)) "Len").run Tryz.prog w1=.ok (218,.slice A (X.length+1) c) w1:=Mx 421 _ w1 _ c1
 rw[<-HX.out]
 clear P1 T1 F1 c1 hv hlm hl
 have q0:((X.length+1:Nat):Int)-1=(X.length:Int):=by omega
 have q1:((X.length:Int)+1)-1=(X.length:Int):=by omega
 have hX2:=aB hX
 clear hX
 have q2:(X.length:Int)<=64:=by have:=hX2.out;omega
 go_wp2_with (first
  | (go_at_call 218;refine (Ni w1 A (X.length+1) c HL).mono ?_;rintro e w2 ⟨rfl,rfl⟩)
  | (go_at_call 182;refine (aJu w1 p most v1 (X++[m]) HP1 (by have:=hX2.out;simp;omega) X.length (by simp)).mono ?_;rintro e w2 ⟨rfl,P2,T2⟩;have HP2:=aB P2;have HT2:=aB T2;clear P2 T2))
 go_end0
 exact⟨rfl,v1,HP2,HT1.trans HT2 (Yf HF1),HF1⟩
theorem Mb(w:World)(p:Nat)(most:Int)(v:Value)(X:List aE)(n:Nat)(hX:X.length=n+1)(hn:n<=64)(h:Ep w p most v X) :
  Calls Tryz.prog 155 #[pth p] w λe w' =>
   e=.returned (.iface 43 (X.getD 0 aE.zero).val)/\∃ v',Ep w' p most v' (oL X n)/\aC (Cx p v) w w'/\v'.ownBlock=v.ownBlock:=by
 have HP:=aB h
 have HX:=aB hX
 have HN:=aB hn
 have c1:=h.blk.cell 1
 simp at c1
 have ho:=h.own
 rw[hX] at ho
 obtain⟨A,c,rfl,_,_⟩:=aS ho
 have HO:=aB ho
 have HL:=aB (dR ho)
 have q0:((n+1:Nat):Int)-1=(n:Int):=by omega
 have q1:((n:Int)+1)-1=(n:Int):=by omega
 have q2:(n:Int)<=64:=by omega
 clear h hX hn ho
 unfold pth
 have ml:(method 422 266 (.pointer (some ⟨p,1,none⟩)) "Len").run Tryz.prog w=.ok (218,.slice A (n+1) c) w:=Mx 421 _ w _ c1
 have ms:(method 422 266 (.pointer (some ⟨p,1,none⟩)) "Swap").run Tryz.prog w=.ok (220,.slice A (n+1) c) w:=gP 421 _ w _ c1
 go_in
 go_wp2_with (first
  | (go_at_call 218;refine (Ni w A (n+1) c HL).mono ?_;rintro e w2 ⟨rfl,rfl⟩)
  | (go_at_call 220;refine (oN w A (n+1) c X HX.symm HO 0 n (Nat.succ_pos _) (Nat.lt_succ_self _)).mono ?_;rintro e w1 ⟨rfl,O1,T1⟩;have HO1:=aB O1;have HT1:=aB T1;clear O1 T1)
  | (go_at_call 181;refine (aBb w1 p most (.slice A (n+1) c) (pL X 0 n) ⟨HP.blk.touch HT1 (λe=>bY HO HP.blk (by decide) (nM.1 e)),by rw[dC,HX.out];exact HO1⟩ (by rw[dC,HX.out];have:=HN.out;omega) n (by rw[dC,HX.out];omega)).mono ?_;rintro e w2 ⟨⟨bb,rfl⟩,P2,T2⟩;have HP2:=aB P2;have HT2:=aB T2;have mp:(method 422 266 (.pointer (some ⟨p,1,none⟩)) "Pop").run Tryz.prog w2=.ok (221,.pointer (some ⟨p,1,none⟩)) w2:=aCr 421 _ w2;clear P2 T2)
  | (go_at_call 221;refine (aDe w2 p most (.slice A (n+1) c) _ n (by rw[wJ,dC,HX.out]) HP2).mono ?_;rintro e w3 ⟨rfl,v3,P3,T3,F3⟩;have HP3:=aB P3;have HT3:=aB T3;have HF3:=aB F3;clear P3 T3 F3))
 go_ret
 have e1:(fE (pL X 0 n).length (pL X 0 n) 0 n).getD n aE.zero=X.getD 0 aE.zero:=by
  rw[Gf _ _ _ (by rw[dC,HX.out];omega),gX X 0 n n (by rw[HX.out];omega) (by rw[HX.out];omega)]
  split
  ·rename_i e;rw[e]
  ·simp
 have e2:oL X n=(fE (pL X 0 n).length (pL X 0 n) 0 n).take n:=by rw[dC];rfl
 have e3:((fE (pL X 0 n).length (pL X 0 n) 0 n)[n]?.getD aE.zero)=X.getD 0 aE.zero:=by rw[<-e1];simp[qQa]
 have T13:aC (Cx p (.slice A (n+1) c)) w w1:=HT1.mono (λg _ hg=>.inr (nM.1 hg))
 refine⟨?_,v3,by rw[e2];exact HP3,(T13.then HT2).then HT3,HF3⟩
 rw[<-e3]
 rfl
theorem Ob(S:List aE)(hs:Vm S)(n:Nat)(hn:S.length=n+1):∀ x∈S,Ak (S.getD n aE.zero) x:=by
 intro x hx
 obtain⟨i,hi,rfl⟩:=List.getElem_of_mem hx
 have e:S.getD n aE.zero=S[n]:=by simp[qQa,hn]
 rw[e]
 by_cases h:i=n
 ·subst h;exact vS _
 ·exact (List.pairwise_iff_getElem.1 hs) i n hi (by omega) (by omega)
theorem sX(m:aE)(S:List aE)(h:∀ x∈S,cD m x=false):nW m S=S++[m]:=by
 induction S with
 | nil=>rfl
 | cons x S ih =>
  unfold nW
  rw[if_neg (by rw[h x (by simp)];simp),ih (λy hy=>h y (by simp[hy]))]
  rfl
theorem Gu(m z:aE)(S:List aE)(h:cD m z=true):nW m (S++[z])=nW m S++[z]:=by
 induction S with
 | nil=>simp[nW,h]
 | cons x S ih =>
  simp only[List.cons_append,nW]
  split
  ·rfl
  ·rw[ih];rfl
structure Ko(w:World)(p:Nat)(most:Nat)(v:Value)(S:List aE):Prop where
 ex:∃ H,Ep w p (most:Int) v H/\H.Perm S/\rU H H.length
 srt:Vm S
 len:S.length<=most
 m64:most<=64
theorem Ko.touch{most:Nat}{T:Nat->Prop}(h:Ko w p most v S)(ht:aC T w w')(hs:∀ g,g<w.heap.size->Cx p v g->¬ T g):Ko w' p most v S:=by
 obtain⟨H,hp,h1,h2⟩:=h.ex
 exact⟨⟨H,hp.touch ht hs,h1,h2⟩,h.srt,h.len,h.m64⟩
def aFc(m:aE)(S:List aE)(most:Nat):Bool:=decide (S.length<most) || (decide (0<most) && cD m (S.getD (most-1) aE.zero))
theorem Dy(hp:H.Perm S)(hh:rU H H.length)(hs:Vm S)(n:Nat)(hn:S.length=n+1):H.getD 0 aE.zero=S.getD n aE.zero:=by
 have hl:=hp.length_eq
 have m1:H.getD 0 aE.zero∈S:=hp.mem_iff.1 (by
  have e:H.getD 0 aE.zero=H[0]'(by omega):=by simp[qQa,show 0<H.length by omega]
  rw[e];exact List.getElem_mem _)
 have m2:S.getD n aE.zero∈H:=hp.mem_iff.2 (by
  have e:S.getD n aE.zero=S[n]'(by omega):=by simp[qQa,hn]
  rw[e];exact List.getElem_mem _)
 refine Kl ?_ (Ob S hs n hn _ m1)
 obtain⟨i,hi,he⟩:=List.getElem_of_mem m2
 rw[<-he]
 have:=aBu hh i hi
 have e:H.getD i aE.zero=H[i]:=by simp[qQa,hi]
 rwa [e] at this
theorem Ks(hp:H.Perm S)(hh:rU H H.length)(m:aE)(most:Nat)(hl:S.length<most):(pV H m).Perm ((nW m S).take most)/\rU (pV H m) (pV H m).length:=by
 obtain⟨h1,h2,h3⟩:=Sd H m hh
 refine⟨?_,h2⟩
 rw[qJa (by rw[Ui];omega)]
 exact h1.trans (((qJb (l₁:=H) (l₂:=[m])).trans (List.Perm.cons m hp)).trans (uO m S).symm)
theorem Gg(S:List aE)(n:Nat)(hn:S.length=n+1):S=S.take n++[S.getD n aE.zero]:=by
 have e:=qXb (show n<S.length by omega)
 rw[qJa (by omega)] at e
 have e2:S.getD n aE.zero=S[n]:=by simp[qQa,hn]
 rw[e2]
 exact e
theorem Cz(hp:H.Perm S)(hh:rU H H.length)(hs:Vm S)(n:Nat)(hn:S.length=n+1):(oL H n).Perm (S.take n)/\rU (oL H n) (oL H n).length/\(oL H n).length=n:=by
 have hl:=hp.length_eq
 obtain⟨h1,h2,h3⟩:=Yg H n (by omega) hh
 refine⟨?_,h2,h1⟩
 have e:=Gg S n hn
 rw[Dy hp hh hs n hn] at h3
 have q:(S.getD n aE.zero :: oL H n).Perm (S.getD n aE.zero :: S.take n):=by
  refine (h3.trans hp).trans ?_
  exact (List.Perm.of_eq e).trans (qJb (l₁:=S.take n) (l₂:=[S.getD n aE.zero]))
 exact q.cons_inv
theorem aAd(hp:H.Perm S)(hh:rU H H.length)(hs:Vm S)(m:aE)(n:Nat)(hn:S.length=n+1)(hb:cD m (S.getD n aE.zero)=true) :
  (pV (oL H n) m).Perm ((nW m S).take (n+1))/\rU (pV (oL H n) m) (pV (oL H n) m).length:=by
 obtain⟨h1,h2,h3⟩:=Cz hp hh hs n hn
 have hl:(S.take n).length<n+1:=by rw[qXa];omega
 obtain⟨q1,q2⟩:=Ks h1 h2 m (n+1) hl
 refine⟨?_,q2⟩
 have e:(nW m S).take (n+1)=(nW m (S.take n)).take (n+1):=by
  have e0:=Gg S n hn
  have e1:nW m S=nW m (S.take n)++[S.getD n aE.zero]:=by
   conv=>lhs;rw[e0]
   exact Gu m _ _ hb
  rw[e1,qZe (by rw[Ui,qXa];omega)]
 rw[e]
 exact q1
theorem aFf(hs:Vm S)(m:aE)(n:Nat)(hn:S.length=n+1)(hb:cD m (S.getD n aE.zero)=false):(nW m S).take (n+1)=S:=by
 rw[sX m S (λx hx=>lP (show Ak m (S.getD n aE.zero) from hb) (Ob S hs n hn x hx)),qZe (by omega),qJa (by omega)]
theorem uP(hs:Vm S)(m:aE)(k:Nat):Vm ((nW m S).take k):=(Uj m S hs).sublist (List.take_sublist _ _)
def mF(k:Int):Nat:=(min (max k 0) 64).toNat
theorem uY(k:Int):mF k<=64:=by unfold mF;omega
theorem xE(k:Int):((mF k:Nat):Int)=min (max k 0) 64:=by unfold mF;omega
theorem aAm(k:Int)(w:World):Calls Tryz.prog 107 #[.int .i64 k] w λe w' =>
  e=.returned (.pointer (some ⟨w.heap.size,0,none⟩))/\Ko w' w.heap.size (mF k) (.slice none 0 0) []/\aC (λ_=>False) w w':=by
 go_in
 have key:∀ x:Int,x=(mF k:Int)->Ko (w.alloc (.cells #[.int .i64 x,.slice none 0 0] 264)) w.heap.size (mF k) (.slice none 0 0) []:=λx hx=>by
  subst hx
  exact⟨⟨[],⟨aL.new _ _ _,World.ownsRow_nil _ _ _ _⟩,List.Perm.refl _,λc h0 hc=>absurd hc (by simp)⟩,List.Pairwise.nil,qZa _,uY k⟩
 have KEY:=aB key
 clear key
 go_wp2
 all_goals go_ret
 all_goals refine⟨rfl,KEY.out _ ?_,(aC.refl _ _).alloc _⟩
 all_goals first | (rw[xE];done) | (rw[xE];omega)
theorem add_zero(w:World)(p:Nat)(v:Value)(S:List aE)(h:Ko w p 0 v S)(m:aE) :
  Calls Tryz.prog 108 #[.pointer (some ⟨p,0,none⟩),m.val] w λe w'=>e=.returned (.bool false)/\aC (λ_=>False) w w':=by
 obtain⟨H,hp,hperm,hh⟩:=h.ex
 have c0:=hp.blk.cell 0
 simp at c0
 have hpl:=hp.blk.lt
 obtain⟨mw,mn,md⟩:=m
 rw[lO]
 simp only
 clear hp hperm hh h
 go_in
 go_wp2
 go_ret
 exact⟨rfl,(aC.refl _ _).alloc _⟩
theorem aAe(w:World)(p most:Nat)(v:Value)(S:List aE)(h:Ko w p most v S)(hl:S.length<most)(m:aE) :
  Calls Tryz.prog 108 #[.pointer (some ⟨p,0,none⟩),m.val] w λe w' =>
   e=.returned (.bool true)/\∃ v',Ko w' p most v' ((nW m S).take most)/\aC (Cx p v) w w'/\cK w v v':=by
 obtain⟨H,hp,hperm,hh⟩:=h.ex
 have hlen:=hperm.length_eq
 have ho:=hp.own
 rw[hlen] at ho
 obtain⟨A,c,rfl,_,_⟩:=aS ho
 have c0:=hp.blk.cell 0
 have c1:=hp.blk.cell 1
 simp at c0 c1
 have hpl:=hp.blk.lt
 have hm:=h.m64
 have HH:=aB h
 have HP:=aB hp
 have HE:=aB hperm
 have HQ:=aB hh
 have HLN:=aB hlen
 have HLT:=aB hl
 have HM:=aB hm
 have bX:=aL.new w 43 #[.string m.word,.int .i64 m.weight,.int .i64 m.dist]
 obtain⟨x1,x2,x3⟩:=bX.facts
 obtain⟨mw,mn,md⟩:=m
 rw[lO]
 simp only at x1 x2 x3 ⊢
 have q0:((most:Int) == 0)=false:=by simp;omega
 have q1:((S.length:Int) == (most:Int))=false:=by simp;omega
 have q2:(most:Int)<=64:=by omega
 have q3:S.length<=9223372036854775807:=by omega
 clear ho hlen hperm hp hh h hl hm bX
 go_in
 go_wp2
 go_quiet (fail)
 obtain⟨w2,hw2⟩:=eX ((w.alloc (.cells #[.string mw,.int .i64 mn,.int .i64 md] 43)).drewN nq)
 have hT:aC (λ_=>False) w w2:=by rw[hw2];exact ((aC.refl _ _).alloc _).drewN _
 have hB:aL w2 w.heap.size 43 #[.string mw,.int .i64 mn,.int .i64 md]:=by rw[hw2];exact (aL.new w _ _).drewN _
 rw[<-hw2]
 clear hw2
 obtain⟨y1,y2,y3⟩:=hB.facts
 have HT:=aB hT
 clear hB hT
 go_wp2
 go_still_tail 6,(by kernel_rfl)
 change wpList _ _ _ _ _ w2.drew
 have HT3:=aB (HT.drew)
 generalize w2.drew=w3 at HT3 ⊢
 go_wp2_with (go_at_call 156;refine (Gr w3 p most (.slice A S.length c) H (HP.quiet HT3) (by have:=HLN.out;have:=HLT.out;have:=HM.out;omega) ⟨mw,mn,md⟩).mono ?_;rintro e w4 ⟨rfl,v4,P4,T4,F4⟩;have HP4:=aB P4;have HT4:=aB T4;have HF4:=aB F4;clear P4 T4 F4)
 go_ret
 obtain⟨r1,r2⟩:=Ks HE HQ ⟨mw,mn,md⟩ most HLT
 refine⟨rfl,v4,⟨⟨_,HP4,r1,r2⟩,uP HH.srt _ _,by rw[qXa];omega,HM⟩,(HT3.up _).then HT4,?_⟩
 rcases HF4.out with e | ⟨g,e,hg⟩
 ·exact .inl e
 ·exact .inr ⟨g,e,qZb HT3.size hg⟩
theorem Ps(w:World)(p:Nat)(v:Value)(S:List aE)(k n:Nat)(hk:n+1=k)(h:Ko w p k v S)(hl:S.length=k)(m:aE) :
  Calls Tryz.prog 108 #[.pointer (some ⟨p,0,none⟩),m.val] w λe w' =>
   e=.returned (.bool (cD m (S.getD n aE.zero)))/\∃ v',Ko w' p k v' ((nW m S).take k)/\aC (Cx p v) w w'/\cK w v v':=by
 obtain⟨H,hp,hperm,hh⟩:=h.ex
 have htop:=Dy hperm hh h.srt n (hl.trans hk.symm)
 have hlen:H.length=k:=by rw[hperm.length_eq,hl]
 have ho:=hp.own
 rw[hlen] at ho
 obtain⟨A,c,rfl,_,_⟩:=aS ho
 have hle:=dR ho
 obtain⟨g,rfl,hg,a0,a1,a2,_,_,_⟩:=Cu ho hlen.symm 0 (by omega)
 rw[htop] at a0 a1 a2
 have c0:=hp.blk.cell 0
 have c1:=hp.blk.cell 1
 simp at c0 c1
 have hpl:=hp.blk.lt
 have hm:=h.m64
 have HH:=aB h
 have HP:=aB hp
 have HE:=aB hperm
 have HQ:=aB hh
 have HL:=aB hl
 have HLN:=aB hlen
 have HM:=aB hm
 have HOWN:=aB ho
 have HK:=aB hk
 have bX:=aL.new w 43 #[.string m.word,.int .i64 m.weight,.int .i64 m.dist]
 obtain⟨x1,x2,x3⟩:=bX.facts
 obtain⟨mw,mn,md⟩:=m
 obtain⟨⟨xw,xn,xd⟩,hx⟩:∃ x,x=S.getD n aE.zero:=⟨_,rfl⟩
 rw[<-hx] at a0 a1 a2 ⊢
 simp only[Nat.zero_mul,Nat.zero_add] at a0 a1 a2
 have EX:=aB hx
 rw[lO]
 simp only at x1 x2 x3 ⊢
 have q0:((k:Int) == 0)=false:=by simp;omega
 have q2:(k:Int)<=64:=by omega
 have q3:0<k:=by omega
 clear ho hlen hperm hp hh h hl hm bX htop hx hk hle
 cases hb:cD ⟨mw,mn,md⟩ ⟨xw,xn,xd⟩ with
 | false =>
  have HB:=aB hb
  clear hb
  go_in
  go_wp2
  go_quiet (fail)
  obtain⟨w2,hw2⟩:=eX ((w.alloc (.cells #[.string mw,.int .i64 mn,.int .i64 md] 43)).drewN nq)
  have hT:aC (λ_=>False) w w2:=by rw[hw2];exact ((aC.refl _ _).alloc _).drewN _
  have hB:aL w2 w.heap.size 43 #[.string mw,.int .i64 mn,.int .i64 md]:=by rw[hw2];exact (aL.new w _ _).drewN _
  rw[<-hw2]
  clear hw2
  obtain⟨y1,y2,y3⟩:=hB.facts
  have c2:=(HP.blk.touch hT (λf=>f)).cell 1
  simp at c2
  have b0:=(hT.cell (a:=⟨g,0,none⟩) hg (λf=>f)).trans a0
  have b1:=(hT.cell (a:=⟨g,1,none⟩) hg (λf=>f)).trans a1
  have b2:=(hT.cell (a:=⟨g,2,none⟩) hg (λf=>f)).trans a2
  have HT:=aB hT
  have HB2:=aB hB
  clear hB hT
  go_wp2
  go_still_tail 7,(by kernel_rfl)
  change wpList _ _ _ _ _ w2.drew
  have HT3:=aB (HT.drew)
  have HB3:=aB (HB2.drew)
  generalize w2.drew=w3 at HT3 HB3 ⊢
  go_wp2_with (go_at_call 154;refine (qY ⟨mw,mn,md⟩ ⟨xw,xn,xd⟩ w3).mono ?_;rintro e w4 ⟨rfl,T4⟩;have HT4:=aB (HT3.then T4);have HB4:=aB (HB3.touch T4 (λf=>f));clear T4;rw[HB.out])
  go_ret
  refine⟨rfl,_,?_,HT4.up _,.inl rfl⟩
  rw[<-HK.out,aFf HH.srt ⟨mw,mn,md⟩ n (HL.trans HK.symm) (by rw[<-EX.out];exact HB.out)]
  rw[HK.out]
  exact HH.touch HT4 (λ_ _ _ f=>f)
 | true =>
  have HB:=aB hb
  clear hb
  go_in
  go_wp2
  go_quiet (fail)
  obtain⟨w2,hw2⟩:=eX ((w.alloc (.cells #[.string mw,.int .i64 mn,.int .i64 md] 43)).drewN nq)
  have hT:aC (λ_=>False) w w2:=by rw[hw2];exact ((aC.refl _ _).alloc _).drewN _
  have hB:aL w2 w.heap.size 43 #[.string mw,.int .i64 mn,.int .i64 md]:=by rw[hw2];exact (aL.new w _ _).drewN _
  rw[<-hw2]
  clear hw2
  obtain⟨y1,y2,y3⟩:=hB.facts
  have c2:=(HP.blk.touch hT (λf=>f)).cell 1
  simp at c2
  have b0:=(hT.cell (a:=⟨g,0,none⟩) hg (λf=>f)).trans a0
  have b1:=(hT.cell (a:=⟨g,1,none⟩) hg (λf=>f)).trans a1
  have b2:=(hT.cell (a:=⟨g,2,none⟩) hg (λf=>f)).trans a2
  have HT:=aB hT
  have HB2:=aB hB
  clear hB hT
  go_wp2
  go_still_tail 7,(by kernel_rfl)
  change wpList _ _ _ _ _ w2.drew
  have HT3:=aB (HT.drew)
  have HB3:=aB (HB2.drew)
  generalize w2.drew=w3 at HT3 HB3 ⊢
  go_wp2_with (go_at_call 154;refine (qY ⟨mw,mn,md⟩ ⟨xw,xn,xd⟩ w3).mono ?_;rintro e w4 ⟨rfl,T4⟩;have HT4:=aB (HT3.then T4);have HB4:=aB (HB3.touch T4 (λf=>f));clear T4;rw[HB.out])
  refine (Mb w4 p k (.slice (some ⟨g,0,none⟩) k c) H n (HLN.trans HK.symm) (by have:=HM.out;have:=HK.out;omega) (HP.quiet HT4)).mono ?_
  rintro e w5 ⟨rfl,v5,P5,T5,F5⟩
  have hne:¬ Cx p (.slice (some ⟨g,0,none⟩) k c) w.heap.size:=by
   rintro (e | e)
   ·omega
   ·simp[Value.ownBlock] at e
    omega
  have hB5:=HB4.touch T5 hne
  obtain⟨z1,z2,z3⟩:=hB5.facts
  have HP5:=aB P5
  have HT5:=aB ((HT4.up _).then T5)
  have HF5:=aB F5
  clear P5 T5 F5 hB5 hne y1 y2 y3 c2 b0 b1 b2
  go_wp2
  go_still_tail 6,(by kernel_rfl)
  change wpList _ _ _ _ _ w5.drew
  have HT6:Hid (aC (λ_=>False) w5 w5.drew):=aB (aC.refl _ _).drew
  generalize w5.drew=w6 at HT6 ⊢
  obtain⟨r1,r2,r3⟩:=Cz HE HQ HH.srt n (HL.trans HK.symm)
  have HR:=aB r3
  clear r1 r2 r3
  go_wp2_with (go_at_call 156;refine (Gr w6 p k v5 (oL H n) (HP5.quiet HT6) (by have:=HR.out;have:=HM.out;have:=HK.out;omega) ⟨mw,mn,md⟩).mono ?_;rintro e w7 ⟨rfl,v7,P7,T7,F7⟩;have HP7:=aB P7;have HT7:=aB T7;have HF7:=aB F7;clear P7 T7 F7)
  go_ret
  obtain⟨r1,r2⟩:=aAd HE HQ HH.srt ⟨mw,mn,md⟩ n (HL.trans HK.symm) (by rw[<-EX.out];exact HB)
  rw[HK.out] at r1
  have hfr:cK w (.slice (some ⟨g,0,none⟩) k c) v7:=by
   rcases HF7.out with e | ⟨g',e,hg'⟩
   ·exact .inl (e.trans HF5)
   ·exact .inr ⟨g',e,qZb (qZb HT5.size HT6.size) hg'⟩
  have h57:aC (Cx p v5) w5 w7:=(HT6.up _).then HT7
  refine⟨rfl,v7,⟨⟨_,HP7,r1,r2⟩,uP HH.srt _ _,by rw[qXa];omega,HM⟩,HT5.trans h57 ?_,hfr⟩
  rintro i hi (e | e)
  ·exact .inl e
  ·exact .inr (by rw[<-HF5.out];exact e)
theorem aFe(w:World)(p most:Nat)(v:Value)(S:List aE)(h:Ko w p most v S)(m:aE) :
  Calls Tryz.prog 108 #[.pointer (some ⟨p,0,none⟩),m.val] w λe w' =>
   e=.returned (.bool (aFc m S most))/\∃ v',Ko w' p most v' ((nW m S).take most)/\aC (Cx p v) w w'/\cK w v v':=by
 have hl:=h.len
 by_cases h0:most=0
 ·subst h0
  have hS:S=[]:=List.eq_nil_of_length_eq_zero (by omega)
  subst hS
  refine (add_zero w p v [] h m).mono ?_
  rintro e w1 ⟨rfl,T1⟩
  exact⟨by simp[aFc],v,by simpa using h.touch T1 (λ_ _ _ f=>f),T1.up _,.inl rfl⟩
 ·by_cases h1:S.length<most
  ·refine (aAe w p most v S h h1 m).mono ?_
   rintro e w1 ⟨rfl,r⟩
   exact⟨by simp[aFc,h1],r⟩
  ·refine (Ps w p v S most (most-1) (by omega) h (by omega) m).mono ?_
   rintro e w1 ⟨rfl,r⟩
   exact⟨by simp[aFc,h1];omega,r⟩
theorem Rk(n:Nat):(madeCells #[.string ByteArray.empty,.int .i64 0,.int .i64 0] (n*3)).toList=aW (qQc n aE.zero):=by
 induction n with
 | zero=>simp[madeCells,aW]
 | succ n ih =>
  rw[List.replicate_succ',aW,List.flatMap_append,<-aW,<-ih]
  simp only[madeCells,Array.toList_map,Array.toList_range,Nat.succ_mul,List.range_add,List.map_append]
  congr 1
  simp[List.range_succ,List.range_zero,aE.cells,aE.zero]
def sE(S:List aE)(n i:Nat):List aE:=qQc (n-i) aE.zero++S.drop (n-i)
theorem Wo(S:List aE)(n i q:Nat)(hS:S.length=n)(hq:n-i=q+1)(hi:i<n):(sE S n i).set q (S.getD q aE.zero)=sE S n (i+1):=by
 unfold sE
 have e:n-(i+1)=q:=by omega
 rw[hq,e,List.replicate_succ',List.append_assoc,List.set_append_right _ _ (by simp)]
 simp only[qJd,Nat.sub_self]
 have e2:S.drop q=S[q]'(by omega) :: S.drop (q+1):=qXc (by omega)
 rw[e2]
 simp[qQa,show q<S.length by omega]
theorem aEr(w:World)(p most:Nat)(v:Value)(S:List aE)(n:Nat)(hn:S.length=n)(h:Ko w p most v S) :
  Calls Tryz.prog 109 #[.pointer (some ⟨p,0,none⟩)] w λe w' =>
   e=.returned (.slice (some ⟨w.heap.size,0,none⟩) n n)/\w'.ownsRow 0 43 3 (.slice (some ⟨w.heap.size,0,none⟩) n n) n (aW S) /\
    ∃ v',Ko w' p most v' []/\aC (Cx p v) w w'/\v'.ownBlock=v.ownBlock:=by
 obtain⟨H,hp,hperm,hh⟩:=h.ex
 have hlen:H.length=n:=by rw[hperm.length_eq,hn]
 have ho:=hp.own
 rw[hlen] at ho
 obtain⟨A,c,rfl,_,_⟩:=aS ho
 have c1:=hp.blk.cell 1
 simp at c1
 have hpl:=hp.blk.lt
 have hvl:∀ g,(Value.slice A n c).ownBlock=some g->g<w.heap.size:=by
  intro g hg
  rcases ho.2 with⟨e,_⟩ | ⟨g',cap,cur,e,_,hgg,_⟩
  ·rw[e] at hg;simp[Value.ownBlock] at hg
  ·rw[e] at hg
   simp[Value.ownBlock] at hg
   subst hg
   exact (Array.getElem?_eq_some_iff.1 hgg).1
 have hn64:n<=64:=by have:=h.len;have:=h.m64;omega
 have HVL:=aB hvl
 have HH:=aB h
 have HN:=aB hn
 obtain⟨i0,hi,hz0,hz1,hz2⟩:=aQ wR
 clear ho hlen hperm hp hh h hn hvl
 obtain⟨g,hg⟩:=eX w.heap.size
 have HG:=aB hg
 rw[<-hg]
 go_in
 go_wp2_with (refine wpList_make_full _ rfl (.tmp 9) (.tmp 9) 39 rfl 0 43 i0 _ 3 Tryz.underlying39 hi hz0 hz1 .i64 .i64 (n:Int) (n:Int) n rfl rfl rfl rfl ?b2 ?b3 (qZa _) ?_)
 case b2=>rw[hz2];omega
 case b3=>unfold maxLen;omega
 intro w1 O1 G1
 rw[Rk] at O1
 rw[<-hg] at O1 ⊢
 clear hg
 have HO1:=aB O1
 have HG1:=aB G1
 clear O1 G1 c1
 go_wp2
 go_loopw [13] (λi wr=>∃ k:Nat,k<=n/\i=.int .i64 k/\Hid (wr.ownsRow 0 43 3 (.slice (some ⟨g,0,none⟩) n n) n (aW (sE S n k))) /\
   Hid (∃ vr,Ko wr p most vr (S.take (n-k))/\aC (Cx p (.slice A n c)) w wr/\vr.ownBlock=(Value.slice A n c).ownBlock)) (λi _=>n-(intOf i).toNat)
 case atStart =>
  refine⟨0,qZa _,rfl,aB ?_,aB ⟨_,?_,(aC.refl _ _).grown HG1 (λ_ e=>by cases e),rfl⟩⟩
  ·have e:sE S n 0=qQc n aE.zero:=by
    unfold sE
    rw[Nat.sub_zero,qJc (by rw[HN.out];exact qQb _),List.append_nil]
   rw[e]
   exact HO1
  ·rw[Nat.sub_zero,qJa (by rw[HN.out];exact qQb _)]
   exact HH.touch ((aC.refl (λ_=>False) _).grown HG1 (λ_ e=>by cases e)) (λ_ _ _ f=>f)
 case round =>
  obtain⟨k,hk,rfl,HO,HE⟩:=hrel
  by_cases hkn:k<n
  ·obtain⟨q,hq⟩:∃ q,n=k+q+1:=⟨n-k-1,by omega⟩
   obtain⟨vr,K1,T1,F1⟩:=HE.out
   obtain⟨H1,P1,E1,Q1⟩:=K1.ex
   have hl:(S.take (n-k)).length=q+1:=by rw[qXa,HN.out];omega
   have htop:=Dy E1 Q1 K1.srt q hl
   have eq:(S.take (n-k)).getD q aE.zero=S.getD q aE.zero:=by
    simp only[List.getD_eq_getElem?_getD,List.getElem?_take]
    rw[if_pos (by omega)]
   rw[eq] at htop
   obtain⟨⟨xw,xn,xd⟩,hx⟩:∃ x,x=S.getD q aE.zero:=⟨_,rfl⟩
   have ta:=uB #[.string xw,.int .i64 xn,.int .i64 xd]
   have n0:(n:Int)-1-(k:Int)=(q:Int):=by omega
   have n1:(q:Int)<(n:Int):=by omega
   have n2:(k:Int)<(n:Int):=by omega
   have n3:q<n:=by omega
   have HQ:=aB hq
   have HP1:=aB P1
   have HE1:=aB E1
   have HQ1:=aB Q1
   have HK1:=aB K1
   have HT1:=aB T1
   have HF1:=aB F1
   have HL:=aB hl
   have HTOP:=aB htop
   have HX:=aB hx
   have hsm:q<=64:=by omega
   have hng:¬ Cx p vr g:=by
    rintro (e | e)
    ·have:=HG.out;omega
    ·rw[F1] at e
     have:=HVL.out _ e
     have:=HG.out
     omega
   have HNG:=aB hng
   have hfl:(sE S n k).length=n:=by unfold sE;rw[List.length_append,qJd,List.length_drop,HN.out];omega
   have HFL:=aB hfl
   clear hq P1 E1 Q1 K1 T1 F1 hl htop hx eq hng hfl
   go_wp2_with (go_at_call 155;refine (Mb wr p most vr H1 q (by rw[HE1.length_eq,HL.out]) hsm HP1).mono ?_;rintro e w2 ⟨rfl,v2,P2,T2,F2⟩;have O2:=aF HO T2 (λg' hg'=>by cases hg';exact HNG);obtain⟨g',hA,hg2,a0,a1,a2,f0,f1,f2⟩:=Cu O2 HFL.symm q n3;injection hA with hA;injection hA with hA _;subst hA;have HO2:=aB O2;have HP2:=aB P2;have HT2:=aB T2;have HF2:=aB F2;clear P2 T2 F2 O2;rw[HTOP.out,<-HX.out,lO])
   go_roundw
   ·have hTT:aC (λg'=>g'=g) w2 (((w2.setCell ⟨g,q*3,none⟩ (.string xw)).setCell ⟨g,q*3+1,none⟩ (.int .i64 xn)).setCell ⟨g,q*3+2,none⟩ (.int .i64 xd)):=by
     iterate 3 refine aC.setCell ?_ (λ_=>(rfl:g=g)) _
     exact aC.refl _ _
    have hO3:=Cv HO2 q ⟨xw,xn,xd⟩
    rw[HX.out,Wo S n k q HN.out (by have:=HQ.out;omega) hkn,<-HX.out] at hO3
    refine⟨k+1,by omega,by simp,aB hO3,aB ⟨v2,?_,?_,HF2.trans HF1⟩⟩
    ·obtain⟨r1,r2,_⟩:=Cz HE1 HQ1 HK1.srt q HL
     have e:(S.take (n-k)).take q=S.take (n-(k+1)):=by
      rw[List.take_take];congr 1;have:=HQ.out;omega
     rw[e] at r1
     have K2:Ko w2 p most v2 (S.take (n-(k+1))):=⟨⟨_,HP2,r1,r2⟩,HH.srt.sublist (List.take_sublist _ _),qZb (by rw[qXa];exact Nat.min_le_right _ _) HH.len,HH.m64⟩
     refine K2.touch hTT ?_
     rintro g' _ hg' rfl
     refine HNG ?_
     rcases hg' with e | e
     ·exact .inl e
     ·exact .inr (by rw[<-HF2.out];exact e)
    ·have t1:aC (Cx p (.slice A n c)) w w2:=HT1.trans HT2 (λi _ hi=>by
      rcases hi with e | e
      ·exact .inl e
      ·exact .inr (by rw[<-HF1.out];exact e))
     refine t1.trans hTT ?_
     rintro i hi rfl
     have:=HG.out
     omega
   ·show n-(intOf (.int .i64 ((k:Int)+1))).toNat<n-(intOf (.int .i64 (k:Int))).toNat
    simp[intOf]
    omega
  ·go_wp2
   go_ret
   have hk':k=n:=by omega
   subst hk'
   obtain⟨vr,K1,T1,F1⟩:=HE.out
   have e1:sE S k k=S:=by unfold sE;simp
   have e2:S.take (k-k)=[]:=by simp
   rw[e2] at K1
   have HOO:=HO.out
   rw[e1] at HOO
   exact⟨rfl,HOO,vr,K1,T1,F1⟩
theorem sN(L:List aE)(i:Nat)(hi:i<L.length)(k:Nat):gU (L.take (i+1)) k=(nW (L.getD i aE.zero) (gU (L.take i) k)).take k:=by
 have e:L.getD i aE.zero=L[i]:=by simp[qQa,hi]
 rw[qXb hi,Qa,e]
theorem Sl(w:World)(A:Option Addr)(n c:Nat)(L:List aE)(hL:L.length=n)(hR:aH w 3 A n (aW L))(hn:n<=maxLen)(kk:Int) :
  Calls Tryz.prog 43 #[.slice A n c,.int .i64 kk] w λe w'=>∃ g m,m=(gU L (mF kk)).length /\
   e=.returned (.slice (some ⟨g,0,none⟩) m m)/\w.heap.size<=g/\w'.ownsRow 0 43 3 (.slice (some ⟨g,0,none⟩) m m) m (aW (gU L (mF kk)))/\aC (λ_=>False) w w':=by
 obtain⟨p,hp⟩:=eX w.heap.size
 obtain⟨most,hmo⟩:=eX (mF kk)
 rw[<-hmo]
 unfold maxLen at hn
 have HR:=aB hR
 have HL:=aB hL
 have HMO:=aB hmo
 have HPP:=aB hp
 clear hR hL
 go_in
 go_wp2_with (go_at_call 107;refine (aAm kk w).mono ?_;rintro e w1 ⟨rfl,K1,T1⟩;rw[<-hmo,<-hp] at K1;rw[<-hp];have HK1:=aB K1;have HT1:=aB T1;clear K1 T1 hmo hp)
 go_loopw [15] (λi wr=>∃ k:Nat,k<=n/\i=.int .i64 k/\Hid (∃ vr,Ko wr p most vr (gU (L.take k) most)/\aC (λ_=>False) w wr/\∀ g,Cx p vr g->w.heap.size<=g)) (λi _=>n-(intOf i).toNat)
 case atStart =>
  refine⟨0,qZa _,rfl,aB ⟨.slice none 0 0,?_,HT1,?_⟩⟩
  ·have e:gU (L.take 0) most=[]:=by simp[gU,zB]
   rw[e]
   exact HK1
  ·rintro g (e | e)
   ·rw[e,HPP.out];exact qQb _
   ·simp[Value.ownBlock] at e
 case round =>
  obtain⟨k,hk,rfl,HE⟩:=hrel
  obtain⟨vr,K1,T1,F1⟩:=HE.out
  have HK:=aB K1
  have HT:=aB T1
  have HF:=aB F1
  by_cases hkn:k<n
  ·have hRr:=HR.touch T1 (λ_ _ f=>f)
   obtain⟨g,off,rfl,hg,a0,a1,a2⟩:=fZ hRr HL.symm k hkn
   obtain⟨⟨xw,xn,xd⟩,hx⟩:∃ x,x=L.getD k aE.zero:=⟨_,rfl⟩
   rw[<-hx] at a0 a1 a2
   simp only at a0 a1 a2
   have HX:=aB hx
   have n0:(k:Int)<(n:Int):=by omega
   have n1:(0:Int)<=(k:Int):=by omega
   clear hRr K1 T1 F1 hx
   have n2:k<n:=hkn
   go_wp2_with (go_at_call 108;refine (aFe _ p most vr _ (HK.touch ((aC.refl (λ_=>False) _).alloc _) (λ_ _ _ f=>f)) ⟨xw,xn,xd⟩).mono ?_;rintro e w2 ⟨rfl,v2,K2,T2,F2⟩;have HK2:=aB K2;have HT2:=aB T2;have HF2:=aB F2;clear K2 T2 F2)
   go_roundw
   ·refine⟨k+1,by omega,by simp,aB ⟨v2,?_,?_,?_⟩⟩
    ·rw[sN L k (by rw[HL.out];exact hkn),<-HX.out]
     exact HK2
    ·refine (HT.alloc _).trans HT2 ?_
     intro i hi hp
     have:=HF.out i hp
     omega
    ·rintro g' (e | e)
     ·rw[e,HPP.out];exact qQb _
     ·rcases HF2.out with q | ⟨g2,q,hq⟩
      ·rw[q] at e;exact HF g' (.inr e)
      ·rw[q] at e
       injection e with e
       have h1:=HT.size
       simp at hq
       omega
   ·show n-(intOf (.int .i64 ((k:Int)+1))).toNat<n-(intOf (.int .i64 (k:Int))).toNat
    simp[intOf]
    omega
  ·have hkn':k=n:=by omega
   subst hkn'
   have e:L.take k=L:=qJa (by rw[HL.out];exact qQb _)
   rw[e] at K1
   have HK2:=aB K1
   clear K1 T1 F1 e HK
   go_wp2_with (go_at_call 109;refine (aEr wr p most vr _ _ rfl HK2).mono ?_;rintro e w2 ⟨rfl,O2,v2,K2,T2,F2⟩;have HO2:=aB O2;have HT2:=aB T2;clear K2 T2 F2 O2)
   go_ret
   refine⟨_,_,rfl,rfl,HT.size,HO2,HT.trans HT2 ?_⟩
   intro i hi hp
   have:=HF.out i hp
   omega
structure Nx(w0 w:World)(v:Value)(q:Nat)(N:List aE):Prop where
 own:w.ownsRow 0 43 3 v q (aW N)
 len:N.length=q
 touch:aC (λ_=>False) w0 w
 fresh:∀ g,v.ownBlock=some g->w0.heap.size<=g
theorem Nx.to{w0 w2:World}{q:Nat}{N:List aE}(h:Nx w0 w v q N)(t:aC (λ_=>False) w w2):Nx w0 w2 v q N :=
 ⟨aF h.own t (λ_ _ f=>f),h.len,h.touch.then t,h.fresh⟩
theorem Mn(N:List aE)(m:aE):aW (N++[m])=aW N++m.cells:=by simp[aW]
theorem Nx.app{w0 w1 w3:World}{v':Value}{q:Nat}{N:List aE}{m:aE}(h:Nx w0 w1 v q N)(ho:w3.ownsRow 0 43 3 v' (q+1) (aW N++m.cells))(hg:w1.grownBy w3 v.ownBlock)(hf:cK w1 v v') :
  Nx w0 w3 v' (q+1) (N++[m]):=by
 refine⟨by rw[Mn];exact ho,by simp[h.len],?_,?_⟩
 ·exact h.touch.trans ((aC.refl (λg=>v.ownBlock=some g) w1).grown hg (λk hk _=>hk)) (λi hi e=>by have:=h.fresh i e;omega)
 ·intro g e
  rcases hf with k | ⟨g',k,hk⟩
  ·exact h.fresh g (by rw[<-k];exact e)
  ·rw[k] at e
   injection e with e
   have:=h.touch.size
   omega
theorem aCb(m x:aE)(l:List aE)(h:∃ y∈l,cD m y=true):nW m (l++[x])=nW m l++[x]:=by
 induction l with
 | nil=>obtain⟨y,hy,_⟩:=h;cases hy
 | cons a l ih =>
  simp only[List.cons_append,nW]
  split
  ·rfl
  ·rename_i hb
   rw[ih]
   ·rfl
   ·obtain⟨y,hy,hyb⟩:=h
    rcases List.mem_cons.1 hy with rfl | hy
    ·exact absurd hyb hb
    ·exact⟨y,hy,hyb⟩
theorem tU(O:List aE)(j:Nat)(hj:j<O.length):O.take (j+1)=O.take j++[O.getD j aE.zero]:=by
 rw[qXb hj]
 simp[qQa,hj]
def Tu(m:aE)(O:List aE)(j:Nat)(done:Bool):List aE:=if done=true then nW m (O.take j) else O.take j
def zH(m:aE)(O:List aE)(j:Nat)(done:Bool):Prop:=if done=true then ∃ y∈O.take j,cD m y=true else ∀ y∈O.take j,cD m y=false
theorem aGw(m:aE)(O:List aE)(j:Nat)(hj:j<O.length)(h:zH m O j true):Tu m O j true++[O.getD j aE.zero]=Tu m O (j+1) true/\zH m O (j+1) true:=by
 simp only[zH,Tu,if_true] at *
 rw[tU O j hj,aCb _ _ _ h]
 refine⟨rfl,?_⟩
 obtain⟨y,hy,hb⟩:=h
 exact⟨y,by simp[hy],hb⟩
theorem aGx(m:aE)(O:List aE)(j:Nat)(hj:j<O.length)(h:zH m O j false)(hb:cD m (O.getD j aE.zero)=true):(Tu m O j false++[m])++[O.getD j aE.zero]=Tu m O (j+1) true/\zH m O (j+1) true:=by
 simp only[zH,Tu,Bool.false_eq_true,if_false,if_true] at *
 rw[tU O j hj,Gu _ _ _ hb,sX _ _ h]
 exact⟨rfl,O.getD j aE.zero,by simp,hb⟩
theorem aKw(m:aE)(O:List aE)(j:Nat)(hj:j<O.length)(h:zH m O j false)(hb:cD m (O.getD j aE.zero)=false):Tu m O j false++[O.getD j aE.zero]=Tu m O (j+1) false/\zH m O (j+1) false:=by
 simp only[zH,Tu,Bool.false_eq_true,if_false] at *
 rw[tU O j hj]
 refine⟨rfl,λy hy=>?_⟩
 rcases List.mem_append.1 hy with hy | hy
 ·exact h y hy
 ·rw[List.mem_singleton.1 hy];exact hb
theorem aCx(m:aE)(O:List aE)(done:Bool)(h:zH m O O.length done):(if done=true then Tu m O O.length done else Tu m O O.length done++[m])=nW m O:=by
 cases done with
 | true=>simp[Tu]
 | false =>
  simp only[zH,Tu,Bool.false_eq_true,if_false,List.take_length] at *
  exact (sX _ _ h).symm
theorem u64_in(x:Nat)(h:x<18446744073709551616):IntKind.u64.wrap (x:Int)=(x:Int):=by rw[IntKind.wrap_u64];omega
theorem aIt(b:UInt8):bits .and .u8 (b.toNat:Int) 127=((b.toNat % 128:Nat):Int):=by
 have h:=bits_mask .u8 8 (by decide) (λn h0 h1=>wraps_u8 n h0 h1) 7 (by decide) (b.toNat:Int) (by omega) (by have:=b.toNat_lt;omega)
 have e:(2:Int) ^ 7-1=127:=by decide
 rw[e] at h
 rw[h]
 omega
theorem aJk(k:Nat):(2:Nat) ^ (7*k)=128 ^ k:=by rw[Nat.pow_mul]
theorem aJi(acc x k:Nat)(hk:k<=9)(ha:acc<128 ^ k)(hx:x*128 ^ k<18446744073709551616):bits .or .u64 (acc:Int) ((x*128 ^ k:Nat):Int)=((acc+x*128 ^ k:Nat):Int):=by
 have h9:128 ^ k<=128 ^ 9:=Nat.pow_le_pow_right (by decide) hk
 have e9:(128:Nat) ^ 9=9223372036854775808:=by decide
 rw[bits_or_u64_nat acc _ (by omega) hx]
 congr 1
 rw[Nat.or_comm,Nat.mul_comm x,<-aJk,<-Nat.two_pow_add_eq_or_of_lt (by rw[aJk];exact ha),Nat.add_comm]
theorem aFm(h:aH w 1 A n (bs.map bG))(hl:bs.length=n)(j:Nat)(hj:j<n) :
  ∃ g off,A=some ⟨g,off,none⟩/\g<w.heap.size/\w.cell? ⟨g,off+j,none⟩=some (.int .u8 ((bs.getD j 0).toNat:Int)):=by
 obtain⟨g,off,hA,hg,hc⟩:=h.2 (by omega)
 refine⟨g,off,hA,hg,hc j _ ?_⟩
 simp[qQa,bG,show j<bs.length by omega]
def aLf(bs:List UInt8)(e:Ending):Prop:=(∃ (v k:Nat) (t:List UInt8),Fb bs=some (v,t)/\t=bs.drop k/\0<k/\k<=bs.length/\e=.returned (.tuple #[.int .u64 v,.int .i64 k,.int .i64 0])) \/
 (Fb bs=none/\∃ c:Int,20<=c/\e=.returned (.tuple #[.int .u64 0,.int .i64 0,.int .i64 c]))
theorem Ct(w:World)(A:Option Addr)(n c:Nat)(bs:List UInt8)(hr:aH w 1 A n (bs.map bG))(hl:bs.length=n)(hm:n<=maxLen) :
  Calls Tryz.prog 117 #[.slice A n c] w λe w'=>aLf bs e/\w'=w:=by
 unfold maxLen at hm
 have HR:=aB hr
 have HL:=aB hl
 clear hr hl
 go_in
 go_wp2_with fail
 go_loop [5,10] (λnv iv=>∃ acc i:Nat,nv=.int .u64 acc/\iv=.int .i64 i/\i<=n/\i<=9/\Hid (acc<128 ^ i/\Fb bs=Cs i acc (bs.drop i))) (λ_ iv=>n-(intOf iv).toNat)
 case atStart=>exact⟨0,0,rfl,rfl,qZa _,qZa _,aB ⟨by decide,rfl⟩⟩
 case round =>
  obtain⟨acc,i,rfl,rfl,hi,hi9,HN⟩:=hrel
  by_cases hin:i<n
  ·obtain⟨g,o,hA,_,b0⟩:=aFm HR HL i hin
   subst hA
   have hdr:bs.drop i=bs.getD i 0 :: bs.drop (i+1):=by
    have h1:i<bs.length:=by rw[HL.out];exact hin
    rw[qXc h1]
    simp[qQa,h1]
   obtain⟨b,hb⟩:∃ b,bs.getD i 0=b:=⟨_,rfl⟩
   rw[hb] at b0 hdr
   have hb255:=b.toNat_lt
   have f1:=aIt b
   have hstep:Fb bs=if i=9/\1<b.toNat then none else if 128<=b.toNat then Cs (i+1) (acc+(b.toNat-128)*128 ^ i) (bs.drop (i+1)) else if b.toNat=0/\0<i then none else some (acc+b.toNat*128 ^ i,bs.drop (i+1)):=by
    rw[HN.2,hdr]
    rfl
   have HA:=aB HN.1
   obtain⟨bn,hbn⟩:∃ m,b.toNat=m:=⟨_,rfl⟩
   rw[hbn] at hstep b0 f1 hb255
   clear hdr hb hbn HN
   have hbig:¬ (i=9/\1<bn)->bn % 128*128 ^ i<18446744073709551616:=by
    intro h
    have e9:(128:Nat) ^ 9=9223372036854775808:=by decide
    by_cases h9:i=9
    ·subst h9
     rw[e9]
     omega
    ·have h1:bn % 128*128 ^ i<128*128 ^ i:=Nat.mul_lt_mul_of_pos_right (by omega) (Nat.pow_pos (by decide))
     have h2:128*128 ^ i=128 ^ (i+1):=by rw[Nat.pow_succ,Nat.mul_comm]
     have h3:128 ^ (i+1)<=128 ^ 9:=Nat.pow_le_pow_right (by decide) (by omega)
     omega
   have y0:(i:Int)<(n:Int):=by omega
   have y8:(0:Int)<=(i:Int):=by omega
   have y9:(i:Int)<=9:=by omega
   have HIN:=aB hin
   have HI9:=aB hi9
   by_cases h9:i=9/\1<bn
   ·rw[if_pos h9] at hstep
    obtain⟨h9a,h9b⟩:=h9
    have q9:((i:Int) == 9)=true:=by simp;omega
    have y1:(1:Int)<(bn:Int):=by omega
    have HS:=aB hstep
    clear hstep hbig h9b h9a f1 hb255 hin
    go_wp2_with fail
    refine bodyPost_ret (v:=.tuple #[.int .u64 0,.int .i64 0,.int .i64 21]) (by simp[results,Tryz.results117,go_sem]) rfl ⟨.inr ⟨HS,21,by decide,rfl⟩,rfl⟩
   ·rw[if_neg h9] at hstep
    have hbg:=hbig h9
    have s1:=aJi acc (bn % 128) i hi9 HA hbg
    have hacc:acc+bn % 128*128 ^ i<128 ^ (i+1):=by
     have h1:bn % 128*128 ^ i<=127*128 ^ i:=Nat.mul_le_mul_right _ (by omega)
     have h2:=HA.out
     rw[Nat.pow_succ]
     omega
    have f3:IntKind.u64.wrap (((bn % 128:Nat):Int)*2 ^ (7*i))=((bn % 128*128 ^ i:Nat):Int):=by
     have e:((bn % 128:Nat):Int)*2 ^ (7*i)=((bn % 128*128 ^ i:Nat):Int):=by rw[<-aJk];push_cast;rfl
     rw[e,u64_in _ hbg]
    have f2:IntKind.u64.wrap ((bn % 128:Nat):Int)=((bn % 128:Nat):Int):=u64_in _ (by omega)
    have hx1:128<=bn->(bn-128)*128 ^ i=bn % 128*128 ^ i:=λh=>by rw[show bn % 128=bn-128 by omega]
    have hx2:¬ 128<=bn->bn*128 ^ i=bn % 128*128 ^ i:=λh=>by rw[show bn % 128=bn by omega]
    obtain⟨x,hx⟩:∃ x,bn % 128*128 ^ i=x:=⟨_,rfl⟩
    obtain⟨m,hmm⟩:∃ m,bn % 128=m:=⟨_,rfl⟩
    rw[hx] at s1 f3 hx1 hx2 hacc
    rw[hmm] at f1 f2 f3
    obtain⟨ac,hac⟩:∃ y,acc+x=y:=⟨_,rfl⟩
    rw[hac] at s1 hacc
    have HAC:=aB hacc
    have h91:i=9->bn<=1:=by omega
    have y1:i=9->¬ (1:Int)<(bn:Int):=by omega
    have HA2:=aB hac
    clear hbig hbg hacc hx hmm hac HA
    by_cases hb8:128<=bn
    ·rw[if_pos hb8,hx1 hb8,HA2.out] at hstep
     have y1:(128:Int)<=(bn:Int):=by omega
     have q9:((i:Int) == 9)=false:=by simp;omega
     have hi8:i<=8:=by omega
     have HI8:=aB hi8
     have HS:=aB hstep
     clear hstep hx1 hx2 h91 h9 hb8 hb255 hi8 hi hi9 hin
     go_wp2_with fail
     go_round
     case rel=>exact⟨ac,i+1,rfl,by simp,by have:=HIN.out;omega,by have:=HI8.out;omega,aB ⟨HAC,HS⟩⟩
     case measure =>
      have:=HIN.out
      simp only[intOf]
      omega
    ·rw[if_neg hb8,hx2 hb8,HA2.out] at hstep
     have y2:¬ (128:Int)<=(bn:Int):=by omega
     by_cases hz:bn=0/\0<i
     ·rw[if_pos hz] at hstep
      obtain⟨hz0,hzi⟩:=hz
      have z0:((bn:Int) == 0)=true:=by simp;omega
      have z1:(0:Int)<(i:Int):=by omega
      have HS:=aB hstep
      by_cases h9i:i=9
      ·have q9:((i:Int) == 9)=true:=by simp;omega
       have q1:=y1 h9i
       clear hstep hx1 hx2 h91 h9 hb8 hb255 hi hi9 hin hz0 hzi y1 h9i
       go_wp2_with fail
       refine bodyPost_ret (v:=.tuple #[.int .u64 0,.int .i64 0,.int .i64 21]) (by simp[results,Tryz.results117,go_sem]) rfl ⟨.inr ⟨HS,21,by decide,rfl⟩,rfl⟩
      ·have q9:((i:Int) == 9)=false:=by simp;omega
       clear hstep hx1 hx2 h91 h9 hb8 hb255 hi hi9 hin hz0 hzi y1 h9i
       go_wp2_with fail
       refine bodyPost_ret (v:=.tuple #[.int .u64 0,.int .i64 0,.int .i64 21]) (by simp[results,Tryz.results117,go_sem]) rfl ⟨.inr ⟨HS,21,by decide,rfl⟩,rfl⟩
     ·rw[if_neg hz] at hstep
      have HS:=aB hstep
      have HL2:=HL.out
      have hok:∃ (v k:Nat) (t:List UInt8),Fb bs=some (v,t)/\t=bs.drop k/\0<k/\k<=bs.length/\Ending.returned (.tuple #[.int .u64 ac,.int .i64 ((i:Int)+1),.int .i64 0])=.returned (.tuple #[.int .u64 v,.int .i64 k,.int .i64 0]) :=
       ⟨ac,i+1,_,hstep,rfl,by omega,by omega,by simp⟩
      have HOK:=aB hok
      clear HL2 hok
      by_cases hb0:bn=0
      ·have z0:((bn:Int) == 0)=true:=by simp;omega
       have z1:¬ (0:Int)<(i:Int):=by omega
       have q9:((i:Int) == 9)=false:=by simp;omega
       clear hstep hx1 hx2 h91 h9 hb8 hb255 hi hi9 hin hz y1 hb0
       go_wp2_with fail
       refine bodyPost_ret (v:=.tuple #[.int .u64 ac,.int .i64 ((i:Int)+1),.int .i64 0]) (by simp[results,Tryz.results117,go_sem]) rfl ⟨.inl HOK,rfl⟩
      ·have z0:((bn:Int) == 0)=false:=by simp;omega
       by_cases h9i:i=9
       ·have q9:((i:Int) == 9)=true:=by simp;omega
        have q1:=y1 h9i
        clear hstep hx1 hx2 h91 h9 hb8 hb255 hi hi9 hin hz y1 h9i hb0
        go_wp2_with fail
        refine bodyPost_ret (v:=.tuple #[.int .u64 ac,.int .i64 ((i:Int)+1),.int .i64 0]) (by simp[results,Tryz.results117,go_sem]) rfl ⟨.inl HOK,rfl⟩
       ·have q9:((i:Int) == 9)=false:=by simp;omega
        clear hstep hx1 hx2 h91 h9 hb8 hb255 hi hi9 hin hz y1 h9i hb0
        go_wp2_with fail
        refine bodyPost_ret (v:=.tuple #[.int .u64 ac,.int .i64 ((i:Int)+1),.int .i64 0]) (by simp[results,Tryz.results117,go_sem]) rfl ⟨.inl HOK,rfl⟩
  ·have hie:i=n:=by omega
   have y0:¬ (i:Int)<(n:Int):=by omega
   have hno:Fb bs=none:=by
    rw[HN.2,qJc (by rw[HL.out];omega)]
    rfl
   have HNO:=aB hno
   clear hno hie hin hi
   go_wp2_with fail
   refine bodyPost_ret (v:=.tuple #[.int .u64 0,.int .i64 0,.int .i64 20]) (by simp[results,Tryz.results117,go_sem]) rfl ⟨.inr ⟨HNO,20,by decide,rfl⟩,rfl⟩
structure pQ(w:World)(p:Nat)(A:Option Addr)(n c:Nat)(bs:List UInt8)(e:Int):Prop where
 blk:aL w p 214 #[.slice A n c,.int .i64 e]
 rd:gL w 5 1 A n (bs.map bG)
 len:bs.length=n
 le:n<=c
 mx:c<=maxLen
theorem pQ.touch{S:Nat->Prop}(h:pQ w p A n c bs e)(T:aC S w w')(h1:¬ S p)(h2:∀ g,bQ w g 5 -> ¬ S g):pQ w' p A n c bs e :=
 ⟨h.blk.touch T h1,h.rd.touch T h2,h.len,h.le,h.mx⟩
theorem pQ.quiet(h:pQ w p A n c bs e)(T:aC (λ_=>False) w w'):pQ w' p A n c bs e:=h.touch T (λf=>f) (λ_ _ f=>f)
theorem pQ.fail(h:pQ w p A n c bs e)(k:Int):pQ (w.setCell ⟨p,1,none⟩ (.int .i64 k)) p A n c bs k :=
 ⟨h.blk.set_ 1 _,h.rd.touch ((aC.refl (λg=>g=p) w).setCell (λ_=>rfl) _) (λ_ hg e=>hg.ne (aG h.blk) (by decide) e),h.len,h.le,h.mx⟩
theorem pQ.step(h:pQ w p A n c bs e){k:Nat}(hk:k<=n) :
  pQ (w.setCell ⟨p,0,none⟩ (.slice (if c=k then A else A.map (·.add k)) (n-k) (c-k))) p (if c=k then A else A.map (·.add k)) (n-k) (c-k) (bs.drop k) e:=by
 have T:aC (λg=>g=p) w (w.setCell ⟨p,0,none⟩ (.slice (if c=k then A else A.map (·.add k)) (n-k) (c-k))):=(aC.refl (λg=>g=p) w).setCell (λ_=>rfl) _
 have hr:=h.rd.touch T (λ_ hg e=>hg.ne (aG h.blk) (by decide) e)
 refine⟨h.blk.set_ 0 _,⟨?_,?_⟩,by rw[List.length_drop,h.len],by have:=h.le;omega,by have:=h.mx;omega⟩
 ·have:=hr.rd.cut hk h.le
  rw[Nat.mul_one] at this
  rw[List.map_drop]
  exact this
 ·intro hn g hg
  refine hr.ty (by omega) g ?_
  split at hg
  ·exact hg
  ·cases A with
   | none=>cases hg
   | some a =>
    simp only[aJ,Option.map_some,Option.some.injEq] at hg ⊢
    rw[<-hg]
    unfold Addr.add
    split<;>rfl
def Kr(p most:Nat)(A:Option Addr)(n c:Nat)(bs:List UInt8)(w:World)(e:Ending)(w':World):Prop :=
 (∃ (v:Nat) (t:List UInt8) (A':Option Addr) (n' c':Nat),fC most bs=some (v,t)/\e=.returned (.int .u64 v)/\pQ w' p A' n' c' t 0/\aC (λg=>g=p) w w') \/
 (fC most bs=none/\e=.returned (.int .u64 0)/\∃ k:Int,1<=k/\pQ w' p A n c bs k/\aC (λg=>g=p) w w')
theorem Vc(w:World)(p:Nat)(A:Option Addr)(n c:Nat)(bs:List UInt8)(h:pQ w p A n c bs 0)(most:Nat) :
  Calls Tryz.prog 57 #[.pointer (some ⟨p,0,none⟩),.int .u64 most] w λe w'=>Kr p most A n c bs w e w':=by
 have HR:=aB h
 have hnm:n<=maxLen:=qZb h.le h.mx
 have HN:=aB (Ct w A n c bs h.rd.rd h.len hnm)
 obtain⟨f0,f1,f2⟩:=h.blk.facts
 have hle:=h.le
 have hmx:=h.mx
 unfold maxLen at hmx
 clear h hnm
 go_in
 go_wp2_with fail
 refine HN.mono ?_
 rintro e w1 ⟨hnv,rfl⟩
 rcases hnv with⟨v,k,t,h1,h2,hk0,hk,rfl⟩ | ⟨h1,c',hc',rfl⟩
 ·rw[HR.len] at hk
  by_cases hm:v<=most
  ·have hu:fC most bs=some (v,t):=by
    unfold fC
    rw[h1]
    simp only
    rw[if_pos hm]
   have y0:¬ (most:Int)<(v:Int):=by omega
   have hst:=HR.step hk
   rw[<-h2] at hst
   have HST:=aB hst
   have HU:=aB hu
   obtain⟨g,o,hA,_,_⟩:=HR.rd.rd.form (by omega)
   subst hA
   clear h1 h2 hst hu hm
   by_cases hck:c=k
   ·rw[if_pos hck] at HST
    subst hck
    have hnc:n=c:=by omega
    subst hnc
    simp only[Nat.sub_self] at HST
    go_wp2_with fail
    go_ret
    exact .inl ⟨v,t,_,_,_,HU,rfl,HST,(aC.refl (λg=>g=p) w1).setCell (λ_=>rfl) _⟩
   ·rw[if_neg hck] at HST
    simp only[Option.map_some,Addr.add_lit] at HST
    have hck1:¬ (c:Int)=(k:Int):=by omega
    go_wp2_with fail
    go_ret
    exact .inl ⟨v,t,_,_,_,HU,rfl,HST,(aC.refl (λg=>g=p) w1).setCell (λ_=>rfl) _⟩
  ·have hu:fC most bs=none:=by
    unfold fC
    rw[h1]
    simp only
    rw[if_neg hm]
   have y0:(most:Int)<(v:Int):=by omega
   have HU:=aB hu
   clear h1 h2 hu hm
   go_wp2_with fail
   go_ret
   exact .inr ⟨HU,rfl,22,by decide,HR.fail 22,(aC.refl (λg=>g=p) w1).setCell (λ_=>rfl) _⟩
 ·have hu:fC most bs=none:=by
   unfold fC
   rw[h1]
  have HU:=aB hu
  have y0:(c' == 0)=false:=by simp;omega
  have y1:¬ c'=0:=by omega
  clear h1 hu
  go_wp2_with fail
  go_ret
  exact .inr ⟨HU,rfl,c',by omega,HR.fail c',(aC.refl (λg=>g=p) w1).setCell (λ_=>rfl) _⟩
theorem Jf(w:World)(p:Nat)(A:Option Addr)(n c:Nat)(bs:List UInt8)(k:Int)(h:pQ w p A n c bs k) :
  Calls Tryz.prog 115 #[.pointer (some ⟨p,0,none⟩)] w λe w'=>e=.returned (.int .i64 k)/\w'=w:=by
 obtain⟨f0,f1,f2⟩:=h.blk.facts
 clear h
 go_in
 go_wp2_with fail
 go_ret
 exact⟨rfl,rfl⟩
theorem aCh(w:World)(p:Nat)(A:Option Addr)(n c:Nat)(bs:List UInt8)(k:Int)(h:pQ w p A n c bs k) :
  Calls Tryz.prog 158 #[.pointer (some ⟨p,0,none⟩)] w λe w'=>e=.returned (.int .i64 n)/\w'=w:=by
 obtain⟨f0,f1,f2⟩:=h.blk.facts
 clear h
 go_in
 go_wp2_with fail
 go_ret
 exact⟨rfl,rfl⟩
def Zp(n:Nat)(k x:Int):Prop:=(x=0↔k=0/\n=0)
theorem Ub(w:World)(p:Nat)(A:Option Addr)(n c:Nat)(bs:List UInt8)(k:Int)(h:pQ w p A n c bs k) :
  Calls Tryz.prog 59 #[.pointer (some ⟨p,0,none⟩)] w λe w'=>∃ x:Int,e=.returned (.int .i64 x)/\Zp n k x/\w'=w:=by
 obtain⟨f0,f1,f2⟩:=h.blk.facts
 clear h
 have hc:(k=0/\0<n)\/(k=0/\n=0)\/k≠0:=by omega
 go_in
 rcases hc with⟨rfl,hn⟩ | ⟨rfl,rfl⟩ | hk
 ·have y0:(0:Int)<(n:Int):=by omega
  go_wp2_with fail
  go_ret
  exact⟨23,rfl,by unfold Zp;omega,rfl⟩
 ·go_wp2_with fail
  go_ret
  exact⟨0,rfl,by unfold Zp;omega,rfl⟩
 ·have y0:(k == 0)=false:=by simp;omega
  go_wp2_with fail
  go_ret
  exact⟨k,rfl,by unfold Zp;omega,rfl⟩
theorem Ng(w:World)(e:TypeId)(size:Nat):(w.alloc (.cells #[] e)).ownsRow 0 e size (.slice (some ⟨w.heap.size,0,none⟩) 0 0) 0 [] :=
 ⟨by simp,.inr ⟨w.heap.size,0,#[],rfl,qZa _,heap_alloc_new _ _,qQb _,qZa _,by simp,by simp⟩⟩
theorem sI(w:World)(a:Option Addr)(l c:Nat):(binOp .eql 50 (.slice a l c) (.slice none 0 0)).run Tryz.prog w=.ok (.bool a.isNone) w:=by
 simp only[binOp]
 simp[run_equal_slice_nil (P:=Tryz.prog) w 50 5 a l c Tryz.underlying50]
theorem Bh(w:World)(A:Option Addr)(n c:Nat)(bs:List UInt8)(hr:aH w 1 A n (bs.map bG))(hl:bs.length=n)(hn:n<=35184372088832) :
  Calls Tryz.prog 114 #[.slice A n c] w λe w'=>∃ (A':Option Addr) (n' c':Nat),e=.returned (.slice A' n' c')/\n'=n/\fS 5 1 w w' (.slice A' n' c') n' (bs.map bG):=by
 cases A with
 | none =>
  have h0:n=0:=by
   rcases Nat.eq_zero_or_pos n with h | h
   ·exact h
   ·obtain⟨b,o,hA,_⟩:=hr.2 h
    cases hA
  subst h0
  have:bs=[]:=List.length_eq_zero_iff.1 hl
  subst this
  have hmn:=λwx=>sI wx none 0 c
  clear hl hr hn
  go_in
  go_wp2_with fail
  go_ret
  exact⟨none,0,0,rfl,rfl,fS.nil _ _ _⟩
 | some a =>
  obtain⟨i1,hi1,hy0,hy1,hy2⟩:=aQ kD
  have HC:=aB (Fd bs)
  have hO:=Ng w 5 1
  have HO:=aB hO
  have hT:aC (λ_=>False) w (w.alloc (.cells #[] 5)):=(aC.refl _ _).alloc _
  have HT:=aB hT
  have hb1:0+n<=maxLen:=by unfold maxLen;omega
  have hb2:(0+n)*1<=140737488355328:=by omega
  have HB:=aB (And.intro hb1 hb2)
  have HRD:=aB (hr.touch hT (λ_ _ f=>f))
  have hmn:=λwx=>sI wx (some a) n c
  clear hr hO hT hb1 hb2 hn hl
  go_in
  go_wp2_with (at_builtin;refine aP _ rfl (.tmp 5) (.tmp 6) 50 rfl 5 i1 _ 1 1 Tryz.underlying50 hi1 hy0 hy1 hy2 rfl (by decide) (.slice (some ⟨w.heap.size,0,none⟩) 0 0) 0 _ rfl HO (some a) n c (bs.map bG) rfl HRD (λh=>by cases h) HC HB.1 HB.2 ?_;intro v1 w10 O10 G10 F10 _;rw[Nat.zero_add,List.nil_append] at O10;obtain⟨A2,c2,hv,_,_⟩:=aS O10;subst hv;have HO10:=aB O10;have HG:=aB G10;have HF:=aB F10;clear O10 G10 F10)
  go_ret
  refine⟨A2,n,c2,rfl,rfl,HO10,HT.trans ((aC.refl (λy=>y=w.heap.size) _).grown HG (λk hk _=>by injection hk with hk;exact hk.symm)) (λi hi e=>by omega),λg hg2=>?_⟩
  rcases HF.out with h | ⟨g2,h,hle⟩
  ·rw[hg2] at h
   injection h with h
   have h2:g=w.heap.size:=h
   omega
  ·rw[hg2] at h
   injection h with h
   have:=HT.size
   omega
theorem Nl(w:World)(A:Option Addr)(n c:Nat)(bs:List UInt8)(hr:aH w 1 A n (bs.map bG))(hl:bs.length=n)(hn:n<=35184372088832) :
  Calls Tryz.prog 54 #[.slice A n c] w λe w'=>∃ (p:Nat) (A':Option Addr) (n' c':Nat),e=.returned (.pointer (some ⟨p,0,none⟩))/\pQ w' p A' n' c' bs 0/\w.heap.size<=p/\aC (λ_=>False) w w':=by
 have HC:=aB (Bh w A n c bs hr hl hn)
 have HL:=aB hl
 clear hr hl
 go_in
 go_wp2_with fail
 refine HC.mono ?_
 rintro e w1 ⟨A',n',c',rfl,hn',hx⟩
 subst hn'
 have HX:=aB hx
 have HXT:=aB hx.touch
 clear hx
 go_wp2_with fail
 go_ret
 refine⟨_,A',_,c',rfl,⟨aL.new _ _ _,(gL.of_own HX.own).quiet ((aC.refl _ _).alloc _),HL,?_,?_⟩,HXT.size,HXT.alloc _⟩
 ·have:=fY HX.own;omega
 ·have:=fY HX.own;omega
end Go.Proofs.YthockgmbooefpaaGreatDoor
