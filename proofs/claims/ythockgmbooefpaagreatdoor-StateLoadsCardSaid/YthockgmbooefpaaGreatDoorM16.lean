/- What the law rests on, part 16. No condition but those that each theorem names. -/
import Derived.Test.YthockgmbooefpaaGreatDoorM15
import Derived.Test.YthockgmbooefpaaGreatDoorM04
import Derived.Test.YthockgmbooefpaaGreatDoorM06
import Derived.Test.YthockgmbooefpaaGreatDoorM03
import Derived.Deep.AppendLies
import Derived.Test.YthockgmbooefpaaGreatDoorM11
set_option linter.unusedSectionVars false
set_option linter.unusedSimpArgs false
set_option linter.unusedVariables false
set_option maxRecDepth 100000
set_option maxHeartbeats 8000000
namespace Go.Proofs.YthockgmbooefpaaGreatDoor
open IntWalk renaming i64_in → qXa
open List renaming length_map → qQa, getD → qZa, length_append → qJa, map_append → qZb, length_cons → qXb, length_nil → qJb, mem_append → qQc, mem_singleton → qZc, all_eq_true → qXc, nil_append → qJc, flatMap_cons → qQd, foldl_cons → qZd, map_map → qJd, mem_map → qQe, drop_eq_getElem_cons → qJe, drop_of_length_le → qQf, exists_mem_of_ne_nil → qXf
open Nat renaming zero_le → qQb
variable{L:List aE}{n:Nat}{A:Option Addr}{v v':Value}{w w9 wq:World}
open Go.RowKit
def Kz(L:List aE)(w:World)(e:Ending)(w':World):Prop:=aC (λ_=>False) w w' /\
 ((eK L=false/\∃ k:Int,70<=k/\e=.returned (.tuple #[.agg #[.int .i64 0,.slice none 0 0],.int .i64 k])) \/
   (eK L=true/\∃ (A:Option Addr) (n c:Nat) (Z:List SV),e=.returned (.tuple #[.agg #[.int .i64 (bB L).base,.slice A n c],.int .i64 0])/\eC w' A n Z/\Z.map SV.p=(bB L).states/\n<=c))
theorem lC{wr:World}{R:Nat}(hR:w.heap.size<=R)(T:aC (λ_=>False) w wr)(a b:Value):aC (λ_=>False) w ((wr.setCell ⟨R,0,none⟩ a).setCell ⟨R,1,none⟩ b):=by
 iterate 2 refine aC.setCell ?_ (λh=>by simp only at h;omega) _
 exact T
theorem cH{P:Program}{ops:Array Oper}{C:World->Prop}{Q:Act->Prop}{o:Oper}{l:List Oper}{a:Act}:wpQuiet P ops C Q (o :: l) a=(if Region.wanted o (yielded ops a.tmps) then o.quiet P a C (wpQuiet P ops C Q l) else wpQuiet P ops C Q l (a.put o.dst undef)):=rfl
theorem Mn(w:World)(s:SL)(hs:s.Ok w)(hWz:∀ r∈s.L,r.word.size<=1099511627776)(hm:s.n<=maxLen) :
  Calls Tryz.prog 168 #[s.val] w λe w'=>Kz s.L w e w':=by
 have hWf:∀ r∈s.L,r.Wf:=λr hr=>by have:=hWz r hr;unfold aE.Wf;omega
 obtain⟨w0,hw0⟩:=eX (w.alloc (.cells #[.int .i64 0,.slice none 0 0] 89))
 have hT0:aC (λ_=>False) w w0:=by rw[hw0];exact (aC.refl _ _).alloc _
 have hbR:aL w0 w.heap.size 89 #[.int .i64 0,.slice none 0 0]:=by rw[hw0];exact aL.new _ _ _
 have HMK:Hid (∀ wx,aC (λ_=>False) w wx->cA s.L->Calls Tryz.prog 66 #[s.val] wx λe w'=>∃ A n c Z,e=.returned (.agg #[.int .i64 (bB s.L).base,.slice A n c])/\eC w' A n Z/\Z.map SV.p=(bB s.L).states/\n<=c/\c<=maxLen/\aC (λ_=>False) wx w'):=aB (λwx T hD=>Wk wx s (hs.touch T) hD hWz)
 obtain⟨R,hR⟩:=eX w.heap.size
 rw[<-hR] at hbR
 have HRR:=aB (show w.heap.size<=R by omega)
 have HRE:=aB hR
 have HW0:=aB hw0
 have HT0:=aB hT0
 have HBR:=aB hbR
 have hs0:=hs.touch hT0
 clear hw0 hbR hR
 obtain⟨A,n,c,L⟩:=s
 have HR:=aB hs0.reads
 have HLN:=aB hs.len
 have HWF:=aB hWf
 clear hs hWf hs0 hT0 hWz
 simp only[SL.val] at HMK ⊢
 simp only at HR HLN HWF hm
 unfold maxLen at hm
 by_cases hbig:n<=4096
 ·have i0:¬ (4096:Int)<(n:Int):=by omega
  have HBIG:=aB hbig
  clear hbig
  go_in
  go_wp2_with fail
  rw[<-HW0.out]
  try rw[<-HRE.out]
  go_loopw [4] (λiv wr=>∃ i:Nat,iv=.int .i64 i/\i<=n/\Hid (∀ j,j<i->Hf L j=true)/\Hid (aC (λ_=>False) w0 wr)) (λiv _=>n-(intOf iv).toNat)
  case atStart=>exact⟨0,rfl,qQb _,aB (λj hj=>by omega),aB (aC.refl _ _)⟩
  case round =>
   obtain⟨i,rfl,hin',HA,HT⟩:=hrel
   by_cases hin:i<n
   ·have y0:(i:Int)<(n:Int):=by omega
    have y1:(0:Int)<=(i:Int):=by omega
    have hpr:=iC HR.out HLN.symm i hin
    obtain⟨g,o,hA,hg,a0,a1⟩:=hpr
    subst hA
    have hfit:=rU L i
    have hwf:=HWF.out _ (pH L i (by rw[HLN.out];exact hin))
    obtain⟨⟨xw,xn⟩,hx⟩:∃ x,x=L.getD i aE.zero:=⟨_,rfl⟩
    rw[<-hx] at a0 a1 hfit hwf
    simp only at a0 a1 hfit
    simp only[aE.Wf] at hwf
    have hno:=λh=>pK (L:=L) (i:=i) (by rw[HLN.out];exact hin) h
    have HA0:=aB (And.intro a0 (And.intro a1 hg))
    have HFIT:=aB hfit
    have HNO:=aB hno
    have HWFX:=aB hwf
    have b0:=(HT.cell (a:=⟨g,o+i*2,none⟩) hg (λf=>f)).trans a0
    clear a0 a1 hg hx hfit hno hwf
    cases hwv:cD xw.toList with
    | false =>
     have HWV:=aB hwv
     clear hwv
     go_wp2_with fail
     refine (Jc xw false HWV HWFX wr).mono ?_
     rintro e w2 ⟨rfl,T2⟩
     have HT2:=aB (HT.then T2)
     clear T2
     have hTe:=HT2.out
     have hbE:=HBR.touch hTe (λf=>f)
     obtain⟨r0,r1,r2⟩:=hbE.facts
     go_wp2_with fail
     have hbF:=(hbE.set_ 0 (.int .i64 0)).set_ 1 (.slice none 0 0)
     have g0:=hbF.cell 0
     have g1:=hbF.cell 1
     exact bodyPost_ret (v:=.tuple #[.agg #[.int .i64 0,.slice none 0 0],.int .i64 71]) (by simp[results,Tryz.results168,go_sem,g0,g1]) rfl ⟨lC HRR (HT0.then hTe) _ _,.inl ⟨HNO (by rw[HFIT.out,HWV.out];simp),71,by decide,rfl⟩⟩
    | true =>
     have HWV:=aB hwv
     clear hwv
     go_wp2_with fail
     refine (Jc xw true HWV HWFX wr).mono ?_
     rintro e w2 ⟨rfl,T2⟩
     have HT2:=aB (HT.then T2)
     clear T2
     have b1:=(HT2.cell (a:=⟨g,o+i*2+1,none⟩) HA0.2.2 (λf=>f)).trans HA0.2.1
     by_cases h1:xn<1
     ·have HH:=aB h1
      have hTe:=HT2.out
      have hbE:=HBR.touch hTe (λf=>f)
      obtain⟨r0,r1,r2⟩:=hbE.facts
      go_wp2_with fail
      have hbF:=(hbE.set_ 0 (.int .i64 0)).set_ 1 (.slice none 0 0)
      have g0:=hbF.cell 0
      have g1:=hbF.cell 1
      exact bodyPost_ret (v:=.tuple #[.agg #[.int .i64 0,.slice none 0 0],.int .i64 72]) (by simp[results,Tryz.results168,go_sem,g0,g1]) rfl ⟨lC HRR (HT0.then hTe) _ _,.inl ⟨HNO (by rw[HFIT.out];simp[show ¬ 1<=xn from λe=>by have:=HH.out;omega]),72,by decide,rfl⟩⟩
     ·by_cases h2:1048576<xn
      ·have HH:=aB h2
       have hTe:=HT2.out
       have hbE:=HBR.touch hTe (λf=>f)
       obtain⟨r0,r1,r2⟩:=hbE.facts
       go_wp2_with fail
       have hbF:=(hbE.set_ 0 (.int .i64 0)).set_ 1 (.slice none 0 0)
       have g0:=hbF.cell 0
       have g1:=hbF.cell 1
       exact bodyPost_ret (v:=.tuple #[.agg #[.int .i64 0,.slice none 0 0],.int .i64 72]) (by simp[results,Tryz.results168,go_sem,g0,g1]) rfl ⟨lC HRR (HT0.then hTe) _ _,.inl ⟨HNO (by rw[HFIT.out];simp[show ¬ xn<=1048576 from λe=>by have:=HH.out;omega]),72,by decide,rfl⟩⟩
      ·have HH1:=aB h1
       have HH2:=aB h2
       cases i with
       | zero =>
        go_wp2_with fail
        refine wp_region_quiet_lit (by kernel_rfl) (by kernel_rfl) ?_
        quiet_step (fail)
        quiet_step (fail)
        quiet_step (fail)
        rw[cH]
        go_simp
        rw[cH]
        go_simp
        rw[cH]
        go_simp
        rw[cH]
        go_simp
        rw[cH]
        go_simp
        rw[cH]
        go_simp
        rw[cH]
        go_simp
        rw[cH]
        go_simp
        rw[cH]
        go_simp
        rw[cH]
        go_simp
        rw[cH]
        go_simp
        rw[cH]
        go_simp
        rw[cH]
        go_simp
        quiet_step (fail)
        refine wpQuiet_nil ?_
        intro nq
        go_wp2_with fail
        go_roundw
        ·exact⟨1,rfl,by omega,aB (λj hj=>by
          obtain rfl:j=0:=by omega
          rw[HFIT.out,HWV.out]
          have h1:=HH1.out
          have h2:=HH2.out
          simp[show 1<=xn by omega,show xn<=1048576 by omega]),aB (HT2.drewN _)⟩
        ·simp[intOf]
         omega
       | succ m =>
        obtain⟨g',o',hA,_,z0,_⟩:=iC HR.out HLN.symm m (by omega)
        injection hA with hA
        injection hA with hA1 hA2
        subst hA1 hA2
        have hfx:=HFIT.out
        rw[HWV.out,Nat.add_sub_cancel] at hfx
        have hwf2:=HWF.out _ (pH L m (by rw[HLN.out];omega))
        obtain⟨⟨yw,yn⟩,hy⟩:∃ y,y=L.getD m aE.zero:=⟨_,rfl⟩
        rw[<-hy] at z0 hfx hwf2
        simp only at z0 hfx
        simp only[aE.Wf] at hwf2
        have HFX:=aB hfx
        have HWFY:=aB hwf2
        have HZ0:=aB z0
        have HY2:=aB ((HT2.cell (a:=⟨g,o+m*2,none⟩) HA0.2.2 (λf=>f)).trans z0)
        have HX2:=aB ((HT2.cell (a:=⟨g,o+(m+1)*2,none⟩) HA0.2.2 (λf=>f)).trans HA0.1)
        have HG2:Hid (g<w2.heap.size):=aB (Nat.lt_of_lt_of_le HA0.2.2 HT2.size)
        clear hy hfx hwf2 z0
        have k2:IntKind.i64.wrap ((m:Int)+1-1)=(m:Int):=qXa _ (by omega) |>.trans (by omega)
        have k3:IntKind.i64.wrap (m:Int)=(m:Int):=qXa _ (by omega)
        have k4:(0:Int)<=(m:Int):=by omega
        have k5:(m:Int)<(n:Int):=by omega
        have k6:(0:Int)<(m:Int)+1:=by omega
        have k7:(0:Int)<=(m:Int)+1:=by omega
        cases hbl:Op.bytesLess yw.toList xw.toList with
        | false =>
         have HBL:=aB hbl
         clear hbl
         go_upto_region 11 with fail
         go_region_held3 (λw'=>w'.cell? ⟨g,o+m*2,none⟩=some (.string yw)/\w'.cell? ⟨g,o+(m+1)*2,none⟩=some (.string xw)/\aC (λ_=>False) w2 w')
          (first
            | exact tD HY2 HG2 HX2 HG2 (aC.refl _ _)
            | exact tD HY2 HG2 HX2 HG2 (aC.refl _ _).drew
            | (refine tD HY2 HG2 HX2 HG2 (aC.then ?_ (by assumption));first | assumption | exact oZ (by assumption) | exact (aC.refl _ _).drew | exact aC.refl _ _))
          (first
            | (go_at_call 46;refine (Dd yw xw false HBL HWFY HWFX _).mono ?_;rintro e w3 ⟨rfl,T3⟩))
         all_goals
          have hTe:=HT2.then (oZ (by assumption))
          have hbE:=HBR.touch hTe (λf=>f)
          obtain⟨r0,r1,r2⟩:=hbE.facts
          go_wp2_with fail
          have hbF:=(hbE.set_ 0 (.int .i64 0)).set_ 1 (.slice none 0 0)
          have g0:=hbF.cell 0
          have g1:=hbF.cell 1
          exact bodyPost_ret (v:=.tuple #[.agg #[.int .i64 0,.slice none 0 0],.int .i64 73]) (by simp[results,Tryz.results168,go_sem,g0,g1]) rfl ⟨lC HRR (HT0.then hTe) _ _,.inl ⟨HNO (by rw[HFX.out,HBL.out];simp),73,by decide,rfl⟩⟩
        | true =>
         have HBL:=aB hbl
         clear hbl
         go_upto_region 11 with fail
         go_region_held3 (λw'=>w'.cell? ⟨g,o+m*2,none⟩=some (.string yw)/\w'.cell? ⟨g,o+(m+1)*2,none⟩=some (.string xw)/\aC (λ_=>False) w2 w')
          (first
            | exact tD HY2 HG2 HX2 HG2 (aC.refl _ _)
            | exact tD HY2 HG2 HX2 HG2 (aC.refl _ _).drew
            | (refine tD HY2 HG2 HX2 HG2 (aC.then ?_ (by assumption));first | assumption | exact oZ (by assumption) | exact (aC.refl _ _).drew | exact aC.refl _ _))
          (first
            | (go_at_call 46;refine (Dd yw xw true HBL HWFY HWFX _).mono ?_;rintro e w3 ⟨rfl,T3⟩))
         all_goals
          go_wp2_with fail
          go_roundw
          ·exact⟨m+1+1,by simp,by omega,aB (λj hj=>by
            by_cases hj2:j=m+1
            ·subst hj2
             have h1:=HH1.out
             have h2:=HH2.out
             rw[HFX.out,HBL.out]
             simp[show 1<=xn by omega,show xn<=1048576 by omega]
            ·exact HA j (by omega)),aB (HT2.then (oZ (by assumption)))⟩
          ·simp[intOf]
           omega
   ·have hall:=nN (L:=L) (by rw[HLN.out];exact HBIG) (λj hj=>HA.out j (by have:=HLN.out;omega))
    have HALL:=aB hall
    have HMK2:=aB (HMK wr (HT0.then HT) (jG hall))
    have y0:¬ (i:Int)<(n:Int):=by omega
    clear hall hin hin'
    go_wp2_with fail
    refine HMK2.mono ?_
    rintro e w5 ⟨A5,n5,c5,Z,rfl,hst,hz,hnc,_,T5⟩
    have hbE:=HBR.touch (HT.then T5) (λf=>f)
    obtain⟨r0,r1,r2⟩:=hbE.facts
    have HST:=aB hst
    have HZ:=aB hz
    have HNC:=aB hnc
    have HBE:=aB hbE
    have HT5:=aB (HT0.then (HT.then T5))
    obtain⟨bs,hbs⟩:∃ b,(bB L).base=b:=⟨_,rfl⟩
    rw[hbs]
    have HBS:=aB hbs
    clear hst hz hnc hbE T5 HMK2 hbs
    go_wp2_with fail
    have hbF:=(HBE.set_ 0 (.int .i64 bs)).set_ 1 (.slice A5 n5 c5)
    have g0:=hbF.cell 0
    have g1:=hbF.cell 1
    have hTR:aC (λg=>g=R) w5 ((w5.setCell ⟨R,0,none⟩ (.int .i64 bs)).setCell ⟨R,1,none⟩ (.slice A5 n5 c5)) :=
     ((aC.refl (λg=>g=R) w5).setCell (p:=⟨R,0,none⟩) (λ_=>rfl) _).setCell (p:=⟨R,1,none⟩) (λ_=>rfl) _
    have hfin:eC ((w5.setCell ⟨R,0,none⟩ (.int .i64 bs)).setCell ⟨R,1,none⟩ (.slice A5 n5 c5)) A5 n5 Z :=
     ⟨HST.rd.touch hTR (λg hg e=>hg.ne (aF HBE) (by decide) e),HST.len,λz hz=>(HST.el z hz).touch hTR (λg hg e=>hg.ne (aF HBE) (by decide) e)⟩
    exact bodyPost_ret (v:=.tuple #[.agg #[.int .i64 bs,.slice A5 n5 c5],.int .i64 0]) (by simp[results,Tryz.results168,go_sem,g0,g1]) rfl ⟨lC HRR HT5 _ _,.inr ⟨HALL,A5,n5,c5,Z,by rw[HBS.out],hfin,HZ,HNC⟩⟩
 ·have i0:(4096:Int)<(n:Int):=by omega
  have HALL:=aB (vH (L:=L) (by rw[HLN.out];exact hbig))
  clear hbig
  go_in
  go_wp2_with fail
  rw[<-HW0.out]
  try rw[<-HRE.out]
  have g0:=HBR.cell 0
  have g1:=HBR.cell 1
  exact bodyPost_ret (v:=.tuple #[.agg #[.int .i64 0,.slice none 0 0],.int .i64 70]) (by simp[results,Tryz.results168,go_sem,g0,g1]) rfl ⟨HT0,.inl ⟨HALL,70,by decide,rfl⟩⟩
section
variable[Inhabited eF]
structure lI where
 A:Option Addr
 q:Nat
 c:Nat
 O:List Int
 wt:Int
def lI.cells(r:lI):List Value:=[.slice r.A r.q r.c,.int .i64 r.wt]
def lI.p(r:lI):List Int × Int:=(r.O,r.wt)
structure lI.Ok(r:lI)(w:World):Prop where
 len:r.O.length=r.q
 rd:fM w 21 1 r.A r.q (r.O.map iV)
def gI(V:List lI):List Value:=V.flatMap lI.cells
theorem lI.Ok.touch{r:lI}{w':World}{S:Nat->Prop}(h:r.Ok w)(T:aC S w w')(hS:∀ g,bE w g 21 -> ¬ S g):r.Ok w':=⟨h.len,h.rd.touch T hS⟩
def Nt:iS:=⟨false,0,[]⟩
abbrev Wz:=List Int × Int
def wC(sts:List iS):Nat->Nat->List Int->Int->List Wz->List Wz
 | 0,_,_,_,fd=>fd
 | f+1,i,hd,sm,fd=>if 4096<fd.length then fd else if 24<hd.length then fd++[(hd,sm+(sts.getD i Nt).out)] else
   (sts.getD i Nt).arcs.foldl (λfd a=>wC sts f a.2.2.toNat (hd++[a.1]) (sm+a.2.1) fd) (if (sts.getD i Nt).fin=true then fd++[(hd,sm+(sts.getD i Nt).out)] else fd)
theorem Ga(sts:List iS):∀ (f i:Nat) (hd:List Int) (sm:Int) (fd:List Wz),fd.length<=4097->(wC sts f i hd sm fd).length<=4097
 | 0,_,_,_,_,h=>h
 | f+1,i,hd,sm,fd,h=>by
  simp only[wC]
  by_cases h1:4096<fd.length
  ·rw[if_pos h1];exact h
  ·rw[if_neg h1]
   by_cases h2:24<hd.length
   ·rw[if_pos h2];simp;omega
   ·rw[if_neg h2]
    have gen:∀ (l:List (Int × Int × Int)) (fd:List Wz),fd.length<=4097->(l.foldl (λfd a=>wC sts f a.2.2.toNat (hd++[a.1]) (sm+a.2.1) fd) fd).length<=4097:=by
     intro l
     induction l with
     | nil=>intro fd h;exact h
     | cons a l ih=>intro fd h;exact ih _ (Ga sts f _ _ _ _ h)
    refine gen _ _ ?_
    split
    ·simp;omega
    ·exact h
theorem aAh:(Tryz.prog.info? 21).map (λi=>(i.zero,i.size,i.bytes))=some (some (.int .i32 0),1,4):=by kernel_rfl
theorem Qx:(Tryz.prog.info? 236).map (λi=>(i.zero,i.size,i.bytes))=some (some (.agg #[.slice none 0 0,.int .i64 0]),2,32):=by kernel_rfl
theorem Cx(O:List Int):∀ u∈O.map iV,u.oneCell'=true:=by
 intro u hu
 obtain⟨_,_,rfl⟩:=List.mem_map.1 hu
 rfl
def Um(w:World)(fA:Option Addr)(fn fc:Nat)(res:List Wz)(e:Ending)(w':World):Prop :=
 ∃ (A':Option Addr) (n' c':Nat) (V':List lI),e=.returned (.slice A' n' c')/\w'.ownsRow 0 236 2 (.slice A' n' c') n' (gI V')/\V'.length=n'/\(∀ v∈V',v.Ok w')/\V'.map lI.p=res/\aC (λg=>(Value.slice fA fn fc).ownBlock=some g) w w'/\bJ w (.slice fA fn fc) (.slice A' n' c')
def aDd(Z:List ZV)(n f:Nat):Prop :=
 ∀ (w:World) (i:Nat) (hA:Option Addr) (hq hc:Nat) (hd:List Int) (sm:Int) (fA:Option Addr) (fn fc:Nat) (V:List lI) (base:Int) (A:Option Addr) (c:Nat),
  iT w A n Z->i<n->fM w 21 1 hA hq (hd.map iV)->(hA=none->hq=0/\hc=0)->hd.length=hq->hq<=25->25<f+hq->0<=sm->sm<=1048576*((hq:Int)+1) ->
  w.ownsRow 0 236 2 (.slice fA fn fc) fn (gI V)->V.length=fn->fn<=4097->(∀ v∈V,v.Ok w)->(∀ g,(Value.slice fA fn fc).ownBlock=some g->bs<=g)->bs<=w.heap.size ->
  Calls Tryz.prog 133 #[.agg #[.int .i64 base,.slice A n c],.int .i64 i,.slice hA hq hc,.int .i64 sm,.slice fA fn fc] w (Um w fA fn fc (wC (Z.map ZV.p) f i hd sm (V.map lI.p)))
theorem Ox{w3 w4:World}{fA A4:Option Addr}{fn fc c4:Nat}{V:List lI}{r:lI}(h:w3.ownsRow 0 236 2 (.slice fA fn fc) fn (gI V))(he:∀ v∈V++[r],v.Ok w3)(hl:V.length=fn)
  (O4:w4.ownsRow 0 236 2 (.slice A4 (fn+1) c4) (fn+1) (gI V++[.slice r.A r.q r.c,.int .i64 r.wt]))(G4:w3.grownBy w4 (Value.slice fA fn fc).ownBlock) :
  w4.ownsRow 0 236 2 (.slice A4 (fn+1) c4) (fn+1) (gI (V++[r]))/\(V++[r]).length=fn+1/\True/\∀ v∈V++[r],v.Ok w4:=by
 have T:aC (λg=>(Value.slice fA fn fc).ownBlock=some g) w3 w4:=(aC.refl _ _).grown G4 (λk hk _=>hk)
 refine⟨?_,by rw[qJa,hl];rfl,trivial,λv hv=>(he v hv).touch T (λg hg e=>hg.ne (aH h e) (by decide) rfl)⟩
 have e:gI (V++[r])=gI V++[.slice r.A r.q r.c,.int .i64 r.wt]:=by simp[gI,lI.cells]
 rw[e]
 exact O4
theorem iT.far{w':World}{Z:List ZV}{S:Nat->Prop}(h:iT w A n Z)(T:aC S w w')(h1:∀ g,OT w g 170 -> ¬ S g)(h2:∀ g,OT w g 173 -> ¬ S g):iT w' A n Z :=
 ⟨h.rd.touch T h1,h.len,λz hz=>(h.el z hz).touch T h2⟩
theorem yU{w6:World}{A6:Option Addr}{hq c6:Nat}{xs:List Value}{la:Int}{b0:Nat}(T6:aC (λ_=>False) wq w6)(_:w6.ownsRow 0 21 1 (.slice A6 hq c6) hq xs)(hf:∀ g,(Value.slice A6 hq c6).ownBlock=some g->wq.heap.size<=g\/b0=b0+1)
  (hg:((w6.alloc (.cells #[.int .i32 la] 21)).drew).grownBy w9 (Value.slice A6 hq c6).ownBlock):aC (λ_=>False) wq w9 :=
 ((T6.alloc _).drew).grown hg (λk hk hlt=>by rcases hf k hk with h | h<;>omega)
theorem Ib{g4 cap4 hq:Nat}{hd:List Int}{la:Int}(h:w9.ownsRow 0 21 1 (.slice (some ⟨g4,0,none⟩) (hq+1) cap4) (hq+1) (hd.map iV++[.int .i32 la])):w9.ownsRow 0 21 1 (.slice (some ⟨g4,0,none⟩) (hq+1) cap4) (hq+1) ((hd++[la]).map iV):=by
 rw[qZb]
 exact h
theorem uY{w5:World}{c:Nat}(hs:wq.heap.size<=w5.heap.size)(h:bJ w5 (.slice (some ⟨wq.heap.size,0,none⟩) n c) v):∀ g,v.ownBlock=some g->wq.heap.size<=g\/0=0+1:=by
 intro g hg
 rcases h with e | ⟨g2,e,hle⟩
 ·rw[e] at hg
  injection hg with hg
  exact .inl (by simp only at hg;omega)
 ·rw[e] at hg
  injection hg with hg
  exact .inl (by omega)
theorem yJ{w3:World}{a b:Value}(hs:w.heap.size<=w3.heap.size)(h:bJ w3 a b):bJ w a b:=by
 rcases h with h | ⟨g,h,hle⟩
 ·exact .inl h
 ·exact .inr ⟨g,h,by omega⟩
theorem Hj(hv:∀ g,v.ownBlock=some g->bs<=g)(hw:bs<=w.heap.size)(h:bJ w v v'):∀ g,v'.ownBlock=some g->bs<=g:=by
 intro g e
 rcases h with h | ⟨g2,h,hle⟩
 ·exact hv g (h ▸ e)
 ·rw[h] at e
  injection e with e
  omega
theorem uV{wS:World}(T:aC (λg=>v.ownBlock=some g) w wq)(T2:aC (λg=>v'.ownBlock=some g) wq wS)(h:bJ w v v'):aC (λg=>v.ownBlock=some g) w wS :=
 T.trans T2 (λk hk e=>by
  rcases h with h | ⟨g2,h,hle⟩
  ·rw[<-h];exact e
  ·rw[h] at e
   injection e with e
   omega)
theorem uW{v2:Value}(hs:w.heap.size<=w9.heap.size)(h:bJ w v v')(k:bJ w9 v' v2):bJ w v v2:=by
 rcases k with k | ⟨g2,k,hle⟩
 ·rcases h with h | ⟨g3,h,hle⟩
  ·exact .inl (k.trans h)
  ·exact .inr ⟨g3,k.trans h,hle⟩
 ·exact .inr ⟨g2,k,by omega⟩
theorem Np(Z:List ZV)(n f:Nat)(hrf:∀ j,j<n->uS j (Z.getD j bG).p)(hn:n<=98305)(ih:aDd Z n f):aDd Z n (f+1):=by
 intro w i hA hq hc hd sm fA fn fc V base A c hst hi hrd hnil hhl hq25 hfq hs0 hs1 hown hvl hfn hel hbf hbw
 have HBF:=aB hbf
 have HBW:=aB hbw
 clear hbf hbw
 obtain⟨i1,hi1,hy0,hy1,hy2⟩:=aO Qx
 obtain⟨i2,hi2,hz0,hz1,hz2⟩:=aO aAh
 by_cases hbig:4096<fn
 ·have hres:wC (Z.map ZV.p) (f+1) i hd sm (V.map lI.p)=V.map lI.p:=by
   simp only[wC]
   rw[if_pos (by rw[qQa,hvl];exact hbig)]
  rw[hres]
  have y0:(4096:Int)<(fn:Int):=by omega
  have HO:=aB hown
  have HEL:=aB hel
  have HVL:=aB hvl
  clear hst hrd hhl hown hel hvl hres hnil
  go_in
  go_wp2_with fail
  go_ret
  have T:aC (λ_=>False) w (w.alloc (.cells #[.int .i64 base,.slice A n c] 89)):=(aC.refl _ _).alloc _
  exact⟨fA,fn,fc,V,rfl,aD HO T (λ_ _ f=>f),HVL,λv hv=>(HEL v hv).touch T (λ_ _ f=>f),rfl,T.up _,.inl rfl⟩
 ·obtain⟨g,o,hAe,hgl,c0,c1,c2⟩:=iI hst.rd.rd hst.len i hi
  subst hAe
  have hzm:=aZ Z bG i (by rw[hst.len];exact hi)
  have hzo:=hst.el _ hzm
  have hform:=hrf i hi
  have hzp:(Z.map ZV.p).getD i Nt=(Z.getD i bG).p:=by simp[qZa,hst.len,hi]
  have hwc:wC (Z.map ZV.p) (f+1) i hd sm (V.map lI.p)=if 24<hq then V.map lI.p++[(hd,sm+(Z.getD i bG).p.out)] else
    (Z.getD i bG).p.arcs.foldl (λfd a=>wC (Z.map ZV.p) f a.2.2.toNat (hd++[a.1]) (sm+a.2.1) fd) (if (Z.getD i bG).p.fin=true then V.map lI.p++[(hd,sm+(Z.getD i bG).p.out)] else V.map lI.p):=by
   simp only[wC]
   rw[if_neg (by rw[qQa,hvl];exact hbig),hzp,hhl]
  obtain⟨z,hz⟩:∃ z,Z.getD i bG=z:=⟨_,rfl⟩
  rw[hz] at c0 c1 c2 hzo hform hwc
  obtain⟨fin,out,zA,zn,zc,arcs⟩:=z
  simp only[ZV.p] at c0 c1 c2 hform hwc
  have hwc2:wC (Z.map ZV.p) (f+1) i hd sm (V.map lI.p)=if 24<hq then V.map lI.p++[(hd,sm+out)] else arcs.foldl (λfd a=>wC (Z.map ZV.p) f a.2.2.toNat (hd++[a.1]) (sm+a.2.1) fd) (if fin=true then V.map lI.p++[(hd,sm+out)] else V.map lI.p):=hwc
  rw[hwc2]
  obtain⟨⟨ho0,ho1⟩,_,hj⟩:=hform
  simp only at ho0 ho1 hj
  have hal:=hzo.len
  simp only at hal
  obtain⟨w2,hw2⟩:=eX ((w.alloc (.cells #[.int .i64 base,.slice (some ⟨g,o,none⟩) n c] 89)).alloc (.cells #[.bool fin,.int .i64 out,.slice zA zn zc] 170))
  obtain⟨M,hM⟩:=eX w.heap.size
  obtain⟨S,hS⟩:=eX (w.heap.size+1)
  have hT2:aC (λ_=>False) w w2:=by rw[hw2];exact ((aC.refl _ _).alloc _).alloc _
  have hbM:aL w2 M 89 #[.int .i64 base,.slice (some ⟨g,o,none⟩) n c]:=by rw[hw2,hM];exact (aL.new _ _ _).alloc _
  have hbS:aL w2 S 170 #[.bool fin,.int .i64 out,.slice zA zn zc]:=by rw[hw2,hS];exact fU _ _ _ _
  have s0:IntKind.i64.wrap (sm+out)=sm+out:=qXa _ (by omega)
  have HST:=aB hst
  have HRD:=aB hrd
  have HHL:=aB hhl
  have HNIL:=aB hnil
  have HO:=aB hown
  have HVL:=aB hvl
  have HEL:=aB hel
  have HZO:=aB hzo
  have HJ:=aB hj
  have HAL:=aB hal
  have HW2:=aB hw2
  have HT2:=aB hT2
  have HBM:=aB hbM
  have HBS:=aB hbS
  have HMM:=aB hM
  have HSS:=aB hS
  have HIH:=aB ih
  have HOB:=aB (And.intro ho0 ho1)
  have HSM:=aB (And.intro hs0 hs1)
  have HFQ:=aB hfq
  have HFN:=aB hfn
  have x0:¬ (4096:Int)<(fn:Int):=by omega
  have hfn4:fn<=4096:=by omega
  clear hst hrd hhl hnil hown hvl hel hzo hj hal hw2 hT2 hbM hbS hM hS ih ho0 ho1 hs0 hs1 hfq hfn hwc hwc2 hz hzm hrf hbig hzp
  go_in
  have hsz2:w2.heap.size=w.heap.size+1+1:=by rw[HW2.out];simp
  have hT3:aC (λ_=>False) w2 (w2.alloc (.cells #[.slice hA hq hc,.int .i64 (sm+out)] 236)):=(aC.refl _ _).alloc _
  have hr3:aI (w2.alloc (.cells #[.slice hA hq hc,.int .i64 (sm+out)] 236)) 2 (some ⟨w.heap.size+1+1,0,none⟩) 1 [.slice hA hq hc,.int .i64 (sm+out)]:=by
   rw[<-hsz2]
   exact aI.new w2 _ _ 1 rfl
  have hone:∀ u∈([.slice hA hq hc,.int .i64 (sm+out)]:List Value),u.oneCell'=true:=List.all_eq_true.1 rfl
  have hbb:fn+1<=maxLen/\(fn+1)*32<=140737488355328:=by
   have:=HFN.out
   unfold maxLen
   omega
  have hT23:=HT2.then hT3
  have HO3:=aB (aD HO hT23 (λ_ _ f=>f))
  have HE3:Hid (∀ v∈V++[(⟨hA,hq,hc,hd,sm+out⟩:lI)],v.Ok (w2.alloc (.cells #[.slice hA hq hc,.int .i64 (sm+out)] 236))):=aB (by
   intro v hv
   rcases List.mem_append.1 hv with hv | hv
   ·exact (HEL v hv).touch hT23 (λ_ _ f=>f)
   ·rw[List.mem_singleton.1 hv]
    exact⟨HHL,HRD.quiet hT23⟩)
  have HT3:=aB (hT23.up (λg=>(Value.slice fA fn fc).ownBlock=some g))
  have HT3s:=aB hT23.size
  have HR3:=aB hr3
  have HONE:=aB hone
  have HBB:=aB hbb
  have HB3M:=aB (HBM.touch hT3 (λf=>f))
  have HB3S:=aB (HBS.touch hT3 (λf=>f))
  clear hsz2 hT3 hr3 hone hbb hT23
  by_cases h24:24<hq
  ·rw[if_pos h24]
   have y0:(24:Int)<(hq:Int):=by omega
   clear h24
   cases fin
   all_goals
    go_wp2_with (at_builtin;rw[<-HW2.out];refine aR _ rfl (.tmp 30) (.tmp 37) 225 rfl 236 i1 _ 2 32 Tryz.underlying225 hi1 hy0 hy1 hy2 rfl (by decide) (.slice fA fn fc) fn _ rfl HO3 (some ⟨w.heap.size+1+1,0,none⟩) 1 1 [.slice hA hq hc,.int .i64 (sm+out)] rfl HR3 (λh=>by cases h) HONE HBB.1 HBB.2 ?_;intro v1 w4 O4 G4 F4 _;obtain⟨A4,c4,hv,_,_⟩:=aX O4;subst hv;have hx:=Ox HO3 HE3 HVL O4 G4;have HO4:=aB hx.1;have HE4:=aB hx.2.2.2;have HV4:=aB hx.2.1;have HT4:=aB (HT3.grown G4 (λk hk _=>hk));have HF4:=aB (yJ HT3s F4);have HG4:=aB (aC.refl (λg=>(Value.slice fA fn fc).ownBlock=some g) _ |>.grown G4 (λk hk _=>hk));clear O4 G4 F4 hx)
    go_ret
    exact⟨A4,fn+1,c4,V++[⟨hA,hq,hc,hd,sm+out⟩],rfl,Hid.out HO4,Hid.out HV4,Hid.out HE4,by rw[qZb];rfl,HT4,HF4⟩
  ·rw[if_neg h24]
   have y0:¬ (24:Int)<(hq:Int):=by omega
   have HQ24:=aB h24
   clear h24
   obtain⟨RES,hres⟩:∃ r,arcs.foldl (λfd a=>wC (Z.map ZV.p) f a.2.2.toNat (hd++[a.1]) (sm+a.2.1) fd) (if fin=true then V.map lI.p++[(hd,sm+out)] else V.map lI.p)=r:=⟨_,rfl⟩
   rw[hres]
   have HFN2:=aB hfn4
   clear hfn4
   cases fin with
   | true =>
    rw[if_pos rfl] at hres
    have HRES:=aB hres
    clear hres
    go_wp2_with (at_builtin;rw[<-HW2.out];refine aR _ rfl (.tmp 30) (.tmp 37) 225 rfl 236 i1 _ 2 32 Tryz.underlying225 hi1 hy0 hy1 hy2 rfl (by decide) (.slice fA fn fc) fn _ rfl HO3 (some ⟨w.heap.size+1+1,0,none⟩) 1 1 [.slice hA hq hc,.int .i64 (sm+out)] rfl HR3 (λh=>by cases h) HONE HBB.1 HBB.2 ?_;intro v1 w4 O4 G4 F4 _;obtain⟨A4,c4,hv,_,_⟩:=aX O4;subst hv;have hx:=Ox HO3 HE3 HVL O4 G4;have HO4:=aB hx.1;have HE4:=aB hx.2.2.2;have HV4:=aB hx.2.1;have HT4:=aB (HT3.grown G4 (λk hk _=>hk));have HF4:=aB (yJ HT3s F4);have HG4:=aB (aC.refl (λg=>(Value.slice fA fn fc).ownBlock=some g) _ |>.grown G4 (λk hk _=>hk));clear O4 G4 F4 hx)
    go_loopw [4,12] (λfv iv wr=>∃ (j:Nat) (A':Option Addr) (n' c':Nat) (V':List lI),fv=.slice A' n' c'/\iv=.int .i64 j/\j<=zn/\Hid (wr.ownsRow 0 236 2 (.slice A' n' c') n' (gI V'))/\Hid (V'.length=n')/\Hid (∀ v∈V',v.Ok wr)/\Hid (n'<=4097)/\Hid (aC (λg=>(Value.slice fA fn fc).ownBlock=some g) w wr)/\Hid (bJ w (.slice fA fn fc) (.slice A' n' c'))/\Hid (aL wr M 89 #[.int .i64 base,.slice (some ⟨g,o,none⟩) n c])/\Hid (aL wr S 170 #[.bool true,.int .i64 out,.slice zA zn zc])/\Hid ((arcs.drop j).foldl (λfd a=>wC (Z.map ZV.p) f a.2.2.toNat (hd++[a.1]) (sm+a.2.1) fd) (V'.map lI.p)=RES)) (λ_ iv _=>zn-(intOf iv).toNat)
    case atStart=>exact⟨0,A4,fn+1,c4,V++[⟨hA,hq,hc,hd,sm+out⟩],rfl,rfl,qQb _,HO4,HV4,HE4,aB (by have:=HFN2.out;omega),HT4,HF4,aB (HB3M.touch HG4 (λe=>(aF HB3M).ne (aH HO3 e) (by decide) rfl)),aB (HB3S.touch HG4 (λe=>(aF HB3S).ne (aH HO3 e) (by decide) rfl)),aB (by rw[List.drop_zero,qZb];exact HRES)⟩
    case round =>
     obtain⟨j,A',n',c',V',rfl,rfl,hj,HOL,HVLL,HELL,HNL,HTL,HFL,HBML,HBSL,HRS⟩:=hrel
     obtain⟨wq,hwq⟩:=eX wr
     subst hwq
     have hno:∀ {t:TypeId} {b:Nat},OT w b t->t ≠ 236 -> ¬ (Value.slice fA fn fc).ownBlock=some b:=λhg ht e=>hg.ne (aH HO e) ht (HBF _ e) rfl
     have hzo:=HZO.touch HTL (λb hb=>hno hb (by decide))
     have hst:=iT.far HST HTL (λb hb=>hno hb (by decide)) (λb hb=>hno hb (by decide))
     have hrd:=HRD.touch HTL (λb hb=>hno (.inr hb) (by decide))
     have HBA:=aB (Hj HBF HBW HFL)
     have hbm:=HBML.out
     rw[HMM.out] at hbm
     have hbs:=HBSL.out
     rw[HSS.out] at hbs
     obtain⟨m0,m1,m2⟩:=hbm.facts
     obtain⟨s0',s1',s2'⟩:=hbs.facts
     by_cases hjn:j<zn
     ·have j0:(j:Int)<(zn:Int):=by omega
      have j1:(0:Int)<=(j:Int):=by omega
      have j2:IntKind.i64.wrap ((j:Int)+1)=(j:Int)+1:=qXa _ (by have:=HZO.mx;have:=HZO.le;simp only at *;unfold maxLen at *;omega)
      have hdr:arcs.drop j=arcs.getD j (0,0,0) :: arcs.drop (j+1):=by
       rw[qJe (by rw[HAL.out];exact hjn)]
       simp[qZa,HAL.out,hjn]
      have hrs:=HRS.out
      rw[hdr,qZd] at hrs
      have harc:=HJ.1 (arcs.getD j (0,0,0)) (by rw[List.take_length];exact aZ arcs (0,0,0) j (by rw[HAL.out];exact hjn))
      obtain⟨ga,oa,hzA,_,a0,a1,a2⟩:=iR hzo.rd.rd HAL j hjn
      simp only at hzA
      obtain⟨⟨la,ao,tt⟩,hzz⟩:∃ z,arcs.getD j (0,0,0)=z:=⟨_,rfl⟩
      rw[hzz] at a0 a1 a2 hrs harc
      simp only[De] at a0 a1 a2 hrs harc
      obtain⟨tn,rfl⟩:∃ tn:Nat,tt=(tn:Int):=⟨tt.toNat,by omega⟩
      have k1:IntKind.i64.wrap (sm+ao)=sm+ao:=qXa _ (by have:=HSM.out;omega)
      subst hzA
      have hin:tn<n:=by omega
      have hcall:∀ (wx:World) (g4 cap4:Nat),aC (λ_=>False) wq wx->wx.ownsRow 0 21 1 (.slice (some ⟨g4,0,none⟩) (hq+1) cap4) (hq+1) ((hd++[la]).map iV) ->
        Calls Tryz.prog 133 #[.agg #[.int .i64 base,.slice (some ⟨g,o,none⟩) n c],.int .i64 tn,.slice (some ⟨g4,0,none⟩) (hq+1) cap4,.int .i64 (sm+ao),.slice A' n' c'] wx (Um wx A' n' c' (wC (Z.map ZV.p) f tn (hd++[la]) (sm+ao) (V'.map lI.p))):=λwx g4 cap4 T ho =>
       HIH wx tn _ (hq+1) cap4 (hd++[la]) (sm+ao) A' n' c' V' base _ c (hst.quiet T) hin (fM.of_own ho) (λe=>by cases e) (by rw[qJa,HHL.out];rfl) (by have:=HQ24.out;omega) (by have:=HFQ.out;omega) (by have:=HSM.out;omega) (by have:=HSM.out;push_cast;omega) (aD HOL T (λ_ _ f=>f)) HVLL HNL (λv hv=>(HELL v hv).touch T (λ_ _ f=>f)) HBA (by have h1:=HBW.out;have h2:=HTL.size;have h3:=T.size;omega)
      obtain⟨w5,hw5⟩:=eX (wq.alloc (.cells #[] 21))
      have hT5:aC (λ_=>False) wq w5:=by rw[hw5];exact (aC.refl _ _).alloc _
      have HO5:Hid (w5.ownsRow 0 21 1 (.slice (some ⟨wq.heap.size,0,none⟩) 0 0) 0 []):=aB (by rw[hw5];exact qS _ _ _)
      have HR5:=aB (hrd.rd.touch hT5 (λ_ _ f=>f))
      have HON:=aB (Cx hd)
      have HB5:Hid (0+hq<=maxLen/\(0+hq)*4<=140737488355328/\hq+1<=maxLen/\(hq+1)*4<=140737488355328):=aB (by have:=HQ24.out;unfold maxLen;omega)
      have HT5:=aB hT5
      have HW5:=aB hw5
      have HCALL:=aB hcall
      have HRS2:=aB hrs
      have HJN:=aB hjn
      have HZA:Hid (∀ wx,aC (λ_=>False) wq wx->wx.cell? ⟨ga,oa+j*3,none⟩=some (.int .i32 la)/\wx.cell? ⟨ga,oa+j*3+1,none⟩=some (.int .i64 ao)/\wx.cell? ⟨ga,oa+j*3+2,none⟩=some (.int .i64 (tn:Int))):=aB (λwx T=>by
       have hz2:=hzo.touch T (λ_ _ f=>f)
       obtain⟨gb,ob,hzB,_,b0,b1,b2⟩:=iR hz2.rd.rd HAL j hjn
       simp only at hzB
       injection hzB with hzB
       injection hzB with e1 e2
       subst e1
       subst e2
       rw[hzz] at b0 b1 b2
       exact⟨b0,b1,b2⟩)
      have hks:∀ wx,aC (λb=>(Value.slice A' n' c').ownBlock=some b) wq wx->wx.cell? ⟨w.heap.size,0,none⟩=some (.int .i64 base)/\wx.cell? ⟨w.heap.size,1,none⟩=some (.slice (some ⟨g,o,none⟩) n c)/\wx.cell? ⟨w.heap.size+1,2,none⟩=some (.slice (some ⟨ga,oa,none⟩) zn zc)/\wx.cell? ⟨ga,oa+j*3,none⟩=some (.int .i32 la)/\wx.cell? ⟨ga,oa+j*3+1,none⟩=some (.int .i64 ao)/\wx.cell? ⟨ga,oa+j*3+2,none⟩=some (.int .i64 (tn:Int))/\aC (λb=>(Value.slice A' n' c').ownBlock=some b) wq wx:=λwx T=>by
       have hno2:∀ {t:TypeId} {b:Nat},OT wq b t->t ≠ 236 -> ¬ (Value.slice A' n' c').ownBlock=some b:=λhg ht e=>hg.ne (aH HOL e) ht (HBA _ e) rfl
       have hz2:=hzo.touch T (λb hb=>hno2 hb (by decide))
       have m2:=(hbm.touch T (hno2 (.inr (aF hbm)) (by decide))).cell
       have s2:=(hbs.touch T (hno2 (.inr (aF hbs)) (by decide))).cell
       obtain⟨gb,ob,hzB,_,b0,b1,b2⟩:=iR hz2.rd.rd HAL j hjn
       simp only at hzB
       injection hzB with hzB
       injection hzB with e1 e2
       subst e1
       subst e2
       rw[hzz] at b0 b1 b2
       exact⟨m2 0,m2 1,s2 2,b0,b1,b2,T⟩
      have HKS:=aB hks
      have HBM2:=aB hbm
      have HBS2:=aB hbs
      clear hks hno hzo hst hrd hdr hrs harc hzz hcall hT5 hw5 hjn hj hbm hbs hin
      go_wp2_with (at_builtin;rw[<-HW5.out];refine aR _ rfl (.tmp 50) (.tmp 51) 154 rfl 21 i2 _ 1 4 Tryz.underlying154 hi2 hz0 hz1 hz2 rfl (by decide) (.slice (some ⟨wq.heap.size,0,none⟩) 0 0) 0 _ rfl HO5 hA hq hc (hd.map iV) rfl HR5 HNIL HON HB5.1 HB5.2.1 ?_;intro v1 w6 O6 G6 F6 _;rw[Nat.zero_add,qJc] at O6;obtain⟨A6,c6,hv,_,_⟩:=aX O6;subst hv;have HO6:=aB O6;have HT6:=aB (HT5.trans ((aC.refl (λk=>k=wq.heap.size) w5).grown G6 (λk hk _=>by injection hk with hk;exact hk.symm)) (λk hk e=>by omega));have HF6:=aB (uY HT5.size F6);clear O6 G6 F6 a0 a1 a2 m0 m1 m2 s0' s1' s2')
      go_region_held3 (λw'=>w'.cell? ⟨w.heap.size,0,none⟩=some (.int .i64 base)/\w'.cell? ⟨w.heap.size,1,none⟩=some (.slice (some ⟨g,o,none⟩) n c)/\w'.cell? ⟨w.heap.size+1,2,none⟩=some (.slice (some ⟨ga,oa,none⟩) zn zc)/\w'.cell? ⟨ga,oa+j*3,none⟩=some (.int .i32 la)/\w'.cell? ⟨ga,oa+j*3+1,none⟩=some (.int .i64 ao)/\w'.cell? ⟨ga,oa+j*3+2,none⟩=some (.int .i64 (tn:Int))/\aC (λb=>(Value.slice A' n' c').ownBlock=some b) wq w')
       (first
         | exact HKS _ (HT6.up _).drew
         | exact HKS _ ((HT6.up _).alloc _).drew
         | exact HKS _ ((HT6.up _).drew.alloc _)
         | exact HKS _ (HT9.up _)
         | exact HKS _ (HT10))
       (first
         | (refine step_append_lies _ rfl (.tmp 60) (.tmp 67) 154 rfl 0 21 i2 _ 1 4 Tryz.underlying154 hi2 hz0 hz1 hz2 (by decide) (by decide) (.slice A6 hq c6) hq _ (by first | (simp[Act.eval];done) | rfl) (aD HO6 ((aC.refl _ _).alloc _).drew (λ_ _ f=>f)) ⟨w6.heap.size,0,none⟩ 1 1 [.int .i32 la] (by first | (simp[Act.eval];done) | rfl) rfl ?news ?one (by decide) HB5.2.2.1 HB5.2.2.2 (qQb _) _ rfl ?_;(case news=>exact World.news_of_block (aL.new w6 _ _));(case one=>exact List.all_eq_true.1 rfl);intro g4 cap4 w9 hown hgrow hlies _;have HT9:=aB (yU HT6 HO6 HF6 hgrow);have HO9:=aB (Ib hown);clear hown hgrow hlies)
         | (go_simp;go_at_call 133;refine (HCALL _ _ _ HT9 HO9).mono ?_;rintro e wS ⟨AS,nS,cS,VS,rfl,hownS,hlS,helS,hpS,TS,FS⟩;have HOS:=aB hownS;have HLS:=aB hlS;have HES:=aB helS;have HPS:=aB hpS;have HTS:=aB TS;have HFS:=aB FS;have HT10:=aB ((HT9.up _).then TS);clear hownS hlS helS hpS TS FS))
      go_wp2_with fail
      go_roundw
      ·have hns:nS<=4097:=by
        have h:=congrArg List.length HPS
        rw[qQa] at h
        have h2:=Ga (Z.map ZV.p) f tn (hd++[la]) (sm+ao) (V'.map lI.p) (by rw[qQa,HVLL.out];exact HNL)
        have:=HLS.out
        omega
       have hno2:∀ {t:TypeId} {b:Nat},OT wq b t->t ≠ 236 -> ¬ (Value.slice A' n' c').ownBlock=some b:=λhg ht e=>hg.ne (aH HOL e) ht (HBA _ e) rfl
       refine⟨j+1,AS,nS,cS,VS,rfl,by simp,by have:=HJN.out;omega,HOS,HLS,HES,aB hns,aB (uV HTL HT10 HFL),aB (uW (by have:=HTL.size;have:=HT9.size;omega) HFL HFS),aB ?_,aB ?_,aB ?_⟩
       ·rw[HMM.out]
        exact HBM2.touch HT10 (hno2 (.inr (aF HBM2)) (by decide))
       ·rw[HSS.out]
        exact HBS2.touch HT10 (hno2 (.inr (aF HBS2)) (by decide))
       ·have h:=HRS2.out
        simp only[Int.toNat_natCast] at h
        rw[HPS.out]
        exact h
      ·have:=HJN.out
       simp only[intOf]
       omega
     ·have hje:j=zn:=by omega
      have j0:¬ (j:Int)<(zn:Int):=by omega
      have hrs:=HRS.out
      rw[qQf (by rw[HAL.out];omega),List.foldl_nil] at hrs
      have HRE:=aB hrs
      clear hrs hje hjn hj hzo hst hrd hno
      go_wp2_with fail
      go_ret
      exact⟨A',n',c',V',rfl,HOL,HVLL,HELL,HRE,HTL,HFL⟩
   | false =>
    rw[if_neg (by simp)] at hres
    have HRES:=aB hres
    clear hres HR3 HONE HBB HE3 HT3 HT3s HB3M HB3S HO3
    go_wp2_with fail
    rw[<-HW2.out]
    go_loopw [4,12] (λfv iv wr=>∃ (j:Nat) (A':Option Addr) (n' c':Nat) (V':List lI),fv=.slice A' n' c'/\iv=.int .i64 j/\j<=zn/\Hid (wr.ownsRow 0 236 2 (.slice A' n' c') n' (gI V'))/\Hid (V'.length=n')/\Hid (∀ v∈V',v.Ok wr)/\Hid (n'<=4097)/\Hid (aC (λg=>(Value.slice fA fn fc).ownBlock=some g) w wr)/\Hid (bJ w (.slice fA fn fc) (.slice A' n' c'))/\Hid (aL wr M 89 #[.int .i64 base,.slice (some ⟨g,o,none⟩) n c])/\Hid (aL wr S 170 #[.bool false,.int .i64 out,.slice zA zn zc])/\Hid ((arcs.drop j).foldl (λfd a=>wC (Z.map ZV.p) f a.2.2.toNat (hd++[a.1]) (sm+a.2.1) fd) (V'.map lI.p)=RES)) (λ_ iv _=>zn-(intOf iv).toNat)
    case atStart=>exact⟨0,fA,fn,fc,V,rfl,rfl,qQb _,aB (aD HO HT2 (λ_ _ f=>f)),HVL,aB (λv hv=>(HEL v hv).touch HT2 (λ_ _ f=>f)),HFN,aB (HT2.up _),aB (.inl rfl),HBM,HBS,aB (by rw[List.drop_zero];exact HRES)⟩
    case round =>
     obtain⟨j,A',n',c',V',rfl,rfl,hj,HOL,HVLL,HELL,HNL,HTL,HFL,HBML,HBSL,HRS⟩:=hrel
     obtain⟨wq,hwq⟩:=eX wr
     subst hwq
     have hno:∀ {t:TypeId} {b:Nat},OT w b t->t ≠ 236 -> ¬ (Value.slice fA fn fc).ownBlock=some b:=λhg ht e=>hg.ne (aH HO e) ht (HBF _ e) rfl
     have hzo:=HZO.touch HTL (λb hb=>hno hb (by decide))
     have hst:=iT.far HST HTL (λb hb=>hno hb (by decide)) (λb hb=>hno hb (by decide))
     have hrd:=HRD.touch HTL (λb hb=>hno (.inr hb) (by decide))
     have HBA:=aB (Hj HBF HBW HFL)
     have hbm:=HBML.out
     rw[HMM.out] at hbm
     have hbs:=HBSL.out
     rw[HSS.out] at hbs
     obtain⟨m0,m1,m2⟩:=hbm.facts
     obtain⟨s0',s1',s2'⟩:=hbs.facts
     by_cases hjn:j<zn
     ·have j0:(j:Int)<(zn:Int):=by omega
      have j1:(0:Int)<=(j:Int):=by omega
      have j2:IntKind.i64.wrap ((j:Int)+1)=(j:Int)+1:=qXa _ (by have:=HZO.mx;have:=HZO.le;simp only at *;unfold maxLen at *;omega)
      have hdr:arcs.drop j=arcs.getD j (0,0,0) :: arcs.drop (j+1):=by
       rw[qJe (by rw[HAL.out];exact hjn)]
       simp[qZa,HAL.out,hjn]
      have hrs:=HRS.out
      rw[hdr,qZd] at hrs
      have harc:=HJ.1 (arcs.getD j (0,0,0)) (by rw[List.take_length];exact aZ arcs (0,0,0) j (by rw[HAL.out];exact hjn))
      obtain⟨ga,oa,hzA,_,a0,a1,a2⟩:=iR hzo.rd.rd HAL j hjn
      simp only at hzA
      obtain⟨⟨la,ao,tt⟩,hzz⟩:∃ z,arcs.getD j (0,0,0)=z:=⟨_,rfl⟩
      rw[hzz] at a0 a1 a2 hrs harc
      simp only[De] at a0 a1 a2 hrs harc
      obtain⟨tn,rfl⟩:∃ tn:Nat,tt=(tn:Int):=⟨tt.toNat,by omega⟩
      have k1:IntKind.i64.wrap (sm+ao)=sm+ao:=qXa _ (by have:=HSM.out;omega)
      subst hzA
      have hin:tn<n:=by omega
      have hcall:∀ (wx:World) (g4 cap4:Nat),aC (λ_=>False) wq wx->wx.ownsRow 0 21 1 (.slice (some ⟨g4,0,none⟩) (hq+1) cap4) (hq+1) ((hd++[la]).map iV) ->
        Calls Tryz.prog 133 #[.agg #[.int .i64 base,.slice (some ⟨g,o,none⟩) n c],.int .i64 tn,.slice (some ⟨g4,0,none⟩) (hq+1) cap4,.int .i64 (sm+ao),.slice A' n' c'] wx (Um wx A' n' c' (wC (Z.map ZV.p) f tn (hd++[la]) (sm+ao) (V'.map lI.p))):=λwx g4 cap4 T ho =>
       HIH wx tn _ (hq+1) cap4 (hd++[la]) (sm+ao) A' n' c' V' base _ c (hst.quiet T) hin (fM.of_own ho) (λe=>by cases e) (by rw[qJa,HHL.out];rfl) (by have:=HQ24.out;omega) (by have:=HFQ.out;omega) (by have:=HSM.out;omega) (by have:=HSM.out;push_cast;omega) (aD HOL T (λ_ _ f=>f)) HVLL HNL (λv hv=>(HELL v hv).touch T (λ_ _ f=>f)) HBA (by have h1:=HBW.out;have h2:=HTL.size;have h3:=T.size;omega)
      obtain⟨w5,hw5⟩:=eX (wq.alloc (.cells #[] 21))
      have hT5:aC (λ_=>False) wq w5:=by rw[hw5];exact (aC.refl _ _).alloc _
      have HO5:Hid (w5.ownsRow 0 21 1 (.slice (some ⟨wq.heap.size,0,none⟩) 0 0) 0 []):=aB (by rw[hw5];exact qS _ _ _)
      have HR5:=aB (hrd.rd.touch hT5 (λ_ _ f=>f))
      have HON:=aB (Cx hd)
      have HB5:Hid (0+hq<=maxLen/\(0+hq)*4<=140737488355328/\hq+1<=maxLen/\(hq+1)*4<=140737488355328):=aB (by have:=HQ24.out;unfold maxLen;omega)
      have HT5:=aB hT5
      have HW5:=aB hw5
      have HCALL:=aB hcall
      have HRS2:=aB hrs
      have HJN:=aB hjn
      have HZA:Hid (∀ wx,aC (λ_=>False) wq wx->wx.cell? ⟨ga,oa+j*3,none⟩=some (.int .i32 la)/\wx.cell? ⟨ga,oa+j*3+1,none⟩=some (.int .i64 ao)/\wx.cell? ⟨ga,oa+j*3+2,none⟩=some (.int .i64 (tn:Int))):=aB (λwx T=>by
       have hz2:=hzo.touch T (λ_ _ f=>f)
       obtain⟨gb,ob,hzB,_,b0,b1,b2⟩:=iR hz2.rd.rd HAL j hjn
       simp only at hzB
       injection hzB with hzB
       injection hzB with e1 e2
       subst e1
       subst e2
       rw[hzz] at b0 b1 b2
       exact⟨b0,b1,b2⟩)
      have hks:∀ wx,aC (λb=>(Value.slice A' n' c').ownBlock=some b) wq wx->wx.cell? ⟨w.heap.size,0,none⟩=some (.int .i64 base)/\wx.cell? ⟨w.heap.size,1,none⟩=some (.slice (some ⟨g,o,none⟩) n c)/\wx.cell? ⟨w.heap.size+1,2,none⟩=some (.slice (some ⟨ga,oa,none⟩) zn zc)/\wx.cell? ⟨ga,oa+j*3,none⟩=some (.int .i32 la)/\wx.cell? ⟨ga,oa+j*3+1,none⟩=some (.int .i64 ao)/\wx.cell? ⟨ga,oa+j*3+2,none⟩=some (.int .i64 (tn:Int))/\aC (λb=>(Value.slice A' n' c').ownBlock=some b) wq wx:=λwx T=>by
       have hno2:∀ {t:TypeId} {b:Nat},OT wq b t->t ≠ 236 -> ¬ (Value.slice A' n' c').ownBlock=some b:=λhg ht e=>hg.ne (aH HOL e) ht (HBA _ e) rfl
       have hz2:=hzo.touch T (λb hb=>hno2 hb (by decide))
       have m2:=(hbm.touch T (hno2 (.inr (aF hbm)) (by decide))).cell
       have s2:=(hbs.touch T (hno2 (.inr (aF hbs)) (by decide))).cell
       obtain⟨gb,ob,hzB,_,b0,b1,b2⟩:=iR hz2.rd.rd HAL j hjn
       simp only at hzB
       injection hzB with hzB
       injection hzB with e1 e2
       subst e1
       subst e2
       rw[hzz] at b0 b1 b2
       exact⟨m2 0,m2 1,s2 2,b0,b1,b2,T⟩
      have HKS:=aB hks
      have HBM2:=aB hbm
      have HBS2:=aB hbs
      clear hks hno hzo hst hrd hdr hrs harc hzz hcall hT5 hw5 hjn hj hbm hbs hin
      go_wp2_with (at_builtin;rw[<-HW5.out];refine aR _ rfl (.tmp 50) (.tmp 51) 154 rfl 21 i2 _ 1 4 Tryz.underlying154 hi2 hz0 hz1 hz2 rfl (by decide) (.slice (some ⟨wq.heap.size,0,none⟩) 0 0) 0 _ rfl HO5 hA hq hc (hd.map iV) rfl HR5 HNIL HON HB5.1 HB5.2.1 ?_;intro v1 w6 O6 G6 F6 _;rw[Nat.zero_add,qJc] at O6;obtain⟨A6,c6,hv,_,_⟩:=aX O6;subst hv;have HO6:=aB O6;have HT6:=aB (HT5.trans ((aC.refl (λk=>k=wq.heap.size) w5).grown G6 (λk hk _=>by injection hk with hk;exact hk.symm)) (λk hk e=>by omega));have HF6:=aB (uY HT5.size F6);clear O6 G6 F6 a0 a1 a2 m0 m1 m2 s0' s1' s2')
      go_region_held3 (λw'=>w'.cell? ⟨w.heap.size,0,none⟩=some (.int .i64 base)/\w'.cell? ⟨w.heap.size,1,none⟩=some (.slice (some ⟨g,o,none⟩) n c)/\w'.cell? ⟨w.heap.size+1,2,none⟩=some (.slice (some ⟨ga,oa,none⟩) zn zc)/\w'.cell? ⟨ga,oa+j*3,none⟩=some (.int .i32 la)/\w'.cell? ⟨ga,oa+j*3+1,none⟩=some (.int .i64 ao)/\w'.cell? ⟨ga,oa+j*3+2,none⟩=some (.int .i64 (tn:Int))/\aC (λb=>(Value.slice A' n' c').ownBlock=some b) wq w')
       (first
         | exact HKS _ (HT6.up _).drew
         | exact HKS _ ((HT6.up _).alloc _).drew
         | exact HKS _ ((HT6.up _).drew.alloc _)
         | exact HKS _ (HT9.up _)
         | exact HKS _ (HT10))
       (first
         | (refine step_append_lies _ rfl (.tmp 60) (.tmp 67) 154 rfl 0 21 i2 _ 1 4 Tryz.underlying154 hi2 hz0 hz1 hz2 (by decide) (by decide) (.slice A6 hq c6) hq _ (by first | (simp[Act.eval];done) | rfl) (aD HO6 ((aC.refl _ _).alloc _).drew (λ_ _ f=>f)) ⟨w6.heap.size,0,none⟩ 1 1 [.int .i32 la] (by first | (simp[Act.eval];done) | rfl) rfl ?news ?one (by decide) HB5.2.2.1 HB5.2.2.2 (qQb _) _ rfl ?_;(case news=>exact World.news_of_block (aL.new w6 _ _));(case one=>exact List.all_eq_true.1 rfl);intro g4 cap4 w9 hown hgrow hlies _;have HT9:=aB (yU HT6 HO6 HF6 hgrow);have HO9:=aB (Ib hown);clear hown hgrow hlies)
         | (go_simp;go_at_call 133;refine (HCALL _ _ _ HT9 HO9).mono ?_;rintro e wS ⟨AS,nS,cS,VS,rfl,hownS,hlS,helS,hpS,TS,FS⟩;have HOS:=aB hownS;have HLS:=aB hlS;have HES:=aB helS;have HPS:=aB hpS;have HTS:=aB TS;have HFS:=aB FS;have HT10:=aB ((HT9.up _).then TS);clear hownS hlS helS hpS TS FS))
      go_wp2_with fail
      go_roundw
      ·have hns:nS<=4097:=by
        have h:=congrArg List.length HPS
        rw[qQa] at h
        have h2:=Ga (Z.map ZV.p) f tn (hd++[la]) (sm+ao) (V'.map lI.p) (by rw[qQa,HVLL.out];exact HNL)
        have:=HLS.out
        omega
       have hno2:∀ {t:TypeId} {b:Nat},OT wq b t->t ≠ 236 -> ¬ (Value.slice A' n' c').ownBlock=some b:=λhg ht e=>hg.ne (aH HOL e) ht (HBA _ e) rfl
       refine⟨j+1,AS,nS,cS,VS,rfl,by simp,by have:=HJN.out;omega,HOS,HLS,HES,aB hns,aB (uV HTL HT10 HFL),aB (uW (by have:=HTL.size;have:=HT9.size;omega) HFL HFS),aB ?_,aB ?_,aB ?_⟩
       ·rw[HMM.out]
        exact HBM2.touch HT10 (hno2 (.inr (aF HBM2)) (by decide))
       ·rw[HSS.out]
        exact HBS2.touch HT10 (hno2 (.inr (aF HBS2)) (by decide))
       ·have h:=HRS2.out
        simp only[Int.toNat_natCast] at h
        rw[HPS.out]
        exact h
      ·have:=HJN.out
       simp only[intOf]
       omega
     ·have hje:j=zn:=by omega
      have j0:¬ (j:Int)<(zn:Int):=by omega
      have hrs:=HRS.out
      rw[qQf (by rw[HAL.out];omega),List.foldl_nil] at hrs
      have HRE:=aB hrs
      clear hrs hje hjn hj hzo hst hrd hno
      go_wp2_with fail
      go_ret
      exact⟨A',n',c',V',rfl,HOL,HVLL,HELL,HRE,HTL,HFL⟩
theorem Ef(Z:List ZV)(n:Nat)(hrf:∀ j,j<n->uS j (Z.getD j bG).p)(hn:n<=98305):∀ f,aDd Z n f
 | 0=>by
  intro w i hA hq hc hd sm fA fn fc V base A c _ _ _ _ _ h1 h2
  omega
 | f+1=>Np Z n f hrf hn (Ef Z n hrf hn f)
end
section
variable[Inhabited eF]
def Mf(r:List Nat × Int):Wz:=(r.1.map oM,r.2)
def aGg(r:List Nat × Int):aE:=⟨⟨(r.1.flatMap aM).toArray⟩,r.2⟩
def wC0(sts:List iS)(base:Int):List Wz:=wC sts 26 (sts.length-1) [] base []
def Ud(sts:List iS)(base:Int):Prop:=sts.length<=98305/\1<=base/\base<=1048576/\∀ j,j<sts.length->uS j (sts.getD j Nt)
def Ky(W:List Wz)(L:List aE):Prop:=∃ Rs:List (List Nat × Int),W=Rs.map Mf/\(∀ r∈Rs,∀ c∈r.1,dS c=true)/\L=Rs.map aGg
def RPz(sts:List iS)(base:Int)(L:List aE):Prop:=(sts=[]/\L=[])\/(sts≠[]/\Ud sts base/\Ky (wC0 sts base) L)
def La(sts:List iS)(base:Int)(e:Ending)(w':World):Prop :=
 (∃ (L:List aE) (A:Option Addr) (n c:Nat),e=.returned (.tuple #[.slice A n c,.bool true])/\RPz sts base L/\SL.Ok ⟨A,n,c,L⟩ w'/\n<=4097/\∀ r∈L,r.word.size<=100) \/
 (e=.returned (.tuple #[.slice none 0 0,.bool false])/\¬ ∃ L,RPz sts base L)
def Pr(e:Wz):Prop:=e.1.length<=25/\∀ x∈e.1,Kr x
theorem aCw(sts:List iS)(hl:∀ z∈sts,∀ a∈z.arcs,Kr a.1):∀ (f i:Nat) (hd:List Int) (sm:Int) (fd:List Wz),hd.length<=25->(∀ x∈hd,Kr x)->(∀ e∈fd,Pr e)->∀ e∈wC sts f i hd sm fd,Pr e
 | 0,_,_,_,_,_,_,h=>h
 | f+1,i,hd,sm,fd,h1,h2,h3=>by
  have hap:∀ e∈fd++[(hd,sm+(sts.getD i Nt).out)],Pr e:=λe he=>by
   rcases List.mem_append.1 he with he | he
   ·exact h3 e he
   ·rw[List.mem_singleton.1 he]
    exact⟨h1,h2⟩
  simp only[wC]
  split
  ·exact h3
  ·split
   ·exact hap
   ·rename_i hlt
    have hla:∀ a∈(sts.getD i Nt).arcs,Kr a.1:=by
     by_cases hi:i<sts.length
     ·exact hl _ (aZ sts Nt i hi)
     ·intro a ha
      rw[show sts.getD i Nt=Nt by simp[qZa,Nat.le_of_not_lt hi]] at ha
      cases ha
    have gen:∀ (l:List (Int × Int × Int)) (fd:List Wz),(∀ a∈l,Kr a.1)->(∀ e∈fd,Pr e)->∀ e∈l.foldl (λfd a=>wC sts f a.2.2.toNat (hd++[a.1]) (sm+a.2.1) fd) fd,Pr e:=by
     intro l
     induction l with
     | nil=>intro fd _ h;exact h
     | cons a l ih =>
      intro fd ha h
      refine ih _ (λb hb=>ha b (List.mem_cons_of_mem _ hb)) (aCw sts hl f _ _ _ _ (by simp;omega) ?_ h)
      intro x hx
      rcases List.mem_append.1 hx with hx | hx
      ·exact h2 x hx
      ·rw[List.mem_singleton.1 hx]
       exact ha a List.mem_cons_self
    refine gen _ _ hla ?_
    split
    ·exact hap
    ·exact h3
theorem Sf(W:List Wz):Ky (W.take 0) []:=⟨[],rfl,λr hr=>(by cases hr),rfl⟩
theorem Se{W:List Wz}{i:Nat}(hi:i<W.length)(h:Ky (W.take i) L){R:List Nat}{O:List Int}{x:Int}(hW:W.getD i ([],0)=(O,x))(hO:O=R.map oM)(hR:∀ r∈R,dS r=true):Ky (W.take (i+1)) (L++[⟨⟨(R.flatMap aM).toArray⟩,x⟩]):=by
 obtain⟨Rs,h1,h2,h3⟩:=h
 refine⟨Rs++[(R,x)],?_,?_,?_⟩
 ·rw[bI W ([],0) i hi,h1,hW,hO,qZb]
  rfl
 ·intro r hr
  rcases List.mem_append.1 hr with hr | hr
  ·exact h2 r hr
  ·rw[List.mem_singleton.1 hr]
   exact hR
 ·rw[h3,qZb]
  rfl
theorem aBg{W:List Wz}{i:Nat}(hi:i<W.length){O:List Int}{x:Int}(hW:W.getD i ([],0)=(O,x))(hno:¬ ∃ R:List Nat,O=R.map oM/\∀ r∈R,dS r=true):¬ ∃ L,Ky W L:=by
 rintro⟨L,Rs,rfl,h2,_⟩
 rw[qQa] at hi
 have e:(Rs.map Mf).getD i ([],0)=Mf (Rs.getD i ([],0)):=by simp[qZa,hi]
 rw[e] at hW
 simp only[Mf,Prod.mk.injEq] at hW
 exact hno ⟨(Rs.getD i ([],0)).1,hW.1.symm,h2 _ (aZ Rs ([],0) i hi)⟩
theorem yG(R:List Nat):(R.flatMap aM).length<=4*R.length:=by
 induction R with
 | nil=>simp
 | cons r R ih =>
  rw[qQd,qJa,qXb]
  have:=iH r
  omega
theorem zS(X:List lI)(k:Nat)(hk:k<X.length)(j:Nat)(hj:j<2):(gI X)[k*2+j]? = some ((X.getD k ⟨none,0,0,[],0⟩).cells.getD j undef):=by
 have h:=rW lI.cells 2 (λ_=>rfl) X k j hk hj
 unfold gI
 rw[h]
 have e:X.getD k ⟨none,0,0,[],0⟩=X[k]:=by simp[qZa,hk]
 rw[e]
 have hl:(X[k].cells).length=2:=rfl
 rw[List.getD_eq_getElem?_getD,List.getElem?_eq_getElem (by rw[hl];exact hj)]
 rfl
theorem aCt{X:List lI}(h:aI w 2 A n (gI X))(hn:X.length=n)(k:Nat)(hk:k<n) :
  ∃ g off,A=some ⟨g,off,none⟩/\g<w.heap.size/\w.cell? ⟨g,off+k*2,none⟩=some (.slice (X.getD k ⟨none,0,0,[],0⟩).A (X.getD k ⟨none,0,0,[],0⟩).q (X.getD k ⟨none,0,0,[],0⟩).c)/\w.cell? ⟨g,off+k*2+1,none⟩=some (.int .i64 (X.getD k ⟨none,0,0,[],0⟩).wt):=by
 obtain⟨g,off,hA,hg,hc⟩:=h.2 (by omega)
 refine⟨g,off,hA,hg,?_,?_⟩
 ·exact hc _ _ (zS X k (by omega) 0 (by omega))
 ·exact hc _ _ (zS X k (by omega) 1 (by omega))
theorem Sv{c:Nat}(h:w.ownsRow 0 125 2 (.slice A n c) n (bC L))(hl:L.length=n):SL.Ok ⟨A,n,c,L⟩ w:=by
 refine⟨hl,aI.of_own h,λe=>?_⟩
 simp only at e
 subst e
 rcases h.2 with⟨e,e2⟩ | ⟨g',cap,cur,e,_⟩
 ·injection e with _ e3 e4
  exact⟨e3,e4⟩
 ·injection e with e
  cases e
theorem Ij(L:List aE)(s:ByteArray)(x:Int):bC L++[.string s,.int .i64 x]=bC (L++[⟨s,x⟩]):=by
 unfold bC
 rw[List.flatMap_append]
 rfl
theorem qV(w:World)(base:Int)(A:Option Addr)(n c:Nat)(Z:List ZV)(hst:iT w A n Z)(hnm:n<=maxLen)(hlab:∀ z∈Z,∀ a∈z.arcs,Kr a.1)(hbs:bs<=w.heap.size) :
  Calls Tryz.prog 76 #[.agg #[.int .i64 base,.slice A n c]] w λe w'=>La (Z.map ZV.p) base e w'/\aC (λ_=>False) w w':=by
 obtain⟨w1,hw1⟩:=eX (w.alloc (.cells #[.int .i64 base,.slice A n c] 89))
 have hT1:aC (λ_=>False) w w1:=by rw[hw1];exact (aC.refl _ _).alloc _
 have hb1:aL w1 w.heap.size 89 #[.int .i64 base,.slice A n c]:=by rw[hw1];exact aL.new _ _ _
 have HT1:=aB hT1
 have HB1:=aB hb1
 have HW1:=aB hw1
 have hzl:=hst.len
 clear hT1 hb1 hw1
 by_cases hn0:n=0
 ·subst hn0
  have hz:Z=[]:=List.eq_nil_of_length_eq_zero hzl
  subst hz
  clear hst hlab hbs hzl
  go_in
  go_wp2_with fail
  go_ret2
  exact⟨.inl ⟨[],none,0,0,rfl,.inl ⟨rfl,rfl⟩,⟨rfl,aI.nil _ _ _,λ_=>⟨rfl,rfl⟩⟩,qQb _,λr hr=>by cases hr⟩,(aC.refl _ _).alloc _⟩
 have hpos:0<n:=by omega
 have y4:((n:Int) == 0)=false:=by simp;omega
 have hne:Z.map ZV.p≠[]:=λe=>by
  have:=congrArg List.length e
  rw[qQa,hzl] at this
  exact hn0 this
 have hbad:¬ Ud (Z.map ZV.p) base->¬ ∃ L,RPz (Z.map ZV.p) base L:=by
  rintro h ⟨L,⟨h1,_⟩ | ⟨_,h2,_⟩⟩
  ·exact hne h1
  ·exact h h2
 by_cases hbig:98305<n
 ·have y0:(98305:Int)<(n:Int):=by omega
  have hno:=hbad (λh=>by have:=h.1;rw[qQa,hzl] at this;omega)
  have HNO:=aB hno
  clear hst hlab hbs hzl hno hbad hne hbig hn0
  go_in
  go_wp2_with fail
  go_ret2
  exact⟨.inr ⟨rfl,HNO⟩,(aC.refl _ _).alloc _⟩
 have y0:¬ (98305:Int)<(n:Int):=by omega
 by_cases hb1:base<1
 ·have hno:=hbad (λh=>by have:=h.2.1;omega)
  have HNO:=aB hno
  clear hst hlab hbs hzl hno hbad hne hbig hn0
  go_in
  go_wp2_with fail
  go_ret2
  exact⟨.inr ⟨rfl,HNO⟩,(aC.refl _ _).alloc _⟩
 by_cases hb2:1048576<base
 ·have hno:=hbad (λh=>by have:=h.2.2.1;omega)
  have HNO:=aB hno
  clear hst hlab hbs hzl hno hbad hne hbig hn0
  go_in
  go_wp2_with fail
  go_ret2
  exact⟨.inr ⟨rfl,HNO⟩,(aC.refl _ _).alloc _⟩
 have z1:IntKind.i64.wrap ((n:Int)-1)=(n:Int)-1:=qXa _ (by omega)
 have HST:=aB hst
 have HLAB:=aB hlab
 have HBS:=aB hbs
 have HZL:=aB hzl
 have HBAD:=aB hbad
 have HNE:=aB hne
 have HN:=aB hbig
 have HBB:=aB (show 1<=base/\base<=1048576 by omega)
 obtain⟨g,o,hA,_⟩:=iI hst.rd.rd hzl 0 hpos
 subst hA
 clear hst hlab hbs hzl hbad hne hbig hn0
 go_in
 go_wp2_with fail
 rw[<-HW1.out]
 go_loopw [4] (λiv wr=>∃ i:Nat,iv=.int .i64 i/\i<=n/\Hid (∀ k,k<i->uS k (Z.getD k bG).p)/\Hid (aC (λ_=>False) w1 wr)) (λiv _=>n-(intOf iv).toNat)
 case atStart=>exact⟨0,rfl,qQb _,aB (λk h=>absurd h (Nat.not_lt_zero _)),aB (aC.refl _ _)⟩
 case round =>
  obtain⟨i,rfl,hin,HF,HT⟩:=hrel
  obtain⟨m0,m1,m2⟩:=(HB1.touch HT (λf=>f)).facts
  by_cases hin2:i<n
  ·have x1:(i:Int)<(n:Int):=by omega
   have x2:(0:Int)<=(i:Int):=by omega
   have x3:IntKind.i64.wrap ((i:Int)+1)=(i:Int)+1:=qXa _ (by omega)
   have hstr:=HST.quiet (HT1.then HT)
   obtain⟨g',o',hA,_,d0,d1,d2⟩:=iI hstr.rd.rd HZL i hin2
   obtain⟨rfl,rfl⟩:g'=g/\o'=o:=by injection hA with hA;injection hA with e1 e2;exact⟨e1.symm,e2.symm⟩
   have hzo:=hstr.el _ (aZ Z bG i (by rw[HZL.out];exact hin2))
   have hgz:(Z.map ZV.p).getD i Nt=(Z.getD i bG).p:=by simp[qZa,HZL.out,hin2]
   have hbadf:¬ uS i (Z.getD i bG).p->¬ ∃ L,RPz (Z.map ZV.p) base L:=λh=>HBAD.out (λhh=>h (by rw[<-hgz];exact hh.2.2.2 i (by rw[qQa,HZL.out];exact hin2)))
   have hcall:=Ir wr _ hzo i
   obtain⟨z,hz⟩:∃ z,Z.getD i bG=z:=⟨_,rfl⟩
   rw[hz] at d0 d1 d2 hbadf hcall
   have HZ:=aB hz
   have HIN:=aB hin2
   have HBADF:=aB hbadf
   have HCALL:=aB hcall
   clear hA hstr hzo hgz hz hbadf hcall hin2 hin
   go_wp2_with fail
   refine HCALL.mono ?_
   rintro e w2 ⟨⟨v,rfl,hv⟩,T2⟩
   have HT2:=aB (HT.then T2)
   have HV:=aB hv
   clear hv T2
   cases v with
   | true =>
    go_wp2_with fail
    go_roundw
    ·refine⟨i+1,by simp,by have:=HIN.out;omega,aB ?_,HT2⟩
     intro k hk
     rcases Nat.lt_or_ge k i with h | h
     ·exact HF k h
     ·rw[show k=i by omega,HZ.out]
      exact HV.1 (by simp)
    ·have:=HIN.out
     simp only[intOf]
     omega
   | false =>
    go_wp2_with fail
    go_ret2
    exact⟨.inr ⟨rfl,HBADF (λh=>by have:=HV.2 h;cases this)⟩,HT1.then HT2⟩
  ·have hie:i=n:=by omega
   subst hie
   have x1:¬ (i:Int)<(i:Int):=by omega
   have hnw:=Ef Z i HF (by have:=HN.out;omega) 26 wr (i-1) none 0 0 [] base none 0 0 [] base (some ⟨g,o,none⟩) c (HST.quiet (HT1.then HT)) (by omega) ⟨aI.nil _ _ _,λh=>absurd h (Nat.lt_irrefl _)⟩ (λ_=>⟨rfl,rfl⟩) rfl (by omega) (by omega) (by have:=HBB.out;omega) (by have:=HBB.out;simp;omega) (World.ownsRow_nil _ _ _ _) rfl (by omega) (λv hv=>by cases hv) (λg h=>by cases h) (by have h1:=HBS.out;have h2:=(HT1.then HT).size;omega)
   rw[show (((i-1:Nat):Int))=(i:Int)-1 by omega] at hnw
   obtain⟨W,hW⟩:∃ W,wC (Z.map ZV.p) 26 (i-1) [] base (([]:List lI).map lI.p)=W:=⟨_,rfl⟩
   have hW0:wC0 (Z.map ZV.p) base=W:=by
    rw[<-hW]
    unfold wC0
    rw[qQa,HZL.out]
    rfl
   have hWl:W.length<=4097:=by rw[<-hW];exact Ga _ _ _ _ _ _ (qQb _)
   have hWo:∀ e∈W,Pr e:=by
    rw[<-hW]
    refine aCw _ ?_ _ _ _ _ _ (qQb _) (λx hx=>by cases hx) (λe he=>by cases he)
    intro z hz
    obtain⟨y,hy,rfl⟩:=List.mem_map.1 hz
    exact HLAB y hy
   have hhead:Ud (Z.map ZV.p) base:=by
    refine⟨by rw[qQa,HZL.out];have:=HN.out;omega,HBB.1,HBB.2,λj hj=>?_⟩
    rw[qQa,HZL.out] at hj
    have e:(Z.map ZV.p).getD j Nt=(Z.getD j bG).p:=by simp[qZa,HZL.out,hj]
    rw[e]
    exact HF j hj
   rw[hW] at hnw
   have HCALL:=aB hnw
   have HWO:=aB hWo
   have HWL:=aB hWl
   have HW0:=aB hW0
   have HH:=aB hhead
   clear hnw hWo hWl hW0 hhead hW hin2
   go_wp2_with fail
   refine HCALL.mono ?_
   rintro e w3 ⟨A3,n3,c3,V,rfl,hO3,hl3,he3,hp3,T3,_⟩
   have HT3:=aB (HT.then (T3.mono (λ_ _ h=>by cases h)))
   have HO3:=aB hO3
   have HL3:=aB hl3
   have HE3:=aB he3
   have HP3:=aB hp3
   have hn3:n3<=4097:=by rw[<-hl3,<-qQa (f:=lI.p),hp3];exact HWL
   clear hO3 hl3 he3 hp3 T3 m0 m1 m2
   go_wp2_with fail
   go_loopw [5,7] (λlv iv wr=>∃ (i:Nat) (A2:Option Addr) (c2:Nat) (L:List aE),lv=.slice A2 i c2/\iv=.int .i64 i/\i<=n3/\Hid (eB 125 2 w3 wr (.slice A2 i c2) i (bC L))/\Hid (L.length=i)/\Hid (Ky (W.take i) L)/\Hid (∀ r∈L,r.word.size<=100)) (λ_ iv _=>n3-(intOf iv).toNat)
   case atStart=>exact⟨0,none,0,[],rfl,rfl,qQb _,aB (eB.nil _ _ _),aB rfl,aB (Sf _),aB (λr hr=>by cases hr)⟩
   case round =>
    obtain⟨k,A2,c2,L,rfl,rfl,hkn,HON,HLL,HPR,HSZ⟩:=hrel
    by_cases hk2:k<n3
    ·have x1:(k:Int)<(n3:Int):=by omega
     have x2:(0:Int)<=(k:Int):=by omega
     have x3:IntKind.i64.wrap ((k:Int)+1)=(k:Int)+1:=qXa _ (by omega)
     have hkV:k<V.length:=by rw[HL3.out];exact hk2
     obtain⟨ga,oa,hA,_,_⟩:=aCt (aI.of_own HO3) HL3 k hk2
     subst hA
     have hcell:∀ wx,aC (λ_=>False) w3 wx->wx.cell? ⟨ga,oa+k*2,none⟩=some (.slice (V.getD k ⟨none,0,0,[],0⟩).A (V.getD k ⟨none,0,0,[],0⟩).q (V.getD k ⟨none,0,0,[],0⟩).c)/\wx.cell? ⟨ga,oa+k*2+1,none⟩=some (.int .i64 (V.getD k ⟨none,0,0,[],0⟩).wt):=λwx T=>by
      obtain⟨gb,ob,hB,_,b0,b1⟩:=aCt ((aI.of_own HO3).touch T (λ_ _ f=>f)) HL3 k hk2
      injection hB with hB
      injection hB with e1 e2
      subst e1
      subst e2
      exact⟨b0,b1⟩
     have hvo:=HE3.out _ (aZ V ⟨none,0,0,[],0⟩ k hkV)
     have hWk:W.getD k ([],0)=(V.getD k ⟨none,0,0,[],0⟩).p:=by
      rw[<-HP3.out]
      simp[qZa,hkV]
     have hkW:k<W.length:=by rw[<-HP3.out,qQa];exact hkV
     have hwz:=HWO.out _ (aZ W ([],0) k hkW)
     rw[hWk] at hwz
     obtain⟨⟨vA,vq,vc,O,x⟩,hv⟩:∃ v,V.getD k ⟨none,0,0,[],0⟩=v:=⟨_,rfl⟩
     rw[hv] at hvo hWk hwz hcell
     simp only[lI.p] at hWk hwz
     simp only at hcell
     have hvl:=hvo.len
     simp only at hvl
     have hcall:∀ wx,aC (λ_=>False) w3 wx->Calls Tryz.prog 134 #[.slice vA vq vc] wx λe w'=>sY O e/\aC (λ_=>False) wx w':=λwx T =>
      So wx vA vq vc O (hvo.rd.rd.touch T (λ_ _ f=>f)) hvl (by have:=hwz.1;simp only at this;omega) hwz.2
     obtain⟨b0,b1⟩:=hcell wr HON.touch
     have HCELL:=aB hcell
     have HC2:=aB hcall
     have HWK:=aB hWk
     have HWZ:=aB hwz.1
     have HKW:=aB hkW
     have HK2:=aB hk2
     clear hkV hcell hvo hWk hkW hwz hv hvl hcall hk2 hkn
     go_wp2_with fail
     refine (HC2 wr HON.touch).mono ?_
     rintro e w4 ⟨⟨R,hO,hR,rfl⟩ | ⟨hno,rfl⟩,T4⟩
     ·have HO:=aB hO
      have HR:=aB hR
      have hON4:=HON.to T4
      obtain⟨b0,b1⟩:=HCELL.out w4 hON4.touch
      have HON4:=aB hON4
      obtain⟨s,hs⟩:∃ s:ByteArray,s=⟨(R.flatMap aM).toArray⟩:=⟨_,rfl⟩
      rw[<-hs]
      have HS:=aB hs
      clear hO hR T4 hON4 hs
      obtain⟨i1,hi1,hy0,hy1,hy2⟩:=aO jK
      have hbb:k+1<=maxLen/\(k+1)*24<=140737488355328:=by
       have:=HK2.out
       unfold maxLen
       omega
      have HB:=aB hbb
      clear hbb
      go_wp2_with (at_builtin;refine aR _ rfl (.tmp 68) (.tmp 76) 37 rfl 125 i1 _ 2 24 Tryz.underlying37 hi1 hy0 hy1 hy2 rfl (by decide) (.slice A2 k c2) k _ rfl (aD HON4.own ((aC.refl _ _).alloc _) (λ_ _ f=>f)) (some ⟨w4.heap.size,0,none⟩) 1 1 [.string s,.int .i64 x] rfl (aI.new w4 _ _ 1 rfl) (λh=>by cases h) (List.all_eq_true.1 rfl) HB.1 HB.2 ?_;intro v1 w5 O5 G5 F5 _;obtain⟨A5,c5,hv,_,_⟩:=aX O5;subst hv;have HON5:=aB ((HON4.to ((aC.refl _ _).alloc _)).app O5 G5 F5);clear O5 G5 F5)
      go_roundw
      ·refine⟨k+1,A5,c5,L++[⟨s,x⟩],rfl,by simp,by have:=HK2.out;omega,aB ?_,aB (by rw[qJa,HLL.out];rfl),aB ?_,aB ?_⟩
       ·rw[<-Ij]
        exact HON5
       ·rw[HS.out]
        exact Se HKW HPR HWK HO HR
       ·intro r hr
        rcases List.mem_append.1 hr with hr | hr
        ·exact HSZ r hr
        ·rw[List.mem_singleton.1 hr,HS.out]
         have h1:=HWZ.out
         rw[HO.out] at h1
         simp only[qQa] at h1
         have h2:=yG R
         have h3:(⟨(R.flatMap aM).toArray⟩:ByteArray).size=(R.flatMap aM).length:=List.size_toArray
         simp only
         omega
      ·have:=HK2.out
       simp only[intOf]
       omega
     ·have HNO:=aB hno
      have HT4:=aB (HON.touch.then T4)
      clear hno T4
      go_wp2_with fail
      go_ret2
      refine⟨.inr ⟨rfl,?_⟩,HT1.then (HT3.then HT4)⟩
      rintro⟨L',⟨h1,_⟩ | ⟨_,_,h3⟩⟩
      ·exact HNE h1
      ·rw[HW0.out] at h3
       exact aBg HKW HWK HNO ⟨L',h3⟩
    ·have hke:k=n3:=by omega
     subst hke
     have x1:¬ (k:Int)<(k:Int):=by omega
     have hWk:W.take k=W:=by
      rw[List.take_of_length_le]
      rw[<-HP3.out,qQa,HL3.out]
      exact Nat.le_refl _
     have HPW:=aB (show Ky W L by have:=HPR.out;rw[hWk] at this;exact this)
     clear hWk hk2
     go_wp2_with fail
     go_ret2
     exact⟨.inl ⟨L,A2,k,c2,rfl,.inr ⟨HNE,HH,by rw[HW0.out];exact HPW⟩,Sv HON.own HLL,hn3,HSZ⟩,HT1.then (HT3.then HON.touch)⟩
end
section
variable[Inhabited eF]
theorem Bc(h:cA L):eK L=true:=by
 refine nN h.len λj hj=>?_
 rw[rU]
 have e:L.getD j aE.zero=L[j]:=by simp[qZa,hj]
 rw[e]
 have hm:L[j]∈L:=List.getElem_mem hj
 obtain⟨w1,w2⟩:=h.weight _ hm
 obtain⟨r1,r2,r3,r4⟩:=h.word _ hm
 obtain⟨a1,a2⟩:=cK _ _ _ (Nat.le_refl _) r1
 have hwu:cD L[j].word.toList=true:=by
  have hl:L[j].word.toList.length<=96:=by
   rw[a1]
   have:=yG (dM L[j])
   omega
  unfold cD
  rw[r1]
  simp only[hl,decide_true,Bool.true_and,r2,r3,r4]
 rw[hwu]
 simp only[w1,w2,decide_true,Bool.true_and,Bool.or_eq_true,decide_eq_true_eq]
 by_cases h0:j=0
 ·exact .inl h0
 ·right
  have hj1:j-1<L.length:=by omega
  have e1:L.getD (j-1) aE.zero=L[j-1]:=by simp[qZa,hj1]
  rw[e1]
  have hs:=h.sort
  unfold bK aT at hs
  rw[List.pairwise_map,List.pairwise_iff_getElem] at hs
  have hs2:=hs (j-1) j hj1 hj (by omega)
  have hm1:L[j-1]∈L:=List.getElem_mem hj1
  obtain⟨b1,b2⟩:=cK _ _ _ (Nat.le_refl _) (h.word _ hm1).1
  rw[a1,b1,kR _ _ (λr hr=>cU (b2 r hr)) (λr hr=>cU (a2 r hr))]
  exact hs2
theorem Ys{sp:List bP}(hd:wW sp)(hok:∀ i,i<sp.length->gV sp i≠[]):∀ (f i:Nat) (h0:List Nat) (sm:Int) (fd:List Wz),i<sp.length->(∀ r∈gV sp i,r.1.length<f/\h0.length+r.1.length<=24)->fd.length+(gV sp i).length<=4096 ->
  wC (sp.map bP.z) f i (h0.map oM) sm fd=fd++(gV sp i).map λr=>((h0++r.1).map oM,sm+r.2)
 | 0,i,_,_,_,hi,hc,_=>by
  obtain⟨r,hr⟩:=qXf _ (hok i hi)
  exact absurd (hc r hr).1 (Nat.not_lt_zero _)
 | f+1,i,h0,sm,fd,hi,hc,hl=>by
  have hpos:0<(gV sp i).length:=List.length_pos_iff.2 (hok i hi)
  obtain⟨r0,hr0⟩:=qXf _ (hok i hi)
  have h24:=(hc r0 hr0).2
  have hz:(sp.map bP.z).getD i Nt=(sp.getD i aS).z:=by simp[qZa,hi]
  simp only[wC]
  rw[if_neg (by omega),if_neg (by rw[qQa];omega),hz]
  have hrs:=tZ hd hi
  have gen:∀ (l:List (Nat × Int × Nat)) (fd:List Wz),(∀ a∈l,a∈(sp.getD i aS).arcs)->fd.length+(l.flatMap λa=>(gV sp a.2.2).map λr=>(a.1 :: r.1,r.2+a.2.1)).length<=4096 ->
    (l.map fN).foldl (λfd a=>wC (sp.map bP.z) f a.2.2.toNat (h0.map oM++[a.1]) (sm+a.2.1) fd) fd=fd++(l.flatMap λa=>(gV sp a.2.2).map λr=>(a.1 :: r.1,r.2+a.2.1)).map λr=>((h0++r.1).map oM,sm+r.2):=by
   intro l
   induction l with
   | nil=>intro fd _ _;simp
   | cons a l ih =>
    intro fd ha hle
    have ham:=ha a List.mem_cons_self
    have hai:=hd i hi a ham
    rw[qQd,qJa,qQa] at hle
    rw[List.map_cons,qZd]
    have h1:=Ys hd hok f a.2.2 (h0++[a.1]) (sm+a.2.1) fd (by omega) (λr hr=>by
     have hmem:(a.1 :: r.1,r.2+a.2.1)∈gV sp i:=(fK hd hi).2 ⟨a,ham,rfl,by
      rw[show r.2+a.2.1-a.2.1=r.2 by omega]
      exact hr⟩
     have:=hc _ hmem
     simp only[qXb] at this
     rw[qJa]
     simp only[qXb,qJb]
     omega) (by omega)
    have e1:(fN a).2.2.toNat=a.2.2:=by simp[fN]
    have e2:h0.map oM++[(fN a).1]=(h0++[a.1]).map oM:=by simp[fN,oM]
    have e3:(fN a).2.1=a.2.1:=rfl
    rw[e1,e2,e3,h1,ih _ (λb hb=>ha b (List.mem_cons_of_mem _ hb)) (by rw[qJa,qQa];omega),qQd,qZb,List.append_assoc,qJd]
    congr 2
    refine List.map_congr_left λr _=>?_
    simp only[Function.comp,Prod.mk.injEq]
    refine⟨by simp,by omega⟩
  have harcs:(sp.getD i aS).z.arcs=(sp.getD i aS).arcs.map fN:=rfl
  have hfin:(sp.getD i aS).z.fin=(sp.getD i aS).fin:=rfl
  have hout:(sp.getD i aS).z.out=(sp.getD i aS).out:=rfl
  rw[harcs,hfin,hout]
  rw[hrs] at hl ⊢
  by_cases hf:(sp.getD i aS).fin=true
  ·rw[if_pos hf] at hl ⊢
   rw[qJa] at hl
   simp only[qXb,qJb] at hl
   rw[if_pos hf,gen _ _ (λa ha=>ha) (by rw[qJa];simp only[qXb,qJb];omega)]
   simp
  ·rw[if_neg hf,qJc] at hl
   rw[if_neg hf,if_neg hf,qJc,gen _ _ (λa ha=>ha) hl]
theorem zN{sp:List bP}{base:Int}(h:jZ sp base):RPz (sp.map bP.z) base (mI sp base):=by
 rcases h with⟨rfl,rfl⟩ | h
 ·exact .inl ⟨rfl,rfl⟩
 ·have hf:=h.form
  have hp:=h.pos
  have hN:sp.length-1<sp.length:=by omega
  have hs:=Fw hf sp.length _ hN hN
  have hsb:=h.sumB _ hN (sp.getD (sp.length-1) aS).arcs.length
  have hrun:=Fe hf sp.length _ hN hN
  have hd:=eQ hf
  have hne:sp≠[]:=λe=>by rw[e] at hp;simp at hp
  refine .inr ⟨by simpa using hne,⟨by rw[qQa];exact h.few,h.base1,h.base2,λj hj=>?_⟩,?_⟩
  ·rw[qQa] at hj
   have e:(sp.map bP.z).getD j Nt=(sp.getD j aS).z:=by simp[qZa,hj]
   rw[e]
   exact Hi ⟨_,rfl,hf j hj⟩
  ·have hw:=Ys hd (λi hi=>(Dl hf sp.length i hi hi).ne) 26 (sp.length-1) [] base [] hN (λr hr=>by have:=hs.2 r hr;simp only[qJb];omega) (by have:=hs.1;simp only[qJb];omega)
   refine⟨(gV sp (sp.length-1)).map λr=>(r.1,base+r.2),?_,?_,?_⟩
   ·unfold wC0
    rw[qQa,qJd]
    exact hw.trans (by simp[Function.comp_def,Mf])
   ·intro r hr c hc
    obtain⟨q,hq,rfl⟩:=List.mem_map.1 hr
    exact (hrun q hq c hc).1
   ·unfold mI gN
    rw[if_neg hne,qJd]
    refine List.map_congr_left λr _=>?_
    simp only[Function.comp,aGg,aE.mk.injEq,true_and]
    omega
def RRt(sts:List iS)(base:Int):Prop:=∃ L,RPz sts base L/\eK L=true/\(bB L).base=base/\(bB L).states.map bP.z=sts
theorem aBo(sts:List iS)(base:Int):RRt sts base↔qK sts base:=by
 constructor
 ·rintro⟨L,_,h2,h3,h4⟩
  refine⟨(bB L).states,h4.symm,?_⟩
  rw[<-h3]
  exact dD (jG h2)
 ·rintro⟨sp,rfl,h⟩
  have hw:=pJ h
  refine⟨mI sp base,zN h,Bc hw.1,?_,?_⟩
  ·rw[hw.2]
  ·rw[hw.2]
theorem wR{sts:List iS}{base:Int}{M:List aE}(h:RPz sts base L)(k:RPz sts base M):L=M:=by
 rcases h with⟨h1,h2⟩ | ⟨h1,_,R,r1,r2,r3⟩
 ·rcases k with⟨_,k2⟩ | ⟨k1,_⟩
  ·rw[h2,k2]
  ·exact absurd h1 k1
 ·rcases k with⟨k1,_⟩ | ⟨_,_,Q,q1,q2,q3⟩
  ·exact absurd k1 h1
  ·have e:R=Q:=by
    refine nK (f:=Mf) (λa b e=>?_) (r1.symm.trans q1)
    simp only[Mf,Prod.mk.injEq] at e
    exact Prod.ext (nK (f:=oM) (λx y e=>Int.ofNat.inj e) e.1) e.2
   rw[r3,q3,e]
end
section
variable[Inhabited eF]
theorem Ix(w:World)(base:Int)(A:Option Addr)(n c:Nat)(Z:List ZV)(hst:iT w A n Z)(hnm:n<=maxLen)(hlab:∀ z∈Z,∀ a∈z.arcs,Kr a.1)(hbs:bs<=w.heap.size) :
  Calls Tryz.prog 131 #[.agg #[.int .i64 base,.slice A n c]] w λe w'=>jF (qK (Z.map ZV.p) base) e/\aC (λ_=>False) w w':=by
 rw[<-aBo]
 obtain⟨w1,hw1⟩:=eX (w.alloc (.cells #[.int .i64 base,.slice A n c] 89))
 have hT1:aC (λ_=>False) w w1:=by rw[hw1];exact (aC.refl _ _).alloc _
 have hb1:aL w1 w.heap.size 89 #[.int .i64 base,.slice A n c]:=by rw[hw1];exact aL.new _ _ _
 have hcall:=qV w1 base A n c Z (hst.quiet hT1) hnm hlab (by have:=hT1.size;omega)
 have HT1:=aB hT1
 have HB1:=aB hb1
 have HW1:=aB hw1
 have HST:=aB hst
 have HC:=aB hcall
 clear hT1 hb1 hw1 hst hcall hlab hbs
 go_in
 go_wp2_with fail
 rw[<-HW1.out]
 refine HC.mono ?_
 rintro e w2 ⟨⟨L,A2,n2,c2,rfl,hR,hS,hn2,hsz⟩ | ⟨rfl,hno⟩,T2⟩
 ·have hcb:=Mn w2 ⟨A2,n2,c2,L⟩ hS (λr hr=>by have:=hsz r hr;omega) (by simp only;unfold maxLen;omega)
  simp only[SL.val] at hcb
  obtain⟨m0,m1,m2⟩:=(HB1.touch T2 (λf=>f)).facts
  have HT2:=aB T2
  have HCB:=aB hcb
  have HR:=aB hR
  clear hcb T2 hR hS hsz
  go_wp2_with fail
  refine HCB.mono ?_
  rintro e w3 ⟨T3,⟨hrf,k,hk,rfl⟩ | ⟨hrt,A3,n3,c3,Y,rfl,hY,hYp,_⟩⟩
  ·have hk0:(k == 0)=false:=by simp;omega
   have hno:¬ RRt (Z.map ZV.p) base:=by
    rintro⟨L',h1,h2,_⟩
    rw[wR h1 HR.out,hrf] at h2
    cases h2
   have HNO:=aB hno
   have HT3:=aB T3
   clear hno T3 m0 m1 m2
   go_wp2_with fail
   go_ret
   exact⟨.mk false ⟨(λh=>by cases h),λh=>absurd h HNO⟩,HT1.then (HT2.then (HT3.alloc _))⟩
  ·obtain⟨w4,hw4⟩:=eX (w3.alloc (.cells #[.int .i64 (bB L).base,.slice A3 n3 c3] 89))
   have hT4:aC (λ_=>False) w3 w4:=by rw[hw4];exact (aC.refl _ _).alloc _
   have hst4:iT w4 A n Z:=HST.quiet (HT1.then (HT2.then (T3.then hT4)))
   have hY4:iT w4 A3 n3 (Y.map SV.zv):=Pa (hY.od.quiet hT4)
   have hcs:=Mw w4 base (bB L).base A n c Z A3 n3 c3 _ hst4 hY4 hnm
   have hiff:(base=(bB L).base/\Z.map ZV.p=(Y.map SV.zv).map ZV.p)↔RRt (Z.map ZV.p) base:=by
    rw[aEt,hYp]
    constructor
    ·rintro⟨h1,h2⟩
     exact⟨L,HR,hrt,h1.symm,h2.symm⟩
    ·rintro⟨L',h1,h2,h3,h4⟩
     rw[wR h1 HR.out] at h3 h4
     exact⟨h3.symm,h4.symm⟩
   rw[propext hiff] at hcs
   have hT3:aC (λ_=>False) w w3:=HT1.then (HT2.then T3)
   obtain⟨m0,m1,m2⟩:=(HB1.touch (HT2.then T3) (λf=>f)).facts
   have HW4:=aB hw4
   have HCS:=aB hcs
   have HT:=aB (hT3.then hT4)
   clear hst4 hY4 hcs hiff hT3 hT4 hw4 hY hYp hrt T3
   obtain⟨mb,hmb⟩:=eX ((bB L).base)
   rw[<-hmb] at HCS HW4 ⊢
   clear hmb
   go_wp2_with fail
   rw[<-HW4.out]
   refine HCS.mono ?_
   rintro e w5 ⟨⟨v,rfl,hv⟩,T5⟩
   have HV:=aB hv
   have HT5:=aB T5
   clear hv T5
   go_wp2_with fail
   go_ret
   exact⟨.mk _ (by first | exact HV | (simpa using HV.out)),HT.then HT5⟩
 ·have HNO:=aB hno
  have HT2:=aB T2
  clear hno T2
  go_wp2_with fail
  go_ret
  exact⟨.mk false ⟨(λh=>by cases h),(λh=>by obtain⟨L,h1,_⟩:=h;exact absurd ⟨L,h1⟩ HNO)⟩,HT1.then HT2⟩
end
end Go.Proofs.YthockgmbooefpaaGreatDoor
