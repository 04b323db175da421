/- What the law rests on, part 9. No condition but those that each theorem names. -/
import Derived.Test.YthockgmbooefpaaGreatDoorT06
import Derived.Test.YthockgmbooefpaaGreatDoorT08
import Derived.Deep.RegionHeld3
import Derived.Deep.RegionLaw
import Derived.Deep.DrawnRows
import Derived.BigRegion
import Derived.ChangeKeysEq
set_option linter.unusedSectionVars false
set_option linter.unusedSimpArgs false
set_option linter.unusedVariables false
set_option maxRecDepth 100000
set_option maxHeartbeats 4000000
namespace Go.Proofs.YthockgmbooefpaaGreatDoor
open Go.RowKit
def u8V (x:Nat):Value:=.int .u8 (x:Int)
def rowV (s:List Nat):Array Value:=((List.range 25).map fun j=>u8V (s.getD j 0)).toArray
theorem rowV_size (s:List Nat):(rowV s).size=25:=by simp [rowV]
theorem rowV_get (s:List Nat) (j:Nat) (hj:j<25):(rowV s)[j]? = some (u8V (s.getD j 0)):=by
 simp [rowV,hj]
theorem rowV_nil:rowV []=#[.int .u8 0,.int .u8 0,.int .u8 0,.int .u8 0,.int .u8 0,.int .u8 0,.int .u8 0,.int .u8 0,.int .u8 0,.int .u8 0,.int .u8 0,.int .u8 0,.int .u8 0,.int .u8 0,.int .u8 0,.int .u8 0,.int .u8 0,.int .u8 0,.int .u8 0,.int .u8 0,.int .u8 0,.int .u8 0,.int .u8 0,.int .u8 0,.int .u8 0]:=rfl
theorem rowV_snoc (l:List Nat) (x:Nat) (h:l.length<25):(rowV l).setIfInBounds l.length (u8V x)=rowV (l++[x]):=by
 apply Array.ext_getElem?
 intro j
 rw [Array.getElem?_setIfInBounds]
 by_cases hj:j<25
 ·rw [rowV_get _ _ hj,rowV_size]
  by_cases e:l.length=j
  ·subst e
   rw [if_pos rfl,if_pos h,rowV_get _ _ hj]
   simp [List.getD,u8V]
  ·rw [if_neg e,rowV_get _ _ hj]
   congr 2
   by_cases h1:j<l.length
   ·simp [List.getD,h1,List.getElem?_append_left]
   ·have h2:l.length<j:=by omega
    simp only [List.getD]
    rw [List.getElem?_eq_none (by omega),List.getElem?_eq_none (by simp;omega)]
 ·have h1:(rowV (l++[x])).size≤j:=by rw [rowV_size];omega
  have h2:(rowV l).size≤j:=by rw [rowV_size];omega
  rw [Array.getElem?_eq_none h1,Array.getElem?_eq_none h2,if_neg (by omega)]
def cutR' (o:Nat) (s:List Nat):List Nat:=s.map (min · o)
theorem cutR'_len (o:Nat) (s:List Nat):(cutR' o s).length=s.length:=by simp [cutR']
theorem cutR'_get (o:Nat) (s:List Nat) (j:Nat) (hj:j<s.length):(cutR' o s).getD j 0=min (s.getD j 0) o:=by simp [cutR',List.getD,hj]
theorem cutR'_idem (o:Nat) (s:List Nat):cutR' o (cutR' o s)=cutR' o s:=by
 simp only [cutR',List.map_map]
 apply List.map_congr_left
 intro x _
 simp [Function.comp]
theorem touch_setCells {S:Nat→Prop} {w w':World} {b:Nat} (hb:b<w.heap.size→S b):∀ (vs:List Value) (o:Nat) (w':World),Touch S w w'→Touch S w (w'.setCells b o vs)
 | [],_,_,h=>h
 | v :: r,o,w',h=>touch_setCells (w':=w') hb r (o+1) _ (h.setCell (p:=⟨b,o,none⟩) hb v)
theorem blk_setCells {g:Nat} {t:TypeId}:∀ (vs:List Value) (o:Nat) (w:World) (cs:Array Value),Blk w g t cs→∃ cs',Blk (w.setCells g o vs) g t cs'∧cs'.size=cs.size
 | [],_,_,cs,h=>⟨cs,h,rfl⟩
 | v :: r,o,w,cs,h=>by
  obtain ⟨cs',h1,h2⟩:=blk_setCells r (o+1) _ _ (h.set_ o v)
  exact ⟨cs',h1,by rw [h2];simp⟩
theorem Blk.range {w:World} {g:Nat} {t:TypeId} {cs:Array Value} (h:Blk w g t cs):w.rangeAt g 0 cs.toList:=fun j v hv=>by
 rw [Nat.zero_add,h.cell]
 simpa using hv
theorem Blk.there {w:World} {g:Nat} {t:TypeId} {cs:Array Value} (h:Blk w g t cs) {n:Nat} (hn:n≤cs.size):w.there g 0 n:=fun j hj=>by
 rw [Nat.zero_add,h.cell]
 exact ⟨by simp;omega,h.frozen j⟩
theorem Blk.setAll {w:World} {g:Nat} {t:TypeId} {cs ds:Array Value} (h:Blk w g t cs) (hs:ds.size=cs.size):Blk (w.setCells g 0 ds.toList) g t ds:=by
 obtain ⟨cs',h1,h2⟩:=blk_setCells ds.toList 0 w cs h
 have e:cs'=ds:=by
  apply Array.ext_getElem?
  intro j
  rw [← h1.cell j]
  by_cases hj:j<ds.size
  ·have:=World.cell?_setCells_in g ds.toList 0 w (fun i hi=>((h.there (Nat.le_of_eq hs)) i (by simpa using hi)).1) j (by simpa using hj)
   rw [Nat.zero_add] at this
   rw [this]
   simp [hj]
  ·rw [h1.cell,Array.getElem?_eq_none (by omega),Array.getElem?_eq_none (by omega)]
 rw [e] at h1
 exact h1
theorem A_info_row:(Tryz.prog.info? 181).map (·.size)=some 25:=by kernel_rfl
theorem rowV_one (s:List Nat):(rowV s).all (·.oneCell')=true:=by
 rw [Array.all_eq_true_iff_forall_mem]
 intro v hv
 simp only [rowV,List.mem_toArray,List.mem_map] at hv
 obtain ⟨j,_,rfl⟩:=hv
 rfl
theorem wpList_row_load {ops:Array Oper} {rest:List Oper} {op:Oper} {a:Act} {w:World} {Q:Exit→Act→World→Prop} (hgd:op.guard=none) (x:Operand) (ho:op.op=.load 181 x)
  (b:Nat) (hx:a.eval x=.pointer (some ⟨b,0,none⟩)) (s:List Nat) (hb:Blk w b 181 (rowV s)) (h:wpList Tryz.prog ops Q rest (a.put op.dst (.agg (rowV s))) w):wpList Tryz.prog ops Q (op :: rest) a w:=by
 refine wpList_load_mid (P:=Tryz.prog) hgd 181 x ho b 0 hx (rowV s).toList _ hb.range Tryz.underlying181 rfl (by rw [A_info_row];simp [rowV_size]) ?_
 simpa using h
theorem row_var {w:World} {g:Nat} {s:List Nat} (h:Blk w g 181 (rowV s)):(loadVar 181 ⟨g,0,none⟩).run Tryz.prog w=.ok (.agg (rowV s)) w:=by
 have:=run_loadVar_mid (P:=Tryz.prog) w g 0 181 (rowV s).toList _ h.range Tryz.underlying181 rfl (by rw [A_info_row];simp [rowV_size])
 simpa using this
theorem wpList_row_store {ops:Array Oper} {rest:List Oper} {op:Oper} {a:Act} {w:World} {Q:Exit→Act→World→Prop} (hgd:op.guard=none) (x y:Operand) (ho:op.op=.store 181 x y)
  (b:Nat) (hx:a.eval x=.pointer (some ⟨b,0,none⟩)) (t:List Nat) (hy:a.eval y=.agg (rowV t)) (s:List Nat) (hb:Blk w b 181 (rowV s)) (h:wpList Tryz.prog ops Q rest (a.put op.dst undef) (w.setCells b 0 (rowV t).toList)):wpList Tryz.prog ops Q (op :: rest) a w :=
 wpList_store_mid (P:=Tryz.prog) hgd 181 x y ho b 0 (rowV t) hx hy (hb.there (by rw [rowV_size,rowV_size];exact Nat.le_refl _)) (by rw [A_info_row,rowV_size]) (rowV_one t) h
theorem Blk.row {w:World} {g:Nat} {s:List Nat} (h:Blk w g 181 (rowV s)) (t:List Nat):Blk (w.setCells g 0 (rowV t).toList) g 181 (rowV t):=h.setAll (by rw [rowV_size,rowV_size])
theorem results_cell {P:Program} {fn:Func} {a:Tmp} {t:TypeId} {tmps:Array Value} {w:World} {b:Addr} {v:Value} (h:fn.results=#[.cell a t]) (hp:tmps.getD a undef=.pointer (some b)) (hl:(loadVar t b).run P w=.ok v w) :
  (results fn tmps).run P w=.ok v w:=by
 unfold results
 rw [h]
 have hp':tmps[a]?.getD undef=.pointer (some b):=by simpa using hp
 simp [Sem.run_bind,hp',asAddr,hl]
structure LevM (w:World) (b:Nat) (A:Option Addr) (n c:Nat) (X:List Nat) (o:Nat):Prop where
 blk:Blk w b 252 (#[.slice A n c,u8V o]++rowV (List.replicate (n+1) o))
 rd:RdT w 21 1 A n (X.map runeV)
 len:X.length=n
 few:n≤24
 o1:1≤o
 o2:o≤4
theorem LevM.quiet {w w':World} {b:Nat} {A:Option Addr} {n c:Nat} {X:List Nat} {o:Nat} (h:LevM w b A n c X o) (T:Touch (fun _=>False) w w'):LevM w' b A n c X o :=
 ⟨h.blk.touch T (fun f=>f),h.rd.quiet T,h.len,h.few,h.o1,h.o2⟩
theorem LevM.cells {w:World} {b:Nat} {A:Option Addr} {n c:Nat} {X:List Nat} {o:Nat} (h:LevM w b A n c X o) :
  w.cell? ⟨b,0,none⟩=some (.slice A n c)∧w.cell? ⟨b,1,none⟩=some (.int .u8 (o:Int))∧b<w.heap.size:=by
 have h0:=h.blk.cell 0
 have h1:=h.blk.cell 1
 refine ⟨?_,?_,h.blk.lt⟩
 ·rw [h0,Array.getElem?_append_left (by simp)];rfl
 ·rw [h1,Array.getElem?_append_left (by simp)];rfl
theorem cut_any (w:World) (b:Nat) (A:Option Addr) (n c:Nat) (X:List Nat) (o:Nat) (h:LevM w b A n c X o) (s:List Nat) (hs:s.length=n+1) :
  Calls Tryz.prog 146 #[.pointer (some ⟨b,0,none⟩),.agg (rowV s)] w fun e w'=>e=.returned (.agg (rowV (cutR' o s)))∧Touch (fun _=>False) w w':=by
 obtain ⟨x0,x1,x2⟩:=h.cells
 have H:=hide h
 have HSL:=hide hs
 have hn:(n:Int)≤24:=by have:=h.few;omega
 clear h hs
 obtain ⟨wa,hwa⟩:∃ x,x=((w.alloc (.cells (rowV s) 181)).alloc (.cells (rowV []) 181)).alloc (.cells (rowV []) 181):=⟨_,rfl⟩
 have hTa:Touch (fun _=>False) w wa:=by rw [hwa];exact (((Touch.refl _ _).alloc _).alloc _).alloc _
 have hb3:Blk wa w.heap.size 181 (rowV s):=by rw [hwa];exact ((Blk.new _ _ _).alloc _).alloc _
 have hb4:Blk wa (w.heap.size+1) 181 (rowV []):=by rw [hwa];exact (blk_new1 _ _ _ _).alloc _
 have hb5:Blk wa (w.heap.size+1+1) 181 (rowV []):=by rw [hwa];exact blk_new2 _ _ _ _ _
 have HWA:=hide hwa
 have HTA:=hide hTa
 have HB3:=hide hb3
 have HB4:=hide hb4
 have HB5:=hide hb5
 have HLA:=hide (H.out.quiet hTa)
 clear hwa hTa hb3 hb4 hb5
 go_enter Tryz.func146,Tryz.ntmps146
 go_upto_region 2 with fail
 rw [← rowV_nil,← HWA.out]
 obtain ⟨b3,h3⟩:∃ x,x=w.heap.size:=⟨_,rfl⟩
 obtain ⟨b4,h4⟩:∃ x,x=w.heap.size+1:=⟨_,rfl⟩
 obtain ⟨b5,h5⟩:∃ x,x=w.heap.size+1+1:=⟨_,rfl⟩
 rw [← h5,← h4,← h3]
 rw [← h3] at HB3
 rw [← h4] at HB4
 rw [← h5] at HB5
 have HE:=hide (And.intro h3 (And.intro h4 h5))
 clear h3 h4 h5 x0 x1 x2
 obtain ⟨x0,x1,x2⟩:=HLA.out.cells
 go_wp2_with fail
 go_loopw [6,13] (fun _ iv wr=>∃ (k:Nat),iv=.int .i64 k∧k≤n+1∧Hid (Blk wr b5 181 (rowV ((cutR' o s).take k)))∧Hid (Touch (fun g=>g=b5) wa wr)) (fun _ iv _=>n+1-(intOf iv).toNat)
 case atStart=>exact ⟨0,rfl,by omega,HB5,hide (Touch.refl _ _)⟩
 case round =>
  obtain ⟨k,rfl,hk,HB,HT⟩:=hrel
  have hne3:b3≠b5:=by have:=HE.out;omega
  have hbb5:b≠b5:=HLA.out.blk.ne_ HB5.out (by decide)
  by_cases hkn:k≤n
  ·have y1:(k:Int)<(n:Int)+1:=by omega
   have y2:(0:Int)≤(k:Int):=by omega
   have y3:(k:Int)<25:=by omega
   have y4:IntKind.i64.wrap ((k:Int)+1)=(k:Int)+1:=IntWalk.i64_in _ (by omega)
   have hb3:=HB3.out.touch HT.out hne3
   have hlev:Blk wr b _ _:=HLA.out.blk.touch HT.out hbb5
   have c3:wr.cell? ⟨b3,k,none⟩=some (.int .u8 (s.getD k 0:Int)):=by rw [hb3.cell];exact rowV_get _ _ (by omega)
   have c5:wr.cell? ⟨b5,k,none⟩=some (.int .u8 (((cutR' o s).take k).getD k 0:Int)):=by rw [HB.out.cell];exact rowV_get _ _ (by omega)
   have c1:wr.cell? ⟨b,1,none⟩=some (.int .u8 (o:Int)):=by rw [hlev.cell,Array.getElem?_append_left (by simp)];rfl
   have l3:=hb3.lt
   have l5:=HB.out.lt
   have l1:=hlev.lt
   have f5:wr.frozen? ⟨b5,k,none⟩=false:=HB.out.frozen k
   have HK:=hide hkn
   obtain ⟨v,hv⟩:∃ v,v=s.getD k 0:=⟨_,rfl⟩
   obtain ⟨u,hu⟩:∃ v,v=((cutR' o s).take k).getD k 0:=⟨_,rfl⟩
   rw [← hv] at c3
   rw [← hu] at c5
   have HV:=hide hv
   clear hv hu hb3 hlev hkn hk x0 x1 x2
   go_wp2_with fail
   go_region
   go_wp2_with fail
   go_roundw
   ·have hl:(cutR' o s).length=n+1:=by rw [cutR'_len,HSL.out]
    have hk1:=HK.out
    have hset:=rowV_snoc ((cutR' o s).take k) ((cutR' o s).getD k 0) (by rw [List.length_take];omega)
    rw [List.length_take,Nat.min_eq_left (by omega),← takeN_snoc _ _ (by omega),cutR'_get _ _ _ (by rw [HSL.out];omega),← HV.out] at hset
    have hval:Value.int .u8 (if o<v then (o:Int) else (v:Int))=u8V (min v o):=by
     unfold u8V
     congr 1
     split<;>omega
    refine ⟨k+1,by simp,by omega,hide ?_,hide ((HT.out.setCell (p:=⟨b5,k,none⟩) (fun _=>rfl) _).drew)⟩
    rw [hval,← hset]
    exact (HB.out.set_ k _).drew
   ·have:=HK.out
    simp only [intOf]
    omega
  ·have hke:k=n+1:=by omega
   subst hke
   have y1:¬ ((n+1:Nat):Int)<(n:Int)+1:=by omega
   have hb5:=HB.out
   rw [List.take_of_length_le (by rw [cutR'_len,HSL.out];exact Nat.le_refl _)] at hb5
   have h45:b4≠b5:=by have:=HE.out;omega
   have hb4:=HB4.out.touch HT.out h45
   have hv:=row_var (hb4.row (cutR' o s))
   have hT4:Touch (fun g=>g=b5∨g=b4) wa (wr.setCells b4 0 (rowV (cutR' o s)).toList):=touch_setCells (w':=wr) (fun _=>.inr rfl) _ _ _ (HT.out.mono fun _ _ e=>.inl e)
   have HV:=hide hv
   have HT4:=hide hT4
   have HB5':=hide hb5
   have HB4':=hide hb4
   clear hb5 hb4 hv hT4 hkn hk h45 hbb5 hne3
   go_wp2_with (first | (refine wpList_row_load rfl (.tmp 5) rfl b5 rfl _ HB5'.out ?_) | (refine wpList_row_store rfl (.tmp 4) (.tmp 27) rfl b4 rfl (cutR' o s) rfl _ HB4'.out ?_))
   refine bodyPost_ret (v:=.agg (rowV (cutR' o s))) (results_cell rfl rfl HV.out) rfl ⟨rfl,HTA.out.trans HT4.out fun i hi e=>?_⟩
   have:=HE.out
   omega
end Go.Proofs.YthockgmbooefpaaGreatDoor
namespace Go.Proofs.YthockgmbooefpaaGreatDoor
open Go.RowKit
theorem wrap_u8 (x:Int) (h0:0≤x) (h1:x≤255):IntKind.u8.wrap x=x:=by
 unfold IntKind.wrap
 simp [IntKind.bits,IntKind.signed]
 omega
theorem step_cut (X s:List Nat) (o r n:Nat) (hX:X.length=n) (hs:s.length=n+1) :
  (cutR' o (stepD X s r)).length=n+1∧(cutR' o (stepD X s r)).getD 0 0=min ((cutR' o s).getD 0 0+1) o ∧
  ∀ j,j<n→(cutR' o (stepD X s r)).getD (j+1) 0=min (min (min ((cutR' o s).getD j 0+if X.getD j 0=r then 0 else 1) ((cutR' o s).getD (j+1) 0+1)) ((cutR' o (stepD X s r)).getD j 0+1)) o:=by
 have hl:(stepD X s r).length=n+1:=by rw [stepD_len r (by omega),hX]
 refine ⟨by rw [cutR'_len,hl],?_,fun j hj=>?_⟩
 ·rw [cutR'_get _ _ _ (by omega),cutR'_get _ _ _ (by omega)]
  have:(stepD X s r).getD 0 0=s.getD 0 0+1:=by
   unfold stepD
   cases s<;>simp
  omega
 ·rw [cutR'_get _ _ _ (by omega),cutR'_get _ _ _ (by omega),cutR'_get _ _ _ (by omega),cutR'_get _ _ _ (by omega),stepD_get r (by omega) (by omega)]
  split<;>omega
theorem cut_le (o:Nat) (s:List Nat) (j:Nat):(cutR' o s).getD j 0≤o:=by
 by_cases hj:j<s.length
 ·rw [cutR'_get _ _ _ hj];omega
 ·simp [List.getD,cutR',List.getElem?_eq_none (Nat.le_of_not_lt hj)]
theorem dist_lev (w:World) (b:Nat) (A:Option Addr) (n c:Nat) (X:List Nat) (o:Nat) (h:LevM w b A n c X o) (s:List Nat) (hs:s.length=n+1) :
  Calls Tryz.prog 92 #[.pointer (some ⟨b,0,none⟩),.agg (rowV (cutR' o s))] w fun e w'=>e=.returned (.tuple #[.int .i64 (if s.getD n 0<o then (s.getD n 0:Int) else 0),.bool (decide (s.getD n 0<o))])∧Touch (fun _=>False) w w':=by
 obtain ⟨x0,x1,x2⟩:=h.cells
 have hn:=h.few
 have ho1:=h.o1
 have ho2:=h.o2
 have y0:(0:Int)≤(n:Int):=by omega
 have y1:(n:Int)<25:=by omega
 have y5:((cutR' o s).getD n 0:Int)≤4:=by have:=cut_le o s n;omega
 have hg:=cutR'_get o s n (by omega)
 obtain ⟨v,hv⟩:∃ v,v=s.getD n 0:=⟨_,rfl⟩
 obtain ⟨u,hu⟩:∃ v,v=(cutR' o s).getD n 0:=⟨_,rfl⟩
 rw [← hv,← hu] at hg
 rw [← hu] at y5
 rw [← hv]
 obtain ⟨wa,hwa⟩:∃ x,x=w.alloc (.cells (rowV (cutR' o s)) 181):=⟨_,rfl⟩
 have hTa:Touch (fun _=>False) w wa:=by rw [hwa];exact (Touch.refl _ _).alloc _
 have hb3:Blk wa w.heap.size 181 (rowV (cutR' o s)):=by rw [hwa];exact Blk.new _ _ _
 have c3:wa.cell? ⟨w.heap.size,n,none⟩=some (.int .u8 (u:Int)):=by rw [hb3.cell,hu];exact rowV_get _ _ (by omega)
 have l3:=hb3.lt
 have hla:=h.quiet hTa
 obtain ⟨b3,h3⟩:∃ x,x=w.heap.size:=⟨_,rfl⟩
 rw [← h3] at c3 l3
 have HWA:=hide hwa
 have HTA:=hide hTa
 have HLA:=hide hla
 have HS:=hide hs
 have HE:=hide h3
 clear h hs hwa hTa hb3 hla x0 x1 x2 hu hv h3
 by_cases hlt:v<o
 ·have huv:u=v:=by omega
  subst huv
  have z1:¬ (o:Int)≤(u:Int):=by omega
  have e:(decide (u<o))=true:=by simpa using hlt
  rw [if_pos hlt,e]
  clear hlt e hn ho1 ho2 hg
  go_enter Tryz.func92,Tryz.ntmps92
  go_upto_region 1 with fail
  rw [← HWA.out,← HE.out]
  obtain ⟨x0,x1,x2⟩:=HLA.out.cells
  go_wp2_with fail
  go_ret2
  exact ⟨rfl,HTA.out⟩
 ·have huv:u=o:=by omega
  subst huv
  have z1:(u:Int)≤(u:Int):=Int.le_refl _
  have e:(decide (v<u))=false:=by simpa using hlt
  rw [if_neg hlt,e]
  clear hlt e hn ho1 ho2 hg
  go_enter Tryz.func92,Tryz.ntmps92
  go_upto_region 1 with fail
  rw [← HWA.out,← HE.out]
  obtain ⟨x0,x1,x2⟩:=HLA.out.cells
  go_wp2_with fail
  go_ret2
  exact ⟨rfl,HTA.out⟩
theorem start_any (w:World) (b:Nat) (A:Option Addr) (n c:Nat) (X:List Nat) (o:Nat) (h:LevM w b A n c X o) :
  Calls Tryz.prog 100 #[.pointer (some ⟨b,0,none⟩)] w fun e w'=>e=.returned (.agg (rowV (cutR' o (List.range (n+1)))))∧Touch (fun _=>False) w w':=by
 obtain ⟨S0,hS0⟩:∃ x,x=List.range (n+1):=⟨_,rfl⟩
 have HS0:Hid (S0.length=n+1):=hide (by rw [hS0,List.length_range])
 have HS1:Hid (∀ k,k<n+1→S0.getD k 0=k):=hide (fun k hk=>by rw [hS0];simp [List.getD,hk])
 rw [← hS0]
 clear hS0
 have H:=hide h
 have hn:(n:Int)≤24:=by have:=h.few;omega
 obtain ⟨wa,hwa⟩:∃ x,x=(w.alloc (.cells (rowV []) 181)).alloc (.cells (rowV []) 181):=⟨_,rfl⟩
 have hTa:Touch (fun _=>False) w wa:=by rw [hwa];exact ((Touch.refl _ _).alloc _).alloc _
 have hb2:Blk wa w.heap.size 181 (rowV []):=by rw [hwa];exact (Blk.new _ _ _).alloc _
 have hb3:Blk wa (w.heap.size+1) 181 (rowV []):=by rw [hwa];exact blk_new1 _ _ _ _
 have HWA:=hide hwa
 have HTA:=hide hTa
 have HB2:=hide hb2
 have HB3:=hide hb3
 have HLA:=hide (h.quiet hTa)
 clear h hwa hTa hb2 hb3
 go_enter Tryz.func100,Tryz.ntmps100
 go_upto_region 2 with fail
 rw [← rowV_nil,← HWA.out]
 obtain ⟨b2,h2⟩:∃ x,x=w.heap.size:=⟨_,rfl⟩
 obtain ⟨b3,h3⟩:∃ x,x=w.heap.size+1:=⟨_,rfl⟩
 rw [← h3,← h2]
 rw [← h2] at HB2
 rw [← h3] at HB3
 have HE:=hide (And.intro h2 h3)
 clear h2 h3
 obtain ⟨x0,x1,x2⟩:=HLA.out.cells
 go_wp2_with fail
 go_loopw [4,11] (fun _ iv wr=>∃ (k:Nat),iv=.int .i64 k∧k≤n+1∧Hid (Blk wr b3 181 (rowV ((cutR' o S0).take k)))∧Hid (Touch (fun g=>g=b3) wa wr)) (fun _ iv _=>n+1-(intOf iv).toNat)
 case atStart=>exact ⟨0,rfl,by omega,HB3,hide (Touch.refl _ _)⟩
 case round =>
  obtain ⟨k,rfl,hk,HB,HT⟩:=hrel
  have hbb3:b≠b3:=HLA.out.blk.ne_ HB3.out (by decide)
  by_cases hkn:k≤n
  ·have y1:(k:Int)<(n:Int)+1:=by omega
   have y2:(0:Int)≤(k:Int):=by omega
   have y3:(k:Int)<25:=by omega
   have y4:IntKind.i64.wrap ((k:Int)+1)=(k:Int)+1:=IntWalk.i64_in _ (by omega)
   have hlev:Blk wr b _ _:=HLA.out.blk.touch HT.out hbb3
   have c3:wr.cell? ⟨b3,k,none⟩=some (.int .u8 (((cutR' o S0).take k).getD k 0:Int)):=by rw [HB.out.cell];exact rowV_get _ _ (by omega)
   have c1:wr.cell? ⟨b,1,none⟩=some (.int .u8 (o:Int)):=by rw [hlev.cell,Array.getElem?_append_left (by simp)];rfl
   have l3:=HB.out.lt
   have l1:=hlev.lt
   have f3:wr.frozen? ⟨b3,k,none⟩=false:=HB.out.frozen k
   have HK:=hide hkn
   have ho:=HLA.out.o2
   obtain ⟨u,hu⟩:∃ v,v=((cutR' o S0).take k).getD k 0:=⟨_,rfl⟩
   rw [← hu] at c3
   clear hu hlev hkn hk x0 x1 x2
   go_wp2_with fail
   all_goals
    go_roundw
    ·have hl:(cutR' o S0).length=n+1:=by rw [cutR'_len,HS0.out]
     have hk1:=HK.out
     have hset:=rowV_snoc ((cutR' o S0).take k) ((cutR' o S0).getD k 0) (by rw [List.length_take];omega)
     have hrk:S0.getD k 0=k:=HS1.out k (by omega)
     rw [List.length_take,Nat.min_eq_left (by omega),← takeN_snoc _ _ (by omega),cutR'_get _ _ _ (by rw [HS0.out];omega),hrk] at hset
     refine ⟨k+1,by simp,by omega,hide ?_,hide (HT.out.setCell (p:=⟨b3,k,none⟩) (fun _=>rfl) _)⟩
     have hv:u8V (min k o)=.int .u8 (if o<k then (o:Int) else (k:Int)):=by
      unfold u8V
      congr 1
      split<;>omega
     rw [hv] at hset
     rw [← hset]
     exact HB.out.set_ k _
    ·have:=HK.out
     simp only [intOf]
     omega
  ·have hke:k=n+1:=by omega
   subst hke
   have y1:¬ ((n+1:Nat):Int)<(n:Int)+1:=by omega
   have hb3:=HB.out
   rw [List.take_of_length_le (by rw [cutR'_len,HS0.out];exact Nat.le_refl _)] at hb3
   have h23:b2≠b3:=by have:=HE.out;omega
   have hb2:=HB2.out.touch HT.out h23
   have hv:=row_var (hb2.row (cutR' o S0))
   have hT4:Touch (fun g=>g=b3∨g=b2) wa (wr.setCells b2 0 (rowV (cutR' o S0)).toList):=touch_setCells (w':=wr) (fun _=>.inr rfl) _ _ _ (HT.out.mono fun _ _ e=>.inl e)
   have HV:=hide hv
   have HT4:=hide hT4
   have HB3':=hide hb3
   have HB2':=hide hb2
   clear hb3 hb2 hv hT4 hkn hk h23 hbb3
   go_wp2_with (first | (refine wpList_row_load rfl (.tmp 3) rfl b3 rfl _ HB3'.out ?_) | (refine wpList_row_store rfl (.tmp 2) (.tmp 25) rfl b2 rfl (cutR' o S0) rfl _ HB2'.out ?_))
   refine bodyPost_ret (v:=.agg (rowV (cutR' o S0))) (results_cell rfl rfl HV.out) rfl ⟨rfl,HTA.out.trans HT4.out fun i hi e=>?_⟩
   have:=HE.out
   omega
end Go.Proofs.YthockgmbooefpaaGreatDoor
namespace Go.Proofs.YthockgmbooefpaaGreatDoor
open Go.RowKit
theorem row_items (d:Nat) (w:World) (s t:List Nat):∀ is:List Nat,(∀ i∈is,i<25)→(Op.eqItems (d+1) 5 1 (rowV s) (rowV t) is).run Tryz.prog w=.ok (is.all fun i=>decide (s.getD i 0=t.getD i 0)) w
 | [],_=>by simp [Op.eqItems]
 | i :: is,h=>by
  have hi:=h i List.mem_cons_self
  have ih:=row_items d w s t is fun j hj=>h j (List.mem_cons_of_mem _ hj)
  have p1:∀ u:List Nat,(part 5 (rowV u) (i*1)).run Tryz.prog w=.ok (u8V (u.getD i 0)) w:=fun u=>by
   have:=rowV_get u i hi
   simp [part,go_sem,this]
  simp only [Op.eqItems,Sem.run_bind,p1,Result.andThen_ok]
  rw [show (Op.equalIn (d+1) 5 (u8V (s.getD i 0)) (u8V (t.getD i 0))).run Tryz.prog w=.ok (((s.getD i 0:Nat):Int) == ((t.getD i 0:Nat):Int)) w from run_equalIn_int w d _ _ .u8 _ _ Tryz.underlying5]
  simp only [Result.andThen_ok,List.all_cons]
  generalize s.getD i 0=a
  generalize t.getD i 0=b
  by_cases e:a=b
  ·subst e
   have e':¬ ((!((a:Int) == (a:Int)))=true):=by simp
   rw [if_neg e',ih]
   simp
  ·have e':(!((a:Int) == (b:Int)))=true:=by simp;omega
   rw [if_pos e',decide_eq_false e]
   simp
theorem A_info_u8:∃ i,Tryz.prog.info? 5 = some i:=by
 have h:(Tryz.prog.info? 5).isSome=true:=by kernel_rfl
 exact Option.isSome_iff_exists.1 h
def sameRow (s t:List Nat):Bool:=(List.range 25).all fun i=>decide (s.getD i 0=t.getD i 0)
theorem row_equal (w:World) (s t:List Nat):(Op.equalIn 10000 181 (.agg (rowV s)) (.agg (rowV t))).run Tryz.prog w=.ok (sameRow s t) w:=by
 obtain ⟨i,hi⟩:=A_info_u8
 have h:=run_equalIn_array (P:=Tryz.prog) (w:=w) 9999 (rowV s) (rowV t) Tryz.underlying181 hi
 rw [h]
 have hc:Tryz.prog.cellsOf 5 = 1:=by kernel_rfl
 rw [hc]
 exact row_items 9998 w s t _ fun i hi=>by simpa using hi
theorem same_dead (o n:Nat) (s:List Nat) (hs:s.length=n+1) (hn:n≤24):sameRow (cutR' o s) (List.replicate (n+1) o)=s.all fun x=>decide (o≤x):=by
 rw [Bool.eq_iff_iff]
 simp only [sameRow,List.all_eq_true,decide_eq_true_eq,List.mem_range]
 constructor
 ·intro h x hx
  obtain ⟨j,hj,rfl⟩:=List.mem_iff_getElem.1 hx
  have h1:=h j (by omega)
  rw [cutR'_get _ _ _ hj] at h1
  have e1:s.getD j 0=s[j]:=by simp [List.getD,hj]
  have e2:(List.replicate (n+1) o).getD j 0=o:=by simp [List.getD,show j<n+1 by omega]
  omega
 ·intro h j hj
  by_cases hjs:j<s.length
  ·rw [cutR'_get _ _ _ hjs]
   have e1:s.getD j 0=s[j]:=by simp [List.getD,hjs]
   have e2:(List.replicate (n+1) o).getD j 0=o:=by simp [List.getD,show j<n+1 by omega]
   have:=h s[j] (List.getElem_mem hjs)
   omega
  ·have e1:(cutR' o s).getD j 0=0:=by simp [List.getD,cutR',List.getElem?_eq_none (Nat.le_of_not_lt hjs)]
   have e2:(List.replicate (n+1) o).getD j 0=0:=by
    simp only [List.getD]
    rw [List.getElem?_eq_none (by simp;omega)]
    rfl
   rw [e1,e2]
theorem alive_lev (w:World) (b:Nat) (A:Option Addr) (n c:Nat) (X:List Nat) (o:Nat) (h:LevM w b A n c X o) (s:List Nat) (hs:s.length=n+1) :
  Calls Tryz.prog 91 #[.pointer (some ⟨b,0,none⟩),.agg (rowV (cutR' o s))] w fun e w'=>e=.returned (.bool (!(s.all fun x=>decide (o≤x))))∧Touch (fun _=>False) w w':=by
 rw [← same_dead o n s hs h.few]
 have hcut:=cutR'_idem o s
 have hD:∀ w',Touch (fun _=>False) w w'→w'.rangeAt b 2 (rowV (List.replicate (n+1) o)).toList:=fun w' T=>by
  intro j v hv
  have hb:=(h.blk.touch T (fun f=>f)).cell (2+j)
  rw [hb]
  simp only [Array.getElem?_toList] at hv
  rw [Array.getElem?_append_right (by simp),← hv]
  congr 1
  simp
 obtain ⟨wa,hwa⟩:∃ x,x=w.alloc (.cells (rowV (cutR' o s)) 181):=⟨_,rfl⟩
 have hTa:Touch (fun _=>False) w wa:=by rw [hwa];exact (Touch.refl _ _).alloc _
 have hb3:Blk wa w.heap.size 181 (rowV (cutR' o s)):=by rw [hwa];exact Blk.new _ _ _
 obtain ⟨b3,h3⟩:∃ x,x=w.heap.size:=⟨_,rfl⟩
 rw [← h3] at hb3
 have heq:∀ wx:World,(Op.equalIn 10000 181 (.agg (rowV (cutR' o s))) (.agg (rowV (List.replicate (n+1) o)))).run Tryz.prog wx=.ok (sameRow (cutR' o s) (List.replicate (n+1) o)) wx:=fun wx=>row_equal wx _ _
 have HWA:=hide hwa
 have HTA:=hide hTa
 have HB3:=hide hb3
 have HH:=hide h
 have HS:=hide hs
 have HE:=hide h3
 have HD:=hide hD
 have HCUT:=hide hcut
 obtain ⟨D,hDD⟩:∃ D,D=List.replicate (n+1) o:=⟨_,rfl⟩
 obtain ⟨S1,hS1⟩:∃ D,D=cutR' o s:=⟨_,rfl⟩
 have HCL:Hid (S1.length=n+1∧cutR' o S1=S1):=hide (by rw [hS1];exact ⟨by rw [cutR'_len,hs],hcut⟩)
 rw [← hDD,← hS1] at heq
 rw [← hDD] at HD
 rw [← hS1] at HB3 HWA
 rw [← hDD,← hS1]
 obtain ⟨c1,hc1⟩:∃ c,rowV S1=List.toArray c:=⟨(rowV S1).toList,by simp⟩
 obtain ⟨c2,hc2⟩:∃ c,rowV D=List.toArray c:=⟨(rowV D).toList,by simp⟩
 have hi1:(Tryz.prog.info? 181).map (·.size)=some c1.length:=by
  have:=rowV_size S1
  rw [hc1] at this
  rw [A_info_row,← this]
  simp
 have hi2:(Tryz.prog.info? 181).map (·.size)=some c2.length:=by
  have:=rowV_size D
  rw [hc2] at this
  rw [A_info_row,← this]
  simp
 have HCU:=hide (fun wx hx=>cut_any wx b A n c X o hx S1 HCL.out.1)
 rw [HCL.out.2] at HCU
 rw [hc1,hc2] at heq
 rw [hc1] at HB3 HWA HCU
 rw [hc2] at HD
 rw [hc1]
 clear hwa hTa hb3 h hs h3 hD hcut hDD hS1 HCUT hc1 hc2
 go_enter Tryz.func91,Tryz.ntmps91
 go_upto_region 1 with fail
 rw [← HWA.out,← HE.out]
 have hu:=Tryz.underlying181
 have hks:Hid (∀ wx,Touch (fun _=>False) wa wx→wx.rangeAt b3 0 c1∧wx.rangeAt b 2 c2∧Touch (fun _=>False) wa wx):=hide (fun wx T=>⟨by have:=(HB3.out.touch T (fun f=>f)).range;simpa using this,by have:=HD.out wx (HTA.out.then T);simpa using this,T⟩)
 refine wp_region_held_drew (S:=fun wx=>wx.rangeAt b3 0 c1∧wx.rangeAt b 2 c2∧Touch (fun _=>False) wa wx) (by kernel_rfl) (hks.out _ (Touch.refl _ _).drew) (fun hHeld=>?_)
 refine wpAnyH_take (i:=0) (v:=?v0) rfl (by kernel_rfl) (by kernel_rfl) (by kernel_rfl) (fun _ _ _ h=>h) (Or.inl ⟨by kernel_rfl,?h0⟩) hHeld ?_
 case h0=>intro w _;go_simp;with_reducible rfl
 try simp only [Act.put,List.setIfInBounds_toArray,List.set_cons_zero,List.set_cons_succ]
 refine wpAnyH_take (i:=1) (v:=.agg (List.toArray c1)) rfl (by kernel_rfl) (by kernel_rfl) (by kernel_rfl) (fun _ _ _ h=>h) (yieldsIf_load_mid (by kernel_rfl) _ _ rfl b3 0 rfl c1 _ (fun w h=>h.1) hu rfl hi1) hHeld ?_
 try simp only [Act.put,List.setIfInBounds_toArray,List.set_cons_zero,List.set_cons_succ]
 refine wpAnyH_take (i:=3) (v:=?v3) rfl (by kernel_rfl) (by kernel_rfl) (by kernel_rfl) (fun _ _ _ h=>h) (Or.inl ⟨by kernel_rfl,?h3⟩) hHeld ?_
 case h3=>intro w _;go_simp;with_reducible rfl
 try simp only [Act.put,List.setIfInBounds_toArray,List.set_cons_zero,List.set_cons_succ]
 refine wpAnyH_take (i:=4) (v:=?v4) rfl (by kernel_rfl) (by kernel_rfl) (by kernel_rfl) (fun _ _ _ h=>h) (Or.inl ⟨by kernel_rfl,?h4⟩) hHeld ?_
 case h4=>intro w _;go_simp;with_reducible rfl
 try simp only [Act.put,List.setIfInBounds_toArray,List.set_cons_zero,List.set_cons_succ]
 refine wpAnyH_take (i:=5) (v:=?v5) rfl (by kernel_rfl) (by kernel_rfl) (by kernel_rfl) (fun _ _ _ h=>h) (Or.inl ⟨by kernel_rfl,?h5⟩) hHeld ?_
 case h5=>intro w _;go_simp;with_reducible rfl
 try simp only [Act.put,List.setIfInBounds_toArray,List.set_cons_zero,List.set_cons_succ]
 refine wpAnyH_take (i:=6) (v:=.agg (List.toArray c2)) rfl (by kernel_rfl) (by kernel_rfl) (by kernel_rfl) (fun _ _ _ h=>h) (yieldsIf_load_mid (by kernel_rfl) _ _ rfl b 2 rfl c2 _ (fun w h=>h.2.1) hu rfl hi2) hHeld ?_
 try simp only [Act.put,List.setIfInBounds_toArray,List.set_cons_zero,List.set_cons_succ]
 refine wpAnyH_ready (rs:=[2]) (by kernel_rfl) (by simp) ?_
 refine AllReadyH.cons rfl (fun K hK=>?_) AllReadyH.nil
 go_simp
 refine (HCU.out _ (HH.out.quiet (HTA.out.then (Touch.refl _ _).drew))).mono ?_
 rintro e w' ⟨rfl,T1⟩
 have HT1:=hide T1
 go_simp
 refine hK.out _ _ (hks.out _ ((Touch.refl _ _).drew.then HT1.out)) (fun hHeld=>?_)
 clear hK K
 try simp only [Act.put,List.setIfInBounds_toArray,List.set_cons_zero,List.set_cons_succ]
 refine wpAnyH_take (i:=7) (v:=?v7) rfl (by kernel_rfl) (by kernel_rfl) (by kernel_rfl) (fun _ _ _ h=>h) (Or.inl ⟨by kernel_rfl,?h7⟩) hHeld ?_
 case h7=>intro w _;go_simp;with_reducible rfl
 try simp only [Act.put,List.setIfInBounds_toArray,List.set_cons_zero,List.set_cons_succ]
 refine wpAnyH_take (i:=8) (v:=?v8) rfl (by kernel_rfl) (by kernel_rfl) (by kernel_rfl) (fun _ _ _ h=>h) (Or.inl ⟨by kernel_rfl,?h8⟩) hHeld ?_
 case h8=>intro w _;go_simp;with_reducible rfl
 try simp only [Act.put,List.setIfInBounds_toArray,List.set_cons_zero,List.set_cons_succ]
 refine wpAnyH_done (by kernel_rfl) ?_ _
 go_wp2_with fail
 go_ret
 exact ⟨rfl,HTA.out.then ((Touch.refl _ _).drew.then HT1.out)⟩
end Go.Proofs.YthockgmbooefpaaGreatDoor
namespace Go.Proofs.YthockgmbooefpaaGreatDoor
open Go.RowKit
def min4 (x y z u:Int):Int:=min (min (min x y) z) u
theorem run_min_int4 {P:Program} (w:World) (ts:Array TypeId) (t:TypeId) (k k1 k2 k3:IntKind) (x y z u:Int):(Builtin.min_ ts t #[.int k x,.int k1 y,.int k2 z,.int k3 u]).run P w=.ok (.int k (min4 x y z u)) w:=by
 have e:∀ a b:Int,(if b<a then b else a)=min a b:=fun a b=>by
  rw [Int.min_def]
  split<;>split<;>omega
 simp [Builtin.min_,Builtin.min2,e,min4]
attribute [local go_sem] run_min_int4
theorem LevM.touch2 {w w':World} {b:Nat} {A:Option Addr} {n c:Nat} {X:List Nat} {o:Nat} {S:Nat→Prop} (h:LevM w b A n c X o) (T:Touch S w w') (hS:∀ t,t ≠ 181 → ∀ g,TyAt w g t→¬ S g):LevM w' b A n c X o :=
 ⟨h.blk.touch T (hS _ (by decide) _ (blk_ty h.blk)),h.rd.touch T (fun g hg=>hS _ (by decide) g hg),h.len,h.few,h.o1,h.o2⟩
theorem step_any (w:World) (b:Nat) (A:Option Addr) (n c:Nat) (X:List Nat) (o:Nat) (h:LevM w b A n c X o) (s:List Nat) (hs:s.length=n+1) (r:Nat) :
  Calls Tryz.prog 97 #[.pointer (some ⟨b,0,none⟩),.agg (rowV (cutR' o s)),.int .i32 (r:Int)] w fun e w'=>e=.returned (.agg (rowV (cutR' o (stepD X s r))))∧Touch (fun _=>False) w w':=by
 obtain ⟨hTl,hT0,hTs⟩:=step_cut X s o r n h.len hs
 obtain ⟨TT,hTT⟩:∃ t,t=cutR' o (stepD X s r):=⟨_,rfl⟩
 obtain ⟨S1,hS1⟩:∃ t,t=cutR' o s:=⟨_,rfl⟩
 have hSl:S1.length=n+1:=by rw [hS1,cutR'_len,hs]
 have hSi:cutR' o S1=S1:=by rw [hS1,cutR'_idem]
 have hSle:∀ j,S1.getD j 0≤o:=fun j=>by rw [hS1];exact cut_le o s j
 have hTle:∀ j,TT.getD j 0≤o:=fun j=>by rw [hTT];exact cut_le o _ j
 rw [← hTT] at hTl hT0 hTs ⊢
 rw [← hS1] at hT0 hTs ⊢
 clear hTT hS1
 obtain ⟨wa,hwa⟩:∃ x,x=(w.alloc (.cells (rowV S1) 181)).alloc (.cells (rowV []) 181):=⟨_,rfl⟩
 have hTa:Touch (fun _=>False) w wa:=by rw [hwa];exact ((Touch.refl _ _).alloc _).alloc _
 have hb4:Blk wa w.heap.size 181 (rowV S1):=by rw [hwa];exact (Blk.new _ _ _).alloc _
 have hb6:Blk wa (w.heap.size+1) 181 (rowV []):=by rw [hwa];exact blk_new1 _ _ _ _
 obtain ⟨b4,h4⟩:∃ x,x=w.heap.size:=⟨_,rfl⟩
 obtain ⟨b6,h6⟩:∃ x,x=w.heap.size+1:=⟨_,rfl⟩
 rw [← h4] at hb4
 rw [← h6] at hb6
 have hla:=h.quiet hTa
 have hcu:=cut_any wa b A n c X o hla S1 hSl
 rw [hSi] at hcu
 have HWA:=hide hwa
 have HTA:=hide hTa
 have HB4:=hide hb4
 have HB6:=hide hb6
 have HLA:=hide hla
 have HCU:=hide hcu
 have HE:=hide (And.intro h4 h6)
 have HSL:=hide hSl
 have HTL:=hide hTl
 have HT0:=hide hT0
 have HTS:=hide hTs
 have HSLE:=hide hSle
 have HTLE:=hide hTle
 have hn:(n:Int)≤24:=by have:=h.few;omega
 clear hwa hTa hb4 hb6 h hs h4 h6 hla hcu hSl hSi hTl hT0 hTs hSle hTle
 go_enter Tryz.func97,Tryz.ntmps97
 go_upto_region 1 with fail
 rw [← rowV_nil,← HWA.out,← HE.out.2,← HE.out.1]
 go_wp2_with (refine wpList_row_load rfl (.tmp 4) rfl b4 rfl _ HB4.out ?_)
 refine HCU.out.mono ?_
 rintro e w1 ⟨rfl,T1⟩
 have HT1:=hide T1
 clear T1
 go_upto_region 2 with (refine wpList_row_store rfl (.tmp 4) (.tmp 13) rfl b4 rfl S1 rfl _ (HB4.out.touch HT1.out (fun f=>f)) ?_)
 obtain ⟨w3,hw3⟩:∃ x,x=w1.setCells b4 0 (rowV S1).toList:=⟨_,rfl⟩
 rw [← hw3]
 have hb43:Blk w3 b4 181 (rowV S1):=by rw [hw3];exact (HB4.out.touch HT1.out (fun f=>f)).row S1
 have hT3:Touch (fun g=>g=b4) wa w3:=by rw [hw3];exact touch_setCells (S:=fun g=>g=b4) (w:=wa) (w':=w1) (b:=b4) (fun _=>rfl) _ _ _ (HT1.out.up _)
 have hb63:=HB6.out.touch hT3 (by have:=HE.out;omega)
 have hl3:LevM w3 b A n c X o:=HLA.out.touch2 hT3 (fun t ht g hg e=>hg.ne (blk_ty HB4.out) ht e)
 obtain ⟨w7,hw7⟩:∃ x,x=w3.alloc (.cells (rowV []) 181):=⟨_,rfl⟩
 obtain ⟨b7,h7⟩:∃ x,x=w3.heap.size:=⟨_,rfl⟩
 have hT7:Touch (fun _=>False) w3 w7:=by rw [hw7];exact (Touch.refl _ _).alloc _
 have hb7:Blk w7 b7 181 (rowV []):=by rw [hw7,h7];exact Blk.new _ _ _
 have HW7:=hide hw7
 have HE7:=hide h7
 have HT3:=hide hT3
 have HT7:=hide hT7
 have HB7:=hide hb7
 have HB47:=hide (hb43.touch hT7 (fun f=>f))
 have HB67:=hide (hb63.touch hT7 (fun f=>f))
 have HL7:=hide (hl3.quiet hT7)
 have HN4:=hide (show b4<b7 by have:=hb43.lt;omega)
 have HN6:=hide (show b6<b7 by have:=hb63.lt;omega)
 clear hw3 hb43 hb63 hT3 hT7 hb7 hl3 hw7 h7
 go_upto_region 3 with fail
 rw [← rowV_nil,← HW7.out,← HE7.out]
 obtain ⟨x0,x1,x2⟩:=HL7.out.cells
 have hb:b≠b7:=HL7.out.blk.ne_ HB7.out (by decide)
 have y1:((S1.getD 0 0:Nat):Int)≤4:=by have:=HSLE.out 0;have:=HL7.out.o2;omega
 have hT00:=HT0.out
 obtain ⟨s0,hs0⟩:∃ x,x=S1.getD 0 0:=⟨_,rfl⟩
 rw [← hs0] at y1 hT00
 have c4:w7.cell? ⟨b4,0,none⟩=some (.int .u8 (s0:Int)):=by rw [HB47.out.cell,hs0];exact rowV_get _ _ (by omega)
 have c7:w7.cell? ⟨b7,0,none⟩=some (.int .u8 0):=by rw [HB7.out.cell];rfl
 have f7:w7.frozen? ⟨b7,0,none⟩=false:=HB7.out.frozen 0
 have l7:=HB7.out.lt
 have l4:=HB47.out.lt
 have z1:IntKind.u8.wrap ((s0:Int)+1)=(s0:Int)+1:=wrap_u8 _ (by omega) (by omega)
 have HT00:=hide hT00
 clear hs0 hT00
 go_region
 obtain ⟨m0,hm0⟩:∃ m:Int,m=if (o:Int)<(s0:Int)+1 then (o:Int) else (s0:Int)+1:=⟨_,rfl⟩
 rw [← hm0]
 obtain ⟨w8,hw8⟩:∃ x,x=(w7.setCell ⟨b7,0,none⟩ (.int .u8 m0)).drew:=⟨_,rfl⟩
 rw [← hw8]
 have hb78:Blk w8 b7 181 (rowV (TT.take 1)):=by
  have h1:=HB7.out.set_ 0 (.int .u8 m0)
  have h2:=rowV_snoc [] (TT.getD 0 0) (by simp)
  have h3:TT.take 1=[TT.getD 0 0]:=by
   have:=takeN_snoc TT 0 (by rw [HTL.out];omega)
   simpa using this
  rw [h3]
  have h4:Value.int .u8 m0=u8V (TT.getD 0 0):=by
   unfold u8V
   rw [HT00.out,hm0]
   congr 1
   split<;>omega
  rw [hw8]
  rw [h4] at h1 ⊢
  rw [show (rowV []).setIfInBounds 0 (u8V (TT.getD 0 0))=rowV ([]++[TT.getD 0 0]) from h2] at h1
  exact h1.drew
 have hT8:Touch (fun g=>g=b7) w7 w8:=by rw [hw8];exact ((Touch.refl (fun g=>g=b7) w7).setCell (p:=⟨b7,0,none⟩) (fun _=>rfl) _).drew
 have HW8:=hide hw8
 have HB78:=hide hb78
 have HT8:=hide hT8
 have HL8:=hide (HL7.out.touch2 hT8 (fun t ht g hg e=>hg.ne (blk_ty HB7.out) ht e))
 have HB48:=hide (HB47.out.touch hT8 (by have:=HN4.out;omega))
 have HB68:=hide (HB67.out.touch hT8 (by have:=HN6.out;omega))
 have HBB:=hide hb
 clear hw8 hm0 hb78 hT8 c4 c7 f7 l7 l4 z1 x0 x1 x2 hb
 obtain ⟨x0,x1,x2⟩:=HL8.out.cells
 go_wp2_with fail
 clear x0 x1 x2
 go_loopw [8,9,10,28] (fun _ _ _ iv wr=>∃ (k:Nat),iv=.int .i64 k∧k≤n∧Hid (Blk wr b7 181 (rowV (TT.take (k+1))))∧Hid (Touch (fun g=>g=b7) w8 wr)) (fun _ _ _ iv _=>n-(intOf iv).toNat)
 case atStart=>exact ⟨0,rfl,by omega,HB78,hide (Touch.refl _ _)⟩
 case round =>
  obtain ⟨k,rfl,hk,HB,HT⟩:=hrel
  have hl:=HL8.out.touch2 HT.out (fun t ht g hg e=>hg.ne (blk_ty HB78.out) ht e)
  have hb4:=HB48.out.touch HT.out (by have:=HN4.out;omega)
  have hb6:=HB68.out.touch HT.out (by have:=HN6.out;omega)
  by_cases hkn:k<n
  ·have y1:(k:Int)<(n:Int):=by omega
   have y2:(0:Int)≤(k:Int):=by omega
   have y3:(k:Int)<25:=by omega
   have y4:IntKind.i64.wrap ((k:Int)+1)=(k:Int)+1:=IntWalk.i64_in _ (by omega)
   have y5:(0:Int)≤(k:Int)+1:=by omega
   have y6:(k:Int)+1<25:=by omega
   have y7:((k:Int)+1).toNat=k+1:=by omega
   obtain ⟨x0,x1,x2⟩:=hl.cells
   obtain ⟨g,off,hA,cr⟩:=rune_at hl.rd.rd hl.len k hkn
   subst hA
   have hts:=HTS.out k hkn
   have htk:(TT.take (k+1)).getD k 0=TT.getD k 0:=by simp [List.getD]
   have c40:wr.cell? ⟨b4,k,none⟩=some (.int .u8 (S1.getD k 0:Int)):=by rw [hb4.cell];exact rowV_get _ _ (by omega)
   have c41:wr.cell? ⟨b4,k+1,none⟩=some (.int .u8 (S1.getD (k+1) 0:Int)):=by rw [hb4.cell];exact rowV_get _ _ (by omega)
   have c70:wr.cell? ⟨b7,k,none⟩=some (.int .u8 (TT.getD k 0:Int)):=by rw [HB.out.cell,← htk];exact rowV_get _ _ (by omega)
   have c71:wr.cell? ⟨b7,k+1,none⟩=some (.int .u8 ((TT.take (k+1)).getD (k+1) 0:Int)):=by rw [HB.out.cell];exact rowV_get _ _ (by omega)
   have f7:wr.frozen? ⟨b7,k+1,none⟩=false:=HB.out.frozen (k+1)
   have l7:=HB.out.lt
   have l4:=hb4.lt
   have e1:((S1.getD k 0:Nat):Int)≤4:=by have:=HSLE.out k;have:=HL7.out.o2;omega
   have e2:((S1.getD (k+1) 0:Nat):Int)≤4:=by have:=HSLE.out (k+1);have:=HL7.out.o2;omega
   have e3:((TT.getD k 0:Nat):Int)≤4:=by have:=HTLE.out k;have:=HL7.out.o2;omega
   obtain ⟨sa,hsa⟩:∃ x,x=S1.getD k 0:=⟨_,rfl⟩
   obtain ⟨sb,hsb⟩:∃ x,x=S1.getD (k+1) 0:=⟨_,rfl⟩
   obtain ⟨ta,hta⟩:∃ x,x=TT.getD k 0:=⟨_,rfl⟩
   obtain ⟨tb,htb⟩:∃ x,x=(TT.take (k+1)).getD (k+1) 0:=⟨_,rfl⟩
   obtain ⟨cc,hcc⟩:∃ x,x=X.getD k 0:=⟨_,rfl⟩
   rw [← hsa] at c40 e1 hts
   rw [← hsb] at c41 e2 hts
   rw [← hta] at c70 e3 hts
   rw [← htb] at c71
   rw [← hcc] at cr hts
   have z1:IntKind.u8.wrap ((sa:Int)+1)=(sa:Int)+1:=wrap_u8 _ (by omega) (by omega)
   have z2:IntKind.u8.wrap ((sb:Int)+1)=(sb:Int)+1:=wrap_u8 _ (by omega) (by omega)
   have z3:IntKind.u8.wrap ((ta:Int)+1)=(ta:Int)+1:=wrap_u8 _ (by omega) (by omega)
   have HTSK:=hide hts
   have HK:=hide hkn
   have HEND:Hid (∀ v:Int,v=((TT.getD (k+1) 0:Nat):Int)→Blk (wr.setCell ⟨b7,k+1,none⟩ (.int .u8 v)) b7 181 (rowV (TT.take (k+1+1)))):=hide (by
    intro v hv
    have h1:=HB.out.set_ (k+1) (.int .u8 v)
    have h2:=rowV_snoc (TT.take (k+1)) (TT.getD (k+1) 0) (by rw [List.length_take,HTL.out];omega)
    rw [List.length_take,HTL.out,Nat.min_eq_left (by omega),← takeN_snoc _ _ (by rw [HTL.out];omega)] at h2
    rw [hv] at h1 ⊢
    rw [show Value.int .u8 ((TT.getD (k+1) 0:Nat):Int)=u8V (TT.getD (k+1) 0) from rfl] at h1 ⊢
    rw [h2] at h1
    exact h1)
   clear hsa hsb hta htb hcc hts htk hkn hk hl hb4 hb6 e1 e2 e3
   by_cases hc:cc=r
   ·have q1:((cc:Int) == (r:Int))=true:=by simp;omega
    have q2:((cc:Int) != (r:Int))=false:=by simp;omega
    have HC:=hide hc
    clear hc
    go_wp2_with fail
    go_region
    go_wp2_with fail
    go_roundw
    ·refine ⟨k+1,by simp,by have:=HK.out;omega,hide ((HEND.out _ ?_).drew),hide ((HT.out.setCell (p:=⟨b7,k+1,none⟩) (fun _=>rfl) _).drew)⟩
     have:=HTSK.out
     rw [if_pos HC.out] at this
     unfold min4
     omega
    ·have:=HK.out
     simp only [intOf]
     omega
   ·have q1:((cc:Int) == (r:Int))=false:=by simp;omega
    have q2:((cc:Int) != (r:Int))=true:=by simp;omega
    have HC:=hide hc
    clear hc
    go_wp2_with fail
    go_region
    go_wp2_with fail
    go_roundw
    ·refine ⟨k+1,by simp,by have:=HK.out;omega,hide ((HEND.out _ ?_).drew),hide ((HT.out.setCell (p:=⟨b7,k+1,none⟩) (fun _=>rfl) _).drew)⟩
     have:=HTSK.out
     rw [if_neg HC.out] at this
     unfold min4
     omega
    ·have:=HK.out
     simp only [intOf]
     omega
  ·have hke:k=n:=by omega
   subst hke
   have y1:¬ (k:Int)<(k:Int):=by omega
   have hb7:=HB.out
   rw [List.take_of_length_le (by rw [HTL.out];exact Nat.le_refl _)] at hb7
   have hv:=row_var (hb6.row TT)
   have hT6:Touch (fun g=>g=b7∨g=b6) w8 (wr.setCells b6 0 (rowV TT).toList):=touch_setCells (S:=fun g=>g=b7∨g=b6) (w:=w8) (w':=wr) (b:=b6) (fun _=>.inr rfl) _ _ _ (HT.out.mono fun _ _ e=>.inl e)
   have hTT:Touch (fun g=>g=b4∨g=b7∨g=b6) w (wr.setCells b6 0 (rowV TT).toList):=by
    refine Touch.trans (T:=fun g=>g=b7∨g=b6) ?_ hT6 (fun i _ e=>.inr e)
    refine Touch.trans (T:=fun g=>g=b7) ?_ HT8.out (fun i _ e=>.inr (.inl e))
    refine Touch.then ?_ (HT7.out.up _)
    refine Touch.trans (HTA.out.up _) HT3.out (fun i _ e=>.inl e)
   have HV:=hide hv
   have HTT:=hide hTT
   have HB7':=hide hb7
   have HB6':=hide hb6
   clear hb7 hb4 hb6 hv hT6 hTT hkn hk hl
   go_wp2_with (first | (refine wpList_row_load rfl (.tmp 7) rfl b7 rfl _ HB7'.out ?_) | (refine wpList_row_store rfl (.tmp 6) (.tmp 60) rfl b6 rfl TT rfl _ HB6'.out ?_))
   refine bodyPost_ret (v:=.agg (rowV TT)) (results_cell rfl rfl HV.out) rfl ⟨rfl,HTT.out.mono fun i hi e=>?_⟩
   have h1:=HE.out
   have h2:=HE7.out
   have h3:=HT3.out.size
   have h4:=HTA.out.size
   omega
end Go.Proofs.YthockgmbooefpaaGreatDoor
