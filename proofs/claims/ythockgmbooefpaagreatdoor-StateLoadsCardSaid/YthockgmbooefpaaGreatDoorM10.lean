/- What the law rests on, part 10. No condition but those that each theorem names. -/
import Derived.Test.YthockgmbooefpaaGreatDoorM09
import Derived.Lib.SliceRun
import Derived.Test.YthockgmbooefpaaGreatDoorM00
import Derived.Lib.Strings
import Derived.Lib.Slices
import Derived.Lib.Walk
import Derived.BigRegion
import Derived.Deep.CutRange
set_option linter.unusedSectionVars false
set_option linter.unusedSimpArgs false
set_option linter.unusedVariables false
set_option maxRecDepth 100000
set_option maxHeartbeats 2000000
namespace Go.Proofs.YthockgmbooefpaaGreatDoor
open IntWalk renaming i64_in → qQa
open List renaming length_append → qZa, eq_nil_of_length_eq_zero → qXa, append_assoc → qZb, cons_append → qXb, getD → qJb, nil_append → qQc, pairwise_append → qZc, take_succ_eq_append_getElem → qXc, drop_eq_getElem_cons → qJc, length_cons → qZd, length_take → qXd, mem_append → qJd, mem_cons → qQe, mem_singleton → qZe, length_eq_one_iff → qXf, set_append_right → qZg, take_append_drop → qXg
open Nat renaming le_refl → qJa, zero_le → qQb, add_sub_cancel → qXe
variable{Bs:List (List aE)}{bs:Nat}
open Go.RowKit
theorem Yc(l:List aU):∀ u∈bQ l,u.oneCell'=true:=by
 intro u hu
 simp only[bQ,List.mem_flatMap] at hu
 obtain⟨r,_,hu⟩:=hu
 simp only[aU.cells,qQe,List.not_mem_nil,or_false] at hu
 rcases hu with rfl | rfl | rfl | rfl<;>rfl
theorem zY(w:World)(A:Option Addr)(n c:Nat)(l:List aU)(hl:n=l.length)(hr:aI w 4 A n (bQ l))(hA:A=none->n=0/\c=0)(hn:n*32<=140737488355328) :
  Calls Tryz.prog 112 #[.slice A n c] w λe w' =>
   ∃ v',e=.returned v'/\w'.ownsRow 0 110 4 v' n (bQ l)/\aC (λ_=>False) w w'/\∀ g,v'.ownBlock=some g->w.heap.size<=g:=by
 have q47:∀ (w:World) (a:Option Addr) (n c n' c':Nat),(binOp .eql 106 (.slice a n c) (.slice none n' c')).run Tryz.prog w=.ok (.bool a.isNone) w:=λw a n c n' c'=>Lib.run_eql_slice_nil w _ _ a n c n' c' Tryz.underlying106
 obtain⟨i0,hi,hz0,hz1,hz2⟩:=aO Tryz.infoRow
 cases A with
 | none =>
  obtain⟨rfl,rfl⟩:=hA rfl
  have h0:l=[]:=qXa hl.symm
  subst h0
  clear hr hA hn hl
  go_in
  go_wp2
  go_ret
  exact⟨_,rfl,World.ownsRow_nil _ _ _ _,aC.refl _ _,λg hg=>by cases hg⟩
 | some ad =>
  have HR:=aB hr
  have HL:=aB hl
  clear hr hl hA
  go_in
  go_wp2_with (at_builtin;refine aR _ rfl _ _ 106 rfl 110 i0 (.agg #[.int .u64 0,.int .i64 0,.int .u64 0,.int .i64 0]) 4 32 Tryz.underlying106 hi hz0 hz1 hz2 rfl (by decide) _ 0 [] rfl (World.ownsRow_made _ #[] 0 (qQb _) (by decide) rfl) (some ad) n c (bQ l) rfl (HR.alloc _) ?c2 (Yc l) ?c4 ?c5 ?_)
  case c2=>exact λh=>by cases h
  case c4=>unfold maxLen;omega
  case c5=>omega
  intro v' w1 hown hgrow hfr _
  have HW:=aB (show w1.ownsRow 0 110 4 v' n (bQ l)/\aC (λ_=>False) w w1/\∀ g,v'.ownBlock=some g->w.heap.size<=g from⟨by simpa using hown,((aC.refl _ _).alloc _).grown hgrow (λk hk hlt=>by simp[Value.ownBlock] at hk;omega),λg hg=>by
   rcases hfr with h | ⟨g',h,hg'⟩
   ·rw[h] at hg;simp[Value.ownBlock] at hg;omega
   ·rw[h] at hg;simp at hg hg';omega⟩)
  clear hown hgrow hfr
  go_wp2
  go_ret
  obtain⟨h1,h2,h3⟩:=HW.out
  exact⟨_,rfl,h1,h2,h3⟩
theorem jD{w:World}{base:Nat}{e:TypeId}{size n:Nat}{A:Option Addr}{c:Nat}{xs:List Value}(h:w.ownsRow base e size (.slice A n c) n xs):A=none->n=0/\c=0:=by
 rintro rfl
 rcases h.2 with⟨h1,rfl⟩ | ⟨g,cap,cur,h1,_⟩
 ·injection h1 with _ _ h3
  exact⟨rfl,h3⟩
 ·injection h1 with h1 _ _
  cases h1
theorem Jf(w:World)(p:Nat)(v:Value)(l:List aU)(h:sW w p v l)(hn:l.length<=4096) :
  Calls Tryz.prog 50 #[.pointer (some ⟨p,0,none⟩)] w λe w' =>
   ∃ v',e=.returned v'/\w'.ownsRow 0 110 4 v' l.length (bQ l)/\aC (λ_=>False) w w'/\∀ g,v'.ownBlock=some g->w.heap.size<=g:=by
 obtain⟨hb,ho⟩:=h
 obtain⟨A,c,hv,_,hc⟩:=aX ho
 subst hv
 have c0:=hb.cell 0
 simp at c0
 have H:=aB ho
 clear ho hb
 go_in
 go_wp2_with (go_at_call 112;refine (zY w A l.length c l rfl (aI.of_own H) (jD H) (by omega)).mono ?_;rintro e w' ⟨v',rfl,hown⟩;have H2:=aB hown;clear hown)
 go_ret
 exact⟨_,rfl,H2⟩
theorem Bn{P:Program}(w:World){ops:Array Oper}{rest:List Oper}{o:Oper}{a:Act}{Q:Exit->Act->World->Prop}
  (hg:o.guard=none)(x:Operand)(t:TypeId)(hop:o.op=Op.call { callee:=Callee.builtin Builtin.clear,args:=#[x],argTypes:=#[t] })
  (e:TypeId)(z:Value)(size:Nat)(h1:P.underlying t=some (.slice e))(hv:∀ w,(zeroValue e).run P w=.ok z w)(h6:z.cells.size=size)(hone:∀ u∈z.cells.toList,u.oneCell'=true)
  (v:Value)(n:Nat)(xs:List Value)(hs:a.eval x=v)(hown:w.ownsRow 0 e size v n xs)
  (hK:∀ w',w.grownBy w' v.ownBlock->wpList P ops Q rest (a.put o.dst (.tuple #[])) w') :
  wpList P ops Q (o :: rest) a w:=by
 refine wpList_plain hg λK hK'=>?_
 have main:∃ w',(Builtin.clear_ #[t] o.type #[v]).run P w=.ok (.tuple #[]) w'/\w.grownBy w' v.ownBlock:=by
  rcases hown.2 with⟨rfl,rfl⟩ | ⟨g,cap,cur,rfl,_,hgg,hnc,hcm,hcs,ht⟩
  ·exact⟨w,by simp[Builtin.clear_,run_underlying h1],World.grownBy.refl _ _⟩
  ·cases n with
   | zero=>exact⟨w,by simp[Builtin.clear_,run_underlying h1],World.grownBy.refl _ _⟩
   | succ n =>
    have hfit:0+(Builtin.zeroCells z.cells (n+1)).toList.length<=cur.size:=by
     rw[Array.length_toList,size_zeroCells,h6,hcs,Nat.zero_add]
     exact Nat.mul_le_mul_right _ hnc
    have hst:=run_storeCells_at P g 0 e (Builtin.zeroCells z.cells (n+1)).toList 0 cur w hgg (by simpa using hfit) (by
     intro u hu
     have hu':u∈Builtin.zeroCells z.cells (n+1):=Array.mem_toList_iff.1 hu
     unfold Builtin.zeroCells at hu'
     simp only[Array.mem_map,Array.mem_range] at hu'
     obtain⟨k,hk,rfl⟩:=hu'
     have hpos:0<z.cells.size:=by
      rcases Nat.eq_zero_or_pos z.cells.size with h | h
      ·rw[h] at hk;omega
      ·exact h
     rw[getElem!_pos z.cells _ (Nat.mod_lt _ hpos)]
     exact hone _ (Array.mem_toList_iff.2 (Array.getElem_mem _)))
    obtain⟨X,hX⟩:∃ X,(storeCells ⟨g,0,none⟩ (Builtin.zeroCells z.cells (n+1)).toList).run P w=.ok () (w.setRow g X):=⟨_,hst⟩
    refine⟨w.setRow g X,by simp[Builtin.clear_,run_underlying h1,hv,hX],⟨rfl,rfl,rfl,by simp,λk _ hk=>setRow_other w g k _ (λe=>hk (by simp[Value.ownBlock,e]))⟩⟩
 obtain⟨w',r1,r2⟩:=main
 unfold Oper.wp
 simp[execOp,hop,resolve,invoke,builtin,hs,r1,Result.andThen]
 exact hK' _ _ (hK w' r2)
theorem Tryz.zeroRow(w:World):(zeroValue 110).run Tryz.prog w=.ok (.agg #[.int .u64 0,.int .i64 0,.int .u64 0,.int .i64 0]) w:=by kernel_rfl
def dR(r:aU):Bool:=!(r.seq == 0) || (r == aU.zero)
theorem aBd{w:World}{A:Option Addr}{n c:Nat}{l:List aU}(h:w.ownsRow 0 110 4 (.slice A n c) n (bQ l))(hl:n=l.length)(k:Nat)(hk:k<n) :
  ∃ g,A=some ⟨g,0,none⟩/\g<w.heap.size/\w.cell? ⟨g,k*4,none⟩=some (.int .u64 (l.getD k aU.zero).seq)/\w.cell? ⟨g,k*4+1,none⟩=some (.int .i64 (l.getD k aU.zero).code) /\
   w.cell? ⟨g,k*4+2,none⟩=some (.int .u64 (l.getD k aU.zero).sess)/\w.cell? ⟨g,k*4+3,none⟩=some (.int .i64 (l.getD k aU.zero).had):=by
 obtain⟨g,cap,hv,_,_,hg,hc,_⟩:=iM h (by omega)
 injection hv with hA' _ _
 have hk':k<l.length:=by omega
 have e:l.getD k aU.zero=l[k]:=by simp[qJb,hk']
 rw[e]
 refine⟨g,hA',hg,?_,?_,?_,?_⟩
 ·exact hc _ _ (by have:=dH l k hk' 0 (by omega);rw[show k*4=4*k+0 by omega,this];rfl)
 ·exact hc _ _ (by have:=dH l k hk' 1 (by omega);rw[show k*4+1=4*k+1 by omega,this];rfl)
 ·exact hc _ _ (by have:=dH l k hk' 2 (by omega);rw[show k*4+2=4*k+2 by omega,this];rfl)
 ·exact hc _ _ (by have:=dH l k hk' 3 (by omega);rw[show k*4+3=4*k+3 by omega,this];rfl)
theorem Dq(l:List aU)(k:Nat)(hk:k<l.length)(h:(l.take k).all dR=true)(hg:dR (l.getD k aU.zero)=true):(l.take (k+1)).all dR=true:=by
 have e:l.getD k aU.zero=l[k]:=by simp[qJb,hk]
 rw[e] at hg
 rw[qXc hk,List.all_append,h]
 simpa using hg
theorem aAy(l:List aU)(k:Nat)(hk:k<l.length)(hg:dR (l.getD k aU.zero)=false):l.all dR=false:=by
 have e:l.getD k aU.zero=l[k]:=by simp[qJb,hk]
 rw[e] at hg
 rw[List.all_eq_false]
 exact⟨l[k],List.getElem_mem _,by simp[hg]⟩
theorem Xw(w:World)(A:Option Addr)(n c:Nat)(l:List aU)(hl:n=l.length)(hr:aI w 4 A n (bQ l))(hA:A=none->n=0/\c=0)(hn:n<=4096) :
  Calls Tryz.prog 58 #[.slice A n c] w λe w' =>
   aC (λ_=>False) w w' /\
   ((l.all dR=false/\e=.returned (.tuple #[.pointer none,.bool false])) \/
    (l.all dR=true/\∃ q v',e=.returned (.tuple #[.pointer (some ⟨q,0,none⟩),.bool true])/\sW w' q v' l/\w.heap.size<=q/\∀ g,v'.ownBlock=some g->w.heap.size<=g)):=by
 have HR:=aB hr
 have HL:=aB hl
 have HA:=aB hA
 clear hr hl hA
 go_in
 go_wp2_with (go_at_call 112;refine (zY w A n c l HL HR HA (by omega)).mono ?_;rintro e w' ⟨v',rfl,hown⟩;have H2:=aB hown;obtain⟨A',c',hv',_⟩:=aX hown.1;clear hown;subst hv')
 obtain⟨h1,h2,h3⟩:=H2.out
 have HL':=HL.out
 clear H2 HR HL HA
 go_loopw [13] (λi wr=>∃ k:Nat,k<=n/\i=.int .i64 k/\(l.take k).all dR=true/\aC (λ_=>False) w wr/\wr.ownsRow 0 110 4 (.slice A' n c') n (bQ l))
  (λi _=>n-(intOf i).toNat)
 case atStart=>exact⟨0,qQb _,rfl,rfl,h2,h1⟩
 case round =>
  obtain⟨k,hk,rfl,hall,ht,hown⟩:=hrel
  by_cases hkn:k<n
  ·have hown':=aB hown
   obtain⟨g,hA',hg,c0,c1,c2,c3⟩:=aBd hown HL' k hkn
   subst hA'
   clear hown
   have HALL:=aB hall
   have HT:=aB ht
   have HL2:=aB HL'
   clear hall ht
   have H2':=aB (And.intro h2 h3)
   clear h1 h2 h3 HL'
   obtain⟨r,hr⟩:=eX (l.getD k aU.zero)
   rw[<-hr] at c0 c1 c2 c3
   have HR:=aB hr
   clear hr
   obtain⟨rs,rc,rr,rh⟩:=r
   simp only at c0 c1 c2 c3
   by_cases h0:rs=0
   ·subst h0
    have HO2:=aB (hown'.out.alloc (.cells #[.int .u64 0,.int .i64 rc,.int .u64 rr,.int .i64 rh] 110))
    go_wp2_with (with_reducible refine Bn _ rfl (.tmp 25) 106 rfl 110 (.agg #[.int .u64 0,.int .i64 0,.int .u64 0,.int .i64 0]) 4 Tryz.underlying106 Tryz.zeroRow rfl (List.all_eq_true.1 rfl) (.slice (some ⟨g,0,none⟩) n c') n (bQ l) rfl (hown'.out.alloc _) ?_)
    ·have e1:rc=0:=by assumption
     have e2:rr=0:=by assumption
     have e3:rh=0:=by assumption
     go_roundw
     case rel=>exact⟨k+1,by omega,by go_num,Dq l k (by have:=HL2.out;omega) HALL (by rw[<-HR.out,e1,e2,e3];rfl),HT.alloc _,hown'.out.alloc _⟩
     case measure=>simp[intOf];omega
    all_goals
     intro w1 hgrow
     have HG:=aB hgrow
     clear hgrow
     go_wp2
     go_ret2
     refine⟨(HT.alloc _).app HG (λg' hg' hlt=>by have:=H2'.2 g' hg';omega),.inl ⟨aAy l k (by have:=HL2.out;omega) ?_,rfl⟩⟩
     rw[<-HR.out]
     simp[dR,aU.zero]
     intros
     simp_all
   ·have b0:(rs == 0)=false:=by simpa using h0
    go_wp2
    go_roundw
    case rel=>exact⟨k+1,by omega,by go_num,Dq l k (by have:=HL2.out;omega) HALL (by rw[<-HR.out];simp[dR,h0]),HT.alloc _,hown'.out.alloc _⟩
    case measure=>simp[intOf];omega
  ·have hown':=aB hown
   have HALL:=aB hall
   have HT:=aB ht
   have H2':=aB (And.intro h1 (And.intro h2 h3))
   have HL2:=aB HL'
   clear hall ht h1 h2 h3 HL' hown
   go_wp2
   go_ret2
   refine⟨HT.alloc _,.inr ⟨?_,_,_,rfl,⟨aL.new _ _ _,?_⟩,HT.size,H2'.2.2⟩⟩
   ·have:=HALL.out
    rwa [List.take_of_length_le (by have:=HL2.out;omega)] at this
   ·have:=hown'.out.alloc (.cells #[.slice A' n c'] 149)
    rw[<-HL2.out]
    exact this
structure dK where
 word:ByteArray
 weight:Int
 dist:Int
theorem dK.ext'{a b:dK}(h1:a.word=b.word)(h2:a.weight=b.weight)(h3:a.dist=b.dist):a=b:=by
 cases a;cases b;simp_all
def dK.zero:dK:=⟨ByteArray.empty,0,0⟩
instance:Inhabited dK:=⟨dK.zero⟩
def dK.cells(r:dK):List Value:=[.string r.word,.int .i64 r.weight,.int .i64 r.dist]
def iK(l:List dK):List Value:=l.flatMap dK.cells
def aDg(a b:dK):Bool :=
 if a.dist=b.dist then (if a.weight=b.weight then Op.bytesLess a.word.toList b.word.toList else decide (b.weight<a.weight)) else decide (a.dist<b.dist)
def wle(a b:dK):Prop:=aDg a b=false
def Srt(l:List dK):Prop:=l.Pairwise λa b=>wle b a
def aGu(X:List dK)(n:Nat):Prop:=∀ c,0<c->c<n->wle (X.getD ((c-1) / 2) dK.zero) (X.getD c dK.zero)
theorem Ha(a b:ByteArray)(w:World) :
  Calls Tryz.prog 153 #[.string a,.string b] w λe w'=>e=.returned (.int .i64 (Lib.compareBytes a.data.toList b.data.toList))/\w'=w:=by
 go_in
 go_wp2
 rw[run_callFunc_extern Tryz.func180 (by kernel_rfl) (by kernel_rfl) (by kernel_rfl) (e:=Extern.BytealgCompare.compare) (by kernel_rfl),Lib.run_compareString]
 simp only[Result.andThen]
 rw[Oper.upon_value]
 go_wp2
 go_ret
 exact⟨rfl,rfl⟩
theorem Gw(a b:ByteArray)(w:World) :
  Calls Tryz.prog 106 #[.string a,.string b] w λe w'=>e=.returned (.int .i64 (Lib.compareBytes a.data.toList b.data.toList))/\w'=w:=by
 go_in
 go_wp2_with (go_at_call 153;refine (Ha _ _ _).mono ?_;rintro e w' ⟨rfl,rfl⟩)
 go_ret
 exact⟨rfl,rfl⟩
abbrev Gv:Value:=.func (.func 177) #[] #[]
theorem lM(a b:aE)(w:World) :
  Calls Tryz.prog 177 #[a.val,b.val] w λe w'=>(∃ z:Int,e=.returned (.int .i64 z)/\decide (z<0)=iN a b)/\aC (λ_=>False) w w':=by
 obtain⟨aw,an⟩:=a
 obtain⟨bw,bn⟩:=b
 rw[Ez,Ez]
 go_in
 go_wp2_with (go_at_call 106;refine (Gw aw bw _).mono ?_;rintro e w' ⟨rfl,rfl⟩)
 go_ret
 refine⟨⟨_,rfl,?_⟩,((aC.refl _ _).alloc _).alloc _⟩
 rw[Gx]
 show Op.bytesLess aw.data.toList bw.data.toList=Op.bytesLess aw.toList bw.toList
 rw[Go.ByteArray.toList_eq,Go.ByteArray.toList_eq]
def Ke(X:List aE)(a b:Nat):Nat->List aE
 | 0=>X
 | k+1=>mE (Ke X a b k) (a+k) (b+k)
theorem Fx(w:World)(A:Option Addr)(n c:Nat)(X:List aE)(h:cZ w A n c X)(a b k:Nat)(ha:a+k<=n)(hb:b+k<=n)(F:Value) :
  Calls Tryz.prog 195 #[.slice A n c,.int .i64 a,.int .i64 b,.int .i64 k,F] w λe w'=>e=.returned (.tuple #[])/\cZ w' A n c (Ke X a b k)/\aC (λg=>aQ A=some g) w w':=by
 have hn:=kT h
 unfold maxLen at hn
 have HX:=aB h
 have HL:=aB (bM h)
 clear h
 go_in
 go_wp2
 go_loopw [10] (λiv wr=>∃ i:Nat,i<=k/\iv=.int .i64 i/\Hid (cZ wr A n c (Ke X a b i))/\Hid (aC (λg=>aQ A=some g) w wr)) (λiv _=>k-(intOf iv).toNat)
 case atStart=>exact⟨0,qQb _,rfl,HX,aB (aC.refl _ _)⟩
 case round =>
  obtain⟨i,hi,rfl,HO,HT⟩:=hrel
  by_cases hik:i<k
  ·obtain⟨Y,hY⟩:=eX (Ke X a b i)
   have HYE:=aB hY
   rw[<-hY] at HO
   have hl:=bM HO
   obtain⟨x,hx0⟩:=eX (a+i)
   obtain⟨y,hy0⟩:=eX (b+i)
   obtain⟨g,rfl,hg,a0,a1,f0,f1⟩:=cY HO.out hl x (by omega)
   obtain⟨g',hA,_,b0,b1,f3,f4⟩:=cY HO.out hl y (by omega)
   injection hA with hA
   injection hA with hA _
   subst hA
   obtain⟨⟨xw,xn⟩,hx⟩:∃ r,r=Y.getD x aE.zero:=⟨_,rfl⟩
   obtain⟨⟨yw,yn⟩,hy⟩:∃ r,r=Y.getD y aE.zero:=⟨_,rfl⟩
   rw[<-hx] at a0 a1
   rw[<-hy] at b0 b1
   simp only at a0 a1 b0 b1
   have EX:=aB hx
   have EY:=aB hy
   have EX0:=aB hx0
   have EY0:=aB hy0
   have i0:(i:Int)<(k:Int):=by omega
   have i1:x<n:=by omega
   have i2:y<n:=by omega
   have i3:(a:Int)+(i:Int)=(x:Int):=by omega
   have i4:(b:Int)+(i:Int)=(y:Int):=by omega
   have i5:(x:Int)<(n:Int):=by omega
   have i6:(y:Int)<(n:Int):=by omega
   have i7:IntKind.i64.wrap (x:Int)=(x:Int):=qQa _ (by omega)
   have i8:IntKind.i64.wrap (y:Int)=(y:Int):=qQa _ (by omega)
   obtain⟨v0,s0⟩:=cell?_setCell_some (p:=⟨g,x*2,none⟩) (x:=.string yw) b0
   obtain⟨v1,s1⟩:=cell?_setCell_some (p:=⟨g,x*2,none⟩) (x:=.string yw) b1
   obtain⟨v1,s1⟩:=cell?_setCell_some (p:=⟨g,x*2+1,none⟩) (x:=.int .i64 yn) s1
   clear hx hy hY hl hx0 hy0
   go_wp2
   go_region
   all_goals go_wp2
   go_roundw
   ·have HS:=gH (gH HO x ⟨yw,yn⟩) y ⟨xw,xn⟩
    have e:mE Y x y=(Y.set x ⟨yw,yn⟩).set y ⟨xw,xn⟩:=by unfold mE;rw[<-EX.out,<-EY.out]
    rw[<-e] at HS
    have e2:Ke X a b (i+1)=mE Y x y:=by rw[Ke,<-HYE.out,<-EX0.out,<-EY0.out]
    rw[<-e2] at HS
    refine⟨i+1,by omega,by simp,aB (aD (S:=λ_=>False) HS (aC.refl _ _).drew (λ_ _ f=>f)),aB ?_⟩
    refine aC.drew ?_
    iterate 4 refine aC.setCell ?_ (λ_=>(rfl:aQ (some ⟨g,0,none⟩)=some g)) _
    exact HT
   ·show k-(intOf (.int .i64 ((i:Int)+1))).toNat<k-(intOf (.int .i64 (i:Int))).toNat
    simp[intOf]
    omega
  ·have hk':i=k:=by omega
   subst hk'
   go_wp2
   go_end0
   exact⟨rfl,HO,HT⟩
def oK(k:List UInt8)(l:List dK):List dK:=l.filter (λp=>decide (p.word.toList=k))
def eT(A B:List dK):Prop:=∀ k,oK k A=oK k B
theorem pE(k:List UInt8)(A B:List dK):oK k (A++B)=oK k A++oK k B:=by simp[oK]
theorem eT.refl(A:List dK):eT A A:=λ_=>rfl
theorem eT.trans{A B C:List dK}(h:eT A B)(k:eT B C):eT A C:=λx=>(h x).trans (k x)
theorem eT.symm{A B:List dK}(h:eT A B):eT B A:=λx=>(h x).symm
theorem eT.app{A B C D:List dK}(h:eT A B)(k:eT C D):eT (A++C) (B++D):=λx=>by rw[pE,pE,h x,k x]
theorem eT.mem{A B:List dK}(h:eT A B){x:dK}(hx:x∈A):x∈B:=by
 have h1:x∈oK x.word.toList A:=by simp[oK,hx]
 rw[h] at h1
 exact (List.mem_filter.1 h1).1
theorem eT.swap{A B:List dK}(h:∀ a∈A,∀ b∈B,a.word.toList≠b.word.toList):eT (A++B) (B++A):=by
 intro k
 rw[pE,pE]
 by_cases hA:oK k A=[]
 ·rw[hA];simp
 ·obtain⟨a,ha⟩:=List.exists_mem_of_ne_nil _ hA
  have ha':=List.mem_filter.1 ha
  have hB:oK k B=[]:=by
   unfold oK
   rw[List.filter_eq_nil_iff]
   intro b hb hk
   exact h a ha'.1 b hb ((of_decide_eq_true ha'.2).trans (of_decide_eq_true hk).symm)
  rw[hB];simp
theorem kO(S W:List aE)(x:aE):(S++(x :: W)).getD S.length aE.zero=x:=by
 simp[qJb]
theorem Fl(S W:List aE)(x y:aE):(S++(x :: W)).set S.length y=S++(y :: W):=by
 rw[qZg _ _ (qJa _),Nat.sub_self,List.set_cons_zero]
theorem Aj(S T W:List aE)(u v:aE)(i j:Nat)(hi:i=S.length)(hj:j=S.length+1+T.length):mE (S++(u :: (T++(v :: W)))) i j=S++(v :: (T++(u :: W))):=by
 subst hi
 have e1:S++(u :: (T++(v :: W)))=(S++(u :: T))++(v :: W):=by simp
 have l1:(S++(u :: T)).length=j:=by simp;omega
 have g2:(S++(u :: (T++(v :: W)))).getD j aE.zero=v:=by rw[e1,<-l1,kO]
 unfold mE
 rw[g2,kO,Fl]
 have e2:S++(v :: (T++(v :: W)))=(S++(v :: T))++(v :: W):=by simp
 have l2:(S++(v :: T)).length=j:=by simp;omega
 rw[e2,<-l2,Fl]
 simp
theorem Fq{l:List aE}{k:Nat}(h:l.length=k+1):∃ l' x,l=l'++[x]/\l'.length=k:=by
 have hne:l≠[]:=by intro e;rw[e] at h;simp at h
 refine⟨l.dropLast,l.getLast hne,(List.dropLast_concat_getLast hne).symm,?_⟩
 rw[List.length_dropLast];omega
theorem uI(k:Nat):∀ (P U M V Q:List aE) (a b:Nat),a=P.length->U.length=k->V.length=k->b=P.length+k+M.length ->
  Ke (P++(U++(M++(V++Q)))) a b k=P++(V++(M++(U++Q))):=by
 induction k with
 | zero =>
  intro P U M V Q a b ha hU hV hb
  have hU':=qXa hU
  have hV':=qXa hV
  subst hU' hV'
  rfl
 | succ k ih =>
  intro P U M V Q a b ha hU hV hb
  obtain⟨U',u,rfl,hU'⟩:=Fq hU
  obtain⟨V',v,rfl,hV'⟩:=Fq hV
  have:=ih P U' (u :: M) V' (v :: Q) a b ha hU' hV' (by rw[hb];simp;omega)
  have e:P++((U'++[u])++(M++((V'++[v])++Q)))=P++(U'++((u :: M)++(V'++(v :: Q)))):=by simp
  rw[e,Ke,this]
  have e2:P++(V'++((u :: M)++(U'++(v :: Q))))=(P++V')++(u :: ((M++U')++(v :: Q))):=by simp
  rw[e2,Aj (P++V') (M++U') Q u v (a+k) (b+k) (by simp;omega) (by simp;omega)]
  simp
def Ts(X:List aE)(a:Nat):Nat->List aE
 | 0=>X
 | d+1=>if iN (X.getD (a+d+1) aE.zero) (X.getD (a+d) aE.zero)=true then Ts (mE X (a+d+1) (a+d)) a d else X
def qP(X:List aE)(a:Nat):Nat->List aE
 | 0=>X
 | c+1=>Ts (qP X a c) a (c+1)
theorem nU(S W:List aE)(u v:aE)(i j:Nat)(hi:i=S.length+1)(hj:j=S.length):mE (S++(u :: v :: W)) i j=S++(v :: u :: W):=by
 subst hi hj
 unfold mE
 have g1:(S++(u :: v :: W)).getD (S.length+1) aE.zero=v:=by
  simp[qJb]
 have s1:∀ y,(S++(u :: v :: W)).set (S.length+1) y=S++(u :: y :: W):=by
  intro y
  rw[qZg _ _ (Nat.le_succ _)]
  simp
 rw[g1,kO,s1,Fl]
theorem Zr(d:Nat):∀ (X:List aE) (a:Nat),(Ts X a d).length=X.length:=by
 induction d with
 | zero=>intro X a;rfl
 | succ d ih =>
  intro X a
  unfold Ts
  split
  ·rw[ih,Yk]
  ·rfl
theorem yP(X:List aE)(a c:Nat):(qP X a c).length=X.length:=by
 induction c with
 | zero=>rfl
 | succ c ih=>rw[qP,Zr,ih]
theorem Py(d:Nat):∀ (P Y Q:List aE) (x:aE) (a:Nat),a=P.length->Y.length=d->dO Y->∃ Z,Ts (P++(Y++(x :: Q))) a d=P++(Z++Q)/\dO Z/\bO (Y++[x]) Z:=by
 induction d with
 | zero =>
  intro P Y Q x a ha hY hs
  have:=qXa hY
  subst this
  exact⟨[x],by simp[Ts],by simp[dO],bO.refl _⟩
 | succ d ih =>
  intro P Y Q x a ha hY hs
  obtain⟨Y',y,rfl,hY'⟩:=Fq hY
  have e:P++((Y'++[y])++(x :: Q))=(P++Y')++(y :: x :: Q):=by simp
  have g0:(P++((Y'++[y])++(x :: Q))).getD (a+d) aE.zero=y:=by
   have l:(P++Y').length=a+d:=by simp;omega
   rw[e,<-l,kO]
  have g1:(P++((Y'++[y])++(x :: Q))).getD (a+d+1) aE.zero=x:=by
   have l:(P++Y'++[y]).length=a+d+1:=by simp;omega
   have e':(P++Y')++(y :: x :: Q)=(P++Y'++[y])++(x :: Q):=by simp
   rw[e,e',<-l,kO]
  have hs1:=List.pairwise_append.1 hs
  unfold Ts
  rw[g0,g1]
  by_cases hb:iN x y=true
  ·rw[if_pos hb,e,nU (P++Y') Q y x (a+d+1) (a+d) (by simp;omega) (by simp;omega)]
   obtain⟨Z,h1,h2,h3⟩:=ih P Y' (y :: Q) x a ha hY' hs1.1
   have e2:(P++Y')++(x :: y :: Q)=P++(Y'++(x :: (y :: Q))):=by simp
   refine⟨Z++[y],by rw[e2,h1];simp,sP h2 (by simp[dO]) ?_,?_⟩
   ·intro z hz w hw
    simp at hw
    subst hw
    rcases List.mem_append.1 (h3.symm.mem hz) with hz' | hz'
    ·exact hs1.2.2 z hz' _ (by simp)
    ·simp at hz'
     subst hz'
     exact gU hb
   ·have k1:bO ([y]++[x]) ([x]++[y]):=bO.swap (by
     intro p hp q hq heq
     simp at hp hq
     subst hp hq
     exact qU hb heq.symm)
    have k2:=(bO.refl Y').app k1
    have k3:=h3.app (bO.refl [y])
    have e3:Y'++[y]++[x]=Y'++([y]++[x]):=by simp
    have e4:Y'++([x]++[y])=Y'++[x]++[y]:=by simp
    rw[e3]
    exact k2.trans (by rw[e4];exact k3)
  ·rw[if_neg hb]
   have hb':vE y x:=by simpa [vE] using hb
   refine⟨Y'++[y]++[x],by simp,sP hs (by simp[dO]) ?_,bO.refl _⟩
   intro z hz w hw
   simp at hw
   subst hw
   rcases List.mem_append.1 hz with hz | hz
   ·exact iB (hs1.2.2 z hz y (by simp)) hb'
   ·simp at hz
    subst hz
    exact hb'
theorem Qy(c:Nat):∀ (P Y Q:List aE) (a:Nat),a=P.length->c<Y.length->∃ Z,qP (P++(Y++Q)) a c=P++(Z++(Y.drop (c+1)++Q))/\dO Z/\bO (Y.take (c+1)) Z:=by
 induction c with
 | zero =>
  intro P Y Q a ha hc
  cases Y with
  | nil=>simp at hc
  | cons y Y=>exact⟨[y],by simp[qP],by simp[dO],by simpa using bO.refl _⟩
 | succ c ih =>
  intro P Y Q a ha hc
  obtain⟨Z,h1,h2,h3⟩:=ih P Y Q a ha (by omega)
  have hZ:Z.length=c+1:=by
   have l1:=congrArg List.length h1
   rw[yP] at l1
   simp at l1
   omega
  have e:Y.drop (c+1)=Y[c+1] :: Y.drop (c+1+1):=qJc hc
  rw[e] at h1
  obtain⟨Z',k1,k2,k3⟩:=Py (c+1) P Z (Y.drop (c+1+1)++Q) (Y[c+1]) a ha hZ h2
  refine⟨Z',?_,k2,?_⟩
  ·rw[qP,h1,qXb]
   exact k1
  ·have e2:Y.take (c+1+1)=Y.take (c+1)++[Y[c+1]]:=qXc hc
   rw[e2]
   exact (h3.app (bO.refl _)).trans k3
theorem Cm(P Y Q:List aE)(a b:Nat)(ha:a=P.length)(hb:b=a+Y.length):∃ Z,qP (P++(Y++Q)) a (b-a-1)=P++(Z++Q)/\dO Z/\bO Y Z:=by
 by_cases h0:Y.length=0
 ·have:=qXa h0
  subst this
  have:b-a-1=0:=by simp at hb;omega
  rw[this]
  exact⟨[],by simp[qP],List.Pairwise.nil,bO.refl _⟩
 ·obtain⟨Z,h1,h2,h3⟩:=Qy (b-a-1) P Y Q a ha (by omega)
  have e:b-a-1+1=Y.length:=by omega
  rw[e,List.drop_length,qQc] at h1
  rw[e,List.take_length] at h3
  exact⟨Z,h1,h2,h3⟩
theorem oT{l:List aE}{k:Nat}(h:k<=l.length):∃ a b,l=a++b/\a.length=k/\b.length=l.length-k :=
 ⟨l.take k,l.drop k,(qXg k l).symm,by rw[qXd];omega,by rw[List.length_drop]⟩
theorem aBm(w:World)(A:Option Addr)(n c:Nat)(P U V Q:List aE)(h:cZ w A n c (P++(U++(V++Q))))(a m b:Nat)(ha:a=P.length)(hm:m=a+U.length)(hb:b=m+V.length)(hU:0<U.length)(hV:0<V.length)(F:Value) :
  Calls Tryz.prog 194 #[.slice A n c,.int .i64 a,.int .i64 m,.int .i64 b,F] w λe w'=>e=.returned (.tuple #[])/\cZ w' A n c (P++(V++(U++Q)))/\aC (λg=>aQ A=some g) w w':=by
 have hn:=kT h
 unfold maxLen at hn
 have hl:=bM h
 simp only[qZa] at hl
 obtain⟨G,hG⟩:=eX (P++(V++(U++Q)))
 rw[<-hG]
 have HX:=aB h
 have HG:=aB hG
 have HA:=aB ha
 have HM:=aB hm
 have HB:=aB hb
 obtain⟨u,hu⟩:=eX U.length
 obtain⟨v,hv⟩:=eX V.length
 have HU:=aB hu
 have HV:=aB hv
 have x0:(m:Int)-(a:Int)=(u:Int):=by omega
 have x1:(b:Int)-(m:Int)=(v:Int):=by omega
 have x2:IntKind.i64.wrap (u:Int)=(u:Int):=qQa _ (by omega)
 have x3:IntKind.i64.wrap (v:Int)=(v:Int):=qQa _ (by omega)
 have hmn:b<=n:=by omega
 have hmb:m<=b:=by omega
 have hu0:0<u:=by omega
 have hv0:0<v:=by omega
 have hum:u<=m:=by omega
 have hvb:m+v=b:=by omega
 clear h hG ha hm hb hl hu hv hU hV
 go_in
 go_wp2
 go_loopw [10,11] (λiv jv wr=>∃ i j:Nat,iv=.int .i64 i/\jv=.int .i64 j/\0<i/\0<j/\i<=m/\m+j<=b/\Hid (∃ P' U' V' Q',P'.length+i=m/\U'.length=i/\V'.length=j/\cZ wr A n c (P'++(U'++(V'++Q')))/\G=P'++(V'++(U'++Q')))/\Hid (aC (λg=>aQ A=some g) w wr)) (λiv jv _=>(intOf iv).toNat+(intOf jv).toNat)
 case atStart=>exact⟨u,v,rfl,rfl,hu0,hv0,hum,by omega,aB ⟨P,U,V,Q,by have:=HA.out;have:=HM.out;have:=HU.out;omega,HU.symm,HV.symm,HX,HG⟩,aB (aC.refl _ _)⟩
 case round =>
  obtain⟨i,j,rfl,rfl,hi0,hj0,him,hjb,HE,HT⟩:=hrel
  obtain⟨P',U',V',Q',e1,e2,e3,O1,e4⟩:=HE.out
  have hl:=bM O1
  simp only[qZa] at hl
  have HO:=aB O1
  have HG1:=aB e4
  clear O1 e4 HE
  obtain⟨d,hd⟩:=eX (m-i)
  have y0:(m:Int)-(i:Int)=(d:Int):=by omega
  have y1:IntKind.i64.wrap (d:Int)=(d:Int):=qQa _ (by omega)
  rcases Nat.lt_trichotomy i j with hij | hij | hij
  ·obtain⟨V1,V2,rfl,f1,f2⟩:=oT (l:=V') (k:=j-i) (by omega)
   obtain⟨z,hz⟩:=eX (m+j-i)
   have y2:(m:Int)+(j:Int)-(i:Int)=(z:Int):=by omega
   have y3:IntKind.i64.wrap (z:Int)=(z:Int):=qQa _ (by omega)
   have y4:IntKind.i64.wrap ((m:Int)+(j:Int))=(m:Int)+(j:Int):=qQa _ (by omega)
   obtain⟨r,hr⟩:=eX (j-i)
   have y5:(j:Int)-(i:Int)=(r:Int):=by omega
   have y6:IntKind.i64.wrap (r:Int)=(r:Int):=qQa _ (by omega)
   have y7:¬ i=j:=by omega
   have y8:¬ (j:Int)<(i:Int):=by omega
   have hsw:=uI i P' U' V1 V2 Q' d z (by omega) e2 (by rw[f2,e3];omega) (by omega)
   have HSW:=aB hsw
   have h1:d+i<=n:=by omega
   have h2:z+i<=n:=by omega
   have HH:=aB (And.intro e1 (And.intro e2 (And.intro e3 (And.intro f1 (And.intro f2 hr)))))
   clear hsw hl hd hz e1 e2 e3 f1 f2 hr
   go_wp2_with (go_at_call 195;refine (Fx wr A n c _ HO d z i h1 h2 _).mono ?_;rintro e w2 ⟨rfl,O2,T2⟩;have HO2:=aB O2;have HT2:=aB (HT.then T2);clear O2 T2)
   go_roundw
   ·obtain⟨e1,e2,e3,f1,f2,hr⟩:=HH.out
    have O3:=HO2.out
    rw[show P'++(U'++((V1++V2)++Q'))=P'++(U'++(V1++(V2++Q'))) by simp,HSW.out] at O3
    refine⟨i,r,rfl,rfl,hi0,by omega,him,by omega,aB ⟨P',V2,V1,U'++Q',e1,by rw[f2,e3];omega,by omega,O3,?_⟩,HT2⟩
    rw[HG1.out];simp
   ·simp[intOf]
    have:=HH.2.2.2.2.2
    omega
  ·subst hij
   have hsw:=uI i P' U' [] V' Q' d m (by omega) e2 e3 (by simp;omega)
   have HSW:=aB hsw
   have h1:d+i<=n:=by omega
   have h2:m+i<=n:=by omega
   clear hsw hl hd e1 e2 e3
   go_wp2_with (go_at_call 195;refine (Fx wr A n c _ HO d m i h1 h2 _).mono ?_;rintro e w2 ⟨rfl,O2,T2⟩;have HO2:=aB O2;have HT2:=aB (HT.then T2);clear O2 T2)
   go_end0
   have O3:=HO2.out
   rw[show P'++(U'++(V'++Q'))=P'++(U'++([]++(V'++Q'))) by simp,HSW.out] at O3
   refine⟨rfl,?_,HT2⟩
   rw[HG1.out]
   exact O3
  ·obtain⟨U1,U2,rfl,f1,f2⟩:=oT (l:=U') (k:=j) (by omega)
   obtain⟨r,hr⟩:=eX (i-j)
   have y5:(i:Int)-(j:Int)=(r:Int):=by omega
   have y6:IntKind.i64.wrap (r:Int)=(r:Int):=qQa _ (by omega)
   have y7:¬ i=j:=by omega
   have y8:(j:Int)<(i:Int):=by omega
   have hsw:=uI j P' U1 U2 V' Q' d m (by omega) f1 e3 (by omega)
   have HSW:=aB hsw
   have h1:d+j<=n:=by omega
   have h2:m+j<=n:=by omega
   have HH:=aB (And.intro e1 (And.intro e2 (And.intro e3 (And.intro f1 (And.intro f2 hr)))))
   clear hsw hl hd e1 e2 e3 f1 f2 hr
   go_wp2_with (go_at_call 195;refine (Fx wr A n c _ HO d m j h1 h2 _).mono ?_;rintro e w2 ⟨rfl,O2,T2⟩;have HO2:=aB O2;have HT2:=aB (HT.then T2);clear O2 T2)
   go_roundw
   ·obtain⟨e1,e2,e3,f1,f2,hr⟩:=HH.out
    have O3:=HO2.out
    rw[show P'++((U1++U2)++(V'++Q'))=P'++(U1++(U2++(V'++Q'))) by simp,HSW.out] at O3
    refine⟨r,j,rfl,rfl,by omega,hj0,by omega,hjb,aB ⟨P'++V',U2,U1,Q',by rw[qZa];omega,by rw[f2,e2];omega,f1,by simpa using O3,?_⟩,HT2⟩
    rw[HG1.out];simp
   ·simp[intOf]
    have:=HH.2.2.2.2.2
    omega
theorem Cn(w:World)(A:Option Addr)(n c:Nat)(X:List aE)(h:cZ w A n c X)(a b:Nat)(hab:a<=b)(hb:b<=n)(hn62:n<=4611686018427387904) :
  Calls Tryz.prog 191 #[.slice A n c,.int .i64 a,.int .i64 b,Gv] w λe w'=>e=.returned (.tuple #[])/\cZ w' A n c (qP X a (b-a-1))/\aC (λg=>aQ A=some g) w w':=by
 have HX:=aB h
 clear h
 go_in
 go_wp2
 go_loopw [8] (λiv wr=>∃ cn i:Nat,iv=.int .i64 i/\i=a+1+cn/\cn<=b-a-1/\Hid (cZ wr A n c (qP X a cn))/\Hid (aC (λg=>aQ A=some g) w wr)) (λiv _=>b-(intOf iv).toNat)
 case atStart=>exact⟨0,a+1,rfl,rfl,qQb _,HX,aB (aC.refl _ _)⟩
 case round =>
  obtain⟨cn,i,rfl,hi,hcn,HO,HT⟩:=hrel
  have HI:=aB hi
  by_cases hib:i<b
  ·have i0:(i:Int)<(b:Int):=by omega
   obtain⟨T,hT⟩:=eX (qP X a (cn+1))
   have HTE:=aB hT
   obtain⟨Y0,hY0⟩:=eX (qP X a cn)
   rw[<-hY0] at HO
   have hbub:Ts Y0 a (i-a)=T:=by
    have e:i-a=cn+1:=by omega
    rw[e,hT,hY0,qP]
   have HBU:=aB hbub
   have hai:a<=i:=by omega
   clear hT hY0 hbub hi hcn
   go_wp2
   obtain⟨wo,rfl⟩:∃ wo:World,wo=wr:=⟨_,rfl⟩
   go_loopw [9] (λjv wr=>∃ j:Nat,jv=.int .i64 j/\a<=j/\j<=i/\Hid (∃ Y,cZ wr A n c Y/\Ts Y a (j-a)=T)/\Hid (aC (λg=>aQ A=some g) w wr)) (λjv _=>(intOf jv).toNat)
   case atStart=>exact⟨i,rfl,hai,qJa _,aB ⟨Y0,HO,HBU⟩,HT⟩
   case round =>
    obtain⟨j,rfl,haj,hji,HE,HT2⟩:=hrel
    obtain⟨Y,OY,hYb⟩:=HE.out
    have HOY:=aB OY
    have HYB:=aB hYb
    have hl:=bM OY
    clear OY hYb HE
    by_cases h0:a<j
    ·obtain⟨d,hd⟩:∃ d,j=a+d+1:=⟨j-a-1,by omega⟩
     obtain⟨q,hq⟩:=eX (j-1)
     obtain⟨g,hA0,hg,a0,a1,f0,f1⟩:=cY HOY.out hl j (by omega)
     subst hA0
     obtain⟨g',hA,_,b0,b1,f3,f4⟩:=cY HOY.out hl q (by omega)
     injection hA with hA
     injection hA with hA _
     subst hA
     obtain⟨⟨xw,xn⟩,hx⟩:∃ r,r=Y.getD j aE.zero:=⟨_,rfl⟩
     obtain⟨⟨yw,yn⟩,hy⟩:∃ r,r=Y.getD q aE.zero:=⟨_,rfl⟩
     have hbu:Ts Y a (j-a)=if iN ⟨xw,xn⟩ ⟨yw,yn⟩=true then Ts (mE Y j q) a (q-a) else Y:=by
      have e1:j-a=d+1:=by omega
      have e2:q=a+d:=by omega
      have e3:q-a=d:=by omega
      rw[e1,e3,Ts,<-hd,<-e2,hx,hy]
     rw[<-hx] at a0 a1
     rw[<-hy] at b0 b1
     simp only at a0 a1 b0 b1
     have EX:=aB hx
     have EY:=aB hy
     have HBB:=aB hbu
     have y0:(j:Int)-1=(q:Int):=by omega
     have y1:IntKind.i64.wrap (q:Int)=(q:Int):=qQa _ (by omega)
     have y2:IntKind.i64.wrap (j:Int)=(j:Int):=qQa _ (by omega)
     have y3:j<n:=by omega
     have y4:q<n:=by omega
     have y5:(j:Int)<(n:Int):=by omega
     have y6:(q:Int)<(n:Int):=by omega
     have y7:decide (a<j)=true:=by simp[h0]
     have y8:(a:Int)<(j:Int):=by omega
     have y9:a<=q:=by omega
     have y10:q<=i:=by omega
     have HDQ:=aB (And.intro hd hq)
     have HLL:=aB hl
     clear hx hy hbu hd hq hl
     cases hb:iN ⟨xw,xn⟩ ⟨yw,yn⟩ with
     | true =>
      have HPB:=aB hb
      clear hb
      go_wp2_with fail
      go_still_tail 14,(by kernel_rfl)
      change wpList _ _ _ _ _ wr.drew
      have HD:Hid (aC (λ_=>False) wr wr.drew):=aB (aC.refl _ _).drew
      generalize wr.drew=wd at HD ⊢
      go_wp2_with (go_at_call 177;refine (lM ⟨xw,xn⟩ ⟨yw,yn⟩ wd).mono ?_;rw[HPB.out];rintro e w2 ⟨⟨z,rfl,hz⟩,T2⟩;have O2:=aD HOY (HD.then T2) (λ_ _ f=>f);obtain⟨g',hA,_,a0,a1,f0,f1⟩:=cY O2 HLL j y3;injection hA with hA;injection hA with hA _;subst hA;obtain⟨g',hA,_,b0,b1,f3,f4⟩:=cY O2 HLL q y4;injection hA with hA;injection hA with hA _;subst hA;rw[<-EX.out] at a0 a1;rw[<-EY.out] at b0 b1;simp only at a0 a1 b0 b1;obtain⟨v0,s0⟩:=cell?_setCell_some (p:=⟨g,j*2,none⟩) (x:=.string yw) b0;obtain⟨v1,s1⟩:=cell?_setCell_some (p:=⟨g,j*2,none⟩) (x:=.string yw) b1;obtain⟨v1,s1⟩:=cell?_setCell_some (p:=⟨g,j*2+1,none⟩) (x:=.int .i64 yn) s1;have HO2:=aB O2;have HT3:=aB (HT2.then ((HD.then T2).up _));clear O2 T2)
      go_region
      all_goals go_wp2
      go_roundw
      ·have HS:=gH (gH HO2 j ⟨yw,yn⟩) q ⟨xw,xn⟩
       have e:mE Y j q=(Y.set j ⟨yw,yn⟩).set q ⟨xw,xn⟩:=by unfold mE;rw[<-EX.out,<-EY.out]
       rw[<-e] at HS
       refine⟨q,rfl,y9,y10,aB ⟨mE Y j q,aD (S:=λ_=>False) HS (aC.refl _ _).drew (λ_ _ f=>f),?_⟩,aB ?_⟩
       ·rw[<-HYB.out,HBB.out,if_pos HPB.out]
       ·refine aC.drew ?_
        iterate 4 refine aC.setCell ?_ (λ_=>(rfl:aQ (some ⟨g,0,none⟩)=some g)) _
        exact HT3
      ·simp[intOf]
       have:=HDQ.out
       omega
     | false =>
      have HPB:=aB hb
      clear hb
      go_wp2_with fail
      go_still_tail 14,(by kernel_rfl)
      change wpList _ _ _ _ _ wr.drew
      have HD:Hid (aC (λ_=>False) wr wr.drew):=aB (aC.refl _ _).drew
      generalize wr.drew=wd at HD ⊢
      go_wp2_with (go_at_call 177;refine (lM ⟨xw,xn⟩ ⟨yw,yn⟩ wd).mono ?_;rw[HPB.out];rintro e w2 ⟨⟨z,rfl,hz⟩,T2⟩;have HO2:=aB (aD HOY (HD.then T2) (λ_ _ f=>f));have HT3:=aB (HT2.then ((HD.then T2).up _));clear T2)
      go_roundw
      ·have hi:=HI.out
       have e:Y=qP X a (cn+1):=by rw[<-HTE.out,<-HYB.out,HBB.out,if_neg (by rw[HPB.out];decide)]
       exact⟨cn+1,i+1,by simp,by omega,by omega,aB (by rw[<-e];exact HO2),HT3⟩
      ·show b-(intOf (.int .i64 ((i:Int)+1))).toNat<b-(intOf (.int .i64 (i:Int))).toNat
       simp[intOf]
       omega
    ·have hja:j=a:=by omega
     have hYT:Y=T:=by rw[<-HYB.out,hja,Nat.sub_self];rfl
     have HYT:=aB hYT
     have y7:decide (a<j)=false:=by simp;omega
     have y8:¬ (a:Int)<(j:Int):=by omega
     clear hja hYT h0 hl
     go_wp2_with fail
     go_quiet (fail)
     obtain⟨wd,hwd⟩:=eX (wr.drewN nq)
     have hdd:aC (λ_=>False) wr wd:=by rw[hwd];exact (aC.refl _ _).drewN _
     have HD:=aB hdd
     rw[<-hwd]
     clear hwd hdd
     go_wp2
     go_roundw
     ·have hi:=HI.out
      have e:Y=qP X a (cn+1):=by rw[HYT.out,HTE.out]
      exact⟨cn+1,i+1,by simp,by omega,by omega,aB (by rw[<-e];exact aD HOY HD (λ_ _ f=>f)),aB (HT2.then (HD.up _))⟩
     ·show b-(intOf (.int .i64 ((i:Int)+1))).toNat<b-(intOf (.int .i64 (i:Int))).toNat
      simp[intOf]
      omega
  ·have hc:cn=b-a-1:=by omega
   clear hi hcn
   go_wp2
   go_end0
   refine⟨rfl,?_,HT⟩
   rw[<-hc]
   exact HO
theorem jJ(S R W:List aE)(i k:Nat)(hi:i=S.length+k)(hk:k<R.length):(S++(R++W)).getD i aE.zero=R.getD k aE.zero:=by
 subst hi
 rw[List.getD_eq_getElem?_getD,List.getElem?_append_right (Nat.le_add_right _ _),Nat.add_sub_cancel_left,List.getElem?_append_left hk]
 rfl
theorem aEl(w:World)(A:Option Addr)(n c:Nat)(P R Q:List aE)(x:aE)(h:cZ w A n c (P++(x :: (R++Q))))(a m b:Nat)(ha:a=P.length)(hm:m=a+1)(hb:b=m+R.length)(hR:dO R)(hn62:n<=5864062014700) :
  Calls Tryz.prog 192 #[.slice A n c,.int .i64 a,.int .i64 m,.int .i64 b,Gv] w λe w'=>e=.returned (.tuple #[])/\(∃ Z,cZ w' A n c (P++(Z++Q))/\dO Z/\bO (x :: R) Z)/\aC (λg=>aQ A=some g) w w':=by
 have hl:=bM h
 simp only[qZa,qZd] at hl
 obtain⟨X,hX⟩:=eX (P++(x :: (R++Q)))
 rw[<-hX] at h
 have hn:=kT h
 unfold maxLen at hn
 have HX:=aB h
 have HE:=aB hX
 have HA:=aB ha
 have HB:=aB hb
 have HR:=aB hR
 have hbn:b<=n:=by omega
 have hmb:m<=b:=by omega
 have hab:a<n:=by omega
 have x0:((m:Int)-(a:Int) == 1)=true:=by simp;omega
 have x1:(m:Int)-(a:Int)=1:=by omega
 have ham:m=a+1:=hm
 have HAM:=aB ham
 clear h hX ha hb hl hR hm ham
 go_in
 go_wp2
 go_loopw [10,11] (λiv jv wr=>∃ i j:Nat,iv=.int .i64 i/\jv=.int .i64 j/\m<=i/\i<=j/\j<=b/\Hid (cZ wr A n c X)/\Hid ((i=m\/iN (X.getD (i-1) aE.zero) x=true)/\(j=b\/iN (X.getD j aE.zero) x=false))/\Hid (aC (λ_=>False) w wr)) (λiv jv _=>(intOf jv).toNat-(intOf iv).toNat)
 case atStart=>exact⟨m,b,rfl,rfl,qJa _,hmb,qJa _,HX,aB ⟨.inl rfl,.inl rfl⟩,aB (aC.refl _ _)⟩
 case round =>
  obtain⟨i,j,rfl,rfl,hmi,hij,hjb,HO,HI,HT⟩:=hrel
  by_cases h0:i<j
  ·have y0:(i:Int)<(j:Int):=by omega
   obtain⟨h,hh⟩:=eX ((i+j) / 2)
   have y1:((i:Int)+(j:Int)) / 2=(h:Int):=by omega
   have y2:h<n:=by omega
   have y3:(h:Int)<(n:Int):=by omega
   have y4:(a:Int)<(n:Int):=by omega
   have y5:IntKind.i64.wrap (h:Int)=(h:Int):=qQa _ (by omega)
   have y6:IntKind.i64.wrap (a:Int)=(a:Int):=qQa _ (by omega)
   have y7:i<=h:=by omega
   have y8:h<j:=by omega
   have hl:=bM HO
   obtain⟨g,hA0,hg,a0,a1,f0,f1⟩:=cY HO.out hl h y2
   subst hA0
   obtain⟨g',hA,_,b0,b1,f3,f4⟩:=cY HO.out hl a hab
   injection hA with hA
   injection hA with hA _
   subst hA
   have ex:X.getD a aE.zero=x:=by rw[HE.out,HA.out,kO]
   rw[ex] at b0 b1
   obtain⟨⟨zw,zn⟩,hz⟩:∃ r,r=X.getD h aE.zero:=⟨_,rfl⟩
   rw[<-hz] at a0 a1
   have EZ:=aB hz
   obtain⟨⟨xw,xn⟩,hx⟩:∃ r,r=x:=⟨_,rfl⟩
   rw[<-hx] at b0 b1
   have EX:=aB hx
   simp only at a0 a1 b0 b1
   clear hl ex hz hx hh
   cases hb:iN ⟨zw,zn⟩ ⟨xw,xn⟩ with
   | true =>
    have HPB:=aB hb
    clear hb
    go_wp2_with fail
    go_still_tail 9,(by kernel_rfl)
    change wpList _ _ _ _ _ wr.drew
    have HD:Hid (aC (λ_=>False) wr wr.drew):=aB (aC.refl _ _).drew
    generalize wr.drew=wd at HD ⊢
    go_wp2_with (go_at_call 177;refine (lM ⟨zw,zn⟩ ⟨xw,xn⟩ wd).mono ?_;rw[HPB.out];rintro e w2 ⟨⟨z,rfl,hz⟩,T2⟩;have HT2:=aB (HT.then (HD.then T2));have HO2:=aB (aD HO (HD.then T2) (λ_ _ f=>f));clear T2)
    go_roundw
    ·refine⟨h+1,j,by simp,rfl,by omega,by omega,hjb,HO2,aB ⟨.inr ?_,HI.2⟩,HT2⟩
     rw[qXe,<-EZ.out,<-EX.out]
     exact HPB
    ·show (j:Int).toNat-((h:Int)+1).toNat<(j:Int).toNat-(i:Int).toNat
     omega
   | false =>
    have HPB:=aB hb
    clear hb
    go_wp2_with fail
    go_still_tail 9,(by kernel_rfl)
    change wpList _ _ _ _ _ wr.drew
    have HD:Hid (aC (λ_=>False) wr wr.drew):=aB (aC.refl _ _).drew
    generalize wr.drew=wd at HD ⊢
    go_wp2_with (go_at_call 177;refine (lM ⟨zw,zn⟩ ⟨xw,xn⟩ wd).mono ?_;rw[HPB.out];rintro e w2 ⟨⟨z,rfl,hz⟩,T2⟩;have HT2:=aB (HT.then (HD.then T2));have HO2:=aB (aD HO (HD.then T2) (λ_ _ f=>f));clear T2)
    go_roundw
    ·refine⟨i,h,rfl,rfl,hmi,y7,by omega,HO2,aB ⟨HI.1,.inr ?_⟩,HT2⟩
     rw[<-EZ.out,<-EX.out]
     exact HPB
    ·show (h:Int).toNat-(i:Int).toNat<(j:Int).toNat-(i:Int).toNat
     omega
  ·have hij':j=i:=by omega
   subst hij'
   obtain⟨t,ht⟩:∃ t,j=m+t:=⟨j-m,by omega⟩
   obtain⟨o,ho⟩:=eX (a+t)
   have z0:(j:Int)-1=(o:Int):=by have:=HAM.out;omega
   have z1:IntKind.i64.wrap (o:Int)=(o:Int):=qQa _ (by omega)
   have z2:a<=o:=by omega
   have z3:o<n:=by have:=HAM.out;omega
   have htR:t<=R.length:=by have:=HB.out;omega
   have HTT:=aB ht
   have HOO:=aB ho
   have HTR:=aB htR
   have HI2:=HI
   clear ht ho htR h0 hij hmi
   go_wp2
   obtain⟨wo,rfl⟩:∃ wo:World,wo=wr:=⟨_,rfl⟩
   go_loopw [13] (λkv wr=>∃ k s:Nat,kv=.int .i64 k/\k<=o/\Hid (k=a+s)/\Hid (cZ wr A n c (P++(R.take s++(x :: (R.drop s++Q)))))/\Hid (aC (λg=>aQ A=some g) w wr)) (λkv _=>o-(intOf kv).toNat)
   case atStart =>
    refine⟨a,0,rfl,z2,aB rfl,aB ?_,aB (HT.up _)⟩
    have:=HO.out
    rw[HE.out] at this
    simpa using this
   case round =>
    obtain⟨k,s,rfl,hko,HK,HO2,HT2⟩:=hrel
    by_cases hk:k<o
    ·obtain⟨Y,hY⟩:=eX (P++(R.take s++(x :: (R.drop s++Q))))
     rw[<-hY] at HO2
     have HYE:=aB hY
     have hl:=bM HO2
     obtain⟨k2,hk2⟩:=eX (k+1)
     obtain⟨g,hA0,hg,a0,a1,f0,f1⟩:=cY HO2.out hl k (by omega)
     subst hA0
     obtain⟨g',hA,_,b0,b1,f3,f4⟩:=cY HO2.out hl k2 (by omega)
     injection hA with hA
     injection hA with hA _
     subst hA
     obtain⟨⟨xw,xn⟩,hx⟩:∃ r,r=Y.getD k aE.zero:=⟨_,rfl⟩
     obtain⟨⟨yw,yn⟩,hy⟩:∃ r,r=Y.getD k2 aE.zero:=⟨_,rfl⟩
     rw[<-hx] at a0 a1
     rw[<-hy] at b0 b1
     simp only at a0 a1 b0 b1
     have EX:=aB hx
     have EY:=aB hy
     have HK2:=aB hk2
     have i0:(k:Int)<(o:Int):=by omega
     have i1:(k:Int)+1=(k2:Int):=by omega
     have i2:IntKind.i64.wrap (k:Int)=(k:Int):=qQa _ (by omega)
     have i3:IntKind.i64.wrap (k2:Int)=(k2:Int):=qQa _ (by omega)
     have i4:k<n:=by omega
     have i5:k2<n:=by omega
     have i6:(k:Int)<(n:Int):=by omega
     have i7:(k2:Int)<(n:Int):=by omega
     have i8:k2<=o:=by omega
     obtain⟨v0,s0⟩:=cell?_setCell_some (p:=⟨g,k*2,none⟩) (x:=.string yw) b0
     obtain⟨v1,s1⟩:=cell?_setCell_some (p:=⟨g,k*2,none⟩) (x:=.string yw) b1
     obtain⟨v1,s1⟩:=cell?_setCell_some (p:=⟨g,k*2+1,none⟩) (x:=.int .i64 yn) s1
     clear hx hy hl hk2 hY
     go_wp2
     go_region
     all_goals go_wp2
     go_roundw
     ·have HS:=gH (gH HO2 k ⟨yw,yn⟩) k2 ⟨xw,xn⟩
      have e:mE Y k k2=(Y.set k ⟨yw,yn⟩).set k2 ⟨xw,xn⟩:=by unfold mE;rw[<-EX.out,<-EY.out]
      rw[<-e] at HS
      have hs:s<R.length:=by have:=HTR.out;have:=HOO.out;have:=HK.out;omega
      have e2:mE Y k k2=P++(R.take (s+1)++(x :: (R.drop (s+1)++Q))):=by
       have r1:R.drop s=R[s] :: R.drop (s+1):=qJc hs
       have r2:R.take (s+1)=R.take s++[R[s]]:=qXc hs
       have l1:(P++R.take s).length=k:=by have:=HK.out;have:=HA.out;rw[qZa,qXd];omega
       have e3:Y=(P++R.take s)++(x :: ([]++(R[s] :: (R.drop (s+1)++Q)))):=by rw[HYE.out,r1];simp only[qZb,qXb,qQc]
       rw[e3,Aj (P++R.take s) [] (R.drop (s+1)++Q) x R[s] k k2 l1.symm (by rw[l1,HK2.out];rfl),r2]
       simp only[qZb,qXb,qQc]
      rw[e2] at HS
      refine⟨k2,s+1,rfl,i8,aB (by have:=HK.out;have:=HK2.out;omega),aB (aD (S:=λ_=>False) HS (aC.refl _ _).drew (λ_ _ f=>f)),aB ?_⟩
      refine aC.drew ?_
      iterate 4 refine aC.setCell ?_ (λ_=>(rfl:aQ (some ⟨g,0,none⟩)=some g)) _
      exact HT2
     ·simp[intOf]
      have:=HK2.out
      omega
    ·have hk':k=o:=by omega
     subst hk'
     go_wp2
     have hst:s=t:=by have:=HK.out;have:=HOO.out;omega
     subst hst
     obtain⟨i1,i2⟩:=HI.out
     have hm:=HAM.out
     have ht:=HTT.out
     have hA:=HA.out
     have hB:=HB.out
     have eX:X=(P++[x])++(R++Q):=by rw[HE.out];simp
     have hc:=Cd (L:=[x]) (R:=R) (by simp[dO]) HR 0 s (qQb _) HTR (.inl rfl) (by
      rcases i1 with e | e
      ·exact .inr (.inl (by omega))
      ·by_cases hs0:s=0
       ·exact .inr (.inl hs0)
       ·refine .inr (.inr ?_)
        rw[eX,jJ (P++[x]) R Q (j-1) (s-1) (by simp;omega) (by have:=HTR.out;omega)] at e
        simpa using e)
     have hd:∀ y∈R.drop s,vE x y:=by
      intro y hy
      obtain⟨q,q1,q2,rfl⟩:=lS hy
      rcases i2 with e | e
      ·omega
      ·rw[eX,jJ (P++[x]) R Q j s (by simp;omega) (by omega)] at e
       exact iB (show vE x (R.getD s aE.zero) from e) (qZ HR.out q1 q2)
     simp only[List.drop_zero,qZe,forall_eq] at hc
     refine bodyPost_ret (v:=.tuple #[]) (by simp[results,Tryz.results192,go_sem]) rfl ⟨rfl,⟨R.take s++(x :: R.drop s),?_,?_,?_⟩,HT2⟩
     ·have:=HO2.out
      simpa using this
     ·refine sP (Ju HR s) (List.pairwise_cons.2 ⟨hd,Jt HR s⟩) ?_
      intro p hp r hr
      rcases List.mem_cons.1 hr with rfl | hr
      ·exact gU (hc.2 p hp)
      ·exact iB (gU (hc.2 p hp)) (hd r hr)
     ·have k1:bO ([x]++R.take s) (R.take s++[x]):=bO.swap λp hp r hr he=>by
       simp only[qZe] at hp
       subst hp
       exact qU (hc.2 r hr) he.symm
      have k2:=k1.app (bO.refl (R.drop s))
      simpa using k2
theorem aBu(w:World)(A:Option Addr)(n c:Nat)(P L Q:List aE)(x:aE)(h:cZ w A n c (P++(L++(x :: Q))))(a m b:Nat)(ha:a=P.length)(hm:m=a+L.length)(hb:b=m+1)(hL1:L.length≠1)(hL:dO L)(hn62:n<=5864062014700) :
  Calls Tryz.prog 192 #[.slice A n c,.int .i64 a,.int .i64 m,.int .i64 b,Gv] w λe w'=>e=.returned (.tuple #[])/\(∃ Z,cZ w' A n c (P++(Z++Q))/\dO Z/\bO (L++[x]) Z)/\aC (λg=>aQ A=some g) w w':=by
 have hl:=bM h
 simp only[qZa,qZd] at hl
 obtain⟨X,hX⟩:=eX (P++(L++(x :: Q)))
 rw[<-hX] at h
 have hn:=kT h
 unfold maxLen at hn
 have HX:=aB h
 have HE:=aB hX
 have HA:=aB ha
 have HB:=aB hb
 have HL:=aB hL
 have HM:=aB hm
 have hbn:m<n:=by omega
 have ham:a<=m:=by omega
 have x0:((m:Int)-(a:Int) == 1)=false:=by simp;omega
 have x1:((b:Int)-(m:Int) == 1)=true:=by simp;omega
 have x2:(b:Int)-(m:Int)=1:=by omega
 have x3:b<=n:=by omega
 clear h hX ha hb hl hL hm hL1
 go_in
 go_wp2
 go_loopw [14,15] (λiv jv wr=>∃ i j:Nat,iv=.int .i64 i/\jv=.int .i64 j/\a<=i/\i<=j/\j<=m/\Hid (cZ wr A n c X)/\Hid ((i=a\/iN x (X.getD (i-1) aE.zero)=false)/\(j=m\/iN x (X.getD j aE.zero)=true))/\Hid (aC (λ_=>False) w wr)) (λiv jv _=>(intOf jv).toNat-(intOf iv).toNat)
 case atStart=>exact⟨a,m,rfl,rfl,qJa _,ham,qJa _,HX,aB ⟨.inl rfl,.inl rfl⟩,aB (aC.refl _ _)⟩
 case round =>
  obtain⟨i,j,rfl,rfl,hmi,hij,hjb,HO,HI,HT⟩:=hrel
  by_cases h0:i<j
  ·have y0:(i:Int)<(j:Int):=by omega
   obtain⟨h,hh⟩:=eX ((i+j) / 2)
   have y1:((i:Int)+(j:Int)) / 2=(h:Int):=by omega
   have y2:h<n:=by omega
   have y3:(h:Int)<(n:Int):=by omega
   have y4:(m:Int)<(n:Int):=by omega
   have y5:IntKind.i64.wrap (h:Int)=(h:Int):=qQa _ (by omega)
   have y6:IntKind.i64.wrap (m:Int)=(m:Int):=qQa _ (by omega)
   have y7:i<=h:=by omega
   have y8:h<j:=by omega
   have hl:=bM HO
   obtain⟨g,hA0,hg,a0,a1,f0,f1⟩:=cY HO.out hl h y2
   subst hA0
   obtain⟨g',hA,_,b0,b1,f3,f4⟩:=cY HO.out hl m hbn
   injection hA with hA
   injection hA with hA _
   subst hA
   have ex:X.getD m aE.zero=x:=by
    have l1:(P++L).length=m:=by have:=HM.out;have:=HA.out;rw[qZa];omega
    rw[HE.out,<-qZb,<-l1,kO]
   rw[ex] at b0 b1
   obtain⟨⟨zw,zn⟩,hz⟩:∃ r,r=X.getD h aE.zero:=⟨_,rfl⟩
   rw[<-hz] at a0 a1
   have EZ:=aB hz
   obtain⟨⟨xw,xn⟩,hx⟩:∃ r,r=x:=⟨_,rfl⟩
   rw[<-hx] at b0 b1
   have EX:=aB hx
   simp only at a0 a1 b0 b1
   clear hl ex hz hx hh
   cases hb:iN ⟨xw,xn⟩ ⟨zw,zn⟩ with
   | true =>
    have HPB:=aB hb
    clear hb
    go_wp2_with fail
    go_still_tail 9,(by kernel_rfl)
    change wpList _ _ _ _ _ wr.drew
    have HD:Hid (aC (λ_=>False) wr wr.drew):=aB (aC.refl _ _).drew
    generalize wr.drew=wd at HD ⊢
    go_wp2_with (go_at_call 177;refine (lM ⟨xw,xn⟩ ⟨zw,zn⟩ wd).mono ?_;rw[HPB.out];rintro e w2 ⟨⟨z,rfl,hz⟩,T2⟩;have HT2:=aB (HT.then (HD.then T2));have HO2:=aB (aD HO (HD.then T2) (λ_ _ f=>f));clear T2)
    go_roundw
    ·refine⟨i,h,rfl,rfl,hmi,y7,by omega,HO2,aB ⟨HI.1,.inr ?_⟩,HT2⟩
     rw[<-EZ.out,<-EX.out]
     exact HPB
    ·show (h:Int).toNat-(i:Int).toNat<(j:Int).toNat-(i:Int).toNat
     omega
   | false =>
    have HPB:=aB hb
    clear hb
    go_wp2_with fail
    go_still_tail 9,(by kernel_rfl)
    change wpList _ _ _ _ _ wr.drew
    have HD:Hid (aC (λ_=>False) wr wr.drew):=aB (aC.refl _ _).drew
    generalize wr.drew=wd at HD ⊢
    go_wp2_with (go_at_call 177;refine (lM ⟨xw,xn⟩ ⟨zw,zn⟩ wd).mono ?_;rw[HPB.out];rintro e w2 ⟨⟨z,rfl,hz⟩,T2⟩;have HT2:=aB (HT.then (HD.then T2));have HO2:=aB (aD HO (HD.then T2) (λ_ _ f=>f));clear T2)
    go_roundw
    ·refine⟨h+1,j,by simp,rfl,by omega,by omega,hjb,HO2,aB ⟨.inr ?_,HI.2⟩,HT2⟩
     rw[qXe,<-EZ.out,<-EX.out]
     exact HPB
    ·show (j:Int).toNat-((h:Int)+1).toNat<(j:Int).toNat-(i:Int).toNat
     omega
  ·have hij':j=i:=by omega
   subst hij'
   obtain⟨t,ht⟩:∃ t,j=a+t:=⟨j-a,by omega⟩
   have htL:t<=L.length:=by have:=HM.out;omega
   have HTT:=aB ht
   have HTL:=aB htL
   clear ht htL h0 hij hmi
   go_wp2
   obtain⟨wo,rfl⟩:∃ wo:World,wo=wr:=⟨_,rfl⟩
   go_loopw [17] (λkv wr=>∃ k s:Nat,kv=.int .i64 k/\j<=k/\k<=m/\Hid (k=a+s)/\Hid (cZ wr A n c (P++(L.take s++(x :: (L.drop s++Q)))))/\Hid (aC (λg=>aQ A=some g) w wr)) (λkv _=>(intOf kv).toNat)
   case atStart =>
    refine⟨m,L.length,rfl,hjb,qJa _,HM,aB ?_,aB (HT.up _)⟩
    have:=HO.out
    rw[HE.out] at this
    simpa using this
   case round =>
    obtain⟨k,s,rfl,hko,hkm,HK,HO2,HT2⟩:=hrel
    by_cases hk:j<k
    ·obtain⟨Y,hY⟩:=eX (P++(L.take s++(x :: (L.drop s++Q))))
     rw[<-hY] at HO2
     have HYE:=aB hY
     have hl:=bM HO2
     obtain⟨k2,hk2⟩:∃ k2,k=k2+1:=⟨k-1,by omega⟩
     obtain⟨g,hA0,hg,a0,a1,f0,f1⟩:=cY HO2.out hl k (by omega)
     subst hA0
     obtain⟨g',hA,_,b0,b1,f3,f4⟩:=cY HO2.out hl k2 (by omega)
     injection hA with hA
     injection hA with hA _
     subst hA
     obtain⟨⟨xw,xn⟩,hx⟩:∃ r,r=Y.getD k aE.zero:=⟨_,rfl⟩
     obtain⟨⟨yw,yn⟩,hy⟩:∃ r,r=Y.getD k2 aE.zero:=⟨_,rfl⟩
     rw[<-hx] at a0 a1
     rw[<-hy] at b0 b1
     simp only at a0 a1 b0 b1
     have EX:=aB hx
     have EY:=aB hy
     have HK2:=aB hk2
     have i0:(j:Int)<(k:Int):=by omega
     have i1:(k:Int)-1=(k2:Int):=by omega
     have i2:IntKind.i64.wrap (k:Int)=(k:Int):=qQa _ (by omega)
     have i3:IntKind.i64.wrap (k2:Int)=(k2:Int):=qQa _ (by omega)
     have i4:k<n:=by omega
     have i5:k2<n:=by omega
     have i6:(k:Int)<(n:Int):=by omega
     have i7:(k2:Int)<(n:Int):=by omega
     have i8:j<=k2:=by omega
     have i9:k2<=m:=by omega
     obtain⟨v0,s0⟩:=cell?_setCell_some (p:=⟨g,k*2,none⟩) (x:=.string yw) b0
     obtain⟨v1,s1⟩:=cell?_setCell_some (p:=⟨g,k*2,none⟩) (x:=.string yw) b1
     obtain⟨v1,s1⟩:=cell?_setCell_some (p:=⟨g,k*2+1,none⟩) (x:=.int .i64 yn) s1
     clear hx hy hl hk2 hY
     go_wp2
     go_region
     all_goals go_wp2
     go_roundw
     ·have HS:=gH (gH HO2 k ⟨yw,yn⟩) k2 ⟨xw,xn⟩
      have e:mE Y k k2=(Y.set k ⟨yw,yn⟩).set k2 ⟨xw,xn⟩:=by unfold mE;rw[<-EX.out,<-EY.out]
      rw[<-e] at HS
      obtain⟨s',rfl⟩:∃ s',s=s'+1:=⟨s-1,by have:=HK.out;have:=HTT.out;omega⟩
      have hs:s'<L.length:=by have:=HM.out;have:=HK.out;omega
      have e2:mE Y k k2=P++(L.take s'++(x :: (L.drop s'++Q))):=by
       have r1:L.drop s'=L[s'] :: L.drop (s'+1):=qJc hs
       have r2:L.take (s'+1)=L.take s'++[L[s']]:=qXc hs
       have l1:(P++L.take s').length=k2:=by have:=HK.out;have:=HK2.out;have:=HA.out;rw[qZa,qXd];omega
       have e3:Y=(P++L.take s')++(L[s'] :: x :: (L.drop (s'+1)++Q)):=by rw[HYE.out,r2];simp only[qZb,qXb,qQc]
       rw[e3,nU (P++L.take s') (L.drop (s'+1)++Q) L[s'] x k k2 (by rw[l1,HK2.out]) l1.symm,r1]
       simp only[qZb,qXb]
      rw[e2] at HS
      refine⟨k2,s',rfl,i8,i9,aB (by have:=HK.out;have:=HK2.out;omega),aB (aD (S:=λ_=>False) HS (aC.refl _ _).drew (λ_ _ f=>f)),aB ?_⟩
      refine aC.drew ?_
      iterate 4 refine aC.setCell ?_ (λ_=>(rfl:aQ (some ⟨g,0,none⟩)=some g)) _
      exact HT2
     ·simp[intOf]
      have:=HK2.out
      omega
    ·have hk':k=j:=by omega
     subst hk'
     go_wp2
     have hst:s=t:=by have:=HK.out;have:=HTT.out;omega
     subst hst
     obtain⟨i1,i2⟩:=HI.out
     have ht:=HTT.out
     have hA:=HA.out
     have hM:=HM.out
     have hTL:=HTL.out
     have eX:X=P++(L++(x :: Q)):=HE.out
     have hc:∀ p∈L.take s,vE p x:=by
      intro p hp
      obtain⟨q,q1,q2,rfl⟩:=oL hp
      rcases i1 with e | e
      ·omega
      ·rw[eX,jJ P L (x :: Q) (k-1) (s-1) (by omega) (by omega)] at e
       exact iB (qZ HL.out (by omega) (by omega)) (show vE (L.getD (s-1) aE.zero) x from e)
     have hd:∀ r∈L.drop s,iN x r=true:=by
      intro r hr
      obtain⟨q,q1,q2,rfl⟩:=lS hr
      rcases i2 with e | e
      ·omega
      ·rw[eX,jJ P L (x :: Q) k s (by omega) (by omega)] at e
       exact wO e (qZ HL.out q1 q2)
     refine bodyPost_ret (v:=.tuple #[]) (by simp[results,Tryz.results192,go_sem]) rfl ⟨rfl,⟨L.take s++(x :: L.drop s),?_,?_,?_⟩,HT2⟩
     ·have:=HO2.out
      simpa using this
     ·refine sP (Ju HL s) (List.pairwise_cons.2 ⟨λr hr=>gU (hd r hr),Jt HL s⟩) ?_
      intro p hp r hr
      rcases List.mem_cons.1 hr with rfl | hr
      ·exact hc p hp
      ·exact iB (hc p hp) (gU (hd r hr))
     ·have k1:bO (L.drop s++[x]) ([x]++L.drop s):=bO.swap λp hp r hr he=>by
       simp only[qZe] at hr
       subst hr
       exact qU (hd p hp) he.symm
      have k2:=(bO.refl (L.take s)).app k1
      have e1:L.take s++(L.drop s++[x])=L++[x]:=by rw[<-qZb,qXg]
      rw[e1] at k2
      simpa using k2
def El(w:World)(A:Option Addr)(n c:Nat)(P Y Q:List aE)(e:Ending)(w':World):Prop :=
 e=.returned (.tuple #[])/\(∃ Z,cZ w' A n c (P++(Z++Q))/\dO Z/\bO Y Z)/\aC (λg=>aQ A=some g) w w'
def SmC(A:Option Addr)(n c fuel:Nat):Prop:=∀ (w:World) (P L R Q:List aE) (a m b:Nat),cZ w A n c (P++(L++(R++Q)))->a=P.length->m=a+L.length->b=m+R.length->0<L.length->0<R.length->dO L->dO R->L.length+R.length<=fuel ->
 Calls Tryz.prog 192 #[.slice A n c,.int .i64 a,.int .i64 m,.int .i64 b,Gv] w (El w A n c P (L++R) Q)
theorem aBv(A:Option Addr)(n c fuel:Nat)(hn62:n<=5864062014700)(ih:SmC A n c fuel)(w:World)(P L R Q:List aE)(a m b:Nat)(h:cZ w A n c (P++(L++(R++Q))))(ha:a=P.length)(hm:m=a+L.length)(hb:b=m+R.length)
  (hL1:1<L.length)(hR1:1<R.length)(hL:dO L)(hR:dO R)(hf:L.length+R.length<=fuel+1) :
  Calls Tryz.prog 192 #[.slice A n c,.int .i64 a,.int .i64 m,.int .i64 b,Gv] w (El w A n c P (L++R) Q):=by
 have hl:=bM h
 simp only[qZa] at hl
 obtain⟨X,hX⟩:=eX (P++(L++(R++Q)))
 rw[<-hX] at h
 have hn:=kT h
 unfold maxLen at hn
 have HX:=aB h
 have HE:=aB hX
 have HA:=aB ha
 have HB:=aB hb
 have HL:=aB hL
 have HR:=aB hR
 have HM:=aB hm
 have HF:=aB hf
 have HIH:=aB ih
 have hbn:b<=n:=by omega
 have ham:a+1<m:=by omega
 have hmb:m+1<b:=by omega
 have x0:((m:Int)-(a:Int) == 1)=false:=by simp;omega
 have x1:((b:Int)-(m:Int) == 1)=false:=by simp;omega
 obtain⟨mid,hmid⟩:=eX ((a+b) / 2)
 obtain⟨N,hN⟩:=eX (mid+m)
 obtain⟨p,hp⟩:∃ x,N=x+1:=⟨N-1,by omega⟩
 have x2:((a:Int)+(b:Int)) / 2=(mid:Int):=by omega
 have x3:(mid:Int)+(m:Int)=(N:Int):=by omega
 have x4:(N:Int)-1=(p:Int):=by omega
 have x5:mid<=n:=by omega
 have x6:N<=n+n:=by omega
 have x7:p<=n+n:=by omega
 obtain⟨lo,hi,hlohi⟩:∃ lo hi:Nat,(mid<m/\lo+b=N/\hi=mid)\/(¬ mid<m/\lo=a/\hi=m):=by
  by_cases hmm:mid<m
  ·exact⟨N-b,mid,.inl ⟨hmm,by omega,rfl⟩⟩
  ·exact⟨a,m,.inr ⟨hmm,rfl,rfl⟩⟩
 have y1:a<=lo/\lo<=hi/\hi<=m/\hi<=n:=by omega
 have y2:∀ k,lo<=k->k<hi->a<=k/\k<m/\m<=p-k/\p-k<b/\k<=p:=by intro k h1 h2;omega
 have HLH:=aB hlohi
 have HY1:=aB y1
 have HY2:=aB y2
 have HMID:=aB (And.intro hmid (And.intro hN hp))
 clear h hX ha hb hl hL hR hm hf ih hmid hN hp hL1 hR1 hlohi y1 y2
 go_in
 go_upto_if 140 with fail
 go_cut [20,21] from 138 to 146 (λs r wx=>s=.int .i64 (lo:Int)/\r=.int .i64 (hi:Int)/\wx=w)
 case first =>
  rcases HLH.out with⟨h1,h2,h3⟩ | ⟨h1,h2,h3⟩
  ·have z1:(N:Int)-(b:Int)=(lo:Int):=by omega
   have z2:(mid:Int)<(m:Int):=by omega
   have z3:lo<=n:=by omega
   have H3:=aB h3
   clear h2 h3
   go_wp2
   go_meet
   exact⟨rfl,by rw[H3.out],rfl⟩
  ·have H23:=aB (And.intro h2 h3)
   have z2:¬ (mid:Int)<(m:Int):=by omega
   clear h2 h3
   go_wp2
   go_meet
   exact⟨by rw[H23.1],by rw[H23.2],rfl⟩
 case rest =>
  obtain⟨rfl,rfl,hcw⟩:=hcut
  obtain rfl:=hcw.symm
  clear hcw
  go_wp2
  go_loopw [20,21] (λsv rv wr=>∃ s r:Nat,sv=.int .i64 s/\rv=.int .i64 r/\lo<=s/\s<=r/\r<=hi/\Hid (cZ wr A n c X)/\Hid ((s=lo\/iN (X.getD (p-(s-1)) aE.zero) (X.getD (s-1) aE.zero)=false)/\(r=hi\/iN (X.getD (p-r) aE.zero) (X.getD r aE.zero)=true))/\Hid (aC (λ_=>False) w wr)) (λsv rv _=>(intOf rv).toNat-(intOf sv).toNat)
  case atStart=>exact⟨lo,hi,rfl,rfl,qJa _,HY1.2.1,qJa _,HX,aB ⟨.inl rfl,.inl rfl⟩,aB (aC.refl _ _)⟩
  case round =>
   obtain⟨s,r,rfl,rfl,hls,hsr,hrh,HO,HI,HT⟩:=hrel
   by_cases h0:s<r
   ·have y0:(s:Int)<(r:Int):=by omega
    obtain⟨k,hk⟩:=eX ((s+r) / 2)
    have hy2:=HY2.out k (by omega) (by omega)
    have hy1:=HY1.out
    obtain⟨u,hu⟩:∃ u,p=u+k:=⟨p-k,by omega⟩
    have hpk:p-k=u:=by omega
    have z1:((s:Int)+(r:Int)) / 2=(k:Int):=by omega
    have z2:k<n:=by omega
    have z3:(k:Int)<(n:Int):=by omega
    have z4:u<n:=by omega
    have z5:(u:Int)<(n:Int):=by omega
    have z6:(p:Int)-(k:Int)=(u:Int):=by omega
    have z7:IntKind.i64.wrap (k:Int)=(k:Int):=qQa _ (by omega)
    have z8:IntKind.i64.wrap (u:Int)=(u:Int):=qQa _ (by omega)
    have z9:s<=k:=by omega
    have z10:k<r:=by omega
    have z11:s<=n:=by omega
    have z12:r<=n:=by omega
    have hl:=bM HO
    obtain⟨g,hA0,hg,a0,a1,f0,f1⟩:=cY HO.out hl k z2
    subst hA0
    obtain⟨g',hA,_,b0,b1,f3,f4⟩:=cY HO.out hl u z4
    injection hA with hA
    injection hA with hA _
    subst hA
    obtain⟨⟨zw,zn⟩,hz⟩:∃ r,r=X.getD k aE.zero:=⟨_,rfl⟩
    rw[<-hz] at a0 a1
    obtain⟨⟨xw,xn⟩,hx⟩:∃ r,r=X.getD u aE.zero:=⟨_,rfl⟩
    rw[<-hx] at b0 b1
    have EZ:=aB hz
    have EX:=aB hx
    have HPK:=aB hpk
    simp only at a0 a1 b0 b1
    clear hl hz hx hk hpk hu hy2 hy1
    cases hb:iN ⟨xw,xn⟩ ⟨zw,zn⟩ with
    | true =>
     have HPB:=aB hb
     clear hb
     go_wp2_with fail
     go_still_tail 11,(by kernel_rfl)
     change wpList _ _ _ _ _ wr.drew
     have HD:Hid (aC (λ_=>False) wr wr.drew):=aB (aC.refl _ _).drew
     generalize wr.drew=wd at HD ⊢
     go_wp2_with (go_at_call 177;refine (lM ⟨xw,xn⟩ ⟨zw,zn⟩ wd).mono ?_;rw[HPB.out];rintro e w2 ⟨⟨z,rfl,hz⟩,T2⟩;have HT2:=aB (HT.then (HD.then T2));have HO2:=aB (aD HO (HD.then T2) (λ_ _ f=>f));clear T2)
     go_roundw
     ·refine⟨s,k,rfl,rfl,hls,z9,by omega,HO2,aB ⟨HI.1,.inr ?_⟩,HT2⟩
      rw[HPK.out,<-EZ.out,<-EX.out]
      exact HPB
     ·show (k:Int).toNat-(s:Int).toNat<(r:Int).toNat-(s:Int).toNat
      omega
    | false =>
     have HPB:=aB hb
     clear hb
     go_wp2_with fail
     go_still_tail 11,(by kernel_rfl)
     change wpList _ _ _ _ _ wr.drew
     have HD:Hid (aC (λ_=>False) wr wr.drew):=aB (aC.refl _ _).drew
     generalize wr.drew=wd at HD ⊢
     go_wp2_with (go_at_call 177;refine (lM ⟨xw,xn⟩ ⟨zw,zn⟩ wd).mono ?_;rw[HPB.out];rintro e w2 ⟨⟨z,rfl,hz⟩,T2⟩;have HT2:=aB (HT.then (HD.then T2));have HO2:=aB (aD HO (HD.then T2) (λ_ _ f=>f));clear T2)
     go_roundw
     ·refine⟨k+1,r,by simp,rfl,by omega,by omega,hrh,HO2,aB ⟨.inr ?_,HI.2⟩,HT2⟩
      rw[qXe,HPK.out,<-EZ.out,<-EX.out]
      exact HPB
     ·show (r:Int).toNat-((k:Int)+1).toNat<(r:Int).toNat-(s:Int).toNat
      omega
   ·have hsr':r=s:=by omega
    subst hsr'
    obtain⟨e,he⟩:∃ e,N=e+r:=⟨N-r,by have:=HMID.out;have:=HY1.out;have:=HLH.out;omega⟩
    obtain⟨i1,i2⟩:=HI.out
    have hmid:=HMID.out
    have hy1:=HY1.out
    have hlh:=HLH.out
    have hA:=HA.out
    have hM:=HM.out
    have hB:=HB.out
    have eb:a<=r/\r<=m/\m<=e/\e<=b/\r<=mid/\mid<=e:=by omega
    obtain⟨L1,L2,eL,l1,l2⟩:=oT (l:=L) (k:=r-a) (by omega)
    obtain⟨R1,R2,eR,r1,r2⟩:=oT (l:=R) (k:=e-m) (by omega)
    have hc:=Cd HL HR (r-a) (e-m) (by omega) (by omega) (by
     rcases i1 with q | q
     ·rcases hlh with⟨h1,h2,h3⟩ | ⟨h1,h2,h3⟩
      ·exact .inr (.inl (by omega))
      ·exact .inl (by omega)
     ·by_cases q0:r=a
      ·exact .inl (by omega)
      ·by_cases q1:e=b
       ·exact .inr (.inl (by omega))
       ·refine .inr (.inr ?_)
        rw[HE.out,show P++(L++(R++Q))=(P++L)++(R++Q) by simp,jJ (P++L) R Q (p-(r-1)) (e-m) (by rw[qZa];omega) (by omega),show (P++L)++(R++Q)=P++(L++(R++Q)) by simp,jJ P L (R++Q) (r-1) (r-a-1) (by omega) (by omega)] at q
        exact q) (by
     rcases i2 with q | q
     ·rcases hlh with⟨h1,h2,h3⟩ | ⟨h1,h2,h3⟩
      ·exact .inr (.inl (by omega))
      ·exact .inl (by omega)
     ·by_cases q0:r=m
      ·exact .inl (by omega)
      ·by_cases q1:e=m
       ·exact .inr (.inl (by omega))
       ·refine .inr (.inr ?_)
        rw[HE.out,show P++(L++(R++Q))=(P++L)++(R++Q) by simp,jJ (P++L) R Q (p-r) (e-m-1) (by rw[qZa];omega) (by omega),show (P++L)++(R++Q)=P++(L++(R++Q)) by simp,jJ P L (R++Q) r (r-a) (by omega) (by omega)] at q
        exact q)
    have t1:L.take (r-a)=L1:=by rw[eL,<-l1,List.take_left]
    have t2:L.drop (r-a)=L2:=by rw[eL,<-l1,List.drop_left]
    have t3:R.take (e-m)=R1:=by rw[eR,<-r1,List.take_left]
    have t4:R.drop (e-m)=R2:=by rw[eR,<-r1,List.drop_left]
    rw[t1,t2,t3,t4] at hc
    have HC:=aB hc
    have HLL:=aB eL
    have HRR:=aB eR
    have HLEN:=aB (And.intro l1 (And.intro l2 (And.intro r1 r2)))
    have HEB:=aB eb
    have u1:(N:Int)-(r:Int)=(e:Int):=by omega
    have u2:e<=n:=by omega
    have u3:r<=n:=by omega
    have u4:IntKind.i64.wrap (e:Int)=(e:Int):=qQa _ (by omega)
    have HEN:=aB he
    have HM2:=aB hmid
    clear i1 i2 hmid hy1 hlh hA hM hB eL eR l1 l2 r1 r2 hc t1 t2 t3 t4 h0 eb he
    obtain⟨b1,hb1⟩:=eX (decide (r<m/\m<e))
    obtain⟨b2,hb2⟩:=eX (decide (a<r/\r<mid))
    obtain⟨b3,hb3⟩:=eX (decide (mid<e/\e<b))
    have HB1:=aB hb1
    have HB2:=aB hb2
    have HB3:=aB hb3
    clear hb1 hb2 hb3
    go_upto_region 39 with fail
    go_cut [24,185] from 174 to 185 (λsv tv wx=>sv=.int .i64 (e:Int)/\tv=.bool b1/\wx=wr)
    case first =>
     by_cases q1:r<m
     ·have q3:(r:Int)<(m:Int):=by omega
      by_cases q2:m<e
      ·have q4:(m:Int)<(e:Int):=by omega
       go_wp2
       go_meet
       exact⟨rfl,by rw[HB1.out];simp[q1,q2],rfl⟩
      ·have q4:¬ (m:Int)<(e:Int):=by omega
       go_wp2
       go_meet
       exact⟨rfl,by rw[HB1.out];simp[q2],rfl⟩
     ·have q3:¬ (r:Int)<(m:Int):=by omega
      go_wp2
      go_meet
      exact⟨rfl,by rw[HB1.out];simp[q1],rfl⟩
    case rest =>
     obtain⟨rfl,rfl,hcw⟩:=hcut
     obtain rfl:=hcw.symm
     clear hcw
     go_upto_if 185 with fail
     go_cut [24] from 186 to 191 (λsv wx=>sv=.int .i64 (e:Int)/\Hid (cZ wx A n c (P++(L1++(R1++(L2++(R2++Q))))))/\Hid (aC (λg=>aQ A=some g) w wx))
     case first =>
      have hO:=HO.out
      rw[HE.out,HLL.out,HRR.out] at hO
      cases b1 with
      | true =>
       have hb:=of_decide_eq_true HB1.symm
       have hO2:cZ wr A n c ((P++L1)++(L2++(R1++(R2++Q)))):=by simpa using hO
       obtain⟨l1,l2,r1,r2⟩:=HLEN.out
       have hm:=HM.out
       have ha:=HA.out
       have hbb:=HB.out
       have heb:=HEB.out
       have HRO:=aB (aBm wr A n c (P++L1) L2 R1 (R2++Q) hO2 r m e (by rw[qZa];omega) (by omega) (by omega) (by omega) (by omega) Gv)
       clear hO hO2 l1 l2 r1 r2 hm ha hbb heb hb
       go_wp2_with (go_at_call 194;refine HRO.mono ?_;rintro e w2 ⟨rfl,O2,T2⟩;have HO2:=aB O2;have HT2:=aB ((HT.up _).then T2);clear O2 T2)
       go_meet
       exact⟨rfl,aB (by simpa using HO2.out),HT2⟩
      | false =>
       have hb:=of_decide_eq_false HB1.symm
       have hO2:cZ wr A n c (P++(L1++(R1++(L2++(R2++Q))))):=by
        obtain⟨l1,l2,r1,r2⟩:=HLEN.out
        have hm:=HM.out
        have heb:=HEB.out
        by_cases q1:r<m
        ·have e1:R1=[]:=qXa (by omega)
         rw[e1] at hO ⊢
         simpa using hO
        ·have e1:L2=[]:=qXa (by omega)
         rw[e1] at hO ⊢
         simpa using hO
       have HO2:=aB hO2
       clear hO hO2 hb
       go_wp2
       go_meet
       exact⟨rfl,HO2,aB (HT.up _)⟩
     case rest =>
      obtain⟨rfl,HO1,HT1⟩:=hcut
      go_upto_region 41 with fail
      go_cut [24,199] from 192 to 199 (λsv tv wx=>sv=.int .i64 (e:Int)/\tv=.bool b2/\wx=wc)
      case first =>
       by_cases q1:a<r
       ·have q3:(a:Int)<(r:Int):=by omega
        by_cases q2:r<mid
        ·have q4:(r:Int)<(mid:Int):=by omega
         go_wp2
         go_meet
         exact⟨rfl,by rw[HB2.out];simp[q1,q2],rfl⟩
        ·have q4:¬ (r:Int)<(mid:Int):=by omega
         go_wp2
         go_meet
         exact⟨rfl,by rw[HB2.out];simp[q2],rfl⟩
       ·have q3:¬ (a:Int)<(r:Int):=by omega
        go_wp2
        go_meet
        exact⟨rfl,by rw[HB2.out];simp[q1],rfl⟩
      case rest =>
       obtain⟨rfl,rfl,hcw⟩:=hcut
       obtain rfl:=hcw.symm
       clear hcw
       obtain⟨w1,hw1⟩:=eX wc
       subst hw1
       go_upto_if 199 with fail
       go_cut [24] from 200 to 205 (λsv wx=>sv=.int .i64 (e:Int)/\Hid (∃ Z1,cZ wx A n c (P++(Z1++(L2++(R2++Q))))/\dO Z1/\bO (L1++R1) Z1)/\Hid (aC (λg=>aQ A=some g) w wx))
       case first =>
        have hsL:dO L1:=by have:=HL.out;rw[HLL.out] at this;exact (List.pairwise_append.1 this).1
        have hsR:dO R1:=by have:=HR.out;rw[HRR.out] at this;exact (List.pairwise_append.1 this).1
        obtain⟨l1,l2,r1,r2⟩:=HLEN.out
        have hm:=HM.out
        have ha:=HA.out
        have hbb:=HB.out
        have heb:=HEB.out
        have hff:=HF.out
        have hmi:=HM2.out
        have hen:=HEN.out
        cases b2 with
        | true =>
         have hb:=of_decide_eq_true HB2.symm
         have HRO:=aB (HIH w1 P L1 R1 (L2++(R2++Q)) a r mid HO1 ha (by omega) (by omega) (by omega) (by omega) hsL hsR (by omega))
         clear l1 l2 r1 r2 hm ha hbb heb hb hff hmi hen hsL hsR
         go_wp2_with (go_at_call 192;refine HRO.mono ?_;rintro e w2 ⟨rfl,⟨Z1,O2,s1,k1⟩,T2⟩;have HO2:=aB O2;have HK2:=aB (And.intro s1 k1);have HT2:=aB (HT1.then T2);clear O2 T2 s1 k1)
         go_meet
         exact⟨rfl,aB ⟨Z1,HO2,HK2.1,HK2.2⟩,HT2⟩
        | false =>
         have hb:=of_decide_eq_false HB2.symm
         have hs:dO (L1++R1):=by
          by_cases q1:a<r
          ·have e1:R1=[]:=qXa (by omega)
           rw[e1];simpa using hsL
          ·have e1:L1=[]:=qXa (by omega)
           rw[e1];simpa using hsR
         have HZ:=aB (Exists.intro (p:=λZ1=>cZ w1 A n c (P++(Z1++(L2++(R2++Q))))/\dO Z1/\bO (L1++R1) Z1) (L1++R1) (And.intro (by simpa using HO1.out) (And.intro hs (bO.refl _))))
         clear l1 l2 r1 r2 hm ha hbb heb hb hff hmi hen hsL hsR hs
         go_wp2
         go_meet
         exact⟨rfl,HZ,HT1⟩
       case rest =>
        obtain⟨rfl,HZ1,HT2⟩:=hcut
        obtain⟨Z1,O2,s1,k1⟩:=HZ1.out
        have hl1:=bM O2
        have hl2:=bM HO1
        simp only[qZa] at hl1 hl2
        have hsL:dO L2:=by have:=HL.out;rw[HLL.out] at this;exact (List.pairwise_append.1 this).2.1
        have hsR:dO R2:=by have:=HR.out;rw[HRR.out] at this;exact (List.pairwise_append.1 this).2.1
        have hLs:=HL.out
        have hRs:=HR.out
        rw[HLL.out] at hLs
        rw[HRR.out] at hRs
        obtain⟨l1,l2,r1,r2⟩:=HLEN.out
        have hm:=HM.out
        have ha:=HA.out
        have hbb:=HB.out
        have heb:=HEB.out
        have hff:=HF.out
        have hmi:=HM2.out
        have hen:=HEN.out
        have hO2':cZ wc A n c ((P++Z1)++(L2++(R2++Q))):=by simpa using O2
        have FIN:=aB (λ(Z2:List aE) (s2:dO Z2) (k2:bO (L2++R2) Z2)=>Ia (L1:=L1) (L2:=L2) (R1:=R1) (R2:=R2) (Z1:=Z1) (Z2:=Z2) hLs hRs HC.1 HC.2 s1 k1 s2 k2)
        have HO3:=aB O2
        by_cases q1:mid<e/\e<b
        ·obtain⟨q1,q2⟩:=q1
         have q3:(mid:Int)<(e:Int):=by omega
         have q4:(e:Int)<(b:Int):=by omega
         have HRO:=aB (HIH wc (P++Z1) L2 R2 Q mid e b hO2' (by rw[qZa];omega) (by omega) (by omega) (by omega) (by omega) hsL hsR (by omega))
         clear l1 l2 r1 r2 hm ha hbb heb hff hmi hen hsL hsR hO2' hl1 hl2 hLs hRs O2 s1 k1
         go_wp2_with (go_at_call 192;refine HRO.mono ?_;rintro e w2 ⟨rfl,⟨Z2,O2,s2,k2⟩,T2⟩;have HO4:=aB O2;have HK2:=aB (And.intro s2 k2);have HT3:=aB (HT2.then T2);clear O2 T2 s2 k2)
         go_end0
         obtain⟨f1,f2⟩:=FIN.out Z2 HK2.1 HK2.2
         rw[<-HLL.out,<-HRR.out] at f2
         exact⟨rfl,⟨Z1++Z2,by simpa using HO4.out,f1,f2⟩,HT3⟩
        ·have hs:dO (L2++R2):=by
          by_cases q2:mid<e
          ·have e1:R2=[]:=qXa (by omega)
           rw[e1];simpa using hsL
          ·have e1:L2=[]:=qXa (by omega)
           rw[e1];simpa using hsR
         obtain⟨f1,f2⟩:=FIN.out (L2++R2) hs (bO.refl _)
         rw[<-HLL.out,<-HRR.out] at f2
         have HFF:=aB (And.intro f1 f2)
         have hq:(¬ (mid:Int)<(e:Int))\/((mid:Int)<(e:Int)/\¬ (e:Int)<(b:Int)):=by omega
         clear l1 l2 r1 r2 hm ha hbb heb hff hmi hen hsL hsR hO2' hl1 hl2 hLs hRs O2 s1 k1 hs f1 f2 q1
         rcases hq with q1 | ⟨q1,q2⟩
         all_goals
          go_wp2
          go_end0
          exact⟨rfl,⟨Z1++(L2++R2),by simpa using HO3.out,HFF.1,HFF.2⟩,HT2⟩
theorem Ya(A:Option Addr)(n c:Nat)(hn62:n<=5864062014700):∀ fuel,SmC A n c fuel:=by
 intro fuel
 induction fuel with
 | zero=>intro w P L R Q a m b _ _ _ _ h1 _ _ _ hf;omega
 | succ fuel ih =>
  intro w P L R Q a m b h ha hm hb hL0 hR0 hL hR hf
  by_cases h1:L.length=1
  ·obtain⟨x,rfl⟩:=List.length_eq_one_iff.1 h1
   exact (aEl w A n c P R Q x (by simpa using h) a m b ha (by simpa using hm) hb hR hn62).mono λe w' hh=>by simpa [El] using hh
  ·by_cases h2:R.length=1
   ·obtain⟨x,rfl⟩:=List.length_eq_one_iff.1 h2
    exact (aBu w A n c P L Q x (by simpa using h) a m b ha hm (by simpa using hb) h1 hL hn62).mono λe w' hh=>by simpa [El] using hh
   ·exact aBv A n c fuel hn62 ih w P L R Q a m b h ha hm hb (by omega) (by omega) hL hR hf
def Bl(bs:Nat)(Bs:List (List aE)):Prop:=∀ B∈Bs,B.length=bs/\dO B
theorem Lh(h:Bl bs Bs):Bs.flatten.length=Bs.length*bs:=by
 induction Bs with
 | nil=>simp
 | cons B Bs ih =>
  have h1:=(h B (by simp)).1
  have h2:=ih (λC hC=>h C (by simp[hC]))
  simp only[List.flatten_cons,qZa,qZd,h1,h2,Nat.succ_mul]
  omega
theorem Ny{Z:List aE}(h:Bl bs Bs)(hZ:Z.length=bs)(hs:dO Z):Bl bs (Bs++[Z]):=by
 intro B hB
 rcases List.mem_append.1 hB with hB | hB
 ·exact h B hB
 ·simp at hB;subst hB;exact⟨hZ,hs⟩
theorem gG(Bs:List (List aE))(Z:List aE):(Bs++[Z]).flatten=Bs.flatten++Z:=by simp
theorem xJ(h:Bl bs Bs):(Bs=[]/\Bs.flatten.length=0)\/(∃ B,Bs=[B]/\Bs.flatten.length=bs/\B.length=bs/\dO B)\/∃ B1 B2 Bs',Bs=B1 :: B2 :: Bs'/\2*bs<=Bs.flatten.length:=by
 have hl:=Lh h
 rcases Bs with _ | ⟨B1,_ | ⟨B2,Bs'⟩⟩
 ·exact .inl ⟨rfl,rfl⟩
 ·refine .inr (.inl ⟨B1,rfl,?_,h B1 (by simp)⟩)
  rw[hl];exact Nat.one_mul bs
 ·refine .inr (.inr ⟨B1,B2,Bs',rfl,?_⟩)
  rw[hl]
  exact Nat.mul_le_mul_right bs (by simp)
def Ug(w:World)(A:Option Addr)(n c:Nat)(X:List aE)(e:Ending)(w':World):Prop :=
 e=.returned (.tuple #[])/\(∃ Z,cZ w' A n c Z/\dO Z/\bO X Z)/\aC (λg=>aQ A=some g) w w'
theorem Na(w:World)(A:Option Addr)(n c:Nat)(X:List aE)(h:cZ w A n c X)(hn62:n<=5864062014700) :
  Calls Tryz.prog 187 #[.slice A n c,.int .i64 n,Gv] w (Ug w A n c X):=by
 have HX:=aB h
 clear h
 go_in
 go_wp2
 go_loopw [7,8] (λav bv wr=>∃ a b:Nat,av=.int .i64 a/\bv=.int .i64 b/\b=a+20/\a<=n/\Hid (∃ Bs T,Bl 20 Bs/\Bs.flatten.length=a/\cZ wr A n c (Bs.flatten++T)/\bO X (Bs.flatten++T))/\Hid (aC (λg=>aQ A=some g) w wr)) (λ_ bv _=>n+21-(intOf bv).toNat)
 case atStart=>exact⟨0,20,rfl,rfl,rfl,qQb _,aB ⟨[],X,(λB hB=>by cases hB),rfl,HX,bO.refl _⟩,aB (aC.refl _ _)⟩
 case round =>
  obtain⟨a,b,rfl,rfl,hab,han,HE,HT⟩:=hrel
  by_cases h0:b<=n
  ·have y0:(b:Int)<=(n:Int):=by omega
   obtain⟨Bs,T,hB,hl,O1,K1⟩:=HE.out
   have hlen:=bM O1
   rw[qZa] at hlen
   obtain⟨B,T',rfl,t1,t2⟩:=oT (l:=T) (k:=20) (by omega)
   obtain⟨Z,z1,z2,z3⟩:=Cm Bs.flatten B T' a b hl.symm (by omega)
   have HZ:=aB (And.intro z1 (And.intro z2 z3))
   have HBB:=aB hB
   have HL:=aB (And.intro hl (And.intro t1 hab))
   have HK:=aB K1
   have hab':a<=b:=by omega
   have HIS:=aB (Cn wr A n c _ O1 a b hab' h0 (by omega))
   clear hB hl O1 K1 hlen t1 t2 z1 z2 z3 HE
   obtain⟨b2,hb2⟩:=eX (b+20)
   have y1:(b:Int)+20=(b2:Int):=by omega
   have y2:IntKind.i64.wrap (b2:Int)=(b2:Int):=qQa _ (by omega)
   have HB2:=aB hb2
   clear hb2 hab
   go_wp2_with (go_at_call 191;refine HIS.mono ?_;rintro e w2 ⟨rfl,O2,T2⟩;have HO2:=aB O2;have HT2:=aB (HT.then T2);clear O2 T2)
   go_roundw
   ·obtain⟨hl,t1,hab⟩:=HL.out
    obtain⟨z1,z2,z3⟩:=HZ.out
    have O3:=HO2.out
    rw[z1] at O3
    have lz:Z.length=20:=by
     have h1:=bM O3
     have h2:=congrArg List.length z1
     rw[yP] at h2
     simp only[qZa] at h1 h2
     omega
    refine⟨b,b2,rfl,rfl,HB2,h0,aB ⟨Bs++[Z],T',Ny HBB lz z2,by rw[gG,qZa];omega,by rw[gG];simpa using O3,?_⟩,HT2⟩
    rw[gG]
    refine HK.trans ?_
    have:=(bO.refl Bs.flatten).app (z3.app (bO.refl T'))
    simpa using this
   ·simp[intOf]
    have:=HB2.out
    omega
  ·obtain⟨Bs,T,hB,hl,O1,K1⟩:=HE.out
   have hlen:=bM O1
   rw[qZa] at hlen
   obtain⟨Z,z1,z2,z3⟩:=Cm Bs.flatten T [] a n hl.symm (by omega)
   rw[List.append_nil,List.append_nil] at z1
   have HIS:=aB (Cn wr A n c _ O1 a n han (qJa _) (by omega))
   have HZ:=aB (And.intro z1 (And.intro z2 z3))
   have HBB:=aB hB
   have HK:=aB K1
   have HL:=aB (And.intro hl (And.intro hlen hab))
   have y0:¬ (b:Int)<=(n:Int):=by omega
   clear hB hl O1 K1 hlen z1 z2 z3 HE hab h0
   go_wp2_with (go_at_call 191;refine HIS.mono ?_;rintro e w2 ⟨rfl,O2,T2⟩;have HO2:=aB O2;have HT2:=aB (HT.then T2);clear O2 T2)
   have HS:Hid (∃ Bs T,Bl 20 Bs/\dO T/\T.length<20/\cZ w2 A n c (Bs.flatten++T)/\bO X (Bs.flatten++T)):=aB (by
    obtain⟨hl,hlen,hab⟩:=HL.out
    obtain⟨z1,z2,z3⟩:=HZ.out
    have O3:=HO2.out
    rw[z1] at O3
    have h1:=bM O3
    have h2:=congrArg List.length z1
    rw[yP] at h2
    simp only[qZa] at h1 h2
    exact⟨Bs,Z,HBB,z2,by omega,O3,HK.trans ((bO.refl _).app z3)⟩)
   clear HIS HZ HBB HK HL HO2 HT
   obtain⟨w0,hw0⟩:=eX w2
   rw[<-hw0] at HS HT2 ⊢
   clear hw0
   go_loopw [6] (λsv wr=>∃ bs:Nat,sv=.int .i64 bs/\0<bs/\bs<=n+n+20/\Hid (∃ Bs T,Bl bs Bs/\dO T/\T.length<bs/\cZ wr A n c (Bs.flatten++T)/\bO X (Bs.flatten++T))/\Hid (aC (λg=>aQ A=some g) w wr)) (λsv _=>n-(intOf sv).toNat)
   case atStart=>exact⟨20,rfl,by omega,by omega,HS,HT2⟩
   case round =>
    obtain⟨bs,rfl,hbs,hbs2,HE,HT3⟩:=hrel
    by_cases h1:bs<n
    ·have x0:(bs:Int)<(n:Int):=by omega
     obtain⟨d,hd⟩:=eX (2*bs)
     have x1:(2:Int)*(bs:Int)=(d:Int):=by omega
     have x2:(bs:Int)*2=(d:Int):=by omega
     have x3:IntKind.i64.wrap (d:Int)=(d:Int):=qQa _ (by omega)
     have HD:=aB hd
     have hd2:d<=n+n:=by omega
     clear hd
     go_wp2
     obtain⟨wo,rfl⟩:∃ wo:World,wo=wr:=⟨_,rfl⟩
     go_loopw [7,8] (λav bv wr=>∃ a b:Nat,av=.int .i64 a/\bv=.int .i64 b/\b=a+d/\a<=n/\Hid (∃ Ds Bs T,Bl d Ds/\Ds.flatten.length=a/\Bl bs Bs/\dO T/\T.length<bs/\cZ wr A n c (Ds.flatten++(Bs.flatten++T))/\bO X (Ds.flatten++(Bs.flatten++T)))/\Hid (aC (λg=>aQ A=some g) w wr)) (λav _ _=>n+1-(intOf av).toNat)
     case atStart =>
      obtain⟨Bs,T,q1,q2,q3,q4,q5⟩:=HE.out
      exact⟨0,d,rfl,rfl,by omega,qQb _,aB ⟨[],Bs,T,(λB hB=>by cases hB),rfl,q1,q2,q3,q4,q5⟩,HT3⟩
     case round =>
      obtain⟨a,b,rfl,rfl,hab,han,HE2,HT4⟩:=hrel
      obtain⟨Ds,Bs,T,q1,q2,q3,q4,q5,q6,q7⟩:=HE2.out
      have hlen:=bM q6
      have hbl:=Lh q3
      simp only[qZa] at hlen
      have hdd:=HD.out
      obtain⟨m,hm⟩:=eX (a+bs)
      have w0:(a:Int)+(bs:Int)=(m:Int):=by omega
      have w1:IntKind.i64.wrap (m:Int)=(m:Int):=qQa _ (by omega)
      by_cases h2:b<=n
      ·have y0:(b:Int)<=(n:Int):=by omega
       have hB2:∃ B1 B2 Bs',Bs=B1 :: B2 :: Bs':=by
        rcases xJ q3 with⟨_,e⟩ | ⟨B,_,e,_⟩ | ⟨B1,B2,Bs',e,_⟩
        ·omega
        ·omega
        ·exact⟨B1,B2,Bs',e⟩
       obtain⟨B1,B2,Bs',rfl⟩:=hB2
       obtain⟨c1,s1⟩:=q3 B1 (by simp)
       obtain⟨c2,s2⟩:=q3 B2 (by simp)
       have q3':Bl bs Bs':=λB hB=>q3 B (by simp[hB])
       have e1:Ds.flatten++((B1 :: B2 :: Bs').flatten++T)=Ds.flatten++(B1++(B2++(Bs'.flatten++T))):=by simp
       rw[e1] at q6 q7
       have HSM:=aB (Ya A n c hn62 _ wr Ds.flatten B1 B2 (Bs'.flatten++T) a m b q6 q2.symm (by omega) (by omega) (by omega) (by omega) s1 s2 (qJa _))
       have HK:=aB q7
       have HP:=aB (And.intro q1 (And.intro q2 (And.intro q3' (And.intro q4 q5))))
       have HC:=aB (And.intro c1 (And.intro c2 (And.intro hlen hab)))
       obtain⟨b2,hb2⟩:=eX (b+d)
       have y1:(b:Int)+(d:Int)=(b2:Int):=by omega
       have y2:IntKind.i64.wrap (b2:Int)=(b2:Int):=qQa _ (by omega)
       have HB2:=aB hb2
       have hab3:a<b:=by omega
       clear q1 q2 q3 q4 q5 q6 q7 hlen hbl hdd hm e1 c1 c2 s1 s2 q3' HE2 hb2 hab
       go_wp2_with (go_at_call 192;refine HSM.mono ?_;rintro e w2 ⟨rfl,⟨Z,O2,s2,k2⟩,T2⟩;have HO2:=aB O2;have HK2:=aB (And.intro s2 k2);have HT5:=aB (HT4.then T2);clear O2 T2 s2 k2)
       go_roundw
       ·obtain⟨q1,q2,q3',q4,q5⟩:=HP.out
        obtain⟨c1,c2,hlen,hab⟩:=HC.out
        have hl2:=bM HO2
        have hdd:=HD.out
        simp only[qZa,List.flatten_cons] at hlen hl2
        have lz:Z.length=d:=by omega
        refine⟨b,b2,rfl,rfl,HB2,h2,aB ⟨Ds++[Z],Bs',T,Ny q1 lz HK2.1,by rw[gG,qZa];omega,q3',q4,q5,by rw[gG];simpa using HO2.out,?_⟩,HT5⟩
        rw[gG]
        refine HK.trans ?_
        have:=(bO.refl Ds.flatten).app (HK2.2.app (bO.refl (Bs'.flatten++T)))
        simpa using this
       ·simp[intOf]
        omega
      ·have y0:¬ (b:Int)<=(n:Int):=by omega
       have hB2:(Bs=[]/\Bs.flatten.length=0)\/∃ B,Bs=[B]/\Bs.flatten.length=bs/\B.length=bs/\dO B:=by
        rcases xJ q3 with e | e | ⟨B1,B2,Bs',_,e⟩
        ·exact .inl e
        ·exact .inr e
        ·omega
       by_cases h3:m<n
       ·have y1:(m:Int)<(n:Int):=by omega
        have hB3:∃ B,Bs=[B]/\Bs.flatten.length=bs/\B.length=bs/\dO B:=by
         rcases hB2 with⟨_,e⟩ | e
         ·omega
         ·exact e
        obtain⟨B,rfl,c0,c1,s1⟩:=hB3
        have e1:Ds.flatten++([B].flatten++T)=Ds.flatten++(B++(T++[])):=by simp
        rw[e1] at q6 q7
        have HSM:=aB (Ya A n c hn62 _ wr Ds.flatten B T [] a m n q6 q2.symm (by omega) (by omega) (by omega) (by omega) s1 q4 (qJa _))
        have HK:=aB q7
        have HP:=aB (And.intro q1 (And.intro q2 hab))
        clear q1 q2 q3 q4 q5 q6 q7 hlen hbl hdd hm e1 c0 c1 s1 HE2 hab h3 hB2
        go_wp2_with (go_at_call 192;refine HSM.mono ?_;rintro e w2 ⟨rfl,⟨Z,O2,s2,k2⟩,T2⟩;have HO2:=aB O2;have HK2:=aB (And.intro s2 k2);have HT5:=aB (HT4.then T2);clear O2 T2 s2 k2)
        go_roundw
        ·obtain⟨q1,q2,hab⟩:=HP.out
         have hl2:=bM HO2
         have hdd:=HD.out
         simp only[qZa,List.length_nil] at hl2
         refine⟨d,rfl,by omega,by omega,aB ⟨Ds,Z,q1,HK2.1,by omega,by simpa using HO2.out,?_⟩,HT5⟩
         refine HK.trans ?_
         have:=(bO.refl Ds.flatten).app (HK2.2.app (bO.refl ([]:List aE)))
         simpa using this
        ·have:=HD.out
         show n-(d:Int).toNat<n-(bs:Int).toNat
         omega
       ·have y1:¬ (m:Int)<(n:Int):=by omega
        have HS2:Hid (∃ Bs T,Bl d Bs/\dO T/\T.length<d/\cZ wr A n c (Bs.flatten++T)/\bO X (Bs.flatten++T)):=aB (by
         rcases hB2 with⟨rfl,_⟩ | ⟨B,rfl,c0,c1,s1⟩
         ·simp only[List.flatten_nil,qQc] at q6 q7
          exact⟨Ds,T,q1,q4,by omega,q6,q7⟩
         ·have e1:T=[]:=qXa (by omega)
          subst e1
          simp at q6 q7
          exact⟨Ds,B,q1,s1,by omega,q6,q7⟩)
        clear q1 q2 q3 q4 q5 q6 q7 hlen hbl hdd hm HE2 hab h3 hB2
        go_wp2
        go_roundw
        ·have hdd:=HD.out
         exact⟨d,rfl,by omega,by omega,HS2,HT4⟩
        ·have:=HD.out
         show n-(d:Int).toNat<n-(bs:Int).toNat
         omega
    ·have x0:¬ (bs:Int)<(n:Int):=by omega
     obtain⟨Bs,T,q1,q2,q3,q4,q5⟩:=HE.out
     have hlen:=bM q4
     have hbl:=Lh q1
     rw[qZa] at hlen
     have hfin:dO (Bs.flatten++T):=by
      rcases xJ q1 with⟨rfl,_⟩ | ⟨B,rfl,c0,c1,s1⟩ | ⟨B1,B2,Bs',_,e⟩
      ·simpa using q2
      ·have e1:T=[]:=qXa (by omega)
       subst e1
       simpa using s1
      ·omega
     have HFI:=aB (And.intro q4 (And.intro hfin q5))
     clear q1 q2 q3 q4 q5 hlen hbl hfin HE
     go_wp2
     go_end0
     exact⟨rfl,⟨_,HFI.1,HFI.2.1,HFI.2.2⟩,HT3⟩
theorem Fr(w:World)(A:Option Addr)(n c:Nat)(X:List aE)(h:cZ w A n c X)(hn62:n<=5864062014700) :
  Calls Tryz.prog 176 #[.slice A n c,Gv] w (Ug w A n c X):=by
 have HX:=aB (Na w A n c X h hn62)
 clear h
 go_in
 go_wp2_with (go_at_call 187;refine HX.mono ?_;rintro e w2 ⟨rfl,H2,T2⟩;have HZ:=aB H2;have HT:=aB T2;clear H2 T2)
 go_end0
 exact⟨rfl,HZ,HT⟩
end Go.Proofs.YthockgmbooefpaaGreatDoor
