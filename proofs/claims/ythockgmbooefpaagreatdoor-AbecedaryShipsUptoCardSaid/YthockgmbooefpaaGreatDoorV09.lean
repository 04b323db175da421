/- What the law rests on, part 9. No condition but those that each theorem names. -/
import Derived.Test.YthockgmbooefpaaGreatDoorV08
import Derived.Test.YthockgmbooefpaaGreatDoorV03
import Derived.Deep.LoopGhost
import Derived.StillTailTactics
import Derived.BigQuiet
import Derived.Deep.QuietTactic
import Derived.Test.YthockgmbooefpaaGreatDoorV02
import Derived.Test.YthockgmbooefpaaGreatDoorV04
import Derived.BigRegion
set_option linter.unusedSectionVars false
set_option linter.unusedSimpArgs false
set_option linter.unusedVariables false
set_option maxRecDepth 100000
set_option maxHeartbeats 8000000
namespace Go.Proofs.YthockgmbooefpaaGreatDoor
open IntWalk renaming i64_in → qJb
open List renaming getElem_cons_succ → qQa, getElem_cons_zero → qZa, getElem_toArray → qXa, setIfInBounds_toArray → qJa, set_cons_succ → qQb, set_cons_zero → qZb, range → qXb, getD → qZc, map_append → qXc, length_append → qJc, length_cons → qQd, map_cons → qZd, mem_map → qXd, nil_append → qJd, sum_cons → qQe, length_nil → qXe, getElem?_concat_length → qZf, length_filterMap_le → qJf, length_pos_iff → qQg, length_take → qZg, mem_append_left → qXg, mem_cons_of_mem → qJg, mem_cons_self → qQh, replicate → qZh, eq_nil_of_length_eq_zero → qJi
open Nat renaming le_refl → qQc, zero_le → qZe, add_mul → qJe, one_mul → qQf, lt_succ_self → qXh
variable{X Y:List Nat}{Z:List SV}{a:List UInt8}{L:List aD}{dc i m n wc:Nat}{A dA wA:Option Addr}{P:Program}{W w:World}
open Go.RowKit
theorem dF{ops : Array Oper}{Q : Exit -> Act -> World -> Prop}{md : Region.Mode}{S : World -> Prop}{oi : Oper}{fuel : Nat}{listed : Array Bool}{a : Act}(i : Nat)(v : Value)(hi : ops[i]? = some oi)(hk : (Region.noSelect ops && Region.free md ops listed i && (Region.ready md ops listed).contains i && Region.wanted oi (yielded ops a.tmps)) = true)(hQ : ∀ c a w, Q (.panic c) (a.put oi.dst v) w -> Q (.panic c) a w)(hy : ∀ w, S w -> (execOp a.eval oi).run P w = .ok (.value v) w)(hS : S w)(h : wpAnyH P md ops Q S fuel (listed.setIfInBounds i true) (a.put oi.dst v) w) : wpAnyH P md ops Q S (fuel + 1) listed a w := by
  simp only[Bool.and_eq_true] at hk
  exact wpAnyH_take hi hk.1.1.1 hk.1.1.2 hk.1.2 hQ (.inl ⟨hk.2, hy⟩) hS h
section
open Go.RowKit Go.Shelf
theorem Lo(A:Option Addr)(q c:Nat)(hq:q<=c)(hc:c<=maxLen)(w:World) :
  Calls Tryz.prog 96 #[.slice A q c] w λe w'=>e=.returned (.slice A q q)/\w'=w:=by
 unfold maxLen at hc
 have y0:(0:Int)<=(q:Int):=by omega
 have y1:(q:Int)<=(c:Int):=by omega
 go_in
 go_wp2_with fail
 go_ret
 exact⟨rfl,rfl⟩
theorem vJ(w:World)(t ty e:TypeId)(i:TypeInfo)(z:Value)(bytes:Nat)(h1:P.underlying t=some (.slice e))(h2:P.info? e=some i)(h3:i.zero=some z)(h4:i.size=1)(h5:i.bytes=bytes)(h6:z.cells.size=1)
  (A:Option Addr)(q:Nat)(xs:List Value)(hR:aH w 1 A q xs)(ad:Addr)(u:Value)(hu:u.oneCell'=true)(hc:w.cell? ad=some u)(hs:ad.spot=none)(b1:q+1<=maxLen)(b2:(q+1)*bytes<=140737488355328) :
  ∃ v' w',(Builtin.append_ #[t,t] ty #[.slice A q q,.slice (some ad) 1 1]).run P w=.ok v' w'/\w'.ownsRow 0 e 1 v' (q+1) (xs++[u])/\aC (λ_=>False) w w'/\∀ g,v'.ownBlock=some g->w.heap.size<=g:=by
 have had:∀ j v,[u][j]? = some v->w.cell? (ad.add j)=some v:=by
  intro j v hv
  cases j with
  | zero =>
   simp only[List.getElem?_cons_zero,Option.some.injEq] at hv
   subst hv
   have e0:ad.add 0=ad:=by
    obtain⟨b,o,s⟩:=ad
    simp only at hs
    subst hs
    unfold Addr.add
    split<;>simp_all
   rw[e0]
   exact hc
  | succ j=>simp at hv
 have hone:∀ v∈[u],v.oneCell'=true:=by
  intro v hv
  simp only[List.mem_singleton] at hv
  subst hv
  exact hu
 have fin:∀ v' w',w'.ownsRow w.heap.size e 1 v' (q+1) (xs++[u])->w.grownBy w' none->w'.ownsRow 0 e 1 v' (q+1) (xs++[u])/\aC (λ_=>False) w w'/\∀ g,v'.ownBlock=some g->w.heap.size<=g:=by
  intro v' w' r2 r3
  refine⟨⟨r2.1,?_⟩,⟨r3.os,r3.tape,r3.output,r3.size,λk hk _=>r3.block k hk (by simp)⟩,?_⟩
  ·rcases r2.2 with h | ⟨g,cap,cur,h,_,hh⟩
   ·exact .inl h
   ·exact .inr ⟨g,cap,cur,h,qZe _,hh⟩
  ·intro g hg
   rcases r2.2 with⟨h,_⟩ | ⟨g',cap,cur,h,hge,hh⟩
   ·rw[h] at hg;simp[Value.ownBlock] at hg
   ·rw[h] at hg
    simp[Value.ownBlock] at hg
    omega
 cases A with
 | none =>
  have hq:q=0:=by
   rcases Nat.eq_zero_or_pos q with h | h
   ·exact h
   ·obtain⟨_,_,h,_⟩:=hR.2 h
    cases h
  subst hq
  have hx:xs=[]:=qJi (by simpa using hR.1)
  subst hx
  obtain⟨v',w',r1,r2,r3,_⟩:=run_append_own (P:=P) w w.heap.size t ty e i z 1 bytes h1 h2 h3 h4 h5 h6 (by decide) (.slice none 0 0) 0 [] (World.ownsRow_nil w _ e 1) ad 1 1 [u] rfl had hone b1 b2 (qQc _)
  exact⟨v',w',r1,fin v' w' r2 r3⟩
 | some b =>
  have holds:∀ j v,xs[j]? = some v->w.cell? (b.add j)=some v:=λj v hv=>by
   have hq:0<q:=by
    rcases Nat.eq_zero_or_pos q with h | h
    ·subst h
     have hx:xs=[]:=qJi (by simpa using hR.1)
     rw[hx] at hv
     cases hv
    ·exact h
   obtain⟨b',off,hA,_,hcell⟩:=hR.2 hq
   injection hA with hA
   subst hA
   rw[Addr.add_lit]
   exact hcell j v hv
  obtain⟨v',w',r1,r2,r3⟩:=run_append_arg_grows (P:=P) w t ty e i z 1 bytes h1 h2 h3 h4 h5 h6 (by decide) b q q xs hR.1 holds ad 1 1 [u] rfl had (by omega) b1 b2
  exact⟨v',w',r1,fin v' w' r2 r3⟩
theorem tX{o:Oper}{a:Act}{K:Act->World->Prop}{Q:Exit->Act->World->Prop}(s x:Operand)(t:TypeId)(hop:o.op=Op.call { callee:=Callee.builtin Builtin.append,args:=#[s,x],argTypes:=#[t,t] })
  (v1 v2 v:Value)(w':World)(hs:a.eval s=v1)(hx:a.eval x=v2)(hrun:(Builtin.append_ #[t,t] o.type #[v1,v2]).run P w=.ok v w')(h:K (a.put o.dst v) w'):o.wp P a w K Q:=by
 unfold Oper.wp
 simp[execOp,hop,resolve,invoke,builtin,hs,hx,hrun,Result.andThen]
 exact h
structure eU.Bnd(t:eU)(n m:Nat):Prop where
 i:t.i<n
 row:t.row.length=m+1
 scal:∀ r∈t.head,scal r=true
 few:t.head.length<=24
 s0:0<=t.sum
 s1:t.sum<=1099511627776
theorem aGt(x:zS)(hL:cV x.w0)(hD:aZ L)(hW:It x.w0 x.wb L n wA wc Z dA dc)(W:World)(F:List aE)(I:List eU)(hG:zG x W F I)(hFl:F.length<=1048576)(hIl:I.length<=1048576)(t p:eU)(a:El)(bA bH bS bR:Nat)(A:Option Addr)(q c:Nat)(v:Value)(hK:Zu x W v t p a bA bH bS bR A q c)(hB:t.Bnd n x.ln) :
  Calls Tryz.prog 95 #[bB x.bV,bB bA,bB bH,bB bS,bB x.bL,bB bR] W
   λe W'=>e=.returned (.tuple #[])/\zG x W' (F++(pR (aR L).states x.o t).map Cc) (I++(jI (aR L).states x.X x.o t).reverse):=by
 have hst:FzC x W:=by
  obtain⟨_,_,_,_,_,h⟩:=hG
  exact h.st
 have hrs:=eN (bM x.o p.row)
 obtain⟨c1,hc1⟩:∃ c,cB (bM x.o p.row)=List.toArray c:=⟨(cB (bM x.o p.row)).toList,by simp⟩
 have hi1:(Tryz.prog.info? 181).map (·.size)=some c1.length:=by
  rw[hc1] at hrs
  rw[jH,<-hrs]
  simp
 have hu:=Tryz.underlying181
 have hks:∀ wx,Kp W wx->wx.cell? ⟨x.bV,0,none⟩=some (Value.func (.func 89) #[] #[bB x.bW,bB x.bL,bB x.bF,bB x.bT,bB x.bV])/\wx.cell? ⟨bA,0,none⟩=some (.int .i32 (a.1:Int))/\wx.cell? ⟨bA,1,none⟩=some (.int .i64 a.2.1)/\wx.cell? ⟨bA,2,none⟩=some (.int .i64 (a.2.2:Int))/\wx.cell? ⟨bH,0,none⟩=some (.slice A q c)/\wx.cell? ⟨bS,0,none⟩=some (.int .i64 p.sum)/\wx.cell? ⟨x.bL,0,none⟩=some (bB x.lb)/\wx.rangeAt bR 0 c1/\Kp W wx:=λwx T=>by
  have ha:=hK.ba.kp T (by decide)
  refine⟨(hst.bv.kp T (by decide)).cell0,ha.cell 0,ha.cell 1,ha.cell 2,(hK.bh.kp T (by decide)).cell0,(hK.bs.kp T (by decide)).cell0,(hst.bl.kp T (by decide)).cell0,?_,T⟩
  have:=(hK.br.kp T (by decide)).range
  rw[hc1] at this
  exact this
 obtain⟨iR,hiR,hr0,hr1,hr2⟩:=aQ Ce
 have ht:=hK.t
 subst ht
 have z0:IntKind.i64.wrap (p.sum+a.2.1)=p.sum+a.2.1:=qJb _ (by have:=hB.s0;have:=hB.s1;simp only at *;omega)
 have hro:(bM x.o p.row)=bM x.o p.row:=rfl
 have HSTP:=aB (λwx T=>aEk wx x.lb x.lA x.ln x.lc x.X x.o (hst.fz (W':=wx) (S:=λ_=>False) T (λ_ _ _ _ f=>f)).lev p.row hK.row a.1)
 have HRDH:=aB hK.rd
 have HQB:=aB (And.intro hK.len (And.intro hK.le (And.intro hK.mx hK.few)))
 rw[hc1] at HSTP
 have HKS:=aB hks
 have HK:=aB hK
 have HB:=aB hB
 have HL:=aB hL
 have HD:=aB hD
 have HWK:=aB hW
 have HFL:=aB hFl
 have HIL:=aB hIl
 have HG:=aB hG
 have HST:=aB hst
 have HC1:=aB hc1
 clear hks hK hB hL hD hW hFl hIl hG hst hc1 hrs hro
 go_in
 go_wp2_with fail
 refine wp_region_held_drew (S:=λwx=>wx.cell? ⟨x.bV,0,none⟩=some (Value.func (.func 89) #[] #[bB x.bW,bB x.bL,bB x.bF,bB x.bT,bB x.bV])/\wx.cell? ⟨bA,0,none⟩=some (.int .i32 (a.1:Int))/\wx.cell? ⟨bA,1,none⟩=some (.int .i64 a.2.1)/\wx.cell? ⟨bA,2,none⟩=some (.int .i64 (a.2.2:Int))/\wx.cell? ⟨bH,0,none⟩=some (.slice A q c)/\wx.cell? ⟨bS,0,none⟩=some (.int .i64 p.sum)/\wx.cell? ⟨x.bL,0,none⟩=some (bB x.lb)/\wx.rangeAt bR 0 c1/\Kp W wx) (by kernel_rfl) (HKS _ (Kp.quiet (aC.refl _ _).drew)) (λhHeld=>?_)
 refine dF 0 ?_ rfl (by kernel_rfl) (λ_ _ _ h=>h) ?_ hHeld (dF 1 ?_ rfl (by kernel_rfl) (λ_ _ _ h=>h) ?_ hHeld (dF 2 ?_ rfl (by kernel_rfl) (λ_ _ _ h=>h) ?_ hHeld (dF 3 ?_ rfl (by kernel_rfl) (λ_ _ _ h=>h) ?_ hHeld (dF 5 ?_ rfl (by kernel_rfl) (λ_ _ _ h=>h) ?_ hHeld (dF 6 ?_ rfl (by kernel_rfl) (λ_ _ _ h=>h) ?_ hHeld (dF 9 ?_ rfl (by kernel_rfl) (λ_ _ _ h=>h) ?_ hHeld (dF 10 ?_ rfl (by kernel_rfl) (λ_ _ _ h=>h) ?_ hHeld (dF 11 ?_ rfl (by kernel_rfl) (λ_ _ _ h=>h) ?_ hHeld (dF 12 ?_ rfl (by kernel_rfl) (λ_ _ _ h=>h) ?_ hHeld (dF 13 ?_ rfl (by kernel_rfl) (λ_ _ _ h=>h) ?_ hHeld ?_))))))))))
 iterate 11 (rotate_left;try simp only[qXa,qQa,qZa,Act.put,qJa,qZb,qQb];rintro wq ⟨s0,s1,s2,s3,s4,s5,s6,s7,s8⟩;go_simp;with_reducible rfl)
 simp only[qXa,qQa,qZa,Act.put,qJa,qZb,qQb]
 refine wpAnyH_take (i:=14) (v:=.agg (List.toArray c1)) rfl (by kernel_rfl) (by kernel_rfl) (by kernel_rfl) (λ_ _ _ h=>h) ?y14 hHeld ?_
 case y14=>exact yieldsIf_load_mid (by kernel_rfl) 181 (.tmp 5) rfl bR 0 rfl c1 _ (λw h=>h.2.2.2.2.2.2.2.1) hu rfl hi1
 simp only[qXa,qQa,qZa,Act.put,qJa,qZb,qQb]
 refine dF 15 ?_ rfl (by kernel_rfl) (λ_ _ _ h=>h) ?_ hHeld (dF 16 ?_ rfl (by kernel_rfl) (λ_ _ _ h=>h) ?_ hHeld ?_)
 iterate 2 (rotate_left;try simp only[qXa,qQa,qZa,Act.put,qJa,qZb,qQb];rintro wq ⟨s0,s1,s2,s3,s4,s5,s6,s7,s8⟩;go_simp;with_reducible rfl)
 simp only[qXa,qQa,qZa,Act.put,qJa,qZb,qQb]
 refine wpAnyH_ready (rs:=[4,7]) (by kernel_rfl) (by simp) ?_
 refine AllReadyH.cons rfl (λK hK=>?_) ?_
 ·go_simp
  refine (Lo A q c HQB.2.1 HQB.2.2.1 _).mono ?_
  rintro e w' ⟨rfl,rfl⟩
  go_simp
  refine hK.out _ _ (HKS _ (Kp.quiet ((aC.refl _ _).drew))) (λhHeld=>?_)
  clear hK K
  try simp only[qXa,qQa,qZa,Act.put,qJa,qZb,qQb]
  refine wpAnyH_ready (rs:=[7]) (by kernel_rfl) (by simp) ?_
  refine AllReadyH.cons rfl (λK hK=>?_) AllReadyH.nil
  go_simp
  refine hK.out _ _ (HKS _ (Kp.quiet ((aC.refl _ _).drew.alloc _))) (λhHeld=>?_)
  clear hK K
  try simp only[qXa,qQa,qZa,Act.put,qJa,qZb,qQb]
  refine wpAnyH_ready (rs:=[8]) (by kernel_rfl) (by simp) ?_
  refine AllReadyH.cons rfl (λK hK=>?_) AllReadyH.nil
  obtain⟨W2,hW2⟩:=eX ((W.alloc (.cells #[.int .i32 (a.1:Int)] 21)).drew)
  have hT2:aC (λ_=>False) W W2:=by rw[hW2];exact ((aC.refl _ _).alloc _).drew
  obtain⟨B1,hB1⟩:=eX W.heap.size
  have hcl:W2.cell? ⟨B1,0,none⟩=some (.int .i32 (a.1:Int)):=by rw[hW2,hB1];exact (aL.new W 21 #[.int .i32 (a.1:Int)]).drew.cell0
  obtain⟨v6,W6,hr6,ho6,hT6,hy6⟩:=vJ (P:=Tryz.prog) W2 154 154 21 iR _ 4 Tryz.underlying154 hiR hr0 hr1 hr2 rfl A q _ (HRDH.rd.touch hT2 (λ_ _ f=>f)) ⟨B1,0,none⟩ (.int .i32 (a.1:Int)) rfl hcl rfl (by have:=HQB.2.2.2;unfold maxLen;omega) (by have:=HQB.2.2.2;omega)
  obtain⟨A6,c6,hv6,hl6,hm6⟩:=aS ho6
  subst hv6
  have HW2:=aB hW2
  have HB1:=aB hB1
  have HT6:=aB (hT2.then hT6)
  have HO6:=aB ho6
  have HR6:=aB hr6
  rw[hW2] at HR6
  have HL6:=aB (And.intro hl6 hm6)
  clear hT2 hcl hT6 ho6 hr6 hy6 hl6 hm6 hW2 hB1
  rw[if_pos (by rfl)]
  refine tX (.tmp 10) (.tmp 13) 154 rfl (.slice A q q) (.slice (some ⟨B1,0,none⟩) 1 1) _ W6 rfl (by rw[HB1.out];rfl) HR6 ?_
  refine hK.out _ _ (HKS _ (Kp.quiet (HT6))) (λhHeld=>?_)
  clear hK K
  try simp only[qXa,qQa,qZa,Act.put,qJa,qZb,qQb]
  refine wpAnyH_ready (rs:=[17]) (by kernel_rfl) (by simp) ?_
  refine AllReadyH.cons rfl (λK hK=>?_) AllReadyH.nil
  go_simp
  refine (HSTP _ HT6).mono ?_
  rintro e w7 ⟨rfl,T7⟩
  have HT7:=aB (HT6.then T7)
  have HO7:=aB (aF HO6 T7 (λ_ _ f=>f))
  clear T7
  go_simp
  refine hK.out _ _ (HKS _ (Kp.quiet (HT7))) (λhHeld=>?_)
  clear hK K
  try simp only[qXa,qQa,qZa,Act.put,qJa,qZb,qQb]
  refine wpAnyH_ready (rs:=[18]) (by kernel_rfl) (by simp) ?_
  refine AllReadyH.cons rfl (λK hK=>?_) AllReadyH.nil
  go_simp
  have hlen:(p.head++[a.1]).length=q+1:=by rw[qJc,HQB.1];rfl
  have hrow:gL w7 21 1 A6 (q+1) ((p.head++[a.1]).map fF):=by
   have:=gL.of_own HO7
   rw[qXc]
   exact this
  obtain⟨hg7,hk7⟩:=(HG.quiet HT7).re
  have hv:=Ef { x with wK:=w7 } HL HD HWK w7 F I hg7 HFL HIL ⟨a.2.2,p.head++[a.1],p.sum+a.2.1,dP x.X p.row a.1⟩ A6 c6 ⟨HB.i,HB.row,HB.scal,HB.few,HB.s0,HB.s1,by rw[hlen];exact hrow,by rw[hlen];have:=HL6.out;omega,HL6.2⟩
  simp only at hv
  rw[hlen] at hv
  refine hv.mono ?_
  rintro e w8 ⟨rfl,hG8⟩
  obtain⟨hG8,hk8⟩:=hG8.back hk7
  have HG8:=aB hG8
  have HK8:=aB ((Kp.quiet HT7).trans hk8)
  clear hG8 hv hlen hrow hg7 hk7 hk8
  go_simp
  refine hK.out _ _ (HKS _ HK8) (λhHeld=>?_)
  clear hK K
  refine wpAnyH_done (by kernel_rfl) ?_ _
  go_wp2_with fail
  go_end0
  exact⟨rfl,HG8⟩
 refine AllReadyH.cons rfl (λK hK=>?_) AllReadyH.nil
 go_simp
 refine hK.out _ _ (HKS _ (Kp.quiet ((aC.refl _ _).drew.alloc _))) (λhHeld=>?_)
 clear hK K
 try simp only[qXa,qQa,qZa,Act.put,qJa,qZb,qQb]
 refine wpAnyH_ready (rs:=[4]) (by kernel_rfl) (by simp) ?_
 refine AllReadyH.cons rfl (λK hK=>?_) AllReadyH.nil
 go_simp
 refine (Lo A q c HQB.2.1 HQB.2.2.1 _).mono ?_
 rintro e w' ⟨rfl,rfl⟩
 go_simp
 refine hK.out _ _ (HKS _ (Kp.quiet ((aC.refl _ _).drew.alloc _))) (λhHeld=>?_)
 clear hK K
 try simp only[qXa,qQa,qZa,Act.put,qJa,qZb,qQb]
 refine wpAnyH_ready (rs:=[8]) (by kernel_rfl) (by simp) ?_
 refine AllReadyH.cons rfl (λK hK=>?_) AllReadyH.nil
 obtain⟨W2,hW2⟩:=eX ((W.alloc (.cells #[.int .i32 (a.1:Int)] 21)).drew)
 have hT2:aC (λ_=>False) W W2:=by rw[hW2];exact ((aC.refl _ _).alloc _).drew
 obtain⟨B1,hB1⟩:=eX W.heap.size
 have hcl:W2.cell? ⟨B1,0,none⟩=some (.int .i32 (a.1:Int)):=by rw[hW2,hB1];exact (aL.new W 21 #[.int .i32 (a.1:Int)]).drew.cell0
 obtain⟨v6,W6,hr6,ho6,hT6,hy6⟩:=vJ (P:=Tryz.prog) W2 154 154 21 iR _ 4 Tryz.underlying154 hiR hr0 hr1 hr2 rfl A q _ (HRDH.rd.touch hT2 (λ_ _ f=>f)) ⟨B1,0,none⟩ (.int .i32 (a.1:Int)) rfl hcl rfl (by have:=HQB.2.2.2;unfold maxLen;omega) (by have:=HQB.2.2.2;omega)
 obtain⟨A6,c6,hv6,hl6,hm6⟩:=aS ho6
 subst hv6
 have HW2:=aB hW2
 have HB1:=aB hB1
 have HT6:=aB (hT2.then hT6)
 have HO6:=aB ho6
 have HR6:=aB hr6
 rw[hW2] at HR6
 have HL6:=aB (And.intro hl6 hm6)
 clear hT2 hcl hT6 ho6 hr6 hy6 hl6 hm6 hW2 hB1
 rw[if_pos (by rfl)]
 refine tX (.tmp 10) (.tmp 13) 154 rfl (.slice A q q) (.slice (some ⟨B1,0,none⟩) 1 1) _ W6 rfl (by rw[HB1.out];rfl) HR6 ?_
 refine hK.out _ _ (HKS _ (Kp.quiet (HT6))) (λhHeld=>?_)
 clear hK K
 try simp only[qXa,qQa,qZa,Act.put,qJa,qZb,qQb]
 refine wpAnyH_ready (rs:=[17]) (by kernel_rfl) (by simp) ?_
 refine AllReadyH.cons rfl (λK hK=>?_) AllReadyH.nil
 go_simp
 refine (HSTP _ HT6).mono ?_
 rintro e w7 ⟨rfl,T7⟩
 have HT7:=aB (HT6.then T7)
 have HO7:=aB (aF HO6 T7 (λ_ _ f=>f))
 clear T7
 go_simp
 refine hK.out _ _ (HKS _ (Kp.quiet (HT7))) (λhHeld=>?_)
 clear hK K
 try simp only[qXa,qQa,qZa,Act.put,qJa,qZb,qQb]
 refine wpAnyH_ready (rs:=[18]) (by kernel_rfl) (by simp) ?_
 refine AllReadyH.cons rfl (λK hK=>?_) AllReadyH.nil
 go_simp
 have hlen:(p.head++[a.1]).length=q+1:=by rw[qJc,HQB.1];rfl
 have hrow:gL w7 21 1 A6 (q+1) ((p.head++[a.1]).map fF):=by
  have:=gL.of_own HO7
  rw[qXc]
  exact this
 obtain⟨hg7,hk7⟩:=(HG.quiet HT7).re
 have hv:=Ef { x with wK:=w7 } HL HD HWK w7 F I hg7 HFL HIL ⟨a.2.2,p.head++[a.1],p.sum+a.2.1,dP x.X p.row a.1⟩ A6 c6 ⟨HB.i,HB.row,HB.scal,HB.few,HB.s0,HB.s1,by rw[hlen];exact hrow,by rw[hlen];have:=HL6.out;omega,HL6.2⟩
 simp only at hv
 rw[hlen] at hv
 refine hv.mono ?_
 rintro e w8 ⟨rfl,hG8⟩
 obtain⟨hG8,hk8⟩:=hG8.back hk7
 have HG8:=aB hG8
 have HK8:=aB ((Kp.quiet HT7).trans hk8)
 clear hG8 hv hlen hrow hg7 hk7 hk8
 go_simp
 refine hK.out _ _ (HKS _ HK8) (λhHeld=>?_)
 clear hK K
 refine wpAnyH_done (by kernel_rfl) ?_ _
 go_wp2_with fail
 go_end0
 exact⟨rfl,HG8⟩
end
instance zeroBase:Inhabited jP:=⟨⟨0⟩⟩
theorem aBk{k:List UInt8}{n:Int}(h:bC k L=(n,true)):∃ p∈L,p.word.toList=k/\p.weight=n:=by
 unfold bC at h
 cases hl:(key k L).getLast? with
 | none=>rw[hl] at h;simp at h
 | some p =>
  rw[hl] at h
  simp only[Prod.mk.injEq,and_true] at h
  have hm:=List.mem_of_getLast? hl
  simp only[key,List.mem_filter,decide_eq_true_eq] at hm
  exact⟨p,hm.1,hm.2,h⟩
theorem Mu{M:List aD}(hL:aZ L)(hM:aZ M)(h:aR L=aR M):∀ p∈L,p∈M:=by
 intro p hp
 have hne:L≠[]:=λe=>by rw[e] at hp;cases hp
 have hlen:0<(aR L).states.length:=(mI hL hne).pos
 have hne2:M≠[]:=λe=>by
  rw[h,e] at hlen
  simp[aR] at hlen
 have h1:=xD hL hne _ _ (hL.word p hp).1
 have h2:=xD hM hne2 _ _ (hL.word p hp).1
 rw[h,h2,Gy hL hp] at h1
 obtain⟨q,hq,e1,e2⟩:=aBk h1
 have e:q=p:=by
  obtain⟨qw,qn⟩:=q
  obtain⟨pw,pn⟩:=p
  simp only at e1 e2
  rw[e2,pN e1]
 rw[<-e]
 exact hq
theorem aCn{M:List aD}(hL:aZ L)(hM:aZ M)(h:aR L=aR M):L=M:=by
 have sL:=hL.sort
 have sM:=hM.sort
 unfold bU aV at sL sM
 rw[List.pairwise_map] at sL sM
 exact mN (lt:=λa b:aD=>Zo (cZ a,a.weight) (cZ b,b.weight)) (λa e=>by simp[Zo,uS] at e) (λa b e f=>by
  simp only[Zo] at e f
  rw[wT _ _ e] at f
  cases f) sL sM (λp=>⟨Mu hL hM h p,Mu hM hL h.symm p⟩)
def tJ(X text:List Nat):Nat:=(oO X text).getD X.length 0
theorem Qu(X text:List Nat):(text.foldl (dP X) (qXb (X.length+1))).getLastD 0=tJ X text:=by
 have h:=oP X text
 unfold tJ
 unfold oO at h ⊢
 rw[List.getLastD_eq_getLast?,List.getLast?_eq_getElem?,h]
 rfl
section
variable{L:List aD}
theorem lJ(hD:aZ L):∀ i,i<(aR L).states.length->gB i ((aR L).states.getD i aY):=by
 rcases eP hD with⟨h,_⟩ | h
 ·intro i hi
  rw[h] at hi
  simp at hi
 ·exact h.form
theorem Cq(hD:aZ L)(hne:L≠[]):aV L=(jB (aR L).states ((aR L).states.length-1)).map λr=>(r.1,r.2+(aR L).base):=by
 have hf:=lJ hD
 obtain⟨h1,h2⟩:=Yr (eP hD)
 have h3:L=yC (aR L).states (aR L).base:=aCn hD h1 (by rw[h2])
 have hs:(aR L).states≠[]:=λe=>by
  rw[e] at h3
  exact hne h3
 have hpos:0<(aR L).states.length:=List.length_pos_iff.2 hs
 have h4:yC (aR L).states (aR L).base=iJ (aR L).states (aR L).base:=by
  unfold yC
  rw[if_neg hs]
 have h5:=Ju hf (aR L).states.length ((aR L).states.length-1) (by omega) (by omega)
 obtain⟨sts,hsts⟩:=eX ((aR L).states)
 obtain⟨base,hb⟩:=eX ((aR L).base)
 rw[<-hsts,<-hb] at h3 h4
 rw[<-hsts] at h5 ⊢
 rw[<-hb,h3,h4]
 unfold aV iJ
 rw[List.map_map]
 apply List.map_congr_left
 intro r hr
 simp only[Function.comp,cZ]
 rw[show (⟨(r.1.flatMap aN).toArray⟩:ByteArray).toList=r.1.flatMap aN by rw[Go.ByteArray.toList_eq],pJ r.1 (λc hc=>(h5 r hr c hc).1)]
 rfl
structure En(L:List aD)(m:Nat)(t:eU):Prop where
 i:t.i<(aR L).states.length
 row:t.row.length=m+1
 s0:0<=t.sum
 mem:∀ r∈jB (aR L).states t.i,(t.head++r.1,t.sum+r.2)∈aV L
theorem En.bnd(hD:aZ L){t:eU}(h:En L m t):t.Bnd (aR L).states.length m:=by
 have hf:=lJ hD
 have hr:=yX hf (t.i+1) t.i (qXh _) h.i
 obtain⟨r,hrm⟩:∃ r,r∈jB (aR L).states t.i:=List.exists_mem_of_ne_nil _ hr.ne
 have h1:=h.mem r hrm
 have h2:=dX hrm
 rw[hr.least] at h2
 obtain⟨p,hp,he⟩:=List.mem_map.1 h1
 simp only[Prod.mk.injEq] at he
 obtain⟨w1,w2,w3,w4⟩:=hD.word p hp
 have hw:=hD.weight p hp
 have hsc:=(cL _ _ _ (qQc _) w1).2
 rw[he.1] at w4 hsc
 rw[qJc] at w4
 have h0:=h.s0
 exact⟨h.i,h.row,λc hc=>hsc c (qXg _ hc),by omega,h0,by omega⟩
theorem En.ok(hX:X.length=m){t:eU}(h:En L m t):t.Ok (aR L).states X:=⟨h.i,by rw[hX];exact h.row⟩
theorem En.kids(hD:aZ L)(hX:X.length=m){o:Nat}{t:eU}(h:En L m t):∀ k∈jI (aR L).states X o t,En L m k:=by
 have hf:=lJ hD
 have hd:=fG hf
 intro k hk
 unfold jI at hk
 split at hk
 ·cases hk
 ·obtain⟨a,ha,rfl⟩:=List.mem_map.1 hk
  have hi:=hd t.i h.i a ha
  have h0:=((hf t.i h.i).arc a ha).1
  refine⟨Nat.lt_trans hi h.i,by rw[jV _ (by rw[hX];exact h.row),hX],by have:=h.s0;simp only;omega,λr hr=>?_⟩
  have h1:=h.mem (a.1 :: r.1,r.2+a.2.1) ((iS hd h.i).2 ⟨a,ha,rfl,by simpa using hr⟩)
  simp only at h1 ⊢
  rw[List.append_assoc,List.singleton_append]
  have e:t.sum+a.2.1+r.2=t.sum+(r.2+a.2.1):=by omega
  rw[e]
  exact h1
theorem aHl(hD:aZ L)(hne:L≠[])(m:Nat):En L m ⟨(aR L).states.length-1,[],(aR L).base,qXb (m+1)⟩:=by
 have hpos:0<(aR L).states.length:=(mI hD hne).pos
 refine⟨by simp only;omega,by simp,(lG hD).1,λr hr=>?_⟩
 rw[Cq hD hne]
 simp only[qJd]
 exact List.mem_map.2 ⟨r,hr,by rw[Int.add_comm]⟩
def cM(L:List aD)(X:List Nat)(o:Nat):List aE:=L.filterMap λp=>if tJ X (cZ p)<o then some ⟨p.word,p.weight,(tJ X (cZ p):Int)⟩ else none
theorem aBq(hD:aZ L)(hne:L≠[])(X:List Nat)(o:Nat):(fzI (aR L).states X o ⟨(aR L).states.length-1,[],(aR L).base,qXb (X.length+1)⟩).map Cc=cM L X o:=by
 unfold fzI cM
 have h1:=Cq hD hne
 have h2:(jB (aR L).states ((aR L).states.length-1)).filterMap (Ra X o (qXb (X.length+1)) [] (aR L).base)=(aV L).filterMap λr=>if tJ X r.1<o then some (r.1,r.2,tJ X r.1) else none:=by
  rw[h1,List.filterMap_map]
  apply iO
  intro r _
  unfold Ra
  simp only[Function.comp,Qu,qJd]
  rw[Int.add_comm]
 rw[h2]
 unfold aV
 rw[List.filterMap_map,List.map_filterMap]
 apply iO
 intro p hp
 simp only[Function.comp]
 split
 ·simp only[Option.map_some,Cc]
  obtain⟨w1,_⟩:=hD.word p hp
  have hw:=(cL _ _ _ (qQc _) w1).1
  rw[<-hw]
  have:(⟨p.word.toList.toArray⟩:ByteArray)=p.word:=by rw[Go.ByteArray.toList_eq]
  rw[this]
 ·rfl
theorem aIm(hD:aZ L):∀ (k i:Nat),i<k->i<(aR L).states.length->nz (aR L).states i<=((jB (aR L).states i).map λr=>r.1.length+1).sum
 | 0,_,h,_=>absurd h (Nat.not_lt_zero _)
 | k+1,i,hk,hi=>by
  have hf:=lJ hD
  have hd:=fG hf
  have hr:=yX hf (i+1) i (qXh _) hi
  rw[aCy hd hi]
  have hne:=hr.ne
  rw[xN hd hi] at hne ⊢
  rw[qXc,List.sum_append]
  have key:∀ ys:List (Nat × Int × Nat),(∀ a∈ys,a∈((aR L).states.getD i aY).arcs) ->
    (ys.map λa=>nz (aR L).states a.2.2).sum+ys.length<=((ys.flatMap λa=>(jB (aR L).states a.2.2).map λr=>(a.1 :: r.1,r.2+a.2.1)).map λr=>r.1.length+1).sum:=by
   intro ys
   induction ys with
   | nil=>intro _;simp
   | cons a ys ih =>
    intro has
    have h1:=ih (λb hb=>has b (qJg _ hb))
    have hai:=hd i hi a (has a qQh)
    have h2:=aIm hD k a.2.2 (by omega) (by omega)
    have h3:=(yX hf (a.2.2+1) a.2.2 (qXh _) (by omega)).ne
    rw[qZd,qQe,List.flatMap_cons,qXc,List.sum_append,qQd,List.map_map]
    have h4:((jB (aR L).states a.2.2).map ((λr:List Nat × Int=>r.1.length+1) ∘ λr=>(a.1 :: r.1,r.2+a.2.1))).sum=((jB (aR L).states a.2.2).map λr=>r.1.length+1).sum+(jB (aR L).states a.2.2).length:=by
     generalize jB (aR L).states a.2.2=R
     induction R with
     | nil=>rfl
     | cons r R ih2=>simp only[qZd,qQe,Function.comp,qQd] at ih2 ⊢;omega
    have h5:0<(jB (aR L).states a.2.2).length:=List.length_pos_iff.2 h3
    omega
  have h6:=key _ (λa h=>h)
  by_cases hfin:((aR L).states.getD i aY).fin=true
  ·rw[if_pos hfin]
   simp only[qZd,List.map_nil,qQe,List.sum_nil,qXe]
   omega
  ·rw[if_neg hfin] at hne ⊢
   have h7:0<((aR L).states.getD i aY).arcs.length:=by
    apply List.length_pos_iff.2
    rintro h
    rw[h] at hne
    exact hne rfl
   simp only[List.map_nil,List.sum_nil]
   omega
theorem Du{α:Type}(f:α->Nat)(B:Nat):∀ l:List α,(∀ a∈l,f a<=B)->(l.map f).sum<=B*l.length
 | [],_=>by simp
 | a :: l,h=>by
  have h1:=Du f B l (λb hb=>h b (qJg _ hb))
  have h2:=h a qQh
  rw[qZd,qQe,qQd,Nat.mul_add]
  omega
theorem aHa(hD:aZ L)(hne:L≠[]):nz (aR L).states ((aR L).states.length-1)<=102400:=by
 have hpos:0<(aR L).states.length:=(mI hD hne).pos
 have h1:=aIm hD (aR L).states.length ((aR L).states.length-1) (by omega) (by omega)
 have h2:=Cq hD hne
 have h3:((jB (aR L).states ((aR L).states.length-1)).map λr=>r.1.length+1).sum<=25*(jB (aR L).states ((aR L).states.length-1)).length:=by
  refine Du _ _ _ λr hr=>?_
  have h4:(r.1,r.2+(aR L).base)∈aV L:=by
   rw[h2]
   exact List.mem_map.2 ⟨r,hr,rfl⟩
  obtain⟨p,hp,he⟩:=List.mem_map.1 h4
  simp only[Prod.mk.injEq] at he
  have:=(hD.word p hp).2.2.2
  rw[he.1] at this
  omega
 have h5:(jB (aR L).states ((aR L).states.length-1)).length=L.length:=by
  have:=congrArg List.length h2
  simp only[aV,List.length_map] at this
  exact this.symm
 have:=hD.len
 omega
theorem aGy(hD:aZ L){I:List eU}:(∀ t∈I,t.i<(aR L).states.length)->I.length<=Fc (aR L).states I:=by
 induction I with
 | nil=>intro _;simp[Fc]
 | cons t I ih =>
  intro h
  have h1:=ih (λu hu=>h u (qJg _ hu))
  have h2:0<nz (aR L).states t.i:=by
   rw[aCy (fG (lJ hD)) (h t qQh)]
   omega
  simp only[Fc,qZd,qQe,qQd] at h1 ⊢
  omega
structure FzJ(L:List aD)(X:List Nat)(m o:Nat)(tot hs:List yE)(I:List eU):Prop where
 all:hs++I.reverse.flatMap (fzI (aR L).states X o)=tot
 gd:∀ t∈I,En L m t
theorem FzJ.step(hD:aZ L){o:Nat}(hX:X.length=m){tot hs:List yE}{I:List eU}{t:eU}(h:FzJ L X m o tot hs (I++[t])) :
  FzJ L X m o tot (hs++pR (aR L).states o t) (I++(jI (aR L).states X o t).reverse)/\En L m t/\Fc (aR L).states (I++(jI (aR L).states X o t).reverse)<Fc (aR L).states (I++[t]):=by
 have hd:=fG (lJ hD)
 have ht:=h.gd t (by simp)
 have hok:=ht.ok hX
 refine⟨⟨?_,?_⟩,ht,?_⟩
 ·rw[<-h.all]
  simp only[List.reverse_append,List.reverse_reverse,List.flatMap_append,List.reverse_cons,List.reverse_nil,qJd,List.flatMap_cons,List.flatMap_nil,List.append_nil]
  rw[aIz hd hok]
  simp only[List.append_assoc]
 ·intro k hk
  rcases List.mem_append.1 hk with hk | hk
  ·exact h.gd k (qXg _ hk)
  ·exact ht.kids hD hX k (List.mem_reverse.1 hk)
 ·rw[Jo,Jo,Nc]
  have:=aGz hd (o:=o) hok
  have e:Fc (aR L).states [t]=nz (aR L).states t.i:=by simp[Fc]
  rw[e]
  omega
end
section
open Go.RowKit Go.Shelf
def aId(w:World)(F:List aE)(e:Ending)(w':World):Prop:=∃ A c,e=.returned (.tuple #[.slice A F.length c,.int .i64 0])/\fS 43 3 w w' (.slice A F.length c) F.length (aW F)
theorem aBr(w:World)(hL:cV w)(pw:Option Addr)(a:ByteArray)(k:Int)(ha:a.size<=9223372036854775807)(hr:nP a.toList k=false) :
  Calls Tryz.prog 41 #[.pointer pw,.string a,.int .i64 k] w λe w'=>e=.returned (.tuple #[.slice none 0 0,.int .i64 110])/\aC (λ_=>False) w w':=by
 have HN:=aB (λwx (T:aC (λ_=>False) w wx)=>aGn wx (cV.touch hL T) a k ha hr)
 clear hL hr
 go_in
 go_wp2_with fail
 refine (HN _ ((aC.refl _ _).alloc _)).mono ?_
 rintro e w1 ⟨rfl,T1⟩
 have HT1:=aB (((aC.refl (λ_=>False) w).alloc _).then T1)
 clear T1
 go_wp2_with fail
 go_ret2
 exact⟨rfl,HT1.alloc _⟩
theorem Tl(x:zS)(base:Int){Wd:List Int}{wbase:Int}(hW:Vo x.w0 x.wb wbase wA n wc Z dA dc Wd)(W:World)(F:List aE)(I:List eU)(hG:zG x W F I)(i:Int)(hi:i<0)(row:List Nat) :
  Calls Tryz.prog 89 #[.int .i64 i,.slice none 0 0,.int .i64 base,.agg (cB row),bB x.bW,bB x.bL,bB x.bF,bB x.bT,bB x.bV] W
   λe W'=>e=.returned (.tuple #[])/\zG x W' F I:=by
 obtain⟨FA,fc,TA,tc,vs,hR0⟩:=hG
 obtain⟨wb,hwb⟩:=eX (((W.alloc (.cells #[.slice none 0 0] 154)).alloc (.cells #[.int .i64 base] 3)).alloc (.cells (cB row) 181))
 have hTb:aC (λ_=>False) W wb:=by rw[hwb];exact (((aC.refl _ _).alloc _).alloc _).alloc _
 have hRb:=hR0.quiet hTb
 obtain⟨p0,p1,p2⟩:=hRb.st.bw.facts
 have HWB:=aB hwb
 have HRB:=aB hRb
 have HST:=aB (Pm wb x.wb wbase wA n wc Z dA dc Wd (hW.quiet hRb.old) i (.inl hi))
 clear hwb hTb hRb hR0 hW
 refine (callsIn_wide (n:=3)).1 (callsIn_of_wp_marks Tryz.func89 rfl trivial ?_ rfl)
 simp only[Tryz.ntmps89,List.size_toArray,qQd,qXe,Nat.reduceAdd,Nat.reduceSub,Array.replicate_succ,Array.replicate_zero,List.push_toArray,List.append_toArray,qJd,List.cons_append]
 refine wpIn_wide.2 ?_
 go_upto_region 1 with fail
 rw[<-HWB.out]
 go_wp2_with fail
 refine HST.mono ?_
 rintro e w1 ⟨rfl,T1⟩
 have HT1:=aB T1
 clear T1
 go_wp2_with fail
 exact⟨.tuple #[],results_none rfl _ _ _,rfl,⟨_,_,_,_,_,HRB.quiet (HT1.alloc _)⟩⟩
theorem gL.kp{W':World}{t:TypeId}{size:Nat}{xs:List Value}(h:gL W t size A n xs)(k:Kp W W')(ht:aEq t=false):gL W' t size A n xs:=by
 obtain⟨S,T,hS⟩:=k
 exact h.fz T hS ht
theorem Zu.kp{x:zS}{W':World}{v:Value}{t p:eU}{a:Nat × Int × Nat}{bA bH bS bR:Nat}{q c:Nat}(h:Zu x W v t p a bA bH bS bR A q c)(k:Kp W W'):Zu x W' v t p a bA bH bS bR A q c :=
 ⟨h.v,h.ba.kp k (by decide),h.bh.kp k (by decide),h.rd.kp k (by decide),h.len,h.le,h.mx,h.few,h.bs.kp k (by decide),h.br.kp k (by decide),h.row,h.t⟩
theorem aGh{x:zS}{cs:Array Value}(h:aL W x.bT 178 cs)(v:Value):Kp W (W.setCell ⟨x.bT,0,none⟩ v) :=
 ⟨λg=>g=x.bT,aC.setCell (aC.refl (λg=>g=x.bT) W) (p:=⟨x.bT,0,none⟩) (λ_=>rfl) _,λg t hg ht e=>hg.ne (aG h) (by rintro rfl;cases ht) e⟩
theorem Dm{α:Type}(l:List α):l=[]\/∃ r b,l=r++[b]:=by
 rcases List.eq_nil_or_concat l with h | ⟨r,b,h⟩
 ·exact .inl h
 ·exact .inr ⟨r,b,by rw[h,List.concat_eq_append]⟩
def FzW(x:zS)(L:List aD)(tot:List yE)(g:Nat)(W:World):Prop:=∃ hs I,zG x W (hs.map Cc) I/\FzJ L x.X x.ln x.o tot hs I/\Fc (aR L).states I<=g
theorem Wv(w:World)(hL:cV w)(hD:aZ L){wb:Nat}(hW:It w wb L n wA wc Z dA dc)(a:ByteArray)(k:Nat)(ha:a.size<=1099511627776)(X:List Nat)(hX:bZ a.toList=some X)(hr:nP a.toList k=true) :
  Calls Tryz.prog 41 #[bB wb,.string a,.int .i64 (k:Int)] w (aId w (cM L X (k+1))):=by
 obtain⟨wa,hwa⟩:=eX (w.alloc (.cells #[bB wb] 92))
 have hTa:aC (λ_=>False) w wa:=by rw[hwa];exact (aC.refl _ _).alloc _
 have hba:aL wa w.heap.size 92 #[bB wb]:=by rw[hwa];exact aL.new _ _ _
 obtain⟨bW,hbW⟩:=eX w.heap.size
 rw[<-hbW] at hba
 have HN:=aB (Mk wa (cV.touch hL hTa) a k ha X hX hr)
 have HWA:=aB hwa
 have HTA:=aB hTa
 have HBA:=aB hba
 have HBW:=aB hbW
 have HL:=aB hL
 have HD:=aB hD
 have HW:=aB hW
 have hn:=hW.n_len
 have HNN:=aB hn
 have hfew:(n:Int)<=1000000:=by have:=hW.few;omega
 clear hwa hTa hba hbW hL hD hW hr hX ha hn
 go_in
 go_upto_region 1 with fail
 rw[<-HWA.out,<-HBW.out]
 go_wp2_with fail
 refine HN.mono ?_
 rintro e w1 ⟨lb,lA,ln,lc,rfl,hlev,T1,hlb⟩
 have HLV:=aB hlev
 have HT1:=aB T1
 clear hlev T1 hlb
 go_upto_region 8 with fail
 obtain⟨w8,hw8⟩:=eX ((((w1.alloc (.cells #[bB lb] 175)).alloc (.cells #[.slice none 0 0] 39)).alloc (.cells #[.slice none 0 0] 178)).alloc (.cells #[.func (.func 89) #[] #[bB bW,bB w1.heap.size,bB (w1.heap.size+1),bB (w1.heap.size+1+1),bB (w1.heap.size+1+1+1)]] 179))
 rw[<-hw8]
 have hT8:aC (λ_=>False) w1 w8:=by rw[hw8];exact ((((aC.refl _ _).alloc _).alloc _).alloc _).alloc _
 have hbL:aL w8 w1.heap.size 175 #[bB lb]:=by rw[hw8];exact (((aL.new _ _ _).alloc _).alloc _).alloc _
 have hbF:aL w8 (w1.heap.size+1) 39 #[.slice none 0 0]:=by rw[hw8];exact ((iA _ _ _ _).alloc _).alloc _
 have hbT:aL w8 (w1.heap.size+1+1) 178 #[.slice none 0 0]:=by rw[hw8];exact (Ba _ _ _ _ _).alloc _
 have hbV:aL w8 (w1.heap.size+1+1+1) 179 #[.func (.func 89) #[] #[bB bW,bB w1.heap.size,bB (w1.heap.size+1),bB (w1.heap.size+1+1),bB (w1.heap.size+1+1+1)]]:=by rw[hw8];exact aAl _ _ _ _ _ _
 obtain⟨bL,eL⟩:=eX w1.heap.size
 obtain⟨bF,eF⟩:=eX (w1.heap.size+1)
 obtain⟨bT,eT⟩:=eX (w1.heap.size+1+1)
 obtain⟨bV,eV⟩:=eX (w1.heap.size+1+1+1)
 rw[<-eV,<-eT,<-eF,<-eL]
 rw[<-eV,<-eT,<-eF,<-eL] at hbV
 rw[<-eL] at hbL
 rw[<-eF] at hbF
 rw[<-eT] at hbT
 have hold:aC (λ_=>False) w w8:=(HTA.then HT1).then hT8
 have hw1s:w.heap.size<=w1.heap.size:=(HTA.then HT1).size
 obtain⟨x,hx⟩:∃ x:zS,x=⟨w,bW,bL,bF,bT,bV,wb,lb,lA,ln,lc,X,k+1,w8⟩:=⟨_,rfl⟩
 have hG0:zG x w8 [] []:=by
  subst hx
  exact⟨none,0,none,0,[],⟨⟨HBA.touch (HT1.then hT8) (λf=>f),hbL,hbV,HLV.quiet hT8⟩,hold,by simp only;omega,by simp only;omega,hbF,World.ownsRow_nil _ _ _ _,λg h=>by simp[Value.ownBlock] at h,hbT,World.ownsRow_nil _ _ _ _,λg h=>by simp[Value.ownBlock] at h,λi v t h=>by simp at h,Kp.refl _⟩⟩
 have hks:∀ wx,Kp w8 wx->wx.cell? ⟨bV,0,none⟩=some (Value.func (.func 89) #[] #[bB bW,bB bL,bB bF,bB bT,bB bV])/\wx.cell? ⟨bW,0,none⟩=some (bB wb)/\wx.cell? ⟨bL,0,none⟩=some (bB lb)/\Kp w8 wx:=λwx T =>
  ⟨(hbV.kp T (by decide)).cell0,((HBA.touch (HT1.then hT8) (λf=>f)).kp T (by decide)).cell0,(hbL.kp T (by decide)).cell0,T⟩
 have hwk8:=HW.quiet hold
 have hlv8:=HLV.quiet hT8
 have hfirst:∃ tot,tot.map Cc=cM L X (k+1)/\∀ wx,zG x wx [] []->Calls Tryz.prog 89 #[.int .i64 ((n:Int)-1),.slice none 0 0,.int .i64 (aR L).base,.agg (cB (bM (k+1) (qXb (ln+1)))),bB bW,bB bL,bB bF,bB bT,bB bV] wx λe W'=>e=.returned (.tuple #[])/\FzW x L tot 102400 W':=by
  have hXl:X.length=ln:=HLV.len
  by_cases hne:L=[]
  ·have hn0:n=0:=by
    rw[<-HNN.out,hne]
    rfl
   refine⟨[],by rw[hne];rfl,λwx hg=>?_⟩
   subst hx
   have h:=Tl _ (aR L).base HW.wk wx [] [] hg ((n:Int)-1) (by omega) (bM (k+1) (qXb (ln+1)))
   refine h.mono ?_
   rintro e w' ⟨rfl,hg'⟩
   exact⟨rfl,[],[],hg',⟨rfl,λt ht=>by cases ht⟩,by simp[Fc]⟩
  ·have hpos:0<n:=by rw[<-HNN.out];exact (mI HD hne).pos
   have hgd:=aHl HD hne ln
   have hb:=hgd.bnd HD
   rw[HNN.out] at hb
   have ft:=aBq HD hne X (k+1)
   rw[hXl] at ft
   refine⟨_,ft,λwx hg=>?_⟩
   have hj0:FzJ L X ln (k+1) (fzI (aR L).states X (k+1) ⟨(aR L).states.length-1,[],(aR L).base,qXb (ln+1)⟩) [] ([]++[⟨(aR L).states.length-1,[],(aR L).base,qXb (ln+1)⟩]):=by
    refine⟨by simp,λt ht=>?_⟩
    simp only[qJd,List.mem_singleton] at ht
    subst ht
    exact hgd
   obtain⟨s1,s2,s3⟩:=hj0.step HD hXl
   subst hx
   have h:=Ef _ (Hid.out HL) (Hid.out HD) (Hid.out HW) wx [] [] hg (by simp) (by simp) ⟨(aR L).states.length-1,[],(aR L).base,qXb (ln+1)⟩ none 0 ⟨by rw[<-HNN.out];exact hgd.i,by simp,by simp,by simp,hgd.s0,hb.s1,⟨aH.nil _ _ _,λh=>absurd h (by simp)⟩,by simp,by unfold maxLen;omega⟩
   have e1:(((aR L).states.length-1:Nat):Int)=(n:Int)-1:=by rw[HNN.out];omega
   simp only[e1,qXe] at h
   refine h.mono ?_
   rintro e w' ⟨rfl,hg'⟩
   refine⟨rfl,_,_,?_,s1,?_⟩
   ·simpa [qXc] using hg'
   ·have h1:=aHa HD hne
    have h2:Fc (aR L).states ([]++[⟨(aR L).states.length-1,[],(aR L).base,qXb (ln+1)⟩])=nz (aR L).states ((aR L).states.length-1):=by simp[Fc]
    rw[h2] at s3
    omega
 obtain⟨tot,htot,hfirst⟩:=hfirst
 have hsta2:=λwx h=>Za wx lb lA ln lc X (k+1) h
 obtain⟨R0,hR0⟩:=eX (bM (k+1) (qXb (ln+1)))
 rw[<-hR0] at hfirst
 simp only[<-hR0] at hsta2
 have HSTA:=aB hsta2
 have HG0:=aB hG0
 have HKS:=aB hks
 have HWK8:=aB hwk8
 have HLV8:=aB hlv8
 have HTOT:=aB htot
 have HFST:=aB hfirst
 have HX:=aB hx
 clear hw8 hT8 hbL hbF hbT hbV eL eF eT eV hold hw1s hx hG0 hks hwk8 hlv8 htot hfirst hsta2 hR0
 refine wp_region_held_drew (S:=λwx=>wx.cell? ⟨bV,0,none⟩=some (Value.func (.func 89) #[] #[bB bW,bB bL,bB bF,bB bT,bB bV])/\wx.cell? ⟨bW,0,none⟩=some (bB wb)/\wx.cell? ⟨bL,0,none⟩=some (bB lb)/\Kp w8 wx) (by kernel_rfl) (HKS _ (Kp.quiet (aC.refl _ _).drew)) (λhHeld=>?_)
 refine dF 0 ?_ rfl (by kernel_rfl) (λ_ _ _ h=>h) ?_ hHeld (dF 1 ?_ rfl (by kernel_rfl) (λ_ _ _ h=>h) ?_ hHeld (dF 3 ?_ rfl (by kernel_rfl) (λ_ _ _ h=>h) ?_ hHeld (dF 5 ?_ rfl (by kernel_rfl) (λ_ _ _ h=>h) ?_ hHeld ?_)))
 iterate 4 (rotate_left;try simp only[qXa,qQa,qZa,Act.put,qJa,qZb,qQb];rintro wq ⟨s0,s1,s2,s3⟩;go_simp;with_reducible rfl)
 simp only[qXa,qQa,qZa,Act.put,qJa,qZb,qQb]
 refine wpAnyH_ready (rs:=[2]) (by kernel_rfl) (by simp) ?_
 refine AllReadyH.cons rfl (λK hK=>?_) AllReadyH.nil
 go_simp
 refine (De _ wb (aR L).base wA n wc _ (HWK8.quiet (aC.refl _ _).drew).wk.blk (by omega)).mono ?_
 rintro e w' ⟨rfl,rfl⟩
 go_simp
 refine hK.out _ _ (HKS _ (Kp.quiet (aC.refl _ _).drew)) (λhHeld=>?_)
 clear hK K
 try simp only[qXa,qQa,qZa,Act.put,qJa,qZb,qQb]
 refine wpAnyH_ready (rs:=[4]) (by kernel_rfl) (by simp) ?_
 refine AllReadyH.cons rfl (λK hK=>?_) AllReadyH.nil
 go_simp
 refine (aAj _ wb (aR L).base _ _ (HWK8.quiet (aC.refl _ _).drew).wk.blk).mono ?_
 rintro e w' ⟨rfl,rfl⟩
 go_simp
 refine hK.out _ _ (HKS _ (Kp.quiet (aC.refl _ _).drew)) (λhHeld=>?_)
 clear hK K
 try simp only[qXa,qQa,qZa,Act.put,qJa,qZb,qQb]
 refine wpAnyH_ready (rs:=[6]) (by kernel_rfl) (by simp) ?_
 refine AllReadyH.cons rfl (λK hK=>?_) AllReadyH.nil
 go_simp
 refine (HSTA _ (HLV8.quiet (aC.refl _ _).drew)).mono ?_
 rintro e w9 ⟨rfl,T9⟩
 have HT9:=aB ((aC.refl (λ_=>False) w8).drew.then T9)
 clear T9
 go_simp
 refine hK.out _ _ (HKS _ (Kp.quiet HT9)) (λhHeld=>?_)
 clear hK K
 try simp only[qXa,qQa,qZa,Act.put,qJa,qZb,qQb]
 refine wpAnyH_ready (rs:=[7]) (by kernel_rfl) (by simp) ?_
 refine AllReadyH.cons rfl (λK hK=>?_) AllReadyH.nil
 go_simp
 refine (HFST w9 (HG0.quiet HT9)).mono ?_
 rintro e w10 ⟨rfl,hj⟩
 have HJ:=aB hj
 have HK10:Hid (Kp w8 w10):=aB (by
  obtain⟨hs,I,hg,_⟩:=hj
  have h:=hg.re.2
  rw[HX.out] at h
  exact h)
 clear hj
 go_simp
 refine hK.out _ _ (HKS _ HK10) (λhHeld=>?_)
 clear hK K
 try simp only[qXa,qQa,qZa,Act.put,qJa,qZb,qQb]
 refine wpAnyH_done (by kernel_rfl) ?_ _
 go_wp2_with fail
 go_loopg [13] 102400 (λg _ wr=>Hid (FzW x L tot g wr)/\g<=102400)
 case atStart=>exact⟨HJ,qQc _⟩
 case round =>
  obtain⟨HJr,hgk⟩:=hrel
  obtain⟨hs,I,hg,hfj,hnz⟩:=HJr.out
  obtain⟨FA,fc,TA,tc,vs,hR⟩:=hg
  have hbFx:x.bF=bF:=by rw[HX.out]
  have hbTx:x.bT=bT:=by rw[HX.out]
  have hfb:=hR.fb
  have htb:=hR.tb
  rw[hbFx] at hfb
  rw[hbTx] at htb
  obtain⟨t0,t1,t2⟩:=htb.facts
  rcases Dm I with hI | ⟨I',t,hI⟩
  ·subst hI
   have hht:hs=tot:=by have:=hfj.all;simpa using this
   have hF:hs.map Cc=cM L X (k+1):=by rw[hht];exact HTOT
   obtain⟨f0,f1,f2⟩:=hfb.facts
   have hres:fS 43 3 w wr (.slice FA (cM L X (k+1)).length fc) (cM L X (k+1)).length (aW (cM L X (k+1))):=by
    rw[<-hF]
    have ho:=hR.old
    have hy:=hR.fy
    rw[HX.out] at ho hy
    exact⟨hR.fo,ho,hy⟩
   rw[hF] at f0
   have HRES:=aB hres
   simp only[qXe] at t0
   clear hht hF hres hfj hnz hR hfb htb hbFx hbTx hgk
   go_wp2_with fail
   go_ret2
   exact⟨FA,fc,rfl,HRES⟩
  ·subst hI
   obtain⟨m,hm⟩:=eX I'.length
   have hlen:(I'++[t]).length=m+1:=by simp[hm]
   have hvl:vs.length=m+1:=by have:=hR.tw.1;rw[hlen] at this;simpa using this
   rcases Dm vs with hv | ⟨vs',v,hv⟩
   ·rw[hv] at hvl
    simp at hvl
   ·subst hv
    have hvm:vs'.length=m:=by simpa using hvl
    obtain⟨p,a,bA,bH,bS,bR,A,q,c,hK⟩:=hR.kids m v t (by rw[<-hvm];exact qZf) (by rw[hm];exact qZf)
    have hXl:x.X.length=x.ln:=by rw[HX.out];exact HLV8.len
    obtain⟨s1,s2,s3⟩:=hfj.step HD hXl
    have hbn:=s2.bnd HD
    rw[HNN.out] at hbn
    obtain⟨gr,cap,hA,hle,hcm,hgl,hcell,_⟩:=eZ hR.tw (by rw[hlen];omega)
    injection hA with hA1 hA2 hA3
    subst hA1
    subst hA3
    rw[hlen] at hle
    have hcv:=hcell m v (by rw[<-hvm];exact qZf)
    have hpop:=hR.pop (by rw[hvm,hm])
    have hkp:=aGh hR.tb (.slice (some ⟨gr,0,none⟩) I'.length tc)
    have hK2:=hK.kp hkp
    have hFl:(hs.map Cc).length<=1048576:=by
     have h1:=congrArg List.length hfj.all
     have h2:=congrArg List.length HTOT
     have h3:(cM L X (k+1)).length<=L.length:=qJf _ _
     have h4:=HD.len
     rw[qJc] at h1
     rw[List.length_map] at h2 ⊢
     omega
    have hIl:I'.length<=1048576:=by
     have h1:=aGy HD (I:=I') (λu hu=>(hfj.gd u (qXg _ hu)).i)
     have h2:=Jo (aR L).states I' [t]
     omega
    rw[hbTx,<-hm] at hpop hkp hK2
    have hwk:It x.w0 x.wb L n wA wc Z dA dc:=by rw[HX.out];exact HW
    have hLx:cV x.w0:=by rw[HX.out];exact HL
    have hnx:=aGt x hLx HD hwk _ _ I' ⟨_,_,_,_,_,hpop⟩ hFl hIl t p a bA bH bS bR A q c v hK2 hbn
    have hv:=hK.v
    have hxV:x.bV=bV:=by rw[HX.out]
    have hxL:x.bL=bL:=by rw[HX.out]
    rw[hxV,hxL] at hnx hv
    subst hv
    obtain⟨r,hr⟩:∃ r:Nat,r=m+1:=⟨_,rfl⟩
    rw[hlen,<-hr] at t0
    rw[<-hr] at hle
    have y0:(0:Int)<(r:Int):=by omega
    have y1:(0:Int)<=(m:Int):=by omega
    have y2:(m:Int)<(r:Int):=by omega
    have y3:(m:Int)<=(tc:Int):=by omega
    have y4:IntKind.i64.wrap ((r:Int)-1)=(m:Int):=by rw[qJb _ (by unfold maxLen at hcm;omega)];omega
    have HNX:=aB hnx
    have HS1:=aB s1
    have HS3:=aB s3
    have HZ:=aB (And.intro hnz hgk)
    have HFJ:=aB hfj
    clear hm hlen hvl hvm hK s1 s2 s3 hbn hle hcell hpop hkp hK2 hFl hIl hwk hLx hnx hxV hxL hr hXl hfj hnz hgk hR hfb htb hbFx hbTx
    go_wp2_with fail
    refine HNX.mono ?_
    rintro e w3 ⟨rfl,hg3⟩
    have HG3:=aB hg3
    clear hg3 HNX
    go_wp2_with fail
    go_roundg (Fc (aR L).states (I'++(jI (aR L).states x.X x.o t).reverse))
    case measure =>
     have h1:=HS3.out
     have h2:=HZ.1
     omega
    case rel =>
     refine⟨aB ⟨hs++pR (aR L).states x.o t,_,?_,HS1,qQc _⟩,?_⟩
     ·rw[qXc]
      exact HG3
     ·have h1:=HS3.out
      have h2:=HZ.out
      omega
end
theorem aHi(w:World)(lv:Value)(a:ByteArray)(k:Int)(ha:a.size<=9223372036854775807)(hr:nP a.toList k=false) :
  Calls Tryz.prog 63 #[lv,.string a,.int .i64 k] w λe w'=>e=.returned (.tuple #[.slice none 0 0,.int .i64 110])/\aC (λ_=>False) w w':=by
 have HN:=aB (Nq w a k ha)
 rw[hr] at HN
 clear hr ha
 go_in
 go_wp2_with fail
 refine HN.mono ?_
 rintro e w1 ⟨rfl,T1⟩
 have HT1:=aB T1
 clear T1 HN
 go_wp2_with fail
 go_ret2
 exact⟨rfl,HT1⟩
theorem aFy(L:List aD)(X:List Nat)(o i:Nat)(hi:i<L.length):cM (L.take (i+1)) X o=cM (L.take i) X o++(if tJ X (cZ (L.getD i aD.zero))<o then [⟨(L.getD i aD.zero).word,(L.getD i aD.zero).weight,(tJ X (cZ (L.getD i aD.zero)):Int)⟩] else []):=by
 unfold cM
 have e:L.getD i aD.zero=L[i]:=by simp[qZc,hi]
 rw[List.take_succ_eq_append_getElem hi,List.filterMap_append,<-e]
 congr 1
 split<;>simp_all
theorem Gd(hD:aZ L){p:aD}(hp:p∈L)(hX:bZ a=some X)(hl:X.length<=24):dK p.word.toList a=some (tJ X (cZ p)):=by
 obtain⟨w1,_,_,w4⟩:=hD.word p hp
 unfold dK
 rw[w1,hX]
 simp only
 rw[if_pos (by omega)]
 rfl
theorem Ur(X text:List Nat):tJ X text<=X.length+text.length:=by
 unfold tJ
 refine Ai X text.length text rfl _ (aCq _ _ ?_)
 rw[oP]
 omega
theorem aDi(w:World)(hD:aZ L)(A:Option Addr)(n c:Nat)(hR:aH w 2 A n (bK L))(hn:L.length=n)(a:ByteArray)(k:Nat)(ha:a.size<=1099511627776)(X:List Nat)(hX:bZ a.toList=some X)(hr:nP a.toList k=true) :
  Calls Tryz.prog 63 #[.slice A n c,.string a,.int .i64 (k:Int)] w (aId w (cM L X (k+1))):=by
 have HN:=aB (Nq w a k (by omega))
 rw[hr] at HN
 have hXl:X.length<=24:=by
  unfold nP at hr
  simp only[Bool.and_eq_true] at hr
  obtain⟨x,h1,_,_,h4⟩:=iI hr.1
  rw[hX] at h1
  injection h1 with h1
  rw[h1];exact h4
 have hk3:(k:Int)<=3:=by
  unfold nP at hr
  simp only[Bool.and_eq_true,decide_eq_true_eq] at hr
  exact hr.2.2
 have hn4:(n:Int)<=4096:=by have:=hD.len;omega
 have HD:=aB hD
 have HR:=aB hR
 have HNN:=aB hn
 have HA:=aB ha
 have HX:=aB (And.intro hX hXl)
 obtain⟨iM,hiM,hm0,hm1,hm2⟩:=aQ yJ
 clear hr hD hR hn ha hX hXl
 go_in
 go_wp2_with fail
 refine HN.mono ?_
 rintro e w1 ⟨rfl,T1⟩
 have HT1:=aB T1
 clear T1 HN
 go_wp2_with fail
 go_loopw [8,9] (λov iv wr=>∃ (i:Nat) (Ao:Option Addr) (co fl:Nat),iv=.int .i64 i/\i<=n/\ov=.slice Ao fl co/\Hid (fl=(cM (L.take i) X (k+1)).length/\fS 43 3 w wr ov fl (aW (cM (L.take i) X (k+1))))) (λ_ iv _=>n-(intOf iv).toNat)
 case atStart=>exact⟨0,none,0,0,rfl,by omega,rfl,aB ⟨by simp[cM],(fS.nil _ _ _).from HT1⟩⟩
 case round =>
  obtain⟨i,Ao,co,fl,rfl,hi,rfl,HO⟩:=hrel
  by_cases hin:i<n
  ·have y1:(i:Int)<(n:Int):=by omega
   have y2:(0:Int)<=(i:Int):=by omega
   have y3:IntKind.i64.wrap ((i:Int)+1)=(i:Int)+1:=qJb _ (by omega)
   have hil:i<L.length:=by rw[HNN.out];exact hin
   obtain⟨g,off,hA,hgw,c0,c1⟩:=dN HR.out HNN.symm i hin
   have hgl:g<wr.heap.size:=Nat.lt_of_lt_of_le hgw HO.2.touch.size
   rw[<-HO.2.touch.cell (a:=⟨g,off+i*2,none⟩) hgw (λf=>f)] at c0
   rw[<-HO.2.touch.cell (a:=⟨g,off+i*2+1,none⟩) hgw (λf=>f)] at c1
   have HGW:=aB hgw
   subst hA
   have hpm:=cJ L aD.zero i hil
   have hsn:=aFy L X (k+1) i hil
   obtain⟨p,hp⟩:=eX (L.getD i aD.zero)
   rw[<-hp] at c0 c1 hpm hsn
   have hdd:=Gd HD hpm HX.1 HX.2
   have hrd:=Yn wr p.word a (lT HD p hpm) HA
   rw[hdd] at hrd
   simp only[Gc] at hrd
   have hdle:=Ur X (cZ p)
   have hw4:=(HD.word p hpm).2.2.2
   have hxl:=HX.2
   obtain⟨d,hd⟩:=eX (tJ X (cZ p))
   rw[<-hd] at hrd hsn hdle
   have y4:(d:Int)<=48:=by omega
   obtain⟨pw,pn⟩:=p
   simp only at c0 c1 hrd hsn
   have HRD:=aB hrd
   have HSN:=aB hsn
   have HIL:=aB hil
   have HOL:=aB (show fl<=4096 by
    have h1:=HO.1
    have h2:(cM (L.take i) X (k+1)).length<=(L.take i).length:=qJf _ _
    rw[qZg] at h2
    omega)
   clear hgw hp hpm hdd hrd hd hsn hdle hw4 hxl hil hi hin
   go_wp2_with fail
   refine HRD.mono ?_
   rintro e w3 ⟨rfl,T3⟩
   have hO3:=HO.2.to T3
   have HO3:=aB hO3
   obtain⟨e0,e1⟩:w3.cell? ⟨g,off+i*2,none⟩=some (.string pw)/\w3.cell? ⟨g,off+i*2+1,none⟩=some (.int .i64 pn):=⟨(T3.cell (a:=⟨g,off+i*2,none⟩) hgl (λf=>f)).trans c0,(T3.cell (a:=⟨g,off+i*2+1,none⟩) hgl (λf=>f)).trans c1⟩
   have l3:g<w3.heap.size:=Nat.lt_of_lt_of_le hgl T3.size
   clear T3 hO3 c0 c1 hgl HRD
   by_cases hdk:d<=k
   ·have y5:(d:Int)<=(k:Int):=by omega
    have HDK:=aB hdk
    clear hdk
    go_wp2_with fail
    have hgn:¬ (Value.slice Ao fl co).ownBlock=some g:=λe=>by have h1:=HO3.fresh g e;have h2:=HGW.out;omega
    have hks:∀ wx,aC (λy=>(Value.slice Ao fl co).ownBlock=some y) w3 wx->wx.cell? ⟨g,off+i*2,none⟩=some (.string pw)/\wx.cell? ⟨g,off+i*2+1,none⟩=some (.int .i64 pn)/\aC (λy=>(Value.slice Ao fl co).ownBlock=some y) w3 wx:=λwx T =>
     ⟨(T.cell (a:=⟨g,off+i*2,none⟩) l3 hgn).trans e0,(T.cell (a:=⟨g,off+i*2+1,none⟩) l3 hgn).trans e1,T⟩
    have HKS:=aB hks
    obtain⟨wd,hwd⟩:=eX ((w3.alloc (.cells #[.string pw,.int .i64 pn,.int .i64 (d:Int)] 43)).drew)
    have hTd:aC (λ_=>False) w3 wd:=by rw[hwd];exact ((aC.refl _ _).alloc _).drew
    have hrd:aH wd 3 (some ⟨w3.heap.size,0,none⟩) 1 [.string pw,.int .i64 pn,.int .i64 (d:Int)]:=by rw[hwd];exact (aH.new w3 _ _ 1 rfl).drew
    obtain⟨v6,w6,hr6,O6,G6,F6,_⟩:=Js (P:=Tryz.prog) wd 39 39 43 iM _ 3 32 Tryz.underlying39 hiM hm0 hm1 hm2 rfl (by decide) (.slice Ao fl co) fl _ (HO3.to hTd).own (some ⟨w3.heap.size,0,none⟩) 1 1 [.string pw,.int .i64 pn,.int .i64 (d:Int)] hrd (λh=>by cases h) (List.all_eq_true.1 rfl) (by have:=HOL.out;unfold maxLen;omega) (by have:=HOL.out;omega)
    obtain⟨A6,c6,hv,_,_⟩:=aS O6
    subst hv
    have HO6:=aB ((HO3.to hTd).app O6 G6 F6)
    have HT6:=aB ((hTd.up (λy=>(Value.slice Ao fl co).ownBlock=some y)).grown (row:=(Value.slice Ao fl co).ownBlock) G6 (λy hg hlt=>hg))
    have HR6:=aB hr6
    rw[hwd] at HR6
    clear hgn hks hTd hrd O6 G6 F6 hr6 hwd
    refine wp_region_held_drew (S:=λwx=>wx.cell? ⟨g,off+i*2,none⟩=some (.string pw)/\wx.cell? ⟨g,off+i*2+1,none⟩=some (.int .i64 pn)/\aC (λy=>(Value.slice Ao fl co).ownBlock=some y) w3 wx) (by kernel_rfl) (HKS _ (aC.refl _ _).drew) (λhHeld=>?_)
    refine dF 0 ?_ rfl (by kernel_rfl) (λ_ _ _ h=>h) ?_ hHeld (dF 1 ?_ rfl (by kernel_rfl) (λ_ _ _ h=>h) ?_ hHeld (dF 2 ?_ rfl (by kernel_rfl) (λ_ _ _ h=>h) ?_ hHeld (dF 3 ?_ rfl (by kernel_rfl) (λ_ _ _ h=>h) ?_ hHeld (dF 4 ?_ rfl (by kernel_rfl) (λ_ _ _ h=>h) ?_ hHeld (dF 5 ?_ rfl (by kernel_rfl) (λ_ _ _ h=>h) ?_ hHeld (dF 6 ?_ rfl (by kernel_rfl) (λ_ _ _ h=>h) ?_ hHeld (dF 7 ?_ rfl (by kernel_rfl) (λ_ _ _ h=>h) ?_ hHeld (dF 8 ?_ rfl (by kernel_rfl) (λ_ _ _ h=>h) ?_ hHeld (dF 9 ?_ rfl (by kernel_rfl) (λ_ _ _ h=>h) ?_ hHeld (dF 10 ?_ rfl (by kernel_rfl) (λ_ _ _ h=>h) ?_ hHeld (dF 11 ?_ rfl (by kernel_rfl) (λ_ _ _ h=>h) ?_ hHeld (dF 12 ?_ rfl (by kernel_rfl) (λ_ _ _ h=>h) ?_ hHeld ?_))))))))))))
    iterate 13 (rotate_left;try simp only[qXa,qQa,qZa,Act.put,qJa,qZb,qQb];rintro wq ⟨s0,s1,s2⟩;go_simp;with_reducible rfl)
    simp only[qXa,qQa,qZa,Act.put,qJa,qZb,qQb]
    refine wpAnyH_ready (rs:=[13]) (by kernel_rfl) (by simp) ?_
    refine AllReadyH.cons rfl (λK hK=>?_) AllReadyH.nil
    go_simp
    refine hK.out _ _ (HKS _ ((aC.refl _ _).drew.alloc _)) (λhHeld=>?_)
    clear hK K
    try simp only[qXa,qQa,qZa,Act.put,qJa,qZb,qQb]
    refine wpAnyH_ready (rs:=[14]) (by kernel_rfl) (by simp) ?_
    refine AllReadyH.cons rfl (λK hK=>?_) AllReadyH.nil
    rw[if_pos (by rfl)]
    refine tX (.tmp 38) (.tmp 51) 39 rfl (.slice Ao fl co) (.slice (some ⟨w3.heap.size,0,none⟩) 1 1) _ w6 rfl rfl HR6 ?_
    refine hK.out _ _ (HKS _ HT6) (λhHeld=>?_)
    clear hK K
    try simp only[qXa,qQa,qZa,Act.put,qJa,qZb,qQb]
    refine dF 15 ?_ rfl (by kernel_rfl) (λ_ _ _ h=>h) ?_ hHeld ?_
    rotate_left;rintro wq ⟨s0,s1,s2⟩;go_simp;with_reducible rfl
    simp only[qXa,qQa,qZa,Act.put,qJa,qZb,qQb]
    refine wpAnyH_done (by kernel_rfl) ?_ _
    go_wp2_with fail
    go_roundw
    ·have hs:=HSN.out
     rw[if_pos (by have:=HDK.out;omega)] at hs
     refine⟨i+1,A6,c6,fl+1,by simp,by have:=HIL.out;have:=HNN.out;omega,rfl,aB ⟨?_,?_⟩⟩
     ·rw[hs,qJc,<-HO.1];rfl
     ·rw[hs]
      have e2:aW (cM (L.take i) X (k+1)++[⟨pw,pn,(d:Int)⟩])=aW (cM (L.take i) X (k+1))++[.string pw,.int .i64 pn,.int .i64 (d:Int)]:=by simp[aW,aE.cells]
      rw[e2]
      exact HO6
    ·have h1:=HIL.out
     have h2:=HNN.out
     simp only[intOf]
     omega
   ·have y5:¬ (d:Int)<=(k:Int):=by omega
    have HDK:=aB hdk
    clear hdk
    go_wp2_with fail
    go_roundw
    ·have hs:=HSN.out
     rw[if_neg (by have:=HDK.out;omega),List.append_nil] at hs
     refine⟨i+1,Ao,co,fl,by simp,by have:=HIL.out;have:=HNN.out;omega,rfl,aB ⟨?_,?_⟩⟩
     ·rw[hs,<-HO.1]
     ·rw[hs]
      exact HO3
    ·have h1:=HIL.out
     have h2:=HNN.out
     simp only[intOf]
     omega
  ·have hie:i=n:=by omega
   subst hie
   have y1:¬ (i:Int)<(i:Int):=by omega
   have ht:L.take i=L:=List.take_of_length_le (by rw[HNN.out];exact qQc _)
   rw[ht] at HO
   obtain⟨hfl,ho⟩:=HO.out
   subst hfl
   have HO':=aB ho
   clear ht ho hi hin HO
   go_wp2_with fail
   go_ret2
   exact⟨Ao,co,rfl,HO'⟩
theorem Wa(r:aE):(aE.cells r).length=3:=rfl
theorem wX(X:List aE)(k:Nat)(hk:k<X.length)(j:Nat)(hj:j<3):(aW X)[k*3+j]? = (X.getD k aE.zero).cells[j]? := by
 have e:X.getD k aE.zero=X[k]:=by simp[qZc,hk]
 rw[e]
 exact pB aE.cells 3 Wa X k j hk hj
theorem Nm{X:List aE}(h:aH w 3 A n (aW X))(hn:n=X.length)(k:Nat)(hk:k<n) :
  ∃ g off,A=some ⟨g,off,none⟩/\g<w.heap.size/\w.cell? ⟨g,off+k*3,none⟩=some (.string (X.getD k aE.zero).word)/\w.cell? ⟨g,off+k*3+1,none⟩=some (.int .i64 (X.getD k aE.zero).weight) /\
   w.cell? ⟨g,off+k*3+2,none⟩=some (.int .i64 (X.getD k aE.zero).dist):=by
 subst hn
 obtain⟨b,off,hA,hb,hc⟩:=h.2 (by omega)
 refine⟨b,off,hA,hb,?_,?_,?_⟩
 ·exact hc (k*3) _ (wX X k hk 0 (by omega))
 ·rw[Nat.add_assoc];exact hc (k*3+1) _ (wX X k hk 1 (by omega))
 ·rw[Nat.add_assoc];exact hc (k*3+2) _ (wX X k hk 2 (by omega))
theorem vL(w:World)(A:Option Addr)(n c:Nat)(X:List aE)(hX:X.length=n)(hA:aH w 3 A n (aW X))(hn:n<=maxLen)(B:Option Addr)(d:Nat)(hB:aH w 3 B n (aW X)) :
  Calls Tryz.prog 17 #[.slice A n c,.slice B n d] w λe w'=>e=.returned (.bool true)/\aC (λ_=>False) w w':=by
 unfold maxLen at hn
 have HA:=aB hA
 have HB:=aB hB
 have HX:=aB hX
 clear hA hB hX
 go_in
 go_wp2
 go_loopw [5] (λi wr=>∃ k:Nat,k<=n/\i=.int .i64 k/\Hid (aC (λ_=>False) w wr)) (λi _=>n-(intOf i).toNat)
 case atStart=>exact⟨0,qZe _,rfl,aB (aC.refl _ _)⟩
 case round =>
  obtain⟨k,hk,rfl,HT⟩:=hrel
  by_cases hkn:k<n
  ·obtain⟨g,o,hg,_,a0,a1,a2⟩:=Nm (HA.touch HT (λ_ _ f=>f)) HX.symm k hkn
   obtain⟨g',o',hg',_,b0,b1,b2⟩:=Nm (HB.touch HT (λ_ _ f=>f)) HX.symm k hkn
   subst hg hg'
   obtain⟨⟨xw,xn,xd⟩,hx⟩:∃ x,x=X.getD k aE.zero:=⟨_,rfl⟩
   rw[<-hx] at a0 a1 a2 b0 b1 b2
   simp only at a0 a1 a2 b0 b1 b2
   have k0:(k:Int)<(n:Int):=by omega
   clear hx
   go_wp2
   go_quiet (fail)
   go_wp2
   go_roundw
   ·exact⟨k+1,by omega,by simp,aB (HT.drewN _)⟩
   ·show n-(intOf (.int .i64 ((k:Int)+1))).toNat<n-(intOf (.int .i64 (k:Int))).toNat
    simp[intOf]
    omega
  ·go_wp2
   go_ret
   exact⟨rfl,HT⟩
theorem Hb{k:Int}(h:nP a k=true):∃ X n,bZ a=some X/\X.length<=24/\a.length<=96/\k=((n:Nat):Int)/\n<=3:=by
 unfold nP at h
 simp only[Bool.and_eq_true,decide_eq_true_eq] at h
 obtain⟨x,h1,_,_,h4⟩:=iI h.1
 refine⟨x,k.toNat,h1,h4,?_,by omega,by omega⟩
 have:=h.1
 unfold cF at this
 simp only[Bool.and_eq_true,decide_eq_true_eq] at this
 exact this.1
theorem kU(a:ByteArray):a.toList.length=a.size:=by
 rw[Go.ByteArray.toList_eq,Array.length_toList]
 rfl
theorem Qy(L:List aD)(X:List Nat)(o:Nat):(cM L X o).length<=L.length:=qJf _ _
def mG(s:List Nat):Array Value:=(s.map oK).toArray
theorem mH(s:List Nat)(i:Nat)(h:i<s.length):(mG s)[i]? = some (.int .i64 ((s.getD i 0:Nat):Int)):=by
 simp[mG,qZc,h,oK]
theorem Ro(s:List Nat)(i x:Nat):(mG s).setIfInBounds i (.int .i64 (x:Int))=mG (s.set i x):=by
 simp[mG,List.map_set,oK]
def pM(X Y:List Nat)(i:Nat):List Nat:=(X.take i).foldl (Zb Y) (qXb (Y.length+1))
def fI(X Y:List Nat)(i j:Nat):Nat:=(pM X Y i).getD j 0
theorem Ou(r:Nat):∀ (wd:List Nat) (t:Nat) (s:List Nat) (j:Nat),s.length=wd.length+1->j<wd.length ->
  (Ot r t wd s).getD j 0=(if wd.getD j 0=r then s.getD j 0 else 1+min (min (s.getD j 0) (s.getD (j+1) 0)) ((t :: Ot r t wd s).getD j 0))
 | [],t,s,j,h,hj=>by simp at hj
 | c :: wd,t,[],j,h,hj=>by simp at h
 | c :: wd,t,[a],j,h,hj=>by simp at h
 | c :: wd,t,a :: b :: s,0,h,hj=>by simp[Ot]
 | c :: wd,t,a :: b :: s,j+1,h,hj=>by
  have ih:=Ou r wd (if c=r then a else 1+min (min a b) t) (b :: s) j (by simpa using h) (by simpa using hj)
  simp only[Ot,List.getD_cons_succ] at ih ⊢
  exact ih
theorem rQ(X Y:List Nat)(i:Nat):pM X Y i=oO Y (X.take i):=by
 unfold pM oO
 exact Ow _ _ (by simp) (Xh _)
theorem Dx(X Y:List Nat)(i:Nat):(pM X Y i).length=Y.length+1:=by rw[rQ,oP]
theorem Sw(X Y:List Nat)(j:Nat)(hj:j<=Y.length):fI X Y 0 j=j:=by
 unfold fI pM
 rw[List.take_zero,List.foldl_nil]
 simp[qZc,show j<Y.length+1 by omega]
theorem Ov(X Y:List Nat)(i:Nat)(hi:i<X.length):pM X Y (i+1)=Zb Y (pM X Y i) (X.getD i 0):=by
 unfold pM
 rw[gG X i hi,List.foldl_append]
 rfl
theorem Su(X Y:List Nat)(i:Nat)(hi:i<=X.length):fI X Y i 0=i:=by
 have h:=xK Y i (X.take i) (by rw[qZg];omega)
 have hl:=Dx X Y i
 unfold fI
 rw[<-rQ] at h
 cases hr:pM X Y i with
 | nil=>rw[hr] at hl;simp at hl
 | cons x l=>rw[hr] at h;simpa using h
theorem Sv(X Y:List Nat)(i j:Nat)(hi:i<X.length)(hj:j<Y.length) :
  fI X Y (i+1) (j+1)=if Y.getD j 0=X.getD i 0 then fI X Y i j else 1+min (min (fI X Y i j) (fI X Y i (j+1))) (fI X Y (i+1) j):=by
 unfold fI
 rw[Ov X Y i hi]
 unfold Zb
 rw[List.getD_cons_succ,Ou _ Y _ _ j (Dx X Y i) hj]
theorem Dw(X Y:List Nat)(i j:Nat)(hi:i<=X.length)(hj:j<=Y.length):fI X Y i j<=Y.length+i:=by
 unfold fI
 rw[rQ]
 refine Ai Y i (X.take i) (by rw[qZg];omega) _ (aCq _ _ ?_)
 rw[oP]
 omega
def Dg(ga m k:Nat):List Value:=(qXb k).map λi=>.slice (some ⟨ga,i*(m+1),none⟩) (m+1) (m+1)
theorem Sg(ga m k:Nat):Dg ga m (k+1)=Dg ga m k++[.slice (some ⟨ga,k*(m+1),none⟩) (m+1) (m+1)]:=by
 unfold Dg
 rw[List.range_succ,qXc]
 rfl
theorem Hu(ga m k i:Nat)(h:i<k):(Dg ga m k)[i]? = some (.slice (some ⟨ga,i*(m+1),none⟩) (m+1) (m+1)):=by simp[Dg,h]
def Er(X Y:List Nat)(m i j:Nat)(V:List Nat):Prop:=∀ i' j',j'<=m->(i'<i\/(i'=i/\j'<j))->V.getD (i'*(m+1)+j') 0=fI X Y i' j'
theorem aFn{j i' j':Nat}(hj:j<=m)(hj':j'<=m)(h:i'<i\/(i'=i/\j'<j)):i'*(m+1)+j'<i*(m+1)+j:=by
 rcases h with h | ⟨h,h2⟩
 ·have:=Nat.mul_le_mul_right (m+1) (show i'+1<=i from h)
  rw[qJe,qQf] at this
  omega
 ·subst h
  omega
theorem Er.set{j:Nat}{V:List Nat}(h:Er X Y m i j V)(hj:j<=m)(hl:i*(m+1)+j<V.length){x:Nat}(hx:x=fI X Y i j):Er X Y m i (j+1) (V.set (i*(m+1)+j) x):=by
 intro i' j' hj' hor
 by_cases he:i'=i/\j'=j
 ·obtain⟨rfl,rfl⟩:=he
  simp[qZc,hl,hx]
 ·have h2:i'<i\/(i'=i/\j'<j):=by omega
  have h3:=aFn hj hj' h2
  have h4:(V.set (i*(m+1)+j) x).getD (i'*(m+1)+j') 0=V.getD (i'*(m+1)+j') 0:=by
   simp only[qZc]
   rw[List.getElem?_set_ne (by omega)]
  rw[h4]
  exact h i' j' hj' h2
theorem Er.next{V:List Nat}(h:Er X Y m i (m+1) V):Er X Y m (i+1) 0 V:=λi' j' hj' hor=>h i' j' hj' (by omega)
def aIr(w:World)(X Y:List Nat)(n m:Nat)(e:Ending)(w':World):Prop :=
 ∃ ga RA rc V,e=.returned (.slice RA (n+1) rc)/\aC (λ_=>False) w w'/\aH w' 1 RA (n+1) (Dg ga m (n+1))/\aL w' ga 3 (mG V)/\V.length=(n+1)*(m+1)/\Er X Y m (n+1) 0 V
theorem Wy:(Tryz.prog.info? 49).map (λi=>(i.zero,i.size,i.bytes))=some (some (.slice none 0 0),1,24):=by kernel_rfl
theorem Zc(w:World)(A:Option Addr)(n c:Nat)(X:List Nat)(hX:aH w 1 A n (X.map fF))(hXl:X.length=n)(B:Option Addr)(m d:Nat)(Y:List Nat)(hY:aH w 1 B m (Y.map fF))(hYl:Y.length=m)(hn:n<=1024)(hm:m<=1024) :
  Calls Tryz.prog 151 #[.slice A n c,.slice B m d] w (aIr w X Y n m):=by
 obtain⟨i1,hi1,hy0,hy1,hy2⟩:=aQ Gt
 obtain⟨i2,hi2,hx0,hx1,hx2⟩:=aQ Wy
 obtain⟨N,hN⟩:=eX ((n+1)*(m+1))
 have hNle:N<=1050625:=by rw[hN];exact Nat.mul_le_mul (show n+1<=1025 by omega) (show m+1<=1025 by omega)
 have z1:IntKind.i64.wrap (((n:Int)+1)*((m:Int)+1))=(N:Int):=by
  have:((n:Int)+1)*((m:Int)+1)=(N:Int):=by rw[hN];push_cast;rfl
  rw[this]
  exact qJb _ (by omega)
 have hnI:(n:Int)<=1024:=by omega
 have hmI:(m:Int)<=1024:=by omega
 have HX:=aB hX
 have HXL:=aB hXl
 have HY:=aB hY
 have HYL:=aB hYl
 have HN:=aB hN
 have HNL:=aB hNle
 clear hX hXl hY hYl hn hm hN hNle
 go_in
 go_wp2_with (refine wpList_make_full _ rfl (.tmp 17) (.tmp 17) 49 rfl 0 3 i1 _ 1 Tryz.underlying49 hi1 hy0 hy1 .i64 .i64 (N:Int) (N:Int) N rfl rfl rfl rfl ?b2 ?b3 (qZe _) ?_)
 case b2=>rw[hy2];have:=HNL.out;omega
 case b3=>have:=HNL.out;unfold maxLen;omega
 intro w1 O1 G1
 have hmc:(madeCells #[Value.int .i64 0] N).toList=(qZh N 0).map oK:=by
  unfold madeCells
  apply List.ext_getElem
  ·simp
  ·intro i h1 h2
   simp[Nat.mod_one,oK]
 rw[hmc] at O1
 obtain⟨ga,hga⟩:=eX w.heap.size
 rw[<-hga] at O1
 have hba:aL w1 ga 3 (mG (qZh N 0)):=Nd O1
 have hT1:aC (λ_=>False) w w1:=(aC.refl _ _).grown G1 (λk h=>by cases h)
 rw[<-hga]
 have HBA:=aB hba
 have HT1:=aB hT1
 have HGA:=aB hga
 clear hba hT1 hga hmc O1 G1
 go_wp2_with fail
 go_loopw [6,22] (λrv iv wr=>∃ (i:Nat) (RA:Option Addr) (rc:Nat) (V:List Nat),rv=.slice RA i rc/\iv=.int .i64 (i:Int)/\i<=n+1/\Hid (wr.ownsRow 0 49 1 (.slice RA i rc) i (Dg ga m i)/\∀ g,(Value.slice RA i rc).ownBlock=some g->w1.heap.size<=g)/\Hid (aL wr ga 3 (mG V)/\V.length=N/\Er X Y m i 0 V)/\Hid (aC (λg=>g=ga) w1 wr)) (λ_ iv _=>n+1-(intOf iv).toNat)
 case atStart=>exact⟨0,none,0,qZh N 0,rfl,rfl,qZe _,aB ⟨World.ownsRow_nil _ _ _ _,λg h=>by simp[Value.ownBlock] at h⟩,aB ⟨HBA,by simp,λi' j' _ h=>by omega⟩,aB (aC.refl _ _)⟩
 case round =>
  obtain⟨i,RA,rc,V,rfl,rfl,hi,HO,HB,HT⟩:=hrel
  obtain⟨wo,hwo⟩:=eX wr
  subst hwo
  by_cases hin:i<=n
  ·obtain⟨K,hK⟩:=eX (i*(m+1))
   have hKN:K+m+1<=N:=by
    have:=Nat.mul_le_mul_right (m+1) (show i+1<=n+1 by omega)
    rw[<-HN.out,qJe,qQf,<-hK] at this
    omega
   have hNb:=HNL.out
   have y1:(i:Int)<(n:Int)+1:=by omega
   have y2:IntKind.i64.wrap ((i:Int)+1)=(i:Int)+1:=qJb _ (by omega)
   have y3:IntKind.i64.wrap ((i:Int)*((m:Int)+1))=(K:Int):=by
    have:(i:Int)*((m:Int)+1)=(K:Int):=by rw[hK];push_cast;rfl
    rw[this]
    exact qJb _ (by omega)
   have y4:(0:Int)<=(K:Int):=by omega
   have y5:(K:Int)<=(K:Int)+(m:Int)+1:=by omega
   have y6:(K:Int)+(m:Int)+1<=(N:Int):=by omega
   have HK:=aB hK
   have HKN:=aB hKN
   have HI:=aB hin
   have hNI:(N:Int)<=1050625:=by omega
   clear hi hin hK hKN hNb
   have y7:K+m+1-K=m+1:=by omega
   go_wp2_with fail
   clear y7
   go_loopw [10,45] (λ_ jv wx=>∃ (j:Nat) (V':List Nat),jv=.int .i64 (j:Int)/\j<=m+1/\Hid (aL wx ga 3 (mG V')/\V'.length=N/\Er X Y m i j V')/\Hid (aC (λg=>g=ga) wo wx)) (λ_ jv _=>m+1-(intOf jv).toNat)
   case atStart=>exact⟨0,V,rfl,qZe _,HB,aB (aC.refl _ _)⟩
   case round =>
    obtain⟨j,V',rfl,hj,HB2,HT2⟩:=hrel
    by_cases hjm:j<=m
    ·have k1:(j:Int)<(m:Int)+1:=by omega
     have k2:IntKind.i64.wrap ((j:Int)+1)=(j:Int)+1:=qJb _ (by omega)
     have k3:(0:Int)<=(j:Int):=by omega
     have hKl:K+j<V'.length:=by have h1:=HKN.out;have h2:=HB2.2.1;omega
     have c0:wr.cell? ⟨ga,K+j,none⟩=some (.int .i64 ((V'.getD (K+j) 0:Nat):Int)):=by rw[HB2.1.cell];exact mH _ _ hKl
     have f0:wr.frozen? ⟨ga,K+j,none⟩=false:=HB2.1.frozen _
     have l0:=HB2.1.lt
     obtain⟨v0,hv0⟩:=eX (V'.getD (K+j) 0)
     rw[<-hv0] at c0
     have HJ:=aB hjm
     have HEND:Hid (∀ x:Nat,x=fI X Y i j->aL (wr.setCell ⟨ga,K+j,none⟩ (.int .i64 (x:Int))) ga 3 (mG (V'.set (K+j) x))/\(V'.set (K+j) x).length=N/\Er X Y m i (j+1) (V'.set (K+j) x)):=aB (by
      intro x hx
      obtain⟨b1,b2,b3⟩:=HB2.out
      have h1:=b1.set_ (K+j) (.int .i64 (x:Int))
      rw[Ro] at h1
      refine⟨h1,by rw[List.length_set,b2],?_⟩
      have hK:=HK.out
      rw[hK] at hKl ⊢
      exact b3.set hjm hKl hx)
     have HTE:Hid (∀ v:Value,aC (λg=>g=ga) wo (wr.setCell ⟨ga,K+j,none⟩ v)):=aB (λv=>HT2.setCell (p:=⟨ga,K+j,none⟩) (λ_=>rfl) v)
     have HKL:=aB hKl
     clear hv0 hjm hj hKl
     by_cases hi0:i=0
     ·have q1:((i:Int) == 0)=true:=by simp[hi0]
      have HI0:=aB hi0
      clear hi0
      go_wp2_with fail
      go_roundw
      ·obtain⟨e1,e2,e3⟩:=HEND.out j (by rw[HI0.out,Sw X Y j (by rw[HYL.out];exact HJ.out)])
       exact⟨j+1,_,by simp,by have:=HJ.out;omega,aB ⟨e1,e2,e3⟩,aB (HTE _)⟩
      ·have:=HJ.out
       simp only[intOf]
       omega
     ·obtain⟨p,hp⟩:∃ p,i=p+1:=⟨i-1,by omega⟩
      have q1:((i:Int) == 0)=false:=by simp;omega
      have HP:=aB hp
      by_cases hj0:j=0
      ·have q2:((j:Int) == 0)=true:=by simp[hj0]
       have HJ0:=aB hj0
       clear hi0 hj0 hp
       go_wp2_with fail
       go_roundw
       ·obtain⟨e1,e2,e3⟩:=HEND.out i (by rw[HJ0.out,Su X Y i (by rw[HXL.out];exact HI.out)])
        exact⟨j+1,_,by simp,by have:=HJ.out;omega,aB ⟨e1,e2,e3⟩,aB (HTE _)⟩
       ·have:=HJ.out
        simp only[intOf]
        omega
      ·obtain⟨q,hq⟩:∃ q,j=q+1:=⟨j-1,by omega⟩
       have q2:((j:Int) == 0)=false:=by simp;omega
       have HQ:=aB hq
       have hpn:p<n:=by have:=HI.out;omega
       have hqm:q<m:=by have:=HJ.out;omega
       obtain⟨gx,ox,hA,hgx,hcx⟩:=HX.2 (by omega)
       obtain⟨gy,oy,hB,hgy,hcy⟩:=HY.2 (by omega)
       subst hA
       subst hB
       have hga:=HGA.out
       have hTw:aC (λg=>g=ga) w wr:=((HT1.up _).then HT).then HT2
       have cx:wr.cell? ⟨gx,ox+p,none⟩=some (.int .i32 ((X.getD p 0:Nat):Int)):=(hTw.cell (a:=⟨gx,ox+p,none⟩) hgx (by simp only;omega)).trans (hcx p _ (by simp[qZc,fF,show p<X.length by rw[HXL.out];exact hpn]))
       have cy:wr.cell? ⟨gy,oy+q,none⟩=some (.int .i32 ((Y.getD q 0:Nat):Int)):=(hTw.cell (a:=⟨gy,oy+q,none⟩) hgy (by simp only;omega)).trans (hcy q _ (by simp[qZc,fF,show q<Y.length by rw[HYL.out];exact hqm]))
       have hrow:=aF HO.1 HT2 (λg hg e=>(aM HO.1 hg).ne (aG HB.1) (by decide) e)
       obtain⟨gr,cap,hRA,hle,hcm,hgr,hcr,_⟩:=eZ hrow (by omega)
       injection hRA with hRA1 _ hRA3
       subst hRA1
       subst hRA3
       obtain⟨P,hP⟩:=eX (p*(m+1))
       have cr:=hcr p _ (Hu ga m i p (by omega))
       rw[<-hP] at cr
       have hPK:P+m+1=K:=by rw[HK.out,hp,hP,qJe,qQf];omega
       have hVl:=HB2.2.1
       have hKN:=HKN.out
       have tb:=HB2.2.2
       have t1:V'.getD (P+q) 0=fI X Y p q:=by rw[hP];exact tb p q (by omega) (by omega)
       have t2:V'.getD (P+j) 0=fI X Y p j:=by rw[hP];exact tb p j (by have:=HJ.out;omega) (by omega)
       have t3:V'.getD (K+q) 0=fI X Y i q:=by rw[HK.out];exact tb i q (by omega) (by omega)
       have d1:wr.cell? ⟨ga,P+q,none⟩=some (.int .i64 ((fI X Y p q:Nat):Int)):=by rw[HB2.1.cell,<-t1];exact mH _ _ (by omega)
       have d2:wr.cell? ⟨ga,P+j,none⟩=some (.int .i64 ((fI X Y p j:Nat):Int)):=by rw[HB2.1.cell,<-t2];exact mH _ _ (by omega)
       have d3:wr.cell? ⟨ga,K+q,none⟩=some (.int .i64 ((fI X Y i q:Nat):Int)):=by rw[HB2.1.cell,<-t3];exact mH _ _ (by omega)
       have b1:=Dw X Y p q (by rw[HXL.out];omega) (by rw[HYL.out];omega)
       have b2:=Dw X Y p j (by rw[HXL.out];omega) (by rw[HYL.out];omega)
       have b3:=Dw X Y i q (by rw[HXL.out];omega) (by rw[HYL.out];omega)
       have hst:=Sv X Y p q (by rw[HXL.out];exact hpn) (by rw[HYL.out];exact hqm)
       rw[<-hp,<-hq] at hst
       rw[HYL.out] at b1 b2 b3
       obtain⟨ta,hta⟩:=eX (fI X Y p q)
       obtain⟨tb',htb⟩:=eX (fI X Y p j)
       obtain⟨tc,htc⟩:=eX (fI X Y i q)
       obtain⟨rx,hrx⟩:=eX (X.getD p 0)
       obtain⟨ry,hry⟩:=eX (Y.getD q 0)
       rw[<-hta] at d1 b1 hst
       rw[<-htb] at d2 b2 hst
       rw[<-htc] at d3 b3 hst
       rw[<-hrx] at cx hst
       rw[<-hry] at cy hst
       have u1:IntKind.i64.wrap ((i:Int)-1)=(p:Int):=by rw[qJb _ (by omega)];omega
       have u2:IntKind.i64.wrap ((j:Int)-1)=(q:Int):=by rw[qJb _ (by omega)];omega
       have u3:(0:Int)<=(p:Int):=by omega
       have u4:(p:Int)<(n:Int):=by omega
       have u5:(0:Int)<=(q:Int):=by omega
       have u6:(q:Int)<(m:Int):=by omega
       have u7:(p:Int)<(i:Int):=by omega
       have u8:(q:Int)<(m:Int)+1:=by omega
       have w1':(ta:Int)<=2100:=by omega
       have w2':(tb':Int)<=2100:=by omega
       have w3':(tc:Int)<=2100:=by omega
       have HST:=aB hst
       clear hi0 hj0 hp hq hpn hqm hgx hgy hcx hcy hga hTw hrow hle hcm hcr hP hPK hVl hKN tb t1 t2 t3 b1 b2 b3 hst hta htb htc hrx hry
       by_cases hc:rx=ry
       ·have q3:((rx:Int) == (ry:Int))=true:=by simp;omega
        have HC:=aB hc
        clear hc
        go_wp2_with fail
        go_quiet (fail)
        go_wp2_with fail
        go_roundw
        ·obtain⟨e1,e2,e3⟩:=HEND.out ta (by rw[HST.out,if_pos HC.symm])
         exact⟨j+1,_,by simp,by have:=HJ.out;omega,aB ⟨e1.drewN _,e2,e3⟩,aB ((HTE _).drewN _)⟩
        ·have:=HJ.out
         simp only[intOf]
         omega
       ·have q3:((rx:Int) == (ry:Int))=false:=by simp;omega
        have HC:=aB hc
        clear hc
        go_wp2_with fail
        go_quiet (fail)
        go_wp2_with fail
        go_region
        go_wp2_with fail
        go_roundw
        ·have hs:=HST.out
         rw[if_neg (λe=>HC.out e.symm)] at hs
         obtain⟨e1,e2,e3⟩:=HEND.out (1+min (min ta tb') tc) hs.symm
         have key:∀ (v:Int) (k:Nat),v=((1+min (min ta tb') tc:Nat):Int)->aL ((wr.drewN k).setCell ⟨ga,K+j,none⟩ (.int .i64 v)) ga 3 (mG (V'.set (K+j) (1+min (min ta tb') tc)))/\aC (λg=>g=ga) wo ((wr.drewN k).setCell ⟨ga,K+j,none⟩ (.int .i64 v)):=λv k hv=>by
          subst hv
          exact⟨e1.drewN k,(HTE _).drewN k⟩
         obtain⟨k1',k2'⟩:=key (1+if (tc:Int)<(if tb'<ta then (tb':Int) else (ta:Int)) then (tc:Int) else if tb'<ta then (tb':Int) else (ta:Int)) (nq+1) (by split<;>split<;>omega)
         exact⟨j+1,_,by simp,by have:=HJ.out;omega,aB ⟨k1',e2,e3⟩,aB k2'⟩
        ·have:=HJ.out
         simp only[intOf]
         omega
    ·have hje:j=m+1:=by omega
     subst hje
     have k1:¬ ((m+1:Nat):Int)<(m:Int)+1:=by omega
     have hrow:=aF HO.1 HT2 (λg hg e=>(aM HO.1 hg).ne (aG HB.1) (by decide) e)
     have HROW:=aB hrow
     clear hjm hj hrow
     go_wp2_with (at_builtin;refine aP _ rfl (.tmp 114) (.tmp 116) 259 rfl 49 i2 _ 1 24 Tryz.underlying259 hi2 hx0 hx1 hx2 rfl (by decide) (.slice RA i rc) i _ rfl (aF HROW ((aC.refl _ _).alloc _) (λ_ _ f=>f)) (some ⟨_,0,none⟩) 1 1 [.slice (some ⟨ga,K,none⟩) (K+m+1-K) (K+m+1-K)] rfl (aH.new _ _ _ 1 rfl) (λh=>by cases h) (List.all_eq_true.1 rfl) (by have:=HI.out;unfold maxLen;omega) (by have:=HI.out;omega) ?_;intro v6 w6 O6 G6 F6 _;obtain⟨A6,c6,hv,_,_⟩:=aS O6;subst hv;have HE6:=aB (And.intro O6 (And.intro G6 F6));clear O6 G6 F6)
     go_roundw
     ·obtain⟨O6,G6,F6⟩:=HE6.out
      obtain⟨b1,b2,b3⟩:=HB2.out
      have hTg:aC (λg=>(Value.slice RA i rc).ownBlock=some g) wr w6:=((aC.refl _ wr).alloc _).grown G6 (λ_ e _=>e)
      have hnb:¬ (Value.slice RA i rc).ownBlock=some ga:=λe=>(aM HO.1 e).ne (aG HB.1) (by decide) rfl
      refine⟨i+1,A6,c6,V',rfl,by simp,by have:=HI.out;omega,aB ⟨?_,?_⟩,aB ⟨b1.touch hTg hnb,b2,b3.next⟩,aB ?_⟩
      ·rw[show K+m+1-K=m+1 by omega] at O6
       rw[Sg,<-HK.out]
       exact O6
      ·intro g hg
       rcases F6 with e | ⟨g2,e,hle⟩
       ·rw[e] at hg
        exact HO.2 g hg
       ·rw[e] at hg
        injection hg with hg
        have h1:=HT.size
        have h2:=HT2.size
        have h3:wr.heap.size<=(wr.alloc (.cells #[.slice (some ⟨ga,K,none⟩) (K+m+1-K) (K+m+1-K)] 49)).heap.size:=by simp
        simp only[World.size_alloc] at hle
        omega
      ·refine (HT.then HT2).trans hTg (λg hg e=>?_)
       have:=HO.2 g e
       omega
     ·have:=HI.out
      simp only[intOf]
      omega
  ·have hie:i=n+1:=by omega
   subst hie
   have k1:¬ ((n+1:Nat):Int)<(n:Int)+1:=by omega
   clear hi hin
   go_wp2_with fail
   go_ret
   have hga:=HGA.out
   refine⟨ga,RA,rc,V,rfl,HT1.trans HT (λg hg e=>by omega),aH.of_own HO.1,HB.1,by rw[HB.2.1,HN.out],HB.2.2⟩
theorem Wl{b:List UInt8}(h:4096<a.length\/4096<b.length):dK a b=none:=by
 unfold dK
 cases ha:bZ a with
 | none=>rfl
 | some x =>
  cases hb:bZ b with
  | none=>rfl
  | some y =>
   simp only
   rw[if_neg]
   rintro⟨h1,h2⟩
   have e1:=(cL _ _ _ (qQc _) ha).1
   have e2:=(cL _ _ _ (qQc _) hb).1
   have f1:=iP x
   have f2:=iP y
   rw[<-e1] at f1
   rw[<-e2] at f2
   omega
def aJy(w:World)(a b:List UInt8)(e:Ending)(w':World):Prop :=
 ((∃ s1 s2,e=.returned (.tuple #[s1,s2,.bool false])/\dK a b=none) \/
   (∃ A1 n1 c1 X A2 n2 c2 Y,e=.returned (.tuple #[.slice A1 n1 c1,.slice A2 n2 c2,.bool true])/\aH w' 1 A1 n1 (X.map fF)/\X.length=n1/\n1<=1024/\aH w' 1 A2 n2 (Y.map fF)/\Y.length=n2/\n2<=1024/\dK a b=some (fI X Y n1 n2)))/\aC (λ_=>False) w w'
theorem Wk{b:List UInt8}(ha:bZ a=some X)(hb:bZ b=some Y)(h1:X.length<=1024)(h2:Y.length<=1024):dK a b=some (fI X Y X.length Y.length):=by
 unfold dK
 rw[ha,hb]
 simp only
 rw[if_pos ⟨h1,h2⟩]
 unfold fI
 rw[rQ,List.take_length]
theorem aAn(w:World)(hL:cV w)(a b:ByteArray)(ha:a.size<=9223372036854775807)(hb:b.size<=9223372036854775807) :
  Calls Tryz.prog 150 #[.string a,.string b] w (aJy w a.toList b.toList):=by
 by_cases hlong:4096<a.size\/4096<b.size
 ·have hd:dK a.toList b.toList=none:=Wl (by rw[kU,kU];exact hlong)
  have HD:=aB hd
  have haI:(a.size:Int)<=9223372036854775807:=by omega
  have hbI:(b.size:Int)<=9223372036854775807:=by omega
  by_cases h1:4096<a.size
  ·have y1:(4096:Int)<(a.size:Int):=by omega
   clear hlong hd h1 ha hb
   go_in
   go_wp2_with fail
   go_ret3
   exact⟨.inl ⟨_,_,rfl,HD⟩,aC.refl _ _⟩
  ·have y1:¬ (4096:Int)<(a.size:Int):=by omega
   have y2:(4096:Int)<(b.size:Int):=by omega
   clear hlong hd h1 ha hb
   go_in
   go_wp2_with fail
   go_ret3
   exact⟨.inl ⟨_,_,rfl,HD⟩,aC.refl _ _⟩
 ·have y1:¬ (4096:Int)<(a.size:Int):=by omega
  have y2:¬ (4096:Int)<(b.size:Int):=by omega
  have HRA:=aB (lK w a (by omega) hL)
  have HRB:=aB (λwx T=>lK wx b (by omega) (cV.touch (w':=wx) hL T))
  clear hlong ha hb hL
  go_in
  go_wp2_with fail
  refine HRA.mono ?_
  rintro e w1 ⟨A1,n1,c1,X,k1,rfl,ho1,hl1,hs1,hx1⟩
  have HO1:=aB ho1
  have HX1:=aB (And.intro hl1 hx1)
  clear ho1 hl1 hs1 hx1
  go_wp2_with fail
  refine (HRB _ HO1.touch).mono ?_
  rintro e w2 ⟨A2,n2,c2,Y,k2,rfl,ho2,hl2,hs2,hx2⟩
  have HO2:=aB ho2
  have HX2:=aB (And.intro hl2 hx2)
  have HO12:=aB (HO1.to ho2.touch)
  clear ho2 hl2 hs2 hx2
  have HT:=aB (HO1.touch.then HO2.touch)
  cases k1 with
  | false =>
   have hd:dK a.toList b.toList=none:=by
    unfold dK
    rw[HX1.2]
    rfl
   have HD:=aB hd
   clear hd
   go_wp2_with fail
   go_ret3
   exact⟨.inl ⟨_,_,rfl,HD⟩,HT⟩
  | true =>
   cases k2 with
   | false =>
    have hd:dK a.toList b.toList=none:=by
     unfold dK
     rw[HX1.2,HX2.2]
     rfl
    have HD:=aB hd
    clear hd
    go_wp2_with fail
    go_ret3
    exact⟨.inl ⟨_,_,rfl,HD⟩,HT⟩
   | true =>
    by_cases h1:n1<=1024
    ·have y3:(n1:Int)<=1024:=by omega
     by_cases h2:n2<=1024
     ·have y4:(n2:Int)<=1024:=by omega
      have hd:dK a.toList b.toList=some (fI X Y n1 n2):=by
       have e1:=HX1.1
       have e2:=HX2.1
       rw[<-e1,<-e2]
       exact Wk (by rw[HX1.2];rfl) (by rw[HX2.2];rfl) (by omega) (by omega)
      have HD:=aB hd
      have HH:=aB (And.intro h1 h2)
      clear hd h1 h2
      go_wp2_with fail
      go_ret3
      exact⟨.inr ⟨A1,n1,c1,X,A2,n2,c2,Y,rfl,aH.of_own HO12.own,HX1.1,HH.1,aH.of_own HO2.own,HX2.1,HH.2,HD⟩,HT⟩
     ·have y4:¬ (n2:Int)<=1024:=by omega
      have y5:decide ((n2:Int)<=1024)=false:=by simp;omega
      have hd:dK a.toList b.toList=none:=by
       unfold dK
       rw[HX1.2,HX2.2]
       simp only[if_true]
       rw[if_neg (by have:=HX2.1;omega)]
      have HD:=aB hd
      clear hd h1 h2
      go_wp2_with fail
      go_ret3
      exact⟨.inl ⟨_,_,rfl,HD⟩,HT⟩
    ·have y3:¬ (n1:Int)<=1024:=by omega
     have hd:dK a.toList b.toList=none:=by
      unfold dK
      rw[HX1.2,HX2.2]
      simp only[if_true]
      rw[if_neg (by have:=HX1.1;omega)]
     have HD:=aB hd
     clear hd h1
     go_wp2_with fail
     go_ret3
     exact⟨.inl ⟨_,_,rfl,HD⟩,HT⟩
theorem Lv(w:World)(hL:cV w)(a b:ByteArray)(ha:a.size<=9223372036854775807)(hb:b.size<=9223372036854775807) :
  Calls Tryz.prog 103 #[.string a,.string b] w λe w'=>e=Gc (dK a.toList b.toList)/\aC (λ_=>False) w w':=by
 have HB:=aB (aAn w hL a b ha hb)
 clear ha hb hL
 go_in
 go_wp2_with fail
 refine HB.mono ?_
 rintro e w1 ⟨h,T1⟩
 have HT1:=aB T1
 rcases h with⟨s1,s2,rfl,hd⟩ | ⟨A1,n1,c1,X,A2,n2,c2,Y,rfl,hr1,hl1,hn1,hr2,hl2,hn2,hd⟩
 ·have HD:=aB hd
  clear T1 HB hd
  go_wp2_with fail
  go_ret2
  exact⟨by rw[HD.out];rfl,HT1⟩
 ·have HD:=aB hd
  have HTB:=aB (Zc w1 A1 n1 c1 X hr1 hl1 A2 n2 c2 Y hr2 hl2 hn1 hn2)
  have y1:(n1:Int)<=1024:=by omega
  have y2:(n2:Int)<=1024:=by omega
  have HN:=aB (And.intro hn1 hn2)
  clear T1 HB hd hr1 hl1 hn1 hr2 hl2 hn2
  go_wp2_with fail
  refine HTB.mono ?_
  rintro e w2 ⟨ga,RA,rc,V,rfl,T2,hrr,hbl,hvl,htp⟩
  obtain⟨gr,orr,hRA,hgr,hcr⟩:=hrr.2 (by omega)
  subst hRA
  have cr:=hcr n1 _ (Hu ga n2 (n1+1) n1 (by omega))
  obtain⟨K,hK⟩:=eX (n1*(n2+1))
  rw[<-hK] at cr
  have hlt:K+n2<V.length:=by
   rw[hvl,hK,qJe,qQf]
   omega
  have ht:V.getD (K+n2) 0=fI X Y n1 n2:=by rw[hK];exact htp n1 n2 (qQc _) (.inl (by omega))
  have cv:w2.cell? ⟨ga,K+n2,none⟩=some (.int .i64 ((fI X Y n1 n2:Nat):Int)):=by rw[hbl.cell,<-ht];exact mH _ _ hlt
  have HT2:=aB (HT1.then T2)
  have lg:=hbl.lt
  have y3:(0:Int)<=(n1:Int):=by omega
  have y4:(n1:Int)<(n1:Int)+1:=by omega
  have y5:(0:Int)<=(n2:Int):=by omega
  have y6:(n2:Int)<(n2:Int)+1:=by omega
  clear T2 hrr hbl hvl htp hcr hK hlt ht HTB
  go_wp2_with fail
  go_ret2
  exact⟨by rw[HD.out];rfl,HT2⟩
def rS(o:Option Nat)(k:Int):Bool:=match o with
 | some d=>decide ((d:Int)<=k)
 | none=>false
theorem Tn(w:World)(hL:cV w)(a b:ByteArray)(ha:a.size<=9223372036854775807)(hb:b.size<=9223372036854775807)(k:Int) :
  Calls Tryz.prog 102 #[.string a,.string b,.int .i64 k] w λe w'=>e=.returned (.bool (rS (dK a.toList b.toList) k))/\aC (λ_=>False) w w':=by
 have hD:=Lv w hL a b ha hb
 obtain⟨o,ho⟩:=eX (dK a.toList b.toList)
 rw[<-ho] at hD ⊢
 cases o with
 | none =>
  simp only[Gc] at hD
  have HD:=aB hD
  clear ha hb hL hD ho
  go_in
  go_wp2_with fail
  refine HD.mono ?_
  rintro e w1 ⟨rfl,T1⟩
  have HT1:=aB T1
  clear T1
  go_wp2_with fail
  go_ret
  exact⟨rfl,HT1⟩
 | some d =>
  simp only[Gc] at hD
  have HD:=aB hD
  clear ha hb hL hD ho
  by_cases hk:(d:Int)<=k
  all_goals
   go_in
   go_wp2_with fail
   refine HD.mono ?_
   rintro e w1 ⟨rfl,T1⟩
   have HT1:=aB T1
   clear T1
   go_wp2_with fail
   go_ret
   exact⟨by simp[rS,hk],HT1⟩
end Go.Proofs.YthockgmbooefpaaGreatDoor
