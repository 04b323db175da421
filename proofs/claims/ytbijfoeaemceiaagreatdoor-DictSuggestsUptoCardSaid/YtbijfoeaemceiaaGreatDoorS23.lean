/- What the law rests on, part 23. No condition but those that each theorem names. -/
import Derived.Test.YtbijfoeaemceiaaGreatDoorS22
set_option linter.unusedSectionVars false
set_option linter.unusedSimpArgs false
set_option linter.unusedVariables false
namespace Go.Proofs.YtbijfoeaemceiaaGreatDoor
open Go.RowKit Go.Shelf
theorem clip_any (A:Option Addr) (q c:Nat) (hq:q≤c) (hc:c≤maxLen) (w:World) :
  Calls Tryz.prog 126 #[.slice A q c] w fun e w'=>e=.returned (.slice A q q)∧w'=w:=by
 unfold maxLen at hc
 have y0:(0:Int)≤(q:Int):=by omega
 have y1:(q:Int)≤(c:Int):=by omega
 go_enter Tryz.func126,Tryz.ntmps126
 go_wp2_with fail
 go_ret
 exact ⟨rfl,rfl⟩
theorem run_clip_app {P:Program} (w:World) (t ty e:TypeId) (i:TypeInfo) (z:Value) (bytes:Nat) (h1:P.underlying t=some (.slice e)) (h2:P.info? e=some i) (h3:i.zero=some z) (h4:i.size=1) (h5:i.bytes=bytes) (h6:z.cells.size=1)
  (A:Option Addr) (q:Nat) (xs:List Value) (hR:Reads w 1 A q xs) (ad:Addr) (u:Value) (hu:u.oneCell'=true) (hc:w.cell? ad=some u) (hs:ad.spot=none) (b1:q+1≤maxLen) (b2:(q+1)*bytes≤140737488355328) :
  ∃ v' w',(Builtin.append_ #[t,t] ty #[.slice A q q,.slice (some ad) 1 1]).run P w=.ok v' w'∧w'.ownsRow 0 e 1 v' (q+1) (xs++[u])∧Touch (fun _=>False) w w'∧∀ g,v'.ownBlock=some g→w.heap.size≤g:=by
 have had:∀ j v,[u][j]? = some v→w.cell? (ad.add j)=some v:=by
  intro j v hv
  cases j with
  | zero =>
   simp only [List.getElem?_cons_zero,Option.some.injEq] at hv
   subst hv
   have e0:ad.add 0=ad:=by
    obtain ⟨b,o,s⟩:=ad
    simp only at hs
    subst hs
    unfold Addr.add
    split<;>simp_all
   rw [e0]
   exact hc
  | succ j=>simp at hv
 have hone:∀ v∈[u],v.oneCell'=true:=by
  intro v hv
  simp only [List.mem_singleton] at hv
  subst hv
  exact hu
 have fin:∀ v' w',w'.ownsRow w.heap.size e 1 v' (q+1) (xs++[u])→w.grownBy w' none→w'.ownsRow 0 e 1 v' (q+1) (xs++[u])∧Touch (fun _=>False) w w'∧∀ g,v'.ownBlock=some g→w.heap.size≤g:=by
  intro v' w' r2 r3
  refine ⟨⟨r2.1,?_⟩,⟨r3.os,r3.tape,r3.output,r3.size,fun k hk _=>r3.block k hk (by simp)⟩,?_⟩
  ·rcases r2.2 with h | ⟨g,cap,cur,h,_,hh⟩
   ·exact .inl h
   ·exact .inr ⟨g,cap,cur,h,Nat.zero_le _,hh⟩
  ·intro g hg
   rcases r2.2 with ⟨h,_⟩ | ⟨g',cap,cur,h,hge,hh⟩
   ·rw [h] at hg;simp [Value.ownBlock] at hg
   ·rw [h] at hg
    simp [Value.ownBlock] at hg
    omega
 cases A with
 | none =>
  have hq:q=0:=by
   rcases Nat.eq_zero_or_pos q with h | h
   ·exact h
   ·obtain ⟨_,_,h,_⟩:=hR.2 h
    cases h
  subst hq
  have hx:xs=[]:=List.eq_nil_of_length_eq_zero (by simpa using hR.1)
  subst hx
  obtain ⟨v',w',r1,r2,r3,_⟩:=run_append_own (P:=P) w w.heap.size t ty e i z 1 bytes h1 h2 h3 h4 h5 h6 (by decide) (.slice none 0 0) 0 [] (World.ownsRow_nil w _ e 1) ad 1 1 [u] rfl had hone b1 b2 (Nat.le_refl _)
  exact ⟨v',w',r1,fin v' w' r2 r3⟩
 | some b =>
  have holds:∀ j v,xs[j]? = some v→w.cell? (b.add j)=some v:=fun j v hv=>by
   have hq:0<q:=by
    rcases Nat.eq_zero_or_pos q with h | h
    ·subst h
     have hx:xs=[]:=List.eq_nil_of_length_eq_zero (by simpa using hR.1)
     rw [hx] at hv
     cases hv
    ·exact h
   obtain ⟨b',off,hA,_,hcell⟩:=hR.2 hq
   injection hA with hA
   subst hA
   rw [Addr.add_lit]
   exact hcell j v hv
  obtain ⟨v',w',r1,r2,r3⟩:=run_append_arg_grows (P:=P) w t ty e i z 1 bytes h1 h2 h3 h4 h5 h6 (by decide) b q q xs hR.1 holds ad 1 1 [u] rfl had (by omega) b1 b2
  exact ⟨v',w',r1,fin v' w' r2 r3⟩
theorem wp_app_run {P:Program} {o:Oper} {a:Act} {w:World} {K:Act→World→Prop} {Q:Exit→Act→World→Prop} (s x:Operand) (t:TypeId) (hop:o.op=Op.call { callee:=Callee.builtin Builtin.append,args:=#[s,x],argTypes:=#[t,t] })
  (v1 v2 v:Value) (w':World) (hs:a.eval s=v1) (hx:a.eval x=v2) (hrun:(Builtin.append_ #[t,t] o.type #[v1,v2]).run P w=.ok v w') (h:K (a.put o.dst v) w'):o.wp P a w K Q:=by
 unfold Oper.wp
 simp [execOp,hop,resolve,invoke,builtin,hs,hx,hrun,Result.andThen]
 exact h
structure FzIt.Bnd (t:FzIt) (n m:Nat):Prop where
 i:t.i<n
 row:t.row.length=m+1
 scal:∀ r∈t.head,scal r=true
 few:t.head.length≤24
 s0:0≤t.sum
 s1:t.sum≤1099511627776
set_option maxRecDepth 100000 in
set_option maxHeartbeats 4000000 in
theorem next_fz (x:FzX) (hL:Lst x.w0) {L:List PRow} (hD:DictP L) {n:Nat} {wA:Option Addr} {wc:Nat} {Z:List SV} {dA:Option Addr} {dc:Nat} (hW:DWk x.w0 x.wb L n wA wc Z dA dc) (W:World) (F:List MRow) (I:List FzIt) (hG:FzG x W F I) (hFl:F.length≤1048576) (hIl:I.length≤1048576) (t p:FzIt) (a:ArcP) (bA bH bS bR:Nat) (A:Option Addr) (q c:Nat) (v:Value) (hK:KidR x W v t p a bA bH bS bR A q c) (hB:t.Bnd n x.ln) :
  Calls Tryz.prog 125 #[ptrV x.bV,ptrV bA,ptrV bH,ptrV bS,ptrV x.bL,ptrV bR] W
   fun e W'=>e=.returned (.tuple #[])∧FzG x W' (F++(fzHit (mach L).states x.o t).map hitM) (I++(fzKids (mach L).states x.X x.o t).reverse):=by
 have hst:FzC x W:=by
  obtain ⟨_,_,_,_,_,h⟩:=hG
  exact h.st
 have hrs:=rowV_size (cutR' x.o p.row)
 obtain ⟨c1,hc1⟩:∃ c,rowV (cutR' x.o p.row)=List.toArray c:=⟨(rowV (cutR' x.o p.row)).toList,by simp⟩
 have hi1:(Tryz.prog.info? 209).map (·.size)=some c1.length:=by
  rw [hc1] at hrs
  rw [A_info_row,← hrs]
  simp
 have hu:=Tryz.underlying209
 have hks:∀ wx,Kp W wx→wx.cell? ⟨x.bV,0,none⟩=some (Value.func (.func 119) #[] #[ptrV x.bW,ptrV x.bL,ptrV x.bF,ptrV x.bT,ptrV x.bV])∧wx.cell? ⟨bA,0,none⟩=some (.int .i32 (a.1:Int))∧wx.cell? ⟨bA,1,none⟩=some (.int .i64 a.2.1)∧wx.cell? ⟨bA,2,none⟩=some (.int .i64 (a.2.2:Int))∧wx.cell? ⟨bH,0,none⟩=some (.slice A q c)∧wx.cell? ⟨bS,0,none⟩=some (.int .i64 p.sum)∧wx.cell? ⟨x.bL,0,none⟩=some (ptrV x.lb)∧wx.rangeAt bR 0 c1∧Kp W wx:=fun wx T=>by
  have ha:=hK.ba.kp T (by decide)
  refine ⟨(hst.bv.kp T (by decide)).cell0,ha.cell 0,ha.cell 1,ha.cell 2,(hK.bh.kp T (by decide)).cell0,(hK.bs.kp T (by decide)).cell0,(hst.bl.kp T (by decide)).cell0,?_,T⟩
  have:=(hK.br.kp T (by decide)).range
  rw [hc1] at this
  exact this
 obtain ⟨iR,hiR,hr0,hr1,hr2⟩:=info_parts infoRune
 have ht:=hK.t
 subst ht
 have z0:IntKind.i64.wrap (p.sum+a.2.1)=p.sum+a.2.1:=IntWalk.i64_in _ (by have:=hB.s0;have:=hB.s1;simp only at *;omega)
 have hro:(cutR' x.o p.row)=cutR' x.o p.row:=rfl
 have HSTP:=hide (fun wx T=>step_any wx x.lb x.lA x.ln x.lc x.X x.o (hst.fz (W':=wx) (S:=fun _=>False) T (fun _ _ _ _ f=>f)).lev p.row hK.row a.1)
 have HRDH:=hide hK.rd
 have HQB:=hide (And.intro hK.len (And.intro hK.le (And.intro hK.mx hK.few)))
 rw [hc1] at HSTP
 have HKS:=hide hks
 have HK:=hide hK
 have HB:=hide hB
 have HL:=hide hL
 have HD:=hide hD
 have HWK:=hide hW
 have HFL:=hide hFl
 have HIL:=hide hIl
 have HG:=hide hG
 have HST:=hide hst
 have HC1:=hide hc1
 clear hks hK hB hL hD hW hFl hIl hG hst hc1 hrs hro
 go_enter Tryz.func125,Tryz.ntmps125
 go_wp2_with fail
 refine wp_region_held_drew (S:=fun wx=>wx.cell? ⟨x.bV,0,none⟩=some (Value.func (.func 119) #[] #[ptrV x.bW,ptrV x.bL,ptrV x.bF,ptrV x.bT,ptrV x.bV])∧wx.cell? ⟨bA,0,none⟩=some (.int .i32 (a.1:Int))∧wx.cell? ⟨bA,1,none⟩=some (.int .i64 a.2.1)∧wx.cell? ⟨bA,2,none⟩=some (.int .i64 (a.2.2:Int))∧wx.cell? ⟨bH,0,none⟩=some (.slice A q c)∧wx.cell? ⟨bS,0,none⟩=some (.int .i64 p.sum)∧wx.cell? ⟨x.bL,0,none⟩=some (ptrV x.lb)∧wx.rangeAt bR 0 c1∧Kp W wx) (by kernel_rfl) (HKS.out _ (Kp.quiet (Touch.refl _ _).drew)) (fun hHeld=>?_)
 refine wpAnyH_take (i:=0) (v:=?v0) rfl (by kernel_rfl) (by kernel_rfl) (by kernel_rfl) (fun _ _ _ h=>h) (Or.inl ⟨by kernel_rfl,?h0⟩) hHeld ?_
 case h0=>rintro wq ⟨s0,s1,s2,s3,s4,s5,s6,s7,s8⟩;go_simp;with_reducible rfl
 simp only [List.getElem_toArray,List.getElem_cons_succ,List.getElem_cons_zero,Act.put,List.setIfInBounds_toArray,List.set_cons_zero,List.set_cons_succ]
 refine wpAnyH_take (i:=1) (v:=?v1) rfl (by kernel_rfl) (by kernel_rfl) (by kernel_rfl) (fun _ _ _ h=>h) (Or.inl ⟨by kernel_rfl,?h1⟩) hHeld ?_
 case h1=>rintro wq ⟨s0,s1,s2,s3,s4,s5,s6,s7,s8⟩;go_simp;with_reducible rfl
 simp only [List.getElem_toArray,List.getElem_cons_succ,List.getElem_cons_zero,Act.put,List.setIfInBounds_toArray,List.set_cons_zero,List.set_cons_succ]
 refine wpAnyH_take (i:=2) (v:=?v2) rfl (by kernel_rfl) (by kernel_rfl) (by kernel_rfl) (fun _ _ _ h=>h) (Or.inl ⟨by kernel_rfl,?h2⟩) hHeld ?_
 case h2=>rintro wq ⟨s0,s1,s2,s3,s4,s5,s6,s7,s8⟩;go_simp;with_reducible rfl
 simp only [List.getElem_toArray,List.getElem_cons_succ,List.getElem_cons_zero,Act.put,List.setIfInBounds_toArray,List.set_cons_zero,List.set_cons_succ]
 refine wpAnyH_take (i:=3) (v:=?v3) rfl (by kernel_rfl) (by kernel_rfl) (by kernel_rfl) (fun _ _ _ h=>h) (Or.inl ⟨by kernel_rfl,?h3⟩) hHeld ?_
 case h3=>rintro wq ⟨s0,s1,s2,s3,s4,s5,s6,s7,s8⟩;go_simp;with_reducible rfl
 simp only [List.getElem_toArray,List.getElem_cons_succ,List.getElem_cons_zero,Act.put,List.setIfInBounds_toArray,List.set_cons_zero,List.set_cons_succ]
 refine wpAnyH_take (i:=5) (v:=?v5) rfl (by kernel_rfl) (by kernel_rfl) (by kernel_rfl) (fun _ _ _ h=>h) (Or.inl ⟨by kernel_rfl,?h5⟩) hHeld ?_
 case h5=>rintro wq ⟨s0,s1,s2,s3,s4,s5,s6,s7,s8⟩;go_simp;with_reducible rfl
 simp only [List.getElem_toArray,List.getElem_cons_succ,List.getElem_cons_zero,Act.put,List.setIfInBounds_toArray,List.set_cons_zero,List.set_cons_succ]
 refine wpAnyH_take (i:=6) (v:=?v6) rfl (by kernel_rfl) (by kernel_rfl) (by kernel_rfl) (fun _ _ _ h=>h) (Or.inl ⟨by kernel_rfl,?h6⟩) hHeld ?_
 case h6=>rintro wq ⟨s0,s1,s2,s3,s4,s5,s6,s7,s8⟩;go_simp;with_reducible rfl
 simp only [List.getElem_toArray,List.getElem_cons_succ,List.getElem_cons_zero,Act.put,List.setIfInBounds_toArray,List.set_cons_zero,List.set_cons_succ]
 refine wpAnyH_take (i:=9) (v:=?v9) rfl (by kernel_rfl) (by kernel_rfl) (by kernel_rfl) (fun _ _ _ h=>h) (Or.inl ⟨by kernel_rfl,?h9⟩) hHeld ?_
 case h9=>rintro wq ⟨s0,s1,s2,s3,s4,s5,s6,s7,s8⟩;go_simp;with_reducible rfl
 simp only [List.getElem_toArray,List.getElem_cons_succ,List.getElem_cons_zero,Act.put,List.setIfInBounds_toArray,List.set_cons_zero,List.set_cons_succ]
 refine wpAnyH_take (i:=10) (v:=?v10) rfl (by kernel_rfl) (by kernel_rfl) (by kernel_rfl) (fun _ _ _ h=>h) (Or.inl ⟨by kernel_rfl,?h10⟩) hHeld ?_
 case h10=>rintro wq ⟨s0,s1,s2,s3,s4,s5,s6,s7,s8⟩;go_simp;with_reducible rfl
 simp only [List.getElem_toArray,List.getElem_cons_succ,List.getElem_cons_zero,Act.put,List.setIfInBounds_toArray,List.set_cons_zero,List.set_cons_succ]
 refine wpAnyH_take (i:=11) (v:=?v11) rfl (by kernel_rfl) (by kernel_rfl) (by kernel_rfl) (fun _ _ _ h=>h) (Or.inl ⟨by kernel_rfl,?h11⟩) hHeld ?_
 case h11=>rintro wq ⟨s0,s1,s2,s3,s4,s5,s6,s7,s8⟩;go_simp;with_reducible rfl
 simp only [List.getElem_toArray,List.getElem_cons_succ,List.getElem_cons_zero,Act.put,List.setIfInBounds_toArray,List.set_cons_zero,List.set_cons_succ]
 refine wpAnyH_take (i:=12) (v:=?v12) rfl (by kernel_rfl) (by kernel_rfl) (by kernel_rfl) (fun _ _ _ h=>h) (Or.inl ⟨by kernel_rfl,?h12⟩) hHeld ?_
 case h12=>rintro wq ⟨s0,s1,s2,s3,s4,s5,s6,s7,s8⟩;go_simp;with_reducible rfl
 simp only [List.getElem_toArray,List.getElem_cons_succ,List.getElem_cons_zero,Act.put,List.setIfInBounds_toArray,List.set_cons_zero,List.set_cons_succ]
 refine wpAnyH_take (i:=13) (v:=?v13) rfl (by kernel_rfl) (by kernel_rfl) (by kernel_rfl) (fun _ _ _ h=>h) (Or.inl ⟨by kernel_rfl,?h13⟩) hHeld ?_
 case h13=>rintro wq ⟨s0,s1,s2,s3,s4,s5,s6,s7,s8⟩;go_simp;with_reducible rfl
 simp only [List.getElem_toArray,List.getElem_cons_succ,List.getElem_cons_zero,Act.put,List.setIfInBounds_toArray,List.set_cons_zero,List.set_cons_succ]
 refine wpAnyH_take (i:=14) (v:=.agg (List.toArray c1)) rfl (by kernel_rfl) (by kernel_rfl) (by kernel_rfl) (fun _ _ _ h=>h) ?y14 hHeld ?_
 case y14=>exact yieldsIf_load_mid (by kernel_rfl) 209 (.tmp 5) rfl bR 0 rfl c1 _ (fun w h=>h.2.2.2.2.2.2.2.1) hu rfl hi1
 simp only [List.getElem_toArray,List.getElem_cons_succ,List.getElem_cons_zero,Act.put,List.setIfInBounds_toArray,List.set_cons_zero,List.set_cons_succ]
 refine wpAnyH_take (i:=15) (v:=?v15) rfl (by kernel_rfl) (by kernel_rfl) (by kernel_rfl) (fun _ _ _ h=>h) (Or.inl ⟨by kernel_rfl,?h15⟩) hHeld ?_
 case h15=>rintro wq ⟨s0,s1,s2,s3,s4,s5,s6,s7,s8⟩;go_simp;with_reducible rfl
 simp only [List.getElem_toArray,List.getElem_cons_succ,List.getElem_cons_zero,Act.put,List.setIfInBounds_toArray,List.set_cons_zero,List.set_cons_succ]
 refine wpAnyH_take (i:=16) (v:=?v16) rfl (by kernel_rfl) (by kernel_rfl) (by kernel_rfl) (fun _ _ _ h=>h) (Or.inl ⟨by kernel_rfl,?h16⟩) hHeld ?_
 case h16=>rintro wq ⟨s0,s1,s2,s3,s4,s5,s6,s7,s8⟩;go_simp;with_reducible rfl
 simp only [List.getElem_toArray,List.getElem_cons_succ,List.getElem_cons_zero,Act.put,List.setIfInBounds_toArray,List.set_cons_zero,List.set_cons_succ]
 refine wpAnyH_ready (rs:=[4,7]) (by kernel_rfl) (by simp) ?_
 refine AllReadyH.cons rfl (fun K hK=>?_) ?_
 ·go_simp
  refine (clip_any A q c HQB.out.2.1 HQB.out.2.2.1 _).mono ?_
  rintro e w' ⟨rfl,rfl⟩
  go_simp
  refine hK.out _ _ (HKS.out _ (Kp.quiet ((Touch.refl _ _).drew))) (fun hHeld=>?_)
  clear hK K
  try simp only [List.getElem_toArray,List.getElem_cons_succ,List.getElem_cons_zero,Act.put,List.setIfInBounds_toArray,List.set_cons_zero,List.set_cons_succ]
  refine wpAnyH_ready (rs:=[7]) (by kernel_rfl) (by simp) ?_
  refine AllReadyH.cons rfl (fun K hK=>?_) AllReadyH.nil
  go_simp
  refine hK.out _ _ (HKS.out _ (Kp.quiet ((Touch.refl _ _).drew.alloc _))) (fun hHeld=>?_)
  clear hK K
  try simp only [List.getElem_toArray,List.getElem_cons_succ,List.getElem_cons_zero,Act.put,List.setIfInBounds_toArray,List.set_cons_zero,List.set_cons_succ]
  refine wpAnyH_ready (rs:=[8]) (by kernel_rfl) (by simp) ?_
  refine AllReadyH.cons rfl (fun K hK=>?_) AllReadyH.nil
  obtain ⟨W2,hW2⟩:∃ y,y=(W.alloc (.cells #[.int .i32 (a.1:Int)] 21)).drew:=⟨_,rfl⟩
  have hT2:Touch (fun _=>False) W W2:=by rw [hW2];exact ((Touch.refl _ _).alloc _).drew
  obtain ⟨B1,hB1⟩:∃ y,y=W.heap.size:=⟨_,rfl⟩
  have hcl:W2.cell? ⟨B1,0,none⟩=some (.int .i32 (a.1:Int)):=by rw [hW2,hB1];exact (Blk.new W 21 #[.int .i32 (a.1:Int)]).drew.cell0
  obtain ⟨v6,W6,hr6,ho6,hT6,hy6⟩:=run_clip_app (P:=Tryz.prog) W2 182 182 21 iR _ 4 Tryz.underlying182 hiR hr0 hr1 hr2 rfl A q _ (HRDH.out.rd.touch hT2 (fun _ _ f=>f)) ⟨B1,0,none⟩ (.int .i32 (a.1:Int)) rfl hcl rfl (by have:=HQB.out.2.2.2;unfold maxLen;omega) (by have:=HQB.out.2.2.2;omega)
  obtain ⟨A6,c6,hv6,hl6,hm6⟩:=own_len ho6
  subst hv6
  have HW2:=hide hW2
  have HB1:=hide hB1
  have HT6:=hide (hT2.then hT6)
  have HO6:=hide ho6
  have HR6:=hide hr6
  rw [hW2] at HR6
  have HL6:=hide (And.intro hl6 hm6)
  clear hT2 hcl hT6 ho6 hr6 hy6 hl6 hm6 hW2 hB1
  rw [if_pos (by rfl)]
  refine wp_app_run (.tmp 10) (.tmp 13) 182 rfl (.slice A q q) (.slice (some ⟨B1,0,none⟩) 1 1) _ W6 rfl (by rw [HB1.out];rfl) HR6.out ?_
  refine hK.out _ _ (HKS.out _ (Kp.quiet (HT6.out))) (fun hHeld=>?_)
  clear hK K
  try simp only [List.getElem_toArray,List.getElem_cons_succ,List.getElem_cons_zero,Act.put,List.setIfInBounds_toArray,List.set_cons_zero,List.set_cons_succ]
  refine wpAnyH_ready (rs:=[17]) (by kernel_rfl) (by simp) ?_
  refine AllReadyH.cons rfl (fun K hK=>?_) AllReadyH.nil
  go_simp
  refine (HSTP.out _ HT6.out).mono ?_
  rintro e w7 ⟨rfl,T7⟩
  have HT7:=hide (HT6.out.then T7)
  have HO7:=hide (own_touch HO6.out T7 (fun _ _ f=>f))
  clear T7
  go_simp
  refine hK.out _ _ (HKS.out _ (Kp.quiet (HT7.out))) (fun hHeld=>?_)
  clear hK K
  try simp only [List.getElem_toArray,List.getElem_cons_succ,List.getElem_cons_zero,Act.put,List.setIfInBounds_toArray,List.set_cons_zero,List.set_cons_succ]
  refine wpAnyH_ready (rs:=[18]) (by kernel_rfl) (by simp) ?_
  refine AllReadyH.cons rfl (fun K hK=>?_) AllReadyH.nil
  go_simp
  have hlen:(p.head++[a.1]).length=q+1:=by rw [List.length_append,HQB.out.1];rfl
  have hrow:RdT w7 21 1 A6 (q+1) ((p.head++[a.1]).map runeV):=by
   have:=RdT.of_own HO7.out
   rw [List.map_append]
   exact this
  obtain ⟨hg7,hk7⟩:=(HG.out.quiet HT7.out).re
  have hv:=visit_fz { x with wK:=w7 } HL.out HD.out HWK.out w7 F I hg7 HFL.out HIL.out ⟨a.2.2,p.head++[a.1],p.sum+a.2.1,stepD x.X p.row a.1⟩ A6 c6 ⟨HB.out.i,HB.out.row,HB.out.scal,HB.out.few,HB.out.s0,HB.out.s1,by rw [hlen];exact hrow,by rw [hlen];have:=HL6.out;omega,HL6.out.2⟩
  simp only at hv
  rw [hlen] at hv
  refine hv.mono ?_
  rintro e w8 ⟨rfl,hG8⟩
  obtain ⟨hG8,hk8⟩:=hG8.back hk7
  have HG8:=hide hG8
  have HK8:=hide ((Kp.quiet HT7.out).trans hk8)
  clear hG8 hv hlen hrow hg7 hk7 hk8
  go_simp
  refine hK.out _ _ (HKS.out _ HK8.out) (fun hHeld=>?_)
  clear hK K
  refine wpAnyH_done (by kernel_rfl) ?_ _
  go_wp2_with fail
  go_end0
  exact ⟨rfl,HG8.out⟩
 refine AllReadyH.cons rfl (fun K hK=>?_) AllReadyH.nil
 go_simp
 refine hK.out _ _ (HKS.out _ (Kp.quiet ((Touch.refl _ _).drew.alloc _))) (fun hHeld=>?_)
 clear hK K
 try simp only [List.getElem_toArray,List.getElem_cons_succ,List.getElem_cons_zero,Act.put,List.setIfInBounds_toArray,List.set_cons_zero,List.set_cons_succ]
 refine wpAnyH_ready (rs:=[4]) (by kernel_rfl) (by simp) ?_
 refine AllReadyH.cons rfl (fun K hK=>?_) AllReadyH.nil
 go_simp
 refine (clip_any A q c HQB.out.2.1 HQB.out.2.2.1 _).mono ?_
 rintro e w' ⟨rfl,rfl⟩
 go_simp
 refine hK.out _ _ (HKS.out _ (Kp.quiet ((Touch.refl _ _).drew.alloc _))) (fun hHeld=>?_)
 clear hK K
 try simp only [List.getElem_toArray,List.getElem_cons_succ,List.getElem_cons_zero,Act.put,List.setIfInBounds_toArray,List.set_cons_zero,List.set_cons_succ]
 refine wpAnyH_ready (rs:=[8]) (by kernel_rfl) (by simp) ?_
 refine AllReadyH.cons rfl (fun K hK=>?_) AllReadyH.nil
 obtain ⟨W2,hW2⟩:∃ y,y=(W.alloc (.cells #[.int .i32 (a.1:Int)] 21)).drew:=⟨_,rfl⟩
 have hT2:Touch (fun _=>False) W W2:=by rw [hW2];exact ((Touch.refl _ _).alloc _).drew
 obtain ⟨B1,hB1⟩:∃ y,y=W.heap.size:=⟨_,rfl⟩
 have hcl:W2.cell? ⟨B1,0,none⟩=some (.int .i32 (a.1:Int)):=by rw [hW2,hB1];exact (Blk.new W 21 #[.int .i32 (a.1:Int)]).drew.cell0
 obtain ⟨v6,W6,hr6,ho6,hT6,hy6⟩:=run_clip_app (P:=Tryz.prog) W2 182 182 21 iR _ 4 Tryz.underlying182 hiR hr0 hr1 hr2 rfl A q _ (HRDH.out.rd.touch hT2 (fun _ _ f=>f)) ⟨B1,0,none⟩ (.int .i32 (a.1:Int)) rfl hcl rfl (by have:=HQB.out.2.2.2;unfold maxLen;omega) (by have:=HQB.out.2.2.2;omega)
 obtain ⟨A6,c6,hv6,hl6,hm6⟩:=own_len ho6
 subst hv6
 have HW2:=hide hW2
 have HB1:=hide hB1
 have HT6:=hide (hT2.then hT6)
 have HO6:=hide ho6
 have HR6:=hide hr6
 rw [hW2] at HR6
 have HL6:=hide (And.intro hl6 hm6)
 clear hT2 hcl hT6 ho6 hr6 hy6 hl6 hm6 hW2 hB1
 rw [if_pos (by rfl)]
 refine wp_app_run (.tmp 10) (.tmp 13) 182 rfl (.slice A q q) (.slice (some ⟨B1,0,none⟩) 1 1) _ W6 rfl (by rw [HB1.out];rfl) HR6.out ?_
 refine hK.out _ _ (HKS.out _ (Kp.quiet (HT6.out))) (fun hHeld=>?_)
 clear hK K
 try simp only [List.getElem_toArray,List.getElem_cons_succ,List.getElem_cons_zero,Act.put,List.setIfInBounds_toArray,List.set_cons_zero,List.set_cons_succ]
 refine wpAnyH_ready (rs:=[17]) (by kernel_rfl) (by simp) ?_
 refine AllReadyH.cons rfl (fun K hK=>?_) AllReadyH.nil
 go_simp
 refine (HSTP.out _ HT6.out).mono ?_
 rintro e w7 ⟨rfl,T7⟩
 have HT7:=hide (HT6.out.then T7)
 have HO7:=hide (own_touch HO6.out T7 (fun _ _ f=>f))
 clear T7
 go_simp
 refine hK.out _ _ (HKS.out _ (Kp.quiet (HT7.out))) (fun hHeld=>?_)
 clear hK K
 try simp only [List.getElem_toArray,List.getElem_cons_succ,List.getElem_cons_zero,Act.put,List.setIfInBounds_toArray,List.set_cons_zero,List.set_cons_succ]
 refine wpAnyH_ready (rs:=[18]) (by kernel_rfl) (by simp) ?_
 refine AllReadyH.cons rfl (fun K hK=>?_) AllReadyH.nil
 go_simp
 have hlen:(p.head++[a.1]).length=q+1:=by rw [List.length_append,HQB.out.1];rfl
 have hrow:RdT w7 21 1 A6 (q+1) ((p.head++[a.1]).map runeV):=by
  have:=RdT.of_own HO7.out
  rw [List.map_append]
  exact this
 obtain ⟨hg7,hk7⟩:=(HG.out.quiet HT7.out).re
 have hv:=visit_fz { x with wK:=w7 } HL.out HD.out HWK.out w7 F I hg7 HFL.out HIL.out ⟨a.2.2,p.head++[a.1],p.sum+a.2.1,stepD x.X p.row a.1⟩ A6 c6 ⟨HB.out.i,HB.out.row,HB.out.scal,HB.out.few,HB.out.s0,HB.out.s1,by rw [hlen];exact hrow,by rw [hlen];have:=HL6.out;omega,HL6.out.2⟩
 simp only at hv
 rw [hlen] at hv
 refine hv.mono ?_
 rintro e w8 ⟨rfl,hG8⟩
 obtain ⟨hG8,hk8⟩:=hG8.back hk7
 have HG8:=hide hG8
 have HK8:=hide ((Kp.quiet HT7.out).trans hk8)
 clear hG8 hv hlen hrow hg7 hk7 hk8
 go_simp
 refine hK.out _ _ (HKS.out _ HK8.out) (fun hHeld=>?_)
 clear hK K
 refine wpAnyH_done (by kernel_rfl) ?_ _
 go_wp2_with fail
 go_end0
 exact ⟨rfl,HG8.out⟩
end Go.Proofs.YtbijfoeaemceiaaGreatDoor
