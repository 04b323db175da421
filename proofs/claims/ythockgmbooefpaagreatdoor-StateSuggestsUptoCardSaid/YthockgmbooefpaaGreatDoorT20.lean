/- What the law rests on, part 20. No condition but those that each theorem names. -/
import Derived.Test.YthockgmbooefpaaGreatDoorT19
import Derived.Test.YthockgmbooefpaaGreatDoorT17
set_option linter.unusedSectionVars false
set_option linter.unusedSimpArgs false
set_option linter.unusedVariables false
set_option maxRecDepth 100000
set_option maxHeartbeats 4000000
namespace Go.Proofs.YthockgmbooefpaaGreatDoor
open Go.RowKit Go.Shelf
theorem clip_any (A:Option Addr) (q c:Nat) (hq:q≤c) (hc:c≤maxLen) (w:World) :
  Calls Tryz.prog 96 #[.slice A q c] w fun e w'=>e=.returned (.slice A q q)∧w'=w:=by
 unfold maxLen at hc
 have y0:(0:Int)≤(q:Int):=by omega
 have y1:(q:Int)≤(c:Int):=by omega
 go_enter Tryz.func96,Tryz.ntmps96
 go_wp2_with fail
 go_ret
 exact ⟨rfl,rfl⟩
theorem run_clip_app {P:Program} (w:World) (t ty e:TypeId) (i:TypeInfo) (z:Value) (bytes:Nat) (h1:P.underlying t=some (.slice e)) (h2:P.info? e=some i) (h3:i.zero=some z) (h4:i.size=1) (h5:i.bytes=bytes) (h6:z.cells.size=1)
  (A:Option Addr) (q:Nat) (xs:List Value) (hR:Reads w 1 A q xs) (ad:Addr) (u:Value) (hu:u.oneCell'=true) (hc:w.cell? ad=some u) (hs:ad.spot=none) (b1:q+1≤maxLen) (b2:(q+1)*bytes≤140737488355328) :
  ∃ v' w',(Builtin.append_ #[t,t] ty #[.slice A q q,.slice (some ad) 1 1]).run P w=.ok v' w'∧w'.ownsRow 0 e 1 v' (q+1) (xs++[u])∧Touch (fun _=>False) w w'∧∀ g,v'.ownBlock=some g→w.heap.size≤g:=by
 have had:∀ j v,[u][j]? = some v→w.cell? (ad.add j)=some v:=by
  intro j v hv
  cases j with
  | zero =>
   simp only [List.getElem?_cons_zero,Option.some.injEq] at hv
   subst hv
   have e0:ad.add 0=ad:=by
    obtain ⟨b,o,s⟩:=ad
    simp only at hs
    subst hs
    unfold Addr.add
    split<;>simp_all
   rw [e0]
   exact hc
  | succ j=>simp at hv
 have hone:∀ v∈[u],v.oneCell'=true:=by
  intro v hv
  simp only [List.mem_singleton] at hv
  subst hv
  exact hu
 have fin:∀ v' w',w'.ownsRow w.heap.size e 1 v' (q+1) (xs++[u])→w.grownBy w' none→w'.ownsRow 0 e 1 v' (q+1) (xs++[u])∧Touch (fun _=>False) w w'∧∀ g,v'.ownBlock=some g→w.heap.size≤g:=by
  intro v' w' r2 r3
  refine ⟨⟨r2.1,?_⟩,⟨r3.os,r3.tape,r3.output,r3.size,fun k hk _=>r3.block k hk (by simp)⟩,?_⟩
  ·rcases r2.2 with h | ⟨g,cap,cur,h,_,hh⟩
   ·exact .inl h
   ·exact .inr ⟨g,cap,cur,h,Nat.zero_le _,hh⟩
  ·intro g hg
   rcases r2.2 with ⟨h,_⟩ | ⟨g',cap,cur,h,hge,hh⟩
   ·rw [h] at hg;simp [Value.ownBlock] at hg
   ·rw [h] at hg
    simp [Value.ownBlock] at hg
    omega
 cases A with
 | none =>
  have hq:q=0:=by
   rcases Nat.eq_zero_or_pos q with h | h
   ·exact h
   ·obtain ⟨_,_,h,_⟩:=hR.2 h
    cases h
  subst hq
  have hx:xs=[]:=List.eq_nil_of_length_eq_zero (by simpa using hR.1)
  subst hx
  obtain ⟨v',w',r1,r2,r3,_⟩:=run_append_own (P:=P) w w.heap.size t ty e i z 1 bytes h1 h2 h3 h4 h5 h6 (by decide) (.slice none 0 0) 0 [] (World.ownsRow_nil w _ e 1) ad 1 1 [u] rfl had hone b1 b2 (Nat.le_refl _)
  exact ⟨v',w',r1,fin v' w' r2 r3⟩
 | some b =>
  have holds:∀ j v,xs[j]? = some v→w.cell? (b.add j)=some v:=fun j v hv=>by
   have hq:0<q:=by
    rcases Nat.eq_zero_or_pos q with h | h
    ·subst h
     have hx:xs=[]:=List.eq_nil_of_length_eq_zero (by simpa using hR.1)
     rw [hx] at hv
     cases hv
    ·exact h
   obtain ⟨b',off,hA,_,hcell⟩:=hR.2 hq
   injection hA with hA
   subst hA
   rw [Addr.add_lit]
   exact hcell j v hv
  obtain ⟨v',w',r1,r2,r3⟩:=run_append_arg_grows (P:=P) w t ty e i z 1 bytes h1 h2 h3 h4 h5 h6 (by decide) b q q xs hR.1 holds ad 1 1 [u] rfl had (by omega) b1 b2
  exact ⟨v',w',r1,fin v' w' r2 r3⟩
theorem wp_app_run {P:Program} {o:Oper} {a:Act} {w:World} {K:Act→World→Prop} {Q:Exit→Act→World→Prop} (s x:Operand) (t:TypeId) (hop:o.op=Op.call { callee:=Callee.builtin Builtin.append,args:=#[s,x],argTypes:=#[t,t] })
  (v1 v2 v:Value) (w':World) (hs:a.eval s=v1) (hx:a.eval x=v2) (hrun:(Builtin.append_ #[t,t] o.type #[v1,v2]).run P w=.ok v w') (h:K (a.put o.dst v) w'):o.wp P a w K Q:=by
 unfold Oper.wp
 simp [execOp,hop,resolve,invoke,builtin,hs,hx,hrun,Result.andThen]
 exact h
structure FzIt.Bnd (t:FzIt) (n m:Nat):Prop where
 i:t.i<n
 row:t.row.length=m+1
 scal:∀ r∈t.head,scal r=true
 few:t.head.length≤24
 s0:0≤t.sum
 s1:t.sum≤1099511627776
theorem next_fz (x:FzX) (hL:Lst x.w0) {L:List PRow} (hD:DictP L) {n:Nat} {wA:Option Addr} {wc:Nat} {Z:List SV} {dA:Option Addr} {dc:Nat} (hW:DWk x.w0 x.wb L n wA wc Z dA dc) (W:World) (F:List MRow) (I:List FzIt) (hG:FzG x W F I) (hFl:F.length≤1048576) (hIl:I.length≤1048576) (t p:FzIt) (a:ArcP) (bA bH bS bR:Nat) (A:Option Addr) (q c:Nat) (v:Value) (hK:KidR x W v t p a bA bH bS bR A q c) (hB:t.Bnd n x.ln) :
  Calls Tryz.prog 95 #[ptrV x.bV,ptrV bA,ptrV bH,ptrV bS,ptrV x.bL,ptrV bR] W
   fun e W'=>e=.returned (.tuple #[])∧FzG x W' (F++(fzHit (mach L).states x.o t).map hitM) (I++(fzKids (mach L).states x.X x.o t).reverse):=by
 have hst:FzC x W:=by
  obtain ⟨_,_,_,_,_,h⟩:=hG
  exact h.st
 have hrs:=rowV_size (cutR' x.o p.row)
 obtain ⟨c1,hc1⟩:∃ c,rowV (cutR' x.o p.row)=List.toArray c:=⟨(rowV (cutR' x.o p.row)).toList,by simp⟩
 have hi1:(Tryz.prog.info? 181).map (·.size)=some c1.length:=by
  rw [hc1] at hrs
  rw [A_info_row,← hrs]
  simp
 have hu:=Tryz.underlying181
 have hks:∀ wx,Kp W wx→wx.cell? ⟨x.bV,0,none⟩=some (Value.func (.func 89) #[] #[ptrV x.bW,ptrV x.bL,ptrV x.bF,ptrV x.bT,ptrV x.bV])∧wx.cell? ⟨bA,0,none⟩=some (.int .i32 (a.1:Int))∧wx.cell? ⟨bA,1,none⟩=some (.int .i64 a.2.1)∧wx.cell? ⟨bA,2,none⟩=some (.int .i64 (a.2.2:Int))∧wx.cell? ⟨bH,0,none⟩=some (.slice A q c)∧wx.cell? ⟨bS,0,none⟩=some (.int .i64 p.sum)∧wx.cell? ⟨x.bL,0,none⟩=some (ptrV x.lb)∧wx.rangeAt bR 0 c1∧Kp W wx:=fun wx T=>by
  have ha:=hK.ba.kp T (by decide)
  refine ⟨(hst.bv.kp T (by decide)).cell0,ha.cell 0,ha.cell 1,ha.cell 2,(hK.bh.kp T (by decide)).cell0,(hK.bs.kp T (by decide)).cell0,(hst.bl.kp T (by decide)).cell0,?_,T⟩
  have:=(hK.br.kp T (by decide)).range
  rw [hc1] at this
  exact this
 obtain ⟨iR,hiR,hr0,hr1,hr2⟩:=info_parts infoRune
 have ht:=hK.t
 subst ht
 have z0:IntKind.i64.wrap (p.sum+a.2.1)=p.sum+a.2.1:=IntWalk.i64_in _ (by have:=hB.s0;have:=hB.s1;simp only at *;omega)
 have hro:(cutR' x.o p.row)=cutR' x.o p.row:=rfl
 have HSTP:=hide (fun wx T=>step_any wx x.lb x.lA x.ln x.lc x.X x.o (hst.fz (W':=wx) (S:=fun _=>False) T (fun _ _ _ _ f=>f)).lev p.row hK.row a.1)
 have HRDH:=hide hK.rd
 have HQB:=hide (And.intro hK.len (And.intro hK.le (And.intro hK.mx hK.few)))
 rw [hc1] at HSTP
 have HKS:=hide hks
 have HK:=hide hK
 have HB:=hide hB
 have HL:=hide hL
 have HD:=hide hD
 have HWK:=hide hW
 have HFL:=hide hFl
 have HIL:=hide hIl
 have HG:=hide hG
 have HST:=hide hst
 have HC1:=hide hc1
 clear hks hK hB hL hD hW hFl hIl hG hst hc1 hrs hro
 go_enter Tryz.func95,Tryz.ntmps95
 go_wp2_with fail
 refine wp_region_held_drew (S:=fun wx=>wx.cell? ⟨x.bV,0,none⟩=some (Value.func (.func 89) #[] #[ptrV x.bW,ptrV x.bL,ptrV x.bF,ptrV x.bT,ptrV x.bV])∧wx.cell? ⟨bA,0,none⟩=some (.int .i32 (a.1:Int))∧wx.cell? ⟨bA,1,none⟩=some (.int .i64 a.2.1)∧wx.cell? ⟨bA,2,none⟩=some (.int .i64 (a.2.2:Int))∧wx.cell? ⟨bH,0,none⟩=some (.slice A q c)∧wx.cell? ⟨bS,0,none⟩=some (.int .i64 p.sum)∧wx.cell? ⟨x.bL,0,none⟩=some (ptrV x.lb)∧wx.rangeAt bR 0 c1∧Kp W wx) (by kernel_rfl) (HKS.out _ (Kp.quiet (Touch.refl _ _).drew)) (fun hHeld=>?_)
 refine wpAnyH_take (i:=0) (v:=?v0) rfl (by kernel_rfl) (by kernel_rfl) (by kernel_rfl) (fun _ _ _ h=>h) (Or.inl ⟨by kernel_rfl,?h0⟩) hHeld ?_
 case h0=>rintro wq ⟨s0,s1,s2,s3,s4,s5,s6,s7,s8⟩;go_simp;with_reducible rfl
 simp only [List.getElem_toArray,List.getElem_cons_succ,List.getElem_cons_zero,Act.put,List.setIfInBounds_toArray,List.set_cons_zero,List.set_cons_succ]
 refine wpAnyH_take (i:=1) (v:=?v1) rfl (by kernel_rfl) (by kernel_rfl) (by kernel_rfl) (fun _ _ _ h=>h) (Or.inl ⟨by kernel_rfl,?h1⟩) hHeld ?_
 case h1=>rintro wq ⟨s0,s1,s2,s3,s4,s5,s6,s7,s8⟩;go_simp;with_reducible rfl
 simp only [List.getElem_toArray,List.getElem_cons_succ,List.getElem_cons_zero,Act.put,List.setIfInBounds_toArray,List.set_cons_zero,List.set_cons_succ]
 refine wpAnyH_take (i:=2) (v:=?v2) rfl (by kernel_rfl) (by kernel_rfl) (by kernel_rfl) (fun _ _ _ h=>h) (Or.inl ⟨by kernel_rfl,?h2⟩) hHeld ?_
 case h2=>rintro wq ⟨s0,s1,s2,s3,s4,s5,s6,s7,s8⟩;go_simp;with_reducible rfl
 simp only [List.getElem_toArray,List.getElem_cons_succ,List.getElem_cons_zero,Act.put,List.setIfInBounds_toArray,List.set_cons_zero,List.set_cons_succ]
 refine wpAnyH_take (i:=3) (v:=?v3) rfl (by kernel_rfl) (by kernel_rfl) (by kernel_rfl) (fun _ _ _ h=>h) (Or.inl ⟨by kernel_rfl,?h3⟩) hHeld ?_
 case h3=>rintro wq ⟨s0,s1,s2,s3,s4,s5,s6,s7,s8⟩;go_simp;with_reducible rfl
 simp only [List.getElem_toArray,List.getElem_cons_succ,List.getElem_cons_zero,Act.put,List.setIfInBounds_toArray,List.set_cons_zero,List.set_cons_succ]
 refine wpAnyH_take (i:=5) (v:=?v5) rfl (by kernel_rfl) (by kernel_rfl) (by kernel_rfl) (fun _ _ _ h=>h) (Or.inl ⟨by kernel_rfl,?h5⟩) hHeld ?_
 case h5=>rintro wq ⟨s0,s1,s2,s3,s4,s5,s6,s7,s8⟩;go_simp;with_reducible rfl
 simp only [List.getElem_toArray,List.getElem_cons_succ,List.getElem_cons_zero,Act.put,List.setIfInBounds_toArray,List.set_cons_zero,List.set_cons_succ]
 refine wpAnyH_take (i:=6) (v:=?v6) rfl (by kernel_rfl) (by kernel_rfl) (by kernel_rfl) (fun _ _ _ h=>h) (Or.inl ⟨by kernel_rfl,?h6⟩) hHeld ?_
 case h6=>rintro wq ⟨s0,s1,s2,s3,s4,s5,s6,s7,s8⟩;go_simp;with_reducible rfl
 simp only [List.getElem_toArray,List.getElem_cons_succ,List.getElem_cons_zero,Act.put,List.setIfInBounds_toArray,List.set_cons_zero,List.set_cons_succ]
 refine wpAnyH_take (i:=9) (v:=?v9) rfl (by kernel_rfl) (by kernel_rfl) (by kernel_rfl) (fun _ _ _ h=>h) (Or.inl ⟨by kernel_rfl,?h9⟩) hHeld ?_
 case h9=>rintro wq ⟨s0,s1,s2,s3,s4,s5,s6,s7,s8⟩;go_simp;with_reducible rfl
 simp only [List.getElem_toArray,List.getElem_cons_succ,List.getElem_cons_zero,Act.put,List.setIfInBounds_toArray,List.set_cons_zero,List.set_cons_succ]
 refine wpAnyH_take (i:=10) (v:=?v10) rfl (by kernel_rfl) (by kernel_rfl) (by kernel_rfl) (fun _ _ _ h=>h) (Or.inl ⟨by kernel_rfl,?h10⟩) hHeld ?_
 case h10=>rintro wq ⟨s0,s1,s2,s3,s4,s5,s6,s7,s8⟩;go_simp;with_reducible rfl
 simp only [List.getElem_toArray,List.getElem_cons_succ,List.getElem_cons_zero,Act.put,List.setIfInBounds_toArray,List.set_cons_zero,List.set_cons_succ]
 refine wpAnyH_take (i:=11) (v:=?v11) rfl (by kernel_rfl) (by kernel_rfl) (by kernel_rfl) (fun _ _ _ h=>h) (Or.inl ⟨by kernel_rfl,?h11⟩) hHeld ?_
 case h11=>rintro wq ⟨s0,s1,s2,s3,s4,s5,s6,s7,s8⟩;go_simp;with_reducible rfl
 simp only [List.getElem_toArray,List.getElem_cons_succ,List.getElem_cons_zero,Act.put,List.setIfInBounds_toArray,List.set_cons_zero,List.set_cons_succ]
 refine wpAnyH_take (i:=12) (v:=?v12) rfl (by kernel_rfl) (by kernel_rfl) (by kernel_rfl) (fun _ _ _ h=>h) (Or.inl ⟨by kernel_rfl,?h12⟩) hHeld ?_
 case h12=>rintro wq ⟨s0,s1,s2,s3,s4,s5,s6,s7,s8⟩;go_simp;with_reducible rfl
 simp only [List.getElem_toArray,List.getElem_cons_succ,List.getElem_cons_zero,Act.put,List.setIfInBounds_toArray,List.set_cons_zero,List.set_cons_succ]
 refine wpAnyH_take (i:=13) (v:=?v13) rfl (by kernel_rfl) (by kernel_rfl) (by kernel_rfl) (fun _ _ _ h=>h) (Or.inl ⟨by kernel_rfl,?h13⟩) hHeld ?_
 case h13=>rintro wq ⟨s0,s1,s2,s3,s4,s5,s6,s7,s8⟩;go_simp;with_reducible rfl
 simp only [List.getElem_toArray,List.getElem_cons_succ,List.getElem_cons_zero,Act.put,List.setIfInBounds_toArray,List.set_cons_zero,List.set_cons_succ]
 refine wpAnyH_take (i:=14) (v:=.agg (List.toArray c1)) rfl (by kernel_rfl) (by kernel_rfl) (by kernel_rfl) (fun _ _ _ h=>h) ?y14 hHeld ?_
 case y14=>exact yieldsIf_load_mid (by kernel_rfl) 181 (.tmp 5) rfl bR 0 rfl c1 _ (fun w h=>h.2.2.2.2.2.2.2.1) hu rfl hi1
 simp only [List.getElem_toArray,List.getElem_cons_succ,List.getElem_cons_zero,Act.put,List.setIfInBounds_toArray,List.set_cons_zero,List.set_cons_succ]
 refine wpAnyH_take (i:=15) (v:=?v15) rfl (by kernel_rfl) (by kernel_rfl) (by kernel_rfl) (fun _ _ _ h=>h) (Or.inl ⟨by kernel_rfl,?h15⟩) hHeld ?_
 case h15=>rintro wq ⟨s0,s1,s2,s3,s4,s5,s6,s7,s8⟩;go_simp;with_reducible rfl
 simp only [List.getElem_toArray,List.getElem_cons_succ,List.getElem_cons_zero,Act.put,List.setIfInBounds_toArray,List.set_cons_zero,List.set_cons_succ]
 refine wpAnyH_take (i:=16) (v:=?v16) rfl (by kernel_rfl) (by kernel_rfl) (by kernel_rfl) (fun _ _ _ h=>h) (Or.inl ⟨by kernel_rfl,?h16⟩) hHeld ?_
 case h16=>rintro wq ⟨s0,s1,s2,s3,s4,s5,s6,s7,s8⟩;go_simp;with_reducible rfl
 simp only [List.getElem_toArray,List.getElem_cons_succ,List.getElem_cons_zero,Act.put,List.setIfInBounds_toArray,List.set_cons_zero,List.set_cons_succ]
 refine wpAnyH_ready (rs:=[4,7]) (by kernel_rfl) (by simp) ?_
 refine AllReadyH.cons rfl (fun K hK=>?_) ?_
 ·go_simp
  refine (clip_any A q c HQB.out.2.1 HQB.out.2.2.1 _).mono ?_
  rintro e w' ⟨rfl,rfl⟩
  go_simp
  refine hK.out _ _ (HKS.out _ (Kp.quiet ((Touch.refl _ _).drew))) (fun hHeld=>?_)
  clear hK K
  try simp only [List.getElem_toArray,List.getElem_cons_succ,List.getElem_cons_zero,Act.put,List.setIfInBounds_toArray,List.set_cons_zero,List.set_cons_succ]
  refine wpAnyH_ready (rs:=[7]) (by kernel_rfl) (by simp) ?_
  refine AllReadyH.cons rfl (fun K hK=>?_) AllReadyH.nil
  go_simp
  refine hK.out _ _ (HKS.out _ (Kp.quiet ((Touch.refl _ _).drew.alloc _))) (fun hHeld=>?_)
  clear hK K
  try simp only [List.getElem_toArray,List.getElem_cons_succ,List.getElem_cons_zero,Act.put,List.setIfInBounds_toArray,List.set_cons_zero,List.set_cons_succ]
  refine wpAnyH_ready (rs:=[8]) (by kernel_rfl) (by simp) ?_
  refine AllReadyH.cons rfl (fun K hK=>?_) AllReadyH.nil
  obtain ⟨W2,hW2⟩:∃ y,y=(W.alloc (.cells #[.int .i32 (a.1:Int)] 21)).drew:=⟨_,rfl⟩
  have hT2:Touch (fun _=>False) W W2:=by rw [hW2];exact ((Touch.refl _ _).alloc _).drew
  obtain ⟨B1,hB1⟩:∃ y,y=W.heap.size:=⟨_,rfl⟩
  have hcl:W2.cell? ⟨B1,0,none⟩=some (.int .i32 (a.1:Int)):=by rw [hW2,hB1];exact (Blk.new W 21 #[.int .i32 (a.1:Int)]).drew.cell0
  obtain ⟨v6,W6,hr6,ho6,hT6,hy6⟩:=run_clip_app (P:=Tryz.prog) W2 154 154 21 iR _ 4 Tryz.underlying154 hiR hr0 hr1 hr2 rfl A q _ (HRDH.out.rd.touch hT2 (fun _ _ f=>f)) ⟨B1,0,none⟩ (.int .i32 (a.1:Int)) rfl hcl rfl (by have:=HQB.out.2.2.2;unfold maxLen;omega) (by have:=HQB.out.2.2.2;omega)
  obtain ⟨A6,c6,hv6,hl6,hm6⟩:=own_len ho6
  subst hv6
  have HW2:=hide hW2
  have HB1:=hide hB1
  have HT6:=hide (hT2.then hT6)
  have HO6:=hide ho6
  have HR6:=hide hr6
  rw [hW2] at HR6
  have HL6:=hide (And.intro hl6 hm6)
  clear hT2 hcl hT6 ho6 hr6 hy6 hl6 hm6 hW2 hB1
  rw [if_pos (by rfl)]
  refine wp_app_run (.tmp 10) (.tmp 13) 154 rfl (.slice A q q) (.slice (some ⟨B1,0,none⟩) 1 1) _ W6 rfl (by rw [HB1.out];rfl) HR6.out ?_
  refine hK.out _ _ (HKS.out _ (Kp.quiet (HT6.out))) (fun hHeld=>?_)
  clear hK K
  try simp only [List.getElem_toArray,List.getElem_cons_succ,List.getElem_cons_zero,Act.put,List.setIfInBounds_toArray,List.set_cons_zero,List.set_cons_succ]
  refine wpAnyH_ready (rs:=[17]) (by kernel_rfl) (by simp) ?_
  refine AllReadyH.cons rfl (fun K hK=>?_) AllReadyH.nil
  go_simp
  refine (HSTP.out _ HT6.out).mono ?_
  rintro e w7 ⟨rfl,T7⟩
  have HT7:=hide (HT6.out.then T7)
  have HO7:=hide (own_touch HO6.out T7 (fun _ _ f=>f))
  clear T7
  go_simp
  refine hK.out _ _ (HKS.out _ (Kp.quiet (HT7.out))) (fun hHeld=>?_)
  clear hK K
  try simp only [List.getElem_toArray,List.getElem_cons_succ,List.getElem_cons_zero,Act.put,List.setIfInBounds_toArray,List.set_cons_zero,List.set_cons_succ]
  refine wpAnyH_ready (rs:=[18]) (by kernel_rfl) (by simp) ?_
  refine AllReadyH.cons rfl (fun K hK=>?_) AllReadyH.nil
  go_simp
  have hlen:(p.head++[a.1]).length=q+1:=by rw [List.length_append,HQB.out.1];rfl
  have hrow:RdT w7 21 1 A6 (q+1) ((p.head++[a.1]).map runeV):=by
   have:=RdT.of_own HO7.out
   rw [List.map_append]
   exact this
  obtain ⟨hg7,hk7⟩:=(HG.out.quiet HT7.out).re
  have hv:=visit_fz { x with wK:=w7 } HL.out HD.out HWK.out w7 F I hg7 HFL.out HIL.out ⟨a.2.2,p.head++[a.1],p.sum+a.2.1,stepD x.X p.row a.1⟩ A6 c6 ⟨HB.out.i,HB.out.row,HB.out.scal,HB.out.few,HB.out.s0,HB.out.s1,by rw [hlen];exact hrow,by rw [hlen];have:=HL6.out;omega,HL6.out.2⟩
  simp only at hv
  rw [hlen] at hv
  refine hv.mono ?_
  rintro e w8 ⟨rfl,hG8⟩
  obtain ⟨hG8,hk8⟩:=hG8.back hk7
  have HG8:=hide hG8
  have HK8:=hide ((Kp.quiet HT7.out).trans hk8)
  clear hG8 hv hlen hrow hg7 hk7 hk8
  go_simp
  refine hK.out _ _ (HKS.out _ HK8.out) (fun hHeld=>?_)
  clear hK K
  refine wpAnyH_done (by kernel_rfl) ?_ _
  go_wp2_with fail
  go_end0
  exact ⟨rfl,HG8.out⟩
 refine AllReadyH.cons rfl (fun K hK=>?_) AllReadyH.nil
 go_simp
 refine hK.out _ _ (HKS.out _ (Kp.quiet ((Touch.refl _ _).drew.alloc _))) (fun hHeld=>?_)
 clear hK K
 try simp only [List.getElem_toArray,List.getElem_cons_succ,List.getElem_cons_zero,Act.put,List.setIfInBounds_toArray,List.set_cons_zero,List.set_cons_succ]
 refine wpAnyH_ready (rs:=[4]) (by kernel_rfl) (by simp) ?_
 refine AllReadyH.cons rfl (fun K hK=>?_) AllReadyH.nil
 go_simp
 refine (clip_any A q c HQB.out.2.1 HQB.out.2.2.1 _).mono ?_
 rintro e w' ⟨rfl,rfl⟩
 go_simp
 refine hK.out _ _ (HKS.out _ (Kp.quiet ((Touch.refl _ _).drew.alloc _))) (fun hHeld=>?_)
 clear hK K
 try simp only [List.getElem_toArray,List.getElem_cons_succ,List.getElem_cons_zero,Act.put,List.setIfInBounds_toArray,List.set_cons_zero,List.set_cons_succ]
 refine wpAnyH_ready (rs:=[8]) (by kernel_rfl) (by simp) ?_
 refine AllReadyH.cons rfl (fun K hK=>?_) AllReadyH.nil
 obtain ⟨W2,hW2⟩:∃ y,y=(W.alloc (.cells #[.int .i32 (a.1:Int)] 21)).drew:=⟨_,rfl⟩
 have hT2:Touch (fun _=>False) W W2:=by rw [hW2];exact ((Touch.refl _ _).alloc _).drew
 obtain ⟨B1,hB1⟩:∃ y,y=W.heap.size:=⟨_,rfl⟩
 have hcl:W2.cell? ⟨B1,0,none⟩=some (.int .i32 (a.1:Int)):=by rw [hW2,hB1];exact (Blk.new W 21 #[.int .i32 (a.1:Int)]).drew.cell0
 obtain ⟨v6,W6,hr6,ho6,hT6,hy6⟩:=run_clip_app (P:=Tryz.prog) W2 154 154 21 iR _ 4 Tryz.underlying154 hiR hr0 hr1 hr2 rfl A q _ (HRDH.out.rd.touch hT2 (fun _ _ f=>f)) ⟨B1,0,none⟩ (.int .i32 (a.1:Int)) rfl hcl rfl (by have:=HQB.out.2.2.2;unfold maxLen;omega) (by have:=HQB.out.2.2.2;omega)
 obtain ⟨A6,c6,hv6,hl6,hm6⟩:=own_len ho6
 subst hv6
 have HW2:=hide hW2
 have HB1:=hide hB1
 have HT6:=hide (hT2.then hT6)
 have HO6:=hide ho6
 have HR6:=hide hr6
 rw [hW2] at HR6
 have HL6:=hide (And.intro hl6 hm6)
 clear hT2 hcl hT6 ho6 hr6 hy6 hl6 hm6 hW2 hB1
 rw [if_pos (by rfl)]
 refine wp_app_run (.tmp 10) (.tmp 13) 154 rfl (.slice A q q) (.slice (some ⟨B1,0,none⟩) 1 1) _ W6 rfl (by rw [HB1.out];rfl) HR6.out ?_
 refine hK.out _ _ (HKS.out _ (Kp.quiet (HT6.out))) (fun hHeld=>?_)
 clear hK K
 try simp only [List.getElem_toArray,List.getElem_cons_succ,List.getElem_cons_zero,Act.put,List.setIfInBounds_toArray,List.set_cons_zero,List.set_cons_succ]
 refine wpAnyH_ready (rs:=[17]) (by kernel_rfl) (by simp) ?_
 refine AllReadyH.cons rfl (fun K hK=>?_) AllReadyH.nil
 go_simp
 refine (HSTP.out _ HT6.out).mono ?_
 rintro e w7 ⟨rfl,T7⟩
 have HT7:=hide (HT6.out.then T7)
 have HO7:=hide (own_touch HO6.out T7 (fun _ _ f=>f))
 clear T7
 go_simp
 refine hK.out _ _ (HKS.out _ (Kp.quiet (HT7.out))) (fun hHeld=>?_)
 clear hK K
 try simp only [List.getElem_toArray,List.getElem_cons_succ,List.getElem_cons_zero,Act.put,List.setIfInBounds_toArray,List.set_cons_zero,List.set_cons_succ]
 refine wpAnyH_ready (rs:=[18]) (by kernel_rfl) (by simp) ?_
 refine AllReadyH.cons rfl (fun K hK=>?_) AllReadyH.nil
 go_simp
 have hlen:(p.head++[a.1]).length=q+1:=by rw [List.length_append,HQB.out.1];rfl
 have hrow:RdT w7 21 1 A6 (q+1) ((p.head++[a.1]).map runeV):=by
  have:=RdT.of_own HO7.out
  rw [List.map_append]
  exact this
 obtain ⟨hg7,hk7⟩:=(HG.out.quiet HT7.out).re
 have hv:=visit_fz { x with wK:=w7 } HL.out HD.out HWK.out w7 F I hg7 HFL.out HIL.out ⟨a.2.2,p.head++[a.1],p.sum+a.2.1,stepD x.X p.row a.1⟩ A6 c6 ⟨HB.out.i,HB.out.row,HB.out.scal,HB.out.few,HB.out.s0,HB.out.s1,by rw [hlen];exact hrow,by rw [hlen];have:=HL6.out;omega,HL6.out.2⟩
 simp only at hv
 rw [hlen] at hv
 refine hv.mono ?_
 rintro e w8 ⟨rfl,hG8⟩
 obtain ⟨hG8,hk8⟩:=hG8.back hk7
 have HG8:=hide hG8
 have HK8:=hide ((Kp.quiet HT7.out).trans hk8)
 clear hG8 hv hlen hrow hg7 hk7 hk8
 go_simp
 refine hK.out _ _ (HKS.out _ HK8.out) (fun hHeld=>?_)
 clear hK K
 refine wpAnyH_done (by kernel_rfl) ?_ _
 go_wp2_with fail
 go_end0
 exact ⟨rfl,HG8.out⟩
end Go.Proofs.YthockgmbooefpaaGreatDoor
namespace Go.Proofs.YthockgmbooefpaaGreatDoor
open Go.RowKit
instance zeroBase:Inhabited BaseT:=⟨⟨0⟩⟩
theorem find_mem {k:List UInt8} {L:List PRow} {n:Int} (h:findP k L=(n,true)):∃ p∈L,p.word.toList=k∧p.weight=n:=by
 unfold findP at h
 cases hl:(key k L).getLast? with
 | none=>rw [hl] at h;simp at h
 | some p =>
  rw [hl] at h
  simp only [Prod.mk.injEq,and_true] at h
  have hm:=List.mem_of_getLast? hl
  simp only [key,List.mem_filter,decide_eq_true_eq] at hm
  exact ⟨p,hm.1,hm.2,h⟩
theorem mach_sub {L M:List PRow} (hL:DictP L) (hM:DictP M) (h:mach L=mach M):∀ p∈L,p∈M:=by
 intro p hp
 have hne:L≠[]:=fun e=>by rw [e] at hp;cases hp
 have hlen:0<(mach L).states.length:=(right_made hL hne).pos
 have hne2:M≠[]:=fun e=>by
  rw [h,e] at hlen
  simp [mach] at hlen
 have h1:=mach_find hL hne _ _ (hL.word p hp).1
 have h2:=mach_find hM hne2 _ _ (hL.word p hp).1
 rw [h,h2,key_words hL hp] at h1
 obtain ⟨q,hq,e1,e2⟩:=find_mem h1
 have e:q=p:=by
  obtain ⟨qw,qn⟩:=q
  obtain ⟨pw,pn⟩:=p
  simp only at e1 e2
  rw [e2,toList_inj e1]
 rw [← e]
 exact hq
theorem mach_inj {L M:List PRow} (hL:DictP L) (hM:DictP M) (h:mach L=mach M):L=M:=by
 have sL:=hL.sort
 have sM:=hM.sort
 unfold SortR restsL at sL sM
 rw [List.pairwise_map] at sL sM
 exact sorted_ext (lt:=fun a b:PRow=>ltR (wordR a,a.weight) (wordR b,b.weight)) (fun a e=>by simp [ltR,lexN_irr] at e) (fun a b e f=>by
  simp only [ltR] at e f
  rw [lexN_asym _ _ e] at f
  cases f) sL sM (fun p=>⟨mach_sub hL hM h p,mach_sub hM hL h.symm p⟩)
def rowW (X text:List Nat):Nat:=(rowK X text).getD X.length 0
theorem foldD_last (X text:List Nat):(text.foldl (stepD X) (List.range (X.length+1))).getLastD 0=rowW X text:=by
 have h:=rowK_len X text
 unfold rowW
 unfold rowK at h ⊢
 rw [List.getLastD_eq_getLast?,List.getLast?_eq_getElem?,h]
 rfl
section
variable {L:List PRow}
theorem mach_form (hD:DictP L):∀ i,i<(mach L).states.length→FormP i ((mach L).states.getD i noSt):=by
 rcases right_mach hD with ⟨h,_⟩ | h
 ·intro i hi
  rw [h] at hi
  simp at hi
 ·exact h.form
theorem mach_rst (hD:DictP L) (hne:L≠[]):restsL L=(rst (mach L).states ((mach L).states.length-1)).map fun r=>(r.1,r.2+(mach L).base):=by
 have hf:=mach_form hD
 obtain ⟨h1,h2⟩:=rgt_words (right_mach hD)
 have h3:L=wordsG (mach L).states (mach L).base:=mach_inj hD h1 (by rw [h2])
 have hs:(mach L).states≠[]:=fun e=>by
  rw [e] at h3
  exact hne h3
 have hpos:0<(mach L).states.length:=List.length_pos_iff.2 hs
 have h4:wordsG (mach L).states (mach L).base=wordsM (mach L).states (mach L).base:=by
  unfold wordsG
  rw [if_neg hs]
 have h5:=run_rst hf (mach L).states.length ((mach L).states.length-1) (by omega) (by omega)
 obtain ⟨sts,hsts⟩:∃ y,y=(mach L).states:=⟨_,rfl⟩
 obtain ⟨base,hb⟩:∃ y,y=(mach L).base:=⟨_,rfl⟩
 rw [← hsts,← hb] at h3 h4
 rw [← hsts] at h5 ⊢
 rw [← hb,h3,h4]
 unfold restsL wordsM
 rw [List.map_map]
 apply List.map_congr_left
 intro r hr
 simp only [Function.comp,wordR]
 rw [show (⟨(r.1.flatMap writeU).toArray⟩:ByteArray).toList=r.1.flatMap writeU by rw [Go.ByteArray.toList_eq],runes_flat r.1 (fun c hc=>(h5 r hr c hc).1)]
 rfl
structure FzGd (L:List PRow) (m:Nat) (t:FzIt):Prop where
 i:t.i<(mach L).states.length
 row:t.row.length=m+1
 s0:0≤t.sum
 mem:∀ r∈rst (mach L).states t.i,(t.head++r.1,t.sum+r.2)∈restsL L
theorem FzGd.bnd (hD:DictP L) {m:Nat} {t:FzIt} (h:FzGd L m t):t.Bnd (mach L).states.length m:=by
 have hf:=mach_form hD
 have hr:=rs_ok hf (t.i+1) t.i (Nat.lt_succ_self _) h.i
 obtain ⟨r,hrm⟩:∃ r,r∈rst (mach L).states t.i:=List.exists_mem_of_ne_nil _ hr.ne
 have h1:=h.mem r hrm
 have h2:=leastR_le hrm
 rw [hr.least] at h2
 obtain ⟨p,hp,he⟩:=List.mem_map.1 h1
 simp only [Prod.mk.injEq] at he
 obtain ⟨w1,w2,w3,w4⟩:=hD.word p hp
 have hw:=hD.weight p hp
 have hsc:=(runesU_write _ _ _ (Nat.le_refl _) w1).2
 rw [he.1] at w4 hsc
 rw [List.length_append] at w4
 have h0:=h.s0
 exact ⟨h.i,h.row,fun c hc=>hsc c (List.mem_append_left _ hc),by omega,h0,by omega⟩
theorem FzGd.ok {m:Nat} {X:List Nat} (hX:X.length=m) {t:FzIt} (h:FzGd L m t):t.Ok (mach L).states X:=⟨h.i,by rw [hX];exact h.row⟩
theorem FzGd.kids (hD:DictP L) {m:Nat} {X:List Nat} (hX:X.length=m) {o:Nat} {t:FzIt} (h:FzGd L m t):∀ k∈fzKids (mach L).states X o t,FzGd L m k:=by
 have hf:=mach_form hD
 have hd:=form_down hf
 intro k hk
 unfold fzKids at hk
 split at hk
 ·cases hk
 ·obtain ⟨a,ha,rfl⟩:=List.mem_map.1 hk
  have hi:=hd t.i h.i a ha
  have h0:=((hf t.i h.i).arc a ha).1
  refine ⟨Nat.lt_trans hi h.i,by rw [stepD_len _ (by rw [hX];exact h.row),hX],by have:=h.s0;simp only;omega,fun r hr=>?_⟩
  have h1:=h.mem (a.1 :: r.1,r.2+a.2.1) ((mem_rst_cons hd h.i).2 ⟨a,ha,rfl,by simpa using hr⟩)
  simp only at h1 ⊢
  rw [List.append_assoc,List.singleton_append]
  have e:t.sum+a.2.1+r.2=t.sum+(r.2+a.2.1):=by omega
  rw [e]
  exact h1
theorem root_gd (hD:DictP L) (hne:L≠[]) (m:Nat):FzGd L m ⟨(mach L).states.length-1,[],(mach L).base,List.range (m+1)⟩:=by
 have hpos:0<(mach L).states.length:=(right_made hD hne).pos
 refine ⟨by simp only;omega,by simp,(base_mach hD).1,fun r hr=>?_⟩
 rw [mach_rst hD hne]
 simp only [List.nil_append]
 exact List.mem_map.2 ⟨r,hr,by rw [Int.add_comm]⟩
def fzAllP (L:List PRow) (X:List Nat) (o:Nat):List MRow:=L.filterMap fun p=>if rowW X (wordR p)<o then some ⟨p.word,p.weight,(rowW X (wordR p):Int)⟩ else none
theorem fz_total (hD:DictP L) (hne:L≠[]) (X:List Nat) (o:Nat):(fzI (mach L).states X o ⟨(mach L).states.length-1,[],(mach L).base,List.range (X.length+1)⟩).map hitM=fzAllP L X o:=by
 unfold fzI fzAllP
 have h1:=mach_rst hD hne
 have h2:(rst (mach L).states ((mach L).states.length-1)).filterMap (hitF X o (List.range (X.length+1)) [] (mach L).base)=(restsL L).filterMap fun r=>if rowW X r.1<o then some (r.1,r.2,rowW X r.1) else none:=by
  rw [h1,List.filterMap_map]
  apply filterMap_congr'
  intro r _
  unfold hitF
  simp only [Function.comp,foldD_last,List.nil_append]
  rw [Int.add_comm]
 rw [h2]
 unfold restsL
 rw [List.filterMap_map,List.map_filterMap]
 apply filterMap_congr'
 intro p hp
 simp only [Function.comp]
 split
 ·simp only [Option.map_some,hitM]
  obtain ⟨w1,_⟩:=hD.word p hp
  have hw:=(runesU_write _ _ _ (Nat.le_refl _) w1).1
  rw [← hw]
  have:(⟨p.word.toList.toArray⟩:ByteArray)=p.word:=by rw [Go.ByteArray.toList_eq]
  rw [this]
 ·rfl
theorem nz_le (hD:DictP L):∀ (k i:Nat),i<k→i<(mach L).states.length→nz (mach L).states i≤((rst (mach L).states i).map fun r=>r.1.length+1).sum
 | 0,_,h,_=>absurd h (Nat.not_lt_zero _)
 | k+1,i,hk,hi=>by
  have hf:=mach_form hD
  have hd:=form_down hf
  have hr:=rs_ok hf (i+1) i (Nat.lt_succ_self _) hi
  rw [nz_eq hd hi]
  have hne:=hr.ne
  rw [rst_eq hd hi] at hne ⊢
  rw [List.map_append,List.sum_append]
  have key:∀ ys:List (Nat × Int × Nat),(∀ a∈ys,a∈((mach L).states.getD i noSt).arcs) →
    (ys.map fun a=>nz (mach L).states a.2.2).sum+ys.length≤((ys.flatMap fun a=>(rst (mach L).states a.2.2).map fun r=>(a.1 :: r.1,r.2+a.2.1)).map fun r=>r.1.length+1).sum:=by
   intro ys
   induction ys with
   | nil=>intro _;simp
   | cons a ys ih =>
    intro has
    have h1:=ih (fun b hb=>has b (List.mem_cons_of_mem _ hb))
    have hai:=hd i hi a (has a List.mem_cons_self)
    have h2:=nz_le hD k a.2.2 (by omega) (by omega)
    have h3:=(rs_ok hf (a.2.2+1) a.2.2 (Nat.lt_succ_self _) (by omega)).ne
    rw [List.map_cons,List.sum_cons,List.flatMap_cons,List.map_append,List.sum_append,List.length_cons,List.map_map]
    have h4:((rst (mach L).states a.2.2).map ((fun r:List Nat × Int=>r.1.length+1) ∘ fun r=>(a.1 :: r.1,r.2+a.2.1))).sum=((rst (mach L).states a.2.2).map fun r=>r.1.length+1).sum+(rst (mach L).states a.2.2).length:=by
     generalize rst (mach L).states a.2.2=R
     induction R with
     | nil=>rfl
     | cons r R ih2=>simp only [List.map_cons,List.sum_cons,Function.comp,List.length_cons] at ih2 ⊢;omega
    have h5:0<(rst (mach L).states a.2.2).length:=List.length_pos_iff.2 h3
    omega
  have h6:=key _ (fun a h=>h)
  by_cases hfin:((mach L).states.getD i noSt).fin=true
  ·rw [if_pos hfin]
   simp only [List.map_cons,List.map_nil,List.sum_cons,List.sum_nil,List.length_nil]
   omega
  ·rw [if_neg hfin] at hne ⊢
   have h7:0<((mach L).states.getD i noSt).arcs.length:=by
    apply List.length_pos_iff.2
    rintro h
    rw [h] at hne
    exact hne rfl
   simp only [List.map_nil,List.sum_nil]
   omega
theorem sum_le_len {α:Type} (f:α→Nat) (B:Nat):∀ l:List α,(∀ a∈l,f a≤B)→(l.map f).sum≤B*l.length
 | [],_=>by simp
 | a :: l,h=>by
  have h1:=sum_le_len f B l (fun b hb=>h b (List.mem_cons_of_mem _ hb))
  have h2:=h a List.mem_cons_self
  rw [List.map_cons,List.sum_cons,List.length_cons,Nat.mul_add]
  omega
theorem nz_root (hD:DictP L) (hne:L≠[]):nz (mach L).states ((mach L).states.length-1)≤102400:=by
 have hpos:0<(mach L).states.length:=(right_made hD hne).pos
 have h1:=nz_le hD (mach L).states.length ((mach L).states.length-1) (by omega) (by omega)
 have h2:=mach_rst hD hne
 have h3:((rst (mach L).states ((mach L).states.length-1)).map fun r=>r.1.length+1).sum≤25*(rst (mach L).states ((mach L).states.length-1)).length:=by
  refine sum_le_len _ _ _ fun r hr=>?_
  have h4:(r.1,r.2+(mach L).base)∈restsL L:=by
   rw [h2]
   exact List.mem_map.2 ⟨r,hr,rfl⟩
  obtain ⟨p,hp,he⟩:=List.mem_map.1 h4
  simp only [Prod.mk.injEq] at he
  have:=(hD.word p hp).2.2.2
  rw [he.1] at this
  omega
 have h5:(rst (mach L).states ((mach L).states.length-1)).length=L.length:=by
  have:=congrArg List.length h2
  simp only [restsL,List.length_map] at this
  exact this.symm
 have:=hD.len
 omega
theorem nzL_len (hD:DictP L) {I:List FzIt}:(∀ t∈I,t.i<(mach L).states.length)→I.length≤nzL (mach L).states I:=by
 induction I with
 | nil=>intro _;simp [nzL]
 | cons t I ih =>
  intro h
  have h1:=ih (fun u hu=>h u (List.mem_cons_of_mem _ hu))
  have h2:0<nz (mach L).states t.i:=by
   rw [nz_eq (form_down (mach_form hD)) (h t List.mem_cons_self)]
   omega
  simp only [nzL,List.map_cons,List.sum_cons,List.length_cons] at h1 ⊢
  omega
structure FzJ (L:List PRow) (X:List Nat) (m o:Nat) (tot hs:List FzHit) (I:List FzIt):Prop where
 all:hs++I.reverse.flatMap (fzI (mach L).states X o)=tot
 gd:∀ t∈I,FzGd L m t
theorem FzJ.step (hD:DictP L) {X:List Nat} {m o:Nat} (hX:X.length=m) {tot hs:List FzHit} {I:List FzIt} {t:FzIt} (h:FzJ L X m o tot hs (I++[t])) :
  FzJ L X m o tot (hs++fzHit (mach L).states o t) (I++(fzKids (mach L).states X o t).reverse)∧FzGd L m t∧nzL (mach L).states (I++(fzKids (mach L).states X o t).reverse)<nzL (mach L).states (I++[t]):=by
 have hd:=form_down (mach_form hD)
 have ht:=h.gd t (by simp)
 have hok:=ht.ok hX
 refine ⟨⟨?_,?_⟩,ht,?_⟩
 ·rw [← h.all]
  simp only [List.reverse_append,List.reverse_reverse,List.flatMap_append,List.reverse_cons,List.reverse_nil,List.nil_append,List.flatMap_cons,List.flatMap_nil,List.append_nil]
  rw [fzI_eq hd hok]
  simp only [List.append_assoc]
 ·intro k hk
  rcases List.mem_append.1 hk with hk | hk
  ·exact h.gd k (List.mem_append_left _ hk)
  ·exact ht.kids hD hX k (List.mem_reverse.1 hk)
 ·rw [nzL_app,nzL_app,nzL_reverse]
  have:=nz_kids hd (o:=o) hok
  have e:nzL (mach L).states [t]=nz (mach L).states t.i:=by simp [nzL]
  rw [e]
  omega
end
end Go.Proofs.YthockgmbooefpaaGreatDoor
