/- What the law rests on, part 17. No condition but those that each theorem names. -/
import Derived.Test.YthockgmbooefpaaGreatDoorT16
import Derived.Test.YthockgmbooefpaaGreatDoorT06
import Derived.Test.YthockgmbooefpaaGreatDoorT15
import Derived.Test.YthockgmbooefpaaGreatDoorT05
import Derived.Test.YthockgmbooefpaaGreatDoorT00
import Derived.BigQuiet
import Derived.Deep.QuietTactic
import Derived.Test.YthockgmbooefpaaGreatDoorT11
set_option linter.unusedSectionVars false
set_option linter.unusedSimpArgs false
set_option linter.unusedVariables false
set_option maxRecDepth 100000
set_option maxHeartbeats 4000000
namespace Go.Proofs.YthockgmbooefpaaGreatDoor
open Go.RowKit
theorem stepG_dead (r o:Nat):∀ (wd:List Nat) (t:Nat) (s:List Nat),o≤t+1→(∀ x∈s,o≤x)→∀ x∈stepG r t wd s,o≤x
 | [],t,s,_,_,x,hx=>by
  cases s with
  | nil=>cases hx
  | cons a s=>cases s<;>cases hx
 | c :: wd,t,[],_,_,x,hx=>by cases hx
 | c :: wd,t,[a],_,_,x,hx=>by cases hx
 | c :: wd,t,a :: b :: s,ht,h,x,hx=>by
  have ha:=h a List.mem_cons_self
  have hb:=h b (List.mem_cons_of_mem _ List.mem_cons_self)
  simp only [stepG,List.mem_cons] at hx
  have hm:o≤min (min (a+if c=r then 0 else 1) (b+1)) (t+1):=by omega
  rcases hx with rfl | hx
  ·exact hm
  ·exact stepG_dead r o wd _ (b :: s) (by omega) (fun y hy=>h y (List.mem_cons_of_mem _ hy)) x hx
theorem stepD_dead {wd s:List Nat} {o:Nat} (r:Nat) (hs:s≠[]) (h:∀ x∈s,o≤x):∀ x∈stepD wd s r,o≤x:=by
 intro x hx
 cases s with
 | nil=>exact absurd rfl hs
 | cons a s =>
  have ha:=h a List.mem_cons_self
  simp only [stepD,List.headD_cons,List.mem_cons] at hx
  rcases hx with rfl | hx
  ·omega
  ·exact stepG_dead r o wd _ (a :: s) (by omega) h x hx
theorem fold_dead {wd:List Nat} {o:Nat}:∀ (text s:List Nat),s.length=wd.length+1→(∀ x∈s,o≤x)→∀ x∈text.foldl (stepD wd) s,o≤x
 | [],s,_,h=>h
 | r :: text,s,hl,h=>fold_dead text _ (stepD_len r hl) (stepD_dead r (fun e=>by rw [e] at hl;simp at hl) h)
theorem lastD_mem {s:List Nat} (h:s≠[]):s.getLastD 0∈s:=by
 rw [List.getLastD_eq_getLast?,List.getLast?_eq_some_getLast h]
 exact List.getLast_mem h
theorem filterMap_congr' {α β:Type} {f g:α→Option β}:∀ {l:List α},(∀ a∈l,f a=g a)→l.filterMap f=l.filterMap g
 | [],_=>rfl
 | a :: l,h=>by rw [List.filterMap_cons,List.filterMap_cons,h a List.mem_cons_self,filterMap_congr' fun b hb=>h b (List.mem_cons_of_mem _ hb)]
abbrev FzHit:=List Nat × Int × Nat
def hitF (wd:List Nat) (o:Nat) (s head:List Nat) (sum:Int) (r:List Nat × Int):Option FzHit :=
 if (r.1.foldl (stepD wd) s).getLastD 0<o then some (head++r.1,sum+r.2,(r.1.foldl (stepD wd) s).getLastD 0) else none
def fzF (sts:List StP) (wd:List Nat) (o:Nat):Nat→Nat→List Nat→Int→List Nat→List FzHit
 | 0,_,_,_,_=>[]
 | f+1,i,head,sum,s=>if s.all (fun x=>decide (o≤x))=true then [] else
   (if (sts.getD i noSt).fin=true∧s.getLastD 0<o then [(head,sum+(sts.getD i noSt).out,s.getLastD 0)] else []) ++
   (sts.getD i noSt).arcs.flatMap fun a=>fzF sts wd o f a.2.2 (head++[a.1]) (sum+a.2.1) (stepD wd s a.1)
section
variable [Inhabited BaseT]
theorem fz_rst {sts:List StP} (hd:Down sts) (wd:List Nat) (o:Nat):∀ (f i:Nat) (head:List Nat) (sum:Int) (s:List Nat),i<f→i<sts.length→s.length=wd.length+1 →
  fzF sts wd o f i head sum s=(rst sts i).filterMap (hitF wd o s head sum)
 | 0,_,_,_,_,h,_,_=>absurd h (Nat.not_lt_zero _)
 | f+1,i,head,sum,s,hi,hl,hs=>by
  have hne:s≠[]:=fun e=>by rw [e] at hs;simp at hs
  simp only [fzF]
  by_cases hdead:s.all (fun x=>decide (o≤x))=true
  ·rw [if_pos hdead]
   have hall:∀ x∈s,o≤x:=fun x hx=>of_decide_eq_true (List.all_eq_true.1 hdead x hx)
   symm
   rw [List.filterMap_eq_nil_iff]
   intro r _
   have h1:=fold_dead r.1 s hs hall
   have h2:=lastD_mem (s:=r.1.foldl (stepD wd) s) (fun e=>by have:=fold_len r.1 s hs;rw [e] at this;simp at this)
   have:=h1 _ h2
   unfold hitF
   rw [if_neg (by omega)]
  ·rw [if_neg hdead,rst_eq hd hl,List.filterMap_append]
   congr 1
   ·by_cases hf:(sts.getD i noSt).fin=true
    ·rw [if_pos hf]
     simp only [List.filterMap_cons,List.filterMap_nil,hitF,List.foldl_nil,List.append_nil]
     by_cases hlt:s.getLastD 0<o
     ·rw [if_pos ⟨hf,hlt⟩,if_pos hlt]
     ·rw [if_neg (fun h=>hlt h.2),if_neg hlt]
    ·rw [if_neg hf,if_neg (fun h=>hf h.1)]
     rfl
   ·rw [List.filterMap_flatMap]
    refine flatMap_congr' fun a ha=>?_
    have hai:=hd i hl a ha
    rw [fz_rst hd wd o f a.2.2 (head++[a.1]) (sum+a.2.1) (stepD wd s a.1) (by omega) (by omega) (stepD_len _ hs),List.filterMap_map]
    refine filterMap_congr' fun r _=>?_
    simp only [Function.comp,hitF,List.foldl_cons,List.append_assoc,List.singleton_append]
    have e:sum+a.2.1+r.2=sum+(r.2+a.2.1):=by omega
    rw [e]
    first | done | rfl
end
end Go.Proofs.YthockgmbooefpaaGreatDoor
namespace Go.Proofs.YthockgmbooefpaaGreatDoor
open Go.RowKit
def tabG (r:Nat):Nat→List Nat→List Nat→List Nat
 | t,c :: wd,a :: b :: s=>(if c=r then a else 1+min (min a b) t) :: tabG r (if c=r then a else 1+min (min a b) t) wd (b :: s)
 | _,_,_=>[]
def Lip:List Nat→Prop
 | a :: b :: s=>a≤b+1∧b≤a+1∧Lip (b :: s)
 | _=>True
theorem tab_step (r:Nat):∀ (wd:List Nat) (t a:Nat) (s:List Nat),Lip (a :: s)→t≤a+1→a≤t+1→tabG r t wd (a :: s)=stepG r t wd (a :: s)∧Lip (t :: stepG r t wd (a :: s))
 | [],t,a,s,_,_,_=>by
  cases s<;>exact ⟨rfl,trivial⟩
 | c :: wd,t,a,[],_,_,_=>⟨rfl,trivial⟩
 | c :: wd,t,a,b :: s,hl,h1,h2=>by
  obtain ⟨l1,l2,l3⟩:=hl
  have e:(if c=r then a else 1+min (min a b) t)=min (min (a+if c=r then 0 else 1) (b+1)) (t+1):=by
   split<;>omega
  have hb:min (min (a+if c=r then 0 else 1) (b+1)) (t+1)≤b+1∧b≤min (min (a+if c=r then 0 else 1) (b+1)) (t+1)+1∧t≤min (min (a+if c=r then 0 else 1) (b+1)) (t+1)+1∧min (min (a+if c=r then 0 else 1) (b+1)) (t+1)≤t+1:=by
   split<;>omega
  obtain ⟨g1,g2⟩:=tab_step r wd (min (min (a+if c=r then 0 else 1) (b+1)) (t+1)) b s l3 hb.1 hb.2.1
  simp only [tabG,stepG]
  rw [e,g1]
  exact ⟨rfl,hb.2.2.1,hb.2.2.2,g2⟩
def tabD (wd:List Nat) (s:List Nat) (r:Nat):List Nat:=(s.headD 0+1) :: tabG r (s.headD 0+1) wd s
theorem tabD_eq (wd:List Nat) {s:List Nat} (hs:s≠[]) (hl:Lip s) (r:Nat):tabD wd s r=stepD wd s r∧Lip (stepD wd s r):=by
 cases s with
 | nil=>exact absurd rfl hs
 | cons a s =>
  obtain ⟨g1,g2⟩:=tab_step r wd (a+1) a s hl (by omega) (by omega)
  simp only [tabD,stepD,List.headD_cons]
  exact ⟨by rw [g1],g2⟩
theorem lip_range':∀ (n k:Nat),Lip (List.range' k n)
 | 0,_=>trivial
 | 1,_=>trivial
 | n+2,k=>⟨by omega,by omega,lip_range' (n+1) (k+1)⟩
theorem lip_range (n:Nat):Lip (List.range n):=by
 rw [List.range_eq_range']
 exact lip_range' n 0
theorem tab_fold {wd:List Nat}:∀ (text s:List Nat),s.length=wd.length+1→Lip s→text.foldl (tabD wd) s=text.foldl (stepD wd) s
 | [],_,_,_=>rfl
 | r :: text,s,hl,h=>by
  have hne:s≠[]:=fun e=>by rw [e] at hl;simp at hl
  obtain ⟨g1,g2⟩:=tabD_eq wd hne h r
  rw [List.foldl_cons,List.foldl_cons,g1,tab_fold text _ (stepD_len r hl) g2]
end Go.Proofs.YthockgmbooefpaaGreatDoor
namespace Go.Proofs.YthockgmbooefpaaGreatDoor
open Go.RowKit
variable [Inhabited BaseT]
structure FzIt where
 i:Nat
 head:List Nat
 sum:Int
 row:List Nat
def FzIt.Ok (sts:List StP) (wd:List Nat) (t:FzIt):Prop:=t.i<sts.length∧t.row.length=wd.length+1
def fzDead (o:Nat) (t:FzIt):Bool:=t.row.all fun x=>decide (o≤x)
def fzHit (sts:List StP) (o:Nat) (t:FzIt):List FzHit :=
 if fzDead o t=true then [] else if (sts.getD t.i noSt).fin=true∧t.row.getLastD 0<o then [(t.head,t.sum+(sts.getD t.i noSt).out,t.row.getLastD 0)] else []
def fzKids (sts:List StP) (wd:List Nat) (o:Nat) (t:FzIt):List FzIt :=
 if fzDead o t=true then [] else (sts.getD t.i noSt).arcs.map fun a=>⟨a.2.2,t.head++[a.1],t.sum+a.2.1,stepD wd t.row a.1⟩
def fzI (sts:List StP) (wd:List Nat) (o:Nat) (t:FzIt):List FzHit:=(rst sts t.i).filterMap (hitF wd o t.row t.head t.sum)
theorem fzI_eq {sts:List StP} (hd:Down sts) {wd:List Nat} {o:Nat} {t:FzIt} (h:t.Ok sts wd):fzI sts wd o t=fzHit sts o t++(fzKids sts wd o t).flatMap (fzI sts wd o):=by
 have h1:=fz_rst hd wd o (t.i+1) t.i t.head t.sum t.row (Nat.lt_succ_self _) h.1 h.2
 unfold fzI
 rw [← h1]
 simp only [fzF,fzHit,fzKids]
 by_cases hdead:fzDead o t=true
 ·have h2:t.row.all (fun x=>decide (o≤x))=true:=hdead
  rw [if_pos hdead,if_pos hdead,if_pos h2]
  rfl
 ·have h2:¬ t.row.all (fun x=>decide (o≤x))=true:=hdead
  rw [if_neg hdead,if_neg hdead,if_neg h2]
  congr 1
  rw [List.flatMap_map]
  refine flatMap_congr' fun a ha=>?_
  have hai:=hd t.i h.1 a ha
  exact fz_rst hd wd o t.i a.2.2 _ _ _ hai (by have:=h.1;omega) (stepD_len _ h.2)
def nzF (sts:List StP):Nat→Nat→Nat
 | 0,_=>0
 | f+1,i=>1+((sts.getD i noSt).arcs.map fun a=>nzF sts f a.2.2).sum
def nz (sts:List StP) (i:Nat):Nat:=nzF sts (i+1) i
theorem nzF_fuel {sts:List StP} (hd:Down sts):∀ (f i g:Nat),i<f→i<sts.length→f≤g→nzF sts g i=nzF sts f i
 | 0,_,_,h,_,_=>absurd h (Nat.not_lt_zero _)
 | f+1,i,g,hi,hl,hg=>by
  obtain ⟨g,rfl⟩:∃ k,g=k+1:=⟨g-1,by omega⟩
  simp only [nzF]
  congr 2
  refine List.map_congr_left fun a ha=>?_
  have hai:=hd i hl a ha
  exact nzF_fuel hd f a.2.2 g (by omega) (by omega) (by omega)
theorem nz_eq {sts:List StP} (hd:Down sts) {i:Nat} (hl:i<sts.length):nz sts i=1+((sts.getD i noSt).arcs.map fun a=>nz sts a.2.2).sum:=by
 unfold nz
 conv=>lhs;unfold nzF
 congr 2
 refine List.map_congr_left fun a ha=>?_
 have hai:=hd i hl a ha
 exact nzF_fuel hd (a.2.2+1) a.2.2 i (by omega) (by omega) (by omega)
def nzL (sts:List StP) (l:List FzIt):Nat:=(l.map fun t=>nz sts t.i).sum
theorem nz_kids {sts:List StP} (hd:Down sts) {wd:List Nat} {o:Nat} {t:FzIt} (h:t.Ok sts wd):nzL sts (fzKids sts wd o t)<nz sts t.i:=by
 rw [nz_eq hd h.1]
 unfold nzL fzKids
 split
 ·simp
  omega
 ·rw [List.map_map]
  have e:((sts.getD t.i noSt).arcs.map ((fun t:FzIt=>nz sts t.i) ∘ fun a=>(⟨a.2.2,t.head++[a.1],t.sum+a.2.1,stepD wd t.row a.1⟩:FzIt)))=(sts.getD t.i noSt).arcs.map fun a=>nz sts a.2.2:=rfl
  rw [e]
  omega
theorem nzL_app (sts:List StP) (l m:List FzIt):nzL sts (l++m)=nzL sts l+nzL sts m:=by simp [nzL]
theorem nzL_reverse (sts:List StP) (l:List FzIt):nzL sts l.reverse=nzL sts l:=by
 unfold nzL
 rw [List.map_reverse,List.sum_reverse]
end Go.Proofs.YthockgmbooefpaaGreatDoor
namespace Go.Proofs.YthockgmbooefpaaGreatDoor
def behR (R:Rs) (c:Nat):Rs:=(underR R c).map fun r=>(c :: r.1,r.2)
theorem behR_len (R:Rs) (c:Nat):(behR R c).length=(underR R c).length:=by simp [behR]
theorem mem_beh {R:Rs} {c:Nat} {x:List Nat} {n:Int}:(x,n)∈behR R c↔∃ t,x=c :: t∧(t,n)∈underR R c:=by
 unfold behR
 rw [List.mem_map]
 constructor
 ·rintro ⟨⟨t,m⟩,hr,e⟩
  simp only [Prod.mk.injEq] at e
  obtain ⟨rfl,rfl⟩:=e
  exact ⟨t,rfl,hr⟩
 ·rintro ⟨t,rfl,h⟩
  exact ⟨(t,n),h,rfl⟩
theorem beh_sorted {R:Rs} (h:SortR R) (c:Nat):SortR (behR R c):=by
 unfold behR SortR
 rw [List.pairwise_map]
 have:=sort_under c h
 unfold SortR at this
 refine this.imp fun {a b} hab=>?_
 unfold ltR at hab ⊢
 simp only
 rw [lexN_cons]
 exact hab
theorem split_sorted {R:Rs} (h:SortR R):R=(if finR R=true then [([],outR R)] else [])++(firstsR R).flatMap (behR R):=by
 refine sort_ext h ?_ ?_
 ·unfold SortR
  rw [List.pairwise_append]
  refine ⟨?_,?_,?_⟩
  ·split
   ·exact List.pairwise_singleton _ _
   ·exact List.Pairwise.nil
  ·rw [List.pairwise_flatMap]
   refine ⟨fun c _=>beh_sorted h c,(firsts_sorted h).imp fun {a b} hab x hx y hy=>?_⟩
   obtain ⟨x,n⟩:=x
   obtain ⟨y,m⟩:=y
   obtain ⟨t,rfl,_⟩:=mem_beh.1 hx
   obtain ⟨t',rfl,_⟩:=mem_beh.1 hy
   unfold ltR
   simp only [lexN]
   rw [if_neg (by omega)]
   simpa using hab
  ·intro x hx y hy
   split at hx
   ·rw [List.mem_singleton] at hx
    subst hx
    obtain ⟨c,_,hc⟩:=List.mem_flatMap.1 hy
    obtain ⟨y,m⟩:=y
    obtain ⟨t,rfl,_⟩:=mem_beh.1 hc
    rfl
   ·cases hx
 ·rintro ⟨x,n⟩
  rw [List.mem_append,List.mem_flatMap]
  constructor
  ·intro hx
   cases x with
   | nil =>
    left
    rw [if_pos (finR_iff.2 ⟨n,hx⟩),outR_mem h hx]
    exact List.mem_singleton.2 rfl
   | cons c t =>
    right
    have h1:=mem_under.2 hx
    exact ⟨c,mem_firsts.2 (List.ne_nil_of_mem h1),mem_beh.2 ⟨t,rfl,h1⟩⟩
  ·rintro (hx | ⟨c,_,hc⟩)
   ·split at hx
    ·rename_i hf
     rw [List.mem_singleton] at hx
     simp only [Prod.mk.injEq] at hx
     obtain ⟨rfl,rfl⟩:=hx
     obtain ⟨m,hm⟩:=finR_iff.1 hf
     rw [outR_mem h hm]
     exact hm
    ·cases hx
   ·obtain ⟨t,rfl,h1⟩:=mem_beh.1 hc
    exact mem_under.1 h1
section
variable {k:KnP} (hk:Good k) {s:Nat} {z:StP} (hz:k.states[s]? = some z)
include hk hz
end
end Go.Proofs.YthockgmbooefpaaGreatDoor
namespace Go.Proofs.YthockgmbooefpaaGreatDoor
open Go.RowKit
theorem wpQuiet_cons {P:Program} {ops:Array Oper} {C:World→Prop} {Q:Act→Prop} {o:Oper} {l:List Oper} {a:Act}:wpQuiet P ops C Q (o :: l) a=(if Region.wanted o (yielded ops a.tmps) then o.quiet P a C (wpQuiet P ops C Q l) else wpQuiet P ops C Q l (a.put o.dst undef)):=rfl
structure WkM (w:World) (b:Nat) (base:Int) (A:Option Addr) (n c:Nat) (Z:List SV) (wA:Option Addr) (wc:Nat) (W:List Int):Prop where
 blk:Blk w b 167 #[.int .i64 base,.slice A n c,.slice wA n wc]
 sts:StsOk w A n Z
 wds:RdT w 3 1 wA n (W.map intV)
 len:W.length=n
theorem WkM.quiet {w w':World} {b:Nat} {base:Int} {A:Option Addr} {n c:Nat} {Z:List SV} {wA:Option Addr} {wc:Nat} {W:List Int} (h:WkM w b base A n c Z wA wc W) (T:Touch (fun _=>False) w w'):WkM w' b base A n c Z wA wc W :=
 ⟨h.blk.touch T (fun f=>f),h.sts.quiet T,h.wds.quiet T,h.len⟩
theorem NewI.wk {w wr:World} {b:Nat} {base:Int} {A:Option Addr} {n c:Nat} {Z:List SV} {wA:Option Addr} {wc:Nat} {W:List Int} (h:NewI w wr b base A n c Z wA n wc W) (hl:Z.length=n) (hW:W.length=n):WkM wr b base A n c Z wA wc W :=
 ⟨h.blk,⟨RdT.of_own h.own,hl,h.el⟩,RdT.of_own h.wds,hW⟩
def lenOf (n:Nat) (W:List Int):Int:=if n=0 then 0 else W.getD (n-1) 0
theorem base_any (w:World) (b:Nat) (base:Int) (sv wv:Value) (hb:Blk w b 167 #[.int .i64 base,sv,wv]) :
  Calls Tryz.prog 99 #[.pointer (some ⟨b,0,none⟩)] w fun e w'=>e=.returned (.int .i64 base)∧w'=w:=by
 obtain ⟨x0,x1,x2⟩:=hb.facts
 go_enter Tryz.func99,Tryz.ntmps99
 go_wp2
 go_ret
 exact ⟨rfl,rfl⟩
structure DWk (w:World) (b:Nat) (L:List PRow) (n:Nat) (A:Option Addr) (c:Nat) (Z:List SV) (wA:Option Addr) (wc:Nat):Prop where
 wk:WkM w b (mach L).base A n c Z wA wc (wdsF (mach L).states n)
 st:Z.map SV.p=(mach L).states
 few:n≤1000000
theorem DWk.quiet {w w':World} {b:Nat} {L:List PRow} {n:Nat} {A:Option Addr} {c:Nat} {Z:List SV} {wA:Option Addr} {wc:Nat} (h:DWk w b L n A c Z wA wc) (T:Touch (fun _=>False) w w'):DWk w' b L n A c Z wA wc:=⟨h.wk.quiet T,h.st,h.few⟩
theorem mach_ne {L:List PRow} (h:L≠[]):mach L=⟨leastR (restsL L),(stateF 25 ⟨[],[]⟩ (restsL L)).1.states⟩:=by unfold mach;rw [if_neg h]
section
variable {w:World} {b:Nat} {L:List PRow} {n:Nat} {A:Option Addr} {c:Nat} {Z:List SV} {wA:Option Addr} {wc:Nat}
theorem DWk.n_len (h:DWk w b L n A c Z wA wc):(mach L).states.length=n:=by rw [← h.st,List.length_map];exact h.wk.sts.len
theorem small_right {sts:List StP} {base:Int} (h:RgtP sts base) (hs:Z.map SV.p=sts):Small sts.length Z:=by
 have key:∀ z∈Z,∃ i,i<sts.length∧FormP i z.p:=by
  intro z hz
  rcases h with ⟨h,_⟩ | h
  ·rw [h] at hs
   have:Z=[]:=by simpa using hs
   rw [this] at hz
   cases hz
  ·obtain ⟨i,hi,rfl⟩:=List.mem_iff_getElem.1 hz
   have hl:i<sts.length:=by rw [← hs,List.length_map];exact hi
   refine ⟨i,hl,?_⟩
   have:=h.form i hl
   rw [← hs] at this
   simpa [List.getD,hi] using this
 refine ⟨fun z hz=>?_,fun z hz a ha=>?_,fun z hz=>?_⟩
 ·obtain ⟨i,hi,hf⟩:=key z hz
  exact hf.lab.imp fun h=>Nat.ne_of_lt h
 ·obtain ⟨i,hi,hf⟩:=key z hz
  have:=hf.arc a ha
  exact ⟨this.1,this.2.1,by omega⟩
 ·obtain ⟨i,hi,hf⟩:=key z hz
  exact ⟨hf.out0,hf.out1⟩
theorem base_mach (hD:DictP L):0≤(mach L).base∧(mach L).base≤1048576:=by
 rcases right_mach hD with ⟨_,h⟩ | h
 ·rw [h];omega
 ·have h1:=h.base1
  have h2:=h.base2
  omega
end
theorem dnew_any (w:World) (hL:Lst w) (L:List PRow) (hD:DictP L) (A:Option Addr) (n c:Nat) (Z:List SV) (hst:StsOk w A n Z) (hs:Z.map SV.p=(mach L).states) :
  Calls Tryz.prog 39 #[.agg #[.int .i64 (mach L).base,.slice A n c]] w fun e w'=>∃ b A' c' Z' wA wc,e=.returned (.tuple #[.pointer (some ⟨b,0,none⟩),.bool true])∧DWk w' b L n A' c' Z' wA wc∧NewI w w' b (mach L).base A' n c' Z' wA n wc (wdsF (mach L).states n):=by
 have hn:(mach L).states.length=n:=by rw [← hs,List.length_map];exact hst.len
 have hfew:n≤1000000:=by
  rcases right_mach hD with ⟨h,_⟩ | h
  ·rw [h] at hn;simp at hn;omega
  ·have:=h.few;omega
 have hc:=new_any w hL (mach L).base A n c Z hst (by rw [hs];exact right_mach hD) hfew
 refine hc.mono ?_
 rintro e w' ⟨b,A',c',Z',wA,wc,rfl,hI,hZ⟩
 rw [hs] at hI hZ
 have hl:Z'.length=n:=by rw [← List.length_map (f:=SV.p),hZ,hn]
 exact ⟨b,A',c',Z',wA,wc,rfl,⟨hI.wk hl (wdsF_len (by omega)),hZ,hfew⟩,hI⟩
theorem writeU_size (r:Nat):(writeU r).length≤4:=by
 unfold writeU
 repeat' split
 all_goals simp
theorem flat_size:∀ x:List Nat,(x.flatMap writeU).length≤4*x.length
 | []=>by simp
 | r :: x=>by
  have h1:=writeU_size r
  have h2:=flat_size x
  simp only [List.flatMap_cons,List.length_append,List.length_cons]
  omega
theorem dict_sizes {L:List PRow} (hD:DictP L):∀ r∈L,r.word.size≤1099511627776:=by
 intro r hr
 obtain ⟨h1,_,_,h4⟩:=hD.word r hr
 have h:=(runesU_write _ _ _ (Nat.le_refl _) h1).1
 have h2:=flat_size (wordR r)
 rw [← h,ByteArray.toList_eq] at h2
 have e:r.word.size=r.word.data.toList.length:=by rw [Array.length_toList];rfl
 omega
theorem wstate_none (w:World) (b:Nat) (base:Int) (A:Option Addr) (n c:Nat) (Z:List SV) (wA:Option Addr) (wc:Nat) (W:List Int) (hM:WkM w b base A n c Z wA wc W) (i:Int) (hi:i<0∨(n:Int)≤i) :
  Calls Tryz.prog 90 #[.pointer (some ⟨b,0,none⟩),.int .i64 i] w fun e w'=>e=.returned (.tuple #[.agg #[.bool false,.int .i64 0,.slice none 0 0],.bool false])∧Touch (fun _=>False) w w':=by
 obtain ⟨x0,x1,x2⟩:=hM.blk.facts
 have hcase:i<0∨(¬ i<0∧(n:Int)≤i):=by omega
 clear hM hi
 have hb:Blk (w.alloc (.cells #[.bool false,.int .i64 0,.slice none 0 0] 170)) w.heap.size 170 #[.bool false,.int .i64 0,.slice none 0 0]:=Blk.new _ _ _
 have HB:=hide hb
 clear hb
 rcases hcase with h0 | ⟨h0,h1⟩
 all_goals
  go_enter Tryz.func90,Tryz.ntmps90
  go_wp2_with fail
  have f0:=HB.out.cell 0
  have f1:=HB.out.cell 1
  have f2:=HB.out.cell 2
  simp at f0 f1 f2
  exact bodyPost_ret (v:=.tuple #[.agg #[.bool false,.int .i64 0,.slice none 0 0],.bool false]) (by simp [results,Tryz.results90,go_sem]) rfl ⟨rfl,(Touch.refl _ _).alloc _⟩
theorem wstate_some (w:World) (b:Nat) (base:Int) (A:Option Addr) (n c:Nat) (Z:List SV) (wA:Option Addr) (wc:Nat) (W:List Int) (hM:WkM w b base A n c Z wA wc W) (i:Nat) (hi:i<n) (z:SV) (hz:Z.getD i svZero=z) (hq:z.n≤2097152) :
  Calls Tryz.prog 90 #[.pointer (some ⟨b,0,none⟩),.int .i64 i] w fun e w'=>∃ A2 c2,e=.returned (.tuple #[.agg #[.bool z.fin,.int .i64 z.out,.slice A2 z.n c2],.bool true])∧Cln w w' A2 z.n c2 z.arcs:=by
 obtain ⟨x0,x1,x2⟩:=hM.blk.facts
 obtain ⟨g,o,hA,hgl,d0,d1,d2⟩:=state_at hM.sts.rd.rd hM.sts.len i hi
 subst hA
 have hzo:=hM.sts.el _ (getD_mem Z svZero i (by rw [hM.sts.len];exact hi))
 rw [hz] at d0 d1 d2 hzo
 obtain ⟨fin,out,zA,q,zc,arcs⟩:=z
 simp only at d0 d1 d2 hq ⊢
 have y0:¬ (i:Int)<0:=by omega
 have y1:(i:Int)<(n:Int):=by omega
 have y2:(0:Int)≤(i:Int):=by omega
 obtain ⟨R,hR⟩:∃ R,R=w.heap.size:=⟨_,rfl⟩
 obtain ⟨s,hs⟩:∃ s,s=w.heap.size+1:=⟨_,rfl⟩
 obtain ⟨wa,hwa⟩:∃ x,x=(w.alloc (.cells #[.bool false,.int .i64 0,.slice none 0 0] 170)).alloc (.cells #[.bool fin,.int .i64 out,.slice zA q zc] 170):=⟨_,rfl⟩
 have hTa:Touch (fun _=>False) w wa:=by rw [hwa];exact ((Touch.refl _ _).alloc _).alloc _
 have hbR:Blk wa R 170 #[.bool false,.int .i64 0,.slice none 0 0]:=by rw [hwa,hR];exact (Blk.new _ _ _).alloc _
 have hbs:Blk wa s 170 #[.bool fin,.int .i64 out,.slice zA q zc]:=by rw [hwa,hs];exact blk_new1 _ _ _ _
 have hcc:=clone_any wa zA q zc arcs hzo.len (hzo.rd.quiet hTa) hq
 have HWA:=hide hwa
 have HR:=hide hR
 have HSD:=hide hs
 have HTA:=hide hTa
 have HBR:=hide hbR
 have HBS:=hide hbs
 have HCC:=hide hcc
 clear hM hzo hz hq hwa hR hs hTa hbR hbs hcc
 go_enter Tryz.func90,Tryz.ntmps90
 go_wp2_with fail
 rw [← HWA.out,← HSD.out,← HR.out]
 refine HCC.out.mono ?_
 rintro e w3 ⟨A2,c2,rfl,hcl⟩
 have hbs3:=HBS.out.touch hcl.touch (fun f=>f)
 have hbR3:=HBR.out.touch hcl.touch (fun f=>f)
 obtain ⟨t0,t1,t2⟩:=hbs3.facts
 obtain ⟨r0,r1,r2⟩:=hbR3.facts
 have hRs:¬ R=s:=by have h1:=HR.out;have h2:=HSD.out;omega
 have hsR:¬ s=R:=fun e=>hRs e.symm
 have HCL:=hide hcl
 have HBR3:=hide hbR3
 have HBS3:=hide hbs3
 have HRS:=hide hRs
 clear hcl hbs3 hbR3 HCC
 go_wp2_with fail
 have hb4:=((((HBR3.out.far (p:=⟨s,2,none⟩) HRS.out (.slice A2 q c2)).set_ 0 (.bool fin)).set_ 1 (.int .i64 out)).set_ 2 (.slice A2 q c2))
 have f0:=hb4.cell 0
 have f1:=hb4.cell 1
 have f2:=hb4.cell 2
 simp at f0 f1 f2
 have hT4:Touch (fun y=>y=R∨y=s) w3 ((((w3.setCell ⟨s,2,none⟩ (.slice A2 q c2)).setCell ⟨R,0,none⟩ (.bool fin)).setCell ⟨R,1,none⟩ (.int .i64 out)).setCell ⟨R,2,none⟩ (.slice A2 q c2)):=by
  refine Touch.setCell (Touch.setCell (Touch.setCell (Touch.setCell (Touch.refl _ _) ?_ _) ?_ _) ?_ _) ?_ _
  ·exact fun _=>.inr rfl
  ·exact fun _=>.inl rfl
  ·exact fun _=>.inl rfl
  ·exact fun _=>.inl rfl
 refine bodyPost_ret (v:=.tuple #[.agg #[.bool fin,.int .i64 out,.slice A2 q c2],.bool true]) (by simp [results,Tryz.results90,go_sem,f0,f1,f2]) rfl ⟨A2,c2,rfl,?_,?_,?_⟩
 ·refine own_touch HCL.out.own hT4 ?_
  rintro y hy (e | e)
  ·exact (own_ty HCL.out.own hy).ne (blk_ty HBR3.out) (by decide) e
  ·exact (own_ty HCL.out.own hy).ne (blk_ty HBS3.out) (by decide) e
 ·intro y hy
  have h1:=HCL.out.young y hy
  have h2:=HTA.out.size
  omega
 ·refine (HTA.out.then HCL.out.touch).trans hT4 fun y hy e=>?_
  have h1:=HR.out
  have h2:=HSD.out
  omega
end Go.Proofs.YthockgmbooefpaaGreatDoor
