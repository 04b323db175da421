/- What the law rests on, part 3. No condition but those that each theorem names. -/
import Derived.Test.YthockgmbooefpaaGreatDoorL02
import Derived.Test.YthockgmbooefpaaGreatDoorL01
import Derived.Deep.AppendLies
import Derived.Deep.RegionLaw
import Derived.Laws.BytesArg
set_option linter.unusedSectionVars false
set_option linter.unusedSimpArgs false
set_option linter.unusedVariables false
set_option maxRecDepth 100000
set_option maxHeartbeats 2000000
namespace Go.Proofs.YthockgmbooefpaaGreatDoor
open Go.RowKit
theorem infoByte:(Tryz.prog.info? 5).map (fun i=>(i.zero,i.size,i.bytes))=some (some (.int .u8 0),1,1):=by kernel_rfl
def byteV (b:UInt8):Value:=.int .u8 (b.toNat:Int)
theorem onecell_bytes (O:List UInt8):∀ u∈O.map byteV,u.oneCell'=true:=by
 intro u hu
 obtain ⟨_,_,rfl⟩:=List.mem_map.1 hu
 rfl
theorem and63 (r:Nat) (h:r<2147483648):bits .and .i32 (r:Int) 63=((r % 64:Nat):Int):=and_i32 6 (by decide) r h
theorem or_224 (c:Nat) (h:c<16):bits .or .i32 224 (c:Int)=224+(c:Int) :=
 bits_join .i32 31 (by decide) (fun n h0 h1=>IntWalk.i32_in _ (by omega)) 5 (224:Int) (c:Int) (by omega) (by omega) (by omega) (by omega) (by omega) (by omega)
theorem or_240 (c:Nat) (h:c<8):bits .or .i32 240 (c:Int)=240+(c:Int) :=
 bits_join .i32 31 (by decide) (fun n h0 h1=>IntWalk.i32_in _ (by omega)) 4 (240:Int) (c:Int) (by omega) (by omega) (by omega) (by omega) (by omega) (by omega)
theorem byteV_add {n x:Nat} (h:n+x<256):byteV (UInt8.ofNat (n+x))=.int .u8 ((n:Int)+(x:Int)):=u8_cell h
theorem wrow_one (w:World) (v:Value) (q:Nat) (xs:List Value) (hv:w.ownsRow 0 5 1 v q xs) (hL:Lst w) (hq:q≤1099511627776) (r:Nat) (h1:r<128) :
  Calls Tryz.prog 148 #[v,.int .i32 r] w fun e w'=>∃ v',e=.returned v'∧w'.ownsRow 0 5 1 v' (q+(writeU r).length) (xs++(writeU r).map byteV)∧w.grownBy w' v.ownBlock∧Fresh w v v':=by
 obtain ⟨ti,hi,hz0,hz1,hz2⟩:=info_parts infoByte
 obtain ⟨l0,l2,l3,l4⟩:=hL
 have h0:(0:Int)≤(r:Int):=by omega
 have hwr:(writeU r).map byteV=[.int .u8 (r:Int)]:=by
  unfold writeU;rw [if_pos h1]
  simp only [List.map_cons,List.map_nil,show byteV (UInt8.ofNat r)=.int .u8 (r:Int) from by unfold byteV;rw [UInt8.toNat_ofNat',Nat.mod_eq_of_lt (by omega)]]
  try rfl
 have hwl:(writeU r).length=1:=by have:=congrArg List.length hwr;simpa using this
 have e0:(r:Int) % 256=(r:Int):=by omega
 have i0:(r:Int)<128:=by omega
 rw [hwl,hwr]
 have HV:=hide hv
 have hrd:∀ w:World,Reads (w.alloc (.cells #[.int .u8 (r:Int)] 5)) 1 (some ⟨w.heap.size,0,none⟩) 1 [.int .u8 (r:Int)]:=fun w=>Reads.new (size:=1) _ _ [.int .u8 (r:Int)] 1 (by simp)
 have hone:∀ u∈([.int .u8 (r:Int)]:List Value),u.oneCell'=true:=by
  intro u hu
  simp only [List.mem_cons,List.not_mem_nil,or_false] at hu
  rcases hu with rfl
  all_goals rfl
 have hb1:q+1≤maxLen:=by unfold maxLen;omega
 have hb2:(q+1)*1≤140737488355328:=by omega
 clear hwr hwl hv h1
 go_enter Tryz.func148,Tryz.ntmps148
 go_wp2_with (at_builtin;refine wpList_app _ rfl (.tmp 10) (.tmp 13) 50 rfl 5 ti _ 1 1 Tryz.underlying50 hi hz0 hz1 hz2 rfl (by decide) v q _ rfl (own_touch HV.out ((Touch.refl _ _).alloc _) (fun _ _ f=>f)) (some ⟨_,0,none⟩) 1 1 [.int .u8 (r:Int)] rfl (hrd _) (fun h=>by cases h) hone hb1 hb2 ?_)
 intro v4 w4 hown hgrow hfr _
 have hg1:w.grownBy w4 v.ownBlock:=⟨hgrow.os,hgrow.tape,hgrow.output,Nat.le_trans (by simp) hgrow.size,fun k hk hne=>(hgrow.block k (by simp;omega) hne).trans (Below.heap_alloc w _ k hk)⟩
 have hf1:Fresh w v v4:=by
  rcases hfr with e | ⟨g,e,hg⟩
  ·exact Or.inl e
  ·exact Or.inr ⟨g,e,Nat.le_trans (by simp) hg⟩
 have HE:=hide (And.intro hown (And.intro hg1 hf1))
 clear hown hgrow hfr hg1 hf1
 go_wp2_with fail
 first
  | (go_ret;exact ⟨v4,rfl,HE.out.1,HE.out.2.1,HE.out.2.2⟩)
  | exact bodyPost_ret (v:=v4) (by simp [results,Tryz.results148,go_sem]) rfl ⟨v4,rfl,HE.out.1,HE.out.2.1,HE.out.2.2⟩
theorem wrow_two (w:World) (v:Value) (q:Nat) (xs:List Value) (hv:w.ownsRow 0 5 1 v q xs) (hL:Lst w) (hq:q≤1099511627776) (r:Nat) (h1:128≤r) (h2:r<2048) :
  Calls Tryz.prog 148 #[v,.int .i32 r] w fun e w'=>∃ v',e=.returned v'∧w'.ownsRow 0 5 1 v' (q+(writeU r).length) (xs++(writeU r).map byteV)∧w.grownBy w' v.ownBlock∧Fresh w v v':=by
 obtain ⟨ti,hi,hz0,hz1,hz2⟩:=info_parts infoByte
 obtain ⟨l0,l2,l3,l4⟩:=hL
 have h0:(0:Int)≤(r:Int):=by omega
 obtain ⟨l,hl⟩:∃ l,r % 64=l:=⟨_,rfl⟩
 obtain ⟨a,ha⟩:∃ a,r / 64=a:=⟨_,rfl⟩
 have hwr:(writeU r).map byteV=[.int .u8 ((192:Int)+(a:Int)),.int .u8 ((128:Int)+(l:Int))]:=by
  unfold writeU;rw [if_neg (by omega),if_pos h2,hl,ha]
  simp only [List.map_cons,List.map_nil,byteV_add (n:=192) (x:=a) (by omega),byteV_add (n:=128) (x:=l) (by omega)]
  try rfl
 have hwl:(writeU r).length=2:=by have:=congrArg List.length hwr;simpa using this
 have f1:=and63 r (by omega)
 rw [hl] at f1
 have e2:(r:Int) / 64=(a:Int):=by omega
 have b1:l<64:=by omega
 have b2:a<32:=by omega
 have i0:¬ (r:Int)<128:=by omega
 have i1:(r:Int)<2048:=by omega
 rw [hwl,hwr]
 have HV:=hide hv
 have hrd:∀ w:World,Reads (w.alloc (.cells #[.int .u8 ((192:Int)+(a:Int)),.int .u8 ((128:Int)+(l:Int))] 5)) 1 (some ⟨w.heap.size,0,none⟩) 2 [.int .u8 ((192:Int)+(a:Int)),.int .u8 ((128:Int)+(l:Int))]:=fun w=>Reads.new (size:=1) _ _ [.int .u8 ((192:Int)+(a:Int)),.int .u8 ((128:Int)+(l:Int))] 2 (by simp)
 have hone:∀ u∈([.int .u8 ((192:Int)+(a:Int)),.int .u8 ((128:Int)+(l:Int))]:List Value),u.oneCell'=true:=by
  intro u hu
  simp only [List.mem_cons,List.not_mem_nil,or_false] at hu
  rcases hu with rfl | rfl
  all_goals rfl
 have hb1:q+2≤maxLen:=by unfold maxLen;omega
 have hb2:(q+2)*1≤140737488355328:=by omega
 clear hwr hwl hv h1 hl ha
 go_enter Tryz.func148,Tryz.ntmps148
 go_wp2_with (at_builtin;refine wpList_app _ rfl (.tmp 20) (.tmp 29) 50 rfl 5 ti _ 1 1 Tryz.underlying50 hi hz0 hz1 hz2 rfl (by decide) v q _ rfl (own_touch HV.out ((Touch.refl _ _).alloc _) (fun _ _ f=>f)) (some ⟨_,0,none⟩) 2 2 [.int .u8 ((192:Int)+(a:Int)),.int .u8 ((128:Int)+(l:Int))] rfl (hrd _) (fun h=>by cases h) hone hb1 hb2 ?_)
 intro v4 w4 hown hgrow hfr _
 have hg1:w.grownBy w4 v.ownBlock:=⟨hgrow.os,hgrow.tape,hgrow.output,Nat.le_trans (by simp) hgrow.size,fun k hk hne=>(hgrow.block k (by simp;omega) hne).trans (Below.heap_alloc w _ k hk)⟩
 have hf1:Fresh w v v4:=by
  rcases hfr with e | ⟨g,e,hg⟩
  ·exact Or.inl e
  ·exact Or.inr ⟨g,e,Nat.le_trans (by simp) hg⟩
 have HE:=hide (And.intro hown (And.intro hg1 hf1))
 clear hown hgrow hfr hg1 hf1
 go_wp2_with fail
 first
  | (go_ret;exact ⟨v4,rfl,HE.out.1,HE.out.2.1,HE.out.2.2⟩)
  | exact bodyPost_ret (v:=v4) (by simp [results,Tryz.results148,go_sem]) rfl ⟨v4,rfl,HE.out.1,HE.out.2.1,HE.out.2.2⟩
theorem wrow_three (w:World) (v:Value) (q:Nat) (xs:List Value) (hv:w.ownsRow 0 5 1 v q xs) (hL:Lst w) (hq:q≤1099511627776) (r:Nat) (h1:2048≤r) (h2:(r:Int)<65536) :
  Calls Tryz.prog 148 #[v,.int .i32 r] w fun e w'=>∃ v',e=.returned v'∧w'.ownsRow 0 5 1 v' (q+(writeU r).length) (xs++(writeU r).map byteV)∧w.grownBy w' v.ownBlock∧Fresh w v v':=by
 obtain ⟨ti,hi,hz0,hz1,hz2⟩:=info_parts infoByte
 obtain ⟨l0,l2,l3,l4⟩:=hL
 have h0:(0:Int)≤(r:Int):=by omega
 obtain ⟨l,hl⟩:∃ l,r % 64=l:=⟨_,rfl⟩
 obtain ⟨a,ha⟩:∃ a,r / 64=a:=⟨_,rfl⟩
 obtain ⟨m,hm⟩:∃ m,a % 64=m:=⟨_,rfl⟩
 obtain ⟨c,hc⟩:∃ c,r / 4096=c:=⟨_,rfl⟩
 have hwr:(writeU r).map byteV=[.int .u8 ((224:Int)+(c:Int)),.int .u8 ((128:Int)+(m:Int)),.int .u8 ((128:Int)+(l:Int))]:=by
  unfold writeU;rw [if_neg (by omega),if_neg (by omega),if_pos (by omega),hl,ha,hm,hc]
  simp only [List.map_cons,List.map_nil,byteV_add (n:=224) (x:=c) (by omega),byteV_add (n:=128) (x:=m) (by omega),byteV_add (n:=128) (x:=l) (by omega)]
  try rfl
 have hwl:(writeU r).length=3:=by have:=congrArg List.length hwr;simpa using this
 have f1:=and63 r (by omega)
 rw [hl] at f1
 have f2:=and63 a (by omega)
 rw [hm] at f2
 have e2:(r:Int) / 64=(a:Int):=by omega
 have e3:(r:Int) / 4096=(c:Int):=by omega
 have b1:l<64:=by omega
 have b2:m<64:=by omega
 have b3:c<16:=by omega
 have b4:(a:Int)<2048:=by omega
 have g1:=or_224 c b3
 have g2:((224:Int)+(c:Int)) % 256=224+(c:Int):=by omega
 have i0:¬ (r:Int)<128:=by omega
 have i1:¬ (r:Int)<2048:=by omega
 rw [hwl,hwr]
 have HV:=hide hv
 have hrd:∀ w:World,Reads (w.alloc (.cells #[.int .u8 ((224:Int)+(c:Int)),.int .u8 ((128:Int)+(m:Int)),.int .u8 ((128:Int)+(l:Int))] 5)) 1 (some ⟨w.heap.size,0,none⟩) 3 [.int .u8 ((224:Int)+(c:Int)),.int .u8 ((128:Int)+(m:Int)),.int .u8 ((128:Int)+(l:Int))]:=fun w=>Reads.new (size:=1) _ _ [.int .u8 ((224:Int)+(c:Int)),.int .u8 ((128:Int)+(m:Int)),.int .u8 ((128:Int)+(l:Int))] 3 (by simp)
 have hone:∀ u∈([.int .u8 ((224:Int)+(c:Int)),.int .u8 ((128:Int)+(m:Int)),.int .u8 ((128:Int)+(l:Int))]:List Value),u.oneCell'=true:=by
  intro u hu
  simp only [List.mem_cons,List.not_mem_nil,or_false] at hu
  rcases hu with rfl | rfl | rfl
  all_goals rfl
 have hb1:q+3≤maxLen:=by unfold maxLen;omega
 have hb2:(q+3)*1≤140737488355328:=by omega
 clear hwr hwl hv h1 hl ha hm hc
 go_enter Tryz.func148,Tryz.ntmps148
 go_wp2_with (at_builtin;refine wpList_app _ rfl (.tmp 36) (.tmp 50) 50 rfl 5 ti _ 1 1 Tryz.underlying50 hi hz0 hz1 hz2 rfl (by decide) v q _ rfl (own_touch HV.out ((Touch.refl _ _).alloc _) (fun _ _ f=>f)) (some ⟨_,0,none⟩) 3 3 [.int .u8 ((224:Int)+(c:Int)),.int .u8 ((128:Int)+(m:Int)),.int .u8 ((128:Int)+(l:Int))] rfl (hrd _) (fun h=>by cases h) hone hb1 hb2 ?_)
 intro v4 w4 hown hgrow hfr _
 have hg1:w.grownBy w4 v.ownBlock:=⟨hgrow.os,hgrow.tape,hgrow.output,Nat.le_trans (by simp) hgrow.size,fun k hk hne=>(hgrow.block k (by simp;omega) hne).trans (Below.heap_alloc w _ k hk)⟩
 have hf1:Fresh w v v4:=by
  rcases hfr with e | ⟨g,e,hg⟩
  ·exact Or.inl e
  ·exact Or.inr ⟨g,e,Nat.le_trans (by simp) hg⟩
 have HE:=hide (And.intro hown (And.intro hg1 hf1))
 clear hown hgrow hfr hg1 hf1
 go_wp2_with fail
 first
  | (go_ret;exact ⟨v4,rfl,HE.out.1,HE.out.2.1,HE.out.2.2⟩)
  | exact bodyPost_ret (v:=v4) (by simp [results,Tryz.results148,go_sem]) rfl ⟨v4,rfl,HE.out.1,HE.out.2.1,HE.out.2.2⟩
theorem wrow_four (w:World) (v:Value) (q:Nat) (xs:List Value) (hv:w.ownsRow 0 5 1 v q xs) (hL:Lst w) (hq:q≤1099511627776) (r:Nat) (h1:(65536:Int)≤(r:Int)) (h2:(r:Int)<1114112) :
  Calls Tryz.prog 148 #[v,.int .i32 r] w fun e w'=>∃ v',e=.returned v'∧w'.ownsRow 0 5 1 v' (q+(writeU r).length) (xs++(writeU r).map byteV)∧w.grownBy w' v.ownBlock∧Fresh w v v':=by
 obtain ⟨ti,hi,hz0,hz1,hz2⟩:=info_parts infoByte
 obtain ⟨l0,l2,l3,l4⟩:=hL
 have h0:(0:Int)≤(r:Int):=by omega
 obtain ⟨l,hl⟩:∃ l,r % 64=l:=⟨_,rfl⟩
 obtain ⟨a,ha⟩:∃ a,r / 64=a:=⟨_,rfl⟩
 obtain ⟨m,hm⟩:∃ m,a % 64=m:=⟨_,rfl⟩
 obtain ⟨c,hc⟩:∃ c,r / 4096=c:=⟨_,rfl⟩
 obtain ⟨d,hd⟩:∃ d,c % 64=d:=⟨_,rfl⟩
 obtain ⟨f,hf⟩:∃ f,r / 262144=f:=⟨_,rfl⟩
 have hwr:(writeU r).map byteV=[.int .u8 ((240:Int)+(f:Int)),.int .u8 ((128:Int)+(d:Int)),.int .u8 ((128:Int)+(m:Int)),.int .u8 ((128:Int)+(l:Int))]:=by
  unfold writeU;rw [if_neg (by omega),if_neg (by omega),if_neg (by omega),hl,ha,hm,hc,hd,hf]
  simp only [List.map_cons,List.map_nil,byteV_add (n:=240) (x:=f) (by omega),byteV_add (n:=128) (x:=d) (by omega),byteV_add (n:=128) (x:=m) (by omega),byteV_add (n:=128) (x:=l) (by omega)]
  try rfl
 have hwl:(writeU r).length=4:=by have:=congrArg List.length hwr;simpa using this
 have f1:=and63 r (by omega)
 rw [hl] at f1
 have f2:=and63 a (by omega)
 rw [hm] at f2
 have f3:=and63 c (by omega)
 rw [hd] at f3
 have e2:(r:Int) / 64=(a:Int):=by omega
 have e3:(r:Int) / 4096=(c:Int):=by omega
 have e4:(r:Int) / 262144=(f:Int):=by omega
 have b1:l<64:=by omega
 have b2:m<64:=by omega
 have b3:d<64:=by omega
 have b4:f<8:=by omega
 have b5:(a:Int)<20000:=by omega
 have b6:(c:Int)<300:=by omega
 have g1:=or_240 f b4
 have g2:((240:Int)+(f:Int)) % 256=240+(f:Int):=by omega
 have i0:¬ (r:Int)<128:=by omega
 have i1:¬ (r:Int)<2048:=by omega
 have i2:¬ (r:Int)<65536:=by omega
 rw [hwl,hwr]
 have HV:=hide hv
 have hrd:∀ w:World,Reads (w.alloc (.cells #[.int .u8 ((240:Int)+(f:Int)),.int .u8 ((128:Int)+(d:Int)),.int .u8 ((128:Int)+(m:Int)),.int .u8 ((128:Int)+(l:Int))] 5)) 1 (some ⟨w.heap.size,0,none⟩) 4 [.int .u8 ((240:Int)+(f:Int)),.int .u8 ((128:Int)+(d:Int)),.int .u8 ((128:Int)+(m:Int)),.int .u8 ((128:Int)+(l:Int))]:=fun w=>Reads.new (size:=1) _ _ [.int .u8 ((240:Int)+(f:Int)),.int .u8 ((128:Int)+(d:Int)),.int .u8 ((128:Int)+(m:Int)),.int .u8 ((128:Int)+(l:Int))] 4 (by simp)
 have hone:∀ u∈([.int .u8 ((240:Int)+(f:Int)),.int .u8 ((128:Int)+(d:Int)),.int .u8 ((128:Int)+(m:Int)),.int .u8 ((128:Int)+(l:Int))]:List Value),u.oneCell'=true:=by
  intro u hu
  simp only [List.mem_cons,List.not_mem_nil,or_false] at hu
  rcases hu with rfl | rfl | rfl | rfl
  all_goals rfl
 have hb1:q+4≤maxLen:=by unfold maxLen;omega
 have hb2:(q+4)*1≤140737488355328:=by omega
 clear hwr hwl hv h1 hl ha hm hc hd hf
 go_enter Tryz.func148,Tryz.ntmps148
 go_wp2_with (at_builtin;refine wpList_app _ rfl (.tmp 52) (.tmp 71) 50 rfl 5 ti _ 1 1 Tryz.underlying50 hi hz0 hz1 hz2 rfl (by decide) v q _ rfl (own_touch HV.out ((Touch.refl _ _).alloc _) (fun _ _ f=>f)) (some ⟨_,0,none⟩) 4 4 [.int .u8 ((240:Int)+(f:Int)),.int .u8 ((128:Int)+(d:Int)),.int .u8 ((128:Int)+(m:Int)),.int .u8 ((128:Int)+(l:Int))] rfl (hrd _) (fun h=>by cases h) hone hb1 hb2 ?_)
 intro v4 w4 hown hgrow hfr _
 have hg1:w.grownBy w4 v.ownBlock:=⟨hgrow.os,hgrow.tape,hgrow.output,Nat.le_trans (by simp) hgrow.size,fun k hk hne=>(hgrow.block k (by simp;omega) hne).trans (Below.heap_alloc w _ k hk)⟩
 have hf1:Fresh w v v4:=by
  rcases hfr with e | ⟨g,e,hg⟩
  ·exact Or.inl e
  ·exact Or.inr ⟨g,e,Nat.le_trans (by simp) hg⟩
 have HE:=hide (And.intro hown (And.intro hg1 hf1))
 clear hown hgrow hfr hg1 hf1
 go_wp2_with fail
 first
  | (go_ret;exact ⟨v4,rfl,HE.out.1,HE.out.2.1,HE.out.2.2⟩)
  | exact bodyPost_ret (v:=v4) (by simp [results,Tryz.results148,go_sem]) rfl ⟨v4,rfl,HE.out.1,HE.out.2.1,HE.out.2.2⟩
theorem wrow_any (w:World) (v:Value) (q:Nat) (xs:List Value) (hv:w.ownsRow 0 5 1 v q xs) (hL:Lst w) (hq:q≤1099511627776) (r:Nat) (hr:r<1114112) :
  Calls Tryz.prog 148 #[v,.int .i32 r] w fun e w'=>∃ v',e=.returned v'∧w'.ownsRow 0 5 1 v' (q+(writeU r).length) (xs++(writeU r).map byteV)∧w.grownBy w' v.ownBlock∧Fresh w v v':=by
 by_cases h1:r<128
 ·exact wrow_one w v q xs hv hL hq r h1
 ·by_cases h2:r<2048
  ·exact wrow_two w v q xs hv hL hq r (by omega) h2
  ·by_cases h3:(r:Int)<65536
   ·exact wrow_three w v q xs hv hL hq r (by omega) h3
   ·exact wrow_four w v q xs hv hL hq r (by omega) (by omega)
def TyAt (w:World) (b:Nat) (t:TypeId):Prop:=∃ cs,∃ _:Unit,w.heap[b]? = some (.cells cs t (0,0))
theorem TyAt.ne {w:World} {b b':Nat} {t t':TypeId} (h:TyAt w b t) (h':TyAt w b' t') (ht:t≠t'):b≠b':=by
 rintro rfl
 obtain ⟨_,_,e⟩:=h
 obtain ⟨_,_,e'⟩:=h'
 rw [e] at e'
 injection e' with e'
 injection e' with _ e'
 exact ht e'
theorem TyAt.lt {w:World} {b:Nat} {t:TypeId} (h:TyAt w b t):b<w.heap.size:=by
 obtain ⟨_,_,e⟩:=h
 exact (Array.getElem?_eq_some_iff.1 e).1
theorem TyAt.touch {w w':World} {S:Nat→Prop} {b:Nat} {t:TypeId} (h:TyAt w b t) (T:Touch S w w') (hS:¬ S b):TyAt w' b t:=by
 have hl:=h.lt
 obtain ⟨cs,fr,e⟩:=h
 exact ⟨cs,fr,(T.block b hl hS).trans e⟩
structure RdT (w:World) (t:TypeId) (size:Nat) (A:Option Addr) (n:Nat) (xs:List Value):Prop where
 rd:Reads w size A n xs
 ty:0<n→∀ g,adBlock A=some g→TyAt w g t
theorem RdT.touch {w w':World} {S:Nat→Prop} {t:TypeId} {size:Nat} {A:Option Addr} {n:Nat} {xs:List Value} (h:RdT w t size A n xs) (T:Touch S w w') (hS:∀ g,TyAt w g t→¬ S g):RdT w' t size A n xs:=by
 by_cases hn:0<n
 ·exact ⟨h.rd.touch T fun g hg=>hS g (h.ty hn g hg),fun _ g hg=>(h.ty hn g hg).touch T (hS g (h.ty hn g hg))⟩
 ·exact ⟨⟨h.rd.1,fun h=>absurd h hn⟩,fun h=>absurd h hn⟩
theorem RdT.quiet {w w':World} {t:TypeId} {size:Nat} {A:Option Addr} {n:Nat} {xs:List Value} (h:RdT w t size A n xs) (T:Touch (fun _=>False) w w'):RdT w' t size A n xs:=h.touch T fun _ _ f=>f
theorem RdT.of_own {w:World} {base:Nat} {t:TypeId} {size:Nat} {A:Option Addr} {n c:Nat} {xs:List Value} (h:w.ownsRow base t size (.slice A n c) n xs):RdT w t size A n xs:=by
 refine ⟨Reads.of_own h,fun hn g hg=>?_⟩
 rcases h.2 with ⟨e,e2⟩ | ⟨g',cap,cur,e,_,hb,_⟩
 ·omega
 ·injection e with e _ _
  subst e
  simp only [adBlock,Option.map_some,Option.some.injEq] at hg
  subst hg
  exact ⟨cur,(),hb⟩
theorem own_ty {w:World} {base:Nat} {t:TypeId} {size:Nat} {v:Value} {n:Nat} {xs:List Value} (h:w.ownsRow base t size v n xs) {g:Nat} (hg:v.ownBlock=some g):TyAt w g t:=by
 rcases h.2 with ⟨e,_⟩ | ⟨g',cap,cur,e,_,hb,_⟩
 ·rw [e] at hg;simp [Value.ownBlock] at hg
 ·rw [e] at hg
  simp [Value.ownBlock] at hg
  subst hg
  exact ⟨cur,(),hb⟩
structure RV where
 A:Option Addr
 q:Nat
 c:Nat
 O:List Nat
 wt:Int
def RV.zero:RV:=⟨none,0,0,[],0⟩
def RV.cells (r:RV):List Value:=[.slice r.A r.q r.c,.int .i64 r.wt]
def RV.p (r:RV):List Nat × Int:=(r.O,r.wt)
structure RV.Ok (r:RV) (w:World):Prop where
 len:r.O.length=r.q
 rd:RdT w 21 1 r.A r.q (r.O.map runeV)
 le:r.q≤r.c
 mx:r.c≤maxLen
def rCells (V:List RV):List Value:=V.flatMap RV.cells
theorem rCells_app (V W:List RV):rCells (V++W)=rCells V++rCells W:=List.flatMap_append
theorem rCells_at (X:List RV) (k:Nat) (hk:k<X.length) (j:Nat) (hj:j<2):(rCells X)[k*2+j]? = some ((X.getD k RV.zero).cells.getD j undef):=by
 induction X generalizing k with
 | nil=>simp at hk
 | cons x X ih =>
  have e:rCells (x :: X)=x.cells++rCells X:=rfl
  cases k with
  | zero =>
   rw [e,Nat.zero_mul,Nat.zero_add]
   obtain rfl | rfl:j=0∨j=1:=by omega
   ·rfl
   ·rfl
  | succ k =>
   rw [e,List.getElem?_append_right (by simp [RV.cells];omega)]
   have:(k+1)*2+j-x.cells.length=k*2+j:=by simp [RV.cells];omega
   rw [this,ih k (by simp at hk;omega)]
   simp [List.getD]
structure RL where
 A:Option Addr
 n:Nat
 c:Nat
 V:List RV
def RL.val (s:RL):Value:=.slice s.A s.n s.c
def RL.p (s:RL):Rs:=s.V.map RV.p
structure RL.Ok (s:RL) (w:World):Prop where
 len:s.V.length=s.n
 rd:RdT w 236 2 s.A s.n (rCells s.V)
 el:∀ r∈s.V,r.Ok w
theorem RV.Ok.touch {r:RV} {w w':World} {S:Nat→Prop} (h:r.Ok w) (T:Touch S w w') (hS:∀ g,TyAt w g 21 → ¬ S g):r.Ok w':=⟨h.len,h.rd.touch T hS,h.le,h.mx⟩
theorem RL.Ok.touch {s:RL} {w w':World} {S:Nat→Prop} (h:s.Ok w) (T:Touch S w w') (h1:∀ g,TyAt w g 21 → ¬ S g) (h2:∀ g,TyAt w g 236 → ¬ S g):s.Ok w' :=
 ⟨h.len,h.rd.touch T h2,fun r hr=>(h.el r hr).touch T h1⟩
theorem RL.Ok.quiet {s:RL} {w w':World} (h:s.Ok w) (T:Touch (fun _=>False) w w'):s.Ok w':=h.touch T (fun _ _ f=>f) (fun _ _ f=>f)
theorem rest_at {w:World} {A:Option Addr} {n:Nat} {X:List RV} (h:Reads w 2 A n (rCells X)) (hn:X.length=n) (k:Nat) (hk:k<n) :
  ∃ g off,A=some ⟨g,off,none⟩∧g<w.heap.size∧w.cell? ⟨g,off+k*2,none⟩=some (.slice (X.getD k RV.zero).A (X.getD k RV.zero).q (X.getD k RV.zero).c)∧w.cell? ⟨g,off+k*2+1,none⟩=some (.int .i64 (X.getD k RV.zero).wt):=by
 obtain ⟨b,off,hA,hb,hc⟩:=h.2 (by omega)
 refine ⟨b,off,hA,hb,?_,?_⟩
 ·exact hc (k*2) _ (rCells_at X k (by omega) 0 (by omega))
 ·rw [Nat.add_assoc];exact hc (k*2+1) _ (rCells_at X k (by omega) 1 (by omega))
theorem getD_mem {α:Type} (X:List α) (d:α) (k:Nat) (hk:k<X.length):X.getD k d∈X:=by
 have e:X.getD k d=X[k]:=by simp [List.getD,hk]
 rw [e];exact List.getElem_mem _
theorem take_snoc {α:Type} (X:List α) (d:α) (k:Nat) (hk:k<X.length):X.take (k+1)=X.take k++[X.getD k d]:=by
 have e:X.getD k d=X[k]:=by simp [List.getD,hk]
 rw [List.take_succ_eq_append_getElem hk,e]
def RL.Bd (s:RL):Prop:=∀ r∈s.V,0≤r.wt∧r.wt≤1048576
theorem onecell_rest (A:Option Addr) (q c:Nat) (z:Int):∀ u∈([.slice A q c,.int .i64 z]:List Value),u.oneCell'=true:=by
 intro u hu
 simp at hu
 rcases hu with e | e<;>subst e<;>rfl
theorem ONx.app2 {e size m:Nat} {w0 w1 w3:World} {v:Value} {g cap q:Nat} {xs ys:List Value} (h:ONx e size w0 w1 v q xs) (ho:w3.ownsRow 0 e size (.slice (some ⟨g,0,none⟩) (q+m) cap) (q+m) (xs++ys)) (hg:w1.grownBy w3 v.ownBlock) (hl:v.ownBlock=some g∨g=w1.heap.size):ONx e size w0 w3 (.slice (some ⟨g,0,none⟩) (q+m) cap) (q+m) (xs++ys):=by
 refine h.app ho hg ?_
 rcases hl with e | e
 ·exact .inl e.symm
 ·exact .inr ⟨g,rfl,by rw [e];exact Nat.le_refl _⟩
def RV.cut (r:RV) (t:List Nat):RV:=⟨if r.c=1 then r.A else r.A.map (·.add 1),r.q-1,r.c-1,t,r.wt⟩
theorem RV.Ok.cut {r:RV} {w:World} (h:r.Ok w) {d:Nat} {t:List Nat} (hO:r.O=d :: t):(r.cut t).Ok w:=by
 have hl:=h.len
 rw [hO,List.length_cons] at hl
 have hle:=h.le
 have hmx:=h.mx
 refine ⟨by simp only [RV.cut];omega,⟨?_,?_⟩,by simp only [RV.cut];omega,by simp only [RV.cut];unfold maxLen at hmx ⊢;omega⟩
 ·have:=h.rd.rd.cut (k:=1) (cap:=r.c) (by omega) hle
  rw [hO] at this
  simp only [RV.cut]
  by_cases e:r.c=1
  ·rw [if_pos e] at this ⊢
   exact this
  ·rw [if_neg e] at this ⊢
   exact this
 ·intro hn g hg
  simp only [RV.cut] at hg hn
  have hq:0<r.q:=by omega
  refine h.rd.ty hq g ?_
  split at hg
  ·exact hg
  ·cases hA:r.A with
   | none=>rw [hA] at hg;cases hg
   | some a =>
    rw [hA] at hg
    simp only [Option.map_some,adBlock,Option.some.injEq] at hg ⊢
    rw [← hg]
    unfold Addr.add
    split<;>rfl
theorem rune_first {w:World} {A:Option Addr} {q:Nat} {d:Nat} {t:List Nat} (h:Reads w 1 A (q+1) ((d :: t).map runeV)):∃ b off,A=some ⟨b,off,none⟩∧b<w.heap.size∧w.cell? ⟨b,off,none⟩=some (.int .i32 (d:Int)):=by
 obtain ⟨b,off,hA,hb,hc⟩:=h.2 (by omega)
 refine ⟨b,off,hA,hb,?_⟩
 have:=hc 0 (runeV d) rfl
 rw [Nat.add_zero] at this
 exact this
theorem conv_own (w:World) (A:Option Addr) (q c:Nat) (l:List UInt8) (h:Reads w 1 A q (l.map byteV)) :
  (convert 50 9 (.slice A q c)).run Tryz.prog w=.ok (.string ⟨l.toArray⟩) w:=by
 have hl:l.length=q:=by have:=h.1;simpa using this
 cases A with
 | none =>
  have h0:q=0:=by
   rcases Nat.eq_zero_or_pos q with e | e
   ·exact e
   ·obtain ⟨b,off,hA,_⟩:=h.2 e
    cases hA
  subst h0
  obtain rfl:=List.eq_nil_of_length_eq_zero hl
  exact run_convert_bytes_nil _ _ _ Tryz.underlying50 Tryz.underlying5 0 c _ Tryz.underlying9
 | some ad =>
  subst hl
  rcases Nat.eq_zero_or_pos l.length with e | e
  ·refine run_convert_bytes_back _ _ _ _ _ _ l Tryz.underlying50 Tryz.underlying5 Tryz.underlying9 fun j hj=>?_
   rw [e] at hj
   exact absurd hj (Nat.not_lt_zero _)
  ·obtain ⟨b,off,hA,_,hc⟩:=h.2 e
   obtain rfl:ad=⟨b,off,none⟩:=Option.some.inj hA
   refine run_convert_bytes_back _ _ _ _ _ _ l Tryz.underlying50 Tryz.underlying5 Tryz.underlying9 fun j hj=>?_
   rw [Addr.add_lit]
   exact hc j _ (by simp [hj,byteV])
theorem write_len (r:Nat):1≤(writeU r).length∧(writeU r).length≤4:=by
 unfold writeU
 split
 ·simp
 ·split
  ·simp
  ·split
   ·simp
   ·simp
theorem text_any (w:World) (hL:Lst w) (A:Option Addr) (n c:Nat) (O:List Nat) (hR:Reads w 1 A n (O.map runeV)) (hO:O.length=n) (hn:n≤4294967296) (hs:∀ r∈O,scal r=true) :
  Calls Tryz.prog 93 #[.slice A n c] w fun e w'=>e=.returned (.tuple #[.string ⟨(O.flatMap writeU).toArray⟩,.bool true])∧Touch (fun _=>False) w w':=by
 have HL:=hide hL
 have HR:=hide hR
 have HS:=hide hs
 have HO:=hide hO
 have hnm:n≤maxLen:=by unfold maxLen;omega
 clear hL hR hs hO
 go_enter Tryz.func93,Tryz.ntmps93
 go_wp2
 go_loopw [4,9] (fun bv iv wr=>∃ (i q:Nat) (A3:Option Addr) (c3:Nat),iv=.int .i64 i∧bv=.slice A3 q c3∧i≤n∧q≤4*i∧Hid (ONx 5 1 w wr (.slice A3 q c3) q (((O.take i).flatMap writeU).map byteV)) ) (fun _ iv _=>n-(intOf iv).toNat)
 case atStart=>exact ⟨0,0,none,0,rfl,rfl,by omega,by omega,hide (ONx.nil _ _ _)⟩
 case round =>
  obtain ⟨i,q,A3,c3,rfl,rfl,hi,hq,HB⟩:=hrel
  by_cases hin:i<n
  ·have y1:(i:Int)<(n:Int):=by omega
   have y2:(0:Int)≤(i:Int):=by omega
   have z2:IntKind.i64.wrap ((i:Int)+1)=(i:Int)+1:=IntWalk.i64_in _ (by omega)
   obtain ⟨g,o,hA,c0⟩:=rune_at (HR.out.touch HB.out.touch (fun _ _ f=>f)) HO.out i hin
   subst hA
   have hsc:=HS.out _ (getD_mem O 0 i (by rw [HO.out];exact hin))
   have htk:=take_snoc O 0 i (by rw [HO.out];exact hin)
   obtain ⟨r,hr⟩:∃ r,O.getD i 0=r:=⟨_,rfl⟩
   rw [hr] at c0 hsc htk
   have HSC:=hide hsc
   have HTK:=hide htk
   have HW:=hide (wrow_any wr (.slice A3 q c3) q _ HB.out.own (HL.out.touch HB.out.touch) (by omega) r (scal_lt hsc))
   have hsc2:(scal r)=true:=hsc
   clear hr hsc htk
   go_wp2_with (first
    | (go_at_call 147;refine (scalar_any r _).mono ?_;rintro e w2 ⟨rfl,rfl⟩;rw [hsc2])
    | (go_at_call 148;refine HW.out.mono ?_;rintro e w3 ⟨v',rfl,hown,hgr,hfr⟩))
   obtain ⟨A4,c4,rfl,_,_⟩:=own_len hown
   have HN4:=hide (HB.out.app hown hgr hfr)
   clear hown hgr hfr
   go_wp2_with fail
   go_roundw
   ·refine ⟨i+1,q+(writeU r).length,A4,c4,by simp,rfl,by omega,?_,hide ?_⟩
    ·have:=write_len r;omega
    ·rw [HTK.out,List.flatMap_append,List.map_append]
     have:=HN4.out
     simpa using this
   ·simp only [intOf];omega
  ·have hie:i=n:=by omega
   subst hie
   have hb:=HB.out
   rw [List.take_of_length_le (by rw [HO.out];exact Nat.le_refl _)] at hb
   have kc:=conv_own wr A3 q c3 _ (Reads.of_own hb.own)
   have HT:=hide hb.touch
   clear hb
   go_wp2_with fail
   exact bodyPost_ret (v:=.tuple #[.string ⟨(O.flatMap writeU).toArray⟩,.bool true]) (by simp [results,Tryz.results93,go_sem]) rfl ⟨rfl,HT.out⟩
end Go.Proofs.YthockgmbooefpaaGreatDoor
