/- What the law rests on, part 10. No condition but those that each theorem names. -/
import Derived.Test.YthockgmbooefpaaDoorD07
set_option linter.unusedSectionVars false
set_option linter.unusedSimpArgs false
set_option linter.unusedVariables false
namespace Go.Proofs.YthockgmbooefpaaDoor
open Go.RowKit
theorem infoByte:(Tryd.prog.info? 5).map (fun i=>(i.zero,i.size,i.bytes))=some (some (.int .u8 0),1,1):=by kernel_rfl
def byteV (b:UInt8):Value:=.int .u8 (b.toNat:Int)
theorem and63 (r:Nat) (h:r<2147483648):bits .and .i32 (r:Int) 63=((r % 64:Nat):Int):=and_i32 6 (by decide) r h
theorem or_224 (c:Nat) (h:c<16):bits .or .i32 224 (c:Int)=224+(c:Int) :=
 bits_join .i32 31 (by decide) (fun n h0 h1=>IntWalk.i32_in _ (by omega)) 5 (224:Int) (c:Int) (by omega) (by omega) (by omega) (by omega) (by omega) (by omega)
theorem or_240 (c:Nat) (h:c<8):bits .or .i32 240 (c:Int)=240+(c:Int) :=
 bits_join .i32 31 (by decide) (fun n h0 h1=>IntWalk.i32_in _ (by omega)) 4 (240:Int) (c:Int) (by omega) (by omega) (by omega) (by omega) (by omega) (by omega)
theorem byteV_add {n x:Nat} (h:n+x<256):byteV (UInt8.ofNat (n+x))=.int .u8 ((n:Int)+(x:Int)):=u8_cell h
set_option maxRecDepth 100000 in
set_option maxHeartbeats 2000000 in
theorem wrow_one (w:World) (v:Value) (q:Nat) (xs:List Value) (hv:w.ownsRow 0 5 1 v q xs) (hL:Lst w) (hq:q≤1099511627776) (r:Nat) (h1:r<128) :
  Calls Tryd.prog 93 #[v,.int .i32 r] w fun e w'=>∃ v',e=.returned v'∧w'.ownsRow 0 5 1 v' (q+(writeU r).length) (xs++(writeU r).map byteV)∧w.grownBy w' v.ownBlock∧Fresh w v v':=by
 obtain ⟨ti,hi,hz0,hz1,hz2⟩:=info_parts infoByte
 obtain ⟨l0,l2,l3,l4⟩:=hL
 have h0:(0:Int)≤(r:Int):=by omega
 have hwr:(writeU r).map byteV=[.int .u8 (r:Int)]:=by
  unfold writeU;rw [if_pos h1]
  simp only [List.map_cons,List.map_nil,show byteV (UInt8.ofNat r)=.int .u8 (r:Int) from by unfold byteV;rw [UInt8.toNat_ofNat',Nat.mod_eq_of_lt (by omega)]]
  try rfl
 have hwl:(writeU r).length=1:=by have:=congrArg List.length hwr;simpa using this
 have e0:(r:Int) % 256=(r:Int):=by omega
 have i0:(r:Int)<128:=by omega
 rw [hwl,hwr]
 have HV:=hide hv
 have hrd:∀ w:World,Reads (w.alloc (.cells #[.int .u8 (r:Int)] 5)) 1 (some ⟨w.heap.size,0,none⟩) 1 [.int .u8 (r:Int)]:=fun w=>Reads.new (size:=1) _ _ [.int .u8 (r:Int)] 1 (by simp)
 have hone:∀ u∈([.int .u8 (r:Int)]:List Value),u.oneCell'=true:=by
  intro u hu
  simp only [List.mem_cons,List.not_mem_nil,or_false] at hu
  rcases hu with rfl
  all_goals rfl
 have hb1:q+1≤maxLen:=by unfold maxLen;omega
 have hb2:(q+1)*1≤140737488355328:=by omega
 clear hwr hwl hv h1
 go_enter Tryd.func93,Tryd.ntmps93
 go_wp2_with (at_builtin;refine wpList_app _ rfl (.tmp 10) (.tmp 13) 46 rfl 5 ti _ 1 1 Tryd.underlying46 hi hz0 hz1 hz2 rfl (by decide) v q _ rfl (own_touch HV.out ((Touch.refl _ _).alloc _) (fun _ _ f=>f)) (some ⟨_,0,none⟩) 1 1 [.int .u8 (r:Int)] rfl (hrd _) (fun h=>by cases h) hone hb1 hb2 ?_)
 intro v4 w4 hown hgrow hfr _
 have hg1:w.grownBy w4 v.ownBlock:=⟨hgrow.os,hgrow.tape,hgrow.output,Nat.le_trans (by simp) hgrow.size,fun k hk hne=>(hgrow.block k (by simp;omega) hne).trans (Below.heap_alloc w _ k hk)⟩
 have hf1:Fresh w v v4:=by
  rcases hfr with e | ⟨g,e,hg⟩
  ·exact Or.inl e
  ·exact Or.inr ⟨g,e,Nat.le_trans (by simp) hg⟩
 have HE:=hide (And.intro hown (And.intro hg1 hf1))
 clear hown hgrow hfr hg1 hf1
 go_wp2_with fail
 first
  | (go_ret;exact ⟨v4,rfl,HE.out.1,HE.out.2.1,HE.out.2.2⟩)
  | exact bodyPost_ret (v:=v4) (by simp [results,Tryd.results93,go_sem]) rfl ⟨v4,rfl,HE.out.1,HE.out.2.1,HE.out.2.2⟩
set_option maxRecDepth 100000 in
set_option maxHeartbeats 2000000 in
theorem wrow_two (w:World) (v:Value) (q:Nat) (xs:List Value) (hv:w.ownsRow 0 5 1 v q xs) (hL:Lst w) (hq:q≤1099511627776) (r:Nat) (h1:128≤r) (h2:r<2048) :
  Calls Tryd.prog 93 #[v,.int .i32 r] w fun e w'=>∃ v',e=.returned v'∧w'.ownsRow 0 5 1 v' (q+(writeU r).length) (xs++(writeU r).map byteV)∧w.grownBy w' v.ownBlock∧Fresh w v v':=by
 obtain ⟨ti,hi,hz0,hz1,hz2⟩:=info_parts infoByte
 obtain ⟨l0,l2,l3,l4⟩:=hL
 have h0:(0:Int)≤(r:Int):=by omega
 obtain ⟨l,hl⟩:∃ l,r % 64=l:=⟨_,rfl⟩
 obtain ⟨a,ha⟩:∃ a,r / 64=a:=⟨_,rfl⟩
 have hwr:(writeU r).map byteV=[.int .u8 ((192:Int)+(a:Int)),.int .u8 ((128:Int)+(l:Int))]:=by
  unfold writeU;rw [if_neg (by omega),if_pos h2,hl,ha]
  simp only [List.map_cons,List.map_nil,byteV_add (n:=192) (x:=a) (by omega),byteV_add (n:=128) (x:=l) (by omega)]
  try rfl
 have hwl:(writeU r).length=2:=by have:=congrArg List.length hwr;simpa using this
 have f1:=and63 r (by omega)
 rw [hl] at f1
 have e2:(r:Int) / 64=(a:Int):=by omega
 have b1:l<64:=by omega
 have b2:a<32:=by omega
 have i0:¬ (r:Int)<128:=by omega
 have i1:(r:Int)<2048:=by omega
 rw [hwl,hwr]
 have HV:=hide hv
 have hrd:∀ w:World,Reads (w.alloc (.cells #[.int .u8 ((192:Int)+(a:Int)),.int .u8 ((128:Int)+(l:Int))] 5)) 1 (some ⟨w.heap.size,0,none⟩) 2 [.int .u8 ((192:Int)+(a:Int)),.int .u8 ((128:Int)+(l:Int))]:=fun w=>Reads.new (size:=1) _ _ [.int .u8 ((192:Int)+(a:Int)),.int .u8 ((128:Int)+(l:Int))] 2 (by simp)
 have hone:∀ u∈([.int .u8 ((192:Int)+(a:Int)),.int .u8 ((128:Int)+(l:Int))]:List Value),u.oneCell'=true:=by
  intro u hu
  simp only [List.mem_cons,List.not_mem_nil,or_false] at hu
  rcases hu with rfl | rfl
  all_goals rfl
 have hb1:q+2≤maxLen:=by unfold maxLen;omega
 have hb2:(q+2)*1≤140737488355328:=by omega
 clear hwr hwl hv h1 hl ha
 go_enter Tryd.func93,Tryd.ntmps93
 go_wp2_with (at_builtin;refine wpList_app _ rfl (.tmp 20) (.tmp 29) 46 rfl 5 ti _ 1 1 Tryd.underlying46 hi hz0 hz1 hz2 rfl (by decide) v q _ rfl (own_touch HV.out ((Touch.refl _ _).alloc _) (fun _ _ f=>f)) (some ⟨_,0,none⟩) 2 2 [.int .u8 ((192:Int)+(a:Int)),.int .u8 ((128:Int)+(l:Int))] rfl (hrd _) (fun h=>by cases h) hone hb1 hb2 ?_)
 intro v4 w4 hown hgrow hfr _
 have hg1:w.grownBy w4 v.ownBlock:=⟨hgrow.os,hgrow.tape,hgrow.output,Nat.le_trans (by simp) hgrow.size,fun k hk hne=>(hgrow.block k (by simp;omega) hne).trans (Below.heap_alloc w _ k hk)⟩
 have hf1:Fresh w v v4:=by
  rcases hfr with e | ⟨g,e,hg⟩
  ·exact Or.inl e
  ·exact Or.inr ⟨g,e,Nat.le_trans (by simp) hg⟩
 have HE:=hide (And.intro hown (And.intro hg1 hf1))
 clear hown hgrow hfr hg1 hf1
 go_wp2_with fail
 first
  | (go_ret;exact ⟨v4,rfl,HE.out.1,HE.out.2.1,HE.out.2.2⟩)
  | exact bodyPost_ret (v:=v4) (by simp [results,Tryd.results93,go_sem]) rfl ⟨v4,rfl,HE.out.1,HE.out.2.1,HE.out.2.2⟩
set_option maxRecDepth 100000 in
set_option maxHeartbeats 2000000 in
theorem wrow_three (w:World) (v:Value) (q:Nat) (xs:List Value) (hv:w.ownsRow 0 5 1 v q xs) (hL:Lst w) (hq:q≤1099511627776) (r:Nat) (h1:2048≤r) (h2:(r:Int)<65536) :
  Calls Tryd.prog 93 #[v,.int .i32 r] w fun e w'=>∃ v',e=.returned v'∧w'.ownsRow 0 5 1 v' (q+(writeU r).length) (xs++(writeU r).map byteV)∧w.grownBy w' v.ownBlock∧Fresh w v v':=by
 obtain ⟨ti,hi,hz0,hz1,hz2⟩:=info_parts infoByte
 obtain ⟨l0,l2,l3,l4⟩:=hL
 have h0:(0:Int)≤(r:Int):=by omega
 obtain ⟨l,hl⟩:∃ l,r % 64=l:=⟨_,rfl⟩
 obtain ⟨a,ha⟩:∃ a,r / 64=a:=⟨_,rfl⟩
 obtain ⟨m,hm⟩:∃ m,a % 64=m:=⟨_,rfl⟩
 obtain ⟨c,hc⟩:∃ c,r / 4096=c:=⟨_,rfl⟩
 have hwr:(writeU r).map byteV=[.int .u8 ((224:Int)+(c:Int)),.int .u8 ((128:Int)+(m:Int)),.int .u8 ((128:Int)+(l:Int))]:=by
  unfold writeU;rw [if_neg (by omega),if_neg (by omega),if_pos (by omega),hl,ha,hm,hc]
  simp only [List.map_cons,List.map_nil,byteV_add (n:=224) (x:=c) (by omega),byteV_add (n:=128) (x:=m) (by omega),byteV_add (n:=128) (x:=l) (by omega)]
  try rfl
 have hwl:(writeU r).length=3:=by have:=congrArg List.length hwr;simpa using this
 have f1:=and63 r (by omega)
 rw [hl] at f1
 have f2:=and63 a (by omega)
 rw [hm] at f2
 have e2:(r:Int) / 64=(a:Int):=by omega
 have e3:(r:Int) / 4096=(c:Int):=by omega
 have b1:l<64:=by omega
 have b2:m<64:=by omega
 have b3:c<16:=by omega
 have b4:(a:Int)<2048:=by omega
 have g1:=or_224 c b3
 have g2:((224:Int)+(c:Int)) % 256=224+(c:Int):=by omega
 have i0:¬ (r:Int)<128:=by omega
 have i1:¬ (r:Int)<2048:=by omega
 rw [hwl,hwr]
 have HV:=hide hv
 have hrd:∀ w:World,Reads (w.alloc (.cells #[.int .u8 ((224:Int)+(c:Int)),.int .u8 ((128:Int)+(m:Int)),.int .u8 ((128:Int)+(l:Int))] 5)) 1 (some ⟨w.heap.size,0,none⟩) 3 [.int .u8 ((224:Int)+(c:Int)),.int .u8 ((128:Int)+(m:Int)),.int .u8 ((128:Int)+(l:Int))]:=fun w=>Reads.new (size:=1) _ _ [.int .u8 ((224:Int)+(c:Int)),.int .u8 ((128:Int)+(m:Int)),.int .u8 ((128:Int)+(l:Int))] 3 (by simp)
 have hone:∀ u∈([.int .u8 ((224:Int)+(c:Int)),.int .u8 ((128:Int)+(m:Int)),.int .u8 ((128:Int)+(l:Int))]:List Value),u.oneCell'=true:=by
  intro u hu
  simp only [List.mem_cons,List.not_mem_nil,or_false] at hu
  rcases hu with rfl | rfl | rfl
  all_goals rfl
 have hb1:q+3≤maxLen:=by unfold maxLen;omega
 have hb2:(q+3)*1≤140737488355328:=by omega
 clear hwr hwl hv h1 hl ha hm hc
 go_enter Tryd.func93,Tryd.ntmps93
 go_wp2_with (at_builtin;refine wpList_app _ rfl (.tmp 36) (.tmp 50) 46 rfl 5 ti _ 1 1 Tryd.underlying46 hi hz0 hz1 hz2 rfl (by decide) v q _ rfl (own_touch HV.out ((Touch.refl _ _).alloc _) (fun _ _ f=>f)) (some ⟨_,0,none⟩) 3 3 [.int .u8 ((224:Int)+(c:Int)),.int .u8 ((128:Int)+(m:Int)),.int .u8 ((128:Int)+(l:Int))] rfl (hrd _) (fun h=>by cases h) hone hb1 hb2 ?_)
 intro v4 w4 hown hgrow hfr _
 have hg1:w.grownBy w4 v.ownBlock:=⟨hgrow.os,hgrow.tape,hgrow.output,Nat.le_trans (by simp) hgrow.size,fun k hk hne=>(hgrow.block k (by simp;omega) hne).trans (Below.heap_alloc w _ k hk)⟩
 have hf1:Fresh w v v4:=by
  rcases hfr with e | ⟨g,e,hg⟩
  ·exact Or.inl e
  ·exact Or.inr ⟨g,e,Nat.le_trans (by simp) hg⟩
 have HE:=hide (And.intro hown (And.intro hg1 hf1))
 clear hown hgrow hfr hg1 hf1
 go_wp2_with fail
 first
  | (go_ret;exact ⟨v4,rfl,HE.out.1,HE.out.2.1,HE.out.2.2⟩)
  | exact bodyPost_ret (v:=v4) (by simp [results,Tryd.results93,go_sem]) rfl ⟨v4,rfl,HE.out.1,HE.out.2.1,HE.out.2.2⟩
set_option maxRecDepth 100000 in
set_option maxHeartbeats 2000000 in
theorem wrow_four (w:World) (v:Value) (q:Nat) (xs:List Value) (hv:w.ownsRow 0 5 1 v q xs) (hL:Lst w) (hq:q≤1099511627776) (r:Nat) (h1:(65536:Int)≤(r:Int)) (h2:(r:Int)<1114112) :
  Calls Tryd.prog 93 #[v,.int .i32 r] w fun e w'=>∃ v',e=.returned v'∧w'.ownsRow 0 5 1 v' (q+(writeU r).length) (xs++(writeU r).map byteV)∧w.grownBy w' v.ownBlock∧Fresh w v v':=by
 obtain ⟨ti,hi,hz0,hz1,hz2⟩:=info_parts infoByte
 obtain ⟨l0,l2,l3,l4⟩:=hL
 have h0:(0:Int)≤(r:Int):=by omega
 obtain ⟨l,hl⟩:∃ l,r % 64=l:=⟨_,rfl⟩
 obtain ⟨a,ha⟩:∃ a,r / 64=a:=⟨_,rfl⟩
 obtain ⟨m,hm⟩:∃ m,a % 64=m:=⟨_,rfl⟩
 obtain ⟨c,hc⟩:∃ c,r / 4096=c:=⟨_,rfl⟩
 obtain ⟨d,hd⟩:∃ d,c % 64=d:=⟨_,rfl⟩
 obtain ⟨f,hf⟩:∃ f,r / 262144=f:=⟨_,rfl⟩
 have hwr:(writeU r).map byteV=[.int .u8 ((240:Int)+(f:Int)),.int .u8 ((128:Int)+(d:Int)),.int .u8 ((128:Int)+(m:Int)),.int .u8 ((128:Int)+(l:Int))]:=by
  unfold writeU;rw [if_neg (by omega),if_neg (by omega),if_neg (by omega),hl,ha,hm,hc,hd,hf]
  simp only [List.map_cons,List.map_nil,byteV_add (n:=240) (x:=f) (by omega),byteV_add (n:=128) (x:=d) (by omega),byteV_add (n:=128) (x:=m) (by omega),byteV_add (n:=128) (x:=l) (by omega)]
  try rfl
 have hwl:(writeU r).length=4:=by have:=congrArg List.length hwr;simpa using this
 have f1:=and63 r (by omega)
 rw [hl] at f1
 have f2:=and63 a (by omega)
 rw [hm] at f2
 have f3:=and63 c (by omega)
 rw [hd] at f3
 have e2:(r:Int) / 64=(a:Int):=by omega
 have e3:(r:Int) / 4096=(c:Int):=by omega
 have e4:(r:Int) / 262144=(f:Int):=by omega
 have b1:l<64:=by omega
 have b2:m<64:=by omega
 have b3:d<64:=by omega
 have b4:f<8:=by omega
 have b5:(a:Int)<20000:=by omega
 have b6:(c:Int)<300:=by omega
 have g1:=or_240 f b4
 have g2:((240:Int)+(f:Int)) % 256=240+(f:Int):=by omega
 have i0:¬ (r:Int)<128:=by omega
 have i1:¬ (r:Int)<2048:=by omega
 have i2:¬ (r:Int)<65536:=by omega
 rw [hwl,hwr]
 have HV:=hide hv
 have hrd:∀ w:World,Reads (w.alloc (.cells #[.int .u8 ((240:Int)+(f:Int)),.int .u8 ((128:Int)+(d:Int)),.int .u8 ((128:Int)+(m:Int)),.int .u8 ((128:Int)+(l:Int))] 5)) 1 (some ⟨w.heap.size,0,none⟩) 4 [.int .u8 ((240:Int)+(f:Int)),.int .u8 ((128:Int)+(d:Int)),.int .u8 ((128:Int)+(m:Int)),.int .u8 ((128:Int)+(l:Int))]:=fun w=>Reads.new (size:=1) _ _ [.int .u8 ((240:Int)+(f:Int)),.int .u8 ((128:Int)+(d:Int)),.int .u8 ((128:Int)+(m:Int)),.int .u8 ((128:Int)+(l:Int))] 4 (by simp)
 have hone:∀ u∈([.int .u8 ((240:Int)+(f:Int)),.int .u8 ((128:Int)+(d:Int)),.int .u8 ((128:Int)+(m:Int)),.int .u8 ((128:Int)+(l:Int))]:List Value),u.oneCell'=true:=by
  intro u hu
  simp only [List.mem_cons,List.not_mem_nil,or_false] at hu
  rcases hu with rfl | rfl | rfl | rfl
  all_goals rfl
 have hb1:q+4≤maxLen:=by unfold maxLen;omega
 have hb2:(q+4)*1≤140737488355328:=by omega
 clear hwr hwl hv h1 hl ha hm hc hd hf
 go_enter Tryd.func93,Tryd.ntmps93
 go_wp2_with (at_builtin;refine wpList_app _ rfl (.tmp 52) (.tmp 71) 46 rfl 5 ti _ 1 1 Tryd.underlying46 hi hz0 hz1 hz2 rfl (by decide) v q _ rfl (own_touch HV.out ((Touch.refl _ _).alloc _) (fun _ _ f=>f)) (some ⟨_,0,none⟩) 4 4 [.int .u8 ((240:Int)+(f:Int)),.int .u8 ((128:Int)+(d:Int)),.int .u8 ((128:Int)+(m:Int)),.int .u8 ((128:Int)+(l:Int))] rfl (hrd _) (fun h=>by cases h) hone hb1 hb2 ?_)
 intro v4 w4 hown hgrow hfr _
 have hg1:w.grownBy w4 v.ownBlock:=⟨hgrow.os,hgrow.tape,hgrow.output,Nat.le_trans (by simp) hgrow.size,fun k hk hne=>(hgrow.block k (by simp;omega) hne).trans (Below.heap_alloc w _ k hk)⟩
 have hf1:Fresh w v v4:=by
  rcases hfr with e | ⟨g,e,hg⟩
  ·exact Or.inl e
  ·exact Or.inr ⟨g,e,Nat.le_trans (by simp) hg⟩
 have HE:=hide (And.intro hown (And.intro hg1 hf1))
 clear hown hgrow hfr hg1 hf1
 go_wp2_with fail
 first
  | (go_ret;exact ⟨v4,rfl,HE.out.1,HE.out.2.1,HE.out.2.2⟩)
  | exact bodyPost_ret (v:=v4) (by simp [results,Tryd.results93,go_sem]) rfl ⟨v4,rfl,HE.out.1,HE.out.2.1,HE.out.2.2⟩
theorem wrow_any (w:World) (v:Value) (q:Nat) (xs:List Value) (hv:w.ownsRow 0 5 1 v q xs) (hL:Lst w) (hq:q≤1099511627776) (r:Nat) (hr:r<1114112) :
  Calls Tryd.prog 93 #[v,.int .i32 r] w fun e w'=>∃ v',e=.returned v'∧w'.ownsRow 0 5 1 v' (q+(writeU r).length) (xs++(writeU r).map byteV)∧w.grownBy w' v.ownBlock∧Fresh w v v':=by
 by_cases h1:r<128
 ·exact wrow_one w v q xs hv hL hq r h1
 ·by_cases h2:r<2048
  ·exact wrow_two w v q xs hv hL hq r (by omega) h2
  ·by_cases h3:(r:Int)<65536
   ·exact wrow_three w v q xs hv hL hq r (by omega) h3
   ·exact wrow_four w v q xs hv hL hq r (by omega) (by omega)
end Go.Proofs.YthockgmbooefpaaDoor
