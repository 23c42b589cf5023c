/- slices.Insert at []Age, one element. -/
import Derived.Test.YtekbnpmmjciloaaGreatXA
import Derived.Test.YtekbnpmmjciloaaGreatRC
import Derived.WalkKit
import Derived.Deep.RegionLaw
import Derived.Deep.MidRow
import Derived.Deep.LoopGhost
import Derived.Lib.SliceRun
import Derived.Lib.Walk
import Derived.Lib.Overlaps
import Derived.Lib.AppendZerosOnto
import Derived.Laws.Externs
import Derived.Laws.IdiomCopy
import Derived.Laws.NewBlocks
import Derived.Shelf.Spec.SlicesInsert
set_option linter.all false
namespace Go.Proofs.YtekbnpmmjciloaaGreat.XA
open Go.RowKit Go.Lib Go.Proofs.YtekbnpmmjciloaaGreat.R
set_option maxRecDepth 1000000
theorem y7Q:(Tryz.prog.info? 79).map (fun i=>(i.zero,i.size,i.bytes))=some (some (.agg #[.int .i64 0,.int .i64 0]),2,16):=by kernel_rfl
theorem y46:Tryz.prog.underlying 33=some (.slice 79):=by kernel_rfl
theorem yzI:Tryz.prog.underlying 3=some (.int .i64):=by kernel_rfl
theorem yq3 (w:World):(Go.sizeOf 79).run Tryz.prog w= .ok 2 w:=by
 obtain ⟨i0,hi0,hz0,hz1,hz2⟩:=info_parts y7Q
 simp [Go.sizeOf,typeInfo,hi0,hz1]
theorem y4N (w:World) (ty b o dLen dCap:Nat) (a:Addr) (sLen sCap:Nat) (cs:List Value) (n:Nat) (hn:n=Nat.min sLen dLen) (hcl:cs.length=n*2)
  (hsrc: ∀ j v,cs[j]? =some v→w.cell? (a.add j)=some v) (hc: ∀ j,j<cs.length→(w.cell? ⟨b,o+j,none⟩).isSome=true) (hf: ∀ j,j<cs.length→w.frozen? ⟨b,o+j,none⟩=false) (h1: ∀ v∈cs,v.oneCell'=true):
  (Builtin.copy_ #[33,33] ty #[.slice (some ⟨b,o,none⟩) dLen dCap,.slice (some a) sLen sCap]).run Tryz.prog w= .ok (goInt n) (w.setCells b o cs):=by
 obtain ⟨i0,hi0,hz0,hz1,hz2⟩:=info_parts y7Q
 have hl:=run_loadCells_list (P:=Tryz.prog) w a cs hsrc
 have hst:=run_storeCells_cells (P:=Tryz.prog) b o cs 0 w (by simpa using hc) (by simpa using hf) h1
 rw [hcl] at hl
 simp [Builtin.copy_,run_underlying y46,Builtin.lenOf,Builtin.firstCells,sizeOf,typeInfo,hi0,hz1,← hn,hl,hst]
theorem yjD (w:World) (a b:Addr) (la ca lb cb:Nat) (hne:a.block≠b.block) (tA tB kA kB:Nat)
  (hsa:w.shape? a.block=some (tA,kA)) (hsb:w.shape? b.block=some (tB,kB)) (hkB:kB≠0) (hfa:w.frozen? a=false) (hfe:w.frozen? {block:=a.block,off:=kA}=false):
  (callFunc 288 #[.slice (some a) la ca,.slice (some b) lb cb]).run Tryz.prog w= .ok (.value (.bool false)) w:=by
 rw [run_callFunc_extern Tryz.func288 (by kernel_rfl) (by kernel_rfl) (by kernel_rfl) (e:=Extern.SlicesOverlaps.overlaps #[33,33] #[4]) (by kernel_rfl),
  Lib.run_overlaps_apart w 33 4 79 y46 2 yq3 a b la ca lb cb hne tA tB kA kB hsa hsb hkB hfa hfe]
 rfl
set_option maxHeartbeats 4000000 in
theorem yjE (g n c i h vc:Nat) (cells vs:List Value) (w:World) (hi:i<n) (hroom:n+1≤c) (hc63:c≤9223372036854775807) (hne:h≠g) (hcl:cells.length=n*2) (hvl:vs.length=2)
  (hcs: ∀ j u,cells[j]? =some u→w.cell? ⟨g,j,none⟩=some u) (hsp: ∀ j,j<(n+1)*2→(w.cell? ⟨g,j,none⟩).isSome=true) (hfz: ∀ j,j<(n+1)*2→w.frozen? ⟨g,j,none⟩=false)
  (hvs: ∀ j u,vs[j]? =some u→w.cell? ⟨h,j,none⟩=some u) (h1c: ∀ u∈cells,u.oneCell'=true) (h1v: ∀ u∈vs,u.oneCell'=true)
  (tA tB kA kB:Nat) (hsa:w.shape? h=some (tA,kA)) (hsb:w.shape? g=some (tB,kB)) (hkB:kB≠0) (hfa:w.frozen? ⟨h,0,none⟩=false) (hfe:w.frozen? ⟨h,kA,none⟩=false):
  Calls Tryz.prog 230 #[.slice (some ⟨g,0,none⟩) n c,.int .i64 i,.slice (some ⟨h,0,none⟩) 1 vc] w fun e w'=>
   e= .returned (.slice (some ⟨g,0,none⟩) (n+1) c)∧w'=(w.drew.setCells g ((i+1)*2) (cells.drop (i*2))).setCells g (i*2) vs:=by
 have hmix:=ya7
 have hov: ∀ lb cb,(callFunc 288 #[.slice (some ⟨h,0,none⟩) 1 vc,.slice (some ⟨g,(i+1)*2,none⟩) lb cb]).run Tryz.prog w= .ok (.value (.bool false)) w:=fun lb cb=>yjD w _ _ 1 vc lb cb hne tA tB kA kB hsa hsb hkB hfa hfe
 have hdl:(cells.drop (i*2)).length=(n - i)*2:=by rw [aC,hcl];omega
 have hw1:IntKind.i64.wrap ((i:Int)+1)=(i:Int)+1:=by rw [IntKind.wrap_i64];omega
 have hw2:IntKind.i64.wrap ((n:Int)+1)=(n:Int)+1:=by rw [IntKind.wrap_i64];omega
 have hcp1: ∀ ty dc sc,(Builtin.copy_ #[33,33] ty #[.slice (some ⟨g,(i+1)*2,none⟩) (n - i) dc,.slice (some ⟨g,i*2,none⟩) (n+1 - i) sc]).run Tryz.prog w.drew= .ok (goInt (n - i:Nat)) (w.drew.setCells g ((i+1)*2) (cells.drop (i*2))):=fun ty dc sc=>
  y4N w.drew ty g _ _ dc _ _ sc (cells.drop (i*2)) (n - i) (by simp only [cB];split<;>omega) hdl
   (fun j v hj=>by rw [Addr.add_lit];exact hcs (i*2+j) v (by rwa [aZ] at hj))
   (fun j hj=>hsp _ (by omega)) (fun j hj=>hfz _ (by omega)) (fun v hv=>h1c v (a_ hv))
 obtain ⟨W1,hW1⟩: ∃ W1,W1=w.drew.setCells g ((i+1)*2) (cells.drop (i*2)):=⟨_,rfl⟩
 have hsp1: ∀ k,k<(n+1)*2→(W1.cell? ⟨g,k,none⟩).isSome=true:=fun k hk=>by
  rw [hW1]
  exact World.isSome_setCells _ _ _ _ _ (hsp k hk)
 have hcp2: ∀ (W:World),(∀ x,W.cell? x=W1.cell? x)→(∀ x,W.frozen? x=W1.frozen? x)→ ∀ ty dc,(Builtin.copy_ #[33,33] ty #[.slice (some ⟨g,i*2,none⟩) (n+1 - i) dc,.slice (some ⟨h,0,none⟩) 1 vc]).run Tryz.prog W= .ok (goInt (1:Nat)) (W.setCells g (i*2) vs):=fun W hWc hWf ty dc=>
  y4N W ty g _ _ dc _ 1 vc vs 1 (by simp only [cB];split<;>omega) (by omega)
   (fun j v hj=>by
    rw [Addr.add_lit,hWc,hW1,World.cell?_setCells_out g _ _ _ _ (fun h _=>absurd h hne),aK]
    exact hvs j v hj)
   (fun j hj=>by rw [hWc];exact hsp1 _ (by omega)) (fun j hj=>by rw [hWf,hW1,World.frozen?_setCells];exact hfz _ (by omega)) h1v
 rw [← hW1] at hcp1
 have hz2: ¬ ((i:Int)=(n:Int)):=by omega
 have hb1:(0:Int)≤(i:Int)+1:=by omega
 have hin:i≤n:=by omega
 have hb2: ¬ (c=i+1):=by omega
 have hb4: ¬ (c=i):=by omega
 have hb3:(i:Int)≤(n:Int)+1:=by omega
 have hni: ¬ ((c:Int)<(n:Int)+1):=by omega
 go_enter Tryz.func230,Tryz.ntmps230
 go_wp2_with (simp only [hov])
 go_region_law_o (refine step_copy_runI rfl _ _ 33 33 rfl _ _ (by simp [Act.eval,Act.put]) (by simp [Act.eval,Act.put]) (hcp1 _ _ _) ?_)
 go_wp2_with (at_builtin;refine wpList_copy_runI _ rfl _ _ 33 33 rfl _ _ rfl rfl (hcp2 _ (fun _=>rfl) (fun _=>rfl) _ _) ?_)
 go_ret
 first|exact ⟨rfl,rfl⟩|exact ⟨rfl,by rw [hW1]⟩
set_option maxHeartbeats 4000000 in
theorem yq4 (g n c h vc:Nat) (vs:List Value) (w:World) (hroom:n+1≤c) (hc63:c≤9223372036854775807) (hvl:vs.length=2)
  (hsp: ∀ j,j<2→(w.cell? ⟨g,n*2+j,none⟩).isSome=true) (hfz: ∀ j,j<2→w.frozen? ⟨g,n*2+j,none⟩=false)
  (hvs: ∀ j u,vs[j]? =some u→w.cell? ⟨h,j,none⟩=some u) (h1v: ∀ u∈vs,u.oneCell'=true):
  Calls Tryz.prog 230 #[.slice (some ⟨g,0,none⟩) n c,.int .i64 n,.slice (some ⟨h,0,none⟩) 1 vc] w fun e w'=>
   e= .returned (.slice (some ⟨g,0,none⟩) (n+1) c)∧w'=w.setCells g (n*2) vs:=by
 have hmix:=ya7
 obtain ⟨i0,hi0,hz0,hz1,hz2⟩:=info_parts y7Q
 have hsrc:Src Tryz.prog i0.size 33 (.slice (some ⟨h,0,none⟩) 1 vc) 1 vs w:=by
  rw [hz1]
  exact Src.ofSlice w y46 ⟨h,0,none⟩ 1 vc vs (by omega) (fun j u hj=>by rw [Addr.add_lit,aK];exact hvs j u hj) h1v
 have hrun: ∀ ty,(Builtin.append_ #[33,33] ty #[.slice (some ⟨g,0,none⟩) n c,.slice (some ⟨h,0,none⟩) 1 vc]).run Tryz.prog w= .ok (.slice (some ⟨g,0,none⟩) (n+1) c) (w.setCells g (n*2) vs):=fun ty=>by
  have:=run_append_room_src w (ty:=ty) 33 33 79 i0 y46 hi0 g 0 n c (.slice (some ⟨h,0,none⟩) 1 vc) 1 vs hsrc hroom (by rw [hz1,hvl];intro j hj;rw [aK];exact hsp j hj) (by rw [hz1,hvl];intro j hj;rw [aK];exact hfz j hj)
  rw [hz1,aK] at this
  exact this
 go_enter Tryz.func230,Tryz.ntmps230
 go_wp2_with (at_builtin;refine Lib.wpList_append_run _ rfl _ _ _ _ rfl _ _ rfl rfl _ _ (hrun _) ?_)
 go_ret
 exact ⟨rfl,rfl⟩
set_option maxHeartbeats 4000000 in
theorem ydq (base:Option Addr) (n c h vc:Nat) (cells vs:List Value) (w:World) (hnc:n≤c) (hroom:c<n+1) (hbig:(n+1)*16≤140737488355328) (hcl:cells.length=n*2) (hvl:vs.length=2) (hnil:base=none→n=0)
  (hcs: ∀ a,base=some a→ ∀ j u,cells[j]? =some u→w.cell? (a.add j)=some u)
  (hvs: ∀ j u,vs[j]? =some u→w.cell? ⟨h,j,none⟩=some u) (h1v: ∀ u∈vs,u.oneCell'=true):
  Calls Tryz.prog 230 #[.slice base n c,.int .i64 n,.slice (some ⟨h,0,none⟩) 1 vc] w fun e w'=>
   e= .returned (.slice (some ⟨w.heap.size,0,none⟩) (n+1) (grownCap w (n+1) c 79))∧
   w'=w.drew.alloc (.cells ((cells++vs).toArray++Builtin.zeroCells (Value.agg #[.int .i64 0,.int .i64 0]).cells (grownCap w (n+1) c 79 - (n+1))) 79):=by
 have hmix:=ya7
 obtain ⟨i0,hi0,hz0,hz1,hz2⟩:=info_parts y7Q
 have hsrc:Src Tryz.prog i0.size 33 (.slice (some ⟨h,0,none⟩) 1 vc) 1 vs w:=by
  rw [hz1]
  exact Src.ofSlice w y46 ⟨h,0,none⟩ 1 vc vs (by omega) (fun j u hj=>by rw [Addr.add_lit,aK];exact hvs j u hj) h1v
 have hold:(Builtin.firstCells i0.size n (.slice base n c)).run Tryz.prog w.drew= .ok cells.toArray w.drew:=by
  rw [hz1]
  cases base with
  |none=>
   have h0:=hnil rfl
   subst h0
   rw [aP.1 hcl]
   exact run_firstCells_none w.drew 2 0 0 c
  |some a=>exact run_firstCells_some w.drew 2 n a n c cells hcl (fun j v hj=>hcs a rfl j v hj)
 have hrun: ∀ ty,(Builtin.append_ #[33,33] ty #[.slice base n c,.slice (some ⟨h,0,none⟩) 1 vc]).run Tryz.prog w=_:=fun ty=>
  run_append_grow_src w (ty:=ty) 33 33 79 i0 _ y46 hi0 hz0 base n c cells hold _ 1 vs hsrc hroom (by omega) (by rw [hz2];exact growslice_fits hroom hbig)
 go_enter Tryz.func230,Tryz.ntmps230
 cases base with
 |none=>
  have h0:=hnil rfl
  subst h0
  go_wp2_with (at_builtin;refine Lib.wpList_append_run _ rfl _ _ _ _ rfl _ _ rfl rfl _ _ (hrun _) ?_)
  go_ret
  exact ⟨rfl,rfl⟩
 |some a=>
  obtain ⟨ab,ao,asp⟩:=a
  go_wp2_with (at_builtin;refine Lib.wpList_append_run _ rfl _ _ _ _ rfl _ _ rfl rfl _ _ (hrun _) ?_)
  all_goals (go_ret;exact ⟨rfl,rfl⟩)
set_option maxHeartbeats 4000000 in
theorem ym0 (g n c i h vc:Nat) (cells vs:List Value) (w:World) (hi:i<n) (hnc:n≤c) (hroom:c<n+1) (hbig:(n+1)*16≤140737488355328) (hcl:cells.length=n*2) (hvl:vs.length=2)
  (hcs: ∀ j u,cells[j]? =some u→w.cell? ⟨g,j,none⟩=some u)
  (hvs: ∀ j u,vs[j]? =some u→w.cell? ⟨h,j,none⟩=some u) (h1c: ∀ u∈cells,u.oneCell'=true) (h1v: ∀ u∈vs,u.oneCell'=true):
  Calls Tryz.prog 230 #[.slice (some ⟨g,0,none⟩) n c,.int .i64 i,.slice (some ⟨h,0,none⟩) 1 vc] w fun e w'=>
   e= .returned (.slice (some ⟨w.heap.size,0,none⟩) (n+1) (grownCap w (n+1) c 79))∧
   w'=(((w.alloc (.cells ((cells.take (i*2)).toArray++Builtin.zeroCells (Value.agg #[.int .i64 0,.int .i64 0]).cells (n+1 - i)++Builtin.zeroCells (Value.agg #[.int .i64 0,.int .i64 0]).cells (grownCap w (n+1) c 79 - (n+1))) 79)).drew.setCells w.heap.size (i*2) vs).drew).setCells w.heap.size ((i+1)*2) (cells.drop (i*2)):=by
 have hmix:=ya7
 obtain ⟨i0,hi0,hz0,hz1,hz2⟩:=info_parts y7Q
 have hz4: ¬ ((i:Int)=(n:Int)):=by omega
 have hz3:(c:Int)<(n:Int)+1:=by omega
 have hbw:g<w.heap.size:=block_lt_of_cell (hcs 0 _ (aJ (by omega)))
 have hvw:h<w.heap.size:=block_lt_of_cell (hvs 0 _ (aJ (by omega)))
 have hkk:(n:Int)+1 - (i:Int)=((n+1 - i:Nat):Int):=by omega
 have hik:i+(n+1 - i)=n+1:=by omega
 have hold:(Builtin.firstCells i0.size i (.slice (some ⟨g,0,none⟩) i c)).run Tryz.prog w.drew= .ok (cells.take (i*2)).toArray w.drew:=by
  rw [hz1]
  exact run_firstCells_some w.drew 2 i ⟨g,0,none⟩ i c (cells.take (i*2)) (by rw [ak];omega) (fun j v hj=>by
   rw [Addr.add_lit,aK]
   rw [aD] at hj
   split at hj
   ·exact hcs j v hj
   ·cases hj)
 have hrz: ∀ ty,(Builtin.append_ #[33,3] ty #[.slice (some ⟨g,0,none⟩) i c,.int .i64 ((n:Int)+1 - (i:Int))]).run Tryz.prog w=
   .ok (.slice (some ⟨w.heap.size,0,none⟩) (n+1) (grownCap w (n+1) c 79)) (w.drew.alloc (.cells ((cells.take (i*2)).toArray++Builtin.zeroCells (Value.agg #[.int .i64 0,.int .i64 0]).cells (n+1 - i)++Builtin.zeroCells (Value.agg #[.int .i64 0,.int .i64 0]).cells (grownCap w (n+1) c 79 - (n+1))) 79)):=fun ty=>by
  have h:=Lib.run_append_grow_zeros w 33 3 ty 79 i0 _ .i64 .i64 y46 yzI hi0 hz0 (some ⟨g,0,none⟩) i c (cells.take (i*2)) hold (n+1 - i) (by omega) (by omega) (by omega) (by omega) (by rw [hz2];omega) (by rw [hz2,hik];exact growslice_fits hroom hbig)
  rw [hik] at h
  rw [hkk]
  exact h
 obtain ⟨G,hG⟩: ∃ G,G=grownCap w (n+1) c 79:=⟨_,rfl⟩
 obtain ⟨ROW,hROW⟩: ∃ ROW:Array Value,ROW=(cells.take (i*2)).toArray++Builtin.zeroCells (Value.agg #[.int .i64 0,.int .i64 0]).cells (n+1 - i)++Builtin.zeroCells (Value.agg #[.int .i64 0,.int .i64 0]).cells (G - (n+1)):=⟨_,rfl⟩
 rw [← hG] at hrz ⊢
 rw [← hROW] at hrz ⊢
 have hRl:(n+1)*2≤ROW.size:=by
  rw [hROW]
  simp [Builtin.zeroCells,Value.cells]
  omega
 obtain ⟨W1,hW1⟩: ∃ W1,W1=w.drew.alloc (.cells ROW 79):=⟨_,rfl⟩
 rw [← hW1] at hrz
 have hN: ∀ j,j<(n+1)*2→(W1.cell? ⟨w.heap.size,j,none⟩).isSome=true:=fun j hj=>by
  rw [hW1,World.cell?_alloc_at (w:=w.drew) ROW _ w.heap.size j rfl,cg (by omega)];rfl
 have hNf: ∀ j,W1.frozen? ⟨w.heap.size,j,none⟩=false:=fun j=>by rw [hW1];exact World.frozen?_alloc_at (w:=w.drew) ROW _ w.heap.size j rfl
 have hOb: ∀ j v,w.cell? ⟨g,j,none⟩=some v→W1.cell? ⟨g,j,none⟩=some v:=fun j v h=>by rw [hW1,World.cell?_alloc_past (w:=w.drew) _ g j hbw];exact h
 have hOv: ∀ j v,w.cell? ⟨h,j,none⟩=some v→W1.cell? ⟨h,j,none⟩=some v:=fun j v h'=>by rw [hW1,World.cell?_alloc_past (w:=w.drew) _ h j hvw];exact h'
 have hcpA: ∀ (W:World),(∀ x,W.cell? x=W1.cell? x)→(∀ x,W.frozen? x=W1.frozen? x)→ ∀ ty dc,(Builtin.copy_ #[33,33] ty #[.slice (some ⟨w.heap.size,i*2,none⟩) (n+1 - i) dc,.slice (some ⟨h,0,none⟩) 1 vc]).run Tryz.prog W= .ok (goInt (1:Nat)) (W.setCells w.heap.size (i*2) vs):=fun W hWc hWf ty dc=>
  y4N W ty w.heap.size _ _ dc _ 1 vc vs 1 (by simp only [cB];split<;>omega) (by omega)
   (fun j v hj=>by rw [Addr.add_lit,hWc,aK];exact hOv _ v (hvs j v hj))
   (fun j hj=>by rw [hWc];exact hN _ (by omega)) (fun j hj=>by rw [hWf];exact hNf _) h1v
 have hGn:n+1≤G:=by rw [hG];exact grownCap_ge w _ _ _
 have hG63:G≤9223372036854775807:=by
  have:=grownCap_le_maxLen w (n+1) c 79 (by unfold maxLen;omega)
  rw [← hG] at this
  unfold maxLen at this
  omega
 have hGi: ¬ (G=i):=by omega
 have hGim: ¬ (G=i+1):=by omega
 have hci: ¬ (c=i):=by omega
 have hbN:g≠w.heap.size:=by omega
 have hdl:(cells.drop (i*2)).length=(n - i)*2:=by rw [aC,hcl];omega
 have hcpB: ∀ (W:World),(∀ x,W.cell? x=(W1.setCells w.heap.size (i*2) vs).cell? x)→(∀ x,W.frozen? x=(W1.setCells w.heap.size (i*2) vs).frozen? x)→ ∀ ty dc sc,(Builtin.copy_ #[33,33] ty #[.slice (some ⟨w.heap.size,(i+1)*2,none⟩) (n - i) dc,.slice (some ⟨g,i*2,none⟩) (n - i) sc]).run Tryz.prog W= .ok (goInt (n - i:Nat)) (W.setCells w.heap.size ((i+1)*2) (cells.drop (i*2))):=fun W hWc hWf ty dc sc=>
  y4N W ty w.heap.size _ _ dc _ _ sc (cells.drop (i*2)) (n - i) (by simp only [cB];split<;>omega) hdl
   (fun j v hj=>by
    rw [Addr.add_lit,hWc,World.cell?_setCells_out _ _ _ _ _ (fun h _=>absurd h hbN)]
    exact hOb _ v (hcs (i*2+j) v (by rwa [aZ] at hj)))
   (fun j hj=>by rw [hWc];exact World.isSome_setCells _ _ _ _ _ (hN _ (by omega)))
   (fun j hj=>by rw [hWf,World.frozen?_setCells];exact hNf _) (fun v hv=>h1c v (a_ hv))
 subst hW1
 have hE1: ∀ x,((w.alloc (.cells ROW 79)).drew).cell? x=(w.drew.alloc (.cells ROW 79)).cell? x:=fun x=>rfl
 have hE2: ∀ x,((w.alloc (.cells ROW 79)).drew).frozen? x=(w.drew.alloc (.cells ROW 79)).frozen? x:=fun x=>rfl
 have hF1: ∀ x,(((w.alloc (.cells ROW 79)).drew.setCells w.heap.size (i*2) vs).drew).cell? x=((w.drew.alloc (.cells ROW 79)).setCells w.heap.size (i*2) vs).cell? x:=fun x=>rfl
 have hF2: ∀ x,(((w.alloc (.cells ROW 79)).drew.setCells w.heap.size (i*2) vs).drew).frozen? x=((w.drew.alloc (.cells ROW 79)).setCells w.heap.size (i*2) vs).frozen? x:=fun x=>rfl
 have hw1:IntKind.i64.wrap ((i:Int)+1)=(i:Int)+1:=by rw [IntKind.wrap_i64];omega
 have hb1:(0:Int)≤(i:Int)+1:=by omega
 have hin:i≤n:=by omega
 have htn:((i:Int)+1).toNat=i+1:=by omega
 have hb3:(i:Int)≤(n:Int):=by omega
 clear hkk hik hold hROW hG hRl
 go_enter Tryz.func230,Tryz.ntmps230
 go_wp2_with (first
  |(at_builtin;refine Lib.wpList_append_run _ rfl _ _ _ _ rfl _ _ rfl rfl _ _ (hrz _) ?_)
  |(at_builtin;refine wpList_copy_runI _ rfl _ _ 33 33 rfl _ _ rfl rfl (hcpA _ hE1 hE2 _ _) ?_)
  |(at_builtin;refine wpList_copy_runI _ rfl _ _ 33 33 rfl _ _ rfl rfl (hcpB _ (fun _=>rfl) (fun _=>rfl) _ _ _) ?_))
 go_region_law_o (refine step_copy_runI rfl _ _ 33 33 rfl (.slice (some ⟨w.heap.size,(i+1)*2,none⟩) (n - i) (G - (i+1))) (.slice (some ⟨g,i*2,none⟩) (n - i) (c - i)) (by simp [Act.eval,Act.put]) (by simp [Act.eval,Act.put]) (hcpB _ hF1 hF2 3 (G - (i+1)) (c - i)) ?_)
 go_wp2
 go_ret
 exact ⟨rfl,rfl⟩
def Yx (x:List y7×Int×List y7):Option (List y7):=if 0≤x.2.1 then if x.2.1≤((List.length x.1:Nat):Int) then if List.length x.2.2=1 then if (List.length x.1+1)*16≤140737488355328 then some (x.1.take x.2.1.toNat++(x.2.2++x.1.drop x.2.1.toNat)) else none else none else none else none
theorem yft (w:World) {g e:Nat} {cur:Array Value} {fz:Nat×Nat} (h:w.heap[g]? =some (.cells cur e fz)) (k:Nat):w.cell? ⟨g,k,none⟩=cur[k]? :=by
 unfold World.cell?
 simp [h]
theorem y4O (w:World) {g e:Nat} {cur:Array Value} (h:w.heap[g]? =some (.cells cur e (0,0))) (k:Nat):w.frozen? ⟨g,k,none⟩=false:=by
 unfold World.frozen?
 simp [h]
theorem ygU (w:World) {g e:Nat} {cur:Array Value} {fz:Nat×Nat} (h:w.heap[g]? =some (.cells cur e fz)):w.shape? g=some (e,cur.size):=by
 unfold World.shape?
 simp [h]
theorem ym1 {H:Hp} {l:List y7} {y:y7} {i:Nat} (hi:i≤List.length l) {cells vs:List Value} (hcl:cells.length=List.length l*2) (hvl:vs.length=2)
  (hrd: ∀ (j:Nat) (x:y7),l[j]? =some x→RdE H yh x fun k=>cells[j*2+k]?) (hrv:RdE H yh y fun k=>vs[k]?) (j:Nat) (x:y7) (hx:(l.take i++([y]++l.drop i))[j]? =some x):
  RdE H yh x fun k=>(cells.take (i*2)++(vs++cells.drop (i*2)))[j*2+k]? :=by
 have hX: ∀ k,k<2→(cells.take (i*2)++(vs++cells.drop (i*2)))[j*2+k]? =if j<i then cells[j*2+k]? else if j=i then vs[k]? else cells[(j - 1)*2+k]? :=fun k hk=>by
  by_cases h1:j<i
  ·rw [af h1,aE (by rw [ak];omega),aD,af (by omega)]
  ·rw [am h1,az (by rw [ak];omega),ak,bw (by omega)]
   by_cases h2:j=i
   ·rw [af h2,aE (by omega)]
    congr 1
    omega
   ·rw [am h2,az (by omega),aZ]
    congr 1
    omega
 have key: ∀ f:Nat→Option Value,RdE H yh x f→(∀ k,k<2→(cells.take (i*2)++(vs++cells.drop (i*2)))[j*2+k]? =f k)→RdE H yh x fun k=>(cells.take (i*2)++(vs++cells.drop (i*2)))[j*2+k]? :=fun f hr hf=>by
  obtain ⟨⟨v0,f0,r0⟩,v1,f1,r1⟩:=hr
  exact ⟨⟨v0,(hf 0 (by decide)).trans f0,r0⟩,v1,(hf 1 (by decide)).trans f1,r1⟩
 by_cases h1:j<i
 ·rw [aE (by rw [ak];omega),aD,af h1] at hx
  exact key _ (hrd j x hx) fun k hk=>by rw [hX k hk,af h1]
 ·rw [az (by rw [ak];omega),ak,bw hi] at hx
  by_cases h2:j=i
  ·rw [h2,Nat.sub_self] at hx
   have:y=x:=by simpa using hx
   subst this
   exact key _ hrv fun k hk=>by rw [hX k hk,am h1,af h2]
  ·rw [az (by simp;omega),aZ] at hx
   have e:i+(j - i - List.length [y])=j - 1:=by simp;omega
   rw [e] at hx
   exact key _ (hrd (j - 1) x hx) fun k hk=>by rw [hX k hk,am h1,am h2]
theorem ya8 {avs:List Value} {l:List y7} {y:y7} {i:Int} {w w':World} {H:Hp} {bs:List (Nat→Prop)} {cells vs:List Value} (hi:i.toNat≤List.length l) (hcl:cells.length=List.length l*2) (hvl:vs.length=2)
  (hrd: ∀ (j:Nat) (x:y7),l[j]? =some x→RdE H yh x fun k=>cells[j*2+k]?) (hrv:RdE H yh y fun k=>vs[k]?) (h1c: ∀ u∈cells,u.oneCell'=true) (h1v: ∀ u∈vs,u.oneCell'=true)
  (ho:w'.os=w.os) (ht:w'.tape=w.tape) (hu:w'.output=w.output) (hs:w.heap.size≤w'.heap.size) (hH:H.le (Zv w)) {b cap:Nat} {cur:Array Value}
  (hold: ∀ k,k<w.heap.size→k≠b→w'.heap[k]? =w.heap[k]?) (hb:w.heap.size≤b∨Kf bs [] b) (hHb:H b=none) (hw:w'.heap[b]? =some (.cells cur 79 (0,0))) (hcap:List.length l+1≤cap) (hm:cap≤maxLen) (hsz:cur.size=cap*2)
  (hcur: ∀ k,k<(List.length l+1)*2→cur[k]? =(cells.take (i.toNat*2)++(vs++cells.drop (i.toNat*2)))[k]?):
  ∃ H' vs' cs rest bs',R.Left w (Kf bs []) H ya5 [.sl 79 yh] (l.take i.toNat++([y]++l.drop i.toNat)) [] avs (.slice (some ⟨b,0,none⟩) (List.length l+1) cap) w' H' vs' cs rest bs':=by
 have hl2:(l.take i.toNat++([y]++l.drop i.toNat)).length=List.length l+1:=by
  simp only [ar,ak,aC,ah,aj]
  omega
 have hX3: ∀ m,m=List.length l+1→(List.take (m*2) cur.toList).length=m*2:=fun m hm=>by
  rw [ak,aN,hsz]
  omega
 have hX: ∀ m,m=List.length l+1→List.take (m*2) cur.toList=cells.take (i.toNat*2)++(vs++cells.drop (i.toNat*2)):=fun m hm=>by
  refine cP fun k=> ?_
  rw [aD]
  split
  ·rw [aQ]
   exact hcur k (by omega)
  ·rw [bE]
   simp only [ar,ak,aC]
   omega
 refine ⟨H,[.slice (some ⟨b,0,none⟩) (List.length l+1) cap],[.slice (some ⟨b,0,none⟩) (List.length l+1) cap],[],[fun k=>(Value.slice (some ⟨b,0,none⟩) (List.length l+1) cap).ownBlock=some k],
  ho,ht,hu,hs,fun k hk hl=> ?_,fun k o hk=> ?_,fun k o hk=> .inl hk,⟨_,_,rfl,rfl,rfl,by decide,_,⟨?_,.inr ⟨b,cap,cur,?_,bQ _,hw,?_,hm,hsz,rfl⟩⟩,?_,?_⟩,bZ _ _,fun k hk=> ?_,by simp,⟨none,⟨rfl,⟨[_],[],_,[],rfl,rfl,rfl,rfl,rfl,rfl⟩,rfl⟩,fun k hk=>by cases hk⟩,⟨rfl,rfl⟩⟩
 ·exact hold k hk fun e=>by
   subst e
   exact hb.elim (fun h=>absurd hk (cu.2 h)) fun h=>absurd h hl
 ·have hk':=hH k o hk
  exact (hold k (aM.1 hk').1 fun e=>by rw [e,hHb] at hk;cases hk).trans hk'
 ·exact hX3 _ hl2
 ·exact congrArg (fun m=>Value.slice (some ⟨b,0,none⟩) m cap) hl2.symm
 ·exact aO (bX hl2) hcap
 ·intro u hu
  have hu':=(hX _ hl2) ▸ hu
  rcases aF.1 hu' with h|h
  ·exact h1c u (a0 h)
  ·rcases aF.1 h with h|h
   ·exact h1v u h
   ·exact h1c u (a_ h)
 ·intro j x hx
  have:=ym1 hi hcl hvl hrd hrv j x hx
  rw [← hX _ hl2] at this
  exact this
 ·obtain ⟨c,hc,hck⟩:=hk
  obtain rfl:=aW.1 hc
  obtain rfl:b=k:=by simpa [Value.ownBlock] using hck
  exact ⟨hHb,hb,by simp⟩
theorem ygV (w:World) (ROW:Array Value) (t:Nat) (fz:Nat×Nat):(w.alloc (.cells ROW t fz)).heap[w.heap.size]? =some (.cells ROW t fz)∧(∀ k,k<w.heap.size→(w.alloc (.cells ROW t fz)).heap[k]? =w.heap[k]?)∧(w.alloc (.cells ROW t fz)).heap.size=w.heap.size+1:=by
 have e:(w.alloc (.cells ROW t fz)).heap=w.heap.push (.cells ROW t fz):=rfl
 rw [e]
 refine ⟨by rw [cJ,af rfl],fun k hk=> ?_,Array.size_push _⟩
 rw [cJ,am (by omega)]
theorem y5A (n:Nat):(Builtin.zeroCells (Value.agg #[.int .i64 0,.int .i64 0]).cells n).size=n*2:=by simp [Builtin.zeroCells,Value.cells]
theorem ym2 {x:List y7×Int×List y7} {y:List y7} (hF:Yx x=some y) {w:World} {H:Hp} {args vs:List Value} {bs:List (Nat→Prop)} {pb:List (Nat×Nat)} (hH:H.le (Zv w)) (hc:kX false H w [.sl 79 yh,.int .i64,.sl 79 yh] [true,false,true] x vs bs) (hap:y3A bs) (hsp:qD w ya5.ps args vs pb)
  (hx: ∀ k,Kf bs pb k→H k=none):ycA Tryz.prog 230 args.toArray w fun v w'=> ∃ H' vs' cs rest bs',R.Left w (Kf bs pb) H ya5 [.sl 79 yh] y pb vs v w' H' vs' cs rest bs':=by
 obtain ⟨l,i,ys⟩:=x
 unfold Yx at hF
 simp only at hF
 split at hF
 ·rename_i h0
  split at hF
  ·rename_i h1
   split at hF
   ·rename_i h2
    split at hF
    ·rename_i hbig
     injection hF with hF
     subst hF
     obtain ⟨y,rfl⟩:=List.length_eq_one_iff.1 h2
     have hpb:pb=[]:=y3g _ args vs pb (by simp [ya5,PK.isP]) hsp
     subst hpb
     obtain ⟨v,b,vs',bs',rfl,rfl,⟨rfl,_,cells,hown,hone,hrd⟩,v1,b1,vs2,bs2,rfl,rfl,⟨rfl,hv1⟩,v2,b2,rfl,rfl,⟨rfl,_,vcells,hown2,hone2,hrd2⟩⟩:=hc
     obtain rfl:v1= .int .i64 i:=hv1
     obtain ⟨arg,u1,args',us',rfl,e1,hl1,g1,arg2,u2,args2,us2,rfl,e2,hl2,g2,arg3,u3,args3,us3,rfl,e3,hl3,g3,rfl,rfl,_⟩:=hsp
     obtain rfl:u1=[arg]:=g1
     obtain rfl:u2=[arg2]:=g2
     obtain rfl:u3=[arg3]:=g3
     subst e3
     subst e2
     simp only [bp,aT,cA,bt,and_true] at e1
     obtain ⟨rfl,rfl,rfl⟩:=e1
     obtain ⟨hvl,hvn|⟨h,vcap,vcur,rfl,_,hh,_,_,hvs,hvt⟩⟩:=hown2
     ·exact absurd hvn.2 (by simp)
     replace hvl:vcells.length=2:=hvl
     replace hvt:vcur.toList.take 2=vcells:=hvt
     have hrv:RdE H yh y fun k=>vcells[k]? :=by
      have:=hrd2 0 y rfl
      simpa using this
     have hvc: ∀ j u,vcells[j]? =some u→w.cell? ⟨h,j,none⟩=some u:=fun j u hu=>by
      rw [yft w hh,← aQ]
      rw [← hvt,aD] at hu
      split at hu
      ·exact hu
      ·cases hu
     have hcl:cells.length=List.length l*2:=hown.1
     have hrd': ∀ (j:Nat) (x:y7),l[j]? =some x→RdE H yh x fun k=>cells[j*2+k]? :=hrd
     have hit:((i.toNat:Nat):Int)=i:=by omega
     have hlu: ∀ k,w.heap.size≤k→H k=none:=fun k hk=>by
      cases hHk:H k with
      |none=>rfl
      |some o=>exact absurd (aM.1 (hH k o hHk)).1 (cu.2 hk)
     have enter: ∀ {e:World→Prop} {r:Value},Calls Tryz.prog 230 [v,.int .i64 i,.slice (some ⟨h,0,none⟩) 1 vcap].toArray w (fun o w'=>o= .returned r∧e w')→(∀ w',e w'→ ∃ H' vs' cs rest bs',R.Left w (Kf [fun k=>v.ownBlock=some k,fun _=>False,fun k=>(Value.slice (some ⟨h,0,none⟩) 1 vcap).ownBlock=some k] []) H ya5 [.sl 79 yh] (l.take i.toNat++([y]++l.drop i.toNat)) [] [v,.int .i64 i,.slice (some ⟨h,0,none⟩) 1 vcap] r w' H' vs' cs rest bs')→
       ycA Tryz.prog 230 [v,.int .i64 i,.slice (some ⟨h,0,none⟩) 1 vcap].toArray w fun r w'=> ∃ H' vs' cs rest bs',R.Left w (Kf [fun k=>v.ownBlock=some k,fun _=>False,fun k=>(Value.slice (some ⟨h,0,none⟩) 1 vcap).ownBlock=some k] []) H ya5 [.sl 79 yh] (l.take i.toNat++([y]++l.drop i.toNat)) [] [v,.int .i64 i,.slice (some ⟨h,0,none⟩) 1 vcap] r w' H' vs' cs rest bs':=fun hcall hfin=>
      Kg Tryz.func230 (by decide) (cy.2 (by kernel_rfl)) (hcall.mono fun o w' ⟨he,hw⟩=>⟨_,he,hfin w' hw⟩)
     have grow_end: ∀ (base:Option Addr) (c:Nat),v= .slice base (List.length l) c→List.length l≤c→c<List.length l+1→i.toNat=List.length l→(base=none→List.length l=0)→(∀ a,base=some a→ ∀ j u,cells[j]? =some u→w.cell? (a.add j)=some u)→ycA Tryz.prog 230 [v,.int .i64 i,.slice (some ⟨h,0,none⟩) 1 vcap].toArray w fun r w'=> ∃ H' vs' cs rest bs',R.Left w (Kf [fun k=>v.ownBlock=some k,fun _=>False,fun k=>(Value.slice (some ⟨h,0,none⟩) 1 vcap).ownBlock=some k] []) H ya5 [.sl 79 yh] (l.take i.toNat++([y]++l.drop i.toNat)) [] [v,.int .i64 i,.slice (some ⟨h,0,none⟩) 1 vcap] r w' H' vs' cs rest bs':=by
      intro base c ha hlc hcl2 hil hnil hbase
      have hraw:=ydq base (List.length l) c h vcap cells vcells w hlc hcl2 hbig hcl hvl hnil hbase hvc hone2
      rw [← hil,hit,hil] at hraw
      subst ha
      refine enter hraw fun w' hw=> ?_
      have hg63:grownCap w (List.length l+1) c 79≤maxLen:=grownCap_le_maxLen w _ c 79 (by unfold maxLen;omega)
      have hge:=grownCap_ge w (List.length l+1) c 79
      generalize grownCap w (List.length l+1) c 79=G at hw hg63 hge ⊢
      obtain ⟨n1,n2,n3⟩:=ygV w.drew ((cells++vcells).toArray++Builtin.zeroCells (Value.agg #[.int .i64 0,.int .i64 0]).cells (G - (List.length l+1))) 79 (0,0)
      refine ya8 (i:=i) (w:=w) (w':=w') (by omega) hcl hvl hrd' hrv hone hone2 (by rw [hw];rfl) (by rw [hw];rfl) (by rw [hw];rfl) (by rw [hw,n3];exact cV _) hH (fun k hk hne=>by rw [hw];exact n2 k hk) (.inl (aS _)) (hlu _ (aS _)) (by rw [hw];exact n1) hge hg63 ?_ fun k hk=> ?_
      ·simp only [cm,bG,ar,y5A]
       omega
      ·rw [bM (by simp only [bG,ar];omega)]
       simp only [List.getElem?_toArray]
       rw [hil,ce (by omega),bT (by omega),bt]
     obtain ⟨_,hnil|⟨g,cap,cur,rfl,_,hg,hle,hm,hsz,htk⟩⟩:=hown
     ·have:List.length l=0:=hnil.2
      refine grow_end none 0 (by rw [hnil.1,this]) (by omega) (by omega) (by omega) (fun _=>this) (fun a ha=>by cases ha)
     ·replace hle:List.length l≤cap:=hle
      replace htk:cur.toList.take (List.length l*2)=cells:=htk
      replace hsz:cur.size=cap*2:=hsz
      have hgc: ∀ j u,cells[j]? =some u→w.cell? ⟨g,j,none⟩=some u:=fun j u hu=>by
       rw [yft w hg,← aQ]
       rw [← htk,aD] at hu
       split at hu
       ·exact hu
       ·cases hu
      have hk2: ∀ k,k<List.length l*2→cells[k]? =cur[k]? :=fun k hk=>by
       rw [← htk,aD,af hk,aQ]
      have hlent:Kf [fun k=>(Value.slice (some ⟨g,0,none⟩) (List.length l) cap).ownBlock=some k,fun _=>False,fun k=>(Value.slice (some ⟨h,0,none⟩) 1 vcap).ownBlock=some k] [] g:= .inl ⟨_,bD,rfl⟩
      have hHg:H g=none:=hx g hlent
      have hgs:g<w.heap.size:=(aM.1 hg).1
      have hne:h≠g:=fun e=>by
       have:=(bq.1 hap).1 _ (bI _ bD) g rfl
       exact this (by rw [e];rfl)
      by_cases hroom:List.length l+1≤cap
      ·have hin: ∀ k,k<(List.length l+1)*2→(w.cell? ⟨g,k,none⟩).isSome=true:=fun k hk=>by
        rw [yft w hg,cg (by omega)]
        rfl
       by_cases hil:i.toNat=List.length l
       ·have hraw:=yq4 g (List.length l) cap h vcap vcells w hroom (aO hm (by decide)) hvl (fun j hj=>hin _ (by omega)) (fun j _=>y4O w hg _) hvc hone2
        rw [← hil,hit,hil] at hraw
        refine enter hraw fun w' hw=> ?_
        obtain ⟨a1,a2,a3,a4⟩:=zg g vcells (List.length l*2) w
        have hg1:=zq g vcells (List.length l*2) w cur hg
        rw [← hw] at a1 a2 a3 a4 hg1
        refine ya8 (i:=i) (w:=w) (w':=w') (by omega) hcl hvl hrd' hrv hone hone2 a1 a2 a3 (bX a4.symm) hH (fun k hk hne=>by rw [hw,yN _ _ _ _ _ hne]) (.inr hlent) hHg hg1 hroom hm (by rw [yC,hsz]) fun k hk=> ?_
        rw [zK _ _ _ _ (by omega),hil,ce (by omega),bT (by omega),bt]
        by_cases hkl:k<List.length l*2
        ·rw [am (by omega),aE (by omega),hk2 k hkl]
        ·rw [af ⟨by omega,by omega⟩,az (by omega),hcl]
       ·have hraw:=yjE g (List.length l) cap i.toNat h vcap cells vcells w (by omega) hroom (aO hm (by decide)) hne hcl hvl hgc hin (fun j _=>y4O w hg _) hvc hone hone2 _ _ _ _ (ygU w hh) (ygU w hg) (by omega) (y4O w hh _) (y4O w hh _)
        rw [hit] at hraw
        refine enter hraw fun w' hw=> ?_
        obtain ⟨a1,a2,a3,a4⟩:=zg g (cells.drop (i.toNat*2)) ((i.toNat+1)*2) w.drew
        obtain ⟨b1,b2,b3,b4⟩:=zg g vcells (i.toNat*2) (w.drew.setCells g ((i.toNat+1)*2) (cells.drop (i.toNat*2)))
        have hg1:=zq g (cells.drop (i.toNat*2)) ((i.toNat+1)*2) w.drew cur hg
        have hg2:=zq g vcells (i.toNat*2) _ _ hg1
        rw [← hw] at b1 b2 b3 b4 hg2
        refine ya8 (i:=i) (w:=w) (w':=w') (by omega) hcl hvl hrd' hrv hone hone2 (b1.trans a1) (b2.trans a2) (b3.trans a3) (by rw [b4,a4];exact aS _) hH (fun k hk hne=>by
         rw [hw,yN _ _ _ _ _ hne,yN _ _ _ _ _ hne]
         rfl) (.inr hlent) hHg hg2 hroom hm (by rw [yC,yC,hsz]) fun k hk=> ?_
        have hdl:(cells.drop (i.toNat*2)).length=List.length l*2 - i.toNat*2:=by rw [aC,hcl]
        rw [zK _ _ _ _ (by rw [yC];omega),zK _ _ _ _ (by omega)]
        by_cases h3:k<i.toNat*2
        ·rw [am (by omega),am (by omega),aE (by rw [ak];omega),aD,af h3,hk2 k (by omega)]
        ·rw [az (by rw [ak];omega),ak,bw (by omega)]
         by_cases h4:k<(i.toNat+1)*2
         ·rw [af ⟨by omega,by omega⟩,aE (by omega)]
         ·rw [am (by omega),af ⟨by omega,by omega⟩,az (by omega),hvl]
          congr 1
          omega
      ·by_cases hil:i.toNat=List.length l
       ·exact grow_end (some ⟨g,0,none⟩) cap rfl hle (by omega) hil (fun h=>by cases h) fun a ha j u hu=>by
         injection ha with ha
         subst ha
         rw [Addr.add_lit,aK]
         exact hgc j u hu
       ·have hraw:=ym0 g (List.length l) cap i.toNat h vcap cells vcells w (by omega) hle (by omega) hbig hcl hvl hgc hvc hone hone2
        rw [hit] at hraw
        refine enter hraw fun w' hw=> ?_
        have hg63:grownCap w (List.length l+1) cap 79≤maxLen:=grownCap_le_maxLen w _ cap 79 (by unfold maxLen;omega)
        have hge:=grownCap_ge w (List.length l+1) cap 79
        generalize grownCap w (List.length l+1) cap 79=G at hw hg63 hge ⊢
        obtain ⟨ROW,hROW⟩: ∃ ROW:Array Value,ROW=(cells.take (i.toNat*2)).toArray++Builtin.zeroCells (Value.agg #[.int .i64 0,.int .i64 0]).cells (List.length l+1 - i.toNat)++Builtin.zeroCells (Value.agg #[.int .i64 0,.int .i64 0]).cells (G - (List.length l+1)):=⟨_,rfl⟩
        have hRs:ROW.size=G*2:=by
         rw [hROW]
         simp only [cm,bG,ak,y5A]
         omega
        have hRk: ∀ k,k<i.toNat*2→ROW[k]? =(cells.take (i.toNat*2))[k]? :=fun k hk=>by
         rw [hROW,bM (by simp only [cm,bG,ak,y5A];omega),bM (by simp only [bG,ak];omega)]
         simp
        rw [← hROW] at hw
        clear hROW
        obtain ⟨n1,n2,n3⟩:=ygV w ROW 79 (0,0)
        obtain ⟨a1,a2,a3,a4⟩:=zg w.heap.size vcells (i.toNat*2) (w.alloc (.cells ROW 79)).drew
        obtain ⟨b1,b2,b3,b4⟩:=zg w.heap.size (cells.drop (i.toNat*2)) ((i.toNat+1)*2) ((w.alloc (.cells ROW 79)).drew.setCells w.heap.size (i.toNat*2) vcells).drew
        have hg1:=zq w.heap.size vcells (i.toNat*2) (w.alloc (.cells ROW 79)).drew ROW n1
        have hg2:=zq w.heap.size (cells.drop (i.toNat*2)) ((i.toNat+1)*2) ((w.alloc (.cells ROW 79)).drew.setCells w.heap.size (i.toNat*2) vcells).drew _ hg1
        rw [← hw] at b1 b2 b3 b4 hg2
        have hdl:(cells.drop (i.toNat*2)).length=List.length l*2 - i.toNat*2:=by rw [aC,hcl]
        refine ya8 (i:=i) (w:=w) (w':=w') (by omega) hcl hvl hrd' hrv hone hone2 (b1.trans a1) (b2.trans a2) (b3.trans a3) (by
         rw [b4]
         show _≤((w.alloc (.cells ROW 79)).drew.setCells w.heap.size (i.toNat*2) vcells).heap.size
         rw [a4]
         show _≤(w.alloc (.cells ROW 79)).heap.size
         rw [n3]
         exact cV _) hH (fun k hk hne=>by
         rw [hw,yN _ _ _ _ _ hne]
         show ((w.alloc (.cells ROW 79)).drew.setCells w.heap.size (i.toNat*2) vcells).heap[k]? =_
         rw [yN _ _ _ _ _ hne]
         exact n2 k hk) (.inl (aS _)) (hlu _ (aS _)) hg2 hge hg63 (by rw [yC,yC,hRs]) fun k hk=> ?_
        rw [zK _ _ _ _ (by rw [yC];omega),zK _ _ _ _ (by omega)]
        by_cases h3:k<i.toNat*2
        ·rw [am (by omega),am (by omega),aE (by rw [ak];omega),hRk k h3]
        ·rw [az (by rw [ak];omega),ak,bw (by omega)]
         by_cases h4:k<(i.toNat+1)*2
         ·rw [am (by omega),af ⟨by omega,by omega⟩,aE (by omega)]
         ·rw [af ⟨by omega,by omega⟩,az (by omega),hvl]
          congr 1
          omega
    ·cases hF
   ·cases hF
  ·cases hF
 ·cases hF
theorem yzJ:C.sig 230=some ya5:=by kernel_rfl
theorem yFv:ZN C Tryz.prog 230 Yx:=by
 intro sg x y hs hF w H args vs bs pb hgl hH hc ha hsp hp hx hd
 obtain rfl:=Option.some.inj (hs.symm.trans yzJ)
 exact ym2 hF hH hc ha hsp hx
noncomputable def yMX:QF:=⟨230,Yx,yFv⟩
end Go.Proofs.YtekbnpmmjciloaaGreat.XA
