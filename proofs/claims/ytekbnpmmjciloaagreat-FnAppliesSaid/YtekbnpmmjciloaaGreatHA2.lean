/- slices.Insert at []Map, one element. -/
import Derived.Test.YtekbnpmmjciloaaGreatXA
import Derived.Test.YtekbnpmmjciloaaGreatRC
import Derived.WalkKit
import Derived.Deep.RegionLaw
import Derived.Deep.MidRow
import Derived.Deep.LoopGhost
import Derived.Lib.SliceRun
import Derived.Lib.Walk
import Derived.Lib.Overlaps
import Derived.Lib.AppendZerosOnto
import Derived.Laws.Externs
import Derived.Laws.IdiomCopy
import Derived.Laws.NewBlocks
import Derived.Shelf.Spec.SlicesInsert
set_option linter.all false
namespace Go.Proofs.YtekbnpmmjciloaaGreat.XA
open Go.RowKit Go.Lib Go.Proofs.YtekbnpmmjciloaaGreat.R
set_option maxRecDepth 1000000
theorem y4P:(Tryz.prog.info? 141).map (fun i=>(i.zero,i.size,i.bytes))=some (some (.agg #[.string ⟨#[]⟩,.bool false,.slice none 0 0]),3,48):=by kernel_rfl
theorem y1t:Tryz.prog.underlying 68=some (.slice 141):=by kernel_rfl
theorem yq6:Tryz.prog.underlying 3=some (.int .i64):=by kernel_rfl
theorem ym5 (w:World):(Go.sizeOf 141).run Tryz.prog w= .ok 3 w:=by
 obtain ⟨i0,hi0,hz0,hz1,hz2⟩:=info_parts y4P
 simp [Go.sizeOf,typeInfo,hi0,hz1]
theorem y3h (w:World) (ty b o dLen dCap:Nat) (a:Addr) (sLen sCap:Nat) (cs:List Value) (n:Nat) (hn:n=Nat.min sLen dLen) (hcl:cs.length=n*3)
  (hsrc: ∀ j v,cs[j]? =some v→w.cell? (a.add j)=some v) (hc: ∀ j,j<cs.length→(w.cell? ⟨b,o+j,none⟩).isSome=true) (hf: ∀ j,j<cs.length→w.frozen? ⟨b,o+j,none⟩=false) (h1: ∀ v∈cs,v.oneCell'=true):
  (Builtin.copy_ #[68,68] ty #[.slice (some ⟨b,o,none⟩) dLen dCap,.slice (some a) sLen sCap]).run Tryz.prog w= .ok (goInt n) (w.setCells b o cs):=by
 obtain ⟨i0,hi0,hz0,hz1,hz2⟩:=info_parts y4P
 have hl:=run_loadCells_list (P:=Tryz.prog) w a cs hsrc
 have hst:=run_storeCells_cells (P:=Tryz.prog) b o cs 0 w (by simpa using hc) (by simpa using hf) h1
 rw [hcl] at hl
 simp [Builtin.copy_,run_underlying y1t,Builtin.lenOf,Builtin.firstCells,sizeOf,typeInfo,hi0,hz1,← hn,hl,hst]
theorem yi8 (w:World) (a b:Addr) (la ca lb cb:Nat) (hne:a.block≠b.block) (tA tB kA kB:Nat)
  (hsa:w.shape? a.block=some (tA,kA)) (hsb:w.shape? b.block=some (tB,kB)) (hkB:kB≠0) (hfa:w.frozen? a=false) (hfe:w.frozen? {block:=a.block,off:=kA}=false):
  (callFunc 316 #[.slice (some a) la ca,.slice (some b) lb cb]).run Tryz.prog w= .ok (.value (.bool false)) w:=by
 rw [run_callFunc_extern Tryz.func316 (by kernel_rfl) (by kernel_rfl) (by kernel_rfl) (e:=Extern.SlicesOverlaps.overlaps #[68,68] #[4]) (by kernel_rfl),
  Lib.run_overlaps_apart w 68 4 141 y1t 3 ym5 a b la ca lb cb hne tA tB kA kB hsa hsb hkB hfa hfe]
 rfl
set_option maxHeartbeats 4000000 in
theorem yi9 (g n c i h vc:Nat) (cells vs:List Value) (w:World) (hi:i<n) (hroom:n+1≤c) (hc63:c≤9223372036854775807) (hne:h≠g) (hcl:cells.length=n*3) (hvl:vs.length=3)
  (hcs: ∀ j u,cells[j]? =some u→w.cell? ⟨g,j,none⟩=some u) (hsp: ∀ j,j<(n+1)*3→(w.cell? ⟨g,j,none⟩).isSome=true) (hfz: ∀ j,j<(n+1)*3→w.frozen? ⟨g,j,none⟩=false)
  (hvs: ∀ j u,vs[j]? =some u→w.cell? ⟨h,j,none⟩=some u) (h1c: ∀ u∈cells,u.oneCell'=true) (h1v: ∀ u∈vs,u.oneCell'=true)
  (tA tB kA kB:Nat) (hsa:w.shape? h=some (tA,kA)) (hsb:w.shape? g=some (tB,kB)) (hkB:kB≠0) (hfa:w.frozen? ⟨h,0,none⟩=false) (hfe:w.frozen? ⟨h,kA,none⟩=false):
  Calls Tryz.prog 265 #[.slice (some ⟨g,0,none⟩) n c,.int .i64 i,.slice (some ⟨h,0,none⟩) 1 vc] w fun e w'=>
   e= .returned (.slice (some ⟨g,0,none⟩) (n+1) c)∧w'=(w.drew.setCells g ((i+1)*3) (cells.drop (i*3))).setCells g (i*3) vs:=by
 have hmix:=ya7
 have hov: ∀ lb cb,(callFunc 316 #[.slice (some ⟨h,0,none⟩) 1 vc,.slice (some ⟨g,(i+1)*3,none⟩) lb cb]).run Tryz.prog w= .ok (.value (.bool false)) w:=fun lb cb=>yi8 w _ _ 1 vc lb cb hne tA tB kA kB hsa hsb hkB hfa hfe
 have hdl:(cells.drop (i*3)).length=(n - i)*3:=by rw [aC,hcl];omega
 have hw1:IntKind.i64.wrap ((i:Int)+1)=(i:Int)+1:=by rw [IntKind.wrap_i64];omega
 have hw2:IntKind.i64.wrap ((n:Int)+1)=(n:Int)+1:=by rw [IntKind.wrap_i64];omega
 have hcp1: ∀ ty dc sc,(Builtin.copy_ #[68,68] ty #[.slice (some ⟨g,(i+1)*3,none⟩) (n - i) dc,.slice (some ⟨g,i*3,none⟩) (n+1 - i) sc]).run Tryz.prog w.drew= .ok (goInt (n - i:Nat)) (w.drew.setCells g ((i+1)*3) (cells.drop (i*3))):=fun ty dc sc=>
  y3h w.drew ty g _ _ dc _ _ sc (cells.drop (i*3)) (n - i) (by simp only [cB];split<;>omega) hdl
   (fun j v hj=>by rw [Addr.add_lit];exact hcs (i*3+j) v (by rwa [aZ] at hj))
   (fun j hj=>hsp _ (by omega)) (fun j hj=>hfz _ (by omega)) (fun v hv=>h1c v (a_ hv))
 obtain ⟨W1,hW1⟩: ∃ W1,W1=w.drew.setCells g ((i+1)*3) (cells.drop (i*3)):=⟨_,rfl⟩
 have hsp1: ∀ k,k<(n+1)*3→(W1.cell? ⟨g,k,none⟩).isSome=true:=fun k hk=>by
  rw [hW1]
  exact World.isSome_setCells _ _ _ _ _ (hsp k hk)
 have hcp2: ∀ (W:World),(∀ x,W.cell? x=W1.cell? x)→(∀ x,W.frozen? x=W1.frozen? x)→ ∀ ty dc,(Builtin.copy_ #[68,68] ty #[.slice (some ⟨g,i*3,none⟩) (n+1 - i) dc,.slice (some ⟨h,0,none⟩) 1 vc]).run Tryz.prog W= .ok (goInt (1:Nat)) (W.setCells g (i*3) vs):=fun W hWc hWf ty dc=>
  y3h W ty g _ _ dc _ 1 vc vs 1 (by simp only [cB];split<;>omega) (by omega)
   (fun j v hj=>by
    rw [Addr.add_lit,hWc,hW1,World.cell?_setCells_out g _ _ _ _ (fun h _=>absurd h hne),aK]
    exact hvs j v hj)
   (fun j hj=>by rw [hWc];exact hsp1 _ (by omega)) (fun j hj=>by rw [hWf,hW1,World.frozen?_setCells];exact hfz _ (by omega)) h1v
 rw [← hW1] at hcp1
 have hz2: ¬ ((i:Int)=(n:Int)):=by omega
 have hb1:(0:Int)≤(i:Int)+1:=by omega
 have hin:i≤n:=by omega
 have hb2: ¬ (c=i+1):=by omega
 have hb4: ¬ (c=i):=by omega
 have hb3:(i:Int)≤(n:Int)+1:=by omega
 have hni: ¬ ((c:Int)<(n:Int)+1):=by omega
 go_enter Tryz.func265,Tryz.ntmps265
 go_wp2_with (simp only [hov])
 go_region_law_o (refine step_copy_runI rfl _ _ 68 68 rfl _ _ (by simp [Act.eval,Act.put]) (by simp [Act.eval,Act.put]) (hcp1 _ _ _) ?_)
 go_wp2_with (at_builtin;refine wpList_copy_runI _ rfl _ _ 68 68 rfl _ _ rfl rfl (hcp2 _ (fun _=>rfl) (fun _=>rfl) _ _) ?_)
 go_ret
 first|exact ⟨rfl,rfl⟩|exact ⟨rfl,by rw [hW1]⟩
set_option maxHeartbeats 4000000 in
theorem ym6 (g n c h vc:Nat) (vs:List Value) (w:World) (hroom:n+1≤c) (hc63:c≤9223372036854775807) (hvl:vs.length=3)
  (hsp: ∀ j,j<3→(w.cell? ⟨g,n*3+j,none⟩).isSome=true) (hfz: ∀ j,j<3→w.frozen? ⟨g,n*3+j,none⟩=false)
  (hvs: ∀ j u,vs[j]? =some u→w.cell? ⟨h,j,none⟩=some u) (h1v: ∀ u∈vs,u.oneCell'=true):
  Calls Tryz.prog 265 #[.slice (some ⟨g,0,none⟩) n c,.int .i64 n,.slice (some ⟨h,0,none⟩) 1 vc] w fun e w'=>
   e= .returned (.slice (some ⟨g,0,none⟩) (n+1) c)∧w'=w.setCells g (n*3) vs:=by
 have hmix:=ya7
 obtain ⟨i0,hi0,hz0,hz1,hz2⟩:=info_parts y4P
 have hsrc:Src Tryz.prog i0.size 68 (.slice (some ⟨h,0,none⟩) 1 vc) 1 vs w:=by
  rw [hz1]
  exact Src.ofSlice w y1t ⟨h,0,none⟩ 1 vc vs (by omega) (fun j u hj=>by rw [Addr.add_lit,aK];exact hvs j u hj) h1v
 have hrun: ∀ ty,(Builtin.append_ #[68,68] ty #[.slice (some ⟨g,0,none⟩) n c,.slice (some ⟨h,0,none⟩) 1 vc]).run Tryz.prog w= .ok (.slice (some ⟨g,0,none⟩) (n+1) c) (w.setCells g (n*3) vs):=fun ty=>by
  have:=run_append_room_src w (ty:=ty) 68 68 141 i0 y1t hi0 g 0 n c (.slice (some ⟨h,0,none⟩) 1 vc) 1 vs hsrc hroom (by rw [hz1,hvl];intro j hj;rw [aK];exact hsp j hj) (by rw [hz1,hvl];intro j hj;rw [aK];exact hfz j hj)
  rw [hz1,aK] at this
  exact this
 go_enter Tryz.func265,Tryz.ntmps265
 go_wp2_with (at_builtin;refine Lib.wpList_append_run _ rfl _ _ _ _ rfl _ _ rfl rfl _ _ (hrun _) ?_)
 go_ret
 exact ⟨rfl,rfl⟩
set_option maxHeartbeats 4000000 in
theorem ya9 (base:Option Addr) (n c h vc:Nat) (cells vs:List Value) (w:World) (hnc:n≤c) (hroom:c<n+1) (hbig:(n+1)*48≤140737488355328) (hcl:cells.length=n*3) (hvl:vs.length=3) (hnil:base=none→n=0)
  (hcs: ∀ a,base=some a→ ∀ j u,cells[j]? =some u→w.cell? (a.add j)=some u)
  (hvs: ∀ j u,vs[j]? =some u→w.cell? ⟨h,j,none⟩=some u) (h1v: ∀ u∈vs,u.oneCell'=true):
  Calls Tryz.prog 265 #[.slice base n c,.int .i64 n,.slice (some ⟨h,0,none⟩) 1 vc] w fun e w'=>
   e= .returned (.slice (some ⟨w.heap.size,0,none⟩) (n+1) (grownCap w (n+1) c 141))∧
   w'=w.drew.alloc (.cells ((cells++vs).toArray++Builtin.zeroCells (Value.agg #[.string ⟨#[]⟩,.bool false,.slice none 0 0]).cells (grownCap w (n+1) c 141 - (n+1))) 141):=by
 have hmix:=ya7
 obtain ⟨i0,hi0,hz0,hz1,hz2⟩:=info_parts y4P
 have hsrc:Src Tryz.prog i0.size 68 (.slice (some ⟨h,0,none⟩) 1 vc) 1 vs w:=by
  rw [hz1]
  exact Src.ofSlice w y1t ⟨h,0,none⟩ 1 vc vs (by omega) (fun j u hj=>by rw [Addr.add_lit,aK];exact hvs j u hj) h1v
 have hold:(Builtin.firstCells i0.size n (.slice base n c)).run Tryz.prog w.drew= .ok cells.toArray w.drew:=by
  rw [hz1]
  cases base with
  |none=>
   have h0:=hnil rfl
   subst h0
   rw [aP.1 hcl]
   exact run_firstCells_none w.drew 3 0 0 c
  |some a=>exact run_firstCells_some w.drew 3 n a n c cells hcl (fun j v hj=>hcs a rfl j v hj)
 have hrun: ∀ ty,(Builtin.append_ #[68,68] ty #[.slice base n c,.slice (some ⟨h,0,none⟩) 1 vc]).run Tryz.prog w=_:=fun ty=>
  run_append_grow_src w (ty:=ty) 68 68 141 i0 _ y1t hi0 hz0 base n c cells hold _ 1 vs hsrc hroom (by omega) (by rw [hz2];exact growslice_fits hroom hbig)
 go_enter Tryz.func265,Tryz.ntmps265
 cases base with
 |none=>
  have h0:=hnil rfl
  subst h0
  go_wp2_with (at_builtin;refine Lib.wpList_append_run _ rfl _ _ _ _ rfl _ _ rfl rfl _ _ (hrun _) ?_)
  go_ret
  exact ⟨rfl,rfl⟩
 |some a=>
  obtain ⟨ab,ao,asp⟩:=a
  go_wp2_with (at_builtin;refine Lib.wpList_append_run _ rfl _ _ _ _ rfl _ _ rfl rfl _ _ (hrun _) ?_)
  all_goals (go_ret;exact ⟨rfl,rfl⟩)
set_option maxHeartbeats 4000000 in
theorem yjH (g n c i h vc:Nat) (cells vs:List Value) (w:World) (hi:i<n) (hnc:n≤c) (hroom:c<n+1) (hbig:(n+1)*48≤140737488355328) (hcl:cells.length=n*3) (hvl:vs.length=3)
  (hcs: ∀ j u,cells[j]? =some u→w.cell? ⟨g,j,none⟩=some u)
  (hvs: ∀ j u,vs[j]? =some u→w.cell? ⟨h,j,none⟩=some u) (h1c: ∀ u∈cells,u.oneCell'=true) (h1v: ∀ u∈vs,u.oneCell'=true):
  Calls Tryz.prog 265 #[.slice (some ⟨g,0,none⟩) n c,.int .i64 i,.slice (some ⟨h,0,none⟩) 1 vc] w fun e w'=>
   e= .returned (.slice (some ⟨w.heap.size,0,none⟩) (n+1) (grownCap w (n+1) c 141))∧
   w'=(((w.alloc (.cells ((cells.take (i*3)).toArray++Builtin.zeroCells (Value.agg #[.string ⟨#[]⟩,.bool false,.slice none 0 0]).cells (n+1 - i)++Builtin.zeroCells (Value.agg #[.string ⟨#[]⟩,.bool false,.slice none 0 0]).cells (grownCap w (n+1) c 141 - (n+1))) 141)).drew.setCells w.heap.size (i*3) vs).drew).setCells w.heap.size ((i+1)*3) (cells.drop (i*3)):=by
 have hmix:=ya7
 obtain ⟨i0,hi0,hz0,hz1,hz2⟩:=info_parts y4P
 have hz4: ¬ ((i:Int)=(n:Int)):=by omega
 have hz3:(c:Int)<(n:Int)+1:=by omega
 have hbw:g<w.heap.size:=block_lt_of_cell (hcs 0 _ (aJ (by omega)))
 have hvw:h<w.heap.size:=block_lt_of_cell (hvs 0 _ (aJ (by omega)))
 have hkk:(n:Int)+1 - (i:Int)=((n+1 - i:Nat):Int):=by omega
 have hik:i+(n+1 - i)=n+1:=by omega
 have hold:(Builtin.firstCells i0.size i (.slice (some ⟨g,0,none⟩) i c)).run Tryz.prog w.drew= .ok (cells.take (i*3)).toArray w.drew:=by
  rw [hz1]
  exact run_firstCells_some w.drew 3 i ⟨g,0,none⟩ i c (cells.take (i*3)) (by rw [ak];omega) (fun j v hj=>by
   rw [Addr.add_lit,aK]
   rw [aD] at hj
   split at hj
   ·exact hcs j v hj
   ·cases hj)
 have hrz: ∀ ty,(Builtin.append_ #[68,3] ty #[.slice (some ⟨g,0,none⟩) i c,.int .i64 ((n:Int)+1 - (i:Int))]).run Tryz.prog w=
   .ok (.slice (some ⟨w.heap.size,0,none⟩) (n+1) (grownCap w (n+1) c 141)) (w.drew.alloc (.cells ((cells.take (i*3)).toArray++Builtin.zeroCells (Value.agg #[.string ⟨#[]⟩,.bool false,.slice none 0 0]).cells (n+1 - i)++Builtin.zeroCells (Value.agg #[.string ⟨#[]⟩,.bool false,.slice none 0 0]).cells (grownCap w (n+1) c 141 - (n+1))) 141)):=fun ty=>by
  have h:=Lib.run_append_grow_zeros w 68 3 ty 141 i0 _ .i64 .i64 y1t yq6 hi0 hz0 (some ⟨g,0,none⟩) i c (cells.take (i*3)) hold (n+1 - i) (by omega) (by omega) (by omega) (by omega) (by rw [hz2];omega) (by rw [hz2,hik];exact growslice_fits hroom hbig)
  rw [hik] at h
  rw [hkk]
  exact h
 obtain ⟨G,hG⟩: ∃ G,G=grownCap w (n+1) c 141:=⟨_,rfl⟩
 obtain ⟨ROW,hROW⟩: ∃ ROW:Array Value,ROW=(cells.take (i*3)).toArray++Builtin.zeroCells (Value.agg #[.string ⟨#[]⟩,.bool false,.slice none 0 0]).cells (n+1 - i)++Builtin.zeroCells (Value.agg #[.string ⟨#[]⟩,.bool false,.slice none 0 0]).cells (G - (n+1)):=⟨_,rfl⟩
 rw [← hG] at hrz ⊢
 rw [← hROW] at hrz ⊢
 have hRl:(n+1)*3≤ROW.size:=by
  rw [hROW]
  simp [Builtin.zeroCells,Value.cells]
  omega
 obtain ⟨W1,hW1⟩: ∃ W1,W1=w.drew.alloc (.cells ROW 141):=⟨_,rfl⟩
 rw [← hW1] at hrz
 have hN: ∀ j,j<(n+1)*3→(W1.cell? ⟨w.heap.size,j,none⟩).isSome=true:=fun j hj=>by
  rw [hW1,World.cell?_alloc_at (w:=w.drew) ROW _ w.heap.size j rfl,cg (by omega)];rfl
 have hNf: ∀ j,W1.frozen? ⟨w.heap.size,j,none⟩=false:=fun j=>by rw [hW1];exact World.frozen?_alloc_at (w:=w.drew) ROW _ w.heap.size j rfl
 have hOb: ∀ j v,w.cell? ⟨g,j,none⟩=some v→W1.cell? ⟨g,j,none⟩=some v:=fun j v h=>by rw [hW1,World.cell?_alloc_past (w:=w.drew) _ g j hbw];exact h
 have hOv: ∀ j v,w.cell? ⟨h,j,none⟩=some v→W1.cell? ⟨h,j,none⟩=some v:=fun j v h'=>by rw [hW1,World.cell?_alloc_past (w:=w.drew) _ h j hvw];exact h'
 have hcpA: ∀ (W:World),(∀ x,W.cell? x=W1.cell? x)→(∀ x,W.frozen? x=W1.frozen? x)→ ∀ ty dc,(Builtin.copy_ #[68,68] ty #[.slice (some ⟨w.heap.size,i*3,none⟩) (n+1 - i) dc,.slice (some ⟨h,0,none⟩) 1 vc]).run Tryz.prog W= .ok (goInt (1:Nat)) (W.setCells w.heap.size (i*3) vs):=fun W hWc hWf ty dc=>
  y3h W ty w.heap.size _ _ dc _ 1 vc vs 1 (by simp only [cB];split<;>omega) (by omega)
   (fun j v hj=>by rw [Addr.add_lit,hWc,aK];exact hOv _ v (hvs j v hj))
   (fun j hj=>by rw [hWc];exact hN _ (by omega)) (fun j hj=>by rw [hWf];exact hNf _) h1v
 have hGn:n+1≤G:=by rw [hG];exact grownCap_ge w _ _ _
 have hG63:G≤9223372036854775807:=by
  have:=grownCap_le_maxLen w (n+1) c 141 (by unfold maxLen;omega)
  rw [← hG] at this
  unfold maxLen at this
  omega
 have hGi: ¬ (G=i):=by omega
 have hGim: ¬ (G=i+1):=by omega
 have hci: ¬ (c=i):=by omega
 have hbN:g≠w.heap.size:=by omega
 have hdl:(cells.drop (i*3)).length=(n - i)*3:=by rw [aC,hcl];omega
 have hcpB: ∀ (W:World),(∀ x,W.cell? x=(W1.setCells w.heap.size (i*3) vs).cell? x)→(∀ x,W.frozen? x=(W1.setCells w.heap.size (i*3) vs).frozen? x)→ ∀ ty dc sc,(Builtin.copy_ #[68,68] ty #[.slice (some ⟨w.heap.size,(i+1)*3,none⟩) (n - i) dc,.slice (some ⟨g,i*3,none⟩) (n - i) sc]).run Tryz.prog W= .ok (goInt (n - i:Nat)) (W.setCells w.heap.size ((i+1)*3) (cells.drop (i*3))):=fun W hWc hWf ty dc sc=>
  y3h W ty w.heap.size _ _ dc _ _ sc (cells.drop (i*3)) (n - i) (by simp only [cB];split<;>omega) hdl
   (fun j v hj=>by
    rw [Addr.add_lit,hWc,World.cell?_setCells_out _ _ _ _ _ (fun h _=>absurd h hbN)]
    exact hOb _ v (hcs (i*3+j) v (by rwa [aZ] at hj)))
   (fun j hj=>by rw [hWc];exact World.isSome_setCells _ _ _ _ _ (hN _ (by omega)))
   (fun j hj=>by rw [hWf,World.frozen?_setCells];exact hNf _) (fun v hv=>h1c v (a_ hv))
 subst hW1
 have hE1: ∀ x,((w.alloc (.cells ROW 141)).drew).cell? x=(w.drew.alloc (.cells ROW 141)).cell? x:=fun x=>rfl
 have hE2: ∀ x,((w.alloc (.cells ROW 141)).drew).frozen? x=(w.drew.alloc (.cells ROW 141)).frozen? x:=fun x=>rfl
 have hF1: ∀ x,(((w.alloc (.cells ROW 141)).drew.setCells w.heap.size (i*3) vs).drew).cell? x=((w.drew.alloc (.cells ROW 141)).setCells w.heap.size (i*3) vs).cell? x:=fun x=>rfl
 have hF2: ∀ x,(((w.alloc (.cells ROW 141)).drew.setCells w.heap.size (i*3) vs).drew).frozen? x=((w.drew.alloc (.cells ROW 141)).setCells w.heap.size (i*3) vs).frozen? x:=fun x=>rfl
 have hw1:IntKind.i64.wrap ((i:Int)+1)=(i:Int)+1:=by rw [IntKind.wrap_i64];omega
 have hb1:(0:Int)≤(i:Int)+1:=by omega
 have hin:i≤n:=by omega
 have htn:((i:Int)+1).toNat=i+1:=by omega
 have hb3:(i:Int)≤(n:Int):=by omega
 clear hkk hik hold hROW hG hRl
 go_enter Tryz.func265,Tryz.ntmps265
 go_wp2_with (first
  |(at_builtin;refine Lib.wpList_append_run _ rfl _ _ _ _ rfl _ _ rfl rfl _ _ (hrz _) ?_)
  |(at_builtin;refine wpList_copy_runI _ rfl _ _ 68 68 rfl _ _ rfl rfl (hcpA _ hE1 hE2 _ _) ?_)
  |(at_builtin;refine wpList_copy_runI _ rfl _ _ 68 68 rfl _ _ rfl rfl (hcpB _ (fun _=>rfl) (fun _=>rfl) _ _ _) ?_))
 go_region_law_o (refine step_copy_runI rfl _ _ 68 68 rfl (.slice (some ⟨w.heap.size,(i+1)*3,none⟩) (n - i) (G - (i+1))) (.slice (some ⟨g,i*3,none⟩) (n - i) (c - i)) (by simp [Act.eval,Act.put]) (by simp [Act.eval,Act.put]) (hcpB _ hF1 hF2 3 (G - (i+1)) (c - i)) ?_)
 go_wp2
 go_ret
 exact ⟨rfl,rfl⟩
def Yz (x:List yO×Int×List yO):Option (List yO):=if 0≤x.2.1 then if x.2.1≤((List.length x.1:Nat):Int) then if List.length x.2.2=1 then if (List.length x.1+1)*48≤140737488355328 then some (x.1.take x.2.1.toNat++(x.2.2++x.1.drop x.2.1.toNat)) else none else none else none else none
theorem yaa (w:World) {g e:Nat} {cur:Array Value} {fz:Nat×Nat} (h:w.heap[g]? =some (.cells cur e fz)) (k:Nat):w.cell? ⟨g,k,none⟩=cur[k]? :=by
 unfold World.cell?
 simp [h]
theorem y3i (w:World) {g e:Nat} {cur:Array Value} (h:w.heap[g]? =some (.cells cur e (0,0))) (k:Nat):w.frozen? ⟨g,k,none⟩=false:=by
 unfold World.frozen?
 simp [h]
theorem ydr (w:World) {g e:Nat} {cur:Array Value} {fz:Nat×Nat} (h:w.heap[g]? =some (.cells cur e fz)):w.shape? g=some (e,cur.size):=by
 unfold World.shape?
 simp [h]
theorem yjI {H:Hp} {l:List yO} {y:yO} {i:Nat} (hi:i≤List.length l) {cells vs:List Value} (hcl:cells.length=List.length l*3) (hvl:vs.length=3)
  (hrd: ∀ (j:Nat) (x:yO),l[j]? =some x→RdE H yr x fun k=>cells[j*3+k]?) (hrv:RdE H yr y fun k=>vs[k]?) (j:Nat) (x:yO) (hx:(l.take i++([y]++l.drop i))[j]? =some x):
  RdE H yr x fun k=>(cells.take (i*3)++(vs++cells.drop (i*3)))[j*3+k]? :=by
 have hX: ∀ k,k<3→(cells.take (i*3)++(vs++cells.drop (i*3)))[j*3+k]? =if j<i then cells[j*3+k]? else if j=i then vs[k]? else cells[(j - 1)*3+k]? :=fun k hk=>by
  by_cases h1:j<i
  ·rw [af h1,aE (by rw [ak];omega),aD,af (by omega)]
  ·rw [am h1,az (by rw [ak];omega),ak,bw (by omega)]
   by_cases h2:j=i
   ·rw [af h2,aE (by omega)]
    congr 1
    omega
   ·rw [am h2,az (by omega),aZ]
    congr 1
    omega
 have key: ∀ f:Nat→Option Value,RdE H yr x f→(∀ k,k<3→(cells.take (i*3)++(vs++cells.drop (i*3)))[j*3+k]? =f k)→RdE H yr x fun k=>(cells.take (i*3)++(vs++cells.drop (i*3)))[j*3+k]? :=fun f hr hf=>by
  exact RdE.ext yr x _ _ (fun k v hk hv=>(hf k hk).trans hv) hr
 by_cases h1:j<i
 ·rw [aE (by rw [ak];omega),aD,af h1] at hx
  exact key _ (hrd j x hx) fun k hk=>by rw [hX k hk,af h1]
 ·rw [az (by rw [ak];omega),ak,bw hi] at hx
  by_cases h2:j=i
  ·rw [h2,Nat.sub_self] at hx
   have:y=x:=by simpa using hx
   subst this
   exact key _ hrv fun k hk=>by rw [hX k hk,am h1,af h2]
  ·rw [az (by simp;omega),aZ] at hx
   have e:i+(j - i - List.length [y])=j - 1:=by simp;omega
   rw [e] at hx
   exact key _ (hrd (j - 1) x hx) fun k hk=>by rw [hX k hk,am h1,am h2]
theorem y6N {avs:List Value} {l:List yO} {y:yO} {i:Int} {w w':World} {H:Hp} {bs:List (Nat→Prop)} {cells vs:List Value} (hi:i.toNat≤List.length l) (hcl:cells.length=List.length l*3) (hvl:vs.length=3)
  (hrd: ∀ (j:Nat) (x:yO),l[j]? =some x→RdE H yr x fun k=>cells[j*3+k]?) (hrv:RdE H yr y fun k=>vs[k]?) (h1c: ∀ u∈cells,u.oneCell'=true) (h1v: ∀ u∈vs,u.oneCell'=true)
  (ho:w'.os=w.os) (ht:w'.tape=w.tape) (hu:w'.output=w.output) (hs:w.heap.size≤w'.heap.size) (hH:H.le (Zv w)) {b cap:Nat} {cur:Array Value}
  (hold: ∀ k,k<w.heap.size→k≠b→w'.heap[k]? =w.heap[k]?) (hb:w.heap.size≤b∨Kf bs [] b) (hHb:H b=none) (hw:w'.heap[b]? =some (.cells cur 141 (0,0))) (hcap:List.length l+1≤cap) (hm:cap≤maxLen) (hsz:cur.size=cap*3)
  (hcur: ∀ k,k<(List.length l+1)*3→cur[k]? =(cells.take (i.toNat*3)++(vs++cells.drop (i.toNat*3)))[k]?):
  ∃ H' vs' cs rest bs',R.Left w (Kf bs []) H ya6 [.sl 141 yr] (l.take i.toNat++([y]++l.drop i.toNat)) [] avs (.slice (some ⟨b,0,none⟩) (List.length l+1) cap) w' H' vs' cs rest bs':=by
 have hl2:(l.take i.toNat++([y]++l.drop i.toNat)).length=List.length l+1:=by
  simp only [ar,ak,aC,ah,aj]
  omega
 have hX3: ∀ m,m=List.length l+1→(List.take (m*3) cur.toList).length=m*3:=fun m hm=>by
  rw [ak,aN,hsz]
  omega
 have hX: ∀ m,m=List.length l+1→List.take (m*3) cur.toList=cells.take (i.toNat*3)++(vs++cells.drop (i.toNat*3)):=fun m hm=>by
  refine cP fun k=> ?_
  rw [aD]
  split
  ·rw [aQ]
   exact hcur k (by omega)
  ·rw [bE]
   simp only [ar,ak,aC]
   omega
 refine ⟨H,[.slice (some ⟨b,0,none⟩) (List.length l+1) cap],[.slice (some ⟨b,0,none⟩) (List.length l+1) cap],[],[fun k=>(Value.slice (some ⟨b,0,none⟩) (List.length l+1) cap).ownBlock=some k],
  ho,ht,hu,hs,fun k hk hl=> ?_,fun k o hk=> ?_,fun k o hk=> .inl hk,⟨_,_,rfl,rfl,rfl,by decide,_,⟨?_,.inr ⟨b,cap,cur,?_,bQ _,hw,?_,hm,hsz,rfl⟩⟩,?_,?_⟩,bZ _ _,fun k hk=> ?_,by simp,⟨none,⟨rfl,⟨[_],[],_,[],rfl,rfl,rfl,rfl,rfl,rfl⟩,rfl⟩,fun k hk=>by cases hk⟩,⟨rfl,rfl⟩⟩
 ·exact hold k hk fun e=>by
   subst e
   exact hb.elim (fun h=>absurd hk (cu.2 h)) fun h=>absurd h hl
 ·have hk':=hH k o hk
  exact (hold k (aM.1 hk').1 fun e=>by rw [e,hHb] at hk;cases hk).trans hk'
 ·exact hX3 _ hl2
 ·exact congrArg (fun m=>Value.slice (some ⟨b,0,none⟩) m cap) hl2.symm
 ·exact aO (bX hl2) hcap
 ·intro u hu
  have hu':=(hX _ hl2) ▸ hu
  rcases aF.1 hu' with h|h
  ·exact h1c u (a0 h)
  ·rcases aF.1 h with h|h
   ·exact h1v u h
   ·exact h1c u (a_ h)
 ·intro j x hx
  have:=yjI hi hcl hvl hrd hrv j x hx
  rw [← hX _ hl2] at this
  exact this
 ·obtain ⟨c,hc,hck⟩:=hk
  obtain rfl:=aW.1 hc
  obtain rfl:b=k:=by simpa [Value.ownBlock] using hck
  exact ⟨hHb,hb,by simp⟩
theorem yds (w:World) (ROW:Array Value) (t:Nat) (fz:Nat×Nat):(w.alloc (.cells ROW t fz)).heap[w.heap.size]? =some (.cells ROW t fz)∧(∀ k,k<w.heap.size→(w.alloc (.cells ROW t fz)).heap[k]? =w.heap[k]?)∧(w.alloc (.cells ROW t fz)).heap.size=w.heap.size+1:=by
 have e:(w.alloc (.cells ROW t fz)).heap=w.heap.push (.cells ROW t fz):=rfl
 rw [e]
 refine ⟨by rw [cJ,af rfl],fun k hk=> ?_,Array.size_push _⟩
 rw [cJ,am (by omega)]
theorem y47 (n:Nat):(Builtin.zeroCells (Value.agg #[.string ⟨#[]⟩,.bool false,.slice none 0 0]).cells n).size=n*3:=by simp [Builtin.zeroCells,Value.cells]
theorem yjJ {x:List yO×Int×List yO} {y:List yO} (hF:Yz x=some y) {w:World} {H:Hp} {args vs:List Value} {bs:List (Nat→Prop)} {pb:List (Nat×Nat)} (hH:H.le (Zv w)) (hc:kX false H w [.sl 141 yr,.int .i64,.sl 141 yr] [true,false,true] x vs bs) (hap:y3A bs) (hsp:qD w ya6.ps args vs pb)
  (hx: ∀ k,Kf bs pb k→H k=none):ycA Tryz.prog 265 args.toArray w fun v w'=> ∃ H' vs' cs rest bs',R.Left w (Kf bs pb) H ya6 [.sl 141 yr] y pb vs v w' H' vs' cs rest bs':=by
 obtain ⟨l,i,ys⟩:=x
 unfold Yz at hF
 simp only at hF
 split at hF
 ·rename_i h0
  split at hF
  ·rename_i h1
   split at hF
   ·rename_i h2
    split at hF
    ·rename_i hbig
     injection hF with hF
     subst hF
     obtain ⟨y,rfl⟩:=List.length_eq_one_iff.1 h2
     have hpb:pb=[]:=y3g _ args vs pb (by simp [ya6,PK.isP]) hsp
     subst hpb
     obtain ⟨v,b,vs',bs',rfl,rfl,⟨rfl,_,cells,hown,hone,hrd⟩,v1,b1,vs2,bs2,rfl,rfl,⟨rfl,hv1⟩,v2,b2,rfl,rfl,⟨rfl,_,vcells,hown2,hone2,hrd2⟩⟩:=hc
     obtain rfl:v1= .int .i64 i:=hv1
     obtain ⟨arg,u1,args',us',rfl,e1,hl1,g1,arg2,u2,args2,us2,rfl,e2,hl2,g2,arg3,u3,args3,us3,rfl,e3,hl3,g3,rfl,rfl,_⟩:=hsp
     obtain rfl:u1=[arg]:=g1
     obtain rfl:u2=[arg2]:=g2
     obtain rfl:u3=[arg3]:=g3
     subst e3
     subst e2
     simp only [bp,aT,cA,bt,and_true] at e1
     obtain ⟨rfl,rfl,rfl⟩:=e1
     obtain ⟨hvl,hvn|⟨h,vcap,vcur,rfl,_,hh,_,_,hvs,hvt⟩⟩:=hown2
     ·exact absurd hvn.2 (by simp)
     replace hvl:vcells.length=3:=hvl
     replace hvt:vcur.toList.take 3=vcells:=hvt
     have hrv:RdE H yr y fun k=>vcells[k]? :=by
      have:=hrd2 0 y rfl
      simpa using this
     have hvc: ∀ j u,vcells[j]? =some u→w.cell? ⟨h,j,none⟩=some u:=fun j u hu=>by
      rw [yaa w hh,← aQ]
      rw [← hvt,aD] at hu
      split at hu
      ·exact hu
      ·cases hu
     have hcl:cells.length=List.length l*3:=hown.1
     have hrd': ∀ (j:Nat) (x:yO),l[j]? =some x→RdE H yr x fun k=>cells[j*3+k]? :=hrd
     have hit:((i.toNat:Nat):Int)=i:=by omega
     have hlu: ∀ k,w.heap.size≤k→H k=none:=fun k hk=>by
      cases hHk:H k with
      |none=>rfl
      |some o=>exact absurd (aM.1 (hH k o hHk)).1 (cu.2 hk)
     have enter: ∀ {e:World→Prop} {r:Value},Calls Tryz.prog 265 [v,.int .i64 i,.slice (some ⟨h,0,none⟩) 1 vcap].toArray w (fun o w'=>o= .returned r∧e w')→(∀ w',e w'→ ∃ H' vs' cs rest bs',R.Left w (Kf [fun k=>v.ownBlock=some k,fun _=>False,fun k=>(Value.slice (some ⟨h,0,none⟩) 1 vcap).ownBlock=some k] []) H ya6 [.sl 141 yr] (l.take i.toNat++([y]++l.drop i.toNat)) [] [v,.int .i64 i,.slice (some ⟨h,0,none⟩) 1 vcap] r w' H' vs' cs rest bs')→
       ycA Tryz.prog 265 [v,.int .i64 i,.slice (some ⟨h,0,none⟩) 1 vcap].toArray w fun r w'=> ∃ H' vs' cs rest bs',R.Left w (Kf [fun k=>v.ownBlock=some k,fun _=>False,fun k=>(Value.slice (some ⟨h,0,none⟩) 1 vcap).ownBlock=some k] []) H ya6 [.sl 141 yr] (l.take i.toNat++([y]++l.drop i.toNat)) [] [v,.int .i64 i,.slice (some ⟨h,0,none⟩) 1 vcap] r w' H' vs' cs rest bs':=fun hcall hfin=>
      Kg Tryz.func265 (by decide) (cy.2 (by kernel_rfl)) (hcall.mono fun o w' ⟨he,hw⟩=>⟨_,he,hfin w' hw⟩)
     have grow_end: ∀ (base:Option Addr) (c:Nat),v= .slice base (List.length l) c→List.length l≤c→c<List.length l+1→i.toNat=List.length l→(base=none→List.length l=0)→(∀ a,base=some a→ ∀ j u,cells[j]? =some u→w.cell? (a.add j)=some u)→ycA Tryz.prog 265 [v,.int .i64 i,.slice (some ⟨h,0,none⟩) 1 vcap].toArray w fun r w'=> ∃ H' vs' cs rest bs',R.Left w (Kf [fun k=>v.ownBlock=some k,fun _=>False,fun k=>(Value.slice (some ⟨h,0,none⟩) 1 vcap).ownBlock=some k] []) H ya6 [.sl 141 yr] (l.take i.toNat++([y]++l.drop i.toNat)) [] [v,.int .i64 i,.slice (some ⟨h,0,none⟩) 1 vcap] r w' H' vs' cs rest bs':=by
      intro base c ha hlc hcl2 hil hnil hbase
      have hraw:=ya9 base (List.length l) c h vcap cells vcells w hlc hcl2 hbig hcl hvl hnil hbase hvc hone2
      rw [← hil,hit,hil] at hraw
      subst ha
      refine enter hraw fun w' hw=> ?_
      have hg63:grownCap w (List.length l+1) c 141≤maxLen:=grownCap_le_maxLen w _ c 141 (by unfold maxLen;omega)
      have hge:=grownCap_ge w (List.length l+1) c 141
      generalize grownCap w (List.length l+1) c 141=G at hw hg63 hge ⊢
      obtain ⟨n1,n2,n3⟩:=yds w.drew ((cells++vcells).toArray++Builtin.zeroCells (Value.agg #[.string ⟨#[]⟩,.bool false,.slice none 0 0]).cells (G - (List.length l+1))) 141 (0,0)
      refine y6N (i:=i) (w:=w) (w':=w') (by omega) hcl hvl hrd' hrv hone hone2 (by rw [hw];rfl) (by rw [hw];rfl) (by rw [hw];rfl) (by rw [hw,n3];exact cV _) hH (fun k hk hne=>by rw [hw];exact n2 k hk) (.inl (aS _)) (hlu _ (aS _)) (by rw [hw];exact n1) hge hg63 ?_ fun k hk=> ?_
      ·simp only [cm,bG,ar,y47]
       omega
      ·rw [bM (by simp only [bG,ar];omega)]
       simp only [List.getElem?_toArray]
       rw [hil,ce (by omega),bT (by omega),bt]
     obtain ⟨_,hnil|⟨g,cap,cur,rfl,_,hg,hle,hm,hsz,htk⟩⟩:=hown
     ·have:List.length l=0:=hnil.2
      refine grow_end none 0 (by rw [hnil.1,this]) (by omega) (by omega) (by omega) (fun _=>this) (fun a ha=>by cases ha)
     ·replace hle:List.length l≤cap:=hle
      replace htk:cur.toList.take (List.length l*3)=cells:=htk
      replace hsz:cur.size=cap*3:=hsz
      have hgc: ∀ j u,cells[j]? =some u→w.cell? ⟨g,j,none⟩=some u:=fun j u hu=>by
       rw [yaa w hg,← aQ]
       rw [← htk,aD] at hu
       split at hu
       ·exact hu
       ·cases hu
      have hk2: ∀ k,k<List.length l*3→cells[k]? =cur[k]? :=fun k hk=>by
       rw [← htk,aD,af hk,aQ]
      have hlent:Kf [fun k=>(Value.slice (some ⟨g,0,none⟩) (List.length l) cap).ownBlock=some k,fun _=>False,fun k=>(Value.slice (some ⟨h,0,none⟩) 1 vcap).ownBlock=some k] [] g:= .inl ⟨_,bD,rfl⟩
      have hHg:H g=none:=hx g hlent
      have hgs:g<w.heap.size:=(aM.1 hg).1
      have hne:h≠g:=fun e=>by
       have:=(bq.1 hap).1 _ (bI _ bD) g rfl
       exact this (by rw [e];rfl)
      by_cases hroom:List.length l+1≤cap
      ·have hin: ∀ k,k<(List.length l+1)*3→(w.cell? ⟨g,k,none⟩).isSome=true:=fun k hk=>by
        rw [yaa w hg,cg (by omega)]
        rfl
       by_cases hil:i.toNat=List.length l
       ·have hraw:=ym6 g (List.length l) cap h vcap vcells w hroom (aO hm (by decide)) hvl (fun j hj=>hin _ (by omega)) (fun j _=>y3i w hg _) hvc hone2
        rw [← hil,hit,hil] at hraw
        refine enter hraw fun w' hw=> ?_
        obtain ⟨a1,a2,a3,a4⟩:=zg g vcells (List.length l*3) w
        have hg1:=zq g vcells (List.length l*3) w cur hg
        rw [← hw] at a1 a2 a3 a4 hg1
        refine y6N (i:=i) (w:=w) (w':=w') (by omega) hcl hvl hrd' hrv hone hone2 a1 a2 a3 (bX a4.symm) hH (fun k hk hne=>by rw [hw,yN _ _ _ _ _ hne]) (.inr hlent) hHg hg1 hroom hm (by rw [yC,hsz]) fun k hk=> ?_
        rw [zK _ _ _ _ (by omega),hil,ce (by omega),bT (by omega),bt]
        by_cases hkl:k<List.length l*3
        ·rw [am (by omega),aE (by omega),hk2 k hkl]
        ·rw [af ⟨by omega,by omega⟩,az (by omega),hcl]
       ·have hraw:=yi9 g (List.length l) cap i.toNat h vcap cells vcells w (by omega) hroom (aO hm (by decide)) hne hcl hvl hgc hin (fun j _=>y3i w hg _) hvc hone hone2 _ _ _ _ (ydr w hh) (ydr w hg) (by omega) (y3i w hh _) (y3i w hh _)
        rw [hit] at hraw
        refine enter hraw fun w' hw=> ?_
        obtain ⟨a1,a2,a3,a4⟩:=zg g (cells.drop (i.toNat*3)) ((i.toNat+1)*3) w.drew
        obtain ⟨b1,b2,b3,b4⟩:=zg g vcells (i.toNat*3) (w.drew.setCells g ((i.toNat+1)*3) (cells.drop (i.toNat*3)))
        have hg1:=zq g (cells.drop (i.toNat*3)) ((i.toNat+1)*3) w.drew cur hg
        have hg2:=zq g vcells (i.toNat*3) _ _ hg1
        rw [← hw] at b1 b2 b3 b4 hg2
        refine y6N (i:=i) (w:=w) (w':=w') (by omega) hcl hvl hrd' hrv hone hone2 (b1.trans a1) (b2.trans a2) (b3.trans a3) (by rw [b4,a4];exact aS _) hH (fun k hk hne=>by
         rw [hw,yN _ _ _ _ _ hne,yN _ _ _ _ _ hne]
         rfl) (.inr hlent) hHg hg2 hroom hm (by rw [yC,yC,hsz]) fun k hk=> ?_
        have hdl:(cells.drop (i.toNat*3)).length=List.length l*3 - i.toNat*3:=by rw [aC,hcl]
        rw [zK _ _ _ _ (by rw [yC];omega),zK _ _ _ _ (by omega)]
        by_cases h3:k<i.toNat*3
        ·rw [am (by omega),am (by omega),aE (by rw [ak];omega),aD,af h3,hk2 k (by omega)]
        ·rw [az (by rw [ak];omega),ak,bw (by omega)]
         by_cases h4:k<(i.toNat+1)*3
         ·rw [af ⟨by omega,by omega⟩,aE (by omega)]
         ·rw [am (by omega),af ⟨by omega,by omega⟩,az (by omega),hvl]
          congr 1
          omega
      ·by_cases hil:i.toNat=List.length l
       ·exact grow_end (some ⟨g,0,none⟩) cap rfl hle (by omega) hil (fun h=>by cases h) fun a ha j u hu=>by
         injection ha with ha
         subst ha
         rw [Addr.add_lit,aK]
         exact hgc j u hu
       ·have hraw:=yjH g (List.length l) cap i.toNat h vcap cells vcells w (by omega) hle (by omega) hbig hcl hvl hgc hvc hone hone2
        rw [hit] at hraw
        refine enter hraw fun w' hw=> ?_
        have hg63:grownCap w (List.length l+1) cap 141≤maxLen:=grownCap_le_maxLen w _ cap 141 (by unfold maxLen;omega)
        have hge:=grownCap_ge w (List.length l+1) cap 141
        generalize grownCap w (List.length l+1) cap 141=G at hw hg63 hge ⊢
        obtain ⟨ROW,hROW⟩: ∃ ROW:Array Value,ROW=(cells.take (i.toNat*3)).toArray++Builtin.zeroCells (Value.agg #[.string ⟨#[]⟩,.bool false,.slice none 0 0]).cells (List.length l+1 - i.toNat)++Builtin.zeroCells (Value.agg #[.string ⟨#[]⟩,.bool false,.slice none 0 0]).cells (G - (List.length l+1)):=⟨_,rfl⟩
        have hRs:ROW.size=G*3:=by
         rw [hROW]
         simp only [cm,bG,ak,y47]
         omega
        have hRk: ∀ k,k<i.toNat*3→ROW[k]? =(cells.take (i.toNat*3))[k]? :=fun k hk=>by
         rw [hROW,bM (by simp only [cm,bG,ak,y47];omega),bM (by simp only [bG,ak];omega)]
         simp
        rw [← hROW] at hw
        clear hROW
        obtain ⟨n1,n2,n3⟩:=yds w ROW 141 (0,0)
        obtain ⟨a1,a2,a3,a4⟩:=zg w.heap.size vcells (i.toNat*3) (w.alloc (.cells ROW 141)).drew
        obtain ⟨b1,b2,b3,b4⟩:=zg w.heap.size (cells.drop (i.toNat*3)) ((i.toNat+1)*3) ((w.alloc (.cells ROW 141)).drew.setCells w.heap.size (i.toNat*3) vcells).drew
        have hg1:=zq w.heap.size vcells (i.toNat*3) (w.alloc (.cells ROW 141)).drew ROW n1
        have hg2:=zq w.heap.size (cells.drop (i.toNat*3)) ((i.toNat+1)*3) ((w.alloc (.cells ROW 141)).drew.setCells w.heap.size (i.toNat*3) vcells).drew _ hg1
        rw [← hw] at b1 b2 b3 b4 hg2
        have hdl:(cells.drop (i.toNat*3)).length=List.length l*3 - i.toNat*3:=by rw [aC,hcl]
        refine y6N (i:=i) (w:=w) (w':=w') (by omega) hcl hvl hrd' hrv hone hone2 (b1.trans a1) (b2.trans a2) (b3.trans a3) (by
         rw [b4]
         show _≤((w.alloc (.cells ROW 141)).drew.setCells w.heap.size (i.toNat*3) vcells).heap.size
         rw [a4]
         show _≤(w.alloc (.cells ROW 141)).heap.size
         rw [n3]
         exact cV _) hH (fun k hk hne=>by
         rw [hw,yN _ _ _ _ _ hne]
         show ((w.alloc (.cells ROW 141)).drew.setCells w.heap.size (i.toNat*3) vcells).heap[k]? =_
         rw [yN _ _ _ _ _ hne]
         exact n2 k hk) (.inl (aS _)) (hlu _ (aS _)) hg2 hge hg63 (by rw [yC,yC,hRs]) fun k hk=> ?_
        rw [zK _ _ _ _ (by rw [yC];omega),zK _ _ _ _ (by omega)]
        by_cases h3:k<i.toNat*3
        ·rw [am (by omega),am (by omega),aE (by rw [ak];omega),hRk k h3]
        ·rw [az (by rw [ak];omega),ak,bw (by omega)]
         by_cases h4:k<(i.toNat+1)*3
         ·rw [am (by omega),af ⟨by omega,by omega⟩,aE (by omega)]
         ·rw [af ⟨by omega,by omega⟩,az (by omega),hvl]
          congr 1
          omega
    ·cases hF
   ·cases hF
  ·cases hF
 ·cases hF
theorem yzO:C.sig 265=some ya6:=by kernel_rfl
theorem yFx:ZN C Tryz.prog 265 Yz:=by
 intro sg x y hs hF w H args vs bs pb hgl hH hc ha hsp hp hx hd
 obtain rfl:=Option.some.inj (hs.symm.trans yzO)
 exact yjJ hF hH hc ha hsp hx
noncomputable def yMZ:QF:=⟨265,Yz,yFx⟩
end Go.Proofs.YtekbnpmmjciloaaGreat.XA
