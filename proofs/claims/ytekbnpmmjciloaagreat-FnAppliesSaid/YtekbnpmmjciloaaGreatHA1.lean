/- slices.Delete at []Age. -/
import Derived.Test.YtekbnpmmjciloaaGreatXA
import Derived.Test.YtekbnpmmjciloaaGreatRC
import Derived.WalkKit
import Derived.Deep.RegionLaw
import Derived.Deep.MidRow
import Derived.Deep.LoopGhost
import Derived.Lib.SliceRun
import Derived.Lib.Walk
set_option linter.all false
namespace Go.Proofs.YtekbnpmmjciloaaGreat.XA
open Go.RowKit Go.Lib Go.Proofs.YtekbnpmmjciloaaGreat.R
set_option maxRecDepth 1000000
theorem yjF:(Tryz.prog.info? 79).map (fun i=>(i.zero,i.size,i.bytes))=some (some (.agg #[.int .i64 0,.int .i64 0]),2,16):=by kernel_rfl
theorem yzK:Tryz.prog.underlying 33=some (.slice 79):=by kernel_rfl
theorem yzL (w:World):(zeroValue 79).run Tryz.prog w= .ok (.agg #[.int .i64 0,.int .i64 0]) w:=by
 obtain ⟨i0,hi0,hz0,hz1,hz2⟩:=info_parts yjF
 simp [zeroValue,Tryz.t79]
theorem yjG (w:World) (ty g o n c:Nat) (hn:0<n) (hc: ∀ k,k<n*2→(w.cell? ⟨g,o+k,none⟩).isSome=true) (hf: ∀ k,k<n*2→w.frozen? ⟨g,o+k,none⟩=false):
  (Builtin.clear_ #[33] ty #[.slice (some ⟨g,o,none⟩) n c]).run Tryz.prog w= .ok (.tuple #[]) (w.setCells g o (List.replicate (n*2) (.int .i64 0))):=by
 have hzc:(Builtin.zeroCells (Value.agg #[.int .i64 0,.int .i64 0]).cells n).toList=List.replicate (n*2) (.int .i64 0):=by
  show (Builtin.zeroCells #[.int .i64 0,.int .i64 0] n).toList=_
  simp [Builtin.zeroCells]
  apply List.ext_getElem
  ·simp
  ·intro i h1 h2
   have:i % 2=0∨i % 2=1:=by omega
   rcases this with h|h<;>simp [h]
 have hst:=run_storeCells_cells (P:=Tryz.prog) g o (List.replicate (n*2) (.int .i64 0)) 0 w (by simpa using hc) (by simpa using hf) (by intro v hv';rw [List.eq_of_mem_replicate hv'];rfl)
 simp only [bS] at hst
 obtain ⟨m,rfl⟩: ∃ m,n=m+1:=⟨n - 1,by omega⟩
 simp [Builtin.clear_,run_underlying yzK,yzL,hzc,hst]
set_option maxHeartbeats 4000000 in
set_option maxRecDepth 1000000 in
theorem yq5 (g cap n i j:Nat) (cells:List Value) (w:World) (hcl:cells.length=n*2) (h1c: ∀ u∈cells,u.oneCell'=true) (hH: ∀ k u,cells[k]? =some u→w.cell? ⟨g,k,none⟩=some u) (hF: ∀ k,k<n*2→w.frozen? ⟨g,k,none⟩=false) (hcap:n≤cap) (hm:cap≤9223372036854775807) (hij:i<j) (hj:j≤n):
  Calls Tryz.prog 295 #[.slice (some ⟨g,0,none⟩) n cap,.int .i64 i,.int .i64 j] w fun e w'=>e= .returned (.slice (some ⟨g,0,none⟩) (i+(n - j)) cap)∧w'=(w.drew.setCells g (i*2) (cells.drop (j*2))).setCells g ((i+(n - j))*2) (List.replicate ((j - i)*2) (.int .i64 0)):=by
 obtain ⟨i0,hi0,hz0,hz1,hz2⟩:=info_parts yjF
 obtain ⟨news,hnews⟩: ∃ news,news=cells.drop (j*2):=⟨_,rfl⟩
 have hlen:news.length=(n - j)*2:=by rw [hnews,aC,hcl];omega
 obtain ⟨A,hA,hsrc⟩: ∃ A:Addr,(if cap=j then some (⟨g,0,none⟩:Addr) else some ⟨g,j*2,none⟩)=some A∧Hid (∀ t u,news[t]? =some u→w.drew.cell? (A.add t)=some u):=by
  by_cases h:cap=j
  ·refine ⟨⟨g,0,none⟩,by simp [h],fun t u hu=> ?_⟩
   have h0:news.length=0:=by rw [hlen];omega
   rw [aP.1 h0] at hu
   simp at hu
  ·refine ⟨⟨g,j*2,none⟩,by simp [h],fun t u hu=> ?_⟩
   rw [hnews,aZ] at hu
   rw [Addr.add_lit]
   exact hH _ _ hu
 have s1:Hid (news.length=(n - j)*2):=hlen
 have s2:Hid (∀ u∈news,u.oneCell'=true):=fun u hu=>h1c u (by rw [hnews] at hu;exact a_ hu)
 have hcell: ∀ k,k<n*2→(w.cell? ⟨g,k,none⟩).isSome=true:=fun k hk=>by
  rw [hH k _ (aJ (by omega))]
  rfl
 have s3:Hid (∀ t,t<news.length→(w.drew.cell? ⟨g,0+i*2+t,none⟩).isSome=true∧w.drew.frozen? ⟨g,0+i*2+t,none⟩=false):=by
  intro t ht
  rw [hlen] at ht
  rw [aK]
  exact ⟨hcell _ (by omega),hF _ (by omega)⟩
 obtain ⟨W1,hW1⟩: ∃ W1,W1=w.drew.setCells g (0+i*2) news:=⟨_,rfl⟩
 have hcl1: ∀ ty,(Builtin.clear_ #[33] ty #[.slice (some ⟨g,(i+(n - j))*2,none⟩) (n - (i+(n - j))) (cap - (i+(n - j)))]).run Tryz.prog W1= .ok (.tuple #[]) (W1.setCells g ((i+(n - j))*2) (List.replicate ((n - (i+(n - j)))*2) (.int .i64 0))):=fun ty=>yjG W1 ty g _ _ _ (by omega) (fun k hk=>by
  rw [hW1]
  exact World.isSome_setCells _ _ _ _ _ (hcell _ (by omega))) (fun k hk=>by
  rw [hW1,World.frozen?_setCells]
  exact hF _ (by omega))
 have hW:Hid (W1=w.drew.setCells g (0+i*2) news):=hW1
 have hic:i≤cap:=by omega
 have hjc:j≤cap:=by omega
 have hne: ¬ ((i:Int)=(j:Int)):=by omega
 have X:Aside (W1=w.drew.setCells g (0+i*2) (cells.drop (j*2))):=by rw [← hnews];exact hW1
 clear hW1 hH hcell hF hnews hlen
 go_enter Tryz.func295,Tryz.ntmps295
 go_wp2_with fail
 go_region_law (refine step_append_room rfl (.tmp 22) (.tmp 25) 33 rfl 79 i0 2 yzK hi0 hz1 g 0 i cap (by simp [Act.eval,Act.put]) A (n - j) (cap - j) news (by simp [Act.eval,Act.put]) s1.out hsrc.out s2.out (by omega) s3.out ?_;rw [← hW.out])
 go_wp2
 go_ret
 refine ⟨rfl,?_⟩
 rw [X.out,aK,show n - (i+(n - j))=j - i by omega]
def Yy (x:List y7×Int×Int):Option (List y7):=if 0≤x.2.1 then if x.2.1<x.2.2 then if x.2.2≤((List.length x.1:Nat):Int) then some (x.1.take x.2.1.toNat++x.1.drop x.2.2.toNat) else none else none else none
theorem yzM (w:World) {g e:Nat} {cur:Array Value} {fz:Nat×Nat} (h:w.heap[g]? =some (.cells cur e fz)) (k:Nat):w.cell? ⟨g,k,none⟩=cur[k]? :=by
 unfold World.cell?
 simp [h]
theorem ym3 (w:World) {g e:Nat} {cur:Array Value} (h:w.heap[g]? =some (.cells cur e (0,0))) (k:Nat):w.frozen? ⟨g,k,none⟩=false:=by
 unfold World.frozen?
 simp [h]
theorem ym4 {x:List y7×Int×Int} {y:List y7} (hF:Yy x=some y) {w:World} {H:Hp} {args vs:List Value} {bs:List (Nat→Prop)} {pb:List (Nat×Nat)} (hH:H.le (Zv w)) (hc:kX false H w [.sl 79 yh,.int .i64,.int .i64] [true,false,false] x vs bs) (hsp:qD w yjB.ps args vs pb)
  (hx: ∀ k,Kf bs pb k→H k=none):ycA Tryz.prog 295 args.toArray w fun v w'=> ∃ H' vs' cs rest bs',R.Left w (Kf bs pb) H yjB [.sl 79 yh] y pb vs v w' H' vs' cs rest bs':=by
 obtain ⟨l,i,j⟩:=x
 unfold Yy at hF
 simp only at hF
 split at hF
 ·rename_i h0
  split at hF
  ·rename_i h1
   split at hF
   ·rename_i h2
    injection hF with hF
    subst hF
    have hpb:pb=[]:=y3g _ args vs pb (by simp [yjB,PK.isP]) hsp
    subst hpb
    obtain ⟨v,b,vs',bs',rfl,rfl,⟨rfl,_,cells,hown,hone,hrd⟩,v1,b1,vs2,bs2,rfl,rfl,⟨rfl,hv1⟩,v2,b2,rfl,rfl,⟨rfl,hv2⟩⟩:=hc
    obtain rfl:v1= .int .i64 i:=hv1
    obtain rfl:v2= .int .i64 j:=hv2
    obtain ⟨arg,u1,args',us',rfl,e1,hl1,g1,arg2,u2,args2,us2,rfl,e2,hl2,g2,arg3,u3,args3,us3,rfl,e3,hl3,g3,rfl,rfl,_⟩:=hsp
    obtain rfl:u1=[arg]:=g1
    obtain rfl:u2=[arg2]:=g2
    obtain rfl:u3=[arg3]:=g3
    subst e3
    subst e2
    simp only [bp,aT,cA,bt,and_true] at e1
    obtain ⟨rfl,rfl,rfl⟩:=e1
    have hn: ∃ n:Nat,n=List.length l:=⟨_,rfl⟩
    obtain ⟨n,hn⟩:=hn
    rw [← hn] at h2
    obtain ⟨hcl,hnil|⟨g,cap,cur,rfl,_,hg,hle,hm,hsz,htk⟩⟩:=hown
    ·have:n=0:=hn.trans hnil.2
     omega
    ·replace hcl:cells.length=n*2:=by rw [hn];exact hcl
     replace hle:n≤cap:=by rw [hn];exact hle
     replace htk:cur.toList.take (n*2)=cells:=by rw [hn];exact htk
     replace hsz:cur.size=cap*2:=hsz
     have hk2: ∀ k,k<n*2→cells[k]? =cur[k]? :=fun k hk=>by
      rw [← htk,aD,af hk]
      simp
     have hraw:=yq5 g cap n i.toNat j.toNat cells w hcl hone (fun k u hu=>by
      rw [yzM w hg,← hk2 k (by
       have:=(av.1 hu).1
       omega)]
      exact hu) (fun k _=>ym3 w hg k) hle (aO hm (by decide)) (by omega) (by omega)
     rw [cI h0,cI (show 0≤j by omega)] at hraw
     subst hn
     refine Kg Tryz.func295 (by decide) (cy.2 (by kernel_rfl)) (hraw.mono fun e w' ⟨he,hw⟩=>⟨_,he,H,[.slice (some ⟨g,0,none⟩) (i.toNat+(List.length l - j.toNat)) cap],[.slice (some ⟨g,0,none⟩) (i.toNat+(List.length l - j.toNat)) cap],[],[fun k=>(Value.slice (some ⟨g,0,none⟩) (i.toNat+(List.length l - j.toNat)) cap).ownBlock=some k],?_⟩)
     clear hraw
     obtain ⟨n,hn⟩: ∃ n:Nat,n=List.length l:=⟨_,rfl⟩
     rw [← hn] at hcl hle htk hk2 hw h2 ⊢
     have hne: ∀ k,k≠g→w'.heap[k]? =w.heap[k]? :=fun k hk=>by
      rw [hw,yN _ _ _ _ _ hk,yN _ _ _ _ _ hk]
      rfl
     have hHg:H g=none:=hx g (.inl ⟨_,bD,rfl⟩)
     have hgs:g<w.heap.size:=(aM.1 hg).1
     have hlg: ∀ k,k≠g∨Kf [fun k=>(Value.slice (some ⟨g,0,none⟩) (List.length l) cap).ownBlock=some k,fun _=>False,fun _=>False] [] k:=fun k=>by
      by_cases h:k=g
      ·subst h
       exact .inr (.inl ⟨_,bD,rfl⟩)
      ·exact .inl h
     obtain ⟨a1,a2,a3,a4⟩:=zg g (cells.drop (j.toNat*2)) (i.toNat*2) w.drew
     obtain ⟨b1,b2,b3,b4⟩:=zg g (List.replicate ((j.toNat - i.toNat)*2) (.int .i64 0)) ((i.toNat+(n - j.toNat))*2) (w.drew.setCells g (i.toNat*2) (cells.drop (j.toNat*2)))
     have hg1:=zq g (cells.drop (j.toNat*2)) (i.toNat*2) w.drew cur hg
     have hg2:=zq g (List.replicate ((j.toNat - i.toNat)*2) (.int .i64 0)) ((i.toNat+(n - j.toNat))*2) _ _ hg1
     rw [← hw] at b1 b2 b3 b4 hg2
     have hl2:(l.take i.toNat++l.drop j.toNat).length=i.toNat+(n - j.toNat):=by
      rw [ar,ak,aC,← hn]
      omega
     have hcur2: ∀ k,k<(i.toNat+(n - j.toNat))*2→(zR (zR cur (i.toNat*2) (cells.drop (j.toNat*2))) ((i.toNat+(n - j.toNat))*2) (List.replicate ((j.toNat - i.toNat)*2) (.int .i64 0)))[k]? =(cells.take (i.toNat*2)++cells.drop (j.toNat*2))[k]? :=fun k hk=>by
      rw [zK _ _ _ _ (by rw [yC,bm];omega),am (by omega),zK _ _ _ _ (by rw [aC];omega)]
      by_cases hki:k<i.toNat*2
      ·rw [am (by omega),aE (by rw [ak];omega),aD,af hki,hk2 k (by omega)]
      ·rw [af ⟨by omega,by rw [aC];omega⟩,az (by rw [ak];omega),ak,bw (by omega)]
     have hX3: ∀ m,m=i.toNat+(n - j.toNat)→(List.take (m*2) (zR (zR cur (i.toNat*2) (cells.drop (j.toNat*2))) ((i.toNat+(n - j.toNat))*2) (List.replicate ((j.toNat - i.toNat)*2) (.int .i64 0))).toList).length=m*2:=fun m hm=>by
      rw [ak,aN,yC,yC,hsz]
      omega
     have hX: ∀ m,m=i.toNat+(n - j.toNat)→List.take (m*2) (zR (zR cur (i.toNat*2) (cells.drop (j.toNat*2))) ((i.toNat+(n - j.toNat))*2) (List.replicate ((j.toNat - i.toNat)*2) (.int .i64 0))).toList=cells.take (i.toNat*2)++cells.drop (j.toNat*2):=fun m hm=>by
      refine cP fun k=> ?_
      rw [aD]
      split
      ·rw [aQ]
       exact hcur2 k (by omega)
      ·rw [bE]
       rw [ar,ak,aC]
       omega
     refine ⟨b1.trans a1,b2.trans a2,b3.trans a3,by rw [b4,a4];exact aS _,fun k hk hl=> ?_,fun k o hk=> ?_,fun k o hk=> .inl hk,⟨_,_,rfl,rfl,rfl,by decide,_,⟨?_,.inr ⟨g,cap,_,?_,bQ _,hg2,?_,hm,?_,rfl⟩⟩,?_,?_⟩,?_,?_,by simp,⟨none,⟨rfl,?_,rfl⟩,fun k hk=>by cases hk⟩,?_⟩
     ·exact (hlg k).elim (hne k) fun h=>absurd h hl
     ·exact (hne k fun e=>by rw [e,hHg] at hk;cases hk).trans (hH k o hk)
     ·exact hX3 _ hl2
     ·exact congrArg (fun m=>Value.slice (some ⟨g,0,none⟩) m cap) hl2.symm
     ·exact aO (bX hl2) (by omega)
     ·rw [yC,yC,hsz]
      rfl
     ·intro u hu
      have hu':=(hX _ hl2) ▸ hu
      rcases aF.1 hu' with h|h
      ·exact hone u (a0 h)
      ·exact hone u (a_ h)
     ·intro k x hk
      have hY: ∀ c,c<2→ ∀ k0,(k<i.toNat∧k0=k∨i.toNat≤k∧k0=j.toNat+(k - i.toNat)∧k0<n)→(cells.take (i.toNat*2)++cells.drop (j.toNat*2))[k*2+c]? =cells[k0*2+c]? :=fun c hc k0 hk0=>by
       rcases hk0 with ⟨h1,rfl⟩|⟨h1,rfl,h3⟩
       ·rw [aE (by rw [ak];omega),aD,af (by omega)]
       ·rw [az (by rw [ak];omega),ak,aZ]
        congr 1
        omega
      have hk':(l.take i.toNat++l.drop j.toNat)[k]? =some x:=hk
      obtain ⟨k0,hk0,hkx⟩: ∃ k0,(k<i.toNat∧k0=k∨i.toNat≤k∧k0=j.toNat+(k - i.toNat)∧k0<n)∧l[k0]? =some x:=by
       by_cases hki:k<i.toNat
       ·rw [aE (by rw [ak];omega),aD,af hki] at hk'
        exact ⟨k,.inl ⟨hki,rfl⟩,hk'⟩
       ·rw [az (by rw [ak];omega),ak,aZ,bw (by omega)] at hk'
        exact ⟨_,.inr ⟨by omega,rfl,by
         have:=(av.1 hk').1
         omega⟩,hk'⟩
      obtain ⟨⟨v0,f0,r0⟩,v1,f1,r1⟩:=hrd k0 x hkx
      refine ⟨⟨v0,?_,r0⟩,v1,?_,r1⟩
      ·exact (congrArg (fun L:List Value=>L[k*2+0]?) (hX _ hl2)).trans ((hY 0 (by decide) k0 hk0).trans f0)
      ·exact (congrArg (fun L:List Value=>L[k*2+1]?) (hX _ hl2)).trans ((hY 1 (by decide) k0 hk0).trans f1)
     ·exact bZ _ _
     ·intro k hk
      obtain ⟨b,hb,hbk⟩:=hk
      obtain rfl:=aW.1 hb
      obtain rfl:g=k:=by simpa [Value.ownBlock] using hbk
      exact ⟨hHg,.inr (.inl ⟨_,bD,rfl⟩),by simp⟩
     ·exact ⟨[_],[],_,[],rfl,rfl,rfl,rfl,rfl,rfl⟩
     ·exact ⟨rfl,rfl⟩
   ·cases hF
  ·cases hF
 ·cases hF
theorem yzN:C.sig 295=some yjB:=by kernel_rfl
theorem yFw:ZN C Tryz.prog 295 Yy:=by
 intro sg x y hs hF w H args vs bs pb hgl hH hc ha hsp hp hx hd
 obtain rfl:=Option.some.inj (hs.symm.trans yzN)
 exact ym4 hF hH hc hsp hx
noncomputable def yMY:QF:=⟨295,Yy,yFw⟩
end Go.Proofs.YtekbnpmmjciloaaGreat.XA
