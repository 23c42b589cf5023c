/- The evaluator and its soundness, a part. No condition. -/
import Derived.Test.YtekbnpmmjciloaaGreatRA
import Derived.Lib.AppendStr
import Derived.Laws.Tables
import Derived.Great.BuildSlice
import Derived.Laws.BytesString
set_option linter.all false
namespace Go.Proofs.YtekbnpmmjciloaaGreat.R
open Go.RowKit
section
variable {P:Program} {C:Ctx} {w0:World} {lent:Nat→Prop} {H0:Base} {s:St} {a:Act} {w:World} {G:Gh} {o:Oper} {K:Act→World→Prop} {Q:Exit→Act→World→Prop} {R:Type} {k:Eff→Option R} {r:R} {lk:Lk} {call:C.Sem} {ct wn:Bool}
theorem y1m {ts ts':List Ty} {xs:List (yJ ts)} {ys:List (yJ ts')} (h:y6k ts ts' xs=some ys): ∃ e:ts=ts',ys=e ▸ xs:=by
 unfold y6k at h
 split at h
 ·rename_i he
  exact ⟨Ty.eqbs_eq ts ts' he,by injection h with h;exact h.symm⟩
 ·cases h
theorem ylo {H:Hp}: ∀ (ts:List Ty) (x:yJ ts) (f:Nat→Option Value),RdE H ts x f→ ∀ k,k<ts.length→ ∃ v,f k=some v∧v.oneCell'=true:=by
 intro ts x f h k hk
 have hk':k<(QY ts x).length:=by rw [qH];exact hk
 obtain ⟨v,hv,h1,_⟩:=y9M ts x f h k _ (aJ hk')
 exact ⟨v,hv,h1⟩
theorem y26 (h:Rel P w0 lent H0 s a w G) (hlk:y5e lk s) {ts:List Ty} {x:A} {ys:List (yJ ts)} (hx:y3Z lk ts x=some ys) {u:Value} (hu:RA G x u):
  ∃ A c,u= .slice A ys.length c∧ys.length≤9223372036854775807∧(0<ys.length→ ∃ ad:Addr,A=some ad∧ ∀ (j:Nat) (y:yJ ts),ys[j]? =some y→RdE G.H ts y (fun k=>if k<ts.length then w.cell? (ad.add (j*ts.length+k)) else none)):=by
 cases x with
 |nils=>
  have:([]:List (yJ ts))=ys:=by simpa [y3Z] using hx
  subst this
  exact ⟨none,0,hu,by simp,fun h=>absurd h (by simp)⟩
 |val t xv=>
  cases t with
  |sl e ts'=>
   have hx':y6k ts' ts xv=some ys:=by simpa [y3Z,ycD] using hx
   obtain ⟨e1,rfl⟩:=y1m hx'
   subst e1
   obtain ⟨A,c,hv,hc,hm,hr⟩:=hu
   refine ⟨A,c,hv,hm,fun hp=> ?_⟩
   obtain ⟨ad,ea,hrd⟩:=hr hp
   exact ⟨ad,ea,fun j y hy=>RdE.ext ts' y _ _ (fun k v hk hv=>by rw [af hk];exact y1i h.inH hv) (hrd j y hy)⟩
  |_=>simp [y3Z,ycD] at hx
 |top e ts' xv=>
  have hx':y6k ts' ts xv=some ys:=by simpa [y3Z,ycD] using hx
  obtain ⟨e1,rfl⟩:=y1m hx'
  subst e1
  obtain ⟨A,c,hv,hc,hm,hr⟩:=hu
  refine ⟨A,c,hv,hm,fun hp=> ?_⟩
  obtain ⟨ad,ea,hrd⟩:=hr hp
  exact ⟨ad,ea,fun j y hy=>RdE.ext ts' y _ _ (fun k v hk hv=>by
   rw [af hk]
   refine y1i (H':=Zv w) (fun b ob hb=> ?_) hv
   rw [h.pv] at hb
   obtain ⟨t1,t2,t3⟩:=h.top b ob hb
   exact (h.old b t1 t2).trans t3) (hrd j y hy)⟩
 |own q=>
  cases hq:lk q with
  |none=>simp [y3Z,ycD,hq] at hx
  |some ob=>
   cases ob with
   |root own e ts' xs=>
    have hx':y6k ts' ts xs=some ys:=by simpa [y3Z,ycD,hq] using hx
    obtain ⟨e1,rfl⟩:=y1m hx'
    subst e1
    obtain ⟨_,_,⟨A,c,hsv,hc,hm,hA⟩,hrd⟩:=qJ h (hlk q _ hq)
    refine ⟨A,c,hu.1.trans hsv,hm,fun hp=>⟨_,hA hp,fun j y hy=> ?_⟩⟩
    have:=hrd j y hy
    simp only [JR]
    exact this
   |_=>simp [y3Z,ycD,hq] at hx
 |_=>simp [y3Z,ycD] at hx
theorem y8W {H:Hp} {ts:List Ty} {ys:List (yJ ts)} {f:Nat→Option Value} (hpos:0<ts.length) (hr: ∀ (j:Nat) (y:yJ ts),ys[j]? =some y→RdE H ts y (fun k=>if k<ts.length then f (j*ts.length+k) else none)):
  ∃ news:List Value,news.length=ys.length*ts.length∧(∀ j u,news[j]? =some u→f j=some u)∧(∀ u∈news,u.oneCell'=true)∧ ∀ (j:Nat) (y:yJ ts),ys[j]? =some y→RdE H ts y (fun k=>news[j*ts.length+k]?):=by
 have hcell: ∀ i,i<ys.length*ts.length→ ∃ v,f i=some v∧v.oneCell'=true:=by
  intro i hi
  have hj:i / ts.length<ys.length:=Nat.div_lt_of_lt_mul (by rw [Nat.mul_comm];exact hi)
  obtain ⟨v,hv,h1⟩:=ylo ts _ _ (hr (i / ts.length) _ (aJ hj)) (i % ts.length) (Nat.mod_lt _ hpos)
  rw [af (Nat.mod_lt _ hpos),show i / ts.length*ts.length+i % ts.length=i by rw [Nat.mul_comm];exact Nat.div_add_mod i ts.length] at hv
  exact ⟨v,hv,h1⟩
 refine ⟨(List.range (ys.length*ts.length)).map fun i=>(f i).getD undef,by simp,fun j u hu=> ?_,fun u hu=> ?_,fun j y hy=> ?_⟩
 ·rw [bH] at hu
  obtain ⟨i,hi,rfl⟩:=aq.1 hu
  have hlt:=(av.1 hi).1
  have:j=i:=by simpa [List.getElem?_range (by simpa using hlt)] using hi
  subst this
  obtain ⟨v,hv,_⟩:=hcell j (by simpa using hlt)
  rw [hv]
  rfl
 ·obtain ⟨i,hi,rfl⟩:=b_.1 hu
  obtain ⟨v,hv,h1⟩:=hcell i (by simpa using hi)
  rw [hv]
  exact h1
 ·have hjl:=(av.1 hy).1
  have hj1:(j+1)*ts.length≤ys.length*ts.length:=aI _ hjl
  rw [bn,bv] at hj1
  refine RdE.ext ts y _ _ (fun k v hk hv=> ?_) (hr j y hy)
  rw [af hk] at hv
  rw [bH,List.getElem?_range (by omega),ci,hv]
  rfl
theorem y7m (t ty e:TypeId) (i:TypeInfo) (size c:Nat) (ht:P.underlying t=some (.slice e)) (hi:P.info? e=some i)
  (v:Value) (n:Nat) (xs:List Value) (hown:w.ownsRow 0 e size v n xs):
  (Builtin.append_ #[t,t] ty #[v,.slice none 0 c]).run P w= .ok v w:=by
 rcases hown.2 with ⟨rfl,rfl⟩|⟨g,cap,cur,rfl,_,_,hnc,_⟩
 ·simp [Builtin.append_,run_underlying ht,sizeOf,typeInfo,hi,Builtin.lenOf,Builtin.firstCells]
 ·simp [Builtin.append_,run_underlying ht,sizeOf,typeInfo,hi,Builtin.lenOf,Builtin.firstCells,hnc,storeCells]
theorem y27 (hT:TOk C P) {t e b ty:Nat} {ts:List Ty} (ht:C.info t=some (.c (.sl e ts) b)) {te:TI} (hte:C.info e=some te) {xs ys:List (yJ ts)} {H:Hp} (hpos:0<ts.length) {v u:Value} {cells:List Value} (hown:w.ownsRow 0 e ts.length v xs.length cells)
  (hone: ∀ u∈cells,u.oneCell'=true) (hrd: ∀ (j:Nat) (x:yJ ts),xs[j]? =some x→RdE H ts x (fun k=>cells[j*ts.length+k]?))
  {A:Option Addr} {c:Nat} (hu:u= .slice A ys.length c) (hy:0<ys.length→ ∃ ad:Addr,A=some ad∧ ∀ (j:Nat) (y:yJ ts),ys[j]? =some y→RdE H ts y (fun k=>if k<ts.length then w.cell? (ad.add (j*ts.length+k)) else none))
  (hsize:(xs.length+ys.length)*te.bytes<140737488355328):
  ∃ v' w' cells',(Builtin.append_ #[t,t] ty #[v,u]).run P w= .ok v' w'∧w'.ownsRow 0 e ts.length v' (xs++ys).length cells'∧w.grownBy w' v.ownBlock∧(v'.ownBlock=v.ownBlock∨v'.ownBlock=some w.heap.size)∧
   (∀ u∈cells',u.oneCell'=true)∧ ∀ (j:Nat) (x:yJ ts),(xs++ys)[j]? =some x→RdE H ts x (fun k=>cells'[j*ts.length+k]?):=by
 obtain ⟨D,hD,rfl,te',hte',hts⟩:=hT.und t _ ht
 rw [hte] at hte'
 injection hte' with hte'
 subst hte'
 subst hts
 obtain ⟨i,z,hi,hs,hby,hz,hzc,hp,hb0⟩:=hT.info e te hte
 subst hu
 by_cases h0:ys.length=0
 ·have hys:ys=[]:=aP.1 h0
  subst hys
  cases A with
  |none=>
   exact ⟨v,w,cells,y7m t ty e i te.ts.length c hD hi v xs.length cells hown,by simpa using hown,⟨rfl,rfl,rfl,aS _,fun _ _ _=>rfl⟩,.inl rfl,hone,by simpa using hrd⟩
  |some ad=>
   obtain ⟨v',w',h1,h2,h3,_,h5⟩:=run_append_own_at (P:=P) w 0 t ty e i z te.ts.length te.bytes hD hi hz hs hby (by rw [← aN,hzc];simp) hpos v xs.length cells hown ad 0 c [] (by simp) (by simp) (by simp)
    (by simp only [maxLen];simp only [aj,bS] at hsize;have:=cp xs.length hb0;omega) (by simpa using Nat.le_of_lt hsize) (bQ _)
   exact ⟨v',w',cells,h1,by simpa using h2,h3,h5,hone,by simpa using hrd⟩
 ·obtain ⟨ad,rfl,hyr⟩:=hy (by omega)
  obtain ⟨news,hnl,hnc,hn1,hnr⟩:=y8W (f:=fun i=>w.cell? (ad.add i)) hpos hyr
  have hsz2:=cp (xs.length+ys.length) hb0
  obtain ⟨v',w',h1,h2,h3,_,h5⟩:=run_append_own_at (P:=P) w 0 t ty e i z te.ts.length te.bytes hD hi hz hs hby (by rw [← aN,hzc];simp) hpos v xs.length cells hown ad ys.length c news hnl hnc hn1
   (by simp only [maxLen];omega) (Nat.le_of_lt hsize) (bQ _)
  refine ⟨v',w',cells++news,h1,by simpa using h2,h3,h5,fun u hu=> ?_,fun j x hx=> ?_⟩
  ·rcases aF.1 hu with hu|hu
   ·exact hone u hu
   ·exact hn1 u hu
  ·have hcl:cells.length=xs.length*te.ts.length:=hown.1
   by_cases hj:j<xs.length
   ·rw [aE hj] at hx
    refine RdE.ext te.ts x _ _ (fun k v hk hv=> ?_) (hrd j x hx)
    rw [aE (by exact (av.1 hv).1)]
    exact hv
   ·rw [az (by omega)] at hx
    have hm:xs.length*te.ts.length≤j*te.ts.length:=aI _ (by omega)
    refine RdE.ext te.ts x _ _ (fun k v hk hv=> ?_) (hnr _ x hx)
    rw [az (by omega),hcl,show j*te.ts.length+k - xs.length*te.ts.length=(j - xs.length)*te.ts.length+k by rw [Nat.sub_mul];omega]
    exact hv
theorem yhF {t u ty e:TypeId} {i:TypeInfo} {z:Value} (ht:P.underlying t=some (.slice e)) (hu:P.underlying u=some .string) (hi:P.info? e=some i) (hz:i.zero=some z) (hs1:i.size=1) (hb1:i.bytes=1) (hz1:z.cells.size=1)
  {v:Value} {n:Nat} {xs:List Value} (hown:w.ownsRow 0 e 1 v n xs) (s:ByteArray) (hsize:n+s.size<140737488355328):
  ∃ v' w',(Builtin.append_ #[t,u] ty #[v,.string s]).run P w= .ok v' w'∧w'.ownsRow 0 e 1 v' (n+s.size) (xs++Lib.strCells s)∧w.grownBy w' v.ownBlock∧(v'.ownBlock=v.ownBlock∨v'.ownBlock=some w.heap.size):=by
 have hxl:xs.length=n:=by simpa using hown.1
 have hsl:=Lib.strCells_length s
 have hlen:(xs++Lib.strCells s).length=(n+s.size)*1:=by rw [ar,hxl,hsl,Nat.mul_one]
 have h63:n+s.size≤maxLen:=by simp only [maxLen];omega
 have fresh: ∀ (old:Nat) (cur:Array Value),old<n+s.size→cur.toList=xs++(Lib.strCells s++(Builtin.zeroCells z.cells (grownCap w (n+s.size) old e - (n+s.size))).toList)→ ∀ (row:Option Nat),
   (w.drew.alloc (.cells cur e)).ownsRow 0 e 1 (.slice (some ⟨w.heap.size,0,none⟩) (n+s.size) (grownCap w (n+s.size) old e)) (n+s.size) (xs++Lib.strCells s)∧w.grownBy (w.drew.alloc (.cells cur e)) row:=by
  intro old cur ho hc row
  have hge:=grownCap_ge w (n+s.size) old e
  have hcm:grownCap w (n+s.size) old e≤maxLen:=grownCap_le_maxLen w (n+s.size) old e h63
  refine ⟨⟨hlen,.inr ⟨w.heap.size,_,_,rfl,bQ _,heap_alloc_new w.drew _,hge,hcm,?_,?_⟩⟩,⟨rfl,rfl,rfl,by simp,fun k hk _=>heap_alloc_old w.drew _ k hk⟩⟩
  ·rw [← aN,hc]
   simp only [ar,aN,size_zeroCells,hz1,hxl,hsl]
   omega
  ·rw [hc,← bo,← hlen]
   exact List.take_left
 rcases hown.2 with ⟨rfl,rfl⟩|⟨g,cap,cur,rfl,hbg,hg,hnc,hcm,hcs,htake⟩
 ·have hx:xs=[]:=List.eq_nil_of_length_eq_zero hxl
  subst hx
  by_cases hm:s.size=0
  ·have hn:Lib.strCells s=[]:=List.eq_nil_of_length_eq_zero (by rw [hsl];exact hm)
   refine ⟨.slice none 0 0,w,?_,by rw [hm,hn];exact World.ownsRow_nil w 0 e 1,⟨rfl,rfl,rfl,aS _,fun _ _ _=>rfl⟩,.inl rfl⟩
   have hf:=Lib.run_firstCells_string (P:=P) w 1 s
   rw [hm] at hf
   simp [Builtin.append_,run_underlying ht,run_underlying hu,sizeOf,typeInfo,hi,hs1,Builtin.lenOf,hm,hf]
  ·have hr:=run_append_nil_string (P:=P) w t u ty e i z ht hu hi hz s (by omega) (by omega) (by rw [hb1];omega)
   have hgr:=fresh 0 (s.data.map (fun b=>Value.int .u8 b.toNat)++Builtin.zeroCells z.cells (grownCap w s.size 0 e - s.size)) (by omega) (by simp [Lib.strCells]) (Value.ownBlock (.slice none 0 0))
   simp only [aK] at hgr ⊢
   exact ⟨_,_,hr,hgr.1,hgr.2,.inr rfl⟩
 ·by_cases hroom:n+s.size≤cap
  ·have hcs':cur.size=cap:=by simpa using hcs
   have hr:=Lib.run_append_room_string (P:=P) w t u ty e i ht hu hi hs1 g n cap cur hg s hroom (by omega)
   refine ⟨_,_,hr,⟨hlen,.inr ⟨g,cap,_,rfl,hbg,setRow_heap w g cur _ e _ hg,hroom,hcm,?_,?_⟩⟩,⟨rfl,rfl,rfl,by simp,fun k _ hk=>setRow_other w g k _ (fun e=>hk (by simp [Value.ownBlock,e]))⟩,.inl rfl⟩
   ·simp only [bG,ar,ak,aC,aN,hsl]
    omega
   ·have ht':cur.toList.take n=xs:=by simpa using htake
    rw [ht',← hlen]
    exact List.take_left
  ·have hr:=Lib.run_append_grow_string (P:=P) w t u ty e i z ht hu hi hz ⟨g,0,none⟩ n cap xs (by rw [hs1];simpa using hxl) (hown.cells (g:=g) rfl) s (by omega) (by omega) (by rw [hb1];exact growslice_fits (by omega) (by omega))
   have hgr:=fresh cap (xs.toArray++(Lib.strCells s).toArray++Builtin.zeroCells z.cells (grownCap w (n+s.size) cap e - (n+s.size))) (by omega) (by simp) (Value.ownBlock (.slice (some ⟨g,0,none⟩) n cap))
   exact ⟨_,_,hr,hgr.1,hgr.2,.inr rfl⟩
def y8X (s:ByteArray):List (yJ [.int .u8]):=QZ s
theorem qL (x:ByteArray):(y8X x).length=x.size:=by
 show (QZ x).length=x.size
 unfold QZ
 rw [cG,aN]
 rfl
theorem y7n (hT:TOk C P) {t e b b1 b2 t2 ty:Nat} (ht:C.info t=some (.c (.sl e [.int .u8]) b)) (hte:C.info e=some (.c (.int .u8) b1)) (hb:b1=1) (ht2:C.info t2=some (.c .str b2)) {xs:List (yJ [.int .u8])} {H:Hp} {v:Value} {cells:List Value} (hown:w.ownsRow 0 e 1 v xs.length cells)
  (hone: ∀ u∈cells,u.oneCell'=true) (hrd: ∀ (j:Nat) (x:yJ [.int .u8]),xs[j]? =some x→RdE H [.int .u8] x (fun k=>cells[j*1+k]?)) (s:ByteArray) (hsize:xs.length+s.size<140737488355328):
  ∃ v' w' cells',(Builtin.append_ #[t,t2] ty #[v,.string s]).run P w= .ok v' w'∧w'.ownsRow 0 e 1 v' (xs.length+s.size) cells'∧w.grownBy w' v.ownBlock∧(v'.ownBlock=v.ownBlock∨v'.ownBlock=some w.heap.size)∧
   (∀ u∈cells',u.oneCell'=true)∧ ∀ (j:Nat) (x:yJ [.int .u8]),(xs++y8X s)[j]? =some x→RdE H [.int .u8] x (fun k=>cells'[j*1+k]?):=by
 obtain ⟨D,hD,rfl,te',hte',hts⟩:=hT.und t _ ht
 obtain ⟨D2,hD2,hd2⟩:=hT.und t2 _ ht2
 obtain ⟨i,z,hi,hs,hby,hz,hzc,hp,hb0⟩:=hT.info e _ hte
 have hs1:i.size=1:=hs
 have hb1:i.bytes=1:=by rw [hby];exact hb
 have hz1:z.cells.size=1:=by rw [← aN,hzc];rfl
 have hd2':D2= .string:=by simpa [ycK] using hd2
 subst hd2'
 obtain ⟨v',w',h1,h2,h3,h4⟩:=yhF (P:=P) (ty:=ty) hD hD2 hi hz hs1 hb1 hz1 hown s hsize
 have hcl:cells.length=xs.length:=by simpa using hown.1
 refine ⟨v',w',_,h1,h2,h3,h4,fun u hu=>(aF.1 hu).elim (hone u) (Lib.strCells_oneCell s u),fun j x hx=> ?_⟩
 by_cases hj:j<xs.length
 ·rw [aE hj] at hx
  refine RdE.ext _ x _ _ (fun k v hk hv=> ?_) (hrd j x hx)
  rw [aE (by exact (av.1 hv).1)]
  exact hv
 ·rw [az (by omega)] at hx
  refine ⟨.int .u8 x,?_,rfl⟩
  show (cells++Lib.strCells s)[j*1+0]? =_
  rw [az (by omega),show j*1+0 - cells.length=j - xs.length by omega]
  have hx':(QZ s)[j - xs.length]? =some x:=hx
  rw [QZ,bH] at hx'
  obtain ⟨b',hb',he⟩:=aq.1 hx'
  rw [Lib.strCells,bH,hb']
  exact congrArg (fun n=>some (Value.int .u8 n)) he
theorem ylp {te:TI} {u:Option TI} {ts:List Ty} {y:A}:yhr lk true te u ts y=y3Z lk ts y:=by
 unfold yhr
 split<;>rfl
theorem ylq {te:TI} {u:Option TI} {ts:List Ty} {y:A} {ys:List (yJ ts)} (h:yhr lk false te u ts y=some ys):
  ∃ (x:ByteArray) (b2:Nat) (e:ts=[.int .u8]),te= .c (.int .u8) 1∧u=some (.c .str b2)∧y= .val .str x∧ys=e ▸ y8X x:=by
 unfold yhr at h
 split at h
 ·simp only [ag] at h
  split at h
  ·injection h with h
   exact ⟨_,_,rfl,rfl,rfl,rfl,h.symm⟩
  ·cases h
 ·cases h
theorem y5S (hT:TOk C P) {t e b ty:Nat} {ts:List Ty} (ht:C.info t=some (.c (.sl e ts) b)) {te:TI} (hte:C.info e=some te) (hpos:0<ts.length) {v u:Value} {n m:Nat} {cX cY:List Value} (hX:w.ownsRow 0 e ts.length v n cX) (hY:w.ownsRow 0 e ts.length u m cY) (h1: ∀ u∈cY,u.oneCell'=true)
  (hsize:(n+m)*te.bytes<140737488355328):
  ∃ v' w',(Builtin.append_ #[t,t] ty #[v,u]).run P w= .ok v' w'∧w'.ownsRow 0 e ts.length v' (n+m) (cX++cY)∧w.grownBy w' v.ownBlock∧(v'.ownBlock=v.ownBlock∨v'.ownBlock=some w.heap.size):=by
 obtain ⟨D,hD,rfl,te',hte',hts⟩:=hT.und t _ ht
 rw [hte] at hte'
 injection hte' with hte'
 subst hte'
 subst hts
 obtain ⟨i,z,hi,hs,hby,hz,hzc,hp,hb0⟩:=hT.info e te hte
 rcases hY.2 with ⟨rfl,rfl⟩|⟨g,cap,cur,rfl,_,hg,hle,_⟩
 ·have hc:cY=[]:=by
   have:=hY.1
   rw [Nat.zero_mul] at this
   exact aP.1 this
  subst hc
  exact ⟨v,w,y7m t ty e i te.ts.length 0 hD hi v n cX hX,by simpa using hX,⟨rfl,rfl,rfl,aS _,fun _ _ _=>rfl⟩,.inl rfl⟩
 ·have hsz2:=cp (n+m) hb0
  obtain ⟨v',w',r1,r2,r3,_,r5⟩:=run_append_own_at (P:=P) w 0 t ty e i z te.ts.length te.bytes hD hi hz hs hby (by rw [← aN,hzc];simp) hpos v n cX hX ⟨g,0,none⟩ m cap cY hY.1 (hY.cells rfl) h1
   (by simp only [maxLen];omega) (Nat.le_of_lt hsize) (bQ _)
  exact ⟨v',w',r1,r2,r3,r5⟩
theorem DpR.append {w w':World} {BX BY:Nat→Prop} {e:Nat} {ts:List Ty} {xs ys:List (yJ ts)} {v u v':Value} {cX cY:List Value} {BsX BsY:Nat→Nat→Prop} (hX:DpR w BX e ts xs v cX BsX) (hY:DpR w BY e ts ys u cY BsY) (hdis: ∀ k,BX k→ ¬ BY k) (hlX: ∀ k,BX k→k<w.heap.size) (hlY: ∀ k,BY k→k<w.heap.size)
  (hgrow:w.grownBy w' v.ownBlock) (hrow:w'.ownsRow 0 e ts.length v' (xs.length+ys.length) (cX++cY)) (hb:v'.ownBlock=v.ownBlock∨v'.ownBlock=some w.heap.size):
  ∃ Bs,DpR w' (fun k=>BX k∨BY k∨v'.ownBlock=some k) e ts (xs++ys) v' (cX++cY) Bs:=by
 have hcl:cX.length=xs.length*ts.length:=hX.row.1
 have neX: ∀ a k,BsX a k→v'.ownBlock≠some k:=fun a k hk he=>by
  rcases hb with hb|hb
  ·exact (hX.sub a k hk).2 (by rw [← hb];exact he)
  ·rw [hb] at he
   injection he with he
   have:=hlX k (hX.sub a k hk).1
   omega
 have neY: ∀ a k,BsY a k→v'.ownBlock≠some k:=fun a k hk he=>by
  rcases hb with hb|hb
  ·rw [hb] at he
   exact hdis k (hX.top k he) (hY.sub a k hk).1
  ·rw [hb] at he
   injection he with he
   have:=hlY k (hY.sub a k hk).1
   omega
 refine ⟨fun m=>if m<xs.length*ts.length then BsX m else BsY (m - xs.length*ts.length),hX.pos,by rw [ar];exact hrow,fun u hu=> ?_,fun k hk=> .inr (.inr hk),fun a k hk=> ?_,fun a b k ha hb'=> ?_,fun j x hj=> ?_⟩
 ·rcases aF.1 hu with hu|hu
  ·exact hX.one u hu
  ·exact hY.one u hu
 ·split at hk
  ·exact ⟨.inl (hX.sub a k hk).1,neX a k hk⟩
  ·exact ⟨.inr (.inl (hY.sub _ k hk).1),neY _ k hk⟩
 ·split at ha<;>split at hb'
  ·exact hX.dis a b k ha hb'
  ·exact absurd (hY.sub _ k hb').1 (hdis k (hX.sub a k ha).1)
  ·exact absurd (hY.sub _ k ha).1 (hdis k (hX.sub b k hb').1)
  ·have:=hY.dis _ _ k ha hb'
   omega
 ·by_cases hjl:j<xs.length
  ·rw [aE hjl] at hj
   have hj1:(j+1)*ts.length≤xs.length*ts.length:=aI _ hjl
   rw [bn,bv] at hj1
   refine (JC ts _ _ _).2 fun c y hc=> ?_
   have hcl':=y3d ts _ _ _ hc
   obtain ⟨v1,h1,h2⟩:=(JC ts _ _ _).1 (hX.rd j x hj) c y hc
   refine ⟨v1,?_,?_⟩
   ·show (cX++cY)[j*ts.length+c]? =some v1
    rw [aE (by omega)]
    exact h1
   ·show DpT w' y.1 (if _ then _ else _) y.2 v1
    rw [af (by omega)]
    refine DpT.frame _ _ _ _ _ (fun k hk=> ?_) (fun _ hk=>hk) h2
    exact hgrow.block k (hlX k (hX.sub _ k hk).1) (fun he=>(hX.sub _ k hk).2 he.symm)
  ·rw [az (by omega)] at hj
   have hm:xs.length*ts.length≤j*ts.length:=aI _ (by omega)
   refine (JC ts _ _ _).2 fun c y hc=> ?_
   obtain ⟨v1,h1,h2⟩:=(JC ts _ _ _).1 (hY.rd _ x hj) c y hc
   have hidx:j*ts.length+c - xs.length*ts.length=(j - xs.length)*ts.length+c:=by
    rw [Nat.sub_mul]
    omega
   refine ⟨v1,?_,?_⟩
   ·show (cX++cY)[j*ts.length+c]? =some v1
    rw [az (by omega),hcl,hidx]
    exact h1
   ·show DpT w' y.1 (if _ then _ else _) y.2 v1
    rw [am (by omega),hidx]
    refine DpT.frame _ _ _ _ _ (fun k hk=> ?_) (fun _ hk=>hk) h2
    exact hgrow.block k (hlY k (hY.sub _ k hk).1) (fun he=>hdis k (hX.top k he.symm) (hY.sub _ k hk).1)
theorem DpR.nil {w:World} {e:Nat} {ts:List Ty} (hp:0<ts.length):DpR w (fun _=>False) e ts [] (.slice none 0 0) [] (fun _ _=>False):=
 ⟨hp,World.ownsRow_nil w 0 e ts.length,by simp,fun k hk=>by simp [Value.ownBlock] at hk,fun _ _ h=>h.elim,fun _ _ _ h=>h.elim,fun j x hx=>by simp at hx⟩
theorem y5p {t:Ty} {x y:El t} (h:j9 t t x=some y):x=y:=by
 have:=Ke h
 injection this with _ h2
theorem y9O {e e':Nat} {ts ts':List Ty} {x:El (.sl e ts)} {y:El (.sl e' ts')} (h:j9 (.sl e ts) (.sl e' ts') x=some y):e=e'∧ts=ts':=by
 have:=Ke h
 injection this with h1 h2
 injection h1 with h3 h4
 exact ⟨h3,h4⟩
theorem yhG (hT:TOk C P) (h:Rel P w0 lent H0 s a w G) (hK:y4A P w0 lent H0 s o k r K) (hout:Out o) (hlk:y5e lk s) {c:Call} {x y:Operand} {t t2:Nat} (hop:o.op= .call c) (hc:c.callee= .builtin .append) (hargs:c.args.toList=[x,y]) (htys:c.argTypes.toList=[t,t2]) (he:jb C call true wn o s.opd lk k=some r):o.wp P a w K Q:=by
 have hx:=h.opd x
 have hy:=h.opd y
 simp only [jb,hop,hc,hargs,htys,ai] at he
 have e1:c.args= #[x,y]:=by rw [← be (xs:=c.args),hargs]
 have e2:c.argTypes= #[t,t2]:=by rw [← be (xs:=c.argTypes),htys]
 have hexec: ∀ (v:Value) (w':World),(Builtin.append_ #[t,t2] o.type #[a.eval x,a.eval y]).run P w= .ok v w'→(execOp a.eval o).run P w= .ok (.value v) w':=by
  intro v w' hr
  simp [execOp,hop,resolve,hc,invoke,builtin,e1,e2,hr]
 split at he
 ·rename_i e ts b d ht hd
  cases hte:C.info e with
  |none=>simp [hte] at he
  |some te=>
   simp only [hte] at he
   split at he
   ·
    rename_i q hxa hya
    rw [hxa] at hx
    rw [hya] at hy
    cases hq:lk q with
    |none=>simp [hq] at he
    |some ob=>
     cases ob with
     |deep fin tag e2' ts2 ys=>
      simp only [hq] at he
      cases hcy:j9 (.sl e2' ts2) (.sl e ts) ys with
      |none=>simp [hcy] at he
      |some ys'=>
       simp only [hcy] at he
       obtain ⟨rfl,rfl⟩:=y9O hcy
       have:=y5p hcy
       subst this
       cases hbb:Nat.beq q d|| !Nat.beq t t2 with
       |true=>simp [hbb] at he
       |false=>
        simp only [hbb,ag] at he
        simp only [aL,bc] at hbb
        have htt:=an hbb.2
        subst htt
        have hqd:q≠d:=fun e=>by
         subst e
         rw [yp] at hbb
         exact absurd hbb.1 (by simp)
        split at he
        ·rename_i hsize
         have hlq:=hlk q _ hq
         obtain ⟨_,hlt,_,_,cY,BsY,hdY,_⟩:=h.objs q _ hlq
         obtain ⟨v',w',r1,r2,r3,r4⟩:=y5S (P:=P) (ty:=o.type) hT ht hte hdY.pos (World.ownsRow_nil w 0 e2' ts2.length) hdY.row hdY.one (by rw [aK];exact hsize)
         have hgone:=h.gone q
         obtain ⟨Bs,hD⟩:=DpR.append (DpR.nil hdY.pos) hdY (fun k h=>h.elim) (fun k h=>h.elim) hlt r3 (by simpa using r2) r4
         obtain ⟨G',_,hrel,hra⟩:=hgone.newDeep' d (H0.none (hout d hd)) (tag:=0) r3.os r3.tape r3.output r3.size (fun k hk=> .inl (r3.block k hk (by simp [Value.ownBlock]))) hD (by simp) (fun k hk=>by
          rcases hk with hk|hk|hk
          ·exact hk.elim
          ·exact bL (hlt k hk) r3.size
          ·exact (r2.lt k hk).2) (fun k hk=>by
          rcases hk with hk|hk|hk
          ·exact hk.elim
          ·exact jY h hlq hk
          ·rcases r4 with r4|r4
           ·rw [r4] at hk
            cases hk
           ·rw [r4] at hk
            injection hk with hk
            subst hk
            exact hgone.free_new (aS _))
         refine YZ (hexec v' w' (by rw [show a.eval x= .slice none 0 0 from hx,hy.1];exact r1)) (hK _ _ _ G' he ?_)
         have:=hrel.put o.dst hra
         rw [jm s hqd] at this
         simpa [St.apply,St.makeAll,St.setAll] using this
        ·cases he
     |_=>simp [hq] at he
   ·
    rename_i p q hxa hya
    rw [hxa] at hx
    rw [hya] at hy
    split at he
    ·rename_i fin1 tag1 e1' ts1 xs fin2 tag2 e2' ts2 ys hp hq
     split at he
     ·rename_i xs' ys' hcx hcy
      obtain ⟨rfl,rfl⟩:=y9O hcx
      obtain ⟨rfl,rfl⟩:=y9O hcy
      have:=y5p hcx
      subst this
      have:=y5p hcy
      subst this
      cases hbb:Nat.beq p d||Nat.beq q d||Nat.beq p q|| !Nat.beq t t2 with
      |true=>simp [hbb] at he
      |false=>
       simp only [hbb,ag] at he
       simp only [aL,bc] at hbb
       have htt:=an hbb.2
       subst htt
       have hpd:p≠d:=fun e=>by
        rw [e,yp] at hbb
        exact absurd hbb.1.1.1 (by simp)
       have hqd:q≠d:=fun e=>by
        rw [e,yp] at hbb
        exact absurd hbb.1.1.2 (by simp)
       have hpq:p≠q:=fun e=>by
        rw [e,yp] at hbb
        exact absurd hbb.1.2 (by simp)
       split at he
       ·rename_i hsize
        have hlp:=hlk p _ hp
        have hlq:=hlk q _ hq
        obtain ⟨_,hltX,_,_,cX,BsX,hdX,_⟩:=h.objs p _ hlp
        obtain ⟨_,hltY,_,_,cY,BsY,hdY,_⟩:=h.objs q _ hlq
        obtain ⟨v',w',r1,r2,r3,r4⟩:=y5S (P:=P) (ty:=o.type) hT ht hte hdY.pos hdX.row hdY.row hdY.one hsize
        have hgp:=h.gone p
        have hlq':yF (s.set p .gone).o q=some (.deep fin2 tag2 e2' ts2 ys):=by
         show yF (Vx s.o p .gone) q=_
         rw [Yj,am (fun e=>hpq e.symm)]
         exact hlq
        have hgone:=hgp.gone q
        have hfp: ∀ k,G.dp p k→qC w0 lent ((s.set p .gone).set q .gone) G k:=fun k hk=>by
         obtain ⟨f1,f2,f3⟩:=jY h hlp hk
         refine ⟨f1,f2,fun j oj hj=> ?_⟩
         have hj':yF (Vx (s.set p .gone).o q .gone) j=some oj:=hj
         rw [Yj] at hj'
         split at hj'
         ·obtain ⟨_,_,rfl⟩:=aq.1 hj'
          exact fun h=>h
         ·exact f3 j oj hj'
        obtain ⟨Bs,hD⟩:=DpR.append hdX hdY (fun k h1 h2=>hpq (h.apart p q _ _ k hlp hlq h1 h2)) hltX hltY r3 r2 r4
        obtain ⟨G',_,hrel,hra⟩:=hgone.newDeep' d (H0.none (hout d hd)) (tag:=0) r3.os r3.tape r3.output r3.size (fun k hk=>by
         by_cases hkb:some k=(G.sv p).ownBlock
         ·exact .inr (hfp k (hdX.top k hkb.symm))
         ·exact .inl (r3.block k hk hkb)) hD (by simp) (fun k hk=>by
         rcases hk with hk|hk|hk
         ·exact bL (hltX k hk) r3.size
         ·exact bL (hltY k hk) r3.size
         ·exact (r2.lt k hk).2) (fun k hk=>by
         rcases hk with hk|hk|hk
         ·exact hfp k hk
         ·exact jY hgp hlq' hk
         ·rcases r4 with r4|r4
          ·rw [r4] at hk
           exact hfp k (hdX.top k hk)
          ·rw [r4] at hk
           injection hk with hk
           subst hk
           exact hgone.free_new (aS _))
        refine YZ (hexec v' w' (by rw [hx.1,hy.1];exact r1)) (hK _ _ _ G' he ?_)
        have:=hrel.put o.dst hra
        rw [jm _ hqd,jm s hpd] at this
        simpa [St.apply,St.makeAll,St.setAll] using this
       ·cases he
     ·cases he
    ·cases he
   ·cases he
 ·cases he
theorem yiP {same:Bool} {e q:Nat} {ts:List Ty} {x y:A} {xs ys:List (yJ ts)} (h:yiv lk same e ts x y=some (q,xs,ys)):same=true∧ ∃ m l zs,x= .win q m∧y= .tl q l∧lk q=some (.root true e ts zs)∧xs=zs.take (Int.toNat m)∧ys=zs.drop (Int.toNat l):=by
 unfold yiv at h
 split at h
 ·rename_i r m r2 l
  split at h
  ·rename_i e1 ts1 zs hq
   split at h
   ·rename_i zs' hcr
    obtain ⟨ee,rfl⟩:=y1m hcr
    subst ee
    cases hb:same&&Nat.beq r r2&&Nat.beq e1 e with
    |false=>simp [hb] at h
    |true=>
     simp only [hb,ai,ap,aY] at h
     simp only [al] at hb
     have e2:=an hb.1.2
     have e3:=an hb.2
     subst e2 e3
     obtain ⟨rfl,rfl,rfl⟩:=h
     exact ⟨hb.1.1,m,l,_,rfl,rfl,hq,rfl,rfl⟩
   ·cases h
  ·cases h
 ·cases h
theorem yhH (hT:TOk C P) (h:Rel P w0 lent H0 s a w G) (hK:y4A P w0 lent H0 s o k r K) (hout:Out o) (hlk:y5e lk s) {c:Call} {x y:Operand} {t t2:Nat} (hop:o.op= .call c) (hc:c.callee= .builtin .append) (hargs:c.args.toList=[x,y]) (htys:c.argTypes.toList=[t,t2]) {d e b q:Nat} {ts:List Ty} (hd:o.dst=some d)
  (ht:C.info t=some (.c (.sl e ts) b)) {te:TI} (hte:C.info e=some te) {xs ys:List (yJ ts)} (hcut:yiv lk (Nat.beq t t2) e ts (s.opd x) (s.opd y)=some (q,xs,ys))
  (he:(bif Nat.beq q d then none else if (xs.length+ys.length)*te.bytes<140737488355328 then k ⟨[(q,.gone)],[(d,.root true e ts (xs++ys))],.own d⟩ else none)=some r):o.wp P a w K Q:=by
 obtain ⟨hbt,m,l,zs,hxa,hya,hq,rfl,rfl⟩:=yiP hcut
 have htt:=an hbt
 subst htt
 have hx:=h.opd x
 have hy:=h.opd y
 rw [hxa] at hx
 rw [hya] at hy
 cases hqd0:Nat.beq q d with
 |true=>simp [hqd0] at he
 |false=>
  simp only [hqd0,ag] at he
  have hqd:q≠d:=fun e=>by
   subst e
   rw [yp] at hqd0
   cases hqd0
  split at he
  ·rename_i hsize
   have e1:c.args= #[x,y]:=by rw [← be (xs:=c.args),hargs]
   have e2:c.argTypes= #[t,t]:=by rw [← be (xs:=c.argTypes),htys]
   have hexec: ∀ (v:Value) (w':World),(Builtin.append_ #[t,t] o.type #[a.eval x,a.eval y]).run P w= .ok v w'→(execOp a.eval o).run P w= .ok (.value v) w':=by
    intro v w' hr
    simp [execOp,hop,resolve,hc,invoke,builtin,e1,e2,hr]
   have hlq:=hlk q _ hq
   obtain ⟨hsz,hpos,cells,hown,hone,hblk,hrd⟩:=h.objs q _ hlq
   obtain ⟨A1,n1,c1,s1,hxv,hm1⟩:=hx
   obtain ⟨A2,n2,c2,s2,hl2,hyv⟩:=hy
   rw [s1] at s2
   injection s2 with s2 s3 s4
   subst s2 s3 s4
   have hn:n1=zs.length:=by
    rcases hown.2 with ⟨hv,hn0⟩|⟨g,cap,cur,hv,_⟩
    ·rw [s1] at hv
     injection hv with _ hv _
     rw [hv,hn0]
    ·rw [s1] at hv
     injection hv
   subst hn
   have hlen:(zs.take (Int.toNat m)).length=Int.toNat m:=by rw [ak];omega
   have hcl:=hown.1
   have hmm:Int.toNat m*ts.length≤zs.length*ts.length:=aI _ hm1
   have hrow:w.ownsRow 0 e ts.length (.slice A1 (Int.toNat m) c1) (zs.take (Int.toNat m)).length (cells.take (Int.toNat m*ts.length)):=by
    rw [hlen]
    rcases hown.2 with ⟨hv,hn0⟩|⟨g,cap,cur,hv,hb0,hg,hnc,hcm,hcs,htk⟩
    ·rw [s1] at hv
     injection hv with hA _ hc0
     subst hA hc0
     have hm0:Int.toNat m=0:=by omega
     rw [hm0]
     exact ⟨by simp,.inl ⟨rfl,rfl⟩⟩
    ·rw [s1] at hv
     injection hv with hA _ hc0
     subst hA hc0
     refine ⟨by rw [ak];omega,.inr ⟨g,c1,cur,rfl,hb0,hg,by omega,hcm,hcs,?_⟩⟩
     rw [← htk,List.take_take,bw hmm]
   obtain ⟨v',w',cells',h1,h2,h3,h4,h5,h6⟩:=y27 (P:=P) (ty:=o.type) (H:=G.H) (xs:=zs.take (Int.toNat m)) (ys:=zs.drop (Int.toNat l)) (u:=a.eval y) (A:=if c1=Int.toNat l then A1 else A1.map (·.add (Int.toNat l*(G.sz q).1))) (c:=c1 - Int.toNat l) hT ht hte hpos hrow (fun u hu=>hone u (a0 hu)) (fun j z hz=>by
    rw [aD] at hz
    split at hz
    ·rename_i hj
     refine RdE.ext ts z _ _ (fun k v hk hv=> ?_) (hrd j z hz)
     have:j*ts.length+k<Int.toNat m*ts.length:=by
      have:=aI ts.length (show j+1≤Int.toNat m by omega)
      rw [Nat.succ_mul] at this
      omega
     rw [aD,af this]
     exact hv
    ·cases hz) (by rw [aC];exact hyv) (fun hp=>by
    rw [aC] at hp
    rcases hown.2 with ⟨hv,hn0⟩|⟨g,cap,cur,hv,hb0,hg,hnc,hcm,hcs,htk⟩
    ·omega
    ·rw [s1] at hv
     injection hv with hA _ hc0
     subst hA hc0
     refine ⟨⟨g,Int.toNat l*ts.length,none⟩,?_,fun j z hz=> ?_⟩
     ·rw [am (by omega),hsz]
      show some ((⟨g,0,none⟩:Addr).add _)=_
      rw [Addr.add_lit,aK]
     ·rw [aZ] at hz
      have hj:Int.toNat l+j<zs.length:=(av.1 hz).1
      refine RdE.ext ts z _ _ (fun k v hk hv=> ?_) (hrd _ z hz)
      rw [af hk,Addr.add_lit]
      have hlt:(Int.toNat l+j)*ts.length+k<zs.length*ts.length:=by
       have:=aI ts.length (show Int.toNat l+j+1≤zs.length by omega)
       rw [Nat.succ_mul] at this
       omega
      have hv':(cur.toList.take (zs.length*ts.length))[(Int.toNat l+j)*ts.length+k]? =some v:=by rw [htk];exact hv
      rw [aD,af hlt,aQ] at hv'
      unfold World.cell?
      simp only [hg]
      rw [show Int.toNat l*ts.length+(j*ts.length+k)=(Int.toNat l+j)*ts.length+k by rw [bn,bN]]
      simpa using hv') hsize
   have hob:(Value.slice A1 (Int.toNat m) c1).ownBlock=(G.sv q).ownBlock:=by
    rw [s1]
    cases A1<;>rfl
   rw [hob] at h3 h4
   have hgone:=h.gone q
   have hfree: ∀ k,(G.sv q).ownBlock=some k→qC w0 lent (s.set q .gone) G k:=fun k hk=>jY h hlq hk
   obtain ⟨G',_,hrel,hra⟩:=hgone.newRoot d (H0.none (hout d hd)) (v:=v') (w':=w') (cells:=cells') h3.os h3.tape h3.output h3.size (fun k hk=>by
    by_cases hkb:some k=(G.sv q).ownBlock
    ·exact .inr (hfree k hkb.symm)
    ·exact .inl (h3.block k hk hkb)) hpos h2 h5
    (fun k hk=>by
     rcases h4 with h4|h4
     ·rw [h4] at hk
      exact hfree k hk
     ·rw [h4] at hk
      injection hk with hk
      subst hk
      exact hgone.free_new (aS _)) h6
   refine YZ (hexec v' w' (by rw [hxv];exact h1)) (hK _ _ _ G' he ?_)
   have:=hrel.put o.dst hra
   rw [jm s hqd,hd] at this
   simpa [St.apply,St.makeAll,St.setAll,hd] using this
  ·cases he
theorem yiQ (hT:TOk C P) (h:Rel P w0 lent H0 s a w G) (hK:y4A P w0 lent H0 s o k r K) (hout:Out o) (hlk:y5e lk s) {c:Call} {x y:Operand} {t t2:Nat} (hop:o.op= .call c) (hc:c.callee= .builtin .append) (hargs:c.args.toList=[x,y]) (htys:c.argTypes.toList=[t,t2]) (he:jb C call ct wn o s.opd lk k=some r):o.wp P a w K Q:=by
 cases ct with
 |true=>exact yhG hT h hK hout hlk hop hc hargs htys he
 |false=>
 have hx:=h.opd x
 have hy:=h.opd y
 simp only [jb,hop,hc,hargs,htys,ag] at he
 split at he
 ·rename_i e ts b d ht hd
  cases hte:C.info e with
  |none=>simp [hte] at he
  |some te=>
   simp only [hte] at he
   cases hcut:yiv lk (Nat.beq t t2) e ts (s.opd x) (s.opd y) with
   |some z=>
    obtain ⟨q,xs,ys⟩:=z
    simp only [hcut] at he
    exact yhH hT h hK hout hlk hop hc hargs htys hd ht hte hcut he
   |none=>
   simp only [hcut] at he
   cases hbt:Nat.beq t t2 with
   |false=>
    simp only [hbt] at he
    cases hsrc:yhr lk false te (C.info t2) ts (s.opd y) with
    |none=>
     rw [hsrc] at he
     split at he<;>simp_all
    |some ys=>
     obtain ⟨xs2,b2,rfl,rfl,ht2,hyv,rfl⟩:=ylq hsrc
     rw [hsrc] at he
     rw [hyv] at hy
     have hyv':a.eval y= .string xs2:=hy
     have e1:c.args= #[x,y]:=by rw [← be (xs:=c.args),hargs]
     have e2:c.argTypes= #[t,t2]:=by rw [← be (xs:=c.argTypes),htys]
     have hexec: ∀ (v:Value) (w':World),(Builtin.append_ #[t,t2] o.type #[a.eval x,a.eval y]).run P w= .ok v w'→(execOp a.eval o).run P w= .ok (.value v) w':=by
      intro v w' hr
      simp [execOp,hop,resolve,hc,invoke,builtin,e1,e2,hr]
     split at he
     ·
      rename_i ys' hxa hya
      injection hya with hya
      subst hya
      rw [hxa] at hx
      split at he
      ·rename_i hsize
       have hsz:xs2.size<140737488355328:=by
        rw [show List.length _=xs2.size from qL xs2] at hsize
        simpa [TI.bytes] using hsize
       obtain ⟨v',w',cells',h1,h2,h3,h4,h5,h6⟩:=y7n (P:=P) (ty:=o.type) (xs:=([]:List (yJ [.int .u8]))) (H:=G.H) hT ht hte rfl ht2 (World.ownsRow_nil w 0 e 1) (by simp) (by simp) xs2 (by simpa using hsz)
       have hnone:(Value.slice none 0 0).ownBlock=none:=rfl
       rw [hnone] at h3 h4
       obtain ⟨G',_,hrel,hra⟩:=h.newRoot d (H0.none (hout d hd)) (e:=e) (ts:=[.int .u8]) (xs:=(y8X xs2)) (v:=v') (w':=w') (cells:=cells') h3.os h3.tape h3.output h3.size (fun k hk=> .inl (h3.block k hk (by simp))) (by simp) (by rw [qL];simpa using h2) h5
        (fun k hk=>by
         rcases h4 with h4|h4
         ·rw [h4] at hk
          cases hk
         ·rw [h4] at hk
          injection hk with hk
          subst hk
          exact h.free_new (aS _)) (by simpa using h6)
       refine YZ (hexec v' w' (by rw [show a.eval x= .slice none 0 0 from hx,hyv'];exact h1)) (hK _ _ _ G' he ?_)
       have:=hrel.put o.dst hra
       simpa [St.apply,St.makeAll,St.setAll] using this
      ·cases he
     ·
      rename_i q ys' hxa hya
      injection hya with hya
      subst hya
      rw [hxa] at hx
      cases hq:lk q with
      |none=>simp [hq] at he
      |some ob=>
       cases ob with
       |root own e1' ts1 xs=>
        cases own with
        |false=>simp [hq] at he
        |true=>
         simp only [hq] at he
         cases hcr:y6k ts1 [.int .u8] xs with
         |none=>simp [hcr] at he
         |some xs'=>
          simp only [hcr] at he
          obtain ⟨ee,rfl⟩:=y1m hcr
          subst ee
          cases hbb:Nat.beq q d|| !Nat.beq e1' e with
          |true=>simp [hbb] at he
          |false=>
           simp only [hbb,ag] at he
           simp only [aL,bc] at hbb
           have hee:=an hbb.2
           subst hee
           have hqd:q≠d:=fun e=>by
            subst e
            rw [yp] at hbb
            exact absurd hbb.1 (by simp)
           split at he
           ·rename_i hsize
            have hsz:xs.length+xs2.size<140737488355328:=by
             rw [show List.length (y8X xs2)=xs2.size from qL xs2] at hsize
             simpa [TI.bytes] using hsize
            have hlq:=hlk q _ hq
            obtain ⟨_,_,cells,hown,hone,hblk,hrd⟩:=h.objs q _ hlq
            obtain ⟨v',w',cells',h1,h2,h3,h4,h5,h6⟩:=y7n (P:=P) (ty:=o.type) hT ht hte rfl ht2 hown hone hrd xs2 hsz
            have hgone:=h.gone q
            have hfree: ∀ k,(G.sv q).ownBlock=some k→qC w0 lent (s.set q .gone) G k:=fun k hk=>jY h hlq hk
            obtain ⟨G',_,hrel,hra⟩:=hgone.newRoot d (H0.none (hout d hd)) (e:=e1') (ts:=[.int .u8]) (xs:=xs++(y8X xs2)) (v:=v') (w':=w') (cells:=cells') h3.os h3.tape h3.output h3.size (fun k hk=>by
             by_cases hkb:some k=(G.sv q).ownBlock
             ·exact .inr (hfree k hkb.symm)
             ·exact .inl (h3.block k hk hkb)) (by simp) (by rw [ar,qL];exact h2) h5
             (fun k hk=>by
              rcases h4 with h4|h4
              ·rw [h4] at hk
               exact hfree k hk
              ·rw [h4] at hk
               injection hk with hk
               subst hk
               exact hgone.free_new (aS _)) h6
            refine YZ (hexec v' w' (by rw [hx.1,hyv'];exact h1)) (hK _ _ _ G' he ?_)
            have:=hrel.put o.dst hra
            rw [jm s hqd] at this
            simpa [St.apply,St.makeAll,St.setAll] using this
           ·cases he
       |_=>simp [hq] at he
     ·cases he
   |true=>
    simp only [hbt,ylp] at he
    have htt:=an hbt
    subst htt
    have e1:c.args= #[x,y]:=by rw [← be (xs:=c.args),hargs]
    have e2:c.argTypes= #[t,t]:=by rw [← be (xs:=c.argTypes),htys]
    have hexec: ∀ (v:Value) (w':World),(Builtin.append_ #[t,t] o.type #[a.eval x,a.eval y]).run P w= .ok v w'→(execOp a.eval o).run P w= .ok (.value v) w':=by
     intro v w' hr
     simp [execOp,hop,resolve,hc,invoke,builtin,e1,e2,hr]
    have hpos:0<ts.length:=by
     obtain ⟨D,hD,rfl,te',hte',hts⟩:=hT.und t _ ht
     rw [hte] at hte'
     injection hte' with hte'
     subst hte'
     obtain ⟨_,_,_,_,_,_,_,hp,_⟩:=hT.info e te hte
     rw [← hts]
     exact hp
    split at he
    ·
     rename_i ys hxa hya
     rw [hxa] at hx
     obtain ⟨A,cc,hu,hm,hsrc⟩:=y26 h hlk hya hy
     split at he
     ·rename_i hsize
      obtain ⟨v',w',cells',h1,h2,h3,h4,h5,h6⟩:=y27 (P:=P) (ty:=o.type) (xs:=([]:List (yJ ts))) (ys:=ys) (H:=G.H) hT ht hte hpos (World.ownsRow_nil w 0 e ts.length) (by simp) (by simp) hu hsrc (by simpa using hsize)
      have hnone:(Value.slice none 0 0).ownBlock=none:=rfl
      rw [hnone] at h3 h4
      obtain ⟨G',_,hrel,hra⟩:=h.newRoot d (H0.none (hout d hd)) (xs:=ys) (v:=v') (w':=w') (cells:=cells') h3.os h3.tape h3.output h3.size (fun k hk=> .inl (h3.block k hk (by simp))) hpos (by simpa using h2) h5
       (fun k hk=>by
        rcases h4 with h4|h4
        ·rw [h4] at hk
         cases hk
        ·rw [h4] at hk
         injection hk with hk
         subst hk
         exact h.free_new (aS _)) (by simpa using h6)
      refine YZ (hexec v' w' (by rw [show a.eval x= .slice none 0 0 from hx];exact h1)) (hK _ _ _ G' he ?_)
      have:=hrel.put o.dst hra
      simpa [St.apply,St.makeAll,St.setAll] using this
     ·cases he
    ·
     rename_i q ys hxa hya
     rw [hxa] at hx
     obtain ⟨A,cc,hu,hm,hsrc⟩:=y26 h hlk hya hy
     cases hq:lk q with
     |none=>simp [hq] at he
     |some ob=>
      cases ob with
      |root own e1' ts1 xs=>
       cases own with
       |false=>simp [hq] at he
       |true=>
        simp only [hq] at he
        cases hcr:y6k ts1 ts xs with
        |none=>simp [hcr] at he
        |some xs'=>
         simp only [hcr] at he
         obtain ⟨ee,rfl⟩:=y1m hcr
         subst ee
         cases hbb:Nat.beq q d|| !Nat.beq e1' e with
         |true=>simp [hbb] at he
         |false=>
          simp only [hbb,ag] at he
          simp only [aL,bc] at hbb
          have hee:=an hbb.2
          subst hee
          have hqd:q≠d:=fun e=>by
           subst e
           rw [yp] at hbb
           exact absurd hbb.1 (by simp)
          split at he
          ·rename_i hsize
           have hlq:=hlk q _ hq
           obtain ⟨hsz,_,cells,hown,hone,hblk,hrd⟩:=h.objs q _ hlq
           obtain ⟨v',w',cells',h1,h2,h3,h4,h5,h6⟩:=y27 (P:=P) (ty:=o.type) hT ht hte hpos hown hone hrd hu hsrc hsize
           have hgone:=h.gone q
           have hfree: ∀ k,(G.sv q).ownBlock=some k→qC w0 lent (s.set q .gone) G k:=fun k hk=>jY h hlq hk
           obtain ⟨G',_,hrel,hra⟩:=hgone.newRoot d (H0.none (hout d hd)) (v:=v') (w':=w') (cells:=cells') h3.os h3.tape h3.output h3.size (fun k hk=>by
            by_cases hkb:some k=(G.sv q).ownBlock
            ·exact .inr (hfree k hkb.symm)
            ·exact .inl (h3.block k hk hkb)) hpos h2 h5
            (fun k hk=>by
             rcases h4 with h4|h4
             ·rw [h4] at hk
              exact hfree k hk
             ·rw [h4] at hk
              injection hk with hk
              subst hk
              exact hgone.free_new (aS _)) h6
           refine YZ (hexec v' w' (by rw [hx.1];exact h1)) (hK _ _ _ G' he ?_)
           have:=hrel.put o.dst hra
           rw [jm s hqd] at this
           simpa [St.apply,St.makeAll,St.setAll] using this
          ·cases he
      |_=>simp [hq] at he
    ·cases he
 ·cases he
end
section
variable {P:Program} {C:Ctx} {w0:World} {lent:Nat→Prop} {H0:Base} {s:St} {a:Act} {w:World} {G:Gh} {o:Oper} {K:Act→World→Prop} {Q:Exit→Act→World→Prop} {R:Type} {k:Eff→Option R} {r:R} {lk:Lk} {call:C.Sem} {ct wn:Bool}
theorem y8Y (off:Nat): ∀ (l:List Value) (arr:Array Value) (j:Nat),(l.zipIdx j).foldl (fun cs p=>cs.setIfInBounds (off+p.2) p.1) arr=zR arr (off+j) l
 |[],_,_=>rfl
 |v::l,arr,j=>by
  simp only [List.zipIdx_cons,ba,zR]
  exact y8Y off l _ (j+1)
theorem y7o (place:Nat→Option (Nat×Nat)) (arr:Array Value) (i off size:Nat) (v:Value) (rest:List (Nat×Value)) (hp:place i=some (off,size)) (h1:v.cells.size=size) (h2:off+size≤arr.size):
  Instr.fill place arr ((i,v)::rest)=Instr.fill place (zR arr off v.cells.toList) rest:=by
 have e:v.cells.zipIdx.foldl (fun cs (c,j)=>cs.setIfInBounds (off+j) c) arr=zR arr off v.cells.toList:=by
  rw [← Array.foldl_toList,Array.toList_zipIdx]
  exact y8Y off _ arr 0
 rw [Instr.fill]
 simp only [hp]
 rw [am (by simp [h1];omega),e]
theorem yfb {G:Gh} {cs l cs':List A} {off:Nat} {arr:Array Value} {vs:List Value} (hs:JA cs off l=some cs') (hc:RL G cs arr.toList) (hl:RL G l vs):RL G cs' (zR arr off vs).toList∧(zR arr off vs).size=arr.size:=by
 obtain ⟨hlen,hfit,hget⟩:=Kd cs off l cs' hs
 have h1:=hc.length
 have h2:=hl.length
 have hsz:=yC vs arr off
 refine ⟨RL.of ?_ fun i x v hx hv=> ?_,hsz⟩
 ·rw [hlen,h1,aN,aN,hsz]
 ·rcases hfit with rfl|hfit
  ·cases vs with
   |cons _ _=>simp at h2
   |nil=>
    have e1:=hget i
    rw [am (by simp only [aj];omega)] at e1
    rw [e1] at hx
    obtain ⟨u,hu,hr⟩:=hc.get i x hx
    have:u=v:=by
     have hv':arr.toList[i]? =some v:=hv
     rw [hu] at hv'
     injection hv'
    exact this ▸ hr
  ·have h1':cs.length=arr.size:=by rw [h1,aN]
   have e2:=zK vs arr off i (by omega)
   rw [hget i] at hx
   rw [aQ,e2,← h2] at hv
   by_cases hi:off≤i∧i<off+l.length
   ·rw [af hi] at hx hv
    obtain ⟨u,hu,hr⟩:=hl.get (i - off) x hx
    rw [hu] at hv
    injection hv with hv
    exact hv ▸ hr
   ·rw [am hi] at hx hv
    obtain ⟨u,hu,hr⟩:=hc.get i x hx
    rw [aQ,hv] at hu
    injection hu with hu
    exact hu ▸ hr
theorem y7p (hT:TOk C P) (h:Rel P w0 lent H0 s a w G) {fs:List (Nat×Nat)} {places:Array (Nat×Nat)} (hpl: ∀ (i off t:Nat) (ti:TI),fs[i]? =some (off,t)→C.info t=some ti→places[i]? =some (off,ti.ts.length)):
  ∀ (parts:List (Nat×Operand)) (cs l:List A) (arr:Array Value),y4q C s.opd fs cs parts=some l→RL G cs arr.toList→ ∃ arr',Instr.fill (places[·]?) arr (parts.map fun (i,x)=>(i,a.eval x))=some arr'∧RL G l arr'.toList
 |[],cs,l,arr,hp,hr=>by
  have:cs=l:=by simpa [y4q] using hp
  subst this
  exact ⟨arr,rfl,hr⟩
 |(i,x)::parts,cs,l,arr,hp,hr=>by
  simp only [y4q] at hp
  cases hf:fs[i]? with
  |none=>simp [hf] at hp
  |some ot=>
   obtain ⟨off,t⟩:=ot
   simp only [hf] at hp
   cases ht:C.info t with
   |none=>simp [ht] at hp
   |some ti=>
    simp only [ht] at hp
    cases hb:Nat.beq (s.opd x).cells.length ti.ts.length&&k6 (s.opd x).cells with
    |false=>simp [hb] at hp
    |true=>
     simp only [hb,ai] at hp
     simp only [al] at hb
     cases hs:JA cs off (s.opd x).cells with
     |none=>simp [hs] at hp
     |some cs'=>
      simp only [hs] at hp
      have hx:=Q4 hb.2 (h.opd x)
      have hxl:=hx.length
      have hbl:=an hb.1
      obtain ⟨hr',hsz⟩:=yfb hs hr hx
      obtain ⟨arr',h1,h2⟩:=y7p hT h hpl parts cs' l _ hp hr'
      refine ⟨arr',?_,h2⟩
      rw [bB]
      have hv:(a.eval x).cells.size=ti.ts.length:=by rw [← aN,← hxl,hbl]
      obtain ⟨_,hfit,_⟩:=Kd cs off _ cs' hs
      have hle:off+ti.ts.length≤arr.size∨(s.opd x).cells=[]:=by
       have e0:cs.length=arr.size:=by rw [hr.length,aN]
       rcases hfit with h0|h0
       ·exact .inr h0
       ·exact .inl (by omega)
      rcases hle with hle|hle
      ·rw [y7o _ _ _ _ _ _ _ (hpl i off t ti hf ht) hv hle]
       exact h1
      ·rw [hle] at hbl
       obtain ⟨_,_,_,_,_,_,_,hp0,_⟩:=hT.info t ti ht
       rw [← hbl] at hp0
       exact absurd hp0 (Nat.lt_irrefl 0)
theorem ygl {α β:Type} {f:α→Option β} (d:β): ∀ {l:List α},(∀ x∈l,∃ y,f x=some y)→l.mapM f=some (l.map fun x=>(f x).getD d)
 |[],_=>rfl
 |x::l,h=>by
  obtain ⟨b,hb⟩:=h x (by simp)
  rw [List.mapM_cons,hb,ygl d (l:=l) (fun y hy=>h y (by simp [hy]))]
  simp [hb]
end
section
variable {P:Program} {C:Ctx} {w0:World} {lent:Nat→Prop} {H0:Base} {s:St} {a:Act} {w:World} {G:Gh} {o:Oper} {K:Act→World→Prop} {Q:Exit→Act→World→Prop} {R:Type} {k:Eff→Option R} {r:R} {lk:Lk} {call:C.Sem} {ct wn:Bool}
theorem ygm {H:Hp}: ∀ (ts:List Ty) (f:Nat→Option Value),(∀ k,k<ts.length→f k=(ts.map Q2)[k]?)→RdE H ts (Wx ts) f
 |[],_,_=>trivial
 |t::[],f,h=>⟨Q2 t,by rw [h 0 (by simp)];rfl,yf8 t⟩
 |t::u::r,f,h=>⟨⟨Q2 t,by rw [h 0 (by simp)];rfl,yf8 t⟩,ygm (u::r) _ (fun k hk=>by
   rw [h (k+1) (by simpa using hk)]
   rfl)⟩
theorem y9P {ts:List Ty} {z:Value} (hz:z.cells.toList=ts.map Q2) (hpos:0<ts.length) (n i:Nat) (hi:i<n*ts.length): ∃ t,ts[i % ts.length]? =some t∧(madeCells z.cells (n*ts.length))[i]? =some (Q2 t):=by
 have hlt:i % ts.length<ts.length:=Nat.mod_lt _ hpos
 have hsz:z.cells.size=ts.length:=by rw [← aN,hz];simp
 refine ⟨_,aJ hlt,?_⟩
 have hz2:z.cells[i % ts.length]? =some (Q2 ts[i % ts.length]):=by
  rw [← aQ,hz,bH,aJ hlt]
  rfl
 have hb:z.cells[i % ts.length]! =Q2 ts[i % ts.length]:=by
  rw [Array.getElem!_eq_getD,bu,hz2]
  rfl
 simp [madeCells,hi,hsz,hb]
theorem yiR {H:Hp} {ts:List Ty} {z:Value} (hz:z.cells.toList=ts.map Q2) (hpos:0<ts.length) (n j:Nat) (hj:j<n):RdE H ts (Wx ts) (fun k=>(madeCells z.cells (n*ts.length))[j*ts.length+k]?):=by
 refine ygm ts _ fun k hk=> ?_
 have hj1:(j+1)*ts.length≤n*ts.length:=aI _ hj
 rw [bn,bv] at hj1
 obtain ⟨t,ht,h⟩:=y9P hz hpos n (j*ts.length+k) (by omega)
 have hm:(j*ts.length+k) % ts.length=k:=by rw [Nat.mul_comm,Nat.mul_add_mod,Nat.mod_eq_of_lt hk]
 rw [hm] at ht
 rw [h,bH,ht]
 rfl
theorem y9Q {ts:List Ty} {z:Value} (hz:z.cells.toList=ts.map Q2) (hpos:0<ts.length) (n:Nat): ∀ u∈(madeCells z.cells (n*ts.length)).toList,u.oneCell'=true:=by
 intro u hu
 obtain ⟨i,hi⟩:=cf.1 hu
 have hlt:=(av.1 hi).1
 rw [aN,size_madeCells] at hlt
 obtain ⟨t,_,h⟩:=y9P hz hpos n i hlt
 rw [aQ,h] at hi
 injection hi with hi
 subst hi
 cases t<;>rfl
theorem ylr {w:World}: ∀ (ts:List Ty) (f:Nat→Option Value),y5h ts=true→(∀ k,k<ts.length→f k=(ts.map Q2)[k]?)→DpE w ts (fun _ _=>False) (Wx ts) f:=by
 have one: ∀ (t:Ty) (r:List Ty),y5h (t::r)=true→DpT w t (fun _=>False) (y5g t) (Q2 t)∧y5h r=true:=by
  intro t r hp
  cases t with
  |sl e us=>
   simp only [y5h,al] at hp
   exact ⟨DpT.nil (wM hp.1),hp.2⟩
  |int _=>exact ⟨rfl,hp⟩
  |bool=>exact ⟨rfl,hp⟩
  |str=>exact ⟨rfl,hp⟩
 intro ts
 induction ts with
 |nil=>intro f _ _;trivial
 |cons t ts ih=>
  intro f hp h
  obtain ⟨h1,h2⟩:=one t ts hp
  cases ts with
  |nil=>exact ⟨Q2 t,by rw [h 0 (by simp)];rfl,h1⟩
  |cons u r=>
   exact ⟨⟨Q2 t,by rw [h 0 (by simp)];rfl,h1⟩,ih _ h2 (fun k hk=>by
    rw [h (k+1) (by simpa using hk)]
    rfl)⟩
theorem ypt {w:World} {ts:List Ty} {z:Value} (hz:z.cells.toList=ts.map Q2) (hpos:0<ts.length) (hp:y5h ts=true) (n j:Nat) (hj:j<n):DpE w ts (fun _ _=>False) (Wx ts) (fun k=>(madeCells z.cells (n*ts.length))[j*ts.length+k]?):=by
 refine ylr ts _ hp fun k hk=> ?_
 have hj1:(j+1)*ts.length≤n*ts.length:=aI _ hj
 rw [bn,bv] at hj1
 obtain ⟨t,ht,h⟩:=y9P hz hpos n (j*ts.length+k) (by omega)
 have hm:(j*ts.length+k) % ts.length=k:=by rw [Nat.mul_comm,Nat.mul_add_mod,Nat.mod_eq_of_lt hk]
 rw [hm] at ht
 rw [h,bH,ht]
 rfl
theorem ygn (w:World) {e:Nat} {ts:List Ty} {z:Value} (hz:z.cells.toList=ts.map Q2) (hpos:0<ts.length) (hp:y5h ts=true) {n m:Nat} (hle:n≤m) (hm:m≤maxLen):
  DpR (w.alloc (.cells (madeCells z.cells (m*ts.length)) e)) (fun k=>k=w.heap.size) e ts (List.replicate n (Wx ts)) (.slice (some ⟨w.heap.size,0,none⟩) n m) ((madeCells z.cells (m*ts.length)).toList.take (n*ts.length)) (fun _ _=>False):=by
 have hnm:n*ts.length≤m*ts.length:=aI _ hle
 have hcells: ∀ i',i'<n*ts.length→((madeCells z.cells (m*ts.length)).toList.take (n*ts.length))[i']? =(madeCells z.cells (m*ts.length))[i']? :=by
  intro i' hi'
  rw [aD,af hi',aQ]
 refine ⟨hpos,⟨by rw [ak,show (madeCells z.cells (m*ts.length)).toList.length=m*ts.length from (aN).trans (size_madeCells _ _),bm];omega,.inr ⟨w.heap.size,m,madeCells z.cells (m*ts.length),by simp,bQ _,heap_alloc_new w _,by simpa using hle,hm,size_madeCells _ _,by simp⟩⟩,fun u hu=>y9Q hz hpos _ u (a0 hu),fun k hk=> ?_,fun _ _ h=>h.elim,fun _ _ _ h=>h.elim,fun j x hx=> ?_⟩
 ·have:w.heap.size=k:=by simpa [Value.ownBlock] using hk
  exact this.symm
 ·have hj:j<n:=by
   have:=(av.1 hx).1
   rwa [bm] at this
  have hxz:Wx ts=x:=by
   rw [b8,af hj] at hx
   injection hx
  subst hxz
  have hj1:(j+1)*ts.length≤n*ts.length:=aI _ hj
  rw [bn,bv] at hj1
  refine (JC ts _ _ _).2 fun c y hc=> ?_
  have hcl:=y3d ts _ _ _ hc
  obtain ⟨v,h1,h2⟩:=(JC ts _ _ _).1 (ypt (w:=w.alloc (.cells (madeCells z.cells (m*ts.length)) e)) hz hpos hp m j (by omega)) c y hc
  exact ⟨v,by rw [hcells _ (by omega)];exact h1,h2⟩
theorem y6m (hT:TOk C P) (h:Rel P w0 lent H0 s a w G) {t e b d:Nat} (hpin:H0.pin d=none) {ts:List Ty} {te:TI} {n m:Int} (ht:C.info t=some (.c (.sl e ts) b)) (hte:C.info e=some te) (hp:y5h ts=true) (h0:0≤n) (h1:n≤m) (h2:m*te.bytes≤140737488351232):
  ∃ w' G',(Instr.makeSlice t (.int .i64 n) (.int .i64 m)).run P w= .ok (.slice (some ⟨w.heap.size,0,none⟩) n.toNat m.toNat) w'∧Rel P w0 lent H0 (s.make d (.deep false 0 e ts (List.replicate n.toNat (Wx ts)))) a w' G'∧RA G' (.own d) (.slice (some ⟨w.heap.size,0,none⟩) n.toNat m.toNat):=by
 obtain ⟨D,hD,rfl,te',hte',hts⟩:=hT.und t _ ht
 rw [hte] at hte'
 injection hte' with hte'
 subst hte'
 subst hts
 obtain ⟨i,z,hi,hs,hby,hz,hzc,hpos,hb0⟩:=hT.info e te hte
 have hmn:(0:Int)≤m:=cv h0 h1
 have hmb:(m:Int)≤m*te.bytes:=by
  have:(1:Int)≤te.bytes:=by omega
  have:=Int.mul_le_mul_of_nonneg_left this hmn
  rwa [Int.mul_one] at this
 have h2':(i.bytes:Int)*m≤281474976710656:=by
  rw [hby,Int.mul_comm]
  omega
 have hmx:(m:Int)≤140737488351232:=cv hmb h2
 have hrun:=run_make (P:=P) w t e i z hD hi hz .i64 .i64 n m h0 h1 h2' (by omega)
 rw [hs] at hrun
 obtain ⟨G',_,hrel,hra⟩:=h.newDeep' d hpin (tag:=0) (w':=w.alloc (.cells (madeCells z.cells (m.toNat*te.ts.length)) e)) rfl rfl rfl (by simp [World.alloc,-World.alloc_eq]) (fun k hk=> .inl (jl w _ hk)) (ygn w hzc hpos hp (n:=n.toNat) (m:=m.toNat) (by omega) (by simp only [maxLen];omega)) (by simp) (fun k hk=>by
  subst hk
  simp [World.alloc,-World.alloc_eq]) (fun k hk=>h.free_new (by omega))
 exact ⟨_,G',hrun,hrel,hra⟩
theorem y7q (hT:TOk C P) (h:Rel P w0 lent H0 s a w G) {t e b d:Nat} (hpin:H0.pin d=none) {ts:List Ty} {te:TI} {n m:Int} (ht:C.info t=some (.c (.sl e ts) b)) (hte:C.info e=some te) (h0:0≤n) (h1:n≤m) (h2:m*te.bytes≤140737488351232):
  ∃ w' G',(Instr.makeSlice t (.int .i64 n) (.int .i64 m)).run P w= .ok (.slice (some ⟨w.heap.size,0,none⟩) n.toNat m.toNat) w'∧Rel P w0 lent H0 (s.make d (.root true e ts (List.replicate n.toNat (Wx ts)))) a w' G'∧RA G' (.own d) (.slice (some ⟨w.heap.size,0,none⟩) n.toNat m.toNat):=by
 obtain ⟨D,hD,rfl,te',hte',hts⟩:=hT.und t _ ht
 rw [hte] at hte'
 injection hte' with hte'
 subst hte'
 subst hts
 obtain ⟨i,z,hi,hs,hby,hz,hzc,hpos,hb0⟩:=hT.info e te hte
 have hmn:(0:Int)≤m:=cv h0 h1
 have hmb:(m:Int)≤m*te.bytes:=by
  have:(1:Int)≤te.bytes:=by omega
  have:=Int.mul_le_mul_of_nonneg_left this hmn
  rwa [Int.mul_one] at this
 have h2':(i.bytes:Int)*m≤281474976710656:=by
  rw [hby,Int.mul_comm]
  omega
 have hmx:(m:Int)≤140737488351232:=cv hmb h2
 have hrun:=run_make (P:=P) w t e i z hD hi hz .i64 .i64 n m h0 h1 h2' (by omega)
 rw [hs] at hrun
 have hle:n.toNat≤m.toNat:=by omega
 have hnm:n.toNat*te.ts.length≤m.toNat*te.ts.length:=aI _ hle
 have hcells: ∀ i',i'<n.toNat*te.ts.length→((madeCells z.cells (m.toNat*te.ts.length)).toList.take (n.toNat*te.ts.length))[i']? =(madeCells z.cells (m.toNat*te.ts.length))[i']? :=by
  intro i' hi'
  rw [aD,af hi',aQ]
 obtain ⟨G',_,hrel,hra⟩:=h.newRoot d hpin (e:=e) (ts:=te.ts) (xs:=List.replicate n.toNat (Wx te.ts)) (v:= .slice (some ⟨w.heap.size,0,none⟩) n.toNat m.toNat) (w':=w.alloc (.cells (madeCells z.cells (m.toNat*te.ts.length)) e))
  (cells:=(madeCells z.cells (m.toNat*te.ts.length)).toList.take (n.toNat*te.ts.length)) rfl rfl rfl (by simp [World.alloc,-World.alloc_eq]) (fun k hk=> .inl (jl w _ hk)) hpos
  ⟨by rw [ak,show (madeCells z.cells (m.toNat*te.ts.length)).toList.length=m.toNat*te.ts.length from (aN).trans (size_madeCells _ _),bm];omega,.inr ⟨w.heap.size,m.toNat,madeCells z.cells (m.toNat*te.ts.length),by simp,bQ _,heap_alloc_new w _,by simpa using hle,by simp only [maxLen];omega,size_madeCells _ _,by simp⟩⟩
  (fun u hu=>y9Q hzc hpos _ u (a0 hu)) (fun k hk=>by
   have:w.heap.size=k:=by simpa [Value.ownBlock] using hk
   exact h.free_new (by omega)) (fun j x hx=>by
   have hj:j<n.toNat:=by
    have:=(av.1 hx).1
    rwa [bm] at this
   have hxz:Wx te.ts=x:=by
    rw [b8,af hj] at hx
    injection hx
   subst hxz
   have hj1:(j+1)*te.ts.length≤n.toNat*te.ts.length:=aI _ hj
   rw [bn,bv] at hj1
   refine RdE.ext te.ts _ _ _ (fun k v hk hv=> ?_) (yiR (H:=G.H) hzc hpos m.toNat j (by omega))
   rw [hcells _ (by omega)]
   exact hv)
 exact ⟨_,G',hrun,hrel,hra⟩
theorem ycO (hT:TOk C P) (h:Rel P w0 lent H0 s a w G) (hK:y4A P w0 lent H0 s o k r K) (hout:Out o) {t:Nat} {l c:Operand} (hop:o.op= .makeSlice t l c) (he:jb C call ct wn o s.opd lk k=some r):o.wp P a w K Q:=by
 have hl:=h.opd l
 have hc:=h.opd c
 simp only [jb,hop] at he
 split at he
 ·rename_i e ts b d ht hd
  split at he
  ·rename_i te n m hte hla hca
   rw [hla] at hl
   rw [hca] at hc
   split at he
   ·rename_i h0
    split at he
    ·rename_i h1
     split at he
     ·rename_i h2
      cases ct with
      |true=>
       cases hpt:y5h ts with
       |false=>simp [hpt] at he
       |true=>
        simp only [hpt,ay,Bool.and_false,ag,ai] at he
        obtain ⟨w',G',hrun,hrel,hra⟩:=y6m (d:=d) (n:=n) (m:=m) hT h (H0.none (hout d hd)) ht hte hpt h0 h1 h2
        refine YZ (v:= .slice (some ⟨w.heap.size,0,none⟩) (Int.toNat n) (Int.toNat m)) (w':=w') ?_ (hK _ _ _ G' he ?_)
        ·simp only [execOp,hop]
         rw [show a.eval l= .int .i64 n from hl,show a.eval c= .int .i64 m from hc,Sem.run_bind,hrun]
         rfl
        ·have:=hrel.put o.dst hra
         simpa [St.apply,St.makeAll,St.setAll] using this
      |false=>
      simp only [co,ag] at he
      obtain ⟨w',G',hrun,hrel,hra⟩:=y7q (d:=d) (n:=n) (m:=m) hT h (H0.none (hout d hd)) ht hte h0 h1 h2
      refine YZ (v:= .slice (some ⟨w.heap.size,0,none⟩) (Int.toNat n) (Int.toNat m)) (w':=w') ?_ (hK _ _ _ G' he ?_)
      ·simp only [execOp,hop]
       rw [show a.eval l= .int .i64 n from hl,show a.eval c= .int .i64 m from hc,Sem.run_bind,hrun]
       rfl
      ·have:=hrel.put o.dst hra
       simpa [St.apply,St.makeAll,St.setAll] using this
     ·cases he
    ·cases he
   ·cases he
  ·cases he
 ·cases he
theorem ypu: ∀ (ts:List Ty) (l:List A) (p:yJ ts×List Nat),toE lk ts l=some p→k6 l=true:=by
 intro ts
 induction ts with
 |nil=>
  intro l p h
  cases l with
  |nil=>rfl
  |cons x l=>exact absurd h (by rw [show toE lk [] (x::l)=none from rfl];exact fun h=>by cases h)
 |cons t ts ih=>
  intro l p h
  cases ts with
  |nil=>
   cases l with
   |nil=>rfl
   |cons x l=>
    cases l with
    |nil=>
     have h':toT lk t x=some p:=h
     simp [k6,yfa h']
    |cons x2 l=>exact absurd h (by rw [show toE lk [t] (x::x2::l)=none from rfl];exact fun h=>by cases h)
  |cons u r=>
   cases l with
   |nil=>rfl
   |cons x l=>
    have h':(match toT lk t x with
     |some (x,is)=>match toE lk (u::r) l with
      |some (y,js)=>some (((x,y):yJ (t::u::r)),is++js)
      |none=>none
     |none=>none)=some p:=h
    cases hx:toT lk t x with
    |none=>
     rw [hx] at h'
     cases h'
    |some p1=>
     rw [hx] at h'
     cases hl:toE lk (u::r) l with
     |none=>
      rw [hl] at h'
      cases h'
     |some q=>simp [k6,yfa hx,ih l q hl]
theorem yiS (ρ:Operand→A) (ts:List Ty): ∀ (parts:List (Nat×Operand)) (xs xs':List (yJ ts)) (is is':List Nat),yhu lk ρ ts parts xs is=some (xs',is')→ ∀ i∈is,i∈is'
 |[],xs,xs',is,is',h,i,hi=>by
  simp only [yhu,ap,aY] at h
  rw [← h.2]
  exact hi
 |(n,x)::parts,xs,xs',is,is',h,i,hi=>by
  simp only [yhu] at h
  cases hx:toE lk ts (ρ x).cells with
  |none=>simp [hx] at h
  |some p=>
   simp only [hx] at h
   cases hb:Nat.blt n xs.length with
   |false=>simp [hb] at h
   |true=>
    simp only [hb,ai] at h
    exact yiS ρ ts parts _ xs' _ is' h i (by simp [hi])
def ypv (H:Hp) (ts:List Ty) (xs:List (yJ ts)) (arr:Array Value):Prop:=
 arr.size=xs.length*ts.length∧(∀ u∈arr.toList,u.oneCell'=true)∧ ∀ (j:Nat) (x:yJ ts),xs[j]? =some x→RdE H ts x (fun k=>arr[j*ts.length+k]?)
theorem ycP (h:Rel P w0 lent H0 s a w G) {G1:Gh} (hg:Grown G G1) (ts:List Ty): ∀ (parts:List (Nat×Operand)) (xs xs':List (yJ ts)) (is is':List Nat) (arr:Array Value),yhu lk s.opd ts parts xs is=some (xs',is')→JD lk G1 is'→ypv G1.H ts xs arr→
  ∃ arr',Instr.fill (fun i=>some (i*ts.length,ts.length)) arr (parts.map fun (i,x)=>(i,a.eval x))=some arr'∧ypv G1.H ts xs' arr'∧xs'.length=xs.length
 |[],xs,xs',is,is',arr,hp,hs,hr=>by
  simp only [yhu,ap,aY] at hp
  rw [← hp.1]
  exact ⟨arr,rfl,hr,rfl⟩
 |(n,x)::parts,xs,xs',is,is',arr,hp,hs,hr=>by
  simp only [yhu] at hp
  cases hx:toE lk ts (s.opd x).cells with
  |none=>simp [hx] at hp
  |some p=>
   obtain ⟨y,js⟩:=p
   simp only [hx] at hp
   cases hb:Nat.blt n xs.length with
   |false=>simp [hb] at hp
   |true=>
    simp only [hb,ai] at hp
    have hn:n<xs.length:=by
     have:=wM hb
     omega
    have h1:=ypu ts _ _ hx
    have hlr:=Q4 h1 (h.opd x)
    have hone:=Q3 h1 hlr
    have hsj:JD lk G1 js:=fun i hi=>hs i (yiS s.opd ts parts _ xs' _ is' hp i (by simp [hi]))
    obtain ⟨hrd,hvl⟩:=yiN ts _ y js hx hsj _ (hlr.grown hg)
    obtain ⟨hsz,hall,hrow⟩:=hr
    have hj1:(n+1)*ts.length≤xs.length*ts.length:=aI _ hn
    rw [bn,bv] at hj1
    have hfit:n*ts.length+(a.eval x).cells.toList.length≤arr.size:=by omega
    have hget:=fun j=>zK (a.eval x).cells.toList arr (n*ts.length) j hfit
    have hrow2:ypv G1.H ts (xs.set n y) (zR arr (n*ts.length) (a.eval x).cells.toList):=by
     refine ⟨by rw [yC,aG];exact hsz,fun u hu=> ?_,fun j z hz=> ?_⟩
     ·obtain ⟨m,hm⟩:=cf.1 hu
      rw [aQ,hget m] at hm
      split at hm
      ·exact hone u (aV hm)
      ·exact hall u (by rw [← aQ] at hm;exact aV hm)
     ·have hjl:j<xs.length:=by
       have:=(av.1 hz).1
       rwa [aG] at this
      by_cases hjn:j=n
      ·subst hjn
       rw [bh hn] at hz
       injection hz with hz
       subst hz
       refine RdE.ext ts y _ _ (fun k v hk hv=> ?_) hrd
       rw [hget,af (by omega),show j*ts.length+k - j*ts.length=k by omega]
       exact hv
      ·rw [bl (fun e=>hjn e.symm)] at hz
       refine RdE.ext ts z _ _ (fun k v hk hv=> ?_) (hrow j z hz)
       rw [hget,am ?_]
       ·exact hv
       ·intro hc
        rcases cw hjn with hlt|hlt
        ·have:(j+1)*ts.length≤n*ts.length:=aI _ hlt
         rw [bn,bv] at this
         omega
        ·have:(n+1)*ts.length≤j*ts.length:=aI _ hlt
         rw [bn,bv] at this
         omega
    obtain ⟨arr',e1,e2,e3⟩:=ycP h hg ts parts (xs.set n y) xs' (is++js) is' (zR arr (n*ts.length) (a.eval x).cells.toList) hp hs hrow2
    refine ⟨arr',?_,e2,by rw [e3,aG]⟩
    rw [bB,y7o _ _ n _ _ _ _ rfl (by rw [← aN];exact hvl) (by omega)]
    exact e1
theorem y7r {i d:Nat} (hne:i≠d) {own:Bool} {e:Nat} {ts:List Ty} {xs:List (yJ ts)}: ∀ l:List (Nat×Ob),YY d (Vx l i (.root own e ts xs))=Vx (YY d l) i (.root own e ts xs)
 |[]=>rfl
 |(j,x)::l=>by
  have ih:=y7r hne (own:=own) (e:=e) (xs:=xs) l
  by_cases hj:j=i
  ·subst hj
   simp [Vx,YY,yp,yB hne,Ob.forget]
  ·by_cases hd:j=d
   ·subst hd
    simp [Vx,YY,yp,yB hj,ih]
   ·simp [Vx,YY,yB hj,yB hd,ih]
theorem y4C (s:St) {q d:Nat} (hne:q≠d) (ob:Ob) {own:Bool} {e:Nat} {ts:List Ty} {xs:List (yJ ts)}:(s.set q (.root own e ts xs)).make d ob=(s.make d ob).set q (.root own e ts xs):=by
 simp [St.set,St.make,y7r hne,Vx,yB (fun e:d=q=>hne e.symm)]
theorem yfc (s:St) (d:Nat) (ob:Ob): ∀ is:List Nat,qR is d=false→(s.setAll (settles lk is)).make d ob=(s.make d ob).setAll (settles lk is):=by
 intro is
 induction is generalizing s with
 |nil=>exact fun _=>rfl
 |cons i is ih=>
  intro h
  simp only [qR,aL] at h
  have hne:i≠d:=fun e=>by
   subst e
   rw [yp] at h
   exact absurd h.1 (by simp)
  unfold settles
  split
  ·simp only [St.setAll]
   rw [ih _ h.2,y4C s hne]
  ·simp only [St.setAll]
   rw [ih _ h.2,y4C s hne]
  ·exact ih s h.2
theorem DpS.frame {w w':World}: ∀ {ys:List (Sigma El)} {bs:List (Nat→Prop)} {vs:List Value},(∀ k,In bs k→w'.heap[k]? =w.heap[k]?)→DpS w ys bs vs→DpS w' ys bs vs
 |[],[],[],_,_=>trivial
 |y::ys,b::bs,v::vs,hf,h=>⟨DpT.frame _ _ _ _ _ (fun k hk=>hf k (In.cons.2 (.inl hk))) (fun _ hk=>hk) h.1,DpS.frame (fun k hk=>hf k (In.cons.2 (.inr hk))) h.2⟩
theorem ygo (ρ:Operand→A) (ts:List Ty): ∀ (parts:List (Nat×Operand)) (xs xs':List (yJ ts)) (is is':List Nat),yht lk ρ ts parts xs is=some (xs',is')→ ∃ js,is'=is++js
 |[],xs,xs',is,is',h=>by
  simp only [yht,ap,aY] at h
  exact ⟨[],by simp [h.2]⟩
 |(n,x)::parts,xs,xs',is,is',h=>by
  simp only [yht] at h
  cases hx:qY lk ts 0 (ρ x).cells with
  |none=>simp [hx] at h
  |some p=>
   simp only [hx] at h
   cases hse:y0k ts (xs.getD n (Wx ts)) 0 p.1 with
   |none=>
    rw [hse] at h
    cases h
   |some y=>
    simp only [hse] at h
    cases hb:Nat.blt n xs.length&&Nat.beq (ρ x).cells.length ts.length with
    |false=>simp [hb] at h
    |true=>
     simp only [hb,ai] at h
     obtain ⟨js,hj⟩:=ygo ρ ts parts _ xs' _ is' h
     exact ⟨p.2++js,by rw [hj,bo]⟩
theorem y8Z (h:Rel P w0 lent H0 s a w G) (hlk:y5e lk s) {e N:Nat} (ts:List Ty) (hN:N≤maxLen): ∀ (parts:List (Nat×Operand)) (xs xs':List (yJ ts)) (is is':List Nat) (arr:Array Value) (B:Nat→Prop) (cells:List Value) (Bs:Nat→Nat→Prop),yht lk s.opd ts parts xs is=some (xs',is')→is'.Nodup→xs.length=N→arr.size=N*ts.length→
  DpR (w.alloc (.cells arr e)) B e ts xs (.slice (some ⟨w.heap.size,0,none⟩) N N) cells Bs→(∀ k,B k→k=w.heap.size∨ ∃ q∈is,∃ ob,yF s.o q=some ob∧ze G q ob k)→
  ∃ arr' B' cells' Bs',Instr.fill (fun i=>some (i*ts.length,ts.length)) arr (parts.map fun (i,x)=>(i,a.eval x))=some arr'∧arr'.size=N*ts.length∧xs'.length=N∧
   DpR (w.alloc (.cells arr' e)) B' e ts xs' (.slice (some ⟨w.heap.size,0,none⟩) N N) cells' Bs'∧(∀ k,B' k→k=w.heap.size∨ ∃ q∈is',∃ ob,yF s.o q=some ob∧ze G q ob k)
 |[],xs,xs',is,is',arr,B,cells,Bs,hp,hn,hxl,hal,hd,hB=>by
  simp only [yht,ap,aY] at hp
  obtain ⟨rfl,rfl⟩:=hp
  exact ⟨arr,B,cells,Bs,rfl,hal,hxl,hd,hB⟩
 |(n,x)::parts,xs,xs',is,is',arr,B,cells,Bs,hp,hn,hxl,hal,hd,hB=>by
  simp only [yht] at hp
  cases hx:qY lk ts 0 (s.opd x).cells with
  |none=>simp [hx] at hp
  |some p=>
   obtain ⟨ys,js⟩:=p
   simp only [hx] at hp
   cases hse:y0k ts (xs.getD n (Wx ts)) 0 ys with
   |none=>
    rw [hse] at hp
    cases hp
   |some y=>
    simp only [hse] at hp
    cases hb:Nat.blt n xs.length&&Nat.beq (s.opd x).cells.length ts.length with
    |false=>simp [hb] at hp
    |true=>
     simp only [hb,ai] at hp
     simp only [al] at hb
     have hnl:n<xs.length:=wM hb.1
     have hcl:=an hb.2
     obtain ⟨ks,hks⟩:=ygo s.opd ts parts _ xs' _ is' hp
     have hn2:(is++js).Nodup:=by
      rw [hks] at hn
      exact (bY.1 hn).1
     obtain ⟨n1,n2,n3⟩:=bY.1 hn2
     have h1:k6 (s.opd x).cells=true:=ygj ts 0 _ ys js hx
     have hlr:=Q4 h1 (h.opd x)
     have hone:=Q3 h1 hlr
     have hvl:(a.eval x).cells.toList.length=ts.length:=by rw [← hlr.length];exact hcl
     obtain ⟨bs,c1,c2,c3,c4⟩:=y5R h hlk ts 0 _ ys js hx n2 _ hlr
     have hold: ∀ k,k<w.heap.size→(w.alloc (.cells arr e)).heap[k]? =w.heap[k]? :=fun k hk=>jl w _ hk
     obtain ⟨g,cap,cur,hv,hh,hcap,hmax,hcs,htk⟩: ∃ g cap cur,(.slice (some ⟨w.heap.size,0,none⟩) N N:Value)= .slice (some ⟨g,0,none⟩) xs.length cap∧(w.alloc (.cells arr e)).heap[g]? =some (.cells cur e (0,0))∧xs.length≤cap∧cap≤maxLen∧cur.size=cap*ts.length∧cur.toList.take (xs.length*ts.length)=cells:=by
      rcases hd.row.2 with ⟨hv,_⟩|⟨g,cap,cur,hv,_,hh,hcap,hmax,hcs,htk⟩
      ·cases hv
      ·exact ⟨g,cap,cur,hv,hh,hcap,hmax,hcs,htk⟩
     have hge:g=w.heap.size:=by
      injection hv with hv
      injection hv with hv
      injection hv with hv
      exact hv.symm
     subst hge
     have hcur:cur=arr:=by
      rw [heap_alloc_new] at hh
      injection hh with hh
      injection hh with hh
      exact hh.symm
     subst hcur
     have hgd: ∀ k,In bs k→ ¬ B k:=fun k hk hbk=>by
      rcases hB k hbk with h6|⟨q,hq,ob,hl,hbq⟩
      ·have:=c4 k hk
       omega
      ·obtain ⟨q',hq',ob',hl',hbq'⟩:=c2 k hk
       have:=h.apart q q' _ _ k hl hl' hbq hbq'
       subst this
       exact n3 q hq q hq' rfl
     obtain ⟨cells',Bs',hd',_⟩:=hd.store hv hh hcap hmax hcs htk (i:=n) (c:=0) hnl (x:=xs.getD n (Wx ts)) (by rw [au,aJ hnl];rfl) hse (DpS.frame (fun k hk=>hold k (c4 k hk)) c1) c3 hgd hone (by omega)
     have hj1:(n+1)*ts.length≤N*ts.length:=aI _ (by omega)
     rw [bn,bv] at hj1
     have hd2:DpR (w.alloc (.cells (zR cur (n*ts.length) (a.eval x).cells.toList) e)) (fun k=>B k∨In bs k) e ts (xs.set n y) (.slice (some ⟨w.heap.size,0,none⟩) N N) cells' Bs':=by
      refine hd'.frame (fun k _=> ?_) (fun _ hk=>hk)
      by_cases hk:k=w.heap.size
      ·subst hk
       rw [heap_alloc_new,bS,zq w.heap.size _ _ _ cur hh]
      ·rw [bS,yN _ _ _ _ _ hk]
       by_cases hlt:k<w.heap.size
       ·rw [jl w _ hlt,jl w _ hlt]
       ·rw [Array.getElem?_eq_none (by simp [World.alloc,-World.alloc_eq];omega),Array.getElem?_eq_none (by simp [World.alloc,-World.alloc_eq];omega)]
     obtain ⟨arr',B',cells2,Bs2,e1,e2,e3,e4,e5⟩:=y8Z h hlk ts hN parts _ xs' _ is' _ _ cells' Bs' hp hn (by rw [aG];exact hxl) (by rw [yC];exact hal) hd2 (fun k hk=>by
      rcases hk with hk|hk
      ·rcases hB k hk with h6|⟨q,hq,r⟩
       ·exact .inl h6
       ·exact .inr ⟨q,by simp [hq],r⟩
      ·obtain ⟨q,hq,r⟩:=c2 k hk
       exact .inr ⟨q,by simp [hq],r⟩)
     refine ⟨arr',B',cells2,Bs2,?_,e2,e3,e4,e5⟩
     rw [bB,y7o _ _ _ _ _ _ _ rfl (by rw [← aN];exact hvl) (by omega)]
     exact e1
theorem y7s (d:Nat) (ob:Ob): ∀ (gs:List Nat) (s:St),d∉gs→(s.setAll (YB gs)).make d ob=(s.make d ob).setAll (YB gs)
 |[],_,_=>rfl
 |g::gs,s,h=>by
  simp only [aA,not_or] at h
  rw [YB,St.setAll,St.setAll,y7s d ob gs _ h.2,jm s (fun e=>h.1 e.symm)]
theorem y8w {t n e:Nat} {te:TI} {i:TypeInfo} {z:Value} {parts:Array (Nat×Operand)} {arr:Array Value} (hD:P.underlying t=some (.slice e)) (hi:P.info? e=some i) (hz:i.zero=some z) (hs:i.size=te.ts.length) (hzc:z.cells.toList=te.ts.map Q2) (hpos:0<te.ts.length) (hsz:arr.size=n*te.ts.length)
  (hbig:n*te.ts.length≤16777216) (hp0:n=0→parts.toList=[]) (e1:Instr.fill (fun i=>some (i*te.ts.length,te.ts.length)) (madeCells z.cells (n*te.ts.length)) (parts.toList.map fun (i,x)=>(i,a.eval x))=some arr):
  (Instr.buildSlice t n (parts.map fun (i,x)=>(i,a.eval x))).run P w= .ok (.slice (some ⟨w.heap.size,0,none⟩) n n) (w.alloc (.cells arr e)):=by
 have e1':Instr.fill (fun i_1=>some (i_1*i.size,i.size)) ((Array.range (n*i.size)).map (z.cells[· % z.cells.size]!)) (parts.map fun (i,x)=>(i,a.eval x)).toList=some arr:=by
  rw [hs,cU]
  exact e1
 by_cases h0:n*i.size=0
 ·have hn0:n=0:=by
   rw [hs] at h0
   rcases Nat.mul_eq_zero.1 h0 with h0|h0
   ·exact h0
   ·omega
  subst hn0
  have ha:arr= #[]:=by
   have:arr.size=0:=by rw [hsz,Nat.zero_mul]
   exact bW this
  have hp0:parts= #[]:=by rw [← be (xs:=parts),hp0 rfl]
  subst ha hp0
  have hr0:(Array.range 0).map (fun _=>(default:Value))= #[]:=bW (by simp)
  simp [Instr.buildSlice,run_underlying hD,sizeOf,typeInfo,hi,newRow,Instr.fill,hr0]
 ·exact run_buildSlice w t e n _ arr i z hD hi hz (by rw [hs];omega) h0 e1'
theorem y8x (hT:TOk C P) (h:Rel P w0 lent H0 s a w G) (hK:y4A P w0 lent H0 s o k r K) (hout:Out o) (hlk:y5e lk s) {t n:Nat} {parts:Array (Nat×Operand)} (hop:o.op= .buildSlice t n parts) (he:jb C call true wn o s.opd lk k=some r):o.wp P a w K Q:=by
 simp only [jb,hop,ai] at he
 split at he
 ·rename_i e ts b d ht hd
  cases hl:yht lk s.opd ts parts.toList (List.replicate n (Wx ts)) [] with
  |none=>simp [hl] at he
  |some p=>
   obtain ⟨xs,gs⟩:=p
   simp only [hl] at he
   cases hb:qR gs d|| !y0F gs|| !Nat.ble (n*ts.length) 16777216|| !y5h ts with
   |true=>simp [hb] at he
   |false=>
    simp only [hb,ag] at he
    simp only [aL,bc] at hb
    obtain ⟨D,hD,rfl,te,hte,hts⟩:=hT.und t _ ht
    subst hts
    obtain ⟨i,z,hi,hs,hby,hz,hzc,hpos,hb0⟩:=hT.info e te hte
    have hbig:=wM hb.1.2
    have hn1:n≤n*te.ts.length:=cp n hpos
    have hnm:n≤maxLen:=by simp only [maxLen];omega
    have hdg:d∉gs:=fun hd=>by
     rw [JE.2 hd] at hb
     exact absurd hb.1.1.1 (by simp)
    obtain ⟨arr,B',cells',Bs',e1,e2,e3,e4,e5⟩:=y8Z (e:=e) h hlk te.ts hnm parts.toList _ xs [] gs (madeCells z.cells (n*te.ts.length)) _ _ _ hl (qT hb.1.1.2) (by rw [bm]) (size_madeCells _ _) (ygn w hzc hpos hb.2 (aS n) hnm) (fun k hk=> .inl hk)
    have hrun:=y8w (P:=P) (a:=a) (w:=w) hD hi hz hs hzc hpos e2 hbig (fun hn=>by
     subst hn
     cases hpl:parts.toList with
     |nil=>rfl
     |cons p ps=>
      obtain ⟨pi,px⟩:=p
      rw [hpl] at hl
      simp only [yht,List.replicate_zero,aj] at hl
      split at hl
      ·split at hl
       ·simp [show Nat.blt pi 0=false from rfl] at hl
       ·cases hl
      ·cases hl) e1
    have hgone:=Rel.gones gs h
    obtain ⟨G',_,hrel,hra⟩:=hgone.newDeep' d (H0.none (hout d hd)) (tag:=0) (w':=w.alloc (.cells arr e)) rfl rfl rfl (by simp [World.alloc,-World.alloc_eq]) (fun k hk=> .inl (jl w _ hk)) e4 (by simp) (fun k hk=>by
     rcases e5 k hk with h6|⟨q,hq,ob,hl,hbq⟩
     ·subst h6
      simp [World.alloc,-World.alloc_eq]
     ·have:=(h.objs q ob hl).blk hbq
      simp [World.alloc,-World.alloc_eq]
      omega) (fun k hk=>by
     rcases e5 k hk with h6|⟨q,hq,ob,hl,hbq⟩
     ·exact hgone.free_new (by omega)
     ·obtain ⟨a1,a2⟩:=h.away q ob k hl hbq
      refine ⟨a1,a2,fun j oj hj hbj=> ?_⟩
      rw [kW] at hj
      split at hj
      ·obtain ⟨_,_,rfl⟩:=aq.1 hj
       exact hbj
      ·rename_i hjg
       have:=h.apart j q _ _ k hj hl hbj hbq
       subst this
       exact hjg hq)
    refine YZ (v:= .slice (some ⟨w.heap.size,0,none⟩) n n) (w':=w.alloc (.cells arr e)) ?_ (hK _ _ _ G' he ?_)
    ·simp only [execOp,hop]
     rw [Sem.run_bind,hrun]
     rfl
    ·have:=hrel.put o.dst hra
     rw [y7s d _ gs s hdg] at this
     exact this
 ·cases he
theorem y9R (hT:TOk C P) (h:Rel P w0 lent H0 s a w G) (hK:y4A P w0 lent H0 s o k r K) (hout:Out o) (hlk:y5e lk s) {t n:Nat} {parts:Array (Nat×Operand)} (hop:o.op= .buildSlice t n parts) (he:jb C call ct wn o s.opd lk k=some r):o.wp P a w K Q:=by
 cases ct with
 |true=>exact y8x hT h hK hout hlk hop he
 |false=>
 simp only [jb,hop,ag] at he
 split at he
 ·rename_i e ts b d ht hd
  cases hl:yhu lk s.opd ts parts.toList (List.replicate n (Wx ts)) [] with
  |none=>simp [hl] at he
  |some p=>
   obtain ⟨xs,is⟩:=p
   simp only [hl] at he
   cases hb:qR is d|| !Nat.ble (n*ts.length) 16777216 with
   |true=>simp [hb] at he
   |false=>
    simp only [hb,ag] at he
    simp only [aL,bc] at hb
    obtain ⟨D,hD,rfl,te,hte,hts⟩:=hT.und t _ ht
    subst hts
    obtain ⟨i,z,hi,hs,hby,hz,hzc,hpos,hb0⟩:=hT.info e te hte
    obtain ⟨G1,hg1,hr1,hset⟩:=h.settles hlk.rows is
    have hbig:=wM hb.2
    obtain ⟨arr,e1,⟨e2,e3,e4⟩,e5⟩:=ycP h hg1 te.ts parts.toList _ xs [] is (madeCells z.cells (n*te.ts.length)) hl hset ⟨by rw [size_madeCells,bm],y9Q hzc hpos n,fun j x hx=>by
     have hj:j<n:=by
      have:=(av.1 hx).1
      rwa [bm] at this
     have hxz:Wx te.ts=x:=by
      rw [b8,af hj] at hx
      injection hx
     subst hxz
     exact yiR hzc hpos n j hj⟩
    rw [bm] at e5
    have hn1:n≤n*te.ts.length:=cp n hpos
    have hrun:(Instr.buildSlice t n (parts.map fun (i,x)=>(i,a.eval x))).run P w= .ok (.slice (some ⟨w.heap.size,0,none⟩) n n) (w.alloc (.cells arr e)):=by
     have e1':Instr.fill (fun i_1=>some (i_1*i.size,i.size)) ((Array.range (n*i.size)).map (z.cells[· % z.cells.size]!)) (parts.map fun (i,x)=>(i,a.eval x)).toList=some arr:=by
      rw [hs,cU]
      exact e1
     by_cases h0:n*i.size=0
     ·have hn0:n=0:=by
       rw [hs] at h0
       rcases Nat.mul_eq_zero.1 h0 with h0|h0
       ·exact h0
       ·omega
      subst hn0
      have ha:arr= #[]:=by
       have:arr.size=0:=by rw [e2,e5,Nat.zero_mul]
       exact bW this
      have hp0:parts= #[]:=by
       cases hpl:parts.toList with
       |nil=>rw [← be (xs:=parts),hpl]
       |cons p ps=>
        obtain ⟨pi,px⟩:=p
        rw [hpl] at hl
        simp only [yhu,List.replicate_zero,aj] at hl
        split at hl
        ·simp [show Nat.blt pi 0=false from rfl] at hl
        ·cases hl
      subst ha hp0
      have hr0:(Array.range 0).map (fun _=>(default:Value))= #[]:=bW (by simp)
      simp [Instr.buildSlice,run_underlying hD,sizeOf,typeInfo,hi,newRow,Instr.fill,hr0]
     ·exact run_buildSlice w t e n _ arr i z hD hi hz (by rw [hs];omega) h0 e1'
    obtain ⟨G',_,hrel,hra⟩:=hr1.newRoot d (H0.none (hout d hd)) (e:=e) (ts:=te.ts) (xs:=xs) (v:= .slice (some ⟨w.heap.size,0,none⟩) n n) (w':=w.alloc (.cells arr e)) (cells:=arr.toList) rfl rfl rfl (by simp [World.alloc,-World.alloc_eq]) (fun k hk=> .inl (jl w _ hk)) hpos
     (by
      rw [e5]
      exact World.ownsRow_lit w arr n (bQ _) (by simp only [maxLen];omega) (by rw [e2,e5]))
     e3 (fun k hk=>by
      have:w.heap.size=k:=by simpa [Value.ownBlock] using hk
      exact hr1.free_new (by omega)) (fun j x hx=>RdE.mono (Hp.le.refl _) te.ts x _ _ (fun k v hv=>by rw [aQ];exact hv) (e4 j x hx))
    refine YZ (v:= .slice (some ⟨w.heap.size,0,none⟩) n n) (w':=w.alloc (.cells arr e)) ?_ (hK _ _ _ G' he ?_)
    ·simp only [execOp,hop]
     rw [Sem.run_bind,hrun]
     rfl
    ·have:=hrel.put o.dst hra
     rw [yfc s d _ is hb.1] at this
     exact this
 ·cases he
end
section
variable {P:Program} {C:Ctx} {w0:World} {lent:Nat→Prop} {H0:Base} {s:St} {a:Act} {w:World} {G:Gh} {o:Oper} {K:Act→World→Prop} {Q:Exit→Act→World→Prop} {R:Type} {k:Eff→Option R} {r:R} {lk:Lk} {call:C.Sem} {ct wn:Bool}
theorem ycQ: ∀ (l:List Int) (b:ByteArray),l.foldl (fun r n=>r.push (UInt8.ofNat n.toNat)) b=⟨b.data++(l.map fun n=>UInt8.ofNat n.toNat).toArray⟩
 |[],b=>by simp
 |n::l,b=>by
  rw [ba,ycQ l]
  congr 1
  apply Array.ext'
  simp [ByteArray.push]
theorem yhI (h:Rel P w0 lent H0 s a w G) (hlk:y5e lk s) {x:A} {l:List (yJ [.int .u8])} (hx:y3Z lk [.int .u8] x=some l) {u:Value} (hu:RA G x u):(Conv.bytesToString u).run P w= .ok (.string (ygc l)) w:=by
 obtain ⟨A,c,rfl,hm,hr⟩:=y26 h hlk hx hu
 cases A with
 |none=>
  have h0:l.length=0:=by
   rcases Nat.eq_zero_or_pos l.length with h0|h0
   ·exact h0
   ·obtain ⟨ad,ea,_⟩:=hr h0
    cases ea
  have:l=[]:=aP.1 h0
  subst this
  rfl
 |some ad=>
  have hl:(loadCells ad l.length).run P w= .ok ((show List Int from l).map (Value.int .u8)).toArray w:=by
   have:=run_loadCells_list (P:=P) w ad ((show List Int from l).map (Value.int .u8)) (fun j v hv=>by
    rw [bH] at hv
    obtain ⟨n,hn,rfl⟩:=aq.1 hv
    have hp:0<l.length:=by
     have:=(av.1 hn).1
     have h2:j<l.length:=this
     omega
    obtain ⟨ad',ea,hrd⟩:=hr hp
    injection ea with ea
    subst ea
    obtain ⟨v,hv,hvv⟩:=hrd j n hn
    have hv':w.cell? (ad.add (j*1+0))=some v:=hv
    rw [show v= .int .u8 n from hvv,show j*1+0=j by omega] at hv'
    exact hv')
   rw [cG] at this
   exact this
  rw [run_bytesToString w ad l.length c _ hl,ycQ]
  congr 2
  unfold ygc
  congr 1
  simp [ByteArray.empty,ByteArray.emptyWithCapacity]
  rfl
theorem yls {H:Hp} {e:Nat} {ts:List Ty} (xs:List (yJ ts)) (A:Option Addr) (n c:Nat) (hn:xs.length=n) (hc:n≤c) (hm:n≤9223372036854775807)
  (h:0<n→ ∃ ad,A=some ad∧ ∀ (j:Nat) (x:yJ ts),xs[j]? =some x→RdE H ts x (fun i=>y3z H (ad.add (j*ts.length+i)))):RdT H (.sl e ts) xs (.slice A n c):=by
 subst hn
 exact ⟨A,c,rfl,hc,hm,h⟩
theorem yhJ (h:Rel P w0 lent H0 s a w G) (src dst e:Nat) (xv:ByteArray) (hsz:xv.size<140737488351232) {D:TypeDesc} (hD:P.underlying src=some D) (hEi:P.underlying dst=some (.slice e)) (hFi:P.underlying e=some (.int .u8)):
  ∃ w' v G',(convert src dst (.string xv)).run P w= .ok v w'∧Rel P w0 lent H0 s a w' G'∧RdT G'.H (.sl e [.int .u8]) (QZ xv) v:=by
 have hrun:=Lib.run_convert_string_bytes (P:=P) w src dst e xv hD hEi hFi
 obtain ⟨G',hrel,hle,hnew⟩:=h.newH (w':=Lib.bytesWorld w e xv) (by simp [Lib.bytesWorld,World.freeze,World.alloc,World.drew,-World.alloc_eq,-World.drew_eq]) (by simp [Lib.bytesWorld,World.freeze,World.alloc,World.drew,-World.alloc_eq,-World.drew_eq]) (by simp [Lib.bytesWorld,World.freeze,World.alloc,World.drew,-World.alloc_eq,-World.drew_eq])
  (by rw [Lib.bytesWorld_size];omega) (fun k hk=>Lib.bytesWorld_at_old w e xv k hk)
 have hlen:(QZ xv).length=xv.size:=by
  unfold QZ
  rw [cG,aN]
  rfl
 refine ⟨_,_,G',hrun,hrel,yls (ts:=[.int .u8]) (QZ xv) _ xv.size _ hlen (grownCap_ge w xv.size 0 e) (by omega) (fun _=>⟨_,rfl,fun j y hy=> ?_⟩)⟩
 have hy':(QZ xv)[j]? =some y:=hy
 have hj:j<xv.size:=by
  have:=(av.1 hy').1
  rwa [hlen] at this
 refine ⟨.int .u8 y,?_,rfl⟩
 show y3z G'.H ((⟨w.heap.size,0,none⟩:Addr).add (j*1+0))=_
 rw [JR,show j*1+0=j by omega]
 have hc:=Lib.bytesWorld_cell w e xv j hj
 have hval:((xv.data.toList.getD j 0).toNat:Int)=y:=by
  unfold QZ at hy'
  rw [bH] at hy'
  obtain ⟨u,hu,he2⟩:=aq.1 hy'
  rw [au,hu]
  exact he2
 rw [hval] at hc
 rw [← hc]
 show y3z G'.H _=y3z (Zv (Lib.bytesWorld w e xv)) _
 unfold y3z
 rw [show G'.H w.heap.size=Zv (Lib.bytesWorld w e xv) w.heap.size from hnew _ (aS _)]
theorem yhK (hT:TOk C P) (h:Rel P w0 lent H0 s a w G) (hK:y4A P w0 lent H0 s o k r K) (hlk:y5e lk s) {src dst:Nat} {x:Operand} (hop:o.op= .convert src dst x) (he:jb C call ct wn o s.opd lk k=some r):o.wp P a w K Q:=by
 have hx:=h.opd x
 simp only [jb,hop] at he
 split at he
 ·
  rename_i ti k2 b k1 n hs hd hxa
  rw [hxa] at hx
  obtain ⟨D,hD,_⟩:=hT.und src _ hs
  obtain ⟨E,hE,hEE⟩:=hT.und dst _ hd
  have hEi:P.underlying dst=some (.int k2):=by rw [hE,show E= .int k2 from hEE]
  refine kQ h hK he (v:= .int k2 (k2.wrap n)) ?_ rfl
  simp only [execOp,hop]
  rw [show a.eval x= .int k1 n from hx,Sem.run_bind]
  have:(convert src dst (.int k1 n)).run P w= .ok (.int k2 (k2.wrap n)) w:=by
   cases D<;>simp [convert,run_underlying hD,run_underlying hEi,Conv.intToInt]
  rw [this]
  rfl
 ·
  rename_i ti b xv hs hd hxa
  rw [hxa] at hx
  obtain ⟨D,hD,_⟩:=hT.und src _ hs
  obtain ⟨E,hE,hEE⟩:=hT.und dst _ hd
  have hEi:P.underlying dst=some .string:=by rw [hE,show E= .string from hEE]
  refine kQ h hK he (v:= .string xv) ?_ rfl
  simp only [execOp,hop]
  rw [show a.eval x= .string xv from hx,Sem.run_bind]
  have:(convert src dst (.string xv)).run P w= .ok (.string xv) w:=by
   cases D<;>simp [convert,run_underlying hD,run_underlying hEi]
  rw [this]
  rfl
 ·
  rename_i b1 e b2 xv hs hd hxa
  rw [hxa] at hx
  split at he
  ·rename_i b3 hte
   split at he
   ·rename_i hsz
    obtain ⟨D,hD,_⟩:=hT.und src _ hs
    obtain ⟨E,hE,hEE,_⟩:=hT.und dst _ hd
    obtain ⟨F,hF,hFF⟩:=hT.und e _ hte
    have hEi:P.underlying dst=some (.slice e):=by rw [hE,hEE]
    have hFi:P.underlying e=some (.int .u8):=by rw [hF,show F= .int .u8 from hFF]
    obtain ⟨w',v,G',hrun,hrel,hrd⟩:=yhJ h src dst e xv hsz hD hEi hFi
    refine YZ (v:=v) (w':=w') ?_ (hK _ _ _ G' he (hrel.put o.dst hrd))
    simp only [execOp,hop]
    rw [show a.eval x= .string xv from hx,Sem.run_bind,hrun]
    rfl
   ·cases he
  ·cases he
 ·
  rename_i e b1 b2 hs hd hneg
  split at he
  ·rename_i b3 l hte hl
   obtain ⟨D,hD,hDD,_⟩:=hT.und src _ hs
   obtain ⟨E,hE,hEE⟩:=hT.und dst _ hd
   obtain ⟨F,hF,hFF⟩:=hT.und e _ hte
   have hDi:P.underlying src=some (.slice e):=by rw [hD,hDD]
   have hEi:P.underlying dst=some .string:=by rw [hE,show E= .string from hEE]
   have hFi:P.underlying e=some (.int .u8):=by rw [hF,show F= .int .u8 from hFF]
   have ht:=yhI (P:=P) h hlk hl hx
   obtain ⟨A,c,hv,_⟩:=y26 h hlk hl hx
   refine kQ h hK he (v:= .string (ygc l)) ?_ rfl
   simp only [execOp,hop]
   rw [hv] at ht
   rw [hv,Sem.run_bind,run_convert_bytes_string w src dst e A _ c hDi hFi hEi,ht]
   rfl
  ·cases he
 ·cases he
end
section
variable {P:Program} {C:Ctx} {w0:World} {lent:Nat→Prop} {H0:Base} {s:St} {a:Act} {w:World} {G:Gh} {o:Oper} {K:Act→World→Prop} {Q:Exit→Act→World→Prop} {R:Type} {k:Eff→Option R} {r:R} {lk:Lk} {call:C.Sem}
def y8y (dp:Bool) (H:Hp) (w:World):(t:Ty)→Bool→El t→Value→(Nat→Prop)→Prop
 | .sl e ts,true,xs,v,b=>match dp with
  |true=>DpT w (.sl e ts) b xs v∧ ∀ k,b k→k<w.heap.size
  |false=>b=(fun k=>v.ownBlock=some k)∧0<ts.length∧ ∃ cells,w.ownsRow 0 e ts.length v (List.length xs) cells∧(∀ u∈cells,u.oneCell'=true)∧ ∀ (j:Nat) (x:yJ ts),(show List (yJ ts) from xs)[j]? =some x→RdE H ts x (fun k=>cells[j*ts.length+k]?)
 |t,_,x,v,b=>b=(fun _=>False)∧RdT H t x v
def kX (dp:Bool) (H:Hp) (w:World):(ts:List Ty)→List Bool→yJ ts→List Value→List (Nat→Prop)→Prop
 |[],_,_,vs,bs=>vs=[]∧bs=[]
 |t::[],os,x,vs,bs=> ∃ v b,vs=[v]∧bs=[b]∧y8y dp H w t (os.headD false) x v b
 |t::u::r,os,x,vs,bs=> ∃ v b vs' bs',vs=v::vs'∧bs=b::bs'∧y8y dp H w t (os.headD false) x.1 v b∧kX dp H w (u::r) os.tail x.2 vs' bs'
theorem qC.makeA {k d:Nat} (hf:qC w0 lent s G k) {ob:Ob} {G':Gh} (hag:Agree G G' d) (hH:G'.H=G.H) (hb: ¬ ze G' d ob k):qC w0 lent (s.make d ob) G' k:=by
 have h1:=hf.forget hag hH
 refine ⟨h1.1,h1.2.1,fun j oj hj hbj=> ?_⟩
 have hj':yF ((d,ob)::(s.forget d).o) j=some oj:=hj
 by_cases hjd:d=j
 ·subst hjd
  simp only [yF,yp,ai,ap] at hj'
  subst hj'
  exact hb hbj
 ·simp only [yF,yB hjd,ag] at hj'
  exact h1.2.2 j oj hj' hbj
theorem qC.make {k d:Nat} (hf:qC w0 lent s G k) {ob:Ob} {gg:Nat×Nat} {v:Value} {z:Nat×Nat} (hb: ¬ ze (G.upd d gg v z) d ob k):qC w0 lent (s.make d ob) (G.upd d gg v z) k:=
 hf.makeA (G.upd_agree d gg v z) rfl hb
def y6J (G G':Gh) (j:Nat):Prop:=G'.g j=G.g j∧G'.sv j=G.sv j∧G'.sz j=G.sz j∧G'.hd j=G.hd j
theorem y6J.refl {G:Gh} {j:Nat}:y6J G G j:=⟨rfl,rfl,rfl,rfl⟩
theorem y6J.trans {G G' G'':Gh} {j:Nat} (h:y6J G G' j) (h':y6J G' G'' j):y6J G G'' j:=⟨h'.1.trans h.1,h'.2.1.trans h.2.1,h'.2.2.1.trans h.2.2.1,h'.2.2.2.trans h.2.2.2⟩
theorem Agree.same {G G':Gh} {i j:Nat} (h:Agree G G' i) (hj:j≠i):y6J G G' j:=⟨h.g j hj,h.sv j hj,h.sz j hj,h.hd j hj⟩
theorem y7t (h:Rel P w0 lent H0 s a w G) (dp tg:Bool) (t:Ty) (own:Bool) (x:El t) (n:Nat) (hn:950≤n) (v:Value) (b:Nat→Prop) (htg:tg=true→G.pv (n - 950)=v) (htp:tg=true→dp=false→ ∀ k,b k→G.pv.tp k=w.heap[k]?) (hc:y8y dp G.H w t own x v b) (hf:(tg&& !dp)=false→ ∀ k,b k→qC w0 lent s G k):
  ∃ G',G'.H=G.H∧(∀ j,j∉zp (Yw dp tg t own x n).2→y6J G G' j)∧Rel P w0 lent H0 (s.makeAll (Yw dp tg t own x n).2) a w G'∧RA G' (Yw dp tg t own x n).1 v∧
   ∀ k,qC w0 lent s G k→ ¬ b k→qC w0 lent (s.makeAll (Yw dp tg t own x n).2) G' k:=by
 have plain: ∀ {t:Ty} {own:Bool} {x:El t},Yw dp tg t own x n=(.val t x,[])→b=(fun _=>False)∧RdT G.H t x v→ ∃ G',G'.H=G.H∧(∀ j,j∉zp (Yw dp tg t own x n).2→y6J G G' j)∧Rel P w0 lent H0 (s.makeAll (Yw dp tg t own x n).2) a w G'∧RA G' (Yw dp tg t own x n).1 v∧
   ∀ k,qC w0 lent s G k→ ¬ b k→qC w0 lent (s.makeAll (Yw dp tg t own x n).2) G' k:=by
  intro t own x he hr
  rw [he]
  exact ⟨G,rfl,fun _ _=>y6J.refl,h,hr.2,fun k hk _=>hk⟩
 have root: ∀ {e:Nat} {ts:List Ty} {x:El (.sl e ts)} {cells:List Value},(∀ k,b k→qC w0 lent s G k)→(Yw dp tg (.sl e ts) true x n)=(.own n,[(n,.root true e ts x)])→0<ts.length→w.ownsRow 0 e ts.length v (List.length x) cells→(∀ u∈cells,u.oneCell'=true)→(∀ k,v.ownBlock=some k→b k)→(∀ (j:Nat) (y:yJ ts),(show List (yJ ts) from x)[j]? =some y→RdE G.H ts y (fun k=>cells[j*ts.length+k]?))→
   ∃ G',G'.H=G.H∧(∀ j,j∉zp (Yw dp tg (.sl e ts) true x n).2→y6J G G' j)∧Rel P w0 lent H0 (s.makeAll (Yw dp tg (.sl e ts) true x n).2) a w G'∧RA G' (Yw dp tg (.sl e ts) true x n).1 v∧
   ∀ k,qC w0 lent s G k→ ¬ b k→qC w0 lent (s.makeAll (Yw dp tg (.sl e ts) true x n).2) G' k:=by
  intro e ts x cells hf he hpos hown hone hbk hrd
  rw [he]
  have hr:=h.newRoot' n (H0.none (.inr hn)) (e:=e) (ts:=ts) (xs:=x) (v:=v) (w':=w) rfl rfl rfl (aS _) (fun _ _=> .inl rfl) hpos hown hone (fun k hk=>hf k (hbk k hk)) hrd
  refine ⟨G.upd n ((v.ownBlock).getD 0,0) v (ts.length,List.length x),rfl,fun j hj=>(G.upd_agree n _ v _).same (by simpa [zp] using hj),hr.1,hr.2,fun k hk hne=>hk.make fun he=>hne (hbk k ?_)⟩
  simpa [ze,Gh.upd] using he
 cases t with
 |sl e ts=>
  cases own with
  |false=>exact plain rfl hc
  |true=>
   cases dp with
   |false=>
    obtain ⟨hb,hpos,cells,hown,hone,hrd⟩:=hc
    cases htt:tg with
    |false=>
     have:=root (x:=x) (hf (by rw [htt];rfl)) (by rw [htt];rfl) hpos hown hone (fun k hk=>by rw [hb];exact hk) hrd
     rw [htt] at this
     exact this
    |true=>
     refine ⟨G,rfl,fun _ _=>y6J.refl,h,?_,fun k hk _=>hk⟩
     show RdR G.H G.pv.tp ts x v
     rcases hown.2 with ⟨hv,hn⟩|⟨g,cap,cur,hv,_,hg,hle,hm,hsz,htk⟩
     ·exact ⟨none,0,by rw [hv,hn],bX hn,by rw [hn];omega,fun hp=>by omega⟩
     ·refine ⟨some ⟨g,0,none⟩,cap,hv,hle,aO hle (aO hm (by decide)),fun _=>⟨_,rfl,fun j y hj=> ?_⟩⟩
      have hk:G.pv.tp g=some (.cells cur e (0,0)):=(htp htt rfl g (by rw [hb,hv];rfl)).trans hg
      refine RdE.mono (Hp.le.refl _) ts y _ _ (fun i u hu=> ?_) (hrd j y hj)
      rw [JR]
      unfold y3z
      simp only [hk]
      rw [← htk,aD] at hu
      split at hu
      ·simpa using hu
      ·cases hu
   |true=>
    obtain ⟨hd,hlt⟩:=hc
    obtain ⟨cells,Bs,hd⟩:=DpT.row.1 hd
    have deep: ∀ (tag:Nat),(0<tag→v=G.pv (tag - 1))→Yw true tg (.sl e ts) true x n=(.own n,[(n,.deep true tag e ts x)])→ ∃ G',G'.H=G.H∧(∀ j,j∉zp (Yw true tg (.sl e ts) true x n).2→y6J G G' j)∧Rel P w0 lent H0 (s.makeAll (Yw true tg (.sl e ts) true x n).2) a w G'∧RA G' (Yw true tg (.sl e ts) true x n).1 v∧
      ∀ k,qC w0 lent s G k→ ¬ b k→qC w0 lent (s.makeAll (Yw true tg (.sl e ts) true x n).2) G' k:=by
     intro tag htag he
     rw [he]
     have hr:=h.newDeep n (H0.none (.inr hn)) (fin:=true) (tag:=tag) (w':=w) rfl rfl rfl (aS _) (fun _ _=> .inl rfl) hd htag hlt (hf (by simp))
     refine ⟨G.updD n ((v.ownBlock).getD 0,0) v (ts.length,List.length x) b (fun m=>cells.getD m undef),rfl,fun j hj=>(G.updD_agree n _ v _ _ _).same (by simpa [zp] using hj),hr.1,hr.2,fun k hk hne=>hk.makeA (G.updD_agree n _ v _ _ _) rfl fun he=>hne ?_⟩
     simpa [ze,Gh.updD] using he
    cases htt:tg with
    |true=>
     have:=deep (n - 949) (fun _=>by
      rw [show n - 949 - 1=n - 950 by omega]
      exact (htg htt).symm) (by rw [htt];simp [Yw])
     rw [htt] at this
     exact this
    |false=>
     cases hfl:vM ts with
     |true=>
      have:=root (x:=x) (hf (by rw [htt];rfl)) (by rw [htt];simp [Yw,hfl]) hd.pos hd.row hd.one hd.top (fun j y hj=>ynw ts y _ hfl (hd.rd j y hj))
      rw [htt] at this
      exact this
     |false=>
      have:=deep 0 (fun h=>absurd h (Nat.lt_irrefl 0)) (by rw [htt];simp [Yw,hfl])
      rw [htt] at this
      exact this
 |int _=>exact plain (by cases own<;>rfl) (by cases own<;>exact hc)
 |bool=>exact plain (by cases own<;>rfl) (by cases own<;>exact hc)
 |str=>exact plain (by cases own<;>rfl) (by cases own<;>exact hc)
theorem makeAll_append: ∀ (l l':List (Nat×Ob)) (s:St),s.makeAll (l++l')=(s.makeAll l).makeAll l'
 |[],_,_=>rfl
 |(i,x)::l,l',s=>makeAll_append l l' (s.make i x)
theorem yhL {G G':Gh} {dp tg:Bool} {t:Ty} {own:Bool} {x:El t} {n:Nat} {v:Value} (hH:G'.H=G.H) (hp:G'.pv=G.pv) (hn:G'.sv n=G.sv n) (h:RA G (Yw dp tg t own x n).1 v):RA G' (Yw dp tg t own x n).1 v:=by
 have plain:RdT G.H t x v→RdT G'.H t x v:=fun h=>by rw [hH];exact h
 cases t with
 |sl e ts=>
  cases own with
  |false=>exact plain h
  |true=>
   cases hc:tg&& !dp with
   |true=>
    simp only [Yw,hc,ai] at h ⊢
    show RdR G'.H G'.pv.tp ts x v
    rw [hH,hp]
    exact h
   |false=>
    simp only [Yw,hc,ag] at h ⊢
    exact ⟨by rw [hn];exact h.1,h.2⟩
 |int _=>cases own<;>exact plain h
 |bool=>cases own<;>exact plain h
 |str=>cases own<;>exact plain h
theorem vW {α:Type}: ∀ (X Y:List (Nat×α)),zp (X++Y)=zp X++zp Y
 |[],_=>rfl
 |(i,_)::X,Y=>by simp [zp,vW X Y]
theorem y5q (dp tg:Bool) (t:Ty) (own:Bool) (x:El t) (n:Nat): ∀ j∈zp (Yw dp tg t own x n).2,j=n:=by
 intro j hj
 cases t<;>cases own<;>cases dp<;>cases tg<;>simp [Yw,zp] at hj<;>exact hj
theorem y5T (dp tg:Bool): ∀ (ts:List Ty) (os:List Bool) (x:yJ ts) (n:Nat),∀ j∈zp (yM dp tg ts os x n).2,n≤j∧j<n+ts.length:=by
 intro ts
 induction ts with
 |nil=>
  intro os x n j hj
  exact absurd hj (by simp [yM,zp])
 |cons t ts ih=>
  intro os x n j hj
  cases ts with
  |nil=>
   have:=y5q dp tg t (os.headD false) x n j hj
   simp only [ah,aj]
   omega
  |cons u r=>
   rw [show (yM dp tg (t::u::r) os x n).2=(Yw dp tg t (os.headD false) x.1 n).2++(yM dp tg (u::r) os.tail x.2 (n+1)).2 from rfl,vW] at hj
   rcases aF.1 hj with hj|hj
   ·have:=y5q dp tg t _ x.1 n j hj
    simp only [ah]
    omega
   ·have:=ih os.tail x.2 (n+1) j hj
    simp only [ah] at this ⊢
    omega
theorem y4D (dp tg:Bool): ∀ (ts:List Ty) (os:List Bool) (x:yJ ts) (n:Nat) (vs:List Value) (bs:List (Nat→Prop)) (s:St) (G:Gh),950≤n→Rel P w0 lent H0 s a w G→(tg=true→ ∀ j v,vs[j]? =some v→G.pv (n+j - 950)=v)→(tg=true→dp=false→ ∀ k,In bs k→G.pv.tp k=w.heap[k]?)→kX dp G.H w ts os x vs bs→((tg&& !dp)=false→ ∀ k,In bs k→qC w0 lent s G k)→y3A bs→
  ∃ G',G'.H=G.H∧(∀ j,j∉zp (yM dp tg ts os x n).2→y6J G G' j)∧Rel P w0 lent H0 (s.makeAll (yM dp tg ts os x n).2) a w G'∧RL G' (yM dp tg ts os x n).1 vs∧
   ∀ k,qC w0 lent s G k→ ¬ In bs k→qC w0 lent (s.makeAll (yM dp tg ts os x n).2) G' k:=by
 intro ts
 induction ts with
 |nil=>
  intro os x n vs bs s G hn h htg htp hc hf ha
  obtain ⟨rfl,rfl⟩:=hc
  exact ⟨G,rfl,fun _ _=>y6J.refl,h,trivial,fun k hk _=>hk⟩
 |cons t ts ih=>
  intro os x n vs bs s G hn h htg htp hc hf ha
  cases ts with
  |nil=>
   obtain ⟨v,b,rfl,rfl,hcr⟩:=hc
   obtain ⟨G',h1,h2,h3,h4,h5⟩:=y7t h dp tg t (os.headD false) x n hn v b (fun ht=>htg ht 0 v rfl) (fun ht hd k hk=>htp ht hd k (In.cons.2 (.inl hk))) hcr (fun hz k hk=>hf hz k (In.cons.2 (.inl hk)))
   exact ⟨G',h1,fun j hj=>h2 j hj,h3,⟨h4,trivial⟩,fun k hk hne=>h5 k hk (fun e=>hne (In.cons.2 (.inl e)))⟩
  |cons u r=>
   obtain ⟨v,b,vs',bs',rfl,rfl,hcr,hcs⟩:=hc
   obtain ⟨G1,h1,h2,h3,h4,h5⟩:=y7t h dp tg t (os.headD false) x.1 n hn v b (fun ht=>htg ht 0 v rfl) (fun ht hd k hk=>htp ht hd k (In.cons.2 (.inl hk))) hcr (fun hz k hk=>hf hz k (In.cons.2 (.inl hk)))
   have ha':=bq.1 ha
   obtain ⟨G',e1,e2,e3,e4,e5⟩:=ih os.tail x.2 (n+1) vs' bs' _ G1 (by omega) h3 (fun ht j w hw=>by
    rw [h3.pv,← h.pv,show n+1+j - 950=n+(j+1) - 950 by omega]
    exact htg ht (j+1) w (by simpa using hw)) (fun ht hd k hk=>by
    rw [h3.pv,← h.pv]
    exact htp ht hd k (In.cons.2 (.inr hk))) (by rw [h1];exact hcs) (fun hz k hk=>h5 k (hf hz k (In.cons.2 (.inr hk))) (fun e=>by
    obtain ⟨c,hc,hck⟩:=hk
    exact ha'.1 c hc k e hck)) ha'.2
   refine ⟨G',e1.trans h1,fun j hj=> ?_,?_,⟨?_,e4⟩,fun k hk hne=> ?_⟩
   ·rw [show (yM dp tg (t::u::r) os x n).2=(Yw dp tg t (os.headD false) x.1 n).2++(yM dp tg (u::r) os.tail x.2 (n+1)).2 from rfl,vW,aF,not_or] at hj
    exact (h2 j hj.1).trans (e2 j hj.2)
   ·rw [show (yM dp tg (t::u::r) os x n).2=(Yw dp tg t (os.headD false) x.1 n).2++(yM dp tg (u::r) os.tail x.2 (n+1)).2 from rfl,makeAll_append]
    exact e3
   ·exact yhL e1 (e3.pv.trans h3.pv.symm) (e2 n (fun hn=>by have:=(y5T dp tg (u::r) os.tail x.2 (n+1) n hn).1;omega)).2.1 h4
   ·rw [show (yM dp tg (t::u::r) os x n).2=(Yw dp tg t (os.headD false) x.1 n).2++(yM dp tg (u::r) os.tail x.2 (n+1)).2 from rfl,makeAll_append]
    exact e5 k (h5 k hk (fun e=>hne (In.cons.2 (.inl e)))) (fun e=>hne (In.cons.2 (.inr e)))
theorem y7u (h:Rel P w0 lent H0 s a w G) (hlk:y5e lk s) {G1:Gh} (hg:Grown G G1) {dp bk own:Bool} {t:Ty} {x:A} {y:El t} {is gs:List Nat} (hx:qG lk dp bk own t x=some (y,is,gs)) (hs:JD lk G1 is) {v:Value} (hr:RA G x v):
  ∃ b,y8y dp G1.H w t own y v b∧y20 s G gs [b]∧(own=false→ ∀ k,¬ b k)∧ ∀ o i c,own=true→x= .bor o i c→TgB s w G o i c b:=by
 have plain:own=false∨(t.flat=true∧ ∀ o i c,x≠ .bor o i c)→RdT G1.H t y v→ ∃ b,y8y dp G1.H w t own y v b∧y20 s G gs [b]∧(own=false→ ∀ k,¬ b k)∧ ∀ o i c,own=true→x= .bor o i c→TgB s w G o i c b:=by
  intro ho hrd
  refine ⟨fun _=>False,?_,fun k hk=>by simp [In] at hk,fun _ _ h=>h,fun o i c ht hx=>by
   rcases ho with ho|ho
   ·rw [ho] at ht
    cases ht
   ·exact absurd hx (ho.2 o i c)⟩
  cases t with
  |sl e ts=>
   rcases ho with rfl|ho
   ·exact ⟨rfl,hrd⟩
   ·simp [Ty.flat] at ho
  |int _=>cases own<;>exact ⟨rfl,hrd⟩
  |bool=>cases own<;>exact ⟨rfl,hrd⟩
  |str=>cases own<;>exact ⟨rfl,hrd⟩
 cases own with
 |false=>
  have hx':(toT lk t x).map (fun (y,is)=>(y,is,([]:List Nat)))=some (y,is,gs):=hx
  obtain ⟨p,hp,he⟩:=aq.1 hx'
  obtain ⟨y',is'⟩:=p
  injection he with e1 e2
  injection e2 with e2 e3
  subst e1 e2
  exact plain (.inl rfl) (y4B hp hs (hr.grown hg))
 |true=>
  cases dp with
  |true=>
   simp only [qG,ai] at hx
   obtain ⟨p,hp,he⟩:=aq.1 hx
   obtain ⟨y',gs'⟩:=p
   injection he with e1 e2
   injection e2 with e2 e3
   subst e1 e2 e3
   obtain ⟨B,h1,h2,h3,h4⟩:=y7k h hlk hp hr
   have nob:t.flat=true→ ∀ o i c,x≠ .bor o i c:=by
    intro hf o i c hx0
    subst hx0
    obtain ⟨⟨_,_⟩,A,n,m,hv⟩:=hr
    have h1':=(DpT.flat hf G1.H).1 h1
    rw [hv] at h1'
    cases t with
    |sl e ts=>simp [Ty.flat] at hf
    |int _=>cases (show Value.slice A n m=_ from h1')
    |bool=>cases (show Value.slice A n m=_ from h1')
    |str=>cases (show Value.slice A n m=_ from h1')
   cases t with
   |sl e ts=>exact ⟨B,⟨h1,h3⟩,h2,fun h=>Bool.noConfusion h,fun o i c _ hx=>h4 o i c hx⟩
   |int _=>exact ⟨fun _=>False,⟨rfl,(DpT.flat rfl G1.H).1 h1⟩,fun k hk=>by simp [In] at hk,fun _ _ h=>h,fun o i c _ hx=>absurd hx (nob rfl o i c)⟩
   |bool=>exact ⟨fun _=>False,⟨rfl,(DpT.flat rfl G1.H).1 h1⟩,fun k hk=>by simp [In] at hk,fun _ _ h=>h,fun o i c _ hx=>absurd hx (nob rfl o i c)⟩
   |str=>exact ⟨fun _=>False,⟨rfl,(DpT.flat rfl G1.H).1 h1⟩,fun k hk=>by simp [In] at hk,fun _ _ h=>h,fun o i c _ hx=>absurd hx (nob rfl o i c)⟩
  |false=>
  cases x with
  |own q=>
   simp only [qG,ai,ag] at hx
   cases hq:lk q with
   |none=>simp [hq] at hx
   |some ob=>
    cases ob with
    |root own e ts xs=>
     cases own with
     |false=>simp [hq] at hx
     |true=>
      simp only [hq] at hx
      obtain ⟨z,hz,he⟩:=aq.1 hx
      injection he with e1 e2
      injection e2 with e2 e3
      subst e1 e2 e3
      unfold j9 at hz
      split at hz
      ·rename_i heq
       have ht:=Ty.eqb_eq _ _ heq
       subst ht
       injection hz with hz
       subst hz
       obtain ⟨hsz,hpos,cells,hown,hone,hblk,hrd⟩:=h.objs q _ (hlk q _ hq)
       refine ⟨fun k=>v.ownBlock=some k,⟨rfl,hpos,cells,by rw [hr.1];exact hown,hone,fun j x hj=>RdE.mono hg.H _ x _ _ (fun _ _ hv=>hv) (hrd j x hj)⟩,fun k hk=>⟨q,by simp,_,hlk q _ hq,?_⟩,fun h=>Bool.noConfusion h,fun _ _ _ _ hx=>by (cases hx)⟩
       have hk':v.ownBlock=some k:=by simpa [In] using hk
       show (G.sv q).ownBlock=some k
       rw [← hr.1]
       exact hk'
      ·cases hz
    |_=>simp [hq] at hx
  |nils=>
   cases t with
   |sl e ts=>
    simp only [qG,ai,ag] at hx
    cases hb:Nat.blt 0 ts.length with
    |false=>simp [hb] at hx
    |true=>
     simp only [hb,ai] at hx
     injection hx with hx
     injection hx with e1 e2
     subst e1
     have hv:v= .slice none 0 0:=hr
     subst hv
     have hpos:=wM hb
     exact ⟨fun _=>False,⟨by funext k;simp [Value.ownBlock],hpos,[],World.ownsRow_nil w 0 e ts.length,by simp,fun j x hx=>by simp [y5g] at hx⟩,fun k hk=>by simp [In] at hk,fun h=>by (cases h),fun _ _ _ _ hx=>by (cases hx)⟩
   |_=>simp [qG] at hx
  |val t' x'=>
   simp only [qG,ai,ag] at hx
   cases hfl:Ty.flat t with
   |false=>simp [hfl] at hx
   |true=>
    simp only [hfl,ai] at hx
    obtain ⟨z,hz,he⟩:=aq.1 hx
    injection he with e1 e2
    subst e1
    exact plain (.inr ⟨hfl,fun _ _ _ he=>by cases he⟩) (qK hz (hr.grown hg))
  |_=>cases t<;>simp [qG] at hx
theorem y7v (os:List Bool):qZ os []=[]:=by cases os<;>rfl
theorem y90 (h:Rel P w0 lent H0 s a w G) (hlk:y5e lk s) {G1:Gh} (hg:Grown G G1) (dp bk:Bool): ∀ (ts:List Ty) (os:List Bool) (l:List A) (y:yJ ts) (is gs:List Nat),vR lk dp bk ts os l=some (y,is,gs)→JD lk G1 is→gs.Nodup→ ∀ (vs:List Value),RL G l vs→
  ∃ bs,kX dp G1.H w ts os y vs bs∧y20 s G gs bs∧y3A bs∧(qZ os l=[]→ ∀ k,¬ In bs k)∧ ∀ o i c,qZ os l=[.bor o i c]→ ∃ B,TgB s w G o i c B∧ ∀ k,In bs k→B k:=by
 have one: ∀ {t:Ty} {os:List Bool} {x:A} {l:List A} {b:Nat→Prop} {bs:List (Nat→Prop)},(os.headD false=false→ ∀ k,¬ b k)→(∀ o i c,os.headD false=true→x= .bor o i c→TgB s w G o i c b)→(qZ os.tail l=[]→ ∀ k,¬ In bs k)→(∀ o i c,qZ os.tail l=[.bor o i c]→ ∃ B,TgB s w G o i c B∧ ∀ k,In bs k→B k)→
   (qZ os (x::l)=[]→ ∀ k,¬ In (b::bs) k)∧ ∀ o i c,qZ os (x::l)=[.bor o i c]→ ∃ B,TgB s w G o i c B∧ ∀ k,In (b::bs) k→B k:=by
  intro t os x l b bs h1 h2 h3 h4
  cases os with
  |nil=>
   refine ⟨fun _ k hk=> ?_,fun o i c he=>by simp [qZ] at he⟩
   rcases In.cons.1 hk with hk|hk
   ·exact h1 rfl k hk
   ·exact h3 rfl k hk
  |cons q os=>
   cases q with
   |false=>
    have e:qZ (false::os) (x::l)=qZ os l:=rfl
    rw [e]
    refine ⟨fun he k hk=> ?_,fun o i c he=> ?_⟩
    ·rcases In.cons.1 hk with hk|hk
     ·exact h1 rfl k hk
     ·exact h3 he k hk
    ·obtain ⟨B,b1,b2⟩:=h4 o i c he
     refine ⟨B,b1,fun k hk=> ?_⟩
     rcases In.cons.1 hk with hk|hk
     ·exact absurd hk (h1 rfl k)
     ·exact b2 k hk
   |true=>
    have e:qZ (true::os) (x::l)=x::qZ os l:=rfl
    rw [e]
    refine ⟨fun he=>(by cases he),fun o i c he=> ?_⟩
    injection he with e1 e2
    refine ⟨b,h2 o i c rfl e1,fun k hk=> ?_⟩
    rcases In.cons.1 hk with hk|hk
    ·exact hk
    ·exact absurd hk (h3 e2 k)
 intro ts
 induction ts with
 |nil=>
  intro os l y is gs hx hs hn vs hr
  cases l with
  |nil=>
   cases vs with
   |nil=>exact ⟨[],⟨rfl,rfl⟩,fun k hk=>absurd hk In.nil,List.Pairwise.nil,fun _ _ h=>In.nil h,fun o i c he=>by cases os<;>simp [qZ] at he⟩
   |cons _ _=>exact hr.elim
  |cons x l=>exact absurd hx (by rw [show vR lk dp bk [] os (x::l)=none from rfl];exact fun h=>by cases h)
 |cons t ts ih=>
  intro os l y is gs hx hs hn vs hr
  cases ts with
  |nil=>
   cases l with
   |nil=>exact absurd hx (by rw [show vR lk dp bk [t] os []=none from rfl];exact fun h=>by cases h)
   |cons x l=>
    cases l with
    |cons x2 l=>exact absurd hx (by rw [show vR lk dp bk [t] os (x::x2::l)=none from rfl];exact fun h=>by cases h)
    |nil=>
     have hx':qG lk dp bk (os.headD false) t x=some (y,is,gs):=hx
     cases vs with
     |nil=>exact hr.elim
     |cons v vs=>
      cases vs with
      |cons _ _=>exact hr.2.elim
      |nil=>
       obtain ⟨b,h1,h2,h3,h4⟩:=y7u h hlk hg hx' hs hr.1
       obtain ⟨o1,o2⟩:=one (t:=t) (l:=[]) (bs:=[]) h3 h4 (fun _ _ h=>In.nil h) (fun o i c he=>by rw [y7v] at he;cases he)
       exact ⟨[b],⟨v,b,rfl,rfl,h1⟩,h2,bZ _ _,o1,o2⟩
  |cons u r=>
   cases l with
   |nil=>exact absurd hx (by rw [show vR lk dp bk (t::u::r) os []=none from rfl];exact fun h=>by cases h)
   |cons x l=>
    have hx':(match qG lk dp bk (os.headD false) t x with
     |some (x,is,gs)=>match vR lk dp bk (u::r) os.tail l with
      |some (y,js,hs)=>some (((x,y):yJ (t::u::r)),is++js,gs++hs)
      |none=>none
     |none=>none)=some (y,is,gs):=hx
    cases h1:qG lk dp bk (os.headD false) t x with
    |none=>
     rw [h1] at hx'
     cases hx'
    |some p=>
     obtain ⟨x1,is1,gs1⟩:=p
     rw [h1] at hx'
     cases h2:vR lk dp bk (u::r) os.tail l with
     |none=>
      rw [h2] at hx'
      cases hx'
     |some q=>
      obtain ⟨y1,is2,gs2⟩:=q
      rw [h2] at hx'
      injection hx' with hx'
      injection hx' with e1 e2
      injection e2 with e2 e3
      subst e1 e2 e3
      cases vs with
      |nil=>exact hr.elim
      |cons v vs=>
       obtain ⟨n1,n2,n3⟩:=bY.1 hn
       obtain ⟨b,c1,c2,c3,c4⟩:=y7u h hlk hg h1 hs.left hr.1
       obtain ⟨bs,d1,d2,d3,d4,d5⟩:=ih os.tail l y1 is2 gs2 h2 hs.right n2 vs hr.2
       have hap:=y7l h c2 d2 (fun q hq hq'=>n3 q hq q hq' rfl)
       refine ⟨b::bs,⟨v,b,vs,bs,rfl,rfl,c1,d1⟩,fun k hk=> ?_,bq.2 ⟨fun c hc k hb hck=>hap k (by simpa [In] using hb) ⟨c,hc,hck⟩,d3⟩,(one (t:=t) c3 c4 d4 d5).1,(one (t:=t) c3 c4 d4 d5).2⟩
       rcases In.cons.1 hk with hk|hk
       ·obtain ⟨q,hq,rest⟩:=c2 k (by simpa [In] using hk)
        exact ⟨q,by simp [hq],rest⟩
       ·obtain ⟨q,hq,rest⟩:=d2 k hk
        exact ⟨q,by simp [hq],rest⟩
end
section
variable {P:Program} {C:Ctx} {s:St} {o:Oper} {R:Type} {lk:Lk} {call:C.Sem} {ct wn:Bool} {ρ:Operand→A}
theorem yhM {dst:Option Nat} {g q:Nat} {as:List A} (k:Eff→Option R):yiw C call lk dst g as q k=(yiw C call lk dst g as q some).bind k:=by
 unfold yiw
 simp only [ae]
 (repeat' (split<;>(try simp only [Option.bind_none,aa,Option.bind_assoc,ae])<;>try rfl))
 all_goals (congr 1;funext y;cases y0H _ _ _ _ _ _ _ _ y<;>rfl)
set_option maxHeartbeats 1000000 in
theorem y7w (k:Eff→Option R):jb C call ct wn o ρ lk k=(jb C call ct wn o ρ lk some).bind k:=by
 unfold jb
 cases o.op<;>simp only [yiu,yhM k,Option.bind_none,aa,ae]<;>(repeat' (split<;>(try simp only [Option.bind_none,aa,Option.bind_assoc,ae])<;>try rfl))<;>(try rfl)
 all_goals (first|(exfalso;rename_i heq;cases heq;done)|(congr 1;funext y;cases y0H _ _ _ _ _ _ _ _ y<;>rfl)|skip)
theorem y5U {ρ ρ':Operand→A} (fs:List (Nat×Nat)): ∀ (parts:List (Nat×Operand)) (cs:List A),(∀ p∈parts,ρ p.2=ρ' p.2)→y4q C ρ fs cs parts=y4q C ρ' fs cs parts
 |[],_,_=>rfl
 |(i,x)::r,cs,h=>by
  have hx:=h (i,x) (by simp)
  simp only at hx
  have ih:=fun cs=>y5U fs r cs (fun p hp=>h p (by simp [hp]))
  simp only [y4q,hx,ih]
theorem y91 {ρ ρ':Operand→A} (ts:List Ty): ∀ (parts:List (Nat×Operand)) (xs:List (yJ ts)) (is:List Nat),(∀ p∈parts,ρ p.2=ρ' p.2)→yhu lk ρ ts parts xs is=yhu lk ρ' ts parts xs is
 |[],_,_,_=>rfl
 |(i,x)::r,xs,is,h=>by
  have hx:=h (i,x) (by simp)
  simp only at hx
  have ih:=fun xs is=>y91 ts r xs is (fun p hp=>h p (by simp [hp]))
  simp only [yhu,hx,ih]
theorem y92 {ρ ρ':Operand→A} (ts:List Ty): ∀ (parts:List (Nat×Operand)) (xs:List (yJ ts)) (is:List Nat),(∀ p∈parts,ρ p.2=ρ' p.2)→yht lk ρ ts parts xs is=yht lk ρ' ts parts xs is
 |[],_,_,_=>rfl
 |(i,x)::r,xs,is,h=>by
  have hx:=h (i,x) (by simp)
  simp only at hx
  have ih:=fun xs is=>y92 ts r xs is (fun p hp=>h p (by simp [hp]))
  simp only [yht,hx,ih]
theorem yhN {ρ ρ':Operand→A} (k:Eff→Option R) (h: ∀ x∈o.op.operands,ρ x=ρ' x):jb C call ct wn o ρ lk k=jb C call ct wn o ρ' lk k:=by
 obtain ⟨dst,op,type,pos,after,guard⟩:=o
 cases op<;>simp only [Op.operands] at h<;>simp only [jb]
 case build t ps=>
  have hp: ∀ p∈ps.toList,ρ p.2=ρ' p.2:=fun p hp=>h p.2 (by simpa using ⟨p.1,by simpa using hp⟩)
  simp only [y5U _ _ _ hp]
 case buildSlice t n ps=>
  have hp: ∀ p∈ps.toList,ρ p.2=ρ' p.2:=fun p hp=>h p.2 (by simpa using ⟨p.1,by simpa using hp⟩)
  simp only [y91 _ _ _ _ hp,y92 _ _ _ _ hp]
 case call c=>
  have hargs: ∀ x∈c.args.toList,ρ x=ρ' x:=fun x hx=>h x (by simp [Call.operands];simp at hx;simp [hx])
  have hm:c.args.toList.map ρ=c.args.toList.map ρ':=List.map_congr_left hargs
  cases hc:c.callee with
  |value f=>
   have hf:ρ f=ρ' f:=h f (by simp [Call.operands,hc])
   dsimp only
   rw [hf,hm]
  |invoke r m=>cases c.args.toList<;>rfl
  |builtin b=>
   cases hl:c.args.toList with
   |nil=>cases b<;>rfl
   |cons x l=>
    have hx:=hargs x (by simp [hl])
    cases l with
    |nil=>
     cases b<;>first|rfl|(cases c.argTypes.toList<;>first|rfl|(dsimp only;rw [hx]))
    |cons y l=>
     have hy:=hargs y (by simp [hl])
     cases l with
     |nil=>
      cases b<;>first|rfl|(dsimp only;rw [hx,hy])|(cases c.argTypes.toList with
       |nil=>rfl
       |cons t l=>cases l with
        |nil=>rfl
        |cons t2 l=>cases l with
         |nil=>dsimp only;rw [hx,hy]
         |cons _ _=>rfl)
     |cons z l=>cases b<;>rfl
 case makeFunc fn first captured=>
  cases fn with
  |func f=>
   cases hc:captured.toList with
   |nil=>
    dsimp only
    rw [hc]
    cases first.toList<;>rfl
   |cons x l=>
    have hm:x∈captured:=by
     have:x∈captured.toList:=by simp [hc]
     simpa using this
    have hx:ρ x=ρ' x:=h x (by simp [hm])
    dsimp only
    rw [hc]
    cases l<;>cases first.toList<;>first|rfl|(dsimp only;rw [hx])
  |_=>rfl
 case slice t x lo hi mx=>
  have hx:=h x (by simp)
  cases mx with
  |some m=>rfl
  |none=>
   have hlo:loA ρ lo=loA ρ' lo:=by
    cases lo with
    |none=>rfl
    |some z=>exact h z (by simp)
   have hhi:hiA ρ hi=hiA ρ' hi:=funext fun n=>by
    cases hi with
    |none=>rfl
    |some z=>exact h z (by cases lo<;>simp)
   dsimp only
   rw [hx,hlo,hhi]
 all_goals (first|rfl|(simp_all;done)|skip)
end
mutual
theorem A.forget_none {i:Nat}: ∀ (x:A),i∉x.ids→x.forget i=x
 | .own o,h=>by
  have hne:o≠i:=fun e=>h (by simp [A.ids,e])
  simp [A.forget,yB hne]
 | .box b off,h=>by
  have hne:b≠i:=fun e=>h (by simp [A.ids,e])
  simp [A.forget,yB hne]
 | .rtp o j c,h=>by
  have hne:o≠i:=fun e=>h (by simp [A.ids,e])
  simp [A.forget,yB hne]
 | .clo f b,h=>by
  have hne:b≠i:=fun e=>h (by simp [A.ids,e])
  simp [A.forget,yB hne]
 | .win o q,h=>by
  have hne:o≠i:=fun e=>h (by simp [A.ids,e])
  simp [A.forget,yB hne]
 | .bor o j c,h=>by
  have hne:o≠i:=fun e=>h (by simp [A.ids,e])
  simp [A.forget,yB hne]
 | .bep o j c q,h=>by
  have hne:o≠i:=fun e=>h (by simp [A.ids,e])
  simp [A.forget,yB hne]
 | .tl o q,h=>by
  have hne:o≠i:=fun e=>h (by simp [A.ids,e])
  simp [A.forget,yB hne]
 | .agg l,h=>by simp [A.forget,wN l h]
 | .tup l,h=>by simp [A.forget,wN l h]
 | .dead,_| .und,_| .val _ _,_| .nils,_| .nilp,_| .elp _ _ _ _ _,_| .top _ _ _,_| .fn _,_=>rfl
theorem wN {i:Nat}: ∀ (l:List A),i∉Yt l→zy i l=l
 |[],_=>rfl
 |a::r,h=>by
  simp only [Yt,aF,not_or] at h
  simp [zy,A.forget_none a h.1,wN r h.2]
end
theorem Ob.forget_none {i:Nat} (x:Ob) (h:i∉x.ids):x.forget i=x:=by
 cases x with
 |box cs=>simp [Ob.forget,wN cs h]
 |root _ _ _ _=>rfl
 |deep _ _ _ _ _=>rfl
 |gone=>rfl
section
variable {P:Program} {C:Ctx} {w0:World} {lent:Nat→Prop} {H0:Base} {s:St} {a:Act} {w:World} {G:Gh}
theorem Rel.start (w:World) (lent:Nat→Prop) {B:Base} (hH:B.H.le (Zv w)) (a:Act) (hd:a.defers=[]) (G:Gh) (hG:G.H=B.H) (hP:G.pv=B.pv) (hT: ∀ k ob,B.pv.tp k=some ob→k<w.heap.size∧ ¬ lent k∧w.heap[k]? =some ob):Rel P w lent B ⟨[],[]⟩ a w G:=by
 refine {top:=hT,os:=rfl,tape:=rfl,output:=rfl,size:=aS _,old:=fun _ _ _=>rfl,inH:=by rw [hG];exact hH,base:=by rw [hG];exact Hp.le.refl _,pv:=hP,hnew:=fun k ob hk=> .inl (by rw [← hG];exact hk),defers:=hd,len:=by simp,slots:=fun i x hx=>by simp at hx,objs:=fun i ob hi=>by simp [yF] at hi,away:=fun i ob k hi _=>by simp [yF] at hi,apart:=fun i j oi oj k hi _ _ _=>by simp [yF] at hi,pin:=fun i ob b hi _=>by simp [yF] at hi}
def y7x (w:World) (b off:Nat) (vs:List Value):Prop:=b<w.heap.size∧ ∀ j v,vs[j]? =some v→w.frozen? ⟨b,off+j,none⟩=false∧w.cell? ⟨b,off+j,none⟩=some v∧v.oneCell'=true
theorem Rel.oldBox (h:Rel P w0 lent H0 s a w G) (d b off:Nat) {l:List A} {vs:List Value} (hl:RL G l vs) (hc:y7x w b off vs) (hf:qC w0 lent s G b) (hp: ∀ p,H0.pin d=some p→(b,off)=p):
  Rel P w0 lent H0 (s.make d (.box (zy d l))) a w (G.upd d (b,off) undef (0,0)):=by
 refine h.make rfl rfl rfl (aS _) (fun _ _=> .inl rfl) ⟨by simpa [Gh.upd] using hc.1,fun j x hx=> ?_⟩ (fun k hk=> ?_) hp
 ·rw [vV] at hx
  obtain ⟨y,hy,rfl⟩:=aq.1 hx
  obtain ⟨v,hv,hr⟩:=hl.get j y hy
  obtain ⟨h1,h2,h3⟩:=hc.2 j v hv
  simp only [Gh.upd,aB]
  exact ⟨h1,v,h2,h3,RA.forget (G.upd_agree d (b,off) undef (0,0)) y v hr⟩
 ·have:b=k:=by simpa [ze,Gh.upd] using hk
  exact this ▸ hf
theorem Rel.slotsAs (h:Rel P w0 lent H0 s a w G) {t:List A} (hlen:t.length≤a.tmps.size) (hs: ∀ (i:Nat) (x:A),t[i]? =some x→RA G x (a.tmps.getD i undef)):Rel P w0 lent H0 ⟨t,s.o⟩ a w G:=
 {h with defers:=h.defers,len:=hlen,slots:=hs,objs:=h.objs,away:=h.away,apart:=h.apart}
def y0K:List PK→List (Nat×Nat)→Nat→Nat→Option (Nat×Nat)
 |[],_,_,_=>none
 | .v _ _ _::ps,pb,i,j=>y0K ps pb (i+1) j
 | .k _::ps,pb,i,j=>y0K ps pb (i+1) j
 | .p _ _ _::ps,b::pb,i,j=>if j=900+i then some b else y0K ps pb (i+1) j
 | .p _ _ _::_,[],_,_=>none
theorem kR: ∀ (ps:List PK) (pb:List (Nat×Nat)) (i j:Nat) (b:Nat×Nat),y0K ps pb i j=some b→900+i≤j∧j<900+i+ps.length
 |[],_,_,_,_,h=>by simp [y0K] at h
 | .v _ _ _::ps,pb,i,j,b,h=>by
  have:=kR ps pb (i+1) j b h
  simp only [ah]
  omega
 | .k _::ps,pb,i,j,b,h=>by
  have:=kR ps pb (i+1) j b h
  simp only [ah]
  omega
 | .p _ _ _::ps,q::pb,i,j,b,h=>by
  simp only [y0K] at h
  simp only [ah]
  split at h
  ·omega
  ·have:=kR ps pb (i+1) j b h
   omega
 | .p _ _ _::_,[],_,_,_,h=>by simp [y0K] at h
def yfd:Option Nat→Value→Value
 |none,v=>v
 |some f,v=>bif Nat.blt f 1000000000 then .func (.func f) #[] #[v] else (match v with
  | .pointer (some a)=> .pointer (some ⟨a.block,a.off+(f - 1000000000),a.spot⟩)
  |v=>v)
theorem ypw {G:Gh} {wr:Option Nat} {b:Nat}:RA G (yl4 wr b) (yfd wr (.pointer (some ⟨(G.g b).1,(G.g b).2+0,none⟩))):=by
 cases wr with
 |none=>rfl
 |some f=>
  cases hf:Nat.blt f 1000000000 with
  |true=>
   simp only [yl4,yfd,hf,ai]
   rfl
  |false=>
   simp only [yl4,yfd,hf,ag]
   rfl
def qD (w:World):List PK→List Value→List Value→List (Nat×Nat)→Prop
 |[],args,vs,pb=>args=[]∧vs=[]∧pb=[]
 | .v agg ts _::ps,args,vs,pb=> ∃ arg vs1 args' vs',args=arg::args'∧vs=vs1++vs'∧vs1.length=ts.length∧(if agg then arg= .agg vs1.toArray else vs1=[arg])∧qD w ps args' vs' pb
 | .k f::ps,args,vs,pb=> ∃ args',args= .func (.func f) #[] #[]::args'∧qD w ps args' vs pb
 | .p wr ts _::ps,args,vs,pb=> ∃ b off vs1 args' vs' pb',args=yfd wr (.pointer (some ⟨b,off,none⟩))::args'∧vs=vs1++vs'∧vs1.length=ts.length∧pb=(b,off)::pb'∧y7x w b off vs1∧qD w ps args' vs' pb'
theorem y4E (dp tg:Bool) (t:Ty) (own:Bool) (x:El t) (n:Nat): ∀ j∈(Yw dp tg t own x n).1.ids,n=j:=by
 intro j hj
 cases t<;>cases own<;>cases dp<;>cases tg<;>simp [Yw,A.ids] at hj<;>exact hj.symm
theorem yfe (dp tg:Bool): ∀ (ts:List Ty) (os:List Bool) (x:yJ ts) (n:Nat),∀ j∈Yt (yM dp tg ts os x n).1,n≤j:=by
 intro ts
 induction ts with
 |nil=>intro os x n j hj;simp [yM,Yt] at hj
 |cons t ts ih=>
  intro os x n j hj
  cases ts with
  |nil=>
   simp only [yM,Yt,bt] at hj
   exact bX (y4E dp tg t _ _ n j hj)
  |cons u r=>
   have hj':j∈(Yw dp tg t (os.headD false) x.1 n).1.ids++Yt (yM dp tg (u::r) os.tail x.2 (n+1)).1:=hj
   rcases aF.1 hj' with h|h
   ·exact bX (y4E dp tg t _ _ n j h)
   ·have:=ih os.tail x.2 (n+1) j h
    omega
theorem y4F (l:List A) (n:Nat): ∀ j∈Yt (l.take n),j∈Yt l:=by
 induction l generalizing n with
 |nil=>intro j hj;simp [Yt] at hj
 |cons x l ih=>
  intro j hj
  cases n with
  |zero=>simp [Yt] at hj
  |succ n=>
   simp only [cH,Yt,aF] at hj ⊢
   exact hj.imp id (ih n j)
theorem VM (l:List A) (n:Nat): ∀ j∈Yt (l.drop n),j∈Yt l:=by
 induction l generalizing n with
 |nil=>intro j hj;simp [Yt] at hj
 |cons x l ih=>
  intro j hj
  cases n with
  |zero=>simpa using hj
  |succ n=>
   simp only [List.drop_succ_cons] at hj
   simp only [Yt,aF]
   exact .inr (ih n j hj)
mutual
theorem RA.agree {G G':Gh} (hH:G'.H=G.H) (hp:G'.pv=G.pv): ∀ (x:A) (v:Value),RA G x v→(∀ j∈x.ids,y6J G G' j)→RA G' x v
 | .dead,_,_,_=>trivial
 | .und,_,hr,_=>hr
 | .val t x,v,hr,_=>by
  show RdT G'.H t x v
  rw [hH]
  exact hr
 | .nils,_,hr,_=>hr
 | .nilp,_,hr,_=>hr
 | .fn _,_,hr,_=>hr
 | .own o,v,hr,ha=>⟨by rw [(ha o (by simp [A.ids])).2.1];exact hr.1,hr.2⟩
 | .win o q,v,hr,ha=>by
  obtain ⟨ad,n,c,e1,e2⟩:=hr
  exact ⟨ad,n,c,by rw [(ha o (by simp [A.ids])).2.1];exact e1,e2⟩
 | .tl o q,v,hr,ha=>by
  obtain ⟨ad,n,c,e1,e2,e3⟩:=hr
  exact ⟨ad,n,c,by rw [(ha o (by simp [A.ids])).2.1];exact e1,e2,by rw [(ha o (by simp [A.ids])).2.2.1];exact e3⟩
 | .top e ts xs,v,hr,_=>by
  show RdR G'.H G'.pv.tp ts xs v
  rw [hH,hp]
  exact hr
 | .bor o j c,v,hr,ha=>by
  have h:=ha o (by simp [A.ids])
  exact ⟨by rw [h.2.2.2,h.2.2.1];exact hr.1,hr.2⟩
 | .bep o j c q,v,hr,ha=>by
  have h:=ha o (by simp [A.ids])
  obtain ⟨ad,n,m,e1,e2,e3,e4⟩:=hr
  exact ⟨ad,n,m,by rw [h.2.2.2,h.2.2.1];exact e1,e2,e3,by rw [h.2.2.1];exact e4⟩
 | .box b off,v,hr,ha=>by
  show v=_
  rw [(ha b (by simp [A.ids])).1]
  exact hr
 | .clo f b,v,hr,ha=>by
  show v=_
  rw [(ha b (by simp [A.ids])).1]
  exact hr
 | .rtp o j c,v,hr,ha=>by
  have h:=ha o (by simp [A.ids])
  refine ⟨?_,by rw [h.2.2.1];exact hr.2⟩
  rw [h.1,h.2.2.1]
  exact hr.1
 | .elp e ts xs j c,v,hr,_=>by
  obtain ⟨ad,e1,hlt,h1⟩:=hr
  exact ⟨ad,e1,hlt,by rw [hH];exact h1⟩
 | .agg l,v,hr,ha=>by
  obtain ⟨cs,rfl,hl⟩:=hr
  exact ⟨cs,rfl,RL.agree hH hp l cs hl ha⟩
 | .tup l,v,hr,ha=>by
  obtain ⟨cs,rfl,hl⟩:=hr
  exact ⟨cs,rfl,RL.agree hH hp l cs hl ha⟩
theorem RL.agree {G G':Gh} (hH:G'.H=G.H) (hp:G'.pv=G.pv): ∀ (l:List A) (vs:List Value),RL G l vs→(∀ j∈Yt l,y6J G G' j)→RL G' l vs
 |[],[],_,_=>trivial
 |a::l,v::vs,hr,ha=>⟨RA.agree hH hp a v hr.1 (fun j hj=>ha j (by simp [Yt,hj])),RL.agree hH hp l vs hr.2 (fun j hj=>ha j (by simp [Yt,hj]))⟩
end
theorem ycR: ∀ (ps:List PK) (l:List A) (args vs:List Value) (pb:List (Nat×Nat)) (i:Nat) (s:St) (G:Gh),Rel P w0 lent H0 s a w G→qD w ps args vs pb→RL G l vs→(∀ j∈Yt l,950≤j)→i+ps.length≤50→(∀ p∈pb,qC w0 lent s G p.1)→pb.Pairwise (fun p q=>p.1≠q.1)→(∀ j,900+i≤j→H0.pin j=y0K ps pb i j)→
  ∃ G',G'.H=G.H∧(∀ j,j<900+i∨950≤j→y6J G G' j)∧Rel P w0 lent H0 (s.makeAll (y8S ps l i).2) a w G'∧RL G' (y8S ps l i).1 args:=by
 intro ps
 induction ps with
 |nil=>
  intro l args vs pb i s G h hs hr hi hle hf hp hpin
  obtain ⟨rfl,rfl,rfl⟩:=hs
  exact ⟨G,rfl,fun _ _=>y6J.refl,h,trivial⟩
 |cons p ps ih=>
  intro l args vs pb i s G h hs hr hi hle hf hp hpin
  simp only [ah] at hle
  cases p with
  |v agg ts os=>
   obtain ⟨arg,vs1,args',vs',rfl,rfl,hl1,ha,hs'⟩:=hs
   have hr1:RL G (l.take ts.length) vs1:=by
    have:=RL.take ts.length hr
    rwa [← hl1,List.take_left' rfl,hl1] at this
   have hr2:RL G (l.drop ts.length) vs':=by
    have:=RL.drop ts.length hr
    rwa [← hl1,List.drop_left' rfl,hl1] at this
   obtain ⟨G',e1,e2,e3,e4⟩:=ih (l.drop ts.length) args' vs' pb (i+1) s G h hs' hr2 (fun j hj=>hi j (VM l _ j hj)) (by omega) hf hp (fun j hj=>hpin j (by omega))
   have hr1':RL G' (l.take ts.length) vs1:=RL.agree e1 (e3.pv.trans h.pv.symm) _ _ hr1 (fun j hj=>e2 j (.inr (hi j (y4F l _ j hj))))
   refine ⟨G',e1,fun j hj=>e2 j (by omega),e3,?_,e4⟩
   cases agg with
   |true=>
    have ha':arg= .agg vs1.toArray:=ha
    subst ha'
    exact ⟨vs1,rfl,hr1'⟩
   |false=>
    have ha':vs1=[arg]:=ha
    subst ha'
    show RA G' ((l.take ts.length).headD .dead) arg
    revert hr1'
    generalize l.take ts.length=l1
    intro hr1'
    cases l1 with
    |nil=>exact hr1'.elim
    |cons x l1=>exact hr1'.1
  |k f=>
   obtain ⟨args',rfl,hs'⟩:=hs
   obtain ⟨G',e1,e2,e3,e4⟩:=ih l args' vs pb (i+1) s G h hs' hr hi (by omega) hf hp (fun j hj=>hpin j (by omega))
   exact ⟨G',e1,fun j hj=>e2 j (by omega),e3,rfl,e4⟩
  |p wr ts os=>
   obtain ⟨b,off,vs1,args',vs',pb',rfl,rfl,hl1,rfl,hc,hs'⟩:=hs
   have hr1:RL G (l.take ts.length) vs1:=by
    have:=RL.take ts.length hr
    rwa [← hl1,List.take_left' rfl,hl1] at this
   have hr2:RL G (l.drop ts.length) vs':=by
    have:=RL.drop ts.length hr
    rwa [← hl1,List.drop_left' rfl,hl1] at this
   have hbox:=h.oldBox (900+i) b off hr1 hc (hf (b,off) (by simp)) (fun p hp'=>by
    rw [hpin (900+i) (by omega)] at hp'
    simpa [y0K] using hp')
   have hn:900+i∉Yt (l.take ts.length):=fun hj=>by
    have:=hi _ (y4F l _ _ hj)
    omega
   rw [wN _ hn] at hbox
   have hp':=bq.1 hp
   obtain ⟨G',e1,e2,e3,e4⟩:=ih (l.drop ts.length) args' vs' pb' (i+1) _ _ hbox hs' (RL.agree (G:=G) (G':=G.upd (900+i) (b,off) undef (0,0)) rfl rfl _ _ hr2 (fun j hj=>by
     have:=hi j (VM l _ j hj)
     have hne:j≠900+i:=by omega
     exact (G.upd_agree _ _ _ _).same hne)) (fun j hj=>hi j (VM l _ j hj)) (by omega) (fun q hq=>(hf q (by simp [hq])).make (by
     simp only [ze,Gh.upd,aB]
     exact hp'.1 q hq)) hp'.2 (fun j hj=>by
    rw [hpin j (by omega)]
    simp [y0K,show ¬ j=900+i by omega])
   refine ⟨G',e1,fun j hj=> ?_,e3,?_,e4⟩
   ·have h2:=e2 j (by omega)
    have hne:j≠900+i:=by omega
    exact ((G.upd_agree _ _ _ _).same hne).trans h2
   ·have h2:=(e2 (900+i) (.inl (by omega))).1
    have h3:G'.g (900+i)=(b,off):=by
     rw [h2]
     simp [Gh.upd]
    have h4:=ypw (G:=G') (wr:=wr) (b:=900+i)
    rw [h3] at h4
    exact h4
def yE7 (vs:List Value) (j:Nat):Value:=vs.getD j undef
def Kf (bs:List (Nat→Prop)) (pb:List (Nat×Nat)) (k:Nat):Prop:=In bs k∨ ∃ p∈pb,p.1=k
def JS (sg:Sig) (bs:List (Nat→Prop)):List (Nat→Prop):=if sg.back&& !sg.deep then [] else bs
noncomputable def y93 (sg:Sig) (w:World) (vs:List Value) (bs:List (Nat→Prop)):Came:=⟨yE7 vs,fun k=>open Classical in if (sg.back&& !sg.deep)=true∧In bs k then w.heap[k]? else none⟩
theorem yff (sg:Sig) (n:Nat) (ts:List Ty) (x:yJ ts) {H:Hp} (hH:H.le (Zv w)) {args vs:List Value} {bs:List (Nat→Prop)} {pb:List (Nat×Nat)} (hc:kX sg.deep H w ts (sg.ps.flatMap PK.ownsIn) x vs bs) (ha:y3A bs) (hs:qD w sg.ps args vs pb) (hp:pb.Pairwise (fun p q=>p.1≠q.1))
  (hx: ∀ k,Kf bs pb k→H k=none) (hd: ∀ p∈pb,¬ In bs p.1) (hle:sg.ps.length≤50) (hn:args.length≤n):
  ∃ G,G.H=H∧Rel P w (Kf (JS sg bs) pb) ⟨H,y0K sg.ps pb 0,fun i b h=>by have:=kR sg.ps pb 0 i b h;omega,y93 sg w vs bs⟩ (enter sg n ts x) {tmps:=args.toArray++Array.replicate (n - args.toArray.size) undef,defers:=[]} w G:=by
 have hkb: ∀ k,In (JS sg bs) k→In bs k:=fun k hk=>by
  unfold JS at hk
  split at hk
  ·simp [In] at hk
  ·exact hk
 have h0:=Rel.start (P:=P) w (Kf (JS sg bs) pb) (B:=⟨H,y0K sg.ps pb 0,fun i b h=>by have:=kR sg.ps pb 0 i b h;omega,y93 sg w vs bs⟩) hH {tmps:=args.toArray++Array.replicate (n - args.toArray.size) undef,defers:=[]} rfl ⟨H,fun _=>(0,0),fun _=>undef,fun _=>(0,0),fun _ _=>False,fun _ _=>undef,y93 sg w vs bs⟩ rfl rfl (fun k ob hk=>by
  have hk':(open Classical in if (sg.back&& !sg.deep)=true∧In bs k then w.heap[k]? else none)=some ob:=hk
  split at hk'
  ·rename_i hh
   refine ⟨(aM.1 hk').1,fun hl=> ?_,hk'⟩
   rcases hl with hl|⟨p,hp',he⟩
   ·unfold JS at hl
    rw [af hh.1] at hl
    simp [In] at hl
   ·exact hd p hp' (he ▸ hh.2)
  ·cases hk')
 have hfree: ∀ k,Kf (JS sg bs) pb k→qC w (Kf (JS sg bs) pb) ⟨[],[]⟩ ⟨H,fun _=>(0,0),fun _=>undef,fun _=>(0,0),fun _ _=>False,fun _ _=>undef,y93 sg w vs bs⟩ k:=fun k hk=>⟨hx k (hk.imp (hkb k) id),.inr hk,fun j oj hj=>by simp [yF] at hj⟩
 obtain ⟨G1,e1,e2,e3,e4,e5⟩:=y4D sg.deep sg.back ts (sg.ps.flatMap PK.ownsIn) x 950 vs bs _ _ (aS _) h0 (fun _ j v hv=>by
  show yE7 vs (950+j - 950)=v
  simp [yE7,au,show 950+j - 950=j by omega,hv]) (fun h1 h2 k hk=>by
  show (open Classical in if (sg.back&& !sg.deep)=true∧In bs k then w.heap[k]? else none)=w.heap[k]?
  rw [af ⟨by rw [h1,h2];rfl,hk⟩]) hc (fun hz k hk=>hfree k (.inl (by
  unfold JS
  rw [am (by rw [hz];simp)]
  exact hk))) ha
 obtain ⟨G2,f1,f2,f3,f4⟩:=ycR sg.ps _ args vs pb 0 _ G1 e3 hs e4 (yfe sg.deep sg.back ts _ x 950) (by omega) (fun p hp'=>e5 _ (hfree _ (.inr ⟨p,hp',rfl⟩)) (hd p hp')) hp (fun j _=>rfl)
 refine ⟨G2,f1.trans e1,f3.slotsAs ?_ fun i y hy=> ?_⟩
 ·have:=f4.length
  simp only [ar,bm,cm,bG,Array.size_replicate]
  omega
 ·have hl:=f4.length
  by_cases hi:i<args.length
  ·rw [aE (by omega)] at hy
   obtain ⟨v,hv,hr⟩:=f4.get i y hy
   have hvv:(args.toArray++Array.replicate (n - args.toArray.size) undef).getD i undef=v:=by
    rw [bu,bM (by simpa using hi)]
    simp [hv]
   rw [hvv]
   exact hr
  ·rw [az (by omega)] at hy
   have:y= .dead:=by
    rw [b8] at hy
    split at hy
    ·injection hy with hy
     exact hy.symm
    ·cases hy
   subst this
   trivial
end
def y1n:List RK→List Value→List Value→List Value→Prop
 |[],vs,cs,rest=>cs=[]∧rest=vs
 |r::rs,vs,cs,rest=> ∃ vs1 vs' c cs',vs=vs1++vs'∧vs1.length=r.ts.length∧cs=c::cs'∧(if r.agg then c= .agg vs1.toArray else vs1=[c])∧y1n rs vs' cs' rest
def y28 (w:World):List PK→List (Nat×Nat)→List Value→Prop
 |[],pb,vs=>pb=[]∧vs=[]
 | .v _ _ _::ps,pb,vs=>y28 w ps pb vs
 | .k _::ps,pb,vs=>y28 w ps pb vs
 | .p _ ts _::ps,pb,vs=> ∃ b off pb' vs1 vs',pb=(b,off)::pb'∧vs=vs1++vs'∧vs1.length=ts.length∧y7x w b off vs1∧y28 w ps pb' vs'
def y4G:List Value→Value
 |[c]=>c
 |cs=> .tuple cs.toArray
def ycS (w:World) (sg:Sig) (vs cs rest:List Value) (v:Value) (nb:Option Nat):Prop:=
 if sg.ptr then ∃ r rs b off vs1 vs2 c2,nb=some b∧sg.rs=r::rs∧vs=vs1++vs2∧vs1.length=r.ts.length∧y1n rs vs2 c2 rest∧v=y4G (.pointer (some ⟨b,off,none⟩)::c2)∧y7x w b off vs1
 else nb=none∧y1n sg.rs vs cs rest∧v=y4G cs
def ycT:List Bool→List Value→List Value
 |[],_=>[]
 |_,[]=>[]
 |o::os,v::l=>bif o then v::ycT os l else ycT os l
structure Left (w:World) (lent:Nat→Prop) (H:Hp) (sg:Sig) (ts:List Ty) (y:yJ ts) (pb:List (Nat×Nat)) (us:List Value) (v:Value) (w':World) (H':Hp) (vs cs rest:List Value) (bs:List (Nat→Prop)):Prop where
 os:w'.os=w.os
 tape:w'.tape=w.tape
 output:w'.output=w.output
 size:w.heap.size≤w'.heap.size
 old: ∀ k,k<w.heap.size→ ¬ lent k→w'.heap[k]? =w.heap[k]?
 inH:H'.le (Zv w')
 hnew: ∀ k ob,H' k=some ob→H k=some ob∨w.heap.size≤k∨lent k
 cells:kX sg.deep H' w' ts sg.owns y vs bs
 apart:y3A bs
 away: ∀ k,In bs k→H' k=none∧(w.heap.size≤k∨lent k)∧ ∀ p∈pb,p.1≠k
 ptrs: ∀ p∈pb,H' p.1=none
 res: ∃ nb,ycS w' sg vs cs rest v nb∧ ∀ k,nb=some k→H' k=none∧(w.heap.size≤k∨lent k)∧ ¬ In bs k∧ ∀ p∈pb,p.1≠k
 back:if (sg.back&&sg.deep)=true then rest=ycT (sg.ps.flatMap PK.ownsIn) us else y28 w' sg.ps pb rest
def ycA (P:Program) (f:FuncId) (args:Array Value) (w:World) (R:Value→World→Prop):Prop:=
 match (callFunc f args).run P w with
 | .ok (.enter g as) w'=>Calls P g as w' fun e w''=> ∃ v,e= .returned v∧R v w''
 | .ok (.value v) w'=>R v w'
 |_=>False
theorem Kg {P:Program} {f:FuncId} {fn:Func} {args:Array Value} {w:World} {R:Value→World→Prop} (hf:P.funcs[f]? =some fn) (hn:fn.name≠ "runtime.NumGoroutine") (hb:fn.body≠none)
  (h:Calls P f args w fun e w'=> ∃ v,e= .returned v∧R v w'):ycA P f args w R:=by
 have he:(callFunc f args).run P w= .ok (.enter f args) w:=by simp [callFunc,hf,hn,hb]
 unfold ycA
 rw [he]
 exact h
theorem ycA.mono {P:Program} {f:FuncId} {args:Array Value} {w:World} {R R':Value→World→Prop} (h:ycA P f args w R) (hr: ∀ v w',R v w'→R' v w'):ycA P f args w R':=by
 unfold ycA at*
 split at h
 ·rename_i he
  exact Calls.mono h fun e w'' hv=>by
   obtain ⟨v,rfl,hv⟩:=hv
   exact ⟨v,rfl,hr _ _ hv⟩
 ·exact hr _ _ h
 ·exact h.elim
theorem ypx {P:Program} {o:Oper} {a:Act} {w:World} {K:Act→World→Prop} {Q:Exit→Act→World→Prop} {c:Call} {f:Operand} {g:FuncId} {caps:Array Value} (hop:o.op= .call c) (hc:c.callee= .value f) (hf:a.eval f= .func (.func g) #[] caps)
  (h:ycA P g (c.args.map a.eval++caps) w fun v w'=>K (a.put o.dst v) w'):o.wp P a w K Q:=by
 have he:execOp a.eval o=callFunc g (#[]++c.args.map a.eval++caps):=by
  simp only [execOp,hop,resolve,hc,hf]
  rfl
 unfold Oper.wp
 rw [he]
 simp only [Array.empty_append]
 unfold ycA at h
 split at h
 ·rename_i he
  rw [he]
  exact Calls.mono h fun e w'' hv=>by
   obtain ⟨v,rfl,hv⟩:=hv
   exact hv
 ·rename_i he
  rw [he]
  exact h
 ·exact h.elim
def y94 (B:Hp→Prop) (C:Ctx) (P:Program) (f:Nat) (F:yJ (C.ins f)→Option (yJ (C.outs f))):Prop:=
 ∀ (sg:Sig) (x:yJ (C.ins f)) (y:yJ (C.outs f)),C.sig f=some sg→F x=some y→
  ∀ (w:World) (H:Hp) (args vs:List Value) (bs:List (Nat→Prop)) (pb:List (Nat×Nat)),B H→H.le (Zv w)→kX sg.deep H w (C.ins f) (sg.ps.flatMap PK.ownsIn) x vs bs→y3A bs→qD w sg.ps args vs pb→pb.Pairwise (fun p q=>p.1≠q.1)→
   (∀ k,Kf bs pb k→H k=none)→(∀ p∈pb,¬ In bs p.1)→
   ycA P (C.fid f) args.toArray w fun v w'=> ∃ H' vs' cs rest bs',Left w (Kf (JS sg bs) pb) H sg (C.outs f) y pb vs v w' H' vs' cs rest bs'
def ZN (C:Ctx) (P:Program) (f:Nat) (F:yJ (C.ins f)→Option (yJ (C.outs f))):Prop:=y94 C.gl C P f F
def qM (H0:Base) (C:Ctx) (P:Program) (call:C.Sem):Prop:= ∀ f,y94 (fun H=>H0.H.le H) C P f (call f)
def y1o (C:Ctx) (P:Program) (call:C.Sem):Prop:= ∀ f,ZN C P f (call f)
theorem y1o.from {C:Ctx} {P:Program} {call:C.Sem} (h:y1o C P call) {H0:Base} (hg:C.gl H0.H):qM H0 C P call:=
 fun f sg x y hs hF w H args vs bs pb hB=>h f sg x y hs hF w H args vs bs pb (C.glm _ _ hB hg)
theorem y5V {C:Ctx} {P:Program}: ∀ (l:List (Sigma fun f:Nat=>yJ (C.ins f)→Option (yJ (C.outs f)))),(∀ p∈l,ZN C P p.1 p.2)→y1o C P (tab l)
 |[],_,f=>fun sg x y _ hF=>by cases hF
 |⟨g,F⟩::r,h,f=>by
  by_cases hf:g=f
  ·subst hf
   have:=h ⟨g,F⟩ (by simp)
   intro sg x y hs hF
   exact this sg x y hs (by simpa [tab] using hF)
  ·intro sg x y hs hF
   exact y5V r (fun p hp=>h p (by simp [hp])) f sg x y hs (by simpa [tab,hf] using hF)
section
variable {P:Program} {C:Ctx} {w0:World} {lent:Nat→Prop} {H0:Base} {s:St} {a:Act} {w:World} {G:Gh}
theorem y9S {G:Gh} {l:List A} {vs1 vs':List Value} {n:Nat} (hr:RL G l (vs1++vs')) (hn:vs1.length=n):RL G (l.take n) vs1∧RL G (l.drop n) vs':=by
 subst hn
 have h1:=RL.take vs1.length hr
 have h2:=RL.drop vs1.length hr
 rw [List.take_left' rfl] at h1
 rw [List.drop_left' rfl] at h2
 exact ⟨h1,h2⟩
theorem y29 {G:Gh}: ∀ (rs:List RK) (l as rl:List A) (vs cs rest:List Value),vP rs l=some (as,rl)→RL G l vs→y1n rs vs cs rest→RL G as cs∧RL G rl rest:=by
 intro rs
 induction rs with
 |nil=>
  intro l as rl vs cs rest h hr hs
  simp only [vP,ap,aY] at h
  obtain ⟨rfl,rfl⟩:=h
  obtain ⟨rfl,rfl⟩:=hs
  exact ⟨trivial,hr⟩
 |cons r rs ih=>
  intro l as rl vs cs rest h hr hs
  simp only [vP] at h
  cases hm:mkA r.agg (l.take r.ts.length) with
  |none=>simp [hm] at h
  |some x=>
   simp only [hm] at h
   cases hsh:vP rs (l.drop r.ts.length) with
   |none=>simp [hsh] at h
   |some p=>
    obtain ⟨as',rl'⟩:=p
    simp only [hsh,ap,aY] at h
    obtain ⟨rfl,rfl⟩:=h
    obtain ⟨vs1,vs',c,cs',rfl,hl,rfl,hc,hs'⟩:=hs
    obtain ⟨h1,h2⟩:=y9S hr hl
    obtain ⟨i1,i2⟩:=ih _ as' rl' vs' cs' rest hsh h2 hs'
    refine ⟨⟨?_,i1⟩,i2⟩
    have:=yf1 hm h1
    cases ha:r.agg with
    |true=>
     rw [ha] at this hc
     rw [show c=_ from hc]
     exact this
    |false=>
     rw [ha] at this hc
     rw [show vs1=_ from hc] at this
     exact this
theorem yhO {G:Gh} {wr:Option Nat} {x:A} {b:Nat} {v:Value} (h:y1h wr x=some b) (hr:RA G x v):v=yfd wr (.pointer (some ⟨(G.g b).1,(G.g b).2,none⟩)):=by
 cases wr with
 |none=>
  cases x with
  |box b' off=>
   simp only [y1h] at h
   cases ho:Nat.beq off 0 with
   |false=>simp [ho] at h
   |true=>
    have:=an ho
    subst this
    simp only [ho,ai,ap] at h
    subst h
    exact hr
  |_=>simp [y1h] at h
 |some f=>
  cases x with
  |clo f' b'=>
   simp only [y1h] at h
   cases hf:Nat.blt f 1000000000 with
   |false=>simp [hf] at h
   |true=>
    cases ho:Nat.beq f f' with
    |false=>simp [ho] at h
    |true=>
     have:=an ho
     subst this
     simp only [ho,hf,cQ,ai,ap] at h
     subst h
     simp only [yfd,hf,ai]
     exact hr
  |box b' off=>
   simp only [y1h] at h
   cases ho:Nat.beq f (1000000000+off) with
   |false=>simp [ho] at h
   |true=>
    have:=an ho
    subst this
    simp only [ho,ai,ap] at h
    subst h
    have hb:Nat.blt (1000000000+off) 1000000000=false:=by
     cases hc:Nat.blt (1000000000+off) 1000000000 with
     |false=>rfl
     |true=>
      have:=bU (show Nat.ble (1000000000+off+1) 1000000000=true from hc)
      omega
    simp only [yfd,hb,ag,show 1000000000+off - 1000000000=off by omega]
    exact hr
  |_=>simp [y1h] at h
theorem yhP {G:Gh} {x:A} {g:Nat} {ex:List A} {v:Value} (h:y5i x=some (g,ex)) (hr:RA G x v): ∃ exv,RL G ex exv∧v= .func (.func g) #[] exv.toArray:=by
 cases x with
 |fn f=>
  simp only [y5i,ap,aY] at h
  obtain ⟨rfl,rfl⟩:=h
  exact ⟨[],trivial,hr⟩
 |clo f b=>
  simp only [y5i,ap,aY] at h
  obtain ⟨rfl,rfl⟩:=h
  exact ⟨[.pointer (some ⟨(G.g b).1,(G.g b).2+0,none⟩)],⟨rfl,trivial⟩,hr⟩
 |_=>simp [y5i] at h
theorem ycU (h:Rel P w0 lent H0 s a w G) {lk:Lk} (hlk:y5e lk s): ∀ (ps:List PK) (as:List A) (args:List Value) (l:List A) (bs:List (Nat×Nat)),wL lk ps as=some (l,bs)→RL G as args→
  ∃ vs,RL G l vs∧qD w ps args vs (bs.map fun p=>G.g p.1)∧ ∀ p∈bs,∃ cs,yF s.o p.1=some (.box cs)∧cs.length=p.2:=by
 intro ps
 induction ps with
 |nil=>
  intro as args l bs hg hr
  cases as with
  |nil=>
   simp only [wL,ap,aY] at hg
   obtain ⟨rfl,rfl⟩:=hg
   cases args with
   |nil=>exact ⟨[],trivial,⟨rfl,rfl,rfl⟩,by simp⟩
   |cons _ _=>exact hr.elim
  |cons _ _=>simp [wL] at hg
 |cons p ps ih=>
  intro as args l bs hg hr
  cases as with
  |nil=>cases p<;>simp [wL] at hg
  |cons x as=>
   cases args with
   |nil=>exact hr.elim
   |cons v args=>
    cases p with
    |v agg ts os=>
     simp only [wL] at hg
     cases hc:wG agg x with
     |none=>simp [hc] at hg
     |some c=>
      cases hga:wL lk ps as with
      |none=>simp [hc,hga] at hg
      |some q=>
       obtain ⟨l',bs'⟩:=q
       simp only [hc,hga] at hg
       cases hb:Nat.beq c.length ts.length with
       |false=>simp [hb] at hg
       |true=>
        simp only [hb,ai,ap,aY] at hg
        obtain ⟨rfl,rfl⟩:=hg
        obtain ⟨vs',i1,i2,i3⟩:=ih as args l' bs' hga hr.2
        have key: ∃ vs1,RL G c vs1∧(if agg then v= .agg vs1.toArray else vs1=[v]):=by
         cases agg with
         |true=>
          cases x with
          |agg l0=>
           simp only [wG,ap] at hc
           subst hc
           obtain ⟨cs,hv,hl⟩:=hr.1
           exact ⟨cs,hl,hv⟩
          |_=>simp [wG] at hc
         |false=>
          have:c=[x]:=by
           cases x<;>simp [wG] at hc<;>exact hc.symm
          subst this
          exact ⟨[v],⟨hr.1,trivial⟩,rfl⟩
        obtain ⟨vs1,k1,k2⟩:=key
        exact ⟨vs1++vs',RL.append k1 i1,⟨v,vs1,args,vs',rfl,rfl,by rw [← k1.length];exact an hb,k2,i2⟩,i3⟩
    |k f=>
     simp only [wL] at hg
     cases x with
     |fn f'=>
      simp only at hg
      cases hb:Nat.beq f f' with
      |false=>simp [hb] at hg
      |true=>
       simp only [hb,ai] at hg
       obtain ⟨vs,i1,i2,i3⟩:=ih as args l bs hg hr.2
       exact ⟨vs,i1,⟨args,by rw [show v=_ from hr.1,an hb],i2⟩,i3⟩
     |_=>simp at hg
    |p wr ts os=>
     simp only [wL] at hg
     cases hu:y1h wr x with
     |none=>simp [hu] at hg
     |some b=>
      simp only [hu] at hg
      have hv:=yhO hu hr.1
      cases hb:lk b with
      |none=>simp [hb] at hg
      |some ob=>
       cases ob with
       |box cs=>
        simp only [hb] at hg
        cases hga:wL lk ps as with
        |none=>simp [hga] at hg
        |some q=>
         obtain ⟨l',bs'⟩:=q
         simp only [hga] at hg
         cases hbb:Nat.beq ts.length cs.length with
         |false=>simp [hbb] at hg
         |true=>
          simp only [hbb,ai,ap,aY] at hg
          obtain ⟨rfl,rfl⟩:=hg
          have hl:=an hbb
          obtain ⟨vs',i1,i2,i3⟩:=ih as args l' bs' hga hr.2
          have hro:=h.objs b _ (hlk b _ hb)
          obtain ⟨vs1,c1,c2,c3,c4⟩:=y4x (G:=G) cs (fun j=>w.cell? ⟨(G.g b).1,(G.g b).2+j,none⟩) (fun i c hc=>(hro.2 i c hc).2)
          refine ⟨vs1++vs',RL.append c4 i1,⟨(G.g b).1,(G.g b).2,vs1,args,vs',bs'.map fun p=>G.g p.1,by rw [hv],rfl,by rw [c1,hl],rfl,⟨hro.1,fun j u hu=> ?_⟩,i2⟩,fun p hp=> ?_⟩
          ·have hj:j<cs.length:=by
            have:=(av.1 hu).1
            omega
           exact ⟨(hro.2 j _ (aJ hj)).1,c2 j u hu,c3 u (aV hu)⟩
          ·rcases aA.1 hp with rfl|hp
           ·exact ⟨cs,hlk b _ hb,hl.symm⟩
           ·exact i3 p hp
       |_=>simp [hb] at hg
end
section
variable {P:Program} {C:Ctx} {w0:World} {lent:Nat→Prop} {H0:Base} {s:St} {a:Act} {w:World} {G:Gh}
theorem y5W {i d:Nat} (hne:i≠d) {x:Ob} (hx:x.forget d=x): ∀ l:List (Nat×Ob),YY d (Vx l i x)=Vx (YY d l) i x
 |[]=>rfl
 |(j,y)::l=>by
  have ih:=y5W hne hx l
  by_cases hj:j=i
  ·subst hj
   simp [Vx,YY,yp,yB hne,hx]
  ·by_cases hd:j=d
   ·subst hd
    simp [Vx,YY,yp,yB hj,ih]
   ·simp [Vx,YY,yB hj,yB hd,ih]
theorem ylt (s:St) {q d:Nat} (hne:q≠d) (ob:Ob) {x:Ob} (hx:x.forget d=x):(s.set q x).make d ob=(s.make d ob).set q x:=by
 simp [St.set,St.make,y5W hne hx,Vx,yB (fun e:d=q=>hne e.symm)]
def yhQ:List (Nat×Ob)→Prop
 |[]=>True
 |(_,x)::r=>(∀ d,x.forget d=x)∧yhQ r
theorem y5X: ∀ (X:List (Nat×Ob)) (s:St) (d:Nat) (ob:Ob),yhQ X→d∉zp X→(s.setAll X).make d ob=(s.make d ob).setAll X
 |[],_,_,_,_,_=>rfl
 |(q,x)::X,s,d,ob,hm,hd=>by
  simp only [zp,aA,not_or] at hd
  rw [St.setAll,St.setAll,y5X X _ d ob hm.2 hd.2,ylt s (fun e=>hd.1 e.symm) ob (hm.1 d)]
theorem setAll_makeAll (X:List (Nat×Ob)) (hm:yhQ X): ∀ (Y:List (Nat×Ob)) (s:St),(∀ d∈zp Y,d∉zp X)→(s.setAll X).makeAll Y=(s.makeAll Y).setAll X
 |[],_,_=>rfl
 |(d,ob)::Y,s,h=>by
  rw [St.makeAll,St.makeAll,y5X X s d ob hm (h d (by simp [zp])),setAll_makeAll X hm Y _ (fun e he=>h e (by simp [zp,he]))]
theorem VN (lk:Lk): ∀ is:List Nat,yhQ (settles lk is)
 |[]=>trivial
 |i::is=>by
  unfold settles
  split
  ·exact ⟨fun _=>rfl,VN lk is⟩
  ·exact ⟨fun _=>rfl,VN lk is⟩
  ·exact VN lk is
theorem y1p: ∀ gs:List Nat,yhQ (YB gs)
 |[]=>trivial
 |i::gs=>⟨fun _=>rfl,y1p gs⟩
theorem y7y: ∀ {X Y:List (Nat×Ob)},yhQ X→yhQ Y→yhQ (X++Y)
 |[],_,_,hY=>hY
 |(_,_)::X,Y,hX,hY=>⟨hX.1,y7y hX.2 hY⟩
theorem y1q: ∀ gs:List Nat,zp (YB gs)=gs
 |[]=>rfl
 |i::gs=>by simp [YB,zp,y1q gs]
theorem jn (lk:Lk): ∀ is:List Nat,∀ i∈zp (settles lk is),i∈is
 |[],i,h=>h
 |j::is,i,h=>by
  unfold settles at h
  split at h
  ·simp only [zp,aA] at h
   rcases h with rfl|h
   ·simp
   ·exact bI _ (jn lk is i h)
  ·simp only [zp,aA] at h
   rcases h with rfl|h
   ·simp
   ·exact bI _ (jn lk is i h)
  ·exact bI _ (jn lk is i h)
theorem Rel.congr (h:Rel P w0 lent H0 s a w G) {s':St} (ht:s'.t=s.t) (ho: ∀ i,yF s'.o i=yF s.o i):Rel P w0 lent H0 s' a w G:=
 {h with defers:=h.defers,len:=by rw [ht];exact h.len,slots:=fun i x hx=>h.slots i x (by rw [← ht];exact hx),objs:=fun i ob hi=>h.objs i ob (by rw [← ho];exact hi),away:=fun i ob k hi hb=>h.away i ob k (by rw [← ho];exact hi) hb,apart:=fun i j oi oj k hi hj=>h.apart i j oi oj k (by rw [← ho];exact hi) (by rw [← ho];exact hj),pin:=fun i ob b hi hp=>h.pin i ob b (by rw [← ho];exact hi) hp}
theorem Rel.backs: ∀ (ps:List PK) (bs:List (Nat×Nat)) (l:List A) (vs:List Value) {s:St},Rel P w0 lent H0 s a w G→y28 w ps (bs.map fun p=>G.g p.1) vs→RL G l vs→
  (bs.map fun p=>p.2)=ps.filterMap PK.back→
  (∀ p∈bs,G.H (G.g p.1).1=none∧(w0.heap.size≤(G.g p.1).1∨lent (G.g p.1).1)∧ ∀ (j:Nat) (oj:Ob),j≠p.1→yF s.o j=some oj→ ¬ ze G j oj (G.g p.1).1)→bs.Pairwise (fun p q=>(G.g p.1).1≠(G.g q.1).1)→
  Rel P w0 lent H0 (s.setAll (y5j bs l)) a w G:=by
 intro ps
 induction ps with
 |nil=>
  intro bs l vs s h hb hr hlen hf hp
  have:bs=[]:=by simpa using hlen
  subst this
  exact h
 |cons p ps ih=>
  intro bs l vs s h hb hr hlen hf hp
  cases p with
  |v agg ts os=>exact ih bs l vs h hb hr hlen hf hp
  |k f=>exact ih bs l vs h hb hr hlen hf hp
  |p wr ts os=>
   obtain ⟨b,off,pb',vs1,vs',hpb,rfl,hl1,hc,hb'⟩:=hb
   cases bs with
   |nil=>simp at hpb
   |cons q bs=>
    obtain ⟨q,n⟩:=q
    simp only [bB,cA,List.filterMap_cons,PK.back] at hpb hlen
    obtain ⟨hq,rfl⟩:=hpb
    obtain ⟨rfl,hlen⟩:=hlen
    obtain ⟨h1,h2⟩:=y9S hr hl1
    have hq1:(G.g q).1=b:=by rw [hq]
    have hq2:(G.g q).2=off:=by rw [hq]
    obtain ⟨f1,f2,f3⟩:=hf (q,ts.length) (by simp)
    have hp':=bq.1 hp
    have hset:=h.set (i:=q) (ob:= .box (l.take ts.length)) ⟨by rw [hq1];exact hc.1,fun j x hx=>by
     obtain ⟨v,hv,hrv⟩:=h1.get j x hx
     obtain ⟨c1,c2,c3⟩:=hc.2 j v hv
     rw [hq1,hq2]
     exact ⟨c1,v,c2,c3,hrv⟩⟩ (fun k hk=>by
     have hk':(G.g q).1=k:=by simpa [ze] using hk
     subst hk'
     exact ⟨f1,f2,f3⟩)
    refine ih bs (l.drop ts.length) vs' hset hb' h2 hlen (fun p hpm=> ?_) hp'.2
    obtain ⟨g1,g2,g3⟩:=hf p (by simp [hpm])
    refine ⟨g1,g2,fun j oj hj hl=> ?_⟩
    have hl':yF (Vx s.o q (.box (l.take ts.length))) j=some oj:=hl
    rw [Yj] at hl'
    by_cases hjq:j=q
    ·subst hjq
     simp only [aB] at hl'
     obtain ⟨_,_,rfl⟩:=aq.1 hl'
     intro hbk
     have hbk':(G.g j).1=(G.g p.1).1:=by simpa [ze] using hbk
     exact hp'.1 p hpm hbk'
    ·simp only [hjq,aU] at hl'
     exact g3 j oj hj hl'
theorem yfg {lk:Lk}: ∀ (ps:List PK) (as l:List A) (bs:List (Nat×Nat)),wL lk ps as=some (l,bs)→(bs.map fun p=>p.2)=ps.filterMap PK.back:=by
 intro ps
 induction ps with
 |nil=>
  intro as l bs h
  cases as with
  |nil=>
   simp only [wL,ap,aY] at h
   rw [← h.2]
   rfl
  |cons _ _=>simp [wL] at h
 |cons p ps ih=>
  intro as l bs h
  cases as with
  |nil=>cases p<;>simp [wL] at h
  |cons x as=>
   cases p with
   |v agg ts os=>
    simp only [wL] at h
    cases hc:wG agg x with
    |none=>simp [hc] at h
    |some c=>
     cases hg:wL lk ps as with
     |none=>simp [hc,hg] at h
     |some q=>
      simp only [hc,hg] at h
      cases hb:Nat.beq c.length ts.length with
      |false=>simp [hb] at h
      |true=>
       simp only [hb,ai,ap,aY] at h
       rw [← h.2]
       exact ih as q.1 q.2 hg
   |k f=>
    simp only [wL] at h
    cases x with
    |fn f'=>
     simp only at h
     cases hb:Nat.beq f f' with
     |false=>simp [hb] at h
     |true=>
      simp only [hb,ai] at h
      exact ih as l bs h
    |_=>simp at h
   |p wr ts os=>
    simp only [wL] at h
    cases hu:y1h wr x with
    |none=>simp [hu] at h
    |some b=>
     simp only [hu] at h
     cases hb:lk b with
     |none=>simp [hb] at h
     |some ob=>
      cases ob with
      |box cs=>
       simp only [hb] at h
       cases hg:wL lk ps as with
       |none=>simp [hg] at h
       |some q=>
        simp only [hg] at h
        cases hbb:Nat.beq ts.length cs.length with
        |false=>simp [hbb] at h
        |true=>
         simp only [hbb,ai,ap,aY] at h
         rw [← h.2]
         simp [ih as q.1 q.2 hg,PK.back]
      |_=>simp [hb] at h
theorem y9T: ∀ (X:List (Nat×Ob)) (s:St),(s.setAll X).t=s.t
 |[],_=>rfl
 |(i,x)::X,s=>y9T X (s.set i x)
theorem ycV: ∀ (X:List (Nat×Ob)) (i:Nat),i∉zp X→yF X i=none
 |[],_,_=>rfl
 |(j,x)::X,i,h=>by
  simp only [zp,aA,not_or] at h
  simp only [yF,yB (fun e:j=i=>h.1 e.symm),ag]
  exact ycV X i h.2
theorem qf: ∀ (X:List (Nat×Ob)) (s:St) (i:Nat),(yF (s.setAll X).o i).isSome=(yF s.o i).isSome
 |[],_,_=>rfl
 |(j,x)::X,s,i=>by
  rw [St.setAll,qf X]
  show (yF (Vx s.o j x) i).isSome=_
  rw [Yj]
  split
  ·rename_i h
   subst h
   simp
  ·rfl
theorem vX: ∀ (X:List (Nat×Ob)) (s:St) (i:Nat),(zp X).Nodup→yF (s.setAll X).o i=match yF X i with
  |some x=>(yF s.o i).map (fun _=>x)
  |none=>yF s.o i
 |[],_,_,_=>rfl
 |(j,x)::X,s,i,h=>by
  have hn:=cj.1 h
  have hs:yF (s.set j x).o i=if i=j then (yF s.o j).map (fun _=>x) else yF s.o i:=Yj j i x s.o
  rw [St.setAll,vX X _ i hn.2,hs]
  by_cases hj:j=i
  ·subst hj
   rw [ycV X j hn.1]
   simp [yF,yp]
  ·simp only [yF,yB hj,ag,show ¬ i=j from fun e=>hj e.symm,aU]
theorem y5r: ∀ (bs:List (Nat×Nat)) (l:List A),zp (y5j bs l)=zp bs
 |[],_=>rfl
 |(b,n)::bs,l=>by simp [y5j,zp,y5r bs]
theorem Kh {α:Type}: ∀ bs:List (Nat×α),zp bs=bs.map (·.1)
 |[]=>rfl
 |(b,n)::bs=>by simp [zp,Kh bs]
theorem ycW {G:Gh} {as:List A} {cs:List Value}:RL G as cs→RA G (match as with
  |[a]=>a
  |as=> .tup as) (y4G cs):=by
 intro h
 cases as with
 |nil=>
  cases cs with
  |nil=>exact ⟨[],rfl,trivial⟩
  |cons _ _=>exact h.elim
 |cons x as=>
  cases cs with
  |nil=>exact h.elim
  |cons v cs=>
   cases as with
   |nil=>
    cases cs with
    |nil=>exact h.1
    |cons _ _=>exact h.2.elim
   |cons y as=>
    cases cs with
    |nil=>exact h.2.elim
    |cons u cs=>exact ⟨v::u::cs,rfl,h⟩
theorem yiT {H H2:Hp}: ∀ (ts:List Ty) (x:yJ ts) (f:Nat→Option Value),vM ts=true→RdE H ts x f→RdE H2 ts x f:=by
 have one: ∀ (t:Ty) (x:El t) (v:Value),t.flat=true→RdT H t x v→RdT H2 t x v:=by
  intro t x v hf hr
  cases t<;>first|exact hr|simp [Ty.flat] at hf
 intro ts
 induction ts with
 |nil=>intro _ _ _ _;trivial
 |cons t ts ih=>
  intro x f hf hr
  simp only [vM,al] at hf
  cases ts with
  |nil=>
   obtain ⟨v,hv,hr⟩:=hr
   exact ⟨v,hv,one t x v hf.1 hr⟩
  |cons u r=>
   obtain ⟨⟨v,hv,hr⟩,hs⟩:=hr
   exact ⟨⟨v,hv,one t x.1 v hf.1 hr⟩,ih x.2 _ hf.2 hs⟩
theorem y95 {H H2:Hp} {w:World} {dp:Bool} {t:Ty} {own:Bool} (hf:(t.flat||(own&&(dp||match t with
  | .sl _ ts=>vM ts
  |_=>false)))=true) {x:El t} {v:Value} {b:Nat→Prop} (h:y8y dp H w t own x v b):y8y dp H2 w t own x v b:=by
 cases t with
 |sl e ts=>
  simp only [Ty.flat,cE,al] at hf
  obtain ⟨rfl,hf⟩:=hf
  cases dp with
  |true=>exact h
  |false=>
  simp only [cE] at hf
  obtain ⟨h1,h2,cells,h3,h4,h5⟩:=h
  exact ⟨h1,h2,cells,h3,h4,fun j y hy=>yiT ts y _ hf (h5 j y hy)⟩
 |int _=>cases own<;>exact h
 |bool=>cases own<;>exact h
 |str=>cases own<;>exact h
theorem y7z {H H2:Hp} {w:World} {dp:Bool}: ∀ (ts:List Ty) (os:List Bool) (x:yJ ts) (vs:List Value) (bs:List (Nat→Prop)),ycB dp ts os=true→kX dp H w ts os x vs bs→kX dp H2 w ts os x vs bs:=by
 intro ts
 induction ts with
 |nil=>intro os x vs bs _ h;exact h
 |cons t ts ih=>
  intro os x vs bs hf h
  simp only [ycB,al] at hf
  cases ts with
  |nil=>
   obtain ⟨v,b,h1,h2,h3⟩:=h
   exact ⟨v,b,h1,h2,y95 hf.1 h3⟩
  |cons u r=>
   obtain ⟨v,b,vs',bs',h1,h2,h3,h4⟩:=h
   exact ⟨v,b,vs',bs',h1,h2,y95 hf.1 h3,ih _ _ _ _ hf.2 h4⟩
theorem y96 {H H2:Hp} (hH:H.le H2) {w:World} {dp:Bool} {t:Ty} {own:Bool} {x:El t} {v:Value} {b:Nat→Prop} (h:y8y dp H w t own x v b):y8y dp H2 w t own x v b:=by
 cases t with
 |sl e ts=>
  cases own with
  |true=>
   cases dp with
   |true=>exact h
   |false=>
   obtain ⟨h1,h2,cells,h3,h4,h5⟩:=h
   exact ⟨h1,h2,cells,h3,h4,fun j y hy=>RdE.mono hH ts y _ _ (fun _ _ hv=>hv) (h5 j y hy)⟩
  |false=>exact ⟨h.1,RdT.mono hH _ _ _ h.2⟩
 |int _=>cases own<;>exact h
 |bool=>cases own<;>exact h
 |str=>cases own<;>exact h
theorem y7A {H H2:Hp} (hH:H.le H2) {w:World} {dp:Bool}: ∀ (ts:List Ty) (os:List Bool) (x:yJ ts) (vs:List Value) (bs:List (Nat→Prop)),kX dp H w ts os x vs bs→kX dp H2 w ts os x vs bs:=by
 intro ts
 induction ts with
 |nil=>intro os x vs bs h;exact h
 |cons t ts ih=>
  intro os x vs bs h
  cases ts with
  |nil=>
   obtain ⟨v,b,h1,h2,h3⟩:=h
   exact ⟨v,b,h1,h2,y96 hH h3⟩
  |cons u r=>
   obtain ⟨v,b,vs',bs',h1,h2,h3,h4⟩:=h
   exact ⟨v,b,vs',bs',h1,h2,y96 hH h3,ih _ _ _ _ h4⟩
theorem ygp (h1:Rel P w0 lent H0 s a w G) {bs:List (Nat×Nat)} {gs:List Nat} {bsx:List (Nat→Prop)} (hgs:y20 s G gs bsx) (hbx: ∀ p∈bs,∃ cs,yF s.o p.1=some (.box cs))
  {w':World} (hos:w'.os=w.os) (htape:w'.tape=w.tape) (hout:w'.output=w.output) (hsz:w.heap.size≤w'.heap.size) (old: ∀ k,k<w.heap.size→ ¬ Kf bsx (bs.map fun p=>G.g p.1) k→w'.heap[k]? =w.heap[k]?)
  {H2:Hp} (hle:G.H.le H2) (hin:H2.le (Zv w')) (hnew: ∀ k ob,H2 k=some ob→G.H k=some ob∨w.heap.size≤k∨Kf bsx (bs.map fun p=>G.g p.1) k)
  {ts:List Ty} {os:List Bool} {y:yJ ts} {vs':List Value} {bs':List (Nat→Prop)} {dp:Bool} (hc:kX dp H2 w' ts os y vs' bs') (ha:y3A bs') (hav: ∀ k,In bs' k→H2 k=none∧(w.heap.size≤k∨Kf bsx (bs.map fun p=>G.g p.1) k))
  {n:Nat} (hn950:950≤n):
  ∃ G5,G5.H=H2∧Rel P w0 lent H0 ((s.setAll (YB (gs++zp bs))).makeAll (yM dp false ts os y n).2) a w' G5∧RL G5 (yM dp false ts os y n).1 vs'∧(∀ j,j∉zp (yM dp false ts os y n).2→y6J G G5 j)∧
   ∀ k,(w.heap.size≤k∨Kf bsx (bs.map fun p=>G.g p.1) k∨ ∃ q ob,yF s.o q=some ob∧ze G q ob k∧q∈gs++zp bs)→H2 k=none→ ¬ In bs' k→qC w0 lent ((s.setAll (YB (gs++zp bs))).makeAll (yM dp false ts os y n).2) G5 k:=by
 have hLent: ∀ k,Kf bsx (bs.map fun p=>G.g p.1) k→G.H k=none∧(w0.heap.size≤k∨lent k)∧ ∃ q ob,yF s.o q=some ob∧ze G q ob k∧q∈gs++zp bs:=by
  rintro k (hk|⟨p,hp,rfl⟩)
  ·obtain ⟨q,hq,ob,hl,hb'⟩:=hgs k hk
   obtain ⟨a1,a2⟩:=h1.away q _ k hl hb'
   exact ⟨a1,a2,q,_,hl,hb',cn _ hq⟩
  ·obtain ⟨q,hq,rfl⟩:=b_.1 hp
   obtain ⟨c,hl⟩:=hbx q hq
   have hb':ze G q.1 (.box c) (G.g q.1).1:=rfl
   obtain ⟨a1,a2⟩:=h1.away q.1 _ _ hl hb'
   exact ⟨a1,a2,q.1,_,hl,hb',bK _ (by rw [Kh];exact bC hq)⟩
 have hfree4: ∀ k,(∃ q ob,yF s.o q=some ob∧ze G q ob k∧q∈gs++zp bs)→ ∀ (j:Nat) (oj:Ob),yF (s.setAll (YB (gs++zp bs))).o j=some oj→ ¬ ze G j oj k:=by
  intro k hk j oj hj hb
  obtain ⟨q,ob,hl,hb',hq⟩:=hk
  rw [kW] at hj
  split at hj
  ·obtain ⟨_,_,rfl⟩:=aq.1 hj
   simp [ze] at hb
  ·rename_i hjD
   have:=h1.apart j q oj ob k hj hl hb hb'
   subst this
   exact hjD hq
 have hfree3: ∀ k,Kf bsx (bs.map fun p=>G.g p.1) k→ ∀ (j:Nat) (oj:Ob),yF (s.setAll (YB (gs++zp bs))).o j=some oj→ ¬ ze G j oj k:=fun k hk=>hfree4 k (hLent k hk).2.2
 have h3:=Rel.gones (gs++zp bs) h1
 have h4:=h3.heap hos htape hout hsz (fun k hk=>by
  by_cases hl:Kf bsx (bs.map fun p=>G.g p.1) k
  ·exact .inr ⟨(hLent k hl).1,(hLent k hl).2.1,hfree3 k hl⟩
  ·exact .inl (old k hk hl))
 have h5:=h4.grow hle hin (fun j oj k hj hb=>by
  cases hH:H2 k with
  |none=>rfl
  |some ob=>
   rcases hnew k ob hH with h6|h6|h6
   ·rw [(h3.away j oj k hj hb).1] at h6
    cases h6
   ·exact absurd ((h3.objs j oj hj).blk hb) (cu.2 h6)
   ·exact absurd hb (hfree3 k h6 j oj hj)) (fun k ob hH=>by
  rcases hnew k ob hH with h6|h6|h6
  ·exact .inl h6
  ·exact .inr (.inl (aO h1.size h6))
  ·exact .inr (hLent k h6).2.1)
 have hfr: ∀ k,(w.heap.size≤k∨Kf bsx (bs.map fun p=>G.g p.1) k∨ ∃ q ob,yF s.o q=some ob∧ze G q ob k∧q∈gs++zp bs)→H2 k=none→qC w0 lent (s.setAll (YB (gs++zp bs))) {G with H:=H2} k:=by
  intro k hk hn
  refine ⟨hn,?_,fun j oj hj hb=> ?_⟩
  ·rcases hk with hk|hk|⟨q,ob,hl,hb,_⟩
   ·exact .inl (aO h1.size hk)
   ·exact (hLent k hk).2.1
   ·exact (h1.away q ob k hl hb).2
  ·rw [qS (G:=G) (G':= {G with H:=H2}) rfl rfl rfl] at hb
   rcases hk with hk|hk|hk
   ·exact absurd ((h3.objs j oj hj).blk hb) (cu.2 hk)
   ·exact hfree3 k hk j oj hj hb
   ·exact hfree4 k hk j oj hj hb
 obtain ⟨G5,e1,e2,e3,e4,e5⟩:=y4D dp false ts os y n vs' bs' _ _ hn950 h5 (fun h=>by cases h) (fun h=>by cases h) hc (fun _ k hk=>hfr k ((hav k hk).2.imp id .inl) (hav k hk).1) ha
 exact ⟨G5,e1,e3,e4,fun j hj=>e2 j hj,fun k hk hn hb=>e5 k (hfr k hk hn) hb⟩
theorem ygq (h1:Rel P w0 lent H0 s a w G) {bs:List (Nat×Nat)} {gs:List Nat} (hbx: ∀ p∈bs,∃ cs,yF s.o p.1=some (.box cs)) (hnd:(zp bs).Nodup) {Y:List (Nat×Ob)} {w':World} {G6:Gh}
  (h:Rel P w0 lent H0 ((s.setAll (YB (gs++zp bs))).makeAll Y) a w' G6) (hY: ∀ j∈zp Y,j∉gs∧j∉zp bs) (hg: ∀ p∈bs,G6.g p.1=G.g p.1) (hfr: ∀ p∈bs,qC w0 lent ((s.setAll (YB (gs++zp bs))).makeAll Y) G6 (G.g p.1).1)
  {ps:List PK} {restA:List A} {rest:List Value} (hr:RL G6 restA rest) (hbk:y28 w' ps (bs.map fun p=>G.g p.1) rest) (hlens:(bs.map fun p=>p.2)=ps.filterMap PK.back):
  Rel P w0 lent H0 ((s.makeAll Y).setAll (YB gs++y5j bs restA)) a w' G6:=by
 have hmap:(bs.map fun p=>G6.g p.1)=bs.map fun p=>G.g p.1:=List.map_congr_left hg
 have hpw:bs.Pairwise (fun p q=>p.1≠q.1):=by
  rw [Kh] at hnd
  exact cC.1 hnd
 have h6:=Rel.backs ps bs restA rest h (by rw [hmap];exact hbk) hr hlens (fun p hp=>by
  obtain ⟨i1,i2,i3⟩:=hfr p hp
  rw [hg p hp]
  exact ⟨i1,i2,fun j oj _ hj=>i3 j oj hj⟩) (hpw.imp_of_mem fun {p q} hp hq hne he=>by
  rw [hg p hp,hg q hq] at he
  obtain ⟨c1,l1⟩:=hbx p hp
  obtain ⟨c2,l2⟩:=hbx q hq
  exact hne (h1.apart p.1 q.1 _ _ (G.g p.1).1 l1 l2 rfl (by rw [he];rfl)))
 rw [setAll_makeAll _ (y1p _) _ _ (fun d hd=>by
  rw [y1q,aF,not_or]
  exact hY d hd)] at h6
 refine h6.congr (by simp only [y9T]) fun i=> ?_
 have hnd':(zp (y5j bs restA)).Nodup:=by rw [y5r];exact hnd
 rw [St.setAll_append,vX _ _ i hnd',vX _ _ i hnd']
 cases hB:yF (y5j bs restA) i with
 |some x=>
  have e:=qf (YB gs) (s.makeAll Y) i
  have e':=qf (YB (gs++zp bs)) (s.makeAll Y) i
  rw [← e'] at e
  revert e
  cases yF ((s.makeAll Y).setAll (YB gs)).o i<;>cases yF ((s.makeAll Y).setAll (YB (gs++zp bs))).o i<;>simp
 |none=>
  have hi:i∉zp bs:=fun hi=>by
   have hmem:i∈zp (y5j bs restA):=by rw [y5r];exact hi
   obtain ⟨x,hx⟩: ∃ x,yF (y5j bs restA) i=some x:=by
    clear hB h6
    revert hmem
    generalize y5j bs restA=X
    intro hmem
    induction X with
    |nil=>simp [zp] at hmem
    |cons p X ih=>
     obtain ⟨j,x⟩:=p
     by_cases hj:j=i
     ·exact ⟨x,by simp [yF,hj,yp]⟩
     ·simp only [zp,aA] at hmem
      obtain ⟨z,hz⟩:=ih (hmem.resolve_left fun e=>hj e.symm)
      exact ⟨z,by simp only [yF,yB hj,ag,hz]⟩
   rw [hx] at hB
   cases hB
  simp only [kW,aF,hi,or_false]
theorem St.makeAll_append: ∀ (X Y:List (Nat×Ob)) (s:St),s.makeAll (X++Y)=(s.makeAll X).makeAll Y
 |[],_,_=>rfl
 |(i,x)::X,Y,s=>St.makeAll_append X Y (s.make i x)
theorem y9U (dp tg:Bool): ∀ (ts:List Ty) (os:List Bool) (x:yJ ts) (n:Nat),∀ j∈Yt (yM dp tg ts os x n).1,j<n+ts.length:=by
 intro ts
 induction ts with
 |nil=>intro os x n j hj;simp [yM,Yt] at hj
 |cons t ts ih=>
  intro os x n j hj
  cases ts with
  |nil=>
   simp only [yM,Yt,bt] at hj
   have:=y4E dp tg t _ _ n j hj
   simp only [ah]
   omega
  |cons u r=>
   have hj':j∈(Yw dp tg t (os.headD false) x.1 n).1.ids++Yt (yM dp tg (u::r) os.tail x.2 (n+1)).1:=hj
   rcases aF.1 hj' with h|h
   ·have:=y4E dp tg t _ _ n j h
    simp only [ah]
    omega
   ·have:=ih os.tail x.2 (n+1) j h
    simp only [ah] at*
    omega
theorem ypy {agg:Bool} {l:List A} {x:A} (h:mkA agg l=some x): ∀ j∈x.ids,j∈Yt l:=by
 intro j hj
 cases agg with
 |true=>
  simp only [mkA,ai,ap] at h
  subst h
  simpa [A.ids] using hj
 |false=>
  cases l with
  |nil=>simp [mkA] at h
  |cons y l=>
   cases l with
   |nil=>
    simp only [mkA,ag,ap] at h
    subst h
    simpa [Yt] using hj
   |cons _ _=>simp [mkA] at h
theorem y97: ∀ (rs:List RK) (l as rest:List A),vP rs l=some (as,rest)→(∀ j∈Yt as,j∈Yt l)∧ ∀ j∈Yt rest,j∈Yt l
 |[],l,as,rest,h=>by
  simp only [vP,ap,aY] at h
  obtain ⟨rfl,rfl⟩:=h
  exact ⟨fun j hj=>by simp [Yt] at hj,fun _ h=>h⟩
 |r::rs,l,as,rest,h=>by
  simp only [vP] at h
  split at h
  ·rename_i a ha
   split at h
   ·rename_i as' l2 hs
    simp only [ap,aY] at h
    obtain ⟨rfl,rfl⟩:=h
    obtain ⟨i1,i2⟩:=y97 rs _ _ _ hs
    refine ⟨fun j hj=> ?_,fun j hj=>VM _ _ j (i2 j hj)⟩
    simp only [Yt,aF] at hj
    rcases hj with hj|hj
    ·exact y4F _ _ j (ypy ha j hj)
    ·exact VM _ _ j (i1 j hj)
   ·cases h
  ·cases h
theorem ycX (h1:Rel P w0 lent H0 s a w G) {bs:List (Nat×Nat)} {gs:List Nat} {bsx:List (Nat→Prop)} (hgs:y20 s G gs bsx) (hbx: ∀ p∈bs,∃ cs,yF s.o p.1=some (.box cs)) (hnd:(zp bs).Nodup)
  {w':World} (hos:w'.os=w.os) (htape:w'.tape=w.tape) (hout:w'.output=w.output) (hsz:w.heap.size≤w'.heap.size) (old: ∀ k,k<w.heap.size→ ¬ Kf bsx (bs.map fun p=>G.g p.1) k→w'.heap[k]? =w.heap[k]?)
  {H2:Hp} (hle:G.H.le H2) (hin:H2.le (Zv w')) (hnew: ∀ k ob,H2 k=some ob→G.H k=some ob∨w.heap.size≤k∨Kf bsx (bs.map fun p=>G.g p.1) k)
  {ts:List Ty} {os:List Bool} {y:yJ ts} {vs':List Value} {bs':List (Nat→Prop)} {dp:Bool} (hc:kX dp H2 w' ts os y vs' bs') (ha:y3A bs') (hav: ∀ k,In bs' k→H2 k=none∧(w.heap.size≤k∨Kf bsx (bs.map fun p=>G.g p.1) k))
  (hpt: ∀ p∈bs,H2 (G.g p.1).1=none∧ ¬ In bs' (G.g p.1).1) {d:Nat} {sg:Sig} {nb:Option Nat} (hnb: ∀ k,nb=some k→H2 k=none∧(w.heap.size≤k∨Kf bsx (bs.map fun p=>G.g p.1) k)∧ ¬ In bs' k∧ ∀ p∈bs.map (fun p=>G.g p.1),p.1≠k)
  {ex:List (Nat×Ob)} {x:A} {restA:List A} {cs rest:List Value} {v:Value} (hbv:y5k sg d (yM dp false ts os y (1000*(d+1))).1=some (ex,x,restA)) (hex:vT ex||Nat.ble ts.length 500) (hres:ycS w' sg vs' cs rest v nb)
  (hdis: ∀ j∈zp ((yM dp false ts os y (1000*(d+1))).2++ex),j∉gs∧j∉zp bs) (hpin:H0.pin (1000*(d+1)+500)=none)
  {ps:List PK} (hbk:y28 w' ps (bs.map fun p=>G.g p.1) rest) (hlens:(bs.map fun p=>p.2)=ps.filterMap PK.back):
  ∃ G5,Rel P w0 lent H0 ((s.makeAll ((yM dp false ts os y (1000*(d+1))).2++ex)).setAll (YB gs++y5j bs restA)) a w' G5∧RA G5 x v:=by
 obtain ⟨G5,_,e3,e4,e2,e5⟩:=ygp h1 hgs hbx hos htape hout hsz old hle hin hnew hc ha hav (n:=1000*(d+1)) (by omega)
 have hlent: ∀ p∈bs,Kf bsx (bs.map fun p=>G.g p.1) (G.g p.1).1:=fun p hp=> .inr ⟨_,bC hp,rfl⟩
 unfold ycS at hres
 unfold y5k at hbv
 cases hp:sg.ptr with
 |false=>
  rw [hp] at hres hbv
  simp only [ag] at hbv
  obtain ⟨_,hsp,hv⟩:=hres
  cases hsh:vP sg.rs (yM dp false ts os y (1000*(d+1))).1 with
  |none=>
   rw [hsh] at hbv
   cases hbv
  |some q=>
   obtain ⟨as,r⟩:=q
   rw [hsh] at hbv
   simp only [ap,aY] at hbv
   obtain ⟨rfl,rfl,rfl⟩:=hbv
   rw [bt] at hdis ⊢
   obtain ⟨f1,f2⟩:=y29 sg.rs _ as r vs' cs rest hsh e4 hsp
   refine ⟨G5,ygq h1 hbx hnd e3 hdis (fun p hp=>(e2 p.1 fun hj=>(hdis p.1 hj).2 (by rw [Kh];exact bC hp)).1) (fun p hp=>e5 _ (.inr (.inl (hlent p hp))) (hpt p hp).1 (hpt p hp).2) f2 hbk hlens,?_⟩
   rw [hv]
   exact ycW f1
 |true=>
  rw [hp] at hres hbv
  simp only [ai] at hbv
  obtain ⟨r,rs',b,off,vs1,vs2,c2,rfl,hrs,rfl,hl1,hsp,hv,hcells⟩:=hres
  rw [hrs] at hbv
  simp only at hbv
  cases hsh:vP rs' ((yM dp false ts os y (1000*(d+1))).1.drop r.ts.length) with
  |none=>
   rw [hsh] at hbv
   cases hbv
  |some q=>
  obtain ⟨as,r2⟩:=q
  rw [hsh] at hbv
  simp only [ap,aY] at hbv
  obtain ⟨rfl,rfl,rfl⟩:=hbv
  obtain ⟨n1,n2,n3,n4⟩:=hnb b rfl
  have hble:ts.length≤500:=by
   have:Nat.ble ts.length 500=true:=by simpa [vT] using hex
   exact bU this
  obtain ⟨f1,f2⟩:=y9S e4 hl1
  obtain ⟨g1,g2⟩:=y29 rs' _ as r2 vs2 c2 rest hsh f2 hsp
  obtain ⟨i1,i2⟩:=y97 rs' _ as r2 hsh
  have hnd0: ∀ j∈Yt (yM dp false ts os y (1000*(d+1))).1,j≠1000*(d+1)+500:=fun j hj he=>by
   have:=y9U dp false ts os y (1000*(d+1)) j hj
   omega
  have hbox:=e3.oldBox (1000*(d+1)+500) b off f1 hcells (e5 b (n2.imp id .inl) n1 n3) (fun p hp=>by rw [hpin] at hp;cases hp)
  rw [wN _ (fun hj=>hnd0 _ (y4F _ _ _ hj) rfl)] at hbox
  have hag: ∀ j,j≠1000*(d+1)+500→(G5.upd (1000*(d+1)+500) (b,off) undef (0,0)).g j=G5.g j:=fun j hj=>by simp [Gh.upd,hj]
  have hy: ∀ p∈bs,p.1≠1000*(d+1)+500:=fun p hp he=>(hdis (1000*(d+1)+500) (by rw [vW];simp [zp])).2 (by rw [← he,Kh];exact bC hp)
  have hy2: ∀ p∈bs,p.1∉zp (yM dp false ts os y (1000*(d+1))).2:=fun p hp hj=>(hdis p.1 (by rw [vW];simp [hj])).2 (by rw [Kh];exact bC hp)
  refine ⟨_,ygq (Y:=(yM dp false ts os y (1000*(d+1))).2++[(1000*(d+1)+500,.box ((yM dp false ts os y (1000*(d+1))).1.take r.ts.length))]) (G6:=G5.upd (1000*(d+1)+500) (b,off) undef (0,0)) h1 hbx hnd ?_ hdis (fun p hp=> ?_) (fun p hp=> ?_) (RL.agree (G:=G5) (G':=G5.upd (1000*(d+1)+500) (b,off) undef (0,0)) rfl rfl _ _ g2 (fun j hj=>by
   exact (G5.upd_agree _ _ _ _).same (hnd0 j (VM _ _ j (i2 j hj))))) hbk hlens,?_⟩
  ·rw [St.makeAll_append]
   exact hbox
  ·rw [hag _ (hy p hp)]
   exact (e2 p.1 (hy2 p hp)).1
  ·rw [St.makeAll_append]
   exact (e5 _ (.inr (.inl (hlent p hp))) (hpt p hp).1 (hpt p hp).2).make (by
    simp only [ze,Gh.upd,aB]
    exact fun he=>n4 _ (bC hp) he.symm)
  ·rw [hv]
   have hp1:RA (G5.upd (1000*(d+1)+500) (b,off) undef (0,0)) (.box (1000*(d+1)+500) 0) (.pointer (some ⟨b,off,none⟩)):=by
    show Value.pointer _= .pointer _
    simp [Gh.upd]
   have g3:=RL.agree (G:=G5) (G':=G5.upd (1000*(d+1)+500) (b,off) undef (0,0)) rfl rfl _ _ g1 (fun j hj=>(G5.upd_agree _ _ _ _).same (hnd0 j (VM _ _ j (i1 j hj))))
   cases as with
   |nil=>
    cases c2 with
    |nil=>exact hp1
    |cons _ _=>exact g3.elim
   |cons a as=>
    cases c2 with
    |nil=>exact g3.elim
    |cons c c2=>exact ⟨_,rfl,hp1,g3⟩
end
section
variable {P:Program} {C:Ctx} {w0:World} {lent:Nat→Prop} {H0:Base} {s:St} {a:Act} {w:World} {G:Gh} {lk:Lk}
structure EqD (G G':Gh):Prop where
 H:G'.H=G.H
 g:G'.g=G.g
 sv:G'.sv=G.sv
 sz:G'.sz=G.sz
 hd:G'.hd=G.hd
 pv:G'.pv=G.pv
theorem EqD.refl (G:Gh):EqD G G:=⟨rfl,rfl,rfl,rfl,rfl,rfl⟩
theorem EqD.trans {G G' G'':Gh} (h:EqD G G') (h':EqD G' G''):EqD G G'':=⟨h'.H.trans h.H,h'.g.trans h.g,h'.sv.trans h.sv,h'.sz.trans h.sz,h'.hd.trans h.hd,h'.pv.trans h.pv⟩
theorem EqD.setDp (G:Gh) (q:Nat) (B:Nat→Prop):EqD G (G.setDp q B):=⟨rfl,rfl,rfl,rfl,rfl,rfl⟩
theorem EqD.rl {G G':Gh} (h:EqD G G') {x:List A} {v:List Value} (hr:RL G x v):RL G' x v:=RL.mono (by rw [h.H];exact Hp.le.refl _) h.g h.sv h.sz h.hd h.pv x v hr
def yuh (ob:Ob) (e:Nat) (ts:List Ty) (xs:List (yJ ts)):Prop:=(ob= .root true e ts xs∧vM ts=true)∨ ∃ fin tag,ob= .deep fin tag e ts xs
theorem yuh.dp {ob:Ob} {e:Nat} {ts:List Ty} {xs:List (yJ ts)} (hr:yuh ob e ts xs) {n:Nat} (hro:RO G w n ob): ∃ cells Bs,DpR w (ze G n ob) e ts xs (G.sv n) cells Bs:=by
 rcases hr with ⟨rfl,hf⟩|⟨fin,tag,rfl⟩
 ·obtain ⟨hsz,hpos,cells,hown,hone,hblk,hrd⟩:=hro
  exact ⟨cells,fun _ _=>False,hpos,hown,hone,fun k hk=>hk,fun _ _ h=>h.elim,fun _ _ _ h=>h.elim,fun j x hj=>ynv ts x _ hf (hrd j x hj)⟩
 ·obtain ⟨_,_,_,_,cells,Bs,hd,_⟩:=hro
  exact ⟨cells,Bs,hd⟩
theorem DpR.len {B:Nat→Prop} {e:Nat} {ts:List Ty} {xs:List (yJ ts)} {v:Value} {cells:List Value} {Bs:Nat→Nat→Prop} (h:DpR w B e ts xs v cells Bs): ∃ A c,v= .slice A xs.length c:=by
 rcases h.row.2 with ⟨rfl,hn⟩|⟨g,cap,cur,rfl,_⟩
 ·exact ⟨none,0,by rw [hn]⟩
 ·exact ⟨_,_,rfl⟩
theorem Rel.move (h:Rel P w0 lent H0 s a w G) {n q:Nat} {obn ob':Ob} {e:Nat} {ts:List Ty} {xs:List (yJ ts)} (hn:yF s.o n=some obn) (hob:yuh obn e ts xs) (hq:yF s.o q=some .gone) (hnq:n≠q)
  (ho:(ob'= .root true e ts xs∧vM ts=true)∨ ∃ tag,ob'= .deep false tag e ts xs∧(0<tag→G.sv q=G.pv (tag - 1))) (hsv:G.sv q=G.sv n) (hsz:G.sz q=(ts.length,xs.length)) (hg: ∀ k,(G.sv q).ownBlock=some k→k=(G.g q).1):
  Rel P w0 lent H0 ((s.set n .gone).set q ob') a w (G.setDp q (ze G n obn)):=by
 obtain ⟨cells,Bs,hd⟩:=hob.dp (h.objs n _ hn)
 have h1:=h.gone n
 have lq:yF (s.set n .gone).o q=some .gone:=by
  show yF (Vx s.o n .gone) q=_
  rw [Yj,am (fun e=>hnq e.symm)]
  exact hq
 have h2:=h1.setDp lq (ze G n obn)
 have hdp:(G.setDp q (ze G n obn)).dp q=ze G n obn:=by simp [Gh.setDp]
 refine h2.set ?_ fun k hk=> ?_
 ·rcases ho with ⟨rfl,hf⟩|⟨tag,rfl,ht⟩
  ·refine ⟨hsz,hd.pos,cells,?_,hd.one,hg,fun j x hj=>ynw ts x _ hf (hd.rd j x hj)⟩
   show w.ownsRow 0 e ts.length (G.sv q) _ _
   rw [hsv]
   exact hd.row
  ·refine ⟨hsz,fun k hk=> ?_,ht,hg,cells,Bs,?_,fun h=>by cases h⟩
   ·rw [hdp] at hk
    exact (h.objs n _ hn).blk hk
   ·rw [hdp]
    show DpR w _ e ts xs (G.sv q) cells Bs
    rw [hsv]
    exact hd
 ·have hk':ze G n obn k:=by
   rcases ho with ⟨rfl,_⟩|⟨tag,rfl,_⟩
   ·have hk2:(G.sv q).ownBlock=some k:=hk
    rw [hsv] at hk2
    exact hd.top k hk2
   ·have hk2:(G.setDp q (ze G n obn)).dp q k:=hk
    rw [hdp] at hk2
    exact hk2
  obtain ⟨a1,a2⟩:=h.away n _ k hn hk'
  refine ⟨a1,a2,fun j oj hj hl hbj=> ?_⟩
  rw [y1l hj] at hbj
  have hl':yF (Vx s.o n .gone) j=some oj:=hl
  rw [Yj] at hl'
  split at hl'
  ·obtain ⟨_,_,rfl⟩:=aq.1 hl'
   exact hbj
  ·rename_i hjn
   exact hjn (h.apart j n _ _ k hl' hn hbj hk')
structure TgQ (lk:Lk) (G:Gh) (q:Nat):Prop where
 gb: ∀ k,(G.sv q).ownBlock=some k→k=(G.g q).1
 row: ∀ ob e ts (xs:List (yJ ts)),lk q=some ob→Rw ob e ts xs→G.sz q=(ts.length,xs.length)∧ ∃ A c,G.sv q= .slice A xs.length c
 tag: ∀ fin tag e ts xs,lk q=some (.deep fin tag e ts xs)→0<tag→G.sv q=G.pv (tag - 1)
theorem TgQ.eqD {G G':Gh} (h:EqD G G') {q:Nat} (ht:TgQ lk G q):TgQ lk G' q:=⟨by rw [h.sv,h.g];exact ht.gb,by rw [h.sv,h.sz];exact ht.row,by rw [h.sv,h.pv];exact ht.tag⟩
theorem yiU {ob:Ob} {y:Sigma El} (h:yl7 ob=some y) (hf: ∀ own e ts xs,ob= .root own e ts xs→vM ts=true): ∃ e ts xs,y=⟨.sl e ts,xs⟩∧yuh ob e ts xs:=by
 cases ob with
 |root own e ts xs=>
  cases own with
  |false=>simp [yl7] at h
  |true=>
   simp only [yl7,ap] at h
   exact ⟨e,ts,xs,h.symm,.inl ⟨rfl,hf _ _ _ _ rfl⟩⟩
 |deep fin tag e ts xs=>
  simp only [yl7,ap] at h
  exact ⟨e,ts,xs,h.symm,.inr ⟨fin,tag,rfl⟩⟩
 |_=>simp [yl7] at h
theorem ycY {obs:List (Nat×Ob)} (hobs: ∀ n own e ts xs,yF obs n=some (.root own e ts xs)→vM ts=true): ∀ (tg rs:List A) (mv:List (Nat×Ob)) (vs:List Value) (s:St) (G:Gh),y0G lk obs tg rs=some mv→Rel P w0 lent H0 s a w G→RL G tg vs→RL G rs vs→
  (Yt tg).Nodup→(Yt rs).Nodup→(∀ q∈Yt tg,q∉Yt rs)→(∀ q∈Yt tg,yF s.o q=some .gone∧TgQ lk G q)→(∀ n∈Yt rs,yF s.o n=yF obs n)→ ∃ G',EqD G G'∧Rel P w0 lent H0 (s.setAll mv) a w G':=by
 intro tg
 induction tg with
 |nil=>
  intro rs mv vs s G hm h ht hr n1 n2 n3 hq hn
  cases rs with
  |nil=>
   simp only [y0G,ap] at hm
   subst hm
   exact ⟨G,EqD.refl G,h⟩
  |cons _ _=>simp [y0G] at hm
 |cons t tg ih=>
  intro rs mv vs s G hm h ht hr n1 n2 n3 hq hn
  cases rs with
  |nil=>cases t<;>simp [y0G] at hm
  |cons x rs=>
   cases vs with
   |nil=>exact ht.elim
   |cons v vs=>
    cases x with
    |own n=>
     have n2':=bY.1 (show (([n]:List Nat)++Yt rs).Nodup from n2)
     have hnn: ∀ m∈Yt rs,m≠n:=fun m hm he=>n2'.2.2 n (by simp) m hm he.symm
     have look_n: ∀ (s':St) (ob:Ob) (m:Nat),m≠n→yF (s'.set n ob).o m=yF s'.o m:=fun s' ob m hm=>by
      show yF (Vx s'.o n ob) m=_
      rw [Yj,am hm]
     cases t with
     |nils=>
      simp only [y0G] at hm
      obtain ⟨ms,hms,rfl⟩:=aq.1 hm
      have hqn: ∀ q∈Yt tg,q≠n:=fun q hq' he=>n3 q (by simp [Yt,A.ids,hq']) (by simp [Yt,A.ids,he])
      obtain ⟨G',e1,e2⟩:=ih rs ms vs (s.set n .gone) G hms (h.gone n) ht.2 hr.2 n1 n2'.2.1 (fun q hq'=>fun hm=>n3 q (by simp [Yt,A.ids,hq']) (by simp [Yt,hm])) (fun q hq'=>by
       rw [look_n s _ q (hqn q hq')]
       exact hq q (by simp [Yt,A.ids,hq'])) (fun m hm=>by
       rw [look_n s _ m (hnn m hm)]
       exact hn m (by simp [Yt,hm]))
      exact ⟨G',e1,e2⟩
     |own q=>
      simp only [y0G] at hm
      have n1':=bY.1 (show (([q]:List Nat)++Yt tg).Nodup from n1)
      cases hob:yF obs n with
      |none=>simp [hob] at hm
      |some obn=>
       cases hrs:yl7 obn with
       |none=>simp [hob,hrs] at hm
       |some y=>
        simp only [hob,aa,hrs] at hm
        cases hmd:ypj lk y q with
        |none=>simp [hmd] at hm
        |some m=>
         cases hms:y0G lk obs tg rs with
         |none=>simp [hmd,hms] at hm
         |some ms=>
          simp only [hmd,hms,ap] at hm
          subst hm
          obtain ⟨e,ts,xs,rfl,hrow⟩:=yiU hrs (fun own e ts xs he=>hobs n own e ts xs (by rw [hob,he]))
          have hln:yF s.o n=some obn:=(hn n (by simp [Yt,A.ids])).trans hob
          obtain ⟨hlq,htq⟩:=hq q (by simp [Yt,A.ids])
          have hnq:n≠q:=fun he=>n3 q (by simp [Yt,A.ids]) (by simp [Yt,A.ids,he])
          have hsv:G.sv q=G.sv n:=ht.1.1.symm.trans hr.1.1
          obtain ⟨cells,Bs,hd⟩:=hrow.dp (h.objs n _ hln)
          obtain ⟨A0,cc,hlen⟩:=hd.len
          have key:(m= .root true e ts xs∧vM ts=true∨ ∃ tag,m= .deep false tag e ts xs∧(0<tag→G.sv q=G.pv (tag - 1)))∧G.sz q=(ts.length,xs.length):=by
           unfold ypj at hmd
           cases hlk:lk q with
           |none=>simp [hlk] at hmd
           |some ob=>
            cases ob with
            |root own e' ts' xs'=>
             cases own with
             |false=>simp [hlk] at hmd
             |true=>
              simp only [hlk] at hmd
              cases hf:vM ts' with
              |false=>simp [hf] at hmd
              |true=>
               simp only [hf,ai] at hmd
               obtain ⟨z,hz,rfl⟩:=aq.1 hmd
               have hcs:=Ke hz
               injection hcs with c1 c2
               injection c1 with c3 c4
               subst c3 c4
               have:=eq_of_heq c2
               subst this
               obtain ⟨s1,A',c',s2⟩:=htq.row _ _ _ _ hlk (.inl ⟨true,rfl⟩)
               have hl:xs'.length=xs.length:=by
                rw [hsv,hlen] at s2
                injection s2 with _ s3
                exact s3.symm
               exact ⟨.inl ⟨rfl,hf⟩,by rw [s1,hl]⟩
            |deep fin tag e' ts' xs'=>
             simp only [hlk] at hmd
             obtain ⟨z,hz,rfl⟩:=aq.1 hmd
             have hcs:=Ke hz
             injection hcs with c1 c2
             injection c1 with c3 c4
             subst c3 c4
             have:=eq_of_heq c2
             subst this
             obtain ⟨s1,A',c',s2⟩:=htq.row _ _ _ _ hlk (.inr ⟨fin,tag,rfl⟩)
             have hl:xs'.length=xs.length:=by
              rw [hsv,hlen] at s2
              injection s2 with _ s3
              exact s3.symm
             exact ⟨.inr ⟨tag,rfl,htq.tag _ _ _ _ _ hlk⟩,by rw [s1,hl]⟩
            |_=>simp [hlk] at hmd
          have hmove:=h.move hln hrow hlq hnq key.1 hsv key.2 htq.gb
          have hE:=EqD.setDp G q (ze G n obn)
          have hqq: ∀ q'∈Yt tg,q'≠q∧q'≠n:=fun q' hq'=>⟨fun he=>n1'.2.2 q (by simp) q' hq' he.symm,fun he=>n3 q' (by simp [Yt,hq']) (by simp [Yt,A.ids,he])⟩
          have lk2: ∀ m',m'≠q→m'≠n→yF ((s.set n .gone).set q m).o m'=yF s.o m':=fun m' h1 h2=>by
           show yF (Vx (s.set n .gone).o q m) m'=_
           rw [Yj,am h1]
           exact look_n s _ m' h2
          obtain ⟨G',e1,e2⟩:=ih rs ms vs ((s.set n .gone).set q m) _ hms hmove (hE.rl ht.2) (hE.rl hr.2) n1'.2.1 n2'.2.1 (fun q' hq'=>fun hm=>n3 q' (by simp [Yt,hq']) (by simp [Yt,hm])) (fun q' hq'=>by
           rw [lk2 q' (hqq q' hq').1 (hqq q' hq').2]
           obtain ⟨k1,k2⟩:=hq q' (by simp [Yt,hq'])
           exact ⟨k1,k2.eqD hE⟩) (fun m' hm'=>by
           rw [lk2 m' (fun he=>n3 q (by simp [Yt,A.ids]) (by rw [← he];simp [Yt,hm'])) (hnn m' hm')]
           exact hn m' (by simp [Yt,hm']))
          exact ⟨G',hE.trans e1,e2⟩
     |_=>simp [y0G] at hm
    |_=>cases t<;>simp [y0G] at hm
theorem DpR.put {w w':World} {B B':Nat→Prop} {e:Nat} {ts:List Ty} {xs:List (yJ ts)} {v u:Value} {cells:List Value} {Bs:Nat→Nat→Prop} (hd:DpR w B e ts xs v cells Bs) {i c:Nat} (hi:i<xs.length) {x x':yJ ts} {y:Sigma El} (hx:xs[i]? =some x) (hse:y0k ts x c [y]=some x')
  (hsame: ∀ k,B k→ ¬ Bs (i*ts.length+c) k→w'.heap[k]? =w.heap[k]?) (hcell:cells[i*ts.length+c]? =some u) (hu:DpT w' y.1 B' y.2 u) (hdis: ∀ k,B' k→B k→Bs (i*ts.length+c) k):
  ∃ Bs',DpR w' (fun k=>(B k∧ ¬ Bs (i*ts.length+c) k)∨B' k) e ts (xs.set i x') v cells Bs':=by
 obtain ⟨hE,hfit⟩:=y6I ts x c [y] x' hse
 have hcl:c+1≤ts.length:=by
  rcases hfit with h|h
  ·cases h
  ·simpa using h
 have hne: ∀ m k,m≠i*ts.length+c→Bs m k→ ¬ Bs (i*ts.length+c) k:=fun m k hm hk hk'=>hm (hd.dis m _ k hk hk')
 have hfr: ∀ m,m≠i*ts.length+c→ ∀ k,Bs m k→w'.heap[k]? =w.heap[k]? :=fun m hm k hk=>hsame k (hd.sub m k hk).1 (hne m k hm hk)
 let Bs':Nat→Nat→Prop:=fun m=>if m=i*ts.length+c then B' else Bs m
 have hBs: ∀ m k,Bs' m k→(m=i*ts.length+c∧B' k)∨(m≠i*ts.length+c∧Bs m k):=by
  intro m k hk
  have hk':(if m=i*ts.length+c then B' else Bs m) k:=hk
  by_cases hm:m=i*ts.length+c
  ·rw [af hm] at hk'
   exact .inl ⟨hm,hk'⟩
  ·rw [am hm] at hk'
   exact .inr ⟨hm,hk'⟩
 refine ⟨Bs',hd.pos,⟨by rw [aG];exact hd.row.1,?_⟩,hd.one,fun k hk=> .inl ⟨hd.top k hk,fun h=>(hd.sub _ k h).2 hk⟩,fun m k hk=> ?_,fun m m' k hk hk'=> ?_,fun j z hj=> ?_⟩
 ·rcases hd.row.2 with ⟨h1,h2⟩|⟨g,cap,cur,hv,hb,hg,r⟩
  ·exact .inl ⟨h1,by rw [aG];exact h2⟩
  ·refine .inr ⟨g,cap,cur,by rw [aG];exact hv,hb,?_,by rw [aG];exact r⟩
   have hob:v.ownBlock=some g:=by rw [hv];rfl
   rw [hsame g (hd.top g hob) (fun hk=>(hd.sub _ g hk).2 hob)]
   exact hg
 ·rcases hBs m k hk with ⟨_,h1⟩|⟨hm,h1⟩
  ·refine ⟨.inr h1,fun hob=> ?_⟩
   exact (hd.sub _ k (hdis k h1 (hd.top k hob))).2 hob
  ·exact ⟨.inl ⟨(hd.sub m k h1).1,hne m k hm h1⟩,(hd.sub m k h1).2⟩
 ·rcases hBs m k hk with ⟨h1,h2⟩|⟨h1,h2⟩<;>rcases hBs m' k hk' with ⟨h3,h4⟩|⟨h3,h4⟩
  ·rw [h1,h3]
  ·exact absurd (hdis k h2 (hd.sub m' k h4).1) (hne m' k h3 h4)
  ·exact absurd (hdis k h4 (hd.sub m k h2).1) (hne m k h1 h2)
  ·exact hd.dis m m' k h2 h4
 ·have hjl:j<xs.length:=by
   have:=(av.1 hj).1
   rwa [aG] at this
  refine (JC ts _ _ _).2 fun c' y' hc'=> ?_
  have hc'l:=y3d ts _ _ _ hc'
  by_cases hji:j=i
  ·subst hji
   rw [bh hi] at hj
   injection hj with hj
   subst hj
   rw [hE c'] at hc'
   by_cases hcc:c'=c
   ·subst hcc
    rw [af (by simp)] at hc'
    have hy:y=y':=by simpa using hc'
    subst hy
    refine ⟨u,hcell,?_⟩
    show DpT w' y.1 (if _ then _ else _) y.2 u
    rw [af rfl]
    exact hu
   ·rw [am (by simp only [ah,aj];omega)] at hc'
    obtain ⟨u',h1,h2⟩:=(JC ts _ _ _).1 (hd.rd j x hx) c' y' hc'
    refine ⟨u',h1,?_⟩
    show DpT w' y'.1 (if _ then _ else _) y'.2 u'
    rw [am (by omega)]
    exact DpT.frame _ _ _ _ _ (hfr _ (by omega)) (fun _ hk=>hk) h2
  ·rw [bl (fun e=>hji e.symm)] at hj
   obtain ⟨u',h1,h2⟩:=(JC ts _ _ _).1 (hd.rd j z hj) c' y' hc'
   have hm:j*ts.length+c'≠i*ts.length+c:=by
    intro he
    rcases cw hji with hlt|hlt
    ·have:(j+1)*ts.length≤i*ts.length:=aI _ hlt
     rw [bn,bv] at this
     omega
    ·have:(i+1)*ts.length≤j*ts.length:=aI _ hlt
     rw [bn,bv] at this
     omega
   refine ⟨u',h1,?_⟩
   show DpT w' y'.1 (if _ then _ else _) y'.2 u'
   rw [am hm]
   exact DpT.frame _ _ _ _ _ (hfr _ hm) (fun _ hk=>hk) h2
theorem Rel.moveB (h:Rel P w0 lent H0 s a w G) {n o:Nat} {obn:Ob} {e':Nat} {us:List Ty} {ys:List (yJ us)} (hn:yF s.o n=some obn) (hob:yuh obn e' us ys) (ho:yF s.o o=some .gone) (hno:n≠o)
  {wb:World} {B:Nat→Prop} {tag e:Nat} {ts:List Ty} {xs:List (yJ ts)} {cells:List Value} {Bs:Nat→Nat→Prop} (hd:DpR wb B e ts xs (G.sv o) cells Bs) {i c:Nat} (hi:i<xs.length) {x x':yJ ts} (hx:xs[i]? =some x) (hse:y0k ts x c [⟨.sl e' us,ys⟩]=some x')
  (hsame: ∀ k,B k→ ¬ Bs (i*ts.length+c) k→w.heap[k]? =wb.heap[k]?) (hlt: ∀ k,B k→k<w.heap.size) (hcell:cells[i*ts.length+c]? =some (G.sv n)) (hdis: ∀ k,ze G n obn k→B k→Bs (i*ts.length+c) k)
  (hfree: ∀ k,B k→ ¬ Bs (i*ts.length+c) k→G.H k=none∧(w0.heap.size≤k∨lent k)∧ ∀ (j:Nat) (oj:Ob),j≠n→yF s.o j=some oj→ ¬ ze G j oj k)
  (hsz:G.sz o=(ts.length,xs.length)) (htag:0<tag→G.sv o=G.pv (tag - 1)) (hg: ∀ k,(G.sv o).ownBlock=some k→k=(G.g o).1) (hfin: ∀ (m:Nat) (A:Option Addr) (n c:Nat),cells[m]? =some (.slice A n c)→G.hd o m= .slice A n c):
  Rel P w0 lent H0 ((s.set n .gone).set o (.deep true tag e ts (xs.set i x'))) a w (G.setDp o fun k=>(B k∧ ¬ Bs (i*ts.length+c) k)∨ze G n obn k):=by
 obtain ⟨celln,Bn,hdn⟩:=hob.dp (h.objs n _ hn)
 obtain ⟨Bs',hD⟩:=hd.put hi hx hse hsame hcell (DpT.row.2 ⟨celln,Bn,hdn⟩) hdis
 have h1:=h.gone n
 have lq:yF (s.set n .gone).o o=some .gone:=by
  show yF (Vx s.o n .gone) o=_
  rw [Yj,am (fun e=>hno e.symm)]
  exact ho
 have h2:=h1.setDp lq (fun k=>(B k∧ ¬ Bs (i*ts.length+c) k)∨ze G n obn k)
 have hdp:(G.setDp o fun k=>(B k∧ ¬ Bs (i*ts.length+c) k)∨ze G n obn k).dp o=fun k=>(B k∧ ¬ Bs (i*ts.length+c) k)∨ze G n obn k:=by simp [Gh.setDp]
 refine h2.set ⟨by rw [aG];exact hsz,fun k hk=> ?_,htag,hg,cells,Bs',by rw [hdp];exact hD,fun _=>hfin⟩ fun k hk=> ?_
 ·rw [hdp] at hk
  exact hk.elim (fun hk=>hlt k hk.1) fun hk=>(h.objs n _ hn).blk hk
 ·have hk':(B k∧ ¬ Bs (i*ts.length+c) k)∨ze G n obn k:=by
   have hk2:(G.setDp o fun k=>(B k∧ ¬ Bs (i*ts.length+c) k)∨ze G n obn k).dp o k:=hk
   rw [hdp] at hk2
   exact hk2
  have hl: ∀ (j:Nat) (oj:Ob),yF (s.set n .gone).o j=some oj→(j=n∧oj= .gone)∨(j≠n∧yF s.o j=some oj):=by
   intro j oj hl
   have hl':yF (Vx s.o n .gone) j=some oj:=hl
   rw [Yj] at hl'
   split at hl'
   ·rename_i hj
    obtain ⟨_,_,rfl⟩:=aq.1 hl'
    exact .inl ⟨hj,rfl⟩
   ·rename_i hj
    exact .inr ⟨hj,hl'⟩
  rcases hk' with hk'|hk'
  ·obtain ⟨a1,a2,a3⟩:=hfree k hk'.1 hk'.2
   refine ⟨a1,a2,fun j oj hj hlj hbj=> ?_⟩
   rw [y1l hj] at hbj
   rcases hl j oj hlj with ⟨_,rfl⟩|⟨hjn,hlj'⟩
   ·exact hbj
   ·exact a3 j oj hjn hlj' hbj
  ·obtain ⟨a1,a2⟩:=h.away n _ k hn hk'
   refine ⟨a1,a2,fun j oj hj hlj hbj=> ?_⟩
   rw [y1l hj] at hbj
   rcases hl j oj hlj with ⟨_,rfl⟩|⟨hjn,hlj'⟩
   ·exact hbj
   ·exact hjn (h.apart j n _ _ k hlj' hn hbj hk')
def y21 (ob:Ob):Prop:=(∃ e ts xs,ob= .root true e ts xs)∨ ∃ fin tag e ts xs,ob= .deep fin tag e ts xs
theorem ycZ {bk:Bool} {t:Ty} {x:A} {y:El t} {gs:List Nat} (h:VK lk bk t x=some (y,gs)):x.ids=gs∧ ∀ q∈gs,∃ ob,lk q=some ob∧y21 ob:=by
 cases x with
 |own q=>
  simp only [VK] at h
  cases hq:lk q with
  |none=>simp [hq] at h
  |some ob=>
   cases ob with
   |root own e ts xs=>
    cases own with
    |false=>simp [hq] at h
    |true=>
     simp only [hq] at h
     cases hf:vM ts with
     |false=>simp [hf] at h
     |true=>
      simp only [hf,ai] at h
      obtain ⟨z,_,he⟩:=aq.1 h
      injection he with _ e2
      subst e2
      exact ⟨rfl,fun p hp=>by
       have:p=q:=by simpa using hp
       subst this
       exact ⟨_,hq,.inl ⟨e,ts,xs,rfl⟩⟩⟩
   |deep fin tag e ts xs=>
    simp only [hq] at h
    obtain ⟨z,_,he⟩:=aq.1 h
    injection he with _ e2
    subst e2
    exact ⟨rfl,fun p hp=>by
     have:p=q:=by simpa using hp
     subst this
     exact ⟨_,hq,.inr ⟨fin,tag,e,ts,xs,rfl⟩⟩⟩
   |_=>simp [hq] at h
 |bor q i c=>
  cases bk with
  |false=>cases t<;>simp [VK] at h
  |true=>
   simp only [VK,ai] at h
   cases hq:lk q with
   |none=>simp [hq] at h
   |some ob=>
    cases ob with
    |deep fin tag e ts xs=>
     cases fin with
     |false=>simp [hq] at h
     |true=>
      simp only [hq] at h
      cases hcs:Kb ts (rdE ts xs i) c with
      |none=>simp [hcs] at h
      |some p=>
       obtain ⟨t',y'⟩:=p
       cases t' with
       |sl e' us=>
        simp only [hcs] at h
        obtain ⟨z,_,he⟩:=aq.1 h
        injection he with _ e2
        subst e2
        exact ⟨rfl,fun p hp=>by
         have:p=q:=by simpa using hp
         subst this
         exact ⟨_,hq,.inr ⟨true,tag,e,ts,xs,rfl⟩⟩⟩
       |_=>simp [hcs] at h
    |_=>simp [hq] at h
 |nils=>
  cases t with
  |sl e ts=>
   simp only [VK] at h
   cases hb:Nat.blt 0 ts.length with
   |false=>simp [hb] at h
   |true=>
    simp only [hb,ai] at h
    injection h with h
    injection h with _ e2
    subst e2
    exact ⟨rfl,by simp⟩
  |_=>simp [VK] at h
 |val t' x'=>
  simp only [VK] at h
  cases hf:Ty.flat t with
  |false=>simp [hf] at h
  |true=>
   simp only [hf,ai] at h
   obtain ⟨z,_,he⟩:=aq.1 h
   injection he with _ e2
   subst e2
   exact ⟨rfl,by simp⟩
 |_=>cases t<;>simp [VK] at h
theorem ygr {bk:Bool}: ∀ (ts:List Ty) (os:List Bool) (l:List A) (y:yJ ts) (is gs:List Nat),vR lk true bk ts os l=some (y,is,gs)→Yt (qZ os l)=gs∧ ∀ q∈gs,∃ ob,lk q=some ob∧y21 ob:=by
 have one: ∀ {t:Ty} {os:List Bool} {x:A} {y:El t} {is gs:List Nat} {l:List A} {hs:List Nat},qG lk true bk (os.headD false) t x=some (y,is,gs)→Yt (qZ os.tail l)=hs→(∀ q∈hs,∃ ob,lk q=some ob∧y21 ob)→Yt (qZ os (x::l))=gs++hs∧ ∀ q∈gs++hs,∃ ob,lk q=some ob∧y21 ob:=by
  intro t os x y is gs l hs h h1 h2
  have plain:os.headD false=false→gs=[]:=by
   intro ho
   rw [ho] at h
   have h':(toT lk t x).map (fun (y,is)=>(y,is,([]:List Nat)))=some (y,is,gs):=h
   obtain ⟨p,_,he⟩:=aq.1 h'
   injection he with _ e2
   injection e2 with _ e3
   exact e3.symm
  cases os with
  |nil=>
   rw [plain rfl]
   have:hs=[]:=by
    rw [← h1]
    show Yt (qZ [] l)=[]
    rfl
   rw [this]
   exact ⟨rfl,by simp⟩
  |cons q os=>
   cases q with
   |false=>
    rw [plain rfl]
    exact ⟨h1,h2⟩
   |true=>
    have h':(VK lk bk t x).map (fun (y,gs)=>(y,([]:List Nat),gs))=some (y,is,gs):=h
    obtain ⟨p,hp,he⟩:=aq.1 h'
    obtain ⟨y',gs'⟩:=p
    injection he with _ e2
    injection e2 with _ e3
    subst e3
    obtain ⟨d1,d2⟩:=ycZ hp
    refine ⟨?_,fun q hq=> ?_⟩
    ·show x.ids++Yt (qZ os l)=gs'++hs
     rw [d1]
     exact congrArg (gs'++ ·) h1
    ·rcases aF.1 hq with hq|hq
     ·exact d2 q hq
     ·exact h2 q hq
 intro ts
 induction ts with
 |nil=>
  intro os l y is gs h
  cases l with
  |nil=>
   have h':some ((():yJ []),([]:List Nat),([]:List Nat))=some (y,is,gs):=h
   injection h' with h'
   injection h' with _ e2
   injection e2 with _ e3
   subst e3
   exact ⟨by rw [y7v];rfl,by simp⟩
  |cons x l=>exact absurd h (by rw [show vR lk true bk [] os (x::l)=none from rfl];exact fun h=>by cases h)
 |cons t ts ih=>
  intro os l y is gs h
  cases ts with
  |nil=>
   cases l with
   |nil=>exact absurd h (by rw [show vR lk true bk [t] os []=none from rfl];exact fun h=>by cases h)
   |cons x l=>
    cases l with
    |cons x2 l=>exact absurd h (by rw [show vR lk true bk [t] os (x::x2::l)=none from rfl];exact fun h=>by cases h)
    |nil=>
     have h':qG lk true bk (os.headD false) t x=some (y,is,gs):=h
     have:=one (l:=[]) (hs:=[]) h' (by rw [y7v];rfl) (by simp)
     simpa using this
  |cons u r=>
   cases l with
   |nil=>exact absurd h (by rw [show vR lk true bk (t::u::r) os []=none from rfl];exact fun h=>by cases h)
   |cons x l=>
    have h':(match qG lk true bk (os.headD false) t x with
     |some (x,is,gs)=>match vR lk true bk (u::r) os.tail l with
      |some (y,js,hs)=>some (((x,y):yJ (t::u::r)),is++js,gs++hs)
      |none=>none
     |none=>none)=some (y,is,gs):=h
    cases h1:qG lk true bk (os.headD false) t x with
    |none=>
     rw [h1] at h'
     cases h'
    |some p=>
     obtain ⟨x1,is1,gs1⟩:=p
     rw [h1] at h'
     cases h2:vR lk true bk (u::r) os.tail l with
     |none=>
      rw [h2] at h'
      cases h'
     |some q=>
      obtain ⟨y1,is2,gs2⟩:=q
      rw [h2] at h'
      injection h' with h'
      injection h' with e1 e2
      injection e2 with e2 e3
      subst e1 e2 e3
      obtain ⟨i1,i2⟩:=ih os.tail l y1 is2 gs2 h2
      exact one h1 i1 i2
theorem ypz: ∀ (ts:List Ty) (x:yJ ts) (c:Nat) (y:Sigma El) (x':yJ ts),y0k ts x c [y]=some x'→ ∃ z,Kb ts x c=some ⟨y.1,z⟩:=by
 intro ts
 induction ts with
 |nil=>intro x c y x' h;cases c<;>exact absurd h (by rw [show y0k [] x _ [y]=none from rfl];exact fun h=>by cases h)
 |cons t ts ih=>
  intro x c y x' h
  obtain ⟨u,y⟩:=y
  cases ts with
  |nil=>
   cases c with
   |succ c=>exact absurd h (by rw [show y0k [t] x (c+1) [⟨u,y⟩]=none from rfl];exact fun h=>by cases h)
   |zero=>
    have h':j9 u t y=some x':=h
    have hs:=Ke h'
    injection hs with h1 _
    subst h1
    exact ⟨x,rfl⟩
  |cons t2 ts=>
   cases c with
   |zero=>
    have h':(match j9 u t y with
     |some z=>match y0k (t2::ts) x.2 0 [] with
      |some w=>some ((z,w):yJ (t::t2::ts))
      |none=>none
     |none=>none)=some x':=h
    cases hc:j9 u t y with
    |none=>
     rw [hc] at h'
     cases h'
    |some z=>
     have hs:=Ke hc
     injection hs with h1 _
     subst h1
     exact ⟨x.1,rfl⟩
   |succ c=>
    have h':(match y0k (t2::ts) x.2 c [⟨u,y⟩] with
     |some w=>some ((x.1,w):yJ (t::t2::ts))
     |none=>none)=some x':=h
    cases hs:y0k (t2::ts) x.2 c [⟨u,y⟩] with
    |none=>
     rw [hs] at h'
     cases h'
    |some w=>exact ih x.2 c ⟨u,y⟩ w hs
theorem yd0 (s:St) (i j:Nat) (x:Ob):yF (s.make i x).o j=if j=i then some x else (yF s.o j).map (·.forget i):=by
 show yF ((i,x)::YY i s.o) j=_
 by_cases hj:j=i
 ·subst hj
  simp [yF,yp]
 ·simp only [yF,yB (fun e:i=j=>hj e.symm),ag,hj,aU]
  rw [kP,am hj]
theorem qg: ∀ (X:List (Nat×Ob)) (s:St) (j:Nat) (ob:Ob),j∉zp X→(∀ d,ob.forget d=ob)→yF s.o j=some ob→yF (s.makeAll X).o j=some ob
 |[],_,_,_,_,_,h=>h
 |(i,x)::X,s,j,ob,hj,hm,h=>by
  simp only [zp,aA,not_or] at hj
  refine qg X _ j ob hj.2 hm ?_
  rw [yd0,am hj.1,h]
  simp [hm i]
theorem y5Y: ∀ (X:List (Nat×Ob)) (s:St) (j:Nat),yhQ X→(zp X).Nodup→j∈zp X→yF (s.makeAll X).o j=yF X j
 |(i,x)::X,s,j,hm,hn,hj=>by
  have hn':=cj.1 hn
  by_cases hji:j=i
  ·subst hji
   rw [St.makeAll,qg X _ j x hn'.1 hm.1 (by rw [yd0,af rfl])]
   simp [yF,yp]
  ·have hj':j∈zp X:=by
    rcases aA.1 (show j∈i::zp X from hj) with h|h
    ·exact absurd h hji
    ·exact h
   rw [St.makeAll,y5Y X _ j hm.2 hn'.2 hj']
   simp [yF,yB (fun e:i=j=>hji e.symm)]
theorem ygs (dp tg:Bool) (t:Ty) (own:Bool) (x:El t) (n:Nat):yhQ (Yw dp tg t own x n).2∧Yt [(Yw dp tg t own x n).1]=zp (Yw dp tg t own x n).2∧(zp (Yw dp tg t own x n).2).Nodup:=by
 have plain: ∀ {t:Ty} {own:Bool} {x:El t},Yw dp tg t own x n=(.val t x,[])→yhQ (Yw dp tg t own x n).2∧Yt [(Yw dp tg t own x n).1]=zp (Yw dp tg t own x n).2∧(zp (Yw dp tg t own x n).2).Nodup:=by
  intro t own x h
  rw [h]
  exact ⟨trivial,rfl,List.nodup_nil⟩
 cases t with
 |sl e us=>
  cases own with
  |false=>exact plain rfl
  |true=>
   cases dp<;>cases tg<;>cases hf:vM us<;>simp [Yw,yhQ,zp,Yt,A.ids,Ob.forget,hf]
 |int _=>exact plain (by cases own<;>rfl)
 |bool=>exact plain (by cases own<;>rfl)
 |str=>exact plain (by cases own<;>rfl)
theorem yhR (dp tg:Bool): ∀ (ts:List Ty) (os:List Bool) (x:yJ ts) (n:Nat),yhQ (yM dp tg ts os x n).2∧Yt (yM dp tg ts os x n).1=zp (yM dp tg ts os x n).2∧(zp (yM dp tg ts os x n).2).Nodup:=by
 intro ts
 induction ts with
 |nil=>intro os x n;exact ⟨trivial,rfl,List.nodup_nil⟩
 |cons t ts ih=>
  intro os x n
  cases ts with
  |nil=>exact ygs dp tg t (os.headD false) x n
  |cons u r=>
   obtain ⟨a1,a2,a3⟩:=ygs dp tg t (os.headD false) x.1 n
   obtain ⟨b1,b2,b3⟩:=ih os.tail x.2 (n+1)
   have e2:(yM dp tg (t::u::r) os x n).2=(Yw dp tg t (os.headD false) x.1 n).2++(yM dp tg (u::r) os.tail x.2 (n+1)).2:=rfl
   have e1:(yM dp tg (t::u::r) os x n).1=(Yw dp tg t (os.headD false) x.1 n).1::(yM dp tg (u::r) os.tail x.2 (n+1)).1:=rfl
   rw [e1,e2,vW]
   refine ⟨y7y a1 b1,?_,bY.2 ⟨a3,b3,fun i hi j hj he=> ?_⟩⟩
   ·rw [Yt,b2,← a2]
    simp [Yt]
   ·have h1:=y5q dp tg t _ x.1 n i hi
    have h2:=(y5T dp tg (u::r) os.tail x.2 (n+1) j hj).1
    omega
theorem y98 {t:Ty} {own:Bool} {x:El t} {n:Nat} {m:Nat} {o':Bool} {e:Nat} {ts:List Ty} {xs:List (yJ ts)} (h:yF (Yw true false t own x n).2 m=some (.root o' e ts xs)):vM ts=true:=by
 cases t with
 |sl e' us=>
  cases own with
  |false=>simp [Yw,yF] at h
  |true=>
   cases hf:vM us with
   |true=>
    by_cases hm:n=m
    ·subst hm
     simp only [Yw,hf,co,ai,ag,yF,yp,ap] at h
     injection h with _ _ h3 _
     subst h3
     exact hf
    ·simp [Yw,yF,yB hm] at h
   |false=>
    by_cases hm:n=m
    ·subst hm
     simp [Yw,hf,yF,yp] at h
    ·simp [Yw,yF,yB hm] at h
 |int _=>cases own<;>simp [Yw,yF] at h
 |bool=>cases own<;>simp [Yw,yF] at h
 |str=>cases own<;>simp [Yw,yF] at h
theorem ygt: ∀ (X Y:List (Nat×Ob)) (i:Nat),yF (X++Y) i=match yF X i with
  |some x=>some x
  |none=>yF Y i
 |[],_,_=>rfl
 |(j,x)::X,Y,i=>by
  by_cases hj:j=i
  ·subst hj
   simp [yF,yp]
  ·simp only [bp,yF,yB hj,ag,ygt X Y i]
theorem yd1: ∀ (ts:List Ty) (os:List Bool) (x:yJ ts) (n m:Nat) (o':Bool) (e:Nat) (us:List Ty) (xs:List (yJ us)),yF (yM true false ts os x n).2 m=some (.root o' e us xs)→vM us=true:=by
 intro ts
 induction ts with
 |nil=>intro os x n m o' e us xs h;simp [yM,yF] at h
 |cons t ts ih=>
  intro os x n m o' e us xs h
  cases ts with
  |nil=>exact y98 h
  |cons u r=>
   have e2:(yM true false (t::u::r) os x n).2=(Yw true false t (os.headD false) x.1 n).2++(yM true false (u::r) os.tail x.2 (n+1)).2:=rfl
   rw [e2,ygt] at h
   cases h1:yF (Yw true false t (os.headD false) x.1 n).2 m with
   |none=>
    rw [h1] at h
    exact ih os.tail x.2 (n+1) m o' e us xs h
   |some ob=>
    rw [h1] at h
    have h':ob= .root o' e us xs:=by simpa using h
    rw [h'] at h1
    exact y98 h1
theorem y7B: ∀ (rs:List RK) (l as rl:List A),vP rs l=some (as,rl)→ ∃ k,rl=l.drop k
 |[],l,as,rl,h=>by
  simp only [vP,ap,aY] at h
  exact ⟨0,by rw [h.2];rfl⟩
 |r::rs,l,as,rl,h=>by
  simp only [vP] at h
  cases hm:mkA r.agg (l.take r.ts.length) with
  |none=>simp [hm] at h
  |some a=>
   simp only [hm] at h
   cases hs:vP rs (l.drop r.ts.length) with
   |none=>simp [hs] at h
   |some p=>
    obtain ⟨as',l2⟩:=p
    simp only [hs,ap,aY] at h
    obtain ⟨k,hk⟩:=y7B rs _ as' l2 hs
    exact ⟨r.ts.length+k,by rw [← h.2,hk,List.drop_drop]⟩
theorem y2a: ∀ (l:List A) (k:Nat),(Yt l).Nodup→(Yt (l.drop k)).Nodup
 |_,0,h=>by simpa using h
 |[],k+1,h=>by simpa using h
 |a::l,k+1,h=>by
  simp only [List.drop_succ_cons]
  exact y2a l k (bY.1 (show (a.ids++Yt l).Nodup from h)).2.1
theorem y99 (h1:Rel P w0 lent H0 s a w G) {gs:List Nat} {bsx:List (Nat→Prop)} (hgs:y20 s G gs bsx)
  {w':World} (hos:w'.os=w.os) (htape:w'.tape=w.tape) (hout:w'.output=w.output) (hsz:w.heap.size≤w'.heap.size) (old: ∀ k,k<w.heap.size→ ¬ Kf bsx [] k→w'.heap[k]? =w.heap[k]?)
  {H2:Hp} (hle:G.H.le H2) (hin:H2.le (Zv w')) (hnew: ∀ k ob,H2 k=some ob→G.H k=some ob∨w.heap.size≤k∨Kf bsx [] k)
  {ts:List Ty} {os:List Bool} {y:yJ ts} {vs':List Value} {bs':List (Nat→Prop)} (hc:kX true H2 w' ts os y vs' bs') (ha:y3A bs') (hav: ∀ k,In bs' k→H2 k=none∧(w.heap.size≤k∨Kf bsx [] k))
  {d:Nat} {sg:Sig} {cs tvs:List Value} {tg as restA:List A} (htg:RL G tg tvs) (hids:Yt tg=gs) (hng:gs.Nodup) (hlkg: ∀ q∈gs,∃ ob,lk q=some ob∧yF s.o q=some ob∧y21 ob)
  (hB: ∀ o i c,tg=[.bor o i c]→ ∃ B,TgB s w G o i c B∧ ∀ k,In bsx k→B k) (hsh:vP sg.rs (yM true false ts os y (1000*(d+1))).1=some (as,restA)) (hsp:y1n sg.rs vs' cs tvs)
  {mv:List (Nat×Ob)} (hmv:yge lk (yM true false ts os y (1000*(d+1))).2 tg restA=some mv) (hdis: ∀ j∈zp (yM true false ts os y (1000*(d+1))).2,j∉gs):
  ∃ G6,Rel P w0 lent H0 ((s.makeAll (yM true false ts os y (1000*(d+1))).2).setAll (YB gs++mv)) a w' G6∧RL G6 as cs:=by
 obtain ⟨G5,eH,e3,e4,e2,e5⟩:=ygp (bs:=[]) h1 hgs (by simp) hos htape hout hsz old hle hin hnew hc ha hav (n:=1000*(d+1)) (by omega)
 obtain ⟨m1,m2,m3⟩:=yhR true false ts os y (1000*(d+1))
 have hfl:=yd1 ts os y (1000*(d+1))
 have hg0:gs++zp ([]:List (Nat×Nat))=gs:=by simp [zp]
 rw [hg0] at e3
 generalize hobs:(yM true false ts os y (1000*(d+1))).2=obs at*
 generalize hl:(yM true false ts os y (1000*(d+1))).1=l at*
 rw [setAll_makeAll _ (y1p _) _ _ (fun j hj=>by rw [y1q];exact hdis j hj)] at e3
 have hEpv:G5.pv=G.pv:=e3.pv.trans h1.pv.symm
 obtain ⟨f1,f2⟩:=y29 sg.rs _ as restA vs' cs tvs hsh e4 hsp
 obtain ⟨kd,hrest⟩:=y7B sg.rs _ as restA hsh
 have r1:(Yt restA).Nodup:=by
  rw [hrest]
  exact y2a _ _ (by rw [m2];exact m3)
 have r2: ∀ n∈Yt restA,n∈zp obs:=fun n hn=>by
  rw [← m2]
  rw [hrest] at hn
  exact VM _ _ n hn
 have s1: ∀ n∈Yt restA,yF ((s.makeAll obs).setAll (YB gs)).o n=yF obs n:=fun n hn=>by
  rw [kW,am (hdis n (r2 n hn)),y5Y obs s n m1 m3 (r2 n hn)]
 have qo: ∀ q∈gs,q∉zp obs:=fun q hq hq'=>hdis q hq' hq
 have s2: ∀ q∈gs,yF ((s.makeAll obs).setAll (YB gs)).o q=some .gone:=fun q hq=>by
  obtain ⟨ob,_,hl,how⟩:=hlkg q hq
  have hmu: ∀ d,ob.forget d=ob:=by
   rcases how with ⟨_,_,_,rfl⟩|⟨_,_,_,_,_,rfl⟩<;>exact fun _=>rfl
  rw [kW,af hq,qg obs s q ob (qo q hq) hmu hl]
  rfl
 have htgq: ∀ q∈gs,TgQ lk G5 q:=fun q hq=>by
  obtain ⟨ob,hlq,hl,how⟩:=hlkg q hq
  obtain ⟨g1,g2,g3,g4⟩:=e2 q (qo q hq)
  have hro:=h1.objs q ob hl
  refine ⟨?_,fun ob' e ts xs hob' hw=> ?_,fun fin tag e ts xs hlk' ht=> ?_⟩
  ·rw [g1,g2]
   rcases how with ⟨_,_,_,rfl⟩|⟨_,_,_,_,_,rfl⟩
   ·exact hro.2.2.elim fun _ h=>h.2.2.1
   ·exact hro.2.2.2.1
  ·rw [hlq] at hob'
   injection hob' with hob'
   subst hob'
   rw [g2,g3]
   rcases hw with ⟨own,rfl⟩|⟨fin,tag,rfl⟩
   ·obtain ⟨k1,_,⟨A,c,k2,_⟩,_⟩:=qJ h1 hl
    exact ⟨k1,A,c,k2⟩
   ·obtain ⟨k1,_,⟨A,c,k2,_⟩,_⟩:=Kc h1 hl
    exact ⟨k1,A,c,k2⟩
  ·rw [hlq] at hlk'
   injection hlk' with hlk'
   subst hlk'
   rw [g2,hEpv]
   exact hro.2.2.1 ht
 have htg5:RL G5 tg tvs:=by
  have h6:RL {G with H:=G5.H} tg tvs:=RL.mono (G:=G) (G':= {G with H:=G5.H}) (by rw [eH];exact hle) rfl rfl rfl rfl rfl _ _ htg
  exact RL.agree (G:= {G with H:=G5.H}) (G':=G5) rfl hEpv _ _ h6 (fun j hj=>e2 j (qo j (by rw [← hids];exact hj)))
 have all:y0G lk obs tg restA=some mv→ ∃ G6,Rel P w0 lent H0 ((s.makeAll obs).setAll (YB gs++mv)) a w' G6∧RL G6 as cs:=fun hmv=>by
  obtain ⟨G6,g1,g2⟩:=ycY (fun n own e ts xs h=>hfl n own e ts xs h) tg restA mv tvs _ G5 hmv e3 htg5 f2 (by rw [hids];exact hng) r1 (fun q hq hq'=>hdis q (r2 q hq') (by rw [← hids];exact hq)) (fun q hq=>⟨s2 q (by rw [← hids];exact hq),htgq q (by rw [← hids];exact hq)⟩) s1
  exact ⟨G6,by rw [St.setAll_append];exact g2,g1.rl f1⟩
 unfold yge at hmv
 split at hmv
 ·rename_i o i c n
  split at hmv
  ·rename_i tag e ts' xs yy hlo hyy
   obtain ⟨x',hx',rfl⟩:=aq.1 hmv
   have hgo:gs=[o]:=by rw [← hids];rfl
   subst hgo
   obtain ⟨B,⟨tag2,e2',ts2,xs2,cells,Bs,hl2,hd,hfin,rfl,hi⟩,hBk⟩:=hB o i c rfl
   obtain ⟨ob,ho1,ho2,_⟩:=hlkg o (by simp)
   rw [hlo] at ho1
   injection ho1 with ho1
   subst ho1
   rw [hl2] at ho2
   injection ho2 with ho2
   injection ho2 with _ q1 q2 q3 q4
   subst q1 q2 q3
   have:=eq_of_heq q4
   subst this
   cases hobn:yF obs n with
   |none=>simp [hobn] at hyy
   |some obn=>
    have hrs:yl7 obn=some yy:=by simpa [hobn] using hyy
    obtain ⟨en,us,ys,rfl,hrow⟩:=yiU hrs (fun own e ts xs he=>hfl n own e ts xs (by rw [hobn,he]))
    have hln:=(s1 n (by simp [Yt,A.ids])).trans hobn
    have hro:=h1.objs o _ hl2
    have hdlt: ∀ k,G.dp o k→k<w.heap.size:=hro.2.1
    have hno:n≠o:=fun he=>hdis n (r2 n (by simp [Yt,A.ids])) (by simp [he])
    obtain ⟨g1,g2,g3,g4⟩:=e2 o (qo o (by simp))
    have hnL: ∀ k,¬ Bs (i.toNat*ts2.length+c) k→ ¬ Kf bsx [] k:=fun k hk hL=>by
     rcases hL with hL|⟨p,hp,_⟩
     ·exact hk (hBk k hL)
     ·simp at hp
    have hfree: ∀ k,G.dp o k→ ¬ Bs (i.toNat*ts2.length+c) k→qC w0 lent ((s.makeAll obs).setAll (YB [o])) G5 k:=fun k hk hnk=>by
     have hH2:H2 k=none:=by
      cases hh:H2 k with
      |none=>rfl
      |some ob=>
       rcases hnew k ob hh with h6|h6|h6
       ·rw [(h1.away o _ k hl2 hk).1] at h6
        cases h6
       ·have:=hdlt k hk
        omega
       ·exact absurd h6 (hnL k hnk)
     have:=e5 k (.inr (.inr ⟨o,_,hl2,hk,by simp⟩)) hH2 (fun hb=>by
      rcases (hav k hb).2 with h6|h6
      ·have:=hdlt k hk
       omega
      ·exact hnL k hnk h6)
     rw [hg0,setAll_makeAll _ (y1p _) _ _ (fun j hj=>by rw [y1q];exact hdis j hj)] at this
     exact this
    have hxi:xs2[i.toNat]? =some (rdE ts2 xs2 i):=by simp [rdE,hi]
    obtain ⟨z,hz⟩:=ypz ts2 _ c _ x' hx'
    obtain ⟨u,hu1,hu2⟩:=(JC ts2 _ _ _).1 (hd.rd i.toNat _ hxi) c _ hz
    obtain ⟨A0,n0,c0,rfl⟩:=DpT.slice hu2
    have hsvn:(.slice A0 n0 c0:Value)=G5.sv n:=by
     cases tvs with
     |nil=>exact f2.elim
     |cons tv tvs=>
      have h7:tv=G5.sv n:=f2.1.1
      have h8:tv=G.hd o (i.toNat*(G.sz o).1+c):=htg.1.1.1
      rw [← h7,h8,hro.1]
      exact (hfin _ A0 n0 c0 hu1).symm
    have hmb:=e3.moveB (n:=n) (o:=o) hln hrow (s2 o (by simp)) hno (wb:=w) (B:=G.dp o) (tag:=tag2) (e:=e2') (xs:=xs2) (cells:=cells) (Bs:=Bs) (by rw [g2];exact hd) (i:=i.toNat) (c:=c) hi hxi hx' (fun k hk hnk=>old k (hdlt k hk) (hnL k hnk)) (fun k hk=>bL (hdlt k hk) hsz) (by rw [← hsvn];exact hu1)
     (fun k hk hdk=>by
      apply Classical.byContradiction
      intro hnk
      exact (hfree k hdk hnk).2.2 n _ hln hk) (fun k hk hnk=>⟨(hfree k hk hnk).1,(hfree k hk hnk).2.1,fun j oj _ hj=>(hfree k hk hnk).2.2 j oj hj⟩) (by rw [g3];exact hro.1) (by rw [g2,hEpv];exact hro.2.2.1) (by rw [g2,g1];exact hro.2.2.2.1) (by rw [g4];exact hfin)
    exact ⟨_,by rw [St.setAll_append];exact hmb,(EqD.setDp _ _ _).rl f1⟩
  ·cases hmv
 ·exact all hmv
end
section
variable {P:Program} {C:Ctx} {w0:World} {lent:Nat→Prop} {H0:Base} {s:St} {a:Act} {w:World} {G:Gh} {o:Oper} {K:Act→World→Prop} {Q:Exit→Act→World→Prop} {R:Type} {k:Eff→Option R} {r:R} {lk:Lk} {call:C.Sem} {ct wn:Bool}
theorem VO (lk:Lk): ∀ (is:List Nat) (i:Nat),i∈zp (settles lk is)→ ∃ ob e ts xs,lk i=some ob∧Rw ob e ts xs
 |[],i,h=>by simp [settles,zp] at h
 |j::is,i,h=>by
  unfold settles at h
  split at h
  ·rename_i own e ts xs hj
   simp only [zp,aA] at h
   rcases h with rfl|h
   ·exact ⟨_,e,ts,xs,hj,.inl ⟨own,rfl⟩⟩
   ·exact VO lk is i h
  ·rename_i fin tag e ts xs hj
   simp only [zp,aA] at h
   rcases h with rfl|h
   ·exact ⟨_,e,ts,xs,hj,.inr ⟨fin,tag,rfl⟩⟩
   ·exact VO lk is i h
  ·exact VO lk is i h
theorem ygu {G:Gh}: ∀ (os:List Bool) (l:List A) (vs:List Value),RL G l vs→RL G (qZ os l) (ycT os vs)
 |[],_,_,_=>trivial
 |o::os,[],[],_=>trivial
 |o::os,x::l,v::vs,h=>by
  cases o with
  |false=>exact ygu os l vs h.2
  |true=>exact ⟨h.1,ygu os l vs h.2⟩
theorem ynx (h:Rel P w0 lent H0 s a w G): ∀ l:List Operand,RL G (l.map s.opd) (l.map a.eval)
 |[]=>trivial
 |x::l=>⟨h.opd x,ynx h l⟩
theorem Q5: ∀ {l l':List Nat},y3x l l'=true→ ∀ i∈l,i∉l'
 |[],_,_,i,hi=>by simp at hi
 |j::l,l',h,i,hi=>by
  simp only [y3x,al,bd] at h
  rcases aA.1 hi with rfl|hi
  ·intro hm
   rw [JE.2 hm] at h
   exact absurd h.1 (by simp)
  ·exact Q5 h.2 i hi
theorem y9V {sg:Sig} {tg:List A} {bs:List (Nat×Nat)} {is gs:List Nat} {d:Nat} {ts:List Ty} {y:yJ ts} {e:Eff} (h:y0H lk sg tg bs is gs d ts y=some e):
  ∃ ex x rest,y5k sg d (yM sg.deep false ts sg.owns y (1000*(d+1))).1=some (ex,x,rest)∧y3x (zp ((yM sg.deep false ts sg.owns y (1000*(d+1))).2++ex)) (is++(gs++zp bs))=true∧(vT ex||Nat.ble ts.length 500)=true∧
   (((sg.back&&sg.deep)=false∧e=⟨settles lk is++(YB (bif sg.back then [] else gs)++y5j bs rest),(yM sg.deep false ts sg.owns y (1000*(d+1))).2++ex,x⟩)∨
    (sg.back=true∧sg.ptr=false∧bs=[]∧sg.deep=true∧ ∃ mv,yge lk (yM sg.deep false ts sg.owns y (1000*(d+1))).2 tg rest=some mv∧e=⟨settles lk is++(YB gs++mv),(yM sg.deep false ts sg.owns y (1000*(d+1))).2++ex,x⟩)):=by
 unfold y0H at h
 split at h
 rename_i l obs hsc
 split at h
 ·rename_i ex x rest hsh
  cases hd:y3x (zp (obs++ex)) (is++(gs++zp bs))&&(vT ex||Nat.ble ts.length 500) with
  |false=>simp [hd] at h
  |true=>
   simp only [hd,ai] at h
   simp only [al] at hd
   refine ⟨ex,x,rest,by rw [hsc];exact hsh,by rw [hsc];exact hd.1,hd.2,?_⟩
   cases hb:sg.back&&sg.deep with
   |false=>
    simp only [hb,ag,ap] at h
    exact .inl ⟨rfl,by rw [hsc];exact h.symm⟩
   |true=>
    simp only [hb,ai] at h
    cases hp:sg.ptr|| !vT bs|| !sg.deep with
    |true=>simp [hp] at h
    |false=>
     simp only [hp,ag] at h
     simp only [aL,bc] at hp
     have hb':=(al _ _ ▸ hb:sg.back=true∧sg.deep=true).1
     split at h
     ·rename_i mv hmv
      injection h with h
      have hbs:bs=[]:=by
       cases bs with
       |nil=>rfl
       |cons _ _=>simp [vT] at hp
      exact .inr ⟨hb',hp.1.1,hbs,hp.2,mv,by rw [hsc];exact hmv,by rw [hsc];exact h.symm⟩
     ·cases h
 ·cases h
theorem ylu {p:Nat→Prop} {dp bk:Bool} (h1: ∀ (own:Bool) (t:Ty) (x:A) (y:El t) (is gs:List Nat),qG lk dp bk own t x=some (y,is,gs)→ ∀ q∈gs,p q): ∀ (ts:List Ty) (os:List Bool) (l:List A) (y:yJ ts) (is gs:List Nat),vR lk dp bk ts os l=some (y,is,gs)→ ∀ q∈gs,p q:=by
 intro ts
 induction ts with
 |nil=>
  intro os l y is gs h
  cases l with
  |nil=>
   have h':some ((():yJ []),([]:List Nat),([]:List Nat))=some (y,is,gs):=h
   injection h' with h'
   injection h' with _ e2
   injection e2 with _ e3
   subst e3
   simp
  |cons x l=>exact absurd h (by rw [show vR lk dp bk [] os (x::l)=none from rfl];exact fun h=>by cases h)
 |cons t ts ih=>
  intro os l y is gs h
  cases ts with
  |nil=>
   cases l with
   |nil=>exact absurd h (by rw [show vR lk dp bk [t] os []=none from rfl];exact fun h=>by cases h)
   |cons x l=>
    cases l with
    |cons x2 l=>exact absurd h (by rw [show vR lk dp bk [t] os (x::x2::l)=none from rfl];exact fun h=>by cases h)
    |nil=>exact h1 _ _ _ _ _ _ h
  |cons u r=>
   cases l with
   |nil=>exact absurd h (by rw [show vR lk dp bk (t::u::r) os []=none from rfl];exact fun h=>by cases h)
   |cons x l=>
    have h':(match qG lk dp bk (os.headD false) t x with
     |some (x,is,gs)=>match vR lk dp bk (u::r) os.tail l with
      |some (y,js,hs)=>some (((x,y):yJ (t::u::r)),is++js,gs++hs)
      |none=>none
     |none=>none)=some (y,is,gs):=h
    cases h2:qG lk dp bk (os.headD false) t x with
    |none=>
     rw [h2] at h'
     cases h'
    |some p1=>
     obtain ⟨x1,is1,gs1⟩:=p1
     rw [h2] at h'
     cases h3:vR lk dp bk (u::r) os.tail l with
     |none=>
      rw [h3] at h'
      cases h'
     |some q=>
      obtain ⟨y1,is2,gs2⟩:=q
      rw [h3] at h'
      injection h' with h'
      injection h' with e1 e2
      injection e2 with e2 e3
      subst e3
      intro q hq
      rcases aF.1 hq with hq|hq
      ·exact h1 _ _ _ _ _ _ h2 q hq
      ·exact ih os.tail l y1 is2 gs2 h3 q hq
theorem y7C {dp bk:Bool} (os:List Bool) {ts:List Ty} (l:List A) (y:yJ ts) (is gs:List Nat) (h:vR lk dp bk ts os l=some (y,is,gs)): ∀ q∈gs,∃ ob,lk q=some ob∧y21 ob:=by
 refine ylu (p:=fun q=> ∃ ob,lk q=some ob∧y21 ob) (fun own t x y is gs h=> ?_) ts os l y is gs h
 cases own with
 |false=>
  have h':(toT lk t x).map (fun (y,is)=>(y,is,([]:List Nat)))=some (y,is,gs):=h
  obtain ⟨p,_,he⟩:=aq.1 h'
  injection he with _ e2
  injection e2 with _ e3
  subst e3
  simp
 |true=>
  cases dp with
  |true=>
   have h':(VK lk bk t x).map (fun (y,gs)=>(y,([]:List Nat),gs))=some (y,is,gs):=h
   obtain ⟨p,hp,he⟩:=aq.1 h'
   obtain ⟨y',gs'⟩:=p
   injection he with _ e2
   injection e2 with _ e3
   subst e3
   exact (ycZ hp).2
  |false=>
   cases x with
   |own q=>
    simp only [qG,ai,ag] at h
    cases hq:lk q with
    |none=>simp [hq] at h
    |some ob=>
     cases ob with
     |root own e ts xs=>
      cases own with
      |false=>simp [hq] at h
      |true=>
       simp only [hq] at h
       obtain ⟨z,_,he⟩:=aq.1 h
       injection he with _ e2
       injection e2 with _ e3
       subst e3
       intro p hp
       have:p=q:=by simpa using hp
       subst this
       exact ⟨_,hq,.inl ⟨e,ts,xs,rfl⟩⟩
     |_=>simp [hq] at h
   |nils=>
    cases t with
    |sl e ts=>
     simp only [qG,ai,ag] at h
     cases hb:Nat.blt 0 ts.length with
     |false=>simp [hb] at h
     |true=>
      simp only [hb,ai] at h
      injection h with h
      injection h with _ e2
      injection e2 with _ e3
      subst e3
      simp
    |_=>simp [qG] at h
   |val t' x'=>
    simp only [qG,ai,ag] at h
    cases hfl:Ty.flat t with
    |false=>simp [hfl] at h
    |true=>
     simp only [hfl,ai] at h
     obtain ⟨z,_,he⟩:=aq.1 h
     injection he with _ e2
     injection e2 with _ e3
     subst e3
     simp
   |_=>cases t<;>simp [qG] at h
theorem y9a {sg:Sig} {d:Nat} {l:List A} {ex:List (Nat×Ob)} {x:A} {rest:List A} (h:y5k sg d l=some (ex,x,rest)) (hp:sg.ptr=false): ∃ as,vP sg.rs l=some (as,rest)∧ex=[]∧ ∀ {G:Gh} {cs:List Value},RL G as cs→RA G x (y4G cs):=by
 unfold y5k at h
 rw [hp,ag] at h
 split at h
 ·rename_i as r hs
  simp only [ap,aY] at h
  obtain ⟨rfl,rfl,rfl⟩:=h
  exact ⟨as,hs,rfl,fun hr=>ycW hr⟩
 ·cases h
theorem TgB.grown {s':St} {G':Gh} (hg:Grown G G') {o':Nat} {i:Int} {c:Nat} {B:Nat→Prop} (hl:yF s'.o o'=yF s.o o') (h:TgB s w G o' i c B):TgB s' w G' o' i c B:=by
 obtain ⟨tag,e,ts,xs,cells,Bs,h1,h2,h3,h4,h5⟩:=h
 exact ⟨tag,e,ts,xs,cells,Bs,hl.trans h1,by rw [hg.dp,hg.sv];exact h2,by rw [hg.hd];exact h3,h4,h5⟩
theorem ypA (hC:qM H0 C P call) (h:Rel P w0 lent H0 s a w G) (hK:y4A P w0 lent H0 s o k r K) (hlk:y5e lk s) {c:Call} {f:Operand} (hop:o.op= .call c) (hc:c.callee= .value f) (he:jb C call ct wn o s.opd lk k=some r):o.wp P a w K Q:=by
 simp only [jb,hop,hc] at he
 have hfv:=h.opd f
 cases hf:y5i (s.opd f) with
 |none=>simp [hf] at he
 |some gx=>
  obtain ⟨g0,exA⟩:=gx
  simp only [hf,yiw] at he
  obtain ⟨exv,hexr,hfv⟩:=yhP hf hfv
  generalize C.key g0 (bif ct then 3000000000::yl5 lk (c.args.toList.map s.opd) else yl5 lk (c.args.toList.map s.opd))=g at he
  cases hsg:C.sig g with
  |none=>simp [hsg] at he
  |some sg=>
   simp only [hsg] at he
   cases hga:wL lk sg.ps (c.args.toList.map s.opd++exA) with
   |none=>simp [hga] at he
   |some q=>
    obtain ⟨l,bs⟩:=q
    simp only [hga] at he
    cases htk:vR lk sg.deep sg.back (C.ins g) (sg.ps.flatMap PK.ownsIn) l with
    |none=>simp [htk] at he
    |some q=>
     obtain ⟨xs,is,gs⟩:=q
     simp only [htk] at he
     cases hd:o.dst with
     |none=>simp [hd] at he
     |some d=>
      simp only [hd] at he
      cases hb:y0F (zp bs)&&y0F gs&&y3x gs is&&Nat.beq (C.fid g) g0 with
      |false=>simp [hb] at he
      |true=>
       simp only [hb,ai] at he
       simp only [al] at hb
       cases hy:call g xs with
       |none=>simp [hy] at he
       |some y=>
        simp only [hy,aa] at he
        cases hac:y0H lk sg (qZ (sg.ps.flatMap PK.ownsIn) l) bs (bif sg.hfree then [] else is) gs d (C.outs g) y with
        |none=>simp [hac] at he
        |some e=>
         simp only [hac] at he
         obtain ⟨exB,xr,restA,hbv,hdj,hex,hcase⟩:=y9V hac
         have hnb:=qT hb.1.1.1
         have hng:=qT hb.1.1.2
         have hgi:=Q5 hb.1.2
         have hfid:=an hb.2
         have hpin5:H0.pin (1000*(d+1)+500)=none:=H0.none (by omega)
         obtain ⟨vs,g1,g2,g3⟩:=ycU h hlk sg.ps _ _ l bs hga (RL.append (ynx h c.args.toList) hexr)
         obtain ⟨G1,hgr,h1,hset⟩:=Rel.settles hlk.rows h is
         obtain ⟨bsx,t1,t2,t3,_,t5⟩:=y90 h hlk hgr sg.deep sg.back (C.ins g) _ l xs is gs htk hset hng vs g1
         have hbx: ∀ p∈bs,∃ cs,yF s.o p.1=some (.box cs):=fun p hp=>by
          obtain ⟨cs,hl,_⟩:=g3 p hp
          exact ⟨cs,hl⟩
         have hroot: ∀ i∈zp (Go.Proofs.YtekbnpmmjciloaaGreat.R.settles lk is),∃ ob e ts xs,yF s.o i=some ob∧Rw ob e ts xs:=fun i hi=>by
          obtain ⟨ob,e,ts,xs,hl,hw⟩:=VO lk is i hi
          exact ⟨ob,e,ts,xs,hlk i _ hl,hw⟩
         have hmem: ∀ {i:Nat} {X:List Nat},qR X i=false→i∉X:=fun hm hi=>by
          rw [JE.2 hi] at hm
          cases hm
         have hmem': ∀ {i:Nat} {X:List Nat},i∉X→qR X i=false:=fun {i X} hi=>by
          cases hm:qR X i with
          |false=>rfl
          |true=>exact absurd (JE.1 hm) hi
         have hbx1: ∀ p∈bs,∃ cs,yF (s.setAll (Go.Proofs.YtekbnpmmjciloaaGreat.R.settles lk is)).o p.1=some (.box cs):=fun p hp=>by
          obtain ⟨cs,hl⟩:=hbx p hp
          refine ⟨cs,?_⟩
          rw [ZH _ _ (hmem' fun hi=> ?_)]
          ·exact hl
          ·obtain ⟨ob,e,ts,xs,hr,hw⟩:=hroot _ hi
           rw [hl] at hr
           injection hr with hr
           subst hr
           rcases hw with ⟨_,hw⟩|⟨_,_,hw⟩<;>cases hw
         have hgb: ∀ q∈gs,∀ cs,yF s.o q=some (.box cs)→False:=fun q hq cs hl=>by
          obtain ⟨ob,h1,h2⟩:=y7C (sg.ps.flatMap PK.ownsIn) _ _ _ _ htk q hq
          rw [hlk q _ h1] at hl
          injection hl with hl
          subst hl
          rcases h2 with ⟨_,_,_,hw⟩|⟨_,_,_,_,_,hw⟩<;>cases hw
         have hgs1:y20 (s.setAll (Go.Proofs.YtekbnpmmjciloaaGreat.R.settles lk is)) G1 gs bsx:=fun k hk=>by
          obtain ⟨q,hq,ob,hl,hbq⟩:=t2 k hk
          refine ⟨q,hq,ob,?_,by rw [qS hgr.g hgr.sv hgr.dp];exact hbq⟩
          rw [ZH _ _ (hmem' fun hi=> ?_)]
          ·exact hl
          ·exact hgi q hq (jn lk is q hi)
         have hpw:bs.Pairwise (fun p q=>p.1≠q.1):=by
          rw [Kh] at hnb
          exact cC.1 hnb
         have hpb:(bs.map fun p=>G.g p.1).Pairwise (fun p q=>p.1≠q.1):=by
          rw [cC]
          exact hpw.imp_of_mem fun {p q} hp hq hne he=>by
           obtain ⟨c1,l1⟩:=hbx p hp
           obtain ⟨c2,l2⟩:=hbx q hq
           exact hne (h.apart p.1 q.1 _ _ (G.g p.1).1 l1 l2 rfl (by rw [he];rfl))
         have hL1: ∀ k,Kf bsx (bs.map fun p=>G.g p.1) k→G1.H k=none:=by
          rintro k (hk|⟨p,hp,rfl⟩)
          ·obtain ⟨q,hq,ob,hl,hbq⟩:=hgs1 k hk
           exact (h1.away q _ k hl hbq).1
          ·obtain ⟨q,hq,rfl⟩:=b_.1 hp
           obtain ⟨cs,hl⟩:=hbx1 q hq
           exact (h1.away q.1 _ _ hl (by rw [← hgr.g];rfl)).1
         have hpd: ∀ p∈bs.map (fun p=>G.g p.1),¬ In bsx p.1:=fun p hp hk=>by
          obtain ⟨q,hq,rfl⟩:=b_.1 hp
          obtain ⟨cs,hl⟩:=hbx q hq
          obtain ⟨q2,hq2,ob,hl2,hbq⟩:=t2 _ hk
          have:=h.apart q.1 q2 _ _ (G.g q.1).1 hl hl2 rfl hbq
          subst this
          exact hgb q.1 hq2 cs hl
         have hLt: ∀ k,Kf bsx (bs.map fun p=>G.g p.1) k→G.H k=none:=fun k hk=>by
          cases hH:G.H k with
          |none=>rfl
          |some ob=>
           have:=hgr.H k ob hH
           rw [hL1 k hk] at this
           cases this
         refine ypx hop hc hfv ?_
         have hargs:(c.args.toList.map a.eval++exv).toArray=c.args.map a.eval++exv.toArray:=by
          rw [← cU,← List.append_toArray,be]
         rw [← hargs,← hfid]
         have hsub: ∀ k,In (JS sg bsx) k→In bsx k:=fun k hk=>by
          unfold JS at hk
          split at hk
          ·simp [In] at hk
          ·exact hk
         have hbd:(sg.back&&sg.deep)=true→JS sg bsx=bsx:=fun hh=>by
          simp only [al] at hh
          unfold JS
          rw [hh.2]
          simp
         obtain ⟨gs2,hg2,hgsub,t22,hgs12⟩: ∃ gs2,((sg.back&&sg.deep)=false→(bif sg.back then [] else gs)=gs2)∧(∀ q∈gs2,q∈gs)∧y20 s G gs2 (JS sg bsx)∧y20 (s.setAll (Go.Proofs.YtekbnpmmjciloaaGreat.R.settles lk is)) G1 gs2 (JS sg bsx):=by
          cases hk:sg.back&& !sg.deep with
          |true=>
           have e:JS sg bsx=[]:=by unfold JS;rw [af hk]
           simp only [al] at hk
           rw [e]
           exact ⟨[],fun _=>by rw [hk.1];rfl,by simp,fun k hk=>by simp [In] at hk,fun k hk=>by simp [In] at hk⟩
          |false=>
           have e:JS sg bsx=bsx:=by unfold JS;rw [hk];simp
           rw [e]
           refine ⟨gs,fun hh=> ?_,fun _ h=>h,t2,hgs1⟩
           cases hb1:sg.back with
           |false=>rfl
           |true=>
            rw [hb1] at hk hh
            cases hd1:sg.deep<;>rw [hd1] at hk hh<;>simp at hk hh
         have hLt2: ∀ k,Kf (JS sg bsx) (bs.map fun p=>G.g p.1) k→G.H k=none:=fun k hk=>hLt k (hk.imp (hsub k) id)
         have hL12: ∀ k,Kf (JS sg bsx) (bs.map fun p=>G.g p.1) k→G1.H k=none:=fun k hk=>hL1 k (hk.imp (hsub k) id)
         have hgo:=hC g sg xs y hsg hy w G1.H _ vs bsx _ h1.base h1.inH t1 t3 g2 hpb hL1 hpd
         generalize hbk2:JS sg bsx=bsx2 at*
         refine hgo.mono fun v w' hleft=> ?_
         obtain ⟨H',vs',cs,rest,bs',hl⟩:=hleft
         have hx:=Q5 hdj
         have hlens:=yfg sg.ps _ l bs hga
         obtain ⟨nb,hres,hnew⟩:=hl.res
         cases hfr:sg.hfree with
         |true=>
          rw [hfr] at hcase hx
          have hx: ∀ i∈zp ((yM sg.deep false (C.outs g) sg.owns y (1000*(d+1))).2++exB),i∉gs++zp bs:=hx
          have hfr':ycB sg.deep (C.outs g) sg.owns=true:=by
           rw [show C.outs g=sg.outs by simp [Ctx.outs,hsg]]
           exact hfr
          have hnH: ∀ k,(w.heap.size≤k∨Kf bsx2 (bs.map fun p=>G.g p.1) k)→G.H k=none:=fun k ha2=>by
           rcases ha2 with ha2|ha2
           ·cases hH:G.H k with
            |none=>rfl
            |some ob=>exact absurd (aM.1 (h.inH k ob hH)).1 (cu.2 ha2)
           ·exact hLt2 k ha2
          rcases hcase with ⟨hbk,rfl⟩|⟨hbk,hptr,hbs,hdeep,mv,hmv,rfl⟩
          ·rw [hg2 hbk] at he
           have hback:y28 w' sg.ps (bs.map fun p=>G.g p.1) rest:=by
            have:=hl.back
            rw [hbk] at this
            exact this
           have hcb:=ycX h (d:=d) (sg:=sg) (nb:=nb) t22 hbx hnb hl.os hl.tape hl.output hl.size hl.old (H2:=G.H) (Hp.le.refl _) (fun k ob hH=>by
            have hw:=h.inH k ob hH
            have hlt:=(aM.1 hw).1
            have hnl: ¬ Kf bsx2 (bs.map fun p=>G.g p.1) k:=fun hk=>by
             rw [hLt2 k hk] at hH
             cases hH
            show w'.heap[k]? =_
            rw [hl.old k hlt hnl]
            exact hw) (fun k ob hH=> .inl hH) (y7z _ _ _ _ _ hfr' hl.cells) hl.apart (fun k hk=>by
            obtain ⟨_,ha2,_⟩:=hl.away k hk
            exact ⟨hnH k ha2,ha2⟩) (fun p hp=>⟨hLt2 _ (.inr ⟨_,bC hp,rfl⟩),fun hk=>(hl.away _ hk).2.2 _ (bC hp) rfl⟩) (fun k hk=>by
            obtain ⟨_,m2,m3,m4⟩:=hnew k hk
            exact ⟨hnH k m2,m2,m3,m4⟩) hbv hex hres (fun j hj=>by
            have:=hx j hj
            rw [aF,not_or] at this
            exact ⟨fun hq=>this.1 (hgsub _ hq),this.2⟩) hpin5 hback hlens
           obtain ⟨G5,r1,r2⟩:=hcb
           refine hK _ _ _ G5 he ?_
           have:=r1.put o.dst r2
           exact this
          ·have hbb:bsx=bsx2:=(hbd (by rw [hbk,hdeep];rfl)).symm
           subst hbs
           subst hbb
           obtain ⟨as,hsh,rfl,hres'⟩:=y9a hbv hptr
           have hrest:rest=ycT (sg.ps.flatMap PK.ownsIn) vs:=by
            have:=hl.back
            rw [hbk,hdeep] at this
            exact this
           subst hrest
           unfold ycS at hres
           rw [hptr] at hres
           obtain ⟨_,hsp,rfl⟩:=hres
           rw [hdeep] at hsh hmv hx htk he
           have hcells:=hl.cells
           rw [hdeep] at hcells hfr'
           rw [bt] at he hx
           obtain ⟨i1,i2⟩:=ygr _ _ l xs is gs htk
           obtain ⟨G6,r1,r2⟩:=y99 h (lk:=lk) (d:=d) (sg:=sg) t2 hl.os hl.tape hl.output hl.size hl.old (H2:=G.H) (Hp.le.refl _) (fun k ob hH=>by
            have hw:=h.inH k ob hH
            have hlt:=(aM.1 hw).1
            have hnl: ¬ Kf bsx [] k:=fun hk=>by
             rw [hLt2 k hk] at hH
             cases hH
            show w'.heap[k]? =_
            rw [hl.old k hlt hnl]
            exact hw) (fun k ob hH=> .inl hH) (y7z _ _ _ _ _ hfr' hcells) hl.apart (fun k hk=>by
            obtain ⟨_,ha2,_⟩:=hl.away k hk
            exact ⟨hnH k ha2,ha2⟩) (ygu _ _ _ g1) i1 hng (fun q hq=>by
            obtain ⟨ob,o1,o2⟩:=i2 q hq
            exact ⟨ob,o1,hlk q ob o1,o2⟩) t5 hsh hsp hmv (fun j hj hjg=>hx j hj (cn _ hjg))
           refine hK _ _ _ G6 he ?_
           have:=r1.put o.dst (hres' r2)
           exact this
         |false=>
          rw [hfr] at hcase hx
          simp only [ag] at hx
          classical
          let L:=Kf bsx2 (bs.map fun p=>G.g p.1)
          let H2:Hp:=fun k=>if w.heap.size≤k∨L k then H' k else G1.H k
          have hin1: ∀ k ob,G1.H k=some ob→ ¬ (w.heap.size≤k∨L k):=fun k ob hH hk=>by
           rcases hk with hk|hk
           ·exact absurd (aM.1 (h1.inH k ob hH)).1 (cu.2 hk)
           ·rw [hL12 k hk] at hH
            cases hH
          have hle2:G1.H.le H2:=fun k ob hH=>by
           show (if w.heap.size≤k∨L k then H' k else G1.H k)=some ob
           rw [am (hin1 k ob hH)]
           exact hH
          have hin2:H2.le (Zv w'):=fun k ob hH=>by
           have hH':(if w.heap.size≤k∨L k then H' k else G1.H k)=some ob:=hH
           split at hH'
           ·exact hl.inH k ob hH'
           ·rename_i hk
            rw [not_or] at hk
            show w'.heap[k]? =_
            rw [hl.old k (Nat.lt_of_not_le hk.1) hk.2]
            exact h1.inH k ob hH'
          have hle':H'.le H2:=fun k ob hH=>by
           show (if w.heap.size≤k∨L k then H' k else G1.H k)=some ob
           split
           ·exact hH
           ·rename_i hk
            rcases hl.hnew k ob hH with h6|h6
            ·exact h6
            ·exact absurd h6 hk
          have hnew2: ∀ k ob,H2 k=some ob→G1.H k=some ob∨w.heap.size≤k∨Kf bsx2 (bs.map fun p=>G1.g p.1) k:=fun k ob hH=>by
           have hH':(if w.heap.size≤k∨L k then H' k else G1.H k)=some ob:=hH
           split at hH'
           ·rename_i hk
            rw [hgr.g]
            exact .inr hk
           ·exact .inl hH'
          have hno2: ∀ k,H' k=none→(w.heap.size≤k∨L k)→H2 k=none:=fun k hn hk=>by
           show (if w.heap.size≤k∨L k then H' k else G1.H k)=none
           rw [af hk]
           exact hn
          rcases hcase with ⟨hbk,rfl⟩|⟨hbk,hptr,hbs,hdeep,mv,hmv,rfl⟩
          ·rw [hg2 hbk] at he
           have hback:y28 w' sg.ps (bs.map fun p=>G.g p.1) rest:=by
            have:=hl.back
            rw [hbk] at this
            exact this
           have hcb:=ycX h1 (d:=d) (sg:=sg) (nb:=nb) (ps:=sg.ps) (H2:=H2) hgs12 hbx1 hnb hl.os hl.tape hl.output hl.size (by rw [hgr.g];exact hl.old) hle2 hin2 hnew2 (y7A hle' _ _ _ _ _ hl.cells) hl.apart (fun k hk=>by
            obtain ⟨ha1,ha2,_⟩:=hl.away k hk
            rw [hgr.g]
            exact ⟨hno2 k ha1 ha2,ha2⟩) (fun p hp=>by
            rw [hgr.g]
            have hlp:L (G.g p.1).1:= .inr ⟨_,bC hp,rfl⟩
            exact ⟨hno2 _ (hl.ptrs _ (bC hp)) (.inr hlp),fun hk=>(hl.away _ hk).2.2 _ (bC hp) rfl⟩) (fun k hk=>by
            obtain ⟨m1,m2,m3,m4⟩:=hnew k hk
            rw [hgr.g]
            exact ⟨hno2 k m1 m2,m2,m3,m4⟩) hbv hex hres (fun j hj=>by
            have:=hx j hj
            simp only [aF,not_or] at this
            exact ⟨fun hq=>this.2.1 (hgsub _ hq),this.2.2⟩) hpin5 (by rw [hgr.g];exact hback) hlens
           obtain ⟨G5,r1,r2⟩:=hcb
           refine hK _ _ _ G5 he ?_
           rw [setAll_makeAll _ (VN lk is) _ _ (fun d hd hi=>by
            have:=hx d hd
            simp only [aF,not_or] at this
            exact this.1 (jn lk is d hi)),← St.setAll_append] at r1
           have:=r1.put o.dst r2
           exact this
          ·have hbb:bsx=bsx2:=(hbd (by rw [hbk,hdeep];rfl)).symm
           subst hbs
           subst hbb
           obtain ⟨as,hsh,rfl,hres'⟩:=y9a hbv hptr
           have hrest:rest=ycT (sg.ps.flatMap PK.ownsIn) vs:=by
            have:=hl.back
            rw [hbk,hdeep] at this
            exact this
           subst hrest
           unfold ycS at hres
           rw [hptr] at hres
           obtain ⟨_,hsp,rfl⟩:=hres
           rw [hdeep] at hsh hmv hx htk he
           have hcells:=hl.cells
           rw [hdeep] at hcells
           rw [bt] at he hx
           obtain ⟨i1,i2⟩:=ygr _ _ l xs is gs htk
           have hlk1: ∀ q∈gs,yF (s.setAll (Go.Proofs.YtekbnpmmjciloaaGreat.R.settles lk is)).o q=yF s.o q:=fun q hq=>ZH _ _ (hmem' fun hi=>hgi q hq (jn lk is q hi))
           obtain ⟨G6,r1,r2⟩:=y99 h1 (lk:=lk) (d:=d) (sg:=sg) hgs1 hl.os hl.tape hl.output hl.size hl.old (H2:=H2) hle2 hin2 hnew2 (y7A hle' _ _ _ _ _ hcells) hl.apart (fun k hk=>by
            obtain ⟨ha1,ha2,_⟩:=hl.away k hk
            exact ⟨hno2 k ha1 ha2,ha2⟩) ((ygu _ _ _ g1).grown hgr) i1 hng (fun q hq=>by
            obtain ⟨ob,o1,o2⟩:=i2 q hq
            exact ⟨ob,o1,(hlk1 q hq).trans (hlk q ob o1),o2⟩) (fun o' i' c' ht=>by
            obtain ⟨B,b1,b2⟩:=t5 o' i' c' ht
            refine ⟨B,b1.grown hgr (hlk1 o' ?_),b2⟩
            rw [← i1,ht]
            simp [Yt,A.ids]) hsh hsp hmv (fun j hj hjg=>by
            have:=hx j hj
            simp only [aF,not_or] at this
            exact this.2.1 hjg)
           refine hK _ _ _ G6 he ?_
           rw [setAll_makeAll _ (VN lk is) _ _ (fun d hd hi=>by
            have:=hx d hd
            simp only [aF,not_or] at this
            exact this.1 (jn lk is d hi)),← St.setAll_append] at r1
           have:=r1.put o.dst (hres' r2)
           exact this
end
section
variable {P:Program} {C:Ctx} {w0:World} {lent:Nat→Prop} {H0:Base} {s:St} {a:Act} {w:World} {G:Gh} {o:Oper} {K:Act→World→Prop} {Q:Exit→Act→World→Prop} {R:Type} {k:Eff→Option R} {r:R} {lk:Lk} {call:C.Sem} {ct wn:Bool}
theorem ygv: ∀ (ts:List Ty) (l:List A) (n:Nat),(∀ i∈zp (kO ts l n).2,n≤i∧i<n+ts.length)
 |[],l,n=>by cases l<;>simp [kO,zp]
 |t::ts,[],n=>by cases t<;>simp [kO,zp]
 |t::ts,x::l,n=>by
  intro i hi
  have ih:=ygv ts l (n+1)
  have hc:i=n∨i∈zp (kO ts l (n+1)).2:=by
   cases t<;>cases x<;>try exact .inr hi
   rename_i e us
   simp only [kO] at hi
   cases hb:vM us&&Nat.blt 0 us.length with
   |false=>
    simp only [hb,ag] at hi
    exact .inr hi
   |true=>
    simp only [hb,ai,zp,aA] at hi
    exact hi
  rw [ah]
  rcases hc with rfl|hc
  ·omega
  ·have:=ih i hc
   omega
theorem y5s: ∀ (ts:List Ty) (l:List A) (vs:List Value) (n:Nat) (s:St) (G:Gh),Rel P w0 lent H0 s a w G→RL G l vs→950≤n→(∀ j∈zp (kO ts l n).2,j∉Yt l)→
  ∃ G',G'.H=G.H∧Rel P w0 lent H0 (s.makeAll (kO ts l n).2) a w G'∧RL G' (kO ts l n).1 vs∧ ∀ j,j∉zp (kO ts l n).2→y6J G G' j
 |[],l,vs,n,s,G,h,hr,hn,hd=>by
  refine ⟨G,rfl,?_,?_,fun _ _=>y6J.refl⟩
  ·cases l<;>exact h
  ·cases l<;>exact hr
 |t::ts,[],vs,n,s,G,h,hr,hn,hd=>by
  refine ⟨G,rfl,?_,?_,fun _ _=>y6J.refl⟩
  ·cases t<;>exact h
  ·cases t<;>exact hr
 |t::ts,x::l,[],n,s,G,h,hr,hn,hd=>by cases hr
 |t::ts,x::l,v::vs,n,s,G,h,hr,hn,hd=>by
  have plain:(kO (t::ts) (x::l) n)=(x::(kO ts l (n+1)).1,(kO ts l (n+1)).2)→ ∃ G',G'.H=G.H∧Rel P w0 lent H0 (s.makeAll (kO (t::ts) (x::l) n).2) a w G'∧RL G' (kO (t::ts) (x::l) n).1 (v::vs)∧ ∀ j,j∉zp (kO (t::ts) (x::l) n).2→y6J G G' j:=by
   intro e
   rw [e] at hd ⊢
   obtain ⟨G',e1,e2,e3,e4⟩:=y5s ts l vs (n+1) s G h hr.2 (by omega) fun j hj hm=>hd j hj (by simp [Yt,hm])
   exact ⟨G',e1,e2,⟨RA.agree e1 (e2.pv.trans h.pv.symm) x v hr.1 fun j hj=>e4 j fun hm=>hd j hm (by simp [Yt,hj]),e3⟩,e4⟩
  cases t with
  |sl e us=>
   cases x with
   |nils=>
    cases hb:vM us&&Nat.blt 0 us.length with
    |false=>exact plain (by simp only [kO,hb,ag])
    |true=>
     have e0:kO (.sl e us::ts) (.nils::l) n=(.own n::(kO ts l (n+1)).1,(n,.root true e us [])::(kO ts l (n+1)).2):=by simp only [kO,hb,ai]
     rw [e0] at hd ⊢
     simp only [al] at hb
     have hpos:0<us.length:=by
      have:=hb.2
      unfold Nat.blt at this
      exact bU this
     have hv:v= .slice none 0 0:=hr.1
     subst hv
     obtain ⟨hrel,hra⟩:=h.newRoot' n (H0.none (.inr hn)) (e:=e) (ts:=us) (xs:=[]) (v:= .slice none 0 0) (w':=w) (cells:=[]) rfl rfl rfl (aS _) (fun k hk=> .inl rfl) hpos ⟨by simp,.inl ⟨rfl,rfl⟩⟩ (by simp) (fun k hk=>by simp [Value.ownBlock] at hk) (fun j x hx=>by simp at hx)
     have hnl:n∉Yt l:=fun hm=>hd n (by simp [zp]) (by simp [Yt,A.ids,hm])
     have hag:=(G.upd_agree n (((Value.slice none 0 0).ownBlock).getD 0,0) (.slice none 0 0) (us.length,([]:List (yJ us)).length))
     have hrl:=RL.agree (G:=G) (G':=G.upd n (((Value.slice none 0 0).ownBlock).getD 0,0) (.slice none 0 0) (us.length,([]:List (yJ us)).length)) rfl rfl l vs hr.2 fun j hj=>hag.same fun he=>hnl (he ▸ hj)
     obtain ⟨G',e1,e2,e3,e4⟩:=y5s ts l vs (n+1) _ _ hrel hrl (by omega) fun j hj hm=>hd j (by simp [zp,hj]) (by simp [Yt,hm])
     refine ⟨G',e1,e2,⟨RA.agree e1 (e2.pv.trans hrel.pv.symm) _ _ hra fun j hj=>e4 j fun hm=> ?_,e3⟩,fun j hj=> ?_⟩
     ·have h1:j=n:=by simpa [A.ids] using hj
      have:=(ygv ts l (n+1) j hm).1
      omega
     ·simp only [zp,aA,not_or] at hj
      exact (hag.same hj.1).trans (e4 j hj.2)
   |_=>exact plain rfl
  |_=>exact plain (by cases x<;>rfl)
theorem ylv (hT:TOk C P) (h:Rel P w0 lent H0 s a w G) (hK:y4A P w0 lent H0 s o k r K) (hout:Out o) {t:Nat} {parts:Array (Nat×Operand)} (hop:o.op= .build t parts) (he:jb C call ct wn o s.opd lk k=some r):o.wp P a w K Q:=by
 simp only [jb,hop] at he
 split at he
 ·rename_i fs ts b ht
  cases hp:y4q C s.opd fs (ts.map yhs) parts.toList with
  |none=>simp [hp] at he
  |some l=>
   simp only [hp] at he
   obtain ⟨i,z,hi,hs,hby,hz,hzc,hpos,hbp⟩:=hT.info t _ ht
   obtain ⟨D,hD,F,rfl,hsz,hF⟩:=hT.und t _ ht
   have hm:=ygl (f:=fun f:Field=>(P.info? f.type).map fun i=>(f.offset,i.size)) (0,0) (l:=F.toList) (fun fl hfl=>by
    obtain ⟨n,hn⟩:=cf.1 hfl
    have hlt:=(av.1 hn).1
    rw [aN,hsz] at hlt
    obtain ⟨fl',h1,h2,h3,ti,hti,_⟩:=hF n _ _ (show fs[n]? =some (fs[n].1,fs[n].2) by rw [aJ hlt])
    rw [aQ,h1] at hn
    injection hn with hn
    subst hn
    obtain ⟨i2,_,hi2,_⟩:=hT.info _ ti hti
    rw [h3,hi2]
    exact ⟨_,rfl⟩)
   obtain ⟨arr,h1,h2⟩:=y7p (places:=(F.toList.map fun x=>((P.info? x.type).map fun i=>(x.offset,i.size)).getD (0,0)).toArray) hT h (fun n off t2 ti hf hti=>by
    obtain ⟨fl,hfl,h3,h4,_⟩:=hF n off t2 hf
    obtain ⟨i2,_,hi2,hs2,_⟩:=hT.info _ ti hti
    simp [hfl,h3,h4,hi2,hs2]) parts.toList _ l z.cells hp (by rw [hzc];exact yf7 ts)
   have hb:=run_build (P:=P) w t (parts.map fun (i,x)=>(i,a.eval x)) arr (by
    simp only [Program.built,hi,hD,hz,hm]
    rw [cU]
    exact h1)
   have hrun:(execOp a.eval o).run P w= .ok (.value (.agg arr)) w:=by
    simp only [execOp,hop]
    rw [Sem.run_bind,hb]
    rfl
   cases ct with
   |false=>exact kQ h hK he (v:= .agg arr) hrun ⟨arr.toList,rfl,h2⟩
   |true=>
    simp only [ai] at he
    cases hdst:o.dst with
    |none=>simp [hdst] at he
    |some d=>
     simp only [hdst] at he
     cases hdj:y3x (zp (kO ts l (1000*(d+1))).2) (Yt l) with
     |false=>simp [hdj] at he
     |true=>
      simp only [hdj,ai] at he
      obtain ⟨G',e1,e2,e3,_⟩:=y5s ts l arr.toList (1000*(d+1)) s G h h2 (by omega) (Q5 hdj)
      refine YZ (v:= .agg arr) (w':=w) hrun (hK _ _ _ G' he ?_)
      have:=e2.put o.dst (x:= .agg (kO ts l (1000*(d+1))).1) (v:= .agg arr) ⟨arr.toList,rfl,e3⟩
      simpa [St.apply,St.setAll] using this
 ·cases he
end
section
variable {P:Program} {C:Ctx} {w0:World} {lent:Nat→Prop} {H0:Base} {s:St} {a:Act} {w:World} {G:Gh} {o:Oper} {K:Act→World→Prop} {Q:Exit→Act→World→Prop} {R:Type} {k:Eff→Option R} {r:R} {lk:Lk} {call:C.Sem} {ct wn:Bool}
theorem y7D: ∀ (l:List (Nat×Ob)) (i:Nat) (x:Ob),yF l i=some x→Vx l i x=l
 |[],_,_,h=>by simp [yF] at h
 |(j,y)::r,i,x,h=>by
  simp only [yF,Vx] at h ⊢
  cases hb:Nat.beq j i with
  |true=>
   simp only [hb,ai] at h ⊢
   rw [Option.some.inj h]
  |false=>
   simp only [hb,ag] at h ⊢
   rw [y7D r i x h]
theorem Rel.setRow {q e:Nat} {u:Ty} (hu:u.flat=true): ∀ (ys:List (yJ [u])) (vs:List Value) (xs:List (yJ [u])) (i:Nat) (s:St) (w:World),Rel P w0 lent H0 s a w G→yF s.o q=some (.root true e [u] xs)→i+ys.length≤xs.length→vs.length=ys.length→(∀ v∈vs,v.oneCell'=true)→
  (∀ (j:Nat) (y:yJ [u]),ys[j]? =some y→ ∃ v,vs[j]? =some v∧RdT G.H u y v)→Rel P w0 lent H0 (s.set q (.root true e [u] (xs.take i++ys++xs.drop (i+ys.length)))) a (w.setCells (G.g q).1 i vs) G
 |[],vs,xs,i,s,w,h,hq,hl,hv,h1,hr=>by
  obtain rfl:vs=[]:=aP.1 hv
  simp only [bt,aj,bS,List.take_append_drop]
  rw [show s.set q (.root true e [u] xs)=s by rw [St.set,y7D _ _ _ hq]]
  exact h
 |y::ys,vs,xs,i,s,w,h,hq,hl,hv,h1,hr=>by
  obtain ⟨v,hv0,hrd⟩:=hr 0 y rfl
  cases vs with
  |nil=>cases hv0
  |cons v' vs=>
   obtain rfl:v'=v:=by simpa using hv0
   have hi:i<xs.length:=by
    simp only [ah] at hl
    omega
   have hs:y0k [u] (xs[i]) 0 [⟨u,y⟩]=some y:=by
    show j9 u u y=some y
    unfold j9
    rw [dif_pos (ygk hu)]
    rfl
   have h2:=(h.setRoot (c:=0) hq hi (aJ hi) hs (vs:=[v']) ⟨hrd,trivial⟩ (fun z hz=>h1 z (by simp at hz;simp [hz])) (by simp)).1
   simp only [ah,aj,aK,Nat.mul_one,bS] at h2
   have h3:=Rel.setRow hu ys vs (xs.set i y) (i+1) _ _ h2 (by rw [show (s.set q _).o=Vx s.o q _ from rfl,Yj,af rfl,hq];rfl) (by simp only [aG,ah] at hl ⊢;omega) (by simpa using hv) (fun z hz=>h1 z (by simp [hz])) (fun j z hz=>hr (j+1) z hz)
   rw [St.set_set] at h3
   have e1:(xs.set i y).take (i+1)++ys++(xs.set i y).drop (i+1+ys.length)=xs.take i++(y::ys)++xs.drop (i+(y::ys).length):=by
    rw [List.drop_set_of_lt (by omega),List.take_add_one,List.take_set_of_le (aS i),bh hi]
    simp [ah,bN,Nat.add_comm 1]
   rw [e1] at h3
   exact h3
theorem ypB (hT:TOk C P) (h:Rel P w0 lent H0 s a w G) (hK:y4A P w0 lent H0 s o k r K) (hlk:y5e lk s) {c:Call} {x y:Operand} {t t2:Nat} (hop:o.op= .call c) (hc:c.callee= .builtin .copy) (hargs:c.args.toList=[x,y]) (htys:c.argTypes.toList=[t,t2]) (he:jb C call ct wn o s.opd lk k=some r):o.wp P a w K Q:=by
 have hx:=h.opd x
 have hy:=h.opd y
 simp only [jb,hop,hc,hargs,htys] at he
 split at he
 ·rename_i e u b q ht hxa
  rw [hxa] at hx
  split at he
  ·rename_i e1 ts1 xs ys hq hya
   cases hcr:y6k ts1 [u] xs with
   |none=>simp [hcr] at he
   |some xs'=>
    simp only [hcr] at he
    obtain ⟨ee,rfl⟩:=y1m hcr
    subst ee
    cases hbb:Nat.beq t t2&&Nat.beq e1 e&&u.flat with
    |false=>simp [hbb] at he
    |true=>
     simp only [hbb,ai] at he
     simp only [al] at hbb
     obtain rfl:=an hbb.1.1
     obtain rfl:=an hbb.1.2
     have a1:c.args= #[x,y]:=by rw [← be (xs:=c.args),hargs]
     have a2:c.argTypes= #[t,t]:=by rw [← be (xs:=c.argTypes),htys]
     obtain ⟨D,hD,rfl,te',hte',hts⟩:=hT.und t _ ht
     obtain ⟨i,z,hi,hs,_⟩:=hT.info e1 te' hte'
     have hs1:(P.info? e1).map (·.size)=some 1:=by rw [hi,ci,hs,hts];rfl
     have hlq:=hlk q _ hq
     obtain ⟨A,cc,hu,hm,hsrc⟩:=y26 h hlk hya hy
     obtain ⟨_,_,cells,hown,hone,hblk,hrd⟩:=h.objs q _ hlq
     by_cases h0:min ys.length xs.length=0
     ·have hxs:ys.take xs.length++xs.drop ys.length=xs:=by
       rcases Nat.min_eq_zero_iff.1 h0 with h0|h0
       ·rw [aP.1 h0];simp
       ·rw [aP.1 h0];simp
      obtain ⟨_,_,⟨A2,c2,hsv,_⟩,_⟩:=qJ h hlq
      have hrun:=run_copy_none w t t o.type e1 A2 A xs.length c2 ys.length cc hD hs1 h0
      refine YZ (v:=goInt 0) (w':=w) (by simp [execOp,hop,resolve,hc,invoke,builtin,a1,a2,hx.1,hsv,hu,hrun]) (hK _ _ _ G he ?_)
      have:Rel P w0 lent H0 (s.set q (.root true e1 [u] (ys.take xs.length++xs.drop ys.length))) a w G:=by
       rw [hxs,show s.set q (.root true e1 [u] xs)=s by rw [St.set,y7D _ _ _ hlq]]
       exact h
      have:=this.put o.dst (x:= .val (.int .i64) ((Nat.min ys.length xs.length:Nat):Int)) (v:=goInt 0) (by rw [show Nat.min ys.length xs.length=0 from h0];rfl)
      simpa [St.apply,St.makeAll,St.setAll] using this
     ·have hmin:=Nat.min_le_left ys.length xs.length
      have hmin2:=Nat.min_le_right ys.length xs.length
      rcases hown.2 with ⟨_,hn⟩|⟨g,cap,cur,hv,_,hh,hcap,hmax,hcs,htk⟩
      ·omega
      obtain rfl:g=(G.g q).1:=hblk g (by simp [hv,Value.ownBlock])
      obtain ⟨ad,rfl,hyr⟩:=hsrc (by omega)
      obtain ⟨news,hnl,hnc,hn1,hnr⟩:=y8W (f:=fun i=>w.cell? (ad.add i)) (ts:=[u]) (by simp) hyr
      simp only [ah,aj,aK,Nat.mul_one] at hnl hcs hnr
      have htl:(news.take (min ys.length xs.length)).length=min ys.length xs.length:=by rw [ak];omega
      have hrun:=run_copy_cells w t t o.type e1 (G.g q).1 0 xs.length cap ad ys.length cc (news.take (min ys.length xs.length)) hD hs1 htl (fun j v hj=>by
        rw [aD] at hj
        split at hj
        ·exact hnc j v hj
        ·cases hj) (fun j hj=>by
        rw [aK,cell_of_row w _ _ cur e1 (0,0) hh]
        have:j<cur.size:=by omega
        simp [this]) (fun j _=>by simp [World.frozen?,hh]) (fun v hv=>hn1 v (a0 hv))
      have hset:=Rel.setRow (by exact hbb.2) (ys.take (min ys.length xs.length)) (news.take (min ys.length xs.length)) xs 0 s w h hlq (by rw [ak];omega) (by rw [htl,ak];omega) (fun v hv=>hn1 v (a0 hv)) (fun j y hj=>by
       rw [aD] at hj ⊢
       split at hj
       ·rename_i hjn
        rw [af hjn]
        exact hnr j y hj
       ·cases hj)
      refine YZ (v:=goInt (news.take (min ys.length xs.length)).length) (w':=w.setCells (G.g q).1 0 (news.take (min ys.length xs.length))) (by simp [execOp,hop,resolve,hc,invoke,builtin,a1,a2,hx.1,hv,hu,hrun]) (hK _ _ _ G he ?_)
      have e3:xs.take 0++ys.take (min ys.length xs.length)++xs.drop (0+(ys.take (min ys.length xs.length)).length)=ys.take xs.length++xs.drop ys.length:=by
       rw [List.take_zero,aT,aK,ak]
       rcases Nat.le_total ys.length xs.length with hle|hle
       ·rw [bw hle,Nat.min_self,bF,ce hle]
       ·rw [Nat.min_eq_right hle,bw hle,cS,bO hle]
      rw [e3] at hset
      have:=hset.put o.dst (x:= .val (.int .i64) ((Nat.min ys.length xs.length:Nat):Int)) (v:=goInt (news.take (min ys.length xs.length)).length) (by rw [htl];rfl)
      simpa [St.apply,St.makeAll,St.setAll] using this
  ·cases he
 ·cases he
theorem ylw (hT:TOk C P) (hC:qM H0 C P call) (h:Rel P w0 lent H0 s a w G) (hK:y4A P w0 lent H0 s o k r K) (hout:Out o) (hlk:y5e lk s) (he:jb C call ct wn o s.opd lk k=some r):o.wp P a w K Q:=by
 cases hop:o.op with
 |move x=>exact yiL h hK (.inl hop) he
 |assign x=>exact yiL h hK (.inr hop) he
 |load t x=>exact ypq hT h hK hlk hop he
 |store t p x=>exact yll hT h hK hlk hop he
 |nilCheck x=>exact yf6 h hK hop he
 |binOp op t x y ty=>exact ylg hT h hK hop he
 |unOp op t x=>exact ypr h hK hop he
 |extract x i=>exact yhD h hK hop he
 |makeFunc fn first captured=>exact yf5 h hK hop he
 |fieldAddr t x f=>exact ycM hT h hK hop he
 |field t x f=>exact ylh hT h hK hop he
 |index t x i=>exact yli hT h hK hop he
 |indexAddr t x i=>exact ycN hT h hK hlk hop he
 |box t x=>exact yue hT h hK hout hop he
 |alloc t=>exact ylk hT h hK hout hop he
 |build t parts=>exact ylv hT h hK hout hop he
 |buildSlice t n parts=>exact y9R hT h hK hout hlk hop he
 |makeSlice t l c=>exact ycO hT h hK hout hop he
 |convert src dst x=>exact yhK hT h hK hlk hop he
 |slice t x lo hi mx=>
  cases mx with
  |none=>exact yln hT h hK hout hlk hop he
  |some m=>simp [jb,hop] at he
 |call c=>
  cases hc:c.callee with
  |value f=>exact ypA hC h hK hlk hop hc he
  |invoke r m=>simp [jb,hop,hc] at he
  |builtin b=>
   cases b with
   |len=>
    cases hargs:c.args.toList with
    |nil=>simp [jb,hop,hc,hargs] at he
    |cons x l=>
     cases l with
     |cons _ _=>simp [jb,hop,hc,hargs] at he
     |nil=>
      cases ht:c.argTypes.toList with
      |nil=>simp [jb,hop,hc,hargs,ht] at he
      |cons t ts=>exact yuf hT h hK hlk hop hc hargs ht he
   |min=>
    cases hargs:c.args.toList with
    |nil=>simp [jb,hop,hc,hargs] at he
    |cons x l=>
     cases l with
     |nil=>simp [jb,hop,hc,hargs] at he
     |cons y l=>
      cases l with
      |nil=>exact yug h hK hop hc hargs he
      |cons _ _=>simp [jb,hop,hc,hargs] at he
   |append=>
    cases hargs:c.args.toList with
    |nil=>simp [jb,hop,hc,hargs] at he
    |cons x l=>
     cases l with
     |nil=>simp [jb,hop,hc,hargs] at he
     |cons y l=>
      cases l with
      |cons _ _=>simp [jb,hop,hc,hargs] at he
      |nil=>
       cases ht:c.argTypes.toList with
       |nil=>simp [jb,hop,hc,hargs,ht] at he
       |cons t ts=>
        cases ts with
        |nil=>simp [jb,hop,hc,hargs,ht] at he
        |cons t2 ts=>
         cases ts with
         |cons _ _=>simp [jb,hop,hc,hargs,ht] at he
         |nil=>exact yiQ hT h hK hout hlk hop hc hargs ht he
   |copy=>
    cases hargs:c.args.toList with
    |nil=>simp [jb,hop,hc,hargs] at he
    |cons x l=>
     cases l with
     |nil=>simp [jb,hop,hc,hargs] at he
     |cons y l=>
      cases l with
      |cons _ _=>simp [jb,hop,hc,hargs] at he
      |nil=>
       cases ht:c.argTypes.toList with
       |nil=>simp [jb,hop,hc,hargs,ht] at he
       |cons t ts=>
        cases ts with
        |nil=>simp [jb,hop,hc,hargs,ht] at he
        |cons t2 ts=>
         cases ts with
         |cons _ _=>simp [jb,hop,hc,hargs,ht] at he
         |nil=>exact ypB hT h hK hlk hop hc hargs ht he
   |_=>simp [jb,hop,hc] at he
 |_=>simp [jb,hop] at he
end
section
variable {P:Program} {C:Ctx} {w0:World} {lent:Nat→Prop} {H0:Base} {s:St} {a:Act} {w:World} {G:Gh} {call:C.Sem}
@[ext] structure FS where
 t:List A
 lk:Lk
def St.F (s:St):FS:=⟨s.t,yF s.o⟩
def FS.opd (z:FS):Operand→A
 | .tmp i=>z.t.getD i .dead
 | .const v=>y9I v
 | .func f=> .fn f
 | .global _=> .dead
theorem ylx (s:St):s.F.opd=s.opd:=funext fun x=>by cases x<;>rfl
def FS.forget (z:FS) (i:Nat):FS:=⟨zy i z.t,fun j=>if j=i then none else (z.lk j).map (·.forget i)⟩
def FS.make (z:FS) (i:Nat) (x:Ob):FS:=⟨zy i z.t,fun j=>if j=i then some x else (z.lk j).map (·.forget i)⟩
def FS.set (z:FS) (i:Nat) (x:Ob):FS:=⟨z.t,fun j=>if j=i then (z.lk j).map (fun _=>x) else z.lk j⟩
def FS.put (z:FS) (d:Option Nat) (a:A):FS:=match d with
 |some d=>⟨z.t.set d a,z.lk⟩
 |none=>z
def FS.forgetAll (z:FS):List Nat→FS
 |[]=>z
 |i::r=>(z.forget i).forgetAll r
def FS.makeAll (z:FS):List (Nat×Ob)→FS
 |[]=>z
 |(i,x)::r=>(z.make i x).makeAll r
def FS.setAll (z:FS):List (Nat×Ob)→FS
 |[]=>z
 |(i,x)::r=>(z.set i x).setAll r
def FS.kill (z:FS):List Nat→FS
 |[]=>z
 |d::r=>(z.put (some d) .dead).kill r
def FS.apply (z:FS) (d:Option Nat) (e:Eff):FS:=((z.makeAll e.adds).setAll e.sets).put d e.a
theorem yly (s:St) (i:Nat):(s.forget i).F=s.F.forget i:=FS.ext rfl (funext fun j=>kP i j s.o)
theorem yui (s:St) (i:Nat) (x:Ob):(s.make i x).F=s.F.make i x:=FS.ext rfl (funext fun j=>by
 show yF ((i,x)::YY i s.o) j=if j=i then some x else (yF s.o j).map (·.forget i)
 by_cases hj:j=i
 ·subst hj
  simp [yF,yp]
 ·simp only [yF,yB (fun e:i=j=>hj e.symm),ag,kP,hj,aU])
theorem yE8 (s:St) (i:Nat) (x:Ob):(s.set i x).F=s.F.set i x:=FS.ext rfl (funext fun j=>by
 show yF (Vx s.o i x) j=if j=i then (yF s.o j).map (fun _=>x) else yF s.o j
 rw [Yj]
 split
 ·rename_i h
  rw [h]
 ·rfl)
theorem yiV (s:St) (d:Option Nat) (x:A):(s.put d x).F=s.F.put d x:=by cases d<;>rfl
theorem y1r: ∀ (l:List Nat) (s:St),(s.forgetAll l).F=s.F.forgetAll l
 |[],_=>rfl
 |i::r,s=>by rw [St.forgetAll,y1r r,yly,FS.forgetAll]
theorem yd2: ∀ (l:List (Nat×Ob)) (s:St),(s.makeAll l).F=s.F.makeAll l
 |[],_=>rfl
 |(i,x)::r,s=>by rw [St.makeAll,yd2 r,yui,FS.makeAll]
theorem ygw: ∀ (l:List (Nat×Ob)) (s:St),(s.setAll l).F=s.F.setAll l
 |[],_=>rfl
 |(i,x)::r,s=>by rw [St.setAll,ygw r,yE8,FS.setAll]
theorem yiW: ∀ (l:List Nat) (s:St),(YC s l).F=s.F.kill l
 |[],_=>rfl
 |d::r,s=>by rw [YC,yiW r,yiV,FS.kill]
theorem yfh (s:St) (d:Option Nat) (e:Eff):(s.apply d e).F=s.F.apply d e:=by
 rw [St.apply,yiV,ygw,yd2,FS.apply]
def FS.bool (z:FS) (x:Operand):Option Bool:=match z.opd x with
 | .val .bool b=>some b
 |_=>none
theorem y7E (s:St) (x:Operand):s.F.bool x=zu s x:=by rw [FS.bool,ylx];rfl
def met (z:FS):Option (Nat×Bool)→Bool
 |none=>true
 |some (c,v)=>z.bool (.tmp c)==some v
def y7F (z:FS):Option (Nat×Bool)→Bool
 |none=>false
 |some (c,v)=>match z.opd (.tmp c) with
  | .val .bool b=>(show Bool from b) !=v
  | .und=>true
  |_=>false
inductive TS where
 |run (x:Dop)
 |skip (x:Dop)
 |pick (x:Dop) (M D:List Nat)
def TS.x:TS→Dop
 | .run x=>x
 | .skip x=>x
 | .pick x _ _=>x
def TS.kills:TS→List Nat
 | .pick _ _ D=>D
 |_=>[]
section
variable (C:Ctx) (call:C.Sem)
def vY:TS→FS→Option FS
 | .run x,z=>if met z x.g then (jb C call (Nat.beq x.hn 2) (Nat.beq x.hn 3) x.o z.opd (x.see z.lk) some).bind fun e=>if x.ok (x.see z.lk) e then some (z.apply x.o.dst e) else none else none
 | .skip x,z=>if y7F z x.g then some (z.put x.o.dst .und) else none
 | .pick x M D,z=>if met z x.g then match x.o.op with
  | .pick c a b=>(z.bool c).bind fun v=>(z.bool (if v then a else b)).bind fun u=>some (((z.forgetAll M).kill D).put x.o.dst (.val .bool u))
  |_=>none
  else none
def k8:List TS→FS→Option FS
 |[],z=>some z
 |t::T,z=>(vY C call t z).bind (k8 T)
end
theorem y4H: ∀ (T T':List TS) (z:FS),k8 C call (T++T') z=(k8 C call T z).bind (k8 C call T')
 |[],T',z=>rfl
 |t::T,T',z=>by
  simp only [bp,k8]
  cases vY C call t z with
  |none=>rfl
  |some z1=>exact y4H T T' z1
end
section
variable {C:Ctx} {call:C.Sem}
mutual
theorem A.forget_comm (i j:Nat): ∀ x:A,(x.forget i).forget j=(x.forget j).forget i
 | .own o=>by by_cases h1:o=i<;>by_cases h2:o=j<;>simp [A.forget,h1,h2,yp,yB]<;>(repeat' (first|rfl|(split<;>simp_all [A.forget,yp])))<;>(cases hb:Nat.beq i j<;>cases hb':Nat.beq j i<;>simp_all [A.forget,yp,yB])
 | .box b off=>by by_cases h1:b=i<;>by_cases h2:b=j<;>simp [A.forget,h1,h2,yp,yB]<;>(cases hb:Nat.beq i j<;>cases hb':Nat.beq j i<;>simp_all [A.forget,yp,yB])
 | .rtp o _ _=>by by_cases h1:o=i<;>by_cases h2:o=j<;>simp [A.forget,h1,h2,yp,yB]<;>(cases hb:Nat.beq i j<;>cases hb':Nat.beq j i<;>simp_all [A.forget,yp,yB])
 | .bor o _ _=>by by_cases h1:o=i<;>by_cases h2:o=j<;>simp [A.forget,h1,h2,yp,yB]<;>(cases hb:Nat.beq i j<;>cases hb':Nat.beq j i<;>simp_all [A.forget,yp,yB])
 | .bep o _ _ _=>by by_cases h1:o=i<;>by_cases h2:o=j<;>simp [A.forget,h1,h2,yp,yB]<;>(cases hb:Nat.beq i j<;>cases hb':Nat.beq j i<;>simp_all [A.forget,yp,yB])
 | .win o _=>by by_cases h1:o=i<;>by_cases h2:o=j<;>simp [A.forget,h1,h2,yp,yB]<;>(cases hb:Nat.beq i j<;>cases hb':Nat.beq j i<;>simp_all [A.forget,yp,yB])
 | .tl o _=>by by_cases h1:o=i<;>by_cases h2:o=j<;>simp [A.forget,h1,h2,yp,yB]<;>(cases hb:Nat.beq i j<;>cases hb':Nat.beq j i<;>simp_all [A.forget,yp,yB])
 | .clo _ b=>by by_cases h1:b=i<;>by_cases h2:b=j<;>simp [A.forget,h1,h2,yp,yB]<;>(cases hb:Nat.beq i j<;>cases hb':Nat.beq j i<;>simp_all [A.forget,yp,yB])
 | .agg l=>by simp [A.forget,kY i j l]
 | .tup l=>by simp [A.forget,kY i j l]
 | .dead| .und| .val _ _| .nils| .nilp| .elp _ _ _ _ _| .top _ _ _| .fn _=>rfl
theorem kY (i j:Nat): ∀ l:List A,zy j (zy i l)=zy i (zy j l)
 |[]=>rfl
 |a::l=>by simp [zy,A.forget_comm i j a,kY i j l]
end
mutual
theorem A.forget_idem (i:Nat): ∀ x:A,(x.forget i).forget i=x.forget i
 | .own o=>by by_cases h1:o=i<;>simp [A.forget,h1,yp,yB]
 | .box b off=>by by_cases h1:b=i<;>simp [A.forget,h1,yp,yB]
 | .rtp o _ _=>by by_cases h1:o=i<;>simp [A.forget,h1,yp,yB]
 | .bor o _ _=>by by_cases h1:o=i<;>simp [A.forget,h1,yp,yB]
 | .bep o _ _ _=>by by_cases h1:o=i<;>simp [A.forget,h1,yp,yB]
 | .win o _=>by by_cases h1:o=i<;>simp [A.forget,h1,yp,yB]
 | .tl o _=>by by_cases h1:o=i<;>simp [A.forget,h1,yp,yB]
 | .clo _ b=>by by_cases h1:b=i<;>simp [A.forget,h1,yp,yB]
 | .agg l=>by simp [A.forget,kZ i l]
 | .tup l=>by simp [A.forget,kZ i l]
 | .dead| .und| .val _ _| .nils| .nilp| .elp _ _ _ _ _| .top _ _ _| .fn _=>rfl
theorem kZ (i:Nat): ∀ l:List A,zy i (zy i l)=zy i l
 |[]=>rfl
 |a::l=>by simp [zy,A.forget_idem i a,kZ i l]
end
theorem Ob.forget_comm (i j:Nat) (x:Ob):(x.forget i).forget j=(x.forget j).forget i:=by cases x<;>simp [Ob.forget,kY i j]
theorem Ob.forget_idem (i:Nat) (x:Ob):(x.forget i).forget i=x.forget i:=by cases x<;>simp [Ob.forget,kZ i]
theorem y7G (i d:Nat) (a:A): ∀ l:List A,zy i (l.set d a)=(zy i l).set d (a.forget i):=by
 intro l
 induction l generalizing d with
 |nil=>simp [zy]
 |cons b l ih=>cases d<;>simp [zy,ih]
theorem FS.forget_comm (z:FS) (i j:Nat):(z.forget i).forget j=(z.forget j).forget i:=by
 refine FS.ext (kY i j z.t) (funext fun m=> ?_)
 show (if m=j then none else (if m=i then none else (z.lk m).map (·.forget i)).map (·.forget j))=(if m=i then none else (if m=j then none else (z.lk m).map (·.forget j)).map (·.forget i))
 by_cases h1:m=j<;>by_cases h2:m=i<;>simp [h1,h2]
 cases z.lk m with
 |none=>rfl
 |some x=>simp [Ob.forget_comm i j x]
theorem FS.forget_idem (z:FS) (i:Nat):(z.forget i).forget i=z.forget i:=by
 refine FS.ext (kZ i z.t) (funext fun m=> ?_)
 show (if m=i then none else (if m=i then none else (z.lk m).map (·.forget i)).map (·.forget i))=(if m=i then none else (z.lk m).map (·.forget i))
 by_cases h2:m=i<;>simp [h2]
 cases z.lk m with
 |none=>rfl
 |some x=>simp [Ob.forget_idem i x]
theorem FS.forgetAll_in: ∀ (M:List Nat) (z:FS) (i:Nat),i∈M→(z.forget i).forgetAll M=z.forgetAll M
 |j::M,z,i,h=>by
  rcases aA.1 h with rfl|h
  ·rw [FS.forgetAll,FS.forget_idem,FS.forgetAll]
  ·rw [FS.forgetAll,FS.forget_comm,FS.forgetAll_in M _ i h,FS.forgetAll]
theorem FS.forget_put (z:FS) (i:Nat) (d:Option Nat) (a:A):(z.put d a).forget i=(z.forget i).put d (a.forget i):=by
 cases d with
 |none=>rfl
 |some d=>exact FS.ext (y7G i d a z.t) rfl
theorem FS.forget_make (z:FS) (i:Nat) (x:Ob):(z.make i x).forget i=z.forget i:=by
 refine FS.ext (kZ i z.t) (funext fun m=> ?_)
 show (if m=i then none else (if m=i then some x else (z.lk m).map (·.forget i)).map (·.forget i))=(if m=i then none else (z.lk m).map (·.forget i))
 by_cases h2:m=i<;>simp [h2]
 cases z.lk m with
 |none=>rfl
 |some x=>simp [Ob.forget_idem i x]
theorem FS.forgetAll_make (M:List Nat) (z:FS) (i:Nat) (x:Ob) (h:i∈M):(z.make i x).forgetAll M=z.forgetAll M:=by
 rw [← FS.forgetAll_in M _ i h,FS.forget_make,FS.forgetAll_in M _ i h]
theorem FS.forgetAll_makeAll (M:List Nat): ∀ (l:List (Nat×Ob)) (z:FS),(∀ i∈zp l,i∈M)→(z.makeAll l).forgetAll M=z.forgetAll M
 |[],_,_=>rfl
 |(i,x)::l,z,h=>by rw [FS.makeAll,FS.forgetAll_makeAll M l _ (fun j hj=>h j (by simp [zp,hj])),FS.forgetAll_make M z i x (h i (by simp [zp]))]
def y9W (x:A):List Nat→A
 |[]=>x
 |i::M=>y9W (x.forget i) M
theorem FS.forgetAll_put: ∀ (M:List Nat) (z:FS) (d:Option Nat) (a:A),(z.put d a).forgetAll M=(z.forgetAll M).put d (y9W a M)
 |[],_,_,_=>rfl
 |i::M,z,d,a=>by rw [FS.forgetAll,FS.forget_put,FS.forgetAll_put M,FS.forgetAll,y9W]
theorem FS.put_put (z:FS) (d:Nat) (a b:A):(z.put (some d) a).put (some d) b=z.put (some d) b:=FS.ext (List.set_set a) rfl
theorem FS.put_comm (z:FS) {d e:Nat} (h:d≠e) (a b:A):(z.put (some d) a).put (some e) b=(z.put (some e) b).put (some d) a:=FS.ext (List.set_comm a b h) rfl
theorem FS.kill_in: ∀ (D:List Nat) (z:FS) (d:Nat) (a:A),d∈D→(z.put (some d) a).kill D=z.kill D
 |e::D,z,d,a,h=>by
  by_cases he:d=e
  ·subst he
   rw [FS.kill,FS.put_put,FS.kill]
  ·rw [FS.kill,FS.put_comm z he,FS.kill_in D _ d a ((aA.1 h).resolve_left he),FS.kill]
theorem FS.kill_kill: ∀ (D' D:List Nat) (z:FS),(∀ d∈D',d∈D)→(z.kill D').kill D=z.kill D
 |[],_,_,_=>rfl
 |e::D',D,z,h=>by rw [FS.kill,FS.kill_kill D' D _ (fun d hd=>h d (by simp [hd])),FS.kill_in D z e .dead (h e (by simp))]
def inD (D:List Nat):Option Nat→Prop
 |none=>True
 |some d=>d∈D
theorem FS.kill_put {D:List Nat} {z:FS} {d:Option Nat} {a:A} (h:inD D d):(z.put d a).kill D=z.kill D:=by
 cases d with
 |none=>rfl
 |some d=>exact FS.kill_in D z d a h
theorem FS.wipe_put {M D:List Nat} {z:FS} {d:Option Nat} {a:A} (h:inD D d):((z.put d a).forgetAll M).kill D=(z.forgetAll M).kill D:=by
 rw [FS.forgetAll_put,FS.kill_put h]
theorem FS.forgetAll_kill: ∀ (D M:List Nat) (z:FS),(z.kill D).forgetAll M=(z.forgetAll M).kill D:=by
 intro D M
 have hd: ∀ M:List Nat,y9W .dead M= .dead:=fun M=>by
  induction M with
  |nil=>rfl
  |cons i M ih=>exact ih
 induction D with
 |nil=>intro z;rfl
 |cons d D ih=>intro z;rw [FS.kill,ih,FS.forgetAll_put,hd,FS.kill]
theorem FS.wipe_kill {M D D':List Nat} {z:FS} (h: ∀ d∈D',d∈D):((z.kill D').forgetAll M).kill D=(z.forgetAll M).kill D:=by
 rw [FS.forgetAll_kill,FS.kill_kill D' D _ h]
theorem FS.wipe_forgetAll {M M' D:List Nat} {z:FS} (h: ∀ i∈M',i∈M):((z.forgetAll M').forgetAll M).kill D=(z.forgetAll M).kill D:=by
 congr 1
 revert z
 induction M' with
 |nil=>intro z;rfl
 |cons i M' ih=>
  intro z
  rw [FS.forgetAll,ih (fun j hj=>h j (by simp [hj])),FS.forgetAll_in M z i (h i (by simp))]
theorem FS.wipe_apply {M D:List Nat} {z:FS} {d:Option Nat} {e:Eff} (hs:vT e.sets=true) (hm: ∀ i∈zp e.adds,i∈M) (hd:inD D d):((z.apply d e).forgetAll M).kill D=(z.forgetAll M).kill D:=by
 have:e.sets=[]:=by
  cases h:e.sets with
  |nil=>rfl
  |cons _ _=>simp [h,vT] at hs
 rw [FS.apply,this,FS.wipe_put hd]
 show ((z.makeAll e.adds).forgetAll M).kill D=_
 rw [FS.forgetAll_makeAll M _ _ hm]
def Zw (ctx:List (Nat×Bool)) (x:Dop):Dop:=match x.g with
 |some p=>if p∈ctx then {x with g:=none} else x
 |none=>x
theorem y43 (ctx:List (Nat×Bool)) (x:Dop):(Zw ctx x).o=x.o:=by unfold Zw;(repeat' split)<;>rfl
theorem yhS (ctx:List (Nat×Bool)) (x:Dop):(Zw ctx x).mine=x.mine:=by unfold Zw;(repeat' split)<;>rfl
theorem ygx (ctx:List (Nat×Bool)) (x:Dop):(Zw ctx x).hn=x.hn:=by unfold Zw;(repeat' split)<;>rfl
theorem yd3 (ctx:List (Nat×Bool)) (x:Dop):(Zw ctx x).see=x.see:=by unfold Zw;(repeat' split)<;>rfl
theorem ygy (ctx:List (Nat×Bool)) (x:Dop):(Zw ctx x).ok=x.ok:=by unfold Zw;(repeat' split)<;>rfl
theorem yhT {ctx:List (Nat×Bool)} {x:Dop} {p:Nat×Bool} (h:(Zw ctx x).g=some p):x.g=some p∧p∉ctx:=by
 unfold Zw at h
 split at h
 ·rename_i q hq
  split at h
  ·cases h
  ·rename_i hn
   rw [hq] at h ⊢
   injection h with h
   subst h
   exact ⟨rfl,hn⟩
 ·rename_i hq
  rw [hq] at h
  cases h
theorem y9b {ctx:List (Nat×Bool)} {x:Dop} (h:(Zw ctx x).g=none):x.g=none∨ ∃ p∈ctx,x.g=some p:=by
 unfold Zw at h
 split at h
 ·rename_i q hq
  split at h
  ·rename_i hm
   exact .inr ⟨q,hm,hq⟩
  ·rw [hq] at h
   cases h
 ·rename_i hq
  exact .inl hq
theorem yfi (ctx:List (Nat×Bool)) (c:Nat) (b:Bool) (x:Dop):(match (Zw ctx x).g with
  |some (c',b')=>bif Nat.beq c c'&&(b==b') then {Zw ctx x with g:=none} else Zw ctx x
  |none=>Zw ctx x)=Zw ((c,b)::ctx) x:=by
 obtain ⟨o,g,vis,cls,bad,later,mine⟩:=x
 cases g with
 |none=>rfl
 |some p=>
  obtain ⟨c',b'⟩:=p
  by_cases hm:(c',b')∈ctx
  ·simp [Zw,hm]
  ·by_cases hc:c'=c
   ·subst hc
    by_cases hb:b'=b
    ·subst hb
     simp [Zw,hm,yp]
    ·have hbb:(b==b')=false:=by cases b<;>cases b'<;>simp_all
     simp [Zw,hm,yp,hb,hbb]
   ·simp [Zw,hm,hc,yB (fun e:c=c'=>hc e.symm)]
theorem y9c (ctx:List (Nat×Bool)) (c:Nat) (b:Bool): ∀ l:List Dop,ypk c b (l.map (Zw ctx))=l.map (Zw ((c,b)::ctx))
 |[]=>rfl
 |x::l=>by
  rw [bB,bB,ypk,y9c ctx c b l,← yfi]
  rfl
theorem y5Z (ctx:List (Nat×Bool)): ∀ l:List Dop,z7 (l.map (Zw ctx))=z7 l
 |[]=>rfl
 |x::l=>by simp only [bB,z7,y43,y5Z ctx l]
theorem y4I (ctx:List (Nat×Bool)): ∀ l:List Dop,jQ (l.map (Zw ctx))=jQ l
 |[]=>rfl
 |x::l=>by simp only [bB,jQ,yhS,y4I ctx l]
theorem Ki: ∀ l l':List Dop,z7 (l++l')=z7 l++z7 l'
 |[],_=>rfl
 |x::l,l'=>by
  simp only [bp,z7,Ki l l']
  split<;>rfl
theorem y3D: ∀ l l':List Dop,jQ (l++l')=jQ l++jQ l'
 |[],_=>rfl
 |x::l,l'=>by simp [jQ,y3D l l']
theorem y3E (c:Nat): ∀ (l acc grp rest:List Dop) (p:Dop) (a b:Operand),VL c acc l=some (grp,p,a,b,rest)→acc.reverse++l=grp++p::rest∧p.o.op= .pick (.tmp c) a b∧p.g=none
 |[],_,_,_,_,_,_,h=>by simp [VL] at h
 |x::l,acc,grp,rest,p,a,b,h=>by
  have next:VL c (x::acc) l=some (grp,p,a,b,rest)→acc.reverse++x::l=grp++p::rest∧p.o.op= .pick (.tmp c) a b∧p.g=none:=fun h=>by
   have:=y3E c l (x::acc) grp rest p a b h
   simpa using this
  unfold VL at h
  split at h
  ·rename_i j a' b' hop hg
   cases hb:Nat.beq j c with
   |false=>
    simp only [hb,ag] at h
    exact next h
   |true=>
    simp only [hb,ai,ap,aY] at h
    obtain ⟨rfl,rfl,rfl,rfl,rfl⟩:=h
    have:=an hb
    subst this
    exact ⟨rfl,hop,hg⟩
  ·exact next h
theorem y9X {s:St} {c:Nat} {v:Bool} (h:zu s (.tmp c)=some v) {d:Option Nat} {a:A} (hd:d≠some c):zu (s.put d a) (.tmp c)=some v:=by
 cases d with
 |none=>exact h
 |some d=>
  have hne:d≠c:=fun e=>hd (by rw [e])
  have:(s.put (some d) a).opd (.tmp c)=s.opd (.tmp c):=by simp [St.put,St.opd,au,bl hne]
  rw [zu,this]
  exact h
theorem y6K {s:St} {c:Nat} {v:Bool}:zu s (.tmp c)=some v↔s.t[c]? =some (.val .bool v):=by
 unfold zu
 simp only [St.opd,au]
 constructor
 ·intro h
  split at h
  ·rename_i b hb
   injection h with h
   subst h
   cases ht:s.t[c]? with
   |none=>simp [ht] at hb
   |some x=>simpa [ht] using hb
  ·cases h
 ·intro h
  simp [h]
theorem y7H {s:St} {c:Nat} {v:Bool} (h:zu s (.tmp c)=some v) (i:Nat):zu (s.forget i) (.tmp c)=some v:=by
 rw [y6K] at*
 show (zy i s.t)[c]? =_
 rw [vV,h]
 rfl
theorem y3F {c:Nat} {v:Bool}: ∀ (M:List Nat) {s:St},zu s (.tmp c)=some v→zu (s.forgetAll M) (.tmp c)=some v
 |[],_,h=>h
 |i::M,s,h=>y3F M (y7H h i)
theorem yd4 {c:Nat} {v:Bool}: ∀ (D:List Nat) {s:St},zu s (.tmp c)=some v→c∉D→zu (YC s D) (.tmp c)=some v
 |[],_,h,_=>h
 |d::D,s,h,hc=>by
  simp only [aA,not_or] at hc
  exact yd4 D (y9X h (fun e=>hc.1 (by injection e with e;exact e.symm))) hc.2
theorem yiX {s:St} {c:Nat} {v:Bool} (h:zu s (.tmp c)=some v) (i:Nat) (x:Ob):zu (s.make i x) (.tmp c)=some v:=y7H h i
theorem y60 {c:Nat} {v:Bool}: ∀ (l:List (Nat×Ob)) {s:St},zu s (.tmp c)=some v→zu (s.makeAll l) (.tmp c)=some v
 |[],_,h=>h
 |(i,x)::l,s,h=>y60 l (yiX h i x)
theorem y7I {c:Nat} {v:Bool}: ∀ (l:List (Nat×Ob)) {s:St},zu s (.tmp c)=some v→zu (s.setAll l) (.tmp c)=some v
 |[],_,h=>h
 |(i,x)::l,s,h=>y7I l (s:=s.set i x) h
theorem y9d {s:St} {c:Nat} {v:Bool} (h:zu s (.tmp c)=some v) {d:Option Nat} (e:Eff) (hd:d≠some c):zu (s.apply d e) (.tmp c)=some v:=y9X (y7I _ (y60 _ h)) hd
theorem yfj (s:St) (d:Option Nat) (a:A):(s.put d a).t.length=s.t.length:=by cases d<;>simp [St.put]
theorem ygz: ∀ (D:List Nat) (s:St),(YC s D).t.length=s.t.length
 |[],_=>rfl
 |d::D,s=>by rw [YC,ygz D,yfj]
theorem y4J: ∀ (M:List Nat) (s:St),(s.forgetAll M).t.length=s.t.length
 |[],_=>rfl
 |i::M,s=>by rw [St.forgetAll,y4J M];exact Vy i s.t
theorem y7J: ∀ (l:List (Nat×Ob)) (s:St),(s.makeAll l).t.length=s.t.length
 |[],_=>rfl
 |(i,x)::l,s=>by rw [St.makeAll,y7J l];exact Vy i s.t
theorem yiY (s:St) (d:Option Nat) (e:Eff):(s.apply d e).t.length=s.t.length:=by
 rw [St.apply,yfj,y9T,y7J]
theorem yny {s:St} {ctx:List (Nat×Bool)} (hctx: ∀ p∈ctx,zu s (.tmp p.1)=some p.2) {x:Dop} (hg:(Zw ctx x).g=none):met s.F x.g=true:=by
 rcases y9b hg with h|⟨p,hp,h⟩
 ·rw [h]
  rfl
 ·rw [h]
  have:=hctx p hp
  simp [met,y7E,this]
def FS.undAll (z:FS):List Nat→FS
 |[]=>z
 |d::r=>(z.put (some d) .und).undAll r
theorem FS.wipe_und {M D:List Nat}: ∀ (D':List Nat) (z:FS),(∀ d∈D',d∈D)→((z.undAll D').forgetAll M).kill D=(z.forgetAll M).kill D
 |[],_,_=>rfl
 |d::D',z,h=>by
  rw [FS.undAll,FS.wipe_und D' _ (fun e he=>h e (by simp [he])),FS.wipe_put]
  exact h d (by simp)
theorem FS.bool_undAll {x:Operand}: ∀ (D:List Nat) (z:FS),(∀ j∈D,x≠ .tmp j)→(z.undAll D).bool x=z.bool x
 |[],_,_=>rfl
 |d::D,z,h=>by
  rw [FS.undAll,FS.bool_undAll D _ (fun j hj=>h j (by simp [hj]))]
  have:(z.put (some d) .und).opd x=z.opd x:=by
   cases x with
   |tmp j=>
    have hne:d≠j:=fun e=>h d (by simp) (by rw [e])
    simp [FS.opd,FS.put,au,bl hne]
   |_=>rfl
  unfold FS.bool
  rw [this]
theorem ylz {s:St} {u:Bool} {x:Operand}: ∀ {D:List Nat},zu (YC s D) x=some u→(∀ j∈D,x≠ .tmp j)∧zu s x=some u:=by
 intro D
 induction D generalizing s with
 |nil=>exact fun h=>⟨fun j hj=>by simp at hj,h⟩
 |cons d D ih=>
  intro h
  obtain ⟨h1,h2⟩:=ih h
  have hd:x≠ .tmp d:=by
   rintro rfl
   rw [y6K] at h2
   simp only [St.put] at h2
   by_cases hl:d<s.t.length
   ·rw [bh hl] at h2
    injection h2 with h2
    cases h2
   ·rw [bE (by simpa using Nat.le_of_not_lt hl)] at h2
    cases h2
  refine ⟨fun j hj=> ?_,?_⟩
  ·rcases aA.1 hj with rfl|hj
   ·exact hd
   ·exact h1 j hj
  ·cases x with
   |tmp j=>
    have hne:d≠j:=fun e=>hd (by rw [e])
    have:(s.put (some d) .dead).opd (.tmp j)=s.opd (.tmp j):=by simp [St.put,St.opd,au,bl hne]
    rw [zu,this] at h2
    exact h2
   |_=>exact h2
theorem yE9 {n c:Nat} {want v:Bool} (hv:v≠want) (ctx:List (Nat×Bool)): ∀ (grp:List Dop) (ds:List Nat) (z:FS),y00 n c want ds (grp.map (Zw ctx))=true→z.t.length=n→z.opd (.tmp c)= .val .bool v→(∀ d∈ds,z.opd (.tmp d)= .und)→
  k8 C call (grp.map TS.skip) z=some (z.undAll (z7 grp))∧c∉z7 grp:=by
 intro grp
 induction grp with
 |nil=>intro ds z _ _ _ _;exact ⟨rfl,by simp [z7]⟩
 |cons x grp ih=>
  intro ds z h hn hc hds
  simp only [bB,y00,al,y43] at h
  obtain ⟨h1,h2⟩:=h
  have hun:y7F z x.g=true:=by
   cases hg:(Zw ctx x).g with
   |none=>simp [hg] at h1
   |some p=>
    obtain ⟨c',b'⟩:=p
    rw [(yhT hg).1]
    simp only [hg,ck,al] at h1
    rcases h1 with ⟨h3,h4⟩|h3
    ·have:=an h3
     subst this
     have:want=b':=by simpa using h4
     subst this
     simp only [y7F,hc]
     simpa using hv
    ·simp only [y7F,hds c' (JE.1 h3)]
  have hstep:vY C call (.skip x) z=some (z.put x.o.dst .und):=by simp [vY,hun]
  rw [bB,k8,hstep,aa]
  cases hd:x.o.dst with
  |none=>
   simp only [hd] at h2
   obtain ⟨i1,i2⟩:=ih ds z h2 hn hc hds
   simp only [z7,hd]
   exact ⟨i1,i2⟩
  |some d=>
   simp only [hd,al,bd] at h2
   have hdc:d≠c:=fun e=>by
    rw [e,yp] at h2
    exact absurd h2.1 (by simp)
   have hold: ∀ j,j≠d→(z.put (some d) .und).opd (.tmp j)=z.opd (.tmp j):=fun j hj=>by simp [FS.opd,FS.put,au,bl (Ne.symm hj)]
   obtain ⟨i1,i2⟩:=ih _ (z.put (some d) .und) h2.2 (by simpa [FS.put] using hn) (by rw [hold c (Ne.symm hdc)];exact hc) (fun j hj=>by
    have new:d<n→(z.put (some d) .und).opd (.tmp d)= .und:=fun hlt=>by
     simp [FS.opd,FS.put,au,bh (show d<z.t.length from hn ▸ hlt)]
    cases hb:Nat.blt d n with
    |false=>
     simp only [hb,ag] at hj
     by_cases hjd:j=d
     ·subst hjd
      by_cases hlt:j<z.t.length
      ·exact new (hn ▸ hlt)
      ·have:=hds j hj
       simp [FS.opd,au,bE (Nat.le_of_not_lt hlt)] at this
     ·rw [hold j hjd]
      exact hds j hj
    |true=>
     simp only [hb,ai] at hj
     have hlt:d<n:=wM hb
     by_cases hjd:j=d
     ·subst hjd
      exact new hlt
     ·rw [hold j hjd]
      exact hds j ((aA.1 hj).resolve_left hjd))
   simp only [z7,hd]
   exact ⟨i1,by simp [i2,Ne.symm hdc]⟩
structure Found (C:Ctx) (call:C.Sem) (pu:Bool) (l0:List Dop) (s:St) (T:List TS) (s':St):Prop where
 x:T.map TS.x=l0
 steps:k8 C call T s.F=some s'.F
 len:s'.t.length=s.t.length
 keep: ∀ c b,c∉z7 l0→zu s (.tmp c)=some b→zu s' (.tmp c)=some b
 pure:pu=true→ ∀ M D,(∀ i∈jQ l0,i∈M)→(∀ d∈z7 l0,d∈D)→(s'.F.forgetAll M).kill D=(s.F.forgetAll M).kill D
theorem yiZ: ∀ (n:Nat) (pu:Bool) (l0:List Dop) (ctx:List (Nat×Bool)) {R:Type} (s:St) (k:St→Option R) (r:R),vU C call pu n (l0.map (Zw ctx)) s k=some r→(∀ p∈ctx,zu s (.tmp p.1)=some p.2∧p.1∉z7 l0)→
  ∃ T s',Found C call pu l0 s T s'∧k s'=some r:=by
 intro n
 induction n with
 |zero=>
  intro pu l0 ctx R s k r h hctx
  cases l0 with
  |nil=>exact ⟨[],s,⟨rfl,rfl,rfl,fun _ _ _ h=>h,fun _ _ _ _ _=>rfl⟩,h⟩
  |cons x l0=>simp [vU] at h
 |succ n ih=>
  intro pu l0 ctx R s k r h hctx
  cases l0 with
  |nil=>exact ⟨[],s,⟨rfl,rfl,rfl,fun _ _ _ h=>h,fun _ _ _ _ _=>rfl⟩,h⟩
  |cons x0 r0=>
   rw [bB,vU] at h
   cases hg:(Zw ctx x0).g with
   |none=>
    simp only [hg] at h
    have hmet:=yny (fun p hp=>(hctx p hp).1) hg
    have key: ∃ e,jb C call (Nat.beq x0.hn 2) (Nat.beq x0.hn 3) x0.o s.opd (x0.see (yF s.o)) some=some e∧x0.ok (x0.see (yF s.o)) e=true∧(pu=true→vT e.sets=true)∧vU C call pu n (r0.map (Zw ctx)) (s.apply x0.o.dst e) k=some r:=by
     cases pu with
     |true=>
      simp only [ai,yJQ,y43,ygx,yd3,ygy] at h
      rw [y7w] at h
      cases he:jb C call (Nat.beq x0.hn 2) (Nat.beq x0.hn 3) x0.o s.opd (x0.see (yF s.o)) some with
      |none=>simp [he] at h
      |some e=>
       simp only [he,aa] at h
       cases hok:vT e.sets&&x0.ok (x0.see (yF s.o)) e with
       |false=>simp [hok] at h
       |true=>
        simp only [hok,ai] at h
        simp only [al] at hok
        exact ⟨e,rfl,hok.2,fun _=>hok.1,h⟩
     |false=>
      simp only [ag,yJP,y43,ygx,yd3,ygy] at h
      rw [y7w] at h
      cases he:jb C call (Nat.beq x0.hn 2) (Nat.beq x0.hn 3) x0.o s.opd (x0.see (yF s.o)) some with
      |none=>simp [he] at h
      |some e=>
       simp only [he,aa] at h
       cases hok:x0.ok (x0.see (yF s.o)) e with
       |false=>simp [hok] at h
       |true=>
        simp only [hok,ai] at h
        exact ⟨e,rfl,hok,fun hp=>(by cases hp),h⟩
    obtain ⟨e,he,hok,hnil,h'⟩:=key
    have hd0: ∀ c,c∉z7 (x0::r0)→x0.o.dst≠some c∧c∉z7 r0:=fun c hc=>by
     simp only [z7] at hc
     split at hc
     ·rename_i d hd
      simp only [aA,not_or] at hc
      exact ⟨fun h=>hc.1 (by rw [hd] at h;injection h with h;exact h.symm),hc.2⟩
     ·rename_i hd
      exact ⟨fun h=>(by rw [hd] at h;cases h),hc⟩
    obtain ⟨T,s',hf,hk⟩:=ih pu r0 ctx (s.apply x0.o.dst e) k r h' (fun p hp=>⟨y9d (hctx p hp).1 e (hd0 _ (hctx p hp).2).1,(hd0 _ (hctx p hp).2).2⟩)
    refine ⟨.run x0::T,s',⟨by simp [TS.x,hf.x],?_,hf.len.trans (yiY s _ e),fun c b hc hb=>hf.keep c b (hd0 c hc).2 (y9d hb e (hd0 c hc).1),fun hp M D hM hD=> ?_⟩,hk⟩
    ·have:vY C call (.run x0) s.F=some (s.apply x0.o.dst e).F:=by
      simp only [vY,hmet,aB,ylx]
      rw [show s.F.lk=yF s.o from rfl,he,aa,af hok,yfh]
     rw [k8,this,aa]
     exact hf.steps
    ·have hsub:=hf.pure hp M D (fun i hi=>hM i (by simp [jQ,hi])) (fun d hd=>hD d (by simp only [z7];split<;>simp [hd]))
     rw [hsub,yfh]
     refine FS.wipe_apply (hnil hp) (fun i hi=>hM i ?_) ?_
     ·have hs:ynq (zp e.adds) x0.mine=true:=by
       unfold Dop.ok at hok
       simp only [al] at hok
       exact hok.1.2
      have: ∀ (X Y:List Nat),ynq X Y=true→ ∀ i∈X,i∈Y:=by
       intro X
       induction X with
       |nil=>intro Y _ i hi;simp at hi
       |cons j X ihX=>
        intro Y h i hi
        simp only [ynq,al] at h
        rcases aA.1 hi with rfl|hi
        ·exact JE.1 h.1
        ·exact ihX Y h.2 i hi
      simp [jQ,this _ _ hs i hi]
     ·cases hd:x0.o.dst with
      |none=>trivial
      |some d=>exact hD d (by simp [z7,hd])
   |some p=>
    obtain ⟨c,want⟩:=p
    simp only [hg] at h
    cases hv:zu s (.tmp c) with
    |none=>simp [hv] at h
    |some v=>
     cases hsp:VL c [] (Zw ctx x0::r0.map (Zw ctx)) with
     |none=>simp [hv,hsp] at h
     |some q=>
      obtain ⟨grp,p,a,b,rest⟩:=q
      simp only [hv,hsp] at h
      obtain ⟨hsplit,hop,hpg⟩:=y3E c _ _ _ _ _ _ _ hsp
      rw [List.reverse_nil,aT,← bB] at hsplit
      obtain ⟨grp0,l1,hl0,rfl,hl1⟩:=List.map_eq_append_iff.1 hsplit
      obtain ⟨p0,rest0,rfl,rfl,rfl⟩:=List.map_eq_cons_iff.1 hl1
      cases hau:y00 s.t.length c want [] (grp0.map (Zw ctx)) with
      |false=>simp [hau] at h
      |true=>
       simp only [hau,ai,y5Z,y4I,y43,y9c] at h
       rw [hl0]
       rw [hl0] at hctx
       have hopd:s.opd (.tmp c)= .val .bool v:=by
        have:=y6K.1 hv
        simp [St.opd,this]
       have hcD:c∉z7 grp0:=by
        have: ∀ (ds:List Nat) (l:List Dop),y00 s.t.length c want ds (l.map (Zw ctx))=true→c∉z7 l:=by
         intro ds l
         induction l generalizing ds with
         |nil=>intro _;simp [z7]
         |cons y l ihl=>
          intro h
          simp only [bB,y00,al,y43] at h
          cases hd:y.o.dst with
          |none=>
           simp only [hd] at h
           simp only [z7,hd]
           exact ihl _ h.2
          |some d=>
           simp only [hd,al,bd] at h
           simp only [z7,hd,aA,not_or]
           refine ⟨fun e=> ?_,ihl _ h.2.2⟩
           rw [e,yp] at h
           exact absurd h.2.1 (by simp)
        exact this [] grp0 hau
       have hin: ∀ d,d∉z7 (grp0++p0::rest0)→d∉z7 grp0∧p0.o.dst≠some d∧d∉z7 rest0:=fun d hd=>by
        rw [Ki,aF,not_or] at hd
        refine ⟨hd.1,?_⟩
        have:=hd.2
        simp only [z7] at this
        split at this
        ·rename_i e he
         simp only [aA,not_or] at this
         exact ⟨fun h=>this.1 (by rw [he] at h;injection h with h;exact h.symm),this.2⟩
        ·rename_i he
         exact ⟨fun h=>(by rw [he] at h;cases h),this⟩
       have hmine:jQ (grp0++p0::rest0)=jQ grp0++(p0.mine++jQ rest0):=by rw [y3D];rfl
       have hpD: ∀ D:List Nat,(∀ d∈z7 (grp0++p0::rest0),d∈D)→inD D p0.o.dst:=fun D hD=>by
        cases hd:p0.o.dst with
        |none=>trivial
        |some d=>exact hD d (by rw [Ki];simp [z7,hd])
       rw [y43] at hop
       have join: ∀ (M:List Nat) (T1:List TS) (z1:FS) (u:Bool) (s2:St),(∀ i∈M,i∈jQ grp0)→T1.map TS.x=grp0→k8 C call T1 s.F=some z1→met z1 p0.g=true→z1.bool (.tmp c)=some v→z1.bool (if v then a else b)=some u→s2.F=((z1.forgetAll M).kill (z7 grp0)).put p0.o.dst (.val .bool u)→s2.t.length=s.t.length→
         (∀ c b,c∉z7 (grp0++p0::rest0)→zu s (.tmp c)=some b→zu s2 (.tmp c)=some b)→(pu=true→ ∀ M' D,(∀ i∈jQ grp0,i∈M')→(∀ d∈z7 grp0,d∈D)→(z1.forgetAll M').kill D=(s.F.forgetAll M').kill D)→
         vU C call pu n (rest0.map (Zw ctx)) s2 k=some r→ ∃ T s',Found C call pu (grp0++p0::rest0) s T s'∧k s'=some r:=by
        intro M T1 z1 u s2 hM hx hst hm hbc hbu hs2 hlen hkeep hpure hev
        obtain ⟨T,s',hf,hk⟩:=ih pu rest0 ctx s2 k r hev (fun q hq=>⟨hkeep _ _ (hctx q hq).2 (hctx q hq).1,(hin _ (hctx q hq).2).2.2⟩)
        refine ⟨T1++ .pick p0 M (z7 grp0)::T,s',⟨by simp [hx,TS.x,hf.x],?_,hf.len.trans hlen,fun c' b' hc' hb'=>hf.keep c' b' (hin c' hc').2.2 (hkeep c' b' hc' hb'),fun hp M' D hM' hD=> ?_⟩,hk⟩
        ·rw [y4H,hst,aa,k8]
         have:vY C call (.pick p0 M (z7 grp0)) z1=some s2.F:=by
          simp only [vY,hm,aB,hop,hbc,hbu,aa]
          rw [hs2]
         rw [this,aa]
         exact hf.steps
        ·have hD1: ∀ d∈z7 grp0,d∈D:=fun d hd=>hD d (by rw [Ki];simp [hd])
         rw [hf.pure hp M' D (fun i hi=>hM' i (by rw [hmine];simp [hi])) (fun d hd=>hD d (by rw [Ki];simp only [z7];split<;>simp [hd])),hs2,FS.wipe_put (hpD D hD),FS.wipe_kill hD1,FS.wipe_forgetAll (fun i hi=>hM' i (by rw [hmine];simp [hM i hi]))]
         exact hpure hp M' D (fun i hi=>hM' i (by rw [hmine];simp [hi])) hD1
       have hctx1: ∀ p∈(c,v)::ctx,zu s (.tmp p.1)=some p.2∧p.1∉z7 grp0:=fun p hp=>by
        rcases aA.1 hp with rfl|hp
        ·exact ⟨hv,hcD⟩
        ·exact ⟨(hctx p hp).1,(hin _ (hctx p hp).2).1⟩
       have hlen2: ∀ (M:List Nat) (s1:St) (u:Bool),s1.t.length=s.t.length→((YC (s1.forgetAll M) (z7 grp0)).put p0.o.dst (.val .bool u)).t.length=s.t.length:=fun M s1 u h=>by rw [yfj,ygz,y4J,h]
       have hF2: ∀ (M:List Nat) (s1:St) (u:Bool),((YC (s1.forgetAll M) (z7 grp0)).put p0.o.dst (.val .bool u)).F=((s1.F.forgetAll M).kill (z7 grp0)).put p0.o.dst (.val .bool u):=fun M s1 u=>by rw [yiV,yiW,y1r]
       have hkeep2: ∀ (M:List Nat) (s1:St) (u:Bool),(∀ c b,c∉z7 grp0→zu s (.tmp c)=some b→zu s1 (.tmp c)=some b)→ ∀ c b,c∉z7 (grp0++p0::rest0)→zu s (.tmp c)=some b→zu ((YC (s1.forgetAll M) (z7 grp0)).put p0.o.dst (.val .bool u)) (.tmp c)=some b:=fun M s1 u h c' b' hc' hb'=>
        y9X (yd4 _ (y3F M (h c' b' (hin c' hc').1 hb')) (hin c' hc').1) (hin c' hc').2.1
       have meet: ∀ (M:List Nat) (pu1:Bool) (T1:List TS) (s1 s2:St) (u:Bool),(∀ i∈M,i∈jQ grp0)→(pu=true→pu1=true)→Found C call pu1 grp0 s T1 s1→zu s1 (if v then a else b)=some u→s2.F=((s1.F.forgetAll M).kill (z7 grp0)).put p0.o.dst (.val .bool u)→s2.t.length=s.t.length→(∀ c b,c∉z7 (grp0++p0::rest0)→zu s (.tmp c)=some b→zu s2 (.tmp c)=some b)→
         vU C call pu n (rest0.map (Zw ctx)) s2 k=some r→ ∃ T s',Found C call pu (grp0++p0::rest0) s T s'∧k s'=some r:=by
        intro M pu1 T1 s1 s2 u hM hpp hf hbu hs2 hl2 hk2 hev
        refine join M T1 s1.F u s2 hM hf.x hf.steps (yny (fun p hp=>hf.keep _ _ (hin _ (hctx p hp).2).1 (hctx p hp).1) hpg) (by rw [y7E];exact hf.keep _ _ hcD hv) (by rw [y7E];exact hbu) hs2 hl2 hk2 (fun hp M' D hM' hD=>hf.pure (hpp hp) M' D hM' hD) hev
       have miss: ∀ (M:List Nat) (u:Bool),v≠want→(∀ i∈M,i∈jQ grp0)→zu (YC s (z7 grp0)) (if v then a else b)=some u→vU C call pu n (rest0.map (Zw ctx)) ((YC (s.forgetAll M) (z7 grp0)).put p0.o.dst (.val .bool u)) k=some r→ ∃ T s',Found C call pu (grp0++p0::rest0) s T s'∧k s'=some r:=by
        intro M u hvw hM hbu hev
        obtain ⟨hs,_⟩:=yE9 (C:=C) (call:=call) hvw ctx grp0 [] s.F hau rfl (by rw [ylx];exact hopd) (by simp)
        obtain ⟨hn,hb0⟩:=ylz hbu
        have hbk: ∀ c' b',c'∉z7 grp0→zu s (.tmp c')=some b'→(s.F.undAll (z7 grp0)).bool (.tmp c')=some b':=fun c' b' hc' hb'=>by
         rw [FS.bool_undAll _ _ (fun j hj e=>hc' (by injection e with e;rw [e];exact hj)),y7E]
         exact hb'
        refine join M (grp0.map TS.skip) (s.F.undAll (z7 grp0)) u _ hM (by simp [List.map_map,Function.comp_def,TS.x]) hs ?_ (hbk c v hcD hv) (by rw [FS.bool_undAll _ _ hn,y7E];exact hb0) ?_ (hlen2 M s u rfl) (hkeep2 M s u fun _ _ _ h=>h) (fun hp M' D hM' hD=>FS.wipe_und _ _ hD) hev
        ·rcases y9b hpg with h|⟨q,hq,h⟩
         ·rw [h]
          rfl
         ·rw [h]
          have:=hbk q.1 q.2 (hin _ (hctx q hq).2).1 (hctx q hq).1
          simp [met,this]
        ·rw [hF2,FS.wipe_und _ _ (fun d hd=>hd)]
       have sets: ∀ (x y:Operand),(v=want→(if v then a else b)=x)→(v≠want→(if v then a else b)=y)→(bif v==want then vU C call pu n (grp0.map (Zw ((c,want)::ctx))) s fun s1=>match zu s1 x with
          |some u=>vU C call pu n (rest0.map (Zw ctx)) ((YC s1 (z7 grp0)).put p0.o.dst (.val .bool u)) k
          |none=>none
         else match zu (YC s (z7 grp0)) y with
          |some u=>vU C call pu n (rest0.map (Zw ctx)) ((YC s (z7 grp0)).put p0.o.dst (.val .bool u)) k
          |none=>none)=some r→ ∃ T s',Found C call pu (grp0++p0::rest0) s T s'∧k s'=some r:=by
        intro x y hx hy h
        by_cases hvw:v=want
        ·subst hvw
         simp only [bV,ai] at h
         obtain ⟨T1,s1,hf,hk⟩:=ih pu grp0 ((c,v)::ctx) s _ r h hctx1
         cases hbu:zu s1 x with
         |none=>simp [hbu] at hk
         |some u=>
          simp only [hbu] at hk
          exact meet [] pu T1 s1 _ u (by simp) id hf (by rw [hx rfl];exact hbu) (hF2 [] s1 u) (hlen2 [] s1 u hf.len) (hkeep2 [] s1 u hf.keep) hk
        ·have hb:(v==want)=false:=by simpa using hvw
         simp only [hb,ag] at h
         cases hbu:zu (YC s (z7 grp0)) y with
         |none=>simp [hbu] at h
         |some u=>
          simp only [hbu] at h
          exact miss [] u hvw (by simp) (by rw [hy hvw];exact hbu) h
       have pure: ∀ (x y:Operand),(v=want→(if v then a else b)=x)→(v≠want→(if v then a else b)=y)→((bif v==want then vU C call true n (grp0.map (Zw ((c,want)::ctx))) s fun s1=>zu s1 x else zu (YC s (z7 grp0)) y).bind fun u=>
          vU C call pu n (rest0.map (Zw ctx)) ((YC (s.forgetAll (jQ grp0)) (z7 grp0)).put p0.o.dst (.val .bool u)) k)=some r→ ∃ T s',Found C call pu (grp0++p0::rest0) s T s'∧k s'=some r:=by
        intro x y hx hy h
        by_cases hvw:v=want
        ·subst hvw
         simp only [bV,ai] at h
         cases hu:(vU C call true n (grp0.map (Zw ((c,v)::ctx))) s fun s1=>zu s1 x) with
         |none=>
          rw [hu] at h
          cases h
         |some u=>
          rw [hu,aa] at h
          obtain ⟨T1,s1,hf,hk⟩:=ih true grp0 ((c,v)::ctx) s _ u hu hctx1
          exact meet (jQ grp0) true T1 s1 _ u (fun _ h=>h) (fun _=>rfl) hf (by rw [hx rfl];exact hk) (by rw [hF2,hf.pure rfl _ _ (fun _ h=>h) (fun _ h=>h)]) (hlen2 _ s u rfl) (hkeep2 _ s u fun _ _ _ h=>h) h
        ·have hb:(v==want)=false:=by simpa using hvw
         simp only [hb,ag] at h
         cases hbu:zu (YC s (z7 grp0)) y with
         |none=>
          rw [hbu] at h
          cases h
         |some u=>
          rw [hbu,aa] at h
          exact miss _ u hvw (fun _ h=>h) (by rw [hy hvw];exact hbu) h
       cases hset:(grp0.map (Zw ctx)).any fun y=>yuc C y.o|| !Nat.beq y.hn 0 with
       |true=>
        simp only [hset,ai] at h
        cases want with
        |true=>exact sets a b (fun e=>by rw [e];rfl) (fun e=>by cases v<;>simp at e ⊢) (by cases v<;>exact h)
        |false=>exact sets b a (fun e=>by rw [e];rfl) (fun e=>by cases v<;>simp at e ⊢) (by cases v<;>exact h)
       |false=>
        simp only [hset,ag] at h
        cases want with
        |true=>exact pure a b (fun e=>by rw [e];rfl) (fun e=>by cases v<;>simp at e ⊢) (by cases v<;>exact h)
        |false=>exact pure b a (fun e=>by rw [e];rfl) (fun e=>by cases v<;>simp at e ⊢) (by cases v<;>exact h)
end
end Go.Proofs.YtekbnpmmjciloaaGreat.R
