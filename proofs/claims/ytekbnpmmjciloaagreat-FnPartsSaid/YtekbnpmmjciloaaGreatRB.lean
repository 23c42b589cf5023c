/- The evaluator and its soundness, a part. No condition. -/
import Derived.Test.YtekbnpmmjciloaaGreatRA
import Derived.Deep.Slices
import Derived.ChangeArms
import Derived.ChangeShapes
import Derived.WideShapes
set_option linter.all false
namespace Go.Proofs.YtekbnpmmjciloaaGreat.R
open Go.RowKit
section
variable {P:Program} {C:Ctx} {w0:World} {yu:Nat→Prop} {H0:Base} {s:St} {a:Act} {w:World} {G:Gh}
theorem oP {i d:Nat} (hne:i≠d) {x:Ob} (hx:x.forget d=x): ∀ l:List (Nat×Ob),YJ d (Wg l i x)=Wg (YJ d l) i x
 |[]=>rfl
 |(j,y)::l=>by
  have ih:=oP hne hx l;by_cases hj:j=i
  ·subst hj;simp [Wg,YJ,yH,yO hne,hx]
  ·by_cases hd:j=d
   ·subst hd;simp [Wg,YJ,yH,yO hj,ih]
   ·simp [Wg,YJ,yO hj,yO hd,ih]
theorem Uo (s:St) {q d:Nat} (hne:q≠d) (ob:Ob) {x:Ob} (hx:x.forget d=x):(s.set q x).make d ob=(s.make d ob).set q x:=by simp [St.set,St.make,oP hne hx,Wg,yO (fun e:d=q=>hne e.symm)]
def mute:List (Nat×Ob)→Prop
 |[]=>True
 |(_,x)::r=>(∀ d,x.forget d=x)∧mute r
theorem oQ: ∀ (X:List (Nat×Ob)) (s:St) (d:Nat) (ob:Ob),mute X→d∉yN X→(s.yB X).make d ob=(s.make d ob).yB X
 |[],_,_,_,_,_=>rfl
 |(q,x)::X,s,d,ob,hm,hd=>by simp only [yN,yR,not_or] at hd;rw [St.yB,St.yB,oQ X _ d ob hm.2 hd.2,Uo s (fun e=>hd.1 e.symm) ob (hm.1 d)]
theorem w8 (X:List (Nat×Ob)) (hm:mute X): ∀ (Y:List (Nat×Ob)) (s:St),(∀ d∈yN Y,d∉yN X)→(s.yB X).makeAll Y=(s.makeAll Y).yB X
 |[],_,_=>rfl
 |(d,ob)::Y,s,h=>by rw [St.makeAll,St.makeAll,oQ X s d ob hm (h d (by simp [yN])),w8 X hm Y _ (fun e he=>h e (by simp [yN,he]))]
theorem gp (lk:Lk): ∀ is:List Nat,mute (settles lk is)
 |[]=>trivial
 |i::is=>by
  unfold settles;split
  ·exact ⟨fun _=>rfl,gp lk is⟩
  ·exact gp lk is
theorem tG: ∀ gs:List Nat,mute (jK gs)
 |[]=>trivial
 |i::gs=>⟨fun _=>rfl,tG gs⟩
theorem tH: ∀ gs:List Nat,yN (jK gs)=gs
 |[]=>rfl
 |i::gs=>by simp [jK,yN,tH gs]
theorem kU (lk:Lk): ∀ is:List Nat,∀ i∈yN (settles lk is),i∈is
 |[],i,h=>h
 |j::is,i,h=>by
  unfold settles at h;split at h
  ·simp only [yN,yR] at h;rcases h with rfl|h
   ·simp
   ·exact Er _ (kU lk is i h)
  ·exact Er _ (kU lk is i h)
theorem Rel.congr (h:Rel P w0 yu H0 s a w G) {s':St} (ht:s'.t=s.t) (ho: ∀ i,look s'.o i=look s.o i):Rel P w0 yu H0 s' a w G:=
 {h with defers:=h.defers,len:=by rw [ht];exact h.len,slots:=fun i x hx=>h.slots i x (by rw [← ht];exact hx),objs:=fun i ob hi=>h.objs i ob (by rw [← ho];exact hi),away:=fun i ob k hi hb=>h.away i ob k (by rw [← ho];exact hi) hb,apart:=fun i j oi oj k hi hj=>h.apart i j oi oj k (by rw [← ho];exact hi) (by rw [← ho];exact hj),pin:=fun i ob b hi hp=>h.pin i ob b (by rw [← ho];exact hi) hp}
theorem Rel.backs: ∀ (ps:List PK) (bs:List (Nat×Nat)) (l:List A) (vs:List Value) {s:St},Rel P w0 yu H0 s a w G→BackAt w ps (bs.map fun p=>G.g p.1) vs→RL G l vs→
  (bs.map fun p=>p.2)=ps.filterMap PK.back→
  (∀ p∈bs,G.H (G.g p.1).1=none∧(w0.heap.size≤(G.g p.1).1∨yu (G.g p.1).1)∧ ∀ (j:Nat) (oj:Ob),j≠p.1→look s.o j=some oj→ ¬ zS G j oj (G.g p.1).1)→bs.Pairwise (fun p q=>(G.g p.1).1≠(G.g q.1).1)→
  Rel P w0 yu H0 (s.yB (fh bs l)) a w G:=by
 intro ps;induction ps with
 |nil=>
  intro bs l vs s h hb hr hlen hf hp;have:bs=[]:=by simpa using hlen
  subst this;exact h
 |cons p ps ih=>
  intro bs l vs s h hb hr hlen hf hp;cases p with
  |v agg ts os=>exact ih bs l vs h hb hr hlen hf hp
  |k f=>exact ih bs l vs h hb hr hlen hf hp
  |p wr ts os=>
   obtain ⟨b,off,pb',vs1,vs',hpb,rfl,hl1,hc,hb'⟩:=hb;cases bs with
   |nil=>simp at hpb
   |cons q bs=>
    obtain ⟨q,n⟩:=q;simp only [J7,List.cons.injEq,List.filterMap_cons,PK.back] at hpb hlen;obtain ⟨hq,rfl⟩:=hpb;obtain ⟨rfl,hlen⟩:=hlen;obtain ⟨h1,h2⟩:=Ag hr hl1;have hq1:(G.g q).1=b:=by rw [hq]
    have hq2:(G.g q).2=off:=by rw [hq]
    obtain ⟨f1,f2,f3⟩:=hf (q,ts.length) (by simp);have hp':=aH.1 hp;have hset:=h.set (i:=q) (ob:= .box (l.take ts.length)) ⟨by rw [hq1];exact hc.1,fun j x hx=>by
     obtain ⟨v,hv,hrv⟩:=h1.get j x hx;obtain ⟨c1,c2,c3⟩:=hc.2 j v hv;rw [hq1,hq2];exact ⟨c1,v,c2,c3,hrv⟩⟩ (fun k hk=>by
     have hk':(G.g q).1=k:=by simpa [zS] using hk
     subst hk';exact ⟨f1,f2,f3⟩)
    refine ih bs (l.drop ts.length) vs' hset hb' h2 hlen (fun p hpm=> ?_) hp'.2;obtain ⟨g1,g2,g3⟩:=hf p (by simp [hpm]);refine ⟨g1,g2,fun j oj hj hl=> ?_⟩;have hl':look (Wg s.o q (.box (l.take ts.length))) j=some oj:=hl;rw [Wh] at hl';by_cases hjq:j=q
    ·subst hjq;simp only [yo] at hl';obtain ⟨_,_,rfl⟩:=Ys.1 hl';intro hbk;have hbk':(G.g j).1=(G.g p.1).1:=by simpa [zS] using hbk
     exact hp'.1 p hpm hbk'
    ·simp only [hjq,zP] at hl';exact g3 j oj hj hl'
theorem GK {lk:Lk}: ∀ (ps:List PK) (as l:List A) (bs:List (Nat×Nat)),gather lk ps as=some (l,bs)→(bs.map fun p=>p.2)=ps.filterMap PK.back:=by
 intro ps;induction ps with
 |nil=>
  intro as l bs h;cases as with
  |nil=>simp only [gather,z8,jI] at h;rw [← h.2];rfl
  |cons _ _=>simp [gather] at h
 |cons p ps ih=>
  intro as l bs h;cases as with
  |nil=>cases p<;>simp [gather] at h
  |cons x as=>
   cases p with
   |v agg ts os=>
    simp only [gather] at h;cases hc:Jk agg x with
    |none=>simp [hc] at h
    |some c=>
     cases hg:gather lk ps as with
     |none=>simp [hc,hg] at h
     |some q=>
      simp only [hc,hg] at h;cases hb:Nat.beq c.length ts.length with
      |false=>simp [hb] at h
      |true=>simp only [hb,yg,z8,jI] at h;rw [← h.2];exact ih as q.1 q.2 hg
   |k f=>
    simp only [gather] at h;cases x with
    |fn f'=>
     simp only at h;cases hb:Nat.beq f f' with
     |false=>simp [hb] at h
     |true=>simp only [hb,yg] at h;exact ih as l bs h
    |_=>simp at h
   |p wr ts os=>
    simp only [gather] at h;cases hu:c8 wr x with
    |none=>simp [hu] at h
    |some b=>
     simp only [hu] at h;cases hb:lk b with
     |none=>simp [hb] at h
     |some ob=>
      cases ob with
      |box cs=>
       simp only [hb] at h;cases hg:gather lk ps as with
       |none=>simp [hg] at h
       |some q=>
        simp only [hg] at h;cases hbb:Nat.beq ts.length cs.length with
        |false=>simp [hbb] at h
        |true=>simp only [hbb,yg,z8,jI] at h;rw [← h.2];simp [ih as q.1 q.2 hg,PK.back]
      |_=>simp [hb] at h
theorem Ah: ∀ (X:List (Nat×Ob)) (s:St),(s.yB X).t=s.t
 |[],_=>rfl
 |(i,x)::X,s=>Ah X (s.set i x)
theorem CY: ∀ (X:List (Nat×Ob)) (i:Nat),i∉yN X→look X i=none
 |[],_,_=>rfl
 |(j,x)::X,i,h=>by simp only [yN,yR,not_or] at h;simp only [look,yO (fun e:j=i=>h.1 e.symm),yi];exact CY X i h.2
theorem qY: ∀ (X:List (Nat×Ob)) (s:St) (i:Nat),(look (s.yB X).o i).isSome=(look s.o i).isSome
 |[],_,_=>rfl
 |(j,x)::X,s,i=>by
  rw [St.yB,qY X];show (look (Wg s.o j x) i).isSome=_;rw [Wh];split
  ·rename_i h;subst h;simp
  ·rfl
theorem Vv: ∀ (X:List (Nat×Ob)) (s:St) (i:Nat),(yN X).Nodup→look (s.yB X).o i=match look X i with
  |some x=>(look s.o i).map (fun _=>x)
  |none=>look s.o i
 |[],_,_,_=>rfl
 |(j,x)::X,s,i,h=>by
  have hn:=oB.1 h;have hs:look (s.set j x).o i=if i=j then (look s.o j).map (fun _=>x) else look s.o i:=Wh j i x s.o
  rw [St.yB,Vv X _ i hn.2,hs];by_cases hj:j=i
  ·subst hj;rw [CY X j hn.1];simp [look,yH]
  ·simp only [look,yO hj,yi,show ¬ i=j from fun e=>hj e.symm,zP]
theorem nW: ∀ (bs:List (Nat×Nat)) (l:List A),yN (fh bs l)=yN bs
 |[],_=>rfl
 |(b,n)::bs,l=>by simp [fh,yN,nW bs]
theorem kp {α:Type}: ∀ bs:List (Nat×α),yN bs=bs.map (·.1)
 |[]=>rfl
 |(b,n)::bs=>by simp [yN,kp bs]
theorem Sp {G:Gh} {as:List A} {cs:List Value}:RL G as cs→RA G (match as with
  |[a]=>a
  |as=> .oF as) (resVal cs):=by
 intro h;cases as with
 |nil=>
  cases cs with
  |nil=>exact ⟨[],rfl,trivial⟩
  |cons _ _=>exact h.elim
 |cons x as=>
  cases cs with
  |nil=>exact h.elim
  |cons v cs=>
   cases as with
   |nil=>
    cases cs with
    |nil=>exact h.1
    |cons _ _=>exact h.2.elim
   |cons y as=>
    cases cs with
    |nil=>exact h.2.elim
    |cons u cs=>exact ⟨v::u::cs,rfl,h⟩
theorem Sq {H H2:Hp}: ∀ (ts:List Ty) (x:Elts ts) (f:Nat→Option Value),flats ts=true→RdE H ts x f→RdE H2 ts x f:=by
 have one: ∀ (t:Ty) (x:El t) (v:Value),t.flat=true→RdT H t x v→RdT H2 t x v:=by intro t x v hf hr;cases t<;>first|exact hr|simp [Ty.flat] at hf
 intro ts;induction ts with
 |nil=>intro _ _ _ _;trivial
 |cons t ts ih=>
  intro x f hf hr;simp only [flats,zzal10] at hf;cases ts with
  |nil=>obtain ⟨v,hv,hr⟩:=hr;exact ⟨v,hv,one t x v hf.1 hr⟩
  |cons u r=>obtain ⟨⟨v,hv,hr⟩,hs⟩:=hr;exact ⟨⟨v,hv,one t x.1 v hf.1 hr⟩,ih x.2 _ hf.2 hs⟩
theorem Ai {H H2:Hp} {w:World} {t:Ty} {own:Bool} (hf:(t.flat||(own&&(match t with
  | .sl _ ts=>flats ts
  |_=>false)))=true) {x:El t} {v:Value} {b:Nat→Prop} (h:CellR H w t own x v b):CellR H2 w t own x v b:=by
 cases t with
 |sl e ts=>simp only [Ty.flat,oD,zzal10] at hf;obtain ⟨rfl,hf⟩:=hf;obtain ⟨h1,h2,cells,h3,h4,h5⟩:=h;exact ⟨h1,h2,cells,h3,h4,fun j y hy=>Sq ts y _ hf (h5 j y hy)⟩
 |int _=>cases own<;>exact h
 |bool=>cases own<;>exact h
 |str=>cases own<;>exact h
theorem GL {H H2:Hp} {w:World}: ∀ (ts:List Ty) (os:List Bool) (x:Elts ts) (vs:List Value) (bs:List (Nat→Prop)),xQ ts os=true→CellsR H w ts os x vs bs→CellsR H2 w ts os x vs bs:=by
 intro ts;induction ts with
 |nil=>intro os x vs bs _ h;exact h
 |cons t ts ih=>
  intro os x vs bs hf h;simp only [xQ,zzal10] at hf;cases ts with
  |nil=>obtain ⟨v,b,h1,h2,h3⟩:=h;exact ⟨v,b,h1,h2,Ai hf.1 h3⟩
  |cons u r=>obtain ⟨v,b,vs',bs',h1,h2,h3,h4⟩:=h;exact ⟨v,b,vs',bs',h1,h2,Ai hf.1 h3,ih _ _ _ _ hf.2 h4⟩
theorem Aj {H H2:Hp} (hH:H.le H2) {w:World} {t:Ty} {own:Bool} {x:El t} {v:Value} {b:Nat→Prop} (h:CellR H w t own x v b):CellR H2 w t own x v b:=by
 cases t with
 |sl e ts=>
  cases own with
  |true=>obtain ⟨h1,h2,cells,h3,h4,h5⟩:=h;exact ⟨h1,h2,cells,h3,h4,fun j y hy=>RdE.mono hH ts y _ _ (fun _ _ hv=>hv) (h5 j y hy)⟩
  |false=>exact ⟨h.1,RdT.mono hH _ _ _ h.2⟩
 |int _=>cases own<;>exact h
 |bool=>cases own<;>exact h
 |str=>cases own<;>exact h
theorem GM {H H2:Hp} (hH:H.le H2) {w:World}: ∀ (ts:List Ty) (os:List Bool) (x:Elts ts) (vs:List Value) (bs:List (Nat→Prop)),CellsR H w ts os x vs bs→CellsR H2 w ts os x vs bs:=by
 intro ts;induction ts with
 |nil=>intro os x vs bs h;exact h
 |cons t ts ih=>
  intro os x vs bs h;cases ts with
  |nil=>obtain ⟨v,b,h1,h2,h3⟩:=h;exact ⟨v,b,h1,h2,Aj hH h3⟩
  |cons u r=>obtain ⟨v,b,vs',bs',h1,h2,h3,h4⟩:=h;exact ⟨v,b,vs',bs',h1,h2,Aj hH h3,ih _ _ _ _ h4⟩
theorem Up (h1:Rel P w0 yu H0 s a w G) {bs:List (Nat×Nat)} {gs:List Nat} {oR:List (Nat→Prop)} (hgs:Given s G gs oR) (hbx: ∀ p∈bs,∃ cs,look s.o p.1=some (.box cs))
  {w':World} (hos:w'.os=w.os) (cQ:w'.tape=w.tape) (hout:w'.output=w.output) (hsz:w.heap.size≤w'.heap.size) (old: ∀ k,k<w.heap.size→ ¬ Lent oR (bs.map fun p=>G.g p.1) k→w'.heap[k]? =w.heap[k]?)
  {H2:Hp} (hle:G.H.le H2) (hin:H2.le (heapOf w')) (hnew: ∀ k ob,H2 k=some ob→G.H k=some ob∨w.heap.size≤k∨Lent oR (bs.map fun p=>G.g p.1) k)
  {ts:List Ty} {os:List Bool} {y:Elts ts} {vs':List Value} {bs':List (Nat→Prop)} (hc:CellsR H2 w' ts os y vs' bs') (ha:Apart bs') (hav: ∀ k,In bs' k→H2 k=none∧(w.heap.size≤k∨Lent oR (bs.map fun p=>G.g p.1) k))
  {n:Nat} (yeq:950≤n):
  ∃ G5,G5.H=H2∧Rel P w0 yu H0 ((s.yB (jK (gs++yN bs))).makeAll (zC false ts os y n).2) a w' G5∧RL G5 (zC false ts os y n).1 vs'∧(∀ j,j∉yN (zC false ts os y n).2→Same G G5 j)∧
   ∀ k,(w.heap.size≤k∨Lent oR (bs.map fun p=>G.g p.1) k∨ ∃ q ob,look s.o q=some ob∧zS G q ob k∧q∈gs++yN bs)→H2 k=none→ ¬ In bs' k→Free w0 yu ((s.yB (jK (gs++yN bs))).makeAll (zC false ts os y n).2) G5 k:=by
 have GN: ∀ k,Lent oR (bs.map fun p=>G.g p.1) k→G.H k=none∧(w0.heap.size≤k∨yu k)∧ ∃ q ob,look s.o q=some ob∧zS G q ob k∧q∈gs++yN bs:=by
  rintro k (hk|⟨p,hp,rfl⟩)
  ·obtain ⟨q,hq,ob,hl,hb'⟩:=hgs k hk;obtain ⟨a1,a2⟩:=h1.away q _ k hl hb';exact ⟨a1,a2,q,_,hl,hb',xP _ hq⟩
  ·obtain ⟨q,hq,rfl⟩:=eU.1 hp;obtain ⟨c,hl⟩:=hbx q hq;have hb':zS G q.1 (.box c) (G.g q.1).1:=rfl;obtain ⟨a1,a2⟩:=h1.away q.1 _ _ hl hb';exact ⟨a1,a2,q.1,_,hl,hb',g6 _ (by rw [kp];exact aG hq)⟩
 have Uq: ∀ k,(∃ q ob,look s.o q=some ob∧zS G q ob k∧q∈gs++yN bs)→ ∀ (j:Nat) (oj:Ob),look (s.yB (jK (gs++yN bs))).o j=some oj→ ¬ zS G j oj k:=by
  intro k hk j oj hj hb;obtain ⟨q,ob,hl,hb',hq⟩:=hk;rw [nU] at hj;split at hj
  ·obtain ⟨_,_,rfl⟩:=Ys.1 hj;simp [zS] at hb
  ·rename_i hjD;have:=h1.apart j q oj ob k hj hl hb hb';subst this;exact hjD hq
 have MG: ∀ k,Lent oR (bs.map fun p=>G.g p.1) k→ ∀ (j:Nat) (oj:Ob),look (s.yB (jK (gs++yN bs))).o j=some oj→ ¬ zS G j oj k:=fun k hk=>Uq k (GN k hk).2.2;have h3:=Rel.y5l (gs++yN bs) h1;have h4:=h3.heap hos cQ hout hsz (fun k hk=>by
  by_cases hl:Lent oR (bs.map fun p=>G.g p.1) k
  ·exact .inr ⟨(GN k hl).1,(GN k hl).2.1,MG k hl⟩
  ·exact .inl (old k hk hl))
 have h5:=h4.grow hle hin (fun j oj k hj hb=>by
  cases hH:H2 k with
  |none=>rfl
  |some ob=>
   rcases hnew k ob hH with h6|h6|h6
   ·rw [(h3.away j oj k hj hb).1] at h6;cases h6
   ·exact absurd ((h3.objs j oj hj).blk hb) (gf.2 h6)
   ·exact absurd hb (MG k h6 j oj hj)) (fun k ob hH=>by
  rcases hnew k ob hH with h6|h6|h6
  ·exact .inl h6
  ·exact .inr (.inl (YI h1.size h6))
  ·exact .inr (GN k h6).2.1)
 have hfr: ∀ k,(w.heap.size≤k∨Lent oR (bs.map fun p=>G.g p.1) k∨ ∃ q ob,look s.o q=some ob∧zS G q ob k∧q∈gs++yN bs)→H2 k=none→Free w0 yu (s.yB (jK (gs++yN bs))) {G with H:=H2} k:=by
  intro k hk hn;refine ⟨hn,?_,fun j oj hj hb=> ?_⟩
  ·rcases hk with hk|hk|⟨q,ob,hl,hb,_⟩
   ·exact .inl (YI h1.size hk)
   ·exact (GN k hk).2.1
   ·exact (h1.away q ob k hl hb).2
  ·rw [qW (G:=G) (G':= {G with H:=H2}) rfl rfl] at hb;rcases hk with hk|hk|hk
   ·exact absurd ((h3.objs j oj hj).blk hb) (gf.2 hk)
   ·exact MG k hk j oj hj hb
   ·exact Uq k hk j oj hj hb
 obtain ⟨G5,e1,e2,e3,e4,e5⟩:=nn false ts os y n vs' bs' _ _ yeq h5 (fun h=>by cases h) hc (fun _ k hk=>hfr k ((hav k hk).2.imp id .inl) (hav k hk).1) ha;exact ⟨G5,e1,e3,e4,fun j hj=>e2 j hj,fun k hk hn hb=>e5 k (hfr k hk hn) hb⟩
theorem GO (h1:Rel P w0 yu H0 s a w G) {bs:List (Nat×Nat)} {gs:List Nat} (hbx: ∀ p∈bs,∃ cs,look s.o p.1=some (.box cs)) (hnd:(yN bs).Nodup) {Y:List (Nat×Ob)} {w':World} {G6:Gh}
  (h:Rel P w0 yu H0 ((s.yB (jK (gs++yN bs))).makeAll Y) a w' G6) (hY: ∀ j∈yN Y,j∉gs∧j∉yN bs) (hg: ∀ p∈bs,G6.g p.1=G.g p.1) (hfr: ∀ p∈bs,Free w0 yu ((s.yB (jK (gs++yN bs))).makeAll Y) G6 (G.g p.1).1)
  {ps:List PK} {ii:List A} {rest:List Value} (hr:RL G6 ii rest) (hbk:BackAt w' ps (bs.map fun p=>G.g p.1) rest) (Ak:(bs.map fun p=>p.2)=ps.filterMap PK.back):
  Rel P w0 yu H0 ((s.makeAll Y).yB (jK gs++fh bs ii)) a w' G6:=by
 have hmap:(bs.map fun p=>G6.g p.1)=bs.map fun p=>G.g p.1:=Eu hg;have hpw:bs.Pairwise (fun p q=>p.1≠q.1):=by rw [kp] at hnd;exact uL.1 hnd
 have h6:=Rel.backs ps bs ii rest h (by rw [hmap];exact hbk) hr Ak (fun p hp=>by
  obtain ⟨i1,i2,i3⟩:=hfr p hp;rw [hg p hp];exact ⟨i1,i2,fun j oj _ hj=>i3 j oj hj⟩) (hpw.imp_of_mem fun {p q} hp hq hne he=>by
  rw [hg p hp,hg q hq] at he;obtain ⟨c1,l1⟩:=hbx p hp;obtain ⟨c2,l2⟩:=hbx q hq;exact hne (h1.apart p.1 q.1 _ _ (G.g p.1).1 l1 l2 rfl (by rw [he];rfl)))
 rw [w8 _ (tG _) _ _ (fun d hd=>by rw [tH,zB,not_or];exact hY d hd)] at h6;refine h6.congr (by simp only [Ah]) fun i=> ?_;have hnd':(yN (fh bs ii)).Nodup:=by rw [nW];exact hnd
 rw [St.Qx,Vv _ _ i hnd',Vv _ _ i hnd'];cases hB:look (fh bs ii) i with
 |some x=>have e:=qY (jK gs) (s.makeAll Y) i;have e':=qY (jK (gs++yN bs)) (s.makeAll Y) i;rw [← e'] at e;revert e;cases look ((s.makeAll Y).yB (jK gs)).o i<;>cases look ((s.makeAll Y).yB (jK (gs++yN bs))).o i<;>simp
 |none=>
  have hi:i∉yN bs:=fun hi=>by
   have hmem:i∈yN (fh bs ii):=by rw [nW];exact hi
   obtain ⟨x,hx⟩: ∃ x,look (fh bs ii) i=some x:=by
    clear hB h6;revert hmem;generalize fh bs ii=X;intro hmem;induction X with
    |nil=>simp [yN] at hmem
    |cons p X ih=>
     obtain ⟨j,x⟩:=p;by_cases hj:j=i
     ·exact ⟨x,by simp [look,hj,yH]⟩
     ·simp only [yN,yR] at hmem;obtain ⟨z,hz⟩:=ih (hmem.resolve_left fun e=>hj e.symm);exact ⟨z,by simp only [look,yO hj,yi,hz]⟩
   rw [hx] at hB;cases hB
  simp only [nU,zB,hi,Vr]
theorem St.jO: ∀ (X Y:List (Nat×Ob)) (s:St),s.makeAll (X++Y)=(s.makeAll X).makeAll Y
 |[],_,_=>rfl
 |(i,x)::X,Y,s=>St.jO X Y (s.make i x)
theorem Cu (tg:Bool): ∀ (ts:List Ty) (os:List Bool) (x:Elts ts) (n:Nat),∀ j∈Ya (zC tg ts os x n).1,j<n+ts.length:=by
 intro ts;induction ts with
 |nil=>intro os x n j hj;simp [zC,Ya] at hj
 |cons t ts ih=>
  intro os x n j hj;cases ts with
  |nil=>simp only [zC,Ya,lu] at hj;have:=mC tg t _ _ n j hj;simp only [yp];omega
  |cons u r=>
   have hj':j∈(jr tg t (os.headD false) x.1 n).1.ids++Ya (zC tg (u::r) os.tail x.2 (n+1)).1:=hj;rcases zB.1 hj' with h|h
   ·have:=mC tg t _ _ n j h;simp only [yp];omega
   ·have:=ih os.tail x.2 (n+1) j h;simp only [yp] at*;omega
theorem y34 {agg:Bool} {l:List A} {x:A} (h:Ez agg l=some x): ∀ j∈x.ids,j∈Ya l:=by
 intro j hj;cases agg with
 |true=>simp only [Ez,yg,z8] at h;subst h;simpa [A.ids] using hj
 |false=>
  cases l with
  |nil=>simp [Ez] at h
  |cons y l=>
   cases l with
   |nil=>simp only [Ez,yi,z8] at h;subst h;simpa [Ya] using hj
   |cons _ _=>simp [Ez] at h
theorem Al: ∀ (rs:List RK) (l as rest:List A),aL rs l=some (as,rest)→(∀ j∈Ya as,j∈Ya l)∧ ∀ j∈Ya rest,j∈Ya l
 |[],l,as,rest,h=>by simp only [aL,z8,jI] at h;obtain ⟨rfl,rfl⟩:=h;exact ⟨fun j hj=>by simp [Ya] at hj,fun _ h=>h⟩
 |r::rs,l,as,rest,h=>by
  simp only [aL] at h;split at h
  ·rename_i a ha;split at h
   ·rename_i as' l2 hs;simp only [z8,jI] at h;obtain ⟨rfl,rfl⟩:=h;obtain ⟨i1,i2⟩:=Al rs _ _ _ hs;refine ⟨fun j hj=> ?_,fun j hj=>qX _ _ j (i2 j hj)⟩;simp only [Ya,zB] at hj;rcases hj with hj|hj
    ·exact mD _ _ j (y34 ha j hj)
    ·exact qX _ _ j (i1 j hj)
   ·cases h
  ·cases h
theorem CZ (h1:Rel P w0 yu H0 s a w G) {bs:List (Nat×Nat)} {gs:List Nat} {oR:List (Nat→Prop)} (hgs:Given s G gs oR) (hbx: ∀ p∈bs,∃ cs,look s.o p.1=some (.box cs)) (hnd:(yN bs).Nodup)
  {w':World} (hos:w'.os=w.os) (cQ:w'.tape=w.tape) (hout:w'.output=w.output) (hsz:w.heap.size≤w'.heap.size) (old: ∀ k,k<w.heap.size→ ¬ Lent oR (bs.map fun p=>G.g p.1) k→w'.heap[k]? =w.heap[k]?)
  {H2:Hp} (hle:G.H.le H2) (hin:H2.le (heapOf w')) (hnew: ∀ k ob,H2 k=some ob→G.H k=some ob∨w.heap.size≤k∨Lent oR (bs.map fun p=>G.g p.1) k)
  {ts:List Ty} {os:List Bool} {y:Elts ts} {vs':List Value} {bs':List (Nat→Prop)} (hc:CellsR H2 w' ts os y vs' bs') (ha:Apart bs') (hav: ∀ k,In bs' k→H2 k=none∧(w.heap.size≤k∨Lent oR (bs.map fun p=>G.g p.1) k))
  (hpt: ∀ p∈bs,H2 (G.g p.1).1=none∧ ¬ In bs' (G.g p.1).1) {d:Nat} {sg:Sig} {nb:Option Nat} (hnb: ∀ k,nb=some k→H2 k=none∧(w.heap.size≤k∨Lent oR (bs.map fun p=>G.g p.1) k)∧ ¬ In bs' k∧ ∀ p∈bs.map (fun p=>G.g p.1),p.1≠k)
  {ex:List (Nat×Ob)} {x:A} {ii:List A} {cs rest:List Value} {v:Value} (hbv:uP sg d (zC false ts os y (1000*(d+1))).1=some (ex,x,ii)) (hex:isNil ex||Nat.ble ts.length 500) (hres:CX w' sg vs' cs rest v nb)
  (Sr: ∀ j∈yN ((zC false ts os y (1000*(d+1))).2++ex),j∉gs∧j∉yN bs) (sm:H0.pin (1000*(d+1)+500)=none)
  {ps:List PK} (hbk:BackAt w' ps (bs.map fun p=>G.g p.1) rest) (Ak:(bs.map fun p=>p.2)=ps.filterMap PK.back):
  ∃ G5,Rel P w0 yu H0 ((s.makeAll ((zC false ts os y (1000*(d+1))).2++ex)).yB (jK gs++fh bs ii)) a w' G5∧RA G5 x v:=by
 obtain ⟨G5,_,e3,e4,e2,e5⟩:=Up h1 hgs hbx hos cQ hout hsz old hle hin hnew hc ha hav (n:=1000*(d+1)) (by omega);have y5m: ∀ p∈bs,Lent oR (bs.map fun p=>G.g p.1) (G.g p.1).1:=fun p hp=> .inr ⟨_,aG hp,rfl⟩;unfold CX at hres;unfold uP at hbv;cases hp:sg.ptr with
 |false=>
  rw [hp] at hres hbv;simp only [yi] at hbv;obtain ⟨_,hsp,hv⟩:=hres;cases hsh:aL sg.rs (zC false ts os y (1000*(d+1))).1 with
  |none=>rw [hsh] at hbv;cases hbv
  |some q=>obtain ⟨as,r⟩:=q;rw [hsh] at hbv;simp only [z8,jI] at hbv;obtain ⟨rfl,rfl,rfl⟩:=hbv;rw [lu] at Sr ⊢;obtain ⟨f1,f2⟩:=oO sg.rs _ as r vs' cs rest hsh e4 hsp;refine ⟨G5,GO h1 hbx hnd e3 Sr (fun p hp=>(e2 p.1 fun hj=>(Sr p.1 hj).2 (by rw [kp];exact aG hp)).1) (fun p hp=>e5 _ (.inr (.inl (y5m p hp))) (hpt p hp).1 (hpt p hp).2) f2 hbk Ak,?_⟩;rw [hv];exact Sp f1
 |true=>
  rw [hp] at hres hbv;simp only [yg] at hbv;obtain ⟨r,rs',b,off,vs1,vs2,c2,rfl,hrs,rfl,hl1,hsp,hv,hcells⟩:=hres;rw [hrs] at hbv;simp only at hbv;cases hsh:aL rs' ((zC false ts os y (1000*(d+1))).1.drop r.ts.length) with
  |none=>rw [hsh] at hbv;cases hbv
  |some q=>
  obtain ⟨as,r2⟩:=q;rw [hsh] at hbv;simp only [z8,jI] at hbv;obtain ⟨rfl,rfl,rfl⟩:=hbv;obtain ⟨n1,n2,n3,n4⟩:=hnb b rfl;have hble:ts.length≤500:=by
   have:Nat.ble ts.length 500=true:=by simpa [isNil] using hex
   exact nN this
  obtain ⟨f1,f2⟩:=Ag e4 hl1;obtain ⟨g1,g2⟩:=oO rs' _ as r2 vs2 c2 rest hsh f2 hsp;obtain ⟨i1,i2⟩:=Al rs' _ as r2 hsh;have ybA: ∀ j∈Ya (zC false ts os y (1000*(d+1))).1,j≠1000*(d+1)+500:=fun j hj he=>by have:=Cu false ts os y (1000*(d+1)) j hj;omega
  have Un:=e3.Um (1000*(d+1)+500) b off f1 hcells (e5 b (n2.imp id .inl) n1 n3) (fun p hp=>by rw [sm] at hp;cases hp);rw [wW _ (fun hj=>ybA _ (mD _ _ _ hj) rfl)] at Un;have hag: ∀ j,j≠1000*(d+1)+500→(G5.upd (1000*(d+1)+500) (b,off) undef (0,0)).g j=G5.g j:=fun j hj=>by simp [Gh.upd,hj]
  have hy: ∀ p∈bs,p.1≠1000*(d+1)+500:=fun p hp he=>(Sr (1000*(d+1)+500) (by rw [ap];simp [yN])).2 (by rw [← he,kp];exact aG hp);have hy2: ∀ p∈bs,p.1∉yN (zC false ts os y (1000*(d+1))).2:=fun p hp hj=>(Sr p.1 (by rw [ap];simp [hj])).2 (by rw [kp];exact aG hp);refine ⟨_,GO (Y:=(zC false ts os y (1000*(d+1))).2++[(1000*(d+1)+500,.box ((zC false ts os y (1000*(d+1))).1.take r.ts.length))]) (G6:=G5.upd (1000*(d+1)+500) (b,off) undef (0,0)) h1 hbx hnd ?_ Sr (fun p hp=> ?_) (fun p hp=> ?_) (RL.agree (G:=G5) (G':=G5.upd (1000*(d+1)+500) (b,off) undef (0,0)) rfl rfl _ _ g2 (fun j hj=>by exact (G5.J_ _ _ _ _).same (ybA j (qX _ _ j (i2 j hj))))) hbk Ak,?_⟩
  ·rw [St.jO];exact Un
  ·rw [hag _ (hy p hp)];exact (e2 p.1 (hy2 p hp)).1
  ·rw [St.jO];exact (e5 _ (.inr (.inl (y5m p hp))) (hpt p hp).1 (hpt p hp).2).make (by simp only [zS,Gh.upd,yo];exact fun he=>n4 _ (aG hp) he.symm)
  ·rw [hv];have hp1:RA (G5.upd (1000*(d+1)+500) (b,off) undef (0,0)) (.box (1000*(d+1)+500) 0) (.pointer (some ⟨b,off,none⟩)):=by
    show Value.pointer _= .pointer _;simp [Gh.upd]
   have g3:=RL.agree (G:=G5) (G':=G5.upd (1000*(d+1)+500) (b,off) undef (0,0)) rfl rfl _ _ g1 (fun j hj=>(G5.J_ _ _ _ _).same (ybA j (qX _ _ j (i1 j hj))));cases as with
   |nil=>
    cases c2 with
    |nil=>exact hp1
    |cons _ _=>exact g3.elim
   |cons a as=>
    cases c2 with
    |nil=>exact g3.elim
    |cons c c2=>exact ⟨_,rfl,hp1,g3⟩
end
section
variable {P:Program} {C:Ctx} {w0:World} {yu:Nat→Prop} {H0:Base} {s:St} {a:Act} {w:World} {G:Gh} {o:Oper} {K:Act→World→Prop} {Q:Exit→Act→World→Prop} {R:Type} {k:Eff→Option R} {r:R} {lk:Lk} {call:C.Sem} {ct wn:Bool}
theorem cb (lk:Lk): ∀ (is:List Nat) (i:Nat),i∈yN (settles lk is)→ ∃ ob e ts xs,lk i=some ob∧Rw ob e ts xs
 |[],i,h=>by simp [settles,yN] at h
 |j::is,i,h=>by
  unfold settles at h;split at h
  ·rename_i own e ts xs hj;simp only [yN,yR] at h;rcases h with rfl|h
   ·exact ⟨_,e,ts,xs,hj,.inl ⟨own,rfl⟩⟩
   ·exact cb lk is i h
  ·exact cb lk is i h
theorem Ur (h:Rel P w0 yu H0 s a w G): ∀ l:List Operand,RL G (l.map s.Yw) (l.map a.eval)
 |[]=>trivial
 |x::l=>⟨h.Yw x,Ur h l⟩
theorem qZ: ∀ {l l':List Nat},bZ l l'=true→ ∀ i∈l,i∉l'
 |[],_,_,i,hi=>by simp at hi
 |j::l,l',h,i,hi=>by
  simp only [bZ,zzal10,zzal45] at h;rcases yR.1 hi with rfl|hi
  ·intro hm;rw [w6.2 hm] at h;exact absurd h.1 (by simp)
  ·exact qZ h.2 i hi
theorem Cv {sg:Sig} {bs:List (Nat×Nat)} {is gs:List Nat} {d:Nat} {ts:List Ty} {y:Elts ts} {e:Eff} (h:cF lk sg bs is gs d ts y=some e):
  ∃ ex x rest,uP sg d (zC false ts sg.owns y (1000*(d+1))).1=some (ex,x,rest)∧bZ (yN ((zC false ts sg.owns y (1000*(d+1))).2++ex)) (is++(gs++yN bs))=true∧(isNil ex||Nat.ble ts.length 500)=true∧
   e=⟨settles lk is++(jK (bif sg.back then [] else gs)++fh bs rest),(zC false ts sg.owns y (1000*(d+1))).2++ex,x⟩:=by
 unfold cF at h;split at h;rename_i l obs hsc;split at h
 ·rename_i ex x rest hsh;cases hd:bZ (yN (obs++ex)) (is++(gs++yN bs))&&(isNil ex||Nat.ble ts.length 500) with
  |false=>simp [hd] at h
  |true=>simp only [hd,yg] at h;simp only [zzal10] at hd;injection h with h;exact ⟨ex,x,rest,by rw [hsc];exact hsh,by rw [hsc];exact hd.1,hd.2,by rw [hsc];exact h.symm⟩
 ·cases h
theorem Us {p:Nat→Prop} (h1: ∀ (own:Bool) (t:Ty) (x:A) (y:El t) (is gs:List Nat),Vs lk own t x=some (y,is,gs)→ ∀ q∈gs,p q): ∀ (ts:List Ty) (os:List Bool) (l:List A) (y:Elts ts) (is gs:List Nat),V2 lk ts os l=some (y,is,gs)→ ∀ q∈gs,p q:=by
 intro ts;induction ts with
 |nil=>
  intro os l y is gs h;cases l with
  |nil=>have h':some ((():Elts []),([]:List Nat),([]:List Nat))=some (y,is,gs):=h;injection h' with h';injection h' with _ e2;injection e2 with _ e3;subst e3;simp
  |cons x l=>exact absurd h (by rw [show V2 lk [] os (x::l)=none from rfl];exact fun h=>by cases h)
 |cons t ts ih=>
  intro os l y is gs h;cases ts with
  |nil=>
   cases l with
   |nil=>exact absurd h (by rw [show V2 lk [t] os []=none from rfl];exact fun h=>by cases h)
   |cons x l=>
    cases l with
    |cons x2 l=>exact absurd h (by rw [show V2 lk [t] os (x::x2::l)=none from rfl];exact fun h=>by cases h)
    |nil=>exact h1 _ _ _ _ _ _ h
  |cons u r=>
   cases l with
   |nil=>exact absurd h (by rw [show V2 lk (t::u::r) os []=none from rfl];exact fun h=>by cases h)
   |cons x l=>
    have h':(match Vs lk (os.headD false) t x with
     |some (x,is,gs)=>match V2 lk (u::r) os.tail l with
      |some (y,js,hs)=>some (((x,y):Elts (t::u::r)),is++js,gs++hs)
      |none=>none
     |none=>none)=some (y,is,gs):=h
    cases h2:Vs lk (os.headD false) t x with
    |none=>rw [h2] at h';cases h'
    |some p1=>
     obtain ⟨x1,is1,gs1⟩:=p1;rw [h2] at h';cases h3:V2 lk (u::r) os.tail l with
     |none=>rw [h3] at h';cases h'
     |some q=>
      obtain ⟨y1,is2,gs2⟩:=q;rw [h3] at h';injection h' with h';injection h' with e1 e2;injection e2 with e2 e3;subst e3;intro q hq;rcases zB.1 hq with hq|hq
      ·exact h1 _ _ _ _ _ _ h2 q hq
      ·exact ih os.tail l y1 is2 gs2 h3 q hq
def fv (ob:Ob):Prop:= ∃ e ts xs,ob= .root true e ts xs
theorem st (os:List Bool) {ts:List Ty} (l:List A) (y:Elts ts) (is gs:List Nat) (h:V2 lk ts os l=some (y,is,gs)): ∀ q∈gs,∃ ob,lk q=some ob∧fv ob:=by
 refine Us (p:=fun q=> ∃ ob,lk q=some ob∧fv ob) (fun own t x y is gs h=> ?_) ts os l y is gs h;cases own with
 |false=>have h':(oG lk t x).map (fun (y,is)=>(y,is,([]:List Nat)))=some (y,is,gs):=h;obtain ⟨p,_,he⟩:=Ys.1 h';injection he with _ e2;injection e2 with _ e3;subst e3;simp
 |true=>
  cases x with
  |own q=>
   simp only [Vs,yg] at h;cases hq:lk q with
   |none=>simp [hq] at h
   |some ob=>
    cases ob with
    |root own e ts xs=>
     cases own with
     |false=>simp [hq] at h
     |true=>
      simp only [hq] at h;obtain ⟨z,_,he⟩:=Ys.1 h;injection he with _ e2;injection e2 with _ e3;subst e3;intro p hp;have:p=q:=by simpa using hp
      subst this;exact ⟨_,hq,e,ts,xs,rfl⟩
    |_=>simp [hq] at h
  |JX=>
   cases t with
   |sl e ts=>
    simp only [Vs,yg] at h;cases hb:Nat.blt 0 ts.length with
    |false=>simp [hb] at h
    |true=>simp only [hb,yg] at h;injection h with h;injection h with _ e2;injection e2 with _ e3;subst e3;simp
   |_=>simp [Vs] at h
  |val t' x'=>
   simp only [Vs,yg] at h;cases hfl:Ty.flat t with
   |false=>simp [hfl] at h
   |true=>simp only [hfl,yg] at h;obtain ⟨z,_,he⟩:=Ys.1 h;injection he with _ e2;injection e2 with _ e3;subst e3;simp
  |_=>cases t<;>simp [Vs] at h
theorem y35 (hC:Contract H0 C P call) (h:Rel P w0 yu H0 s a w G) (hK:Next P w0 yu H0 s o k r K) (hlk:dS lk s) {c:Call} {f:Operand} (hop:o.op= .call c) (hc:c.callee= .value f) (he:Yg C call ct wn o s.Yw lk k=some r):o.wp P a w K Q:=by
 simp only [Yg,hop,hc] at he;have hfv:=h.Yw f;cases hf:my (s.Yw f) with
 |none=>simp [hf] at he
 |some gx=>
  obtain ⟨g0,exA⟩:=gx;simp only [hf,Gf] at he;obtain ⟨exv,yk5,hfv⟩:=MF hf hfv;generalize hkey:C.key g0 (Mk lk (c.args.toList.map s.Yw))=g at he;cases hsg:C.sig g with
  |none=>simp [hsg] at he
  |some sg=>
   simp only [hsg] at he;cases hga:gather lk sg.ps (c.args.toList.map s.Yw++exA) with
   |none=>simp [hga] at he
   |some q=>
    obtain ⟨l,bs⟩:=q;simp only [hga] at he;cases htk:V2 lk (C.ins g) (sg.ps.flatMap PK.ownsIn) l with
    |none=>simp [htk] at he
    |some q=>
     obtain ⟨xs,is,gs⟩:=q;simp only [htk] at he;cases hd:o.dst with
     |none=>simp [hd] at he
     |some d=>
      simp only [hd] at he;cases hb:gi (yN bs)&&gi gs&&bZ gs is&&Nat.beq (C.fid g) g0 with
      |false=>simp [hb] at he
      |true=>
       simp only [hb,yg] at he;simp only [zzal10] at hb;cases hy:call g xs with
       |none=>simp [hy] at he
       |some y=>
        simp only [hy,zzal0] at he;cases hac:cF lk sg bs (bif sg.hfree then [] else is) gs d (C.outs g) y with
        |none=>simp [hac] at he
        |some e=>
         simp only [hac] at he;obtain ⟨exB,xr,ii,hbv,hdj,hex,hcase⟩:=Cv hac;have hnb:=gm hb.1.1.1;have hng:=gm hb.1.1.2;have hgi:=qZ hb.1.2;have Ut:=zo hb.2;have y5n:H0.pin (1000*(d+1)+500)=none:=H0.none (by omega);obtain ⟨vs,g1,g2,g3⟩:=EP h hlk sg.ps _ _ l bs hga (RL.append (Ur h c.args.toList) yk5);obtain ⟨G1,hgr,h1,hset⟩:=Rel.settles hlk.rows h is;obtain ⟨oR,t1,t2,t3⟩:=Ac h hlk hgr (C.ins g) _ l xs is gs htk hset hng vs g1;have hbx: ∀ p∈bs,∃ cs,look s.o p.1=some (.box cs):=fun p hp=>by obtain ⟨cs,hl,_⟩:=g3 p hp;exact ⟨cs,hl⟩
         have hroot: ∀ i∈yN (Go.Proofs.YtekbnpmmjciloaaGreat.R.settles lk is),∃ ob e ts xs,look s.o i=some ob∧Rw ob e ts xs:=fun i hi=>by obtain ⟨ob,e,ts,xs,hl,hw⟩:=cb lk is i hi;exact ⟨ob,e,ts,xs,hlk i _ hl,hw⟩
         have hmem: ∀ {i:Nat} {X:List Nat},Jj X i=false→i∉X:=fun hm hi=>by rw [w6.2 hi] at hm;cases hm
         have hmem': ∀ {i:Nat} {X:List Nat},i∉X→Jj X i=false:=fun {i X} hi=>by
          cases hm:Jj X i with
          |false=>rfl
          |true=>exact absurd (w6.1 hm) hi
         have yer: ∀ p∈bs,∃ cs,look (s.yB (Go.Proofs.YtekbnpmmjciloaaGreat.R.settles lk is)).o p.1=some (.box cs):=fun p hp=>by
          obtain ⟨cs,hl⟩:=hbx p hp;refine ⟨cs,?_⟩;rw [jN _ _ (hmem' fun hi=> ?_)]
          ·exact hl
          ·obtain ⟨ob,e,ts,xs,hr,hw⟩:=hroot _ hi;rw [hl] at hr;injection hr with hr;subst hr;rcases hw with ⟨_,hw⟩|hw<;>cases hw
         have hgb: ∀ q∈gs,∀ cs,look s.o q=some (.box cs)→False:=fun q hq cs hl=>by obtain ⟨ob,h1,h2⟩:=st (sg.ps.flatMap PK.ownsIn) _ _ _ _ htk q hq;rw [hlk q _ h1] at hl;injection hl with hl;subst hl;obtain ⟨_,_,_,hw⟩:=h2;cases hw
         have yes:Given (s.yB (Go.Proofs.YtekbnpmmjciloaaGreat.R.settles lk is)) G1 gs oR:=fun k hk=>by
          obtain ⟨q,hq,ob,hl,hbq⟩:=t2 k hk;refine ⟨q,hq,ob,?_,by rw [qW hgr.g hgr.sv];exact hbq⟩;rw [jN _ _ (hmem' fun hi=> ?_)]
          ·exact hl
          ·exact hgi q hq (kU lk is q hi)
         have hpw:bs.Pairwise (fun p q=>p.1≠q.1):=by rw [kp] at hnb;exact uL.1 hnb
         have hpb:(bs.map fun p=>G.g p.1).Pairwise (fun p q=>p.1≠q.1):=by rw [uL];exact hpw.imp_of_mem fun {p q} hp hq hne he=>by obtain ⟨c1,l1⟩:=hbx p hp;obtain ⟨c2,l2⟩:=hbx q hq;exact hne (h.apart p.1 q.1 _ _ (G.g p.1).1 l1 l2 rfl (by rw [he];rfl))
         have hL1: ∀ k,Lent oR (bs.map fun p=>G.g p.1) k→G1.H k=none:=by
          rintro k (hk|⟨p,hp,rfl⟩)
          ·obtain ⟨q,hq,ob,hl,hbq⟩:=yes k hk;exact (h1.away q _ k hl hbq).1
          ·obtain ⟨q,hq,rfl⟩:=eU.1 hp;obtain ⟨cs,hl⟩:=yer q hq;exact (h1.away q.1 _ _ hl (by rw [← hgr.g];rfl)).1
         have hpd: ∀ p∈bs.map (fun p=>G.g p.1),¬ In oR p.1:=fun p hp hk=>by obtain ⟨q,hq,rfl⟩:=eU.1 hp;obtain ⟨cs,hl⟩:=hbx q hq;obtain ⟨q2,hq2,ob,hl2,hbq⟩:=t2 _ hk;have:=h.apart q.1 q2 _ _ (G.g q.1).1 hl hl2 rfl hbq;subst this;exact hgb q.1 hq2 cs hl
         have hLt: ∀ k,Lent oR (bs.map fun p=>G.g p.1) k→G.H k=none:=fun k hk=>by
          cases hH:G.H k with
          |none=>rfl
          |some ob=>have:=hgr.H k ob hH;rw [hL1 k hk] at this;cases this
         refine y33 hop hc hfv ?_;have hargs:(c.args.toList.map a.eval++exv).toArray=c.args.map a.eval++exv.toArray:=by rw [← Ew,← List.append_toArray,cJ]
         rw [← hargs,← Ut];have hsub: ∀ k,In (w7 sg oR) k→In oR k:=fun k hk=>by
          unfold w7 at hk;split at hk
          ·simp [In] at hk
          ·exact hk
         obtain ⟨gs2,hg2,y5o,t22,yet⟩: ∃ gs2,(bif sg.back then [] else gs)=gs2∧(∀ q∈gs2,q∈gs)∧Given s G gs2 (w7 sg oR)∧Given (s.yB (Go.Proofs.YtekbnpmmjciloaaGreat.R.settles lk is)) G1 gs2 (w7 sg oR):=by
          unfold w7;cases sg.back with
          |true=>exact ⟨[],rfl,by simp,fun k hk=>by simp [In] at hk,fun k hk=>by simp [In] at hk⟩
          |false=>exact ⟨gs,rfl,fun _ h=>h,t2,yes⟩
         have ybB: ∀ k,Lent (w7 sg oR) (bs.map fun p=>G.g p.1) k→G.H k=none:=fun k hk=>hLt k (hk.imp (hsub k) id);have yk6: ∀ k,Lent (w7 sg oR) (bs.map fun p=>G.g p.1) k→G1.H k=none:=fun k hk=>hL1 k (hk.imp (hsub k) id);have hgo:=hC g sg xs y hsg hy w G1.H _ vs oR _ h1.base h1.uQ t1 t3 g2 hpb hL1 hpd;generalize hbk2:w7 sg oR=y36 at*;refine hgo.mono fun v w' hleft=> ?_;obtain ⟨H',vs',cs,rest,bs',hl⟩:=hleft;have hx:=qZ hdj;have Ak:=GK sg.ps _ l bs hga;obtain ⟨nb,hres,hnew⟩:=hl.res;cases hfr:sg.hfree with
         |true=>
          rw [hfr] at hcase hx;have hx: ∀ i∈yN ((zC false (C.outs g) sg.owns y (1000*(d+1))).2++exB),i∉gs++yN bs:=hx;have yk7:xQ (C.outs g) sg.owns=true:=by rw [show C.outs g=sg.outs by simp [Ctx.outs,hsg]];exact hfr
          have hnH: ∀ k,(w.heap.size≤k∨Lent y36 (bs.map fun p=>G.g p.1) k)→G.H k=none:=fun k ha2=>by
           rcases ha2 with ha2|ha2
           ·cases hH:G.H k with
            |none=>rfl
            |some ob=>exact absurd (zzal39.1 (h.uQ k ob hH)).1 (gf.2 ha2)
           ·exact ybB k ha2
          ·subst hcase;rw [hg2] at he;have hback:BackAt w' sg.ps (bs.map fun p=>G.g p.1) rest:=hl.back;have hcb:=CZ h (d:=d) (sg:=sg) (nb:=nb) t22 hbx hnb hl.os hl.tape hl.output hl.size hl.old (H2:=G.H) (Hp.le.refl _) (fun k ob hH=>by
            have hw:=h.uQ k ob hH;have hlt:=(zzal39.1 hw).1;have hnl: ¬ Lent y36 (bs.map fun p=>G.g p.1) k:=fun hk=>by rw [ybB k hk] at hH;cases hH
            show w'.heap[k]? =_;rw [hl.old k hlt hnl];exact hw) (fun k ob hH=> .inl hH) (GL _ _ _ _ _ yk7 hl.cells) hl.apart (fun k hk=>by
            obtain ⟨_,ha2,_⟩:=hl.away k hk;exact ⟨hnH k ha2,ha2⟩) (fun p hp=>⟨ybB _ (.inr ⟨_,aG hp,rfl⟩),fun hk=>(hl.away _ hk).2.2 _ (aG hp) rfl⟩) (fun k hk=>by
            obtain ⟨_,m2,m3,m4⟩:=hnew k hk;exact ⟨hnH k m2,m2,m3,m4⟩) hbv hex hres (fun j hj=>by
            have:=hx j hj;rw [zB,not_or] at this;exact ⟨fun hq=>this.1 (y5o _ hq),this.2⟩) y5n hback Ak
           obtain ⟨G5,r1,r2⟩:=hcb;refine hK _ _ _ G5 he ?_;have:=r1.put o.dst r2;exact this
         |false=>
          rw [hfr] at hcase hx;simp only [yi] at hx
          classical
          let L:=Lent y36 (bs.map fun p=>G.g p.1)
          let H2:Hp:=fun k=>if w.heap.size≤k∨L k then H' k else G1.H k
          have hin1: ∀ k ob,G1.H k=some ob→ ¬ (w.heap.size≤k∨L k):=fun k ob hH hk=>by
           rcases hk with hk|hk
           ·exact absurd (zzal39.1 (h1.uQ k ob hH)).1 (gf.2 hk)
           ·rw [yk6 k hk] at hH;cases hH
          have hle2:G1.H.le H2:=fun k ob hH=>by show (if w.heap.size≤k∨L k then H' k else G1.H k)=some ob;rw [y9 (hin1 k ob hH)];exact hH
          have hin2:H2.le (heapOf w'):=fun k ob hH=>by
           have Cq:(if w.heap.size≤k∨L k then H' k else G1.H k)=some ob:=hH;split at Cq
           ·exact hl.uQ k ob Cq
           ·rename_i hk;rw [not_or] at hk;show w'.heap[k]? =_;rw [hl.old k (Nat.lt_of_not_le hk.1) hk.2];exact h1.uQ k ob Cq
          have hle':H'.le H2:=fun k ob hH=>by
           show (if w.heap.size≤k∨L k then H' k else G1.H k)=some ob;split
           ·exact hH
           ·rename_i hk;rcases hl.hnew k ob hH with h6|h6
            ·exact h6
            ·exact absurd h6 hk
          have hnew2: ∀ k ob,H2 k=some ob→G1.H k=some ob∨w.heap.size≤k∨Lent y36 (bs.map fun p=>G1.g p.1) k:=fun k ob hH=>by
           have Cq:(if w.heap.size≤k∨L k then H' k else G1.H k)=some ob:=hH;split at Cq
           ·rename_i hk;rw [hgr.g];exact .inr hk
           ·exact .inl Cq
          have ybC: ∀ k,H' k=none→(w.heap.size≤k∨L k)→H2 k=none:=fun k hn hk=>by show (if w.heap.size≤k∨L k then H' k else G1.H k)=none;rw [y0 hk];exact hn
          ·subst hcase;rw [hg2] at he;have hback:BackAt w' sg.ps (bs.map fun p=>G.g p.1) rest:=hl.back;have hcb:=CZ h1 (d:=d) (sg:=sg) (nb:=nb) (ps:=sg.ps) (H2:=H2) yet yer hnb hl.os hl.tape hl.output hl.size (by rw [hgr.g];exact hl.old) hle2 hin2 hnew2 (GM hle' _ _ _ _ _ hl.cells) hl.apart (fun k hk=>by
            obtain ⟨ha1,ha2,_⟩:=hl.away k hk;rw [hgr.g];exact ⟨ybC k ha1 ha2,ha2⟩) (fun p hp=>by
            rw [hgr.g];have hlp:L (G.g p.1).1:= .inr ⟨_,aG hp,rfl⟩;exact ⟨ybC _ (hl.ptrs _ (aG hp)) (.inr hlp),fun hk=>(hl.away _ hk).2.2 _ (aG hp) rfl⟩) (fun k hk=>by
            obtain ⟨m1,m2,m3,m4⟩:=hnew k hk;rw [hgr.g];exact ⟨ybC k m1 m2,m2,m3,m4⟩) hbv hex hres (fun j hj=>by
            have:=hx j hj;simp only [zB,not_or] at this;exact ⟨fun hq=>this.2.1 (y5o _ hq),this.2.2⟩) y5n (by rw [hgr.g];exact hback) Ak
           obtain ⟨G5,r1,r2⟩:=hcb;refine hK _ _ _ G5 he ?_;rw [w8 _ (gp lk is) _ _ (fun d hd hi=>by have:=hx d hd;simp only [zB,not_or] at this;exact this.1 (kU lk is d hi)),← St.Qx] at r1;have:=r1.put o.dst r2;exact this
end
section
variable {P:Program} {C:Ctx} {w0:World} {yu:Nat→Prop} {H0:Base} {s:St} {a:Act} {w:World} {G:Gh} {o:Oper} {K:Act→World→Prop} {Q:Exit→Act→World→Prop} {R:Type} {k:Eff→Option R} {r:R} {lk:Lk} {call:C.Sem} {ct wn:Bool}
theorem GP: ∀ (ts:List Ty) (l:List A) (n:Nat),(∀ i∈yN (jL ts l n).2,n≤i∧i<n+ts.length)
 |[],l,n=>by cases l<;>simp [jL,yN]
 |t::ts,[],n=>by cases t<;>simp [jL,yN]
 |t::ts,x::l,n=>by
  intro i hi;have ih:=GP ts l (n+1);have hc:i=n∨i∈yN (jL ts l (n+1)).2:=by
   cases t<;>cases x<;>try exact .inr hi
   rename_i e us;simp only [jL] at hi;cases hb:flats us&&Nat.blt 0 us.length with
   |false=>simp only [hb,yi] at hi;exact .inr hi
   |true=>simp only [hb,yg,yN,yR] at hi;exact hi
  rw [yp];rcases hc with rfl|hc
  ·omega
  ·have:=ih i hc;omega
theorem nX: ∀ (ts:List Ty) (l:List A) (vs:List Value) (n:Nat) (s:St) (G:Gh),Rel P w0 yu H0 s a w G→RL G l vs→950≤n→(∀ j∈yN (jL ts l n).2,j∉Ya l)→
  ∃ G',G'.H=G.H∧Rel P w0 yu H0 (s.makeAll (jL ts l n).2) a w G'∧RL G' (jL ts l n).1 vs∧ ∀ j,j∉yN (jL ts l n).2→Same G G' j
 |[],l,vs,n,s,G,h,hr,hn,hd=>by
  refine ⟨G,rfl,?_,?_,fun _ _=>Same.refl⟩
  ·cases l<;>exact h
  ·cases l<;>exact hr
 |t::ts,[],vs,n,s,G,h,hr,hn,hd=>by
  refine ⟨G,rfl,?_,?_,fun _ _=>Same.refl⟩
  ·cases t<;>exact h
  ·cases t<;>exact hr
 |t::ts,x::l,[],n,s,G,h,hr,hn,hd=>by cases hr
 |t::ts,x::l,v::vs,n,s,G,h,hr,hn,hd=>by
  have plain:(jL (t::ts) (x::l) n)=(x::(jL ts l (n+1)).1,(jL ts l (n+1)).2)→ ∃ G',G'.H=G.H∧Rel P w0 yu H0 (s.makeAll (jL (t::ts) (x::l) n).2) a w G'∧RL G' (jL (t::ts) (x::l) n).1 (v::vs)∧ ∀ j,j∉yN (jL (t::ts) (x::l) n).2→Same G G' j:=by intro e;rw [e] at hd ⊢;obtain ⟨G',e1,e2,e3,e4⟩:=nX ts l vs (n+1) s G h hr.2 (by omega) fun j hj hm=>hd j hj (by simp [Ya,hm]);exact ⟨G',e1,e2,⟨RA.agree e1 (e2.pv.trans h.pv.symm) x v hr.1 fun j hj=>e4 j fun hm=>hd j hm (by simp [Ya,hj]),e3⟩,e4⟩
  cases t with
  |sl e us=>
   cases x with
   |JX=>
    cases hb:flats us&&Nat.blt 0 us.length with
    |false=>exact plain (by simp only [jL,hb,yi])
    |true=>
     have e0:jL (.sl e us::ts) (.JX::l) n=(.own n::(jL ts l (n+1)).1,(n,.root true e us [])::(jL ts l (n+1)).2):=by simp only [jL,hb,yg]
     rw [e0] at hd ⊢;simp only [zzal10] at hb;have hpos:0<us.length:=by have:=hb.2;unfold Nat.blt at this;exact nN this
     have hv:v= .slice none 0 0:=hr.1;subst hv;obtain ⟨hrel,hra⟩:=h.xZ n (H0.none (.inr hn)) (e:=e) (ts:=us) (xs:=[]) (v:= .slice none 0 0) (w':=w) (cells:=[]) rfl rfl rfl (jk _) (fun k hk=> .inl rfl) hpos ⟨by simp,.inl ⟨rfl,rfl⟩⟩ (by simp) (fun k hk=>by simp [Value.ownBlock] at hk) (fun j x hx=>by simp at hx);have hnl:n∉Ya l:=fun hm=>hd n (by simp [yN]) (by simp [Ya,A.ids,hm]);have hag:=(G.J_ n (((Value.slice none 0 0).ownBlock).getD 0,0) (.slice none 0 0) (us.length,([]:List (Elts us)).length))
     have hrl:=RL.agree (G:=G) (G':=G.upd n (((Value.slice none 0 0).ownBlock).getD 0,0) (.slice none 0 0) (us.length,([]:List (Elts us)).length)) rfl rfl l vs hr.2 fun j hj=>hag.same fun he=>hnl (he ▸ hj);obtain ⟨G',e1,e2,e3,e4⟩:=nX ts l vs (n+1) _ _ hrel hrl (by omega) fun j hj hm=>hd j (by simp [yN,hj]) (by simp [Ya,hm]);refine ⟨G',e1,e2,⟨RA.agree e1 (e2.pv.trans hrel.pv.symm) _ _ hra fun j hj=>e4 j fun hm=> ?_,e3⟩,fun j hj=> ?_⟩
     ·have h1:j=n:=by simpa [A.ids] using hj
      have:=(GP ts l (n+1) j hm).1;omega
     ·simp only [yN,yR,not_or] at hj;exact (hag.same hj.1).trans (e4 j hj.2)
   |_=>exact plain rfl
  |_=>exact plain (by cases x<;>rfl)
theorem Uu (hT:Jl C P) (h:Rel P w0 yu H0 s a w G) (hK:Next P w0 yu H0 s o k r K) (hout:Out o) {t:Nat} {parts:Array (Nat×Operand)} (hop:o.op= .build t parts) (he:Yg C call ct wn o s.Yw lk k=some r):o.wp P a w K Q:=by
 simp only [Yg,hop] at he;split at he
 ·rename_i fs ts b ht;cases hp:gj C s.Yw fs (ts.map CO) parts.toList with
  |none=>simp [hp] at he
  |some l=>
   simp only [hp] at he;obtain ⟨i,z,hi,hs,hby,hz,hzc,hpos,hbp⟩:=hT.info t _ ht;obtain ⟨D,hD,F,rfl,hsz,hF⟩:=hT.und t _ ht;have hm:=GD (f:=fun f:Field=>(P.info? f.type).map fun i=>(f.offset,i.size)) (0,0) (l:=F.toList) (fun fl hfl=>by obtain ⟨n,hn⟩:=uG.1 hfl;have hlt:=(ZF.1 hn).1;rw [jG,hsz] at hlt;obtain ⟨fl',h1,h2,h3,ti,hti,_⟩:=hF n _ _ (show fs[n]? =some (fs[n].1,fs[n].2) by rw [WX hlt]);rw [cK,h1] at hn;injection hn with hn;subst hn;obtain ⟨i2,_,hi2,_⟩:=hT.info _ ti hti;rw [h3,hi2];exact ⟨_,rfl⟩);obtain ⟨arr,h1,h2⟩:=tC (places:=(F.toList.map fun x=>((P.info? x.type).map fun i=>(x.offset,i.size)).getD (0,0)).toArray) hT h (fun n off t2 ti hf hti=>by obtain ⟨fl,hfl,h3,h4,_⟩:=hF n off t2 hf;obtain ⟨i2,_,hi2,hs2,_⟩:=hT.info _ ti hti;simp [hfl,h3,h4,hi2,hs2]) parts.toList _ l z.cells hp (by rw [hzc];exact EI ts);have hb:=run_build (P:=P) w t (parts.map fun (i,x)=>(i,a.eval x)) arr (by simp only [Program.built,hi,hD,hz,hm];rw [Ew];exact h1);have hrun:(execOp a.eval o).run P w= .ok (.value (.agg arr)) w:=by simp only [execOp,hop];rw [Sem.run_bind,hb];rfl
   cases ct with
   |false=>exact quiet h hK he (v:= .agg arr) hrun ⟨arr.toList,rfl,h2⟩
   |true=>
    simp only [yg] at he;cases hdst:o.dst with
    |none=>simp [hdst] at he
    |some d=>
     simp only [hdst] at he;cases hdj:bZ (yN (jL ts l (1000*(d+1))).2) (Ya l) with
     |false=>simp [hdj] at he
     |true=>simp only [hdj,yg] at he;obtain ⟨G',e1,e2,e3,_⟩:=nX ts l arr.toList (1000*(d+1)) s G h h2 (by omega) (qZ hdj);refine jM (v:= .agg arr) (w':=w) hrun (hK _ _ _ G' he ?_);have:=e2.put o.dst (x:= .agg (jL ts l (1000*(d+1))).1) (v:= .agg arr) ⟨arr.toList,rfl,e3⟩;simpa [St.apply,St.yB] using this
 ·cases he
end
section
variable {P:Program} {C:Ctx} {w0:World} {yu:Nat→Prop} {H0:Base} {s:St} {a:Act} {w:World} {G:Gh} {o:Oper} {K:Act→World→Prop} {Q:Exit→Act→World→Prop} {R:Type} {k:Eff→Option R} {r:R} {lk:Lk} {call:C.Sem} {ct wn:Bool}
theorem Uv (hT:Jl C P) (hC:Contract H0 C P call) (h:Rel P w0 yu H0 s a w G) (hK:Next P w0 yu H0 s o k r K) (hout:Out o) (hlk:dS lk s) (he:Yg C call ct wn o s.Yw lk k=some r):o.wp P a w K Q:=by
 cases hop:o.op with
 |move x=>exact NW h hK (.inl hop) he
 |assign x=>exact NW h hK (.inr hop) he
 |load t x=>exact y2X hT h hK hlk hop he
 |store t p x=>exact Uf hT h hK hlk hop he
 |nilCheck x=>exact Gv h hK hop he
 |binOp op t x y ty=>exact Ua hT h hK hop he
 |unOp op t x=>exact y2Y h hK hop he
 |extract x i=>exact Ms h hK hop he
 |makeFunc fn first captured=>exact Gu h hK hop he
 |fieldAddr t x f=>exact EG hT h hK hop he
 |field t x f=>exact Ub hT h hK hop he
 |index t x i=>exact Uc hT h hK hop he
 |indexAddr t x i=>exact EH hT h hK hlk hop he
 |box t x=>exact ybx hT h hK hout hop he
 |alloc t=>exact Ue hT h hK hout hop he
 |build t parts=>exact Uu hT h hK hout hop he
 |buildSlice t n parts=>exact Ct hT h hK hout hlk hop he
 |makeSlice t l c=>exact EM hT h hK hout hop he
 |convert src dst x=>exact MA hT h hK hlk hop he
 |slice t x lo hi mx=>
  cases mx with
  |none=>exact Ug hT h hK hout hlk hop he
  |some m=>simp [Yg,hop] at he
 |call c=>
  cases hc:c.callee with
  |value f=>exact y35 hC h hK hlk hop hc he
  |invoke r m=>simp [Yg,hop,hc] at he
  |builtin b=>
   cases b with
   |len=>
    cases hargs:c.args.toList with
    |nil=>simp [Yg,hop,hc,hargs] at he
    |cons x l=>
     cases l with
     |cons _ _=>simp [Yg,hop,hc,hargs] at he
     |nil=>
      cases ht:c.argTypes.toList with
      |nil=>simp [Yg,hop,hc,hargs,ht] at he
      |cons t ts=>exact yby hT h hK hlk hop hc hargs ht he
   |min=>
    cases hargs:c.args.toList with
    |nil=>simp [Yg,hop,hc,hargs] at he
    |cons x l=>
     cases l with
     |nil=>simp [Yg,hop,hc,hargs] at he
     |cons y l=>
      cases l with
      |nil=>exact ybz h hK hop hc hargs he
      |cons _ _=>simp [Yg,hop,hc,hargs] at he
   |append=>
    cases hargs:c.args.toList with
    |nil=>simp [Yg,hop,hc,hargs] at he
    |cons x l=>
     cases l with
     |nil=>simp [Yg,hop,hc,hargs] at he
     |cons y l=>
      cases l with
      |cons _ _=>simp [Yg,hop,hc,hargs] at he
      |nil=>
       cases ht:c.argTypes.toList with
       |nil=>simp [Yg,hop,hc,hargs,ht] at he
       |cons t ts=>
        cases ts with
        |nil=>simp [Yg,hop,hc,hargs,ht] at he
        |cons t2 ts=>
         cases ts with
         |cons _ _=>simp [Yg,hop,hc,hargs,ht] at he
         |nil=>exact So hT h hK hout hlk hop hc hargs ht he
   |_=>simp [Yg,hop,hc] at he
 |_=>simp [Yg,hop] at he
end
section
variable {P:Program} {C:Ctx} {w0:World} {yu:Nat→Prop} {H0:Base} {s:St} {a:Act} {w:World} {G:Gh} {call:C.Sem}
@[ext] structure FS where
 t:List A
 lk:Lk
def St.F (s:St):FS:=⟨s.t,look s.o⟩
def FS.Yw (z:FS):Operand→A
 | .tmp i=>z.t.getD i .dead
 | .const v=>ofConst v
 | .func f=> .fn f
 | .global _=> .dead
theorem N_ (s:St):s.F.Yw=s.Yw:=funext fun x=>by cases x<;>rfl
def FS.forget (z:FS) (i:Nat):FS:=⟨zv i z.t,fun j=>if j=i then none else (z.lk j).map (·.forget i)⟩
def FS.make (z:FS) (i:Nat) (x:Ob):FS:=⟨zv i z.t,fun j=>if j=i then some x else (z.lk j).map (·.forget i)⟩
def FS.set (z:FS) (i:Nat) (x:Ob):FS:=⟨z.t,fun j=>if j=i then (z.lk j).map (fun _=>x) else z.lk j⟩
def FS.put (z:FS) (d:Option Nat) (a:A):FS:=match d with
 |some d=>⟨z.t.set d a,z.lk⟩
 |none=>z
def FS.yA (z:FS):List Nat→FS
 |[]=>z
 |i::r=>(z.forget i).yA r
def FS.makeAll (z:FS):List (Nat×Ob)→FS
 |[]=>z
 |(i,x)::r=>(z.make i x).makeAll r
def FS.yB (z:FS):List (Nat×Ob)→FS
 |[]=>z
 |(i,x)::r=>(z.set i x).yB r
def FS.kill (z:FS):List Nat→FS
 |[]=>z
 |d::r=>(z.put (some d) .dead).kill r
def FS.apply (z:FS) (d:Option Nat) (e:Eff):FS:=((z.makeAll e.adds).yB e.sets).put d e.a
theorem Uw (s:St) (i:Nat):(s.forget i).F=s.F.forget i:=FS.ext rfl (funext fun j=>V4 i j s.o)
theorem ybD (s:St) (i:Nat) (x:Ob):(s.make i x).F=s.F.make i x:=FS.ext rfl (funext fun j=>by
 show look ((i,x)::YJ i s.o) j=if j=i then some x else (look s.o j).map (·.forget i)
 by_cases hj:j=i
 ·subst hj;simp [look,yH]
 ·simp only [look,yO (fun e:i=j=>hj e.symm),yi,V4,hj,zP])
theorem yeu (s:St) (i:Nat) (x:Ob):(s.set i x).F=s.F.set i x:=FS.ext rfl (funext fun j=>by
 show look (Wg s.o i x) j=if j=i then (look s.o j).map (fun _=>x) else look s.o j
 rw [Wh];split
 ·rename_i h;rw [h]
 ·rfl)
theorem GQ (s:St) (d:Option Nat) (x:A):(s.put d x).F=s.F.put d x:=by cases d<;>rfl
theorem dX: ∀ (l:List Nat) (s:St),(s.yA l).F=s.F.yA l
 |[],_=>rfl
 |i::r,s=>by rw [St.yA,dX r,Uw,FS.yA]
theorem C_: ∀ (l:List (Nat×Ob)) (s:St),(s.makeAll l).F=s.F.makeAll l
 |[],_=>rfl
 |(i,x)::r,s=>by rw [St.makeAll,C_ r,ybD,FS.makeAll]
theorem GR: ∀ (l:List (Nat×Ob)) (s:St),(s.yB l).F=s.F.yB l
 |[],_=>rfl
 |(i,x)::r,s=>by rw [St.yB,GR r,yeu,FS.yB]
theorem MH: ∀ (l:List Nat) (s:St),(Yi s l).F=s.F.kill l
 |[],_=>rfl
 |d::r,s=>by rw [Yi,MH r,GQ,FS.kill]
theorem EQ (s:St) (d:Option Nat) (e:Eff):(s.apply d e).F=s.F.apply d e:=by rw [St.apply,GQ,GR,C_,FS.apply]
def FS.bool (z:FS) (x:Operand):Option Bool:=match z.Yw x with
 | .val .bool b=>some b
 |_=>none
theorem nY (s:St) (x:Operand):s.F.bool x=zd s x:=by rw [FS.bool,N_];rfl
def met (z:FS):Option (Nat×Bool)→Bool
 |none=>true
 |some (c,v)=>z.bool (.tmp c)==some v
def lG (z:FS):Option (Nat×Bool)→Bool
 |none=>false
 |some (c,v)=>match z.Yw (.tmp c) with
  | .val .bool b=>(show Bool from b) !=v
  | .und=>true
  |_=>false
inductive TS where
 |run (x:Wf)
 |skip (x:Wf)
 |pick (x:Wf) (M D:List Nat)
def TS.x:TS→Wf
 | .run x=>x
 | .skip x=>x
 | .pick x _ _=>x
def TS.kills:TS→List Nat
 | .pick _ _ D=>D
 |_=>[]
section
variable (C:Ctx) (call:C.Sem)
def stepT:TS→FS→Option FS
 | .run x,z=>if met z x.g then (Yg C call (Nat.beq x.hn 2) (Nat.beq x.hn 3) x.o z.Yw (x.see z.lk) some).bind fun e=>if x.ok (x.see z.lk) e then some (z.apply x.o.dst e) else none else none
 | .skip x,z=>if lG z x.g then some (z.put x.o.dst .und) else none
 | .pick x M D,z=>if met z x.g then match x.o.op with
  | .pick c a b=>(z.bool c).bind fun v=>(z.bool (if v then a else b)).bind fun u=>some (((z.yA M).kill D).put x.o.dst (.val .bool u))
  |_=>none
  else none
def JO:List TS→FS→Option FS
 |[],z=>some z
 |t::T,z=>(stepT C call t z).bind (JO T)
end
theorem np: ∀ (T T':List TS) (z:FS),JO C call (T++T') z=(JO C call T z).bind (JO C call T')
 |[],T',z=>rfl
 |t::T,T',z=>by
  simp only [aK,JO];cases stepT C call t z with
  |none=>rfl
  |some z1=>exact np T T' z1
end
section
variable {C:Ctx} {call:C.Sem}
mutual
theorem A.V8 (i j:Nat): ∀ x:A,(x.forget i).forget j=(x.forget j).forget i
 | .own o=>by by_cases h1:o=i<;>by_cases h2:o=j<;>simp [A.forget,h1,h2,yH,yO]<;>(repeat' (first|rfl|(split<;>simp_all [A.forget,yH])))<;>(cases hb:Nat.beq i j<;>cases hb':Nat.beq j i<;>simp_all [A.forget,yH,yO])
 | .box b off=>by by_cases h1:b=i<;>by_cases h2:b=j<;>simp [A.forget,h1,h2,yH,yO]<;>(cases hb:Nat.beq i j<;>cases hb':Nat.beq j i<;>simp_all [A.forget,yH,yO])
 | .lj o _ _=>by by_cases h1:o=i<;>by_cases h2:o=j<;>simp [A.forget,h1,h2,yH,yO]<;>(cases hb:Nat.beq i j<;>cases hb':Nat.beq j i<;>simp_all [A.forget,yH,yO])
 | .win o _=>by by_cases h1:o=i<;>by_cases h2:o=j<;>simp [A.forget,h1,h2,yH,yO]<;>(cases hb:Nat.beq i j<;>cases hb':Nat.beq j i<;>simp_all [A.forget,yH,yO])
 | .tl o _=>by by_cases h1:o=i<;>by_cases h2:o=j<;>simp [A.forget,h1,h2,yH,yO]<;>(cases hb:Nat.beq i j<;>cases hb':Nat.beq j i<;>simp_all [A.forget,yH,yO])
 | .nc _ b=>by by_cases h1:b=i<;>by_cases h2:b=j<;>simp [A.forget,h1,h2,yH,yO]<;>(cases hb:Nat.beq i j<;>cases hb':Nat.beq j i<;>simp_all [A.forget,yH,yO])
 | .agg l=>by simp [A.forget,kV i j l]
 | .oF l=>by simp [A.forget,kV i j l]
 | .dead| .und| .val _ _| .JX| .aj| .ly _ _ _ _ _| .top _ _ _| .fn _=>rfl
theorem kV (i j:Nat): ∀ l:List A,zv j (zv i l)=zv i (zv j l)
 |[]=>rfl
 |a::l=>by simp [zv,A.V8 i j a,kV i j l]
end
mutual
theorem A.V9 (i:Nat): ∀ x:A,(x.forget i).forget i=x.forget i
 | .own o=>by by_cases h1:o=i<;>simp [A.forget,h1,yH,yO]
 | .box b off=>by by_cases h1:b=i<;>simp [A.forget,h1,yH,yO]
 | .lj o _ _=>by by_cases h1:o=i<;>simp [A.forget,h1,yH,yO]
 | .win o _=>by by_cases h1:o=i<;>simp [A.forget,h1,yH,yO]
 | .tl o _=>by by_cases h1:o=i<;>simp [A.forget,h1,yH,yO]
 | .nc _ b=>by by_cases h1:b=i<;>simp [A.forget,h1,yH,yO]
 | .agg l=>by simp [A.forget,kW i l]
 | .oF l=>by simp [A.forget,kW i l]
 | .dead| .und| .val _ _| .JX| .aj| .ly _ _ _ _ _| .top _ _ _| .fn _=>rfl
theorem kW (i:Nat): ∀ l:List A,zv i (zv i l)=zv i l
 |[]=>rfl
 |a::l=>by simp [zv,A.V9 i a,kW i l]
end
theorem Ob.V8 (i j:Nat) (x:Ob):(x.forget i).forget j=(x.forget j).forget i:=by cases x<;>simp [Ob.forget,kV i j]
theorem Ob.V9 (i:Nat) (x:Ob):(x.forget i).forget i=x.forget i:=by cases x<;>simp [Ob.forget,kW i]
theorem tJ (i d:Nat) (a:A): ∀ l:List A,zv i (l.set d a)=(zv i l).set d (a.forget i):=by
 intro l;induction l generalizing d with
 |nil=>simp [zv]
 |cons b l ih=>cases d<;>simp [zv,ih]
theorem FS.V8 (z:FS) (i j:Nat):(z.forget i).forget j=(z.forget j).forget i:=by
 refine FS.ext (kV i j z.t) (funext fun m=> ?_);show (if m=j then none else (if m=i then none else (z.lk m).map (·.forget i)).map (·.forget j))=(if m=i then none else (if m=j then none else (z.lk m).map (·.forget j)).map (·.forget i))
 by_cases h1:m=j<;>by_cases h2:m=i<;>simp [h1,h2];cases z.lk m with
 |none=>rfl
 |some x=>simp [Ob.V8 i j x]
theorem FS.V9 (z:FS) (i:Nat):(z.forget i).forget i=z.forget i:=by
 refine FS.ext (kW i z.t) (funext fun m=> ?_);show (if m=i then none else (if m=i then none else (z.lk m).map (·.forget i)).map (·.forget i))=(if m=i then none else (z.lk m).map (·.forget i))
 by_cases h2:m=i<;>simp [h2];cases z.lk m with
 |none=>rfl
 |some x=>simp [Ob.V9 i x]
theorem FS.ce: ∀ (M:List Nat) (z:FS) (i:Nat),i∈M→(z.forget i).yA M=z.yA M
 |j::M,z,i,h=>by
  rcases yR.1 h with rfl|h
  ·rw [FS.yA,FS.V9,FS.yA]
  ·rw [FS.yA,FS.V8,FS.ce M _ i h,FS.yA]
theorem FS.MI (z:FS) (i:Nat) (d:Option Nat) (a:A):(z.put d a).forget i=(z.forget i).put d (a.forget i):=by
 cases d with
 |none=>rfl
 |some d=>exact FS.ext (tJ i d a z.t) rfl
theorem FS.GS (z:FS) (i:Nat) (x:Ob):(z.make i x).forget i=z.forget i:=by
 refine FS.ext (kW i z.t) (funext fun m=> ?_);show (if m=i then none else (if m=i then some x else (z.lk m).map (·.forget i)).map (·.forget i))=(if m=i then none else (z.lk m).map (·.forget i))
 by_cases h2:m=i<;>simp [h2];cases z.lk m with
 |none=>rfl
 |some x=>simp [Ob.V9 i x]
theorem FS.Am (M:List Nat) (z:FS) (i:Nat) (x:Ob) (h:i∈M):(z.make i x).yA M=z.yA M:=by rw [← FS.ce M _ i h,FS.GS,FS.ce M _ i h]
theorem FS.dY (M:List Nat): ∀ (l:List (Nat×Ob)) (z:FS),(∀ i∈yN l,i∈M)→(z.makeAll l).yA M=z.yA M
 |[],_,_=>rfl
 |(i,x)::l,z,h=>by rw [FS.makeAll,FS.dY M l _ (fun j hj=>h j (by simp [yN,hj])),FS.Am M z i x (h i (by simp [yN]))]
def uS (x:A):List Nat→A
 |[]=>x
 |i::M=>uS (x.forget i) M
theorem FS.e_: ∀ (M:List Nat) (z:FS) (d:Option Nat) (a:A),(z.put d a).yA M=(z.yA M).put d (uS a M)
 |[],_,_,_=>rfl
 |i::M,z,d,a=>by rw [FS.yA,FS.MI,FS.e_ M,FS.yA,uS]
theorem FS.y37 (z:FS) (d:Nat) (a b:A):(z.put (some d) a).put (some d) b=z.put (some d) b:=FS.ext (List.set_set a) rfl
theorem FS.put_comm (z:FS) {d e:Nat} (h:d≠e) (a b:A):(z.put (some d) a).put (some e) b=(z.put (some e) b).put (some d) a:=FS.ext (List.set_comm a b h) rfl
theorem FS.ER: ∀ (D:List Nat) (z:FS) (d:Nat) (a:A),d∈D→(z.put (some d) a).kill D=z.kill D
 |e::D,z,d,a,h=>by
  by_cases he:d=e
  ·subst he;rw [FS.kill,FS.y37,FS.kill]
  ·rw [FS.kill,FS.put_comm z he,FS.ER D _ d a ((yR.1 h).resolve_left he),FS.kill]
theorem FS.D0: ∀ (D' D:List Nat) (z:FS),(∀ d∈D',d∈D)→(z.kill D').kill D=z.kill D
 |[],_,_,_=>rfl
 |e::D',D,z,h=>by rw [FS.kill,FS.D0 D' D _ (fun d hd=>h d (by simp [hd])),FS.ER D z e .dead (h e (by simp))]
def inD (D:List Nat):Option Nat→Prop
 |none=>True
 |some d=>d∈D
theorem FS.Ux {D:List Nat} {z:FS} {d:Option Nat} {a:A} (h:inD D d):(z.put d a).kill D=z.kill D:=by
 cases d with
 |none=>rfl
 |some d=>exact FS.ER D z d a h
theorem FS.Ao {M D:List Nat} {z:FS} {d:Option Nat} {a:A} (h:inD D d):((z.put d a).yA M).kill D=(z.yA M).kill D:=by rw [FS.e_,FS.Ux h]
theorem FS.Ap: ∀ (D M:List Nat) (z:FS),(z.kill D).yA M=(z.yA M).kill D:=by
 intro D M;have hd: ∀ M:List Nat,uS .dead M= .dead:=fun M=>by
  induction M with
  |nil=>rfl
  |cons i M ih=>exact ih
 induction D with
 |nil=>intro z;rfl
 |cons d D ih=>intro z;rw [FS.kill,ih,FS.e_,hd,FS.kill]
theorem FS.Ss {M D D':List Nat} {z:FS} (h: ∀ d∈D',d∈D):((z.kill D').yA M).kill D=(z.yA M).kill D:=by rw [FS.Ap,FS.D0 D' D _ h]
theorem FS.Aq {M M' D:List Nat} {z:FS} (h: ∀ i∈M',i∈M):((z.yA M').yA M).kill D=(z.yA M).kill D:=by
 congr 1;revert z;induction M' with
 |nil=>intro z;rfl
 |cons i M' ih=>intro z;rw [FS.yA,ih (fun j hj=>h j (by simp [hj])),FS.ce M z i (h i (by simp))]
theorem FS.MJ {M D:List Nat} {z:FS} {d:Option Nat} {e:Eff} (hs:isNil e.sets=true) (hm: ∀ i∈yN e.adds,i∈M) (hd:inD D d):((z.apply d e).yA M).kill D=(z.yA M).kill D:=by
 have:e.sets=[]:=by
  cases h:e.sets with
  |nil=>rfl
  |cons _ _=>simp [h,isNil] at hs
 rw [FS.apply,this,FS.Ao hd];show ((z.makeAll e.adds).yA M).kill D=_;rw [FS.dY M _ _ hm]
def strip (ctx:List (Nat×Bool)) (x:Wf):Wf:=match x.g with
 |some p=>if p∈ctx then {x with g:=none} else x
 |none=>x
theorem gq (ctx:List (Nat×Bool)) (x:Wf):(strip ctx x).o=x.o:=by unfold strip;(repeat' split)<;>rfl
theorem MK (ctx:List (Nat×Bool)) (x:Wf):(strip ctx x).mine=x.mine:=by unfold strip;(repeat' split)<;>rfl
theorem GT (ctx:List (Nat×Bool)) (x:Wf):(strip ctx x).hn=x.hn:=by unfold strip;(repeat' split)<;>rfl
theorem D1 (ctx:List (Nat×Bool)) (x:Wf):(strip ctx x).see=x.see:=by unfold strip;(repeat' split)<;>rfl
theorem GU (ctx:List (Nat×Bool)) (x:Wf):(strip ctx x).ok=x.ok:=by unfold strip;(repeat' split)<;>rfl
theorem ML {ctx:List (Nat×Bool)} {x:Wf} {p:Nat×Bool} (h:(strip ctx x).g=some p):x.g=some p∧p∉ctx:=by
 unfold strip at h;split at h
 ·rename_i q hq;split at h
  ·cases h
  ·rename_i hn;rw [hq] at h ⊢;injection h with h;subst h;exact ⟨rfl,hn⟩
 ·rename_i hq;rw [hq] at h;cases h
theorem Ar {ctx:List (Nat×Bool)} {x:Wf} (h:(strip ctx x).g=none):x.g=none∨ ∃ p∈ctx,x.g=some p:=by
 unfold strip at h;split at h
 ·rename_i q hq;split at h
  ·rename_i hm;exact .inr ⟨q,hm,hq⟩
  ·rw [hq] at h;cases h
 ·rename_i hq;exact .inl hq
theorem GV (ctx:List (Nat×Bool)) (c:Nat) (b:Bool) (x:Wf):(match (strip ctx x).g with
  |some (c',b')=>bif Nat.beq c c'&&(b==b') then {strip ctx x with g:=none} else strip ctx x
  |none=>strip ctx x)=strip ((c,b)::ctx) x:=by
 obtain ⟨o,g,vis,cls,bad,later,mine⟩:=x;cases g with
 |none=>rfl
 |some p=>
  obtain ⟨c',b'⟩:=p;by_cases hm:(c',b')∈ctx
  ·simp [strip,hm]
  ·by_cases hc:c'=c
   ·subst hc;by_cases hb:b'=b
    ·subst hb;simp [strip,hm,yH]
    ·have hbb:(b==b')=false:=by cases b<;>cases b'<;>simp_all
     simp [strip,hm,yH,hb,hbb]
   ·simp [strip,hm,hc,yO (fun e:c=c'=>hc e.symm)]
theorem As (ctx:List (Nat×Bool)) (c:Nat) (b:Bool): ∀ l:List Wf,bare c b (l.map (strip ctx))=l.map (strip ((c,b)::ctx))
 |[]=>rfl
 |x::l=>by rw [J7,J7,bare,As ctx c b l,← GV];rfl
theorem oS (ctx:List (Nat×Bool)): ∀ l:List Wf,dstsOf (l.map (strip ctx))=dstsOf l
 |[]=>rfl
 |x::l=>by simp only [J7,dstsOf,gq,oS ctx l]
theorem nq (ctx:List (Nat×Bool)): ∀ l:List Wf,Zy (l.map (strip ctx))=Zy l
 |[]=>rfl
 |x::l=>by simp only [J7,Zy,MK,nq ctx l]
theorem KG: ∀ l l':List Wf,dstsOf (l++l')=dstsOf l++dstsOf l'
 |[],_=>rfl
 |x::l,l'=>by simp only [aK,dstsOf,KG l l'];split<;>rfl
theorem lH: ∀ l l':List Wf,Zy (l++l')=Zy l++Zy l'
 |[],_=>rfl
 |x::l,l'=>by simp [Zy,lH l l']
theorem lI (c:Nat): ∀ (l acc ni rest:List Wf) (p:Wf) (a b:Operand),V3 c acc l=some (ni,p,a,b,rest)→acc.reverse++l=ni++p::rest∧p.o.op= .pick (.tmp c) a b∧p.g=none
 |[],_,_,_,_,_,_,h=>by simp [V3] at h
 |x::l,acc,ni,rest,p,a,b,h=>by
  have next:V3 c (x::acc) l=some (ni,p,a,b,rest)→acc.reverse++x::l=ni++p::rest∧p.o.op= .pick (.tmp c) a b∧p.g=none:=fun h=>by have:=lI c l (x::acc) ni rest p a b h;simpa using this
  unfold V3 at h;split at h
  ·rename_i j a' b' hop hg;cases hb:Nat.beq j c with
   |false=>simp only [hb,yi] at h;exact next h
   |true=>simp only [hb,yg,z8,jI] at h;obtain ⟨rfl,rfl,rfl,rfl,rfl⟩:=h;have:=zo hb;subst this;exact ⟨rfl,hop,hg⟩
  ·exact next h
theorem At {s:St} {c:Nat} {v:Bool} (h:zd s (.tmp c)=some v) {d:Option Nat} {a:A} (hd:d≠some c):zd (s.put d a) (.tmp c)=some v:=by
 cases d with
 |none=>exact h
 |some d=>
  have hne:d≠c:=fun e=>hd (by rw [e]);have:(s.put (some d) a).Yw (.tmp c)=s.Yw (.tmp c):=by simp [St.put,St.Yw,Zr,eQ hne]
  rw [zd,this];exact h
theorem oT {s:St} {c:Nat} {v:Bool}:zd s (.tmp c)=some v↔s.t[c]? =some (.val .bool v):=by
 unfold zd;simp only [St.Yw,Zr];constructor
 ·intro h;split at h
  ·rename_i b hb;injection h with h;subst h;cases ht:s.t[c]? with
   |none=>simp [ht] at hb
   |some x=>simpa [ht] using hb
  ·cases h
 ·intro h;simp [h]
theorem tK {s:St} {c:Nat} {v:Bool} (h:zd s (.tmp c)=some v) (i:Nat):zd (s.forget i) (.tmp c)=some v:=by rw [oT] at*;show (zv i s.t)[c]? =_;rw [V5,h];rfl
theorem lJ {c:Nat} {v:Bool}: ∀ (M:List Nat) {s:St},zd s (.tmp c)=some v→zd (s.yA M) (.tmp c)=some v
 |[],_,h=>h
 |i::M,s,h=>lJ M (tK h i)
theorem D5 {c:Nat} {v:Bool}: ∀ (D:List Nat) {s:St},zd s (.tmp c)=some v→c∉D→zd (Yi s D) (.tmp c)=some v
 |[],_,h,_=>h
 |d::D,s,h,hc=>by simp only [yR,not_or] at hc;exact D5 D (At h (fun e=>hc.1 (by injection e with e;exact e.symm))) hc.2
theorem Su {s:St} {c:Nat} {v:Bool} (h:zd s (.tmp c)=some v) (i:Nat) (x:Ob):zd (s.make i x) (.tmp c)=some v:=tK h i
theorem oU {c:Nat} {v:Bool}: ∀ (l:List (Nat×Ob)) {s:St},zd s (.tmp c)=some v→zd (s.makeAll l) (.tmp c)=some v
 |[],_,h=>h
 |(i,x)::l,s,h=>oU l (Su h i x)
theorem tL {c:Nat} {v:Bool}: ∀ (l:List (Nat×Ob)) {s:St},zd s (.tmp c)=some v→zd (s.yB l) (.tmp c)=some v
 |[],_,h=>h
 |(i,x)::l,s,h=>tL l (s:=s.set i x) h
theorem Au {s:St} {c:Nat} {v:Bool} (h:zd s (.tmp c)=some v) {d:Option Nat} (e:Eff) (hd:d≠some c):zd (s.apply d e) (.tmp c)=some v:=At (tL _ (oU _ h)) hd
theorem ES (s:St) (d:Option Nat) (a:A):(s.put d a).t.length=s.t.length:=by cases d<;>simp [St.put]
theorem GW: ∀ (D:List Nat) (s:St),(Yi s D).t.length=s.t.length
 |[],_=>rfl
 |d::D,s=>by rw [Yi,GW D,ES]
theorem nr: ∀ (M:List Nat) (s:St),(s.yA M).t.length=s.t.length
 |[],_=>rfl
 |i::M,s=>by rw [St.yA,nr M];exact Vt i s.t
theorem tM: ∀ (l:List (Nat×Ob)) (s:St),(s.makeAll l).t.length=s.t.length
 |[],_=>rfl
 |(i,x)::l,s=>by rw [St.makeAll,tM l];exact Vt i s.t
theorem Sv (s:St) (d:Option Nat) (e:Eff):(s.apply d e).t.length=s.t.length:=by rw [St.apply,ES,Ah,tM]
theorem Uy {s:St} {ctx:List (Nat×Bool)} (lK: ∀ p∈ctx,zd s (.tmp p.1)=some p.2) {x:Wf} (hg:(strip ctx x).g=none):met s.F x.g=true:=by
 rcases Ar hg with h|⟨p,hp,h⟩
 ·rw [h];rfl
 ·rw [h];have:=lK p hp;simp [met,nY,this]
def FS.lL (z:FS):List Nat→FS
 |[]=>z
 |d::r=>(z.put (some d) .und).lL r
theorem FS.Av {M D:List Nat}: ∀ (D':List Nat) (z:FS),(∀ d∈D',d∈D)→((z.lL D').yA M).kill D=(z.yA M).kill D
 |[],_,_=>rfl
 |d::D',z,h=>by rw [FS.lL,FS.Av D' _ (fun e he=>h e (by simp [he])),FS.Ao];exact h d (by simp)
theorem FS.lM {x:Operand}: ∀ (D:List Nat) (z:FS),(∀ j∈D,x≠ .tmp j)→(z.lL D).bool x=z.bool x
 |[],_,_=>rfl
 |d::D,z,h=>by
  rw [FS.lL,FS.lM D _ (fun j hj=>h j (by simp [hj]))];have:(z.put (some d) .und).Yw x=z.Yw x:=by
   cases x with
   |tmp j=>have hne:d≠j:=fun e=>h d (by simp) (by rw [e]);simp [FS.Yw,FS.put,Zr,eQ hne]
   |_=>rfl
  unfold FS.bool;rw [this]
theorem Uz {s:St} {u:Bool} {x:Operand}: ∀ {D:List Nat},zd (Yi s D) x=some u→(∀ j∈D,x≠ .tmp j)∧zd s x=some u:=by
 intro D;induction D generalizing s with
 |nil=>exact fun h=>⟨fun j hj=>by simp at hj,h⟩
 |cons d D ih=>
  intro h;obtain ⟨h1,h2⟩:=ih h;have hd:x≠ .tmp d:=by
   rintro rfl;rw [oT] at h2;simp only [St.put] at h2;by_cases hl:d<s.t.length
   ·rw [nM hl] at h2;injection h2 with h2;cases h2
   ·rw [uH (by simpa using Nat.le_of_not_lt hl)] at h2;cases h2
  refine ⟨fun j hj=> ?_,?_⟩
  ·rcases yR.1 hj with rfl|hj
   ·exact hd
   ·exact h1 j hj
  ·cases x with
   |tmp j=>
    have hne:d≠j:=fun e=>hd (by rw [e]);have:(s.put (some d) .dead).Yw (.tmp j)=s.Yw (.tmp j):=by simp [St.put,St.Yw,Zr,eQ hne]
    rw [zd,this] at h2;exact h2
   |_=>exact h2
theorem skips {n c:Nat} {want v:Bool} (hv:v≠want) (ctx:List (Nat×Bool)): ∀ (ni:List Wf) (ds:List Nat) (z:FS),ak n c want ds (ni.map (strip ctx))=true→z.t.length=n→z.Yw (.tmp c)= .val .bool v→(∀ d∈ds,z.Yw (.tmp d)= .und)→
  JO C call (ni.map TS.skip) z=some (z.lL (dstsOf ni))∧c∉dstsOf ni:=by
 intro ni;induction ni with
 |nil=>intro ds z _ _ _ _;exact ⟨rfl,by simp [dstsOf]⟩
 |cons x ni ih=>
  intro ds z h hn hc hds;simp only [J7,ak,zzal10,gq] at h;obtain ⟨h1,h2⟩:=h;have hun:lG z x.g=true:=by
   cases hg:(strip ctx x).g with
   |none=>simp [hg] at h1
   |some p=>
    obtain ⟨c',b'⟩:=p;rw [(ML hg).1];simp only [hg,nR,zzal10] at h1;rcases h1 with ⟨h3,h4⟩|h3
    ·have:=zo h3;subst this;have:want=b':=by simpa using h4
     subst this;simp only [lG,hc];simpa using hv
    ·simp only [lG,hds c' (w6.1 h3)]
  have hstep:stepT C call (.skip x) z=some (z.put x.o.dst .und):=by simp [stepT,hun]
  rw [J7,JO,hstep,zzal0];cases hd:x.o.dst with
  |none=>simp only [hd] at h2;obtain ⟨i1,i2⟩:=ih ds z h2 hn hc hds;simp only [dstsOf,hd];exact ⟨i1,i2⟩
  |some d=>
   simp only [hd,zzal10,zzal45] at h2;have hdc:d≠c:=fun e=>by rw [e,yH] at h2;exact absurd h2.1 (by simp)
   have hold: ∀ j,j≠d→(z.put (some d) .und).Yw (.tmp j)=z.Yw (.tmp j):=fun j hj=>by simp [FS.Yw,FS.put,Zr,eQ (Ne.symm hj)]
   obtain ⟨i1,i2⟩:=ih _ (z.put (some d) .und) h2.2 (by simpa [FS.put] using hn) (by rw [hold c (Ne.symm hdc)];exact hc) (fun j hj=>by
    have new:d<n→(z.put (some d) .und).Yw (.tmp d)= .und:=fun hlt=>by simp [FS.Yw,FS.put,Zr,nM (show d<z.t.length from hn ▸ hlt)]
    cases hb:Nat.blt d n with
    |false=>
     simp only [hb,yi] at hj;by_cases hjd:j=d
     ·subst hjd;by_cases hlt:j<z.t.length
      ·exact new (hn ▸ hlt)
      ·have:=hds j hj;simp [FS.Yw,Zr,uH (Nat.le_of_not_lt hlt)] at this
     ·rw [hold j hjd];exact hds j hj
    |true=>
     simp only [hb,yg] at hj;have hlt:d<n:=WZ hb;by_cases hjd:j=d
     ·subst hjd;exact new hlt
     ·rw [hold j hjd];exact hds j ((yR.1 hj).resolve_left hjd))
   simp only [dstsOf,hd];exact ⟨i1,by simp [i2,Ne.symm hdc]⟩
structure Found (C:Ctx) (call:C.Sem) (pu:Bool) (l0:List Wf) (s:St) (T:List TS) (s':St):Prop where
 x:T.map TS.x=l0
 steps:JO C call T s.F=some s'.F
 len:s'.t.length=s.t.length
 keep: ∀ c b,c∉dstsOf l0→zd s (.tmp c)=some b→zd s' (.tmp c)=some b
 pure:pu=true→ ∀ M D,(∀ i∈Zy l0,i∈M)→(∀ d∈dstsOf l0,d∈D)→(s'.F.yA M).kill D=(s.F.yA M).kill D
theorem O0: ∀ (n:Nat) (pu:Bool) (l0:List Wf) (ctx:List (Nat×Bool)) {R:Type} (s:St) (k:St→Option R) (r:R),JZ C call pu n (l0.map (strip ctx)) s k=some r→(∀ p∈ctx,zd s (.tmp p.1)=some p.2∧p.1∉dstsOf l0)→
  ∃ T s',Found C call pu l0 s T s'∧k s'=some r:=by
 intro n;induction n with
 |zero=>
  intro pu l0 ctx R s k r h lK;cases l0 with
  |nil=>exact ⟨[],s,⟨rfl,rfl,rfl,fun _ _ _ h=>h,fun _ _ _ _ _=>rfl⟩,h⟩
  |cons x l0=>simp [JZ] at h
 |succ n ih=>
  intro pu l0 ctx R s k r h lK;cases l0 with
  |nil=>exact ⟨[],s,⟨rfl,rfl,rfl,fun _ _ _ h=>h,fun _ _ _ _ _=>rfl⟩,h⟩
  |cons x0 r0=>
   rw [J7,JZ] at h;cases hg:(strip ctx x0).g with
   |none=>
    simp only [hg] at h;have hmet:=Uy (fun p hp=>(lK p hp).1) hg;have key: ∃ e,Yg C call (Nat.beq x0.hn 2) (Nat.beq x0.hn 3) x0.o s.Yw (x0.see (look s.o)) some=some e∧x0.ok (x0.see (look s.o)) e=true∧(pu=true→isNil e.sets=true)∧JZ C call pu n (r0.map (strip ctx)) (s.apply x0.o.dst e) k=some r:=by
     cases pu with
     |true=>
      simp only [yg,yel,gq,GT,D1,GU] at h;rw [sn] at h;cases he:Yg C call (Nat.beq x0.hn 2) (Nat.beq x0.hn 3) x0.o s.Yw (x0.see (look s.o)) some with
      |none=>simp [he] at h
      |some e=>
       simp only [he,zzal0] at h;cases hok:isNil e.sets&&x0.ok (x0.see (look s.o)) e with
       |false=>simp [hok] at h
       |true=>simp only [hok,yg] at h;simp only [zzal10] at hok;exact ⟨e,rfl,hok.2,fun _=>hok.1,h⟩
     |false=>
      simp only [yi,yek,gq,GT,D1,GU] at h;rw [sn] at h;cases he:Yg C call (Nat.beq x0.hn 2) (Nat.beq x0.hn 3) x0.o s.Yw (x0.see (look s.o)) some with
      |none=>simp [he] at h
      |some e=>
       simp only [he,zzal0] at h;cases hok:x0.ok (x0.see (look s.o)) e with
       |false=>simp [hok] at h
       |true=>simp only [hok,yg] at h;exact ⟨e,rfl,hok,fun hp=>(by cases hp),h⟩
    obtain ⟨e,he,hok,hnil,h'⟩:=key;have hd0: ∀ c,c∉dstsOf (x0::r0)→x0.o.dst≠some c∧c∉dstsOf r0:=fun c hc=>by
     simp only [dstsOf] at hc;split at hc
     ·rename_i d hd;simp only [yR,not_or] at hc;exact ⟨fun h=>hc.1 (by rw [hd] at h;injection h with h;exact h.symm),hc.2⟩
     ·rename_i hd;exact ⟨fun h=>(by rw [hd] at h;cases h),hc⟩
    obtain ⟨T,s',hf,hk⟩:=ih pu r0 ctx (s.apply x0.o.dst e) k r h' (fun p hp=>⟨Au (lK p hp).1 e (hd0 _ (lK p hp).2).1,(hd0 _ (lK p hp).2).2⟩);refine ⟨.run x0::T,s',⟨by simp [TS.x,hf.x],?_,hf.len.trans (Sv s _ e),fun c b hc hb=>hf.keep c b (hd0 c hc).2 (Au hb e (hd0 c hc).1),fun hp M D hM hD=> ?_⟩,hk⟩
    ·have:stepT C call (.run x0) s.F=some (s.apply x0.o.dst e).F:=by
      simp only [stepT,hmet,yo,N_];rw [show s.F.lk=look s.o from rfl,he,zzal0,y0 hok,EQ]
     rw [JO,this,zzal0];exact hf.steps
    ·have hsub:=hf.pure hp M D (fun i hi=>hM i (by simp [Zy,hi])) (fun d hd=>hD d (by simp only [dstsOf];split<;>simp [hd]));rw [hsub,EQ];refine FS.MJ (hnil hp) (fun i hi=>hM i ?_) ?_
     ·have hs:Gg (yN e.adds) x0.mine=true:=by
       unfold Wf.ok at hok;simp only [zzal10] at hok;exact hok.1.2
      have: ∀ (X Y:List Nat),Gg X Y=true→ ∀ i∈X,i∈Y:=by
       intro X;induction X with
       |nil=>intro Y _ i hi;simp at hi
       |cons j X ihX=>
        intro Y h i hi;simp only [Gg,zzal10] at h;rcases yR.1 hi with rfl|hi
        ·exact w6.1 h.1
        ·exact ihX Y h.2 i hi
      simp [Zy,this _ _ hs i hi]
     ·cases hd:x0.o.dst with
      |none=>trivial
      |some d=>exact hD d (by simp [dstsOf,hd])
   |some p=>
    obtain ⟨c,want⟩:=p;simp only [hg] at h;cases hv:zd s (.tmp c) with
    |none=>simp [hv] at h
    |some v=>
     cases hsp:V3 c [] (strip ctx x0::r0.map (strip ctx)) with
     |none=>simp [hv,hsp] at h
     |some q=>
      obtain ⟨ni,p,a,b,rest⟩:=q;simp only [hv,hsp] at h;obtain ⟨hsplit,hop,hpg⟩:=lI c _ _ _ _ _ _ _ hsp;rw [List.reverse_nil,jj,← J7] at hsplit;obtain ⟨Zp,l1,hl0,rfl,hl1⟩:=List.map_eq_append_iff.1 hsplit;obtain ⟨p0,Va,rfl,rfl,rfl⟩:=List.map_eq_cons_iff.1 hl1;cases hau:ak s.t.length c want [] (Zp.map (strip ctx)) with
      |false=>simp [hau] at h
      |true=>
       simp only [hau,yg,oS,nq,gq,As] at h;rw [hl0];rw [hl0] at lK;have yk8:s.Yw (.tmp c)= .val .bool v:=by have:=oT.1 hv;simp [St.Yw,this]
       have hcD:c∉dstsOf Zp:=by
        have: ∀ (ds:List Nat) (l:List Wf),ak s.t.length c want ds (l.map (strip ctx))=true→c∉dstsOf l:=by
         intro ds l;induction l generalizing ds with
         |nil=>intro _;simp [dstsOf]
         |cons y l ihl=>
          intro h;simp only [J7,ak,zzal10,gq] at h;cases hd:y.o.dst with
          |none=>simp only [hd] at h;simp only [dstsOf,hd];exact ihl _ h.2
          |some d=>simp only [hd,zzal10,zzal45] at h;simp only [dstsOf,hd,yR,not_or];refine ⟨fun e=> ?_,ihl _ h.2.2⟩;rw [e,yH] at h;exact absurd h.2.1 (by simp)
        exact this [] Zp hau
       have hin: ∀ d,d∉dstsOf (Zp++p0::Va)→d∉dstsOf Zp∧p0.o.dst≠some d∧d∉dstsOf Va:=fun d hd=>by
        rw [KG,zB,not_or] at hd;refine ⟨hd.1,?_⟩;have:=hd.2;simp only [dstsOf] at this;split at this
        ·rename_i e he;simp only [yR,not_or] at this;exact ⟨fun h=>this.1 (by rw [he] at h;injection h with h;exact h.symm),this.2⟩
        ·rename_i he;exact ⟨fun h=>(by rw [he] at h;cases h),this⟩
       have GX:Zy (Zp++p0::Va)=Zy Zp++(p0.mine++Zy Va):=by rw [lH];rfl
       have hpD: ∀ D:List Nat,(∀ d∈dstsOf (Zp++p0::Va),d∈D)→inD D p0.o.dst:=fun D hD=>by
        cases hd:p0.o.dst with
        |none=>trivial
        |some d=>exact hD d (by rw [KG];simp [dstsOf,hd])
       rw [gq] at hop;have join: ∀ (M:List Nat) (T1:List TS) (z1:FS) (u:Bool) (s2:St),(∀ i∈M,i∈Zy Zp)→T1.map TS.x=Zp→JO C call T1 s.F=some z1→met z1 p0.g=true→z1.bool (.tmp c)=some v→z1.bool (if v then a else b)=some u→s2.F=((z1.yA M).kill (dstsOf Zp)).put p0.o.dst (.val .bool u)→s2.t.length=s.t.length→
         (∀ c b,c∉dstsOf (Zp++p0::Va)→zd s (.tmp c)=some b→zd s2 (.tmp c)=some b)→(pu=true→ ∀ M' D,(∀ i∈Zy Zp,i∈M')→(∀ d∈dstsOf Zp,d∈D)→(z1.yA M').kill D=(s.F.yA M').kill D)→
         JZ C call pu n (Va.map (strip ctx)) s2 k=some r→ ∃ T s',Found C call pu (Zp++p0::Va) s T s'∧k s'=some r:=by
        intro M T1 z1 u s2 hM hx hst hm hbc hbu hs2 hlen hkeep hpure hev;obtain ⟨T,s',hf,hk⟩:=ih pu Va ctx s2 k r hev (fun q hq=>⟨hkeep _ _ (lK q hq).2 (lK q hq).1,(hin _ (lK q hq).2).2.2⟩);refine ⟨T1++ .pick p0 M (dstsOf Zp)::T,s',⟨by simp [hx,TS.x,hf.x],?_,hf.len.trans hlen,fun c' b' hc' hb'=>hf.keep c' b' (hin c' hc').2.2 (hkeep c' b' hc' hb'),fun hp M' D hM' hD=> ?_⟩,hk⟩
        ·rw [np,hst,zzal0,JO];have:stepT C call (.pick p0 M (dstsOf Zp)) z1=some s2.F:=by
          simp only [stepT,hm,yo,hop,hbc,hbu,zzal0];rw [hs2]
         rw [this,zzal0];exact hf.steps
        ·have hD1: ∀ d∈dstsOf Zp,d∈D:=fun d hd=>hD d (by rw [KG];simp [hd]);rw [hf.pure hp M' D (fun i hi=>hM' i (by rw [GX];simp [hi])) (fun d hd=>hD d (by rw [KG];simp only [dstsOf];split<;>simp [hd])),hs2,FS.Ao (hpD D hD),FS.Ss hD1,FS.Aq (fun i hi=>hM' i (by rw [GX];simp [hM i hi]))];exact hpure hp M' D (fun i hi=>hM' i (by rw [GX];simp [hi])) hD1
       have y5p: ∀ p∈(c,v)::ctx,zd s (.tmp p.1)=some p.2∧p.1∉dstsOf Zp:=fun p hp=>by
        rcases yR.1 hp with rfl|hp
        ·exact ⟨hv,hcD⟩
        ·exact ⟨(lK p hp).1,(hin _ (lK p hp).2).1⟩
       have CT: ∀ (M:List Nat) (s1:St) (u:Bool),s1.t.length=s.t.length→((Yi (s1.yA M) (dstsOf Zp)).put p0.o.dst (.val .bool u)).t.length=s.t.length:=fun M s1 u h=>by rw [ES,GW,nr,h]
       have hF2: ∀ (M:List Nat) (s1:St) (u:Bool),((Yi (s1.yA M) (dstsOf Zp)).put p0.o.dst (.val .bool u)).F=((s1.F.yA M).kill (dstsOf Zp)).put p0.o.dst (.val .bool u):=fun M s1 u=>by rw [GQ,MH,dX]
       have MM: ∀ (M:List Nat) (s1:St) (u:Bool),(∀ c b,c∉dstsOf Zp→zd s (.tmp c)=some b→zd s1 (.tmp c)=some b)→ ∀ c b,c∉dstsOf (Zp++p0::Va)→zd s (.tmp c)=some b→zd ((Yi (s1.yA M) (dstsOf Zp)).put p0.o.dst (.val .bool u)) (.tmp c)=some b:=fun M s1 u h c' b' hc' hb'=>
        At (D5 _ (lJ M (h c' b' (hin c' hc').1 hb')) (hin c' hc').1) (hin c' hc').2.1
       have meet: ∀ (M:List Nat) (pu1:Bool) (T1:List TS) (s1 s2:St) (u:Bool),(∀ i∈M,i∈Zy Zp)→(pu=true→pu1=true)→Found C call pu1 Zp s T1 s1→zd s1 (if v then a else b)=some u→s2.F=((s1.F.yA M).kill (dstsOf Zp)).put p0.o.dst (.val .bool u)→s2.t.length=s.t.length→(∀ c b,c∉dstsOf (Zp++p0::Va)→zd s (.tmp c)=some b→zd s2 (.tmp c)=some b)→
         JZ C call pu n (Va.map (strip ctx)) s2 k=some r→ ∃ T s',Found C call pu (Zp++p0::Va) s T s'∧k s'=some r:=by
        intro M pu1 T1 s1 s2 u hM hpp hf hbu hs2 hl2 hk2 hev;refine join M T1 s1.F u s2 hM hf.x hf.steps (Uy (fun p hp=>hf.keep _ _ (hin _ (lK p hp).2).1 (lK p hp).1) hpg) (by rw [nY];exact hf.keep _ _ hcD hv) (by rw [nY];exact hbu) hs2 hl2 hk2 (fun hp M' D hM' hD=>hf.pure (hpp hp) M' D hM' hD) hev
       have miss: ∀ (M:List Nat) (u:Bool),v≠want→(∀ i∈M,i∈Zy Zp)→zd (Yi s (dstsOf Zp)) (if v then a else b)=some u→JZ C call pu n (Va.map (strip ctx)) ((Yi (s.yA M) (dstsOf Zp)).put p0.o.dst (.val .bool u)) k=some r→ ∃ T s',Found C call pu (Zp++p0::Va) s T s'∧k s'=some r:=by
        intro M u hvw hM hbu hev;obtain ⟨hs,_⟩:=skips (C:=C) (call:=call) hvw ctx Zp [] s.F hau rfl (by rw [N_];exact yk8) (by simp);obtain ⟨hn,hb0⟩:=Uz hbu;have hbk: ∀ c' b',c'∉dstsOf Zp→zd s (.tmp c')=some b'→(s.F.lL (dstsOf Zp)).bool (.tmp c')=some b':=fun c' b' hc' hb'=>by rw [FS.lM _ _ (fun j hj e=>hc' (by injection e with e;rw [e];exact hj)),nY];exact hb'
        refine join M (Zp.map TS.skip) (s.F.lL (dstsOf Zp)) u _ hM (by simp [List.map_map,Function.comp_def,TS.x]) hs ?_ (hbk c v hcD hv) (by rw [FS.lM _ _ hn,nY];exact hb0) ?_ (CT M s u rfl) (MM M s u fun _ _ _ h=>h) (fun hp M' D hM' hD=>FS.Av _ _ hD) hev
        ·rcases Ar hpg with h|⟨q,hq,h⟩
         ·rw [h];rfl
         ·rw [h];have:=hbk q.1 q.2 (hin _ (lK q hq).2).1 (lK q hq).1;simp [met,this]
        ·rw [hF2,FS.Av _ _ (fun d hd=>hd)]
       have sets: ∀ (x y:Operand),(v=want→(if v then a else b)=x)→(v≠want→(if v then a else b)=y)→(bif v==want then JZ C call pu n (Zp.map (strip ((c,want)::ctx))) s fun s1=>match zd s1 x with
          |some u=>JZ C call pu n (Va.map (strip ctx)) ((Yi s1 (dstsOf Zp)).put p0.o.dst (.val .bool u)) k
          |none=>none
         else match zd (Yi s (dstsOf Zp)) y with
          |some u=>JZ C call pu n (Va.map (strip ctx)) ((Yi s (dstsOf Zp)).put p0.o.dst (.val .bool u)) k
          |none=>none)=some r→ ∃ T s',Found C call pu (Zp++p0::Va) s T s'∧k s'=some r:=by
        intro x y hx hy h;by_cases hvw:v=want
        ·subst hvw;simp only [g9,yg] at h;obtain ⟨T1,s1,hf,hk⟩:=ih pu Zp ((c,v)::ctx) s _ r h y5p;cases hbu:zd s1 x with
         |none=>simp [hbu] at hk
         |some u=>simp only [hbu] at hk;exact meet [] pu T1 s1 _ u (by simp) id hf (by rw [hx rfl];exact hbu) (hF2 [] s1 u) (CT [] s1 u hf.len) (MM [] s1 u hf.keep) hk
        ·have hb:(v==want)=false:=by simpa using hvw
         simp only [hb,yi] at h;cases hbu:zd (Yi s (dstsOf Zp)) y with
         |none=>simp [hbu] at h
         |some u=>simp only [hbu] at h;exact miss [] u hvw (by simp) (by rw [hy hvw];exact hbu) h
       have pure: ∀ (x y:Operand),(v=want→(if v then a else b)=x)→(v≠want→(if v then a else b)=y)→((bif v==want then JZ C call true n (Zp.map (strip ((c,want)::ctx))) s fun s1=>zd s1 x else zd (Yi s (dstsOf Zp)) y).bind fun u=>
          JZ C call pu n (Va.map (strip ctx)) ((Yi (s.yA (Zy Zp)) (dstsOf Zp)).put p0.o.dst (.val .bool u)) k)=some r→ ∃ T s',Found C call pu (Zp++p0::Va) s T s'∧k s'=some r:=by
        intro x y hx hy h;by_cases hvw:v=want
        ·subst hvw;simp only [g9,yg] at h;cases hu:(JZ C call true n (Zp.map (strip ((c,v)::ctx))) s fun s1=>zd s1 x) with
         |none=>rw [hu] at h;cases h
         |some u=>rw [hu,zzal0] at h;obtain ⟨T1,s1,hf,hk⟩:=ih true Zp ((c,v)::ctx) s _ u hu y5p;exact meet (Zy Zp) true T1 s1 _ u (fun _ h=>h) (fun _=>rfl) hf (by rw [hx rfl];exact hk) (by rw [hF2,hf.pure rfl _ _ (fun _ h=>h) (fun _ h=>h)]) (CT _ s u rfl) (MM _ s u fun _ _ _ h=>h) h
        ·have hb:(v==want)=false:=by simpa using hvw
         simp only [hb,yi] at h;cases hbu:zd (Yi s (dstsOf Zp)) y with
         |none=>rw [hbu] at h;cases h
         |some u=>rw [hbu,zzal0] at h;exact miss _ u hvw (fun _ h=>h) (by rw [hy hvw];exact hbu) h
       cases hset:(Zp.map (strip ctx)).any fun y=>y5j C y.o|| !Nat.beq y.hn 0 with
       |true=>
        simp only [hset,yg] at h;cases want with
        |true=>exact sets a b (fun e=>by rw [e];rfl) (fun e=>by cases v<;>simp at e ⊢) (by cases v<;>exact h)
        |false=>exact sets b a (fun e=>by rw [e];rfl) (fun e=>by cases v<;>simp at e ⊢) (by cases v<;>exact h)
       |false=>
        simp only [hset,yi] at h;cases want with
        |true=>exact pure a b (fun e=>by rw [e];rfl) (fun e=>by cases v<;>simp at e ⊢) (by cases v<;>exact h)
        |false=>exact pure b a (fun e=>by rw [e];rfl) (fun e=>by cases v<;>simp at e ⊢) (by cases v<;>exact h)
end
section
variable {P:Program} {C:Ctx} {w0:World} {yu:Nat→Prop} {H0:Base} {s:St} {a:Act} {w:World} {G:Gh} {call:C.Sem} {ops:Array Oper} {K:Act→World→Prop} {Q:Exit→Act→World→Prop}
theorem Rel.kill (h:Rel P w0 yu H0 s a w G) (d:Nat):Rel P w0 yu H0 (s.put (some d) .dead) a w G:=by
 refine {h with defers:=h.defers,len:=by simpa [St.put] using h.len,slots:=fun i y hy=> ?_};have hy':(s.t.set d .dead)[i]? =some y:=hy;by_cases hi:i=d
 ·subst hi;have hlt:i<s.t.length:=by
   have:=(ZF.1 hy').1;simpa using this
  rw [nM hlt] at hy';injection hy' with hy';subst hy';trivial
 ·rw [eQ (Ne.symm hi)] at hy';exact h.slots i y hy'
theorem Rel.kills: ∀ (D:List Nat) {s:St},Rel P w0 yu H0 s a w G→Rel P w0 yu H0 (Yi s D) a w G
 |[],_,h=>h
 |d::D,_,h=>Rel.kills D (h.kill d)
theorem Agree.refl (G:Gh) (i:Nat):Agree G G i:=⟨Hp.le.refl _,fun _ _=>rfl,fun _ _=>rfl,fun _ _=>rfl,rfl⟩
theorem Rel.forgets: ∀ (M:List Nat) {s:St},Rel P w0 yu H0 s a w G→Rel P w0 yu H0 (s.yA M) a w G
 |[],_,h=>h
 |i::M,_,h=>Rel.forgets M (h.forget (Agree.refl G i) rfl)
theorem Aw (h:Rel P w0 yu H0 s a w G) {c:Nat} {x:A} (hx:s.t[c]? =some x): ∃ v,a.tmps[c]? =some v∧RA G x v:=by have hlt:c<a.tmps.size:=oz (ZF.1 hx).1 h.len;have:=h.slots c x hx;rw [fZ] at this;rw [Array.getElem?_eq_getElem hlt] at this ⊢;exact ⟨_,rfl,this⟩
theorem O1 {s:St} {c:Nat} {x:A} (hx:s.F.Yw (.tmp c)=x) (hne:x≠ .dead):s.t[c]? =some x:=by
 have hx':s.t.getD c .dead=x:=hx;rcases NR hx' with h|h
 ·exact h
 ·exact absurd h hne
theorem Ax (h:Rel P w0 yu H0 s a w G) {o:Oper} {g:Option (Nat×Bool)} (hg:guardOf ops o=some g) (hm:met s.F g=true):Region.wanted o (yielded ops a.tmps)=true:=by
 unfold guardOf at hg;unfold Region.wanted;cases ho:o.guard with
 |none=>rfl
 |some p=>
  obtain ⟨j,want⟩:=p;simp only [ho] at hg ⊢;cases hj:ops[j]? with
  |none=>simp [hj] at hg
  |some q=>
   simp only [hj] at hg;cases hd:q.dst with
   |none=>simp [hd] at hg
   |some d=>
    simp only [hd,z8] at hg;subst hg;have hb:s.F.bool (.tmp d)=some want:=by simpa [met] using hm
    rw [nY,oT] at hb;obtain ⟨v,hv,hr⟩:=Aw h hb;have hr':v= .bool want:=hr;subst hr';simp [yielded,hj,hd,hv]
theorem ET (h:Rel P w0 yu H0 s a w G) {o:Oper} {g:Option (Nat×Bool)} (hg:guardOf ops o=some g) (hm:lG s.F g=true):Region.wanted o (yielded ops a.tmps)=false:=by
 unfold guardOf at hg;unfold Region.wanted;cases ho:o.guard with
 |none=>simp only [ho,z8] at hg;subst hg;simp [lG] at hm
 |some p=>
  obtain ⟨j,want⟩:=p;simp only [ho] at hg ⊢;cases hj:ops[j]? with
  |none=>simp [hj] at hg
  |some q=>
   simp only [hj] at hg;cases hd:q.dst with
   |none=>simp [hd] at hg
   |some d=>
    simp only [hd,z8] at hg;subst hg;unfold lG at hm;split at hm
    ·cases hm
    ·rename_i c v hcv;injection hcv with hcv;injection hcv with e1 e2;subst e1 e2;split at hm
     ·rename_i b hb;obtain ⟨u,hv,hr⟩:=Aw h (O1 hb (by simp));have hr':u= .bool b:=hr;subst hr';have hne: ∀ x y:Bool,(x !=y)=true→((some x:Option Bool)==some y)=false:=by decide
      have:=hne b want hm;simp only [yielded,hj,hd,zzal0,hv];exact this
     ·rename_i hb;obtain ⟨u,hv,hr⟩:=Aw h (O1 hb (by simp));have hr':u=undef:=hr;subst hr';simp [yielded,hj,hd,hv,undef]
     ·cases hm
theorem UA (x:Wf) (s:St):dS (x.see (look s.o)) s:=by
 intro i ob h;unfold Wf.see at h;cases hb:Jj x.bad i with
 |true=>simp [hb] at h
 |false=>
  simp only [hb,yi] at h;split at h
  ·cases h
  ·cases hl:look s.o i with
   |none=>simp [hl] at h
   |some y=>cases y<;>simp [hl] at h ⊢ <;>exact h
  ·cases hl:look s.o i with
   |none=>simp [hl] at h
   |some y=>cases y<;>simp [hl] at h ⊢ <;>exact h
  ·exact h
theorem Ay (hT:Jl C P) (hC:Contract H0 C P call) {i:Nat} {t:TS} (hout:Out t.x.o) (hi:ops[i]? =some t.x.o) (hg:guardOf ops t.x.o=some t.x.g) (h:Rel P w0 yu H0 s a w G) {z:FS} (hs:stepT C call t s.F=some z)
  (hK: ∀ s' a' w' G',s'.F=z→Rel P w0 yu H0 s' a' w' G'→K a' w'):wpOp P ops Q i K a w:=by
 unfold wpOp;rw [hi];dsimp only;cases t with
 |run x=>
  simp only [stepT] at hs;split at hs
  ·rename_i hm;rw [y0 (Ax h hg hm)];refine .inl ?_;rw [N_] at hs;rw [← sn] at hs;refine Uv hT hC h (fun e a1 w1 G1 hk hr=>hK _ a1 w1 G1 ?_ hr) hout (UA x s) hs;split at hk
   ·injection hk with hk;rw [EQ];exact hk
   ·cases hk
  ·cases hs
 |skip x=>
  simp only [stepT] at hs;split at hs
  ·rename_i hm;rw [y9 (by rw [ET h hg hm];simp)];injection hs with hs;exact hK (s.put x.o.dst .und) _ _ G (by rw [GQ];exact hs) (h.put x.o.dst rfl)
  ·cases hs
 |pick x M D=>
  simp only [stepT] at hs;split at hs
  ·rename_i hm;rw [y0 (Ax h hg hm)];refine .inl ?_;split at hs
   ·rename_i c x1 x2 hop;cases hc:s.F.bool c with
    |none=>simp [hc] at hs
    |some v=>
     cases hu:s.F.bool (if v then x1 else x2) with
     |none=>simp [hc,hu] at hs
     |some u=>
      simp only [hc,hu,zzal0,z8] at hs;have hb: ∀ (y:Operand) (b:Bool),s.F.bool y=some b→a.eval y= .bool b:=fun y b hy=>by
       rw [nY] at hy;have hr:=h.Yw y;unfold zd at hy;split at hy
       ·rename_i b' hb';injection hy with hy;subst hy;rw [hb'] at hr;exact hr
       ·cases hy
      have hrun:(execOp a.eval x.o).run P w= .ok (.value (.bool u)) w:=by
       have h1:=hb c v hc;have h2:=hb _ u hu;simp only [execOp,hop,h1];cases v with
       |true=>simp only [yo] at h2;simp [asBool,h2]
       |false=>simp only [J6,zP] at h2;simp [asBool,h2]
      refine jM hrun (hK ((Yi (s.yA M) D).put x.o.dst (.val .bool u)) _ _ G ?_ (((h.forgets M).kills D).put x.o.dst rfl));rw [GQ,MH,dX];exact hs
   ·cases hs
  ·cases hs
def Fits (ops:Array Oper) (L:List Wf):Prop:=L.length=ops.size∧ ∀ (i:Nat) (x:Wf),L[i]? =some x→ops[i]? =some x.o∧guardOf ops x.o=some x.g
theorem run_text (hT:Jl C P) (hC:Contract H0 C P call) (hout: ∀ (i:Nat) (o:Oper),ops[i]? =some o→Out o) {z:FS} (hQ: ∀ s' a' w' G',s'.F=z→Rel P w0 yu H0 s' a' w' G'→Q .normal a' w'): ∀ (T:List TS) (i:Nat) {s:St} {a:Act} {w:World} {G:Gh},(∀ (j:Nat) (t:TS),T[j]? =some t→ops[i+j]? =some t.x.o∧guardOf ops t.x.o=some t.x.g)→
  Rel P w0 yu H0 s a w G→JO C call T s.F=some z→wpOps P ops Q (List.range' i T.length) a w
 |[],i,s,a,w,G,hf,h,hs=>by injection hs with hs;exact hQ s a w G hs h
 |t::T,i,s,a,w,G,hf,h,hs=>by
  rw [JO] at hs;cases hz:stepT C call t s.F with
  |none=>simp [hz] at hs
  |some z1=>rw [hz,zzal0] at hs;rw [yp,List.range'_succ,wpOps_cons];have h0:=hf 0 t rfl;refine Ay hT hC (hout _ _ h0.1) h0.1 h0.2 h hz fun s' a' w' G' hF hr=> ?_;refine run_text hT hC hout hQ T (i+1) (fun j t hj=> ?_) hr (by rw [hF];exact hs);have:=hf (j+1) t (by simpa using hj);rw [show i+(j+1)=i+1+j by omega] at this;exact this
theorem strip_nil (l:List Wf):l.map (strip [])=l:=by
 have:strip []=id:=funext fun x=>by
  unfold strip;split
  ·simp
  ·rfl
 rw [this,List.map_id]
theorem GY (hT:Jl C P) (hC:Contract H0 C P call) (hout: ∀ (i:Nat) (o:Oper),ops[i]? =some o→Out o) {L:List Wf} (hfit:Fits ops L) {R:Type} {k:St→Option R} {r:R} {n:Nat} (h:Rel P w0 yu H0 s a w G) (he:JZ C call false n L s k=some r)
  (hQ: ∀ s' a' w' G',k s'=some r→Rel P w0 yu H0 s' a' w' G'→Q .normal a' w'):wpOps P ops Q (List.range ops.size) a w:=by
 obtain ⟨T,s',hf,hk⟩:=O0 n false L [] s k r (by rw [strip_nil];exact he) (by simp);have hlen:T.length=ops.size:=by rw [← hfit.1,← hf.x,wV]
 rw [List.range_eq_range',← hlen];refine run_text hT hC hout (z:=s'.F) (fun s2 a2 w2 G2 hF hr=>hQ s' a2 w2 G2 hk ?_) T 0 (fun j t hj=> ?_) h hf.steps
 ·have ht:s2.t=s'.t:=congrArg FS.t hF;have ho:look s2.o=look s'.o:=congrArg FS.lk hF;exact hr.congr ht.symm fun i=>(congrFun ho i).symm
 ·rw [WY];refine hfit.2 j t.x ?_;rw [← hf.x,cM,hj];rfl
end
section
variable {C:Ctx} {call:C.Sem} {ops:Array Oper}
structure NM (z:FS) (i:Nat):Prop where
 t:i∉Ya z.t
 lk:z.lk i=none
 ob: ∀ j x,z.lk j=some x→i∉x.ids
mutual
theorem A.nZ (i:Nat): ∀ x:A,i∉(x.forget i).ids
 | .own o=>by by_cases h:o=i<;>simp [A.forget,h,yH,yO,A.ids]<;>exact fun e=>h e.symm
 | .box b off=>by by_cases h:b=i<;>simp [A.forget,h,yH,yO,A.ids]<;>exact fun e=>h e.symm
 | .lj o _ _=>by by_cases h:o=i<;>simp [A.forget,h,yH,yO,A.ids]<;>exact fun e=>h e.symm
 | .win o _=>by by_cases h:o=i<;>simp [A.forget,h,yH,yO,A.ids]<;>exact fun e=>h e.symm
 | .tl o _=>by by_cases h:o=i<;>simp [A.forget,h,yH,yO,A.ids]<;>exact fun e=>h e.symm
 | .nc _ b=>by by_cases h:b=i<;>simp [A.forget,h,yH,yO,A.ids]<;>exact fun e=>h e.symm
 | .agg l=>by simpa [A.forget,A.ids] using aq i l
 | .oF l=>by simpa [A.forget,A.ids] using aq i l
 | .dead| .und| .val _ _| .JX| .aj| .ly _ _ _ _ _| .top _ _ _| .fn _=>by simp [A.forget,A.ids]
theorem aq (i:Nat): ∀ l:List A,i∉Ya (zv i l)
 |[]=>by simp [zv,Ya]
 |a::l=>by simp [zv,Ya,A.nZ i a,aq i l]
end
mutual
theorem A.gr (i:Nat): ∀ (x:A) (j:Nat),j∈(x.forget i).ids→j∈x.ids
 | .own o,j,h=>by by_cases h1:o=i<;>simp [A.forget,h1,yH,yO,A.ids] at h ⊢;exact h
 | .box b off,j,h=>by by_cases h1:b=i<;>simp [A.forget,h1,yH,yO,A.ids] at h ⊢;exact h
 | .lj o _ _,j,h=>by by_cases h1:o=i<;>simp [A.forget,h1,yH,yO,A.ids] at h ⊢;exact h
 | .win o _,j,h=>by by_cases h1:o=i<;>simp [A.forget,h1,yH,yO,A.ids] at h ⊢;exact h
 | .tl o _,j,h=>by by_cases h1:o=i<;>simp [A.forget,h1,yH,yO,A.ids] at h ⊢;exact h
 | .nc _ b,j,h=>by by_cases h1:b=i<;>simp [A.forget,h1,yH,yO,A.ids] at h ⊢;exact h
 | .agg l,j,h=>by simp only [A.forget,A.ids] at*;exact Vb i l j h
 | .oF l,j,h=>by simp only [A.forget,A.ids] at*;exact Vb i l j h
 | .dead,_,h| .und,_,h| .val _ _,_,h| .JX,_,h| .aj,_,h| .ly _ _ _ _ _,_,h| .fn _,_,h=>h
theorem Vb (i:Nat): ∀ (l:List A) (j:Nat),j∈Ya (zv i l)→j∈Ya l
 |[],j,h=>h
 |a::l,j,h=>by simp only [zv,Ya,zB] at*;exact h.imp (A.gr i a j) (Vb i l j)
end
theorem Ob.nZ (i:Nat) (x:Ob):i∉(x.forget i).ids:=by cases x<;>simp [Ob.forget,Ob.ids,aq i]
theorem Ob.gr (i:Nat) (x:Ob) (j:Nat) (h:j∈(x.forget i).ids):j∈x.ids:=by
 cases x with
 |box cs=>exact Vb i cs j h
 |_=>exact h
theorem NM.GZ (z:FS) (i:Nat):NM (z.forget i) i:=⟨aq i z.t,by simp [FS.forget],fun j x hx=>by
 simp only [FS.forget] at hx;split at hx
 ·cases hx
 ·obtain ⟨y,_,rfl⟩:=Ys.1 hx;exact Ob.nZ i y⟩
theorem NM.forget {z:FS} {i:Nat} (h:NM z i) (j:Nat):NM (z.forget j) i:=⟨fun hi=>h.t (Vb j z.t i hi),by simp [FS.forget,h.lk],fun m x hx hi=>by
 simp only [FS.forget] at hx;split at hx
 ·cases hx
 ·obtain ⟨y,hy,rfl⟩:=Ys.1 hx;exact h.ob m y hy (Ob.gr j y i hi)⟩
theorem NM.yA {i:Nat}: ∀ (M:List Nat) {z:FS},NM z i→NM (z.yA M) i
 |[],_,h=>h
 |j::M,_,h=>NM.yA M (h.forget j)
theorem NM.lN {i:Nat}: ∀ (M:List Nat) (z:FS),i∈M→NM (z.yA M) i
 |j::M,z,h=>by
  rcases yR.1 h with rfl|h
  ·exact NM.yA M (NM.GZ z i)
  ·exact NM.lN M _ h
theorem UB {i:Nat} (d:Nat) (a:A): ∀ l:List A,i∈Ya (l.set d a)→i∈Ya l∨i∈a.ids:=by
 intro l;induction l generalizing d with
 |nil=>intro h;simp [Ya] at h
 |cons b l ih=>
  intro h;cases d with
  |zero=>
   simp only [List.set_cons_zero,Ya,zB] at*;rcases h with h|h
   ·exact .inr h
   ·exact .inl (.inr h)
  |succ d=>
   simp only [List.set_cons_succ,Ya,zB] at*;rcases h with h|h
   ·exact .inl (.inl h)
   ·exact (ih d h).imp .inr id
theorem NM.put {z:FS} {i:Nat} (h:NM z i) (d:Option Nat) {a:A} (ha:i∉a.ids):NM (z.put d a) i:=by
 cases d with
 |none=>exact h
 |some d=>exact ⟨fun hi=>(UB d a z.t hi).elim h.t ha,h.lk,h.ob⟩
theorem NM.kill {i:Nat}: ∀ (D:List Nat) {z:FS},NM z i→NM (z.kill D) i
 |[],_,h=>h
 |d::D,_,h=>NM.kill D (h.put (some d) (by simp [A.ids]))
theorem NM.make {z:FS} {i:Nat} (h:NM z i) {j:Nat} {x:Ob} (hj:i≠j) (hx:i∉x.ids):NM (z.make j x) i:=⟨fun hi=>h.t (Vb j z.t i hi),by simp [FS.make,hj,h.lk],fun m y hy hi=>by
 simp only [FS.make] at hy;split at hy
 ·injection hy with hy;subst hy;exact hx hi
 ·obtain ⟨u,hu,rfl⟩:=Ys.1 hy;exact h.ob m u hu (Ob.gr j u i hi)⟩
theorem NM.set {z:FS} {i:Nat} (h:NM z i) {j:Nat} {x:Ob} (hx:i∉x.ids):NM (z.set j x) i:=⟨h.t,by
 simp only [FS.set];split
 ·simp [h.lk]
 ·exact h.lk,fun m y hy hi=>by
 simp only [FS.set] at hy;split at hy
 ·obtain ⟨u,hu,rfl⟩:=Ys.1 hy;exact hx hi
 ·exact h.ob m y hy hi⟩
theorem NM.makeAll {i:Nat}: ∀ (l:List (Nat×Ob)) {z:FS},NM z i→i∉dR l→NM (z.makeAll l) i
 |[],_,h,_=>h
 |(j,x)::l,_,h,hi=>by simp only [dR,yR,zB,not_or] at hi;exact NM.makeAll l (h.make hi.1 hi.2.1) hi.2.2
theorem NM.yB {i:Nat}: ∀ (l:List (Nat×Ob)) {z:FS},NM z i→i∉dR l→NM (z.yB l) i
 |[],_,h,_=>h
 |(j,x)::l,_,h,hi=>by simp only [dR,yR,zB,not_or] at hi;exact NM.yB l (h.set hi.2.1) hi.2.2
def Eff.speaks (e:Eff):List Nat:=e.a.ids++(dR e.sets++dR e.adds)
theorem NM.apply {z:FS} {i:Nat} (h:NM z i) {d:Option Nat} {e:Eff} (hi:i∉e.speaks):NM (z.apply d e) i:=by simp only [Eff.speaks,zB,not_or] at hi;exact ((h.makeAll _ hi.2.2).yB _ hi.2.1).put d hi.1
theorem FS.G_ {z:FS} {i:Nat} {x:Ob} {d:Option Nat} {a:A} (h:a.forget i=a):(z.put d a).make i x=(z.make i x).put d a:=by
 cases d with
 |none=>rfl
 |some d=>refine FS.ext ?_ rfl;show zv i (z.t.set d a)=(zv i z.t).set d a;rw [tJ,h]
theorem FS.UC {z:FS} {i j:Nat} {x y:Ob} (hij:i≠j) (h:y.forget i=y):(z.set j y).make i x=(z.make i x).set j y:=by
 refine FS.ext rfl (funext fun m=> ?_);show (if m=i then some x else (if m=j then (z.lk m).map (fun _=>y) else z.lk m).map (·.forget i))=(if m=j then (if m=i then some x else (z.lk m).map (·.forget i)).map (fun _=>y) else (if m=i then some x else (z.lk m).map (·.forget i)))
 by_cases h1:m=i
 ·subst h1;simp [hij]
 ·by_cases h2:m=j
  ·subst h2;simp only [h1,zP,yo];cases z.lk m with
   |none=>rfl
   |some u=>simp [h]
  ·simp [h1,h2]
theorem FS.Sw {z:FS} {i j:Nat} {x y:Ob} (hij:i≠j) (hx:x.forget j=x) (hy:y.forget i=y):(z.make j y).make i x=(z.make i x).make j y:=by
 refine FS.ext (kV j i z.t) (funext fun m=> ?_);show (if m=i then some x else (if m=j then some y else (z.lk m).map (·.forget j)).map (·.forget i))=(if m=j then some y else (if m=i then some x else (z.lk m).map (·.forget i)).map (·.forget j))
 by_cases h1:m=i
 ·subst h1;simp [hij,hx]
 ·by_cases h2:m=j
  ·subst h2;simp [h1,hy]
  ·simp only [h1,h2,zP];cases z.lk m with
   |none=>rfl
   |some u=>simp [Ob.V8 i j u]
theorem FS.lO {i:Nat} {x:Ob}: ∀ (S:List (Nat×Ob)) (z:FS),i∉dR S→(z.yB S).make i x=(z.make i x).yB S
 |[],_,_=>rfl
 |(j,y)::S,z,h=>by simp only [dR,yR,zB,not_or] at h;rw [FS.yB,FS.lO S _ h.2.2,FS.UC h.1 (Ob.wO y h.2.1),FS.yB]
theorem FS.oV {i:Nat} {x:Ob}: ∀ (X:List (Nat×Ob)) (z:FS),i∉dR X→(∀ j∈yN X,j∉x.ids)→(z.makeAll X).make i x=(z.make i x).makeAll X
 |[],_,_,_=>rfl
 |(j,y)::X,z,h,hx=>by simp only [dR,yR,zB,not_or] at h;rw [FS.makeAll,FS.oV X _ h.2.2 (fun m hm=>hx m (by simp [yN,hm])),FS.Sw h.1 (Ob.wO x (hx j (by simp [yN]))) (Ob.wO y h.2.1),FS.makeAll]
theorem FS.nt {d:Option Nat} {e:Eff}: ∀ (Y:List (Nat×Ob)) (z:FS),(∀ i∈yN Y,i∉e.speaks)→(∀ i∈dR Y,i∉yN e.adds)→(z.apply d e).makeAll Y=(z.makeAll Y).apply d e
 |[],_,_,_=>rfl
 |(i,x)::Y,z,h1,h2=>by
  have hi:=h1 i (by simp [yN]);simp only [Eff.speaks,zB,not_or] at hi;have hx: ∀ j∈yN e.adds,j∉x.ids:=fun j hj hm=>h2 j (by simp [dR,hm]) hj;have:(z.apply d e).make i x=(z.make i x).apply d e:=by rw [FS.apply,FS.G_ (A.wO e.a hi.1),FS.lO _ _ hi.2.1,FS.oV _ _ hi.2.2 hx,FS.apply]
  rw [FS.makeAll,this,FS.nt Y _ (fun j hj=>h1 j (by simp [yN,hj])) (fun j hj=>h2 j (by simp [dR,hj])),FS.makeAll]
theorem FS.y38 {z:FS} {j:Nat} {x:Ob} {d:Option Nat} {a:A}:(z.put d a).set j x=(z.set j x).put d a:=by cases d<;>rfl
theorem FS.n_: ∀ (S:List (Nat×Ob)) (z:FS) (d:Option Nat) (a:A),(z.put d a).yB S=(z.yB S).put d a
 |[],_,_,_=>rfl
 |(j,x)::S,z,d,a=>by rw [FS.yB,FS.y38,FS.n_ S,FS.yB]
theorem FS.EU {z:FS} {d d':Option Nat} {a a':A} (h: ∀ i,d=some i→d'≠some i):(z.put d a).put d' a'=(z.put d' a').put d a:=by
 cases d with
 |none=>cases d'<;>rfl
 |some i=>
  cases d' with
  |none=>rfl
  |some j=>exact FS.put_comm z (fun e=>h i rfl (by rw [e])) a a'
theorem FS.w8: ∀ (X S:List (Nat×Ob)) (z:FS),(∀ i∈yN X,i∉dR S)→(z.yB S).makeAll X=(z.makeAll X).yB S
 |[],_,_,_=>rfl
 |(i,x)::X,S,z,h=>by rw [FS.makeAll,FS.lO S z (h i (by simp [yN])),FS.w8 X S _ (fun j hj=>h j (by simp [yN,hj])),FS.makeAll]
theorem FS.tN: ∀ (X:List (Nat×Ob)) (z:FS) (d:Option Nat) (a:A),(∀ i∈yN X,i∉a.ids)→(z.put d a).makeAll X=(z.makeAll X).put d a
 |[],_,_,_,_=>rfl
 |(i,x)::X,z,d,a,h=>by rw [FS.makeAll,FS.G_ (A.wO a (h i (by simp [yN]))),FS.tN X _ d a (fun j hj=>h j (by simp [yN,hj])),FS.makeAll]
theorem FS.set_set {z:FS} {i j:Nat} {x y:Ob} (h:i≠j):(z.set i x).set j y=(z.set j y).set i x:=by
 refine FS.ext rfl (funext fun m=> ?_);show (if m=j then (if m=i then (z.lk m).map (fun _=>x) else z.lk m).map (fun _=>y) else (if m=i then (z.lk m).map (fun _=>x) else z.lk m))=(if m=i then (if m=j then (z.lk m).map (fun _=>y) else z.lk m).map (fun _=>x) else (if m=j then (z.lk m).map (fun _=>y) else z.lk m))
 by_cases h1:m=i
 ·subst h1;simp [h]
 ·simp [h1]
theorem FS.Az {i:Nat} {x:Ob}: ∀ (S:List (Nat×Ob)) (z:FS),i∉yN S→(z.set i x).yB S=(z.yB S).set i x
 |[],_,_=>rfl
 |(j,y)::S,z,h=>by simp only [yN,yR,not_or] at h;rw [FS.yB,FS.set_set h.1,FS.Az S _ h.2,FS.yB]
theorem FS.nu: ∀ (S S':List (Nat×Ob)) (z:FS),(∀ i∈yN S,i∉yN S')→(z.yB S).yB S'=(z.yB S').yB S
 |[],_,_,_=>rfl
 |(i,x)::S,S',z,h=>by rw [FS.yB,FS.nu S S' _ (fun j hj=>h j (by simp [yN,hj])),FS.Az S' z (h i (by simp [yN])),FS.yB]
theorem FS.H1 {z:FS} {d d':Option Nat} {e e':Eff} (hs: ∀ i∈yN e.sets,i∉yN e'.sets) (h1: ∀ i∈yN e'.adds,i∉e.speaks) (h2: ∀ i∈yN e.adds,i∉e'.speaks) (hd: ∀ i,d=some i→d'≠some i):(z.apply d e).apply d' e'=(z.apply d' e').apply d e:=by have h3: ∀ i∈dR e'.adds,i∉yN e.adds:=fun i hi hm=>h2 i hm (by simp [Eff.speaks,hi]);have h4: ∀ i∈yN e.adds,i∉e'.a.ids:=fun i hi hm=>h2 i hi (by simp [Eff.speaks,hm]);have h5: ∀ i∈yN e.adds,i∉dR e'.sets:=fun i hi hm=>h2 i hi (by simp [Eff.speaks,hm]);rw [FS.apply,FS.nt _ _ h1 h3];simp only [FS.apply];rw [FS.n_,FS.EU hd,FS.tN _ _ _ _ h4,FS.n_,FS.w8 _ _ _ h5];congr 2;exact FS.nu _ _ _ hs
end
section
variable {C:Ctx} {call:C.Sem} {ops:Array Oper}
section
variable (C:Ctx) (call:C.Sem)
def AA:TS→FS→Option Eff
 | .run x,z=>if met z x.g then (Yg C call (Nat.beq x.hn 2) (Nat.beq x.hn 3) x.o z.Yw (x.see z.lk) some).bind fun e=>if x.ok (x.see z.lk) e then some e else none else none
 | .skip x,z=>if lG z x.g then some ⟨[],[],.und⟩ else none
 | .pick _ _ _,_=>none
end
def TS.isP:TS→Bool
 | .pick _ _ _=>true
 |_=>false
theorem fw {t:TS} (ht:t.isP=false) (z:FS):stepT C call t z=(AA C call t z).map (z.apply t.x.o.dst):=by
 cases t with
 |run x=>
  simp only [stepT,AA,TS.x];split
  ·cases Yg C call (Nat.beq x.hn 2) (Nat.beq x.hn 3) x.o z.Yw (x.see z.lk) some with
   |none=>rfl
   |some e=>simp only [zzal0];split<;>rfl
  ·rfl
 |skip x=>simp only [stepT,AA,TS.x];split<;>rfl
 |pick _ _ _=>simp [TS.isP] at ht
theorem D6 {t:TS} (ht:t.isP=true) (hp:gk t.x.o=false) (z:FS):stepT C call t z=none:=by
 cases t with
 |pick x M D=>
  simp only [stepT];split
  ·split
   ·rename_i hop;simp [gk,TS.x,hop] at hp
   ·rfl
  ·rfl
 |_=>simp [TS.isP] at ht
structure O2 (x:Wf) (z:FS) (e:Eff):Prop where
 ybE:x.cls=0→e.sets=[]
 yk9:x.cls=1→lC (x.see z.lk) e.sets=true
 yka:x.cls=3→fi (x.see z.lk) e.sets=true
 ybF:x.cls=4→ ∀ i∈yN e.sets,i∈x.fp
 adds: ∀ i∈yN e.adds,i∈x.mine
 later: ∀ i∈x.later,i∉e.speaks
theorem H3: ∀ {X Y:List Nat},Gg X Y=true→ ∀ i∈X,i∈Y:=by
 intro X;induction X with
 |nil=>intro Y _ i hi;simp at hi
 |cons j X ihX=>
  intro Y h i hi;simp only [Gg,zzal10] at h;rcases yR.1 hi with rfl|hi
  ·exact w6.1 h.1
  ·exact ihX h.2 i hi
theorem AB {t:TS} {z:FS} {e:Eff} (h:AA C call t z=some e):O2 t.x z e:=by
 cases t with
 |run x=>
  simp only [AA] at h;split at h
  ·cases he:Yg C call (Nat.beq x.hn 2) (Nat.beq x.hn 3) x.o z.Yw (x.see z.lk) some with
   |none=>simp [he] at h
   |some e'=>
    simp only [he,zzal0] at h;split at h
    ·rename_i hok;injection h with h;subst h;unfold Wf.ok at hok;simp only [zzal10] at hok;refine ⟨fun hc=> ?_,fun hc=> ?_,fun hc=> ?_,fun hc=> ?_,H3 hok.1.2,fun i hi=> ?_⟩
     ·have h1:=hok.1.1;simp only [TS.x] at hc;rw [hc] at h1;cases hs:e'.sets with
      |nil=>rfl
      |cons _ _=>simp [hs,isNil] at h1
     ·have h1:=hok.1.1;simp only [TS.x] at hc;rw [hc] at h1;exact h1
     ·have h1:=hok.1.1;simp only [TS.x] at hc;rw [hc] at h1;exact h1
     ·have h1:=hok.1.1;simp only [TS.x] at hc;rw [hc] at h1;exact H3 h1
     ·have h1:=hok.2;simp only [TS.x] at hi;rcases (by simpa using h1:isNil x.later=true∨bZ x.later (e'.a.ids++(dR e'.sets++dR e'.adds))=true) with h2|h2
      ·cases hl:x.later with
       |nil=>rw [hl] at hi;simp at hi
       |cons _ _=>simp [hl,isNil] at h2
      ·exact qZ h2 i hi
    ·cases h
  ·cases h
 |skip x=>
  simp only [AA] at h;split at h
  ·injection h with h;subst h;exact ⟨fun _=>rfl,fun _=>rfl,fun _=>rfl,fun _=>by simp [yN],by simp [yN],by simp [Eff.speaks,A.ids,dR]⟩
  ·cases h
 |pick _ _ _=>simp [AA] at h
structure Loose (ops:Array Oper) (x y:Wf):Prop where
 apart:sb ops x.o y.o=true
 pick:gk x.o=false
 cls:x.cls=0∨y.cls=0∨(x.cls=4∧y.cls=4∧ ∀ i∈x.fp,i∉y.fp)
 vis:y.cls=0∨(y.cls=1∧(x.vis=0∨x.vis=1))∨(y.cls=3∧(x.vis=0∨x.vis=3))∨x.vis=0∨y.cls=4
 fp: ∀ i∈y.fp,i∈x.bad
 bad: ∀ i∈y.mine,i∈x.bad
 later: ∀ i∈y.mine,i∈x.later
theorem D7: ∀ (X:List (Nat×Ob)) (z:FS),(∀ i∈yN X,i∉Ya z.t)→(z.makeAll X).t=z.t
 |[],_,_=>rfl
 |(i,x)::X,z,h=>by have h0:(z.make i x).t=z.t:=wW _ (h i (by simp [yN]));rw [FS.makeAll,D7 X _ (fun j hj=>by rw [h0];exact h j (by simp [yN,hj])),h0]
theorem gu {i:Nat}: ∀ (X:List (Nat×Ob)) (z:FS),i∉yN X→(∀ m∈yN X,∀ ob,z.lk i=some ob→m∉ob.ids)→(z.makeAll X).lk i=z.lk i
 |[],_,_,_=>rfl
 |(m,x)::X,z,hi,h=>by
  simp only [yN,yR,not_or] at hi;have h0:(z.make m x).lk i=z.lk i:=by
   simp only [FS.make,hi.1,zP];cases hl:z.lk i with
   |none=>rfl
   |some ob=>simp [Ob.wO ob (h m (by simp [yN]) ob hl)]
  rw [FS.makeAll,gu X _ hi.2 (fun n hn ob hob=>by rw [h0] at hob;exact h n (by simp [yN,hn]) ob hob),h0]
theorem D8: ∀ (S:List (Nat×Ob)) (z:FS),(z.yB S).t=z.t
 |[],_=>rfl
 |(i,x)::S,z=>D8 S (z.set i x)
theorem ybG (z:FS) (d:Option Nat) (a:A):(z.put d a).lk=z.lk:=by cases d<;>rfl
def AC (lk:Lk) (i:Nat):Option Ob:=match lk i with
 |some (.box cs)=>some (.box cs)
 |_=>none
theorem AD {i:Nat}: ∀ (S:List (Nat×Ob)) (z:FS),(∀ p∈S,(match p.2 with| .box _=>false|_=>true)=true)→(∀ p∈S,∀ cs,z.lk p.1≠some (.box cs))→AC (z.yB S).lk i=AC z.lk i
 |[],_,_,_=>rfl
 |(j,x)::S,z,h1,h2=>by
  have hx:=h1 (j,x) (by simp);have hz:=h2 (j,x) (by simp);have h0: ∀ m,AC (z.set j x).lk m=AC z.lk m:=fun m=>by
   unfold AC;simp only [FS.set];by_cases hm:m=j
   ·subst hm;simp only [yo];cases hl:z.lk m with
    |none=>rfl
    |some ob=>
     cases ob with
     |box cs=>exact absurd hl (hz cs)
     |root _ _ _ _=>cases x<;>simp_all
     |gone=>cases x<;>simp_all
   ·simp [hm]
  rw [FS.yB,AD S _ (fun p hp=>h1 p (by simp [hp])) (fun p hp cs hc=> ?_),h0];have:=h0 p.1;unfold AC at this;rw [hc] at this;cases hl:z.lk p.1 with
  |none=>simp [hl] at this
  |some ob=>
   cases ob with
   |box cs'=>exact h2 p (by simp [hp]) cs' hl
   |_=>simp [hl] at this
theorem UD (x:Wf) {lk:Lk} {i:Nat} {ob:Ob} (h:x.see lk i=some ob):lk i=some ob:=by
 unfold Wf.see at h;cases hb:Jj x.bad i with
 |true=>simp [hb] at h
 |false=>
  simp only [hb,yi] at h;split at h
  ·cases h
  ·cases hl:lk i with
   |none=>simp [hl] at h
   |some y=>cases y<;>simp [hl] at h ⊢ <;>exact h
  ·cases hl:lk i with
   |none=>simp [hl] at h
   |some y=>cases y<;>simp [hl] at h ⊢ <;>exact h
  ·exact h
theorem lP {lk:Lk}: ∀ {S:List (Nat×Ob)},fi lk S=true→ ∀ p∈S,(∃ cs,lk p.1=some (.box cs))∧(match p.2 with| .box _=>true|_=>false)=true
 |[],_,p,hp=>by simp at hp
 |(i,x)::S,h,p,hp=>by
  simp only [fi,zzal10] at h;rcases yR.1 hp with rfl|hp
  ·have h1:=h.1;split at h1
   ·rename_i cs hl;exact ⟨⟨cs,hl⟩,h1⟩
   ·cases h1
  ·exact lP h.2 p hp
def rowAt:Option Ob→Option Ob
 |some (.root own e ts xs)=>some (.root own e ts xs)
 |_=>none
theorem AE {i:Nat}: ∀ (S:List (Nat×Ob)) (z:FS),(∀ p∈S,(match p.2 with| .box _=>true|_=>false)=true)→(∀ p∈S,rowAt (z.lk p.1)=none)→rowAt ((z.yB S).lk i)=rowAt (z.lk i)
 |[],_,_,_=>rfl
 |(j,x)::S,z,h1,h2=>by
  have hx:=h1 (j,x) (by simp);have hj:rowAt (z.lk j)=none:=h2 (j,x) (by simp);have hs: ∀ m,rowAt ((z.set j x).lk m)=rowAt (z.lk m):=by
   intro m;by_cases hi:m=j
   ·subst hi;rw [hj];cases x with
    |box cs=>cases hl:z.lk m<;>simp [FS.set,hl,rowAt]
    |_=>cases hx
   ·simp [FS.set,hi]
  rw [FS.yB,AE S _ (fun p hp=>h1 p (by simp [hp])) (fun p hp=>(hs p.1).trans (h2 p (by simp [hp]))),hs]
theorem nv {lk:Lk}: ∀ {S:List (Nat×Ob)},lC lk S=true→ ∀ p∈S,(∃ ob,lk p.1=some ob∧ ∀ cs,ob≠ .box cs)∧(match p.2 with| .box _=>false|_=>true)=true
 |[],_,p,hp=>by simp at hp
 |(i,x)::S,h,p,hp=>by
  simp only [lC,zzal10] at h;rcases yR.1 hp with rfl|hp
  ·have h1:=h.1;split at h1
   ·rename_i own e ts xs hl;exact ⟨⟨_,hl,fun cs h=>by cases h⟩,h1⟩
   ·cases h1
  ·exact nv h.2 p hp
theorem oW {i:Nat}: ∀ (S:List (Nat×Ob)) (z:FS),i∉yN S→(z.yB S).lk i=z.lk i
 |[],_,_=>rfl
 |(j,x)::S,z,h=>by simp only [yN,yR,not_or] at h;rw [FS.yB,oW S _ h.2];simp [FS.set,h.1]
theorem MN {x y:Wf} (hyx:Loose ops y x) {z:FS} {e:Eff} (he:O2 x z e) (nm: ∀ i∈x.mine,NM z i):y.see (z.apply x.o.dst e).lk=y.see z.lk:=by
 funext i;unfold Wf.see;cases hb:Jj y.bad i with
 |true=>rfl
 |false=>
  have hi:i∉yN e.adds:=fun hm=>by rw [w6.2 (hyx.bad i (he.adds i hm))] at hb;cases hb
  have hmk:(z.makeAll e.adds).lk i=z.lk i:=gu _ _ hi (fun m hm ob hob=>(nm m (he.adds m hm)).ob i ob hob);simp only [yi];rw [FS.apply,ybG];rcases hyx.vis with hc|⟨hc,hv⟩|⟨hc,hv⟩|hv|hc
  ·rw [he.ybE hc];simp only [FS.yB,hmk]
  ·have hro:=nv (he.yk9 hc);have hbx:=AD (i:=i) e.sets (z.makeAll e.adds) (fun p hp=>(hro p hp).2) (fun p hp cs hcs=>by
    obtain ⟨TT,hl,hnb⟩:=(hro p hp).1;have hl':=UD x hl;have hp':p.1∉yN e.adds:=fun hm=>by rw [(nm _ (he.adds _ hm)).lk] at hl';cases hl'
    rw [gu _ _ hp' (fun m hm ob hob=>(nm m (he.adds m hm)).ob p.1 ob hob),hl'] at hcs;injection hcs with hcs;exact hnb cs hcs)
   rcases hv with hv|hv
   ·rw [hv];rfl
   ·rw [hv];unfold AC at hbx;rw [hmk] at hbx;exact hbx
  ·have hbo:=lP (he.yka hc);have hrw:=AE (i:=i) e.sets (z.makeAll e.adds) (fun p hp=>(hbo p hp).2) (fun p hp=>by
    obtain ⟨cs,hl⟩:=(hbo p hp).1;have hl':=UD x hl;have hp':p.1∉yN e.adds:=fun hm=>by rw [(nm _ (he.adds _ hm)).lk] at hl';cases hl'
    rw [gu _ _ hp' (fun m hm ob hob=>(nm m (he.adds m hm)).ob p.1 ob hob),hl'];rfl)
   rcases hv with hv|hv
   ·rw [hv];rfl
   ·rw [hv];unfold rowAt at hrw;rw [hmk] at hrw;exact hrw
  ·rw [hv];rfl
  ·have hi2:i∉yN e.sets:=fun hm=>by
    rw [w6.2 (hyx.fp i (he.ybF hc i hm))] at hb;cases hb
   have hs:(((z.makeAll e.adds).yB e.sets).lk i)=z.lk i:=(oW e.sets _ hi2).trans hmk;rw [hs]
theorem UE {l:List Nat} {d:Option Nat} (h:y2Q l d=false): ∀ c∈l,d≠some c:=by intro c hc e;subst e;simp only [y2Q] at h;rw [w6.2 hc] at h;cases h
theorem D9: ∀ {l:List Operand} {c:Nat},.tmp c∈l→c∈slotsOf l
 |x::l,c,h=>by
  rcases yR.1 h with h|h
  ·subst h;simp [slotsOf]
  ·have:=D9 h;cases x<;>simp [slotsOf,this]
theorem AF {x:Wf} {z:FS} {e:Eff} (he:O2 x z e) (nm: ∀ i∈x.mine,NM z i) {c:Nat} (hc:x.o.dst≠some c):(z.apply x.o.dst e).Yw (.tmp c)=z.Yw (.tmp c):=by
 have ht:((z.makeAll e.adds).yB e.sets).t=z.t:=by rw [D8,D7 _ _ (fun i hi=>(nm i (he.adds i hi)).t)]
 unfold FS.apply;cases hd:x.o.dst with
 |none=>show ((z.makeAll e.adds).yB e.sets).t.getD c .dead=_;rw [ht];rfl
 |some d=>have hne:d≠c:=fun h=>hc (by rw [hd,h]);show (((z.makeAll e.adds).yB e.sets).t.set d e.a).getD c .dead=z.t.getD c .dead;rw [ht,Zr,eQ hne,Zr]
theorem AG {x:Wf} {t:TS} (hg:guardOf ops t.x.o=some t.x.g) (hyx:Loose ops t.x x) {z:FS} {e:Eff} (he:O2 x z e) (nm: ∀ i∈x.mine,NM z i):AA C call t (z.apply x.o.dst e)=AA C call t z:=by
 have hap:=hyx.apart;unfold sb at hap;simp only [zzal10,zzal45] at hap;have yev:=UE hap.1.2;have hguard: ∀ c v,t.x.g=some (c,v)→(z.apply x.o.dst e).Yw (.tmp c)=z.Yw (.tmp c):=fun c v hgv=>by refine AF he nm (yev c ?_);rw [hgv] at hg;simp [asked,hg]
 have hmet:met (z.apply x.o.dst e) t.x.g=met z t.x.g:=by
  cases hgv:t.x.g with
  |none=>rfl
  |some p=>obtain ⟨c,v⟩:=p;simp only [met,FS.bool,hguard c v hgv]
 have UF:lG (z.apply x.o.dst e) t.x.g=lG z t.x.g:=by
  cases hgv:t.x.g with
  |none=>rfl
  |some p=>obtain ⟨c,v⟩:=p;simp only [lG,hguard c v hgv]
 cases t with
 |run y=>
  have hops: ∀ u∈y.o.op.operands,(z.apply x.o.dst e).Yw u=z.Yw u:=fun u hu=>by
   cases u with
   |tmp c=>refine AF he nm (yev c ?_);simp only [TS.x,asked,zB];exact .inr (D9 (by simpa using hu))
   |_=>rfl
  simp only [TS.x] at hmet hyx;simp only [AA,hmet,MN hyx he nm];rw [MD some hops]
 |skip y=>simp only [TS.x] at UF;simp only [AA,UF]
 |pick _ _ _=>rfl
theorem swap {tx ty:TS} (hgx:guardOf ops tx.x.o=some tx.x.g) (hgy:guardOf ops ty.x.o=some ty.x.g) (hxy:Loose ops tx.x ty.x) (hyx:Loose ops ty.x tx.x) {z z1 z2:FS} (nmx: ∀ i∈tx.x.mine,NM z i) (nmy: ∀ i∈ty.x.mine,NM z i)
  (h1:stepT C call tx z=some z1) (h2:stepT C call ty z1=some z2): ∃ z1',stepT C call ty z=some z1'∧stepT C call tx z1'=some z2:=by
 cases hpx:tx.isP with
 |true=>rw [D6 hpx hxy.pick] at h1;cases h1
 |false=>
  cases hpy:ty.isP with
  |true=>rw [D6 hpy hyx.pick] at h2;cases h2
  |false=>
   rw [fw hpx] at h1;rw [fw hpy] at h2;obtain ⟨ex,hex,rfl⟩:=Ys.1 h1;obtain ⟨ey,hey,rfl⟩:=Ys.1 h2;have okx:=AB hex;rw [AG hgy hyx okx nmx] at hey;have UG:=AB hey;have hex':=AG (C:=C) (call:=call) hgx hxy UG nmy;rw [hex] at hex';refine ⟨z.apply ty.x.o.dst ey,by rw [fw hpy,hey];rfl,?_⟩;rw [fw hpx,hex',nO];congr 1;refine (FS.H1 ?_ ?_ ?_ ?_).symm
   ·rcases hxy.cls with h|h|⟨h,h',hd⟩
    ·rw [okx.ybE h];intro i hi;simp [yN] at hi
    ·rw [UG.ybE h];intro i _ hi;simp [yN] at hi
    ·exact fun i hi hj=>hd i (okx.ybF h i hi) (UG.ybF h' i hj)
   ·exact fun i hi=>okx.later i (hxy.later i (UG.adds i hi))
   ·exact fun i hi=>UG.later i (hyx.later i (okx.adds i hi))
   ·have hap:=hxy.apart;unfold sb at hap;simp only [zzal10] at hap;intro i hi hj;have:=hap.2;simp [hi,hj,yH] at this
end
section
variable {P:Program} {C:Ctx} {w0:World} {yu:Nat→Prop} {H0:Base} {s:St} {a:Act} {w:World} {G:Gh} {call:C.Sem} {ops:Array Oper} {K:Act→World→Prop} {Q:Exit→Act→World→Prop}
theorem oX: ∀ (l l':List Oper) (acc:List Nat),masks (l++l') acc=masks l' (masks l acc)
 |[],_,_=>rfl
 |o::l,l',acc=>oX l l' _
theorem su: ∀ (l:List Oper) (acc:List Nat),∃ t,masks l acc=acc++t∧t.length=l.length
 |[],acc=>⟨[],by simp [masks],rfl⟩
 |o::l,acc=>by obtain ⟨t,h,hl⟩:=su l (acc++[fj acc o.after.toList]);exact ⟨fj acc o.after.toList::t,by rw [masks,h];simp,by simp [hl]⟩
theorem o0 {acc:List Nat} {j:Nat}: ∀ (es:List Edge),(fj acc es).testBit j=true→ ∃ e∈es,Region.binds .any e=true∧(e.on=j∨(acc.getD e.on 0).testBit j=true)
 |[],h=>by simp [fj] at h
 |e::es,h=>by
  rw [fj] at h;cases hb:Region.binds .any e with
  |false=>rw [hb,yi] at h;obtain ⟨e',h1,h2⟩:=o0 es h;exact ⟨e',by simp [h1],h2⟩
  |true=>
   rw [hb,yg,oC,oC,nR,nR] at h;rcases h with (h|h)|h
   ·refine ⟨e,by simp,hb,.inl ?_⟩;rw [Nat.testBit_two_pow] at h;simpa using h
   ·exact ⟨e,by simp,hb,.inr h⟩
   ·obtain ⟨e',h1,h2⟩:=o0 es h;exact ⟨e',by simp [h1],h2⟩
theorem H4 {acc:List Nat} {e:Edge} (hb:Region.binds .any e=true): ∀ (es:List Edge),e∈es→(fj acc es).testBit e.on=true
 |f::es,h=>by
  rw [fj];rcases yR.1 h with rfl|h
  ·rw [hb,yg,oC,oC,Nat.testBit_two_pow_self];rfl
  ·have:=H4 (acc:=acc) hb es h;cases Region.binds .any f with
   |false=>exact this
   |true=>rw [yg,oC,this,Bool.or_true]
theorem H5 {ops:Array Oper} {i:Nat} {o:Oper} (h:ops[i]? =some o): ∃ acc:List Nat,(masks ops.toList []).getD i 0=fj acc o.after.toList∧ ∀ j,(acc.getD j 0)=if j<i then (masks ops.toList []).getD j 0 else 0:=by
 have hl:ops.toList[i]? =some o:=by simpa using h
 obtain ⟨l1,l2,hs,hlen⟩: ∃ l1 l2,ops.toList=l1++o::l2∧l1.length=i:=by have hlt:=(ZF.1 hl).1;refine ⟨ops.toList.take i,ops.toList.drop (i+1),?_,by rw [Za];omega⟩;have h2:=(ZF.1 hl).2;rw [← h2,List.getElem_cons_drop,List.take_append_drop]
 obtain ⟨t1,h1,k1⟩:=su l1 [];rw [jj] at h1;obtain ⟨t2,h2,k2⟩:=su l2 (t1++[fj t1 o.after.toList]);have hm:masks ops.toList []=t1++[fj t1 o.after.toList]++t2:=by rw [hs,oX,h1,masks,h2]
 have hi:t1.length=i:=by rw [k1,hlen]
 refine ⟨t1,?_,fun j=> ?_⟩
 ·rw [hm,jF,Zr,lm (by omega)];simp [hi]
 ·split
  ·rename_i hj;rw [hm,jF,Zr,Zr,ln (by omega)]
  ·rename_i hj;rw [Zr,uH (by omega)];rfl
structure y5q (C:Ctx) (ops:Array Oper) (L:List Wf):Prop where
 fit:Fits ops L
 mine: ∀ (i:Nat) (x:Wf),L[i]? =some x→x.mine=qV C x.o
 loose: ∀ (i j:Nat) (x y:Wf),L[i]? =some x→L[j]? =some y→i≠j→tied (masks ops.toList []) i j=false→Loose ops x y
 later: ∀ (i j:Nat) (x y:Wf),L[i]? =some x→L[j]? =some y→i≠j→((masks ops.toList []).getD i 0).testBit j=false→ ∀ m∈y.mine,m∈x.later
 lt: ∀ (i:Nat) (x:Wf),L[i]? =some x→(masks ops.toList []).getD i 0<2 ^ i
def H6 (a t:Nat):Prop:=a=0∨a=t∨Gj t=0
theorem Sx (a b:Nat):H6 a (Gi a b):=by
 unfold Gi H6;cases a with
 |zero=>exact .inl rfl
 |succ a=>
  cases b with
  |zero=>exact .inr (.inl rfl)
  |succ b=>
   by_cases h:a+1=b+1
   ·rw [h];simp [yH]
   ·simp [yO h,Gj]
theorem MO {a b c:Nat} (h:H6 a b):H6 a (Gi c b):=by
 unfold Gi;cases c with
 |zero=>exact h
 |succ c=>
  cases b with
  |zero=>
   rcases h with h|h|h
   ·exact .inl h
   ·exact .inl h
   ·simp [Gj] at h
  |succ b=>
   by_cases hcb:c+1=b+1
   ·simp only [hcb,yH,yg];exact h
   ·simp only [yO hcb,yi];exact .inr (.inr rfl)
theorem y39 {a t v:Nat} (hv:v=Gj t) (h:H6 a t):a=0∨(a=1∧(v=0∨v=1))∨(a=3∧(v=0∨v=3))∨v=0:=by
 subst hv;rcases h with h|rfl|h
 ·exact .inl h
 ·unfold Gj;split
  ·exact .inl rfl
  ·exact .inr (.inl ⟨rfl,.inr rfl⟩)
  ·exact .inr (.inr (.inl ⟨rfl,.inr rfl⟩))
  ·exact .inr (.inr (.inr rfl))
 ·exact .inr (.inr (.inr h))
theorem ybH {a b:Nat} {X Y:List Nat} (h:(Nat.beq a 0=true∨Nat.beq b 0=true)∨(Nat.beq a 4=true∧Nat.beq b 4=true)∧bZ X Y=true):a=0∨b=0∨(a=4∧b=4∧ ∀ i∈X,i∉Y):=by
 rcases h with (h|h)|⟨⟨h1,h2⟩,h3⟩
 ·exact .inl (zo h)
 ·exact .inr (.inl (zo h))
 ·exact .inr (.inr ⟨zo h1,zo h2,fun i hi=>qZ h3 i hi⟩)
theorem y3a {a t v:Nat} (hv:v=Gj t) (h:H6 (Sb a) t):a=0∨(a=1∧(v=0∨v=1))∨(a=3∧(v=0∨v=3))∨v=0∨a=4:=by
 by_cases ha:a=4
 ·exact .inr (.inr (.inr (.inr ha)))
 ·have hn:Sb a=a:=by simp [Sb,yO ha]
  rw [hn] at h;rcases y39 hv h with h|h|h|h
  ·exact .inl h
  ·exact .inr (.inl h)
  ·exact .inr (.inr (.inl h))
  ·exact .inr (.inr (.inr (.inl h)))
theorem AH {h0:List Nat} {ms:List Nat}: ∀ (l:List Oper) (i:Nat) (L:List Wf),tr C h0 ops ms i l=some L→L.length=l.length∧ ∀ (k:Nat) (x:Wf),L[k]? =some x→l[k]? =some x.o∧guardOf ops x.o=some x.g∧
  (others C h0 ops ms (i+k) x.o 0 ops.toList).ok=true∧x.vis=Gj (others C h0 ops ms (i+k) x.o 0 ops.toList).top∧x.cls=al C h0 x.o∧x.bad=(others C h0 ops ms (i+k) x.o 0 ops.toList).bad∧x.later=(others C h0 ops ms (i+k) x.o 0 ops.toList).later∧x.mine=qV C x.o∧x.fp=TP h0 x.o∧ms.getD (i+k) 0<2 ^ (i+k)
 |[],i,L,h=>by simp only [tr,z8] at h;subst h;exact ⟨rfl,fun k x hk=>by simp at hk⟩
 |o::r,i,L,h=>by
  simp only [tr] at h;cases hg:guardOf ops o with
  |none=>simp [hg] at h
  |some g=>
   cases hl:tr C h0 ops ms (i+1) r with
   |none=>simp [hg,hl] at h
   |some l=>
    simp only [hg,hl] at h;cases hb:(others C h0 ops ms i o 0 ops.toList).ok&&Nat.blt (ms.getD i 0) (2 ^ i) with
    |false=>rw [hb,yi] at h;cases h
    |true=>
     rw [hb,yg] at h;injection h with h;subst h;simp only [zzal10] at hb;obtain ⟨h1,h2⟩:=AH r (i+1) l hl;refine ⟨by simp [h1],fun k x hk=> ?_⟩;cases k with
     |zero=>simp only [lq,z8] at hk;subst hk;exact ⟨rfl,hg,hb.1,rfl,rfl,rfl,rfl,rfl,rfl,WZ hb.2⟩
     |succ k=>have:=h2 k x (by simpa using hk);rw [show i+1+k=i+(k+1) by omega] at this;simpa using this
theorem lQ {h0:List Nat} {ms:List Nat} {i:Nat} {o:Oper}: ∀ (l:List Oper) (j:Nat),(others C h0 ops ms i o j l).ok=true→ ∀ (k:Nat) (y:Oper),l[k]? =some y→i≠j+k→
  (tied ms i (j+k)=false→sb ops o y=true∧gk o=false∧gk y=false∧(al C h0 o=0∨al C h0 y=0∨(al C h0 o=4∧al C h0 y=4∧ ∀ i∈TP h0 o,i∉TP h0 y))∧H6 (Sb (al C h0 y)) (others C h0 ops ms i o j l).top∧(∀ m∈qV C y,m∈(others C h0 ops ms i o j l).bad)∧(∀ m∈TP h0 y,m∈(others C h0 ops ms i o j l).bad))∧
  ((ms.getD i 0).testBit (j+k)=false→ ∀ m∈qV C y,m∈(others C h0 ops ms i o j l).later)
 |[],j,_,k,y,hk,_=>by simp at hk
 |z::l,j,hok,k,y,hk,hne=>by
  rw [others] at hok ⊢;have rest: ∀ (g:Gl),g=others C h0 ops ms i o (j+1) l→g.ok=true→ ∀ (k:Nat),l[k]? =some y→i≠j+(k+1)→
    (tied ms i (j+(k+1))=false→sb ops o y=true∧gk o=false∧gk y=false∧(al C h0 o=0∨al C h0 y=0∨(al C h0 o=4∧al C h0 y=4∧ ∀ i∈TP h0 o,i∉TP h0 y))∧H6 (Sb (al C h0 y)) g.top∧(∀ m∈qV C y,m∈g.bad)∧(∀ m∈TP h0 y,m∈g.bad))∧((ms.getD i 0).testBit (j+(k+1))=false→ ∀ m∈qV C y,m∈g.later):=by
   intro g hg ybI k hk hne;subst hg;have:=lQ l (j+1) ybI k y hk (by omega);rw [show j+1+k=j+(k+1) by omega] at this;exact this
  generalize hgg:others C h0 ops ms i o (j+1) l=g at hok ⊢;cases hij:Nat.beq i j with
  |true=>
   have:=zo hij;subst this;simp only [hij,yg] at hok ⊢;cases k with
   |zero=>exact absurd rfl hne
   |succ k=>exact rest g hgg.symm hok k (by simpa using hk) hne
  |false=>
   simp only [hij,yi] at hok ⊢;cases ht:tied ms i j with
   |true=>
    simp only [ht,yg] at hok ⊢;cases hb:(ms.getD i 0).testBit j with
    |true=>
     simp only [hb,yg] at hok ⊢;cases k with
     |zero=>exact ⟨fun h=>(by rw [ga,ht] at h;cases h),fun h=>(by rw [ga,hb] at h;cases h)⟩
     |succ k=>exact rest g hgg.symm hok k (by simpa using hk) hne
    |false=>
     simp only [hb,yi] at hok ⊢;cases k with
     |zero=>simp only [lq,z8] at hk;subst hk;exact ⟨fun h=>(by rw [ga,ht] at h;cases h),fun _ m hm=>xP _ hm⟩
     |succ k=>obtain ⟨r1,r2⟩:=rest g hgg.symm hok k (by simpa using hk) hne;exact ⟨r1,fun h m hm=>g6 _ (r2 h m hm)⟩
   |false=>
    simp only [ht,yi,zzal10,zzal45,nR] at hok ⊢;obtain ⟨⟨⟨⟨ybI,hap⟩,hpo⟩,hpy⟩,hcl⟩:=hok;cases k with
    |zero=>simp only [lq,z8] at hk;subst hk;exact ⟨fun _=>⟨hap,hpo,hpy,ybH hcl,Sx _ _,fun m hm=>xP _ hm,fun m hm=>g6 _ (xP _ hm)⟩,fun _ m hm=>xP _ hm⟩
    |succ k=>obtain ⟨r1,r2⟩:=rest g hgg.symm ybI k (by simpa using hk) hne;refine ⟨fun h=> ?_,fun h m hm=>g6 _ (r2 h m hm)⟩;obtain ⟨a1,a2,a3,a4,a5,a6,a7⟩:=r1 h;exact ⟨a1,a2,a3,a4,MO a5,fun m hm=>g6 _ (g6 _ (a6 m hm)),fun m hm=>g6 _ (g6 _ (a7 m hm))⟩
theorem UH {h0:List Nat} {L:List Wf} (h:tr C h0 ops (masks ops.toList []) 0 ops.toList=some L):y5q C ops L:=by
 obtain ⟨hlen,hsp⟩:=AH _ _ _ h;have hat: ∀ (i:Nat) (x:Wf),L[i]? =some x→ops.toList[i]? =some x.o:=fun i x hx=>(hsp i x hx).1;refine ⟨⟨by simpa using hlen,fun i x hx=>⟨by simpa using hat i x hx,(hsp i x hx).2.1⟩⟩,fun i x hx=>(hsp i x hx).2.2.2.2.2.2.2.1,fun i j x y hx hy hne ht=> ?_,fun i j x y hx hy hne hb m hm=> ?_,fun i x hx=> ?_⟩
 ·obtain ⟨_,_,hok,ybJ,hcls,hbad,AJ,GX,hfp,_⟩:=hsp i x hx;obtain ⟨_,_,_,_,UI,_,_,EV,ybK,_⟩:=hsp j y hy;rw [WY] at hok ybJ hbad AJ;have:=lQ (C:=C) (ops:=ops) ops.toList 0 hok j y.o (hat j y hy) (by omega);rw [WY] at this;obtain ⟨h1,h2⟩:=this;obtain ⟨a1,a2,a3,a4,a5,a6,a7⟩:=h1 ht;have htb:((masks ops.toList []).getD i 0).testBit j=false:=by
   unfold tied at ht;simp only [WW] at ht;exact ht.1
  exact ⟨a1,a2,by rw [hcls,UI,hfp,ybK];exact a4,by rw [UI];exact y3a ybJ a5,fun m hm=>by rw [hbad];exact a7 m (by rw [← ybK];exact hm),fun m hm=>by rw [hbad];exact a6 m (by rw [← EV];exact hm),fun m hm=>by rw [AJ];exact h2 htb m (by rw [← EV];exact hm)⟩
 ·obtain ⟨_,_,hok,ybJ,hcls,hbad,AJ,GX,hfp,_⟩:=hsp i x hx;obtain ⟨_,_,_,_,UI,_,_,EV,ybK,_⟩:=hsp j y hy;rw [WY] at hok AJ;have:=lQ (C:=C) (ops:=ops) ops.toList 0 hok j y.o (hat j y hy) (by omega);rw [WY] at this;rw [AJ];exact this.2 hb m (by rw [← EV];exact hm)
 ·have:=(hsp i x hx).2.2.2.2.2.2.2.2.2
  rwa [WY] at this
theorem NM.step {t:TS} {z z1:FS} (h:stepT C call t z=some z1) {m:Nat} (nm:NM z m) (hm:m∈t.x.later):NM z1 m:=by
 cases hp:t.isP with
 |false=>rw [fw hp] at h;obtain ⟨e,he,rfl⟩:=Ys.1 h;exact nm.apply ((AB he).later m hm)
 |true=>
  cases t with
  |pick x M D=>
   simp only [stepT] at h;split at h
   ·split at h
    ·rename_i c x1 x2 hop;cases hc:z.bool c with
     |none=>simp [hc] at h
     |some v=>
      cases hu:z.bool (if v then x1 else x2) with
      |none=>simp [hc,hu] at h
      |some u=>simp only [hc,hu,zzal0,z8] at h;subst h;exact ((nm.yA M).kill D).put _ (by simp [A.ids])
    ·cases h
   ·cases h
  |_=>simp [TS.isP] at hp
theorem bubble {t:TS} (hgt:guardOf ops t.x.o=some t.x.g) (B:List TS) {zf:FS}: ∀ (A:List TS) (z:FS),JO C call (A++t::B) z=some zf→(∀ p∈A,guardOf ops p.x.o=some p.x.g∧Loose ops p.x t.x∧Loose ops t.x p.x)→(∀ m∈t.x.mine,NM z m)→(∀ p∈A,∀ m∈p.x.mine,NM z m)→
  A.Pairwise (fun p q=> ∀ m∈q.x.mine,m∈p.x.later)→JO C call (t::(A++B)) z=some zf
 |[],z,h,_,_,_,_=>h
 |p::A,z,h,hA,hn,hnA,hpw=>by
  rw [aK,JO] at h;cases hz:stepT C call p z with
  |none=>simp [hz] at h
  |some z1=>
   rw [hz,zzal0] at h;have yew:=aH.1 hpw;obtain ⟨hgp,hpt,htp⟩:=hA p (by simp);have ih:=bubble hgt B A z1 h (fun q hq=>hA q (by simp [hq])) (fun m hm=>NM.step hz (hn m hm) (hpt.later m hm)) (fun q hq m hm=>NM.step hz (hnA q (by simp [hq]) m hm) (yew.1 q hq m hm)) yew.2;rw [JO] at ih;cases hz2:stepT C call t z1 with
   |none=>simp [hz2] at ih
   |some z2=>rw [hz2,zzal0] at ih;obtain ⟨z1',h1,h2⟩:=swap hgp hgt hpt htp (hnA p (by simp)) hn hz hz2;rw [JO,h1,zzal0,aK,JO,h2,zzal0];exact ih
structure ykb (ops:Array Oper) (L:List Wf) (listed:Array Bool) (Tp:List (Nat×TS)) (z:FS):Prop where
 idx:Tp.Pairwise (fun p q=>p.1<q.1)
 mem: ∀ p∈Tp,L[p.1]? =some p.2.x
 un: ∀ p∈Tp,listed.getD p.1 true=false
 all: ∀ i,i<ops.size→listed.getD i true=false→ ∃ t,(i,t)∈Tp
 size:listed.size=ops.size
 dn: ∀ i,listed.getD i false=true→ ∀ j,((masks ops.toList []).getD i 0).testBit j=true→listed.getD j false=true
 nm: ∀ p∈Tp,∀ m∈p.2.x.mine,NM z m
theorem Da {l:Array Bool} {i:Nat} (h:i<l.size):l.getD i true=l.getD i false:=by simp [fZ,h]
theorem Sy (hT:Jl C P) (hC:Contract H0 C P call) (hout: ∀ (i:Nat) (o:Oper),ops[i]? =some o→Out o) {L:List Wf} (hD:y5q C ops L) {zf:FS} (hQ: ∀ s' a' w' G',s'.F=zf→Rel P w0 yu H0 s' a' w' G'→Q .normal a' w'): ∀ (fuel:Nat) (listed:Array Bool) (Tp:List (Nat×TS)) {s:St} {a:Act} {w:World} {G:Gh},
  ykb ops L listed Tp s.F→Tp.length=fuel→JO C call (Tp.map (·.2)) s.F=some zf→Rel P w0 yu H0 s a w G→wpAny P .any ops Q fuel listed a w:=by
 intro fuel;induction fuel with
 |zero=>
  intro listed Tp s a w G hp hl hs hr;have:Tp=[]:=f_.1 hl;subst this;refine ⟨?_,hQ s a w G (by injection hs) hr⟩;cases hrd:Region.ready .any ops listed with
  |nil=>rfl
  |cons i r=>
   have hi:i∈Region.ready .any ops listed:=by rw [hrd];simp
   obtain ⟨h1,o,ho,_⟩:=mem_ready.1 hi;obtain ⟨t,ht⟩:=hp.all i (zzal39.1 ho).1 h1;simp at ht
 |succ fuel ih=>
  intro listed Tp s a w G hp hl hs hr;have hbit: ∀ (i:Nat) (x:Wf),L[i]? =some x→ ∀ j,i≤j→((masks ops.toList []).getD i 0).testBit j=false:=fun i x hx j hj=>
   Nat.testBit_lt_two_pow (oz (hD.lt i x hx) (uI (by omega) hj))
  have hsz: ∀ (i:Nat) (x:Wf),L[i]? =some x→i<ops.size:=fun i x hx=>(zzal39.1 (hD.fit.2 i x hx).1).1;refine ⟨fun hnil=> ?_,fun i hi=> ?_⟩
  ·cases Tp with
   |nil=>simp at hl
   |cons p0 Tp=>
    obtain ⟨i0,t0⟩:=p0;have hx0:=hp.mem (i0,t0) (by simp);have ho0:=(hD.fit.2 i0 t0.x hx0).1;have:i0∈Region.ready .any ops listed:=by
     refine mem_ready.2 ⟨hp.un (i0,t0) (by simp),t0.x.o,ho0,fun e he hb=> ?_⟩;obtain ⟨acc,hacc,_⟩:=H5 ho0;have hup:=H4 (acc:=acc) hb t0.x.o.after.toList (by simpa using he);rw [← hacc] at hup;have hlt:e.on<i0:=by
      rcases Nat.lt_or_ge e.on i0 with h|h
      ·exact h
      ·rw [hbit i0 _ hx0 e.on h] at hup;cases hup
     have hlt2:e.on<listed.size:=by rw [hp.size];exact Nat.lt_trans hlt (hsz i0 _ hx0)
     cases hle:listed.getD e.on false with
     |true=>rfl
     |false=>
      rw [← Da hlt2] at hle;obtain ⟨t,ht⟩:=hp.all e.on (by rw [← hp.size];exact hlt2) hle;rcases yR.1 ht with ht|ht
      ·injection ht with h1 _;omega
      ·have:=(aH.1 hp.idx).1 _ ht;simp only at this;omega
    rw [hnil] at this;simp at this
  ·obtain ⟨hun,o,ho,hall⟩:=mem_ready.1 hi;obtain ⟨t,ht⟩:=hp.all i (zzal39.1 ho).1 hun;obtain ⟨A,B,rfl⟩:=List.append_of_mem ht;have hxi:=hp.mem (i,t) ht;obtain ⟨hoi,hgi⟩:=hD.fit.2 i t.x hxi;have hidx:=List.pairwise_append.1 hp.idx;have hA: ∀ p∈A,p.1<i:=fun p AK=>hidx.2.2 p AK (i,t) (by simp);have hB: ∀ p∈B,i<p.1:=fun p hpB=>(aH.1 hidx.2.1).1 p hpB;have hmA: ∀ p∈A,L[p.1]? =some p.2.x:=fun p AK=>hp.mem p (by simp [AK]);have hmB: ∀ p∈B,L[p.1]? =some p.2.x:=fun p hpB=>hp.mem p (by simp [hpB]);have hdone: ∀ j,((masks ops.toList []).getD i 0).testBit j=true→listed.getD j false=true:=fun j hj=>by
    obtain ⟨acc,hacc,yex⟩:=H5 ho;rw [hacc] at hj;obtain ⟨e,he,hb,hj⟩:=o0 _ hj;have hon:=hall e (by simpa using he) hb;rcases hj with rfl|hj
    ·exact hon
    ·rw [yex] at hj;split at hj
     ·exact hp.dn e.on hon j hj
     ·simp at hj
   have hnot: ∀ p∈A,((masks ops.toList []).getD i 0).testBit p.1=false:=fun p AK=>by
    cases hb:((masks ops.toList []).getD i 0).testBit p.1 with
    |false=>rfl
    |true=>have h1:=hdone p.1 hb;have h2:=hp.un p (by simp [AK]);rw [Da (by rw [hp.size];exact hsz _ _ (hmA p AK)),h1] at h2;cases h2
   have ybL: ∀ p∈A,guardOf ops p.2.x.o=some p.2.x.g∧Loose ops p.2.x t.x∧Loose ops t.x p.2.x:=fun p AK=>by
    have hlt:=hA p AK;have h1:=hbit p.1 _ (hmA p AK) i (by omega);refine ⟨(hD.fit.2 _ _ (hmA p AK)).2,hD.loose p.1 i _ _ (hmA p AK) hxi (by omega) ?_,hD.loose i p.1 _ _ hxi (hmA p AK) (by omega) ?_⟩
    ·simp [tied,h1,hnot p AK,-List.getD_eq_getElem?_getD]
    ·simp [tied,h1,hnot p AK,-List.getD_eq_getElem?_getD]
   rw [nQ,J7] at hs;have y3b:=bubble (C:=C) (call:=call) hgi (B.map (·.2)) (A.map (·.2)) s.F hs (fun q hq=>by
    obtain ⟨p,AK,rfl⟩:=eU.1 hq;exact ybL p AK) (hp.nm (i,t) ht) (fun q hq=>by
    obtain ⟨p,AK,rfl⟩:=eU.1 hq;exact hp.nm p (by simp [AK])) (by
    rw [uL];exact hidx.1.imp_of_mem fun {p q} AK hqA hlt=>hD.later p.1 q.1 _ _ (hmA p AK) (hmA q hqA) (by omega) (hbit p.1 _ (hmA p AK) q.1 (by omega)))
   rw [JO] at y3b;cases hz:stepT C call t s.F with
   |none=>simp [hz] at y3b
   |some z1=>
    rw [hz,zzal0] at y3b;refine Ay hT hC (hout _ _ hoi) hoi hgi hr hz fun s' a' w' G' hF hr'=> ?_;refine ih (listed.setIfInBounds i true) (A++B) ⟨?_,fun p hpm=> ?_,fun p hpm=> ?_,fun j hj hju=> ?_,by simp [hp.size],fun j hj m hm=> ?_,fun p hpm m hm=> ?_⟩ ?_ ?_ hr'
    ·exact List.pairwise_append.2 ⟨hidx.1,(aH.1 hidx.2.1).2,fun p AK q hqB=>hidx.2.2 p AK q (by simp [hqB])⟩
    ·rcases zB.1 hpm with h|h
     ·exact hmA p h
     ·exact hmB p h
    ·have hne:i≠p.1:=by
      rcases zB.1 hpm with h|h
      ·have:=hA p h;omega
      ·have:=hB p h;omega
     rw [getD_set_ne true hne];refine hp.un p ?_;rcases zB.1 hpm with h|h<;>simp [h]
    ·have hne:i≠j:=fun e=>by
      subst e;have hlt:i<listed.size:=by rw [hp.size];exact hj
      simp [fZ,hlt] at hju
     rw [getD_set_ne true hne] at hju;obtain ⟨t',ht'⟩:=hp.all j hj hju;refine ⟨t',?_⟩;rcases zB.1 ht' with h|h
     ·simp [h]
     ·rcases yR.1 h with h|h
      ·injection h with h1 _;exact absurd h1.symm hne
      ·simp [h]
    ·by_cases hij:i=j
     ·subst hij;exact getD_set_true (hdone m hm)
     ·rw [getD_set_ne false hij] at hj;exact getD_set_true (hp.dn j hj m hm)
    ·rw [hF];refine NM.step hz (hp.nm p (by rcases zB.1 hpm with h|h<;>simp [h]) m hm) ?_;rcases zB.1 hpm with h|h
     ·exact hD.later i p.1 _ _ hxi (hmA p h) (by have:=hA p h;omega) (hnot p h) m hm
     ·exact hD.later i p.1 _ _ hxi (hmB p h) (by have:=hB p h;omega) (hbit i _ hxi p.1 (by have:=hB p h;omega)) m hm
    ·simp only [yU,yp] at hl ⊢;omega
    ·rw [hF,nQ];exact y3b
def num:Nat→List TS→List (Nat×TS)
 |_,[]=>[]
 |i,t::T=>(i,t)::num (i+1) T
theorem O3: ∀ (T:List TS) (i:Nat),(num i T).map (·.2)=T
 |[],_=>rfl
 |t::T,i=>by simp [num,O3 T]
theorem O4: ∀ (T:List TS) (i:Nat),(num i T).length=T.length
 |[],_=>rfl
 |t::T,i=>by simp [num,O4 T]
theorem uT (T:List TS): ∀ (i:Nat) (p:Nat×TS),p∈num i T→ ∃ k,p.1=i+k∧T[k]? =some p.2:=by
 induction T with
 |nil=>intro i p h;simp [num] at h
 |cons t T ih=>
  intro i p h;rw [num] at h;rcases yR.1 h with h|h
  ·exact ⟨0,by rw [h,ga],by rw [h];rfl⟩
  ·obtain ⟨k,h1,h2⟩:=ih (i+1) p h;exact ⟨k+1,by omega,by rw [xN];exact h2⟩
theorem ybM (T:List TS): ∀ (i k:Nat) (t:TS),T[k]? =some t→(i+k,t)∈num i T:=by
 induction T with
 |nil=>intro i k t h;simp at h
 |cons u T ih=>
  intro i k t h;cases k with
  |zero=>rw [lq] at h;injection h with h;rw [h,num];exact List.mem_cons_self
  |succ k=>rw [xN] at h;have:=ih (i+1) k t h;rw [show i+1+k=i+(k+1) by omega] at this;rw [num];exact Er _ this
theorem ybN (T:List TS): ∀ i:Nat,(num i T).Pairwise (fun p q=>p.1<q.1):=by
 induction T with
 |nil=>intro i;exact List.Pairwise.nil
 |cons t T ih=>intro i;rw [num];refine aH.2 ⟨fun p hp=> ?_,ih (i+1)⟩;obtain ⟨k,h1,_⟩:=uT T (i+1) p hp;show i<p.1;omega
theorem MP (l:List Oper) (o:Oper) (m:Nat) (ho:o∈l) (hm:m∈qV C o):m∈se C l:=by
 induction l with
 |nil=>simp at ho
 |cons x l ih=>
  rw [se,zB];rcases yR.1 ho with h|h
  ·rw [← h];exact .inl hm
  ·exact .inr (ih h)
theorem MQ (hT:Jl C P) (hC:Contract H0 C P call) (hout: ∀ (i:Nat) (o:Oper),ops[i]? =some o→Out o) {h0:List Nat} {L:List Wf} (hp:tr C h0 ops (masks ops.toList []) 0 ops.toList=some L) {R:Type} {k:St→Option R} {r:R} {n:Nat} (h:Rel P w0 yu H0 s a w G) (he:JZ C call false n L (s.yA (se C ops.toList)) k=some r)
  (hQ: ∀ s' a' w' G',k s'=some r→Rel P w0 yu H0 s' a' w' G'→Q .normal a' w'):wpAny P .any ops Q ops.size (Array.replicate ops.size false) a {w with drawn:=w.drawn+1}:=by
 have hD:=UH hp;obtain ⟨T,s',hf,hk⟩:=O0 n false L [] _ k r (by rw [strip_nil];exact he) (by simp);have hlen:T.length=ops.size:=by rw [← hD.fit.1,← hf.x,wV]
 have hat: ∀ (i:Nat) (t:TS),T[i]? =some t→L[i]? =some t.x:=fun i t ht=>by rw [← hf.x,cM,ht];rfl
 have hr:=(h.forgets (se C ops.toList)).heap (w':= {w with drawn:=w.drawn+1}) rfl rfl rfl (jk _) (fun _ _=> .inl rfl);refine Sy hT hC hout hD (zf:=s'.F) (fun s2 a2 w2 G2 hF hr2=>hQ s' a2 w2 G2 hk ?_) ops.size _ (num 0 T) ⟨ybN T 0,fun p hpm=> ?_,fun p hpm=> ?_,fun i hi _=> ?_,by simp,fun i hi j _=> ?_,fun p hpm m hm=> ?_⟩ (by rw [O4,hlen]) (by rw [O3];exact hf.steps) hr
 ·have ht:s2.t=s'.t:=congrArg FS.t hF;have ho:look s2.o=look s'.o:=congrArg FS.lk hF;exact hr2.congr ht.symm fun i=>(congrFun ho i).symm
 ·obtain ⟨k,h1,h2⟩:=uT T 0 p hpm;rw [h1,WY];exact hat k p.2 h2
 ·obtain ⟨k,h1,h2⟩:=uT T 0 p hpm;have:=(ZF.1 h2).1;simp [fZ,show p.1<ops.size by omega]
 ·have hlt:i<T.length:=by omega
  exact ⟨T[i],by simpa using ybM T 0 i T[i] (WX hlt)⟩
 ·rw [fZ] at hi;by_cases hlt:i<ops.size<;>simp [hlt] at hi
 ·obtain ⟨k,h1,h2⟩:=uT T 0 p hpm;have hx:=hat k p.2 h2;rw [dX];refine NM.lN _ _ (MP _ _ _ ?_ (by rw [← hD.mine k _ hx];exact hm));have:=(hD.fit.2 k _ hx).1;exact aF (by simpa using this)
end
section
variable {P:Program} {C:Ctx} {w0:World} {yu:Nat→Prop} {H0:Base} {s:St} {a:Act} {w:World} {G:Gh}
theorem ybO (h:Rel P w0 yu H0 s a w G) {o e i c:Nat} {ts:List Ty} {xs:List (Elts ts)} (ho:look s.o o=some (.root false e ts xs)) {n:Int} {v:Value} (hr:RA G (.lj o n c) v):RA G (.ly e ts xs n c) v:=by
 obtain ⟨hsz,hpos,hrd,hb⟩:=h.objs o _ ho;obtain ⟨A,cap,e1,_,_,hx⟩:=hrd;obtain ⟨hv,hlt⟩:=hr;rw [hsz] at hlt hv;simp only at hlt hv;have hp:0<List.length xs:=by omega
 obtain ⟨ad,ea,hx⟩:=hx hp;obtain ⟨cap',e2⟩:=hb hp;rw [e1] at e2;injection e2 with e3;rw [ea] at e3;injection e3 with e3;refine ⟨ad,?_,hlt,hx⟩;rw [hv,e3,add_plain]
mutual
theorem RA.resolve (h:Rel P w0 yu H0 s a w G): ∀ (x:A) (v:Value),RA G x v→RA G (x.resolve (look s.o)) v
 | .own o,v,hr=>by
  simp only [A.resolve];cases ho:look s.o o with
  |none=>trivial
  |some ob=>
   cases ob with
   |root own e ts xs=>
    cases own with
    |true=>exact hr
    |false=>have:=(h.objs o _ ho).2.2.1;rw [← hr.1] at this;exact this
   |_=>trivial
 | .lj o i c,v,hr=>by
  simp only [A.resolve];cases ho:look s.o o with
  |none=>trivial
  |some ob=>
   cases ob with
   |root own e ts xs=>
    cases own with
    |true=>exact hr
    |false=>exact ybO (i:=0) h ho hr
   |_=>trivial
 | .win o q,v,hr=>trivial
 | .tl o q,v,hr=>trivial
 | .top e ts xs,v,hr=>trivial
 | .box b off,v,hr=>by
  simp only [A.resolve];cases ho:look s.o b with
  |none=>trivial
  |some ob=>
   cases ob with
   |box cs=>
    cases hb:Nat.blt b 10000000 with
    |true=>exact hr
    |false=>trivial
   |_=>trivial
 | .nc f b,v,hr=>by
  simp only [A.resolve];cases ho:look s.o b with
  |none=>trivial
  |some ob=>
   cases ob with
   |box cs=>
    cases hb:Nat.blt b 10000000 with
    |true=>exact hr
    |false=>trivial
   |_=>trivial
 | .agg l,v,hr=>by obtain ⟨cs,rfl,hl⟩:=hr;exact ⟨cs,rfl,RL.resolve h l cs hl⟩
 | .oF l,v,hr=>by obtain ⟨cs,rfl,hl⟩:=hr;exact ⟨cs,rfl,RL.resolve h l cs hl⟩
 | .dead,_,_| .und,_,_=>trivial
 | .val _ _,_,hr| .JX,_,hr| .aj,_,hr| .ly _ _ _ _ _,_,hr| .fn _,_,hr=>hr
theorem RL.resolve (h:Rel P w0 yu H0 s a w G): ∀ (l:List A) (vs:List Value),RL G l vs→RL G (YX (look s.o) l) vs
 |[],[],_=>trivial
 |a::l,v::vs,hr=>⟨RA.resolve h a v hr.1,RL.resolve h l vs hr.2⟩
end
theorem gv (lk:Lk): ∀ (l:List A) (j:Nat),(YX lk l)[j]? =(l[j]?).map (A.resolve lk)
 |[],j=>by simp [YX]
 |a::l,0=>by simp [YX]
 |a::l,j+1=>by simpa [YX] using gv lk l j
theorem AM (m:Nat→Nat): ∀ (l:List A) (j:Nat),(nT m l)[j]? =(l[j]?).map (A.ren m)
 |[],j=>by simp [nT]
 |a::l,0=>by simp [nT]
 |a::l,j+1=>by simpa [nT] using AM m l j
theorem Db (l:List Nat): ∀ (t:List A) (i j:Nat),(oI l i t)[j]? =(t[j]?).map (fun a=>bif Jj l (i+j) then a else .dead)
 |[],i,j=>by simp [oI]
 |a::t,i,0=>by simp [oI]
 |a::t,i,j+1=>by have:=Db l t (i+1) j;rw [show i+1+j=i+(j+1) by omega] at this;simpa [oI] using this
def Known (lk:Lk) (i:Nat):Prop:=(∃ ob,lk i=some ob∧fv ob)∨((∃ cs,lk i=some (.box cs))∧i<10000000)
mutual
theorem A.H7 (lk:Lk): ∀ (x:A) (i:Nat),i∈(x.resolve lk).ids→Known lk i
 | .own o,i,h=>by
  simp only [A.resolve] at h;split at h
  ·rename_i e ts xs ho;simp only [A.ids,aI] at h;subst h;exact .inl ⟨_,ho,e,ts,xs,rfl⟩
  ·simp [A.ids] at h
  ·simp [A.ids] at h
 | .lj o j c,i,h=>by
  simp only [A.resolve] at h;split at h
  ·rename_i e ts xs ho;simp only [A.ids,aI] at h;subst h;exact .inl ⟨_,ho,e,ts,xs,rfl⟩
  ·simp [A.ids] at h
  ·simp [A.ids] at h
 | .win o q,i,h=>by simp [A.resolve,A.ids] at h
 | .tl o q,i,h=>by simp [A.resolve,A.ids] at h
 | .top e ts xs,i,h=>by simp [A.resolve,A.ids] at h
 | .box b off,i,h=>by
  simp only [A.resolve] at h;split at h
  ·rename_i cs ho;cases hb:Nat.blt b 10000000 with
   |true=>rw [hb,yg] at h;simp only [A.ids,aI] at h;subst h;exact .inr ⟨⟨cs,ho⟩,WZ hb⟩
   |false=>rw [hb,yi] at h;simp [A.ids] at h
  ·simp [A.ids] at h
 | .nc f b,i,h=>by
  simp only [A.resolve] at h;split at h
  ·rename_i cs ho;cases hb:Nat.blt b 10000000 with
   |true=>rw [hb,yg] at h;simp only [A.ids,aI] at h;subst h;exact .inr ⟨⟨cs,ho⟩,WZ hb⟩
   |false=>rw [hb,yi] at h;simp [A.ids] at h
  ·simp [A.ids] at h
 | .agg l,i,h=>by simp only [A.resolve,A.ids] at h;exact Vw lk l i h
 | .oF l,i,h=>by simp only [A.resolve,A.ids] at h;exact Vw lk l i h
 | .dead,_,h| .und,_,h| .val _ _,_,h| .JX,_,h| .aj,_,h| .ly _ _ _ _ _,_,h| .fn _,_,h=>by simp [A.resolve,A.ids] at h
theorem Vw (lk:Lk): ∀ (l:List A) (i:Nat),i∈Ya (YX lk l)→Known lk i
 |[],i,h=>by simp [YX,Ya] at h
 |a::l,i,h=>by simp only [YX,Ya,zB] at h;exact h.elim (A.H7 lk a i) (Vw lk l i)
end
def Gh.via (G:Gh) (inv:Nat→Nat):Gh:= {H:=G.H,g:=fun i=>G.g (inv i),sv:=fun i=>G.sv (inv i),sz:=fun i=>G.sz (inv i),pv:=G.pv}
mutual
theorem RA.ren {G:Gh} {m inv:Nat→Nat}: ∀ (x:A) (v:Value),RA G x v→(∀ i∈x.ids,inv (m i)=i)→RA (G.via inv) (x.ren m) v
 | .own o,v,hr,hi=>by have:=hi o (by simp [A.ids]);simp only [A.ren,RA,Gh.via,this] at*;exact hr
 | .lj o i c,v,hr,hi=>by have:=hi o (by simp [A.ids]);simp only [A.ren,RA,Gh.via,this] at*;exact hr
 | .win o q,v,hr,hi=>by have:=hi o (by simp [A.ids]);simp only [A.ren,RA,Gh.via,this] at*;exact hr
 | .tl o q,v,hr,hi=>by have:=hi o (by simp [A.ids]);simp only [A.ren,RA,Gh.via,this] at*;exact hr
 | .box b off,v,hr,hi=>by have:=hi b (by simp [A.ids]);simp only [A.ren,RA,Gh.via,this] at*;exact hr
 | .nc f b,v,hr,hi=>by have:=hi b (by simp [A.ids]);simp only [A.ren,RA,Gh.via,this] at*;exact hr
 | .agg l,v,hr,hi=>by obtain ⟨cs,rfl,hl⟩:=hr;exact ⟨cs,rfl,RL.ren l cs hl (fun i h=>hi i (by simpa [A.ids] using h))⟩
 | .oF l,v,hr,hi=>by obtain ⟨cs,rfl,hl⟩:=hr;exact ⟨cs,rfl,RL.ren l cs hl (fun i h=>hi i (by simpa [A.ids] using h))⟩
 | .dead,_,_,_=>trivial
 | .und,_,hr,_| .val _ _,_,hr,_| .JX,_,hr,_| .aj,_,hr,_| .ly _ _ _ _ _,_,hr,_| .top _ _ _,_,hr,_| .fn _,_,hr,_=>hr
theorem RL.ren {G:Gh} {m inv:Nat→Nat}: ∀ (l:List A) (vs:List Value),RL G l vs→(∀ i∈Ya l,inv (m i)=i)→RL (G.via inv) (nT m l) vs
 |[],[],_,_=>trivial
 |a::l,v::vs,hr,hi=>⟨RA.ren a v hr.1 (fun i h=>hi i (by simp [Ya,h])),RL.ren l vs hr.2 (fun i h=>hi i (by simp [Ya,h]))⟩
end
theorem AO: ∀ (l seen:List Nat) (i:Nat),i∈l→i∉seen→i∈sf seen l
 |j::l,seen,i,h,hs=>by
  rw [sf];cases hm:Jj seen j with
  |true=>rw [yg];have hne:i≠j:=fun e=>hs (e ▸ w6.1 hm);exact AO l seen i ((yR.1 h).resolve_left hne) hs
  |false=>
   rw [yi];by_cases hij:i=j
   ·simp [hij]
   ·exact Er _ (AO l (j::seen) i ((yR.1 h).resolve_left hij) (by simp [hij,hs]))
theorem AP: ∀ (l seen:List Nat) (i:Nat),i∈sf seen l→i∈l∧i∉seen
 |j::l,seen,i,h=>by
  rw [sf] at h;cases hm:Jj seen j with
  |true=>rw [hm,yg] at h;obtain ⟨h1,h2⟩:=AP l seen i h;exact ⟨by simp [h1],h2⟩
  |false=>
   rw [hm,yi] at h;rcases yR.1 h with rfl|h
   ·refine ⟨by simp,fun hs=> ?_⟩;rw [w6.2 hs] at hm;cases hm
   ·obtain ⟨h1,h2⟩:=AP l (j::seen) i h;simp only [yR,not_or] at h2;exact ⟨by simp [h1],h2.2⟩
theorem o3: ∀ (l seen:List Nat),(sf seen l).Nodup
 |[],_=>by simp [sf]
 |j::l,seen=>by
  rw [sf];cases hm:Jj seen j with
  |true=>exact o3 l seen
  |false=>exact oB.2 ⟨fun h=>(AP l (j::seen) j h).2 (by simp),o3 l (j::seen)⟩
theorem o4 (lk:Lk) (i:Nat) (l:List Nat):(∃ ob,lk i=some ob∧fv ob∧fk lk (i::l)=(i,ob)::fk lk l)∨((∀ ob,lk i=some ob→ ¬ fv ob)∧fk lk (i::l)=fk lk l):=by
 rw [fk];cases hi:lk i with
 |none=>exact .inr ⟨fun ob h=>by (cases h),rfl⟩
 |some ob=>
  cases ob with
  |root own e ts xs=>
   cases own with
   |true=>exact .inl ⟨_,rfl,⟨e,ts,xs,rfl⟩,rfl⟩
   |false=>refine .inr ⟨fun ob h how=> ?_,rfl⟩;injection h with h;subst h;obtain ⟨_,_,_,h⟩:=how;cases h
  |_=>refine .inr ⟨fun ob h how=> ?_,rfl⟩;injection h with h;subst h;obtain ⟨_,_,_,h⟩:=how;cases h
theorem gy (lk:Lk): ∀ (l:List Nat) (p:Nat×Ob),p∈fk lk l→p.1∈l∧lk p.1=some p.2∧fv p.2
 |i::l,p,h=>by
  rcases o4 lk i l with ⟨ob,hi,how,he⟩|⟨_,he⟩
  ·rw [he] at h;rcases yR.1 h with rfl|h
   ·exact ⟨by simp,hi,how⟩
   ·obtain ⟨h1,h2⟩:=gy lk l p h;exact ⟨by simp [h1],h2⟩
  ·rw [he] at h;obtain ⟨h1,h2⟩:=gy lk l p h;exact ⟨by simp [h1],h2⟩
theorem sw (lk:Lk): ∀ (l:List Nat) (i:Nat) (ob:Ob),i∈l→lk i=some ob→fv ob→i∈yN (fk lk l)
 |j::l,i,ob,h,hi,how=>by
  rcases o4 lk j l with ⟨TT,_,_,he⟩|⟨hno,he⟩
  ·rw [he];rcases yR.1 h with rfl|h
   ·simp [yN]
   ·simp [yN,sw lk l i ob h hi how]
  ·rw [he];rcases yR.1 h with rfl|h
   ·exact absurd how (hno ob hi)
   ·exact sw lk l i ob h hi how
theorem lR (lk:Lk): ∀ (l:List Nat),l.Nodup→(yN (fk lk l)).Nodup
 |[],_=>by simp [fk,yN]
 |i::l,h=>by
  have hn:=oB.1 h;rcases o4 lk i l with ⟨TT,_,_,he⟩|⟨_,he⟩
  ·rw [he];refine oB.2 ⟨fun hm=> ?_,lR lk l hn.2⟩;rw [kp] at hm;obtain ⟨p,hp,rfl⟩:=eU.1 hm;exact hn.1 (gy lk l p hp).1
  ·rw [he];exact lR lk l hn.2
theorem fv.box {cs:List A} (h:fv (.box cs)):False:=by obtain ⟨_,_,_,h⟩:=h;cases h
theorem fv.same {G G':Gh} {i j:Nat} {ob:Ob} (h:fv ob) (hg:G'.g i=G.g j) (hs:G'.sv i=G.sv j) (hz:G'.sz i=G.sz j) (hH:G'.H=G.H) {w:World}:(∀ k,zS G' i ob k→zS G j ob k)∧(RO G w j ob→RO G' w i ob):=by
 obtain ⟨e,ts,xs,rfl⟩:=h;refine ⟨fun k hk=> ?_,fun hro=> ?_⟩
 ·have hk':(G'.sv i).ownBlock=some k:=hk;rw [hs] at hk';exact hk'
 ·obtain ⟨h1,h2,cells,h3,h4,h5,h6⟩:=hro;exact ⟨by rw [hz];exact h1,h2,cells,by rw [hs];exact h3,h4,by rw [hs,hg];exact h5,by rw [hH];exact h6⟩
theorem o5 (lk:Lk): ∀ (l:List Nat) (p:Nat×List A),p∈CQ lk l→ ∃ cs,lk p.1=some (.box cs)∧p.2=YX lk cs
 |i::l,p,h=>by
  rw [CQ] at h;split at h
  ·rename_i cs hi;rcases yR.1 h with rfl|h
   ·exact ⟨cs,hi,rfl⟩
   ·exact o5 lk l p h
  ·exact o5 lk l p h
theorem H8: ∀ (l:List (Nat×List A)) (p:Nat×List A) (i:Nat),p∈l→i∈Ya p.2→i∈Sc l
 |(j,cs)::l,p,i,hp,hi=>by
  rw [Sc,zB];rcases yR.1 hp with rfl|hp
  ·exact .inl hi
  ·exact .inr (H8 l p i hp hi)
theorem H9: ∀ (rs:List (Nat×Ob)) (n i:Nat),i∈yN rs→ ∃ k,dT rs n i=n+k∧(yN rs)[k]? =some i
 |(j,x)::rs,n,i,h=>by
  rw [dT];by_cases hj:j=i
  ·subst hj;rw [yH,yg];exact ⟨0,rfl,rfl⟩
  ·rw [yO hj,yi];simp only [yN,yR] at h;obtain ⟨k,h1,h2⟩:=H9 rs (n+1) i (h.resolve_left fun e=>hj e.symm);exact ⟨k+1,by omega,by simpa [yN] using h2⟩
theorem Dc: ∀ (rs:List (Nat×Ob)) (n i:Nat),i∉yN rs→dT rs n i=i
 |[],_,_,_=>rfl
 |(j,x)::rs,n,i,h=>by simp only [yN,yR,not_or] at h;rw [dT,yO (fun e:j=i=>h.1 e.symm),yi];exact Dc rs (n+1) i h.2
theorem Ha (l l':List (Nat×Ob)) (i:Nat):look (l++l') i=(look l i).or (look l' i):=by
 induction l with
 |nil=>rfl
 |cons p l ih=>
  obtain ⟨j,x⟩:=p;by_cases hj:j=i
  ·subst hj;simp [look,yH]
  ·simp only [aK,look,yO hj,yi,ih]
theorem Dd (m:Nat→Nat): ∀ (l:List (Nat×List A)) (i:Nat) (ob:Ob),look (Mm m l) i=some ob→ ∃ cs,(i,cs)∈l∧ob= .box (nT m cs)
 |(j,cs)::l,i,ob,h=>by
  rw [Mm,look] at h;by_cases hj:j=i
  ·subst hj;rw [yH,yg] at h;injection h with h;exact ⟨cs,by simp,h.symm⟩
  ·rw [yO hj,yi] at h;obtain ⟨cs',h1,h2⟩:=Dd m l i ob h;exact ⟨cs',by simp [h1],h2⟩
theorem De: ∀ (l:List (Nat×Ob)) (n i:Nat) (ob:Ob),look (Mn l n) i=some ob→ ∃ k j,i=n+k∧l[k]? =some (j,ob)
 |(j,x)::l,n,i,ob,h=>by
  rw [Mn,look] at h;by_cases hj:n=i
  ·subst hj;rw [yH,yg] at h;injection h with h;exact ⟨0,j,rfl,by simp [h]⟩
  ·rw [yO hj,yi] at h;obtain ⟨k,j',h1,h2⟩:=De l (n+1) i ob h;exact ⟨k+1,j',by omega,by simpa using h2⟩
theorem nw {n:Nat}: ∀ {l:List Nat},lD n l=true→ ∀ i∈l,i<n
 |j::l,h,i,hi=>by
  simp only [lD,zzal10] at h;rcases yR.1 hi with rfl|hi
  ·exact WZ h.1
  ·exact nw h.2 i hi
theorem Rel.keep (h:Rel P w0 yu H0 s a w G) {l:List Nat} {s':St} (hk:s.keep l=some s'): ∃ G',Rel P w0 yu H0 s' a w G':=by
 unfold St.keep at hk;generalize ht:YX (look s.o) (oI l 0 s.t)=t at hk
 try simp only at hk
 generalize hbx:CQ (look s.o) (sf [] (Ya t))=bx at hk
 try simp only at hk
 generalize hrs:fk (look s.o) (sf [] (Ya t++Sc bx))=rs at hk
 try simp only at hk
 cases hb:lD 10000000 (yN bx) with
 |false=>simp [hb] at hk
 |true=>
  rw [hb,yg] at hk;injection hk with hk;subst hk;have hlow:=nw hb
  let inv:Nat→Nat:=fun i=>if 10000000≤i then (yN rs).getD (i - 10000000) i else i
  have yey: ∀ p∈rs,look s.o p.1=some p.2∧fv p.2:=fun p hp=>by rw [← hrs] at hp;exact (gy _ _ p hp).2
  have ykc: ∀ p∈bx,∃ cs,look s.o p.1=some (.box cs)∧p.2=YX (look s.o) cs:=fun p hp=>by rw [← hbx] at hp;exact o5 _ _ p hp
  have tO: ∀ (k j:Nat),(yN rs)[k]? =some j→inv (10000000+k)=j:=fun k j hkj=>by show (if 10000000≤10000000+k then (yN rs).getD (10000000+k - 10000000) (10000000+k) else 10000000+k)=j;rw [y0 (by omega),show 10000000+k - 10000000=k by omega,Zr,hkj];rfl
  have ny: ∀ i,i<10000000→inv i=i:=fun i hi=>y9 (by omega);have hid: ∀ i,Known (look s.o) i→i∈Ya t++Sc bx→inv (dT rs 10000000 i)=i:=fun i hkn hm=>by
   rcases hkn with ⟨ob,hi,how⟩|⟨⟨cs,hi⟩,hlt⟩
   ·have:i∈yN rs:=by
     rw [← hrs];exact sw _ _ i ob (AO _ _ i hm (by simp)) hi how
    obtain ⟨k,h1,h2⟩:=H9 rs 10000000 i this;rw [h1];exact tO k i h2
   ·have:i∉yN rs:=fun hm=>by
     rw [kp] at hm;obtain ⟨p,hp,rfl⟩:=eU.1 hm;obtain ⟨h1,h2⟩:=yey p hp;rw [hi] at h1;injection h1 with h1;rw [← h1] at h2;exact h2.box
    rw [Dc _ _ _ this];exact ny i hlt
  have Hb: ∀ (i:Nat) (ob:Ob),look (Mm (dT rs 10000000) bx++Mn rs 10000000) i=some ob→
    (∃ cs,look s.o i=some (.box cs)∧i<10000000∧(i,YX (look s.o) cs)∈bx∧ob= .box (nT (dT rs 10000000) (YX (look s.o) cs)))∨(∃ k j,i=10000000+k∧(yN rs)[k]? =some j∧look s.o j=some ob∧fv ob):=fun i ob hi=>by
   rw [Ha] at hi;cases h1:look (Mm (dT rs 10000000) bx) i with
   |some TT=>
    rw [h1] at hi;have hi':TT=ob:=by simpa using hi
    subst hi';obtain ⟨cs,hm,rfl⟩:=Dd _ _ _ _ h1;obtain ⟨cs0,hc,hcs⟩:=ykc _ hm;simp only at hc hcs;subst hcs;refine .inl ⟨cs0,hc,hlow i ?_,hm,rfl⟩;rw [kp];exact aG (f:=fun p:Nat×List A=>p.1) hm
   |none=>
    rw [h1] at hi;have hi':look (Mn rs 10000000) i=some ob:=by simpa using hi
    obtain ⟨k,j,h2,h3⟩:=De _ _ _ _ hi';obtain ⟨h4,h5⟩:=yey (j,ob) (aF h3);exact .inr ⟨k,j,h2,by rw [kp,cM,h3];rfl,h4,h5⟩
  have hnd:(yN rs).Nodup:=by rw [← hrs];exact lR _ _ (o3 _ _)
  have hold: ∀ (i:Nat) (ob:Ob) (k:Nat),look (Mm (dT rs 10000000) bx++Mn rs 10000000) i=some ob→zS (G.via inv) i ob k→ ∃ o1,look s.o (inv i)=some o1∧zS G (inv i) o1 k:=fun i ob k hi hbk=>by
   rcases Hb i ob hi with ⟨cs,h1,h2,_,rfl⟩|⟨k',j,rfl,h1,h2,how⟩
   ·rw [ny i h2];refine ⟨_,h1,?_⟩;simpa [zS,Gh.via,ny i h2] using hbk
   ·rw [tO k' j h1];have hv:=tO k' j h1;exact ⟨_,h2,(how.same (G:=G) (G':=G.via inv) (i:=10000000+k') (j:=j) (w:=w) (by simp [Gh.via,hv]) (by simp [Gh.via,hv]) (by simp [Gh.via,hv]) rfl).1 k hbk⟩
  have ykd: ∀ i∈Ya t,Known (look s.o) i:=fun i hi=>by rw [← ht] at hi;exact Vw _ _ i hi
  refine ⟨G.via inv,{h with uQ:=h.uQ,base:=h.base,pv:=h.pv,hnew:=h.hnew,defers:=h.defers,len:= ?_,slots:=fun i x hx=> ?_,objs:=fun i ob hi=> ?_,away:=fun i ob k hi hbk=> ?_,apart:=fun i j oi oj k hi hj hbi hbj=> ?_,pin:=fun i ob b hi hp=> ?_}⟩
  ·have hl:=h.len;have h1: ∀ l:List A,(nT (dT rs 10000000) l).length=l.length:=fun l=>by
    induction l with
    |nil=>rfl
    |cons a l ih=>simp [nT,ih]
   have h2: ∀ l:List A,(YX (look s.o) l).length=l.length:=fun l=>by
    induction l with
    |nil=>rfl
    |cons a l ih=>simp [YX,ih]
   have h3: ∀ (l:List Nat) (t:List A) (i:Nat),(oI l i t).length=t.length:=fun l t=>by
    induction t with
    |nil=>intro i;rfl
    |cons a t ih=>intro i;simp [oI,ih]
   simp only [h1,← ht,h2,h3];exact hl
  ·have hx':(nT (dT rs 10000000) t)[i]? =some x:=hx;rw [AM] at hx';obtain ⟨y,hy,rfl⟩:=Ys.1 hx';have hmem: ∀ j∈y.ids,j∈Ya t:=fun j hj=>by
    have: ∀ (l:List A) (i:Nat) (y:A),l[i]? =some y→ ∀ j∈y.ids,j∈Ya l:=by
     intro l;induction l with
     |nil=>intro i y hy;simp at hy
     |cons b l ihl=>
      intro i y hy j hj;cases i with
      |zero=>simp only [lq,z8] at hy;subst hy;simp [Ya,hj]
      |succ i=>simp [Ya,ihl i y (by simpa using hy) j hj]
    exact this t i y hy j hj
   refine RA.ren y _ ?_ (fun j hj=>hid j (ykd j (hmem j hj)) (by simp [hmem j hj]));rw [← ht,gv] at hy;obtain ⟨u,hu,rfl⟩:=Ys.1 hy;refine RA.resolve h u _ ?_;rw [Db] at hu;obtain ⟨u',hu',rfl⟩:=Ys.1 hu;cases Jj l (0+i) with
   |true=>exact h.slots i u' hu'
   |false=>trivial
  ·rcases Hb i ob hi with ⟨cs,h1,h2,h3,rfl⟩|⟨k,j,rfl,h1,h2,how⟩
   ·have hro:=h.objs i _ h1;refine ⟨by simp only [Gh.via,ny i h2];exact hro.1,fun j x hx=> ?_⟩;rw [AM] at hx;obtain ⟨y,hy,rfl⟩:=Ys.1 hx;have hyy:=hy;rw [gv] at hy;obtain ⟨u,hu,rfl⟩:=Ys.1 hy;obtain ⟨f1,v,f2,f3,f4⟩:=hro.2 j u hu;simp only [Gh.via,ny i h2];refine ⟨f1,v,f2,f3,RA.ren _ _ (RA.resolve h u v f4) (fun m hm=> ?_)⟩;have hmm:m∈Ya (YX (look s.o) cs):=by
     have: ∀ (l:List A) (i:Nat) (y:A),l[i]? =some y→ ∀ j∈y.ids,j∈Ya l:=by
      intro l;induction l with
      |nil=>intro i y hy;simp at hy
      |cons b l ihl=>
       intro i y hy j hj;cases i with
       |zero=>simp only [lq,z8] at hy;subst hy;simp [Ya,hj]
       |succ i=>simp [Ya,ihl i y (by simpa using hy) j hj]
     exact this _ j _ hyy m hm
    exact hid m (Vw _ _ m hmm) (g6 _ (H8 bx _ m h3 hmm))
   ·have hro:=h.objs j _ h2;have hv:=tO k j h1;exact (how.same (G:=G) (G':=G.via inv) (i:=10000000+k) (j:=j) (w:=w) (by simp [Gh.via,hv]) (by simp [Gh.via,hv]) (by simp [Gh.via,hv]) rfl).2 hro
  ·obtain ⟨o1,h1,h2⟩:=hold i ob k hi hbk;exact h.away _ o1 k h1 h2
  ·obtain ⟨o1,h1,h2⟩:=hold i oi k hi hbi;obtain ⟨o2,h3,h4⟩:=hold j oj k hj hbj;have heq:=h.apart _ _ o1 o2 k h1 h3 h2 h4;rcases Hb i oi hi with ⟨cs,a1,a2,_,rfl⟩|⟨k1,j1,rfl,a1,a2,yez⟩<;>rcases Hb j oj hj with ⟨cs',b1,b2,_,rfl⟩|⟨k2,j2,rfl,b1,b2,yeA⟩
   ·rw [ny i a2,ny j b2] at heq;exact heq
   ·rw [ny i a2,tO k2 j2 b1] at heq;subst heq;rw [a1] at b2;injection b2 with b2;rw [← b2] at yeA;exact yeA.box.elim
   ·rw [tO k1 j1 a1,ny j b2] at heq;subst heq;rw [b1] at a2;injection a2 with a2;rw [← a2] at yez;exact yez.box.elim
   ·rw [tO k1 j1 a1,tO k2 j2 b1] at heq;subst heq;have hl1:=(ZF.1 a1).1;have:=(List.getElem?_inj hl1 hnd).1 (a1.trans b1.symm);rw [this]
  ·rcases Hb i ob hi with ⟨cs,h1,h2,_,rfl⟩|⟨k,j,rfl,h1,h2,_⟩
   ·simp only [Gh.via,ny i h2];exact h.pin i _ b h1 hp
   ·have:=H0.ok _ b hp;omega
end
section
variable {P:Program} {C:Ctx} {w0:World} {yu:Nat→Prop} {H0:Base} {call:C.Sem}
theorem MR {h0:List Nat} {ops:Array Oper}: ∀ (l:List Oper) (L:List Wf),CP C h0 ops l=some L→L.length=l.length∧ ∀ (k:Nat) (x:Wf),L[k]? =some x→l[k]? =some x.o∧guardOf ops x.o=some x.g:=by
 intro l;induction l with
 |nil=>intro L h;simp only [CP,z8] at h;subst h;exact ⟨rfl,fun k x hk=>by simp at hk⟩
 |cons o r ih=>
  intro L h;simp only [CP] at h;cases hg:guardOf ops o with
  |none=>simp [hg] at h
  |some g=>
   cases hl:CP C h0 ops r with
   |none=>simp [hg,hl] at h
   |some l=>
    simp only [hg,hl,z8] at h;subst h;obtain ⟨h1,h2⟩:=ih l hl;refine ⟨by simp [h1],fun k x hk=> ?_⟩;cases k with
    |zero=>simp only [lq,z8] at hk;subst hk;exact ⟨rfl,hg⟩
    |succ k=>simpa using h2 k x (by simpa using hk)
theorem Sz {s:St} {a:Act} {w:World} {G:Gh} (h:Rel P w0 yu H0 s a w G) {x:Operand} {b:Bool} (hb:zd s x=some b):a.eval x= .bool b:=by
 have hr:=h.Yw x;unfold zd at hb;split at hb
 ·rename_i b' hb';injection hb with hb;subst hb;rw [hb'] at hr;exact hr
 ·cases hb
def yeB (o:Oper):Bool:=match o.dst with
 |some d=>Nat.blt d 900||Nat.ble 950 d
 |none=>true
def allOut:List Oper→Bool
 |[]=>true
 |o::r=>yeB o&&allOut r
def AQ:Code→Bool
 | .region _ ops _=>allOut ops.toList
 | .seq a b=>AQ a&&AQ b
 | .cond _ a b=>AQ a&&AQ b
 | .block _ c=>AQ c
 | .loop c=>AQ c
 |_=>true
theorem Hc (l:List Oper) (h:allOut l=true): ∀ o∈l,Out o:=by
 induction l with
 |nil=>intro o ho;simp at ho
 |cons x l ih=>
  intro o ho;simp only [allOut,zzal10] at h;rcases yR.1 ho with e|ho
  ·intro d hd;have h1:=h.1;rw [← e] at h1;simp only [yeB,hd,nR] at h1;exact h1.imp WZ WZ
  ·exact ih h.2 o ho
def gz (C:Ctx) (call:C.Sem) (lp:Lp) (fn:Nat) (c:Code):Prop:=
 ∀ l lx,C.live fn (Z4 c)=some (l,lx)→ ∀ {R:Type} (κ:Option Nat→St→Option R) (s:St) (r:R),lp (Z4 c) s κ=some r→ ∃ n,iter (Gm C call lp fn c l lx κ) n s=some r
structure yke (P:Program) (w0:World) (yu:Nat→Prop) (H0:Base) {R:Type} (K:Ks R) (r:R) (Q:Exit→Act→World→Prop):Prop where
 exits: ∀ i s a w G,K.exit i s=some r→Rel P w0 yu H0 s a w G→Q (.exit i) a w
 ret: ∀ s a w G,K.ret s=some r→Rel P w0 yu H0 s a w G→Q .ret a w
theorem MS (hT:Jl C P) (hC:Contract H0 C P call) (hm:P.follows .mixedOrders=true) {lp:Lp} {fn:Nat} {R:Type}: ∀ (c:Code) (s:St) (a:Act) (w:World) (G:Gh) (k:St→Option R) (K:Ks R) (r:R) (Q:Exit→Act→World→Prop),AQ c=true→(∀ c'∈jm c,gz C call lp fn c')→Rel P w0 yu H0 s a w G→b_ C call lp fn c s k K=some r→
  (∀ s' a' w' G',k s'=some r→Rel P w0 yu H0 s' a' w' G'→Q .normal a' w')→yke P w0 yu H0 K r Q→c.wp P Q a w:=by
 intro c;induction c with
 |skip=>intro s a w G k K r Q ho hl h he hk hw;exact Go.wp_skip (hk s a w G he h)
 |region id ops dr=>
  intro s a w G0 k K r Q ho hl h0 he hk hw;rw [b_] at he;obtain ⟨G,h⟩: ∃ G,Rel P w0 yu H0 (preS (C.hint fn) id s) a w G:=by
   unfold preS;split
   ·exact ⟨G0,h0⟩
   ·obtain ⟨G',_,hr,_⟩:=h0.settles (fun i ob e ts xs hi hw=>⟨ob,hi,hw⟩) (Ml s _);exact ⟨G',hr⟩
  generalize preS (C.hint fn) id s=s at he h;cases hp:yem C (C.hint fn) dr ops with
  |none=>simp [hp] at he
  |some L=>
   simp only [hp] at he;have hout: ∀ (i:Nat) (o:Oper),ops[i]? =some o→Out o:=fun i o hi=>Hc ops.toList ho o (by simpa using Array.mem_of_getElem? hi);cases dr with
   |false=>obtain ⟨h1,h2⟩:=MR ops.toList L hp;exact wp_region (GY hT hC hout ⟨by simpa using h1,fun i x hx=>⟨by simpa using (h2 i x hx).1,(h2 i x hx).2⟩⟩ h he hk)
   |true=>exact wp_region_any hm (MQ hT hC hout hp h he hk)
 |seq x y ihx ihy=>intro s a w G k K r Q ho hl h he hk hw;rw [b_] at he;simp only [AQ,zzal10] at ho;simp only [jm,zB] at hl;exact wp_seq (ihx s a w G _ K r _ ho.1 (fun c' hc'=>hl c' (.inl hc')) h he (fun s' a' w' G' hk' hr'=>ihy s' a' w' G' k K r Q ho.2 (fun c' hc'=>hl c' (.inr hc')) hr' hk' hk hw) ⟨fun i s a w G h1 h2=>hw.exits i s a w G h1 h2,fun s a w G h1 h2=>hw.ret s a w G h1 h2⟩)
 |cond c x y ihx ihy=>
  intro s a w G k K r Q ho hl h he hk hw;rw [b_] at he;simp only [jm,zB] at hl;cases hb:zd s c with
  |none=>simp [hb] at he
  |some b=>
   simp only [hb] at he;refine wp_cond (Sz h hb) ?_;simp only [AQ,zzal10] at ho;cases b with
   |true=>exact ihx s a w G k K r Q ho.1 (fun c' hc'=>hl c' (.inl hc')) h he hk hw
   |false=>exact ihy s a w G k K r Q ho.2 (fun c' hc'=>hl c' (.inr hc')) h he hk hw
 |block i c ih=>
  intro s a w G k K r Q ho hl h he hk hw;rw [b_] at he;refine wp_block (ih s a w G k _ r _ ho hl h he (fun s' a' w' G' h1 h2=>hk s' a' w' G' h1 h2) ⟨fun j s a w G h1 h2=> ?_,fun s a w G h1 h2=>hw.ret s a w G h1 h2⟩);by_cases hij:i=j
  ·subst hij;simp only [yH,yg] at h1;simp only [Exit.inBlock,yo];exact hk s a w G h1 h2
  ·simp only [yO hij,yi] at h1;simp only [Exit.inBlock]
   first
    |rw [y9 hij];exact hw.exits j s a w G h1 h2
    |rw [y9 (fun e=>hij e.symm)];exact hw.exits j s a w G h1 h2
 |loop c ih=>
  intro s a w G k K r Q ho hl h he hk hw;rw [b_] at he;cases hlv:C.live fn (Z4 c) with
  |none=>simp [hlv] at he
  |some q=>
   obtain ⟨l,lx⟩:=q;simp only [hlv] at he;cases hs:s.keep l with
   |none=>simp [hs] at he
   |some s0=>
    simp only [hs,zzal0] at he;obtain ⟨G0,h0⟩:=h.keep hs;obtain ⟨n,hn⟩:=hl c (by simp [jm]) l lx hlv K.go s0 r he;refine wp_loop_rounds n ?_;have key: ∀ (n:Nat) (s0:St) (a:Act) (w:World) (G:Gh),Rel P w0 yu H0 s0 a w G→iter (Gm C call lp fn c l lx K.go) n s0=some r→Code.rounds P c Q n a w:=by
     intro n;induction n with
     |zero=>intro s0 a w G _ h;cases h
     |succ n ihn=>
      intro s0 a w G h0 he;rw [iter] at he;rw [rounds_succ];refine ih s0 a w G _ _ r _ ho (fun c' hc'=>hl c' (by simp [jm,hc'])) h0 he (fun s' a' w' G' hk' hr'=> ?_) ⟨fun i s a w G h1 h2=> ?_,fun s a w G h1 h2=> ?_⟩
      ·cases hs':s'.keep l with
       |none=>simp [hs'] at hk'
       |some s3=>simp only [hs',zzal0] at hk';obtain ⟨G3,h3⟩:=hr'.keep hs';exact ihn s3 a' w' G3 h3 hk'
      ·simp only [Ks.keep] at h1;cases hs':s.keep lx with
       |none=>simp [hs'] at h1
       |some s3=>simp only [hs',zzal0] at h1;obtain ⟨G3,h3⟩:=h2.keep hs';exact hw.exits i s3 a w G3 h1 h3
      ·simp only [Ks.keep] at h1;cases hs':s.keep lx with
       |none=>simp [hs'] at h1
       |some s3=>simp only [hs',zzal0] at h1;obtain ⟨G3,h3⟩:=h2.keep hs';exact hw.ret s3 a w G3 h1 h3
    exact key n s0 a w G0 h0 hn
 |exit i=>intro s a w G k K r Q ho hl h he hk hw;rw [b_] at he;exact wp_exit (hw.exits i s a w G he h)
 |ret=>intro s a w G k K r Q ho hl h he hk hw;rw [b_] at he;exact wp_ret (hw.ret s a w G he h)
 |_=>intro s a w G k K r Q ho hl h he hk hw;simp [b_] at he
end
section
variable {P:Program} {C:Ctx} {w0:World} {yu:Nat→Prop} {H0:Base} {s:St} {a:Act} {w:World} {G:Gh} {call:C.Sem}
def gA (tmps:Array Value):ResultVar→Sem Value
 | .tmp t=>pure (tmps.getD t undef)
 | .cell a t=>do loadVar t (← asAddr (tmps.getD a undef))
theorem EW {fn:Func} {tmps:Array Value} {cs:List Value} (h:(fn.results.toList.mapM (gA tmps)).run P w= .ok cs w):(results fn tmps).run P w= .ok (resVal cs) w:=by
 have e:(fn.results.mapM (gA tmps)).run P w= .ok cs.toArray w:=by rw [Array.mapM_eq_mapM_toList];simp [h]
 have:results fn tmps=(do
   let vs ← fn.results.mapM (gA tmps)
   pure (if h:vs.size=1 then vs[0] else .tuple vs)):=by
  unfold results;congr 2
 rw [this,Sem.run_bind,e];cases cs with
 |nil=>rfl
 |cons c cs=>
  cases cs with
  |nil=>rfl
  |cons d cs=>simp [resVal]
theorem EX {G:Gh} {agg:Bool} {x:A} {c:List A} {v:Value} (hc:Jk agg x=some c) (hr:RA G x v): ∃ vs1,RL G c vs1∧(if agg then v= .agg vs1.toArray else vs1=[v]):=by
 cases agg with
 |true=>
  cases x with
  |agg l0=>simp only [Jk,z8] at hc;subst hc;obtain ⟨cs,hv,hl⟩:=hr;exact ⟨cs,hl,hv⟩
  |_=>simp [Jk] at hc
 |false=>
  have:c=[x]:=by cases x<;>simp [Jk] at hc<;>exact hc.symm
  subst this;exact ⟨[v],⟨hr,trivial⟩,rfl⟩
theorem SA (hT:Jl C P) (h:Rel P w0 yu H0 s a w G) {t:Nat} {ti:TI} (ht:C.info t=some ti) {p x:A} (hx:lB (look s.o) ti p=some x) {v:Value} (hv:RA G p v): ∃ u,(do loadVar t (← asAddr v):Sem Value).run P w= .ok u w∧RA G x u:=by
 obtain ⟨u,hu,hr⟩:=xV hT h (fun _ _ h=>h) ht hx hv;refine ⟨u,?_,hr⟩;have: ∃ ad,v= .pointer (some ad):=by
  cases p with
  |box b off=>exact ⟨_,hv⟩
  |lj o i c=>exact ⟨_,hv.1⟩
  |ly e ts xs i c=>obtain ⟨ad,hv,_⟩:=hv;exact ⟨_,hv⟩
  |_=>simp [lB] at hx
 obtain ⟨ad,rfl⟩:=this;simpa [Instr.loadAt,Instr.sureAddr,asAddr] using hu
theorem AR (hT:Jl C P) (h:Rel P w0 yu H0 s a w G): ∀ (rs:List ResultVar) (ks:List RK) (l:List A),oJ C s rs ks=some l→ ∃ cs vs,(rs.mapM (gA a.tmps)).run P w= .ok cs w∧RL G l vs∧ ∀ rest,SpreadR ks (vs++rest) cs rest:=by
 intro rs;induction rs with
 |nil=>
  intro ks l hl;cases ks with
  |nil=>simp only [oJ,z8] at hl;subst hl;exact ⟨[],[],rfl,trivial,fun rest=>⟨rfl,by simp⟩⟩
  |cons _ _=>simp [oJ] at hl
 |cons r rs ih=>
  intro ks l hl;cases ks with
  |nil=>cases r<;>simp [oJ] at hl
  |cons k ks=>
   have step: ∀ (x:A) (v:Value),(gA a.tmps r).run P w= .ok v w→RA G x v→(match Jk k.agg x,oJ C s rs ks with
     |some c,some l=>bif Nat.beq c.length k.ts.length then some (c++l) else none
     |_,_=>none)=some l→ ∃ cs vs,((r::rs).mapM (gA a.tmps)).run P w= .ok cs w∧RL G l vs∧ ∀ rest,SpreadR (k::ks) (vs++rest) cs rest:=by
    intro x v hv hr hl;cases hc:Jk k.agg x with
    |none=>simp [hc] at hl
    |some c=>
     cases hrl:oJ C s rs ks with
     |none=>simp [hc,hrl] at hl
     |some l'=>
      simp only [hc,hrl] at hl;cases hb:Nat.beq c.length k.ts.length with
      |false=>simp [hb] at hl
      |true=>simp only [hb,yg,z8] at hl;subst hl;obtain ⟨cs,vs,h1,h2,h3⟩:=ih ks l' hrl;obtain ⟨vs1,k1,k2⟩:=EX hc hr;refine ⟨v::cs,vs1++vs,?_,RL.append k1 h2,fun rest=>⟨vs1,vs++rest,v,cs,by simp,by rw [← k1.length];exact zo hb,rfl,k2,h3 rest⟩⟩;rw [List.mapM_cons];simp only [Sem.run_bind,hv];simp [h1]
   cases r with
   |tmp t=>simp only [oJ] at hl;exact step _ _ rfl (h.tmp t) hl
   |cell b t=>
    simp only [oJ] at hl;cases ht:C.info t with
    |none=>simp [ht] at hl
    |some ti=>
     simp only [ht] at hl;cases hx:lB (look s.o) ti (s.t.getD b .dead) with
     |none=>rw [hx] at hl;cases hl
     |some x=>simp only [hx] at hl;obtain ⟨u,hu,hr⟩:=SA hT h ht hx (h.tmp b);exact step x u hu hr hl
theorem MT (hT:Jl C P) (h:Rel P w0 yu H0 s a w G) {rs:List ResultVar} {ks:List RK} {l:List A} (hl:y2R C s rs ks=some l):
  ∃ b off vs1 vs2 c2 q cs r ks',(rs.mapM (gA a.tmps)).run P w= .ok (.pointer (some ⟨b,off,none⟩)::c2) w∧RL G l (vs1++vs2)∧ks=r::ks'∧vs1.length=r.ts.length∧(∀ rest,SpreadR ks' (vs2++rest) c2 rest)∧oM w b off vs1∧look s.o q=some (.box cs)∧G.g q=(b,off)∧(q<900∨950≤q):=by
 unfold y2R at hl;split at hl
 ·rename_i t rs' k ks';split at hl
  ·rename_i q off hq;split at hl
   ·rename_i cs hcs;cases hb:Nat.beq off 0&&Nat.beq cs.length k.ts.length&&(Nat.blt q 900||Nat.ble 950 q) with
    |false=>simp [hb] at hl
    |true=>
     simp only [hb,yg] at hl;cases hrl:oJ C s rs' ks' with
     |none=>simp [hrl] at hl
     |some l'=>
     simp only [hrl,z8] at hl;subst hl;obtain ⟨cz,vs2,d1,d2,d3⟩:=AR hT h rs' ks' l' hrl;simp only [zzal10,nR] at hb;have ho:=zo hb.1.1;have hlen:=zo hb.1.2;subst ho;have hro:=h.objs q _ hcs;obtain ⟨vs3,c1,c2,c3,c4⟩:=lE (G:=G) cs (fun j=>w.cell? ⟨(G.g q).1,(G.g q).2+j,none⟩) (fun j c hc=>(hro.2 j c hc).2);refine ⟨(G.g q).1,(G.g q).2,vs3,vs2,cz,q,cs,k,ks',?_,RL.append c4 d2,rfl,by rw [c1,hlen],d3,⟨hro.1,fun j u hu=> ?_⟩,hcs,rfl,?_⟩
     ·have:=h.tmp t;rw [hq] at this;have hv:a.tmps.getD t undef= .pointer (some ⟨(G.g q).1,(G.g q).2+0,none⟩):=this;rw [List.mapM_cons];simp [gA,hv,d1]
     ·have hj:j<cs.length:=by
       have:=(ZF.1 hu).1;omega
      exact ⟨(hro.2 j _ (WX hj)).1,c2 j u hu,c3 u (aF hu)⟩
     ·rcases hb.2 with h1|h1
      ·exact .inl (WZ h1)
      ·exact .inr (nN h1)
   ·cases hl
  ·cases hl
 ·cases hl
theorem Hd (h:Rel P w0 yu H0 s a w G): ∀ (ps:List PK) (i:Nat) (l:List A) (args vs:List Value) (pb:List (Nat×Nat)) (w1:World),ic s ps i=some l→Spread w1 ps args vs pb→(∀ j,900+i≤j→H0.pin j=V7 ps pb i j)→ ∃ vs2,RL G l vs2∧BackAt w ps pb vs2:=by
 intro ps;induction ps with
 |nil=>intro i l args vs pb w1 hb hs hp;simp only [ic,z8] at hb;subst hb;obtain ⟨_,_,rfl⟩:=hs;exact ⟨[],trivial,rfl,rfl⟩
 |cons p ps ih=>
  intro i l args vs pb w1 hb hs hp;cases p with
  |v agg ts os=>obtain ⟨arg,vs1,args',vs',_,_,_,_,hs'⟩:=hs;exact ih (i+1) l args' vs' pb w1 hb hs' (fun j hj=>hp j (by omega))
  |k f=>obtain ⟨args',_,hs'⟩:=hs;exact ih (i+1) l args' vs pb w1 hb hs' (fun j hj=>hp j (by omega))
  |p wr ts os=>
   obtain ⟨b,off,vs1,args',vs',pb',_,_,_,rfl,_,hs'⟩:=hs;simp only [ic] at hb;cases hl:look s.o (900+i) with
   |none=>simp [hl] at hb
   |some ob=>
    cases ob with
    |box cs=>
     cases hr:ic s ps (i+1) with
     |none=>simp [hl,hr] at hb
     |some l'=>
      simp only [hl,hr] at hb;cases hbe:Nat.beq cs.length ts.length with
      |false=>simp [hbe] at hb
      |true=>
       simp only [hbe,yg,z8] at hb;subst hb;obtain ⟨vs2,h1,h2⟩:=ih (i+1) l' args' vs' pb' w1 hr hs' (fun j hj=>by rw [hp j (by omega)];simp [V7,show ¬ j=900+i by omega]);have sm:H0.pin (900+i)=some (b,off):=by rw [hp (900+i) (by omega)];simp [V7]
       have hg:=h.pin (900+i) _ _ hl sm;have hro:=h.objs (900+i) _ hl;rw [RO,hg] at hro;obtain ⟨vs3,c1,c2,c3,c4⟩:=lE (G:=G) cs (fun j=>w.cell? ⟨b,off+j,none⟩) (fun j c hc=>(hro.2 j c hc).2);refine ⟨vs3++vs2,RL.append c4 h1,b,off,pb',vs3,vs2,rfl,rfl,by rw [c1];exact zo hbe,⟨hro.1,fun j u hu=> ?_⟩,h2⟩;have hj:j<cs.length:=by have:=(ZF.1 hu).1;omega
       exact ⟨(hro.2 j _ (WX hj)).1,c2 j u hu,c3 u (aF hu)⟩
    |_=>simp [hl] at hb
theorem SB (h:Rel P w0 yu H0 s a w G): ∀ (ps:List PK) (i:Nat) (l:List A) (args vs:List Value) (pb:List (Nat×Nat)) (w1:World),ic s ps i=some l→Spread w1 ps args vs pb→(∀ j,900+i≤j→H0.pin j=V7 ps pb i j)→ ∀ p∈pb,∃ j cs,look s.o j=some (.box cs)∧G.g j=p∧900≤j∧j<900+i+ps.length:=by
 intro ps;induction ps with
 |nil=>intro i l args vs pb w1 hb hs hp p hpm;obtain ⟨_,_,rfl⟩:=hs;simp at hpm
 |cons q ps ih=>
  intro i l args vs pb w1 hb hs hp p hpm;cases q with
  |v agg ts os=>obtain ⟨arg,vs1,args',vs',_,_,_,_,hs'⟩:=hs;obtain ⟨j,cs,a1,a2,a3,a4⟩:=ih (i+1) l args' vs' pb w1 hb hs' (fun j hj=>hp j (by omega)) p hpm;exact ⟨j,cs,a1,a2,a3,by simp only [yp];omega⟩
  |k f=>obtain ⟨args',_,hs'⟩:=hs;obtain ⟨j,cs,a1,a2,a3,a4⟩:=ih (i+1) l args' vs pb w1 hb hs' (fun j hj=>hp j (by omega)) p hpm;exact ⟨j,cs,a1,a2,a3,by simp only [yp];omega⟩
  |p wr ts os=>
   obtain ⟨b,off,vs1,args',vs',pb',_,_,_,rfl,_,hs'⟩:=hs;simp only [ic] at hb;cases hl:look s.o (900+i) with
   |none=>simp [hl] at hb
   |some ob=>
    cases ob with
    |box cs=>
     cases hr:ic s ps (i+1) with
     |none=>simp [hl,hr] at hb
     |some l'=>
      have sm:H0.pin (900+i)=some (b,off):=by rw [hp (900+i) (by omega)];simp [V7]
      rcases yR.1 hpm with rfl|hpm
      ·exact ⟨900+i,cs,hl,h.pin (900+i) _ _ hl sm,by omega,by simp only [yp];omega⟩
      ·obtain ⟨j,cs,a1,a2,a3,a4⟩:=ih (i+1) l' args' vs' pb' w1 hr hs' (fun j hj=>by
        rw [hp j (by omega)];simp [V7,show ¬ j=900+i by omega]) p hpm
       exact ⟨j,cs,a1,a2,a3,by simp only [yp];omega⟩
    |_=>simp [hl] at hb
theorem UJ (hT:Jl C P) (hm:P.follows .mixedOrders=true) (hCA:dW C P call) {f g:Nat} (Ut:C.fid f=g) {fn:Func} {c:Code} {sg:Sig} (hfn:P.funcs[g]? =some fn) (hname:fn.name≠ "runtime.NumGoroutine") (hbody:fn.body=some c) (hsig:C.sig f=some sg) (hout:AQ c=true) {lp:Lp} (MU: ∀ c'∈jm c,gz C call lp f c')
  (hlen:sg.ps.length≤50) (hnt:sg.ps.length≤fn.ntmps) {F:Elts (C.ins f)→Option (Elts (C.outs f))} (hF: ∀ x y,F x=some y→NP C call lp f fn c sg (C.ins f) (C.outs f) x=some y):ko C P f F:=by
 intro sg' x y O5 hy w H args vs bs pb hgl hH hc ha hs hp hx hd;rw [hsig] at O5;injection O5 with O5;subst O5;have he:=hF x y hy;rw [Ut];refine goes_of_calls hfn hname (by rw [hbody];simp) (calls_of_wp hfn hbody ?_);have hal:args.length=sg.ps.length:=by
  have: ∀ (ps:List PK) (args vs:List Value) (pb:List (Nat×Nat)),Spread w ps args vs pb→args.length=ps.length:=by
   intro ps;induction ps with
   |nil=>intro args vs pb h;rw [h.1];rfl
   |cons p ps ih=>
    intro args vs pb h;cases p with
    |v agg ts os=>obtain ⟨arg,vs1,args',vs',rfl,_,_,_,hs'⟩:=h;simp [ih _ _ _ hs']
    |k f=>obtain ⟨args',rfl,hs'⟩:=h;simp [ih _ _ _ hs']
    |p wr ts os=>obtain ⟨b,off,vs1,args',vs',pb',rfl,_,_,_,_,hs'⟩:=h;simp [ih _ _ _ hs']
  exact this _ _ _ _ hs
 obtain ⟨G,hG,hrel⟩:=GJ (P:=P) sg fn.ntmps (C.ins f) x hH hc ha hs hp hx hd hlen (by omega);have fin: ∀ (e:Exit) (s:St) (a:Act) (w':World) (G:Gh),(e= .normal∨e= .ret)→finish C sg fn.results.toList (C.outs f) s=some y→Rel P w (Lent (w7 sg bs) pb) ⟨H,V7 sg.ps pb 0,fun i b h=>by have:=kn sg.ps pb 0 i b h;omega,sr sg w bs⟩ s a w' G→
   bodyPost P fn (fun e w'=> ∃ v,e= .returned v∧ ∃ H' vs' cs rest bs',Left w (Lent (w7 sg bs) pb) H sg (C.outs f) y pb v w' H' vs' cs rest bs') e a w':=by
  intro e s a w' G hend hfin h;unfold finish at hfin;cases h1:(bif sg.ptr then y2R C s fn.results.toList sg.rs else oJ C s fn.results.toList sg.rs) with
  |none=>simp [h1] at hfin
  |some l=>
   cases h2:ic s sg.ps 0 with
   |none=>simp [h1,h2] at hfin
   |some l2=>
    simp only [h1,h2] at hfin;cases h3:V2 (look s.o) (C.outs f) sg.owns (l++l2) with
    |none=>rw [h3] at hfin;cases hfin
    |some q=>
     obtain ⟨y',is,gs⟩:=q;rw [h3] at hfin;dsimp only at hfin;cases hb:gi gs&&bZ gs is with
     |false=>simp [hb] at hfin
     |true=>
      simp only [hb,yg,z8] at hfin;subst hfin;simp only [zzal10] at hb;have hng:=gm hb.1;have hgi:=qZ hb.2;obtain ⟨cs,vs1,r1,r2,r3⟩: ∃ cs vs1,(fn.results.toList.mapM (gA a.tmps)).run P w'= .ok cs w'∧RL G l vs1∧ ∀ rest,∃ nb,CX w' sg (vs1++rest) cs rest (resVal cs) nb∧ ∀ k,nb=some k→ ∃ q cq,look s.o q=some (.box cq)∧(G.g q).1=k∧(q<900∨950≤q):=by
       cases SD:sg.ptr with
       |false=>rw [SD,yi] at h1;obtain ⟨cs,vs1,r1,r2,r3⟩:=AR hT h _ _ _ h1;refine ⟨cs,vs1,r1,r2,fun rest=>⟨none,?_,fun k hk=>by cases hk⟩⟩;unfold CX;rw [SD];exact ⟨rfl,r3 rest,rfl⟩
       |true=>rw [SD,yg] at h1;obtain ⟨b,off,vs1,vs2,c2,q,cq,r,ks',r1,r2,r3,r4,r9,r5,r6,r7,r8⟩:=MT hT h h1;refine ⟨_,vs1++vs2,r1,r2,fun rest=>⟨some b,?_,fun k hk=>⟨q,cq,r6,by rw [r7];injection hk,r8⟩⟩⟩;unfold CX;rw [SD];exact ⟨r,ks',b,off,vs1,vs2++rest,c2,rfl,r3,by rw [jF],r4,r9 rest,rfl,r5⟩
      obtain ⟨vs2,b1,b2⟩:=Hd h sg.ps 0 l2 args vs pb w h2 hs (fun j _=>rfl);have SD:=SB h sg.ps 0 l2 args vs pb w h2 hs (fun j _=>rfl);obtain ⟨G1,hgr,hr1,hset⟩:=Rel.settles (dS.rows (fun _ _ h=>h)) h is;obtain ⟨bs',t1,t2,t3⟩:=Ac h (fun _ _ h=>h) hgr (C.outs f) sg.owns (l++l2) y' is gs h3 hset hng (vs1++vs2) (RL.append r2 b1);have hres:=EW r1;have hroot: ∀ i∈yN (Go.Proofs.YtekbnpmmjciloaaGreat.R.settles (look s.o) is),∃ ob e ts xs,look s.o i=some ob∧Rw ob e ts xs:=fun i hi=>cb _ is i hi;have hmem': ∀ {i:Nat} {X:List Nat},i∉X→Jj X i=false:=fun {i X} hi=>by
       cases hm:Jj X i with
       |false=>rfl
       |true=>exact absurd (w6.1 hm) hi
      have y5r: ∀ j cs,look s.o j=some (.box cs)→look (s.yB (Go.Proofs.YtekbnpmmjciloaaGreat.R.settles (look s.o) is)).o j=some (.box cs):=fun j cs hl=>by
       rw [jN _ _ (hmem' fun hi=> ?_)]
       ·exact hl
       ·obtain ⟨ob,e,ts,xs,hr,hw⟩:=hroot _ hi;rw [hl] at hr;injection hr with hr;subst hr;rcases hw with ⟨_,hw⟩|hw<;>cases hw
      have UK: ∀ p∈pb,∃ j cs,look (s.yB (Go.Proofs.YtekbnpmmjciloaaGreat.R.settles (look s.o) is)).o j=some (.box cs)∧G1.g j=p∧900≤j∧j<950:=fun p hpm=>by obtain ⟨j,cs,hl,hg,hj1,hj2⟩:=SD p hpm;exact ⟨j,cs,y5r j cs hl,by rw [hgr.g];exact hg,hj1,by omega⟩
      obtain ⟨nb,rr1,rr2⟩:=r3 vs2;have hleft:Left w (Lent (w7 sg bs) pb) H sg (C.outs f) y' pb (resVal cs) w' G1.H (vs1++vs2) cs vs2 bs':=by
       refine ⟨hr1.os,hr1.tape,hr1.output,hr1.size,hr1.old,hr1.uQ,hr1.hnew,t1,t3,fun k hk=> ?_,fun p hpm=> ?_,⟨nb,rr1,fun k hk=> ?_⟩,b2⟩
       ·obtain ⟨q,hq,obq,hl,hbq⟩:=t2 k hk;have hl1:look (s.yB (Go.Proofs.YtekbnpmmjciloaaGreat.R.settles (look s.o) is)).o q=some obq:=by
         rw [jN _ _ (hmem' fun hi=>hgi q hq (kU _ is q hi))];exact hl
        have hb1:zS G1 q obq k:=by rw [qW hgr.g hgr.sv];exact hbq
        obtain ⟨a1,a2⟩:=hr1.away q _ k hl1 hb1;refine ⟨a1,a2,fun p hpm he=> ?_⟩;obtain ⟨j,cs',hlj,hgj,_⟩:=UK p hpm;have:=hr1.apart j q _ _ k hlj hl1 (by rw [← he,← hgj];rfl) hb1;rw [this,hl1] at hlj;injection hlj with hlj;obtain ⟨ob9,o1,o2⟩:=st sg.owns _ _ _ _ h3 q hq;rw [hl] at o1;injection o1 with o1;rw [← o1,hlj] at o2;exact o2.box
       ·obtain ⟨j,cs',hlj,hgj,_⟩:=UK p hpm;have hb1:zS G1 j (.box cs') p.1:=by rw [← hgj];rfl
        exact (hr1.away j _ _ hlj hb1).1
       ·obtain ⟨q,cq,q1,q2,q3⟩:=rr2 k hk;have q4:=y5r q cq q1;have q5:zS G1 q (.box cq) k:=by
         show (G1.g q).1=k;rw [hgr.g,q2]
        obtain ⟨a1,a2⟩:=hr1.away q _ k q4 q5;refine ⟨a1,a2,fun hkb=> ?_,fun p hpm he=> ?_⟩
        ·obtain ⟨q',hq',obq,hl,hbq⟩:=t2 k hkb;have hl1:look (s.yB (Go.Proofs.YtekbnpmmjciloaaGreat.R.settles (look s.o) is)).o q'=some obq:=by
          rw [jN _ _ (hmem' fun hi=>hgi q' hq' (kU _ is q' hi))];exact hl
         have hb1:zS G1 q' obq k:=by rw [qW hgr.g hgr.sv];exact hbq
         have:=hr1.apart q q' _ _ k q4 hl1 q5 hb1;rw [this,hl1] at q4;injection q4 with q4;obtain ⟨ob9,o1,o2⟩:=st sg.owns _ _ _ _ h3 q' hq';rw [hl] at o1;injection o1 with o1;rw [← o1,q4] at o2;exact o2.box
        ·obtain ⟨j,cs',hlj,hgj,hj1,hj2⟩:=UK p hpm;have:=hr1.apart j q _ _ k hlj q4 (by rw [← he,← hgj];rfl) q5;omega
      rcases hend with rfl|rfl<;>exact ⟨h.defers,_,hres,_,rfl,_,_,_,_,_,hleft⟩
 refine MS hT (hCA.from (H0:=⟨H,V7 sg.ps pb 0,fun i b h=>by have:=kn sg.ps pb 0 i b h;omega,sr sg w bs⟩) hgl) hm c _ _ _ _ _ _ _ _ hout MU hrel he (fun s' a' w' G' h1 h2=>fin _ s' a' w' G' (.inl rfl) h1 h2) ⟨fun i s a w G h1 _=> ?_,fun s a w G h1 h2=>fin _ s a w G (.inr rfl) h1 h2⟩;cases h1
end
mutual
def A.vals:A→List (Sigma El)
 | .val t x=>[⟨t,x⟩]
 | .agg l=>ij l
 | .dead| .und| .JX| .aj| .own _| .oF _| .box _ _| .ly _ _ _ _ _| .lj _ _ _| .fn _| .nc _ _| .win _ _| .tl _ _| .top _ _ _=>[]
def ij:List A→List (Sigma El)
 |[]=>[]
 |a::r=>a.vals++ij r
end
def Ob.vals:Ob→List (Sigma El)
 | .box l=>ij l
 | .root _ e ts xs=>[⟨.sl e ts,xs⟩]
 | .gone=>[]
def nA:List (Nat×Ob)→List (Sigma El)
 |[]=>[]
 |(_,x)::r=>x.vals++nA r
def St.vals (s:St):List (Sigma El):=ij s.t++nA s.o
mutual
def A.same:A→A→Bool
 | .val t _,b=>match b with
  | .val t' _=>Ty.eqb t t'
  |_=>false
 | .agg l,b=>match b with
  | .agg l'=>tP l l'
  |_=>false
 | .dead,b=>match b with
  | .dead=>true
  |_=>false
 | .JX,b=>match b with
  | .JX=>true
  |_=>false
 | .aj,b=>match b with
  | .aj=>true
  |_=>false
 | .own o,b=>match b with
  | .own o'=>Nat.beq o o'
  |_=>false
 | .box c off,b=>match b with
  | .box c' off'=>Nat.beq c c'&&Nat.beq off off'
  |_=>false
 | .fn f,b=>match b with
  | .fn f'=>Nat.beq f f'
  |_=>false
 | .nc f c,b=>match b with
  | .nc f' c'=>Nat.beq f f'&&Nat.beq c c'
  |_=>false
 | .und,_| .oF _,_| .ly _ _ _ _ _,_| .lj _ _ _,_| .win _ _,_| .tl _ _,_| .top _ _ _,_=>false
def tP:List A→List A→Bool
 |[],m=>isNil m
 |a::l,m=>match m with
  |b::m'=>a.same b&&tP l m'
  |[]=>false
end
def Ob.same:Ob→Ob→Bool
 | .box l,b=>match b with
  | .box l'=>tP l l'
  |_=>false
 | .root w e ts _,b=>match b with
  | .root w' e' ts' _=>w==w'&&Nat.beq e e'&&Ty.Gd ts ts'
  |_=>false
 | .gone,_=>false
def Df:List (Nat×Ob)→List (Nat×Ob)→Bool
 |[],m=>isNil m
 |(i,x)::l,m=>match m with
  |(j,y)::m'=>Nat.beq i j&&x.same y&&Df l m'
  |[]=>false
def St.same (s s':St):Bool:=tP s.t s'.t&&Df s.o s'.o
theorem Dg {α:Type} {l:List α} (h:isNil l=true):l=[]:=by
 cases l with
 |nil=>rfl
 |cons a l=>cases h
mutual
theorem A.same_eq: ∀ (a b:A),a.same b=true→a.vals.length=b.vals.length∧(a.vals=b.vals→a=b)
 | .val t x,b,h=>by
  cases b<;>simp only [A.same] at h<;>try cases h
  rename_i t' x';have:=Ty.nS _ _ h;subst this;refine ⟨rfl,fun hv=> ?_⟩;simp only [A.vals,List.cons.injEq,Sigma.mk.injEq,heq_eq_eq,true_and,and_true] at hv;rw [hv]
 | .agg l,b,h=>by
  cases b<;>simp only [A.same] at h<;>try cases h
  rename_i l';obtain ⟨h1,h2⟩:=oY l l' h;exact ⟨by simpa only [A.vals] using h1,fun hv=>by rw [h2 (by simpa only [A.vals] using hv)]⟩
 | .dead,b,h=>by
  cases b<;>simp only [A.same] at h<;>try cases h
  exact ⟨rfl,fun _=>rfl⟩
 | .JX,b,h=>by
  cases b<;>simp only [A.same] at h<;>try cases h
  exact ⟨rfl,fun _=>rfl⟩
 | .aj,b,h=>by
  cases b<;>simp only [A.same] at h<;>try cases h
  exact ⟨rfl,fun _=>rfl⟩
 | .own o,b,h=>by
  cases b<;>simp only [A.same] at h<;>try cases h
  rw [zo h];exact ⟨rfl,fun _=>rfl⟩
 | .box c off,b,h=>by
  cases b<;>simp only [A.same,zzal10] at h<;>try cases h
  rename_i h1 h2;rw [zo h1,zo h2];exact ⟨rfl,fun _=>rfl⟩
 | .fn f,b,h=>by
  cases b<;>simp only [A.same] at h<;>try cases h
  rw [zo h];exact ⟨rfl,fun _=>rfl⟩
 | .nc f c,b,h=>by
  cases b<;>simp only [A.same,zzal10] at h<;>try cases h
  rename_i h1 h2;rw [zo h1,zo h2];exact ⟨rfl,fun _=>rfl⟩
 | .und,_,h| .oF _,_,h| .ly _ _ _ _ _,_,h| .lj _ _ _,_,h| .win _ _,_,h| .tl _ _,_,h| .top _ _ _,_,h=>by simp [A.same] at h
theorem oY: ∀ (l m:List A),tP l m=true→(ij l).length=(ij m).length∧(ij l=ij m→l=m)
 |[],m,h=>by rw [tP] at h;rw [Dg h];exact ⟨rfl,fun _=>rfl⟩
 |a::l,[],h=>by simp [tP] at h
 |a::l,b::m,h=>by simp only [tP,zzal10] at h;obtain ⟨h1,h2⟩:=A.same_eq a b h.1;obtain ⟨h3,h4⟩:=oY l m h.2;refine ⟨by simp only [ij,yU,h1,h3],fun hv=> ?_⟩;simp only [ij] at hv;obtain ⟨e1,e2⟩:=List.append_inj hv h1;rw [h2 e1,h4 e2]
end
theorem Ob.same_eq (x y:Ob) (h:x.same y=true):x.vals.length=y.vals.length∧(x.vals=y.vals→x=y):=by
 cases x with
 |box l=>
  cases y<;>simp only [Ob.same] at h<;>try cases h
  rename_i l';obtain ⟨h1,h2⟩:=oY l l' h;exact ⟨h1,fun hv=>by rw [h2 hv]⟩
 |root w e ts xs=>
  cases y<;>simp only [Ob.same,zzal10] at h<;>try cases h
  rename_i w' e' ts' xs' h12 h3;have e1:w=w':=by simpa using h12.1
  have e2:=zo h12.2;have e3:=Ty.mw _ _ h3;subst e1 e2 e3;refine ⟨rfl,fun hv=> ?_⟩;have hv1:(⟨.sl e ts,xs⟩:Sigma El)=⟨.sl e ts,xs'⟩:=(List.cons.inj hv).1;have hv2:xs=xs':=eq_of_heq (Sigma.mk.inj hv1).2;rw [hv2]
 |gone=>simp [Ob.same] at h
theorem He: ∀ (l m:List (Nat×Ob)),Df l m=true→(nA l).length=(nA m).length∧(nA l=nA m→l=m)
 |[],m,h=>by rw [Df] at h;rw [Dg h];exact ⟨rfl,fun _=>rfl⟩
 |(i,x)::l,[],h=>by simp [Df] at h
 |(i,x)::l,(j,y)::m,h=>by simp only [Df,zzal10] at h;obtain ⟨h1,h2⟩:=Ob.same_eq x y h.1.2;obtain ⟨h3,h4⟩:=He l m h.2;refine ⟨by simp only [nA,yU,h1,h3],fun hv=> ?_⟩;simp only [nA] at hv;obtain ⟨e1,e2⟩:=List.append_inj hv h1;rw [h2 e1,h4 e2,zo h.1.1]
theorem St.same_eq {s s':St} (h:s.same s'=true) (hv:s.vals=s'.vals):s=s':=by simp only [St.same,zzal10] at h;obtain ⟨h1,h2⟩:=oY _ _ h.1;obtain ⟨h3,h4⟩:=He _ _ h.2;obtain ⟨e1,e2⟩:=List.append_inj (show ij s.t++nA s.o=ij s'.t++nA s'.o from hv) h1;obtain ⟨t,o⟩:=s;obtain ⟨t',o'⟩:=s';rw [show t=t' from h2 e1,show o=o' from h4 e2]
def o6:(ts:List Ty)→List (Sigma El)→Option (Elts ts)
 |[],l=>bif isNil l then some () else none
 |t::[],l=>match l with
  |v::l'=>bif isNil l' then qT v.1 t v.2 else none
  |[]=>none
 |t::u::r,l=>match l with
  |v::l'=>(match qT v.1 t v.2 with
   |some x=>(match o6 (u::r) l' with
    |some y=>some (x,y)
    |none=>none)
   |none=>none)
  |[]=>none
def toL:(ts:List Ty)→Elts ts→List (Sigma El)
 |[],_=>[]
 |t::[],x=>[⟨t,x⟩]
 |t::u::r,x=>⟨t,x.1⟩::toL (u::r) x.2
theorem AS {t t':Ty} {x:El t} {y:El t'} (h:qT t t' x=some y):(⟨t',y⟩:Sigma El)=⟨t,x⟩:=by
 unfold qT at h;split at h
 ·rename_i heq;have:=Ty.nS _ _ heq;subst this;injection h with h;subst h;rfl
 ·cases h
theorem Dh: ∀ (ts:List Ty) (l:List (Sigma El)) (x:Elts ts),o6 ts l=some x→toL ts x=l
 |[],l,x,h=>by
  cases l with
  |nil=>rfl
  |cons a l=>simp [o6,isNil] at h
 |t::[],l,x,h=>by
  cases l with
  |nil=>simp [o6] at h
  |cons v l=>
   cases l with
   |cons a l=>cases h
   |nil=>have h:qT v.1 t v.2=some x:=h;simp only [toL,AS h]
 |t::u::r,l,x,h=>by
  cases l with
  |nil=>simp [o6] at h
  |cons v l=>
   simp only [o6] at h;split at h
   ·rename_i y hy;split at h
    ·rename_i z hz;injection h with h;subst h;simp only [toL,AS hy,Dh (u::r) l z hz]
    ·cases h
   ·cases h
def zR (ts:List Ty) (e:Elts ts→St) (s:St):Option (Elts ts):=(o6 ts s.vals).bind fun t=>bif (e t).same s then some t else none
theorem Y3 {ts:List Ty} {e:Elts ts→St} (h: ∀ t,(e t).vals=toL ts t) (s:St) (t:Elts ts) (hu:zR ts e s=some t):e t=s:=by
 unfold zR at hu;obtain ⟨t',h1,h2⟩:=Yc.1 hu;cases hb:(e t').same s with
 |false=>simp [hb] at h2
 |true=>rw [hb,yg] at h2;injection h2 with h2;subst h2;exact St.same_eq hb ((h t').trans (Dh ts _ _ h1))
def dd (n:Nat) (l:List A):List A:=Nat.rec l (fun _ r=> .dead::r) n
def vB (x:Bool):A:= .val .bool x
def nf (n:Nat):List Bool:=Nat.rec [] (fun _ r=>false::r) n
theorem Kz {T U:Type} {e:T→St} {e':U→St} {u:St→Option T} {u':St→Option U} (h: ∀ s t,u s=some t→e t=s) (h': ∀ s t,u' s=some t→e' t=s) (s:St) (t:T ⊕ U) (ht:((u s).map Sum.inl).or ((u' s).map Sum.inr)=some t):Sum.elim e e' t=s:=by
 cases hu:u s with
 |some x=>
  rw [hu] at ht;have:Sum.inl x=t:=by simpa using ht
  subst this;exact h s x hu
 |none=>
  rw [hu] at ht;cases hv:u' s with
  |some x=>
   rw [hv] at ht;have:Sum.inr x=t:=by simpa using ht
   subst this;exact h' s x hv
  |none=>rw [hv] at ht;simp at ht
noncomputable def FUEL:Nat:=Classical.choose (⟨18446744073709551616,rfl⟩: ∃ n:Nat,n=18446744073709551616)
theorem Zz:FUEL=18446744073709551616:=Classical.choose_spec (⟨18446744073709551616,rfl⟩: ∃ n:Nat,n=18446744073709551616)
theorem y3c {C:Ctx} {call:C.Sem} {lp:Lp} {fn:Nat} {c:Code} {l lx:List Nat} (hl:C.live fn (Z4 c)=some (l,lx)) {T:Type} (emb:T→St) (un:St→Option T) (hun: ∀ s t,un s=some t→emb t=s) (UL: {R:Type}→(Option Nat→St→Option R)→(T→Option R)→T→Option R)
  (hlp: ∀ {R:Type} (κ:Option Nat→St→Option R) (s:St),lp (Z4 c) s κ=(un s).bind fun t=>iter (UL κ) FUEL t) (hstep: ∀ {R:Type} (κ:Option Nat→St→Option R) (again:St→Option R) (t:T),Gm C call lp fn c l lx κ again (emb t)=UL κ (fun t=>again (emb t)) t):gz C call lp fn c:=by
 intro l' lx' hl' R κ s r h;rw [hl] at hl';injection hl' with hl';injection hl' with e1 e2;subst e1 e2;rw [hlp] at h;cases hu:un s with
 |none=>simp [hu] at h
 |some t=>
  rw [hu,zzal0] at h;refine ⟨FUEL,?_⟩;have key: ∀ (n:Nat) (t:T),iter (Gm C call lp fn c l lx κ) n (emb t)=iter (UL κ) n t:=by
   intro n;induction n with
   |zero=>intro t;rfl
   |succ n ih=>intro t;rw [iter,hstep,iter];congr 1;exact funext ih
  rw [← hun s t hu,key];exact h
abbrev Kk (R:Type):Type:=Option Nat→St→Option R
abbrev Gk (T:Type):Type 1:= {R:Type}→Kk R→(T→Option R)→T→Option R
noncomputable def YT (j:Nat) {T:Type} (u:St→Option T) (g:Gk T) (r:Lp):Lp:=fun i s {_R} κ=>bif Nat.beq i j then (u s).bind fun t=>iter (g κ) FUEL t else r i s κ
def ZM:Lp:=fun _ _ {_R} _=>none
def laN (C:Ctx) (f i:Nat):List Nat:=match C.live f i with
 |some p=>p.1
 |none=>[]
def lbN (C:Ctx) (f i:Nat):List Nat:=match C.live f i with
 |some p=>p.2
 |none=>[]
def laB (C:Ctx) (f i:Nat) (c:Code):Bool:=Nat.beq (Z4 c) i&&(C.live f i).isSome
abbrev LB (lp:Lp) (i:Nat) {T:Type} (u:St→Option T) (g:Gk T):Prop:= ∀ (R:Type) (κ:Kk R) (s:St),lp i s κ=(u s).bind fun t=>iter (g κ) FUEL t
abbrev LC (C:Ctx) (call:C.Sem) (lp:Lp) (f i:Nat) (c:Code) {T V:Type} (e:T→St) (g:Gk T) (inj:V→T):Prop:= ∀ (R:Type) (κ:Kk R) (again:St→Option R) (v:V),Gm C call lp f c (laN C f i) (lbN C f i) κ again (e (inj v))=g κ (fun t=>again (e t)) (inj v)
theorem Hf {C:Ctx} {call:C.Sem} {lp:Lp} {f i:Nat} {c:Code} (hl:laB C f i c=true) {T:Type} {e:T→St} {u:St→Option T} (hu: ∀ s t,u s=some t→e t=s) {g:Gk T} (hb:LB lp i u @g) (hc:LC C call lp f i c e @g (fun t=>t)):gz C call lp f c:=by
 simp only [laB,zzal10] at hl;have hi:=zo hl.1;have hx:C.live f (Z4 c)=some (laN C f i,lbN C f i):=by
  rw [hi];unfold laN lbN;cases h:C.live f i with
  |none=>simp [h] at hl
  |some p=>rfl
 exact y3c hx e u hu @g (fun {R} κ s=>by rw [hi];exact hb R κ s) (fun {R} κ again t=>hc R κ again t)
theorem LC.sum {C:Ctx} {call:C.Sem} {lp:Lp} {f i:Nat} {c:Code} {T V W:Type} {e:T→St} {g:Gk T} {inj:V ⊕ W→T} (h:LC C call lp f i c e @g (fun v=>inj (.inl v))) (h':LC C call lp f i c e @g (fun v=>inj (.inr v))):LC C call lp f i c e @g inj
 |R,κ,again,.inl v=>h R κ again v
 |R,κ,again,.inr v=>h' R κ again v
def q_ (fn:Func):Code:=match fn.body with
 |some c=>c
 |none=> .skip
def cL (fn:Func) (k:Nat):Code:=(jm (q_ fn)).getD k .skip
structure Qf (C:Ctx) (P:Program) where
 f:Nat
 F:Elts (C.ins f)→Option (Elts (C.outs f))
 ok:ko C P f F
def pairs {C:Ctx} {P:Program}:List (Qf C P)→List (Sigma fun f:Nat=>Elts (C.ins f)→Option (Elts (C.outs f)))
 |[]=>[]
 |q::r=>⟨q.f,q.F⟩::pairs r
def EY {C:Ctx} {P:Program} (l:List (Qf C P)):C.Sem:=tab (pairs l)
theorem Hg {C:Ctx} {P:Program}: ∀ (l:List (Qf C P)),∀ p∈pairs l,ko C P p.1 p.2
 |[],p,h=>by simp [pairs] at h
 |q::r,p,h=>by
  rcases yR.1 h with rfl|h
  ·exact q.ok
  ·exact Hg r p h
def UM (p:Code→Prop) (L:List Code):Nat→Nat→Prop
 |0,_=>True
 |n+1,k=>p (L.getD k .skip)∧UM p L n (k+1)
theorem UN {p:Code→Prop} {L:List Code}: ∀ (n k:Nat),UM p L n k→ ∀ j,k≤j→j<k+n→p (L.getD j .skip)
 |0,k,_,j,h1,h2=>by omega
 |n+1,k,h,j,h1,h2=>by
  by_cases hj:j=k
  ·subst hj;exact h.1
  ·exact UN n (k+1) h.2 j (by omega) (by omega)
theorem yeC {p:Code→Prop} {fn:Func} {n:Nat} (hn:Nat.beq (jm (q_ fn)).length n=true) (h:UM p (jm (q_ fn)) n 0): ∀ c∈jm (q_ fn),p c:=by
 intro c hc;obtain ⟨j,hj,rfl⟩:=List.mem_iff_getElem.1 hc;have:=UN n 0 h j (gd j) (by have:=zo hn;omega)
 rwa [Zr,WX hj,Option.getD_some] at this
def fnB (C:Ctx) (f g:Nat) (fn:Func) (sg:Sig) (n:Nat):Bool:=Nat.beq (C.fid f) g&&fn.body.isSome&&AQ (q_ fn)&&Nat.ble sg.ps.length 50&&Nat.ble sg.ps.length fn.ntmps&&Nat.beq (jm (q_ fn)).length n&&decide (fn.name≠ "runtime.NumGoroutine")
theorem y5s {C:Ctx} {P:Program} (hT:Jl C P) (hm:P.follows .mixedOrders=true) {l:List (Qf C P)} {f g:Nat} {fn:Func} {sg:Sig} {n:Nat} (hfn:P.funcs[g]? =some fn) (hsig:C.sig f=some sg) (hB:fnB C f g fn sg n=true) {lp:Lp} (MU:UM (gz C (EY l) lp f) (jm (q_ fn)) n 0)
  {F:Elts (C.ins f)→Option (Elts (C.outs f))} (hF: ∀ x,NP C (EY l) lp f fn (q_ fn) sg (C.ins f) (C.outs f) x=F x):ko C P f F:=by
 simp only [fnB,zzal10,ym] at hB;obtain ⟨⟨⟨⟨⟨⟨h1,h2⟩,h3⟩,h4⟩,h5⟩,h6⟩,h7⟩:=hB;have hbody:fn.body=some (q_ fn):=by
  unfold q_;cases h:fn.body with
  |none=>simp [h] at h2
  |some c=>rfl
 exact UJ hT hm (oN _ (Hg l)) (zo h1) hfn h7 hbody hsig h3 (yeC h6 MU) (nN h4) (nN h5) (fun x y h=>(hF x).trans h)
section
variable {P:Program} {C:Ctx}
def tQ:Ty→Value→Bool
 | .int k,.int k' n=>decide (k=k')&&decide (n=0)
 | .bool,.bool b=> !b
 | .str,.string s=>Nat.beq s.data.size 0
 | .sl _ _,.slice none n c=>Nat.beq n 0&&Nat.beq c 0
 |_,_=>false
def sx:List Ty→List Value→Bool
 |[],[]=>true
 |t::ts,v::vs=>tQ t v&&sx ts vs
 |_,_=>false
theorem UO: ∀ (t:Ty) (v:Value),tQ t v=true→v=zeroV t:=by
 intro t v h;cases t with
 |int k=>cases v<;>simp [tQ] at h;obtain ⟨rfl,rfl⟩:=h;rfl
 |bool=>cases v<;>simp [tQ] at h;subst h;rfl
 |str=>
  cases v<;>try (simp [tQ] at h;done)
  rename_i s;have:=zo h;obtain ⟨d⟩:=s;have:d= #[]:=Mj this;subst this;rfl
 |sl e ts=>
  cases v<;>try (simp [tQ] at h;done)
  rename_i a n c;cases a with
  |some _=>simp [tQ] at h
  |none=>simp only [tQ,zzal10] at h;rw [zo h.1,zo h.2];rfl
theorem Di: ∀ (ts:List Ty) (vs:List Value),sx ts vs=true→vs=ts.map zeroV
 |[],[],_=>rfl
 |t::ts,v::vs,h=>by simp only [sx,zzal10] at h;rw [UO t v h.1,Di ts vs h.2];rfl
 |[],_::_,h=>by simp [sx] at h
 |_::_,[],h=>by simp [sx] at h
def oZ:List Ty→List Ty→Option (List Ty)
 |[],l=>some l
 |t::r,u::l=>bif Ty.eqb t u then oZ r l else none
 |_::_,[]=>none
theorem AU: ∀ (p l l':List Ty),oZ p l=some l'→l=p++l'
 |[],l,l',h=>by injection h
 |t::r,u::l,l',h=>by
  rw [oZ] at h;cases hb:Ty.eqb t u with
  |false=>simp [hb] at h
  |true=>rw [hb,yg] at h;rw [Ty.nS _ _ hb,AU r l l' h];rfl
 |_::_,[],_,h=>by simp [oZ] at h
def MV (C:Ctx):List (Nat×Nat)→List Field→List Ty→Nat→Bool
 |[],[],ts,_=>isNil ts
 |(off,t)::fs,f::F,ts,n=>Nat.beq off n&&Nat.beq f.offset n&&Nat.beq f.type t&&match C.info t with
  |some ti=>(match oZ ti.ts ts with
   |some ts'=>MV C fs F ts' (n+ti.ts.length)
   |none=>false)
  |none=>false
 |_,_,_,_=>false
theorem O6: ∀ (fs:List (Nat×Nat)) (F:List Field) (ts:List Ty) (n:Nat),MV C fs F ts n=true→cR C fs F ts n
 |[],[],ts,n,h=>by
  cases ts with
  |nil=>rfl
  |cons _ _=>simp [MV,isNil] at h
 |(off,t)::fs,f::F,ts,n,h=>by
  simp only [MV,zzal10] at h;obtain ⟨⟨⟨h1,h2⟩,h3⟩,h4⟩:=h;split at h4
  ·rename_i ti hti;split at h4
   ·rename_i ts' hd;exact ⟨zo h1,zo h2,zo h3,ti,ts',hti,AU _ _ _ hd,O6 fs F ts' _ h4⟩
   ·cases h4
  ·cases h4
 |[],_::_,_,_,h=>by simp [MV] at h
 |_::_,[],_,_,h=>by simp [MV] at h
theorem Dj: ∀ (fs:List (Nat×Nat)) (F:List Field) (ts:List Ty) (n:Nat),cR C fs F ts n→F.length=fs.length∧ ∀ (f off t:Nat),fs[f]? =some (off,t)→ ∃ fl,F[f]? =some fl∧fl.offset=off∧fl.type=t∧ ∃ ti,C.info t=some ti∧off+ti.ts.length≤n+ts.length
 |[],[],ts,n,h=>⟨rfl,fun f off t hf=>by simp at hf⟩
 |(o1,t1)::fs,f1::F,ts,n,h=>by
  obtain ⟨rfl,h2,h3,ti,ts',h4,rfl,h5⟩:=h;obtain ⟨i1,i2⟩:=Dj fs F ts' _ h5;refine ⟨by simp [i1],fun f off t hf=> ?_⟩;cases f with
  |zero=>simp only [lq,z8,jI] at hf;obtain ⟨rfl,rfl⟩:=hf;exact ⟨f1,rfl,h2,h3,ti,h4,by simp⟩
  |succ f=>obtain ⟨fl,j1,j2,j3,ti',j4,j5⟩:=i2 f off t (by simpa using hf);refine ⟨fl,by simpa using j1,j2,j3,ti',j4,?_⟩;simp only [yU];omega
 |[],_::_,_,_,h=>h.elim
 |_::_,[],_,_,h=>h.elim
def o_ (C:Ctx):TI→TypeDesc→Bool
 | .c (.int k) _,.int k'=>decide (k'=k)
 | .c .bool _,.bool=>true
 | .c .str _,.string=>true
 | .c (.sl e ts) _,.slice e'=>Nat.beq e' e&&match C.info e with
  |some te=>Ty.Gd te.ts ts
  |none=>false
 | .s fs ts _,.struct F=>MV C fs F.toList ts 0
 |_,_=>false
theorem Hh {ti:TI} {d:TypeDesc} (h:o_ C ti d=true):xU C P ti d∧ ∀ fs ts b,ti= .s fs ts b→ ∃ F,d= .struct F∧cR C fs F.toList ts 0:=by
 cases ti with
 |c t b=>
  refine ⟨?_,fun fs ts b h=>by cases h⟩;cases t with
  |int k=>cases d<;>simp [o_] at h;subst h;rfl
  |bool=>cases d<;>simp [o_] at h;rfl
  |str=>cases d<;>simp [o_] at h;rfl
  |sl e ts=>
   cases d<;>try (simp [o_] at h;done)
   rename_i e';simp only [o_,zzal10] at h;have he:=zo h.1;have h2:=h.2;split at h2
   ·rename_i te hte;exact ⟨by rw [he],te,hte,Ty.mw _ _ h2⟩
   ·cases h2
 |s fs ts b=>
  cases d<;>try (simp [o_] at h;done)
  rename_i F;have hf:=O6 fs F.toList ts 0 h;obtain ⟨h1,h2⟩:=Dj fs F.toList ts 0 hf;refine ⟨⟨F,rfl,by simpa using h1,fun f off t hft=> ?_⟩,fun fs' ts' b' h=>by injection h with e1 e2 e3;subst e1 e2;exact ⟨F,rfl,hf⟩⟩;obtain ⟨fl,j1,j2,j3,ti,j4,j5⟩:=h2 f off t hft;exact ⟨fl,by simpa using j1,j2,j3,ti,j4,by simpa using j5⟩
def eqB (P:Program) (t:Nat):TI→Bool
 | .c _ _=>true
 | .s _ _ _=> !P.stoodInHeld t&& !P.eqGuardType P.depth t&&(P.fieldsOf t).toList.all fun f=>f.name != "_"
def tiB (P:Program) (C:Ctx) (t:Nat) (ti:TI):Bool:=match P.info? t,P.underlying t with
 |some i,some d=>Nat.beq i.size ti.ts.length&&Nat.beq i.bytes ti.bytes&&(match i.zero with
  |some z=>sx ti.ts z.cells.toList
  |none=>false)&&Nat.blt 0 ti.ts.length&&Nat.blt 0 ti.bytes&&o_ C ti d&&eqB P t ti
 |_,_=>false
def ybP (P:Program) (C:Ctx):List (Nat×TI)→Bool
 |[]=>true
 |(t,ti)::r=>tiB P C t ti&&ybP P C r
theorem Dk {α:Type} {p:Nat→α→Bool}: ∀ (l:List (Nat×α)),(∀ q∈l,p q.1 q.2=true)→ ∀ i x,xR l i=some x→p i x=true
 |(j,y)::r,h,i,x,hx=>by
  rw [xR] at hx;by_cases hj:j=i
  ·subst hj;rw [yH,yg] at hx;injection hx with hx;subst hx;exact h (j,y) (by simp)
  ·rw [yO hj,yi] at hx;exact Dk r (fun q hq=>h q (by simp [hq])) i x hx
theorem ybQ {l:List (Nat×TI)} (hC:C.info=xR l) (h:ybP P C l=true):Jl C P:=by
 have hall: ∀ t ti,C.info t=some ti→tiB P C t ti=true:=by
  rw [hC];refine Dk (p:=tiB P C) l ?_;clear hC;induction l with
  |nil=>intro q hq;simp at hq
  |cons q l ih=>
   obtain ⟨t,ti⟩:=q;simp only [ybP,zzal10] at h;intro p hp;rcases yR.1 hp with rfl|hp
   ·exact h.1
   ·exact ih h.2 p hp
 have main: ∀ t ti,C.info t=some ti→ ∃ i z d,P.info? t=some i∧P.underlying t=some d∧i.size=ti.ts.length∧i.bytes=ti.bytes∧i.zero=some z∧z.cells.toList=ti.ts.map zeroV∧0<ti.ts.length∧0<ti.bytes∧o_ C ti d=true∧eqB P t ti=true:=fun t ti ht=>by
  have hb:=hall t ti ht;unfold tiB at hb;split at hb
  ·rename_i i d hi hd;simp only [zzal10] at hb;obtain ⟨⟨⟨⟨⟨⟨h1,h2⟩,h3⟩,h4⟩,h5⟩,h6⟩,h7⟩:=hb;split at h3
   ·rename_i z hz;exact ⟨i,z,d,hi,hd,zo h1,zo h2,hz,Di _ _ h3,WZ h4,WZ h5,h6,h7⟩
   ·cases h3
  ·cases hb
 refine ⟨fun t ti ht=> ?_,fun t ti ht=> ?_,fun t fs ts b ht=> ?_,fun t fs ts b ht=> ?_⟩
 ·obtain ⟨i,z,d,a1,a2,a3,a4,a5,a6,a7,a8,a9,a10⟩:=main t ti ht;exact ⟨i,z,a1,a3,a4,a5,a6,a7,a8⟩
 ·obtain ⟨i,z,d,a1,a2,a3,a4,a5,a6,a7,a8,a9,a10⟩:=main t ti ht;exact ⟨d,a2,(Hh a9).1⟩
 ·obtain ⟨i,z,d,a1,a2,a3,a4,a5,a6,a7,a8,a9,a10⟩:=main t _ ht;obtain ⟨F,rfl,hF⟩:=(Hh (P:=P) a9).2 fs ts b rfl;exact ⟨F,a2,hF⟩
 ·obtain ⟨i,z,d,a1,a2,a3,a4,a5,a6,a7,a8,a9,a10⟩:=main t _ ht;simp only [eqB,zzal10,zzal45,zzal100,bne_iff_ne] at a10;exact ⟨a10.1.1,a10.1.2,a10.2⟩
end
section
variable {P:Program} {C:Ctx}
mutual
def okT:(t:Ty)→El t→Prop
 | .int k,n=>(Lit.int k n).wf=true
 | .bool,_=>True
 | .str,s=>ByteArray.size s≤maxLen
 | .sl _ ts,xs=>List.length xs≤maxLen∧ ∀ x∈(show List (Elts ts) from xs),Gb ts x
def Gb:(ts:List Ty)→Elts ts→Prop
 |[],_=>True
 |t::[],x=>okT t x
 |t::u::r,x=>okT t x.1∧Gb (u::r) x.2
end
theorem yeD {α:Type} {n:Nat} {Q:Nat→α→Prop} (h: ∀ i,i<n→ ∃ a,Q i a): ∃ l:List α,l.length=n∧ ∀ i a,l[i]? =some a→Q i a:=by
 induction n with
 |zero=>exact ⟨[],rfl,fun i a ha=>by simp at ha⟩
 |succ n ih=>
  obtain ⟨l,hl,hq⟩:=ih (fun i hi=>h i (by omega));obtain ⟨a,ha⟩:=h n (by omega);refine ⟨l++[a],by simp [hl],fun i b hb=> ?_⟩;by_cases hi:i<l.length
  ·rw [ln hi] at hb;exact hq i b hb
  ·rw [lm (by omega)] at hb;have h0:i - l.length=0:=by
    by_cases h0:i - l.length=0
    ·exact h0
    ·rw [uH (by simp;omega)] at hb;cases hb
   rw [h0] at hb;have hb':a=b:=by simpa using hb
   subst hb';have:i=n:=by omega
   subst this;exact ha
theorem UP {H:Hp} (t:Ty) (r:List Ty) (x:El t) (y:Elts r) (f:Nat→Option Value) {v:Value} (hv:f 0=some v) (hx:RdT H t x v) (hy:RdE H r y (fun i=>f (i+1))) (okx:okT t x) (UG:Gb r y): ∃ z:Elts (t::r),RdE H (t::r) z f∧Gb (t::r) z:=by
 cases r with
 |nil=>exact ⟨x,⟨v,hv,hx⟩,okx⟩
 |cons u r=>exact ⟨(x,y),⟨⟨v,hv,hx⟩,hy⟩,okx,UG⟩
theorem MW {H:Hp} (t:Ty) (r:List Ty) (z:Elts (t::r)) (f:Nat→Option Value) (h:RdE H (t::r) z f) (ok:Gb (t::r) z): ∃ (x:El t) (y:Elts r) (v:Value),f 0=some v∧RdT H t x v∧RdE H r y (fun i=>f (i+1))∧okT t x∧Gb r y:=by
 cases r with
 |nil=>obtain ⟨v,hv,hx⟩:=h;exact ⟨z,(),v,hv,hx,trivial,ok,trivial⟩
 |cons u r=>obtain ⟨⟨v,hv,hx⟩,hy⟩:=h;exact ⟨z.1,z.2,v,hv,hx,hy,ok.1,ok.2⟩
theorem AV {H:Hp}: ∀ (ts us:List Ty) (x:Elts ts) (y:Elts us) (f:Nat→Option Value),RdE H ts x f→RdE H us y (fun i=>f (ts.length+i))→Gb ts x→Gb us y→ ∃ z:Elts (ts++us),RdE H (ts++us) z f∧Gb (ts++us) z:=by
 intro ts;induction ts with
 |nil=>intro us x y f _ hy _ UG;exact ⟨y,by simpa using hy,UG⟩
 |cons t ts ih=>
  intro us x y f hx hy okx UG;obtain ⟨x0,x1,v,hv,h0,h1,ok0,ok1⟩:=MW t ts x f hx okx;obtain ⟨z,hz,okz⟩:=ih us x1 y (fun i=>f (i+1)) h1 (by
   have e:(fun i=>f (ts.length+i+1))=fun i=>f ((t::ts).length+i):=funext fun i=>by rw [yp];congr 1;omega
   show RdE H us y (fun i=>f (ts.length+i+1));rw [e];exact hy) ok1 UG
  exact UP t (ts++us) x0 z f hv h0 hz ok0 okz
theorem o7 (hT:Jl C P) {t:Nat} {ti:TI} (ht:C.info t=some ti):P.cellsOf t=ti.ts.length:=by obtain ⟨i,z,hi,hs,_⟩:=hT.info t ti ht;simp [Program.cellsOf,hi,hs]
theorem opens (hT:Jl C P) {H:Type} (enc:TypeId×Value→H) (W:World): ∀ (fuel:Nat) (t:Nat) (ti:TI) (cs:List Value) (x:DataW H×List MemPlace),C.info t=some ti→DataW.trod enc P W 0 (fun _=>true) true fuel t cs=some x→
  ∃ y:Elts ti.ts,RdE (heapOf W) ti.ts y (fun i=>cs[i]?)∧Gb ti.ts y∧cs.length=ti.ts.length:=by
 intro fuel;induction fuel with
 |zero=>intro t ti cs x _ h;simp [DataW.trod] at h
 |succ fuel ih=>
  intro t ti cs x ht h;obtain ⟨d,hd,hdesc⟩:=hT.und t ti ht;cases ti with
  |c ty b=>
   cases ty with
   |int k=>have hdesc:d= .int k:=hdesc;subst hdesc;obtain ⟨n,rfl,rfl,wf⟩:=DataW.trod_int hd h;exact ⟨n,⟨_,rfl,rfl⟩,wf,rfl⟩
   |bool=>have hdesc:d= .bool:=hdesc;subst hdesc;obtain ⟨n,rfl,rfl⟩:=DataW.trod_bool hd h;exact ⟨n,⟨_,rfl,rfl⟩,trivial,rfl⟩
   |str=>have hdesc:d= .string:=hdesc;subst hdesc;obtain ⟨s,rfl,rfl,hs⟩:=DataW.trod_string hd h;exact ⟨s,⟨_,rfl,rfl⟩,hs,rfl⟩
   |sl e ts=>
    obtain ⟨rfl,te,hte,rfl⟩:=hdesc;rcases DataW.trod_slice hd h with ⟨rfl,rfl⟩|⟨a,len,cap,elems,rest,n,hn,rfl,rfl,_,hl,hm,hlen,hel,_,_⟩
    ·exact ⟨([]:List (Elts te.ts)),⟨_,rfl,none,0,rfl,jk _,by simp,fun hp=>absurd hp (by simp)⟩,⟨by simp [maxLen],fun x hx=>by cases hx⟩,rfl⟩
    ·have hn':fuel=n:=by omega
     subst hn';have hce:=o7 hT hte;obtain ⟨l,hll,hq⟩:=yeD (n:=len) (Q:=fun i (y:Elts te.ts)=>Gb te.ts y∧ ∃ c:List Value,RdE (heapOf W) te.ts y (fun j=>c[j]?)∧c.length=te.ts.length∧ ∀ j,j<P.cellsOf e→W.cell? ((a.add (i*P.cellsOf e)).add j)=c[j]?) (fun i hil=>by have he:=hel i hil;rw [WX (by omega)] at he;obtain ⟨cs',hc,ht'⟩:=Yc.1 he;obtain ⟨y,hr,hok,hlc⟩:=ih e te cs' _ hte ht';obtain ⟨_,_,hat⟩:=World.cells?_some hc;exact ⟨y,hok,cs',hr,hlc,hat⟩);have h63:cap≤9223372036854775807:=by simpa [maxLen] using hm
     refine ⟨l,⟨_,rfl,some a,cap,by rw [hll],by omega,by omega,fun _=>⟨a,rfl,fun j x hj=> ?_⟩⟩,⟨by omega,fun x hx=> ?_⟩,rfl⟩
     ·obtain ⟨_,c,hr,hlc,hat⟩:=hq j x hj;refine RdE.ext te.ts x _ _ (fun i v hi hv=> ?_) hr;rw [Mo,← Go.Deep.add_add,← hce,hat i (by omega)];exact hv
     ·obtain ⟨i,hi',rfl⟩:=List.getElem_of_mem hx;exact (hq i _ (WX hi')).1
  |s fs ts b=>
   obtain ⟨F,hF,hfo⟩:=hT.yen t fs ts b ht;obtain ⟨xs,n,hn,_,hl,hlx,hf⟩:=DataW.trod_struct hF h;have hn':fuel=n:=by omega
   subst hn';have hce:=o7 hT ht;have key: ∀ (fs:List (Nat×Nat)) (F:List Field) (ts:List Ty) (n0:Nat) (xs:List (DataW H×List MemPlace)),cR C fs F ts n0→xs.length=F.length→n0+ts.length=cs.length→(∀ (i:Nat) (f:Field),F[i]? =some f→DataW.trod enc P W 0 (fun _=>true) true fuel f.type ((cs.drop f.offset).take (P.cellsOf f.type))=xs[i]?)→
     ∃ y:Elts ts,RdE (heapOf W) ts y (fun i=>cs[n0+i]?)∧Gb ts y:=by
    intro fs;induction fs with
    |nil=>
     intro F ts n0 xs hfo _ _ _;cases F with
     |nil=>have:ts=[]:=hfo;subst this;exact ⟨(),trivial,trivial⟩
     |cons _ _=>exact hfo.elim
    |cons q fs ihf=>
     intro F ts n0 xs hfo hxl hlen hf;obtain ⟨off,t1⟩:=q;cases F with
     |nil=>exact hfo.elim
     |cons f1 F=>
      obtain ⟨rfl,h2,h3,ti1,ts',h4,rfl,h5⟩:=hfo;have h0:=hf 0 f1 rfl;cases xs with
      |nil=>simp at hxl
      |cons x1 xs=>
       rw [h2,h3] at h0;have hce1:=o7 hT h4;obtain ⟨y1,r1,ok1,l1⟩:=ih t1 ti1 _ x1 h4 h0;simp only [yU] at hlen;obtain ⟨y2,r2,ok2⟩:=ihf F ts' (off+ti1.ts.length) xs h5 (by simpa using hxl) (by omega) (fun i f hi=>by simpa using hf (i+1) f (by simpa using hi));refine AV ti1.ts ts' y1 y2 _ (RdE.ext _ _ _ _ (fun i v hi hv=> ?_) r1) (by
        have e:(fun i=>cs[off+ti1.ts.length+i]?)=fun i=>cs[off+(ti1.ts.length+i)]? :=funext fun i=>by rw [cN]
        show RdE (heapOf W) ts' y2 (fun i=>cs[off+(ti1.ts.length+i)]?);rw [← e];exact r2) ok1 ok2
       rw [Vp,y0 (by omega),uJ] at hv;exact hv
   obtain ⟨y,hr,hok⟩:=key fs F.toList ts 0 xs hfo (by rw [hlx,jG]) (by rw [hl,hce];simp [TI.ts]) (fun i f hi=>hf i f (by simpa using hi));have hr':RdE (heapOf W) ts y (fun i=>cs[i]?):=by simpa using hr
   exact ⟨y,hr',hok,by rw [hl,hce]⟩
end
section
open Go.RowKit Go.ChangeShapes Go.WideShapes
variable {P:Program} {C:Ctx}
def sy (W:World) (ps:List PK) (args:List Value) (x:Elts (ps.flatMap PK.ins)) (vs:List Value):Prop:=
 RdE (heapOf W) (ps.flatMap PK.ins) x (fun i=>vs[i]?)∧Gb (ps.flatMap PK.ins) x∧vs.length=(ps.flatMap PK.ins).length∧Spread W ps args vs []
theorem MX (W:World): ∃ x vs,sy W [] [] x vs:=⟨(),[],trivial,trivial,rfl,rfl,rfl,rfl⟩
theorem MY {W:World} {agg:Bool} {ts:List Ty} {own:List Bool} {ps:List PK} {v:Value} {args cs:List Value} {y:Elts ts} (hr:RdE (heapOf W) ts y (fun i=>cs[i]?)) (hok:Gb ts y) (hl:cs.length=ts.length)
  (hv:if agg then v= .agg cs.toArray else cs=[v]) (ih: ∃ x vs,sy W ps args x vs): ∃ x vs,sy W (.v agg ts own::ps) (v::args) x vs:=by
 obtain ⟨x,vs,h1,h2,h3,h4⟩:=ih;obtain ⟨z,hz,okz⟩:=AV (H:=heapOf W) ts (ps.flatMap PK.ins) y x (fun i=>(cs++vs)[i]?) (RdE.ext _ _ _ _ (fun i u hi hu=>by
   rw [ln (by omega)];exact hu) hr) (RdE.ext _ _ _ _ (fun i u hi hu=>by
   rw [lm (by omega),show ts.length+i - cs.length=i by omega];exact hu) h1) hok h2
 exact ⟨z,cs++vs,hz,okz,by simp [hl,h3,PK.ins],v,cs,args,vs,rfl,rfl,hl,hv,h4⟩
theorem Hi (hT:Jl C P) {H:Type} {enc:TypeId×Value→H} {W:World} {t:Nat} {ty:Ty} {b:Nat} (ht:C.info t=some (.c ty b)) {own:List Bool} {ps:List PK} {r:Reach} {b0:Nat} {v:Value} {args:List Value} {dt:DataW H} {p:List MemPlace}
  (hv:Value.okWide P W r b0 t v) (htr:DataW.Trod enc P W 0 (fun _=>true) true t v dt p) (ih: ∃ x vs,sy W ps args x vs): ∃ x vs,sy W (.v false [ty] own::ps) (v::args) x vs:=by
 obtain ⟨fuel,hf⟩:=htr;obtain ⟨y,hr,hok,hl⟩:=opens hT enc W fuel t _ _ _ ht hf;have hc:v.cells.toList=[v]:=by
  obtain ⟨d,hd,hdesc⟩:=hT.und t _ ht;cases ty with
  |int k=>have hdesc:d= .int k:=hdesc;subst hdesc;obtain ⟨n,rfl⟩:=okWide_int hd hv;rfl
  |bool=>have hdesc:d= .bool:=hdesc;subst hdesc;simp only [Value.okWide,hd,Cell.okWide] at hv;cases v<;>simp_all [Cell.ok,Value.cells]
  |str=>have hdesc:d= .string:=hdesc;subst hdesc;obtain ⟨n,rfl⟩:=okWide_string hd hv;rfl
  |sl e ts=>obtain ⟨rfl,_⟩:=hdesc;obtain ⟨a,l,c,rfl⟩:=okWide_slice hd hv;rfl
 exact MY (cs:=v.cells.toList) (y:=y) hr hok hl (by simpa using hc) ih
def Hj:(ts:List Ty)→Elts ts→Prop
 |[.bool],b=>b=true
 |_,_=>False
theorem SE {H:Hp} {w:World}: ∀ (ts:List Ty) (os:List Bool) (x:Elts ts) (vs:List Value),(∀ b∈os,b=false)→RdE H ts x (fun i=>vs[i]?)→vs.length=ts.length→ ∃ bs,CellsR H w ts os x vs bs∧ ∀ k,¬ In bs k:=by
 have one: ∀ (t:Ty) (x:El t) (v:Value),RdT H t x v→CellR H w t false x v (fun _=>False):=by intro t x v hr;cases t<;>exact ⟨rfl,hr⟩
 have hd: ∀ os:List Bool,(∀ b∈os,b=false)→os.headD false=false:=by
  intro os h;cases os with
  |nil=>rfl
  |cons b os=>exact h b (by simp)
 intro ts;induction ts with
 |nil=>intro os x vs _ _ hl;have:vs=[]:=f_.1 hl;subst this;exact ⟨[],⟨rfl,rfl⟩,fun _=>In.nil⟩
 |cons t ts ih=>
  intro os x vs ho hr hl;cases vs with
  |nil=>simp at hl
  |cons v vs=>
   cases ts with
   |nil=>
    have:vs=[]:=f_.1 (by simpa using hl);subst this;obtain ⟨u,hu,hru⟩:=hr;have:v=u:=by simpa using hu
    subst this;exact ⟨[fun _=>False],⟨v,fun _=>False,rfl,rfl,by rw [hd os ho];exact one t x v hru⟩,by simp [In]⟩
   |cons u r=>
    obtain ⟨⟨u',hu,hru⟩,hs⟩:=hr;have:v=u':=by simpa using hu
    subst this;obtain ⟨bs,h1,h2⟩:=ih os.tail x.2 vs (fun b hb=>ho b (List.mem_of_mem_tail hb)) (by simpa using hs) (by simpa using hl);exact ⟨(fun _=>False)::bs,⟨v,fun _=>False,vs,bs,rfl,rfl,by rw [hd os ho];exact one t x.1 v hru,h1⟩,fun k hk=>(In.cons.1 hk).elim (fun h=>h) (h2 k)⟩
theorem SF {f:Nat} {F:Elts (C.ins f)→Option (Elts (C.outs f))} (hF:ko C P f F) {ps:List PK} {o:List Bool} (hsig:C.sig f=some ⟨ps,[⟨false,[.bool],o⟩],false,false⟩) (Ut:C.fid f=f) (hps:ps.all (fun p=> !p.isP&&p.ownsIn.all (fun b=> !b))=true)
  {fn:Func} (hfn:P.funcs[f]? =some fn) (hn:fn.name≠ "runtime.NumGoroutine") (hb:fn.body≠none) {W:World} (hgl:C.gl (heapOf W)) {args:List Value} (hargs: ∃ x vs,sy W ps args x vs)
  (hpure: ∀ x:Elts (C.ins f),Gb (C.ins f) x→ ∃ y,F x=some y∧Hj (C.outs f) y):Calls P f args.toArray W fun e W'=>e= .returned (.bool true)∧Below W.heap.size W W':=by
 obtain ⟨x,vs,h1,h2,h3,h4⟩:=hargs;have hins:C.ins f=ps.flatMap PK.ins:=by simp [Ctx.ins,hsig,Sig.ins]
 have yeE: ∀ p∈ps,p.outs=[]∧ ∀ b∈p.ownsIn,b=false:=fun p hp=>by
  have:=zzal100.1 hps p hp;simp only [zzal10,zzal45] at this;refine ⟨?_,fun b hb=> ?_⟩
  ·cases p with
   |v _ _ _=>rfl
   |k _=>rfl
   |p _ _ _=>simp [PK.isP] at this
  ·have:=zzal100.1 this.2 b hb;simpa using this
 have y5t:C.outs f=[.bool]:=by
  have: ∀ ps:List PK,(∀ p∈ps,p.outs=[])→ps.flatMap PK.outs=[]:=fun ps h=>by
   induction ps with
   |nil=>rfl
   |cons p ps ih=>simp [oA,h p (by simp),ih (fun q hq=>h q (by simp [hq]))]
  simp [Ctx.outs,hsig,Sig.outs,this ps (fun p hp=>(yeE p hp).1)]
 have key: ∀ (ins outs:List Ty) (F:Elts ins→Option (Elts outs)) (hi:ins=ps.flatMap PK.ins) (ho:outs=[.bool]),(∀ x:Elts ins,Gb ins x→ ∃ y,F x=some y∧Hj outs y)→ ∃ x':Elts ins,RdE (heapOf W) ins x' (fun i=>vs[i]?)∧vs.length=ins.length∧ ∃ y,F x'=some y∧Hj outs y:=by intro ins outs F hi ho hp;subst hi ho;exact ⟨x,h1,h3,hp x h2⟩
 obtain ⟨x',hr,hl,y,hy,hty⟩:=key (C.ins f) (C.outs f) F hins y5t hpure;obtain ⟨bs,c1,c2⟩:=SE (w:=W) (C.ins f) (ps.flatMap PK.ownsIn) x' vs (fun b hb=>by obtain ⟨p,hp,hb⟩:=List.mem_flatMap.1 hb;exact (yeE p hp).2 b hb) hr hl;have hnl: ∀ k,¬ Lent bs [] k:=fun k hk=>by
  rcases hk with hk|⟨p,hp,_⟩
  ·exact c2 k hk
  ·simp at hp
 have hap:Apart bs:=by unfold Apart;exact List.Pairwise.imp_of_mem (R:=fun _ _=>True) (fun {b c} hb _ _ k hk=>absurd ⟨b,hb,hk⟩ (c2 k)) (List.pairwise_of_forall (fun _ _=>trivial))
 have hg:=hF ⟨ps,[⟨false,[.bool],o⟩],false,false⟩ x' y hsig hy W (heapOf W) args vs bs [] hgl (Hp.le.refl _) c1 hap h4 List.Pairwise.nil (fun k hk=>absurd hk (hnl k)) (by simp);have he:(callFunc f args.toArray).run P W= .ok (.enter f args.toArray) W:=by simp [callFunc,hfn,hn,hb]
 unfold Goes at hg;rw [Ut,he] at hg;refine Calls.mono hg fun e W' hv=> ?_;obtain ⟨v,rfl,H',vs',cs,rest,bs',hleft⟩:=hv;refine ⟨?_,hleft.os,hleft.tape,hleft.output,hleft.size,fun k hk=>hleft.old k hk (hnl k)⟩;have hcells:=hleft.cells;obtain ⟨nb,hra,_⟩:=hleft.res;obtain ⟨_,y3d,hvv⟩:nb=none∧SpreadR [⟨false,[.bool],o⟩] vs' cs rest∧v=resVal cs:=hra;have hval: ∀ (outs:List Ty) (ow:List Bool) (y:Elts outs),outs=[.bool]→Hj outs y→CellsR H' W' outs ow y vs' bs'→vs'=[.bool true]:=by
  intro outs ow y ho hty hc;subst ho;obtain ⟨v,b,rfl,_,hc⟩:=hc;have hy:y=true:=hty;subst hy;have:v= .bool true:=by cases ow.headD false<;>exact hc.2
  rw [this]
 have hvs:=hval _ _ y y5t hty hcells;obtain ⟨vs1,vs2,c,cs',e1,e2,e3,e4,e5⟩:=y3d;obtain ⟨rfl,_⟩:=e5;have e4':vs1=[c]:=e4;rw [hvs,e4'] at e1;have:c= .bool true:=by have:=congrArg List.head? e1;simpa using this.symm
 rw [hvv,e3,this];rfl
end
section
variable {P:Program} {C:Ctx}
def valV:(t:Ty)→El t→Value
 | .int k,n=> .int k n
 | .bool,b=> .bool b
 | .str,s=> .string s
 | .sl _ _,_=> .slice none 0 0
def flatV:(ts:List Ty)→Elts ts→List Value
 |[],_=>[]
 |t::[],x=>[valV t x]
 |t::u::r,x=>valV t x.1::flatV (u::r) x.2
theorem cellR_flat {H:Hp} {w:World} {t:Ty} (hf:t.flat=true) (own:Bool) (x:El t):CellR H w t own x (valV t x) (fun _=>False):=by
 cases t with
 |sl e ts=>simp [Ty.flat] at hf
 |int k=>cases own<;>exact ⟨rfl,rfl⟩
 |bool=>cases own<;>exact ⟨rfl,rfl⟩
 |str=>cases own<;>exact ⟨rfl,rfl⟩
theorem cellsR_flat {H:Hp} {w:World}: ∀ (ts:List Ty) (os:List Bool) (x:Elts ts),flats ts=true→ ∃ bs,CellsR H w ts os x (flatV ts x) bs∧ ∀ b∈bs,b=fun _=>False:=by
 intro ts;induction ts with
 |nil=>intro os x _;exact ⟨[],⟨rfl,rfl⟩,by simp⟩
 |cons t ts ih=>
  intro os x hf;simp only [flats,zzal10] at hf;cases ts with
  |nil=>exact ⟨[fun _=>False],⟨_,fun _=>False,rfl,rfl,cellR_flat hf.1 _ x⟩,by simp⟩
  |cons u r=>obtain ⟨bs,h1,h2⟩:=ih os.tail x.2 hf.2;exact ⟨(fun _=>False)::bs,⟨_,fun _=>False,_,bs,rfl,rfl,cellR_flat hf.1 _ x.1,h1⟩,by simpa using h2⟩
theorem headD_false {os:List Bool} (h: ∀ b∈os,b=false):os.headD false=false:=by
 cases os with
 |nil=>rfl
 |cons b os=>exact h b (by simp)
theorem cellsR_read {H:Hp} {w:World}: ∀ (ts:List Ty) (os:List Bool) (x:Elts ts) (vs:List Value) (bs:List (Nat→Prop)),(∀ b∈os,b=false)→CellsR H w ts os x vs bs→RdE H ts x (fun i=>vs[i]?)∧vs.length=ts.length∧ ∀ b∈bs,b=fun _=>False:=by
 have one: ∀ {t:Ty} {x:El t} {v:Value} {b:Nat→Prop},CellR H w t false x v b→RdT H t x v∧b=fun _=>False:=by intro t x v b h;cases t<;>exact ⟨h.2,h.1⟩
 intro ts;induction ts with
 |nil=>intro os x vs bs _ h;obtain ⟨rfl,rfl⟩:=h;exact ⟨trivial,rfl,by simp⟩
 |cons t ts ih=>
  intro os x vs bs ho h;cases ts with
  |nil=>obtain ⟨v,b,rfl,rfl,hc⟩:=h;rw [headD_false ho] at hc;obtain ⟨h1,rfl⟩:=one hc;exact ⟨⟨v,rfl,h1⟩,rfl,by simp⟩
  |cons u r=>obtain ⟨v,b,vs',bs',rfl,rfl,hc,hcs⟩:=h;rw [headD_false ho] at hc;obtain ⟨h1,rfl⟩:=one hc;obtain ⟨i1,i2,i3⟩:=ih os.tail x.2 vs' bs' (fun b hb=>ho b (List.mem_of_mem_tail hb)) hcs;exact ⟨⟨⟨v,rfl,h1⟩,i1⟩,by simp [i2],by simpa using i3⟩
def handP (ps:List PK):Bool:=ps.all fun p=> !p.isP&&p.ownsIn.all fun b=> !b
theorem spread_noP {w:World}: ∀ (ps:List PK) (args vs:List Value) (pb:List (Nat×Nat)),(∀ p∈ps,p.isP=false)→Spread w ps args vs pb→pb=[]:=by
 intro ps;induction ps with
 |nil=>intro args vs pb _ h;exact h.2.2
 |cons p ps ih=>
  intro args vs pb hp h;cases p with
  |v agg ts os=>obtain ⟨arg,vs1,args',vs',_,_,_,_,hs⟩:=h;exact ih args' vs' pb (fun q hq=>hp q (by simp [hq])) hs
  |k f=>obtain ⟨args',_,hs⟩:=h;exact ih args' vs pb (fun q hq=>hp q (by simp [hq])) hs
  |p wr ts os=>exact absurd (hp (.p wr ts os) (by simp)) (by simp [PK.isP])
theorem back_noP {w:World}: ∀ (ps:List PK),(∀ p∈ps,p.isP=false)→BackAt w ps [] []:=by
 intro ps;induction ps with
 |nil=>intro _;exact ⟨rfl,rfl⟩
 |cons p ps ih=>
  intro hp;cases p with
  |v agg ts os=>exact ih (fun q hq=>hp q (by simp [hq]))
  |k f=>exact ih (fun q hq=>hp q (by simp [hq]))
  |p wr ts os=>exact absurd (hp (.p wr ts os) (by simp)) (by simp [PK.isP])
theorem hand_core {ps:List PK} {rs:List RK} {ins outs:List Ty} {x:Elts ins} {y:Elts outs} {g:Nat} {fn:Func} (hps:handP ps=true) (hfl:flats outs=true) (hfn:P.funcs[g]? =some fn) (hn:fn.name≠ "runtime.NumGoroutine") (hb:fn.body≠none)
  {w:World} {H:Hp} {args vs:List Value} {bs:List (Nat→Prop)} {pb:List (Nat×Nat)} (hH:H.le (heapOf w)) (hc:CellsR H w ins (ps.flatMap PK.ownsIn) x vs bs) (hs:Spread w ps args vs pb)
  (hcall:RdE H ins x (fun i=>vs[i]?)→vs.length=ins.length→Spread w ps args vs []→Calls P g args.toArray w fun e w'=> ∃ cs,e= .returned (resVal cs)∧SpreadR rs (flatV outs y) cs []∧Below w.heap.size w w'):
  Goes P g args.toArray w fun v w'=> ∃ H' vs' cs rest bs',Left w (Lent bs pb) H ⟨ps,rs,false,false⟩ outs y pb v w' H' vs' cs rest bs':=by
 have hall: ∀ p∈ps,p.isP=false∧ ∀ b∈p.ownsIn,b=false:=fun p hp=>by have:=zzal100.1 hps p hp;simp only [zzal10,zzal45] at this;exact ⟨this.1,fun b hb=>by simpa using zzal100.1 this.2 b hb⟩
 obtain ⟨hr,hl,hbs⟩:=cellsR_read ins _ x vs bs (fun b hb=>by obtain ⟨p,hp,hb⟩:=List.mem_flatMap.1 hb;exact (hall p hp).2 b hb) hc;have hpb:=spread_noP ps args vs pb (fun p hp=>(hall p hp).1) hs;subst hpb;have hnl: ∀ k,¬ Lent bs [] k:=fun k hk=>by
  rcases hk with hk|⟨p,hp,_⟩
  ·obtain ⟨b,hb,hbk⟩:=hk;rw [hbs b hb] at hbk;exact hbk
  ·simp at hp
 refine goes_of_calls hfn hn hb ((hcall hr hl hs).mono fun e w' ⟨cs,he,hsp,hbel⟩=>⟨_,he,H,flatV outs y,cs,[],?_⟩);obtain ⟨bs',c1,c2⟩:=cellsR_flat (H:=H) (w:=w') outs (Sig.owns ⟨ps,rs,false,false⟩) y hfl;refine ⟨bs',hbel.os,hbel.tape,hbel.output,hbel.size,fun k hk _=>hbel.block k hk,fun k o hk=> ?_,fun k o hk=> .inl hk,c1,?_,fun k hk=>by obtain ⟨b,hb,hbk⟩:=hk;rw [c2 b hb] at hbk;exact hbk.elim,by simp,⟨none,⟨rfl,hsp,rfl⟩,fun k hk=>by cases hk⟩,back_noP ps fun p hp=>(hall p hp).1⟩
 ·have h1:=hH k o hk;have h2:k<w.heap.size:=(zzal39.1 h1).1;show w'.heap[k]? =_;rw [hbel.block k h2];exact h1
 ·unfold Apart;exact List.Pairwise.imp_of_mem (R:=fun _ _=>True) (fun {b c} hb _ _ k hk=>by rw [c2 b hb] at hk;exact hk.elim) (List.pairwise_of_forall (fun _ _=>trivial))
theorem var_up {W w:World} {n:String} {cs:Array Value} (h:W.var? P n=some cs) (hle:Hp.le (heapOf W) (heapOf w)):w.var? P n=some cs:=by
 unfold World.var? at h ⊢;cases hg:P.globalNamed n with
 |none=>simp [hg] at h
 |some g=>
  simp only [hg,zzal0] at h ⊢;cases ho:W.heap[g]? with
  |none=>simp [ho] at h
  |some o=>rw [show w.heap[g]? =some o from hle g o ho];rw [ho] at h;exact h
def cellsD:DataW Unit→Array Value
 | .agg l=>(l.map fun d=>match d with
  | .lit (.int k n)=>Value.int k n
  |_=>undef).toArray
 |_=> #[]
def setVar (w:World) (g:Nat) (cs:Array Value):World:= {w with heap:=w.heap.modify g fun o=>match o with
 | .cells _ t frozen=> .cells cs t frozen
 |o=>o}
end
inductive Pc where
 |v (n:Nat)
 |d (n:Nat)
 |g (n:Nat)
 |b (n:Nat)
 |o (n:Nat)
 |c (f b:Nat)
 |f (n:Nat)
 |s
 |p
def tkP:Nat→List (Sigma El)→List A→List A
 |0,_,t=>t
 |n+1,v::l,t=> .val v.1 v.2::tkP n l t
 |_+1,[],t=>t
def dpP:Nat→List (Sigma El)→List (Sigma El)
 |0,l=>l
 |n+1,_::l=>dpP n l
 |_+1,[]=>[]
def TU:List Pc→List (Sigma El)→List A
 |[],_=>[]
 | .v n::r,l=>tkP n l (TU r (dpP n l))
 | .d n::r,l=>dd n (TU r l)
 | .g n::r,l=> .agg (tkP n l [])::TU r (dpP n l)
 | .b n::r,l=> .box n 0::TU r l
 | .o n::r,l=> .own n::TU r l
 | .c f b::r,l=> .nc f b::TU r l
 | .f n::r,l=> .fn n::TU r l
 | .s::r,l=> .JX::TU r l
 | .p::r,l=> .aj::TU r l
def TV:List Pc→List (Sigma El)→List (Sigma El)
 |[],l=>l
 | .v n::r,l=>TV r (dpP n l)
 | .g n::r,l=>TV r (dpP n l)
 | .d _::r,l=>TV r l
 | .b _::r,l=>TV r l
 | .o _::r,l=>TV r l
 | .c _ _::r,l=>TV r l
 | .f _::r,l=>TV r l
 | .s::r,l=>TV r l
 | .p::r,l=>TV r l
def rtP (i:Nat):Sigma El→Nat×Ob
 |⟨.sl e ts,xs⟩=>(i,.root true e ts xs)
 |⟨.str,_⟩=>(i,.gone)
 |⟨.bool,_⟩=>(i,.gone)
 |⟨.int _,_⟩=>(i,.gone)
def obP:List (Nat×List Pc)→List (Sigma El)→List (Nat×Ob)
 |[],_=>[]
 |(i,[])::r,v::l=>rtP i v::obP r l
 |(_,[])::_,[]=>[]
 |(i,c::d)::r,l=>(i,.box (TU (c::d) l))::obP r (TV (c::d) l)
def stP (ts:List Ty) (c:List Pc) (o:List (Nat×List Pc)) (x:Elts ts):St:=⟨TU c (toL ts x),obP o (TV c (toL ts x))⟩
def zM {R:Type} (κ:Kk R) (e:Option Nat) (ts:List Ty) (c:List Pc) (o:List (Nat×List Pc)):Elts ts→Option R:=fun x=>κ e (stP ts c o x)
abbrev nd {α:Type} (a:α) {b:α} (_:a=b:=by conv=>lhs;dsimp only [zM,stP,TU,obP,TV,rtP,tkP,dpP,toL]):α:=b
section
section
variable {α β:Type}
variable {A0 A1 A2 A3 A4 A5 A6 A7 A8 A9 oy uj Cp F0 Mf SL XL A17 A18 A19 A20 A21 A22 A23 A24 A25 A26:Type}
def Prod.b (x:A0×A1×A2):=x.2.1
def Prod.c (x:A0×A1×A2×A3):=x.2.2.1
def Prod.d (x:A0×A1×A2×A3×A4):=x.2.2.2.1
def Prod.e (x:A0×A1×A2×A3×A4×A5):=x.2.2.2.2.1
def Prod.f (x:A0×A1×A2×A3×A4×A5×A6):=x.2.2.2.2.2.1
def Prod.g (x:A0×A1×A2×A3×A4×A5×A6×A7):=x.2.2.2.2.2.2.1
def Prod.h (x:A0×A1×A2×A3×A4×A5×A6×A7×A8):=x.2.2.2.2.2.2.2.1
def Prod.i (x:A0×A1×A2×A3×A4×A5×A6×A7×A8×A9):=x.2.2.2.2.2.2.2.2.1
def Prod.j (x:A0×A1×A2×A3×A4×A5×A6×A7×A8×A9×oy):=x.2.2.2.2.2.2.2.2.2.1
def Prod.k (x:A0×A1×A2×A3×A4×A5×A6×A7×A8×A9×oy×uj):=x.2.2.2.2.2.2.2.2.2.2.1
def Prod.l (x:A0×A1×A2×A3×A4×A5×A6×A7×A8×A9×oy×uj×Cp):=x.2.2.2.2.2.2.2.2.2.2.2.1
def Prod.m (x:A0×A1×A2×A3×A4×A5×A6×A7×A8×A9×oy×uj×Cp×F0):=x.2.2.2.2.2.2.2.2.2.2.2.2.1
def Prod.n (x:A0×A1×A2×A3×A4×A5×A6×A7×A8×A9×oy×uj×Cp×F0×Mf):=x.2.2.2.2.2.2.2.2.2.2.2.2.2.1
def Prod.o (x:A0×A1×A2×A3×A4×A5×A6×A7×A8×A9×oy×uj×Cp×F0×Mf×SL):=x.2.2.2.2.2.2.2.2.2.2.2.2.2.2.1
def Prod.p (x:A0×A1×A2×A3×A4×A5×A6×A7×A8×A9×oy×uj×Cp×F0×Mf×SL×XL):=x.2.2.2.2.2.2.2.2.2.2.2.2.2.2.2.1
def Prod.q (x:A0×A1×A2×A3×A4×A5×A6×A7×A8×A9×oy×uj×Cp×F0×Mf×SL×XL×A17):=x.2.2.2.2.2.2.2.2.2.2.2.2.2.2.2.2.1
def Prod.r (x:A0×A1×A2×A3×A4×A5×A6×A7×A8×A9×oy×uj×Cp×F0×Mf×SL×XL×A17×A18):=x.2.2.2.2.2.2.2.2.2.2.2.2.2.2.2.2.2.1
def Prod.s (x:A0×A1×A2×A3×A4×A5×A6×A7×A8×A9×oy×uj×Cp×F0×Mf×SL×XL×A17×A18×A19):=x.2.2.2.2.2.2.2.2.2.2.2.2.2.2.2.2.2.2.1
def Prod.t (x:A0×A1×A2×A3×A4×A5×A6×A7×A8×A9×oy×uj×Cp×F0×Mf×SL×XL×A17×A18×A19×A20):=x.2.2.2.2.2.2.2.2.2.2.2.2.2.2.2.2.2.2.2.1
def Prod.u (x:A0×A1×A2×A3×A4×A5×A6×A7×A8×A9×oy×uj×Cp×F0×Mf×SL×XL×A17×A18×A19×A20×A21):=x.2.2.2.2.2.2.2.2.2.2.2.2.2.2.2.2.2.2.2.2.1
def Prod.v (x:A0×A1×A2×A3×A4×A5×A6×A7×A8×A9×oy×uj×Cp×F0×Mf×SL×XL×A17×A18×A19×A20×A21×A22):=x.2.2.2.2.2.2.2.2.2.2.2.2.2.2.2.2.2.2.2.2.2.1
def Prod.C (x:A0×A1×A2):=x.2.2
def Prod.D (x:A0×A1×A2×A3):=x.2.2.2
def Prod.E (x:A0×A1×A2×A3×A4):=x.2.2.2.2
def Prod.F (x:A0×A1×A2×A3×A4×A5):=x.2.2.2.2.2
def Prod.G (x:A0×A1×A2×A3×A4×A5×A6):=x.2.2.2.2.2.2
def Prod.H (x:A0×A1×A2×A3×A4×A5×A6×A7):=x.2.2.2.2.2.2.2
def Prod.I (x:A0×A1×A2×A3×A4×A5×A6×A7×A8):=x.2.2.2.2.2.2.2.2
def Prod.J (x:A0×A1×A2×A3×A4×A5×A6×A7×A8×A9):=x.2.2.2.2.2.2.2.2.2
def Prod.K (x:A0×A1×A2×A3×A4×A5×A6×A7×A8×A9×oy):=x.2.2.2.2.2.2.2.2.2.2
def Prod.L (x:A0×A1×A2×A3×A4×A5×A6×A7×A8×A9×oy×uj):=x.2.2.2.2.2.2.2.2.2.2.2
def Prod.M (x:A0×A1×A2×A3×A4×A5×A6×A7×A8×A9×oy×uj×Cp):=x.2.2.2.2.2.2.2.2.2.2.2.2
def Prod.N (x:A0×A1×A2×A3×A4×A5×A6×A7×A8×A9×oy×uj×Cp×F0):=x.2.2.2.2.2.2.2.2.2.2.2.2.2
def Prod.O (x:A0×A1×A2×A3×A4×A5×A6×A7×A8×A9×oy×uj×Cp×F0×Mf):=x.2.2.2.2.2.2.2.2.2.2.2.2.2.2
def Prod.P (x:A0×A1×A2×A3×A4×A5×A6×A7×A8×A9×oy×uj×Cp×F0×Mf×SL):=x.2.2.2.2.2.2.2.2.2.2.2.2.2.2.2
def Prod.Q (x:A0×A1×A2×A3×A4×A5×A6×A7×A8×A9×oy×uj×Cp×F0×Mf×SL×XL):=x.2.2.2.2.2.2.2.2.2.2.2.2.2.2.2.2
def Prod.R (x:A0×A1×A2×A3×A4×A5×A6×A7×A8×A9×oy×uj×Cp×F0×Mf×SL×XL×A17):=x.2.2.2.2.2.2.2.2.2.2.2.2.2.2.2.2.2
def Prod.V (x:A0×A1×A2×A3×A4×A5×A6×A7×A8×A9×oy×uj×Cp×F0×Mf×SL×XL×A17×A18×A19×A20×A21):=x.2.2.2.2.2.2.2.2.2.2.2.2.2.2.2.2.2.2.2.2.2
def Prod.W (x:A0×A1×A2×A3×A4×A5×A6×A7×A8×A9×oy×uj×Cp×F0×Mf×SL×XL×A17×A18×A19×A20×A21×A22):=x.2.2.2.2.2.2.2.2.2.2.2.2.2.2.2.2.2.2.2.2.2.2
def wX (x:A0×A1×A2×A3) (y:β):=(x.1,x.2.1,x.2.2.1,y)
def kl (x:A0×A1×A2):=(x.1,x.2.1,x.2.2)
def Y9 (x:A0×A1×A2) (y:β):=(x.1,x.2.1,x.2.2,y)
def fX (x:A0×A1×A2×A3×A4) (y:β):=(x.1,x.2.1,x.2.2.1,x.2.2.2.1,y)
def oa (x:A0×A1×A2×A3):=(x.1,x.2.1,x.2.2.1,x.2.2.2)
def mH (x:A0×A1×A2×A3) (y:β):=(x.1,x.2.1,x.2.2.1,x.2.2.2,y)
def Pb (x:A0×A1×A2×A3×A4×A5) (y:β):=(x.1,x.2.1,x.2.2.1,x.2.2.2.1,x.2.2.2.2.1,y)
def gD (x:A0×A1×A2×A3×A4):=(x.1,x.2.1,x.2.2.1,x.2.2.2.1,x.2.2.2.2)
def uk (x:A0×A1×A2×A3×A4) (y:β):=(x.1,x.2.1,x.2.2.1,x.2.2.2.1,x.2.2.2.2,y)
def Vn (x:A0×A1×A2×A3×A4×A5×A6) (y:β):=(x.1,x.2.1,x.2.2.1,x.2.2.2.1,x.2.2.2.2.1,x.2.2.2.2.2.1,y)
def Dx (x:A0×A1×A2×A3×A4×A5):=(x.1,x.2.1,x.2.2.1,x.2.2.2.1,x.2.2.2.2.1,x.2.2.2.2.2)
def aN (x:A0×A1×A2×A3×A4×A5) (y:β):=(x.1,x.2.1,x.2.2.1,x.2.2.2.1,x.2.2.2.2.1,x.2.2.2.2.2,y)
def zT7 (x:A0×A1×A2×A3×A4×A5×A6×A7) (y:β):=(x.1,x.2.1,x.2.2.1,x.2.2.2.1,x.2.2.2.2.1,x.2.2.2.2.2.1,x.2.2.2.2.2.2.1,y)
def Pf (x:A0×A1×A2×A3×A4×A5×A6):=(x.1,x.2.1,x.2.2.1,x.2.2.2.1,x.2.2.2.2.1,x.2.2.2.2.2.1,x.2.2.2.2.2.2)
def zT8 (x:A0×A1×A2×A3×A4×A5×A6×A7×A8) (y:β):=(x.1,x.2.1,x.2.2.1,x.2.2.2.1,x.2.2.2.2.1,x.2.2.2.2.2.1,x.2.2.2.2.2.2.1,x.2.2.2.2.2.2.2.1,y)
def zF8 (x:A0×A1×A2×A3×A4×A5×A6×A7):=(x.1,x.2.1,x.2.2.1,x.2.2.2.1,x.2.2.2.2.1,x.2.2.2.2.2.1,x.2.2.2.2.2.2.1,x.2.2.2.2.2.2.2)
def zG8 (x:A0×A1×A2×A3×A4×A5×A6×A7) (y:β):=(x.1,x.2.1,x.2.2.1,x.2.2.2.1,x.2.2.2.2.1,x.2.2.2.2.2.1,x.2.2.2.2.2.2.1,x.2.2.2.2.2.2.2,y)
def zT9 (x:A0×A1×A2×A3×A4×A5×A6×A7×A8×A9) (y:β):=(x.1,x.2.1,x.2.2.1,x.2.2.2.1,x.2.2.2.2.1,x.2.2.2.2.2.1,x.2.2.2.2.2.2.1,x.2.2.2.2.2.2.2.1,x.2.2.2.2.2.2.2.2.1,y)
def zF9 (x:A0×A1×A2×A3×A4×A5×A6×A7×A8):=(x.1,x.2.1,x.2.2.1,x.2.2.2.1,x.2.2.2.2.1,x.2.2.2.2.2.1,x.2.2.2.2.2.2.1,x.2.2.2.2.2.2.2.1,x.2.2.2.2.2.2.2.2)
def zG9 (x:A0×A1×A2×A3×A4×A5×A6×A7×A8) (y:β):=(x.1,x.2.1,x.2.2.1,x.2.2.2.1,x.2.2.2.2.1,x.2.2.2.2.2.1,x.2.2.2.2.2.2.1,x.2.2.2.2.2.2.2.1,x.2.2.2.2.2.2.2.2,y)
def yhP (x:A0×A1×A2×A3×A4×A5×A6×A7×A8×A9×oy) (y:β):=(x.1,x.2.1,x.2.2.1,x.2.2.2.1,x.2.2.2.2.1,x.2.2.2.2.2.1,x.2.2.2.2.2.2.1,x.2.2.2.2.2.2.2.1,x.2.2.2.2.2.2.2.2.1,x.2.2.2.2.2.2.2.2.2.1,y)
def ycl (x:A0×A1×A2×A3×A4×A5×A6×A7×A8×A9):=(x.1,x.2.1,x.2.2.1,x.2.2.2.1,x.2.2.2.2.1,x.2.2.2.2.2.1,x.2.2.2.2.2.2.1,x.2.2.2.2.2.2.2.1,x.2.2.2.2.2.2.2.2.1,x.2.2.2.2.2.2.2.2.2)
def SM (x:A0×A1×A2×A3×A4×A5×A6×A7×A8×A9×oy×uj) (y:β):=(x.1,x.2.1,x.2.2.1,x.2.2.2.1,x.2.2.2.2.1,x.2.2.2.2.2.1,x.2.2.2.2.2.2.1,x.2.2.2.2.2.2.2.1,x.2.2.2.2.2.2.2.2.1,x.2.2.2.2.2.2.2.2.2.1,x.2.2.2.2.2.2.2.2.2.2.1,y)
def XM (x:A0×A1×A2×A3×A4×A5×A6×A7×A8×A9×oy):=(x.1,x.2.1,x.2.2.1,x.2.2.2.1,x.2.2.2.2.1,x.2.2.2.2.2.1,x.2.2.2.2.2.2.1,x.2.2.2.2.2.2.2.1,x.2.2.2.2.2.2.2.2.1,x.2.2.2.2.2.2.2.2.2.1,x.2.2.2.2.2.2.2.2.2.2)
def SN (x:A0×A1×A2×A3×A4×A5×A6×A7×A8×A9×oy) (y:β):=(x.1,x.2.1,x.2.2.1,x.2.2.2.1,x.2.2.2.2.1,x.2.2.2.2.2.1,x.2.2.2.2.2.2.1,x.2.2.2.2.2.2.2.1,x.2.2.2.2.2.2.2.2.1,x.2.2.2.2.2.2.2.2.2.1,x.2.2.2.2.2.2.2.2.2.2,y)
def ul (x:A0×A1×A2×A3×A4×A5×A6×A7×A8×A9×oy×uj×Cp) (y:β):=(x.1,x.2.1,x.2.2.1,x.2.2.2.1,x.2.2.2.2.1,x.2.2.2.2.2.1,x.2.2.2.2.2.2.1,x.2.2.2.2.2.2.2.1,x.2.2.2.2.2.2.2.2.1,x.2.2.2.2.2.2.2.2.2.1,x.2.2.2.2.2.2.2.2.2.2.1,x.2.2.2.2.2.2.2.2.2.2.2.1,x.2.2.2.2.2.2.2.2.2.2.2.2,y)
def XN (x:A0×A1×A2×A3×A4×A5×A6×A7×A8×A9×oy×uj×Cp×F0):=(x.1,x.2.1,x.2.2.1,x.2.2.2.1,x.2.2.2.2.1,x.2.2.2.2.2.1,x.2.2.2.2.2.2.1,x.2.2.2.2.2.2.2.1,x.2.2.2.2.2.2.2.2.1,x.2.2.2.2.2.2.2.2.2.1,x.2.2.2.2.2.2.2.2.2.2.1,x.2.2.2.2.2.2.2.2.2.2.2.1,x.2.2.2.2.2.2.2.2.2.2.2.2.1,x.2.2.2.2.2.2.2.2.2.2.2.2.2)
def XO (x:A0×A1×A2×A3×A4×A5×A6×A7×A8×A9×oy×uj×Cp×F0×Mf):=(x.1,x.2.1,x.2.2.1,x.2.2.2.1,x.2.2.2.2.1,x.2.2.2.2.2.1,x.2.2.2.2.2.2.1,x.2.2.2.2.2.2.2.1,x.2.2.2.2.2.2.2.2.1,x.2.2.2.2.2.2.2.2.2.1,x.2.2.2.2.2.2.2.2.2.2.1,x.2.2.2.2.2.2.2.2.2.2.2.1,x.2.2.2.2.2.2.2.2.2.2.2.2.1,x.2.2.2.2.2.2.2.2.2.2.2.2.2.1,x.2.2.2.2.2.2.2.2.2.2.2.2.2.2)
def List.z (x:List α):Int:=(List.length x:Int)
def ye (a:Option α) (f:α→Option β):=Option.bind a f
def yh (a:α):=some a
def zw (c:Bool) (a b:α):=bif c then a else b
def z6 (x:List α) (i:Int) (k:Option β):Option β:=if (0:Int)≤i then if i<(List.length x:Int) then k else none else none
def oc (l h n:Int) (k:Option β):Option β:=if (0:Int)≤l then if l≤h then if h≤n then k else none else none else none
def YS (x y:List α) (n:Nat) (k:Option β):Option β:=if (List.length x+List.length y)*n<140737488355328 then k else none
def Z0 (x y:Int) (a b:α):=bif (decide (x<y)) then a else b
def zle (x y:Int) (a b:α):=bif (decide (x≤y)) then a else b
def nC (x y:Int) (a b:α):=bif (decide (x>y)) then a else b
def zge (x y:Int) (a b:α):=bif (decide (x≥y)) then a else b
def ZE (x y:Int) (a b:α):=bif (x==y) then a else b
def Mg (x y:Int) (a b:α):=bif (x !=y) then a else b
def zOr (c d:Bool):=bif c then some true else some d
def zOm (c:Bool) (m:Option Bool):=bif c then some true else m
def KA (c d:Bool) (k:Bool→Option β):=Option.bind (bif c then some d else some false) k
def dO (c d:Bool) (k:Bool→Option β):=Option.bind (bif c then some true else some d) k
def WM (c:Bool) (m:Option Bool) (k:Bool→Option β):=Option.bind (bif c then m else some false) k
def wM (c:Bool) (m:Option Bool) (k:Bool→Option β):=Option.bind (bif c then some true else m) k
def fY (x:Int):=Go.IntKind.wrap .i64 x
def JP (x y:Int):=Go.IntKind.wrap .i64 (x+y)
def zsb (x y:Int):=Go.IntKind.wrap .i64 (x - y)
def dP (x y:Int):=Go.IntKind.wrap .i64 (x*y)
def zh (x:Int):=Go.IntKind.wrap .i64 (x+(1:Int))
def jE (x:Int):=Go.IntKind.wrap .i64 (x - (1:Int))
def lh (x:List α) (i:Int) (v:α):=List.set x (Int.toNat i) v
def aD (x:List α) (l h:Int):=List.drop (Int.toNat l) (List.take (Int.toNat h) x)
end
abbrev nz {α:Type} (a:α) {b:α} (_:a=b:=by conv=>lhs;try delta Prod.b Prod.c Prod.d Prod.e Prod.f Prod.g Prod.h Prod.i Prod.j Prod.k Prod.l Prod.m Prod.n Prod.o Prod.p Prod.q Prod.r Prod.s Prod.t Prod.u Prod.v Prod.C Prod.D Prod.E Prod.F Prod.G Prod.H Prod.I Prod.J Prod.K Prod.L Prod.M Prod.N Prod.O Prod.P Prod.Q Prod.R Prod.V Prod.W wX kl Y9 fX oa mH Pb gD uk Vn Dx aN zT7 Pf zT8 zF8 zG8 zT9 zF9 zG9 yhP ycl SM XM SN ul XN XO List.z ye yh zw z6 oc YS Z0 zle nC zge ZE Mg zOr zOm KA dO WM wM fY JP zsb dP zh jE lh aD):α:=b
end
end Go.Proofs.YtekbnpmmjciloaaGreat.R
